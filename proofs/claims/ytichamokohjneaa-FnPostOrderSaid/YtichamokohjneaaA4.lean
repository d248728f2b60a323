/- The walks and the plain laws, part 4: each function that the law reaches computes what its plain function tells, and what the plain functions answer. Conditions: lengths that memory can hold. -/
import Derived.Test.YtichamokohjneaaA3
namespace Go.Proofs.Ytichamokohjneaa
open Go Go.Sx
theorem c_impl_indexOf {r : Index} (v0 : (List (List Tag))) (x_v0 : Option Addr × Nat) (H : p_impl_indexOf v0 = some r) : Fn' Try.prog 65 #[.slice x_v0.1 v0.length x_v0.2] [imm (.slice x_v0.1 v0.length x_v0.2) v0] [] (ι := (Option Addr × Nat) × (Option Addr × Nat)) (fun x => .agg #[.slice x.1.1 r.1.length x.1.2, .slice x.2.1 r.2.length x.2.2]) (fun _ => []) (fun x => [tree (.slice x.1.1 r.1.length x.1.2) r.1, tree (.slice x.2.1 r.2.length x.2.2) r.2]) := by
 refine calls_of (args := [_]) Try.func65 rfl (by kernel_rfl) Try.ntmps65 (by simp) fun c => ?_
 unfold p_impl_indexOf at H
 refine Tr.openD Ent.z fun X1 => ?_
 refine Tr.seq (Tr.region ?_)
 refine Rg.ed (e_alloc ty26) rfl (by decide) ?_
 rintro _ _ _ ⟨g2, rfl, rfl, rfl⟩
 refine Rg.nl (nT ?_)
 refine Tr.seq (Tr.region ?_)
 refine Rg.q (v := .slice x_v0.1 v0.length x_v0.2) (Pu.qo (p_move rfl)) (by decide) ?_
 obtain ⟨r3, h4, H⟩ := bd.of H
 refine Rg.ed (e_callB (vs := [.slice x_v0.1 v0.length x_v0.2]) (c_impl_cloneNames v0 x_v0 h4) (fun _ => (Solo.tree Solo.nil)) rfl (EntsB.cons (Ent.b (Ent.dimm Ent.z)) EntsB.nil)) rfl (by decide) ?_
 rintro _ _ _ ⟨x5, rfl, rfl, rfl⟩
 refine Rg.ed (e_lit0 Post Try.underlying24 ty33) rfl (by decide) ?_
 rintro _ _ _ ⟨a6, c7, rfl, rfl, rfl⟩
 refine Rg.q (v := .agg #[.slice x5.1 r3.length x5.2, .slice a6 (([] : List Post).length) c7]) (Pu.qo (p_buildS (vs := [(0, .slice x5.1 r3.length x5.2), (1, .slice a6 (([] : List Post).length) c7)]) (cs := #[.slice x5.1 r3.length x5.2, .slice a6 (([] : List Post).length) c7]) ty26 pl26 rfl rfl)) (by decide) ?_
 refine Rg.ed (e_alloc ty26) rfl (by decide) ?_
 rintro _ _ _ ⟨g8, rfl, rfl, rfl⟩
 refine Rg.en (e_store (v := .agg #[.slice x5.1 r3.length x5.2, .slice a6 (([] : List Post).length) c7]) (cs' := [.slice x5.1 r3.length x5.2, .slice a6 (([] : List Post).length) c7]) ty26 rfl rfl Upd.here rfl (by simp [Value.cells, Value.oneCell']) (Nat.le_of_ble_eq_true rfl) rfl) rfl ?_
 rintro _ _ _ ⟨rfl, rfl, rfl⟩
 refine Rg.nl (nT ?_)
 refine Tr.seq (Tr.seq (Tr.region ?_))
 refine Rg.q (v := .slice x_v0.1 v0.length x_v0.2) (Pu.qo (p_move rfl)) (by decide) ?_
 refine Rg.q (v := .int .i64 ((v0.length : Int))) (Pu.qo (p_len 38 Try.underlying23 rfl)) (by decide) ?_
 refine Rg.q (v := .int .i64 (0)) (Pu.qo (p_move rfl)) (by decide) (Rg.nl (nT ?_))
 obtain ⟨x9, hx10, H⟩ := bd.of H
 obtain ⟨n11, hx10⟩ := lp.of hx10
 refine tMidNC (ι := Option Addr × Nat) (fun ψ => [(2, .pointer (some ⟨g2, 0, none⟩)), (3, .pointer (some ⟨g8, 0, none⟩))]) (fun ψ => [box g2 26 [.slice none 0 0, .slice none 0 0], tree (.slice x5.1 r3.length x5.2) r3, tree (.slice ψ.1 x9.length ψ.2) x9, box g8 26 [.slice x5.1 r3.length x5.2, .slice ψ.1 x9.length ψ.2]]) ?_ ?_
 ·refine Tr.block ?_
  refine tLoopC (ι := { q : Nat × ((List Post) × Int) × (Option Addr × Nat) // itr (p_impl_indexOf_b0 v0) q.1 q.2.1 = some x9 }) (fun ζ => [(2, .pointer (some ⟨g2, 0, none⟩)), (3, .pointer (some ⟨g8, 0, none⟩)), (13, .slice x_v0.1 v0.length x_v0.2), (14, .int .i64 ((v0.length : Int))), (15, .int .i64 (ζ.1.2.1.2))]) (fun ζ => [box g2 26 [.slice none 0 0, .slice none 0 0], tree (.slice x5.1 r3.length x5.2) r3, tree (.slice ζ.1.2.2.1 ζ.1.2.1.1.length ζ.1.2.2.2) ζ.1.2.1.1, box g8 26 [.slice x5.1 r3.length x5.2, .slice ζ.1.2.2.1 ζ.1.2.1.1.length ζ.1.2.2.2]]) (fun ζ => ζ.1.1) ⟨(n11, (([] : List Post), 0), (a6, c7)), hx10⟩ ⟨rfl, rfl, rfl, rfl, rfl, trivial⟩ (.cons Del.here.there.there.there (.cons Del.here.there.there (.cons Del.here.there (.cons Del.here .nil)))) ?_
  rintro ⟨⟨m12, Q13, z14⟩, hk19⟩
  obtain ⟨m20, t16, e, H1, hi17, hb18⟩ := itr.of (n := m12) (s := Q13) hk19
  subst e; unfold p_impl_indexOf_b0 at H1
  show Tr _ _ _ _ _ [(2, .pointer (some ⟨g2, 0, none⟩)), (3, .pointer (some ⟨g8, 0, none⟩)), (13, .slice x_v0.1 v0.length x_v0.2), (14, .int .i64 ((v0.length : Int))), (15, .int .i64 (Q13.2))] _ [box g2 26 [.slice none 0 0, .slice none 0 0], tree (.slice x5.1 r3.length x5.2) r3, tree (.slice z14.1 Q13.1.length z14.2) Q13.1, box g8 26 [.slice x5.1 r3.length x5.2, .slice z14.1 Q13.1.length z14.2]]
  refine Tr.seq (Tr.region ?_)
  refine Rg.q (v := .bool (decide (Q13.2 < (v0.length : Int)))) (Pu.qo (p_lss rfl rfl)) (by decide) (Rg.nl (nT ?_))
  refine Tr.seq ?_
  refine Tr.cond (b := decide (Q13.2 < (v0.length : Int))) rfl (fun h21 => ?_) (fun h21 => ?_)
  ·have H1 := cdT h21 H1
   refine tSkip ?_
   refine nT (Tr.seq ?_)
   refine Tr.block ?_
   refine Tr.seq (Tr.region ?_)
   refine Rg.q (v := .int .i64 (Q13.2)) (Pu.qo (p_move rfl)) (by decide) ?_
   obtain ⟨h22, H1⟩ := gd.of H1
   refine Rg.q (v := elp x_v0.1 (Q13.2.toNat * Enc.sz (List Tag) + 0)) (q_ixg (l := v0) (E := fun i => Dp.denc (nth v0 i) (X1 i)) (oa := x_v0.1) Try.underlying23 ty38 rfl rfl h22 rfl (Ent.b (Ent.darr Ent.z))) (by decide) ?_
   refine Rg.q (v := .slice ((X1 Q13.2.toNat).1) ((nth v0 Q13.2.toNat).length) ((X1 Q13.2.toNat).2.1)) (q_lde (l := v0) (E := fun i => Dp.denc (nth v0 i) (X1 i)) (oa := x_v0.1) (i := Q13.2.toNat) (j := 0) ty38 rfl (Ent.b (Ent.darr Ent.z)) h22.lt rfl) (by decide) ?_
   refine Rg.q (v := .int .i64 (Q13.2)) (Pu.qo (p_assign rfl)) (by decide) ?_
   refine Rg.q (v := .slice ((X1 Q13.2.toNat).1) ((nth v0 Q13.2.toNat).length) ((X1 Q13.2.toNat).2.1)) (Pu.qo (p_assign rfl)) (by decide) (Rg.nl (nT ?_))
   refine Tr.seq (Tr.region ?_)
   refine Rg.q (v := .slice ((X1 Q13.2.toNat).1) ((nth v0 Q13.2.toNat).length) ((X1 Q13.2.toNat).2.1)) (Pu.qo (p_move rfl)) (by decide) ?_
   refine Rg.q (v := .int .i64 (((nth v0 Q13.2.toNat).length : Int))) (Pu.qo (p_len 30 Try.underlying38 rfl)) (by decide) ?_
   refine Rg.q (v := .int .i64 (0)) (Pu.qo (p_move rfl)) (by decide) (Rg.nl (nT ?_))
   obtain ⟨x23, hx24, H1⟩ := bd.of H1
   obtain ⟨n25, hx24⟩ := lp.of hx24
   refine tMidNC (ι := Option Addr × Nat) (fun ψ => [(2, .pointer (some ⟨g2, 0, none⟩)), (3, .pointer (some ⟨g8, 0, none⟩)), (13, .slice x_v0.1 v0.length x_v0.2), (14, .int .i64 ((v0.length : Int))), (15, .int .i64 (Q13.2))]) (fun ψ => [box g2 26 [.slice none 0 0, .slice none 0 0], tree (.slice x5.1 r3.length x5.2) r3, tree (.slice ψ.1 x23.length ψ.2) x23, box g8 26 [.slice x5.1 r3.length x5.2, .slice ψ.1 x23.length ψ.2]]) ?_ ?_
   ·refine Tr.block ?_
    refine tLoopC (ι := { q : Nat × ((List Post) × Int) × (Option Addr × Nat) // itr (p_impl_indexOf_b1 v0 Q13) q.1 q.2.1 = some x23 }) (fun ζ => [(2, .pointer (some ⟨g2, 0, none⟩)), (3, .pointer (some ⟨g8, 0, none⟩)), (4, .int .i64 (Q13.2)), (13, .slice x_v0.1 v0.length x_v0.2), (14, .int .i64 ((v0.length : Int))), (15, .int .i64 (Q13.2)), (20, .slice ((X1 Q13.2.toNat).1) ((nth v0 Q13.2.toNat).length) ((X1 Q13.2.toNat).2.1)), (21, .int .i64 (((nth v0 Q13.2.toNat).length : Int))), (22, .int .i64 (ζ.1.2.1.2))]) (fun ζ => [box g2 26 [.slice none 0 0, .slice none 0 0], tree (.slice x5.1 r3.length x5.2) r3, tree (.slice ζ.1.2.2.1 ζ.1.2.1.1.length ζ.1.2.2.2) ζ.1.2.1.1, box g8 26 [.slice x5.1 r3.length x5.2, .slice ζ.1.2.2.1 ζ.1.2.1.1.length ζ.1.2.2.2]]) (fun ζ => ζ.1.1) ⟨(n25, (Q13.1, 0), (z14.1, z14.2)), hx24⟩ ⟨rfl, rfl, rfl, rfl, rfl, rfl, rfl, rfl, rfl, trivial⟩ (.cons Del.here (.cons Del.here (.cons Del.here (.cons Del.here .nil)))) ?_
    rintro ⟨⟨m26, Q27, z28⟩, hk33⟩
    obtain ⟨m34, t30, e, H2, hi31, hb32⟩ := itr.of (n := m26) (s := Q27) hk33
    subst e; unfold p_impl_indexOf_b1 at H2
    show Tr _ _ _ _ _ [(2, .pointer (some ⟨g2, 0, none⟩)), (3, .pointer (some ⟨g8, 0, none⟩)), (4, .int .i64 (Q13.2)), (13, .slice x_v0.1 v0.length x_v0.2), (14, .int .i64 ((v0.length : Int))), (15, .int .i64 (Q13.2)), (20, .slice ((X1 Q13.2.toNat).1) ((nth v0 Q13.2.toNat).length) ((X1 Q13.2.toNat).2.1)), (21, .int .i64 (((nth v0 Q13.2.toNat).length : Int))), (22, .int .i64 (Q27.2))] _ [box g2 26 [.slice none 0 0, .slice none 0 0], tree (.slice x5.1 r3.length x5.2) r3, tree (.slice z28.1 Q27.1.length z28.2) Q27.1, box g8 26 [.slice x5.1 r3.length x5.2, .slice z28.1 Q27.1.length z28.2]]
    refine Tr.seq (Tr.region ?_)
    refine Rg.q (v := .bool (decide (Q27.2 < ((nth v0 Q13.2.toNat).length : Int)))) (Pu.qo (p_lss rfl rfl)) (by decide) (Rg.nl (nT ?_))
    refine Tr.seq ?_
    refine Tr.cond (b := decide (Q27.2 < ((nth v0 Q13.2.toNat).length : Int))) rfl (fun h35 => ?_) (fun h35 => ?_)
    ·have H2 := cdT h35 H2
     refine tSkip ?_
     refine nT (Tr.seq ?_)
     refine Tr.block ?_
     refine Tr.seq (Tr.region ?_)
     obtain ⟨h36, H2⟩ := gd.of H2
     refine Rg.q (v := elp ((X1 Q13.2.toNat).1) (Q27.2.toNat * Enc.sz Tag + 0)) (q_ixg (l := nth v0 Q13.2.toNat) (E := fun i => Flat.enc (nth (nth v0 Q13.2.toNat) i)) (oa := (X1 Q13.2.toNat).1) Try.underlying38 ty30 rfl rfl h36 rfl (EntB.flat (Ent.b (Ent.dimm (Ent.del Ent.z h22.lt))))) (by decide) ?_
     refine Rg.q (v := .agg #[.string ((nth (nth v0 Q13.2.toNat) Q27.2.toNat).1), .string ((nth (nth v0 Q13.2.toNat) Q27.2.toNat).2)]) (q_ldeA (l := nth v0 Q13.2.toNat) (E := fun i => Flat.enc (nth (nth v0 Q13.2.toNat) i)) (oa := (X1 Q13.2.toNat).1) (i := Q27.2.toNat) ty30 rfl (EntB.flat (Ent.b (Ent.dimm (Ent.del Ent.z h22.lt)))) h36.lt) (by decide) ?_
     refine Rg.ed (e_alloc ty30) rfl (by decide) ?_
     rintro _ _ _ ⟨g37, rfl, rfl, rfl⟩
     refine Rg.en (e_store (v := .agg #[.string ((nth (nth v0 Q13.2.toNat) Q27.2.toNat).1), .string ((nth (nth v0 Q13.2.toNat) Q27.2.toNat).2)]) (cs' := [.string ((nth (nth v0 Q13.2.toNat) Q27.2.toNat).1), .string ((nth (nth v0 Q13.2.toNat) Q27.2.toNat).2)]) ty30 rfl rfl Upd.here rfl (by simp [Value.cells, Value.oneCell']) (Nat.le_of_ble_eq_true rfl) rfl) rfl ?_
     rintro _ _ _ ⟨rfl, rfl, rfl⟩
     refine Rg.nl (nT ?_)
     refine Tr.seq (Tr.region ?_)
     refine Rg.q (v := .pointer (some ⟨g8, 1, none⟩)) (Pu.qo (p_fabE fa26_1 rfl rfl)) (by decide) ?_
     refine Rg.q (v := .slice z28.1 Q27.1.length z28.2) (q_ldb ty24 rfl Has.here.there.there.there.there rfl) (by decide) ?_
     refine Rg.q (v := .func (.func 112) #[] #[.pointer (some ⟨g37, 0, none⟩)]) (Pu.qo (p_mkfunc (vs := [.pointer (some ⟨g37, 0, none⟩)]) rfl rfl)) (by decide) ?_
     obtain ⟨r38, h39, H2⟩ := bd.of H2
     refine Rg.q (v := .int .i64 (r38)) (q_callC (vs := [.slice z28.1 Q27.1.length z28.2, .func (.func 112) #[] #[.pointer (some ⟨g37, 0, none⟩)]]) (c_slices_IndexFunc_Post_Post_indexOf_1 Q27.1 z28 g37 (nth (nth v0 Q13.2.toNat) Q27.2.toNat) h39) (Solo.box Solo.nil) rfl (.cons Del.here .nil) (EntsB.cons (EntB.tree Has.here.there.there) EntsB.nil)) (by decide) ?_
     refine Rg.q (v := .int .i64 (r38)) (Pu.qo (p_assign rfl)) (by decide) (Rg.nl (nT ?_))
     refine Tr.seq (Tr.seq (Tr.region ?_))
     refine Rg.q (v := .int .i64 (r38)) (Pu.qo (p_move rfl)) (by decide) ?_
     refine Rg.q (v := .bool (decide (r38 < 0))) (Pu.qo (p_lss rfl rfl)) (by decide) (Rg.nl (nT ?_))
     refine Tr.cond (b := decide (r38 < 0)) rfl (fun h40 => ?_) (fun h40 => ?_)
     ·have H2 := cdT h40 H2
      refine Tr.seq (Tr.region ?_)
      refine Rg.q (v := .pointer (some ⟨g8, 1, none⟩)) (Pu.qo (p_fabE fa26_1 rfl rfl)) (by decide) ?_
      refine Rg.q (v := .slice z28.1 Q27.1.length z28.2) (q_ldb ty24 rfl Has.here.there.there.there.there rfl) (by decide) ?_
      refine Rg.q (v := .int .i64 ((Q27.1.length : Int))) (Pu.qo (p_len 33 Try.underlying24 rfl)) (by decide) ?_
      refine Rg.q (v := .int .i64 ((Q27.1.length : Int))) (Pu.qo (p_assign rfl)) (by decide) (Rg.nl (nT ?_))
      refine Tr.nilT Int ?_
      refine Tr.region ?_
      refine Rg.q (v := .pointer (some ⟨g8, 1, none⟩)) (Pu.qo (p_fabE fa26_1 rfl rfl)) (by decide) ?_
      refine Rg.q (v := .slice z28.1 Q27.1.length z28.2) (q_ldb ty24 rfl Has.here.there.there.there.there.there rfl) (by decide) ?_
      refine Rg.q (v := .agg #[.string ((nth (nth v0 Q13.2.toNat) Q27.2.toNat).1), .string ((nth (nth v0 Q13.2.toNat) Q27.2.toNat).2)]) (q_ldbA ty30 rfl Has.here.there rfl) (by decide) ?_
      refine Rg.q (v := .agg #[.string ((nth (nth v0 Q13.2.toNat) Q27.2.toNat).1), .string ((nth (nth v0 Q13.2.toNat) Q27.2.toNat).2), .slice none 0 0]) (Pu.qo (p_buildS (vs := [(0, .agg #[.string ((nth (nth v0 Q13.2.toNat) Q27.2.toNat).1), .string ((nth (nth v0 Q13.2.toNat) Q27.2.toNat).2)])]) (cs := #[.string ((nth (nth v0 Q13.2.toNat) Q27.2.toNat).1), .string ((nth (nth v0 Q13.2.toNat) Q27.2.toNat).2), .slice none 0 0]) ty33 pl33 rfl rfl)) (by decide) ?_
      refine Rg.ed (e_lit (vs := [(0, .agg #[.string ((nth (nth v0 Q13.2.toNat) Q27.2.toNat).1), .string ((nth (nth v0 Q13.2.toNat) Q27.2.toNat).2), .slice none 0 0])]) [.string ((nth (nth v0 Q13.2.toNat) Q27.2.toNat).1), .string ((nth (nth v0 Q13.2.toNat) Q27.2.toNat).2), .slice none 0 0] Try.underlying24 ty33 rfl (by decide) (by decide) (by kernel_rfl)) rfl (by decide) ?_
      rintro _ _ _ ⟨g41, rfl, rfl, rfl⟩
      obtain ⟨h44, H2⟩ := gd.of H2
      refine Rg.ed (e_app1 (l := Q27.1) (α := Post) ((nth (nth v0 Q13.2.toNat) Q27.2.toNat), ([])) (((), ()), (none, 0)) Try.underlying24 ty33 rfl rfl (h44.b (by decide)) h44.x rfl (ShpT.wfa _) (.cons Del.here.there.there.there.there.there (.cons Del.here (.cons Del.here .nil)))) rfl (by decide) ?_
      rintro _ _ _ ⟨a42, c43, rfl, rfl, rfl⟩
      refine Rg.q (v := .pointer (some ⟨g8, 1, none⟩)) (Pu.qo (p_fabE fa26_1 rfl rfl)) (by decide) ?_
      refine Rg.en (e_store (v := .slice a42 ((Q27.1 ++ [((nth (nth v0 Q13.2.toNat) Q27.2.toNat), ([]))]).length) c43) (cs' := [.slice x5.1 r3.length x5.2, .slice a42 ((Q27.1 ++ [((nth (nth v0 Q13.2.toNat) Q27.2.toNat), ([]))]).length) c43]) ty24 rfl rfl Upd.here.there.there.there.there rfl (by simp [Value.cells, Value.oneCell']) (Nat.le_of_ble_eq_true rfl) rfl) rfl ?_
      rintro _ _ _ ⟨rfl, rfl, rfl⟩
      refine Rg.nl (nT ?_)
      obtain ⟨h45, H2⟩ := gd.of H2
      refine Tr.zoom (k := (Q27.1.length : Int).toNat) h45.lt (.cons Del.here .nil) fun x46 => ?_
      show Tr _ _ _ _ _ _ _ (hole (.slice a42 ((Q27.1 ++ [((nth (nth v0 Q13.2.toNat) Q27.2.toNat), ([]))]).length) c43) (Q27.1 ++ [((nth (nth v0 Q13.2.toNat) Q27.2.toNat), ([]))]) ((Q27.1.length : Int).toNat) [.string (((nth (Q27.1 ++ [((nth (nth v0 Q13.2.toNat) Q27.2.toNat), ([]))]) ((Q27.1.length : Int).toNat)).1).1), .string (((nth (Q27.1 ++ [((nth (nth v0 Q13.2.toNat) Q27.2.toNat), ([]))]) ((Q27.1.length : Int).toNat)).1).2), .slice x46.2.1 (((nth (Q27.1 ++ [((nth (nth v0 Q13.2.toNat) Q27.2.toNat), ([]))]) ((Q27.1.length : Int).toNat)).2).length) x46.2.2] :: tree (.slice x46.2.1 (((nth (Q27.1 ++ [((nth (nth v0 Q13.2.toNat) Q27.2.toNat), ([]))]) ((Q27.1.length : Int).toNat)).2).length) x46.2.2) ((nth (Q27.1 ++ [((nth (nth v0 Q13.2.toNat) Q27.2.toNat), ([]))]) ((Q27.1.length : Int).toNat)).2) :: _)
      refine tNwS [(8, .int .i64 ((Q27.1.length : Int))), (2, .pointer (some ⟨g2, 0, none⟩)), (3, .pointer (some ⟨g8, 0, none⟩)), (4, .int .i64 (Q13.2)), (13, .slice x_v0.1 v0.length x_v0.2), (14, .int .i64 ((v0.length : Int))), (15, .int .i64 (Q13.2)), (20, .slice ((X1 Q13.2.toNat).1) ((nth v0 Q13.2.toNat).length) ((X1 Q13.2.toNat).2.1)), (21, .int .i64 (((nth v0 Q13.2.toNat).length : Int))), (22, .int .i64 (Q27.2))] 1 [0, 1, 2, 3, 4, 5, 6, 7, 8, 9, 10, 11, 12, 13, 14, 15] [11, 12, 15] [] Try.mixed (by kernel_rfl) (by decide) List.nodup_nil ⟨rfl, rfl, rfl, rfl, rfl, rfl, rfl, rfl, rfl, rfl, trivial⟩ rfl okNil ?_
      refine w_pu (v := .pointer (some ⟨g8, 1, none⟩)) rfl (by decide) rfl rfl rfl (p_fabE fa26_1 rfl rfl) ?_
      refine w_q (v := .slice a42 ((Q27.1 ++ [((nth (nth v0 Q13.2.toNat) Q27.2.toNat), ([]))]).length) c43) rfl (by decide) rfl rfl rfl (fun F => (q_ldb ty24 rfl (Has.here.there.there.there.there.there.app F) rfl)) ?_
      refine w_pu (v := .int .i64 ((Q27.1.length : Int))) rfl (by decide) rfl rfl rfl (p_move rfl) ?_
      refine w_pu (v := .pointer (some ⟨g8, 1, none⟩)) rfl (by decide) rfl rfl rfl (p_fabE fa26_1 rfl rfl) ?_
      refine w_q (v := .slice a42 ((Q27.1 ++ [((nth (nth v0 Q13.2.toNat) Q27.2.toNat), ([]))]).length) c43) rfl (by decide) rfl rfl rfl (fun F => (q_ldb ty24 rfl (Has.here.there.there.there.there.there.app F) rfl)) ?_
      refine w_pu (v := .int .i64 ((Q27.1.length : Int))) rfl (by decide) rfl rfl rfl (p_move rfl) ?_
      refine w_q (v := elp a42 (((Q27.1.length : Int).toNat) * Enc.sz Post + 0)) rfl (by decide) rfl rfl rfl (fun F => (q_ixH (k := (Q27.1.length : Int).toNat) Try.underlying24 ty33 rfl rfl h45 rfl (Has.here.app F))) ?_
      refine w_q (v := elp a42 (((Q27.1.length : Int).toNat) * Enc.sz Post + 2)) rfl (by decide) rfl rfl rfl (fun F => (q_faH (j := 0) (i := (Q27.1.length : Int).toNat) fa33_1 rfl (Has.here.app F) rfl)) ?_
      refine w_q (v := .slice x46.2.1 (((nth (Q27.1 ++ [((nth (nth v0 Q13.2.toNat) Q27.2.toNat), ([]))]) ((Q27.1.length : Int).toNat)).2).length) x46.2.2) rfl (by decide) rfl rfl rfl (fun F => (q_ldH (i := (Q27.1.length : Int).toNat) (j := 2) ty31 rfl (Has.here.app F) rfl)) ?_
      refine w_pu (v := .int .i64 (Q13.2)) rfl (by decide) rfl rfl rfl (p_move rfl) ?_
      obtain ⟨h47, H2⟩ := gd.of H2
      refine w_pu (v := .int .i64 (Q13.2 + 1)) rfl (by decide) rfl rfl rfl (p_add rfl rfl h47) ?_
      refine w_ed rfl (by decide) rfl Rdy.nil rfl (n_lit (vs := [(0, .int .i64 (Q13.2 + 1))]) [.int .i64 (Q13.2 + 1)] Try.underlying31 ty3 rfl (by decide) (by decide) (by kernel_rfl)) ?_
      rintro _ _ _ ⟨g48, rfl, rfl, rfl⟩
      refine ⟨(PdOk.q rfl rfl (fun F => (q_ldH (i := (Q27.1.length : Int).toNat) (j := 2) ty31 rfl (Has.here.there.app F) rfl)) (PdOk.q rfl rfl (fun F => (q_faH (j := 0) (i := (Q27.1.length : Int).toNat) fa33_1 rfl (Has.here.there.app F) rfl)) (PdOk.q rfl rfl (fun F => (q_ixH (k := (Q27.1.length : Int).toNat) Try.underlying24 ty33 rfl rfl h45 rfl (Has.here.there.app F))) (PdOk.q rfl rfl (fun F => (q_ldb ty24 rfl (Has.here.there.there.there.there.there.there.app F) rfl)) (PdOk.q rfl rfl (fun F => (q_ldb ty24 rfl (Has.here.there.there.there.there.there.there.app F) rfl)) PdOk.nil))))), ?_⟩
      obtain ⟨h51, H2⟩ := gd.of H2
      refine w_ed rfl (by decide) rfl Rdy.nil rfl (n_app1 (l := (nth (Q27.1 ++ [((nth (nth v0 Q13.2.toNat) Q27.2.toNat), ([]))]) ((Q27.1.length : Int).toNat)).2) (α := Int) (Q13.2 + 1) () Try.underlying31 ty3 rfl rfl (h51.b (by decide)) h51.x rfl (ShpT.wfa _) (.cons Del.here.there.there (.cons Del.here .nil))) ?_
      rintro _ _ _ ⟨a49, c50, rfl, rfl, rfl⟩
      refine ⟨(PdOk.anc (by kernel_rfl) (PdOk.q rfl rfl (fun F => (q_faH (j := 0) (i := (Q27.1.length : Int).toNat) fa33_1 rfl (Has.here.there.app F) rfl)) (PdOk.q rfl rfl (fun F => (q_ixH (k := (Q27.1.length : Int).toNat) Try.underlying24 ty33 rfl rfl h45 rfl (Has.here.there.app F))) (PdOk.q rfl rfl (fun F => (q_ldb ty24 rfl (Has.here.there.there.there.there.there.app F) rfl)) (PdOk.q rfl rfl (fun F => (q_ldb ty24 rfl (Has.here.there.there.there.there.there.app F) rfl)) PdOk.nil))))), ?_⟩
      refine w_q (v := elp a42 (((Q27.1.length : Int).toNat) * Enc.sz Post + 0)) rfl (by decide) rfl rfl rfl (fun F => (q_ixH (k := (Q27.1.length : Int).toNat) Try.underlying24 ty33 rfl rfl h45 rfl (Has.here.there.app F))) ?_
      refine w_q (v := elp a42 (((Q27.1.length : Int).toNat) * Enc.sz Post + 2)) rfl (by decide) rfl rfl rfl (fun F => (q_faH (j := 0) (i := (Q27.1.length : Int).toNat) fa33_1 rfl (Has.here.there.app F) rfl)) ?_
      refine w_en rfl rfl Rdy.nil rfl (n_stH (v := .slice a49 ((((nth (Q27.1 ++ [((nth (nth v0 Q13.2.toNat) Q27.2.toNat), ([]))]) ((Q27.1.length : Int).toNat)).2) ++ [Q13.2 + 1]).length) c50) (i := (Q27.1.length : Int).toNat) (j := 2) (cs' := [.string (((nth (Q27.1 ++ [((nth (nth v0 Q13.2.toNat) Q27.2.toNat), ([]))]) ((Q27.1.length : Int).toNat)).1).1), .string (((nth (Q27.1 ++ [((nth (nth v0 Q13.2.toNat) Q27.2.toNat), ([]))]) ((Q27.1.length : Int).toNat)).1).2), .slice a49 ((((nth (Q27.1 ++ [((nth (nth v0 Q13.2.toNat) Q27.2.toNat), ([]))]) ((Q27.1.length : Int).toNat)).2) ++ [Q13.2 + 1]).length) c50]) ty31 rfl rfl (.cons Del.here.there .nil) rfl (by simp [Value.cells, Value.oneCell']) (Nat.le_of_ble_eq_true rfl) rfl rfl) ?_
      rintro _ _ _ ⟨rfl, rfl, rfl⟩
      refine ⟨(PdOk.anc (by kernel_rfl) (PdOk.q rfl rfl (fun F => (q_ixH (k := (Q27.1.length : Int).toNat) Try.underlying24 ty33 rfl rfl h45 rfl (Has.here.app F))) (PdOk.anc (by kernel_rfl) (PdOk.anc (by kernel_rfl) (PdOk.anc (by kernel_rfl) (PdOk.anc (by kernel_rfl) (PdOk.anc (by kernel_rfl) PdOk.nil))))))), ?_⟩
      refine w_nil ?_
      show At _ _ _ _ _ _
      refine nB (nT (?_))
      refine Tr.region ?_
      obtain ⟨h52, H2⟩ := gd.of H2
      refine Rg.q (v := .int .i64 (Q27.2 + 1)) (Pu.qo (p_add rfl rfl h52)) (by decide) ?_
      refine Rg.q (v := .int .i64 (Q27.2 + 1)) (Pu.qo (p_move rfl)) (by decide) (Rg.nl ?_)
      refine At.unzoom (((nth (Q27.1 ++ [((nth (nth v0 Q13.2.toNat) Q27.2.toNat), ([]))]) ((Q27.1.length : Int).toNat)).1), (((nth (Q27.1 ++ [((nth (nth v0 Q13.2.toNat) Q27.2.toNat), ([]))]) ((Q27.1.length : Int).toNat)).2) ++ [Q13.2 + 1])) (((), ()), (a49, c50)) rfl (.cons Del.here (.cons Del.here .nil)) ?_
      refine At.olen Has.here fun hn => ?_; rw [hn]
      exact nLC ⟨(m34, (((Q27.1 ++ [((nth (nth v0 Q13.2.toNat) Q27.2.toNat), ([]))]).set ((Q27.1.length : Int).toNat) (((nth (Q27.1 ++ [((nth (nth v0 Q13.2.toNat) Q27.2.toNat), ([]))]) ((Q27.1.length : Int).toNat)).1), (((nth (Q27.1 ++ [((nth (nth v0 Q13.2.toNat) Q27.2.toNat), ([]))]) ((Q27.1.length : Int).toNat)).2) ++ [Q13.2 + 1]))), Q27.2 + 1), (a42, c43)), hi31 _ (Option.some.inj H2).symm⟩ (Nat.lt_succ_self _) ⟨rfl, rfl, rfl, rfl, rfl, rfl, rfl, rfl, rfl, trivial⟩ Ents.refl (.cons Del.here.there.there (.cons Del.here.there.there (.cons Del.here (.cons Del.here.there .nil))))
     ·have H2 := cdF h40 H2
      refine tSkip ?_
      refine nT (?_)
      obtain ⟨h53, H2⟩ := gd.of H2
      refine Tr.zoom (k := r38.toNat) h53.lt (.cons Del.here.there.there.there .nil) fun x54 => ?_
      show Tr _ _ _ _ _ _ _ (hole (.slice z28.1 Q27.1.length z28.2) Q27.1 r38.toNat [.string (((nth Q27.1 r38.toNat).1).1), .string (((nth Q27.1 r38.toNat).1).2), .slice x54.2.1 (((nth Q27.1 r38.toNat).2).length) x54.2.2] :: tree (.slice x54.2.1 (((nth Q27.1 r38.toNat).2).length) x54.2.2) ((nth Q27.1 r38.toNat).2) :: _)
      refine tNwS [(8, .int .i64 (r38)), (2, .pointer (some ⟨g2, 0, none⟩)), (3, .pointer (some ⟨g8, 0, none⟩)), (4, .int .i64 (Q13.2)), (13, .slice x_v0.1 v0.length x_v0.2), (14, .int .i64 ((v0.length : Int))), (15, .int .i64 (Q13.2)), (20, .slice ((X1 Q13.2.toNat).1) ((nth v0 Q13.2.toNat).length) ((X1 Q13.2.toNat).2.1)), (21, .int .i64 (((nth v0 Q13.2.toNat).length : Int))), (22, .int .i64 (Q27.2))] 1 [0, 1, 2, 3, 4, 5, 6, 7, 8, 9, 10, 11, 12, 13, 14, 15] [11, 12, 15] [] Try.mixed (by kernel_rfl) (by decide) List.nodup_nil ⟨rfl, rfl, rfl, rfl, rfl, rfl, rfl, rfl, rfl, rfl, trivial⟩ rfl okNil ?_
      refine w_pu (v := .pointer (some ⟨g8, 1, none⟩)) rfl (by decide) rfl rfl rfl (p_fabE fa26_1 rfl rfl) ?_
      refine w_q (v := .slice z28.1 Q27.1.length z28.2) rfl (by decide) rfl rfl rfl (fun F => (q_ldb ty24 rfl (Has.here.there.there.there.there.there.app F) rfl)) ?_
      refine w_pu (v := .int .i64 (r38)) rfl (by decide) rfl rfl rfl (p_move rfl) ?_
      refine w_pu (v := .pointer (some ⟨g8, 1, none⟩)) rfl (by decide) rfl rfl rfl (p_fabE fa26_1 rfl rfl) ?_
      refine w_q (v := .slice z28.1 Q27.1.length z28.2) rfl (by decide) rfl rfl rfl (fun F => (q_ldb ty24 rfl (Has.here.there.there.there.there.there.app F) rfl)) ?_
      refine w_pu (v := .int .i64 (r38)) rfl (by decide) rfl rfl rfl (p_move rfl) ?_
      refine w_q (v := elp z28.1 (r38.toNat * Enc.sz Post + 0)) rfl (by decide) rfl rfl rfl (fun F => (q_ixH (k := r38.toNat) Try.underlying24 ty33 rfl rfl h53 rfl (Has.here.app F))) ?_
      refine w_q (v := elp z28.1 (r38.toNat * Enc.sz Post + 2)) rfl (by decide) rfl rfl rfl (fun F => (q_faH (j := 0) (i := r38.toNat) fa33_1 rfl (Has.here.app F) rfl)) ?_
      refine w_q (v := .slice x54.2.1 (((nth Q27.1 r38.toNat).2).length) x54.2.2) rfl (by decide) rfl rfl rfl (fun F => (q_ldH (i := r38.toNat) (j := 2) ty31 rfl (Has.here.app F) rfl)) ?_
      refine w_pu (v := .int .i64 (Q13.2)) rfl (by decide) rfl rfl rfl (p_move rfl) ?_
      obtain ⟨h55, H2⟩ := gd.of H2
      refine w_pu (v := .int .i64 (Q13.2 + 1)) rfl (by decide) rfl rfl rfl (p_add rfl rfl h55) ?_
      refine w_ed rfl (by decide) rfl Rdy.nil rfl (n_lit (vs := [(0, .int .i64 (Q13.2 + 1))]) [.int .i64 (Q13.2 + 1)] Try.underlying31 ty3 rfl (by decide) (by decide) (by kernel_rfl)) ?_
      rintro _ _ _ ⟨g56, rfl, rfl, rfl⟩
      refine ⟨(PdOk.q rfl rfl (fun F => (q_ldH (i := r38.toNat) (j := 2) ty31 rfl (Has.here.there.app F) rfl)) (PdOk.q rfl rfl (fun F => (q_faH (j := 0) (i := r38.toNat) fa33_1 rfl (Has.here.there.app F) rfl)) (PdOk.q rfl rfl (fun F => (q_ixH (k := r38.toNat) Try.underlying24 ty33 rfl rfl h53 rfl (Has.here.there.app F))) (PdOk.q rfl rfl (fun F => (q_ldb ty24 rfl (Has.here.there.there.there.there.there.there.app F) rfl)) (PdOk.q rfl rfl (fun F => (q_ldb ty24 rfl (Has.here.there.there.there.there.there.there.app F) rfl)) PdOk.nil))))), ?_⟩
      obtain ⟨h59, H2⟩ := gd.of H2
      refine w_ed rfl (by decide) rfl Rdy.nil rfl (n_app1 (l := (nth Q27.1 r38.toNat).2) (α := Int) (Q13.2 + 1) () Try.underlying31 ty3 rfl rfl (h59.b (by decide)) h59.x rfl (ShpT.wfa _) (.cons Del.here.there.there (.cons Del.here .nil))) ?_
      rintro _ _ _ ⟨a57, c58, rfl, rfl, rfl⟩
      refine ⟨(PdOk.anc (by kernel_rfl) (PdOk.q rfl rfl (fun F => (q_faH (j := 0) (i := r38.toNat) fa33_1 rfl (Has.here.there.app F) rfl)) (PdOk.q rfl rfl (fun F => (q_ixH (k := r38.toNat) Try.underlying24 ty33 rfl rfl h53 rfl (Has.here.there.app F))) (PdOk.q rfl rfl (fun F => (q_ldb ty24 rfl (Has.here.there.there.there.there.there.app F) rfl)) (PdOk.q rfl rfl (fun F => (q_ldb ty24 rfl (Has.here.there.there.there.there.there.app F) rfl)) PdOk.nil))))), ?_⟩
      refine w_q (v := elp z28.1 (r38.toNat * Enc.sz Post + 0)) rfl (by decide) rfl rfl rfl (fun F => (q_ixH (k := r38.toNat) Try.underlying24 ty33 rfl rfl h53 rfl (Has.here.there.app F))) ?_
      refine w_q (v := elp z28.1 (r38.toNat * Enc.sz Post + 2)) rfl (by decide) rfl rfl rfl (fun F => (q_faH (j := 0) (i := r38.toNat) fa33_1 rfl (Has.here.there.app F) rfl)) ?_
      refine w_en rfl rfl Rdy.nil rfl (n_stH (v := .slice a57 ((((nth Q27.1 r38.toNat).2) ++ [Q13.2 + 1]).length) c58) (i := r38.toNat) (j := 2) (cs' := [.string (((nth Q27.1 r38.toNat).1).1), .string (((nth Q27.1 r38.toNat).1).2), .slice a57 ((((nth Q27.1 r38.toNat).2) ++ [Q13.2 + 1]).length) c58]) ty31 rfl rfl (.cons Del.here.there .nil) rfl (by simp [Value.cells, Value.oneCell']) (Nat.le_of_ble_eq_true rfl) rfl rfl) ?_
      rintro _ _ _ ⟨rfl, rfl, rfl⟩
      refine ⟨(PdOk.anc (by kernel_rfl) (PdOk.q rfl rfl (fun F => (q_ixH (k := r38.toNat) Try.underlying24 ty33 rfl rfl h53 rfl (Has.here.app F))) (PdOk.anc (by kernel_rfl) (PdOk.anc (by kernel_rfl) (PdOk.anc (by kernel_rfl) (PdOk.anc (by kernel_rfl) (PdOk.anc (by kernel_rfl) PdOk.nil))))))), ?_⟩
      refine w_nil ?_
      show At _ _ _ _ _ _
      refine nB (nT (?_))
      refine Tr.region ?_
      obtain ⟨h60, H2⟩ := gd.of H2
      refine Rg.q (v := .int .i64 (Q27.2 + 1)) (Pu.qo (p_add rfl rfl h60)) (by decide) ?_
      refine Rg.q (v := .int .i64 (Q27.2 + 1)) (Pu.qo (p_move rfl)) (by decide) (Rg.nl ?_)
      refine At.unzoom (((nth Q27.1 r38.toNat).1), (((nth Q27.1 r38.toNat).2) ++ [Q13.2 + 1])) (((), ()), (a57, c58)) rfl (.cons Del.here (.cons Del.here .nil)) ?_
      refine At.olen Has.here fun hn => ?_; rw [hn]
      exact nLC ⟨(m34, ((Q27.1.set r38.toNat (((nth Q27.1 r38.toNat).1), (((nth Q27.1 r38.toNat).2) ++ [Q13.2 + 1]))), Q27.2 + 1), (z28.1, z28.2)), hi31 _ (Option.some.inj H2).symm⟩ (Nat.lt_succ_self _) ⟨rfl, rfl, rfl, rfl, rfl, rfl, rfl, rfl, rfl, trivial⟩ Ents.refl (.cons Del.here.there.there (.cons Del.here.there.there (.cons Del.here (.cons Del.here.there .nil))))
    ·have H2 := cdF h35 H2
     refine tExit (xT (xT (xE (?_))))
     have hx := hb32 _ (Option.some.inj H2).symm; subst hx
     exact nMC (z28.1, z28.2) ⟨rfl, rfl, rfl, rfl, rfl, trivial⟩ Ents.refl (.cons Del.here (.cons Del.here (.cons Del.here (.cons Del.here .nil))))
   ·intro y29
    show At _ _ [(2, .pointer (some ⟨g2, 0, none⟩)), (3, .pointer (some ⟨g8, 0, none⟩)), (13, .slice x_v0.1 v0.length x_v0.2), (14, .int .i64 ((v0.length : Int))), (15, .int .i64 (Q13.2))] _ [box g2 26 [.slice none 0 0, .slice none 0 0], tree (.slice x5.1 r3.length x5.2) r3, tree (.slice y29.1 x23.length y29.2) x23, box g8 26 [.slice x5.1 r3.length x5.2, .slice y29.1 x23.length y29.2]] _
    refine nB (nT (?_))
    refine Tr.region ?_
    obtain ⟨h61, H1⟩ := gd.of H1
    refine Rg.q (v := .int .i64 (Q13.2 + 1)) (Pu.qo (p_add rfl rfl h61)) (by decide) ?_
    refine Rg.q (v := .int .i64 (Q13.2 + 1)) (Pu.qo (p_move rfl)) (by decide) (Rg.nl ?_)
    exact nLC ⟨(m20, (x23, Q13.2 + 1), (y29.1, y29.2)), hi17 _ (Option.some.inj H1).symm⟩ (Nat.lt_succ_self _) ⟨rfl, rfl, rfl, rfl, rfl, trivial⟩ Ents.refl (.cons Del.here (.cons Del.here (.cons Del.here (.cons Del.here .nil))))
  ·have H1 := cdF h21 H1
   refine tExit (xT (xT (xE (?_))))
   have hx := hb18 _ (Option.some.inj H1).symm; subst hx
   exact nMC (z14.1, z14.2) ⟨rfl, rfl, trivial⟩ Ents.refl (.cons Del.here (.cons Del.here (.cons Del.here (.cons Del.here .nil))))
 ·intro y15
  show At _ _ [(2, .pointer (some ⟨g2, 0, none⟩)), (3, .pointer (some ⟨g8, 0, none⟩))] _ [box g2 26 [.slice none 0 0, .slice none 0 0], tree (.slice x5.1 r3.length x5.2) r3, tree (.slice y15.1 x9.length y15.2) x9, box g8 26 [.slice x5.1 r3.length x5.2, .slice y15.1 x9.length y15.2]] _
  refine nT (?_)
  refine Tr.seq (Tr.region ?_)
  refine Rg.q (v := .pointer (some ⟨g8, 1, none⟩)) (Pu.qo (p_fabE fa26_1 rfl rfl)) (by decide) ?_
  refine Rg.q (v := .slice y15.1 x9.length y15.2) (q_ldb ty24 rfl Has.here.there.there.there rfl) (by decide) ?_
  obtain ⟨r62, h63, H⟩ := bd.of H
  refine Rg.ed (e_callM (vs := [.slice y15.1 x9.length y15.2, .func (.func 114) #[] #[]]) (c_slices_SortFunc_Post_Post_indexOf_2 x9 y15 x9.length rfl h63) (Solo.tree Solo.nil) (fun _ => (Solo.tree Solo.nil)) rfl (.cons Del.here.there.there .nil) EntsB.nil) rfl (by decide) ?_
  rintro _ _ _ ⟨u64, rfl, rfl, rfl⟩
  refine Rg.nl (nT ?_)
  refine Tr.seq ?_
  refine Tr.olen Has.here fun hn => ?_; rw [hn]
  refine Tr.region ?_
  refine Rg.q (v := .agg #[.slice x5.1 r3.length x5.2, .slice y15.1 r62.length y15.2]) (q_ldbA ty26 rfl Has.here.there.there.there rfl) (by decide) ?_
  refine Rg.en (e_store (v := .agg #[.slice x5.1 r3.length x5.2, .slice y15.1 r62.length y15.2]) (cs' := [.slice x5.1 r3.length x5.2, .slice y15.1 r62.length y15.2]) ty26 rfl rfl Upd.here.there rfl (by simp [Value.cells, Value.oneCell']) (Nat.le_of_ble_eq_true rfl) rfl) rfl ?_
  rintro _ _ _ ⟨rfl, rfl, rfl⟩
  refine Rg.nl (nT ?_)
  refine tRet ?_
  have hr := Option.some.inj H; subst hr
  exact back1 (x5, y15) rfl (ResV.agg ty26 rfl Has.here.there rfl) rfl Ents.nil (.cons Del.here.there.there (.cons Del.here .nil))
noncomputable def p_slices_Equal_int_int_b0 (v0 : (List Int)) (v1 : (List Int)) (Q6 : Int) : Option ((Int) ⊕ (Unit ⊕ Bool)) := cond (decide (Q6 < (v0.length : Int))) (gd (ix Q6 v0.length) <| gd (ix Q6 v1.length) <| cond (!decide ((nth v0 Q6.toNat) = (nth v1 Q6.toNat))) (some (.inr (.inr false))) (gd (I64 (Q6 + 1)) <| some (.inl (Q6 + 1)))) (some (.inr (.inl ())))
noncomputable def p_slices_Equal_int_int (v0 : (List Int)) (v1 : (List Int)) : Option (Bool) := cond (!decide ((v0.length : Int) = (v1.length : Int))) (some false) (bd (lp (p_slices_Equal_int_int_b0 v0 v1) 0) <| sw (fun _ => some true) (fun q => some q))
theorem c_slices_Equal_int_int {r : Bool} (v0 : (List Int)) (x_v0 : Option Addr × Nat) (v1 : (List Int)) (x_v1 : Option Addr × Nat) (H : p_slices_Equal_int_int v0 v1 = some r) : Fn' Try.prog 67 #[.slice x_v0.1 v0.length x_v0.2, .slice x_v1.1 v1.length x_v1.2] [imm (.slice x_v0.1 v0.length x_v0.2) v0, imm (.slice x_v1.1 v1.length x_v1.2) v1] [] (ι := Unit) (fun _ => .bool (r)) (fun _ => []) (fun _ => []) := by
 refine calls_of (args := [_, _]) Try.func67 rfl (by kernel_rfl) Try.ntmps67 (by simp) fun c => ?_
 unfold p_slices_Equal_int_int at H
 refine Tr.seq (Tr.region ?_)
 refine Rg.q (v := .bool (false)) (Pu.qo (p_assign rfl)) (by decide) (Rg.nl (nT ?_))
 refine Tr.seq (Tr.seq (Tr.region ?_))
 refine Rg.q (v := .slice x_v0.1 v0.length x_v0.2) (Pu.qo (p_move rfl)) (by decide) ?_
 refine Rg.q (v := .int .i64 ((v0.length : Int))) (Pu.qo (p_len 3 Try.underlying31 rfl)) (by decide) ?_
 refine Rg.q (v := .slice x_v1.1 v1.length x_v1.2) (Pu.qo (p_move rfl)) (by decide) ?_
 refine Rg.q (v := .int .i64 ((v1.length : Int))) (Pu.qo (p_len 3 Try.underlying31 rfl)) (by decide) ?_
 refine Rg.q (v := .bool (!decide ((v0.length : Int) = (v1.length : Int)))) (Pu.qo (p_neq rfl rfl)) (by decide) (Rg.nl (nT ?_))
 refine Tr.cond (b := !decide ((v0.length : Int) = (v1.length : Int))) rfl (fun h1 => ?_) (fun h1 => ?_)
 ·have H := cdT h1 H
  refine Tr.seq (Tr.region ?_)
  refine Rg.q (v := .bool (false)) (Pu.qo (p_assign rfl)) (by decide) (Rg.nl (nT ?_))
  refine tRet ?_
  refine rT (?_)
  have hr := Option.some.inj H; subst hr
  exact back1 () rfl (ResV.tmp (v := .bool (false)) rfl) rfl Ents.nil Take.nil
 ·have H := cdF h1 H
  refine tSkip ?_
  refine nT (?_)
  refine Tr.seq (Tr.seq (Tr.region ?_))
  refine Rg.q (v := .slice x_v0.1 v0.length x_v0.2) (Pu.qo (p_move rfl)) (by decide) ?_
  refine Rg.q (v := .int .i64 ((v0.length : Int))) (Pu.qo (p_len 3 Try.underlying31 rfl)) (by decide) ?_
  refine Rg.q (v := .int .i64 (0)) (Pu.qo (p_move rfl)) (by decide) (Rg.nl (nT ?_))
  obtain ⟨x2, hx3, H⟩ := bd.of H
  obtain ⟨n4, hx3⟩ := lp.of hx3
  refine tMidNC (ι := { q : (Unit) × Unit // x2 = .inl q.1 }) (fun ψ => []) (fun ψ => []) ?_ ?_
  ·refine Tr.block ?_
   refine tLoopC (ι := { q : Nat × (Int) × Unit // itr (p_slices_Equal_int_int_b0 v0 v1) q.1 q.2.1 = some x2 }) (fun ζ => [(0, .slice x_v0.1 v0.length x_v0.2), (1, .slice x_v1.1 v1.length x_v1.2), (12, .int .i64 ((v0.length : Int))), (13, .int .i64 (ζ.1.2.1))]) (fun ζ => []) (fun ζ => ζ.1.1) ⟨(n4, 0, ()), hx3⟩ ⟨rfl, rfl, rfl, rfl, trivial⟩ Take.nil ?_
   rintro ⟨⟨m5, Q6, z7⟩, hk12⟩
   obtain ⟨m13, t9, e, H1, hi10, hb11⟩ := itr.of (n := m5) (s := Q6) hk12
   subst e; unfold p_slices_Equal_int_int_b0 at H1
   show Tr _ _ _ _ _ [(0, .slice x_v0.1 v0.length x_v0.2), (1, .slice x_v1.1 v1.length x_v1.2), (12, .int .i64 ((v0.length : Int))), (13, .int .i64 (Q6))] _ []
   refine Tr.seq (Tr.region ?_)
   refine Rg.q (v := .bool (decide (Q6 < (v0.length : Int)))) (Pu.qo (p_lss rfl rfl)) (by decide) (Rg.nl (nT ?_))
   refine Tr.seq ?_
   refine Tr.cond (b := decide (Q6 < (v0.length : Int))) rfl (fun h14 => ?_) (fun h14 => ?_)
   ·have H1 := cdT h14 H1
    refine tSkip ?_
    refine nT (Tr.seq ?_)
    refine Tr.block ?_
    refine Tr.seq (Tr.region ?_)
    refine Rg.q (v := .int .i64 (Q6)) (Pu.qo (p_move rfl)) (by decide) ?_
    refine Rg.q (v := .int .i64 (Q6)) (Pu.qo (p_assign rfl)) (by decide) (Rg.nl (nT ?_))
    refine Tr.seq ?_
    refine tLinS [(5, .int .i64 (Q6)), (0, .slice x_v0.1 v0.length x_v0.2), (1, .slice x_v1.1 v1.length x_v1.2), (12, .int .i64 ((v0.length : Int))), (13, .int .i64 (Q6))] Try.mixed (.inr (by kernel_rfl)) ⟨rfl, rfl, rfl, rfl, rfl, trivial⟩ rfl ?_
    refine Lin.q (v := .slice x_v0.1 v0.length x_v0.2) (by decide) (Pu.qo (p_move rfl)) ?_
    refine Lin.q (v := .int .i64 (Q6)) (by decide) (Pu.qo (p_move rfl)) ?_
    obtain ⟨h15, H1⟩ := gd.of H1
    refine Lin.q (v := elp x_v0.1 (Q6.toNat * Enc.sz Int + 0)) (by decide) (q_ixg (l := v0) (E := fun i => Flat.enc (nth v0 i)) (oa := x_v0.1) Try.underlying31 ty3 rfl rfl h15 rfl (EntB.flat (Ent.b Ent.z))) ?_
    refine Lin.q (v := .int .i64 (nth v0 Q6.toNat)) (by decide) (q_lde (l := v0) (E := fun i => Flat.enc (nth v0 i)) (oa := x_v0.1) (i := Q6.toNat) (j := 0) ty3 rfl (EntB.flat (Ent.b Ent.z)) h15.lt rfl) ?_
    refine Lin.q (v := .slice x_v1.1 v1.length x_v1.2) (by decide) (Pu.qo (p_move rfl)) ?_
    refine Lin.q (v := .int .i64 (Q6)) (by decide) (Pu.qo (p_move rfl)) ?_
    obtain ⟨h16, H1⟩ := gd.of H1
    refine Lin.q (v := elp x_v1.1 (Q6.toNat * Enc.sz Int + 0)) (by decide) (q_ixg (l := v1) (E := fun i => Flat.enc (nth v1 i)) (oa := x_v1.1) Try.underlying31 ty3 rfl rfl h16 rfl (EntB.flat (Ent.b Ent.z.s))) ?_
    refine Lin.q (v := .int .i64 (nth v1 Q6.toNat)) (by decide) (q_lde (l := v1) (E := fun i => Flat.enc (nth v1 i)) (oa := x_v1.1) (i := Q6.toNat) (j := 0) ty3 rfl (EntB.flat (Ent.b Ent.z.s)) h16.lt rfl) ?_
    refine Lin.q (v := .bool (!decide ((nth v0 Q6.toNat) = (nth v1 Q6.toNat)))) (by decide) (Pu.qo (p_neq rfl rfl)) ?_
    show At _ _ _ _ _ _
    refine nT (?_)
    refine Tr.cond (b := !decide ((nth v0 Q6.toNat) = (nth v1 Q6.toNat))) rfl (fun h17 => ?_) (fun h17 => ?_)
    ·have H1 := cdT h17 H1
     refine Tr.seq (Tr.region ?_)
     refine Rg.q (v := .bool (false)) (Pu.qo (p_assign rfl)) (by decide) (Rg.nl (nT ?_))
     refine tRet ?_
     refine rB (rT (rT (rB (rT (rT (?_))))))
     have hx := hb11 _ (Option.some.inj H1).symm; subst hx
     replace H := sw.r H
     have hr := Option.some.inj H; subst hr
     exact back1 () rfl (ResV.tmp (v := .bool (false)) rfl) rfl Ents.nil Take.nil
    ·have H1 := cdF h17 H1
     refine tSkip ?_
     refine nB (nT (?_))
     refine Tr.region ?_
     obtain ⟨h18, H1⟩ := gd.of H1
     refine Rg.q (v := .int .i64 (Q6 + 1)) (Pu.qo (p_add rfl rfl h18)) (by decide) ?_
     refine Rg.q (v := .int .i64 (Q6 + 1)) (Pu.qo (p_move rfl)) (by decide) (Rg.nl ?_)
     exact nLC ⟨(m13, Q6 + 1, ()), hi10 _ (Option.some.inj H1).symm⟩ (Nat.lt_succ_self _) ⟨rfl, rfl, rfl, rfl, trivial⟩ Ents.refl Take.nil
   ·have H1 := cdF h14 H1
    refine tExit (xT (xT (xE (?_))))
    exact nMC ⟨((), ()), (hb11 _ (Option.some.inj H1).symm).symm⟩ trivial Ents.refl Take.nil
  ·rintro ⟨⟨e19, y8⟩, hx⟩; subst hx; replace H := sw.l H
   show At _ _ [] _ [] _
   refine nT (?_)
   refine Tr.seq (Tr.region ?_)
   refine Rg.q (v := .bool (true)) (Pu.qo (p_assign rfl)) (by decide) (Rg.nl (nT ?_))
   refine tRet ?_
   have hr := Option.some.inj H; subst hr
   exact back1 () rfl (ResV.tmp (v := .bool (true)) rfl) rfl Ents.nil Take.nil
noncomputable def p_impl_IndexOk_1 (v0 : Post) (v1 : Post) : Option (Bool) := bd (cond (decide (v0.1 = v1.1)) (bd (p_slices_Equal_int_int v0.2 v1.2) fun r6 => some (r6)) (some (false))) fun b3 => some b3
theorem c_impl_IndexOk_1 {r : Bool} (v0 : Post) (x_v0 : (Unit × Unit) × (Option Addr × Nat)) (v1 : Post) (x_v1 : (Unit × Unit) × (Option Addr × Nat)) (H : p_impl_IndexOk_1 v0 v1 = some r) : Fn' Try.prog 66 #[.agg #[.string (v0.1.1), .string (v0.1.2), .slice x_v0.2.1 v0.2.length x_v0.2.2], .agg #[.string (v1.1.1), .string (v1.1.2), .slice x_v1.2.1 v1.2.length x_v1.2.2]] [imm (.slice x_v0.2.1 v0.2.length x_v0.2.2) v0.2, imm (.slice x_v1.2.1 v1.2.length x_v1.2.2) v1.2] [] (ι := Unit) (fun _ => .bool (r)) (fun _ => []) (fun _ => []) := by
 refine calls_of (args := [_, _]) Try.func66 rfl (by kernel_rfl) Try.ntmps66 (by simp) fun c => ?_
 unfold p_impl_IndexOk_1 at H
 refine Tr.seq (Tr.region ?_)
 refine Rg.ed (e_box (t := 33) (v := .agg #[.string (v0.1.1), .string (v0.1.2), .slice x_v0.2.1 v0.2.length x_v0.2.2]) rfl) rfl (by decide) ?_
 rintro _ _ _ ⟨g1, rfl, rfl, rfl⟩
 refine Rg.ed (e_box (t := 33) (v := .agg #[.string (v1.1.1), .string (v1.1.2), .slice x_v1.2.1 v1.2.length x_v1.2.2]) rfl) rfl (by decide) ?_
 rintro _ _ _ ⟨g2, rfl, rfl, rfl⟩
 refine Rg.q (v := .bool (false)) (Pu.qo (p_assign rfl)) (by decide) (Rg.nl (nT ?_))
 obtain ⟨b3, j4, H⟩ := bd.of H
 refine tMid1 [(4, .bool (b3))] ?_ ?_
 ·refine tLinT [(3, .pointer (some ⟨g2, 0, none⟩)), (2, .pointer (some ⟨g1, 0, none⟩))] ⟨rfl, rfl, trivial⟩ ?_
  refine Lin.q (v := .pointer (some ⟨g1, 0, none⟩)) (by decide) (Pu.qo (p_fabE fa33_0 rfl rfl)) ?_
  refine Lin.q (v := .agg #[.string (v0.1.1), .string (v0.1.2)]) (by decide) (q_ldbP [.string (v0.1.1), .string (v0.1.2)] ty30 rfl Has.here.there rfl rfl) ?_
  refine Lin.q (v := .pointer (some ⟨g2, 0, none⟩)) (by decide) (Pu.qo (p_fabE fa33_0 rfl rfl)) ?_
  refine Lin.q (v := .agg #[.string (v1.1.1), .string (v1.1.2)]) (by decide) (q_ldbP [.string (v1.1.1), .string (v1.1.2)] ty30 rfl Has.here rfl rfl) ?_
  refine Lin.q (v := .bool (decide (v0.1 = v1.1))) (by decide) (Pu.qo (p_aeql (a := v0.1) (b := v1.1) ae30 rfl rfl rfl rfl)) ?_
  rcases Bool.eq_false_or_eq_true (decide (v0.1 = v1.1)) with h5 | h5
  ·have j4 := cdT h5 j4
   refine Lin.q (v := .bool (true)) (by decide) (Qo.eqv (v := .bool (decide (v0.1 = v1.1))) (Pu.qo (p_move rfl)) (congrArg Value.bool h5)) ?_
   refine Lin.g (v := .pointer (some ⟨g1, 2, none⟩)) (by decide) rfl (Pu.qo (p_fabE fa33_1 rfl rfl)) ?_
   refine Lin.g (v := .slice x_v0.2.1 v0.2.length x_v0.2.2) (by decide) rfl (q_ldb ty31 rfl Has.here.there rfl) ?_
   refine Lin.g (v := .pointer (some ⟨g2, 2, none⟩)) (by decide) rfl (Pu.qo (p_fabE fa33_1 rfl rfl)) ?_
   refine Lin.g (v := .slice x_v1.2.1 v1.2.length x_v1.2.2) (by decide) rfl (q_ldb ty31 rfl Has.here rfl) ?_
   obtain ⟨r6, h7, j4⟩ := bd.of j4
   refine Lin.g (v := .bool (r6)) (by decide) rfl (q_call (vs := [.slice x_v0.2.1 v0.2.length x_v0.2.2, .slice x_v1.2.1 v1.2.length x_v1.2.2]) (c_slices_Equal_int_int v0.2 x_v0.2 v1.2 x_v1.2 h7) rfl (EntsB.cons (Ent.b Ent.z) (EntsB.cons (Ent.b Ent.z.s) EntsB.nil))) ?_
   refine Lin.q (v := .bool (r6)) (by decide) (Pu.qo (p_pickT rfl rfl)) ?_
   refine Lin.q (v := .bool (r6)) (by decide) (Pu.qo (p_assign rfl)) ?_
   have j4 := Option.some.inj j4; subst j4
   show At _ _ _ _ _ _
   exact n1 ⟨rfl, trivial⟩
  ·have j4 := cdF h5 j4
   refine Lin.q (v := .bool (false)) (by decide) (Qo.eqv (v := .bool (decide (v0.1 = v1.1))) (Pu.qo (p_move rfl)) (congrArg Value.bool h5)) ?_
   refine Lin.skip (by decide) rfl ?_
   refine Lin.skip (by decide) rfl ?_
   refine Lin.skip (by decide) rfl ?_
   refine Lin.skip (by decide) rfl ?_
   refine Lin.skip (by decide) rfl ?_
   refine Lin.q (v := .bool (false)) (by decide) (Pu.qo (p_pickF rfl rfl)) ?_
   refine Lin.q (v := .bool (false)) (by decide) (Pu.qo (p_assign rfl)) ?_
   have j4 := Option.some.inj j4; subst j4
   show At _ _ _ _ _ _
   exact n1 ⟨rfl, trivial⟩
 refine tRet ?_
 have hr := Option.some.inj H; subst hr
 exact back1 () rfl (ResV.tmp (v := .bool (b3)) rfl) rfl Ents.nil Take.nil
noncomputable def p_slices_EqualFunc_Post_Post_Post_Post_IndexOk_1_b0 (v0 : (List Post)) (v1 : (List Post)) (Q8 : Int) : Option ((Int) ⊕ (Unit ⊕ Bool)) := cond (decide (Q8 < (v0.length : Int))) (gd (ix Q8 v0.length) <| gd (ix Q8 v1.length) <| bd (p_impl_IndexOk_1 (nth v0 Q8.toNat) (nth v1 Q8.toNat)) fun r21 => cond (!r21) (some (.inr (.inr false))) (gd (I64 (Q8 + 1)) <| some (.inl (Q8 + 1)))) (some (.inr (.inl ())))
noncomputable def p_slices_EqualFunc_Post_Post_Post_Post_IndexOk_1 (v0 : (List Post)) (v1 : (List Post)) : Option (Bool) := cond (!decide ((v0.length : Int) = (v1.length : Int))) (some false) (bd (lp (p_slices_EqualFunc_Post_Post_Post_Post_IndexOk_1_b0 v0 v1) 0) <| sw (fun _ => some true) (fun q => some q))
theorem c_slices_EqualFunc_Post_Post_Post_Post_IndexOk_1 {r : Bool} (v0 : (List Post)) (x_v0 : Option Addr × Nat) (v1 : (List Post)) (x_v1 : Option Addr × Nat) (H : p_slices_EqualFunc_Post_Post_Post_Post_IndexOk_1 v0 v1 = some r) : Fn' Try.prog 64 #[.slice x_v0.1 v0.length x_v0.2, .slice x_v1.1 v1.length x_v1.2, .func (.func 66) #[] #[]] [imm (.slice x_v0.1 v0.length x_v0.2) v0, imm (.slice x_v1.1 v1.length x_v1.2) v1] [] (ι := Unit) (fun _ => .bool (r)) (fun _ => []) (fun _ => []) := by
 refine calls_of (args := [_, _, _]) Try.func64 rfl (by kernel_rfl) Try.ntmps64 (by simp) fun c => ?_
 unfold p_slices_EqualFunc_Post_Post_Post_Post_IndexOk_1 at H
 refine Tr.openD Ent.z fun X1 => ?_
 refine Tr.openD Ent.z.s.s fun X2 => ?_
 refine Tr.seq (Tr.region ?_)
 refine Rg.q (v := .bool (false)) (Pu.qo (p_assign rfl)) (by decide) (Rg.nl (nT ?_))
 refine Tr.seq (Tr.seq (Tr.region ?_))
 refine Rg.q (v := .slice x_v0.1 v0.length x_v0.2) (Pu.qo (p_move rfl)) (by decide) ?_
 refine Rg.q (v := .int .i64 ((v0.length : Int))) (Pu.qo (p_len 33 Try.underlying24 rfl)) (by decide) ?_
 refine Rg.q (v := .slice x_v1.1 v1.length x_v1.2) (Pu.qo (p_move rfl)) (by decide) ?_
 refine Rg.q (v := .int .i64 ((v1.length : Int))) (Pu.qo (p_len 33 Try.underlying24 rfl)) (by decide) ?_
 refine Rg.q (v := .bool (!decide ((v0.length : Int) = (v1.length : Int)))) (Pu.qo (p_neq rfl rfl)) (by decide) (Rg.nl (nT ?_))
 refine Tr.cond (b := !decide ((v0.length : Int) = (v1.length : Int))) rfl (fun h3 => ?_) (fun h3 => ?_)
 ·have H := cdT h3 H
  refine Tr.seq (Tr.region ?_)
  refine Rg.q (v := .bool (false)) (Pu.qo (p_assign rfl)) (by decide) (Rg.nl (nT ?_))
  refine tRet ?_
  refine rT (?_)
  have hr := Option.some.inj H; subst hr
  exact back1 () rfl (ResV.tmp (v := .bool (false)) rfl) rfl Ents.nil Take.nil
 ·have H := cdF h3 H
  refine tSkip ?_
  refine nT (?_)
  refine Tr.seq (Tr.seq (Tr.region ?_))
  refine Rg.q (v := .slice x_v0.1 v0.length x_v0.2) (Pu.qo (p_move rfl)) (by decide) ?_
  refine Rg.q (v := .int .i64 ((v0.length : Int))) (Pu.qo (p_len 33 Try.underlying24 rfl)) (by decide) ?_
  refine Rg.q (v := .int .i64 (0)) (Pu.qo (p_move rfl)) (by decide) (Rg.nl (nT ?_))
  obtain ⟨x4, hx5, H⟩ := bd.of H
  obtain ⟨n6, hx5⟩ := lp.of hx5
  refine tMidNC (ι := { q : (Unit) × Unit // x4 = .inl q.1 }) (fun ψ => []) (fun ψ => []) ?_ ?_
  ·refine Tr.block ?_
   refine tLoopC (ι := { q : Nat × (Int) × Unit // itr (p_slices_EqualFunc_Post_Post_Post_Post_IndexOk_1_b0 v0 v1) q.1 q.2.1 = some x4 }) (fun ζ => [(1, .slice x_v1.1 v1.length x_v1.2), (2, .func (.func 66) #[] #[]), (15, .slice x_v0.1 v0.length x_v0.2), (16, .int .i64 ((v0.length : Int))), (17, .int .i64 (ζ.1.2.1))]) (fun ζ => []) (fun ζ => ζ.1.1) ⟨(n6, 0, ()), hx5⟩ ⟨rfl, rfl, rfl, rfl, rfl, trivial⟩ Take.nil ?_
   rintro ⟨⟨m7, Q8, z9⟩, hk14⟩
   obtain ⟨m15, t11, e, H1, hi12, hb13⟩ := itr.of (n := m7) (s := Q8) hk14
   subst e; unfold p_slices_EqualFunc_Post_Post_Post_Post_IndexOk_1_b0 at H1
   show Tr _ _ _ _ _ [(1, .slice x_v1.1 v1.length x_v1.2), (2, .func (.func 66) #[] #[]), (15, .slice x_v0.1 v0.length x_v0.2), (16, .int .i64 ((v0.length : Int))), (17, .int .i64 (Q8))] _ []
   refine Tr.seq (Tr.region ?_)
   refine Rg.q (v := .bool (decide (Q8 < (v0.length : Int)))) (Pu.qo (p_lss rfl rfl)) (by decide) (Rg.nl (nT ?_))
   refine Tr.seq ?_
   refine Tr.cond (b := decide (Q8 < (v0.length : Int))) rfl (fun h16 => ?_) (fun h16 => ?_)
   ·have H1 := cdT h16 H1
    refine tSkip ?_
    refine nT (Tr.seq ?_)
    refine Tr.block ?_
    refine Tr.seq (Tr.region ?_)
    refine Rg.q (v := .int .i64 (Q8)) (Pu.qo (p_move rfl)) (by decide) ?_
    obtain ⟨h17, H1⟩ := gd.of H1
    refine Rg.q (v := elp x_v0.1 (Q8.toNat * Enc.sz Post + 0)) (q_ixg (l := v0) (E := fun i => Dp.denc (nth v0 i) (X1 i)) (oa := x_v0.1) Try.underlying24 ty33 rfl rfl h17 rfl (Ent.b (Ent.darr Ent.z.s))) (by decide) ?_
    refine Rg.q (v := .agg #[.string (((nth v0 Q8.toNat).1).1), .string (((nth v0 Q8.toNat).1).2), .slice (((X1 Q8.toNat).2).1) (((nth v0 Q8.toNat).2).length) (((X1 Q8.toNat).2).2.1)]) (q_ldeA (l := v0) (E := fun i => Dp.denc (nth v0 i) (X1 i)) (oa := x_v0.1) (i := Q8.toNat) ty33 rfl (Ent.b (Ent.darr Ent.z.s)) h17.lt) (by decide) ?_
    refine Rg.ed (e_alloc ty33) rfl (by decide) ?_
    rintro _ _ _ ⟨g18, rfl, rfl, rfl⟩
    refine Rg.q (v := .int .i64 (Q8)) (Pu.qo (p_assign rfl)) (by decide) ?_
    refine Rg.en (e_store (v := .agg #[.string (((nth v0 Q8.toNat).1).1), .string (((nth v0 Q8.toNat).1).2), .slice (((X1 Q8.toNat).2).1) (((nth v0 Q8.toNat).2).length) (((X1 Q8.toNat).2).2.1)]) (cs' := [.string (((nth v0 Q8.toNat).1).1), .string (((nth v0 Q8.toNat).1).2), .slice (((X1 Q8.toNat).2).1) (((nth v0 Q8.toNat).2).length) (((X1 Q8.toNat).2).2.1)]) ty33 rfl rfl Upd.here rfl (by simp [Value.cells, Value.oneCell']) (Nat.le_of_ble_eq_true rfl) rfl) rfl ?_
    rintro _ _ _ ⟨rfl, rfl, rfl⟩
    refine Rg.nl (nT ?_)
    refine Tr.seq (Tr.region ?_)
    refine Rg.q (v := .slice x_v1.1 v1.length x_v1.2) (Pu.qo (p_move rfl)) (by decide) ?_
    refine Rg.q (v := .int .i64 (Q8)) (Pu.qo (p_move rfl)) (by decide) ?_
    obtain ⟨h19, H1⟩ := gd.of H1
    refine Rg.q (v := elp x_v1.1 (Q8.toNat * Enc.sz Post + 0)) (q_ixg (l := v1) (E := fun i => Dp.denc (nth v1 i) (X2 i)) (oa := x_v1.1) Try.underlying24 ty33 rfl rfl h19 rfl (Ent.b (Ent.darr Ent.z))) (by decide) ?_
    refine Rg.q (v := .agg #[.string (((nth v1 Q8.toNat).1).1), .string (((nth v1 Q8.toNat).1).2), .slice (((X2 Q8.toNat).2).1) (((nth v1 Q8.toNat).2).length) (((X2 Q8.toNat).2).2.1)]) (q_ldeA (l := v1) (E := fun i => Dp.denc (nth v1 i) (X2 i)) (oa := x_v1.1) (i := Q8.toNat) ty33 rfl (Ent.b (Ent.darr Ent.z)) h19.lt) (by decide) ?_
    refine Rg.ed (e_alloc ty33) rfl (by decide) ?_
    rintro _ _ _ ⟨g20, rfl, rfl, rfl⟩
    refine Rg.en (e_store (v := .agg #[.string (((nth v1 Q8.toNat).1).1), .string (((nth v1 Q8.toNat).1).2), .slice (((X2 Q8.toNat).2).1) (((nth v1 Q8.toNat).2).length) (((X2 Q8.toNat).2).2.1)]) (cs' := [.string (((nth v1 Q8.toNat).1).1), .string (((nth v1 Q8.toNat).1).2), .slice (((X2 Q8.toNat).2).1) (((nth v1 Q8.toNat).2).length) (((X2 Q8.toNat).2).2.1)]) ty33 rfl rfl Upd.here rfl (by simp [Value.cells, Value.oneCell']) (Nat.le_of_ble_eq_true rfl) rfl) rfl ?_
    rintro _ _ _ ⟨rfl, rfl, rfl⟩
    refine Rg.nl (nT ?_)
    refine Tr.seq (Tr.region ?_)
    refine Rg.q (v := .func (.func 66) #[] #[]) (Pu.qo (p_move rfl)) (by decide) ?_
    refine Rg.q (v := .agg #[.string (((nth v0 Q8.toNat).1).1), .string (((nth v0 Q8.toNat).1).2), .slice (((X1 Q8.toNat).2).1) (((nth v0 Q8.toNat).2).length) (((X1 Q8.toNat).2).2.1)]) (q_ldbA ty33 rfl Has.here.there rfl) (by decide) ?_
    refine Rg.q (v := .agg #[.string (((nth v1 Q8.toNat).1).1), .string (((nth v1 Q8.toNat).1).2), .slice (((X2 Q8.toNat).2).1) (((nth v1 Q8.toNat).2).length) (((X2 Q8.toNat).2).2.1)]) (q_ldbA ty33 rfl Has.here rfl) (by decide) ?_
    obtain ⟨r21, h22, H1⟩ := bd.of H1
    refine Rg.q (v := .bool (r21)) (Ex.dyn (caps := []) (vs := [.agg #[.string (((nth v0 Q8.toNat).1).1), .string (((nth v0 Q8.toNat).1).2), .slice (((X1 Q8.toNat).2).1) (((nth v0 Q8.toNat).2).length) (((X1 Q8.toNat).2).2.1)], .agg #[.string (((nth v1 Q8.toNat).1).1), .string (((nth v1 Q8.toNat).1).2), .slice (((X2 Q8.toNat).2).1) (((nth v1 Q8.toNat).2).length) (((X2 Q8.toNat).2).2.1)]]) rfl rfl (q_call (vs := [.agg #[.string (((nth v0 Q8.toNat).1).1), .string (((nth v0 Q8.toNat).1).2), .slice (((X1 Q8.toNat).2).1) (((nth v0 Q8.toNat).2).length) (((X1 Q8.toNat).2).2.1)], .agg #[.string (((nth v1 Q8.toNat).1).1), .string (((nth v1 Q8.toNat).1).2), .slice (((X2 Q8.toNat).2).1) (((nth v1 Q8.toNat).2).length) (((X2 Q8.toNat).2).2.1)]]) (c_impl_IndexOk_1 (nth v0 Q8.toNat) (((), ()), (((X1 Q8.toNat).2).1, ((X1 Q8.toNat).2).2.1)) (nth v1 Q8.toNat) (((), ()), (((X2 Q8.toNat).2).1, ((X2 Q8.toNat).2).2.1)) h22) rfl (EntsB.cons (Ent.b (Ent.dimm (Ent.dsnd (Ent.del Ent.z.s h17.lt)))) (EntsB.cons (Ent.b (Ent.dimm (Ent.dsnd (Ent.del Ent.z h19.lt)))) EntsB.nil)))) (by decide) ?_
    refine Rg.q (v := .bool (!r21)) (Pu.qo (p_not rfl)) (by decide) (Rg.nl (nT ?_))
    refine Tr.cond (b := !r21) rfl (fun h23 => ?_) (fun h23 => ?_)
    ·have H1 := cdT h23 H1
     refine Tr.seq (Tr.region ?_)
     refine Rg.q (v := .bool (false)) (Pu.qo (p_assign rfl)) (by decide) (Rg.nl (nT ?_))
     refine tRet ?_
     refine rB (rT (rT (rB (rT (rT (?_))))))
     have hx := hb13 _ (Option.some.inj H1).symm; subst hx
     replace H := sw.r H
     have hr := Option.some.inj H; subst hr
     exact back1 () rfl (ResV.tmp (v := .bool (false)) rfl) rfl Ents.nil Take.nil
    ·have H1 := cdF h23 H1
     refine tSkip ?_
     refine nB (nT (?_))
     refine Tr.region ?_
     obtain ⟨h24, H1⟩ := gd.of H1
     refine Rg.q (v := .int .i64 (Q8 + 1)) (Pu.qo (p_add rfl rfl h24)) (by decide) ?_
     refine Rg.q (v := .int .i64 (Q8 + 1)) (Pu.qo (p_move rfl)) (by decide) (Rg.nl ?_)
     exact nLC ⟨(m15, Q8 + 1, ()), hi12 _ (Option.some.inj H1).symm⟩ (Nat.lt_succ_self _) ⟨rfl, rfl, rfl, rfl, rfl, trivial⟩ Ents.refl Take.nil
   ·have H1 := cdF h16 H1
    refine tExit (xT (xT (xE (?_))))
    exact nMC ⟨((), ()), (hb13 _ (Option.some.inj H1).symm).symm⟩ trivial Ents.refl Take.nil
  ·rintro ⟨⟨e25, y10⟩, hx⟩; subst hx; replace H := sw.l H
   show At _ _ [] _ [] _
   refine nT (?_)
   refine Tr.seq (Tr.region ?_)
   refine Rg.q (v := .bool (true)) (Pu.qo (p_assign rfl)) (by decide) (Rg.nl (nT ?_))
   refine tRet ?_
   have hr := Option.some.inj H; subst hr
   exact back1 () rfl (ResV.tmp (v := .bool (true)) rfl) rfl Ents.nil Take.nil
noncomputable def p_impl_IndexOk (v0 : Index) : Option (Bool) := bd (p_impl_namesOk v0.1) fun r4 => cond (r4) (bd (p_impl_indexOf v0.1) fun r7 => bd (p_slices_EqualFunc_Post_Post_Post_Post_IndexOk_1 v0.2 r7.2) fun r10 => some r10) (some false)
theorem c_impl_IndexOk {r : Bool} (v0 : Index) (x_v0 : (Option Addr × Nat) × (Option Addr × Nat)) (H : p_impl_IndexOk v0 = some r) : Fn' Try.prog 18 #[.agg #[.slice x_v0.1.1 v0.1.length x_v0.1.2, .slice x_v0.2.1 v0.2.length x_v0.2.2]] [imm (.slice x_v0.1.1 v0.1.length x_v0.1.2) v0.1, imm (.slice x_v0.2.1 v0.2.length x_v0.2.2) v0.2] [] (ι := Unit) (fun _ => .bool (r)) (fun _ => []) (fun _ => []) := by
 refine calls_of (args := [_]) Try.func18 rfl (by kernel_rfl) Try.ntmps18 (by simp) fun c => ?_
 unfold p_impl_IndexOk at H
 refine Tr.openD Ent.z fun X1 => ?_
 refine Tr.openD Ent.z.s.s fun X2 => ?_
 refine Tr.seq (Tr.region ?_)
 refine Rg.ed (e_box (t := 26) (v := .agg #[.slice x_v0.1.1 v0.1.length x_v0.1.2, .slice x_v0.2.1 v0.2.length x_v0.2.2]) rfl) rfl (by decide) ?_
 rintro _ _ _ ⟨g3, rfl, rfl, rfl⟩
 refine Rg.q (v := .bool (false)) (Pu.qo (p_assign rfl)) (by decide) (Rg.nl (nT ?_))
 refine Tr.seq ?_
 obtain ⟨r4, h5, H⟩ := bd.of H
 rcases Bool.eq_false_or_eq_true (r4) with h6 | h6
 ·have H := cdT h6 H
  refine tNwS [(1, .pointer (some ⟨g3, 0, none⟩))] 2 [0, 1, 2, 3, 4, 5, 6, 7, 8, 9, 10, 11, 12] [8] [] Try.mixed (by kernel_rfl) (by decide) List.nodup_nil ⟨rfl, trivial⟩ rfl okNil ?_
  refine w_pu (v := .pointer (some ⟨g3, 0, none⟩)) rfl (by decide) rfl rfl rfl (p_fabE fa26_0 rfl rfl) ?_
  refine w_q (v := .slice x_v0.1.1 v0.1.length x_v0.1.2) rfl (by decide) rfl rfl rfl (fun F => (q_ldb ty23 rfl (Has.here.app F) rfl)) ?_
  refine w_q (v := .bool (r4)) rfl (by decide) rfl rfl rfl (fun F => (q_call (vs := [.slice x_v0.1.1 v0.1.length x_v0.1.2]) (c_impl_namesOk v0.1 x_v0.1 h5) rfl (EntsB.cons (Ent.b (Ent.dimm Ent.z.s)) EntsB.nil))) ?_
  refine w_pu (v := .bool (true)) rfl (by decide) rfl rfl rfl ((Pu.eqv (v := .bool (r4)) (p_move rfl) (congrArg Value.bool h6))) ?_
  refine w_pu (v := .pointer (some ⟨g3, 1, none⟩)) rfl (by decide) rfl rfl rfl (p_fabE fa26_1 rfl rfl) ?_
  refine w_q (v := .slice x_v0.2.1 v0.2.length x_v0.2.2) rfl (by decide) rfl rfl rfl (fun F => (q_ldb ty24 rfl (Has.here.app F) rfl)) ?_
  refine w_pu (v := .pointer (some ⟨g3, 0, none⟩)) rfl (by decide) rfl rfl rfl (p_fabE fa26_0 rfl rfl) ?_
  refine w_q (v := .slice x_v0.1.1 v0.1.length x_v0.1.2) rfl (by decide) rfl rfl rfl (fun F => (q_ldb ty23 rfl (Has.here.app F) rfl)) ?_
  obtain ⟨r7, h8, H⟩ := bd.of H
  refine w_ed rfl (by decide) rfl Rdy.nil rfl (n_callB (vs := [.slice x_v0.1.1 v0.1.length x_v0.1.2]) (c_impl_indexOf v0.1 x_v0.1 h8) (fun _ => (Solo.tree (Solo.tree Solo.nil))) rfl (EntsB.cons (Ent.b (Ent.dimm Ent.z.s)) EntsB.nil)) ?_
  rintro _ _ _ ⟨x9, rfl, rfl, rfl⟩
  refine ⟨(PdOk.anc (by kernel_rfl) (PdOk.q rfl rfl (fun F => (q_ldb ty24 rfl (Has.here.there.there.app F) rfl)) (PdOk.anc (by kernel_rfl) (PdOk.q rfl rfl (fun F => (q_ldb ty23 rfl (Has.here.there.there.app F) rfl)) PdOk.nil)))), ?_⟩
  refine w_pu (v := .slice x9.2.1 r7.2.length x9.2.2) rfl (by decide) rfl rfl rfl ((p_field1 Try.underlying26 rfl ty24 rfl rfl)) ?_
  obtain ⟨r10, h11, H⟩ := bd.of H
  refine w_q (v := .bool (r10)) rfl (by decide) rfl rfl rfl (fun F => (q_call (vs := [.slice x_v0.2.1 v0.2.length x_v0.2.2, .slice x9.2.1 r7.2.length x9.2.2, .func (.func 66) #[] #[]]) (c_slices_EqualFunc_Post_Post_Post_Post_IndexOk_1 v0.2 x_v0.2 r7.2 x9.2 h11) rfl (EntsB.cons (Ent.b (Ent.dimm Ent.z)) (EntsB.cons (EntB.tree (Has.here.there.app F)) EntsB.nil)))) ?_
  refine w_pu (v := .bool (r10)) rfl (by decide) rfl rfl rfl (p_pickT rfl rfl) ?_
  refine w_pu (v := .bool (r10)) rfl (by decide) rfl rfl rfl (p_assign rfl) ?_
  refine w_nil ?_
  show At _ _ _ _ _ _
  refine nT (?_)
  refine tRet ?_
  have hr := Option.some.inj H; subst hr
  exact back1 () rfl (ResV.tmp (v := .bool (r10)) rfl) rfl Ents.nil Take.nil
 ·have H := cdF h6 H
  refine tNwS [(1, .pointer (some ⟨g3, 0, none⟩))] 1 [0, 1, 2, 3, 4, 5, 6, 7, 8, 9, 10, 11, 12] [] [] Try.mixed (by kernel_rfl) (by decide) List.nodup_nil ⟨rfl, trivial⟩ rfl okNil ?_
  refine w_pu (v := .pointer (some ⟨g3, 0, none⟩)) rfl (by decide) rfl rfl rfl (p_fabE fa26_0 rfl rfl) ?_
  refine w_q (v := .slice x_v0.1.1 v0.1.length x_v0.1.2) rfl (by decide) rfl rfl rfl (fun F => (q_ldb ty23 rfl (Has.here.app F) rfl)) ?_
  refine w_q (v := .bool (r4)) rfl (by decide) rfl rfl rfl (fun F => (q_call (vs := [.slice x_v0.1.1 v0.1.length x_v0.1.2]) (c_impl_namesOk v0.1 x_v0.1 h5) rfl (EntsB.cons (Ent.b (Ent.dimm Ent.z.s)) EntsB.nil))) ?_
  refine w_pu (v := .bool (false)) rfl (by decide) rfl rfl rfl ((Pu.eqv (v := .bool (r4)) (p_move rfl) (congrArg Value.bool h6))) ?_
  refine w_skip rfl (by decide) rfl rfl rfl ?_
  refine w_skip rfl (by decide) rfl rfl rfl ?_
  refine w_skip rfl (by decide) rfl rfl rfl ?_
  refine w_skip rfl (by decide) rfl rfl rfl ?_
  refine w_skip rfl (by decide) rfl rfl rfl ?_
  refine w_skip rfl (by decide) rfl rfl rfl ?_
  refine w_skip rfl (by decide) rfl rfl rfl ?_
  refine w_pu (v := .bool (false)) rfl (by decide) rfl rfl rfl (p_pickF rfl rfl) ?_
  refine w_pu (v := .bool (false)) rfl (by decide) rfl rfl rfl (p_assign rfl) ?_
  refine w_nil ?_
  show At _ _ _ _ _ _
  refine nT (?_)
  refine tRet ?_
  have hr := Option.some.inj H; subst hr
  exact back1 () rfl (ResV.tmp (v := .bool (false)) rfl) rfl Ents.nil Take.nil
noncomputable def p_spec_l11Less (v0 : Tag) (v1 : Tag) : Option (Bool) := bd (cond (sless v0.1 v1.1) (some (true)) (cond (decide (v0.1 = v1.1)) (some (sless v0.2 v1.2)) (some (false)))) fun b3 => some b3
theorem c_spec_l11Less {r : Bool} (v0 : Tag) (v1 : Tag) (H : p_spec_l11Less v0 v1 = some r) : Fn' Try.prog 71 #[.agg #[.string (v0.1), .string (v0.2)], .agg #[.string (v1.1), .string (v1.2)]] [] [] (ι := Unit) (fun _ => .bool (r)) (fun _ => []) (fun _ => []) := by
 refine calls_of (args := [_, _]) Try.func71 rfl (by kernel_rfl) Try.ntmps71 (by simp) fun c => ?_
 unfold p_spec_l11Less at H
 refine Tr.seq (Tr.region ?_)
 refine Rg.ed (e_box (t := 30) (v := .agg #[.string (v0.1), .string (v0.2)]) rfl) rfl (by decide) ?_
 rintro _ _ _ ⟨g1, rfl, rfl, rfl⟩
 refine Rg.ed (e_box (t := 30) (v := .agg #[.string (v1.1), .string (v1.2)]) rfl) rfl (by decide) ?_
 rintro _ _ _ ⟨g2, rfl, rfl, rfl⟩
 refine Rg.q (v := .bool (false)) (Pu.qo (p_assign rfl)) (by decide) (Rg.nl (nT ?_))
 obtain ⟨b3, j4, H⟩ := bd.of H
 refine tMid1 [(4, .bool (b3))] ?_ ?_
 ·refine tLinT [(3, .pointer (some ⟨g2, 0, none⟩)), (2, .pointer (some ⟨g1, 0, none⟩))] ⟨rfl, rfl, trivial⟩ ?_
  refine Lin.q (v := .pointer (some ⟨g1, 0, none⟩)) (by decide) (Pu.qo (p_fabE fa30_0 rfl rfl)) ?_
  refine Lin.q (v := .string (v0.1)) (by decide) (q_ldb ty9 rfl Has.here.there rfl) ?_
  refine Lin.q (v := .pointer (some ⟨g2, 0, none⟩)) (by decide) (Pu.qo (p_fabE fa30_0 rfl rfl)) ?_
  refine Lin.q (v := .string (v1.1)) (by decide) (q_ldb ty9 rfl Has.here rfl) ?_
  refine Lin.q (v := .bool (sless v0.1 v1.1)) (by decide) (Pu.qo (p_slss rfl rfl)) ?_
  rcases Bool.eq_false_or_eq_true (sless v0.1 v1.1) with h5 | h5
  ·have j4 := cdT h5 j4
   refine Lin.q (v := .bool (true)) (by decide) (Qo.eqv (v := .bool (sless v0.1 v1.1)) (Pu.qo (p_move rfl)) (congrArg Value.bool h5)) ?_
   refine Lin.skip (by decide) rfl ?_
   refine Lin.skip (by decide) rfl ?_
   refine Lin.skip (by decide) rfl ?_
   refine Lin.skip (by decide) rfl ?_
   refine Lin.skip (by decide) rfl ?_
   refine Lin.skip (by decide) rfl ?_
   refine Lin.skip (by decide) rfl ?_
   refine Lin.skip (by decide) rfl ?_
   refine Lin.skip (by decide) rfl ?_
   refine Lin.skip (by decide) rfl ?_
   refine Lin.skip (by decide) rfl ?_
   refine Lin.skip (by decide) rfl ?_
   refine Lin.q (v := .bool (true)) (by decide) (Pu.qo (p_pickT rfl rfl)) ?_
   refine Lin.q (v := .bool (true)) (by decide) (Pu.qo (p_assign rfl)) ?_
   have j4 := Option.some.inj j4; subst j4
   show At _ _ _ _ _ _
   exact n1 ⟨rfl, trivial⟩
  ·have j4 := cdF h5 j4
   refine Lin.q (v := .bool (false)) (by decide) (Qo.eqv (v := .bool (sless v0.1 v1.1)) (Pu.qo (p_move rfl)) (congrArg Value.bool h5)) ?_
   refine Lin.g (v := .pointer (some ⟨g1, 0, none⟩)) (by decide) rfl (Pu.qo (p_fabE fa30_0 rfl rfl)) ?_
   refine Lin.g (v := .string (v0.1)) (by decide) rfl (q_ldb ty9 rfl Has.here.there rfl) ?_
   refine Lin.g (v := .pointer (some ⟨g2, 0, none⟩)) (by decide) rfl (Pu.qo (p_fabE fa30_0 rfl rfl)) ?_
   refine Lin.g (v := .string (v1.1)) (by decide) rfl (q_ldb ty9 rfl Has.here rfl) ?_
   refine Lin.g (v := .bool (decide (v0.1 = v1.1))) (by decide) rfl (Pu.qo (p_seql rfl rfl)) ?_
   rcases Bool.eq_false_or_eq_true (decide (v0.1 = v1.1)) with h6 | h6
   ·have j4 := cdT h6 j4
    refine Lin.g (v := .bool (true)) (by decide) rfl (Qo.eqv (v := .bool (decide (v0.1 = v1.1))) (Pu.qo (p_move rfl)) (congrArg Value.bool h6)) ?_
    refine Lin.g (v := .pointer (some ⟨g1, 1, none⟩)) (by decide) rfl (Pu.qo (p_fabE fa30_1 rfl rfl)) ?_
    refine Lin.g (v := .string (v0.2)) (by decide) rfl (q_ldb ty9 rfl Has.here.there rfl) ?_
    refine Lin.g (v := .pointer (some ⟨g2, 1, none⟩)) (by decide) rfl (Pu.qo (p_fabE fa30_1 rfl rfl)) ?_
    refine Lin.g (v := .string (v1.2)) (by decide) rfl (q_ldb ty9 rfl Has.here rfl) ?_
    refine Lin.g (v := .bool (sless v0.2 v1.2)) (by decide) rfl (Pu.qo (p_slss rfl rfl)) ?_
    refine Lin.g (v := .bool (sless v0.2 v1.2)) (by decide) rfl (Pu.qo (p_pickT rfl rfl)) ?_
    refine Lin.q (v := .bool (sless v0.2 v1.2)) (by decide) (Pu.qo (p_pickF rfl rfl)) ?_
    refine Lin.q (v := .bool (sless v0.2 v1.2)) (by decide) (Pu.qo (p_assign rfl)) ?_
    have j4 := Option.some.inj j4; subst j4
    show At _ _ _ _ _ _
    exact n1 ⟨rfl, trivial⟩
   ·have j4 := cdF h6 j4
    refine Lin.g (v := .bool (false)) (by decide) rfl (Qo.eqv (v := .bool (decide (v0.1 = v1.1))) (Pu.qo (p_move rfl)) (congrArg Value.bool h6)) ?_
    refine Lin.skip (by decide) rfl ?_
    refine Lin.skip (by decide) rfl ?_
    refine Lin.skip (by decide) rfl ?_
    refine Lin.skip (by decide) rfl ?_
    refine Lin.skip (by decide) rfl ?_
    refine Lin.g (v := .bool (false)) (by decide) rfl (Pu.qo (p_pickF rfl rfl)) ?_
    refine Lin.q (v := .bool (false)) (by decide) (Pu.qo (p_pickF rfl rfl)) ?_
    refine Lin.q (v := .bool (false)) (by decide) (Pu.qo (p_assign rfl)) ?_
    have j4 := Option.some.inj j4; subst j4
    show At _ _ _ _ _ _
    exact n1 ⟨rfl, trivial⟩
 refine tRet ?_
 have hr := Option.some.inj H; subst hr
 exact back1 () rfl (ResV.tmp (v := .bool (b3)) rfl) rfl Ents.nil Take.nil
noncomputable def p_spec_l11Same_b0 (v0 : (List Int)) (v1 : (List Int)) (Q6 : Int) : Option ((Int) ⊕ (Unit ⊕ Bool)) := cond (decide (Q6 < (v0.length : Int))) (gd (ix Q6 v0.length) <| gd (ix Q6 v1.length) <| cond (!decide ((nth v0 Q6.toNat) = (nth v1 Q6.toNat))) (some (.inr (.inr false))) (gd (I64 (Q6 + 1)) <| some (.inl (Q6 + 1)))) (some (.inr (.inl ())))
noncomputable def p_spec_l11Same (v0 : (List Int)) (v1 : (List Int)) : Option (Bool) := cond (!decide ((v0.length : Int) = (v1.length : Int))) (some false) (bd (lp (p_spec_l11Same_b0 v0 v1) 0) <| sw (fun _ => some true) (fun q => some q))
theorem c_spec_l11Same {r : Bool} (v0 : (List Int)) (x_v0 : Option Addr × Nat) (v1 : (List Int)) (x_v1 : Option Addr × Nat) (H : p_spec_l11Same v0 v1 = some r) : Fn' Try.prog 69 #[.slice x_v0.1 v0.length x_v0.2, .slice x_v1.1 v1.length x_v1.2] [imm (.slice x_v0.1 v0.length x_v0.2) v0, imm (.slice x_v1.1 v1.length x_v1.2) v1] [] (ι := Unit) (fun _ => .bool (r)) (fun _ => []) (fun _ => []) := by
 refine calls_of (args := [_, _]) Try.func69 rfl (by kernel_rfl) Try.ntmps69 (by simp) fun c => ?_
 unfold p_spec_l11Same at H
 refine Tr.seq (Tr.region ?_)
 refine Rg.q (v := .bool (false)) (Pu.qo (p_assign rfl)) (by decide) (Rg.nl (nT ?_))
 refine Tr.seq (Tr.seq (Tr.region ?_))
 refine Rg.q (v := .slice x_v0.1 v0.length x_v0.2) (Pu.qo (p_move rfl)) (by decide) ?_
 refine Rg.q (v := .int .i64 ((v0.length : Int))) (Pu.qo (p_len 3 Try.underlying31 rfl)) (by decide) ?_
 refine Rg.q (v := .slice x_v1.1 v1.length x_v1.2) (Pu.qo (p_move rfl)) (by decide) ?_
 refine Rg.q (v := .int .i64 ((v1.length : Int))) (Pu.qo (p_len 3 Try.underlying31 rfl)) (by decide) ?_
 refine Rg.q (v := .bool (!decide ((v0.length : Int) = (v1.length : Int)))) (Pu.qo (p_neq rfl rfl)) (by decide) (Rg.nl (nT ?_))
 refine Tr.cond (b := !decide ((v0.length : Int) = (v1.length : Int))) rfl (fun h1 => ?_) (fun h1 => ?_)
 ·have H := cdT h1 H
  refine Tr.seq (Tr.region ?_)
  refine Rg.q (v := .bool (false)) (Pu.qo (p_assign rfl)) (by decide) (Rg.nl (nT ?_))
  refine tRet ?_
  refine rT (?_)
  have hr := Option.some.inj H; subst hr
  exact back1 () rfl (ResV.tmp (v := .bool (false)) rfl) rfl Ents.nil Take.nil
 ·have H := cdF h1 H
  refine tSkip ?_
  refine nT (?_)
  refine Tr.seq (Tr.seq (Tr.region ?_))
  refine Rg.q (v := .int .i64 (0)) (Pu.qo (p_assign rfl)) (by decide) (Rg.nl (nT ?_))
  obtain ⟨x2, hx3, H⟩ := bd.of H
  obtain ⟨n4, hx3⟩ := lp.of hx3
  refine tMidNC (ι := { q : (Unit) × Unit // x2 = .inl q.1 }) (fun ψ => []) (fun ψ => []) ?_ ?_
  ·refine Tr.block ?_
   refine tLoopC (ι := { q : Nat × (Int) × Unit // itr (p_spec_l11Same_b0 v0 v1) q.1 q.2.1 = some x2 }) (fun ζ => [(0, .slice x_v0.1 v0.length x_v0.2), (1, .slice x_v1.1 v1.length x_v1.2), (5, .int .i64 (ζ.1.2.1))]) (fun ζ => []) (fun ζ => ζ.1.1) ⟨(n4, 0, ()), hx3⟩ ⟨rfl, rfl, rfl, trivial⟩ Take.nil ?_
   rintro ⟨⟨m5, Q6, z7⟩, hk12⟩
   obtain ⟨m13, t9, e, H1, hi10, hb11⟩ := itr.of (n := m5) (s := Q6) hk12
   subst e; unfold p_spec_l11Same_b0 at H1
   show Tr _ _ _ _ _ [(0, .slice x_v0.1 v0.length x_v0.2), (1, .slice x_v1.1 v1.length x_v1.2), (5, .int .i64 (Q6))] _ []
   refine Tr.seq (Tr.seq (Tr.region ?_))
   refine Rg.q (v := .int .i64 (Q6)) (Pu.qo (p_move rfl)) (by decide) ?_
   refine Rg.q (v := .slice x_v0.1 v0.length x_v0.2) (Pu.qo (p_move rfl)) (by decide) ?_
   refine Rg.q (v := .int .i64 ((v0.length : Int))) (Pu.qo (p_len 3 Try.underlying31 rfl)) (by decide) ?_
   refine Rg.q (v := .bool (decide (Q6 < (v0.length : Int)))) (Pu.qo (p_lss rfl rfl)) (by decide) (Rg.nl (nT ?_))
   refine Tr.cond (b := decide (Q6 < (v0.length : Int))) rfl (fun h14 => ?_) (fun h14 => ?_)
   ·have H1 := cdT h14 H1
    refine tSkip ?_
    refine nT (Tr.seq ?_)
    refine Tr.block ?_
    refine Tr.seq ?_
    refine tLinS [(0, .slice x_v0.1 v0.length x_v0.2), (1, .slice x_v1.1 v1.length x_v1.2), (5, .int .i64 (Q6))] Try.mixed (.inr (by kernel_rfl)) ⟨rfl, rfl, rfl, trivial⟩ rfl ?_
    refine Lin.q (v := .slice x_v0.1 v0.length x_v0.2) (by decide) (Pu.qo (p_move rfl)) ?_
    refine Lin.q (v := .int .i64 (Q6)) (by decide) (Pu.qo (p_move rfl)) ?_
    obtain ⟨h15, H1⟩ := gd.of H1
    refine Lin.q (v := elp x_v0.1 (Q6.toNat * Enc.sz Int + 0)) (by decide) (q_ixg (l := v0) (E := fun i => Flat.enc (nth v0 i)) (oa := x_v0.1) Try.underlying31 ty3 rfl rfl h15 rfl (EntB.flat (Ent.b Ent.z))) ?_
    refine Lin.q (v := .int .i64 (nth v0 Q6.toNat)) (by decide) (q_lde (l := v0) (E := fun i => Flat.enc (nth v0 i)) (oa := x_v0.1) (i := Q6.toNat) (j := 0) ty3 rfl (EntB.flat (Ent.b Ent.z)) h15.lt rfl) ?_
    refine Lin.q (v := .slice x_v1.1 v1.length x_v1.2) (by decide) (Pu.qo (p_move rfl)) ?_
    refine Lin.q (v := .int .i64 (Q6)) (by decide) (Pu.qo (p_move rfl)) ?_
    obtain ⟨h16, H1⟩ := gd.of H1
    refine Lin.q (v := elp x_v1.1 (Q6.toNat * Enc.sz Int + 0)) (by decide) (q_ixg (l := v1) (E := fun i => Flat.enc (nth v1 i)) (oa := x_v1.1) Try.underlying31 ty3 rfl rfl h16 rfl (EntB.flat (Ent.b Ent.z.s))) ?_
    refine Lin.q (v := .int .i64 (nth v1 Q6.toNat)) (by decide) (q_lde (l := v1) (E := fun i => Flat.enc (nth v1 i)) (oa := x_v1.1) (i := Q6.toNat) (j := 0) ty3 rfl (EntB.flat (Ent.b Ent.z.s)) h16.lt rfl) ?_
    refine Lin.q (v := .bool (!decide ((nth v0 Q6.toNat) = (nth v1 Q6.toNat)))) (by decide) (Pu.qo (p_neq rfl rfl)) ?_
    show At _ _ _ _ _ _
    refine nT (?_)
    refine Tr.cond (b := !decide ((nth v0 Q6.toNat) = (nth v1 Q6.toNat))) rfl (fun h17 => ?_) (fun h17 => ?_)
    ·have H1 := cdT h17 H1
     refine Tr.seq (Tr.region ?_)
     refine Rg.q (v := .bool (false)) (Pu.qo (p_assign rfl)) (by decide) (Rg.nl (nT ?_))
     refine tRet ?_
     refine rB (rT (rT (rB (rT (rT (?_))))))
     have hx := hb11 _ (Option.some.inj H1).symm; subst hx
     replace H := sw.r H
     have hr := Option.some.inj H; subst hr
     exact back1 () rfl (ResV.tmp (v := .bool (false)) rfl) rfl Ents.nil Take.nil
    ·have H1 := cdF h17 H1
     refine tSkip ?_
     refine nB (nT (?_))
     refine Tr.region ?_
     refine Rg.q (v := .int .i64 (Q6)) (Pu.qo (p_move rfl)) (by decide) ?_
     obtain ⟨h18, H1⟩ := gd.of H1
     refine Rg.q (v := .int .i64 (Q6 + 1)) (Pu.qo (p_add rfl rfl h18)) (by decide) ?_
     refine Rg.q (v := .int .i64 (Q6 + 1)) (Pu.qo (p_assign rfl)) (by decide) (Rg.nl ?_)
     exact nLC ⟨(m13, Q6 + 1, ()), hi10 _ (Option.some.inj H1).symm⟩ (Nat.lt_succ_self _) ⟨rfl, rfl, rfl, trivial⟩ Ents.refl Take.nil
   ·have H1 := cdF h14 H1
    refine tExit (xT (xT (xE (?_))))
    exact nMC ⟨((), ()), (hb11 _ (Option.some.inj H1).symm).symm⟩ trivial Ents.refl Take.nil
  ·rintro ⟨⟨e19, y8⟩, hx⟩; subst hx; replace H := sw.l H
   show At _ _ [] _ [] _
   refine nT (?_)
   refine Tr.seq (Tr.region ?_)
   refine Rg.q (v := .bool (true)) (Pu.qo (p_assign rfl)) (by decide) (Rg.nl (nT ?_))
   refine tRet ?_
   have hr := Option.some.inj H; subst hr
   exact back1 () rfl (ResV.tmp (v := .bool (true)) rfl) rfl Ents.nil Take.nil
noncomputable def p_spec_IndexOk_b1 (v0 : Index) (Q9 : Int × Int) (Q26 : Int) : Option ((Int) ⊕ (Unit ⊕ Bool)) := cond (decide (Q26 < Q9.2)) (bd (p_spec_l3Text (nth v0.1 Q9.2.toNat)) fun r35 => gd (ix Q26 v0.1.length) <| bd (p_spec_l3Text (nth v0.1 Q26.toNat)) fun r38 => cond (decide (r35 = r38)) (some (.inr (.inr false))) (gd (I64 (Q26 + 1)) <| some (.inl (Q26 + 1)))) (some (.inr (.inl ())))
noncomputable def p_spec_IndexOk_b0 (v0 : Index) (Q9 : Int × Int) : Option ((Int × Int) ⊕ (Int ⊕ Bool)) := cond (decide (Q9.2 < (v0.1.length : Int))) (gd (ix Q9.2 v0.1.length) <| bd (p_spec_NameOk (nth v0.1 Q9.2.toNat)) fun r19 => cond (!r19) (some (.inr (.inr false))) (bd (lp (p_spec_IndexOk_b1 v0 Q9) 0) <| sw (fun _ => gd (I64 (Q9.1 + ((nth v0.1 Q9.2.toNat).length : Int))) <| gd (I64 (Q9.2 + 1)) <| some (.inl (Q9.1 + ((nth v0.1 Q9.2.toNat).length : Int), Q9.2 + 1))) (fun q => some (.inr (.inr q))))) (some (.inr (.inl Q9.1)))
noncomputable def p_spec_IndexOk_b2 (v0 : Index) (Q50 : Int × Int) : Option ((Int × Int) ⊕ (Int ⊕ Bool)) := cond (decide (Q50.2 < (v0.2.length : Int))) (gd (ix Q50.2 v0.2.length) <| cond (decide ((((nth v0.2 Q50.2.toNat).2).length : Int) = 0)) (some (.inr (.inr false))) (bd (p_spec_l11Ids v0.1 ((nth v0.2 Q50.2.toNat).1)) fun r62 => bd (p_spec_l11Same ((nth v0.2 Q50.2.toNat).2) r62) fun r65 => cond (!r65) (some (.inr (.inr false))) (cond (decide (0 < Q50.2)) (gd (I64 (Q50.2 - 1)) <| gd (ix (Q50.2 - 1) v0.2.length) <| bd (p_spec_l11Less ((nth v0.2 ((Q50.2 - 1).toNat)).1) ((nth v0.2 Q50.2.toNat).1)) fun r71 => cond (!r71) (some (.inr (.inr false))) (gd (I64 (Q50.1 - (((nth v0.2 Q50.2.toNat).2).length : Int))) <| gd (I64 (Q50.2 + 1)) <| some (.inl (Q50.1 - (((nth v0.2 Q50.2.toNat).2).length : Int), Q50.2 + 1)))) (gd (I64 (Q50.1 - (((nth v0.2 Q50.2.toNat).2).length : Int))) <| gd (I64 (Q50.2 + 1)) <| some (.inl (Q50.1 - (((nth v0.2 Q50.2.toNat).2).length : Int), Q50.2 + 1)))))) (some (.inr (.inl Q50.1)))
noncomputable def p_spec_IndexOk (v0 : Index) : Option (Bool) := cond (decide (6 < (v0.1.length : Int))) (some false) (bd (lp (p_spec_IndexOk_b0 v0) (0, 0)) <| sw (fun e45 => bd (lp (p_spec_IndexOk_b2 v0) (e45, 0)) <| sw (fun e78 => some (decide (e78 = 0))) (fun q => some q)) (fun q => some q))
theorem c_spec_IndexOk {r : Bool} (v0 : Index) (x_v0 : (Option Addr × Nat) × (Option Addr × Nat)) (H : p_spec_IndexOk v0 = some r) : Fn' Try.prog 19 #[.agg #[.slice x_v0.1.1 v0.1.length x_v0.1.2, .slice x_v0.2.1 v0.2.length x_v0.2.2]] [imm (.slice x_v0.1.1 v0.1.length x_v0.1.2) v0.1, imm (.slice x_v0.2.1 v0.2.length x_v0.2.2) v0.2] [] (ι := Unit) (fun _ => .bool (r)) (fun _ => []) (fun _ => []) := by
 refine calls_of (args := [_]) Try.func19 rfl (by kernel_rfl) Try.ntmps19 (by simp) fun c => ?_
 unfold p_spec_IndexOk at H
 refine Tr.openD Ent.z fun X1 => ?_
 refine Tr.openD Ent.z.s.s fun X2 => ?_
 refine Tr.seq (Tr.region ?_)
 refine Rg.ed (e_box (t := 26) (v := .agg #[.slice x_v0.1.1 v0.1.length x_v0.1.2, .slice x_v0.2.1 v0.2.length x_v0.2.2]) rfl) rfl (by decide) ?_
 rintro _ _ _ ⟨g3, rfl, rfl, rfl⟩
 refine Rg.q (v := .bool (false)) (Pu.qo (p_assign rfl)) (by decide) (Rg.nl (nT ?_))
 refine Tr.seq (Tr.seq (Tr.region ?_))
 refine Rg.q (v := .pointer (some ⟨g3, 0, none⟩)) (Pu.qo (p_fabE fa26_0 rfl rfl)) (by decide) ?_
 refine Rg.q (v := .slice x_v0.1.1 v0.1.length x_v0.1.2) (q_ldb ty23 rfl Has.here rfl) (by decide) ?_
 refine Rg.q (v := .int .i64 ((v0.1.length : Int))) (Pu.qo (p_len 38 Try.underlying23 rfl)) (by decide) ?_
 refine Rg.q (v := .bool (decide (6 < (v0.1.length : Int)))) (Pu.qo (p_gtr rfl rfl)) (by decide) (Rg.nl (nT ?_))
 refine Tr.cond (b := decide (6 < (v0.1.length : Int))) rfl (fun h4 => ?_) (fun h4 => ?_)
 ·have H := cdT h4 H
  refine Tr.seq (Tr.region ?_)
  refine Rg.q (v := .bool (false)) (Pu.qo (p_assign rfl)) (by decide) (Rg.nl (nT ?_))
  refine tRet ?_
  refine rT (?_)
  have hr := Option.some.inj H; subst hr
  exact back1 () rfl (ResV.tmp (v := .bool (false)) rfl) rfl Ents.nil Take.nil
 ·have H := cdF h4 H
  refine tSkip ?_
  refine nT (?_)
  refine Tr.seq (Tr.region ?_)
  refine Rg.q (v := .int .i64 (0)) (Pu.qo (p_assign rfl)) (by decide) (Rg.nl (nT ?_))
  refine Tr.seq (Tr.seq (Tr.region ?_))
  refine Rg.q (v := .int .i64 (0)) (Pu.qo (p_assign rfl)) (by decide) (Rg.nl (nT ?_))
  obtain ⟨x5, hx6, H⟩ := bd.of H
  obtain ⟨n7, hx6⟩ := lp.of hx6
  refine tMidNC (ι := { q : (Int) × Unit // x5 = .inl q.1 }) (fun ψ => [(1, .pointer (some ⟨g3, 0, none⟩)), (3, .int .i64 (ψ.1.1))]) (fun ψ => [box g3 26 [.slice x_v0.1.1 v0.1.length x_v0.1.2, .slice x_v0.2.1 v0.2.length x_v0.2.2]]) ?_ ?_
  ·refine Tr.block ?_
   refine tLoopC (ι := { q : Nat × (Int × Int) × Unit // itr (p_spec_IndexOk_b0 v0) q.1 q.2.1 = some x5 }) (fun ζ => [(1, .pointer (some ⟨g3, 0, none⟩)), (3, .int .i64 (ζ.1.2.1.1)), (4, .int .i64 (ζ.1.2.1.2))]) (fun ζ => [box g3 26 [.slice x_v0.1.1 v0.1.length x_v0.1.2, .slice x_v0.2.1 v0.2.length x_v0.2.2]]) (fun ζ => ζ.1.1) ⟨(n7, (0, 0), ()), hx6⟩ ⟨rfl, rfl, rfl, trivial⟩ (.cons Del.here .nil) ?_
   rintro ⟨⟨m8, Q9, z10⟩, hk15⟩
   obtain ⟨m16, t12, e, H1, hi13, hb14⟩ := itr.of (n := m8) (s := Q9) hk15
   subst e; unfold p_spec_IndexOk_b0 at H1
   show Tr _ _ _ _ _ [(1, .pointer (some ⟨g3, 0, none⟩)), (3, .int .i64 (Q9.1)), (4, .int .i64 (Q9.2))] _ [box g3 26 [.slice x_v0.1.1 v0.1.length x_v0.1.2, .slice x_v0.2.1 v0.2.length x_v0.2.2]]
   refine Tr.seq (Tr.seq (Tr.region ?_))
   refine Rg.q (v := .int .i64 (Q9.2)) (Pu.qo (p_move rfl)) (by decide) ?_
   refine Rg.q (v := .pointer (some ⟨g3, 0, none⟩)) (Pu.qo (p_fabE fa26_0 rfl rfl)) (by decide) ?_
   refine Rg.q (v := .slice x_v0.1.1 v0.1.length x_v0.1.2) (q_ldb ty23 rfl Has.here rfl) (by decide) ?_
   refine Rg.q (v := .int .i64 ((v0.1.length : Int))) (Pu.qo (p_len 38 Try.underlying23 rfl)) (by decide) ?_
   refine Rg.q (v := .bool (decide (Q9.2 < (v0.1.length : Int)))) (Pu.qo (p_lss rfl rfl)) (by decide) (Rg.nl (nT ?_))
   refine Tr.cond (b := decide (Q9.2 < (v0.1.length : Int))) rfl (fun h17 => ?_) (fun h17 => ?_)
   ·have H1 := cdT h17 H1
    refine tSkip ?_
    refine nT (Tr.seq ?_)
    refine Tr.block ?_
    refine Tr.seq (Tr.seq (Tr.region ?_))
    refine Rg.q (v := .pointer (some ⟨g3, 0, none⟩)) (Pu.qo (p_fabE fa26_0 rfl rfl)) (by decide) ?_
    refine Rg.q (v := .slice x_v0.1.1 v0.1.length x_v0.1.2) (q_ldb ty23 rfl Has.here rfl) (by decide) ?_
    refine Rg.q (v := .int .i64 (Q9.2)) (Pu.qo (p_move rfl)) (by decide) ?_
    obtain ⟨h18, H1⟩ := gd.of H1
    refine Rg.q (v := elp x_v0.1.1 (Q9.2.toNat * Enc.sz (List Tag) + 0)) (q_ixg (l := v0.1) (E := fun i => Dp.denc (nth v0.1 i) (X1 i)) (oa := x_v0.1.1) Try.underlying23 ty38 rfl rfl h18 rfl (Ent.b (Ent.darr Ent.z.s))) (by decide) ?_
    refine Rg.q (v := .slice ((X1 Q9.2.toNat).1) ((nth v0.1 Q9.2.toNat).length) ((X1 Q9.2.toNat).2.1)) (q_lde (l := v0.1) (E := fun i => Dp.denc (nth v0.1 i) (X1 i)) (oa := x_v0.1.1) (i := Q9.2.toNat) (j := 0) ty38 rfl (Ent.b (Ent.darr Ent.z.s)) h18.lt rfl) (by decide) ?_
    obtain ⟨r19, h20, H1⟩ := bd.of H1
    refine Rg.q (v := .bool (r19)) (q_call (vs := [.slice ((X1 Q9.2.toNat).1) ((nth v0.1 Q9.2.toNat).length) ((X1 Q9.2.toNat).2.1)]) (c_spec_NameOk (nth v0.1 Q9.2.toNat) ((X1 Q9.2.toNat).1, (X1 Q9.2.toNat).2.1) h20) rfl (EntsB.cons (Ent.b (Ent.dimm (Ent.del Ent.z.s h18.lt))) EntsB.nil)) (by decide) ?_
    refine Rg.q (v := .bool (!r19)) (Pu.qo (p_not rfl)) (by decide) (Rg.nl (nT ?_))
    refine Tr.cond (b := !r19) rfl (fun h21 => ?_) (fun h21 => ?_)
    ·have H1 := cdT h21 H1
     refine Tr.seq (Tr.region ?_)
     refine Rg.q (v := .bool (false)) (Pu.qo (p_assign rfl)) (by decide) (Rg.nl (nT ?_))
     refine tRet ?_
     refine rT (rB (rT (rT (rB (rT (rT (?_)))))))
     have hx := hb14 _ (Option.some.inj H1).symm; subst hx
     replace H := sw.r H
     have hr := Option.some.inj H; subst hr
     exact back1 () rfl (ResV.tmp (v := .bool (false)) rfl) rfl Ents.nil Take.nil
    ·have H1 := cdF h21 H1
     refine tSkip ?_
     refine nT (?_)
     refine Tr.seq (Tr.seq (Tr.region ?_))
     refine Rg.q (v := .int .i64 (0)) (Pu.qo (p_assign rfl)) (by decide) (Rg.nl (nT ?_))
     obtain ⟨x22, hx23, H1⟩ := bd.of H1
     obtain ⟨n24, hx23⟩ := lp.of hx23
     refine tMidNC (ι := { q : (Unit) × Unit // x22 = .inl q.1 }) (fun ψ => [(1, .pointer (some ⟨g3, 0, none⟩)), (3, .int .i64 (Q9.1)), (4, .int .i64 (Q9.2))]) (fun ψ => [box g3 26 [.slice x_v0.1.1 v0.1.length x_v0.1.2, .slice x_v0.2.1 v0.2.length x_v0.2.2]]) ?_ ?_
     ·refine Tr.block ?_
      refine tLoopC (ι := { q : Nat × (Int) × Unit // itr (p_spec_IndexOk_b1 v0 Q9) q.1 q.2.1 = some x22 }) (fun ζ => [(1, .pointer (some ⟨g3, 0, none⟩)), (3, .int .i64 (Q9.1)), (4, .int .i64 (Q9.2)), (5, .int .i64 (ζ.1.2.1))]) (fun ζ => [box g3 26 [.slice x_v0.1.1 v0.1.length x_v0.1.2, .slice x_v0.2.1 v0.2.length x_v0.2.2]]) (fun ζ => ζ.1.1) ⟨(n24, 0, ()), hx23⟩ ⟨rfl, rfl, rfl, rfl, trivial⟩ (.cons Del.here .nil) ?_
      rintro ⟨⟨m25, Q26, z27⟩, hk32⟩
      obtain ⟨m33, t29, e, H2, hi30, hb31⟩ := itr.of (n := m25) (s := Q26) hk32
      subst e; unfold p_spec_IndexOk_b1 at H2
      show Tr _ _ _ _ _ [(1, .pointer (some ⟨g3, 0, none⟩)), (3, .int .i64 (Q9.1)), (4, .int .i64 (Q9.2)), (5, .int .i64 (Q26))] _ [box g3 26 [.slice x_v0.1.1 v0.1.length x_v0.1.2, .slice x_v0.2.1 v0.2.length x_v0.2.2]]
      refine Tr.seq (Tr.seq (Tr.region ?_))
      refine Rg.q (v := .int .i64 (Q26)) (Pu.qo (p_move rfl)) (by decide) ?_
      refine Rg.q (v := .int .i64 (Q9.2)) (Pu.qo (p_move rfl)) (by decide) ?_
      refine Rg.q (v := .bool (decide (Q26 < Q9.2))) (Pu.qo (p_lss rfl rfl)) (by decide) (Rg.nl (nT ?_))
      refine Tr.cond (b := decide (Q26 < Q9.2)) rfl (fun h34 => ?_) (fun h34 => ?_)
      ·have H2 := cdT h34 H2
       refine tSkip ?_
       refine nT (Tr.seq ?_)
       refine Tr.block ?_
       refine Tr.seq ?_
       refine tLinS [(1, .pointer (some ⟨g3, 0, none⟩)), (3, .int .i64 (Q9.1)), (4, .int .i64 (Q9.2)), (5, .int .i64 (Q26))] Try.mixed (.inr (by kernel_rfl)) ⟨rfl, rfl, rfl, rfl, trivial⟩ rfl ?_
       refine Lin.q (v := .pointer (some ⟨g3, 0, none⟩)) (by decide) (Pu.qo (p_fabE fa26_0 rfl rfl)) ?_
       refine Lin.q (v := .slice x_v0.1.1 v0.1.length x_v0.1.2) (by decide) (q_ldb ty23 rfl Has.here rfl) ?_
       refine Lin.q (v := .int .i64 (Q9.2)) (by decide) (Pu.qo (p_move rfl)) ?_
       refine Lin.q (v := elp x_v0.1.1 (Q9.2.toNat * Enc.sz (List Tag) + 0)) (by decide) (q_ixg (l := v0.1) (E := fun i => Dp.denc (nth v0.1 i) (X1 i)) (oa := x_v0.1.1) Try.underlying23 ty38 rfl rfl h18 rfl (Ent.b (Ent.darr Ent.z.s))) ?_
       refine Lin.q (v := .slice ((X1 Q9.2.toNat).1) ((nth v0.1 Q9.2.toNat).length) ((X1 Q9.2.toNat).2.1)) (by decide) (q_lde (l := v0.1) (E := fun i => Dp.denc (nth v0.1 i) (X1 i)) (oa := x_v0.1.1) (i := Q9.2.toNat) (j := 0) ty38 rfl (Ent.b (Ent.darr Ent.z.s)) h18.lt rfl) ?_
       obtain ⟨r35, h36, H2⟩ := bd.of H2
       refine Lin.q (v := .string (r35)) (by decide) (q_call (vs := [.slice ((X1 Q9.2.toNat).1) ((nth v0.1 Q9.2.toNat).length) ((X1 Q9.2.toNat).2.1)]) (c_spec_l3Text (nth v0.1 Q9.2.toNat) ((X1 Q9.2.toNat).1, (X1 Q9.2.toNat).2.1) h36) rfl (EntsB.cons (Ent.b (Ent.dimm (Ent.del Ent.z.s h18.lt))) EntsB.nil)) ?_
       refine Lin.q (v := .pointer (some ⟨g3, 0, none⟩)) (by decide) (Pu.qo (p_fabE fa26_0 rfl rfl)) ?_
       refine Lin.q (v := .slice x_v0.1.1 v0.1.length x_v0.1.2) (by decide) (q_ldb ty23 rfl Has.here rfl) ?_
       refine Lin.q (v := .int .i64 (Q26)) (by decide) (Pu.qo (p_move rfl)) ?_
       obtain ⟨h37, H2⟩ := gd.of H2
       refine Lin.q (v := elp x_v0.1.1 (Q26.toNat * Enc.sz (List Tag) + 0)) (by decide) (q_ixg (l := v0.1) (E := fun i => Dp.denc (nth v0.1 i) (X1 i)) (oa := x_v0.1.1) Try.underlying23 ty38 rfl rfl h37 rfl (Ent.b (Ent.darr Ent.z.s))) ?_
       refine Lin.q (v := .slice ((X1 Q26.toNat).1) ((nth v0.1 Q26.toNat).length) ((X1 Q26.toNat).2.1)) (by decide) (q_lde (l := v0.1) (E := fun i => Dp.denc (nth v0.1 i) (X1 i)) (oa := x_v0.1.1) (i := Q26.toNat) (j := 0) ty38 rfl (Ent.b (Ent.darr Ent.z.s)) h37.lt rfl) ?_
       obtain ⟨r38, h39, H2⟩ := bd.of H2
       refine Lin.q (v := .string (r38)) (by decide) (q_call (vs := [.slice ((X1 Q26.toNat).1) ((nth v0.1 Q26.toNat).length) ((X1 Q26.toNat).2.1)]) (c_spec_l3Text (nth v0.1 Q26.toNat) ((X1 Q26.toNat).1, (X1 Q26.toNat).2.1) h39) rfl (EntsB.cons (Ent.b (Ent.dimm (Ent.del Ent.z.s h37.lt))) EntsB.nil)) ?_
       refine Lin.q (v := .bool (decide (r35 = r38))) (by decide) (Pu.qo (p_seql rfl rfl)) ?_
       show At _ _ _ _ _ _
       refine nT (?_)
       refine Tr.cond (b := decide (r35 = r38)) rfl (fun h40 => ?_) (fun h40 => ?_)
       ·have H2 := cdT h40 H2
        refine Tr.seq (Tr.region ?_)
        refine Rg.q (v := .bool (false)) (Pu.qo (p_assign rfl)) (by decide) (Rg.nl (nT ?_))
        refine tRet ?_
        refine rB (rT (rT (rB (rT (rT (rB (rT (rT (rB (rT (rT (?_))))))))))))
        have hx := hb31 _ (Option.some.inj H2).symm; subst hx
        replace H1 := sw.r H1
        have hx := hb14 _ (Option.some.inj H1).symm; subst hx
        replace H := sw.r H
        have hr := Option.some.inj H; subst hr
        exact back1 () rfl (ResV.tmp (v := .bool (false)) rfl) rfl Ents.nil Take.nil
       ·have H2 := cdF h40 H2
        refine tSkip ?_
        refine nB (nT (?_))
        refine Tr.region ?_
        refine Rg.q (v := .int .i64 (Q26)) (Pu.qo (p_move rfl)) (by decide) ?_
        obtain ⟨h41, H2⟩ := gd.of H2
        refine Rg.q (v := .int .i64 (Q26 + 1)) (Pu.qo (p_add rfl rfl h41)) (by decide) ?_
        refine Rg.q (v := .int .i64 (Q26 + 1)) (Pu.qo (p_assign rfl)) (by decide) (Rg.nl ?_)
        exact nLC ⟨(m33, Q26 + 1, ()), hi30 _ (Option.some.inj H2).symm⟩ (Nat.lt_succ_self _) ⟨rfl, rfl, rfl, rfl, trivial⟩ Ents.refl (.cons Del.here .nil)
      ·have H2 := cdF h34 H2
       refine tExit (xT (xT (xE (?_))))
       exact nMC ⟨((), ()), (hb31 _ (Option.some.inj H2).symm).symm⟩ ⟨rfl, rfl, rfl, trivial⟩ Ents.refl (.cons Del.here .nil)
     ·rintro ⟨⟨e42, y28⟩, hx⟩; subst hx; replace H1 := sw.l H1
      show At _ _ [(1, .pointer (some ⟨g3, 0, none⟩)), (3, .int .i64 (Q9.1)), (4, .int .i64 (Q9.2))] _ [box g3 26 [.slice x_v0.1.1 v0.1.length x_v0.1.2, .slice x_v0.2.1 v0.2.length x_v0.2.2]] _
      refine nT (?_)
      refine Tr.region ?_
      refine Rg.q (v := .int .i64 (Q9.1)) (Pu.qo (p_move rfl)) (by decide) ?_
      refine Rg.q (v := .pointer (some ⟨g3, 0, none⟩)) (Pu.qo (p_fabE fa26_0 rfl rfl)) (by decide) ?_
      refine Rg.q (v := .slice x_v0.1.1 v0.1.length x_v0.1.2) (q_ldb ty23 rfl Has.here rfl) (by decide) ?_
      refine Rg.q (v := .int .i64 (Q9.2)) (Pu.qo (p_move rfl)) (by decide) ?_
      refine Rg.q (v := elp x_v0.1.1 (Q9.2.toNat * Enc.sz (List Tag) + 0)) (q_ixg (l := v0.1) (E := fun i => Dp.denc (nth v0.1 i) (X1 i)) (oa := x_v0.1.1) Try.underlying23 ty38 rfl rfl h18 rfl (Ent.b (Ent.darr Ent.z.s))) (by decide) ?_
      refine Rg.q (v := .slice ((X1 Q9.2.toNat).1) ((nth v0.1 Q9.2.toNat).length) ((X1 Q9.2.toNat).2.1)) (q_lde (l := v0.1) (E := fun i => Dp.denc (nth v0.1 i) (X1 i)) (oa := x_v0.1.1) (i := Q9.2.toNat) (j := 0) ty38 rfl (Ent.b (Ent.darr Ent.z.s)) h18.lt rfl) (by decide) ?_
      refine Rg.q (v := .int .i64 (((nth v0.1 Q9.2.toNat).length : Int))) (Pu.qo (p_len 30 Try.underlying38 rfl)) (by decide) ?_
      obtain ⟨h43, H1⟩ := gd.of H1
      refine Rg.q (v := .int .i64 (Q9.1 + ((nth v0.1 Q9.2.toNat).length : Int))) (Pu.qo (p_add rfl rfl h43)) (by decide) ?_
      refine Rg.q (v := .int .i64 (Q9.1 + ((nth v0.1 Q9.2.toNat).length : Int))) (Pu.qo (p_assign rfl)) (by decide) (Rg.nl ?_)
      refine nB (nT (?_))
      refine Tr.region ?_
      refine Rg.q (v := .int .i64 (Q9.2)) (Pu.qo (p_move rfl)) (by decide) ?_
      obtain ⟨h44, H1⟩ := gd.of H1
      refine Rg.q (v := .int .i64 (Q9.2 + 1)) (Pu.qo (p_add rfl rfl h44)) (by decide) ?_
      refine Rg.q (v := .int .i64 (Q9.2 + 1)) (Pu.qo (p_assign rfl)) (by decide) (Rg.nl ?_)
      exact nLC ⟨(m16, (Q9.1 + ((nth v0.1 Q9.2.toNat).length : Int), Q9.2 + 1), ()), hi13 _ (Option.some.inj H1).symm⟩ (Nat.lt_succ_self _) ⟨rfl, rfl, rfl, trivial⟩ Ents.refl (.cons Del.here .nil)
   ·have H1 := cdF h17 H1
    refine tExit (xT (xT (xE (?_))))
    exact nMC ⟨(Q9.1, ()), (hb14 _ (Option.some.inj H1).symm).symm⟩ ⟨rfl, rfl, trivial⟩ Ents.refl (.cons Del.here .nil)
  ·rintro ⟨⟨e45, y11⟩, hx⟩; subst hx; replace H := sw.l H
   show At _ _ [(1, .pointer (some ⟨g3, 0, none⟩)), (3, .int .i64 (e45))] _ [box g3 26 [.slice x_v0.1.1 v0.1.length x_v0.1.2, .slice x_v0.2.1 v0.2.length x_v0.2.2]] _
   refine nT (?_)
   refine Tr.seq (Tr.seq (Tr.region ?_))
   refine Rg.q (v := .int .i64 (0)) (Pu.qo (p_assign rfl)) (by decide) (Rg.nl (nT ?_))
   obtain ⟨x46, hx47, H⟩ := bd.of H
   obtain ⟨n48, hx47⟩ := lp.of hx47
   refine tMidNC (ι := { q : (Int) × Unit // x46 = .inl q.1 }) (fun ψ => [(3, .int .i64 (ψ.1.1))]) (fun ψ => []) ?_ ?_
   ·refine Tr.block ?_
    refine tLoopC (ι := { q : Nat × (Int × Int) × Unit // itr (p_spec_IndexOk_b2 v0) q.1 q.2.1 = some x46 }) (fun ζ => [(1, .pointer (some ⟨g3, 0, none⟩)), (3, .int .i64 (ζ.1.2.1.1)), (6, .int .i64 (ζ.1.2.1.2))]) (fun ζ => [box g3 26 [.slice x_v0.1.1 v0.1.length x_v0.1.2, .slice x_v0.2.1 v0.2.length x_v0.2.2]]) (fun ζ => ζ.1.1) ⟨(n48, (e45, 0), ()), hx47⟩ ⟨rfl, rfl, rfl, trivial⟩ (.cons Del.here .nil) ?_
    rintro ⟨⟨m49, Q50, z51⟩, hk56⟩
    obtain ⟨m57, t53, e, H1, hi54, hb55⟩ := itr.of (n := m49) (s := Q50) hk56
    subst e; unfold p_spec_IndexOk_b2 at H1
    show Tr _ _ _ _ _ [(1, .pointer (some ⟨g3, 0, none⟩)), (3, .int .i64 (Q50.1)), (6, .int .i64 (Q50.2))] _ [box g3 26 [.slice x_v0.1.1 v0.1.length x_v0.1.2, .slice x_v0.2.1 v0.2.length x_v0.2.2]]
    refine Tr.seq (Tr.seq (Tr.region ?_))
    refine Rg.q (v := .int .i64 (Q50.2)) (Pu.qo (p_move rfl)) (by decide) ?_
    refine Rg.q (v := .pointer (some ⟨g3, 1, none⟩)) (Pu.qo (p_fabE fa26_1 rfl rfl)) (by decide) ?_
    refine Rg.q (v := .slice x_v0.2.1 v0.2.length x_v0.2.2) (q_ldb ty24 rfl Has.here rfl) (by decide) ?_
    refine Rg.q (v := .int .i64 ((v0.2.length : Int))) (Pu.qo (p_len 33 Try.underlying24 rfl)) (by decide) ?_
    refine Rg.q (v := .bool (decide (Q50.2 < (v0.2.length : Int)))) (Pu.qo (p_lss rfl rfl)) (by decide) (Rg.nl (nT ?_))
    refine Tr.cond (b := decide (Q50.2 < (v0.2.length : Int))) rfl (fun h58 => ?_) (fun h58 => ?_)
    ·have H1 := cdT h58 H1
     refine tSkip ?_
     refine nT (Tr.seq ?_)
     refine Tr.block ?_
     refine Tr.seq (Tr.region ?_)
     refine Rg.q (v := .pointer (some ⟨g3, 1, none⟩)) (Pu.qo (p_fabE fa26_1 rfl rfl)) (by decide) ?_
     refine Rg.q (v := .slice x_v0.2.1 v0.2.length x_v0.2.2) (q_ldb ty24 rfl Has.here rfl) (by decide) ?_
     refine Rg.q (v := .int .i64 (Q50.2)) (Pu.qo (p_move rfl)) (by decide) ?_
     obtain ⟨h59, H1⟩ := gd.of H1
     refine Rg.q (v := elp x_v0.2.1 (Q50.2.toNat * Enc.sz Post + 0)) (q_ixg (l := v0.2) (E := fun i => Dp.denc (nth v0.2 i) (X2 i)) (oa := x_v0.2.1) Try.underlying24 ty33 rfl rfl h59 rfl (Ent.b (Ent.darr Ent.z))) (by decide) ?_
     refine Rg.q (v := .agg #[.string (((nth v0.2 Q50.2.toNat).1).1), .string (((nth v0.2 Q50.2.toNat).1).2), .slice (((X2 Q50.2.toNat).2).1) (((nth v0.2 Q50.2.toNat).2).length) (((X2 Q50.2.toNat).2).2.1)]) (q_ldeA (l := v0.2) (E := fun i => Dp.denc (nth v0.2 i) (X2 i)) (oa := x_v0.2.1) (i := Q50.2.toNat) ty33 rfl (Ent.b (Ent.darr Ent.z)) h59.lt) (by decide) ?_
     refine Rg.ed (e_alloc ty33) rfl (by decide) ?_
     rintro _ _ _ ⟨g60, rfl, rfl, rfl⟩
     refine Rg.en (e_store (v := .agg #[.string (((nth v0.2 Q50.2.toNat).1).1), .string (((nth v0.2 Q50.2.toNat).1).2), .slice (((X2 Q50.2.toNat).2).1) (((nth v0.2 Q50.2.toNat).2).length) (((X2 Q50.2.toNat).2).2.1)]) (cs' := [.string (((nth v0.2 Q50.2.toNat).1).1), .string (((nth v0.2 Q50.2.toNat).1).2), .slice (((X2 Q50.2.toNat).2).1) (((nth v0.2 Q50.2.toNat).2).length) (((X2 Q50.2.toNat).2).2.1)]) ty33 rfl rfl Upd.here rfl (by simp [Value.cells, Value.oneCell']) (Nat.le_of_ble_eq_true rfl) rfl) rfl ?_
     rintro _ _ _ ⟨rfl, rfl, rfl⟩
     refine Rg.nl (nT ?_)
     refine Tr.seq ?_
     refine Tr.seq ?_
     rcases Bool.eq_false_or_eq_true (decide ((((nth v0.2 Q50.2.toNat).2).length : Int) = 0)) with h61 | h61
     ·have H1 := cdT h61 H1
      refine tNwS [(7, .pointer (some ⟨g60, 0, none⟩)), (1, .pointer (some ⟨g3, 0, none⟩)), (3, .int .i64 (Q50.1)), (6, .int .i64 (Q50.2))] 1 [0, 1, 2, 3, 4, 5, 6, 7, 8, 9, 10, 11, 12, 13, 14, 15, 16, 17, 18, 19, 20, 21, 22, 23, 24, 25, 26, 27, 28, 29, 30, 31] [] [] Try.mixed (by kernel_rfl) (by decide) List.nodup_nil ⟨rfl, rfl, rfl, rfl, trivial⟩ rfl okNil ?_
      refine w_pu (v := .pointer (some ⟨g60, 2, none⟩)) rfl (by decide) rfl rfl rfl (p_fabE fa33_1 rfl rfl) ?_
      refine w_q (v := .slice (((X2 Q50.2.toNat).2).1) (((nth v0.2 Q50.2.toNat).2).length) (((X2 Q50.2.toNat).2).2.1)) rfl (by decide) rfl rfl rfl (fun F => (q_ldb ty31 rfl (Has.here.app F) rfl)) ?_
      refine w_pu (v := .int .i64 ((((nth v0.2 Q50.2.toNat).2).length : Int))) rfl (by decide) rfl rfl rfl (p_len 3 Try.underlying31 rfl) ?_
      refine w_pu (v := .bool (decide ((((nth v0.2 Q50.2.toNat).2).length : Int) = 0))) rfl (by decide) rfl rfl rfl (p_eql rfl rfl) ?_
      refine w_pu (v := .bool (true)) rfl (by decide) rfl rfl rfl ((Pu.eqv (v := .bool (decide ((((nth v0.2 Q50.2.toNat).2).length : Int) = 0))) (p_move rfl) (congrArg Value.bool h61))) ?_
      refine w_skip rfl (by decide) rfl rfl rfl ?_
      refine w_skip rfl (by decide) rfl rfl rfl ?_
      refine w_skip rfl (by decide) rfl rfl rfl ?_
      refine w_skip rfl (by decide) rfl rfl rfl ?_
      refine w_skip rfl (by decide) rfl rfl rfl ?_
      refine w_skip rfl (by decide) rfl rfl rfl ?_
      refine w_skip rfl (by decide) rfl rfl rfl ?_
      refine w_skip rfl (by decide) rfl rfl rfl ?_
      refine w_skip rfl (by decide) rfl rfl rfl ?_
      refine w_pu (v := .bool (true)) rfl (by decide) rfl rfl rfl (p_pickT rfl rfl) ?_
      refine w_pu (v := .bool (true)) rfl (by decide) rfl rfl rfl (p_move rfl) ?_
      refine w_skip rfl (by decide) rfl rfl rfl ?_
      refine w_skip rfl (by decide) rfl rfl rfl ?_
      refine w_skip rfl (by decide) rfl rfl rfl ?_
      refine w_skip rfl (by decide) rfl rfl rfl ?_
      refine w_skip rfl (by decide) rfl rfl rfl ?_
      refine w_skip rfl (by decide) rfl rfl rfl ?_
      refine w_skip rfl (by decide) rfl rfl rfl ?_
      refine w_skip rfl (by decide) rfl rfl rfl ?_
      refine w_skip rfl (by decide) rfl rfl rfl ?_
      refine w_skip rfl (by decide) rfl rfl rfl ?_
      refine w_skip rfl (by decide) rfl rfl rfl ?_
      refine w_skip rfl (by decide) rfl rfl rfl ?_
      refine w_skip rfl (by decide) rfl rfl rfl ?_
      refine w_skip rfl (by decide) rfl rfl rfl ?_
      refine w_skip rfl (by decide) rfl rfl rfl ?_
      refine w_pu (v := .bool (true)) rfl (by decide) rfl rfl rfl (p_pickT rfl rfl) ?_
      refine w_nil ?_
      show At _ _ _ _ _ _
      refine nT (?_)
      refine Tr.condT rfl ?_
      refine Tr.seq (Tr.region ?_)
      refine Rg.q (v := .bool (false)) (Pu.qo (p_assign rfl)) (by decide) (Rg.nl (nT ?_))
      refine tRet ?_
      refine rT (rB (rT (rT (rB (rT (rT (?_)))))))
      have hx := hb55 _ (Option.some.inj H1).symm; subst hx
      replace H := sw.r H
      have hr := Option.some.inj H; subst hr
      exact back1 () rfl (ResV.tmp (v := .bool (false)) rfl) rfl Ents.nil Take.nil
     ·have H1 := cdF h61 H1
      refine tNwS [(7, .pointer (some ⟨g60, 0, none⟩)), (1, .pointer (some ⟨g3, 0, none⟩)), (3, .int .i64 (Q50.1)), (6, .int .i64 (Q50.2))] 4 [0, 1, 2, 3, 4, 5, 6, 7, 8, 9, 10, 11, 12, 13, 14, 15, 16, 17, 18, 19, 20, 21, 22, 23, 24, 25, 26, 27, 28, 29, 30, 31] [11] [] Try.mixed (by kernel_rfl) (by decide) List.nodup_nil ⟨rfl, rfl, rfl, rfl, trivial⟩ rfl okNil ?_
      refine w_pu (v := .pointer (some ⟨g60, 2, none⟩)) rfl (by decide) rfl rfl rfl (p_fabE fa33_1 rfl rfl) ?_
      refine w_q (v := .slice (((X2 Q50.2.toNat).2).1) (((nth v0.2 Q50.2.toNat).2).length) (((X2 Q50.2.toNat).2).2.1)) rfl (by decide) rfl rfl rfl (fun F => (q_ldb ty31 rfl (Has.here.app F) rfl)) ?_
      refine w_pu (v := .int .i64 ((((nth v0.2 Q50.2.toNat).2).length : Int))) rfl (by decide) rfl rfl rfl (p_len 3 Try.underlying31 rfl) ?_
      refine w_pu (v := .bool (decide ((((nth v0.2 Q50.2.toNat).2).length : Int) = 0))) rfl (by decide) rfl rfl rfl (p_eql rfl rfl) ?_
      refine w_pu (v := .bool (false)) rfl (by decide) rfl rfl rfl ((Pu.eqv (v := .bool (decide ((((nth v0.2 Q50.2.toNat).2).length : Int) = 0))) (p_move rfl) (congrArg Value.bool h61))) ?_
      refine w_pu (v := .pointer (some ⟨g60, 2, none⟩)) rfl (by decide) rfl rfl rfl (p_fabE fa33_1 rfl rfl) ?_
      refine w_q (v := .slice (((X2 Q50.2.toNat).2).1) (((nth v0.2 Q50.2.toNat).2).length) (((X2 Q50.2.toNat).2).2.1)) rfl (by decide) rfl rfl rfl (fun F => (q_ldb ty31 rfl (Has.here.app F) rfl)) ?_
      refine w_pu (v := .pointer (some ⟨g3, 0, none⟩)) rfl (by decide) rfl rfl rfl (p_fabE fa26_0 rfl rfl) ?_
      refine w_q (v := .slice x_v0.1.1 v0.1.length x_v0.1.2) rfl (by decide) rfl rfl rfl (fun F => (q_ldb ty23 rfl (Has.here.there.app F) rfl)) ?_
      refine w_pu (v := .pointer (some ⟨g60, 0, none⟩)) rfl (by decide) rfl rfl rfl (p_fabE fa33_0 rfl rfl) ?_
      refine w_q (v := .agg #[.string (((nth v0.2 Q50.2.toNat).1).1), .string (((nth v0.2 Q50.2.toNat).1).2)]) rfl (by decide) rfl rfl rfl (fun F => (q_ldbP [.string (((nth v0.2 Q50.2.toNat).1).1), .string (((nth v0.2 Q50.2.toNat).1).2)] ty30 rfl (Has.here.app F) rfl rfl)) ?_
      obtain ⟨r62, h63, H1⟩ := bd.of H1
      refine w_ed rfl (by decide) rfl Rdy.nil rfl (n_callB (vs := [.slice x_v0.1.1 v0.1.length x_v0.1.2, .agg #[.string (((nth v0.2 Q50.2.toNat).1).1), .string (((nth v0.2 Q50.2.toNat).1).2)]]) (c_spec_l11Ids v0.1 x_v0.1 ((nth v0.2 Q50.2.toNat).1) h63) (fun _ => (Solo.tree Solo.nil)) rfl (EntsB.cons (Ent.b (Ent.dimm Ent.z.s)) EntsB.nil)) ?_
      rintro _ _ _ ⟨x64, rfl, rfl, rfl⟩
      refine ⟨(PdOk.anc (by kernel_rfl) (PdOk.anc (by kernel_rfl) (PdOk.q rfl rfl (fun F => (q_ldb ty31 rfl (Has.here.there.app F) rfl)) (PdOk.anc (by kernel_rfl) PdOk.nil)))), ?_⟩
      obtain ⟨r65, h66, H1⟩ := bd.of H1
      refine w_q (v := .bool (r65)) rfl (by decide) rfl rfl rfl (fun F => (q_call (vs := [.slice (((X2 Q50.2.toNat).2).1) (((nth v0.2 Q50.2.toNat).2).length) (((X2 Q50.2.toNat).2).2.1), .slice x64.1 r62.length x64.2]) (c_spec_l11Same ((nth v0.2 Q50.2.toNat).2) (((X2 Q50.2.toNat).2).1, ((X2 Q50.2.toNat).2).2.1) r62 x64 h66) rfl (EntsB.cons (Ent.b (Ent.dimm (Ent.dsnd (Ent.del Ent.z h59.lt)))) (EntsB.cons (EntB.tree (Has.here.app F)) EntsB.nil)))) ?_
      refine w_pu (v := .bool (!r65)) rfl (by decide) rfl rfl rfl (p_not rfl) ?_
      refine w_pu (v := .bool (!r65)) rfl (by decide) rfl rfl rfl (p_pickF rfl rfl) ?_
      rcases Bool.eq_false_or_eq_true (!r65) with h67 | h67
      ·have H1 := cdT h67 H1
       refine w_pu (v := .bool (true)) rfl (by decide) rfl rfl rfl ((Pu.eqv (v := .bool (!r65)) (p_move rfl) (congrArg Value.bool h67))) ?_
       refine w_skip rfl (by decide) rfl rfl rfl ?_
       refine w_skip rfl (by decide) rfl rfl rfl ?_
       refine w_skip rfl (by decide) rfl rfl rfl ?_
       refine w_skip rfl (by decide) rfl rfl rfl ?_
       refine w_skip rfl (by decide) rfl rfl rfl ?_
       refine w_skip rfl (by decide) rfl rfl rfl ?_
       refine w_skip rfl (by decide) rfl rfl rfl ?_
       refine w_skip rfl (by decide) rfl rfl rfl ?_
       refine w_skip rfl (by decide) rfl rfl rfl ?_
       refine w_skip rfl (by decide) rfl rfl rfl ?_
       refine w_skip rfl (by decide) rfl rfl rfl ?_
       refine w_skip rfl (by decide) rfl rfl rfl ?_
       refine w_skip rfl (by decide) rfl rfl rfl ?_
       refine w_skip rfl (by decide) rfl rfl rfl ?_
       refine w_skip rfl (by decide) rfl rfl rfl ?_
       refine w_pu (v := .bool (true)) rfl (by decide) rfl rfl rfl (p_pickT rfl rfl) ?_
       refine w_nil ?_
       show At _ _ _ _ _ _
       refine nT (?_)
       refine Tr.condT rfl ?_
       refine Tr.seq (Tr.region ?_)
       refine Rg.q (v := .bool (false)) (Pu.qo (p_assign rfl)) (by decide) (Rg.nl (nT ?_))
       refine tRet ?_
       refine rT (rB (rT (rT (rB (rT (rT (?_)))))))
       have hx := hb55 _ (Option.some.inj H1).symm; subst hx
       replace H := sw.r H
       have hr := Option.some.inj H; subst hr
       exact back1 () rfl (ResV.tmp (v := .bool (false)) rfl) rfl Ents.nil Take.nil
      ·have H1 := cdF h67 H1
       refine w_pu (v := .bool (false)) rfl (by decide) rfl rfl rfl ((Pu.eqv (v := .bool (!r65)) (p_move rfl) (congrArg Value.bool h67))) ?_
       refine w_pu (v := .int .i64 (Q50.2)) rfl (by decide) rfl rfl rfl (p_move rfl) ?_
       refine w_pu (v := .bool (decide (0 < Q50.2))) rfl (by decide) rfl rfl rfl (p_gtr rfl rfl) ?_
       rcases Bool.eq_false_or_eq_true (decide (0 < Q50.2)) with h68 | h68
       ·have H1 := cdT h68 H1
        refine w_pu (v := .bool (true)) rfl (by decide) rfl rfl rfl ((Pu.eqv (v := .bool (decide (0 < Q50.2))) (p_move rfl) (congrArg Value.bool h68))) ?_
        refine w_pu (v := .pointer (some ⟨g3, 1, none⟩)) rfl (by decide) rfl rfl rfl (p_fabE fa26_1 rfl rfl) ?_
        refine w_q (v := .slice x_v0.2.1 v0.2.length x_v0.2.2) rfl (by decide) rfl rfl rfl (fun F => (q_ldb ty24 rfl (Has.here.there.there.app F) rfl)) ?_
        refine w_pu (v := .int .i64 (Q50.2)) rfl (by decide) rfl rfl rfl (p_move rfl) ?_
        obtain ⟨h69, H1⟩ := gd.of H1
        refine w_pu (v := .int .i64 (Q50.2 - 1)) rfl (by decide) rfl rfl rfl (p_sub rfl rfl h69) ?_
        obtain ⟨h70, H1⟩ := gd.of H1
        refine w_q (v := elp x_v0.2.1 (((Q50.2 - 1).toNat) * Enc.sz Post + 0)) rfl (by decide) rfl rfl rfl (fun F => (q_ixg (l := v0.2) (E := fun i => Dp.denc (nth v0.2 i) (X2 i)) (oa := x_v0.2.1) Try.underlying24 ty33 rfl rfl h70 rfl (Ent.b (Ent.darr Ent.z)))) ?_
        refine w_q (v := elp x_v0.2.1 (((Q50.2 - 1).toNat) * Enc.sz Post + 0)) rfl (by decide) rfl rfl rfl (fun F => (q_faeE (l := v0.2) (E := fun i => Dp.denc (nth v0.2 i) (X2 i)) (oa := x_v0.2.1) (j := 0) ((Q50.2 - 1).toNat) fa33_0 rfl (Ent.b (Ent.darr Ent.z)) h70.lt rfl)) ?_
        refine w_q (v := .agg #[.string (((nth v0.2 ((Q50.2 - 1).toNat)).1).1), .string (((nth v0.2 ((Q50.2 - 1).toNat)).1).2)]) rfl (by decide) rfl rfl rfl (fun F => (q_ldeP [.string (((nth v0.2 ((Q50.2 - 1).toNat)).1).1), .string (((nth v0.2 ((Q50.2 - 1).toNat)).1).2)] (l := v0.2) (E := fun i => Dp.denc (nth v0.2 i) (X2 i)) (oa := x_v0.2.1) (i := (Q50.2 - 1).toNat) (j := 0) ty30 rfl (Ent.b (Ent.darr Ent.z)) h70.lt rfl rfl)) ?_
        refine w_pu (v := .pointer (some ⟨g60, 0, none⟩)) rfl (by decide) rfl rfl rfl (p_fabE fa33_0 rfl rfl) ?_
        refine w_q (v := .agg #[.string (((nth v0.2 Q50.2.toNat).1).1), .string (((nth v0.2 Q50.2.toNat).1).2)]) rfl (by decide) rfl rfl rfl (fun F => (q_ldbP [.string (((nth v0.2 Q50.2.toNat).1).1), .string (((nth v0.2 Q50.2.toNat).1).2)] ty30 rfl (Has.here.there.app F) rfl rfl)) ?_
        obtain ⟨r71, h72, H1⟩ := bd.of H1
        refine w_q (v := .bool (r71)) rfl (by decide) rfl rfl rfl (fun F => (q_call (vs := [.agg #[.string (((nth v0.2 ((Q50.2 - 1).toNat)).1).1), .string (((nth v0.2 ((Q50.2 - 1).toNat)).1).2)], .agg #[.string (((nth v0.2 Q50.2.toNat).1).1), .string (((nth v0.2 Q50.2.toNat).1).2)]]) (c_spec_l11Less ((nth v0.2 ((Q50.2 - 1).toNat)).1) ((nth v0.2 Q50.2.toNat).1) h72) rfl EntsB.nil)) ?_
        refine w_pu (v := .bool (!r71)) rfl (by decide) rfl rfl rfl (p_not rfl) ?_
        refine w_pu (v := .bool (!r71)) rfl (by decide) rfl rfl rfl (p_pickT rfl rfl) ?_
        refine w_pu (v := .bool (!r71)) rfl (by decide) rfl rfl rfl (p_pickF rfl rfl) ?_
        refine w_nil ?_
        show At _ _ _ _ _ _
        refine nT (?_)
        refine Tr.cond (b := !r71) rfl (fun h73 => ?_) (fun h73 => ?_)
        ·have H1 := cdT h73 H1
         refine Tr.seq (Tr.region ?_)
         refine Rg.q (v := .bool (false)) (Pu.qo (p_assign rfl)) (by decide) (Rg.nl (nT ?_))
         refine tRet ?_
         refine rT (rB (rT (rT (rB (rT (rT (?_)))))))
         have hx := hb55 _ (Option.some.inj H1).symm; subst hx
         replace H := sw.r H
         have hr := Option.some.inj H; subst hr
         exact back1 () rfl (ResV.tmp (v := .bool (false)) rfl) rfl Ents.nil Take.nil
        ·have H1 := cdF h73 H1
         refine tSkip ?_
         refine nT (?_)
         refine Tr.region ?_
         refine Rg.q (v := .int .i64 (Q50.1)) (Pu.qo (p_move rfl)) (by decide) ?_
         refine Rg.q (v := .pointer (some ⟨g60, 2, none⟩)) (Pu.qo (p_fabE fa33_1 rfl rfl)) (by decide) ?_
         refine Rg.q (v := .slice (((X2 Q50.2.toNat).2).1) (((nth v0.2 Q50.2.toNat).2).length) (((X2 Q50.2.toNat).2).2.1)) (q_ldb ty31 rfl Has.here.there rfl) (by decide) ?_
         refine Rg.q (v := .int .i64 ((((nth v0.2 Q50.2.toNat).2).length : Int))) (Pu.qo (p_len 3 Try.underlying31 rfl)) (by decide) ?_
         obtain ⟨h74, H1⟩ := gd.of H1
         refine Rg.q (v := .int .i64 (Q50.1 - (((nth v0.2 Q50.2.toNat).2).length : Int))) (Pu.qo (p_sub rfl rfl h74)) (by decide) ?_
         refine Rg.q (v := .int .i64 (Q50.1 - (((nth v0.2 Q50.2.toNat).2).length : Int))) (Pu.qo (p_assign rfl)) (by decide) (Rg.nl ?_)
         refine nB (nT (?_))
         refine Tr.region ?_
         refine Rg.q (v := .int .i64 (Q50.2)) (Pu.qo (p_move rfl)) (by decide) ?_
         obtain ⟨h75, H1⟩ := gd.of H1
         refine Rg.q (v := .int .i64 (Q50.2 + 1)) (Pu.qo (p_add rfl rfl h75)) (by decide) ?_
         refine Rg.q (v := .int .i64 (Q50.2 + 1)) (Pu.qo (p_assign rfl)) (by decide) (Rg.nl ?_)
         exact nLC ⟨(m57, (Q50.1 - (((nth v0.2 Q50.2.toNat).2).length : Int), Q50.2 + 1), ()), hi54 _ (Option.some.inj H1).symm⟩ (Nat.lt_succ_self _) ⟨rfl, rfl, rfl, trivial⟩ Ents.refl (.cons Del.here.there.there .nil)
       ·have H1 := cdF h68 H1
        refine w_pu (v := .bool (false)) rfl (by decide) rfl rfl rfl ((Pu.eqv (v := .bool (decide (0 < Q50.2))) (p_move rfl) (congrArg Value.bool h68))) ?_
        refine w_skip rfl (by decide) rfl rfl rfl ?_
        refine w_skip rfl (by decide) rfl rfl rfl ?_
        refine w_skip rfl (by decide) rfl rfl rfl ?_
        refine w_skip rfl (by decide) rfl rfl rfl ?_
        refine w_skip rfl (by decide) rfl rfl rfl ?_
        refine w_skip rfl (by decide) rfl rfl rfl ?_
        refine w_skip rfl (by decide) rfl rfl rfl ?_
        refine w_skip rfl (by decide) rfl rfl rfl ?_
        refine w_skip rfl (by decide) rfl rfl rfl ?_
        refine w_skip rfl (by decide) rfl rfl rfl ?_
        refine w_skip rfl (by decide) rfl rfl rfl ?_
        refine w_pu (v := .bool (false)) rfl (by decide) rfl rfl rfl (p_pickF rfl rfl) ?_
        refine w_pu (v := .bool (false)) rfl (by decide) rfl rfl rfl (p_pickF rfl rfl) ?_
        refine w_nil ?_
        show At _ _ _ _ _ _
        refine nT (?_)
        refine Tr.condF rfl ?_
        refine tSkip ?_
        refine nT (?_)
        refine Tr.region ?_
        refine Rg.q (v := .int .i64 (Q50.1)) (Pu.qo (p_move rfl)) (by decide) ?_
        refine Rg.q (v := .pointer (some ⟨g60, 2, none⟩)) (Pu.qo (p_fabE fa33_1 rfl rfl)) (by decide) ?_
        refine Rg.q (v := .slice (((X2 Q50.2.toNat).2).1) (((nth v0.2 Q50.2.toNat).2).length) (((X2 Q50.2.toNat).2).2.1)) (q_ldb ty31 rfl Has.here.there rfl) (by decide) ?_
        refine Rg.q (v := .int .i64 ((((nth v0.2 Q50.2.toNat).2).length : Int))) (Pu.qo (p_len 3 Try.underlying31 rfl)) (by decide) ?_
        obtain ⟨h76, H1⟩ := gd.of H1
        refine Rg.q (v := .int .i64 (Q50.1 - (((nth v0.2 Q50.2.toNat).2).length : Int))) (Pu.qo (p_sub rfl rfl h76)) (by decide) ?_
        refine Rg.q (v := .int .i64 (Q50.1 - (((nth v0.2 Q50.2.toNat).2).length : Int))) (Pu.qo (p_assign rfl)) (by decide) (Rg.nl ?_)
        refine nB (nT (?_))
        refine Tr.region ?_
        refine Rg.q (v := .int .i64 (Q50.2)) (Pu.qo (p_move rfl)) (by decide) ?_
        obtain ⟨h77, H1⟩ := gd.of H1
        refine Rg.q (v := .int .i64 (Q50.2 + 1)) (Pu.qo (p_add rfl rfl h77)) (by decide) ?_
        refine Rg.q (v := .int .i64 (Q50.2 + 1)) (Pu.qo (p_assign rfl)) (by decide) (Rg.nl ?_)
        exact nLC ⟨(m57, (Q50.1 - (((nth v0.2 Q50.2.toNat).2).length : Int), Q50.2 + 1), ()), hi54 _ (Option.some.inj H1).symm⟩ (Nat.lt_succ_self _) ⟨rfl, rfl, rfl, trivial⟩ Ents.refl (.cons Del.here.there.there .nil)
    ·have H1 := cdF h58 H1
     refine tExit (xT (xT (xE (?_))))
     exact nMC ⟨(Q50.1, ()), (hb55 _ (Option.some.inj H1).symm).symm⟩ ⟨rfl, trivial⟩ Ents.refl Take.nil
   ·rintro ⟨⟨e78, y52⟩, hx⟩; subst hx; replace H := sw.l H
    show At _ _ [(3, .int .i64 (e78))] _ [] _
    refine nT (?_)
    refine Tr.seq (Tr.region ?_)
    refine Rg.q (v := .int .i64 (e78)) (Pu.qo (p_move rfl)) (by decide) ?_
    refine Rg.q (v := .bool (decide (e78 = 0))) (Pu.qo (p_eql rfl rfl)) (by decide) ?_
    refine Rg.q (v := .bool (decide (e78 = 0))) (Pu.qo (p_assign rfl)) (by decide) (Rg.nl (nT ?_))
    refine tRet ?_
    have hr := Option.some.inj H; subst hr
    exact back1 () rfl (ResV.tmp (v := .bool (decide (e78 = 0))) rfl) rfl Ents.nil Take.nil
noncomputable def p_laws_FnPostOrder_b0 (r2 : Index) (Q20 : Int) : Option ((Int) ⊕ (Unit ⊕ Bool)) := cond (decide (Q20 < (r2.2.length : Int))) (gd (I64 (Q20 - 1)) <| gd (ix (Q20 - 1) r2.2.length) <| gd (ix Q20 r2.2.length) <| bd (cond (!(sless (((nth r2.2 ((Q20 - 1).toNat)).1).1) (((nth r2.2 Q20.toNat).1).1) || decide (((nth r2.2 ((Q20 - 1).toNat)).1).1 = ((nth r2.2 Q20.toNat).1).1))) (some (true)) (cond (decide (((nth r2.2 ((Q20 - 1).toNat)).1).1 = ((nth r2.2 Q20.toNat).1).1)) (some (!sless (((nth r2.2 ((Q20 - 1).toNat)).1).2) (((nth r2.2 Q20.toNat).1).2))) (some (false)))) fun b35 => cond (b35) (some (.inr (.inr false))) (gd (I64 (Q20 + 1)) <| some (.inl (Q20 + 1)))) (some (.inr (.inl ())))
noncomputable def p_laws_FnPostOrder (v0 : (List UInt8)) : Option (Bool) := cond (decide (1048576 < (v0.length : Int))) (some true) (bd (p_spec_DrawIndexOk v0) fun r2 => bd (p_impl_IndexOk r2) fun r6 => bd (bd (p_spec_IndexOk r2) fun r10 => cond (!decide (r6 = r10)) (some (true)) (some (!r6))) fun b8 => cond (b8) (bd (p_spec_IndexOk r2) fun r14 => some (decide (r6 = r14))) (bd (lp (p_laws_FnPostOrder_b0 r2) 1) <| sw (fun _ => cond (decide ((r2.2.length : Int) < 2)) (some true) (gd (ix 1 r2.2.length) <| gd (ix 0 r2.2.length) <| gd (sl2 2 (r2.2.length : Int) r2.2.length) <| gd (room (([nth r2.2 1, nth r2.2 0] : List Post).length + ((r2.2.take (r2.2.length : Int).toNat).drop 2).length)) <| gd (sl2 1 (r2.2.length : Int) r2.2.length) <| bd (bd (p_impl_IndexOk (r2.1, (([nth r2.2 1, nth r2.2 0] : List Post) ++ ((r2.2.take (r2.2.length : Int).toNat).drop 2)))) fun r57 => cond (!r57) (bd (p_impl_IndexOk (r2.1, ((r2.2.take (r2.2.length : Int).toNat).drop 1))) fun r60 => some (!r60)) (some (false))) fun b55 => some b55)) (fun q => some q)))
theorem c_laws_FnPostOrder {r : Bool} (v0 : (List UInt8)) (x_v0 : Option Addr × Nat) (H : p_laws_FnPostOrder v0 = some r) : Fn' Try.prog 3 #[.slice x_v0.1 v0.length x_v0.2] [imm (.slice x_v0.1 v0.length x_v0.2) v0] [] (ι := Unit) (fun _ => .bool (r)) (fun _ => []) (fun _ => []) := by
 refine calls_of (args := [_]) Try.func3 rfl (by kernel_rfl) Try.ntmps3 (by simp) fun c => ?_
 unfold p_laws_FnPostOrder at H
 refine Tr.seq (Tr.region ?_)
 refine Rg.q (v := .bool (false)) (Pu.qo (p_assign rfl)) (by decide) (Rg.nl (nT ?_))
 refine Tr.seq (Tr.seq (Tr.region ?_))
 refine Rg.q (v := .slice x_v0.1 v0.length x_v0.2) (Pu.qo (p_move rfl)) (by decide) ?_
 refine Rg.q (v := .int .i64 ((v0.length : Int))) (Pu.qo (p_len 5 Try.underlying22 rfl)) (by decide) ?_
 refine Rg.q (v := .bool (decide (1048576 < (v0.length : Int)))) (Pu.qo (p_gtr rfl rfl)) (by decide) (Rg.nl (nT ?_))
 refine Tr.cond (b := decide (1048576 < (v0.length : Int))) rfl (fun h1 => ?_) (fun h1 => ?_)
 ·have H := cdT h1 H
  refine Tr.seq (Tr.region ?_)
  refine Rg.q (v := .bool (true)) (Pu.qo (p_assign rfl)) (by decide) (Rg.nl (nT ?_))
  refine tRet ?_
  refine rT (?_)
  have hr := Option.some.inj H; subst hr
  exact back1 () rfl (ResV.tmp (v := .bool (true)) rfl) rfl Ents.nil Take.nil
 ·have H := cdF h1 H
  refine tSkip ?_
  refine nT (?_)
  refine Tr.seq (Tr.region ?_)
  refine Rg.q (v := .slice x_v0.1 v0.length x_v0.2) (Pu.qo (p_move rfl)) (by decide) ?_
  obtain ⟨r2, h3, H⟩ := bd.of H
  refine Rg.ed (e_call (vs := [.slice x_v0.1 v0.length x_v0.2]) (c_spec_DrawIndexOk v0 x_v0 h3) rfl (Ents.cons Ent.z Ents.nil) Take.nil) rfl (by decide) ?_
  rintro _ _ _ ⟨x4, rfl, rfl, rfl⟩
  refine Rg.ed (e_alloc ty26) rfl (by decide) ?_
  rintro _ _ _ ⟨g5, rfl, rfl, rfl⟩
  refine Rg.en (e_store (v := .agg #[.slice x4.1.1 r2.1.length x4.1.2, .slice x4.2.1 r2.2.length x4.2.2]) (cs' := [.slice x4.1.1 r2.1.length x4.1.2, .slice x4.2.1 r2.2.length x4.2.2]) ty26 rfl rfl Upd.here rfl (by simp [Value.cells, Value.oneCell']) (Nat.le_of_ble_eq_true rfl) rfl) rfl ?_
  rintro _ _ _ ⟨rfl, rfl, rfl⟩
  refine Rg.nl (nT ?_)
  refine Tr.seq (Tr.region ?_)
  refine Rg.q (v := .agg #[.slice x4.1.1 r2.1.length x4.1.2, .slice x4.2.1 r2.2.length x4.2.2]) (q_ldbA ty26 rfl Has.here rfl) (by decide) ?_
  obtain ⟨r6, h7, H⟩ := bd.of H
  refine Rg.q (v := .bool (r6)) (q_call (vs := [.agg #[.slice x4.1.1 r2.1.length x4.1.2, .slice x4.2.1 r2.2.length x4.2.2]]) (c_impl_IndexOk r2 x4 h7) rfl (EntsB.cons (Ent.b Ent.z) (EntsB.cons (Ent.b Ent.z.s) EntsB.nil))) (by decide) ?_
  refine Rg.q (v := .bool (r6)) (Pu.qo (p_assign rfl)) (by decide) (Rg.nl (nT ?_))
  refine Tr.seq ?_
  obtain ⟨b8, j9, H⟩ := bd.of H
  refine tMid1 [(24, .bool (b8)), (4, .bool (r6)), (3, .pointer (some ⟨g5, 0, none⟩))] ?_ ?_
  ·refine tLinT [(4, .bool (r6)), (3, .pointer (some ⟨g5, 0, none⟩))] ⟨rfl, rfl, trivial⟩ ?_
   refine Lin.q (v := .bool (r6)) (by decide) (Pu.qo (p_move rfl)) ?_
   refine Lin.q (v := .agg #[.slice x4.1.1 r2.1.length x4.1.2, .slice x4.2.1 r2.2.length x4.2.2]) (by decide) (q_ldbA ty26 rfl Has.here rfl) ?_
   obtain ⟨r10, h11, j9⟩ := bd.of j9
   refine Lin.q (v := .bool (r10)) (by decide) (q_call (vs := [.agg #[.slice x4.1.1 r2.1.length x4.1.2, .slice x4.2.1 r2.2.length x4.2.2]]) (c_spec_IndexOk r2 x4 h11) rfl (EntsB.cons (Ent.b Ent.z) (EntsB.cons (Ent.b Ent.z.s) EntsB.nil))) ?_
   refine Lin.q (v := .bool (!decide (r6 = r10))) (by decide) (Pu.qo (p_bneq Try.underlying4 rfl rfl)) ?_
   rcases Bool.eq_false_or_eq_true (!decide (r6 = r10)) with h12 | h12
   ·have j9 := cdT h12 j9
    refine Lin.q (v := .bool (true)) (by decide) (Qo.eqv (v := .bool (!decide (r6 = r10))) (Pu.qo (p_move rfl)) (congrArg Value.bool h12)) ?_
    refine Lin.skip (by decide) rfl ?_
    refine Lin.skip (by decide) rfl ?_
    refine Lin.q (v := .bool (true)) (by decide) (Pu.qo (p_pickT rfl rfl)) ?_
    have j9 := Option.some.inj j9; subst j9
    show At _ _ _ _ _ _
    exact n1 ⟨rfl, rfl, rfl, trivial⟩
   ·have j9 := cdF h12 j9
    refine Lin.q (v := .bool (false)) (by decide) (Qo.eqv (v := .bool (!decide (r6 = r10))) (Pu.qo (p_move rfl)) (congrArg Value.bool h12)) ?_
    refine Lin.g (v := .bool (r6)) (by decide) rfl (Pu.qo (p_move rfl)) ?_
    refine Lin.g (v := .bool (!r6)) (by decide) rfl (Pu.qo (p_not rfl)) ?_
    refine Lin.q (v := .bool (!r6)) (by decide) (Pu.qo (p_pickF rfl rfl)) ?_
    have j9 := Option.some.inj j9; subst j9
    show At _ _ _ _ _ _
    exact n1 ⟨rfl, rfl, rfl, trivial⟩
  refine Tr.cond (b := b8) rfl (fun h13 => ?_) (fun h13 => ?_)
  ·have H := cdT h13 H
   refine Tr.seq (Tr.region ?_)
   refine Rg.q (v := .bool (r6)) (Pu.qo (p_move rfl)) (by decide) ?_
   refine Rg.q (v := .agg #[.slice x4.1.1 r2.1.length x4.1.2, .slice x4.2.1 r2.2.length x4.2.2]) (q_ldbA ty26 rfl Has.here rfl) (by decide) ?_
   obtain ⟨r14, h15, H⟩ := bd.of H
   refine Rg.q (v := .bool (r14)) (q_call (vs := [.agg #[.slice x4.1.1 r2.1.length x4.1.2, .slice x4.2.1 r2.2.length x4.2.2]]) (c_spec_IndexOk r2 x4 h15) rfl (EntsB.cons (Ent.b Ent.z) (EntsB.cons (Ent.b Ent.z.s) EntsB.nil))) (by decide) ?_
   refine Rg.q (v := .bool (decide (r6 = r14))) (Pu.qo (p_beql Try.underlying4 rfl rfl)) (by decide) ?_
   refine Rg.q (v := .bool (decide (r6 = r14))) (Pu.qo (p_assign rfl)) (by decide) (Rg.nl (nT ?_))
   refine tRet ?_
   refine rT (?_)
   have hr := Option.some.inj H; subst hr
   exact back1 () rfl (ResV.tmp (v := .bool (decide (r6 = r14))) rfl) rfl Ents.nil Take.nil
  ·have H := cdF h13 H
   refine tSkip ?_
   refine nT (?_)
   refine Tr.seq (Tr.seq (Tr.region ?_))
   refine Rg.q (v := .int .i64 (1)) (Pu.qo (p_assign rfl)) (by decide) (Rg.nl (nT ?_))
   obtain ⟨x16, hx17, H⟩ := bd.of H
   obtain ⟨n18, hx17⟩ := lp.of hx17
   refine tMidNC (ι := { q : (Unit) × Unit // x16 = .inl q.1 }) (fun ψ => [(3, .pointer (some ⟨g5, 0, none⟩))]) (fun ψ => [box g5 26 [.slice x4.1.1 r2.1.length x4.1.2, .slice x4.2.1 r2.2.length x4.2.2]]) ?_ ?_
   ·refine Tr.block ?_
    refine tLoopC (ι := { q : Nat × (Int) × Unit // itr (p_laws_FnPostOrder_b0 r2) q.1 q.2.1 = some x16 }) (fun ζ => [(3, .pointer (some ⟨g5, 0, none⟩)), (5, .int .i64 (ζ.1.2.1))]) (fun ζ => [box g5 26 [.slice x4.1.1 r2.1.length x4.1.2, .slice x4.2.1 r2.2.length x4.2.2]]) (fun ζ => ζ.1.1) ⟨(n18, 1, ()), hx17⟩ ⟨rfl, rfl, trivial⟩ (.cons Del.here .nil) ?_
    rintro ⟨⟨m19, Q20, z21⟩, hk26⟩
    obtain ⟨m27, t23, e, H1, hi24, hb25⟩ := itr.of (n := m19) (s := Q20) hk26
    subst e; unfold p_laws_FnPostOrder_b0 at H1
    show Tr _ _ _ _ _ [(3, .pointer (some ⟨g5, 0, none⟩)), (5, .int .i64 (Q20))] _ [box g5 26 [.slice x4.1.1 r2.1.length x4.1.2, .slice x4.2.1 r2.2.length x4.2.2]]
    refine Tr.seq (Tr.seq (Tr.region ?_))
    refine Rg.q (v := .int .i64 (Q20)) (Pu.qo (p_move rfl)) (by decide) ?_
    refine Rg.q (v := .pointer (some ⟨g5, 1, none⟩)) (Pu.qo (p_fabE fa26_1 rfl rfl)) (by decide) ?_
    refine Rg.q (v := .slice x4.2.1 r2.2.length x4.2.2) (q_ldb ty24 rfl Has.here rfl) (by decide) ?_
    refine Rg.q (v := .int .i64 ((r2.2.length : Int))) (Pu.qo (p_len 33 Try.underlying24 rfl)) (by decide) ?_
    refine Rg.q (v := .bool (decide (Q20 < (r2.2.length : Int)))) (Pu.qo (p_lss rfl rfl)) (by decide) (Rg.nl (nT ?_))
    refine Tr.cond (b := decide (Q20 < (r2.2.length : Int))) rfl (fun h28 => ?_) (fun h28 => ?_)
    ·have H1 := cdT h28 H1
     refine tSkip ?_
     refine nT (Tr.seq ?_)
     refine Tr.block ?_
     refine Tr.seq ?_
     refine Tr.openD Ent.z.s fun X29 => ?_
     refine Tr.region ?_
     refine Rg.q (v := .pointer (some ⟨g5, 1, none⟩)) (Pu.qo (p_fabE fa26_1 rfl rfl)) (by decide) ?_
     refine Rg.q (v := .slice x4.2.1 r2.2.length x4.2.2) (q_ldb ty24 rfl Has.here rfl) (by decide) ?_
     refine Rg.q (v := .int .i64 (Q20)) (Pu.qo (p_move rfl)) (by decide) ?_
     obtain ⟨h30, H1⟩ := gd.of H1
     refine Rg.q (v := .int .i64 (Q20 - 1)) (Pu.qo (p_sub rfl rfl h30)) (by decide) ?_
     obtain ⟨h31, H1⟩ := gd.of H1
     refine Rg.q (v := elp x4.2.1 (((Q20 - 1).toNat) * Enc.sz Post + 0)) (q_ixg (l := r2.2) (E := fun i => Dp.denc (nth r2.2 i) (X29 i)) (oa := x4.2.1) Try.underlying24 ty33 rfl rfl h31 rfl (Ent.b (Ent.darr Ent.z))) (by decide) ?_
     refine Rg.q (v := elp x4.2.1 (((Q20 - 1).toNat) * Enc.sz Post + 0)) (q_faeE (l := r2.2) (E := fun i => Dp.denc (nth r2.2 i) (X29 i)) (oa := x4.2.1) (j := 0) ((Q20 - 1).toNat) fa33_0 rfl (Ent.b (Ent.darr Ent.z)) h31.lt rfl) (by decide) ?_
     refine Rg.q (v := .agg #[.string (((nth r2.2 ((Q20 - 1).toNat)).1).1), .string (((nth r2.2 ((Q20 - 1).toNat)).1).2)]) (q_ldeP [.string (((nth r2.2 ((Q20 - 1).toNat)).1).1), .string (((nth r2.2 ((Q20 - 1).toNat)).1).2)] (l := r2.2) (E := fun i => Dp.denc (nth r2.2 i) (X29 i)) (oa := x4.2.1) (i := (Q20 - 1).toNat) (j := 0) ty30 rfl (Ent.b (Ent.darr Ent.z)) h31.lt rfl rfl) (by decide) ?_
     refine Rg.ed (e_alloc ty30) rfl (by decide) ?_
     rintro _ _ _ ⟨g32, rfl, rfl, rfl⟩
     refine Rg.en (e_store (v := .agg #[.string (((nth r2.2 ((Q20 - 1).toNat)).1).1), .string (((nth r2.2 ((Q20 - 1).toNat)).1).2)]) (cs' := [.string (((nth r2.2 ((Q20 - 1).toNat)).1).1), .string (((nth r2.2 ((Q20 - 1).toNat)).1).2)]) ty30 rfl rfl Upd.here rfl (by simp [Value.cells, Value.oneCell']) (Nat.le_of_ble_eq_true rfl) rfl) rfl ?_
     rintro _ _ _ ⟨rfl, rfl, rfl⟩
     refine Rg.nl (nT ?_)
     refine Tr.seq (Tr.region ?_)
     refine Rg.q (v := .pointer (some ⟨g5, 1, none⟩)) (Pu.qo (p_fabE fa26_1 rfl rfl)) (by decide) ?_
     refine Rg.q (v := .slice x4.2.1 r2.2.length x4.2.2) (q_ldb ty24 rfl Has.here.there rfl) (by decide) ?_
     refine Rg.q (v := .int .i64 (Q20)) (Pu.qo (p_move rfl)) (by decide) ?_
     obtain ⟨h33, H1⟩ := gd.of H1
     refine Rg.q (v := elp x4.2.1 (Q20.toNat * Enc.sz Post + 0)) (q_ixg (l := r2.2) (E := fun i => Dp.denc (nth r2.2 i) (X29 i)) (oa := x4.2.1) Try.underlying24 ty33 rfl rfl h33 rfl (Ent.b (Ent.darr Ent.z))) (by decide) ?_
     refine Rg.q (v := elp x4.2.1 (Q20.toNat * Enc.sz Post + 0)) (q_faeE (l := r2.2) (E := fun i => Dp.denc (nth r2.2 i) (X29 i)) (oa := x4.2.1) (j := 0) Q20.toNat fa33_0 rfl (Ent.b (Ent.darr Ent.z)) h33.lt rfl) (by decide) ?_
     refine Rg.q (v := .agg #[.string (((nth r2.2 Q20.toNat).1).1), .string (((nth r2.2 Q20.toNat).1).2)]) (q_ldeP [.string (((nth r2.2 Q20.toNat).1).1), .string (((nth r2.2 Q20.toNat).1).2)] (l := r2.2) (E := fun i => Dp.denc (nth r2.2 i) (X29 i)) (oa := x4.2.1) (i := Q20.toNat) (j := 0) ty30 rfl (Ent.b (Ent.darr Ent.z)) h33.lt rfl rfl) (by decide) ?_
     refine Rg.ed (e_alloc ty30) rfl (by decide) ?_
     rintro _ _ _ ⟨g34, rfl, rfl, rfl⟩
     refine Rg.en (e_store (v := .agg #[.string (((nth r2.2 Q20.toNat).1).1), .string (((nth r2.2 Q20.toNat).1).2)]) (cs' := [.string (((nth r2.2 Q20.toNat).1).1), .string (((nth r2.2 Q20.toNat).1).2)]) ty30 rfl rfl Upd.here rfl (by simp [Value.cells, Value.oneCell']) (Nat.le_of_ble_eq_true rfl) rfl) rfl ?_
     rintro _ _ _ ⟨rfl, rfl, rfl⟩
     refine Rg.nl (nT ?_)
     obtain ⟨b35, j36, H1⟩ := bd.of H1
     refine tMid1 [(67, .bool (b35)), (3, .pointer (some ⟨g5, 0, none⟩)), (5, .int .i64 (Q20))] ?_ ?_
     ·refine tLinT [(7, .pointer (some ⟨g34, 0, none⟩)), (6, .pointer (some ⟨g32, 0, none⟩)), (3, .pointer (some ⟨g5, 0, none⟩)), (5, .int .i64 (Q20))] ⟨rfl, rfl, rfl, rfl, trivial⟩ ?_
      refine Lin.q (v := .pointer (some ⟨g32, 0, none⟩)) (by decide) (Pu.qo (p_fabE fa30_0 rfl rfl)) ?_
      refine Lin.q (v := .string (((nth r2.2 ((Q20 - 1).toNat)).1).1)) (by decide) (q_ldb ty9 rfl Has.here.there rfl) ?_
      refine Lin.q (v := .pointer (some ⟨g34, 0, none⟩)) (by decide) (Pu.qo (p_fabE fa30_0 rfl rfl)) ?_
      refine Lin.q (v := .string (((nth r2.2 Q20.toNat).1).1)) (by decide) (q_ldb ty9 rfl Has.here rfl) ?_
      refine Lin.q (v := .bool (!(sless (((nth r2.2 ((Q20 - 1).toNat)).1).1) (((nth r2.2 Q20.toNat).1).1) || decide (((nth r2.2 ((Q20 - 1).toNat)).1).1 = ((nth r2.2 Q20.toNat).1).1)))) (by decide) (Pu.qo (p_sgtr rfl rfl)) ?_
      rcases Bool.eq_false_or_eq_true (!(sless (((nth r2.2 ((Q20 - 1).toNat)).1).1) (((nth r2.2 Q20.toNat).1).1) || decide (((nth r2.2 ((Q20 - 1).toNat)).1).1 = ((nth r2.2 Q20.toNat).1).1))) with h37 | h37
      ·have j36 := cdT h37 j36
       refine Lin.q (v := .bool (true)) (by decide) (Qo.eqv (v := .bool (!(sless (((nth r2.2 ((Q20 - 1).toNat)).1).1) (((nth r2.2 Q20.toNat).1).1) || decide (((nth r2.2 ((Q20 - 1).toNat)).1).1 = ((nth r2.2 Q20.toNat).1).1)))) (Pu.qo (p_move rfl)) (congrArg Value.bool h37)) ?_
       refine Lin.skip (by decide) rfl ?_
       refine Lin.skip (by decide) rfl ?_
       refine Lin.skip (by decide) rfl ?_
       refine Lin.skip (by decide) rfl ?_
       refine Lin.skip (by decide) rfl ?_
       refine Lin.skip (by decide) rfl ?_
       refine Lin.skip (by decide) rfl ?_
       refine Lin.skip (by decide) rfl ?_
       refine Lin.skip (by decide) rfl ?_
       refine Lin.skip (by decide) rfl ?_
       refine Lin.skip (by decide) rfl ?_
       refine Lin.skip (by decide) rfl ?_
       refine Lin.q (v := .bool (true)) (by decide) (Pu.qo (p_pickT rfl rfl)) ?_
       have j36 := Option.some.inj j36; subst j36
       show At _ _ _ _ _ _
       exact n1 ⟨rfl, rfl, rfl, trivial⟩
      ·have j36 := cdF h37 j36
       refine Lin.q (v := .bool (false)) (by decide) (Qo.eqv (v := .bool (!(sless (((nth r2.2 ((Q20 - 1).toNat)).1).1) (((nth r2.2 Q20.toNat).1).1) || decide (((nth r2.2 ((Q20 - 1).toNat)).1).1 = ((nth r2.2 Q20.toNat).1).1)))) (Pu.qo (p_move rfl)) (congrArg Value.bool h37)) ?_
       refine Lin.g (v := .pointer (some ⟨g32, 0, none⟩)) (by decide) rfl (Pu.qo (p_fabE fa30_0 rfl rfl)) ?_
       refine Lin.g (v := .string (((nth r2.2 ((Q20 - 1).toNat)).1).1)) (by decide) rfl (q_ldb ty9 rfl Has.here.there rfl) ?_
       refine Lin.g (v := .pointer (some ⟨g34, 0, none⟩)) (by decide) rfl (Pu.qo (p_fabE fa30_0 rfl rfl)) ?_
       refine Lin.g (v := .string (((nth r2.2 Q20.toNat).1).1)) (by decide) rfl (q_ldb ty9 rfl Has.here rfl) ?_
       refine Lin.g (v := .bool (decide (((nth r2.2 ((Q20 - 1).toNat)).1).1 = ((nth r2.2 Q20.toNat).1).1))) (by decide) rfl (Pu.qo (p_seql rfl rfl)) ?_
       rcases Bool.eq_false_or_eq_true (decide (((nth r2.2 ((Q20 - 1).toNat)).1).1 = ((nth r2.2 Q20.toNat).1).1)) with h38 | h38
       ·have j36 := cdT h38 j36
        refine Lin.g (v := .bool (true)) (by decide) rfl (Qo.eqv (v := .bool (decide (((nth r2.2 ((Q20 - 1).toNat)).1).1 = ((nth r2.2 Q20.toNat).1).1))) (Pu.qo (p_move rfl)) (congrArg Value.bool h38)) ?_
        refine Lin.g (v := .pointer (some ⟨g32, 1, none⟩)) (by decide) rfl (Pu.qo (p_fabE fa30_1 rfl rfl)) ?_
        refine Lin.g (v := .string (((nth r2.2 ((Q20 - 1).toNat)).1).2)) (by decide) rfl (q_ldb ty9 rfl Has.here.there rfl) ?_
        refine Lin.g (v := .pointer (some ⟨g34, 1, none⟩)) (by decide) rfl (Pu.qo (p_fabE fa30_1 rfl rfl)) ?_
        refine Lin.g (v := .string (((nth r2.2 Q20.toNat).1).2)) (by decide) rfl (q_ldb ty9 rfl Has.here rfl) ?_
        refine Lin.g (v := .bool (!sless (((nth r2.2 ((Q20 - 1).toNat)).1).2) (((nth r2.2 Q20.toNat).1).2))) (by decide) rfl (Pu.qo (p_sgeq rfl rfl)) ?_
        refine Lin.g (v := .bool (!sless (((nth r2.2 ((Q20 - 1).toNat)).1).2) (((nth r2.2 Q20.toNat).1).2))) (by decide) rfl (Pu.qo (p_pickT rfl rfl)) ?_
        refine Lin.q (v := .bool (!sless (((nth r2.2 ((Q20 - 1).toNat)).1).2) (((nth r2.2 Q20.toNat).1).2))) (by decide) (Pu.qo (p_pickF rfl rfl)) ?_
        have j36 := Option.some.inj j36; subst j36
        show At _ _ _ _ _ _
        exact n1 ⟨rfl, rfl, rfl, trivial⟩
       ·have j36 := cdF h38 j36
        refine Lin.g (v := .bool (false)) (by decide) rfl (Qo.eqv (v := .bool (decide (((nth r2.2 ((Q20 - 1).toNat)).1).1 = ((nth r2.2 Q20.toNat).1).1))) (Pu.qo (p_move rfl)) (congrArg Value.bool h38)) ?_
        refine Lin.skip (by decide) rfl ?_
        refine Lin.skip (by decide) rfl ?_
        refine Lin.skip (by decide) rfl ?_
        refine Lin.skip (by decide) rfl ?_
        refine Lin.skip (by decide) rfl ?_
        refine Lin.g (v := .bool (false)) (by decide) rfl (Pu.qo (p_pickF rfl rfl)) ?_
        refine Lin.q (v := .bool (false)) (by decide) (Pu.qo (p_pickF rfl rfl)) ?_
        have j36 := Option.some.inj j36; subst j36
        show At _ _ _ _ _ _
        exact n1 ⟨rfl, rfl, rfl, trivial⟩
     refine Tr.cond (b := b35) rfl (fun h39 => ?_) (fun h39 => ?_)
     ·have H1 := cdT h39 H1
      refine Tr.seq (Tr.region ?_)
      refine Rg.q (v := .bool (false)) (Pu.qo (p_assign rfl)) (by decide) (Rg.nl (nT ?_))
      refine tRet ?_
      refine rB (rT (rT (rB (rT (rT (?_))))))
      have hx := hb25 _ (Option.some.inj H1).symm; subst hx
      replace H := sw.r H
      have hr := Option.some.inj H; subst hr
      exact back1 () rfl (ResV.tmp (v := .bool (false)) rfl) rfl Ents.nil Take.nil
     ·have H1 := cdF h39 H1
      refine tSkip ?_
      refine nB (nT (?_))
      refine Tr.region ?_
      refine Rg.q (v := .int .i64 (Q20)) (Pu.qo (p_move rfl)) (by decide) ?_
      obtain ⟨h40, H1⟩ := gd.of H1
      refine Rg.q (v := .int .i64 (Q20 + 1)) (Pu.qo (p_add rfl rfl h40)) (by decide) ?_
      refine Rg.q (v := .int .i64 (Q20 + 1)) (Pu.qo (p_assign rfl)) (by decide) (Rg.nl ?_)
      exact nLC ⟨(m27, Q20 + 1, ()), hi24 _ (Option.some.inj H1).symm⟩ (Nat.lt_succ_self _) ⟨rfl, rfl, trivial⟩ Ents.refl.s (.cons Del.here.there.there .nil)
    ·have H1 := cdF h28 H1
     refine tExit (xT (xT (xE (?_))))
     exact nMC ⟨((), ()), (hb25 _ (Option.some.inj H1).symm).symm⟩ ⟨rfl, trivial⟩ Ents.refl (.cons Del.here .nil)
   ·rintro ⟨⟨e41, y22⟩, hx⟩; subst hx; replace H := sw.l H
    show At _ _ [(3, .pointer (some ⟨g5, 0, none⟩))] _ [box g5 26 [.slice x4.1.1 r2.1.length x4.1.2, .slice x4.2.1 r2.2.length x4.2.2]] _
    refine nT (?_)
    refine Tr.seq (Tr.seq (Tr.region ?_))
    refine Rg.q (v := .pointer (some ⟨g5, 1, none⟩)) (Pu.qo (p_fabE fa26_1 rfl rfl)) (by decide) ?_
    refine Rg.q (v := .slice x4.2.1 r2.2.length x4.2.2) (q_ldb ty24 rfl Has.here rfl) (by decide) ?_
    refine Rg.q (v := .int .i64 ((r2.2.length : Int))) (Pu.qo (p_len 33 Try.underlying24 rfl)) (by decide) ?_
    refine Rg.q (v := .bool (decide ((r2.2.length : Int) < 2))) (Pu.qo (p_lss rfl rfl)) (by decide) (Rg.nl (nT ?_))
    refine Tr.cond (b := decide ((r2.2.length : Int) < 2)) rfl (fun h42 => ?_) (fun h42 => ?_)
    ·have H := cdT h42 H
     refine Tr.seq (Tr.region ?_)
     refine Rg.q (v := .bool (true)) (Pu.qo (p_assign rfl)) (by decide) (Rg.nl (nT ?_))
     refine tRet ?_
     refine rT (?_)
     have hr := Option.some.inj H; subst hr
     exact back1 () rfl (ResV.tmp (v := .bool (true)) rfl) rfl Ents.nil Take.nil
    ·have H := cdF h42 H
     refine tSkip ?_
     refine nT (?_)
     refine Tr.seq (Tr.region ?_)
     refine Rg.q (v := .agg #[.slice x4.1.1 r2.1.length x4.1.2, .slice x4.2.1 r2.2.length x4.2.2]) (q_ldbA ty26 rfl Has.here rfl) (by decide) ?_
     refine Rg.ed (e_alloc ty26) rfl (by decide) ?_
     rintro _ _ _ ⟨g43, rfl, rfl, rfl⟩
     refine Rg.en (e_store (v := .agg #[.slice x4.1.1 r2.1.length x4.1.2, .slice x4.2.1 r2.2.length x4.2.2]) (cs' := [.slice x4.1.1 r2.1.length x4.1.2, .slice x4.2.1 r2.2.length x4.2.2]) ty26 rfl rfl Upd.here rfl (by simp [Value.cells, Value.oneCell']) (Nat.le_of_ble_eq_true rfl) rfl) rfl ?_
     rintro _ _ _ ⟨rfl, rfl, rfl⟩
     refine Rg.nl (nT ?_)
     refine Tr.seq ?_
     refine Tr.openD Ent.z.s fun X44 => ?_
     refine tNwS [(8, .pointer (some ⟨g43, 0, none⟩)), (3, .pointer (some ⟨g5, 0, none⟩))] 1 [0, 1, 2, 3, 4, 5, 6, 7, 9, 10, 11, 8, 12, 13, 14] [8, 12, 14] [] Try.mixed (by kernel_rfl) (by decide) List.nodup_nil ⟨rfl, rfl, trivial⟩ rfl okNil ?_
     refine w_pu (v := .pointer (some ⟨g5, 1, none⟩)) rfl (by decide) rfl rfl rfl (p_fabE fa26_1 rfl rfl) ?_
     refine w_q (v := .slice x4.2.1 r2.2.length x4.2.2) rfl (by decide) rfl rfl rfl (fun F => (q_ldb ty24 rfl (Has.here.there.app F) rfl)) ?_
     obtain ⟨h45, H⟩ := gd.of H
     refine w_q (v := elp x4.2.1 (1 * Enc.sz Post + 0)) rfl (by decide) rfl rfl rfl (fun F => (q_ixg (l := r2.2) (E := fun i => Dp.denc (nth r2.2 i) (X44 i)) (oa := x4.2.1) Try.underlying24 ty33 rfl rfl h45 rfl (Ent.b (Ent.darr Ent.z)))) ?_
     refine w_q (v := .agg #[.string (((nth r2.2 1).1).1), .string (((nth r2.2 1).1).2), .slice (((X44 1).2).1) (((nth r2.2 1).2).length) (((X44 1).2).2.1)]) rfl (by decide) rfl rfl rfl (fun F => (q_ldeA (l := r2.2) (E := fun i => Dp.denc (nth r2.2 i) (X44 i)) (oa := x4.2.1) (i := 1) ty33 rfl (Ent.b (Ent.darr Ent.z)) h45.lt)) ?_
     refine w_pu (v := .pointer (some ⟨g5, 1, none⟩)) rfl (by decide) rfl rfl rfl (p_fabE fa26_1 rfl rfl) ?_
     refine w_q (v := .slice x4.2.1 r2.2.length x4.2.2) rfl (by decide) rfl rfl rfl (fun F => (q_ldb ty24 rfl (Has.here.there.app F) rfl)) ?_
     obtain ⟨h46, H⟩ := gd.of H
     refine w_q (v := elp x4.2.1 (0 * Enc.sz Post + 0)) rfl (by decide) rfl rfl rfl (fun F => (q_ixg (l := r2.2) (E := fun i => Dp.denc (nth r2.2 i) (X44 i)) (oa := x4.2.1) Try.underlying24 ty33 rfl rfl h46 rfl (Ent.b (Ent.darr Ent.z)))) ?_
     refine w_q (v := .agg #[.string (((nth r2.2 0).1).1), .string (((nth r2.2 0).1).2), .slice (((X44 0).2).1) (((nth r2.2 0).2).length) (((X44 0).2).2.1)]) rfl (by decide) rfl rfl rfl (fun F => (q_ldeA (l := r2.2) (E := fun i => Dp.denc (nth r2.2 i) (X44 i)) (oa := x4.2.1) (i := 0) ty33 rfl (Ent.b (Ent.darr Ent.z)) h46.lt)) ?_
     refine w_pu (v := .pointer (some ⟨g5, 1, none⟩)) rfl (by decide) rfl rfl rfl (p_fabE fa26_1 rfl rfl) ?_
     refine w_q (v := .slice x4.2.1 r2.2.length x4.2.2) rfl (by decide) rfl rfl rfl (fun F => (q_ldb ty24 rfl (Has.here.there.app F) rfl)) ?_
     obtain ⟨h47, H⟩ := gd.of H
     refine w_q (v := .slice (subA x4.2.1 x4.2.2 2 (Enc.sz Post)) (((r2.2.take (r2.2.length : Int).toNat).drop 2).length) (x4.2.2 - 2)) rfl (by decide) rfl rfl rfl (fun F => (q_slF (l := r2.2) (α := Post) 2 (r2.2.length : Int) Try.underlying24 ty33 rfl rfl (fun h => nomatch h) rfl (fun _ => rfl) h47 (Ent.b (Ent.dimm Ent.z)))) ?_
     refine w_ed rfl (by decide) rfl Rdy.nil rfl (n_litR (α := Post) (vs := [(0, .agg #[.string (((nth r2.2 1).1).1), .string (((nth r2.2 1).1).2), .slice (((X44 1).2).1) (((nth r2.2 1).2).length) (((X44 1).2).2.1)]), (1, .agg #[.string (((nth r2.2 0).1).1), .string (((nth r2.2 0).1).2), .slice (((X44 0).2).1) (((nth r2.2 0).2).length) (((X44 0).2).2.1)])]) ([nth r2.2 1, nth r2.2 0] : List Post) [(nth r2.2 1, (((), ()), (((X44 1).2).1, ((X44 1).2).2.1))), (nth r2.2 0, (((), ()), (((X44 0).2).1, ((X44 0).2).2.1)))] rfl rfl Try.underlying24 ty33 rfl (by decide) (by decide) (by kernel_rfl) (Ents.cons (Ent.dimm (Ent.dsnd (Ent.del Ent.z h45.lt))) (Ents.cons (Ent.dimm (Ent.dsnd (Ent.del Ent.z h46.lt))) Ents.nil))) ?_
     rintro _ _ _ ⟨a48, c49, rfl, rfl, rfl⟩
     refine ⟨(PdOk.q rfl rfl (fun F => (q_slF (l := r2.2) (α := Post) 2 (r2.2.length : Int) Try.underlying24 ty33 rfl rfl (fun h => nomatch h) rfl (fun _ => rfl) h47 (Ent.b (Ent.dimm Ent.z)))) (PdOk.q rfl rfl (fun F => (q_ldb ty24 rfl (Has.here.there.there.app F) rfl)) (PdOk.anc (by kernel_rfl) (PdOk.q rfl rfl (fun F => (q_ixg (l := r2.2) (E := fun i => Dp.denc (nth r2.2 i) (X44 i)) (oa := x4.2.1) Try.underlying24 ty33 rfl rfl h46 rfl (Ent.b (Ent.darr Ent.z)))) (PdOk.q rfl rfl (fun F => (q_ldb ty24 rfl (Has.here.there.there.app F) rfl)) (PdOk.anc (by kernel_rfl) (PdOk.q rfl rfl (fun F => (q_ixg (l := r2.2) (E := fun i => Dp.denc (nth r2.2 i) (X44 i)) (oa := x4.2.1) Try.underlying24 ty33 rfl rfl h45 rfl (Ent.b (Ent.darr Ent.z)))) (PdOk.q rfl rfl (fun F => (q_ldb ty24 rfl (Has.here.there.there.app F) rfl)) PdOk.nil)))))))), ?_⟩
     obtain ⟨h52, H⟩ := gd.of H
     refine w_ed rfl (by decide) rfl Rdy.nil rfl (n_appR (l := ([nth r2.2 1, nth r2.2 0] : List Post)) (k := ((r2.2.take (r2.2.length : Int).toNat).drop 2)) (α := Post) Try.underlying24 ty33 rfl rfl (h52.b (by decide)) h52.x (.cons Del.here .nil) (Ent.sub (Ent.dimm Ent.z) h47.le h47.lt)) ?_
     rintro _ _ _ ⟨a50, c51, rfl, rfl, rfl⟩
     refine ⟨(PdOk.anc (by kernel_rfl) (PdOk.q rfl rfl (fun F => (q_ldb ty24 rfl (Has.here.there.there.app F) rfl)) (PdOk.q rfl rfl (fun F => (q_ldeA (l := r2.2) (E := fun i => Dp.denc (nth r2.2 i) (X44 i)) (oa := x4.2.1) (i := 0) ty33 rfl (Ent.b (Ent.darr Ent.z)) h46.lt)) (PdOk.q rfl rfl (fun F => (q_ixg (l := r2.2) (E := fun i => Dp.denc (nth r2.2 i) (X44 i)) (oa := x4.2.1) Try.underlying24 ty33 rfl rfl h46 rfl (Ent.b (Ent.darr Ent.z)))) (PdOk.q rfl rfl (fun F => (q_ldb ty24 rfl (Has.here.there.there.app F) rfl)) (PdOk.q rfl rfl (fun F => (q_ldeA (l := r2.2) (E := fun i => Dp.denc (nth r2.2 i) (X44 i)) (oa := x4.2.1) (i := 1) ty33 rfl (Ent.b (Ent.darr Ent.z)) h45.lt)) (PdOk.q rfl rfl (fun F => (q_ixg (l := r2.2) (E := fun i => Dp.denc (nth r2.2 i) (X44 i)) (oa := x4.2.1) Try.underlying24 ty33 rfl rfl h45 rfl (Ent.b (Ent.darr Ent.z)))) (PdOk.q rfl rfl (fun F => (q_ldb ty24 rfl (Has.here.there.there.app F) rfl)) PdOk.nil)))))))), ?_⟩
     refine w_pu (v := .pointer (some ⟨g43, 1, none⟩)) rfl (by decide) rfl rfl rfl (p_fabE fa26_1 rfl rfl) ?_
     refine w_en rfl rfl Rdy.nil rfl (n_store (v := .slice a50 ((([nth r2.2 1, nth r2.2 0] : List Post) ++ ((r2.2.take (r2.2.length : Int).toNat).drop 2)).length) c51) (cs' := [.slice x4.1.1 r2.1.length x4.1.2, .slice a50 ((([nth r2.2 1, nth r2.2 0] : List Post) ++ ((r2.2.take (r2.2.length : Int).toNat).drop 2)).length) c51]) ty24 rfl rfl Upd.here.there rfl (by simp [Value.cells, Value.oneCell']) (Nat.le_of_ble_eq_true rfl) rfl) ?_
     rintro _ _ _ ⟨rfl, rfl, rfl⟩
     refine ⟨(PdOk.anc (by kernel_rfl) (PdOk.anc (by kernel_rfl) (PdOk.anc (by kernel_rfl) (PdOk.anc (by kernel_rfl) (PdOk.anc (by kernel_rfl) (PdOk.anc (by kernel_rfl) (PdOk.anc (by kernel_rfl) (PdOk.anc (by kernel_rfl) PdOk.nil)))))))), ?_⟩
     refine w_nil ?_
     show At _ _ _ _ _ _
     refine nT (?_)
     refine Tr.seq (Tr.region ?_)
     refine Rg.q (v := .agg #[.slice x4.1.1 r2.1.length x4.1.2, .slice x4.2.1 r2.2.length x4.2.2]) (q_ldbA ty26 rfl Has.here.there.there rfl) (by decide) ?_
     refine Rg.ed (e_alloc ty26) rfl (by decide) ?_
     rintro _ _ _ ⟨g53, rfl, rfl, rfl⟩
     refine Rg.en (e_store (v := .agg #[.slice x4.1.1 r2.1.length x4.1.2, .slice x4.2.1 r2.2.length x4.2.2]) (cs' := [.slice x4.1.1 r2.1.length x4.1.2, .slice x4.2.1 r2.2.length x4.2.2]) ty26 rfl rfl Upd.here rfl (by simp [Value.cells, Value.oneCell']) (Nat.le_of_ble_eq_true rfl) rfl) rfl ?_
     rintro _ _ _ ⟨rfl, rfl, rfl⟩
     refine Rg.nl (nT ?_)
     refine Tr.seq (Tr.region ?_)
     refine Rg.q (v := .pointer (some ⟨g5, 1, none⟩)) (Pu.qo (p_fabE fa26_1 rfl rfl)) (by decide) ?_
     refine Rg.q (v := .slice x4.2.1 r2.2.length x4.2.2) (q_ldb ty24 rfl Has.here.there.there.there rfl) (by decide) ?_
     obtain ⟨h54, H⟩ := gd.of H
     refine Rg.q (v := .slice (subA x4.2.1 x4.2.2 1 (Enc.sz Post)) (((r2.2.take (r2.2.length : Int).toNat).drop 1).length) (x4.2.2 - 1)) (q_slF (l := r2.2) (α := Post) 1 (r2.2.length : Int) Try.underlying24 ty33 rfl rfl (fun h => nomatch h) rfl (fun _ => rfl) h54 (Ent.b (Ent.dimm Ent.z))) (by decide) ?_
     refine Rg.q (v := .pointer (some ⟨g53, 1, none⟩)) (Pu.qo (p_fabE fa26_1 rfl rfl)) (by decide) ?_
     refine Rg.en (e_store (v := .slice (subA x4.2.1 x4.2.2 1 (Enc.sz Post)) (((r2.2.take (r2.2.length : Int).toNat).drop 1).length) (x4.2.2 - 1)) (cs' := [.slice x4.1.1 r2.1.length x4.1.2, .slice (subA x4.2.1 x4.2.2 1 (Enc.sz Post)) (((r2.2.take (r2.2.length : Int).toNat).drop 1).length) (x4.2.2 - 1)]) ty24 rfl rfl Upd.here rfl (by simp [Value.cells, Value.oneCell']) (Nat.le_of_ble_eq_true rfl) rfl) rfl ?_
     rintro _ _ _ ⟨rfl, rfl, rfl⟩
     refine Rg.nl (nT ?_)
     obtain ⟨b55, j56, H⟩ := bd.of H
     refine tMid1 [(2, .bool (b55))] ?_ ?_
     ·refine tLinT [(9, .pointer (some ⟨g53, 0, none⟩)), (8, .pointer (some ⟨g43, 0, none⟩))] ⟨rfl, rfl, trivial⟩ ?_
      refine Lin.q (v := .agg #[.slice x4.1.1 r2.1.length x4.1.2, .slice a50 ((([nth r2.2 1, nth r2.2 0] : List Post) ++ ((r2.2.take (r2.2.length : Int).toNat).drop 2)).length) c51]) (by decide) (q_ldbA ty26 rfl Has.here.there.there rfl) ?_
      obtain ⟨r57, h58, j56⟩ := bd.of j56
      refine Lin.q (v := .bool (r57)) (by decide) (q_call (vs := [.agg #[.slice x4.1.1 r2.1.length x4.1.2, .slice a50 ((([nth r2.2 1, nth r2.2 0] : List Post) ++ ((r2.2.take (r2.2.length : Int).toNat).drop 2)).length) c51]]) (c_impl_IndexOk (r2.1, (([nth r2.2 1, nth r2.2 0] : List Post) ++ ((r2.2.take (r2.2.length : Int).toNat).drop 2))) (x4.1, (a50, c51)) h58) rfl (EntsB.cons (Ent.b Ent.z.s) (EntsB.cons (EntB.row Has.here.there) EntsB.nil))) ?_
      refine Lin.q (v := .bool (!r57)) (by decide) (Pu.qo (p_not rfl)) ?_
      rcases Bool.eq_false_or_eq_true (!r57) with h59 | h59
      ·have j56 := cdT h59 j56
       refine Lin.q (v := .bool (true)) (by decide) (Qo.eqv (v := .bool (!r57)) (Pu.qo (p_move rfl)) (congrArg Value.bool h59)) ?_
       refine Lin.g (v := .agg #[.slice x4.1.1 r2.1.length x4.1.2, .slice (subA x4.2.1 x4.2.2 1 (Enc.sz Post)) (((r2.2.take (r2.2.length : Int).toNat).drop 1).length) (x4.2.2 - 1)]) (by decide) rfl (q_ldbA ty26 rfl Has.here rfl) ?_
       obtain ⟨r60, h61, j56⟩ := bd.of j56
       refine Lin.g (v := .bool (r60)) (by decide) rfl (q_call (vs := [.agg #[.slice x4.1.1 r2.1.length x4.1.2, .slice (subA x4.2.1 x4.2.2 1 (Enc.sz Post)) (((r2.2.take (r2.2.length : Int).toNat).drop 1).length) (x4.2.2 - 1)]]) (c_impl_IndexOk (r2.1, ((r2.2.take (r2.2.length : Int).toNat).drop 1)) (x4.1, (subA x4.2.1 x4.2.2 1 (Enc.sz Post), (x4.2.2 - 1))) h61) rfl (EntsB.cons (Ent.b Ent.z.s) (EntsB.cons (Ent.b (Ent.sub (Ent.dimm Ent.z) h54.le h54.lt)) EntsB.nil))) ?_
       refine Lin.g (v := .bool (!r60)) (by decide) rfl (Pu.qo (p_not rfl)) ?_
       refine Lin.q (v := .bool (!r60)) (by decide) (Pu.qo (p_pickT rfl rfl)) ?_
       refine Lin.q (v := .bool (!r60)) (by decide) (Pu.qo (p_assign rfl)) ?_
       have j56 := Option.some.inj j56; subst j56
       show At _ _ _ _ _ _
       exact n1 ⟨rfl, trivial⟩
      ·have j56 := cdF h59 j56
       refine Lin.q (v := .bool (false)) (by decide) (Qo.eqv (v := .bool (!r57)) (Pu.qo (p_move rfl)) (congrArg Value.bool h59)) ?_
       refine Lin.skip (by decide) rfl ?_
       refine Lin.skip (by decide) rfl ?_
       refine Lin.skip (by decide) rfl ?_
       refine Lin.q (v := .bool (false)) (by decide) (Pu.qo (p_pickF rfl rfl)) ?_
       refine Lin.q (v := .bool (false)) (by decide) (Pu.qo (p_assign rfl)) ?_
       have j56 := Option.some.inj j56; subst j56
       show At _ _ _ _ _ _
       exact n1 ⟨rfl, trivial⟩
     refine tRet ?_
     have hr := Option.some.inj H; subst hr
     exact back1 () rfl (ResV.tmp (v := .bool (b55)) rfl) rfl Ents.nil Take.nil
def inn (lo n hi : Int) : Bool := decide (lo ≤ n) && decide (n ≤ hi)
theorem e_impl_within (n lo hi : Int) : p_impl_within n lo hi = some (inn lo n hi) := by
 unfold p_impl_within inn; cases decide (lo ≤ n) <;> rfl
theorem e_spec_l6In (n lo hi : Int) : p_spec_l6In n lo hi = some (inn lo n hi) := by
 unfold p_spec_l6In inn; cases decide (lo ≤ n) <;> rfl
theorem tmod_rng {a n : Int} (ha : 0 ≤ a) (hn : 0 < n) : 0 ≤ a.tmod n ∧ a.tmod n < n := ⟨Int.tmod_nonneg n ha, Int.tmod_lt_of_pos a hn⟩
theorem tdiv_rng {a n : Int} (ha : 0 ≤ a) (hn : 0 < n) : 0 ≤ a.tdiv n ∧ a.tdiv n ≤ a := by
 rw [Int.tdiv_eq_ediv_of_nonneg ha]
 exact ⟨Int.ediv_nonneg ha (by omega), Int.ediv_le_self n ha⟩
theorem u8_rng (b : UInt8) : (0 : Int) ≤ (b.toNat : Int) ∧ (b.toNat : Int) ≤ 255 := by have := b.toNat_lt; omega
theorem xr_nn (a b : Int) : 0 ≤ xr a b := by unfold xr; omega
theorem xr_lt {a b : Int} (ha : 0 ≤ a) (ha2 : a < 4611686018427387904) (hb : 0 ≤ b) (hb2 : b < 4611686018427387904) : xr a b < 4611686018427387904 := by
 unfold xr
 have : a.toNat ^^^ b.toNat < 2 ^ 62 := Nat.xor_lt_two_pow (by omega) (by omega)
 omega
theorem d_pick (b : List UInt8) (p n : Int) (hb : b.length ≤ 2000) (h0 : 0 ≤ p) (h1 : p ≤ 1000000) (hn : n ≤ 1000000000) :
  ∃ x, p_spec_l6Rd_pick (b, p) n = some (x, p + 1) ∧ 0 ≤ x ∧ (1 ≤ n → x < n) := by
 unfold p_spec_l6Rd_pick
 have g0 : I64 (p + 1) := by unfold I64; omega
 have ep : p + 1 - 1 = p := by omega
 have gp : I64 p := by unfold I64; omega
 simp only [ep, gd.yes g0, gd.yes gp]
 by_cases hn1 : n < 1
 ·exact ⟨0, by simp [hn1], Int.le_refl _, fun h => by omega⟩
 ·by_cases hb0 : (b.length : Int) = 0
  ·exact ⟨0, by simp [hn1, hb0], Int.le_refl _, fun h => by omega⟩
  ·simp only [hn1, hb0, decide_false, cond_false, bd_some]
   by_cases hp : p < (b.length : Int)
   ·have hx := tmod_rng (u8_rng (nth b p.toNat)).1 (show 0 < n by omega)
    have g1 : ix p b.length := ⟨h0, hp⟩
    have g2 : n ≠ 0 := by omega
    have g3 : I64 (((nth b p.toNat).toNat : Int).tmod n) := by unfold I64; omega
    simp only [hp, decide_true, cond_true, gd.yes g1, gd.yes g2, gd.yes g3]
    exact ⟨_, rfl, hx.1, fun _ => hx.2⟩
   ·simp only [hp, decide_false, cond_false]
    have hL : (0 : Int) < (b.length : Int) := by omega
    have hm := tmod_rng h0 hL
    have hm2 := tmod_rng (show 0 ≤ p * 7 + 3 by omega) hL
    have hq := tdiv_rng h0 hL
    have u1 := u8_rng (nth b (p.tmod (b.length : Int)).toNat)
    have u2 := u8_rng (nth b ((p * 7 + 3).tmod (b.length : Int)).toNat)
    have g1 : (b.length : Int) ≠ 0 := hb0
    have g2 : I64 (p.tmod (b.length : Int)) := by unfold I64; omega
    have g3 : ix (p.tmod (b.length : Int)) b.length := hm
    have g4 : I64 (p * 7) := by unfold I64; omega
    have g5 : I64 (p * 7 + 3) := by unfold I64; omega
    have g6 : I64 ((p * 7 + 3).tmod (b.length : Int)) := by unfold I64; omega
    have g7 : ix ((p * 7 + 3).tmod (b.length : Int)) b.length := hm2
    have g8 : I64 (p * 29) := by unfold I64; omega
    have g9 : I64 (p.tdiv (b.length : Int)) := by unfold I64; omega
    simp only [gd.yes g1, gd.yes g2, gd.yes g3, gd.yes g4, gd.yes g5, gd.yes g6, gd.yes g7, gd.yes g8, gd.yes g9]
    generalize ((nth b (p.tmod (b.length : Int)).toNat).toNat : Int) = y1 at *
    generalize ((nth b ((p * 7 + 3).tmod (b.length : Int)).toNat).toNat : Int) = y2 at *
    generalize p.tdiv (b.length : Int) = q at *
    have k1 : I64 (y1 * 131) := by unfold I64; omega
    have k2 : I64 (y2 * 1117) := by unfold I64; omega
    have k3 : I64 (y1 * 131 + y2 * 1117) := by unfold I64; omega
    have k4 : I64 (y1 * 131 + y2 * 1117 + p * 29) := by unfold I64; omega
    have k5 : I64 (q * 53) := by unfold I64; omega
    have k6 : I64 (y1 * 131 + y2 * 1117 + p * 29 + q * 53) := by unfold I64; omega
    simp only [gd.yes k1, gd.yes k2, gd.yes k3, gd.yes k4, gd.yes k5, gd.yes k6]
    have hx0 : 0 ≤ y1 * 131 + y2 * 1117 + p * 29 + q * 53 := by omega
    have hx1 : y1 * 131 + y2 * 1117 + p * 29 + q * 53 < 1000000000 := by omega
    generalize y1 * 131 + y2 * 1117 + p * 29 + q * 53 = x at *
    have hd := tdiv_rng hx0 (show (0 : Int) < 64 by decide)
    have m1 : I64 (x.tdiv 64) := by unfold I64; omega
    have m2 : nn x := by unfold nn; omega
    have m3 : nn (x.tdiv 64) := by unfold nn; omega
    have hr0 := xr_nn x (x.tdiv 64)
    have hr1 := xr_lt hx0 (by omega) hd.1 (by omega) (b := x.tdiv 64)
    have hz := tmod_rng hr0 (show 0 < n by omega)
    have m4 : n ≠ 0 := by omega
    have m5 : I64 ((xr x (x.tdiv 64)).tmod n) := by unfold I64; omega
    simp only [gd.yes m1, gd.yes m2, gd.yes m3, gd.yes m4, gd.yes m5]
    exact ⟨_, rfl, hz.1, fun _ => hz.2⟩
def l2 (r : Row) : Bool → List Row → List Row
 | put, [] => if put then [] else [r]
 | put, x :: t => (if !put && decide (r.1 ≤ x.1) then [r] else []) ++ ((if x.1 = r.1 then [] else [x]) ++ l2 r (put || decide (r.1 ≤ x.1)) t)
theorem nth_mem {α : Type} [Inhabited α] {l : List α} {k : Nat} (h : k < l.length) : nth l k ∈ l := by rw [nth_eq l k h]; exact List.getElem_mem h
theorem d_l6Open (c : List UInt8) : ∃ b, p_spec_l6Open c = some (b, 0) ∧ b.length ≤ 2000 := by
 unfold p_spec_l6Open
 by_cases h : (2000 : Int) < (c.length : Int)
 ·have g : sl2 0 2000 c.length := by unfold sl2; omega
  simp only [h, decide_true, cond_true, gd.yes g]
  exact ⟨_, rfl, by simp; omega⟩
 ·simp only [h, decide_false, cond_false]
  exact ⟨_, rfl, by omega⟩
theorem ba_one {x : ByteArray} (h : x.size = 1) : x = ⟨#[sb x 0]⟩ := by
 have : x.data.size = 1 := h
 apply ByteArray.ext
 apply Array.ext
 ·rw [this]; rfl
 ·intro i h1 h2
  have hi : i = 0 := by omega
  subst hi
  simp [sb, this]
theorem sl_one (a b : UInt8) : sless ⟨#[a]⟩ ⟨#[b]⟩ = decide (a < b) := by
 rw [sless_lt]
 have e : ∀ c : UInt8, (⟨#[c]⟩ : ByteArray).toList = [c] := fun c => by simp [ByteArray.toList, ByteArray.toList.loop, ByteArray.size, ByteArray.get!]
 have h2 : ([a] < [b]) ↔ a < b := by rw [List.cons_lt_cons_iff]; simp
 rw [e, e]
 exact decide_eq_decide.2 h2
def tagB (t : Tag) : Bool := decide (t.1.size = 1) && (decide (t.2.size = 1) && (inn 97 ((sb t.1 0).toNat : Int) 100 && inn 112 ((sb t.2 0).toNat : Int) 122))
theorem e_spec_l3Tag (t : Tag) : p_spec_l3Tag t = some (tagB t) := by
 unfold p_spec_l3Tag tagB
 have c1 : decide ((t.1.size : Int) = 1) = decide (t.1.size = 1) := decide_eq_decide.2 (by omega)
 have c2 : decide ((t.2.size : Int) = 1) = decide (t.2.size = 1) := decide_eq_decide.2 (by omega)
 rw [c1, c2]
 by_cases h1 : t.1.size = 1
 ·by_cases h2 : t.2.size = 1
  ·simp only [h1, h2, decide_true, cond_true, gd.yes (show ix 0 1 by unfold ix; omega), e_spec_l6In, bd_some, Bool.true_and]
   cases inn 97 ((sb t.1 0).toNat : Int) 100 <;> simp
  ·simp [h1, h2]
 ·simp [h1]
theorem rng_one {x : ByteArray} (h : x.size = 1) (lo hi : UInt8) : (!sless x ⟨#[lo]⟩ && (sless x ⟨#[hi]⟩ || decide (x = ⟨#[hi]⟩))) = inn (lo.toNat : Int) ((sb x 0).toNat : Int) (hi.toNat : Int) := by
 have hx := ba_one h
 generalize sb x 0 = c at *
 subst hx
 rw [sl_one, sl_one]
 have e1 : (!decide (c < lo)) = decide ((lo.toNat : Int) ≤ (c.toNat : Int)) := by
  by_cases k : c < lo
  ·have : c.toNat < lo.toNat := UInt8.lt_iff_toNat_lt.1 k
   simp [k]; omega
  ·have : ¬ c.toNat < lo.toNat := fun q => k (UInt8.lt_iff_toNat_lt.2 q)
   simp [k]; omega
 have e2 : (decide (c < hi) || decide ((⟨#[c]⟩ : ByteArray) = ⟨#[hi]⟩)) = decide ((c.toNat : Int) ≤ (hi.toNat : Int)) := by
  by_cases k : c < hi
  ·have : c.toNat < hi.toNat := UInt8.lt_iff_toNat_lt.1 k
   simp [k]; omega
  ·have h3 : ¬ c.toNat < hi.toNat := fun q => k (UInt8.lt_iff_toNat_lt.2 q)
   by_cases e : c = hi
   ·subst e; simp
   ·have h4 : c.toNat ≠ hi.toNat := fun q => e (UInt8.toNat_inj.1 q)
    have h5 : (⟨#[c]⟩ : ByteArray) ≠ ⟨#[hi]⟩ := fun q => e (by
     have := congrArg (fun b : ByteArray => b.data.toList) q
     simpa using this)
    simp [k, h5]; omega
 rw [e1, e2]; rfl
theorem e_impl_tagOk (t : Tag) : p_impl_tagOk t = some (tagB t) := by
 unfold p_impl_tagOk tagB
 have c1 : decide ((t.1.size : Int) = 1) = decide (t.1.size = 1) := decide_eq_decide.2 (by omega)
 have c2 : decide ((t.2.size : Int) = 1) = decide (t.2.size = 1) := decide_eq_decide.2 (by omega)
 rw [c1, c2]
 by_cases h1 : t.1.size = 1
 ·have r1 := rng_one h1 97 100
  rw [show ((97 : UInt8).toNat : Int) = 97 from rfl, show ((100 : UInt8).toNat : Int) = 100 from rfl] at r1
  rw [← r1]
  by_cases h2 : t.2.size = 1
  ·have r2 := rng_one h2 112 122
   rw [show ((112 : UInt8).toNat : Int) = 112 from rfl, show ((122 : UInt8).toNat : Int) = 122 from rfl] at r2
   rw [← r2]
   simp only [h1, h2, decide_true, cond_true, Bool.true_and]
   cases (!sless t.1 ⟨#[97]⟩) <;> cases (sless t.1 ⟨#[100]⟩ || decide (t.1 = ⟨#[100]⟩)) <;> cases (!sless t.2 ⟨#[112]⟩) <;> rfl
  ·simp only [h1, h2, decide_true, decide_false, cond_true, cond_false, Bool.true_and, Bool.false_and]
   cases (!sless t.1 ⟨#[97]⟩) <;> cases (sless t.1 ⟨#[100]⟩ || decide (t.1 = ⟨#[100]⟩)) <;> rfl
 ·simp [h1]
def nameBad (n : List Tag) (k : Nat) : Bool := !tagB (nth n k) || (decide (0 < k) && !sless (nth n (k - 1)).1 (nth n k).1)
def nameOk (n : List Tag) : Bool := allN n.length (nameBad n) && inn 1 (n.length : Int) 3
theorem e_impl_NameOk (n : List Tag) (hn : n.length ≤ maxLen) : p_impl_NameOk n = some (nameOk n) := by
 have hn' : n.length ≤ 9223372036854775807 := hn
 have hr : ∀ k, k < n.length → p_impl_NameOk_b0 n (k : Int) = some (if nameBad n k then .inr (.inr false) else .inl ((k + 1 : Nat) : Int)) := fun k hk => by
  unfold p_impl_NameOk_b0 nameBad
  simp only [dlt hk, cond_true, gd.yes (ixN hk), e_impl_tagOk, bd_some, Int.toNat_natCast, gd.yes (i64S hk hn')]
  cases h1 : tagB (nth n k) with
  | false => simp
  | true =>
   simp only [Bool.not_true, cond_false, Bool.false_or]
   by_cases h0 : 0 < k
   ·have h0' : (0 : Int) < k := by omega
    have e1 : (k : Int) - 1 = ((k - 1 : Nat) : Int) := by omega
    have hi : I64 ((k - 1 : Nat) : Int) := by unfold I64; omega
    simp only [h0, h0', decide_true, cond_true, e1, gd.yes hi, gd.yes (ixN (show k - 1 < n.length by omega)), Int.toNat_natCast, bd_some, Bool.true_and]
    cases sless (nth n (k - 1)).1 (nth n k).1 <;> simp
   ·simp [h0]
 unfold p_impl_NameOk nameOk
 rcases lp_scan (body := p_impl_NameOk_b0 n) (fun k => (k : Int)) n.length (nameBad n) (.inl ()) (fun _ => .inr false) (fun k hk _ h => by simp [hr k hk, h]) (fun k hk _ h => by simp [hr k hk, h]) (fun _ => by unfold p_impl_NameOk_b0; simp) with ⟨h1, h2⟩ | ⟨h1, k, _, _, _, h2⟩
 ·rw [show (lp (p_impl_NameOk_b0 n) 0) = _ from h2, h1]; simp [sw, e_impl_within]
 ·rw [show (lp (p_impl_NameOk_b0 n) 0) = _ from h2, h1]; simp [sw]
theorem e_spec_NameOk (n : List Tag) (hn : n.length ≤ maxLen) : p_spec_NameOk n = some (nameOk n) := by
 have hn' : n.length ≤ 9223372036854775807 := hn
 have hr : ∀ k, k < n.length → p_spec_NameOk_b0 n (k : Int) = some (if nameBad n k then .inr (.inr false) else .inl ((k + 1 : Nat) : Int)) := fun k hk => by
  unfold p_spec_NameOk_b0 nameBad
  simp only [dlt hk, cond_true, gd.yes (ixN hk), e_spec_l3Tag, bd_some, Int.toNat_natCast, gd.yes (i64S hk hn')]
  cases h1 : tagB (nth n k) with
  | false => simp
  | true =>
   simp only [Bool.not_true, cond_false, Bool.false_or]
   by_cases h0 : 0 < k
   ·have h0' : (0 : Int) < k := by omega
    have e1 : (k : Int) - 1 = ((k - 1 : Nat) : Int) := by omega
    have hi : I64 ((k - 1 : Nat) : Int) := by unfold I64; omega
    simp only [h0, h0', decide_true, cond_true, e1, gd.yes hi, gd.yes (ixN (show k - 1 < n.length by omega)), Int.toNat_natCast, bd_some, Bool.true_and]
    cases sless (nth n (k - 1)).1 (nth n k).1 <;> simp
   ·simp [h0]
 unfold p_spec_NameOk nameOk
 rcases lp_scan (body := p_spec_NameOk_b0 n) (fun k => (k : Int)) n.length (nameBad n) (.inl ()) (fun _ => .inr false) (fun k hk _ h => by simp [hr k hk, h]) (fun k hk _ h => by simp [hr k hk, h]) (fun _ => by unfold p_spec_NameOk_b0; simp) with ⟨h1, h2⟩ | ⟨h1, k, _, _, _, h2⟩
 ·rw [show (lp (p_spec_NameOk_b0 n) 0) = _ from h2, h1]; simp [sw, e_spec_l6In]
 ·rw [show (lp (p_spec_NameOk_b0 n) 0) = _ from h2, h1]; simp [sw]
theorem allN_mem {α : Type} [Inhabited α] {l : List α} {p : α → Bool} : allN l.length (fun k => p (nth l k)) = true ↔ ∀ x ∈ l, p x = false := by
 rw [allN_iff]
 constructor
 ·intro h x hx
  obtain ⟨i, hi, rfl⟩ := List.mem_iff_getElem.1 hx
  have := h i hi
  rwa [nth_eq l i hi] at this
 ·intro h i hi
  rw [nth_eq l i hi]
  exact h _ (List.getElem_mem hi)
def hasT (n : List Tag) (t : Tag) : Bool := n.any fun x => decide (x = t)
theorem hasT_iff {n : List Tag} {t : Tag} : hasT n t = true ↔ t ∈ n := by simp [hasT]
theorem hasT_no {n : List Tag} {t : Tag} (h : t ∉ n) : hasT n t = false := by
 cases hc : hasT n t with
 | false => rfl
 | true => exact absurd (hasT_iff.1 hc) h
theorem e_spec_l3Has (n : List Tag) (t : Tag) (hn : n.length ≤ maxLen) : p_spec_l3Has n t = some (hasT n t) := by
 have hn' : n.length ≤ 9223372036854775807 := hn
 have hr : ∀ k, k < n.length → p_spec_l3Has_b0 n t (k : Int) = some (if decide (nth n k = t) then .inr (.inr true) else .inl ((k + 1 : Nat) : Int)) := fun k hk => by
  unfold p_spec_l3Has_b0
  simp only [dlt hk, cond_true, gd.yes (ixN hk), Int.toNat_natCast, gd.yes (i64S hk hn')]
  by_cases h : nth n k = t <;> simp [h]
 unfold p_spec_l3Has
 rcases lp_scan (body := p_spec_l3Has_b0 n t) (fun k => (k : Int)) n.length (fun k => decide (nth n k = t)) (.inl ()) (fun _ => .inr true) (fun k hk _ h => by simp [hr k hk, of_decide_eq_false h]) (fun k hk _ h => by simp [hr k hk, of_decide_eq_true h]) (fun _ => by unfold p_spec_l3Has_b0; simp) with ⟨h1, h2⟩ | ⟨h1, k, hk, hb, _, h2⟩
 ·rw [show (lp (p_spec_l3Has_b0 n t) 0) = _ from h2]
  have : t ∉ n := fun ht => by
   have := (allN_mem (l := n) (p := fun x => decide (x = t))).1 h1 t ht
   simp at this
  simp [sw, hasT_no this]
 ·rw [show (lp (p_spec_l3Has_b0 n t) 0) = _ from h2]
  have : t ∈ n := (of_decide_eq_true hb) ▸ nth_mem hk
  simp [sw, hasT_iff.2 this]
theorem e_impl_cloneNames (names : List (List Tag)) (h1 : names.length ≤ 4194304) (h2 : ∀ n ∈ names, n.length ≤ 4194304) : p_impl_cloneNames names = some names := by
 unfold p_impl_cloneNames
 rw [show (([] : List (List Tag)), (0 : Int)) = (names.take 0, ((0 : Nat) : Int)) from rfl, lp_for (fun k => (names.take k, (k : Int))) names.length names (fun k hk => by
  unfold p_impl_cloneNames_b0
  have hl := h2 _ (nth_mem hk)
  simp only [dlt hk, cond_true, gd.yes (ixN hk), Int.toNat_natCast, List.length_nil, List.nil_append, List.length_take]
  rw [gd.yes (by unfold room; omega), gd.yes (by unfold room; omega), gd.yes (by unfold I64; omega), take_succ_nth hk]
  rfl) (by unfold p_impl_cloneNames_b0; simp)]
 rfl
theorem e_spec_l11Names (names : List (List Tag)) (h1 : names.length ≤ 4194304) (h2 : ∀ n ∈ names, n.length ≤ 4194304) : p_spec_l11Names names = some names := by
 unfold p_spec_l11Names
 rw [show (([] : List (List Tag)), (0 : Int)) = (names.take 0, ((0 : Nat) : Int)) from rfl, lp_for (fun k => (names.take k, (k : Int))) names.length names (fun k hk => by
  unfold p_spec_l11Names_b0
  have hl := h2 _ (nth_mem hk)
  simp only [dlt hk, cond_true, gd.yes (ixN hk), Int.toNat_natCast, List.length_nil, List.nil_append, List.length_take]
  rw [gd.yes (by unfold room; omega), gd.yes (by unfold room; omega), gd.yes (by unfold I64; omega), take_succ_nth hk]
  rfl) (by unfold p_spec_l11Names_b0; simp)]
 rfl
def addT : List Post → Tag → Int → List Post
 | [], t, i => [(t, [i])]
 | p :: P, t, i => if p.1 = t then (p.1, p.2 ++ [i]) :: P else p :: addT P t i
def addN (P : List Post) (n : List Tag) (i : Int) : List Post := n.foldl (fun P t => addT P t i) P
def postsF (names : List (List Tag)) : Nat → List Post
 | 0 => []
 | m + 1 => addN (postsF names m) (nth names m) ((m : Int) + 1)
def indexP (names : List (List Tag)) : Index := (names, (postsF names names.length).mergeSort leP)
theorem addT_old (P : List Post) (t : Tag) (i : Int) (h : t ∈ P.map (·.1)) : (addT P t i).map (·.1) = P.map (·.1) := by
 induction P with
 | nil => cases h
 | cons p P ih =>
  unfold addT
  by_cases e : p.1 = t
  ·simp [e]
  ·rw [if_neg e, List.map_cons, List.map_cons, ih]
   rcases List.mem_cons.1 h with h | h
   ·exact absurd h.symm e
   ·exact h
theorem addT_new (P : List Post) (t : Tag) (i : Int) (h : t ∉ P.map (·.1)) : (addT P t i).map (·.1) = P.map (·.1) ++ [t] := by
 induction P with
 | nil => rfl
 | cons p P ih =>
  unfold addT
  have e : p.1 ≠ t := fun e => h (by rw [List.map_cons, e]; exact List.mem_cons_self ..)
  rw [if_neg e, List.map_cons, List.map_cons, ih (fun q => h (by rw [List.map_cons]; exact List.mem_cons_of_mem _ q))]
  rfl
theorem addT_nodup {P : List Post} (h : (P.map (·.1)).Nodup) (t : Tag) (i : Int) : ((addT P t i).map (·.1)).Nodup := by
 by_cases hm : t ∈ P.map (·.1)
 ·rw [addT_old P t i hm]; exact h
 ·rw [addT_new P t i hm, List.nodup_append]
  exact ⟨h, by simp, fun a ha b hb => by simp at hb; subst hb; exact fun e => hm (e ▸ ha)⟩
theorem addN_cons (P : List Post) (t : Tag) (n : List Tag) (i : Int) : addN P (t :: n) i = addN (addT P t i) n i := rfl
theorem postsF_succ (names : List (List Tag)) (m : Nat) : postsF names (m + 1) = addN (postsF names m) (nth names m) ((m : Int) + 1) := rfl
theorem addN_nodup (n : List Tag) (i : Int) : ∀ {P : List Post}, (P.map (·.1)).Nodup → ((addN P n i).map (·.1)).Nodup := by
 unfold addN
 induction n with
 | nil => intro P h; exact h
 | cons t n ih => intro P h; exact ih (addT_nodup h t i)
theorem postsF_nodup (names : List (List Tag)) : ∀ m, ((postsF names m).map (·.1)).Nodup
 | 0 => by simp [postsF]
 | m + 1 => addN_nodup _ _ (postsF_nodup names m)
def bnd (P : List Post) (c : Nat) : Prop := P.length ≤ c ∧ ∀ p ∈ P, p.2.length ≤ c
theorem bnd_addT {P : List Post} {c : Nat} (h : bnd P c) (t : Tag) (i : Int) : bnd (addT P t i) (c + 1) := by
 obtain ⟨h1, h2⟩ := h
 have len : (addT P t i).length ≤ P.length + 1 := by
  clear h1 h2
  induction P with
  | nil => simp [addT]
  | cons p P ih => unfold addT; split <;> simp <;> omega
 refine ⟨by omega, ?_⟩
 clear len h1
 induction P with
 | nil => intro p hp; simp [addT] at hp; subst hp; simp
 | cons q P ih =>
  intro p hp
  unfold addT at hp
  split at hp
  ·rcases List.mem_cons.1 hp with rfl | hp
   ·have := h2 q (List.mem_cons_self ..)
    simp; omega
   ·have := h2 p (List.mem_cons_of_mem _ hp); omega
  ·rcases List.mem_cons.1 hp with rfl | hp
   ·have := h2 p (List.mem_cons_self ..); omega
   ·exact ih (fun r hr => h2 r (List.mem_cons_of_mem _ hr)) p hp
theorem addT_none {P : List Post} {t : Tag} (i : Int) (h : ∀ k, k < P.length → (nth P k).1 ≠ t) : addT P t i = P ++ [(t, [i])] := by
 induction P with
 | nil => rfl
 | cons p P ih =>
  have h0 : p.1 ≠ t := h 0 (by simp)
  unfold addT
  rw [if_neg h0, ih (fun k hk => h (k + 1) (by simp; omega))]; rfl
theorem addT_some {P : List Post} {t : Tag} (i : Int) : ∀ {k : Nat}, k < P.length → (nth P k).1 = t → (∀ j, j < k → (nth P j).1 ≠ t) → addT P t i = P.set k ((nth P k).1, (nth P k).2 ++ [i]) := by
 induction P with
 | nil => intro k hk; simp at hk
 | cons p P ih =>
  intro k hk he hn
  cases k with
  | zero =>
   have he : p.1 = t := he
   unfold addT; rw [if_pos he]; rfl
  | succ k =>
   have h0 : p.1 ≠ t := hn 0 (by omega)
   unfold addT
   rw [if_neg h0, ih (k := k) (by simpa using hk) he (fun j hj => hn (j + 1) (by omega))]
   rfl
theorem e_IndexFunc1 (P : List Post) (t : Tag) (hP : P.length ≤ 4194304) : (∃ k : Nat, k < P.length ∧ (nth P k).1 = t ∧ (∀ j, j < k → (nth P j).1 ≠ t) ∧ p_slices_IndexFunc_Post_Post_indexOf_1 P t = some (k : Int)) ∨ ((∀ k, k < P.length → (nth P k).1 ≠ t) ∧ p_slices_IndexFunc_Post_Post_indexOf_1 P t = some (-1)) := by
 have hr : ∀ k, k < P.length → p_slices_IndexFunc_Post_Post_indexOf_1_b0 P t (k : Int) = some (if decide ((nth P k).1 = t) then .inr (.inr (k : Int)) else .inl ((k + 1 : Nat) : Int)) := fun k hk => by
  unfold p_slices_IndexFunc_Post_Post_indexOf_1_b0 p_impl_indexOf_1
  simp only [dlt hk, cond_true, gd.yes (ixN hk), Int.toNat_natCast, bd_some, gd.yes (i64S hk (by omega))]
  by_cases h : (nth P k).1 = t <;> simp [h]
 unfold p_slices_IndexFunc_Post_Post_indexOf_1
 rcases lp_scan (body := p_slices_IndexFunc_Post_Post_indexOf_1_b0 P t) (fun k => (k : Int)) P.length (fun k => decide ((nth P k).1 = t)) (.inl ()) (fun k => .inr (k : Int)) (fun k hk _ h => by simp [hr k hk, of_decide_eq_false h]) (fun k hk _ h => by rw [hr k hk, if_pos h]) (fun _ => by unfold p_slices_IndexFunc_Post_Post_indexOf_1_b0; simp) with ⟨h1, h2⟩ | ⟨h1, k, hk, hb, hn, h2⟩
 ·exact .inr ⟨fun k hk => of_decide_eq_false (allN_iff.1 h1 k hk), by rw [show (lp (p_slices_IndexFunc_Post_Post_indexOf_1_b0 P t) 0) = _ from h2]; rfl⟩
 ·exact .inl ⟨k, hk, of_decide_eq_true hb, fun j hj => of_decide_eq_false (hn j hj), by rw [show (lp (p_slices_IndexFunc_Post_Post_indexOf_1_b0 P t) 0) = _ from h2]; rfl⟩
theorem e_tags (names : List (List Tag)) (Q : List Post) (m : Nat) (hm : m < 4194304) (c : Nat) (n : List Tag) (hn : n = nth names m) (hc : c + n.length ≤ 4194304) : ∀ (r j : Nat) (P : List Post), j + r = n.length → bnd P (c + j) →
  lp (p_impl_indexOf_b1 names (Q, (m : Int))) (P, (j : Int)) = some (addN P (n.drop j) ((m : Int) + 1)) ∧ bnd (addN P (n.drop j) ((m : Int) + 1)) (c + n.length)
 | 0, j, P, hj, hb => by
  have : n.drop j = [] := List.drop_eq_nil_of_le (by omega)
  rw [this]
  refine ⟨lp.stop ?_, by rw [show c + n.length = c + j by omega]; exact hb⟩
  unfold p_impl_indexOf_b1
  simp only [Int.toNat_natCast, ← hn]
  rw [decide_eq_false (show ¬ ((j : Int) < (n.length : Int)) by omega)]; rfl
 | r + 1, j, P, hj, hb => by
  have hjn : j < n.length := by omega
  have hd : n.drop j = nth n j :: n.drop (j + 1) := by rw [nth_eq n j hjn]; exact List.drop_eq_getElem_cons hjn
  have hP1 := hb.1
  have step : p_impl_indexOf_b1 names (Q, (m : Int)) (P, (j : Int)) = some (.inl (addT P (nth n j) ((m : Int) + 1), ((j + 1 : Nat) : Int))) := by
   unfold p_impl_indexOf_b1
   simp only [Int.toNat_natCast, ← hn, dlt hjn, cond_true, gd.yes (ixN hjn)]
   rcases e_IndexFunc1 P (nth n j) (by omega) with ⟨k, hk, he, hno, hf⟩ | ⟨hno, hf⟩
   ·have hl := hb.2 _ (nth_mem hk)
    rw [hf]
    simp only [bd_some]
    rw [decide_eq_false (show ¬ ((k : Int) < 0) by omega)]
    rw [cond_false, gd.yes (ixN hk)]
    simp only [Int.toNat_natCast]
    rw [gd.yes (by unfold I64; omega), gd.yes (by unfold room; omega), gd.yes (by unfold I64; omega), addT_some _ hk he hno]
    rfl
   ·rw [hf]
    simp only [bd_some]
    rw [decide_eq_true (show ((-1 : Int) < 0) by omega)]
    have e1 : nth (P ++ [(nth n j, ([] : List Int))]) P.length = (nth n j, []) := nth_append_new
    simp only [cond_true, e1, List.nil_append, List.length_nil]
    rw [gd.yes (by unfold room; omega), gd.yes (by unfold ix; simp; omega), gd.yes (by unfold I64; omega), gd.yes (by unfold room; omega), gd.yes (by unfold I64; omega), addT_none _ hno]
    simp
  rw [lp.step step, hd, addN_cons]
  exact e_tags names Q m hm c n hn hc r (j + 1) _ (by omega) (by rw [← Nat.add_assoc]; exact bnd_addT hb _ _)
theorem e_posts (names : List (List Tag)) (hN : names.length ≤ 4194304) (hs : sumN names.length (fun i => (nth names i).length) ≤ 4194304) : ∀ m, m ≤ names.length → bnd (postsF names m) (sumN m fun i => (nth names i).length) ∧ lp (p_impl_indexOf_b0 names) (([] : List Post), (0 : Int)) = lp (p_impl_indexOf_b0 names) (postsF names m, (m : Int))
 | 0, _ => ⟨⟨by simp [postsF], fun p hp => by simp [postsF] at hp⟩, rfl⟩
 | m + 1, hm => by
  obtain ⟨b, e⟩ := e_posts names hN hs m (by omega)
  have hmn : m < names.length := by omega
  have hle : sumN m (fun i => (nth names i).length) + (nth names m).length ≤ sumN names.length (fun i => (nth names i).length) := sumN_lt hmn
  obtain ⟨t1, t2⟩ := e_tags names (postsF names m) m (by omega) _ (nth names m) rfl (by omega) (nth names m).length 0 (postsF names m) (by omega) b
  rw [List.drop_zero] at t1 t2
  refine ⟨t2, ?_⟩
  rw [e, lp.step (s' := (postsF names (m + 1), ((m + 1 : Nat) : Int)))]
  rw [postsF_succ]
  unfold p_impl_indexOf_b0
  rw [show ((0 : Nat) : Int) = 0 from rfl] at t1
  rw [dlt hmn, cond_true, gd.yes (ixN hmn), bd.yes t1]
  rw [gd.yes (by unfold I64; omega), addI]
theorem e_indexOf (names : List (List Tag)) (hN : names.length ≤ 4194304) (hs : sumN names.length (fun i => (nth names i).length) ≤ 4194304) : p_impl_indexOf names = some (indexP names) := by
 have hn : ∀ n ∈ names, n.length ≤ 4194304 := fun n h => by
  obtain ⟨i, hi, rfl⟩ := List.mem_iff_getElem.1 h
  have := sumN_get (f := fun i => (nth names i).length) hi
  simp only [nth_eq names i hi] at this
  omega
 obtain ⟨b, e⟩ := e_posts names hN hs names.length (Nat.le_refl _)
 unfold p_impl_indexOf
 rw [e_impl_cloneNames names hN hn]
 simp only [bd_some]
 rw [e, lp.stop (e := postsF names names.length) (by
  unfold p_impl_indexOf_b0
  rw [decide_eq_false (show ¬ ((names.length : Int) < (names.length : Int)) by omega)]; rfl)]
 simp only [bd_some]
 have hl := b.1
 unfold p_slices_SortFunc_Post_Post_indexOf_2 sortP
 rw [gd.yes (show room (postsF names names.length).length by unfold room; omega), gd.yes (postsF_nodup names _)]
 rfl
def textK (n : List Tag) : Nat → ByteArray
 | 0 => ⟨#[]⟩
 | m + 1 => (((if 0 < m then textK n m ++ ⟨#[44]⟩ else textK n m) ++ (nth n m).1) ++ ⟨#[61]⟩) ++ (nth n m).2
def textN (n : List Tag) : ByteArray := textK n n.length
theorem textK_size (n : List Tag) : ∀ m, (textK n m).size ≤ 2 * m + sumN m fun i => (nth n i).1.size + (nth n i).2.size
 | 0 => Nat.zero_le _
 | m + 1 => by
  have ih := textK_size n m
  show ((((if 0 < m then textK n m ++ ⟨#[44]⟩ else textK n m) ++ (nth n m).1) ++ ⟨#[61]⟩) ++ (nth n m).2).size ≤ 2 * (m + 1) + (sumN m (fun i => (nth n i).1.size + (nth n i).2.size) + ((nth n m).1.size + (nth n m).2.size))
  have e1 : ((⟨#[61]⟩ : ByteArray)).size = 1 := rfl
  have e2 : ((⟨#[44]⟩ : ByteArray)).size = 1 := rfl
  split
  ·simp only [ByteArray.size_append, e1, e2]; omega
  ·simp only [ByteArray.size_append, e1]; omega
theorem textK_pos {n : List Tag} {m : Nat} (h : 0 < m) : textK n (m + 1) = (((textK n m ++ ⟨#[44]⟩) ++ (nth n m).1) ++ ⟨#[61]⟩) ++ (nth n m).2 := by
 show (((if 0 < m then textK n m ++ ⟨#[44]⟩ else textK n m) ++ (nth n m).1) ++ ⟨#[61]⟩) ++ (nth n m).2 = _
 rw [if_pos h]
theorem textK_neg {n : List Tag} {m : Nat} (h : ¬ 0 < m) : textK n (m + 1) = ((textK n m ++ (nth n m).1) ++ ⟨#[61]⟩) ++ (nth n m).2 := by
 show (((if 0 < m then textK n m ++ ⟨#[44]⟩ else textK n m) ++ (nth n m).1) ++ ⟨#[61]⟩) ++ (nth n m).2 = _
 rw [if_neg h]
theorem w_name (n : List Tag) : Wt.w n = n.length + sumN n.length fun i => (nth n i).1.size + (nth n i).2.size := rfl
theorem e_spec_l3Text (n : List Tag) (hw : Wt.w n ≤ 4194304) : p_spec_l3Text n = some (textN n) := by
 rw [w_name] at hw
 unfold p_spec_l3Text textN
 have e44 : ((⟨#[44]⟩ : ByteArray)).size = 1 := rfl
 have e61 : ((⟨#[61]⟩ : ByteArray)).size = 1 := rfl
 rw [show ((⟨#[]⟩ : ByteArray), (0 : Int)) = (textK n 0, ((0 : Nat) : Int)) from rfl, lp_for (fun k => (textK n k, (k : Int))) n.length (textK n n.length) (fun m hm => by
  have h1 := textK_size n m
  have h2 : (sumN m fun i => (nth n i).1.size + (nth n i).2.size) + ((nth n m).1.size + (nth n m).2.size) ≤ sumN n.length fun i => (nth n i).1.size + (nth n i).2.size := sumN_lt (f := fun i => (nth n i).1.size + (nth n i).2.size) hm
  unfold p_spec_l3Text_b0
  rw [dlt hm, cond_true]
  by_cases h0 : 0 < m
  ·rw [decide_eq_true (show (0 : Int) < (m : Int) by omega), cond_true]
   rw [gd.yes (by simp only [room, e44]; omega), gd.yes (ixN hm), gd.yes (by simp only [room, ByteArray.size_append, e44, Int.toNat_natCast]; omega), gd.yes (by simp only [room, ByteArray.size_append, e44, e61, Int.toNat_natCast]; omega), gd.yes (by simp only [room, ByteArray.size_append, e44, e61, Int.toNat_natCast]; omega), gd.yes (by unfold I64; omega), addI]
   rw [textK_pos h0]
   rfl
  ·rw [decide_eq_false (show ¬ (0 : Int) < (m : Int) by omega), cond_false]
   rw [gd.yes (ixN hm), gd.yes (by simp only [room, Int.toNat_natCast]; omega), gd.yes (by simp only [room, ByteArray.size_append, e61, Int.toNat_natCast]; omega), gd.yes (by simp only [room, ByteArray.size_append, e61, Int.toNat_natCast]; omega), gd.yes (by unfold I64; omega), addI]
   rw [textK_neg h0]
   rfl) (by unfold p_spec_l3Text_b0; rw [decide_eq_false (show ¬ ((n.length : Int) < (n.length : Int)) by omega)]; rfl)]
 rfl
def oneB (t : Tag) : Prop := t.1.size = 1 ∧ t.2.size = 1
theorem tagB_one {t : Tag} (h : tagB t = true) : oneB t := by
 unfold tagB at h
 simp only [Bool.and_eq_true, decide_eq_true_eq] at h
 exact ⟨h.1, h.2.1⟩
theorem nameOk_tags {n : List Tag} (h : nameOk n = true) : ∀ t ∈ n, tagB t = true := by
 intro t ht
 unfold nameOk at h
 simp only [Bool.and_eq_true] at h
 obtain ⟨i, hi, rfl⟩ := List.mem_iff_getElem.1 ht
 have := allN_iff.1 h.1 i hi
 unfold nameBad at this
 simp only [Bool.or_eq_false_iff] at this
 rw [← nth_eq n i hi]
 simpa using this.1
theorem nameOk_len {n : List Tag} (h : nameOk n = true) : 1 ≤ n.length ∧ n.length ≤ 3 := by
 unfold nameOk inn at h
 simp only [Bool.and_eq_true, decide_eq_true_eq] at h
 omega
def kb (t : Tag) : UInt8 := sb t.1 0
def vb (t : Tag) : UInt8 := sb t.2 0
def bytesT : List Tag → List UInt8
 | [] => []
 | [t] => [kb t, 61, vb t]
 | t :: u :: r => kb t :: 61 :: vb t :: 44 :: bytesT (u :: r)
theorem bytesT_snoc (l : List Tag) (t : Tag) : bytesT (l ++ [t]) = if l = [] then [kb t, 61, vb t] else bytesT l ++ [44, kb t, 61, vb t] := by
 induction l with
 | nil => rfl
 | cons u l ih =>
  cases l with
  | nil => rfl
  | cons v l =>
   simp only [List.cons_append, bytesT] at ih ⊢
   rw [ih]
   simp
theorem one_bytes {x : ByteArray} (h : x.size = 1) : x.data.toList = [sb x 0] := by
 have := ba_one h
 generalize sb x 0 = c at *
 subst this; rfl
theorem textK_bytes (n : List Tag) (h1 : ∀ t ∈ n, oneB t) : ∀ m, m ≤ n.length → (textK n m).data.toList = bytesT (n.take m)
 | 0, _ => rfl
 | m + 1, hm => by
  have hmn : m < n.length := by omega
  have ih := textK_bytes n h1 m (by omega)
  obtain ⟨o1, o2⟩ := h1 _ (nth_mem hmn)
  rw [take_succ_nth hmn, bytesT_snoc]
  unfold textK
  have e1 := one_bytes o1
  have e2 := one_bytes o2
  by_cases h0 : 0 < m
  ·have hne : n.take m ≠ [] := fun e => by have := congrArg List.length e; rw [List.length_take, List.length_nil] at this; omega
   rw [if_pos h0, if_neg hne]
   simp only [ByteArray.data_append, Array.toList_append, ih, e1, e2]
   simp [kb, vb]
  ·have hm0 : m = 0 := by omega
   subst hm0
   simp only [ByteArray.data_append, Array.toList_append, e1, e2]
   simp [textK, kb, vb]
theorem tag_ext {t u : Tag} (h1 : oneB t) (h2 : oneB u) (hk : kb t = kb u) (hv : vb t = vb u) : t = u := by
 have a1 := ba_one h1.1
 have a2 := ba_one h1.2
 have b1 := ba_one h2.1
 have b2 := ba_one h2.2
 refine Prod.ext ?_ ?_
 ·rw [a1, b1]; unfold kb at hk; rw [hk]
 ·rw [a2, b2]; unfold vb at hv; rw [hv]
theorem bytesT_inj : ∀ {a b : List Tag}, (∀ t ∈ a, oneB t) → (∀ t ∈ b, oneB t) → bytesT a = bytesT b → a = b
 | [], [], _, _, _ => rfl
 | [], [t], _, _, h => by simp [bytesT] at h
 | [], t :: u :: r, _, _, h => by simp [bytesT] at h
 | [t], [], _, _, h => by simp [bytesT] at h
 | t :: u :: r, [], _, _, h => by simp [bytesT] at h
 | [t], [u], ha, hb, h => by
  simp only [bytesT, List.cons.injEq, and_true, true_and] at h
  rw [tag_ext (ha t (by simp)) (hb u (by simp)) h.1 h.2]
 | [t], u :: v :: r, _, _, h => by simp [bytesT] at h
 | t :: u :: r, [v], _, _, h => by simp [bytesT] at h
 | t :: u :: r, v :: w :: q, ha, hb, h => by
  simp only [bytesT, List.cons.injEq, true_and] at h
  rw [tag_ext (ha t (by simp)) (hb v (by simp)) h.1 h.2.1, bytesT_inj (a := u :: r) (b := w :: q) (fun x hx => ha x (List.mem_cons_of_mem _ hx)) (fun x hx => hb x (List.mem_cons_of_mem _ hx)) h.2.2]
theorem textN_inj {a b : List Tag} (ha : ∀ t ∈ a, oneB t) (hb : ∀ t ∈ b, oneB t) (h : textN a = textN b) : a = b := by
 have e1 := textK_bytes a ha a.length (Nat.le_refl _)
 have e2 := textK_bytes b hb b.length (Nat.le_refl _)
 rw [List.take_length] at e1 e2
 refine bytesT_inj ha hb ?_
 rw [← e1, ← e2]
 show (textN a).data.toList = (textN b).data.toList
 rw [h]
theorem text_eq {a b : List Tag} (ha : nameOk a = true) (hb : nameOk b = true) : decide (textN a = textN b) = decide (a = b) := by
 by_cases h : a = b
 ·subst h; simp
 ·have : textN a ≠ textN b := fun e => h (textN_inj (fun t ht => tagB_one (nameOk_tags ha t ht)) (fun t ht => tagB_one (nameOk_tags hb t ht)) e)
  simp [h, this]
def idsN (names : List (List Tag)) (t : Tag) : Nat → List Int
 | 0 => []
 | m + 1 => idsN names t m ++ (if hasT (nth names m) t then [(m : Int) + 1] else [])
theorem idsN_succ (names : List (List Tag)) (t : Tag) (m : Nat) : idsN names t (m + 1) = idsN names t m ++ (if hasT (nth names m) t then [(m : Int) + 1] else []) := rfl
theorem idsN_len (names : List (List Tag)) (t : Tag) : ∀ m, (idsN names t m).length ≤ m
 | 0 => Nat.le_refl _
 | m + 1 => by
  have := idsN_len names t m
  rw [idsN_succ]
  split <;> simp <;> omega
theorem e_spec_l11Ids (names : List (List Tag)) (t : Tag) (h1 : names.length ≤ 4194304) (h2 : ∀ n ∈ names, n.length ≤ 4194304) : p_spec_l11Ids names t = some (idsN names t names.length) := by
 unfold p_spec_l11Ids
 rw [show (([] : List Int), (0 : Int)) = (idsN names t 0, ((0 : Nat) : Int)) from rfl, lp_for (fun k => (idsN names t k, (k : Int))) names.length (idsN names t names.length) (fun m hm => by
  have hl := h2 _ (nth_mem hm)
  have hi := idsN_len names t m
  unfold p_spec_l11Ids_b0
  rw [dlt hm, cond_true, gd.yes (ixN hm)]
  simp only [Int.toNat_natCast]
  rw [bd.yes (e_spec_l3Has (nth names m) t (by unfold maxLen; omega))]
  cases hc : hasT (nth names m) t with
  | true =>
   rw [cond_true, gd.yes (by unfold I64; omega), gd.yes (by unfold room; omega), idsN_succ, if_pos hc, addI]
  | false =>
   rw [cond_false, gd.yes (by unfold I64; omega), addI, idsN_succ, if_neg (by rw [hc]; simp), List.append_nil]) (by
  unfold p_spec_l11Ids_b0; rw [decide_eq_false (show ¬ ((names.length : Int) < (names.length : Int)) by omega)]; rfl)]
 rfl
def idsAt : List Post → Tag → List Int
 | [], _ => []
 | p :: P, t => if p.1 = t then p.2 else idsAt P t
theorem idsAt_addT (P : List Post) (t : Tag) (i : Int) (u : Tag) : idsAt (addT P t i) u = if u = t then idsAt P u ++ [i] else idsAt P u := by
 induction P with
 | nil =>
  unfold addT idsAt
  by_cases h : t = u
  ·subst h; simp
  ·have h' : ¬ u = t := fun e => h e.symm
   simp [h, h', idsAt]
 | cons p P ih =>
  unfold addT
  by_cases hp : p.1 = t
  ·rw [if_pos hp]
   by_cases hu : u = t
   ·subst hu; simp [idsAt, hp]
   ·have : ¬ p.1 = u := fun e => hu (e ▸ hp)
    simp [idsAt, this, hu]
  ·rw [if_neg hp]
   by_cases hu : p.1 = u
   ·have : ¬ u = t := fun e => hp (hu.trans e)
    simp [idsAt, hu, this]
   ·simp only [idsAt, if_neg hu, ih]
theorem idsAt_addN (n : List Tag) (i : Int) (u : Tag) : ∀ {P : List Post}, n.Nodup → idsAt (addN P n i) u = if hasT n u then idsAt P u ++ [i] else idsAt P u := by
 induction n with
 | nil => intro P _; rfl
 | cons t n ih =>
  intro P hn
  rw [List.nodup_cons] at hn
  rw [addN_cons, ih hn.2, idsAt_addT]
  have hc : hasT (t :: n) u = (decide (t = u) || hasT n u) := rfl
  rw [hc]
  by_cases h1 : u = t
  ·subst h1
   rw [hasT_no hn.1]; simp
  ·have h2 : ¬ t = u := fun e => h1 e.symm
   simp [h1, h2]
def dist (names : List (List Tag)) : Prop := ∀ n ∈ names, n.Nodup
theorem idsAt_posts {names : List (List Tag)} (hd : dist names) (u : Tag) : ∀ m, m ≤ names.length → idsAt (postsF names m) u = idsN names u m
 | 0, _ => rfl
 | m + 1, hm => by
  rw [postsF_succ, idsAt_addN _ _ _ (hd _ (nth_mem (show m < names.length by omega))), idsAt_posts hd u m (by omega)]
  rw [idsN_succ]
  cases h : hasT (nth names m) u with
  | true => simp
  | false => simp
theorem idsAt_mem {P : List Post} (hn : (P.map (·.1)).Nodup) {p : Post} (hp : p ∈ P) : idsAt P p.1 = p.2 := by
 induction P with
 | nil => cases hp
 | cons q P ih =>
  rw [List.map_cons, List.nodup_cons] at hn
  rcases List.mem_cons.1 hp with rfl | hp
  ·simp [idsAt]
  ·have : ¬ q.1 = p.1 := fun e => hn.1 (e ▸ List.mem_map_of_mem hp)
   simp only [idsAt, if_neg this]
   exact ih hn.2 hp
theorem idsAt_some {P : List Post} {t : Tag} (h : idsAt P t ≠ []) : ∃ p ∈ P, p.1 = t := by
 induction P with
 | nil => exact absurd rfl h
 | cons q P ih =>
  by_cases e : q.1 = t
  ·exact ⟨q, List.mem_cons_self .., e⟩
  ·simp only [idsAt, if_neg e] at h
   obtain ⟨p, hp, h1⟩ := ih h
   exact ⟨p, List.mem_cons_of_mem _ hp, h1⟩
theorem addT_ne {P : List Post} (h : ∀ p ∈ P, p.2 ≠ []) (t : Tag) (i : Int) : ∀ p ∈ addT P t i, p.2 ≠ [] := by
 induction P with
 | nil => intro p hp; simp [addT] at hp; subst hp; simp
 | cons q P ih =>
  intro p hp
  unfold addT at hp
  split at hp
  ·rcases List.mem_cons.1 hp with rfl | hp
   ·simp
   ·exact h p (List.mem_cons_of_mem _ hp)
  ·rcases List.mem_cons.1 hp with rfl | hp
   ·exact h p (List.mem_cons_self ..)
   ·exact ih (fun r hr => h r (List.mem_cons_of_mem _ hr)) p hp
theorem addN_ne (n : List Tag) (i : Int) : ∀ {P : List Post}, (∀ p ∈ P, p.2 ≠ []) → ∀ p ∈ addN P n i, p.2 ≠ [] := by
 induction n with
 | nil => intro P h; exact h
 | cons t n ih => intro P h; rw [addN_cons]; exact ih (addT_ne h t i)
theorem posts_ne (names : List (List Tag)) : ∀ m, ∀ p ∈ postsF names m, p.2 ≠ []
 | 0 => fun p hp => by cases hp
 | m + 1 => by rw [postsF_succ]; exact addN_ne _ _ (posts_ne names m)
def sumL : List Post → Nat
 | [] => 0
 | p :: P => p.2.length + sumL P
theorem sumL_append (P Q : List Post) : sumL (P ++ Q) = sumL P + sumL Q := by
 induction P with
 | nil => simp [sumL]
 | cons p P ih => simp only [List.cons_append, sumL, ih]; omega
theorem sumL_perm {P Q : List Post} (h : P.Perm Q) : sumL P = sumL Q := by
 induction h with
 | nil => rfl
 | cons x _ ih => simp only [sumL, ih]
 | swap x y l => simp only [sumL]; omega
 | trans _ _ h1 h2 => exact h1.trans h2
theorem sumL_addT (P : List Post) (t : Tag) (i : Int) : sumL (addT P t i) = sumL P + 1 := by
 induction P with
 | nil => rfl
 | cons p P ih =>
  unfold addT
  split
  ·simp only [sumL, List.length_append, List.length_cons, List.length_nil]; omega
  ·simp only [sumL, ih]; omega
theorem sumL_addN (n : List Tag) (i : Int) : ∀ (P : List Post), sumL (addN P n i) = sumL P + n.length := by
 induction n with
 | nil => intro P; rfl
 | cons t n ih => intro P; rw [addN_cons, ih, sumL_addT, List.length_cons]; omega
theorem sumL_posts (names : List (List Tag)) : ∀ m, sumL (postsF names m) = sumN m fun i => (nth names i).length
 | 0 => rfl
 | m + 1 => by
  rw [postsF_succ, sumL_addN, sumL_posts names m]; rfl
structure Canon (names : List (List Tag)) (C : List Post) : Prop where
 ord : C.Pairwise fun x y => ltTag x.1 y.1 = true
 ids : ∀ p ∈ C, p.2 = idsN names p.1 names.length ∧ p.2 ≠ []
 all : ∀ t, idsN names t names.length ≠ [] → ∃ p ∈ C, p.1 = t
theorem canon_posts {names : List (List Tag)} (hd : dist names) : Canon names (indexP names).2 := by
 have hn := postsF_nodup names names.length
 have hp := List.mergeSort_perm (postsF names names.length) leP
 have hs : ((postsF names names.length).mergeSort leP).Pairwise fun x y => leP x y = true := List.pairwise_mergeSort (fun a b c h1 h2 => by
  simp only [leP, Bool.not_eq_true'] at *; exact ltTag_nt h2 h1) (fun a b => by
  simp only [leP, Bool.or_eq_true, Bool.not_eq_true']
  cases h : ltTag b.1 a.1 with
  | false => exact .inl rfl
  | true => exact .inr (ltTag_asym h)) _
 have hn2 : (((postsF names names.length).mergeSort leP).map (·.1)).Nodup := (hp.map _).nodup_iff.2 hn
 refine ⟨?_, fun p hp' => ?_, fun t ht => ?_⟩
 ·show ((postsF names names.length).mergeSort leP).Pairwise _
  have hne : ((postsF names names.length).mergeSort leP).Pairwise fun x y => x.1 ≠ y.1 := by
   unfold List.Nodup at hn2
   rwa [List.pairwise_map] at hn2
  refine (hs.and hne).imp ?_
  intro x y h
  have h1 := h.1
  simp only [leP, Bool.not_eq_true'] at h1
  cases hc : ltTag x.1 y.1 with
  | true => rfl
  | false => exact absurd (ltTag_anti hc h1) h.2
 ·have hm : p ∈ postsF names names.length := hp.mem_iff.1 hp'
  exact ⟨by rw [← idsAt_posts hd p.1 _ (Nat.le_refl _), idsAt_mem hn hm], posts_ne names _ p hm⟩
 ·rw [← idsAt_posts hd t _ (Nat.le_refl _)] at ht
  obtain ⟨p, h1, h2⟩ := idsAt_some ht
  exact ⟨p, hp.mem_iff.2 h1, h2⟩
theorem canon_eq {names : List (List Tag)} {C D : List Post} (hc : Canon names C) (hd : Canon names D) : C = D := by
 have nd : ∀ {E : List Post}, Canon names E → E.Nodup := fun h => h.ord.imp fun {a b} k e => by subst e; rw [ltTag_irr] at k; cases k
 have sub : ∀ {E F : List Post}, Canon names E → Canon names F → ∀ p ∈ E, p ∈ F := fun {E F} hE hF p hp => by
  obtain ⟨e1, e2⟩ := hE.ids p hp
  obtain ⟨q, hq, e3⟩ := hF.all p.1 (e1 ▸ e2)
  have e4 := (hF.ids q hq).1
  have : q = p := Prod.ext e3 (by rw [e4, e3, e1])
  rwa [← this]
 have hperm : C.Perm D := (List.perm_ext_iff_of_nodup (nd hc) (nd hd)).2 fun p => ⟨sub hc hd p, sub hd hc p⟩
 refine List.Perm.eq_of_pairwise (le := fun x y => ltTag x.1 y.1 = true) ?_ hc.ord hd.ord hperm
 intro a b _ _ h1 h2
 have := ltTag_asym h1
 rw [h2] at this; cases this
theorem sub_sum : ∀ {C A : List Post}, A.Nodup → (∀ p ∈ A, p ∈ C) → sumL A ≤ sumL C
 | [], A, _, h => by
  have : A = [] := List.eq_nil_iff_forall_not_mem.2 fun p hp => by cases h p hp
  rw [this]; exact Nat.le_refl _
 | c :: C, A, hn, h => by
  by_cases hc : c ∈ A
  ·obtain ⟨A1, A2, rfl⟩ := List.append_of_mem hc
   have hn' := hn
   rw [List.nodup_append] at hn
   obtain ⟨n1, n2, n3⟩ := hn
   rw [List.nodup_cons] at n2
   have hnd : (A1 ++ A2).Nodup := by
    rw [List.nodup_append]
    exact ⟨n1, n2.2, fun a ha b hb => n3 a ha b (List.mem_cons_of_mem _ hb)⟩
   have ih := sub_sum (C := C) (A := A1 ++ A2) hnd (fun p hp => by
    have hpc : p ≠ c := fun e => by
     subst e
     rcases List.mem_append.1 hp with q | q
     ·exact n3 p q p (List.mem_cons_self ..) rfl
     ·exact n2.1 q
    have hp' : p ∈ A1 ++ c :: A2 := by
     rcases List.mem_append.1 hp with q | q
     ·exact List.mem_append_left _ q
     ·exact List.mem_append_right _ (List.mem_cons_of_mem _ q)
    rcases List.mem_cons.1 (h p hp') with e | q
    ·exact absurd e hpc
    ·exact q)
   rw [sumL_append] at ih ⊢
   simp only [sumL] at ih ⊢
   omega
  ·have ih := sub_sum (C := C) (A := A) hn (fun p hp => by
    rcases List.mem_cons.1 (h p hp) with e | q
    ·exact absurd (e ▸ hp) hc
    ·exact q)
   simp only [sumL]; omega
theorem canon_of_sum {names : List (List Tag)} {C P : List Post} (hc : Canon names C) (ord : P.Pairwise fun x y => ltTag x.1 y.1 = true) (ids : ∀ p ∈ P, p.2 = idsN names p.1 names.length ∧ p.2 ≠ []) (hs : sumL P = sumL C) : P = C := by
 have nd : P.Nodup := ord.imp fun {a b} k e => by subst e; rw [ltTag_irr] at k; cases k
 have sub : ∀ p ∈ P, p ∈ C := fun p hp => by
  obtain ⟨e1, e2⟩ := ids p hp
  obtain ⟨q, hq, e3⟩ := hc.all p.1 (e1 ▸ e2)
  have : q = p := Prod.ext e3 (by rw [(hc.ids q hq).1, e3, e1])
  rwa [← this]
 refine canon_eq ⟨ord, ids, fun t ht => ?_⟩ hc
 obtain ⟨c, h1, h2⟩ := hc.all t ht
 by_cases hm : c ∈ P
 ·exact ⟨c, hm, h2⟩
 ·have := sub_sum (C := C) (A := c :: P) (List.nodup_cons.2 ⟨hm, nd⟩) (fun p hp => by
   rcases List.mem_cons.1 hp with rfl | hp
   ·exact h1
   ·exact sub p hp)
  simp only [sumL] at this
  have h3 : 0 < c.2.length := List.length_pos_iff.2 (hc.ids c h1).2
  omega
theorem nameOk_nodup {n : List Tag} (h : nameOk n = true) : n.Nodup := by
 unfold nameOk at h
 simp only [Bool.and_eq_true] at h
 have hk : ∀ i, i < n.length → nameBad n i = false := allN_iff.1 h.1
 have step : ∀ i, i + 1 < n.length → sless (nth n i).1 (nth n (i + 1)).1 = true := fun i hi => by
  have := hk (i + 1) hi
  unfold nameBad at this
  simp only [Nat.zero_lt_succ, decide_true, Bool.true_and, Nat.add_sub_cancel, Bool.or_eq_false_iff, Bool.not_eq_false'] at this
  exact this.2
 have lt : ∀ d i, i + d + 1 < n.length → sless (nth n i).1 (nth n (i + d + 1)).1 = true := by
  intro d
  induction d with
  | zero => intro i hi; exact step i hi
  | succ d ih => intro i hi; exact sless_trans (ih i (by omega)) (step (i + d + 1) (by omega))
 unfold List.Nodup
 rw [List.pairwise_iff_getElem]
 intro i j hi hj hij e
 obtain ⟨d, rfl⟩ : ∃ d, j = i + d + 1 := ⟨j - i - 1, by omega⟩
 have := lt d i hj
 rw [nth_eq n i hi, nth_eq n _ hj, ← e, sless_irr] at this
 cases this
theorem w_names {names : List (List Tag)} (hw : Wt.w names ≤ 4194304) : names.length ≤ 4194304 ∧ (∀ n ∈ names, n.length ≤ 4194304 ∧ Wt.w n ≤ 4194304) ∧ sumN names.length (fun i => (nth names i).length) ≤ 4194304 := by
 have e : Wt.w names = names.length + sumN names.length fun i => Wt.w (nth names i) := rfl
 rw [e] at hw
 refine ⟨by omega, fun n hn => ?_, ?_⟩
 ·obtain ⟨i, hi, rfl⟩ := List.mem_iff_getElem.1 hn
  have h1 := sumN_get (f := fun i => Wt.w (nth names i)) hi
  simp only [nth_eq names i hi] at h1
  have h2 : names[i].length ≤ Wt.w names[i] := wL_le
  omega
 ·have : sumN names.length (fun i => (nth names i).length) ≤ sumN names.length (fun i => Wt.w (nth names i)) := sumN_mono fun i _ => wL_le
  omega
theorem e_Equal_Tag (a b : List Tag) (ha : a.length ≤ 4194304) : p_slices_Equal_Tag_Tag a b = some (decide (a = b)) := by
 unfold p_slices_Equal_Tag_Tag
 by_cases hl : a.length = b.length
 ·have hl2 : (a.length : Int) = (b.length : Int) := by omega
  rw [decide_eq_true hl2, Bool.not_true, cond_false]
  refine eq_loop hl (fun k hk => ?_) ?_
  ·have hk2 : k < b.length := by omega
   unfold p_slices_Equal_Tag_Tag_b0
   simp only [dlt hk, cond_true, gd.yes (ixN hk), gd.yes (ixN hk2), Int.toNat_natCast, gd.yes (i64S hk (show a.length ≤ 9223372036854775807 by omega))]
   by_cases h : nth a k = nth b k <;> simp [h]
  ·unfold p_slices_Equal_Tag_Tag_b0; simp
 ·have h2 : ¬ (a.length : Int) = (b.length : Int) := by omega
  have h3 : a ≠ b := fun e => hl (by rw [e])
  simp [h2, h3]
theorem e_Equal_int (a b : List Int) (ha : a.length ≤ maxLen) : p_slices_Equal_int_int a b = some (decide (a = b)) := by
 have ha : a.length ≤ 9223372036854775807 := ha
 unfold p_slices_Equal_int_int
 by_cases hl : a.length = b.length
 ·have hl2 : (a.length : Int) = (b.length : Int) := by omega
  rw [decide_eq_true hl2, Bool.not_true, cond_false]
  refine eq_loop hl (fun k hk => ?_) ?_
  ·have hk2 : k < b.length := by omega
   unfold p_slices_Equal_int_int_b0
   simp only [dlt hk, cond_true, gd.yes (ixN hk), gd.yes (ixN hk2), Int.toNat_natCast, gd.yes (i64S hk ha)]
   by_cases h : nth a k = nth b k <;> simp [h]
  ·unfold p_slices_Equal_int_int_b0; simp
 ·have h2 : ¬ (a.length : Int) = (b.length : Int) := by omega
  have h3 : a ≠ b := fun e => hl (by rw [e])
  simp [h2, h3]
theorem e_spec_l11Same (a b : List Int) (ha : a.length ≤ maxLen) : p_spec_l11Same a b = some (decide (a = b)) := by
 have ha : a.length ≤ 9223372036854775807 := ha
 unfold p_spec_l11Same
 by_cases hl : a.length = b.length
 ·have hl2 : (a.length : Int) = (b.length : Int) := by omega
  rw [decide_eq_true hl2, Bool.not_true, cond_false]
  refine eq_loop hl (fun k hk => ?_) ?_
  ·have hk2 : k < b.length := by omega
   unfold p_spec_l11Same_b0
   simp only [dlt hk, cond_true, gd.yes (ixN hk), gd.yes (ixN hk2), Int.toNat_natCast, gd.yes (i64S hk ha)]
   by_cases h : nth a k = nth b k <;> simp [h]
  ·unfold p_spec_l11Same_b0; simp
 ·have h2 : ¬ (a.length : Int) = (b.length : Int) := by omega
  have h3 : a ≠ b := fun e => hl (by rw [e])
  simp [h2, h3]
theorem e_spec_l11Less (a b : Tag) : p_spec_l11Less a b = some (ltTag a b) := by
 unfold p_spec_l11Less ltTag
 cases sless a.1 b.1 with
 | true => rfl
 | false => by_cases h : a.1 = b.1 <;> simp [h]
theorem numberOf_none {q : Option (Unit ⊕ Int)} (h : q = some (.inl ())) : (bd (bd q <| sw (fun _ => some (-1 : Int)) fun q => some q) fun r3 => gd (I64 (r3 + 1)) <| some (r3 + 1)) = some 0 := by
 subst h
 have e : (bd (some (.inl ()) : Option (Unit ⊕ Int)) <| sw (fun _ => some (-1 : Int)) fun q => some q) = some (-1) := rfl
 rw [bd.yes e, gd.yes (by unfold I64; omega)]; rfl
theorem numberOf_some {q : Option (Unit ⊕ Int)} {k : Nat} (hk : k ≤ 4194304) (h : q = some (.inr (k : Int))) : (bd (bd q <| sw (fun _ => some (-1 : Int)) fun q => some q) fun r3 => gd (I64 (r3 + 1)) <| some (r3 + 1)) = some ((k : Int) + 1) := by
 subst h
 have e : (bd (some (.inr (k : Int)) : Option (Unit ⊕ Int)) <| sw (fun _ => some (-1 : Int)) fun q => some q) = some (k : Int) := rfl
 rw [bd.yes e, gd.yes (by unfold I64; omega)]
theorem e_numberOf (names : List (List Tag)) (n : List Tag) (h1 : names.length ≤ 4194304) (h2 : ∀ n ∈ names, n.length ≤ 4194304) :
  (∃ k : Nat, k < names.length ∧ nth names k = n ∧ (∀ j, j < k → nth names j ≠ n) ∧ p_impl_numberOf names n = some ((k : Int) + 1)) ∨ ((∀ k, k < names.length → nth names k ≠ n) ∧ p_impl_numberOf names n = some 0) := by
 have hr : ∀ k, k < names.length → p_slices_IndexFunc_Tag_Tag_numberOf_1_b0 names n (k : Int) = some (if decide (nth names k = n) then .inr (.inr (k : Int)) else .inl ((k + 1 : Nat) : Int)) := fun k hk => by
  unfold p_slices_IndexFunc_Tag_Tag_numberOf_1_b0 p_impl_numberOf_1
  rw [dlt hk, cond_true, gd.yes (ixN hk)]
  simp only [Int.toNat_natCast]
  rw [bd.yes (e_Equal_Tag _ n (h2 _ (nth_mem hk))), bd_some, gd.yes (i64S hk (show names.length ≤ 9223372036854775807 by omega)), addI]
  by_cases h : nth names k = n <;> simp [h]
 unfold p_impl_numberOf p_slices_IndexFunc_Tag_Tag_numberOf_1
 rcases lp_scan (body := p_slices_IndexFunc_Tag_Tag_numberOf_1_b0 names n) (fun k => (k : Int)) names.length (fun k => decide (nth names k = n)) (.inl ()) (fun k => .inr (k : Int)) (fun k hk _ h => by rw [hr k hk, h]; rfl) (fun k hk _ h => by rw [hr k hk, if_pos h]) (fun _ => by unfold p_slices_IndexFunc_Tag_Tag_numberOf_1_b0; simp) with ⟨h1, h2⟩ | ⟨h1, k, hk, hb, hn, h2⟩
 ·refine .inr ⟨fun k hk => of_decide_eq_false (allN_iff.1 h1 k hk), ?_⟩
  exact numberOf_none h2
 ·refine .inl ⟨k, hk, of_decide_eq_true hb, fun j hj => of_decide_eq_false (hn j hj), ?_⟩
  exact numberOf_some (by omega) h2
def nmBad (names : List (List Tag)) (k : Nat) : Bool := !nameOk (nth names k) || !allN k (fun j => decide (nth names j = nth names k))
def namesB (names : List (List Tag)) : Bool := allN names.length (nmBad names) && decide ((names.length : Int) ≤ 6)
theorem e_impl_namesOk (names : List (List Tag)) (hw : Wt.w names ≤ 4194304) : p_impl_namesOk names = some (namesB names) := by
 obtain ⟨h1, h2, _⟩ := w_names hw
 have hr : ∀ k, k < names.length → p_impl_namesOk_b0 names (k : Int) = some (if nmBad names k then .inr (.inr false) else .inl ((k + 1 : Nat) : Int)) := fun k hk => by
  have hl := (h2 _ (nth_mem hk)).1
  unfold p_impl_namesOk_b0 nmBad
  rw [dlt hk, cond_true, gd.yes (ixN hk)]
  simp only [Int.toNat_natCast]
  rw [e_impl_NameOk _ (by unfold maxLen; omega), bd_some]
  cases nameOk (nth names k) with
  | false => rfl
  | true =>
   rw [Bool.not_true, cond_false]
   rcases e_numberOf names (nth names k) h1 (fun n hn => (h2 n hn).1) with ⟨j, hj, e1, e2, e3⟩ | ⟨e2, e3⟩
   ·rw [bd.yes e3, gd.yes (by unfold I64; omega), bd_some, gd.yes (by unfold I64; omega), addI]
    by_cases hjk : j = k
    ·subst hjk
     have : allN j (fun i => decide (nth names i = nth names j)) = true := allN_iff.2 fun i hi => decide_eq_false (e2 i hi)
     rw [this]; simp
    ·have hlt : j < k := by
      rcases Nat.lt_trichotomy j k with h | h | h
      ·exact h
      ·exact absurd h hjk
      ·exact absurd rfl (e2 k h)
     have : allN k (fun i => decide (nth names i = nth names k)) = false := allN_no hlt (decide_eq_true e1)
     rw [this, decide_eq_false (show ¬ (((j + 1 : Nat) : Int) = (k : Int) + 1) by omega)]; simp
   ·exact absurd rfl (e2 k hk)
 unfold p_impl_namesOk namesB
 rcases lp_scan (body := p_impl_namesOk_b0 names) (fun k => (k : Int)) names.length (nmBad names) (.inl ()) (fun _ => .inr false) (fun k hk _ h => by rw [hr k hk, h]; rfl) (fun k hk _ h => by rw [hr k hk, h]; rfl) (fun _ => by unfold p_impl_namesOk_b0; simp) with ⟨h1, h2⟩ | ⟨h1, k, _, _, _, h2⟩
 ·rw [show (lp (p_impl_namesOk_b0 names) 0) = _ from h2, h1]; simp [sw]
 ·rw [show (lp (p_impl_namesOk_b0 names) 0) = _ from h2, h1]; simp [sw]
theorem e_eqPost (p q : Post) (hp : p.2.length ≤ maxLen) : p_impl_IndexOk_1 p q = some (decide (p = q)) := by
 unfold p_impl_IndexOk_1
 by_cases h : p.1 = q.1
 ·rw [decide_eq_true h, cond_true, bd.yes (e_Equal_int _ _ hp), bd_some]
  by_cases h2 : p.2 = q.2
  ·have : p = q := Prod.ext h h2
   rw [decide_eq_true h2, decide_eq_true this]
  ·have : p ≠ q := fun e => h2 (by rw [e])
   rw [decide_eq_false h2, decide_eq_false this]
 ·have : p ≠ q := fun e => h (by rw [e])
  rw [decide_eq_false h, cond_false, bd_some, decide_eq_false this]
theorem e_EqualPosts (P Q : List Post) (hP : P.length ≤ maxLen) (hi : ∀ k, k < P.length → (nth P k).2.length ≤ maxLen) : p_slices_EqualFunc_Post_Post_Post_Post_IndexOk_1 P Q = some (decide (P = Q)) := by
 have hP' : P.length ≤ 9223372036854775807 := hP
 unfold p_slices_EqualFunc_Post_Post_Post_Post_IndexOk_1
 by_cases hl : P.length = Q.length
 ·have hl2 : (P.length : Int) = (Q.length : Int) := by omega
  rw [decide_eq_true hl2, Bool.not_true, cond_false]
  refine eq_loop hl (fun k hk => ?_) ?_
  ·have hk2 : k < Q.length := by omega
   unfold p_slices_EqualFunc_Post_Post_Post_Post_IndexOk_1_b0
   rw [dlt hk, cond_true, gd.yes (ixN hk), gd.yes (ixN hk2)]
   simp only [Int.toNat_natCast]
   rw [bd.yes (e_eqPost _ _ (hi k hk)), gd.yes (i64S hk hP'), addI]
   by_cases h : nth P k = nth Q k <;> simp [h]
  ·unfold p_slices_EqualFunc_Post_Post_Post_Post_IndexOk_1_b0; simp
 ·have h2 : ¬ (P.length : Int) = (Q.length : Int) := by omega
  have h3 : P ≠ Q := fun e => hl (by rw [e])
  simp [h2, h3]
def indexB (x : Index) : Bool := namesB x.1 && decide (x.2 = (indexP x.1).2)
def postsW (P : List Post) : Prop := P.length ≤ 4194304 ∧ ∀ k, k < P.length → (nth P k).2.length ≤ 4194304
theorem e_impl_IndexOk (x : Index) (hw : Wt.w x.1 ≤ 4194304) (hp : postsW x.2) : p_impl_IndexOk x = some (indexB x) := by
 obtain ⟨h1, h2, h3⟩ := w_names hw
 unfold p_impl_IndexOk indexB
 rw [bd.yes (e_impl_namesOk x.1 hw)]
 cases namesB x.1 with
 | false => rfl
 | true =>
  have hp1 := hp.1
  rw [cond_true, bd.yes (e_indexOf x.1 h1 h3), bd.yes (e_EqualPosts x.2 _ (by unfold maxLen; omega) (fun k hk => by have := hp.2 k hk; unfold maxLen; omega)), Bool.true_and]
def locBad (names : List (List Tag)) (P : List Post) (k : Nat) : Bool := decide ((nth P k).2.length = 0) || (!decide ((nth P k).2 = idsN names (nth P k).1 names.length) || (decide (0 < k) && !ltTag (nth P (k - 1)).1 (nth P k).1))
theorem nmBad_ok {names : List (List Tag)} {k : Nat} (h : nmBad names k = false) : nameOk (nth names k) = true := by
 unfold nmBad at h
 simp only [Bool.or_eq_false_iff, Bool.not_eq_false'] at h
 exact h.1
theorem e_spec_names (x : Index) (hw : Wt.w x.1 ≤ 4194304) : lp (p_spec_IndexOk_b0 x) (0, 0) = some (if allN x.1.length (nmBad x.1) then .inl ((sumN x.1.length fun i => (nth x.1 i).length : Nat) : Int) else .inr false) := by
 obtain ⟨h1, h2, h3⟩ := w_names hw
 have inner : ∀ k, k < x.1.length → (∀ i, i < k → nmBad x.1 i = false) → nameOk (nth x.1 k) = true → ∀ s : Int, lp (p_spec_IndexOk_b1 x (s, (k : Int))) 0 = some (if allN k (fun j => decide (nth x.1 j = nth x.1 k)) then .inl () else .inr false) := fun k hk hbs hok s => by
  have hr : ∀ j, j < k → p_spec_IndexOk_b1 x (s, (k : Int)) (j : Int) = some (if decide (nth x.1 j = nth x.1 k) then .inr (.inr false) else .inl ((j + 1 : Nat) : Int)) := fun j hj => by
   have hj2 : j < x.1.length := by omega
   unfold p_spec_IndexOk_b1
   rw [decide_eq_true (show ((j : Int) < (k : Int)) by omega), cond_true]
   simp only [Int.toNat_natCast]
   rw [bd.yes (e_spec_l3Text _ (h2 _ (nth_mem hk)).2), gd.yes (ixN hj2), bd.yes (e_spec_l3Text _ (h2 _ (nth_mem hj2)).2), text_eq hok (nmBad_ok (hbs j hj)), gd.yes (by unfold I64; omega), addI]
   by_cases h : nth x.1 j = nth x.1 k
   ·rw [decide_eq_true h, decide_eq_true h.symm]; rfl
   ·rw [decide_eq_false h, decide_eq_false (fun e => h e.symm)]; rfl
  rcases lp_scan (body := p_spec_IndexOk_b1 x (s, (k : Int))) (fun j => (j : Int)) k (fun j => decide (nth x.1 j = nth x.1 k)) (.inl ()) (fun _ => .inr false) (fun j hj _ h => by rw [hr j hj, h]; rfl) (fun j hj _ h => by rw [hr j hj, h]; rfl) (fun _ => by unfold p_spec_IndexOk_b1; rw [decide_eq_false (show ¬ ((k : Int) < (k : Int)) by omega)]; rfl) with ⟨h1, h2⟩ | ⟨h1, _, _, _, _, h2⟩
  ·rw [show (lp (p_spec_IndexOk_b1 x (s, (k : Int))) 0) = _ from h2, h1]; rfl
  ·rw [show (lp (p_spec_IndexOk_b1 x (s, (k : Int))) 0) = _ from h2, h1]; rfl
 have step : ∀ k, k < x.1.length → (∀ i, i < k → nmBad x.1 i = false) → p_spec_IndexOk_b0 x (((sumN k fun i => (nth x.1 i).length : Nat) : Int), (k : Int)) = some (if nmBad x.1 k then .inr (.inr false) else .inl (((sumN (k + 1) fun i => (nth x.1 i).length : Nat) : Int), ((k + 1 : Nat) : Int))) := fun k hk hbs => by
  have hl := (h2 _ (nth_mem hk)).1
  have hs : (sumN k fun i => (nth x.1 i).length) + (nth x.1 k).length ≤ sumN x.1.length fun i => (nth x.1 i).length := sumN_lt (f := fun i => (nth x.1 i).length) hk
  unfold p_spec_IndexOk_b0 nmBad
  rw [dlt hk, cond_true, gd.yes (ixN hk)]
  simp only [Int.toNat_natCast]
  rw [bd.yes (e_spec_NameOk _ (by unfold maxLen; omega))]
  cases hok : nameOk (nth x.1 k) with
  | false => rfl
  | true =>
   rw [Bool.not_true, cond_false, bd.yes (inner k hk hbs hok _)]
   cases allN k (fun j => decide (nth x.1 j = nth x.1 k)) with
   | false => rfl
   | true =>
    show gd (I64 _) (gd (I64 _) (some _)) = _
    rw [gd.yes (by unfold I64; omega), gd.yes (by unfold I64; omega), addI]
    have : ((sumN k fun i => (nth x.1 i).length : Nat) : Int) + ((nth x.1 k).length : Int) = ((sumN (k + 1) fun i => (nth x.1 i).length : Nat) : Int) := by
     show _ = ((((sumN k fun i => (nth x.1 i).length) + (nth x.1 k).length : Nat)) : Int)
     omega
    rw [this]; rfl
 rcases lp_scan (body := p_spec_IndexOk_b0 x) (fun k => (((sumN k fun i => (nth x.1 i).length : Nat) : Int), (k : Int))) x.1.length (nmBad x.1) (.inl ((sumN x.1.length fun i => (nth x.1 i).length : Nat) : Int)) (fun _ => .inr false) (fun k hk hb h => by rw [step k hk hb, h]; rfl) (fun k hk hb h => by rw [step k hk hb, h]; rfl) (fun _ => by unfold p_spec_IndexOk_b0; rw [decide_eq_false (show ¬ ((x.1.length : Int) < (x.1.length : Int)) by omega)]; rfl) with ⟨h1, h2⟩ | ⟨h1, _, _, _, _, h2⟩
 ·rw [show (lp (p_spec_IndexOk_b0 x) (0, 0)) = _ from h2, h1]; rfl
 ·rw [show (lp (p_spec_IndexOk_b0 x) (0, 0)) = _ from h2, h1]; rfl
theorem e_spec_posts (x : Index) (hw : Wt.w x.1 ≤ 4194304) (hp : postsW x.2) (n0 : Nat) (hn0 : n0 ≤ 4194304) : lp (p_spec_IndexOk_b2 x) ((n0 : Int), 0) = some (if allN x.2.length (locBad x.1 x.2) then .inl ((n0 : Int) - ((sumN x.2.length fun i => (nth x.2 i).2.length : Nat) : Int)) else .inr false) := by
 obtain ⟨h1, h2, h3⟩ := w_names hw
 obtain ⟨p1, p2⟩ := hp
 have hs : ∀ k, k ≤ x.2.length → (sumN k fun i => (nth x.2 i).2.length) ≤ k * 4194304 := by
  intro k
  induction k with
  | zero => intro _; exact Nat.le_refl _
  | succ k ih =>
   intro hk
   have := ih (by omega)
   have h4 := p2 k (by omega)
   show (sumN k fun i => (nth x.2 i).2.length) + (nth x.2 k).2.length ≤ _
   omega
 have step : ∀ k, k < x.2.length → p_spec_IndexOk_b2 x ((n0 : Int) - ((sumN k fun i => (nth x.2 i).2.length : Nat) : Int), (k : Int)) = some (if locBad x.1 x.2 k then .inr (.inr false) else .inl ((n0 : Int) - ((sumN (k + 1) fun i => (nth x.2 i).2.length : Nat) : Int), ((k + 1 : Nat) : Int))) := fun k hk => by
  have hl := p2 k hk
  have hsk := hs k (by omega)
  have hkk : k * 4194304 ≤ 4194304 * 4194304 := Nat.mul_le_mul_right _ (by omega)
  have es : ((n0 : Int) - ((sumN k fun i => (nth x.2 i).2.length : Nat) : Int)) - ((nth x.2 k).2.length : Int) = (n0 : Int) - ((sumN (k + 1) fun i => (nth x.2 i).2.length : Nat) : Int) := by
   show _ = (n0 : Int) - ((((sumN k fun i => (nth x.2 i).2.length) + (nth x.2 k).2.length : Nat)) : Int)
   omega
  have fin : (gd (I64 (((n0 : Int) - ((sumN k fun i => (nth x.2 i).2.length : Nat) : Int)) - ((nth x.2 k).2.length : Int))) <| gd (I64 ((k : Int) + 1)) <| (some (.inl (((n0 : Int) - ((sumN k fun i => (nth x.2 i).2.length : Nat) : Int)) - ((nth x.2 k).2.length : Int), (k : Int) + 1)) : Option ((Int × Int) ⊕ (Int ⊕ Bool)))) = some (.inl ((n0 : Int) - ((sumN (k + 1) fun i => (nth x.2 i).2.length : Nat) : Int), ((k + 1 : Nat) : Int))) := by
   rw [gd.yes (by unfold I64; omega), gd.yes (by unfold I64; omega), es, addI]
  unfold p_spec_IndexOk_b2 locBad
  rw [dlt hk, cond_true, gd.yes (ixN hk)]
  simp only [Int.toNat_natCast]
  by_cases hz : (nth x.2 k).2.length = 0
  ·rw [decide_eq_true (show (((nth x.2 k).2.length : Int) = 0) by omega), decide_eq_true hz]; rfl
  ·rw [decide_eq_false (show ¬ (((nth x.2 k).2.length : Int) = 0) by omega), decide_eq_false hz, cond_false, bd.yes (e_spec_l11Ids x.1 _ h1 (fun n hn => (h2 n hn).1)), bd.yes (e_spec_l11Same _ _ (by unfold maxLen; omega))]
   by_cases hi : (nth x.2 k).2 = idsN x.1 (nth x.2 k).1 x.1.length
   ·rw [decide_eq_true hi, Bool.not_true, cond_false]
    by_cases h0 : 0 < k
    ·have e1 : (k : Int) - 1 = ((k - 1 : Nat) : Int) := by omega
     rw [decide_eq_true (show (0 : Int) < (k : Int) by omega), cond_true, gd.yes (by unfold I64; omega), e1, gd.yes (ixN (show k - 1 < x.2.length by omega))]
     simp only [Int.toNat_natCast]
     rw [bd.yes (e_spec_l11Less _ _), decide_eq_true h0]
     cases ltTag (nth x.2 (k - 1)).1 (nth x.2 k).1 with
     | false => rfl
     | true => exact fin
    ·rw [decide_eq_false (show ¬ (0 : Int) < (k : Int) by omega), cond_false, decide_eq_false h0]
     exact fin
   ·rw [decide_eq_false hi]; rfl
 have e0 : ((n0 : Int), (0 : Int)) = ((n0 : Int) - ((sumN 0 fun i => (nth x.2 i).2.length : Nat) : Int), ((0 : Nat) : Int)) := by
  show _ = ((n0 : Int) - ((0 : Nat) : Int), ((0 : Nat) : Int)); simp
 rcases lp_scan (body := p_spec_IndexOk_b2 x) (fun k => ((n0 : Int) - ((sumN k fun i => (nth x.2 i).2.length : Nat) : Int), (k : Int))) x.2.length (locBad x.1 x.2) (.inl ((n0 : Int) - ((sumN x.2.length fun i => (nth x.2 i).2.length : Nat) : Int))) (fun _ => .inr false) (fun k hk hb h => by rw [step k hk, h]; rfl) (fun k hk hb h => by rw [step k hk, h]; rfl) (fun _ => by unfold p_spec_IndexOk_b2; rw [decide_eq_false (show ¬ ((x.2.length : Int) < (x.2.length : Int)) by omega)]; rfl) with ⟨h1, h2⟩ | ⟨h1, _, _, _, _, h2⟩
 ·rw [e0, h2, h1]; rfl
 ·rw [e0, h2, h1]; rfl
theorem sumL_N (P : List Post) : sumL P = sumN P.length fun i => (nth P i).2.length := by
 have : ∀ m, m ≤ P.length → sumL (P.take m) = sumN m fun i => (nth P i).2.length := by
  intro m
  induction m with
  | zero => intro _; rfl
  | succ m ih =>
   intro hm
   rw [take_succ_nth (by omega), sumL_append, ih (by omega)]
   show _ + ((nth P m).2.length + 0) = _
   rfl
 have h := this P.length (Nat.le_refl _)
 rwa [List.take_length] at h
theorem names_dist {names : List (List Tag)} (h : allN names.length (nmBad names) = true) : dist names := fun n hn => by
 obtain ⟨i, hi, rfl⟩ := List.mem_iff_getElem.1 hn
 rw [← nth_eq names i hi]
 exact nameOk_nodup (nmBad_ok (allN_iff.1 h i hi))
theorem e_spec_IndexOk (x : Index) (hw : Wt.w x.1 ≤ 4194304) (hp : postsW x.2) : p_spec_IndexOk x = some (indexB x) := by
 obtain ⟨h1, h2, h3⟩ := w_names hw
 unfold p_spec_IndexOk indexB namesB
 by_cases h6 : 6 < x.1.length
 ·rw [decide_eq_true (show (6 : Int) < (x.1.length : Int) by omega), cond_true, decide_eq_false (show ¬ ((x.1.length : Int) ≤ 6) by omega), Bool.and_false, Bool.false_and]
 ·rw [decide_eq_false (show ¬ (6 : Int) < (x.1.length : Int) by omega), cond_false, decide_eq_true (show ((x.1.length : Int) ≤ 6) by omega), Bool.and_true, bd.yes (e_spec_names x hw)]
  cases hall : allN x.1.length (nmBad x.1) with
  | false => rfl
  | true =>
   have hd := names_dist hall
   have hC := canon_posts hd
   show bd (lp (p_spec_IndexOk_b2 x) ((sumN x.1.length fun i => (nth x.1 i).length : Nat), 0)) _ = _
   rw [bd.yes (e_spec_posts x hw hp _ h3), Bool.true_and]
   have hsC : sumL (indexP x.1).2 = sumN x.1.length fun i => (nth x.1 i).length := by
    rw [← sumL_posts]
    exact sumL_perm (List.mergeSort_perm _ _)
   have hsP := sumL_N x.2
   cases hloc : allN x.2.length (locBad x.1 x.2) with
   | false =>
    have hne : x.2 ≠ (indexP x.1).2 := fun e => by
     have : allN x.2.length (locBad x.1 x.2) = true := allN_iff.2 fun k hk => by
      have hm : nth x.2 k ∈ (indexP x.1).2 := e ▸ nth_mem hk
      obtain ⟨i1, i2⟩ := hC.ids _ hm
      unfold locBad
      rw [decide_eq_false (fun h0 => i2 (List.eq_nil_of_length_eq_zero h0)), decide_eq_true i1]
      by_cases h0 : 0 < k
      ·have ho := hC.ord
       rw [← e, List.pairwise_iff_getElem] at ho
       have := ho (k - 1) k (by omega) hk (by omega)
       rw [← nth_eq x.2 (k - 1) (by omega), ← nth_eq x.2 k hk] at this
       rw [this]; simp
      ·rw [decide_eq_false h0]; rfl
     rw [hloc] at this; cases this
    rw [decide_eq_false hne]; rfl
   | true =>
    have hk := allN_iff.1 hloc
    have adj : ∀ i, i + 1 < x.2.length → ltTag (nth x.2 i).1 (nth x.2 (i + 1)).1 = true := fun i hi => by
     have := hk (i + 1) hi
     unfold locBad at this
     simp only [Nat.zero_lt_succ, decide_true, Bool.true_and, Nat.add_sub_cancel, Bool.or_eq_false_iff, Bool.not_eq_false'] at this
     exact this.2.2
    have lt : ∀ d i, i + d + 1 < x.2.length → ltTag (nth x.2 i).1 (nth x.2 (i + d + 1)).1 = true := by
     intro d
     induction d with
     | zero => intro i hi; exact adj i hi
     | succ d ih => intro i hi; exact ltTag_trans (ih i (by omega)) (adj (i + d + 1) (by omega))
    have ord : x.2.Pairwise fun a b => ltTag a.1 b.1 = true := by
     rw [List.pairwise_iff_getElem]
     intro i j hi hj hij
     obtain ⟨d, rfl⟩ : ∃ d, j = i + d + 1 := ⟨j - i - 1, by omega⟩
     have := lt d i hj
     rwa [nth_eq x.2 i hi, nth_eq x.2 _ hj] at this
    have ids : ∀ p ∈ x.2, p.2 = idsN x.1 p.1 x.1.length ∧ p.2 ≠ [] := fun p hp' => by
     obtain ⟨i, hi, rfl⟩ := List.mem_iff_getElem.1 hp'
     have := hk i hi
     unfold locBad at this
     simp only [Bool.or_eq_false_iff, decide_eq_false_iff_not, Bool.not_eq_false', decide_eq_true_eq] at this
     rw [nth_eq x.2 i hi] at this
     exact ⟨this.2.1, fun e => this.1 (by rw [e]; rfl)⟩
    show some (decide (((sumN x.1.length fun i => (nth x.1 i).length : Nat) : Int) - ((sumN x.2.length fun i => (nth x.2 i).2.length : Nat) : Int) = 0)) = _
    by_cases hE : x.2 = (indexP x.1).2
    ·have : sumL x.2 = sumL (indexP x.1).2 := by rw [← hE]
     rw [decide_eq_true hE, decide_eq_true (by omega)]
    ·have hne : sumL x.2 ≠ sumL (indexP x.1).2 := fun e => hE (canon_of_sum hC ord ids e)
     rw [decide_eq_false hE, decide_eq_false (by omega)]
theorem postsW_mem {P : List Post} (h : postsW P) : ∀ p ∈ P, p.2.length ≤ 4194304 := fun p hp => by
 obtain ⟨i, hi, rfl⟩ := List.mem_iff_getElem.1 hp
 rw [← nth_eq P i hi]
 exact h.2 i hi
theorem indexB_canon {x : Index} (h : indexB x = true) : Canon x.1 x.2 ∧ allN x.1.length (nmBad x.1) = true ∧ x.1.length ≤ 6 ∧ x.2 = (indexP x.1).2 := by
 unfold indexB namesB at h
 simp only [Bool.and_eq_true, decide_eq_true_eq] at h
 obtain ⟨⟨h1, h2⟩, h3⟩ := h
 exact ⟨by rw [h3]; exact canon_posts (names_dist h1), h1, by omega, h3⟩
def tg (i j : Nat) : Tag := (s1 (97 + (i : Int)), s1 (112 + (j : Int)))
def cell (names : List (List Tag)) (i j : Nat) : List Post := if 0 < (idsN names (tg i j) names.length).length then [(tg i j, idsN names (tg i j) names.length)] else []
def rowE (names : List (List Tag)) (i : Nat) : Nat → List Post
 | 0 => []
 | j + 1 => rowE names i j ++ cell names i j
def allE (names : List (List Tag)) : Nat → List Post
 | 0 => []
 | i + 1 => allE names i ++ rowE names i 11
theorem rowE_succ (names : List (List Tag)) (i j : Nat) : rowE names i (j + 1) = rowE names i j ++ cell names i j := rfl
theorem allE_succ (names : List (List Tag)) (i : Nat) : allE names (i + 1) = allE names i ++ rowE names i 11 := rfl
theorem cell_len (names : List (List Tag)) (i j : Nat) : (cell names i j).length ≤ 1 := by unfold cell; split <;> simp
theorem rowE_len (names : List (List Tag)) (i : Nat) : ∀ j, (rowE names i j).length ≤ j
 | 0 => Nat.le_refl _
 | j + 1 => by
  have := rowE_len names i j
  have := cell_len names i j
  rw [rowE_succ, List.length_append]; omega
theorem allE_len (names : List (List Tag)) : ∀ i, (allE names i).length ≤ 11 * i
 | 0 => Nat.le_refl _
 | i + 1 => by
  have := allE_len names i
  have := rowE_len names i 11
  rw [allE_succ, List.length_append]; omega
theorem cell_mem {names : List (List Tag)} {i j : Nat} {p : Post} (h : p ∈ cell names i j) : p = (tg i j, idsN names (tg i j) names.length) ∧ idsN names (tg i j) names.length ≠ [] := by
 unfold cell at h
 split at h
 next hp => exact ⟨List.mem_singleton.1 h, fun e => by rw [e] at hp; cases hp⟩
 next => cases h
theorem rowE_mem {names : List (List Tag)} {i : Nat} {p : Post} : ∀ {j}, p ∈ rowE names i j → ∃ k, k < j ∧ p ∈ cell names i k
 | 0, h => nomatch h
 | j + 1, h => by
  rcases List.mem_append.1 h with h | h
  ·obtain ⟨k, hk, h⟩ := rowE_mem h
   exact ⟨k, by omega, h⟩
  ·exact ⟨j, Nat.lt_succ_self _, h⟩
theorem allE_mem {names : List (List Tag)} {p : Post} : ∀ {i}, p ∈ allE names i → ∃ k j, k < i ∧ j < 11 ∧ p ∈ cell names k j
 | 0, h => nomatch h
 | i + 1, h => by
  rcases List.mem_append.1 h with h | h
  ·obtain ⟨k, j, hk, hj, h⟩ := allE_mem h
   exact ⟨k, j, by omega, hj, h⟩
  ·obtain ⟨j, hj, h⟩ := rowE_mem h
   exact ⟨i, j, Nat.lt_succ_self _, hj, h⟩
theorem rowE_in {names : List (List Tag)} {i k : Nat} {p : Post} (h : p ∈ cell names i k) : ∀ {j}, k < j → p ∈ rowE names i j
 | 0, hk => absurd hk (Nat.not_lt_zero _)
 | j + 1, hk => by
  rw [rowE_succ, List.mem_append]
  by_cases e : k = j
  ·subst e; exact .inr h
  ·exact .inl (rowE_in h (by omega))
theorem allE_in {names : List (List Tag)} {i j : Nat} {p : Post} (hj : j < 11) (h : p ∈ cell names i j) : ∀ {n}, i < n → p ∈ allE names n
 | 0, hk => absurd hk (Nat.not_lt_zero _)
 | n + 1, hk => by
  rw [allE_succ, List.mem_append]
  by_cases e : i = n
  ·subst e; exact .inr (rowE_in h hj)
  ·exact .inl (allE_in hj h (by omega))
theorem s1_lt {a b : Nat} (h : a < b) (hb : b < 128) : sless (s1 (a : Int)) (s1 (b : Int)) = true := by
 show sless ⟨#[UInt8.ofNat a]⟩ ⟨#[UInt8.ofNat b]⟩ = true
 rw [sl_one, decide_eq_true_eq, UInt8.lt_iff_toNat_lt]
 simp only [UInt8.toNat_ofNat']
 omega
theorem tg_lt {i j i' j' : Nat} (_ : i < 4) (_ : j < 11) (hi' : i' < 4) (hj' : j' < 11) (h : i < i' ∨ (i = i' ∧ j < j')) : ltTag (tg i j) (tg i' j') = true := by
 unfold ltTag tg
 rcases h with h | ⟨rfl, h⟩
 ·have := s1_lt (show 97 + i < 97 + i' by omega) (by omega)
  rw [show ((97 + i : Nat) : Int) = 97 + (i : Int) by omega, show ((97 + i' : Nat) : Int) = 97 + (i' : Int) by omega] at this
  rw [this]; rfl
 ·have := s1_lt (show 112 + j < 112 + j' by omega) (by omega)
  rw [show ((112 + j : Nat) : Int) = 112 + (j : Int) by omega, show ((112 + j' : Nat) : Int) = 112 + (j' : Int) by omega] at this
  rw [this]; simp
theorem rowE_ord {names : List (List Tag)} {i : Nat} (hi : i < 4) : ∀ {j}, j ≤ 11 → (rowE names i j).Pairwise fun x y => ltTag x.1 y.1 = true
 | 0, _ => List.Pairwise.nil
 | j + 1, hj => by
  rw [rowE_succ, List.pairwise_append]
  refine ⟨rowE_ord hi (by omega), ?_, fun p hp q hq => ?_⟩
  ·unfold cell; split <;> simp
  ·obtain ⟨k, hk, hp⟩ := rowE_mem hp
   rw [(cell_mem hp).1, (cell_mem hq).1]
   exact tg_lt hi (by omega) hi (by omega) (.inr ⟨rfl, hk⟩)
theorem allE_ord {names : List (List Tag)} : ∀ {i}, i ≤ 4 → (allE names i).Pairwise fun x y => ltTag x.1 y.1 = true
 | 0, _ => List.Pairwise.nil
 | i + 1, hi => by
  rw [allE_succ, List.pairwise_append]
  refine ⟨allE_ord (by omega), rowE_ord (by omega) (Nat.le_refl _), fun p hp q hq => ?_⟩
  obtain ⟨k, j, hk, hj, hp⟩ := allE_mem hp
  obtain ⟨j', hj', hq⟩ := rowE_mem hq
  rw [(cell_mem hp).1, (cell_mem hq).1]
  exact tg_lt (by omega) hj (by omega) hj' (.inl hk)
theorem tg_of {t : Tag} (h : tagB t = true) : ∃ i j, i < 4 ∧ j < 11 ∧ t = tg i j := by
 unfold tagB at h
 simp only [Bool.and_eq_true, decide_eq_true_eq, inn] at h
 obtain ⟨h1, h2, ⟨h3, h4⟩, h5, h6⟩ := h
 refine ⟨(sb t.1 0).toNat - 97, (sb t.2 0).toNat - 112, by omega, by omega, ?_⟩
 have e1 : t.1 = s1 (97 + (((sb t.1 0).toNat - 97 : Nat) : Int)) := by
  have : (97 + (((sb t.1 0).toNat - 97 : Nat) : Int)).toNat = (sb t.1 0).toNat := by omega
  unfold s1
  rw [this, UInt8.ofNat_toNat]
  exact ba_one h1
 have e2 : t.2 = s1 (112 + (((sb t.2 0).toNat - 112 : Nat) : Int)) := by
  have : (112 + (((sb t.2 0).toNat - 112 : Nat) : Int)).toNat = (sb t.2 0).toNat := by omega
  unfold s1
  rw [this, UInt8.ofNat_toNat]
  exact ba_one h2
 exact Prod.ext e1 e2
theorem idsN_name {names : List (List Tag)} {t : Tag} : ∀ {m}, idsN names t m ≠ [] → ∃ k, k < m ∧ t ∈ nth names k
 | 0, h => absurd rfl h
 | m + 1, h => by
  rw [idsN_succ] at h
  cases hc : hasT (nth names m) t with
  | true => exact ⟨m, Nat.lt_succ_self _, hasT_iff.1 hc⟩
  | false =>
   rw [if_neg (by rw [hc]; simp), List.append_nil] at h
   obtain ⟨k, hk, h⟩ := idsN_name h
   exact ⟨k, by omega, h⟩
def goodN (names : List (List Tag)) : Prop := ∀ k, k < names.length → nameOk (nth names k) = true
theorem goodN_dist {names : List (List Tag)} (h : goodN names) : dist names := fun n hn => by
 obtain ⟨i, hi, rfl⟩ := List.mem_iff_getElem.1 hn
 rw [← nth_eq names i hi]
 exact nameOk_nodup (h i hi)
theorem canon_all {names : List (List Tag)} (h : goodN names) : Canon names (allE names 4) := by
 refine ⟨allE_ord (Nat.le_refl _), fun p hp => ?_, fun t ht => ?_⟩
 ·obtain ⟨i, j, _, _, hp⟩ := allE_mem hp
  obtain ⟨e1, e2⟩ := cell_mem hp
  rw [e1]; exact ⟨rfl, e2⟩
 ·obtain ⟨k, hk, hm⟩ := idsN_name ht
  obtain ⟨i, j, hi, hj, rfl⟩ := tg_of (nameOk_tags (h k hk) t hm)
  refine ⟨(tg i j, idsN names (tg i j) names.length), allE_in hj ?_ hi, rfl⟩
  unfold cell
  rw [if_pos (List.length_pos_iff.2 ht)]
  exact List.mem_singleton.2 rfl
theorem e_rowE (names : List (List Tag)) (i : Nat) (hi : i < 4) (acc : List Post) (ha : acc.length ≤ 44) (h1 : names.length ≤ 4194304) (h2 : ∀ n ∈ names, n.length ≤ 4194304) : lp (p_spec_l11Of_b1 names (acc, 97 + (i : Int))) (acc, 112) = some (acc ++ rowE names i 11) := by
 have h0 : (acc, (112 : Int)) = (acc ++ rowE names i 0, (112 : Int) + ((0 : Nat) : Int)) := by rw [show rowE names i 0 = [] from rfl, List.append_nil]; rfl
 rw [h0, lp_for (body := p_spec_l11Of_b1 names (acc, 97 + (i : Int))) (fun j => (acc ++ rowE names i j, (112 : Int) + (j : Int))) 11 (acc ++ rowE names i 11) (fun j hj => by
  have hr := rowE_len names i j
  have ea : (112 : Int) + (j : Int) + 1 = 112 + ((j + 1 : Nat) : Int) := by omega
  unfold p_spec_l11Of_b1
  rw [decide_eq_true (show (112 : Int) + (j : Int) ≤ 122 by omega), cond_true, gd.yes (show asc (97 + (i : Int)) by unfold asc; omega), gd.yes (show asc (112 + (j : Int)) by unfold asc; omega), rowE_succ]
  show bd (p_spec_l11Ids names (tg i j)) _ = _
  rw [bd.yes (e_spec_l11Ids names (tg i j) h1 h2)]
  unfold cell
  by_cases hz : 0 < (idsN names (tg i j) names.length).length
  ·rw [decide_eq_true (show (0 : Int) < ((idsN names (tg i j) names.length).length : Int) by omega), cond_true, if_pos hz, gd.yes (by rw [List.length_append]; unfold room; omega), gd.yes (by unfold I32; omega), List.append_assoc, ea]; rfl
  ·rw [decide_eq_false (show ¬ (0 : Int) < ((idsN names (tg i j) names.length).length : Int) by omega), cond_false, if_neg hz, gd.yes (by unfold I32; omega), List.append_nil, ea]) (by
  unfold p_spec_l11Of_b1; rw [decide_eq_false (show ¬ ((112 : Int) + ((11 : Nat) : Int) ≤ 122) by omega)]; rfl)]
theorem e_spec_l11Of {names : List (List Tag)} (hg : goodN names) (h1 : names.length ≤ 4194304) (h2 : ∀ n ∈ names, n.length ≤ 4194304) : p_spec_l11Of names = some (indexP names) := by
 unfold p_spec_l11Of
 have h0 : (([] : List Post), (97 : Int)) = (allE names 0, (97 : Int) + ((0 : Nat) : Int)) := rfl
 rw [h0, bd.yes (lp_for (body := p_spec_l11Of_b0 names) (fun i => (allE names i, (97 : Int) + (i : Int))) 4 (allE names 4) (fun i hi => by
  have hl := allE_len names i
  unfold p_spec_l11Of_b0
  rw [decide_eq_true (show (97 : Int) + (i : Int) ≤ 100 by omega), cond_true, bd.yes (e_rowE names i hi _ (by omega) h1 h2), gd.yes (by unfold I32; omega), allE_succ, show (97 : Int) + (i : Int) + 1 = 97 + ((i + 1 : Nat) : Int) by omega]) (by
  unfold p_spec_l11Of_b0; rw [decide_eq_false (show ¬ ((97 : Int) + ((4 : Nat) : Int) ≤ 100) by omega)]; rfl)), bd.yes (e_spec_l11Names names h1 h2)]
 have : allE names 4 = (indexP names).2 := canon_eq (canon_all hg) (canon_posts (goodN_dist hg))
 rw [this]; rfl
theorem good_snoc {names : List (List Tag)} {n : List Tag} (h : goodN names) (hn : nameOk n = true) : goodN (names ++ [n]) := fun k hk => by
 rw [List.length_append, List.length_singleton] at hk
 by_cases e : k < names.length
 ·rw [nth_eq _ _ (by rw [List.length_append]; omega), List.getElem_append_left e, ← nth_eq names k e]; exact h k e
 ·have : k = names.length := by omega
  subst this
  rw [nth_eq _ _ (by simp)]; simpa using hn
theorem goodN_len {names : List (List Tag)} (h : goodN names) : ∀ n ∈ names, n.length ≤ 3 := fun n hn => by
 obtain ⟨i, hi, rfl⟩ := List.mem_iff_getElem.1 hn
 rw [← nth_eq names i hi]
 exact (nameOk_len (h i hi)).2
theorem goodN_sum {names : List (List Tag)} (h : goodN names) : sumN names.length (fun i => (nth names i).length) ≤ names.length * 3 := by
 have : ∀ m, m ≤ names.length → sumN m (fun i => (nth names i).length) ≤ m * 3 := by
  intro m
  induction m with
  | zero => intro _; exact Nat.le_refl _
  | succ m ih =>
   intro hm
   have h1 := ih (by omega)
   have h2 := (nameOk_len (h m (by omega))).2
   show sumN m (fun i => (nth names i).length) + (nth names m).length ≤ _
   omega
 exact this _ (Nat.le_refl _)
theorem sumN_c {f : Nat → Nat} {c : Nat} : ∀ {n}, (∀ i, i < n → f i ≤ c) → sumN n f ≤ n * c
 | 0, _ => Nat.zero_le _
 | n + 1, h => by
  have h1 := sumN_c (n := n) fun i hi => h i (by omega)
  have h2 := h n (Nat.lt_succ_self _)
  show sumN n f + f n ≤ _
  rw [Nat.add_mul]; omega
theorem sumL_ne {P : List Post} (h : ∀ p ∈ P, p.2 ≠ []) : P.length ≤ sumL P := by
 induction P with
 | nil => exact Nat.zero_le _
 | cons p P ih =>
  have h1 := ih fun q hq => h q (List.mem_cons_of_mem _ hq)
  have h2 := List.length_pos_iff.2 (h p (List.mem_cons_self ..))
  show P.length + 1 ≤ p.2.length + sumL P
  omega
theorem d_of (b : List UInt8) (p : Int) (l : List ByteArray) (hb : b.length ≤ 2000) (h0 : 0 ≤ p) (h1 : p ≤ 1000000) (hl : 1 ≤ l.length) (hl2 : l.length ≤ 1000) :
  ∃ x, p_spec_l6Rd_of (b, p) l = some (x, p + 1) ∧ x ∈ l := by
 obtain ⟨x, e, a, k⟩ := d_pick b p (l.length : Int) hb h0 h1 (by omega)
 have k := k (by omega)
 have hx : x.toNat < l.length := by omega
 refine ⟨nth l x.toNat, ?_, nth_mem hx⟩
 unfold p_spec_l6Rd_of
 rw [bd.yes e, gd.yes (show ix x l.length by unfold ix; omega)]
theorem d_l71Tag (b : List UInt8) (p : Int) (hb : b.length ≤ 2000) (h0 : 0 ≤ p) (h1 : p + 2 ≤ 1000000) :
  ∃ t : Tag, p_spec_l71Tag (b, p) = some (t, p + 2) ∧ t.1.size = 1 ∧ t.2.size = 1 := by
 obtain ⟨x, e1, m1⟩ := d_of b p [(⟨#[97]⟩ : ByteArray), (⟨#[98]⟩ : ByteArray), (⟨#[99]⟩ : ByteArray)] hb h0 (by omega) (by decide) (by decide)
 obtain ⟨y, e2, m2⟩ := d_of b (p + 1) [(⟨#[112]⟩ : ByteArray), (⟨#[113]⟩ : ByteArray), (⟨#[122]⟩ : ByteArray)] hb (by omega) (by omega) (by decide) (by decide)
 refine ⟨(x, y), ?_, ?_, ?_⟩
 ·unfold p_spec_l71Tag
  rw [bd.yes e1, bd.yes e2, show p + 1 + 1 = p + 2 by omega]
 ·simp only [List.mem_cons, List.not_mem_nil, or_false] at m1
  rcases m1 with rfl | rfl | rfl <;> rfl
 ·simp only [List.mem_cons, List.not_mem_nil, or_false] at m2
  rcases m2 with rfl | rfl | rfl <;> rfl
def smallN (n : List Tag) : Prop := n.length ≤ 5 ∧ ∀ t ∈ n, t.1.size ≤ 2 ∧ t.2.size ≤ 2
theorem smallN_snoc {n : List Tag} {t : Tag} (h : n.length ≤ 4) (h2 : ∀ t ∈ n, t.1.size ≤ 2 ∧ t.2.size ≤ 2) (ht : t.1.size ≤ 2 ∧ t.2.size ≤ 2) : smallN (n ++ [t]) :=
 ⟨by rw [List.length_append, List.length_singleton]; omega, fun u hu => by
  rcases List.mem_append.1 hu with hu | hu
  ·exact h2 u hu
  ·rw [List.mem_singleton.1 hu]; exact ht⟩
theorem smallN_set {n : List Tag} {t : Tag} {k : Nat} (h : n.length ≤ 5) (h2 : ∀ t ∈ n, t.1.size ≤ 2 ∧ t.2.size ≤ 2) (ht : t.1.size ≤ 2 ∧ t.2.size ≤ 2) : smallN (n.set k t) :=
 ⟨by rw [List.length_set]; exact h, fun u hu => by
  rcases List.mem_or_eq_of_mem_set hu with hu | rfl
  ·exact h2 u hu
  ·exact ht⟩
theorem d_nameLoop (b : List UInt8) (hb : b.length ≤ 2000) (q : Int) (p : Int) (h0 : 0 ≤ p) (h1 : p + 10 ≤ 1000000) :
  ∃ n p', lp (p_spec_l71Name_b0 (b, q)) (p, ([] : List Tag), 0) = some (p', n) ∧ p ≤ p' ∧ p' ≤ p + 6 ∧ n.length ≤ 3 ∧ ∀ t ∈ n, t.1.size ≤ 2 ∧ t.2.size ≤ 2 := by
 have key : ∀ r : Nat, r ≤ 3 → ∀ (k : Nat), k + r = 3 → ∀ (p1 : Int) (n : List Tag), 0 ≤ p1 → p1 + 2 * r ≤ 1000000 → n.length ≤ k → (∀ t ∈ n, t.1.size ≤ 2 ∧ t.2.size ≤ 2) →
   ∃ n' p', lp (p_spec_l71Name_b0 (b, q)) (p1, n, (k : Int)) = some (p', n') ∧ p1 ≤ p' ∧ p' ≤ p1 + 2 * r ∧ n'.length ≤ 3 ∧ ∀ t ∈ n', t.1.size ≤ 2 ∧ t.2.size ≤ 2 := by
  intro r
  induction r with
  | zero =>
   intro _ k hk p1 n q0 q1 hn ht
   refine ⟨n, p1, lp.stop ?_, by omega, by omega, by omega, ht⟩
   unfold p_spec_l71Name_b0
   have : k = 3 := by omega
   subst this; rfl
  | succ r ih =>
   intro hr k hk p1 n q0 q1 hn ht
   obtain ⟨x, e1, a1, b1⟩ := d_pick b p1 2 hb q0 (by omega) (by decide)
   obtain ⟨y, e2, m2⟩ := d_of b (p1 + 1) [(⟨#[112]⟩ : ByteArray), (⟨#[113]⟩ : ByteArray), (⟨#[122]⟩ : ByteArray)] hb (by omega) (by omega) (by decide) (by decide)
   have hk3 : k < ([(⟨#[97]⟩ : ByteArray), (⟨#[98]⟩ : ByteArray), (⟨#[99]⟩ : ByteArray)] : List ByteArray).length := by show k < 3; omega
   have hy : y.size ≤ 2 := by
    simp only [List.mem_cons, List.not_mem_nil, or_false] at m2
    rcases m2 with rfl | rfl | rfl <;> decide
   have hx : (nth ([(⟨#[97]⟩ : ByteArray), (⟨#[98]⟩ : ByteArray), (⟨#[99]⟩ : ByteArray)] : List ByteArray) k).size ≤ 2 := by
    have := nth_mem hk3
    simp only [List.mem_cons, List.not_mem_nil, or_false] at this
    rcases this with h | h | h <;> rw [h] <;> decide
   by_cases hz : x = 0
   ·have step : p_spec_l71Name_b0 (b, q) (p1, n, (k : Int)) = some (.inl (p1 + 1 + 1, n ++ [(nth ([(⟨#[97]⟩ : ByteArray), (⟨#[98]⟩ : ByteArray), (⟨#[99]⟩ : ByteArray)] : List ByteArray) k, y)], ((k + 1 : Nat) : Int))) := by
     unfold p_spec_l71Name_b0
     rw [dlt hk3, cond_true, gd.yes (ixN hk3), bd.yes e1, decide_eq_true hz, cond_true, bd.yes e2, gd.yes (show room (n.length + 1) by unfold room; omega), gd.yes (show I64 ((k : Int) + 1) by unfold I64; omega), addI]
     rfl
    rw [lp.step step]
    obtain ⟨n', p', g1, g2, g3, g4, g5⟩ := ih (by omega) (k + 1) (by omega) (p1 + 1 + 1) (n ++ [(nth ([(⟨#[97]⟩ : ByteArray), (⟨#[98]⟩ : ByteArray), (⟨#[99]⟩ : ByteArray)] : List ByteArray) k, y)]) (by omega) (by omega) (by rw [List.length_append, List.length_singleton]; omega) (fun u hu => by
     rcases List.mem_append.1 hu with hu | hu
     ·exact ht u hu
     ·rw [List.mem_singleton.1 hu]; exact ⟨hx, hy⟩)
    exact ⟨n', p', g1, by omega, by omega, g4, g5⟩
   ·have step : p_spec_l71Name_b0 (b, q) (p1, n, (k : Int)) = some (.inl (p1 + 1, n, ((k + 1 : Nat) : Int))) := by
     unfold p_spec_l71Name_b0
     rw [dlt hk3, cond_true, gd.yes (ixN hk3), bd.yes e1, decide_eq_false hz, cond_false, gd.yes (show I64 ((k : Int) + 1) by unfold I64; omega), addI]
    rw [lp.step step]
    obtain ⟨n', p', g1, g2, g3, g4, g5⟩ := ih (by omega) (k + 1) (by omega) (p1 + 1) n (by omega) (by omega) (by omega) ht
    exact ⟨n', p', g1, by omega, by omega, g4, g5⟩
 obtain ⟨n', p', g1, g2, g3, g4, g5⟩ := key 3 (Nat.le_refl _) 0 rfl p [] h0 (by omega) (Nat.zero_le _) (fun _ h => nomatch h)
 exact ⟨n', p', g1, g2, by omega, g4, g5⟩
theorem d_l71Name (b : List UInt8) (p : Int) (hb : b.length ≤ 2000) (h0 : 0 ≤ p) (h1 : p + 16 ≤ 1000000) :
  ∃ n p', p_spec_l71Name (b, p) = some (n, p') ∧ p ≤ p' ∧ p' ≤ p + 16 ∧ smallN n := by
 obtain ⟨n, p1, e, a1, a2, hl, ht⟩ := d_nameLoop b hb p p h0 (by omega)
 have fin : ∀ (m : List Tag) (q : Int), 1 ≤ m.length → m.length ≤ 4 → (∀ t ∈ m, t.1.size ≤ 2 ∧ t.2.size ≤ 2) → 0 ≤ q → q + 8 ≤ 1000000 → ∃ n p', (bd (p_spec_l6Rd_pick (b, q) 40) fun r42 => cond (decide (r42.1 = 0)) (bd (p_spec_l71Tag (b, r42.2)) fun r46 => gd (room (m.length + 1)) <| some (m ++ [r46.1], r46.2)) (cond (decide (r42.1 = 1)) (gd (ix 0 m.length) <| bd (p_spec_l6Rd_of (b, r42.2) ([(⟨#[]⟩ : ByteArray), (⟨#[111]⟩ : ByteArray), (⟨#[112, 112]⟩ : ByteArray)] : List ByteArray)) fun r58 => some (m.set 0 (((nth m 0).1), r58.1), r58.2)) (some (m, r42.2)))) = some (n, p') ∧ q ≤ p' ∧ p' ≤ q + 8 ∧ smallN n := by
  intro m q m1 m2 mt q0 q1
  obtain ⟨x, e1, _, _⟩ := d_pick b q 40 hb q0 (by omega) (by decide)
  rw [bd.yes e1]
  by_cases hx : x = 0
  ·obtain ⟨t, e2, s1, s2⟩ := d_l71Tag b (q + 1) hb (by omega) (by omega)
   rw [decide_eq_true hx, cond_true, bd.yes e2, gd.yes (by unfold room; omega)]
   exact ⟨m ++ [t], _, rfl, by omega, by omega, smallN_snoc m2 mt ⟨by omega, by omega⟩⟩
  ·rw [decide_eq_false hx, cond_false]
   by_cases hx1 : x = 1
   ·obtain ⟨y, e2, m3⟩ := d_of b (q + 1) [(⟨#[]⟩ : ByteArray), (⟨#[111]⟩ : ByteArray), (⟨#[112, 112]⟩ : ByteArray)] hb (by omega) (by omega) (by decide) (by decide)
    have hy : y.size ≤ 2 := by
     simp only [List.mem_cons, List.not_mem_nil, or_false] at m3
     rcases m3 with rfl | rfl | rfl <;> decide
    rw [decide_eq_true hx1, cond_true, gd.yes (by unfold ix; omega), bd.yes e2]
    exact ⟨_, _, rfl, by omega, by omega, smallN_set (by omega) mt ⟨(mt _ (nth_mem (by omega))).1, hy⟩⟩
   ·rw [decide_eq_false hx1, cond_false]
    exact ⟨_, _, rfl, by omega, by omega, by omega, mt⟩
 unfold p_spec_l71Name
 rw [bd.yes e]
 by_cases hz : n.length = 0
 ·obtain ⟨t, e2, s1, s2⟩ := d_l71Tag b p1 hb (by omega) (by omega)
  rw [decide_eq_true (show (n.length : Int) = 0 by omega), cond_true, bd.yes e2, gd.yes (show room (n.length + 1) by unfold room; omega)]
  obtain ⟨n', p', g1, g2, g3, g4⟩ := fin (n ++ [t]) (p1 + 2) (by rw [List.length_append, List.length_singleton]; omega) (by rw [List.length_append, List.length_singleton]; omega) (smallN_snoc (by omega) ht ⟨by omega, by omega⟩).2 (by omega) (by omega)
  exact ⟨n', p', g1, by omega, by omega, g4⟩
 ·rw [decide_eq_false (show ¬ (n.length : Int) = 0 by omega), cond_false]
  obtain ⟨n', p', g1, g2, g3, g4⟩ := fin n p1 (by omega) (by omega) ht (by omega) (by omega)
  exact ⟨n', p', g1, by omega, by omega, g4⟩
theorem smallN_w {n : List Tag} (h : smallN n) : Wt.w n ≤ 25 := by
 have := sumN_c (f := fun i => (nth n i).1.size + (nth n i).2.size) (c := 4) (n := n.length) fun i hi => by
  have := h.2 _ (nth_mem hi)
  show (nth n i).1.size + (nth n i).2.size ≤ 4
  omega
 have := h.1
 rw [w_name]; omega
theorem smallN_good {n : List Tag} (h : nameOk n = true) : smallN n :=
 ⟨by have := (nameOk_len h).2; omega, fun t ht => by have := tagB_one (nameOk_tags h t ht); rw [this.1, this.2]; exact ⟨by decide, by decide⟩⟩
structure smallX (x : Index) : Prop where
 n : x.1.length ≤ 7
 s : ∀ n ∈ x.1, smallN n
 p : x.2.length ≤ 30
 i : ∀ p ∈ x.2, p.2.length ≤ 7
theorem smallNs_w {names : List (List Tag)} (h : names.length ≤ 7) (h2 : ∀ n ∈ names, smallN n) : Wt.w names ≤ 4194304 := by
 have := sumN_c (f := fun i => Wt.w (nth names i)) (c := 25) (n := names.length) fun i hi => smallN_w (h2 _ (nth_mem hi))
 have e : Wt.w names = names.length + sumN names.length fun i => Wt.w (nth names i) := rfl
 omega
theorem smallX_w {x : Index} (h : smallX x) : Wt.w x.1 ≤ 4194304 ∧ postsW x.2 :=
 ⟨smallNs_w h.n h.s, by have := h.p; omega, fun k hk => by have := h.i _ (nth_mem hk); omega⟩
def drawn (names : List (List Tag)) : Prop := goodN names ∧ names.length ≤ 6
theorem drawn_small {names : List (List Tag)} (h : drawn names) : smallX (indexP names) := by
 have hC := canon_posts (goodN_dist h.1)
 have hl := h.2
 have hs : sumL (indexP names).2 = sumN names.length fun i => (nth names i).length := by
  rw [← sumL_posts]
  exact sumL_perm (List.mergeSort_perm _ _)
 have hs2 := goodN_sum h.1
 have hle := sumL_ne fun p hp => (hC.ids p hp).2
 refine ⟨by show names.length ≤ 7; omega, fun n hn => ?_, by omega, fun p hp => ?_⟩
 ·obtain ⟨i, hi, rfl⟩ := List.mem_iff_getElem.1 (show n ∈ names from hn)
  rw [← nth_eq names i hi]
  exact smallN_good (h.1 i hi)
 ·have := idsN_len names p.1 names.length
  rw [(hC.ids p hp).1]; omega
theorem d_l11At (x : Index) (n : List Tag) (hw : Wt.w x.1 ≤ 4194304) (hn : Wt.w n ≤ 4194304) : ∃ r : Int, p_spec_l11At x n = some r ∧ 0 ≤ r := by
 obtain ⟨h1, h2, h3⟩ := w_names hw
 have hr : ∀ k, k < x.1.length → p_spec_l11At_b0 x n (k : Int) = some (if decide (textN (nth x.1 k) = textN n) then .inr (.inr ((k + 1 : Nat) : Int)) else .inl ((k + 1 : Nat) : Int)) := fun k hk => by
  unfold p_spec_l11At_b0
  rw [dlt hk, cond_true, gd.yes (ixN hk)]
  simp only [Int.toNat_natCast]
  rw [bd.yes (e_spec_l3Text _ (h2 _ (nth_mem hk)).2), bd.yes (e_spec_l3Text n hn), addI]
  cases decide (textN (nth x.1 k) = textN n) with
  | true => rw [cond_true, gd.yes (by unfold I64; omega)]; rfl
  | false => rw [cond_false, gd.yes (by unfold I64; omega)]; rfl
 unfold p_spec_l11At
 rcases lp_scan (body := p_spec_l11At_b0 x n) (fun k => (k : Int)) x.1.length (fun k => decide (textN (nth x.1 k) = textN n)) (.inl ()) (fun k => .inr ((k + 1 : Nat) : Int)) (fun k hk _ h => by rw [hr k hk, h]; rfl) (fun k hk _ h => by rw [hr k hk, if_pos h]) (fun _ => by unfold p_spec_l11At_b0; rw [decide_eq_false (show ¬ ((x.1.length : Int) < (x.1.length : Int)) by omega)]; rfl) with ⟨_, a2⟩ | ⟨_, k, _, _, _, a2⟩
 ·rw [show (lp (p_spec_l11At_b0 x n) 0) = _ from a2]; exact ⟨0, rfl, Int.le_refl _⟩
 ·rw [show (lp (p_spec_l11At_b0 x n) 0) = _ from a2]; exact ⟨_, rfl, by omega⟩
theorem d_l11Add {names : List (List Tag)} (h : drawn names) (n : List Tag) (hn : smallN n) : ∃ names' i ok, p_spec_l11Add (indexP names) n = some (indexP names', i, ok) ∧ drawn names' := by
 have hx := drawn_small h
 obtain ⟨hw, _⟩ := smallX_w hx
 have hwn := smallN_w hn
 have hnl := hn.1
 have h6 := h.2
 have hlen := goodN_len h.1
 obtain ⟨r, e, hr⟩ := d_l11At (indexP names) n hw (by omega)
 have ex : (indexP names).1 = names := rfl
 unfold p_spec_l11Add
 rw [bd.yes e]
 by_cases h0 : 0 < r
 ·rw [decide_eq_true h0, cond_true]
  exact ⟨names, r, true, rfl, h⟩
 ·rw [decide_eq_false h0, cond_false, bd.yes (e_spec_NameOk n (by unfold maxLen; omega))]
  cases hok : nameOk n with
  | false => exact ⟨names, 0, false, rfl, h⟩
  | true =>
   rw [Bool.not_true, cond_false, bd_some, ex]
   by_cases e6 : names.length = 6
   ·rw [decide_eq_true (show (6 : Int) ≤ (names.length : Int) by omega), cond_true]
    exact ⟨names, 0, false, rfl, h⟩
   ·have hgs := good_snoc h.1 hok
    have hls : (names ++ [n]).length ≤ 6 := by rw [List.length_append, List.length_singleton]; omega
    rw [decide_eq_false (show ¬ (6 : Int) ≤ (names.length : Int) by omega), cond_false, bd.yes (e_spec_l11Names names (by omega) (fun m hm => by have := hlen m hm; omega)), gd.yes (by rw [List.length_nil]; unfold room; omega), gd.yes (by unfold room; omega), List.nil_append, bd.yes (e_spec_l11Of hgs (by omega) (fun m hm => by have := goodN_len hgs m hm; omega))]
    exact ⟨names ++ [n], _, _, rfl, hgs, hls⟩
theorem indexP_nil : indexP [] = (([], []) : Index) := by
 unfold indexP
 show (([] : List (List Tag)), ([] : List Post).mergeSort leP) = _
 rw [List.mergeSort_nil]
theorem drawn_nil : drawn [] := ⟨fun _ hk => absurd hk (Nat.not_lt_zero _), Nat.zero_le _⟩
theorem d_indexLoop (b : List UInt8) (hb : b.length ≤ 2000) (q : Int) : ∀ (m : Nat), m ≤ 9 → ∀ (p : Int) (names : List (List Tag)), drawn names → 0 ≤ p → p + 16 * m ≤ 1000000 →
  ∃ p' names', lp (p_spec_l71Index_b0 (b, q)) (p, (indexP names).1, (indexP names).2, (m : Int)) = some (p', (indexP names').1, (indexP names').2) ∧ p ≤ p' ∧ p' ≤ p + 16 * m ∧ drawn names' := by
 intro m
 induction m with
 | zero =>
  intro _ p names h h0 h1
  refine ⟨p, names, lp.stop ?_, by omega, by omega, h⟩
  unfold p_spec_l71Index_b0
  rfl
 | succ m ih =>
  intro hm p names h h0 h1
  obtain ⟨n, p1, e1, a1, a2, hs⟩ := d_l71Name b p hb h0 (by omega)
  obtain ⟨names1, i, ok, e2, h2⟩ := d_l11Add h n hs
  have step : p_spec_l71Index_b0 (b, q) (p, (indexP names).1, (indexP names).2, ((m + 1 : Nat) : Int)) = some (.inl (p1, (indexP names1).1, (indexP names1).2, (m : Int))) := by
   unfold p_spec_l71Index_b0
   rw [decide_eq_true (show (0 : Int) < ((m + 1 : Nat) : Int) by omega), cond_true, bd.yes e1, bd.yes e2, gd.yes (show I64 (((m + 1 : Nat) : Int) - 1) by unfold I64; omega), show ((m + 1 : Nat) : Int) - 1 = (m : Int) by omega]
  rw [lp.step step]
  obtain ⟨p', names', g1, g2, g3, g4⟩ := ih (by omega) p1 names1 h2 (by omega) (by omega)
  exact ⟨p', names', g1, by omega, by omega, g4⟩
theorem d_l71Index (b : List UInt8) (p : Int) (hb : b.length ≤ 2000) (h0 : 0 ≤ p) (h1 : p + 200 ≤ 1000000) :
  ∃ x p', p_spec_l71Index (b, p) = some (x, p') ∧ p ≤ p' ∧ p' ≤ p + 200 ∧ smallX x := by
 obtain ⟨m, e1, a1, b1⟩ := d_pick b p 9 hb h0 (by omega) (by decide)
 have b1 := b1 (by decide)
 obtain ⟨p2, names, e2, a2, b2, hd⟩ := d_indexLoop b hb p m.toNat (by omega) (p + 1) [] drawn_nil (by omega) (by omega)
 rw [indexP_nil, show ((m.toNat : Nat) : Int) = m by omega] at e2
 obtain ⟨k, e3, a3, b3⟩ := d_pick b p2 24 hb (by omega) (by omega) (by decide)
 have hx := drawn_small hd
 have hp := hx.p
 have hn6 : (indexP names).1.length ≤ 6 := hd.2
 unfold p_spec_l71Index
 rw [bd.yes (show p_spec_l11New = some (([], []) : Index) from rfl), bd.yes e1, bd.yes e2, bd.yes e3]
 by_cases hk : k = 0
 ·obtain ⟨n, p4, e4, a4, b4, hs⟩ := d_l71Name b (p2 + 1) hb (by omega) (by omega)
  rw [decide_eq_true hk, cond_true, bd.yes e4, gd.yes (show room ((indexP names).1.length + 1) by unfold room; omega)]
  refine ⟨_, _, rfl, by omega, by omega, ⟨?_, fun u hu => ?_, hp, hx.i⟩⟩
  ·show ((indexP names).1 ++ [n]).length ≤ 7
   rw [List.length_append, List.length_singleton]; omega
  ·rcases List.mem_append.1 (show u ∈ (indexP names).1 ++ [n] from hu) with hu | hu
   ·exact hx.s u hu
   ·rw [List.mem_singleton.1 hu]; exact hs
 ·rw [decide_eq_false hk, cond_false]
  by_cases hk1 : k = 1
  ·rw [decide_eq_true hk1, cond_true]
   by_cases hz : 0 < (indexP names).2.length
   ·obtain ⟨i, e4, a4, b4⟩ := d_pick b (p2 + 1) ((indexP names).2.length : Int) hb (by omega) (by omega) (by omega)
    have b4 := b4 (by omega)
    obtain ⟨j, e5, a5, b5⟩ := d_pick b (p2 + 1 + 1) 3 hb (by omega) (by omega) (by decide)
    have b5 := b5 (by decide)
    rw [decide_eq_true (show (0 : Int) < ((indexP names).2.length : Int) by omega), cond_true, bd.yes e4, bd.yes e5, gd.yes (show I64 (1 + j) by unfold I64; omega), gd.yes (show ix i (indexP names).2.length by unfold ix; omega)]
    refine ⟨_, _, rfl, by omega, by omega, ⟨hx.n, hx.s, ?_, fun u hu => ?_⟩⟩
    ·show ((indexP names).2.set _ _).length ≤ 30
     rw [List.length_set]; exact hp
    ·rcases List.mem_or_eq_of_mem_set (show u ∈ (indexP names).2.set _ _ from hu) with hu | rfl
     ·exact hx.i u hu
     ·show ([1 + j] : List Int).length ≤ 7; simp
   ·rw [decide_eq_false (show ¬ (0 : Int) < ((indexP names).2.length : Int) by omega), cond_false]
    exact ⟨_, _, rfl, by omega, by omega, hx⟩
  ·rw [decide_eq_false hk1, cond_false]
   by_cases hk2 : k = 2
   ·rw [decide_eq_true hk2, cond_true]
    by_cases hz : 0 < (indexP names).2.length
    ·rw [decide_eq_true (show (0 : Int) < ((indexP names).2.length : Int) by omega), cond_true, gd.yes (show sl2 1 ((indexP names).2.length : Int) (indexP names).2.length by unfold sl2; omega)]
     refine ⟨_, _, rfl, by omega, by omega, ⟨hx.n, hx.s, ?_, fun u hu => ?_⟩⟩
     ·show ((((indexP names).2.take _).drop 1)).length ≤ 30
      rw [List.length_drop, List.length_take]; omega
     ·exact hx.i u (List.mem_of_mem_take (List.mem_of_mem_drop (show u ∈ ((indexP names).2.take _).drop 1 from hu)))
    ·rw [decide_eq_false (show ¬ (0 : Int) < ((indexP names).2.length : Int) by omega), cond_false]
     exact ⟨_, _, rfl, by omega, by omega, hx⟩
   ·rw [decide_eq_false hk2, cond_false]
    exact ⟨_, _, rfl, by omega, by omega, hx⟩
theorem bd_swl {α β γ : Type} {f : α → Option γ} {g : β → Option γ} {e : α} : bd (some (.inl e)) (sw f g) = f e := rfl
theorem d_DrawIndexOk (c : List UInt8) : ∃ x : Index, p_spec_DrawIndexOk c = some x ∧ x.1.length ≤ 7 ∧ (∀ n ∈ x.1, smallN n) ∧ Wt.w x.1 ≤ 4194304 ∧ postsW x.2 := by
 obtain ⟨b, e0, hb⟩ := d_l6Open c
 obtain ⟨x, p1, e1, a1, b1, hx⟩ := d_l71Index b 0 hb (by decide) (by decide)
 obtain ⟨w1, w2⟩ := smallX_w hx
 obtain ⟨k, e2, a2, b2⟩ := d_pick b p1 6 hb (by omega) (by omega) (by decide)
 have hp30 := hx.p
 unfold p_spec_DrawIndexOk
 rw [bd.yes e0, bd.yes e1, bd.yes e2]
 by_cases hk : k = 0
 ·obtain ⟨t, e3, s1, s2⟩ := d_l71Tag b (p1 + 1) hb (by omega) (by omega)
  rw [decide_eq_true hk, cond_true, bd.yes e3, gd.yes (show room (x.2.length + 1) by unfold room; omega)]
  refine ⟨_, rfl, hx.n, hx.s, w1, ?_, fun i hi => ?_⟩
  ·show (x.2 ++ [_]).length ≤ _
   rw [List.length_append, List.length_singleton]; omega
  ·rcases List.mem_append.1 (nth_mem (l := x.2 ++ [(t, ([1] : List Int))]) hi) with h | h
   ·have := hx.i _ h
    show (nth (x.2 ++ [(t, ([1] : List Int))]) i).2.length ≤ _
    omega
   ·show (nth (x.2 ++ [(t, ([1] : List Int))]) i).2.length ≤ _
    rw [List.mem_singleton.1 h, List.length_singleton]; omega
 ·rw [decide_eq_false hk, cond_false]
  exact ⟨x, rfl, hx.n, hx.s, w1, w2⟩
end Go.Proofs.Ytichamokohjneaa
