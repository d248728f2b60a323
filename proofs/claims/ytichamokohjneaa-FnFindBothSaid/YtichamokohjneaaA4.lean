/- The walks and the plain laws, part 4: each function that the law reaches computes what its plain function tells, and what the plain functions answer. Conditions: lengths that memory can hold. -/
import Derived.Test.YtichamokohjneaaA3
namespace Go.Proofs.Ytichamokohjneaa
open Go Go.Sx
noncomputable def p_impl_indexOf_b1 (v0 : (List (List Tag))) (Q13 : (List Post) × Int) (Q27 : (List Post) × Int) : Option (((List Post) × Int) ⊕ ((List Post))) := cond (decide (Q27.2 < ((nth v0 Q13.2.toNat).length : Int))) (gd (ix Q27.2 (nth v0 Q13.2.toNat).length) <| bd (p_slices_IndexFunc_Post_Post_indexOf_1 Q27.1 (nth (nth v0 Q13.2.toNat) Q27.2.toNat)) fun r38 => cond (decide (r38 < 0)) (gd (room (Q27.1.length + 1)) <| gd (ix (Q27.1.length : Int) (Q27.1 ++ [((nth (nth v0 Q13.2.toNat) Q27.2.toNat), ([]))]).length) <| gd (I64 (Q13.2 + 1)) <| gd (room (((nth (Q27.1 ++ [((nth (nth v0 Q13.2.toNat) Q27.2.toNat), ([]))]) ((Q27.1.length : Int).toNat)).2).length + 1)) <| gd (I64 (Q27.2 + 1)) <| some (.inl (((Q27.1 ++ [((nth (nth v0 Q13.2.toNat) Q27.2.toNat), ([]))]).set ((Q27.1.length : Int).toNat) (((nth (Q27.1 ++ [((nth (nth v0 Q13.2.toNat) Q27.2.toNat), ([]))]) ((Q27.1.length : Int).toNat)).1), (((nth (Q27.1 ++ [((nth (nth v0 Q13.2.toNat) Q27.2.toNat), ([]))]) ((Q27.1.length : Int).toNat)).2) ++ [Q13.2 + 1]))), Q27.2 + 1))) (gd (ix r38 Q27.1.length) <| gd (I64 (Q13.2 + 1)) <| gd (room (((nth Q27.1 r38.toNat).2).length + 1)) <| gd (I64 (Q27.2 + 1)) <| some (.inl ((Q27.1.set r38.toNat (((nth Q27.1 r38.toNat).1), (((nth Q27.1 r38.toNat).2) ++ [Q13.2 + 1]))), Q27.2 + 1)))) (some (.inr Q27.1))
noncomputable def p_impl_indexOf_b0 (v0 : (List (List Tag))) (Q13 : (List Post) × Int) : Option (((List Post) × Int) ⊕ ((List Post))) := cond (decide (Q13.2 < (v0.length : Int))) (gd (ix Q13.2 v0.length) <| bd (lp (p_impl_indexOf_b1 v0 Q13) (Q13.1, 0)) fun x23 => gd (I64 (Q13.2 + 1)) <| some (.inl (x23, Q13.2 + 1))) (some (.inr Q13.1))
noncomputable def p_impl_indexOf (v0 : (List (List Tag))) : Option (Index) := bd (p_impl_cloneNames v0) fun r3 => bd (lp (p_impl_indexOf_b0 v0) (([] : List Post), 0)) fun x9 => bd (p_slices_SortFunc_Post_Post_indexOf_2 x9) fun r62 => some (r3, r62)
theorem c_impl_indexOf {r : Index} (v0 : (List (List Tag))) (x_v0 : Option Addr × Nat) (H : p_impl_indexOf v0 = some r) : Fn' Try.prog 65 #[.slice x_v0.1 v0.length x_v0.2] [imm (.slice x_v0.1 v0.length x_v0.2) v0] [] (ι := (Option Addr × Nat) × (Option Addr × Nat)) (fun x => .agg #[.slice x.1.1 r.1.length x.1.2, .slice x.2.1 r.2.length x.2.2]) (fun _ => []) (fun x => [tree (.slice x.1.1 r.1.length x.1.2) r.1, tree (.slice x.2.1 r.2.length x.2.2) r.2]) := by
 refine calls_of (args := [_]) Try.func65 rfl (by kernel_rfl) Try.ntmps65 (by simp) fun c => ?_
 unfold p_impl_indexOf at H
 refine Tr.openD Ent.z fun X1 => ?_
 refine Tr.seq (Tr.region ?_)
 refine Rg.ed (e_alloc ty26) rfl (by decide) ?_
 rintro _ _ _ ⟨g2, rfl, rfl, rfl⟩
 refine Rg.nl (nT ?_)
 refine Tr.seq (Tr.region ?_)
 refine Rg.q (v := .slice x_v0.1 v0.length x_v0.2) (Pu.qo (p_move rfl)) (by decide) ?_
 obtain ⟨r3, h4, H⟩ := bd.of H
 refine Rg.ed (e_callB (vs := [.slice x_v0.1 v0.length x_v0.2]) (c_impl_cloneNames v0 x_v0 h4) (fun _ => (Solo.tree Solo.nil)) rfl (EntsB.cons (Ent.b (Ent.dimm Ent.z)) EntsB.nil)) rfl (by decide) ?_
 rintro _ _ _ ⟨x5, rfl, rfl, rfl⟩
 refine Rg.ed (e_lit0 Post Try.underlying24 ty33) rfl (by decide) ?_
 rintro _ _ _ ⟨a6, c7, rfl, rfl, rfl⟩
 refine Rg.q (v := .agg #[.slice x5.1 r3.length x5.2, .slice a6 (([] : List Post).length) c7]) (Pu.qo (p_buildS (vs := [(0, .slice x5.1 r3.length x5.2), (1, .slice a6 (([] : List Post).length) c7)]) (cs := #[.slice x5.1 r3.length x5.2, .slice a6 (([] : List Post).length) c7]) ty26 pl26 rfl rfl)) (by decide) ?_
 refine Rg.ed (e_alloc ty26) rfl (by decide) ?_
 rintro _ _ _ ⟨g8, rfl, rfl, rfl⟩
 refine Rg.en (e_store (v := .agg #[.slice x5.1 r3.length x5.2, .slice a6 (([] : List Post).length) c7]) (cs' := [.slice x5.1 r3.length x5.2, .slice a6 (([] : List Post).length) c7]) ty26 rfl rfl Upd.here rfl (by simp [Value.cells, Value.oneCell']) (Nat.le_of_ble_eq_true rfl) rfl) rfl ?_
 rintro _ _ _ ⟨rfl, rfl, rfl⟩
 refine Rg.nl (nT ?_)
 refine Tr.seq (Tr.seq (Tr.region ?_))
 refine Rg.q (v := .slice x_v0.1 v0.length x_v0.2) (Pu.qo (p_move rfl)) (by decide) ?_
 refine Rg.q (v := .int .i64 ((v0.length : Int))) (Pu.qo (p_len 38 Try.underlying23 rfl)) (by decide) ?_
 refine Rg.q (v := .int .i64 (0)) (Pu.qo (p_move rfl)) (by decide) (Rg.nl (nT ?_))
 obtain ⟨x9, hx10, H⟩ := bd.of H
 obtain ⟨n11, hx10⟩ := lp.of hx10
 refine tMidNC (ι := Option Addr × Nat) (fun ψ => [(2, .pointer (some ⟨g2, 0, none⟩)), (3, .pointer (some ⟨g8, 0, none⟩))]) (fun ψ => [box g2 26 [.slice none 0 0, .slice none 0 0], tree (.slice x5.1 r3.length x5.2) r3, tree (.slice ψ.1 x9.length ψ.2) x9, box g8 26 [.slice x5.1 r3.length x5.2, .slice ψ.1 x9.length ψ.2]]) ?_ ?_
 ·refine Tr.block ?_
  refine tLoopC (ι := { q : Nat × ((List Post) × Int) × (Option Addr × Nat) // itr (p_impl_indexOf_b0 v0) q.1 q.2.1 = some x9 }) (fun ζ => [(2, .pointer (some ⟨g2, 0, none⟩)), (3, .pointer (some ⟨g8, 0, none⟩)), (13, .slice x_v0.1 v0.length x_v0.2), (14, .int .i64 ((v0.length : Int))), (15, .int .i64 (ζ.1.2.1.2))]) (fun ζ => [box g2 26 [.slice none 0 0, .slice none 0 0], tree (.slice x5.1 r3.length x5.2) r3, tree (.slice ζ.1.2.2.1 ζ.1.2.1.1.length ζ.1.2.2.2) ζ.1.2.1.1, box g8 26 [.slice x5.1 r3.length x5.2, .slice ζ.1.2.2.1 ζ.1.2.1.1.length ζ.1.2.2.2]]) (fun ζ => ζ.1.1) ⟨(n11, (([] : List Post), 0), (a6, c7)), hx10⟩ ⟨rfl, rfl, rfl, rfl, rfl, trivial⟩ (.cons Del.here.there.there.there (.cons Del.here.there.there (.cons Del.here.there (.cons Del.here .nil)))) ?_
  rintro ⟨⟨m12, Q13, z14⟩, hk19⟩
  obtain ⟨m20, t16, e, H1, hi17, hb18⟩ := itr.of (n := m12) (s := Q13) hk19
  subst e; unfold p_impl_indexOf_b0 at H1
  show Tr _ _ _ _ _ [(2, .pointer (some ⟨g2, 0, none⟩)), (3, .pointer (some ⟨g8, 0, none⟩)), (13, .slice x_v0.1 v0.length x_v0.2), (14, .int .i64 ((v0.length : Int))), (15, .int .i64 (Q13.2))] _ [box g2 26 [.slice none 0 0, .slice none 0 0], tree (.slice x5.1 r3.length x5.2) r3, tree (.slice z14.1 Q13.1.length z14.2) Q13.1, box g8 26 [.slice x5.1 r3.length x5.2, .slice z14.1 Q13.1.length z14.2]]
  refine Tr.seq (Tr.region ?_)
  refine Rg.q (v := .bool (decide (Q13.2 < (v0.length : Int)))) (Pu.qo (p_lss rfl rfl)) (by decide) (Rg.nl (nT ?_))
  refine Tr.seq ?_
  refine Tr.cond (b := decide (Q13.2 < (v0.length : Int))) rfl (fun h21 => ?_) (fun h21 => ?_)
  ·have H1 := cdT h21 H1
   refine tSkip ?_
   refine nT (Tr.seq ?_)
   refine Tr.block ?_
   refine Tr.seq (Tr.region ?_)
   refine Rg.q (v := .int .i64 (Q13.2)) (Pu.qo (p_move rfl)) (by decide) ?_
   obtain ⟨h22, H1⟩ := gd.of H1
   refine Rg.q (v := elp x_v0.1 (Q13.2.toNat * Enc.sz (List Tag) + 0)) (q_ixg (l := v0) (E := fun i => Dp.denc (nth v0 i) (X1 i)) (oa := x_v0.1) Try.underlying23 ty38 rfl rfl h22 rfl (Ent.b (Ent.darr Ent.z))) (by decide) ?_
   refine Rg.q (v := .slice ((X1 Q13.2.toNat).1) ((nth v0 Q13.2.toNat).length) ((X1 Q13.2.toNat).2.1)) (q_lde (l := v0) (E := fun i => Dp.denc (nth v0 i) (X1 i)) (oa := x_v0.1) (i := Q13.2.toNat) (j := 0) ty38 rfl (Ent.b (Ent.darr Ent.z)) h22.lt rfl) (by decide) ?_
   refine Rg.q (v := .int .i64 (Q13.2)) (Pu.qo (p_assign rfl)) (by decide) ?_
   refine Rg.q (v := .slice ((X1 Q13.2.toNat).1) ((nth v0 Q13.2.toNat).length) ((X1 Q13.2.toNat).2.1)) (Pu.qo (p_assign rfl)) (by decide) (Rg.nl (nT ?_))
   refine Tr.seq (Tr.region ?_)
   refine Rg.q (v := .slice ((X1 Q13.2.toNat).1) ((nth v0 Q13.2.toNat).length) ((X1 Q13.2.toNat).2.1)) (Pu.qo (p_move rfl)) (by decide) ?_
   refine Rg.q (v := .int .i64 (((nth v0 Q13.2.toNat).length : Int))) (Pu.qo (p_len 30 Try.underlying38 rfl)) (by decide) ?_
   refine Rg.q (v := .int .i64 (0)) (Pu.qo (p_move rfl)) (by decide) (Rg.nl (nT ?_))
   obtain ⟨x23, hx24, H1⟩ := bd.of H1
   obtain ⟨n25, hx24⟩ := lp.of hx24
   refine tMidNC (ι := Option Addr × Nat) (fun ψ => [(2, .pointer (some ⟨g2, 0, none⟩)), (3, .pointer (some ⟨g8, 0, none⟩)), (13, .slice x_v0.1 v0.length x_v0.2), (14, .int .i64 ((v0.length : Int))), (15, .int .i64 (Q13.2))]) (fun ψ => [box g2 26 [.slice none 0 0, .slice none 0 0], tree (.slice x5.1 r3.length x5.2) r3, tree (.slice ψ.1 x23.length ψ.2) x23, box g8 26 [.slice x5.1 r3.length x5.2, .slice ψ.1 x23.length ψ.2]]) ?_ ?_
   ·refine Tr.block ?_
    refine tLoopC (ι := { q : Nat × ((List Post) × Int) × (Option Addr × Nat) // itr (p_impl_indexOf_b1 v0 Q13) q.1 q.2.1 = some x23 }) (fun ζ => [(2, .pointer (some ⟨g2, 0, none⟩)), (3, .pointer (some ⟨g8, 0, none⟩)), (4, .int .i64 (Q13.2)), (13, .slice x_v0.1 v0.length x_v0.2), (14, .int .i64 ((v0.length : Int))), (15, .int .i64 (Q13.2)), (20, .slice ((X1 Q13.2.toNat).1) ((nth v0 Q13.2.toNat).length) ((X1 Q13.2.toNat).2.1)), (21, .int .i64 (((nth v0 Q13.2.toNat).length : Int))), (22, .int .i64 (ζ.1.2.1.2))]) (fun ζ => [box g2 26 [.slice none 0 0, .slice none 0 0], tree (.slice x5.1 r3.length x5.2) r3, tree (.slice ζ.1.2.2.1 ζ.1.2.1.1.length ζ.1.2.2.2) ζ.1.2.1.1, box g8 26 [.slice x5.1 r3.length x5.2, .slice ζ.1.2.2.1 ζ.1.2.1.1.length ζ.1.2.2.2]]) (fun ζ => ζ.1.1) ⟨(n25, (Q13.1, 0), (z14.1, z14.2)), hx24⟩ ⟨rfl, rfl, rfl, rfl, rfl, rfl, rfl, rfl, rfl, trivial⟩ (.cons Del.here (.cons Del.here (.cons Del.here (.cons Del.here .nil)))) ?_
    rintro ⟨⟨m26, Q27, z28⟩, hk33⟩
    obtain ⟨m34, t30, e, H2, hi31, hb32⟩ := itr.of (n := m26) (s := Q27) hk33
    subst e; unfold p_impl_indexOf_b1 at H2
    show Tr _ _ _ _ _ [(2, .pointer (some ⟨g2, 0, none⟩)), (3, .pointer (some ⟨g8, 0, none⟩)), (4, .int .i64 (Q13.2)), (13, .slice x_v0.1 v0.length x_v0.2), (14, .int .i64 ((v0.length : Int))), (15, .int .i64 (Q13.2)), (20, .slice ((X1 Q13.2.toNat).1) ((nth v0 Q13.2.toNat).length) ((X1 Q13.2.toNat).2.1)), (21, .int .i64 (((nth v0 Q13.2.toNat).length : Int))), (22, .int .i64 (Q27.2))] _ [box g2 26 [.slice none 0 0, .slice none 0 0], tree (.slice x5.1 r3.length x5.2) r3, tree (.slice z28.1 Q27.1.length z28.2) Q27.1, box g8 26 [.slice x5.1 r3.length x5.2, .slice z28.1 Q27.1.length z28.2]]
    refine Tr.seq (Tr.region ?_)
    refine Rg.q (v := .bool (decide (Q27.2 < ((nth v0 Q13.2.toNat).length : Int)))) (Pu.qo (p_lss rfl rfl)) (by decide) (Rg.nl (nT ?_))
    refine Tr.seq ?_
    refine Tr.cond (b := decide (Q27.2 < ((nth v0 Q13.2.toNat).length : Int))) rfl (fun h35 => ?_) (fun h35 => ?_)
    ·have H2 := cdT h35 H2
     refine tSkip ?_
     refine nT (Tr.seq ?_)
     refine Tr.block ?_
     refine Tr.seq (Tr.region ?_)
     obtain ⟨h36, H2⟩ := gd.of H2
     refine Rg.q (v := elp ((X1 Q13.2.toNat).1) (Q27.2.toNat * Enc.sz Tag + 0)) (q_ixg (l := nth v0 Q13.2.toNat) (E := fun i => Flat.enc (nth (nth v0 Q13.2.toNat) i)) (oa := (X1 Q13.2.toNat).1) Try.underlying38 ty30 rfl rfl h36 rfl (EntB.flat (Ent.b (Ent.dimm (Ent.del Ent.z h22.lt))))) (by decide) ?_
     refine Rg.q (v := .agg #[.string ((nth (nth v0 Q13.2.toNat) Q27.2.toNat).1), .string ((nth (nth v0 Q13.2.toNat) Q27.2.toNat).2)]) (q_ldeA (l := nth v0 Q13.2.toNat) (E := fun i => Flat.enc (nth (nth v0 Q13.2.toNat) i)) (oa := (X1 Q13.2.toNat).1) (i := Q27.2.toNat) ty30 rfl (EntB.flat (Ent.b (Ent.dimm (Ent.del Ent.z h22.lt)))) h36.lt) (by decide) ?_
     refine Rg.ed (e_alloc ty30) rfl (by decide) ?_
     rintro _ _ _ ⟨g37, rfl, rfl, rfl⟩
     refine Rg.en (e_store (v := .agg #[.string ((nth (nth v0 Q13.2.toNat) Q27.2.toNat).1), .string ((nth (nth v0 Q13.2.toNat) Q27.2.toNat).2)]) (cs' := [.string ((nth (nth v0 Q13.2.toNat) Q27.2.toNat).1), .string ((nth (nth v0 Q13.2.toNat) Q27.2.toNat).2)]) ty30 rfl rfl Upd.here rfl (by simp [Value.cells, Value.oneCell']) (Nat.le_of_ble_eq_true rfl) rfl) rfl ?_
     rintro _ _ _ ⟨rfl, rfl, rfl⟩
     refine Rg.nl (nT ?_)
     refine Tr.seq (Tr.region ?_)
     refine Rg.q (v := .pointer (some ⟨g8, 1, none⟩)) (Pu.qo (p_fabE fa26_1 rfl rfl)) (by decide) ?_
     refine Rg.q (v := .slice z28.1 Q27.1.length z28.2) (q_ldb ty24 rfl Has.here.there.there.there.there rfl) (by decide) ?_
     refine Rg.q (v := .func (.func 112) #[] #[.pointer (some ⟨g37, 0, none⟩)]) (Pu.qo (p_mkfunc (vs := [.pointer (some ⟨g37, 0, none⟩)]) rfl rfl)) (by decide) ?_
     obtain ⟨r38, h39, H2⟩ := bd.of H2
     refine Rg.q (v := .int .i64 (r38)) (q_callC (vs := [.slice z28.1 Q27.1.length z28.2, .func (.func 112) #[] #[.pointer (some ⟨g37, 0, none⟩)]]) (c_slices_IndexFunc_Post_Post_indexOf_1 Q27.1 z28 g37 (nth (nth v0 Q13.2.toNat) Q27.2.toNat) h39) (Solo.box Solo.nil) rfl (.cons Del.here .nil) (EntsB.cons (EntB.tree Has.here.there.there) EntsB.nil)) (by decide) ?_
     refine Rg.q (v := .int .i64 (r38)) (Pu.qo (p_assign rfl)) (by decide) (Rg.nl (nT ?_))
     refine Tr.seq (Tr.seq (Tr.region ?_))
     refine Rg.q (v := .int .i64 (r38)) (Pu.qo (p_move rfl)) (by decide) ?_
     refine Rg.q (v := .bool (decide (r38 < 0))) (Pu.qo (p_lss rfl rfl)) (by decide) (Rg.nl (nT ?_))
     refine Tr.cond (b := decide (r38 < 0)) rfl (fun h40 => ?_) (fun h40 => ?_)
     ·have H2 := cdT h40 H2
      refine Tr.seq (Tr.region ?_)
      refine Rg.q (v := .pointer (some ⟨g8, 1, none⟩)) (Pu.qo (p_fabE fa26_1 rfl rfl)) (by decide) ?_
      refine Rg.q (v := .slice z28.1 Q27.1.length z28.2) (q_ldb ty24 rfl Has.here.there.there.there.there rfl) (by decide) ?_
      refine Rg.q (v := .int .i64 ((Q27.1.length : Int))) (Pu.qo (p_len 33 Try.underlying24 rfl)) (by decide) ?_
      refine Rg.q (v := .int .i64 ((Q27.1.length : Int))) (Pu.qo (p_assign rfl)) (by decide) (Rg.nl (nT ?_))
      refine Tr.nilT Int ?_
      refine Tr.region ?_
      refine Rg.q (v := .pointer (some ⟨g8, 1, none⟩)) (Pu.qo (p_fabE fa26_1 rfl rfl)) (by decide) ?_
      refine Rg.q (v := .slice z28.1 Q27.1.length z28.2) (q_ldb ty24 rfl Has.here.there.there.there.there.there rfl) (by decide) ?_
      refine Rg.q (v := .agg #[.string ((nth (nth v0 Q13.2.toNat) Q27.2.toNat).1), .string ((nth (nth v0 Q13.2.toNat) Q27.2.toNat).2)]) (q_ldbA ty30 rfl Has.here.there rfl) (by decide) ?_
      refine Rg.q (v := .agg #[.string ((nth (nth v0 Q13.2.toNat) Q27.2.toNat).1), .string ((nth (nth v0 Q13.2.toNat) Q27.2.toNat).2), .slice none 0 0]) (Pu.qo (p_buildS (vs := [(0, .agg #[.string ((nth (nth v0 Q13.2.toNat) Q27.2.toNat).1), .string ((nth (nth v0 Q13.2.toNat) Q27.2.toNat).2)])]) (cs := #[.string ((nth (nth v0 Q13.2.toNat) Q27.2.toNat).1), .string ((nth (nth v0 Q13.2.toNat) Q27.2.toNat).2), .slice none 0 0]) ty33 pl33 rfl rfl)) (by decide) ?_
      refine Rg.ed (e_lit (vs := [(0, .agg #[.string ((nth (nth v0 Q13.2.toNat) Q27.2.toNat).1), .string ((nth (nth v0 Q13.2.toNat) Q27.2.toNat).2), .slice none 0 0])]) [.string ((nth (nth v0 Q13.2.toNat) Q27.2.toNat).1), .string ((nth (nth v0 Q13.2.toNat) Q27.2.toNat).2), .slice none 0 0] Try.underlying24 ty33 rfl (by decide) (by decide) (by kernel_rfl)) rfl (by decide) ?_
      rintro _ _ _ ⟨g41, rfl, rfl, rfl⟩
      obtain ⟨h44, H2⟩ := gd.of H2
      refine Rg.ed (e_app1 (l := Q27.1) (α := Post) ((nth (nth v0 Q13.2.toNat) Q27.2.toNat), ([])) (((), ()), (none, 0)) Try.underlying24 ty33 rfl rfl (h44.b (by decide)) h44.x rfl (ShpT.wfa _) (.cons Del.here.there.there.there.there.there (.cons Del.here (.cons Del.here .nil)))) rfl (by decide) ?_
      rintro _ _ _ ⟨a42, c43, rfl, rfl, rfl⟩
      refine Rg.q (v := .pointer (some ⟨g8, 1, none⟩)) (Pu.qo (p_fabE fa26_1 rfl rfl)) (by decide) ?_
      refine Rg.en (e_store (v := .slice a42 ((Q27.1 ++ [((nth (nth v0 Q13.2.toNat) Q27.2.toNat), ([]))]).length) c43) (cs' := [.slice x5.1 r3.length x5.2, .slice a42 ((Q27.1 ++ [((nth (nth v0 Q13.2.toNat) Q27.2.toNat), ([]))]).length) c43]) ty24 rfl rfl Upd.here.there.there.there.there rfl (by simp [Value.cells, Value.oneCell']) (Nat.le_of_ble_eq_true rfl) rfl) rfl ?_
      rintro _ _ _ ⟨rfl, rfl, rfl⟩
      refine Rg.nl (nT ?_)
      obtain ⟨h45, H2⟩ := gd.of H2
      refine Tr.zoom (k := (Q27.1.length : Int).toNat) h45.lt (.cons Del.here .nil) fun x46 => ?_
      show Tr _ _ _ _ _ _ _ (hole (.slice a42 ((Q27.1 ++ [((nth (nth v0 Q13.2.toNat) Q27.2.toNat), ([]))]).length) c43) (Q27.1 ++ [((nth (nth v0 Q13.2.toNat) Q27.2.toNat), ([]))]) ((Q27.1.length : Int).toNat) [.string (((nth (Q27.1 ++ [((nth (nth v0 Q13.2.toNat) Q27.2.toNat), ([]))]) ((Q27.1.length : Int).toNat)).1).1), .string (((nth (Q27.1 ++ [((nth (nth v0 Q13.2.toNat) Q27.2.toNat), ([]))]) ((Q27.1.length : Int).toNat)).1).2), .slice x46.2.1 (((nth (Q27.1 ++ [((nth (nth v0 Q13.2.toNat) Q27.2.toNat), ([]))]) ((Q27.1.length : Int).toNat)).2).length) x46.2.2] :: tree (.slice x46.2.1 (((nth (Q27.1 ++ [((nth (nth v0 Q13.2.toNat) Q27.2.toNat), ([]))]) ((Q27.1.length : Int).toNat)).2).length) x46.2.2) ((nth (Q27.1 ++ [((nth (nth v0 Q13.2.toNat) Q27.2.toNat), ([]))]) ((Q27.1.length : Int).toNat)).2) :: _)
      refine tNwS [(8, .int .i64 ((Q27.1.length : Int))), (2, .pointer (some ⟨g2, 0, none⟩)), (3, .pointer (some ⟨g8, 0, none⟩)), (4, .int .i64 (Q13.2)), (13, .slice x_v0.1 v0.length x_v0.2), (14, .int .i64 ((v0.length : Int))), (15, .int .i64 (Q13.2)), (20, .slice ((X1 Q13.2.toNat).1) ((nth v0 Q13.2.toNat).length) ((X1 Q13.2.toNat).2.1)), (21, .int .i64 (((nth v0 Q13.2.toNat).length : Int))), (22, .int .i64 (Q27.2))] 1 [0, 1, 2, 3, 4, 5, 6, 7, 8, 9, 10, 11, 12, 13, 14, 15] [11, 12, 15] [] Try.mixed (by kernel_rfl) (by decide) List.nodup_nil ⟨rfl, rfl, rfl, rfl, rfl, rfl, rfl, rfl, rfl, rfl, trivial⟩ rfl okNil ?_
      refine w_pu (v := .pointer (some ⟨g8, 1, none⟩)) rfl (by decide) rfl rfl rfl (p_fabE fa26_1 rfl rfl) ?_
      refine w_q (v := .slice a42 ((Q27.1 ++ [((nth (nth v0 Q13.2.toNat) Q27.2.toNat), ([]))]).length) c43) rfl (by decide) rfl rfl rfl (fun F => (q_ldb ty24 rfl (Has.here.there.there.there.there.there.app F) rfl)) ?_
      refine w_pu (v := .int .i64 ((Q27.1.length : Int))) rfl (by decide) rfl rfl rfl (p_move rfl) ?_
      refine w_pu (v := .pointer (some ⟨g8, 1, none⟩)) rfl (by decide) rfl rfl rfl (p_fabE fa26_1 rfl rfl) ?_
      refine w_q (v := .slice a42 ((Q27.1 ++ [((nth (nth v0 Q13.2.toNat) Q27.2.toNat), ([]))]).length) c43) rfl (by decide) rfl rfl rfl (fun F => (q_ldb ty24 rfl (Has.here.there.there.there.there.there.app F) rfl)) ?_
      refine w_pu (v := .int .i64 ((Q27.1.length : Int))) rfl (by decide) rfl rfl rfl (p_move rfl) ?_
      refine w_q (v := elp a42 (((Q27.1.length : Int).toNat) * Enc.sz Post + 0)) rfl (by decide) rfl rfl rfl (fun F => (q_ixH (k := (Q27.1.length : Int).toNat) Try.underlying24 ty33 rfl rfl h45 rfl (Has.here.app F))) ?_
      refine w_q (v := elp a42 (((Q27.1.length : Int).toNat) * Enc.sz Post + 2)) rfl (by decide) rfl rfl rfl (fun F => (q_faH (j := 0) (i := (Q27.1.length : Int).toNat) fa33_1 rfl (Has.here.app F) rfl)) ?_
      refine w_q (v := .slice x46.2.1 (((nth (Q27.1 ++ [((nth (nth v0 Q13.2.toNat) Q27.2.toNat), ([]))]) ((Q27.1.length : Int).toNat)).2).length) x46.2.2) rfl (by decide) rfl rfl rfl (fun F => (q_ldH (i := (Q27.1.length : Int).toNat) (j := 2) ty31 rfl (Has.here.app F) rfl)) ?_
      refine w_pu (v := .int .i64 (Q13.2)) rfl (by decide) rfl rfl rfl (p_move rfl) ?_
      obtain ⟨h47, H2⟩ := gd.of H2
      refine w_pu (v := .int .i64 (Q13.2 + 1)) rfl (by decide) rfl rfl rfl (p_add rfl rfl h47) ?_
      refine w_ed rfl (by decide) rfl Rdy.nil rfl (n_lit (vs := [(0, .int .i64 (Q13.2 + 1))]) [.int .i64 (Q13.2 + 1)] Try.underlying31 ty3 rfl (by decide) (by decide) (by kernel_rfl)) ?_
      rintro _ _ _ ⟨g48, rfl, rfl, rfl⟩
      refine ⟨(PdOk.q rfl rfl (fun F => (q_ldH (i := (Q27.1.length : Int).toNat) (j := 2) ty31 rfl (Has.here.there.app F) rfl)) (PdOk.q rfl rfl (fun F => (q_faH (j := 0) (i := (Q27.1.length : Int).toNat) fa33_1 rfl (Has.here.there.app F) rfl)) (PdOk.q rfl rfl (fun F => (q_ixH (k := (Q27.1.length : Int).toNat) Try.underlying24 ty33 rfl rfl h45 rfl (Has.here.there.app F))) (PdOk.q rfl rfl (fun F => (q_ldb ty24 rfl (Has.here.there.there.there.there.there.there.app F) rfl)) (PdOk.q rfl rfl (fun F => (q_ldb ty24 rfl (Has.here.there.there.there.there.there.there.app F) rfl)) PdOk.nil))))), ?_⟩
      obtain ⟨h51, H2⟩ := gd.of H2
      refine w_ed rfl (by decide) rfl Rdy.nil rfl (n_app1 (l := (nth (Q27.1 ++ [((nth (nth v0 Q13.2.toNat) Q27.2.toNat), ([]))]) ((Q27.1.length : Int).toNat)).2) (α := Int) (Q13.2 + 1) () Try.underlying31 ty3 rfl rfl (h51.b (by decide)) h51.x rfl (ShpT.wfa _) (.cons Del.here.there.there (.cons Del.here .nil))) ?_
      rintro _ _ _ ⟨a49, c50, rfl, rfl, rfl⟩
      refine ⟨(PdOk.anc (by kernel_rfl) (PdOk.q rfl rfl (fun F => (q_faH (j := 0) (i := (Q27.1.length : Int).toNat) fa33_1 rfl (Has.here.there.app F) rfl)) (PdOk.q rfl rfl (fun F => (q_ixH (k := (Q27.1.length : Int).toNat) Try.underlying24 ty33 rfl rfl h45 rfl (Has.here.there.app F))) (PdOk.q rfl rfl (fun F => (q_ldb ty24 rfl (Has.here.there.there.there.there.there.app F) rfl)) (PdOk.q rfl rfl (fun F => (q_ldb ty24 rfl (Has.here.there.there.there.there.there.app F) rfl)) PdOk.nil))))), ?_⟩
      refine w_q (v := elp a42 (((Q27.1.length : Int).toNat) * Enc.sz Post + 0)) rfl (by decide) rfl rfl rfl (fun F => (q_ixH (k := (Q27.1.length : Int).toNat) Try.underlying24 ty33 rfl rfl h45 rfl (Has.here.there.app F))) ?_
      refine w_q (v := elp a42 (((Q27.1.length : Int).toNat) * Enc.sz Post + 2)) rfl (by decide) rfl rfl rfl (fun F => (q_faH (j := 0) (i := (Q27.1.length : Int).toNat) fa33_1 rfl (Has.here.there.app F) rfl)) ?_
      refine w_en rfl rfl Rdy.nil rfl (n_stH (v := .slice a49 ((((nth (Q27.1 ++ [((nth (nth v0 Q13.2.toNat) Q27.2.toNat), ([]))]) ((Q27.1.length : Int).toNat)).2) ++ [Q13.2 + 1]).length) c50) (i := (Q27.1.length : Int).toNat) (j := 2) (cs' := [.string (((nth (Q27.1 ++ [((nth (nth v0 Q13.2.toNat) Q27.2.toNat), ([]))]) ((Q27.1.length : Int).toNat)).1).1), .string (((nth (Q27.1 ++ [((nth (nth v0 Q13.2.toNat) Q27.2.toNat), ([]))]) ((Q27.1.length : Int).toNat)).1).2), .slice a49 ((((nth (Q27.1 ++ [((nth (nth v0 Q13.2.toNat) Q27.2.toNat), ([]))]) ((Q27.1.length : Int).toNat)).2) ++ [Q13.2 + 1]).length) c50]) ty31 rfl rfl (.cons Del.here.there .nil) rfl (by simp [Value.cells, Value.oneCell']) (Nat.le_of_ble_eq_true rfl) rfl rfl) ?_
      rintro _ _ _ ⟨rfl, rfl, rfl⟩
      refine ⟨(PdOk.anc (by kernel_rfl) (PdOk.q rfl rfl (fun F => (q_ixH (k := (Q27.1.length : Int).toNat) Try.underlying24 ty33 rfl rfl h45 rfl (Has.here.app F))) (PdOk.anc (by kernel_rfl) (PdOk.anc (by kernel_rfl) (PdOk.anc (by kernel_rfl) (PdOk.anc (by kernel_rfl) (PdOk.anc (by kernel_rfl) PdOk.nil))))))), ?_⟩
      refine w_nil ?_
      show At _ _ _ _ _ _
      refine nB (nT (?_))
      refine Tr.region ?_
      obtain ⟨h52, H2⟩ := gd.of H2
      refine Rg.q (v := .int .i64 (Q27.2 + 1)) (Pu.qo (p_add rfl rfl h52)) (by decide) ?_
      refine Rg.q (v := .int .i64 (Q27.2 + 1)) (Pu.qo (p_move rfl)) (by decide) (Rg.nl ?_)
      refine At.unzoom (((nth (Q27.1 ++ [((nth (nth v0 Q13.2.toNat) Q27.2.toNat), ([]))]) ((Q27.1.length : Int).toNat)).1), (((nth (Q27.1 ++ [((nth (nth v0 Q13.2.toNat) Q27.2.toNat), ([]))]) ((Q27.1.length : Int).toNat)).2) ++ [Q13.2 + 1])) (((), ()), (a49, c50)) rfl (.cons Del.here (.cons Del.here .nil)) ?_
      refine At.olen Has.here fun hn => ?_; rw [hn]
      exact nLC ⟨(m34, (((Q27.1 ++ [((nth (nth v0 Q13.2.toNat) Q27.2.toNat), ([]))]).set ((Q27.1.length : Int).toNat) (((nth (Q27.1 ++ [((nth (nth v0 Q13.2.toNat) Q27.2.toNat), ([]))]) ((Q27.1.length : Int).toNat)).1), (((nth (Q27.1 ++ [((nth (nth v0 Q13.2.toNat) Q27.2.toNat), ([]))]) ((Q27.1.length : Int).toNat)).2) ++ [Q13.2 + 1]))), Q27.2 + 1), (a42, c43)), hi31 _ (Option.some.inj H2).symm⟩ (Nat.lt_succ_self _) ⟨rfl, rfl, rfl, rfl, rfl, rfl, rfl, rfl, rfl, trivial⟩ Ents.refl (.cons Del.here.there.there (.cons Del.here.there.there (.cons Del.here (.cons Del.here.there .nil))))
     ·have H2 := cdF h40 H2
      refine tSkip ?_
      refine nT (?_)
      obtain ⟨h53, H2⟩ := gd.of H2
      refine Tr.zoom (k := r38.toNat) h53.lt (.cons Del.here.there.there.there .nil) fun x54 => ?_
      show Tr _ _ _ _ _ _ _ (hole (.slice z28.1 Q27.1.length z28.2) Q27.1 r38.toNat [.string (((nth Q27.1 r38.toNat).1).1), .string (((nth Q27.1 r38.toNat).1).2), .slice x54.2.1 (((nth Q27.1 r38.toNat).2).length) x54.2.2] :: tree (.slice x54.2.1 (((nth Q27.1 r38.toNat).2).length) x54.2.2) ((nth Q27.1 r38.toNat).2) :: _)
      refine tNwS [(8, .int .i64 (r38)), (2, .pointer (some ⟨g2, 0, none⟩)), (3, .pointer (some ⟨g8, 0, none⟩)), (4, .int .i64 (Q13.2)), (13, .slice x_v0.1 v0.length x_v0.2), (14, .int .i64 ((v0.length : Int))), (15, .int .i64 (Q13.2)), (20, .slice ((X1 Q13.2.toNat).1) ((nth v0 Q13.2.toNat).length) ((X1 Q13.2.toNat).2.1)), (21, .int .i64 (((nth v0 Q13.2.toNat).length : Int))), (22, .int .i64 (Q27.2))] 1 [0, 1, 2, 3, 4, 5, 6, 7, 8, 9, 10, 11, 12, 13, 14, 15] [11, 12, 15] [] Try.mixed (by kernel_rfl) (by decide) List.nodup_nil ⟨rfl, rfl, rfl, rfl, rfl, rfl, rfl, rfl, rfl, rfl, trivial⟩ rfl okNil ?_
      refine w_pu (v := .pointer (some ⟨g8, 1, none⟩)) rfl (by decide) rfl rfl rfl (p_fabE fa26_1 rfl rfl) ?_
      refine w_q (v := .slice z28.1 Q27.1.length z28.2) rfl (by decide) rfl rfl rfl (fun F => (q_ldb ty24 rfl (Has.here.there.there.there.there.there.app F) rfl)) ?_
      refine w_pu (v := .int .i64 (r38)) rfl (by decide) rfl rfl rfl (p_move rfl) ?_
      refine w_pu (v := .pointer (some ⟨g8, 1, none⟩)) rfl (by decide) rfl rfl rfl (p_fabE fa26_1 rfl rfl) ?_
      refine w_q (v := .slice z28.1 Q27.1.length z28.2) rfl (by decide) rfl rfl rfl (fun F => (q_ldb ty24 rfl (Has.here.there.there.there.there.there.app F) rfl)) ?_
      refine w_pu (v := .int .i64 (r38)) rfl (by decide) rfl rfl rfl (p_move rfl) ?_
      refine w_q (v := elp z28.1 (r38.toNat * Enc.sz Post + 0)) rfl (by decide) rfl rfl rfl (fun F => (q_ixH (k := r38.toNat) Try.underlying24 ty33 rfl rfl h53 rfl (Has.here.app F))) ?_
      refine w_q (v := elp z28.1 (r38.toNat * Enc.sz Post + 2)) rfl (by decide) rfl rfl rfl (fun F => (q_faH (j := 0) (i := r38.toNat) fa33_1 rfl (Has.here.app F) rfl)) ?_
      refine w_q (v := .slice x54.2.1 (((nth Q27.1 r38.toNat).2).length) x54.2.2) rfl (by decide) rfl rfl rfl (fun F => (q_ldH (i := r38.toNat) (j := 2) ty31 rfl (Has.here.app F) rfl)) ?_
      refine w_pu (v := .int .i64 (Q13.2)) rfl (by decide) rfl rfl rfl (p_move rfl) ?_
      obtain ⟨h55, H2⟩ := gd.of H2
      refine w_pu (v := .int .i64 (Q13.2 + 1)) rfl (by decide) rfl rfl rfl (p_add rfl rfl h55) ?_
      refine w_ed rfl (by decide) rfl Rdy.nil rfl (n_lit (vs := [(0, .int .i64 (Q13.2 + 1))]) [.int .i64 (Q13.2 + 1)] Try.underlying31 ty3 rfl (by decide) (by decide) (by kernel_rfl)) ?_
      rintro _ _ _ ⟨g56, rfl, rfl, rfl⟩
      refine ⟨(PdOk.q rfl rfl (fun F => (q_ldH (i := r38.toNat) (j := 2) ty31 rfl (Has.here.there.app F) rfl)) (PdOk.q rfl rfl (fun F => (q_faH (j := 0) (i := r38.toNat) fa33_1 rfl (Has.here.there.app F) rfl)) (PdOk.q rfl rfl (fun F => (q_ixH (k := r38.toNat) Try.underlying24 ty33 rfl rfl h53 rfl (Has.here.there.app F))) (PdOk.q rfl rfl (fun F => (q_ldb ty24 rfl (Has.here.there.there.there.there.there.there.app F) rfl)) (PdOk.q rfl rfl (fun F => (q_ldb ty24 rfl (Has.here.there.there.there.there.there.there.app F) rfl)) PdOk.nil))))), ?_⟩
      obtain ⟨h59, H2⟩ := gd.of H2
      refine w_ed rfl (by decide) rfl Rdy.nil rfl (n_app1 (l := (nth Q27.1 r38.toNat).2) (α := Int) (Q13.2 + 1) () Try.underlying31 ty3 rfl rfl (h59.b (by decide)) h59.x rfl (ShpT.wfa _) (.cons Del.here.there.there (.cons Del.here .nil))) ?_
      rintro _ _ _ ⟨a57, c58, rfl, rfl, rfl⟩
      refine ⟨(PdOk.anc (by kernel_rfl) (PdOk.q rfl rfl (fun F => (q_faH (j := 0) (i := r38.toNat) fa33_1 rfl (Has.here.there.app F) rfl)) (PdOk.q rfl rfl (fun F => (q_ixH (k := r38.toNat) Try.underlying24 ty33 rfl rfl h53 rfl (Has.here.there.app F))) (PdOk.q rfl rfl (fun F => (q_ldb ty24 rfl (Has.here.there.there.there.there.there.app F) rfl)) (PdOk.q rfl rfl (fun F => (q_ldb ty24 rfl (Has.here.there.there.there.there.there.app F) rfl)) PdOk.nil))))), ?_⟩
      refine w_q (v := elp z28.1 (r38.toNat * Enc.sz Post + 0)) rfl (by decide) rfl rfl rfl (fun F => (q_ixH (k := r38.toNat) Try.underlying24 ty33 rfl rfl h53 rfl (Has.here.there.app F))) ?_
      refine w_q (v := elp z28.1 (r38.toNat * Enc.sz Post + 2)) rfl (by decide) rfl rfl rfl (fun F => (q_faH (j := 0) (i := r38.toNat) fa33_1 rfl (Has.here.there.app F) rfl)) ?_
      refine w_en rfl rfl Rdy.nil rfl (n_stH (v := .slice a57 ((((nth Q27.1 r38.toNat).2) ++ [Q13.2 + 1]).length) c58) (i := r38.toNat) (j := 2) (cs' := [.string (((nth Q27.1 r38.toNat).1).1), .string (((nth Q27.1 r38.toNat).1).2), .slice a57 ((((nth Q27.1 r38.toNat).2) ++ [Q13.2 + 1]).length) c58]) ty31 rfl rfl (.cons Del.here.there .nil) rfl (by simp [Value.cells, Value.oneCell']) (Nat.le_of_ble_eq_true rfl) rfl rfl) ?_
      rintro _ _ _ ⟨rfl, rfl, rfl⟩
      refine ⟨(PdOk.anc (by kernel_rfl) (PdOk.q rfl rfl (fun F => (q_ixH (k := r38.toNat) Try.underlying24 ty33 rfl rfl h53 rfl (Has.here.app F))) (PdOk.anc (by kernel_rfl) (PdOk.anc (by kernel_rfl) (PdOk.anc (by kernel_rfl) (PdOk.anc (by kernel_rfl) (PdOk.anc (by kernel_rfl) PdOk.nil))))))), ?_⟩
      refine w_nil ?_
      show At _ _ _ _ _ _
      refine nB (nT (?_))
      refine Tr.region ?_
      obtain ⟨h60, H2⟩ := gd.of H2
      refine Rg.q (v := .int .i64 (Q27.2 + 1)) (Pu.qo (p_add rfl rfl h60)) (by decide) ?_
      refine Rg.q (v := .int .i64 (Q27.2 + 1)) (Pu.qo (p_move rfl)) (by decide) (Rg.nl ?_)
      refine At.unzoom (((nth Q27.1 r38.toNat).1), (((nth Q27.1 r38.toNat).2) ++ [Q13.2 + 1])) (((), ()), (a57, c58)) rfl (.cons Del.here (.cons Del.here .nil)) ?_
      refine At.olen Has.here fun hn => ?_; rw [hn]
      exact nLC ⟨(m34, ((Q27.1.set r38.toNat (((nth Q27.1 r38.toNat).1), (((nth Q27.1 r38.toNat).2) ++ [Q13.2 + 1]))), Q27.2 + 1), (z28.1, z28.2)), hi31 _ (Option.some.inj H2).symm⟩ (Nat.lt_succ_self _) ⟨rfl, rfl, rfl, rfl, rfl, rfl, rfl, rfl, rfl, trivial⟩ Ents.refl (.cons Del.here.there.there (.cons Del.here.there.there (.cons Del.here (.cons Del.here.there .nil))))
    ·have H2 := cdF h35 H2
     refine tExit (xT (xT (xE (?_))))
     have hx := hb32 _ (Option.some.inj H2).symm; subst hx
     exact nMC (z28.1, z28.2) ⟨rfl, rfl, rfl, rfl, rfl, trivial⟩ Ents.refl (.cons Del.here (.cons Del.here (.cons Del.here (.cons Del.here .nil))))
   ·intro y29
    show At _ _ [(2, .pointer (some ⟨g2, 0, none⟩)), (3, .pointer (some ⟨g8, 0, none⟩)), (13, .slice x_v0.1 v0.length x_v0.2), (14, .int .i64 ((v0.length : Int))), (15, .int .i64 (Q13.2))] _ [box g2 26 [.slice none 0 0, .slice none 0 0], tree (.slice x5.1 r3.length x5.2) r3, tree (.slice y29.1 x23.length y29.2) x23, box g8 26 [.slice x5.1 r3.length x5.2, .slice y29.1 x23.length y29.2]] _
    refine nB (nT (?_))
    refine Tr.region ?_
    obtain ⟨h61, H1⟩ := gd.of H1
    refine Rg.q (v := .int .i64 (Q13.2 + 1)) (Pu.qo (p_add rfl rfl h61)) (by decide) ?_
    refine Rg.q (v := .int .i64 (Q13.2 + 1)) (Pu.qo (p_move rfl)) (by decide) (Rg.nl ?_)
    exact nLC ⟨(m20, (x23, Q13.2 + 1), (y29.1, y29.2)), hi17 _ (Option.some.inj H1).symm⟩ (Nat.lt_succ_self _) ⟨rfl, rfl, rfl, rfl, rfl, trivial⟩ Ents.refl (.cons Del.here (.cons Del.here (.cons Del.here (.cons Del.here .nil))))
  ·have H1 := cdF h21 H1
   refine tExit (xT (xT (xE (?_))))
   have hx := hb18 _ (Option.some.inj H1).symm; subst hx
   exact nMC (z14.1, z14.2) ⟨rfl, rfl, trivial⟩ Ents.refl (.cons Del.here (.cons Del.here (.cons Del.here (.cons Del.here .nil))))
 ·intro y15
  show At _ _ [(2, .pointer (some ⟨g2, 0, none⟩)), (3, .pointer (some ⟨g8, 0, none⟩))] _ [box g2 26 [.slice none 0 0, .slice none 0 0], tree (.slice x5.1 r3.length x5.2) r3, tree (.slice y15.1 x9.length y15.2) x9, box g8 26 [.slice x5.1 r3.length x5.2, .slice y15.1 x9.length y15.2]] _
  refine nT (?_)
  refine Tr.seq (Tr.region ?_)
  refine Rg.q (v := .pointer (some ⟨g8, 1, none⟩)) (Pu.qo (p_fabE fa26_1 rfl rfl)) (by decide) ?_
  refine Rg.q (v := .slice y15.1 x9.length y15.2) (q_ldb ty24 rfl Has.here.there.there.there rfl) (by decide) ?_
  obtain ⟨r62, h63, H⟩ := bd.of H
  refine Rg.ed (e_callM (vs := [.slice y15.1 x9.length y15.2, .func (.func 114) #[] #[]]) (c_slices_SortFunc_Post_Post_indexOf_2 x9 y15 x9.length rfl h63) (Solo.tree Solo.nil) (fun _ => (Solo.tree Solo.nil)) rfl (.cons Del.here.there.there .nil) EntsB.nil) rfl (by decide) ?_
  rintro _ _ _ ⟨u64, rfl, rfl, rfl⟩
  refine Rg.nl (nT ?_)
  refine Tr.seq ?_
  refine Tr.olen Has.here fun hn => ?_; rw [hn]
  refine Tr.region ?_
  refine Rg.q (v := .agg #[.slice x5.1 r3.length x5.2, .slice y15.1 r62.length y15.2]) (q_ldbA ty26 rfl Has.here.there.there.there rfl) (by decide) ?_
  refine Rg.en (e_store (v := .agg #[.slice x5.1 r3.length x5.2, .slice y15.1 r62.length y15.2]) (cs' := [.slice x5.1 r3.length x5.2, .slice y15.1 r62.length y15.2]) ty26 rfl rfl Upd.here.there rfl (by simp [Value.cells, Value.oneCell']) (Nat.le_of_ble_eq_true rfl) rfl) rfl ?_
  rintro _ _ _ ⟨rfl, rfl, rfl⟩
  refine Rg.nl (nT ?_)
  refine tRet ?_
  have hr := Option.some.inj H; subst hr
  exact back1 (x5, y15) rfl (ResV.agg ty26 rfl Has.here.there rfl) rfl Ents.nil (.cons Del.here.there.there (.cons Del.here .nil))
noncomputable def p_slices_Equal_int_int_b0 (v0 : (List Int)) (v1 : (List Int)) (Q6 : Int) : Option ((Int) ⊕ (Unit ⊕ Bool)) := cond (decide (Q6 < (v0.length : Int))) (gd (ix Q6 v0.length) <| gd (ix Q6 v1.length) <| cond (!decide ((nth v0 Q6.toNat) = (nth v1 Q6.toNat))) (some (.inr (.inr false))) (gd (I64 (Q6 + 1)) <| some (.inl (Q6 + 1)))) (some (.inr (.inl ())))
noncomputable def p_slices_Equal_int_int (v0 : (List Int)) (v1 : (List Int)) : Option (Bool) := cond (!decide ((v0.length : Int) = (v1.length : Int))) (some false) (bd (lp (p_slices_Equal_int_int_b0 v0 v1) 0) <| sw (fun _ => some true) (fun q => some q))
theorem c_slices_Equal_int_int {r : Bool} (v0 : (List Int)) (x_v0 : Option Addr × Nat) (v1 : (List Int)) (x_v1 : Option Addr × Nat) (H : p_slices_Equal_int_int v0 v1 = some r) : Fn' Try.prog 67 #[.slice x_v0.1 v0.length x_v0.2, .slice x_v1.1 v1.length x_v1.2] [imm (.slice x_v0.1 v0.length x_v0.2) v0, imm (.slice x_v1.1 v1.length x_v1.2) v1] [] (ι := Unit) (fun _ => .bool (r)) (fun _ => []) (fun _ => []) := by
 refine calls_of (args := [_, _]) Try.func67 rfl (by kernel_rfl) Try.ntmps67 (by simp) fun c => ?_
 unfold p_slices_Equal_int_int at H
 refine Tr.seq (Tr.region ?_)
 refine Rg.q (v := .bool (false)) (Pu.qo (p_assign rfl)) (by decide) (Rg.nl (nT ?_))
 refine Tr.seq (Tr.seq (Tr.region ?_))
 refine Rg.q (v := .slice x_v0.1 v0.length x_v0.2) (Pu.qo (p_move rfl)) (by decide) ?_
 refine Rg.q (v := .int .i64 ((v0.length : Int))) (Pu.qo (p_len 3 Try.underlying31 rfl)) (by decide) ?_
 refine Rg.q (v := .slice x_v1.1 v1.length x_v1.2) (Pu.qo (p_move rfl)) (by decide) ?_
 refine Rg.q (v := .int .i64 ((v1.length : Int))) (Pu.qo (p_len 3 Try.underlying31 rfl)) (by decide) ?_
 refine Rg.q (v := .bool (!decide ((v0.length : Int) = (v1.length : Int)))) (Pu.qo (p_neq rfl rfl)) (by decide) (Rg.nl (nT ?_))
 refine Tr.cond (b := !decide ((v0.length : Int) = (v1.length : Int))) rfl (fun h1 => ?_) (fun h1 => ?_)
 ·have H := cdT h1 H
  refine Tr.seq (Tr.region ?_)
  refine Rg.q (v := .bool (false)) (Pu.qo (p_assign rfl)) (by decide) (Rg.nl (nT ?_))
  refine tRet ?_
  refine rT (?_)
  have hr := Option.some.inj H; subst hr
  exact back1 () rfl (ResV.tmp (v := .bool (false)) rfl) rfl Ents.nil Take.nil
 ·have H := cdF h1 H
  refine tSkip ?_
  refine nT (?_)
  refine Tr.seq (Tr.seq (Tr.region ?_))
  refine Rg.q (v := .slice x_v0.1 v0.length x_v0.2) (Pu.qo (p_move rfl)) (by decide) ?_
  refine Rg.q (v := .int .i64 ((v0.length : Int))) (Pu.qo (p_len 3 Try.underlying31 rfl)) (by decide) ?_
  refine Rg.q (v := .int .i64 (0)) (Pu.qo (p_move rfl)) (by decide) (Rg.nl (nT ?_))
  obtain ⟨x2, hx3, H⟩ := bd.of H
  obtain ⟨n4, hx3⟩ := lp.of hx3
  refine tMidNC (ι := { q : (Unit) × Unit // x2 = .inl q.1 }) (fun ψ => []) (fun ψ => []) ?_ ?_
  ·refine Tr.block ?_
   refine tLoopC (ι := { q : Nat × (Int) × Unit // itr (p_slices_Equal_int_int_b0 v0 v1) q.1 q.2.1 = some x2 }) (fun ζ => [(0, .slice x_v0.1 v0.length x_v0.2), (1, .slice x_v1.1 v1.length x_v1.2), (12, .int .i64 ((v0.length : Int))), (13, .int .i64 (ζ.1.2.1))]) (fun ζ => []) (fun ζ => ζ.1.1) ⟨(n4, 0, ()), hx3⟩ ⟨rfl, rfl, rfl, rfl, trivial⟩ Take.nil ?_
   rintro ⟨⟨m5, Q6, z7⟩, hk12⟩
   obtain ⟨m13, t9, e, H1, hi10, hb11⟩ := itr.of (n := m5) (s := Q6) hk12
   subst e; unfold p_slices_Equal_int_int_b0 at H1
   show Tr _ _ _ _ _ [(0, .slice x_v0.1 v0.length x_v0.2), (1, .slice x_v1.1 v1.length x_v1.2), (12, .int .i64 ((v0.length : Int))), (13, .int .i64 (Q6))] _ []
   refine Tr.seq (Tr.region ?_)
   refine Rg.q (v := .bool (decide (Q6 < (v0.length : Int)))) (Pu.qo (p_lss rfl rfl)) (by decide) (Rg.nl (nT ?_))
   refine Tr.seq ?_
   refine Tr.cond (b := decide (Q6 < (v0.length : Int))) rfl (fun h14 => ?_) (fun h14 => ?_)
   ·have H1 := cdT h14 H1
    refine tSkip ?_
    refine nT (Tr.seq ?_)
    refine Tr.block ?_
    refine Tr.seq (Tr.region ?_)
    refine Rg.q (v := .int .i64 (Q6)) (Pu.qo (p_move rfl)) (by decide) ?_
    refine Rg.q (v := .int .i64 (Q6)) (Pu.qo (p_assign rfl)) (by decide) (Rg.nl (nT ?_))
    refine Tr.seq ?_
    refine tLinS [(5, .int .i64 (Q6)), (0, .slice x_v0.1 v0.length x_v0.2), (1, .slice x_v1.1 v1.length x_v1.2), (12, .int .i64 ((v0.length : Int))), (13, .int .i64 (Q6))] Try.mixed (.inr (by kernel_rfl)) ⟨rfl, rfl, rfl, rfl, rfl, trivial⟩ rfl ?_
    refine Lin.q (v := .slice x_v0.1 v0.length x_v0.2) (by decide) (Pu.qo (p_move rfl)) ?_
    refine Lin.q (v := .int .i64 (Q6)) (by decide) (Pu.qo (p_move rfl)) ?_
    obtain ⟨h15, H1⟩ := gd.of H1
    refine Lin.q (v := elp x_v0.1 (Q6.toNat * Enc.sz Int + 0)) (by decide) (q_ixg (l := v0) (E := fun i => Flat.enc (nth v0 i)) (oa := x_v0.1) Try.underlying31 ty3 rfl rfl h15 rfl (EntB.flat (Ent.b Ent.z))) ?_
    refine Lin.q (v := .int .i64 (nth v0 Q6.toNat)) (by decide) (q_lde (l := v0) (E := fun i => Flat.enc (nth v0 i)) (oa := x_v0.1) (i := Q6.toNat) (j := 0) ty3 rfl (EntB.flat (Ent.b Ent.z)) h15.lt rfl) ?_
    refine Lin.q (v := .slice x_v1.1 v1.length x_v1.2) (by decide) (Pu.qo (p_move rfl)) ?_
    refine Lin.q (v := .int .i64 (Q6)) (by decide) (Pu.qo (p_move rfl)) ?_
    obtain ⟨h16, H1⟩ := gd.of H1
    refine Lin.q (v := elp x_v1.1 (Q6.toNat * Enc.sz Int + 0)) (by decide) (q_ixg (l := v1) (E := fun i => Flat.enc (nth v1 i)) (oa := x_v1.1) Try.underlying31 ty3 rfl rfl h16 rfl (EntB.flat (Ent.b Ent.z.s))) ?_
    refine Lin.q (v := .int .i64 (nth v1 Q6.toNat)) (by decide) (q_lde (l := v1) (E := fun i => Flat.enc (nth v1 i)) (oa := x_v1.1) (i := Q6.toNat) (j := 0) ty3 rfl (EntB.flat (Ent.b Ent.z.s)) h16.lt rfl) ?_
    refine Lin.q (v := .bool (!decide ((nth v0 Q6.toNat) = (nth v1 Q6.toNat)))) (by decide) (Pu.qo (p_neq rfl rfl)) ?_
    show At _ _ _ _ _ _
    refine nT (?_)
    refine Tr.cond (b := !decide ((nth v0 Q6.toNat) = (nth v1 Q6.toNat))) rfl (fun h17 => ?_) (fun h17 => ?_)
    ·have H1 := cdT h17 H1
     refine Tr.seq (Tr.region ?_)
     refine Rg.q (v := .bool (false)) (Pu.qo (p_assign rfl)) (by decide) (Rg.nl (nT ?_))
     refine tRet ?_
     refine rB (rT (rT (rB (rT (rT (?_))))))
     have hx := hb11 _ (Option.some.inj H1).symm; subst hx
     replace H := sw.r H
     have hr := Option.some.inj H; subst hr
     exact back1 () rfl (ResV.tmp (v := .bool (false)) rfl) rfl Ents.nil Take.nil
    ·have H1 := cdF h17 H1
     refine tSkip ?_
     refine nB (nT (?_))
     refine Tr.region ?_
     obtain ⟨h18, H1⟩ := gd.of H1
     refine Rg.q (v := .int .i64 (Q6 + 1)) (Pu.qo (p_add rfl rfl h18)) (by decide) ?_
     refine Rg.q (v := .int .i64 (Q6 + 1)) (Pu.qo (p_move rfl)) (by decide) (Rg.nl ?_)
     exact nLC ⟨(m13, Q6 + 1, ()), hi10 _ (Option.some.inj H1).symm⟩ (Nat.lt_succ_self _) ⟨rfl, rfl, rfl, rfl, trivial⟩ Ents.refl Take.nil
   ·have H1 := cdF h14 H1
    refine tExit (xT (xT (xE (?_))))
    exact nMC ⟨((), ()), (hb11 _ (Option.some.inj H1).symm).symm⟩ trivial Ents.refl Take.nil
  ·rintro ⟨⟨e19, y8⟩, hx⟩; subst hx; replace H := sw.l H
   show At _ _ [] _ [] _
   refine nT (?_)
   refine Tr.seq (Tr.region ?_)
   refine Rg.q (v := .bool (true)) (Pu.qo (p_assign rfl)) (by decide) (Rg.nl (nT ?_))
   refine tRet ?_
   have hr := Option.some.inj H; subst hr
   exact back1 () rfl (ResV.tmp (v := .bool (true)) rfl) rfl Ents.nil Take.nil
noncomputable def p_impl_IndexOk_1 (v0 : Post) (v1 : Post) : Option (Bool) := bd (cond (decide (v0.1 = v1.1)) (bd (p_slices_Equal_int_int v0.2 v1.2) fun r6 => some (r6)) (some (false))) fun b3 => some b3
theorem c_impl_IndexOk_1 {r : Bool} (v0 : Post) (x_v0 : (Unit × Unit) × (Option Addr × Nat)) (v1 : Post) (x_v1 : (Unit × Unit) × (Option Addr × Nat)) (H : p_impl_IndexOk_1 v0 v1 = some r) : Fn' Try.prog 66 #[.agg #[.string (v0.1.1), .string (v0.1.2), .slice x_v0.2.1 v0.2.length x_v0.2.2], .agg #[.string (v1.1.1), .string (v1.1.2), .slice x_v1.2.1 v1.2.length x_v1.2.2]] [imm (.slice x_v0.2.1 v0.2.length x_v0.2.2) v0.2, imm (.slice x_v1.2.1 v1.2.length x_v1.2.2) v1.2] [] (ι := Unit) (fun _ => .bool (r)) (fun _ => []) (fun _ => []) := by
 refine calls_of (args := [_, _]) Try.func66 rfl (by kernel_rfl) Try.ntmps66 (by simp) fun c => ?_
 unfold p_impl_IndexOk_1 at H
 refine Tr.seq (Tr.region ?_)
 refine Rg.ed (e_box (t := 33) (v := .agg #[.string (v0.1.1), .string (v0.1.2), .slice x_v0.2.1 v0.2.length x_v0.2.2]) rfl) rfl (by decide) ?_
 rintro _ _ _ ⟨g1, rfl, rfl, rfl⟩
 refine Rg.ed (e_box (t := 33) (v := .agg #[.string (v1.1.1), .string (v1.1.2), .slice x_v1.2.1 v1.2.length x_v1.2.2]) rfl) rfl (by decide) ?_
 rintro _ _ _ ⟨g2, rfl, rfl, rfl⟩
 refine Rg.q (v := .bool (false)) (Pu.qo (p_assign rfl)) (by decide) (Rg.nl (nT ?_))
 obtain ⟨b3, j4, H⟩ := bd.of H
 refine tMid1 [(4, .bool (b3))] ?_ ?_
 ·refine tLinT [(3, .pointer (some ⟨g2, 0, none⟩)), (2, .pointer (some ⟨g1, 0, none⟩))] ⟨rfl, rfl, trivial⟩ ?_
  refine Lin.q (v := .pointer (some ⟨g1, 0, none⟩)) (by decide) (Pu.qo (p_fabE fa33_0 rfl rfl)) ?_
  refine Lin.q (v := .agg #[.string (v0.1.1), .string (v0.1.2)]) (by decide) (q_ldbP [.string (v0.1.1), .string (v0.1.2)] ty30 rfl Has.here.there rfl rfl) ?_
  refine Lin.q (v := .pointer (some ⟨g2, 0, none⟩)) (by decide) (Pu.qo (p_fabE fa33_0 rfl rfl)) ?_
  refine Lin.q (v := .agg #[.string (v1.1.1), .string (v1.1.2)]) (by decide) (q_ldbP [.string (v1.1.1), .string (v1.1.2)] ty30 rfl Has.here rfl rfl) ?_
  refine Lin.q (v := .bool (decide (v0.1 = v1.1))) (by decide) (Pu.qo (p_aeql (a := v0.1) (b := v1.1) ae30 rfl rfl rfl rfl)) ?_
  rcases Bool.eq_false_or_eq_true (decide (v0.1 = v1.1)) with h5 | h5
  ·have j4 := cdT h5 j4
   refine Lin.q (v := .bool (true)) (by decide) (Qo.eqv (v := .bool (decide (v0.1 = v1.1))) (Pu.qo (p_move rfl)) (congrArg Value.bool h5)) ?_
   refine Lin.g (v := .pointer (some ⟨g1, 2, none⟩)) (by decide) rfl (Pu.qo (p_fabE fa33_1 rfl rfl)) ?_
   refine Lin.g (v := .slice x_v0.2.1 v0.2.length x_v0.2.2) (by decide) rfl (q_ldb ty31 rfl Has.here.there rfl) ?_
   refine Lin.g (v := .pointer (some ⟨g2, 2, none⟩)) (by decide) rfl (Pu.qo (p_fabE fa33_1 rfl rfl)) ?_
   refine Lin.g (v := .slice x_v1.2.1 v1.2.length x_v1.2.2) (by decide) rfl (q_ldb ty31 rfl Has.here rfl) ?_
   obtain ⟨r6, h7, j4⟩ := bd.of j4
   refine Lin.g (v := .bool (r6)) (by decide) rfl (q_call (vs := [.slice x_v0.2.1 v0.2.length x_v0.2.2, .slice x_v1.2.1 v1.2.length x_v1.2.2]) (c_slices_Equal_int_int v0.2 x_v0.2 v1.2 x_v1.2 h7) rfl (EntsB.cons (Ent.b Ent.z) (EntsB.cons (Ent.b Ent.z.s) EntsB.nil))) ?_
   refine Lin.q (v := .bool (r6)) (by decide) (Pu.qo (p_pickT rfl rfl)) ?_
   refine Lin.q (v := .bool (r6)) (by decide) (Pu.qo (p_assign rfl)) ?_
   have j4 := Option.some.inj j4; subst j4
   show At _ _ _ _ _ _
   exact n1 ⟨rfl, trivial⟩
  ·have j4 := cdF h5 j4
   refine Lin.q (v := .bool (false)) (by decide) (Qo.eqv (v := .bool (decide (v0.1 = v1.1))) (Pu.qo (p_move rfl)) (congrArg Value.bool h5)) ?_
   refine Lin.skip (by decide) rfl ?_
   refine Lin.skip (by decide) rfl ?_
   refine Lin.skip (by decide) rfl ?_
   refine Lin.skip (by decide) rfl ?_
   refine Lin.skip (by decide) rfl ?_
   refine Lin.q (v := .bool (false)) (by decide) (Pu.qo (p_pickF rfl rfl)) ?_
   refine Lin.q (v := .bool (false)) (by decide) (Pu.qo (p_assign rfl)) ?_
   have j4 := Option.some.inj j4; subst j4
   show At _ _ _ _ _ _
   exact n1 ⟨rfl, trivial⟩
 refine tRet ?_
 have hr := Option.some.inj H; subst hr
 exact back1 () rfl (ResV.tmp (v := .bool (b3)) rfl) rfl Ents.nil Take.nil
noncomputable def p_slices_EqualFunc_Post_Post_Post_Post_IndexOk_1_b0 (v0 : (List Post)) (v1 : (List Post)) (Q8 : Int) : Option ((Int) ⊕ (Unit ⊕ Bool)) := cond (decide (Q8 < (v0.length : Int))) (gd (ix Q8 v0.length) <| gd (ix Q8 v1.length) <| bd (p_impl_IndexOk_1 (nth v0 Q8.toNat) (nth v1 Q8.toNat)) fun r21 => cond (!r21) (some (.inr (.inr false))) (gd (I64 (Q8 + 1)) <| some (.inl (Q8 + 1)))) (some (.inr (.inl ())))
noncomputable def p_slices_EqualFunc_Post_Post_Post_Post_IndexOk_1 (v0 : (List Post)) (v1 : (List Post)) : Option (Bool) := cond (!decide ((v0.length : Int) = (v1.length : Int))) (some false) (bd (lp (p_slices_EqualFunc_Post_Post_Post_Post_IndexOk_1_b0 v0 v1) 0) <| sw (fun _ => some true) (fun q => some q))
theorem c_slices_EqualFunc_Post_Post_Post_Post_IndexOk_1 {r : Bool} (v0 : (List Post)) (x_v0 : Option Addr × Nat) (v1 : (List Post)) (x_v1 : Option Addr × Nat) (H : p_slices_EqualFunc_Post_Post_Post_Post_IndexOk_1 v0 v1 = some r) : Fn' Try.prog 64 #[.slice x_v0.1 v0.length x_v0.2, .slice x_v1.1 v1.length x_v1.2, .func (.func 66) #[] #[]] [imm (.slice x_v0.1 v0.length x_v0.2) v0, imm (.slice x_v1.1 v1.length x_v1.2) v1] [] (ι := Unit) (fun _ => .bool (r)) (fun _ => []) (fun _ => []) := by
 refine calls_of (args := [_, _, _]) Try.func64 rfl (by kernel_rfl) Try.ntmps64 (by simp) fun c => ?_
 unfold p_slices_EqualFunc_Post_Post_Post_Post_IndexOk_1 at H
 refine Tr.openD Ent.z fun X1 => ?_
 refine Tr.openD Ent.z.s.s fun X2 => ?_
 refine Tr.seq (Tr.region ?_)
 refine Rg.q (v := .bool (false)) (Pu.qo (p_assign rfl)) (by decide) (Rg.nl (nT ?_))
 refine Tr.seq (Tr.seq (Tr.region ?_))
 refine Rg.q (v := .slice x_v0.1 v0.length x_v0.2) (Pu.qo (p_move rfl)) (by decide) ?_
 refine Rg.q (v := .int .i64 ((v0.length : Int))) (Pu.qo (p_len 33 Try.underlying24 rfl)) (by decide) ?_
 refine Rg.q (v := .slice x_v1.1 v1.length x_v1.2) (Pu.qo (p_move rfl)) (by decide) ?_
 refine Rg.q (v := .int .i64 ((v1.length : Int))) (Pu.qo (p_len 33 Try.underlying24 rfl)) (by decide) ?_
 refine Rg.q (v := .bool (!decide ((v0.length : Int) = (v1.length : Int)))) (Pu.qo (p_neq rfl rfl)) (by decide) (Rg.nl (nT ?_))
 refine Tr.cond (b := !decide ((v0.length : Int) = (v1.length : Int))) rfl (fun h3 => ?_) (fun h3 => ?_)
 ·have H := cdT h3 H
  refine Tr.seq (Tr.region ?_)
  refine Rg.q (v := .bool (false)) (Pu.qo (p_assign rfl)) (by decide) (Rg.nl (nT ?_))
  refine tRet ?_
  refine rT (?_)
  have hr := Option.some.inj H; subst hr
  exact back1 () rfl (ResV.tmp (v := .bool (false)) rfl) rfl Ents.nil Take.nil
 ·have H := cdF h3 H
  refine tSkip ?_
  refine nT (?_)
  refine Tr.seq (Tr.seq (Tr.region ?_))
  refine Rg.q (v := .slice x_v0.1 v0.length x_v0.2) (Pu.qo (p_move rfl)) (by decide) ?_
  refine Rg.q (v := .int .i64 ((v0.length : Int))) (Pu.qo (p_len 33 Try.underlying24 rfl)) (by decide) ?_
  refine Rg.q (v := .int .i64 (0)) (Pu.qo (p_move rfl)) (by decide) (Rg.nl (nT ?_))
  obtain ⟨x4, hx5, H⟩ := bd.of H
  obtain ⟨n6, hx5⟩ := lp.of hx5
  refine tMidNC (ι := { q : (Unit) × Unit // x4 = .inl q.1 }) (fun ψ => []) (fun ψ => []) ?_ ?_
  ·refine Tr.block ?_
   refine tLoopC (ι := { q : Nat × (Int) × Unit // itr (p_slices_EqualFunc_Post_Post_Post_Post_IndexOk_1_b0 v0 v1) q.1 q.2.1 = some x4 }) (fun ζ => [(1, .slice x_v1.1 v1.length x_v1.2), (2, .func (.func 66) #[] #[]), (15, .slice x_v0.1 v0.length x_v0.2), (16, .int .i64 ((v0.length : Int))), (17, .int .i64 (ζ.1.2.1))]) (fun ζ => []) (fun ζ => ζ.1.1) ⟨(n6, 0, ()), hx5⟩ ⟨rfl, rfl, rfl, rfl, rfl, trivial⟩ Take.nil ?_
   rintro ⟨⟨m7, Q8, z9⟩, hk14⟩
   obtain ⟨m15, t11, e, H1, hi12, hb13⟩ := itr.of (n := m7) (s := Q8) hk14
   subst e; unfold p_slices_EqualFunc_Post_Post_Post_Post_IndexOk_1_b0 at H1
   show Tr _ _ _ _ _ [(1, .slice x_v1.1 v1.length x_v1.2), (2, .func (.func 66) #[] #[]), (15, .slice x_v0.1 v0.length x_v0.2), (16, .int .i64 ((v0.length : Int))), (17, .int .i64 (Q8))] _ []
   refine Tr.seq (Tr.region ?_)
   refine Rg.q (v := .bool (decide (Q8 < (v0.length : Int)))) (Pu.qo (p_lss rfl rfl)) (by decide) (Rg.nl (nT ?_))
   refine Tr.seq ?_
   refine Tr.cond (b := decide (Q8 < (v0.length : Int))) rfl (fun h16 => ?_) (fun h16 => ?_)
   ·have H1 := cdT h16 H1
    refine tSkip ?_
    refine nT (Tr.seq ?_)
    refine Tr.block ?_
    refine Tr.seq (Tr.region ?_)
    refine Rg.q (v := .int .i64 (Q8)) (Pu.qo (p_move rfl)) (by decide) ?_
    obtain ⟨h17, H1⟩ := gd.of H1
    refine Rg.q (v := elp x_v0.1 (Q8.toNat * Enc.sz Post + 0)) (q_ixg (l := v0) (E := fun i => Dp.denc (nth v0 i) (X1 i)) (oa := x_v0.1) Try.underlying24 ty33 rfl rfl h17 rfl (Ent.b (Ent.darr Ent.z.s))) (by decide) ?_
    refine Rg.q (v := .agg #[.string (((nth v0 Q8.toNat).1).1), .string (((nth v0 Q8.toNat).1).2), .slice (((X1 Q8.toNat).2).1) (((nth v0 Q8.toNat).2).length) (((X1 Q8.toNat).2).2.1)]) (q_ldeA (l := v0) (E := fun i => Dp.denc (nth v0 i) (X1 i)) (oa := x_v0.1) (i := Q8.toNat) ty33 rfl (Ent.b (Ent.darr Ent.z.s)) h17.lt) (by decide) ?_
    refine Rg.ed (e_alloc ty33) rfl (by decide) ?_
    rintro _ _ _ ⟨g18, rfl, rfl, rfl⟩
    refine Rg.q (v := .int .i64 (Q8)) (Pu.qo (p_assign rfl)) (by decide) ?_
    refine Rg.en (e_store (v := .agg #[.string (((nth v0 Q8.toNat).1).1), .string (((nth v0 Q8.toNat).1).2), .slice (((X1 Q8.toNat).2).1) (((nth v0 Q8.toNat).2).length) (((X1 Q8.toNat).2).2.1)]) (cs' := [.string (((nth v0 Q8.toNat).1).1), .string (((nth v0 Q8.toNat).1).2), .slice (((X1 Q8.toNat).2).1) (((nth v0 Q8.toNat).2).length) (((X1 Q8.toNat).2).2.1)]) ty33 rfl rfl Upd.here rfl (by simp [Value.cells, Value.oneCell']) (Nat.le_of_ble_eq_true rfl) rfl) rfl ?_
    rintro _ _ _ ⟨rfl, rfl, rfl⟩
    refine Rg.nl (nT ?_)
    refine Tr.seq (Tr.region ?_)
    refine Rg.q (v := .slice x_v1.1 v1.length x_v1.2) (Pu.qo (p_move rfl)) (by decide) ?_
    refine Rg.q (v := .int .i64 (Q8)) (Pu.qo (p_move rfl)) (by decide) ?_
    obtain ⟨h19, H1⟩ := gd.of H1
    refine Rg.q (v := elp x_v1.1 (Q8.toNat * Enc.sz Post + 0)) (q_ixg (l := v1) (E := fun i => Dp.denc (nth v1 i) (X2 i)) (oa := x_v1.1) Try.underlying24 ty33 rfl rfl h19 rfl (Ent.b (Ent.darr Ent.z))) (by decide) ?_
    refine Rg.q (v := .agg #[.string (((nth v1 Q8.toNat).1).1), .string (((nth v1 Q8.toNat).1).2), .slice (((X2 Q8.toNat).2).1) (((nth v1 Q8.toNat).2).length) (((X2 Q8.toNat).2).2.1)]) (q_ldeA (l := v1) (E := fun i => Dp.denc (nth v1 i) (X2 i)) (oa := x_v1.1) (i := Q8.toNat) ty33 rfl (Ent.b (Ent.darr Ent.z)) h19.lt) (by decide) ?_
    refine Rg.ed (e_alloc ty33) rfl (by decide) ?_
    rintro _ _ _ ⟨g20, rfl, rfl, rfl⟩
    refine Rg.en (e_store (v := .agg #[.string (((nth v1 Q8.toNat).1).1), .string (((nth v1 Q8.toNat).1).2), .slice (((X2 Q8.toNat).2).1) (((nth v1 Q8.toNat).2).length) (((X2 Q8.toNat).2).2.1)]) (cs' := [.string (((nth v1 Q8.toNat).1).1), .string (((nth v1 Q8.toNat).1).2), .slice (((X2 Q8.toNat).2).1) (((nth v1 Q8.toNat).2).length) (((X2 Q8.toNat).2).2.1)]) ty33 rfl rfl Upd.here rfl (by simp [Value.cells, Value.oneCell']) (Nat.le_of_ble_eq_true rfl) rfl) rfl ?_
    rintro _ _ _ ⟨rfl, rfl, rfl⟩
    refine Rg.nl (nT ?_)
    refine Tr.seq (Tr.region ?_)
    refine Rg.q (v := .func (.func 66) #[] #[]) (Pu.qo (p_move rfl)) (by decide) ?_
    refine Rg.q (v := .agg #[.string (((nth v0 Q8.toNat).1).1), .string (((nth v0 Q8.toNat).1).2), .slice (((X1 Q8.toNat).2).1) (((nth v0 Q8.toNat).2).length) (((X1 Q8.toNat).2).2.1)]) (q_ldbA ty33 rfl Has.here.there rfl) (by decide) ?_
    refine Rg.q (v := .agg #[.string (((nth v1 Q8.toNat).1).1), .string (((nth v1 Q8.toNat).1).2), .slice (((X2 Q8.toNat).2).1) (((nth v1 Q8.toNat).2).length) (((X2 Q8.toNat).2).2.1)]) (q_ldbA ty33 rfl Has.here rfl) (by decide) ?_
    obtain ⟨r21, h22, H1⟩ := bd.of H1
    refine Rg.q (v := .bool (r21)) (Ex.dyn (caps := []) (vs := [.agg #[.string (((nth v0 Q8.toNat).1).1), .string (((nth v0 Q8.toNat).1).2), .slice (((X1 Q8.toNat).2).1) (((nth v0 Q8.toNat).2).length) (((X1 Q8.toNat).2).2.1)], .agg #[.string (((nth v1 Q8.toNat).1).1), .string (((nth v1 Q8.toNat).1).2), .slice (((X2 Q8.toNat).2).1) (((nth v1 Q8.toNat).2).length) (((X2 Q8.toNat).2).2.1)]]) rfl rfl (q_call (vs := [.agg #[.string (((nth v0 Q8.toNat).1).1), .string (((nth v0 Q8.toNat).1).2), .slice (((X1 Q8.toNat).2).1) (((nth v0 Q8.toNat).2).length) (((X1 Q8.toNat).2).2.1)], .agg #[.string (((nth v1 Q8.toNat).1).1), .string (((nth v1 Q8.toNat).1).2), .slice (((X2 Q8.toNat).2).1) (((nth v1 Q8.toNat).2).length) (((X2 Q8.toNat).2).2.1)]]) (c_impl_IndexOk_1 (nth v0 Q8.toNat) (((), ()), (((X1 Q8.toNat).2).1, ((X1 Q8.toNat).2).2.1)) (nth v1 Q8.toNat) (((), ()), (((X2 Q8.toNat).2).1, ((X2 Q8.toNat).2).2.1)) h22) rfl (EntsB.cons (Ent.b (Ent.dimm (Ent.dsnd (Ent.del Ent.z.s h17.lt)))) (EntsB.cons (Ent.b (Ent.dimm (Ent.dsnd (Ent.del Ent.z h19.lt)))) EntsB.nil)))) (by decide) ?_
    refine Rg.q (v := .bool (!r21)) (Pu.qo (p_not rfl)) (by decide) (Rg.nl (nT ?_))
    refine Tr.cond (b := !r21) rfl (fun h23 => ?_) (fun h23 => ?_)
    ·have H1 := cdT h23 H1
     refine Tr.seq (Tr.region ?_)
     refine Rg.q (v := .bool (false)) (Pu.qo (p_assign rfl)) (by decide) (Rg.nl (nT ?_))
     refine tRet ?_
     refine rB (rT (rT (rB (rT (rT (?_))))))
     have hx := hb13 _ (Option.some.inj H1).symm; subst hx
     replace H := sw.r H
     have hr := Option.some.inj H; subst hr
     exact back1 () rfl (ResV.tmp (v := .bool (false)) rfl) rfl Ents.nil Take.nil
    ·have H1 := cdF h23 H1
     refine tSkip ?_
     refine nB (nT (?_))
     refine Tr.region ?_
     obtain ⟨h24, H1⟩ := gd.of H1
     refine Rg.q (v := .int .i64 (Q8 + 1)) (Pu.qo (p_add rfl rfl h24)) (by decide) ?_
     refine Rg.q (v := .int .i64 (Q8 + 1)) (Pu.qo (p_move rfl)) (by decide) (Rg.nl ?_)
     exact nLC ⟨(m15, Q8 + 1, ()), hi12 _ (Option.some.inj H1).symm⟩ (Nat.lt_succ_self _) ⟨rfl, rfl, rfl, rfl, rfl, trivial⟩ Ents.refl Take.nil
   ·have H1 := cdF h16 H1
    refine tExit (xT (xT (xE (?_))))
    exact nMC ⟨((), ()), (hb13 _ (Option.some.inj H1).symm).symm⟩ trivial Ents.refl Take.nil
  ·rintro ⟨⟨e25, y10⟩, hx⟩; subst hx; replace H := sw.l H
   show At _ _ [] _ [] _
   refine nT (?_)
   refine Tr.seq (Tr.region ?_)
   refine Rg.q (v := .bool (true)) (Pu.qo (p_assign rfl)) (by decide) (Rg.nl (nT ?_))
   refine tRet ?_
   have hr := Option.some.inj H; subst hr
   exact back1 () rfl (ResV.tmp (v := .bool (true)) rfl) rfl Ents.nil Take.nil
noncomputable def p_impl_IndexOk (v0 : Index) : Option (Bool) := bd (p_impl_namesOk v0.1) fun r4 => cond (r4) (bd (p_impl_indexOf v0.1) fun r7 => bd (p_slices_EqualFunc_Post_Post_Post_Post_IndexOk_1 v0.2 r7.2) fun r10 => some r10) (some false)
theorem c_impl_IndexOk {r : Bool} (v0 : Index) (x_v0 : (Option Addr × Nat) × (Option Addr × Nat)) (H : p_impl_IndexOk v0 = some r) : Fn' Try.prog 18 #[.agg #[.slice x_v0.1.1 v0.1.length x_v0.1.2, .slice x_v0.2.1 v0.2.length x_v0.2.2]] [imm (.slice x_v0.1.1 v0.1.length x_v0.1.2) v0.1, imm (.slice x_v0.2.1 v0.2.length x_v0.2.2) v0.2] [] (ι := Unit) (fun _ => .bool (r)) (fun _ => []) (fun _ => []) := by
 refine calls_of (args := [_]) Try.func18 rfl (by kernel_rfl) Try.ntmps18 (by simp) fun c => ?_
 unfold p_impl_IndexOk at H
 refine Tr.openD Ent.z fun X1 => ?_
 refine Tr.openD Ent.z.s.s fun X2 => ?_
 refine Tr.seq (Tr.region ?_)
 refine Rg.ed (e_box (t := 26) (v := .agg #[.slice x_v0.1.1 v0.1.length x_v0.1.2, .slice x_v0.2.1 v0.2.length x_v0.2.2]) rfl) rfl (by decide) ?_
 rintro _ _ _ ⟨g3, rfl, rfl, rfl⟩
 refine Rg.q (v := .bool (false)) (Pu.qo (p_assign rfl)) (by decide) (Rg.nl (nT ?_))
 refine Tr.seq ?_
 obtain ⟨r4, h5, H⟩ := bd.of H
 rcases Bool.eq_false_or_eq_true (r4) with h6 | h6
 ·have H := cdT h6 H
  refine tNwS [(1, .pointer (some ⟨g3, 0, none⟩))] 2 [0, 1, 2, 3, 4, 5, 6, 7, 8, 9, 10, 11, 12] [8] [] Try.mixed (by kernel_rfl) (by decide) List.nodup_nil ⟨rfl, trivial⟩ rfl okNil ?_
  refine w_pu (v := .pointer (some ⟨g3, 0, none⟩)) rfl (by decide) rfl rfl rfl (p_fabE fa26_0 rfl rfl) ?_
  refine w_q (v := .slice x_v0.1.1 v0.1.length x_v0.1.2) rfl (by decide) rfl rfl rfl (fun F => (q_ldb ty23 rfl (Has.here.app F) rfl)) ?_
  refine w_q (v := .bool (r4)) rfl (by decide) rfl rfl rfl (fun F => (q_call (vs := [.slice x_v0.1.1 v0.1.length x_v0.1.2]) (c_impl_namesOk v0.1 x_v0.1 h5) rfl (EntsB.cons (Ent.b (Ent.dimm Ent.z.s)) EntsB.nil))) ?_
  refine w_pu (v := .bool (true)) rfl (by decide) rfl rfl rfl ((Pu.eqv (v := .bool (r4)) (p_move rfl) (congrArg Value.bool h6))) ?_
  refine w_pu (v := .pointer (some ⟨g3, 1, none⟩)) rfl (by decide) rfl rfl rfl (p_fabE fa26_1 rfl rfl) ?_
  refine w_q (v := .slice x_v0.2.1 v0.2.length x_v0.2.2) rfl (by decide) rfl rfl rfl (fun F => (q_ldb ty24 rfl (Has.here.app F) rfl)) ?_
  refine w_pu (v := .pointer (some ⟨g3, 0, none⟩)) rfl (by decide) rfl rfl rfl (p_fabE fa26_0 rfl rfl) ?_
  refine w_q (v := .slice x_v0.1.1 v0.1.length x_v0.1.2) rfl (by decide) rfl rfl rfl (fun F => (q_ldb ty23 rfl (Has.here.app F) rfl)) ?_
  obtain ⟨r7, h8, H⟩ := bd.of H
  refine w_ed rfl (by decide) rfl Rdy.nil rfl (n_callB (vs := [.slice x_v0.1.1 v0.1.length x_v0.1.2]) (c_impl_indexOf v0.1 x_v0.1 h8) (fun _ => (Solo.tree (Solo.tree Solo.nil))) rfl (EntsB.cons (Ent.b (Ent.dimm Ent.z.s)) EntsB.nil)) ?_
  rintro _ _ _ ⟨x9, rfl, rfl, rfl⟩
  refine ⟨(PdOk.anc (by kernel_rfl) (PdOk.q rfl rfl (fun F => (q_ldb ty24 rfl (Has.here.there.there.app F) rfl)) (PdOk.anc (by kernel_rfl) (PdOk.q rfl rfl (fun F => (q_ldb ty23 rfl (Has.here.there.there.app F) rfl)) PdOk.nil)))), ?_⟩
  refine w_pu (v := .slice x9.2.1 r7.2.length x9.2.2) rfl (by decide) rfl rfl rfl ((p_field1 Try.underlying26 rfl ty24 rfl rfl)) ?_
  obtain ⟨r10, h11, H⟩ := bd.of H
  refine w_q (v := .bool (r10)) rfl (by decide) rfl rfl rfl (fun F => (q_call (vs := [.slice x_v0.2.1 v0.2.length x_v0.2.2, .slice x9.2.1 r7.2.length x9.2.2, .func (.func 66) #[] #[]]) (c_slices_EqualFunc_Post_Post_Post_Post_IndexOk_1 v0.2 x_v0.2 r7.2 x9.2 h11) rfl (EntsB.cons (Ent.b (Ent.dimm Ent.z)) (EntsB.cons (EntB.tree (Has.here.there.app F)) EntsB.nil)))) ?_
  refine w_pu (v := .bool (r10)) rfl (by decide) rfl rfl rfl (p_pickT rfl rfl) ?_
  refine w_pu (v := .bool (r10)) rfl (by decide) rfl rfl rfl (p_assign rfl) ?_
  refine w_nil ?_
  show At _ _ _ _ _ _
  refine nT (?_)
  refine tRet ?_
  have hr := Option.some.inj H; subst hr
  exact back1 () rfl (ResV.tmp (v := .bool (r10)) rfl) rfl Ents.nil Take.nil
 ·have H := cdF h6 H
  refine tNwS [(1, .pointer (some ⟨g3, 0, none⟩))] 1 [0, 1, 2, 3, 4, 5, 6, 7, 8, 9, 10, 11, 12] [] [] Try.mixed (by kernel_rfl) (by decide) List.nodup_nil ⟨rfl, trivial⟩ rfl okNil ?_
  refine w_pu (v := .pointer (some ⟨g3, 0, none⟩)) rfl (by decide) rfl rfl rfl (p_fabE fa26_0 rfl rfl) ?_
  refine w_q (v := .slice x_v0.1.1 v0.1.length x_v0.1.2) rfl (by decide) rfl rfl rfl (fun F => (q_ldb ty23 rfl (Has.here.app F) rfl)) ?_
  refine w_q (v := .bool (r4)) rfl (by decide) rfl rfl rfl (fun F => (q_call (vs := [.slice x_v0.1.1 v0.1.length x_v0.1.2]) (c_impl_namesOk v0.1 x_v0.1 h5) rfl (EntsB.cons (Ent.b (Ent.dimm Ent.z.s)) EntsB.nil))) ?_
  refine w_pu (v := .bool (false)) rfl (by decide) rfl rfl rfl ((Pu.eqv (v := .bool (r4)) (p_move rfl) (congrArg Value.bool h6))) ?_
  refine w_skip rfl (by decide) rfl rfl rfl ?_
  refine w_skip rfl (by decide) rfl rfl rfl ?_
  refine w_skip rfl (by decide) rfl rfl rfl ?_
  refine w_skip rfl (by decide) rfl rfl rfl ?_
  refine w_skip rfl (by decide) rfl rfl rfl ?_
  refine w_skip rfl (by decide) rfl rfl rfl ?_
  refine w_skip rfl (by decide) rfl rfl rfl ?_
  refine w_pu (v := .bool (false)) rfl (by decide) rfl rfl rfl (p_pickF rfl rfl) ?_
  refine w_pu (v := .bool (false)) rfl (by decide) rfl rfl rfl (p_assign rfl) ?_
  refine w_nil ?_
  show At _ _ _ _ _ _
  refine nT (?_)
  refine tRet ?_
  have hr := Option.some.inj H; subst hr
  exact back1 () rfl (ResV.tmp (v := .bool (false)) rfl) rfl Ents.nil Take.nil
noncomputable def p_laws_lyInts_b0 (v0 : (List Int)) (v1 : (List Int)) (Q6 : Int) : Option ((Int) ⊕ (Unit ⊕ Bool)) := cond (decide (Q6 < (v0.length : Int))) (gd (ix Q6 v0.length) <| gd (ix Q6 v1.length) <| cond (!decide ((nth v0 Q6.toNat) = (nth v1 Q6.toNat))) (some (.inr (.inr false))) (gd (I64 (Q6 + 1)) <| some (.inl (Q6 + 1)))) (some (.inr (.inl ())))
noncomputable def p_laws_lyInts (v0 : (List Int)) (v1 : (List Int)) : Option (Bool) := cond (!decide ((v0.length : Int) = (v1.length : Int))) (some false) (bd (lp (p_laws_lyInts_b0 v0 v1) 0) <| sw (fun _ => some true) (fun q => some q))
theorem c_laws_lyInts {r : Bool} (v0 : (List Int)) (x_v0 : Option Addr × Nat) (v1 : (List Int)) (x_v1 : Option Addr × Nat) (H : p_laws_lyInts v0 v1 = some r) : Fn' Try.prog 20 #[.slice x_v0.1 v0.length x_v0.2, .slice x_v1.1 v1.length x_v1.2] [imm (.slice x_v0.1 v0.length x_v0.2) v0, imm (.slice x_v1.1 v1.length x_v1.2) v1] [] (ι := Unit) (fun _ => .bool (r)) (fun _ => []) (fun _ => []) := by
 refine calls_of (args := [_, _]) Try.func20 rfl (by kernel_rfl) Try.ntmps20 (by simp) fun c => ?_
 unfold p_laws_lyInts at H
 refine Tr.seq (Tr.region ?_)
 refine Rg.q (v := .bool (false)) (Pu.qo (p_assign rfl)) (by decide) (Rg.nl (nT ?_))
 refine Tr.seq (Tr.seq (Tr.region ?_))
 refine Rg.q (v := .slice x_v0.1 v0.length x_v0.2) (Pu.qo (p_move rfl)) (by decide) ?_
 refine Rg.q (v := .int .i64 ((v0.length : Int))) (Pu.qo (p_len 3 Try.underlying31 rfl)) (by decide) ?_
 refine Rg.q (v := .slice x_v1.1 v1.length x_v1.2) (Pu.qo (p_move rfl)) (by decide) ?_
 refine Rg.q (v := .int .i64 ((v1.length : Int))) (Pu.qo (p_len 3 Try.underlying31 rfl)) (by decide) ?_
 refine Rg.q (v := .bool (!decide ((v0.length : Int) = (v1.length : Int)))) (Pu.qo (p_neq rfl rfl)) (by decide) (Rg.nl (nT ?_))
 refine Tr.cond (b := !decide ((v0.length : Int) = (v1.length : Int))) rfl (fun h1 => ?_) (fun h1 => ?_)
 ·have H := cdT h1 H
  refine Tr.seq (Tr.region ?_)
  refine Rg.q (v := .bool (false)) (Pu.qo (p_assign rfl)) (by decide) (Rg.nl (nT ?_))
  refine tRet ?_
  refine rT (?_)
  have hr := Option.some.inj H; subst hr
  exact back1 () rfl (ResV.tmp (v := .bool (false)) rfl) rfl Ents.nil Take.nil
 ·have H := cdF h1 H
  refine tSkip ?_
  refine nT (?_)
  refine Tr.seq (Tr.seq (Tr.region ?_))
  refine Rg.q (v := .int .i64 (0)) (Pu.qo (p_assign rfl)) (by decide) (Rg.nl (nT ?_))
  obtain ⟨x2, hx3, H⟩ := bd.of H
  obtain ⟨n4, hx3⟩ := lp.of hx3
  refine tMidNC (ι := { q : (Unit) × Unit // x2 = .inl q.1 }) (fun ψ => []) (fun ψ => []) ?_ ?_
  ·refine Tr.block ?_
   refine tLoopC (ι := { q : Nat × (Int) × Unit // itr (p_laws_lyInts_b0 v0 v1) q.1 q.2.1 = some x2 }) (fun ζ => [(0, .slice x_v0.1 v0.length x_v0.2), (1, .slice x_v1.1 v1.length x_v1.2), (5, .int .i64 (ζ.1.2.1))]) (fun ζ => []) (fun ζ => ζ.1.1) ⟨(n4, 0, ()), hx3⟩ ⟨rfl, rfl, rfl, trivial⟩ Take.nil ?_
   rintro ⟨⟨m5, Q6, z7⟩, hk12⟩
   obtain ⟨m13, t9, e, H1, hi10, hb11⟩ := itr.of (n := m5) (s := Q6) hk12
   subst e; unfold p_laws_lyInts_b0 at H1
   show Tr _ _ _ _ _ [(0, .slice x_v0.1 v0.length x_v0.2), (1, .slice x_v1.1 v1.length x_v1.2), (5, .int .i64 (Q6))] _ []
   refine Tr.seq (Tr.seq (Tr.region ?_))
   refine Rg.q (v := .int .i64 (Q6)) (Pu.qo (p_move rfl)) (by decide) ?_
   refine Rg.q (v := .slice x_v0.1 v0.length x_v0.2) (Pu.qo (p_move rfl)) (by decide) ?_
   refine Rg.q (v := .int .i64 ((v0.length : Int))) (Pu.qo (p_len 3 Try.underlying31 rfl)) (by decide) ?_
   refine Rg.q (v := .bool (decide (Q6 < (v0.length : Int)))) (Pu.qo (p_lss rfl rfl)) (by decide) (Rg.nl (nT ?_))
   refine Tr.cond (b := decide (Q6 < (v0.length : Int))) rfl (fun h14 => ?_) (fun h14 => ?_)
   ·have H1 := cdT h14 H1
    refine tSkip ?_
    refine nT (Tr.seq ?_)
    refine Tr.block ?_
    refine Tr.seq ?_
    refine tLinS [(0, .slice x_v0.1 v0.length x_v0.2), (1, .slice x_v1.1 v1.length x_v1.2), (5, .int .i64 (Q6))] Try.mixed (.inr (by kernel_rfl)) ⟨rfl, rfl, rfl, trivial⟩ rfl ?_
    refine Lin.q (v := .slice x_v0.1 v0.length x_v0.2) (by decide) (Pu.qo (p_move rfl)) ?_
    refine Lin.q (v := .int .i64 (Q6)) (by decide) (Pu.qo (p_move rfl)) ?_
    obtain ⟨h15, H1⟩ := gd.of H1
    refine Lin.q (v := elp x_v0.1 (Q6.toNat * Enc.sz Int + 0)) (by decide) (q_ixg (l := v0) (E := fun i => Flat.enc (nth v0 i)) (oa := x_v0.1) Try.underlying31 ty3 rfl rfl h15 rfl (EntB.flat (Ent.b Ent.z))) ?_
    refine Lin.q (v := .int .i64 (nth v0 Q6.toNat)) (by decide) (q_lde (l := v0) (E := fun i => Flat.enc (nth v0 i)) (oa := x_v0.1) (i := Q6.toNat) (j := 0) ty3 rfl (EntB.flat (Ent.b Ent.z)) h15.lt rfl) ?_
    refine Lin.q (v := .slice x_v1.1 v1.length x_v1.2) (by decide) (Pu.qo (p_move rfl)) ?_
    refine Lin.q (v := .int .i64 (Q6)) (by decide) (Pu.qo (p_move rfl)) ?_
    obtain ⟨h16, H1⟩ := gd.of H1
    refine Lin.q (v := elp x_v1.1 (Q6.toNat * Enc.sz Int + 0)) (by decide) (q_ixg (l := v1) (E := fun i => Flat.enc (nth v1 i)) (oa := x_v1.1) Try.underlying31 ty3 rfl rfl h16 rfl (EntB.flat (Ent.b Ent.z.s))) ?_
    refine Lin.q (v := .int .i64 (nth v1 Q6.toNat)) (by decide) (q_lde (l := v1) (E := fun i => Flat.enc (nth v1 i)) (oa := x_v1.1) (i := Q6.toNat) (j := 0) ty3 rfl (EntB.flat (Ent.b Ent.z.s)) h16.lt rfl) ?_
    refine Lin.q (v := .bool (!decide ((nth v0 Q6.toNat) = (nth v1 Q6.toNat)))) (by decide) (Pu.qo (p_neq rfl rfl)) ?_
    show At _ _ _ _ _ _
    refine nT (?_)
    refine Tr.cond (b := !decide ((nth v0 Q6.toNat) = (nth v1 Q6.toNat))) rfl (fun h17 => ?_) (fun h17 => ?_)
    ·have H1 := cdT h17 H1
     refine Tr.seq (Tr.region ?_)
     refine Rg.q (v := .bool (false)) (Pu.qo (p_assign rfl)) (by decide) (Rg.nl (nT ?_))
     refine tRet ?_
     refine rB (rT (rT (rB (rT (rT (?_))))))
     have hx := hb11 _ (Option.some.inj H1).symm; subst hx
     replace H := sw.r H
     have hr := Option.some.inj H; subst hr
     exact back1 () rfl (ResV.tmp (v := .bool (false)) rfl) rfl Ents.nil Take.nil
    ·have H1 := cdF h17 H1
     refine tSkip ?_
     refine nB (nT (?_))
     refine Tr.region ?_
     refine Rg.q (v := .int .i64 (Q6)) (Pu.qo (p_move rfl)) (by decide) ?_
     obtain ⟨h18, H1⟩ := gd.of H1
     refine Rg.q (v := .int .i64 (Q6 + 1)) (Pu.qo (p_add rfl rfl h18)) (by decide) ?_
     refine Rg.q (v := .int .i64 (Q6 + 1)) (Pu.qo (p_assign rfl)) (by decide) (Rg.nl ?_)
     exact nLC ⟨(m13, Q6 + 1, ()), hi10 _ (Option.some.inj H1).symm⟩ (Nat.lt_succ_self _) ⟨rfl, rfl, rfl, trivial⟩ Ents.refl Take.nil
   ·have H1 := cdF h14 H1
    refine tExit (xT (xT (xE (?_))))
    exact nMC ⟨((), ()), (hb11 _ (Option.some.inj H1).symm).symm⟩ trivial Ents.refl Take.nil
  ·rintro ⟨⟨e19, y8⟩, hx⟩; subst hx; replace H := sw.l H
   show At _ _ [] _ [] _
   refine nT (?_)
   refine Tr.seq (Tr.region ?_)
   refine Rg.q (v := .bool (true)) (Pu.qo (p_assign rfl)) (by decide) (Rg.nl (nT ?_))
   refine tRet ?_
   have hr := Option.some.inj H; subst hr
   exact back1 () rfl (ResV.tmp (v := .bool (true)) rfl) rfl Ents.nil Take.nil
noncomputable def p_spec_l71Filter_b0 (v0 : L6Rd) (Q10 : Int × (List Cond) × Int) : Option ((Int × (List Cond) × Int) ⊕ (Int × (List Cond))) := cond (decide (0 < Q10.2.2)) (bd (p_spec_l71Tag (v0.1, Q10.1)) fun r19 => bd (p_spec_l6Rd_pick (v0.1, r19.2) 3) fun r22 => gd (room (Q10.2.1.length + 1)) <| gd (I64 (Q10.2.2 - 1)) <| some (.inl (r22.2, (Q10.2.1 ++ [(r19.1, (decide (r22.1 = 0)))]), Q10.2.2 - 1))) (some (.inr (Q10.1, Q10.2.1)))
noncomputable def p_spec_l71Filter_b1 (v0 : L6Rd) (Q38 : Int × (List Cond)) : Option ((Int × (List Cond)) ⊕ ((List Cond) × Int)) := cond (decide ((Q38.2.length : Int) ≤ 3)) (bd (p_spec_l71Tag (v0.1, Q38.1)) fun r47 => gd (room (Q38.2.length + 1)) <| some (.inl (r47.2, (Q38.2 ++ [(r47.1, false)])))) (some (.inr (Q38.2, Q38.1)))
noncomputable def p_spec_l71Filter (v0 : L6Rd) : Option ((List Cond) × Int) := bd (p_spec_l6Rd_pick v0 3) fun r3 => bd (lp (p_spec_l71Filter_b0 v0) (r3.2, ([] : List Cond), r3.1)) fun x6 => bd (p_spec_l6Rd_pick (v0.1, x6.1) 30) fun r30 => cond (decide (r30.1 = 0)) (bd (lp (p_spec_l71Filter_b1 v0) (r30.2, x6.2)) fun x34 => some (x34.1, x34.2)) (cond (decide (r30.1 = 1)) (gd (room (x6.2.length + 1)) <| some (x6.2 ++ [(((⟨#[101]⟩ : ByteArray), (⟨#[112]⟩ : ByteArray)), false)], r30.2)) (some (x6.2, r30.2)))
theorem c_spec_l71Filter {r : (List Cond) × Int} (g_v0 : Nat) (v0 : L6Rd) (x_v0 : (Option Addr × Nat) × Unit) (H : p_spec_l71Filter v0 = some r) : Fn' Try.prog 86 #[.pointer (some ⟨g_v0, 0, none⟩)] [imm (.slice x_v0.1.1 v0.1.length x_v0.1.2) v0.1] [box g_v0 134 [.slice x_v0.1.1 v0.1.length x_v0.1.2, .int .i64 (v0.2)]] (ι := Option Addr × Nat) (fun x => .slice x.1 r.1.length x.2) (fun _ => []) (fun x => [tree (.slice x.1 r.1.length x.2) r.1, box g_v0 134 [.slice x_v0.1.1 v0.1.length x_v0.1.2, .int .i64 (r.2)]]) := by
 refine calls_of (args := [_]) Try.func86 rfl (by kernel_rfl) Try.ntmps86 (by simp) fun c => ?_
 unfold p_spec_l71Filter at H
 refine Tr.seq (Tr.region ?_)
 refine Rg.q (v := .slice none 0 0) (Pu.qo (p_assign rfl)) (by decide) (Rg.nl (nT ?_))
 refine Tr.seq (Tr.region ?_)
 refine Rg.ed (e_lit0 Cond Try.underlying54 ty62) rfl (by decide) ?_
 rintro _ _ _ ⟨a1, c2, rfl, rfl, rfl⟩
 refine Rg.q (v := .slice a1 (([] : List Cond).length) c2) (Pu.qo (p_assign rfl)) (by decide) (Rg.nl (nT ?_))
 refine Tr.seq (Tr.seq (Tr.region ?_))
 refine Rg.q (v := .pointer (some ⟨g_v0, 0, none⟩)) (Pu.qo (p_move rfl)) (by decide) ?_
 obtain ⟨r3, h4, H⟩ := bd.of H
 refine Rg.ed (e_callM (vs := [.pointer (some ⟨g_v0, 0, none⟩), .int .i64 (3)]) (c_spec_l6Rd_pick g_v0 v0 (x_v0.1, ()) 3 h4) (Solo.box Solo.nil) (fun _ => (Solo.box Solo.nil)) rfl (.cons Del.here.there .nil) (EntsB.cons (Ent.b Ent.z) EntsB.nil)) rfl (by decide) ?_
 rintro _ _ _ ⟨u5, rfl, rfl, rfl⟩
 refine Rg.q (v := .int .i64 (r3.1)) (Pu.qo (p_assign rfl)) (by decide) (Rg.nl (nT ?_))
 obtain ⟨x6, hx7, H⟩ := bd.of H
 obtain ⟨n8, hx7⟩ := lp.of hx7
 refine tMidNC (ι := Option Addr × Nat) (fun ψ => [(0, .pointer (some ⟨g_v0, 0, none⟩)), (3, .slice ψ.1 x6.2.length ψ.2)]) (fun ψ => [box g_v0 134 [.slice x_v0.1.1 v0.1.length x_v0.1.2, .int .i64 (x6.1)], tree (.slice ψ.1 x6.2.length ψ.2) x6.2]) ?_ ?_
 ·refine Tr.block ?_
  refine tLoopC (ι := { q : Nat × (Int × (List Cond) × Int) × (Option Addr × Nat) // itr (p_spec_l71Filter_b0 v0) q.1 q.2.1 = some x6 }) (fun ζ => [(0, .pointer (some ⟨g_v0, 0, none⟩)), (3, .slice ζ.1.2.2.1 ζ.1.2.1.2.1.length ζ.1.2.2.2), (4, .int .i64 (ζ.1.2.1.2.2))]) (fun ζ => [box g_v0 134 [.slice x_v0.1.1 v0.1.length x_v0.1.2, .int .i64 (ζ.1.2.1.1)], tree (.slice ζ.1.2.2.1 ζ.1.2.1.2.1.length ζ.1.2.2.2) ζ.1.2.1.2.1]) (fun ζ => ζ.1.1) ⟨(n8, (r3.2, ([] : List Cond), r3.1), (a1, c2)), hx7⟩ ⟨rfl, rfl, rfl, trivial⟩ (.cons Del.here (.cons Del.here .nil)) ?_
  rintro ⟨⟨m9, Q10, z11⟩, hk16⟩
  obtain ⟨m17, t13, e, H1, hi14, hb15⟩ := itr.of (n := m9) (s := Q10) hk16
  subst e; unfold p_spec_l71Filter_b0 at H1
  show Tr _ _ _ _ _ [(0, .pointer (some ⟨g_v0, 0, none⟩)), (3, .slice z11.1 Q10.2.1.length z11.2), (4, .int .i64 (Q10.2.2))] _ [box g_v0 134 [.slice x_v0.1.1 v0.1.length x_v0.1.2, .int .i64 (Q10.1)], tree (.slice z11.1 Q10.2.1.length z11.2) Q10.2.1]
  refine Tr.seq (Tr.seq (Tr.region ?_))
  refine Rg.q (v := .int .i64 (Q10.2.2)) (Pu.qo (p_move rfl)) (by decide) ?_
  refine Rg.q (v := .bool (decide (0 < Q10.2.2))) (Pu.qo (p_gtr rfl rfl)) (by decide) (Rg.nl (nT ?_))
  refine Tr.cond (b := decide (0 < Q10.2.2)) rfl (fun h18 => ?_) (fun h18 => ?_)
  ·have H1 := cdT h18 H1
   refine tSkip ?_
   refine nT (Tr.seq ?_)
   refine Tr.block ?_
   refine Tr.region ?_
   refine Rg.q (v := .slice z11.1 Q10.2.1.length z11.2) (Pu.qo (p_move rfl)) (by decide) ?_
   refine Rg.q (v := .pointer (some ⟨g_v0, 0, none⟩)) (Pu.qo (p_move rfl)) (by decide) ?_
   obtain ⟨r19, h20, H1⟩ := bd.of H1
   refine Rg.ed (e_callM (vs := [.pointer (some ⟨g_v0, 0, none⟩)]) (c_spec_l71Tag g_v0 (v0.1, Q10.1) (x_v0.1, ()) h20) (Solo.box Solo.nil) (fun _ => (Solo.box Solo.nil)) rfl (.cons Del.here .nil) (EntsB.cons (Ent.b Ent.z) EntsB.nil)) rfl (by decide) ?_
   rintro _ _ _ ⟨u21, rfl, rfl, rfl⟩
   refine Rg.q (v := .pointer (some ⟨g_v0, 0, none⟩)) (Pu.qo (p_move rfl)) (by decide) ?_
   obtain ⟨r22, h23, H1⟩ := bd.of H1
   refine Rg.ed (e_callM (vs := [.pointer (some ⟨g_v0, 0, none⟩), .int .i64 (3)]) (c_spec_l6Rd_pick g_v0 (v0.1, r19.2) (x_v0.1, ()) 3 h23) (Solo.box Solo.nil) (fun _ => (Solo.box Solo.nil)) rfl (.cons Del.here .nil) (EntsB.cons (Ent.b Ent.z) EntsB.nil)) rfl (by decide) ?_
   rintro _ _ _ ⟨u24, rfl, rfl, rfl⟩
   refine Rg.q (v := .bool (decide (r22.1 = 0))) (Pu.qo (p_eql rfl rfl)) (by decide) ?_
   refine Rg.q (v := .agg #[.string (r19.1.1), .string (r19.1.2), .bool (decide (r22.1 = 0))]) (Pu.qo (p_buildS (vs := [(0, .agg #[.string (r19.1.1), .string (r19.1.2)]), (1, .bool (decide (r22.1 = 0)))]) (cs := #[.string (r19.1.1), .string (r19.1.2), .bool (decide (r22.1 = 0))]) ty62 pl62 rfl rfl)) (by decide) ?_
   refine Rg.ed (e_lit (vs := [(0, .agg #[.string (r19.1.1), .string (r19.1.2), .bool (decide (r22.1 = 0))])]) [.string (r19.1.1), .string (r19.1.2), .bool (decide (r22.1 = 0))] Try.underlying54 ty62 rfl (by decide) (by decide) (by kernel_rfl)) rfl (by decide) ?_
   rintro _ _ _ ⟨g25, rfl, rfl, rfl⟩
   obtain ⟨h28, H1⟩ := gd.of H1
   refine Rg.ed (e_app1 (l := Q10.2.1) (α := Cond) (r19.1, (decide (r22.1 = 0))) (((), ()), ()) Try.underlying54 ty62 rfl rfl (h28.b (by decide)) h28.x rfl (ShpT.wfa _) (.cons Del.here.there.there (.cons Del.here .nil))) rfl (by decide) ?_
   rintro _ _ _ ⟨a26, c27, rfl, rfl, rfl⟩
   refine Rg.q (v := .slice a26 ((Q10.2.1 ++ [(r19.1, (decide (r22.1 = 0)))]).length) c27) (Pu.qo (p_assign rfl)) (by decide) (Rg.nl ?_)
   refine nB (nT (?_))
   refine Tr.region ?_
   refine Rg.q (v := .int .i64 (Q10.2.2)) (Pu.qo (p_move rfl)) (by decide) ?_
   obtain ⟨h29, H1⟩ := gd.of H1
   refine Rg.q (v := .int .i64 (Q10.2.2 - 1)) (Pu.qo (p_sub rfl rfl h29)) (by decide) ?_
   refine Rg.q (v := .int .i64 (Q10.2.2 - 1)) (Pu.qo (p_assign rfl)) (by decide) (Rg.nl ?_)
   exact nLC ⟨(m17, (r22.2, (Q10.2.1 ++ [(r19.1, (decide (r22.1 = 0)))]), Q10.2.2 - 1), (a26, c27)), hi14 _ (Option.some.inj H1).symm⟩ (Nat.lt_succ_self _) ⟨rfl, rfl, rfl, trivial⟩ Ents.refl (.cons Del.here.there (.cons Del.here .nil))
  ·have H1 := cdF h18 H1
   refine tExit (xT (xT (xE (?_))))
   have hx := hb15 _ (Option.some.inj H1).symm; subst hx
   exact nMC (z11.1, z11.2) ⟨rfl, rfl, trivial⟩ Ents.refl (.cons Del.here (.cons Del.here .nil))
 ·intro y12
  show At _ _ [(0, .pointer (some ⟨g_v0, 0, none⟩)), (3, .slice y12.1 x6.2.length y12.2)] _ [box g_v0 134 [.slice x_v0.1.1 v0.1.length x_v0.1.2, .int .i64 (x6.1)], tree (.slice y12.1 x6.2.length y12.2) x6.2] _
  refine nT (?_)
  refine Tr.seq (Tr.seq (Tr.region ?_))
  refine Rg.q (v := .pointer (some ⟨g_v0, 0, none⟩)) (Pu.qo (p_move rfl)) (by decide) ?_
  obtain ⟨r30, h31, H⟩ := bd.of H
  refine Rg.ed (e_callM (vs := [.pointer (some ⟨g_v0, 0, none⟩), .int .i64 (30)]) (c_spec_l6Rd_pick g_v0 (v0.1, x6.1) (x_v0.1, ()) 30 h31) (Solo.box Solo.nil) (fun _ => (Solo.box Solo.nil)) rfl (.cons Del.here .nil) (EntsB.cons (Ent.b Ent.z) EntsB.nil)) rfl (by decide) ?_
  rintro _ _ _ ⟨u32, rfl, rfl, rfl⟩
  refine Rg.nl (nT ?_)
  refine Tr.block ?_
  refine Tr.seq (Tr.region ?_)
  refine Rg.q (v := .bool (decide (r30.1 = 0))) (Pu.qo (p_eql rfl rfl)) (by decide) ?_
  refine Rg.q (v := .bool (decide (r30.1 = 0))) (Pu.qo (p_assign rfl)) (by decide) (Rg.nl (nT ?_))
  refine Tr.cond (b := decide (r30.1 = 0)) rfl (fun h33 => ?_) (fun h33 => ?_)
  ·have H := cdT h33 H
   obtain ⟨x34, hx35, H⟩ := bd.of H
   obtain ⟨n36, hx35⟩ := lp.of hx35
   refine tMidNC (ι := Option Addr × Nat) (fun ψ => [(3, .slice ψ.1 x34.1.length ψ.2)]) (fun ψ => [tree (.slice ψ.1 x34.1.length ψ.2) x34.1, box g_v0 134 [.slice x_v0.1.1 v0.1.length x_v0.1.2, .int .i64 (x34.2)]]) ?_ ?_
   ·refine Tr.block ?_
    refine tLoopC (ι := { q : Nat × (Int × (List Cond)) × (Option Addr × Nat) // itr (p_spec_l71Filter_b1 v0) q.1 q.2.1 = some x34 }) (fun ζ => [(0, .pointer (some ⟨g_v0, 0, none⟩)), (3, .slice ζ.1.2.2.1 ζ.1.2.1.2.length ζ.1.2.2.2)]) (fun ζ => [box g_v0 134 [.slice x_v0.1.1 v0.1.length x_v0.1.2, .int .i64 (ζ.1.2.1.1)], tree (.slice ζ.1.2.2.1 ζ.1.2.1.2.length ζ.1.2.2.2) ζ.1.2.1.2]) (fun ζ => ζ.1.1) ⟨(n36, (r30.2, x6.2), (y12.1, y12.2)), hx35⟩ ⟨rfl, rfl, trivial⟩ (.cons Del.here (.cons Del.here .nil)) ?_
    rintro ⟨⟨m37, Q38, z39⟩, hk44⟩
    obtain ⟨m45, t41, e, H1, hi42, hb43⟩ := itr.of (n := m37) (s := Q38) hk44
    subst e; unfold p_spec_l71Filter_b1 at H1
    show Tr _ _ _ _ _ [(0, .pointer (some ⟨g_v0, 0, none⟩)), (3, .slice z39.1 Q38.2.length z39.2)] _ [box g_v0 134 [.slice x_v0.1.1 v0.1.length x_v0.1.2, .int .i64 (Q38.1)], tree (.slice z39.1 Q38.2.length z39.2) Q38.2]
    refine Tr.seq (Tr.seq (Tr.region ?_))
    refine Rg.q (v := .slice z39.1 Q38.2.length z39.2) (Pu.qo (p_move rfl)) (by decide) ?_
    refine Rg.q (v := .int .i64 ((Q38.2.length : Int))) (Pu.qo (p_len 62 Try.underlying54 rfl)) (by decide) ?_
    refine Rg.q (v := .bool (decide ((Q38.2.length : Int) ≤ 3))) (Pu.qo (p_leq rfl rfl)) (by decide) (Rg.nl (nT ?_))
    refine Tr.cond (b := decide ((Q38.2.length : Int) ≤ 3)) rfl (fun h46 => ?_) (fun h46 => ?_)
    ·have H1 := cdT h46 H1
     refine tSkip ?_
     refine nT (?_)
     refine Tr.block ?_
     refine Tr.region ?_
     refine Rg.q (v := .slice z39.1 Q38.2.length z39.2) (Pu.qo (p_move rfl)) (by decide) ?_
     refine Rg.q (v := .pointer (some ⟨g_v0, 0, none⟩)) (Pu.qo (p_move rfl)) (by decide) ?_
     obtain ⟨r47, h48, H1⟩ := bd.of H1
     refine Rg.ed (e_callM (vs := [.pointer (some ⟨g_v0, 0, none⟩)]) (c_spec_l71Tag g_v0 (v0.1, Q38.1) (x_v0.1, ()) h48) (Solo.box Solo.nil) (fun _ => (Solo.box Solo.nil)) rfl (.cons Del.here .nil) (EntsB.cons (Ent.b Ent.z) EntsB.nil)) rfl (by decide) ?_
     rintro _ _ _ ⟨u49, rfl, rfl, rfl⟩
     refine Rg.q (v := .agg #[.string (r47.1.1), .string (r47.1.2), .bool (false)]) (Pu.qo (p_buildS (vs := [(0, .agg #[.string (r47.1.1), .string (r47.1.2)])]) (cs := #[.string (r47.1.1), .string (r47.1.2), .bool (false)]) ty62 pl62 rfl rfl)) (by decide) ?_
     refine Rg.ed (e_lit (vs := [(0, .agg #[.string (r47.1.1), .string (r47.1.2), .bool (false)])]) [.string (r47.1.1), .string (r47.1.2), .bool (false)] Try.underlying54 ty62 rfl (by decide) (by decide) (by kernel_rfl)) rfl (by decide) ?_
     rintro _ _ _ ⟨g50, rfl, rfl, rfl⟩
     obtain ⟨h53, H1⟩ := gd.of H1
     refine Rg.ed (e_app1 (l := Q38.2) (α := Cond) (r47.1, false) (((), ()), ()) Try.underlying54 ty62 rfl rfl (h53.b (by decide)) h53.x rfl (ShpT.wfa _) (.cons Del.here.there.there (.cons Del.here .nil))) rfl (by decide) ?_
     rintro _ _ _ ⟨a51, c52, rfl, rfl, rfl⟩
     refine Rg.q (v := .slice a51 ((Q38.2 ++ [(r47.1, false)]).length) c52) (Pu.qo (p_assign rfl)) (by decide) (Rg.nl ?_)
     exact nB (nLC ⟨(m45, (r47.2, (Q38.2 ++ [(r47.1, false)])), (a51, c52)), hi42 _ (Option.some.inj H1).symm⟩ (Nat.lt_succ_self _) ⟨rfl, rfl, trivial⟩ Ents.refl (.cons Del.here.there (.cons Del.here .nil)))
    ·have H1 := cdF h46 H1
     refine tExit (xT (xT (xE (?_))))
     have hx := hb43 _ (Option.some.inj H1).symm; subst hx
     exact nMC (z39.1, z39.2) ⟨rfl, trivial⟩ Ents.refl (.cons Del.here.there (.cons Del.here .nil))
   ·intro y40
    show At _ _ [(3, .slice y40.1 x34.1.length y40.2)] _ [tree (.slice y40.1 x34.1.length y40.2) x34.1, box g_v0 134 [.slice x_v0.1.1 v0.1.length x_v0.1.2, .int .i64 (x34.2)]] _
    refine nB (nT (?_))
    refine Tr.seq (Tr.region ?_)
    refine Rg.q (v := .slice y40.1 x34.1.length y40.2) (Pu.qo (p_move rfl)) (by decide) ?_
    refine Rg.q (v := .slice y40.1 x34.1.length y40.2) (Pu.qo (p_assign rfl)) (by decide) (Rg.nl (nT ?_))
    refine tRet ?_
    have hr := Option.some.inj H; subst hr
    exact back1 y40 rfl (ResV.tmp (v := .slice y40.1 x34.1.length y40.2) rfl) rfl Ents.nil (.cons Del.here (.cons Del.here .nil))
  ·have H := cdF h33 H
   refine Tr.seq (Tr.region ?_)
   refine Rg.q (v := .bool (decide (r30.1 = 1))) (Pu.qo (p_eql rfl rfl)) (by decide) ?_
   refine Rg.q (v := .bool (decide (r30.1 = 1))) (Pu.qo (p_assign rfl)) (by decide) (Rg.nl (nT ?_))
   refine Tr.cond (b := decide (r30.1 = 1)) rfl (fun h54 => ?_) (fun h54 => ?_)
   ·have H := cdT h54 H
    refine Tr.region ?_
    refine Rg.q (v := .slice y12.1 x6.2.length y12.2) (Pu.qo (p_move rfl)) (by decide) ?_
    refine Rg.q (v := .agg #[.string ((⟨#[101]⟩ : ByteArray)), .string ((⟨#[112]⟩ : ByteArray))]) (Pu.qo (p_buildS (vs := [(0, .string ((⟨#[101]⟩ : ByteArray))), (1, .string ((⟨#[112]⟩ : ByteArray)))]) (cs := #[.string ((⟨#[101]⟩ : ByteArray)), .string ((⟨#[112]⟩ : ByteArray))]) ty30 pl30 rfl rfl)) (by decide) ?_
    refine Rg.q (v := .agg #[.string ((⟨#[101]⟩ : ByteArray)), .string ((⟨#[112]⟩ : ByteArray)), .bool (false)]) (Pu.qo (p_buildS (vs := [(0, .agg #[.string ((⟨#[101]⟩ : ByteArray)), .string ((⟨#[112]⟩ : ByteArray))])]) (cs := #[.string ((⟨#[101]⟩ : ByteArray)), .string ((⟨#[112]⟩ : ByteArray)), .bool (false)]) ty62 pl62 rfl rfl)) (by decide) ?_
    refine Rg.ed (e_lit (vs := [(0, .agg #[.string ((⟨#[101]⟩ : ByteArray)), .string ((⟨#[112]⟩ : ByteArray)), .bool (false)])]) [.string ((⟨#[101]⟩ : ByteArray)), .string ((⟨#[112]⟩ : ByteArray)), .bool (false)] Try.underlying54 ty62 rfl (by decide) (by decide) (by kernel_rfl)) rfl (by decide) ?_
    rintro _ _ _ ⟨g55, rfl, rfl, rfl⟩
    obtain ⟨h58, H⟩ := gd.of H
    refine Rg.ed (e_app1 (l := x6.2) (α := Cond) (((⟨#[101]⟩ : ByteArray), (⟨#[112]⟩ : ByteArray)), false) (((), ()), ()) Try.underlying54 ty62 rfl rfl (h58.b (by decide)) h58.x rfl (ShpT.wfa _) (.cons Del.here.there.there (.cons Del.here .nil))) rfl (by decide) ?_
    rintro _ _ _ ⟨a56, c57, rfl, rfl, rfl⟩
    refine Rg.q (v := .slice a56 ((x6.2 ++ [(((⟨#[101]⟩ : ByteArray), (⟨#[112]⟩ : ByteArray)), false)]).length) c57) (Pu.qo (p_assign rfl)) (by decide) (Rg.nl ?_)
    refine nB (nT (?_))
    refine Tr.seq (Tr.region ?_)
    refine Rg.q (v := .slice a56 ((x6.2 ++ [(((⟨#[101]⟩ : ByteArray), (⟨#[112]⟩ : ByteArray)), false)]).length) c57) (Pu.qo (p_move rfl)) (by decide) ?_
    refine Rg.q (v := .slice a56 ((x6.2 ++ [(((⟨#[101]⟩ : ByteArray), (⟨#[112]⟩ : ByteArray)), false)]).length) c57) (Pu.qo (p_assign rfl)) (by decide) (Rg.nl (nT ?_))
    refine tRet ?_
    have hr := Option.some.inj H; subst hr
    exact back1 (a56, c57) rfl (ResV.tmp (v := .slice a56 ((x6.2 ++ [(((⟨#[101]⟩ : ByteArray), (⟨#[112]⟩ : ByteArray)), false)]).length) c57) rfl) rfl Ents.nil (.cons Del.here (.cons Del.here .nil))
   ·have H := cdF h54 H
    refine tSkip ?_
    refine nB (nT (?_))
    refine Tr.seq (Tr.region ?_)
    refine Rg.q (v := .slice y12.1 x6.2.length y12.2) (Pu.qo (p_move rfl)) (by decide) ?_
    refine Rg.q (v := .slice y12.1 x6.2.length y12.2) (Pu.qo (p_assign rfl)) (by decide) (Rg.nl (nT ?_))
    refine tRet ?_
    have hr := Option.some.inj H; subst hr
    exact back1 y12 rfl (ResV.tmp (v := .slice y12.1 x6.2.length y12.2) rfl) rfl Ents.nil (.cons Del.here.there (.cons Del.here .nil))
noncomputable def p_spec_FilterOk_b0 (v0 : (List Cond)) (Q5 : Int) : Option ((Int) ⊕ (Unit ⊕ Bool)) := cond (decide (Q5 < (v0.length : Int))) (gd (ix Q5 v0.length) <| bd (p_spec_l3Tag ((nth v0 Q5.toNat).1)) fun r15 => cond (!r15) (some (.inr (.inr false))) (gd (I64 (Q5 + 1)) <| some (.inl (Q5 + 1)))) (some (.inr (.inl ())))
noncomputable def p_spec_FilterOk (v0 : (List Cond)) : Option (Bool) := bd (lp (p_spec_FilterOk_b0 v0) 0) <| sw (fun _ => some (decide ((v0.length : Int) ≤ 3))) (fun q => some q)
theorem c_spec_FilterOk {r : Bool} (v0 : (List Cond)) (x_v0 : Option Addr × Nat) (H : p_spec_FilterOk v0 = some r) : Fn' Try.prog 36 #[.slice x_v0.1 v0.length x_v0.2] [imm (.slice x_v0.1 v0.length x_v0.2) v0] [] (ι := Unit) (fun _ => .bool (r)) (fun _ => []) (fun _ => []) := by
 refine calls_of (args := [_]) Try.func36 rfl (by kernel_rfl) Try.ntmps36 (by simp) fun c => ?_
 unfold p_spec_FilterOk at H
 refine Tr.seq (Tr.region ?_)
 refine Rg.q (v := .bool (false)) (Pu.qo (p_assign rfl)) (by decide) (Rg.nl (nT ?_))
 refine Tr.seq (Tr.seq (Tr.region ?_))
 refine Rg.q (v := .int .i64 (0)) (Pu.qo (p_assign rfl)) (by decide) (Rg.nl (nT ?_))
 obtain ⟨x1, hx2, H⟩ := bd.of H
 obtain ⟨n3, hx2⟩ := lp.of hx2
 refine tMidNC (ι := { q : (Unit) × Unit // x1 = .inl q.1 }) (fun ψ => [(0, .slice x_v0.1 v0.length x_v0.2)]) (fun ψ => []) ?_ ?_
 ·refine Tr.block ?_
  refine tLoopC (ι := { q : Nat × (Int) × Unit // itr (p_spec_FilterOk_b0 v0) q.1 q.2.1 = some x1 }) (fun ζ => [(0, .slice x_v0.1 v0.length x_v0.2), (3, .int .i64 (ζ.1.2.1))]) (fun ζ => []) (fun ζ => ζ.1.1) ⟨(n3, 0, ()), hx2⟩ ⟨rfl, rfl, trivial⟩ Take.nil ?_
  rintro ⟨⟨m4, Q5, z6⟩, hk11⟩
  obtain ⟨m12, t8, e, H1, hi9, hb10⟩ := itr.of (n := m4) (s := Q5) hk11
  subst e; unfold p_spec_FilterOk_b0 at H1
  show Tr _ _ _ _ _ [(0, .slice x_v0.1 v0.length x_v0.2), (3, .int .i64 (Q5))] _ []
  refine Tr.seq (Tr.seq (Tr.region ?_))
  refine Rg.q (v := .int .i64 (Q5)) (Pu.qo (p_move rfl)) (by decide) ?_
  refine Rg.q (v := .slice x_v0.1 v0.length x_v0.2) (Pu.qo (p_move rfl)) (by decide) ?_
  refine Rg.q (v := .int .i64 ((v0.length : Int))) (Pu.qo (p_len 62 Try.underlying54 rfl)) (by decide) ?_
  refine Rg.q (v := .bool (decide (Q5 < (v0.length : Int)))) (Pu.qo (p_lss rfl rfl)) (by decide) (Rg.nl (nT ?_))
  refine Tr.cond (b := decide (Q5 < (v0.length : Int))) rfl (fun h13 => ?_) (fun h13 => ?_)
  ·have H1 := cdT h13 H1
   refine tSkip ?_
   refine nT (Tr.seq ?_)
   refine Tr.block ?_
   refine Tr.seq (Tr.region ?_)
   refine Rg.q (v := .slice x_v0.1 v0.length x_v0.2) (Pu.qo (p_move rfl)) (by decide) ?_
   refine Rg.q (v := .int .i64 (Q5)) (Pu.qo (p_move rfl)) (by decide) ?_
   obtain ⟨h14, H1⟩ := gd.of H1
   refine Rg.q (v := elp x_v0.1 (Q5.toNat * Enc.sz Cond + 0)) (q_ixg (l := v0) (E := fun i => Flat.enc (nth v0 i)) (oa := x_v0.1) Try.underlying54 ty62 rfl rfl h14 rfl (EntB.flat (Ent.b Ent.z))) (by decide) ?_
   refine Rg.q (v := elp x_v0.1 (Q5.toNat * Enc.sz Cond + 0)) (q_faeE (l := v0) (E := fun i => Flat.enc (nth v0 i)) (oa := x_v0.1) (j := 0) Q5.toNat fa62_0 rfl (EntB.flat (Ent.b Ent.z)) h14.lt rfl) (by decide) ?_
   refine Rg.q (v := .agg #[.string (((nth v0 Q5.toNat).1).1), .string (((nth v0 Q5.toNat).1).2)]) (q_ldeP [.string (((nth v0 Q5.toNat).1).1), .string (((nth v0 Q5.toNat).1).2)] (l := v0) (E := fun i => Flat.enc (nth v0 i)) (oa := x_v0.1) (i := Q5.toNat) (j := 0) ty30 rfl (EntB.flat (Ent.b Ent.z)) h14.lt rfl rfl) (by decide) ?_
   obtain ⟨r15, h16, H1⟩ := bd.of H1
   refine Rg.q (v := .bool (r15)) (q_call (vs := [.agg #[.string (((nth v0 Q5.toNat).1).1), .string (((nth v0 Q5.toNat).1).2)]]) (c_spec_l3Tag ((nth v0 Q5.toNat).1) h16) rfl EntsB.nil) (by decide) ?_
   refine Rg.q (v := .bool (!r15)) (Pu.qo (p_not rfl)) (by decide) (Rg.nl (nT ?_))
   refine Tr.cond (b := !r15) rfl (fun h17 => ?_) (fun h17 => ?_)
   ·have H1 := cdT h17 H1
    refine Tr.seq (Tr.region ?_)
    refine Rg.q (v := .bool (false)) (Pu.qo (p_assign rfl)) (by decide) (Rg.nl (nT ?_))
    refine tRet ?_
    refine rB (rT (rT (rB (rT (rT (?_))))))
    have hx := hb10 _ (Option.some.inj H1).symm; subst hx
    replace H := sw.r H
    have hr := Option.some.inj H; subst hr
    exact back1 () rfl (ResV.tmp (v := .bool (false)) rfl) rfl Ents.nil Take.nil
   ·have H1 := cdF h17 H1
    refine tSkip ?_
    refine nB (nT (?_))
    refine Tr.region ?_
    refine Rg.q (v := .int .i64 (Q5)) (Pu.qo (p_move rfl)) (by decide) ?_
    obtain ⟨h18, H1⟩ := gd.of H1
    refine Rg.q (v := .int .i64 (Q5 + 1)) (Pu.qo (p_add rfl rfl h18)) (by decide) ?_
    refine Rg.q (v := .int .i64 (Q5 + 1)) (Pu.qo (p_assign rfl)) (by decide) (Rg.nl ?_)
    exact nLC ⟨(m12, Q5 + 1, ()), hi9 _ (Option.some.inj H1).symm⟩ (Nat.lt_succ_self _) ⟨rfl, rfl, trivial⟩ Ents.refl Take.nil
  ·have H1 := cdF h13 H1
   refine tExit (xT (xT (xE (?_))))
   exact nMC ⟨((), ()), (hb10 _ (Option.some.inj H1).symm).symm⟩ ⟨rfl, trivial⟩ Ents.refl Take.nil
 ·rintro ⟨⟨e19, y7⟩, hx⟩; subst hx; replace H := sw.l H
  show At _ _ [(0, .slice x_v0.1 v0.length x_v0.2)] _ [] _
  refine nT (?_)
  refine Tr.seq (Tr.region ?_)
  refine Rg.q (v := .slice x_v0.1 v0.length x_v0.2) (Pu.qo (p_move rfl)) (by decide) ?_
  refine Rg.q (v := .int .i64 ((v0.length : Int))) (Pu.qo (p_len 62 Try.underlying54 rfl)) (by decide) ?_
  refine Rg.q (v := .bool (decide ((v0.length : Int) ≤ 3))) (Pu.qo (p_leq rfl rfl)) (by decide) ?_
  refine Rg.q (v := .bool (decide ((v0.length : Int) ≤ 3))) (Pu.qo (p_assign rfl)) (by decide) (Rg.nl (nT ?_))
  refine tRet ?_
  have hr := Option.some.inj H; subst hr
  exact back1 () rfl (ResV.tmp (v := .bool (decide ((v0.length : Int) ≤ 3))) rfl) rfl Ents.nil Take.nil
noncomputable def p_spec_l3Fits_b0 (v0 : (List Cond)) (v1 : (List Tag)) (Q5 : Int) : Option ((Int) ⊕ (Unit ⊕ Bool)) := cond (decide (Q5 < (v0.length : Int))) (gd (ix Q5 v0.length) <| bd (p_spec_l3Has v1 ((nth v0 Q5.toNat).1)) fun r15 => cond (decide (r15 = ((nth v0 Q5.toNat).2))) (some (.inr (.inr false))) (gd (I64 (Q5 + 1)) <| some (.inl (Q5 + 1)))) (some (.inr (.inl ())))
noncomputable def p_spec_l3Fits (v0 : (List Cond)) (v1 : (List Tag)) : Option (Bool) := bd (lp (p_spec_l3Fits_b0 v0 v1) 0) <| sw (fun _ => some true) (fun q => some q)
theorem c_spec_l3Fits {r : Bool} (v0 : (List Cond)) (x_v0 : Option Addr × Nat) (v1 : (List Tag)) (x_v1 : Option Addr × Nat) (H : p_spec_l3Fits v0 v1 = some r) : Fn' Try.prog 128 #[.slice x_v0.1 v0.length x_v0.2, .slice x_v1.1 v1.length x_v1.2] [imm (.slice x_v0.1 v0.length x_v0.2) v0, imm (.slice x_v1.1 v1.length x_v1.2) v1] [] (ι := Unit) (fun _ => .bool (r)) (fun _ => []) (fun _ => []) := by
 refine calls_of (args := [_, _]) Try.func128 rfl (by kernel_rfl) Try.ntmps128 (by simp) fun c => ?_
 unfold p_spec_l3Fits at H
 refine Tr.seq (Tr.region ?_)
 refine Rg.q (v := .bool (false)) (Pu.qo (p_assign rfl)) (by decide) (Rg.nl (nT ?_))
 refine Tr.seq (Tr.seq (Tr.region ?_))
 refine Rg.q (v := .int .i64 (0)) (Pu.qo (p_assign rfl)) (by decide) (Rg.nl (nT ?_))
 obtain ⟨x1, hx2, H⟩ := bd.of H
 obtain ⟨n3, hx2⟩ := lp.of hx2
 refine tMidNC (ι := { q : (Unit) × Unit // x1 = .inl q.1 }) (fun ψ => []) (fun ψ => []) ?_ ?_
 ·refine Tr.block ?_
  refine tLoopC (ι := { q : Nat × (Int) × Unit // itr (p_spec_l3Fits_b0 v0 v1) q.1 q.2.1 = some x1 }) (fun ζ => [(0, .slice x_v0.1 v0.length x_v0.2), (1, .slice x_v1.1 v1.length x_v1.2), (5, .int .i64 (ζ.1.2.1))]) (fun ζ => []) (fun ζ => ζ.1.1) ⟨(n3, 0, ()), hx2⟩ ⟨rfl, rfl, rfl, trivial⟩ Take.nil ?_
  rintro ⟨⟨m4, Q5, z6⟩, hk11⟩
  obtain ⟨m12, t8, e, H1, hi9, hb10⟩ := itr.of (n := m4) (s := Q5) hk11
  subst e; unfold p_spec_l3Fits_b0 at H1
  show Tr _ _ _ _ _ [(0, .slice x_v0.1 v0.length x_v0.2), (1, .slice x_v1.1 v1.length x_v1.2), (5, .int .i64 (Q5))] _ []
  refine Tr.seq (Tr.seq (Tr.region ?_))
  refine Rg.q (v := .int .i64 (Q5)) (Pu.qo (p_move rfl)) (by decide) ?_
  refine Rg.q (v := .slice x_v0.1 v0.length x_v0.2) (Pu.qo (p_move rfl)) (by decide) ?_
  refine Rg.q (v := .int .i64 ((v0.length : Int))) (Pu.qo (p_len 62 Try.underlying54 rfl)) (by decide) ?_
  refine Rg.q (v := .bool (decide (Q5 < (v0.length : Int)))) (Pu.qo (p_lss rfl rfl)) (by decide) (Rg.nl (nT ?_))
  refine Tr.cond (b := decide (Q5 < (v0.length : Int))) rfl (fun h13 => ?_) (fun h13 => ?_)
  ·have H1 := cdT h13 H1
   refine tSkip ?_
   refine nT (Tr.seq ?_)
   refine Tr.block ?_
   refine Tr.seq ?_
   refine tLinS [(0, .slice x_v0.1 v0.length x_v0.2), (1, .slice x_v1.1 v1.length x_v1.2), (5, .int .i64 (Q5))] Try.mixed (.inr (by kernel_rfl)) ⟨rfl, rfl, rfl, trivial⟩ rfl ?_
   refine Lin.q (v := .slice x_v1.1 v1.length x_v1.2) (by decide) (Pu.qo (p_move rfl)) ?_
   refine Lin.q (v := .slice x_v0.1 v0.length x_v0.2) (by decide) (Pu.qo (p_move rfl)) ?_
   refine Lin.q (v := .int .i64 (Q5)) (by decide) (Pu.qo (p_move rfl)) ?_
   obtain ⟨h14, H1⟩ := gd.of H1
   refine Lin.q (v := elp x_v0.1 (Q5.toNat * Enc.sz Cond + 0)) (by decide) (q_ixg (l := v0) (E := fun i => Flat.enc (nth v0 i)) (oa := x_v0.1) Try.underlying54 ty62 rfl rfl h14 rfl (EntB.flat (Ent.b Ent.z))) ?_
   refine Lin.q (v := elp x_v0.1 (Q5.toNat * Enc.sz Cond + 0)) (by decide) (q_faeE (l := v0) (E := fun i => Flat.enc (nth v0 i)) (oa := x_v0.1) (j := 0) Q5.toNat fa62_0 rfl (EntB.flat (Ent.b Ent.z)) h14.lt rfl) ?_
   refine Lin.q (v := .agg #[.string (((nth v0 Q5.toNat).1).1), .string (((nth v0 Q5.toNat).1).2)]) (by decide) (q_ldeP [.string (((nth v0 Q5.toNat).1).1), .string (((nth v0 Q5.toNat).1).2)] (l := v0) (E := fun i => Flat.enc (nth v0 i)) (oa := x_v0.1) (i := Q5.toNat) (j := 0) ty30 rfl (EntB.flat (Ent.b Ent.z)) h14.lt rfl rfl) ?_
   obtain ⟨r15, h16, H1⟩ := bd.of H1
   refine Lin.q (v := .bool (r15)) (by decide) (q_call (vs := [.slice x_v1.1 v1.length x_v1.2, .agg #[.string (((nth v0 Q5.toNat).1).1), .string (((nth v0 Q5.toNat).1).2)]]) (c_spec_l3Has v1 x_v1 ((nth v0 Q5.toNat).1) h16) rfl (EntsB.cons (Ent.b Ent.z.s) EntsB.nil)) ?_
   refine Lin.q (v := .slice x_v0.1 v0.length x_v0.2) (by decide) (Pu.qo (p_move rfl)) ?_
   refine Lin.q (v := .int .i64 (Q5)) (by decide) (Pu.qo (p_move rfl)) ?_
   refine Lin.q (v := elp x_v0.1 (Q5.toNat * Enc.sz Cond + 0)) (by decide) (q_ixg (l := v0) (E := fun i => Flat.enc (nth v0 i)) (oa := x_v0.1) Try.underlying54 ty62 rfl rfl h14 rfl (EntB.flat (Ent.b Ent.z))) ?_
   refine Lin.q (v := elp x_v0.1 (Q5.toNat * Enc.sz Cond + 2)) (by decide) (q_faeE (l := v0) (E := fun i => Flat.enc (nth v0 i)) (oa := x_v0.1) (j := 0) Q5.toNat fa62_1 rfl (EntB.flat (Ent.b Ent.z)) h14.lt rfl) ?_
   refine Lin.q (v := .bool ((nth v0 Q5.toNat).2)) (by decide) (q_lde (l := v0) (E := fun i => Flat.enc (nth v0 i)) (oa := x_v0.1) (i := Q5.toNat) (j := 2) ty4 rfl (EntB.flat (Ent.b Ent.z)) h14.lt rfl) ?_
   refine Lin.q (v := .bool (decide (r15 = ((nth v0 Q5.toNat).2)))) (by decide) (Pu.qo (p_beql Try.underlying4 rfl rfl)) ?_
   show At _ _ _ _ _ _
   refine nT (?_)
   refine Tr.cond (b := decide (r15 = ((nth v0 Q5.toNat).2))) rfl (fun h17 => ?_) (fun h17 => ?_)
   ·have H1 := cdT h17 H1
    refine Tr.seq (Tr.region ?_)
    refine Rg.q (v := .bool (false)) (Pu.qo (p_assign rfl)) (by decide) (Rg.nl (nT ?_))
    refine tRet ?_
    refine rB (rT (rT (rB (rT (rT (?_))))))
    have hx := hb10 _ (Option.some.inj H1).symm; subst hx
    replace H := sw.r H
    have hr := Option.some.inj H; subst hr
    exact back1 () rfl (ResV.tmp (v := .bool (false)) rfl) rfl Ents.nil Take.nil
   ·have H1 := cdF h17 H1
    refine tSkip ?_
    refine nB (nT (?_))
    refine Tr.region ?_
    refine Rg.q (v := .int .i64 (Q5)) (Pu.qo (p_move rfl)) (by decide) ?_
    obtain ⟨h18, H1⟩ := gd.of H1
    refine Rg.q (v := .int .i64 (Q5 + 1)) (Pu.qo (p_add rfl rfl h18)) (by decide) ?_
    refine Rg.q (v := .int .i64 (Q5 + 1)) (Pu.qo (p_assign rfl)) (by decide) (Rg.nl ?_)
    exact nLC ⟨(m12, Q5 + 1, ()), hi9 _ (Option.some.inj H1).symm⟩ (Nat.lt_succ_self _) ⟨rfl, rfl, rfl, trivial⟩ Ents.refl Take.nil
  ·have H1 := cdF h13 H1
   refine tExit (xT (xT (xE (?_))))
   exact nMC ⟨((), ()), (hb10 _ (Option.some.inj H1).symm).symm⟩ trivial Ents.refl Take.nil
 ·rintro ⟨⟨e19, y7⟩, hx⟩; subst hx; replace H := sw.l H
  show At _ _ [] _ [] _
  refine nT (?_)
  refine Tr.seq (Tr.region ?_)
  refine Rg.q (v := .bool (true)) (Pu.qo (p_assign rfl)) (by decide) (Rg.nl (nT ?_))
  refine tRet ?_
  have hr := Option.some.inj H; subst hr
  exact back1 () rfl (ResV.tmp (v := .bool (true)) rfl) rfl Ents.nil Take.nil
noncomputable def p_spec_l11Find_b0 (v0 : Index) (v1 : (List Cond)) (Q10 : (List Int) × Int) : Option (((List Int) × Int) ⊕ ((List Int))) := cond (decide (Q10.2 < (v0.1.length : Int))) (gd (ix Q10.2 v0.1.length) <| bd (p_spec_l3Fits v1 (nth v0.1 Q10.2.toNat)) fun r20 => cond (r20) (gd (I64 (Q10.2 + 1)) <| gd (room (Q10.1.length + 1)) <| some (.inl ((Q10.1 ++ [Q10.2 + 1]), Q10.2 + 1))) (gd (I64 (Q10.2 + 1)) <| some (.inl (Q10.1, Q10.2 + 1)))) (some (.inr Q10.1))
noncomputable def p_spec_l11Find (v0 : Index) (v1 : (List Cond)) : Option ((List Int)) := bd (lp (p_spec_l11Find_b0 v0 v1) (([] : List Int), 0)) fun x6 => some x6
theorem c_spec_l11Find {r : (List Int)} (v0 : Index) (x_v0 : (Option Addr × Nat) × (Option Addr × Nat)) (v1 : (List Cond)) (x_v1 : Option Addr × Nat) (H : p_spec_l11Find v0 v1 = some r) : Fn' Try.prog 87 #[.agg #[.slice x_v0.1.1 v0.1.length x_v0.1.2, .slice x_v0.2.1 v0.2.length x_v0.2.2], .slice x_v1.1 v1.length x_v1.2] [imm (.slice x_v0.1.1 v0.1.length x_v0.1.2) v0.1, imm (.slice x_v0.2.1 v0.2.length x_v0.2.2) v0.2, imm (.slice x_v1.1 v1.length x_v1.2) v1] [] (ι := Option Addr × Nat) (fun x => .slice x.1 r.length x.2) (fun _ => []) (fun x => [tree (.slice x.1 r.length x.2) r]) := by
 refine calls_of (args := [_, _]) Try.func87 rfl (by kernel_rfl) Try.ntmps87 (by simp) fun c => ?_
 unfold p_spec_l11Find at H
 refine Tr.openD Ent.z fun X1 => ?_
 refine Tr.openD Ent.z.s.s fun X2 => ?_
 refine Tr.seq (Tr.region ?_)
 refine Rg.ed (e_box (t := 26) (v := .agg #[.slice x_v0.1.1 v0.1.length x_v0.1.2, .slice x_v0.2.1 v0.2.length x_v0.2.2]) rfl) rfl (by decide) ?_
 rintro _ _ _ ⟨g3, rfl, rfl, rfl⟩
 refine Rg.q (v := .slice none 0 0) (Pu.qo (p_assign rfl)) (by decide) (Rg.nl (nT ?_))
 refine Tr.seq (Tr.region ?_)
 refine Rg.ed (e_lit0 Int Try.underlying31 ty3) rfl (by decide) ?_
 rintro _ _ _ ⟨a4, c5, rfl, rfl, rfl⟩
 refine Rg.q (v := .slice a4 (([] : List Int).length) c5) (Pu.qo (p_assign rfl)) (by decide) (Rg.nl (nT ?_))
 refine Tr.seq (Tr.seq (Tr.region ?_))
 refine Rg.q (v := .int .i64 (0)) (Pu.qo (p_assign rfl)) (by decide) (Rg.nl (nT ?_))
 obtain ⟨x6, hx7, H⟩ := bd.of H
 obtain ⟨n8, hx7⟩ := lp.of hx7
 refine tMidNC (ι := Option Addr × Nat) (fun ψ => [(5, .slice ψ.1 x6.length ψ.2)]) (fun ψ => [tree (.slice ψ.1 x6.length ψ.2) x6]) ?_ ?_
 ·refine Tr.block ?_
  refine tLoopC (ι := { q : Nat × ((List Int) × Int) × (Option Addr × Nat) // itr (p_spec_l11Find_b0 v0 v1) q.1 q.2.1 = some x6 }) (fun ζ => [(1, .slice x_v1.1 v1.length x_v1.2), (2, .pointer (some ⟨g3, 0, none⟩)), (5, .slice ζ.1.2.2.1 ζ.1.2.1.1.length ζ.1.2.2.2), (6, .int .i64 (ζ.1.2.1.2))]) (fun ζ => [box g3 26 [.slice x_v0.1.1 v0.1.length x_v0.1.2, .slice x_v0.2.1 v0.2.length x_v0.2.2], tree (.slice ζ.1.2.2.1 ζ.1.2.1.1.length ζ.1.2.2.2) ζ.1.2.1.1]) (fun ζ => ζ.1.1) ⟨(n8, (([] : List Int), 0), (a4, c5)), hx7⟩ ⟨rfl, rfl, rfl, rfl, trivial⟩ (.cons Del.here.there (.cons Del.here .nil)) ?_
  rintro ⟨⟨m9, Q10, z11⟩, hk16⟩
  obtain ⟨m17, t13, e, H1, hi14, hb15⟩ := itr.of (n := m9) (s := Q10) hk16
  subst e; unfold p_spec_l11Find_b0 at H1
  show Tr _ _ _ _ _ [(1, .slice x_v1.1 v1.length x_v1.2), (2, .pointer (some ⟨g3, 0, none⟩)), (5, .slice z11.1 Q10.1.length z11.2), (6, .int .i64 (Q10.2))] _ [box g3 26 [.slice x_v0.1.1 v0.1.length x_v0.1.2, .slice x_v0.2.1 v0.2.length x_v0.2.2], tree (.slice z11.1 Q10.1.length z11.2) Q10.1]
  refine Tr.seq (Tr.seq (Tr.region ?_))
  refine Rg.q (v := .int .i64 (Q10.2)) (Pu.qo (p_move rfl)) (by decide) ?_
  refine Rg.q (v := .pointer (some ⟨g3, 0, none⟩)) (Pu.qo (p_fabE fa26_0 rfl rfl)) (by decide) ?_
  refine Rg.q (v := .slice x_v0.1.1 v0.1.length x_v0.1.2) (q_ldb ty23 rfl Has.here rfl) (by decide) ?_
  refine Rg.q (v := .int .i64 ((v0.1.length : Int))) (Pu.qo (p_len 38 Try.underlying23 rfl)) (by decide) ?_
  refine Rg.q (v := .bool (decide (Q10.2 < (v0.1.length : Int)))) (Pu.qo (p_lss rfl rfl)) (by decide) (Rg.nl (nT ?_))
  refine Tr.cond (b := decide (Q10.2 < (v0.1.length : Int))) rfl (fun h18 => ?_) (fun h18 => ?_)
  ·have H1 := cdT h18 H1
   refine tSkip ?_
   refine nT (Tr.seq ?_)
   refine Tr.block ?_
   refine Tr.seq (Tr.region ?_)
   refine Rg.q (v := .slice x_v1.1 v1.length x_v1.2) (Pu.qo (p_move rfl)) (by decide) ?_
   refine Rg.q (v := .pointer (some ⟨g3, 0, none⟩)) (Pu.qo (p_fabE fa26_0 rfl rfl)) (by decide) ?_
   refine Rg.q (v := .slice x_v0.1.1 v0.1.length x_v0.1.2) (q_ldb ty23 rfl Has.here rfl) (by decide) ?_
   refine Rg.q (v := .int .i64 (Q10.2)) (Pu.qo (p_move rfl)) (by decide) ?_
   obtain ⟨h19, H1⟩ := gd.of H1
   refine Rg.q (v := elp x_v0.1.1 (Q10.2.toNat * Enc.sz (List Tag) + 0)) (q_ixg (l := v0.1) (E := fun i => Dp.denc (nth v0.1 i) (X1 i)) (oa := x_v0.1.1) Try.underlying23 ty38 rfl rfl h19 rfl (Ent.b (Ent.darr Ent.z.s))) (by decide) ?_
   refine Rg.q (v := .slice ((X1 Q10.2.toNat).1) ((nth v0.1 Q10.2.toNat).length) ((X1 Q10.2.toNat).2.1)) (q_lde (l := v0.1) (E := fun i => Dp.denc (nth v0.1 i) (X1 i)) (oa := x_v0.1.1) (i := Q10.2.toNat) (j := 0) ty38 rfl (Ent.b (Ent.darr Ent.z.s)) h19.lt rfl) (by decide) ?_
   obtain ⟨r20, h21, H1⟩ := bd.of H1
   refine Rg.q (v := .bool (r20)) (q_call (vs := [.slice x_v1.1 v1.length x_v1.2, .slice ((X1 Q10.2.toNat).1) ((nth v0.1 Q10.2.toNat).length) ((X1 Q10.2.toNat).2.1)]) (c_spec_l3Fits v1 x_v1 (nth v0.1 Q10.2.toNat) ((X1 Q10.2.toNat).1, (X1 Q10.2.toNat).2.1) h21) rfl (EntsB.cons (Ent.b Ent.z.s.s.s.s) (EntsB.cons (Ent.b (Ent.dimm (Ent.del Ent.z.s h19.lt))) EntsB.nil))) (by decide) (Rg.nl (nT ?_))
   refine Tr.cond (b := r20) rfl (fun h22 => ?_) (fun h22 => ?_)
   ·have H1 := cdT h22 H1
    refine Tr.region ?_
    refine Rg.q (v := .slice z11.1 Q10.1.length z11.2) (Pu.qo (p_move rfl)) (by decide) ?_
    refine Rg.q (v := .int .i64 (Q10.2)) (Pu.qo (p_move rfl)) (by decide) ?_
    obtain ⟨h23, H1⟩ := gd.of H1
    refine Rg.q (v := .int .i64 (Q10.2 + 1)) (Pu.qo (p_add rfl rfl h23)) (by decide) ?_
    refine Rg.ed (e_lit (vs := [(0, .int .i64 (Q10.2 + 1))]) [.int .i64 (Q10.2 + 1)] Try.underlying31 ty3 rfl (by decide) (by decide) (by kernel_rfl)) rfl (by decide) ?_
    rintro _ _ _ ⟨g24, rfl, rfl, rfl⟩
    obtain ⟨h27, H1⟩ := gd.of H1
    refine Rg.ed (e_app1 (l := Q10.1) (α := Int) (Q10.2 + 1) () Try.underlying31 ty3 rfl rfl (h27.b (by decide)) h27.x rfl (ShpT.wfa _) (.cons Del.here.there.there (.cons Del.here .nil))) rfl (by decide) ?_
    rintro _ _ _ ⟨a25, c26, rfl, rfl, rfl⟩
    refine Rg.q (v := .slice a25 ((Q10.1 ++ [Q10.2 + 1]).length) c26) (Pu.qo (p_assign rfl)) (by decide) (Rg.nl ?_)
    refine nB (nT (?_))
    refine Tr.region ?_
    refine Rg.q (v := .int .i64 (Q10.2)) (Pu.qo (p_move rfl)) (by decide) ?_
    refine Rg.q (v := .int .i64 (Q10.2 + 1)) (Pu.qo (p_add rfl rfl h23)) (by decide) ?_
    refine Rg.q (v := .int .i64 (Q10.2 + 1)) (Pu.qo (p_assign rfl)) (by decide) (Rg.nl ?_)
    exact nLC ⟨(m17, ((Q10.1 ++ [Q10.2 + 1]), Q10.2 + 1), (a25, c26)), hi14 _ (Option.some.inj H1).symm⟩ (Nat.lt_succ_self _) ⟨rfl, rfl, rfl, rfl, trivial⟩ Ents.refl (.cons Del.here.there (.cons Del.here .nil))
   ·have H1 := cdF h22 H1
    refine tSkip ?_
    refine nB (nT (?_))
    refine Tr.region ?_
    refine Rg.q (v := .int .i64 (Q10.2)) (Pu.qo (p_move rfl)) (by decide) ?_
    obtain ⟨h28, H1⟩ := gd.of H1
    refine Rg.q (v := .int .i64 (Q10.2 + 1)) (Pu.qo (p_add rfl rfl h28)) (by decide) ?_
    refine Rg.q (v := .int .i64 (Q10.2 + 1)) (Pu.qo (p_assign rfl)) (by decide) (Rg.nl ?_)
    exact nLC ⟨(m17, (Q10.1, Q10.2 + 1), (z11.1, z11.2)), hi14 _ (Option.some.inj H1).symm⟩ (Nat.lt_succ_self _) ⟨rfl, rfl, rfl, rfl, trivial⟩ Ents.refl (.cons Del.here (.cons Del.here .nil))
  ·have H1 := cdF h18 H1
   refine tExit (xT (xT (xE (?_))))
   have hx := hb15 _ (Option.some.inj H1).symm; subst hx
   exact nMC (z11.1, z11.2) ⟨rfl, trivial⟩ Ents.refl (.cons Del.here.there .nil)
 ·intro y12
  show At _ _ [(5, .slice y12.1 x6.length y12.2)] _ [tree (.slice y12.1 x6.length y12.2) x6] _
  refine nT (?_)
  refine Tr.seq (Tr.region ?_)
  refine Rg.q (v := .slice y12.1 x6.length y12.2) (Pu.qo (p_move rfl)) (by decide) ?_
  refine Rg.q (v := .slice y12.1 x6.length y12.2) (Pu.qo (p_assign rfl)) (by decide) (Rg.nl (nT ?_))
  refine tRet ?_
  have hr := Option.some.inj H; subst hr
  exact back1 y12 rfl (ResV.tmp (v := .slice y12.1 x6.length y12.2) rfl) rfl Ents.nil (.cons Del.here .nil)
noncomputable def p_spec_IndexFind (v0 : Index) (v1 : (List Cond)) : Option ((List Int)) := bd (bd (p_spec_IndexOk v0) fun r6 => cond (!r6) (some (true)) (bd (p_spec_FilterOk v1) fun r9 => some (!r9))) fun b4 => cond (b4) (some ([] : List Int)) (bd (p_spec_l11Find v0 v1) fun r14 => some r14)
theorem c_spec_IndexFind {r : (List Int)} (v0 : Index) (x_v0 : (Option Addr × Nat) × (Option Addr × Nat)) (v1 : (List Cond)) (x_v1 : Option Addr × Nat) (H : p_spec_IndexFind v0 v1 = some r) : Fn' Try.prog 35 #[.agg #[.slice x_v0.1.1 v0.1.length x_v0.1.2, .slice x_v0.2.1 v0.2.length x_v0.2.2], .slice x_v1.1 v1.length x_v1.2] [imm (.slice x_v0.1.1 v0.1.length x_v0.1.2) v0.1, imm (.slice x_v0.2.1 v0.2.length x_v0.2.2) v0.2, imm (.slice x_v1.1 v1.length x_v1.2) v1] [] (ι := Option Addr × Nat) (fun x => .slice x.1 r.length x.2) (fun _ => []) (fun x => [tree (.slice x.1 r.length x.2) r]) := by
 refine calls_of (args := [_, _]) Try.func35 rfl (by kernel_rfl) Try.ntmps35 (by simp) fun c => ?_
 unfold p_spec_IndexFind at H
 refine Tr.openD Ent.z fun X1 => ?_
 refine Tr.openD Ent.z.s.s fun X2 => ?_
 refine Tr.seq (Tr.region ?_)
 refine Rg.ed (e_box (t := 26) (v := .agg #[.slice x_v0.1.1 v0.1.length x_v0.1.2, .slice x_v0.2.1 v0.2.length x_v0.2.2]) rfl) rfl (by decide) ?_
 rintro _ _ _ ⟨g3, rfl, rfl, rfl⟩
 refine Rg.q (v := .slice none 0 0) (Pu.qo (p_assign rfl)) (by decide) (Rg.nl (nT ?_))
 refine Tr.seq ?_
 obtain ⟨b4, j5, H⟩ := bd.of H
 refine tMid1 [(12, .bool (b4)), (2, .pointer (some ⟨g3, 0, none⟩)), (1, .slice x_v1.1 v1.length x_v1.2)] ?_ ?_
 ·refine tLinT [(2, .pointer (some ⟨g3, 0, none⟩)), (1, .slice x_v1.1 v1.length x_v1.2)] ⟨rfl, rfl, trivial⟩ ?_
  refine Lin.q (v := .agg #[.slice x_v0.1.1 v0.1.length x_v0.1.2, .slice x_v0.2.1 v0.2.length x_v0.2.2]) (by decide) (q_ldbA ty26 rfl Has.here rfl) ?_
  obtain ⟨r6, h7, j5⟩ := bd.of j5
  refine Lin.q (v := .bool (r6)) (by decide) (q_call (vs := [.agg #[.slice x_v0.1.1 v0.1.length x_v0.1.2, .slice x_v0.2.1 v0.2.length x_v0.2.2]]) (c_spec_IndexOk v0 x_v0 h7) rfl (EntsB.cons (Ent.b (Ent.dimm Ent.z.s)) (EntsB.cons (Ent.b (Ent.dimm Ent.z)) EntsB.nil))) ?_
  refine Lin.q (v := .bool (!r6)) (by decide) (Pu.qo (p_not rfl)) ?_
  rcases Bool.eq_false_or_eq_true (!r6) with h8 | h8
  ·have j5 := cdT h8 j5
   refine Lin.q (v := .bool (true)) (by decide) (Qo.eqv (v := .bool (!r6)) (Pu.qo (p_move rfl)) (congrArg Value.bool h8)) ?_
   refine Lin.skip (by decide) rfl ?_
   refine Lin.skip (by decide) rfl ?_
   refine Lin.skip (by decide) rfl ?_
   refine Lin.q (v := .bool (true)) (by decide) (Pu.qo (p_pickT rfl rfl)) ?_
   have j5 := Option.some.inj j5; subst j5
   show At _ _ _ _ _ _
   exact n1 ⟨rfl, rfl, rfl, trivial⟩
  ·have j5 := cdF h8 j5
   refine Lin.q (v := .bool (false)) (by decide) (Qo.eqv (v := .bool (!r6)) (Pu.qo (p_move rfl)) (congrArg Value.bool h8)) ?_
   refine Lin.g (v := .slice x_v1.1 v1.length x_v1.2) (by decide) rfl (Pu.qo (p_move rfl)) ?_
   obtain ⟨r9, h10, j5⟩ := bd.of j5
   refine Lin.g (v := .bool (r9)) (by decide) rfl (q_call (vs := [.slice x_v1.1 v1.length x_v1.2]) (c_spec_FilterOk v1 x_v1 h10) rfl (EntsB.cons (Ent.b Ent.z.s.s.s.s) EntsB.nil)) ?_
   refine Lin.g (v := .bool (!r9)) (by decide) rfl (Pu.qo (p_not rfl)) ?_
   refine Lin.q (v := .bool (!r9)) (by decide) (Pu.qo (p_pickF rfl rfl)) ?_
   have j5 := Option.some.inj j5; subst j5
   show At _ _ _ _ _ _
   exact n1 ⟨rfl, rfl, rfl, trivial⟩
 refine Tr.cond (b := b4) rfl (fun h11 => ?_) (fun h11 => ?_)
 ·have H := cdT h11 H
  refine Tr.seq (Tr.region ?_)
  refine Rg.ed (e_lit0 Int Try.underlying31 ty3) rfl (by decide) ?_
  rintro _ _ _ ⟨a12, c13, rfl, rfl, rfl⟩
  refine Rg.q (v := .slice a12 (([] : List Int).length) c13) (Pu.qo (p_assign rfl)) (by decide) (Rg.nl (nT ?_))
  refine tRet ?_
  refine rT (?_)
  have hr := Option.some.inj H; subst hr
  exact back1 (a12, c13) rfl (ResV.tmp (v := .slice a12 (([] : List Int).length) c13) rfl) rfl Ents.nil (.cons Del.here .nil)
 ·have H := cdF h11 H
  refine tSkip ?_
  refine nT (?_)
  refine Tr.seq (Tr.region ?_)
  refine Rg.q (v := .agg #[.slice x_v0.1.1 v0.1.length x_v0.1.2, .slice x_v0.2.1 v0.2.length x_v0.2.2]) (q_ldbA ty26 rfl Has.here rfl) (by decide) ?_
  refine Rg.q (v := .slice x_v1.1 v1.length x_v1.2) (Pu.qo (p_move rfl)) (by decide) ?_
  obtain ⟨r14, h15, H⟩ := bd.of H
  refine Rg.ed (e_callB (vs := [.agg #[.slice x_v0.1.1 v0.1.length x_v0.1.2, .slice x_v0.2.1 v0.2.length x_v0.2.2], .slice x_v1.1 v1.length x_v1.2]) (c_spec_l11Find v0 x_v0 v1 x_v1 h15) (fun _ => (Solo.tree Solo.nil)) rfl (EntsB.cons (Ent.b (Ent.dimm Ent.z.s)) (EntsB.cons (Ent.b (Ent.dimm Ent.z)) (EntsB.cons (Ent.b Ent.z.s.s.s.s) EntsB.nil)))) rfl (by decide) ?_
  rintro _ _ _ ⟨x16, rfl, rfl, rfl⟩
  refine Rg.q (v := .slice x16.1 r14.length x16.2) (Pu.qo (p_assign rfl)) (by decide) (Rg.nl (nT ?_))
  refine tRet ?_
  have hr := Option.some.inj H; subst hr
  exact back1 x16 rfl (ResV.tmp (v := .slice x16.1 r14.length x16.2) rfl) rfl Ents.nil (.cons Del.here .nil)
noncomputable def p_spec_DrawIndexFind_b0 (r2 : L6Rd) (Q16 : Int × (List (List Tag)) × (List Post) × (List Cond) × Int) : Option ((Int × (List (List Tag)) × (List Post) × (List Cond) × Int) ⊕ ((List (List Tag)) × (List Post) × (List Cond))) := cond (decide (Q16.2.2.2.2 < 4)) (bd (p_spec_l6Rd_pick (r2.1, Q16.1) 5) fun r25 => cond (decide (0 < r25.1)) (bd (p_spec_IndexFind (Q16.2.1, Q16.2.2.1) Q16.2.2.2.1) fun r29 => cond (decide ((r29.length : Int) = 0)) (bd (p_spec_l71Index (r2.1, r25.2)) fun r33 => bd (p_spec_l71Filter (r2.1, r33.2)) fun r36 => gd (I64 (Q16.2.2.2.2 + 1)) <| some (.inl (r36.2, r33.1.1, r33.1.2, r36.1, Q16.2.2.2.2 + 1))) (some (.inr (Q16.2.1, Q16.2.2.1, Q16.2.2.2.1)))) (some (.inr (Q16.2.1, Q16.2.2.1, Q16.2.2.2.1)))) (some (.inr (Q16.2.1, Q16.2.2.1, Q16.2.2.2.1)))
noncomputable def p_spec_DrawIndexFind (v0 : (List UInt8)) : Option (Index × (List Cond)) := bd (p_spec_l6Open v0) fun r2 => bd (p_spec_l71Index r2) fun r5 => bd (p_spec_l71Filter (r2.1, r5.2)) fun r9 => bd (lp (p_spec_DrawIndexFind_b0 r2) (r9.2, r5.1.1, r5.1.2, r9.1, 0)) fun x12 => some ((x12.1, x12.2.1), x12.2.2)
theorem c_spec_DrawIndexFind {r : Index × (List Cond)} (v0 : (List UInt8)) (x_v0 : Option Addr × Nat) (H : p_spec_DrawIndexFind v0 = some r) : Fn' Try.prog 33 #[.slice x_v0.1 v0.length x_v0.2] [imm (.slice x_v0.1 v0.length x_v0.2) v0] [] (ι := ((Option Addr × Nat) × (Option Addr × Nat)) × (Option Addr × Nat)) (fun x => .tuple #[.agg #[.slice x.1.1.1 r.1.1.length x.1.1.2, .slice x.1.2.1 r.1.2.length x.1.2.2], .slice x.2.1 r.2.length x.2.2]) (fun x => [imm (.slice x.1.1.1 r.1.1.length x.1.1.2) r.1.1, imm (.slice x.1.2.1 r.1.2.length x.1.2.2) r.1.2, imm (.slice x.2.1 r.2.length x.2.2) r.2]) (fun _ => []) := by
 refine calls_of (args := [_]) Try.func33 rfl (by kernel_rfl) Try.ntmps33 (by simp) fun c => ?_
 unfold p_spec_DrawIndexFind at H
 refine Tr.seq (Tr.region ?_)
 refine Rg.ed (e_alloc ty26) rfl (by decide) ?_
 rintro _ _ _ ⟨g1, rfl, rfl, rfl⟩
 refine Rg.q (v := .slice none 0 0) (Pu.qo (p_assign rfl)) (by decide) (Rg.nl (nT ?_))
 refine Tr.seq (Tr.region ?_)
 refine Rg.q (v := .slice x_v0.1 v0.length x_v0.2) (Pu.qo (p_move rfl)) (by decide) ?_
 obtain ⟨r2, h3, H⟩ := bd.of H
 refine Rg.ed (e_call (vs := [.slice x_v0.1 v0.length x_v0.2]) (c_spec_l6Open v0 x_v0 h3) rfl (Ents.cons Ent.z Ents.nil) Take.nil) rfl (by decide) ?_
 rintro _ _ _ ⟨x4, rfl, rfl, rfl⟩
 refine Rg.q (v := .pointer (some ⟨x4.1, 0, none⟩)) (Pu.qo (p_assign rfl)) (by decide) (Rg.nl (nT ?_))
 refine Tr.seq (Tr.region ?_)
 refine Rg.q (v := .pointer (some ⟨x4.1, 0, none⟩)) (Pu.qo (p_move rfl)) (by decide) ?_
 obtain ⟨r5, h6, H⟩ := bd.of H
 refine Rg.ed (e_call (vs := [.pointer (some ⟨x4.1, 0, none⟩)]) (c_spec_l71Index x4.1 r2 (x4.2.1, ()) h6) rfl (Ents.cons Ent.z Ents.nil) (.cons Del.here .nil)) rfl (by decide) ?_
 rintro _ _ _ ⟨x7, rfl, rfl, rfl⟩
 refine Rg.ed (e_alloc ty26) rfl (by decide) ?_
 rintro _ _ _ ⟨g8, rfl, rfl, rfl⟩
 refine Rg.en (e_store (v := .agg #[.slice x7.1.1 r5.1.1.length x7.1.2, .slice x7.2.1 r5.1.2.length x7.2.2]) (cs' := [.slice x7.1.1 r5.1.1.length x7.1.2, .slice x7.2.1 r5.1.2.length x7.2.2]) ty26 rfl rfl Upd.here rfl (by simp [Value.cells, Value.oneCell']) (Nat.le_of_ble_eq_true rfl) rfl) rfl ?_
 rintro _ _ _ ⟨rfl, rfl, rfl⟩
 refine Rg.nl (nT ?_)
 refine Tr.seq (Tr.region ?_)
 refine Rg.q (v := .pointer (some ⟨x4.1, 0, none⟩)) (Pu.qo (p_move rfl)) (by decide) ?_
 obtain ⟨r9, h10, H⟩ := bd.of H
 refine Rg.ed (e_callM (vs := [.pointer (some ⟨x4.1, 0, none⟩)]) (c_spec_l71Filter x4.1 (r2.1, r5.2) (x4.2.1, ()) h10) (Solo.box Solo.nil) (fun _ => (Solo.tree (Solo.box Solo.nil))) rfl (.cons Del.here.there .nil) (EntsB.cons (Ent.b Ent.z.s.s) EntsB.nil)) rfl (by decide) ?_
 rintro _ _ _ ⟨x11, rfl, rfl, rfl⟩
 refine Rg.q (v := .slice x11.1 r9.1.length x11.2) (Pu.qo (p_assign rfl)) (by decide) (Rg.nl (nT ?_))
 refine Tr.seq (Tr.seq (Tr.region ?_))
 refine Rg.q (v := .int .i64 (0)) (Pu.qo (p_assign rfl)) (by decide) (Rg.nl (nT ?_))
 obtain ⟨x12, hx13, H⟩ := bd.of H
 obtain ⟨n14, hx13⟩ := lp.of hx13
 refine tMidNF (ι := (Option Addr × Nat) × (Option Addr × Nat) × (Option Addr × Nat)) (fun ψ => [(2, .pointer (some ⟨g1, 0, none⟩)), (5, .pointer (some ⟨g8, 0, none⟩)), (6, .slice ψ.2.2.1 x12.2.2.length ψ.2.2.2)]) (fun ψ => [imm (.slice ψ.1.1 x12.1.length ψ.1.2) x12.1, imm (.slice ψ.2.1.1 x12.2.1.length ψ.2.1.2) x12.2.1]) (fun ψ => [box g1 26 [.slice none 0 0, .slice none 0 0], box g8 26 [.slice ψ.1.1 x12.1.length ψ.1.2, .slice ψ.2.1.1 x12.2.1.length ψ.2.1.2], tree (.slice ψ.2.2.1 x12.2.2.length ψ.2.2.2) x12.2.2]) ?_ ?_
 ·refine Tr.block ?_
  refine tLoopF (ι := { q : Nat × (Int × (List (List Tag)) × (List Post) × (List Cond) × Int) × ((Option Addr × Nat) × (Option Addr × Nat) × (Option Addr × Nat)) // itr (p_spec_DrawIndexFind_b0 r2) q.1 q.2.1 = some x12 }) (fun ζ => [(2, .pointer (some ⟨g1, 0, none⟩)), (4, .pointer (some ⟨x4.1, 0, none⟩)), (5, .pointer (some ⟨g8, 0, none⟩)), (6, .slice ζ.1.2.2.2.2.1 ζ.1.2.1.2.2.2.1.length ζ.1.2.2.2.2.2), (7, .int .i64 (ζ.1.2.1.2.2.2.2))]) (fun ζ => [imm (.slice ζ.1.2.2.1.1 ζ.1.2.1.2.1.length ζ.1.2.2.1.2) ζ.1.2.1.2.1, imm (.slice ζ.1.2.2.2.1.1 ζ.1.2.1.2.2.1.length ζ.1.2.2.2.1.2) ζ.1.2.1.2.2.1]) (fun ζ => [box g1 26 [.slice none 0 0, .slice none 0 0], box x4.1 134 [.slice x4.2.1.1 r2.1.length x4.2.1.2, .int .i64 (ζ.1.2.1.1)], box g8 26 [.slice ζ.1.2.2.1.1 ζ.1.2.1.2.1.length ζ.1.2.2.1.2, .slice ζ.1.2.2.2.1.1 ζ.1.2.1.2.2.1.length ζ.1.2.2.2.1.2], tree (.slice ζ.1.2.2.2.2.1 ζ.1.2.1.2.2.2.1.length ζ.1.2.2.2.2.2) ζ.1.2.1.2.2.2.1]) (fun ζ => ζ.1.1) ⟨(n14, (r9.2, r5.1.1, r5.1.2, r9.1, 0), ((x7.1.1, x7.1.2), (x7.2.1, x7.2.2), (x11.1, x11.2))), hx13⟩ ⟨rfl, rfl, rfl, rfl, rfl, trivial⟩ (Ents.cons Ent.z (Ents.cons Ent.z.s Ents.nil)) (.cons Del.here.there.there.there (.cons Del.here.there (.cons Del.here.there (.cons Del.here .nil)))) ?_
  rintro ⟨⟨m15, Q16, z17⟩, hk22⟩
  obtain ⟨m23, t19, e, H1, hi20, hb21⟩ := itr.of (n := m15) (s := Q16) hk22
  subst e; unfold p_spec_DrawIndexFind_b0 at H1
  show Tr _ _ _ _ _ [(2, .pointer (some ⟨g1, 0, none⟩)), (4, .pointer (some ⟨x4.1, 0, none⟩)), (5, .pointer (some ⟨g8, 0, none⟩)), (6, .slice z17.2.2.1 Q16.2.2.2.1.length z17.2.2.2), (7, .int .i64 (Q16.2.2.2.2))] (imm (.slice z17.1.1 Q16.2.1.length z17.1.2) Q16.2.1 :: imm (.slice z17.2.1.1 Q16.2.2.1.length z17.2.1.2) Q16.2.2.1 :: _) [box g1 26 [.slice none 0 0, .slice none 0 0], box x4.1 134 [.slice x4.2.1.1 r2.1.length x4.2.1.2, .int .i64 (Q16.1)], box g8 26 [.slice z17.1.1 Q16.2.1.length z17.1.2, .slice z17.2.1.1 Q16.2.2.1.length z17.2.1.2], tree (.slice z17.2.2.1 Q16.2.2.2.1.length z17.2.2.2) Q16.2.2.2.1]
  refine Tr.seq (Tr.seq (Tr.region ?_))
  refine Rg.q (v := .int .i64 (Q16.2.2.2.2)) (Pu.qo (p_move rfl)) (by decide) ?_
  refine Rg.q (v := .bool (decide (Q16.2.2.2.2 < 4))) (Pu.qo (p_lss rfl rfl)) (by decide) ?_
  rcases Bool.eq_false_or_eq_true (decide (Q16.2.2.2.2 < 4)) with h24 | h24
  ·have H1 := cdT h24 H1
   refine Rg.q (v := .bool (true)) (Qo.eqv (v := .bool (decide (Q16.2.2.2.2 < 4))) (Pu.qo (p_move rfl)) (congrArg Value.bool h24)) (by decide) ?_
   refine Rg.g (v := .pointer (some ⟨x4.1, 0, none⟩)) rfl (Pu.qo (p_move rfl)) (by decide) ?_
   obtain ⟨r25, h26, H1⟩ := bd.of H1
   refine Rg.ed (e_callM (vs := [.pointer (some ⟨x4.1, 0, none⟩), .int .i64 (5)]) (c_spec_l6Rd_pick x4.1 (r2.1, Q16.1) (x4.2.1, ()) 5 h26) (Solo.box Solo.nil) (fun _ => (Solo.box Solo.nil)) rfl (.cons Del.here.there .nil) (EntsB.cons (Ent.b Ent.z.s.s.s.s) EntsB.nil)) rfl (by decide) ?_
   rintro _ _ _ ⟨u27, rfl, rfl, rfl⟩
   refine Rg.g (v := .bool (decide (0 < r25.1))) rfl (Pu.qo (p_gtr rfl rfl)) (by decide) ?_
   refine Rg.q (v := .bool (decide (0 < r25.1))) (Pu.qo (p_pickT rfl rfl)) (by decide) ?_
   rcases Bool.eq_false_or_eq_true (decide (0 < r25.1)) with h28 | h28
   ·have H1 := cdT h28 H1
    refine Rg.q (v := .bool (true)) (Qo.eqv (v := .bool (decide (0 < r25.1))) (Pu.qo (p_move rfl)) (congrArg Value.bool h28)) (by decide) ?_
    refine Rg.g (v := .agg #[.slice z17.1.1 Q16.2.1.length z17.1.2, .slice z17.2.1.1 Q16.2.2.1.length z17.2.1.2]) rfl (q_ldbA ty26 rfl Has.here.there.there rfl) (by decide) ?_
    refine Rg.g (v := .slice z17.2.2.1 Q16.2.2.2.1.length z17.2.2.2) rfl (Pu.qo (p_move rfl)) (by decide) ?_
    obtain ⟨r29, h30, H1⟩ := bd.of H1
    refine Rg.ed (e_callB (vs := [.agg #[.slice z17.1.1 Q16.2.1.length z17.1.2, .slice z17.2.1.1 Q16.2.2.1.length z17.2.1.2], .slice z17.2.2.1 Q16.2.2.2.1.length z17.2.2.2]) (c_spec_IndexFind (Q16.2.1, Q16.2.2.1) (z17.1, z17.2.1) Q16.2.2.2.1 z17.2.2 h30) (fun _ => (Solo.tree Solo.nil)) rfl (EntsB.cons (Ent.b Ent.z) (EntsB.cons (Ent.b Ent.z.s) (EntsB.cons (EntB.tree Has.here.there.there.there) EntsB.nil)))) rfl (by decide) ?_
    rintro _ _ _ ⟨x31, rfl, rfl, rfl⟩
    refine Rg.g (v := .int .i64 ((r29.length : Int))) rfl (Pu.qo (p_len 3 Try.underlying31 rfl)) (by decide) ?_
    refine Rg.g (v := .bool (decide ((r29.length : Int) = 0))) rfl (Pu.qo (p_eql rfl rfl)) (by decide) ?_
    refine Rg.q (v := .bool (decide ((r29.length : Int) = 0))) (Pu.qo (p_pickT rfl rfl)) (by decide) (Rg.nl (nT ?_))
    refine Tr.cond (b := decide ((r29.length : Int) = 0)) rfl (fun h32 => ?_) (fun h32 => ?_)
    ·have H1 := cdT h32 H1
     refine tSkip ?_
     refine nT (Tr.seq ?_)
     refine Tr.block ?_
     refine Tr.seq (Tr.region ?_)
     refine Rg.q (v := .pointer (some ⟨x4.1, 0, none⟩)) (Pu.qo (p_move rfl)) (by decide) ?_
     obtain ⟨r33, h34, H1⟩ := bd.of H1
     refine Rg.ed (e_call (vs := [.pointer (some ⟨x4.1, 0, none⟩)]) (c_spec_l71Index x4.1 (r2.1, r25.2) (x4.2.1, ()) h34) rfl (Ents.cons Ent.z.s.s.s.s Ents.nil) (.cons Del.here.there .nil)) rfl (by decide) ?_
     rintro _ _ _ ⟨x35, rfl, rfl, rfl⟩
     refine Rg.en (e_store (v := .agg #[.slice x35.1.1 r33.1.1.length x35.1.2, .slice x35.2.1 r33.1.2.length x35.2.2]) (cs' := [.slice x35.1.1 r33.1.1.length x35.1.2, .slice x35.2.1 r33.1.2.length x35.2.2]) ty26 rfl rfl Upd.here.there.there.there rfl (by simp [Value.cells, Value.oneCell']) (Nat.le_of_ble_eq_true rfl) rfl) rfl ?_
     rintro _ _ _ ⟨rfl, rfl, rfl⟩
     refine Rg.nl (nT ?_)
     refine Tr.region ?_
     refine Rg.q (v := .pointer (some ⟨x4.1, 0, none⟩)) (Pu.qo (p_move rfl)) (by decide) ?_
     obtain ⟨r36, h37, H1⟩ := bd.of H1
     refine Rg.ed (e_callM (vs := [.pointer (some ⟨x4.1, 0, none⟩)]) (c_spec_l71Filter x4.1 (r2.1, r33.2) (x4.2.1, ()) h37) (Solo.box Solo.nil) (fun _ => (Solo.tree (Solo.box Solo.nil))) rfl (.cons Del.here .nil) (EntsB.cons (Ent.b Ent.z.s.s.s.s.s.s) EntsB.nil)) rfl (by decide) ?_
     rintro _ _ _ ⟨x38, rfl, rfl, rfl⟩
     refine Rg.q (v := .slice x38.1 r36.1.length x38.2) (Pu.qo (p_assign rfl)) (by decide) (Rg.nl ?_)
     refine nB (nT (?_))
     refine Tr.region ?_
     refine Rg.q (v := .int .i64 (Q16.2.2.2.2)) (Pu.qo (p_move rfl)) (by decide) ?_
     obtain ⟨h39, H1⟩ := gd.of H1
     refine Rg.q (v := .int .i64 (Q16.2.2.2.2 + 1)) (Pu.qo (p_add rfl rfl h39)) (by decide) ?_
     refine Rg.q (v := .int .i64 (Q16.2.2.2.2 + 1)) (Pu.qo (p_assign rfl)) (by decide) (Rg.nl ?_)
     exact nLF ⟨(m23, (r36.2, r33.1.1, r33.1.2, r36.1, Q16.2.2.2.2 + 1), ((x35.1.1, x35.1.2), (x35.2.1, x35.2.2), (x38.1, x38.2))), hi20 _ (Option.some.inj H1).symm⟩ (Nat.lt_succ_self _) ⟨rfl, rfl, rfl, rfl, rfl, trivial⟩ (Ents.cons Ent.z (Ents.cons Ent.z.s Ents.nil)) Ents.refl.s.s.s.s (.cons Del.here.there.there.there (.cons Del.here.there (.cons Del.here.there.there (.cons Del.here .nil))))
    ·have H1 := cdF h32 H1
     refine tExit (xT (xT (xE (?_))))
     have hx := hb21 _ (Option.some.inj H1).symm; subst hx
     exact nMF ((z17.1.1, z17.1.2), (z17.2.1.1, z17.2.1.2), (z17.2.2.1, z17.2.2.2)) ⟨rfl, rfl, rfl, trivial⟩ (Ents.cons Ent.z (Ents.cons Ent.z.s Ents.nil)) Ents.refl.s.s (.cons Del.here.there.there (.cons Del.here.there.there (.cons Del.here.there.there .nil)))
   ·have H1 := cdF h28 H1
    refine Rg.q (v := .bool (false)) (Qo.eqv (v := .bool (decide (0 < r25.1))) (Pu.qo (p_move rfl)) (congrArg Value.bool h28)) (by decide) ?_
    refine Rg.skip rfl (by decide) ?_
    refine Rg.skip rfl (by decide) ?_
    refine Rg.skip rfl (by decide) ?_
    refine Rg.skip rfl (by decide) ?_
    refine Rg.skip rfl (by decide) ?_
    refine Rg.q (v := .bool (false)) (Pu.qo (p_pickF rfl rfl)) (by decide) (Rg.nl (nT ?_))
    refine Tr.condF rfl ?_
    refine tExit (xT (xT (xE (?_))))
    have hx := hb21 _ (Option.some.inj H1).symm; subst hx
    exact nMF ((z17.1.1, z17.1.2), (z17.2.1.1, z17.2.1.2), (z17.2.2.1, z17.2.2.2)) ⟨rfl, rfl, rfl, trivial⟩ (Ents.cons Ent.z (Ents.cons Ent.z.s Ents.nil)) Ents.refl.s.s (.cons Del.here.there (.cons Del.here.there (.cons Del.here.there .nil)))
  ·have H1 := cdF h24 H1
   refine Rg.q (v := .bool (false)) (Qo.eqv (v := .bool (decide (Q16.2.2.2.2 < 4))) (Pu.qo (p_move rfl)) (congrArg Value.bool h24)) (by decide) ?_
   refine Rg.skip rfl (by decide) ?_
   refine Rg.skip rfl (by decide) ?_
   refine Rg.skip rfl (by decide) ?_
   refine Rg.q (v := .bool (false)) (Pu.qo (p_pickF rfl rfl)) (by decide) ?_
   refine Rg.q (v := .bool (false)) (Pu.qo (p_move rfl)) (by decide) ?_
   refine Rg.skip rfl (by decide) ?_
   refine Rg.skip rfl (by decide) ?_
   refine Rg.skip rfl (by decide) ?_
   refine Rg.skip rfl (by decide) ?_
   refine Rg.skip rfl (by decide) ?_
   refine Rg.q (v := .bool (false)) (Pu.qo (p_pickF rfl rfl)) (by decide) (Rg.nl (nT ?_))
   refine Tr.condF rfl ?_
   refine tExit (xT (xT (xE (?_))))
   have hx := hb21 _ (Option.some.inj H1).symm; subst hx
   exact nMF ((z17.1.1, z17.1.2), (z17.2.1.1, z17.2.1.2), (z17.2.2.1, z17.2.2.2)) ⟨rfl, rfl, rfl, trivial⟩ (Ents.cons Ent.z (Ents.cons Ent.z.s Ents.nil)) Ents.refl.s.s (.cons Del.here (.cons Del.here.there (.cons Del.here.there .nil)))
 ·intro y18
  show At _ _ [(2, .pointer (some ⟨g1, 0, none⟩)), (5, .pointer (some ⟨g8, 0, none⟩)), (6, .slice y18.2.2.1 x12.2.2.length y18.2.2.2)] (imm (.slice y18.1.1 x12.1.length y18.1.2) x12.1 :: imm (.slice y18.2.1.1 x12.2.1.length y18.2.1.2) x12.2.1 :: _) [box g1 26 [.slice none 0 0, .slice none 0 0], box g8 26 [.slice y18.1.1 x12.1.length y18.1.2, .slice y18.2.1.1 x12.2.1.length y18.2.1.2], tree (.slice y18.2.2.1 x12.2.2.length y18.2.2.2) x12.2.2] _
  refine nT (?_)
  refine Tr.seq (Tr.region ?_)
  refine Rg.q (v := .agg #[.slice y18.1.1 x12.1.length y18.1.2, .slice y18.2.1.1 x12.2.1.length y18.2.1.2]) (q_ldbA ty26 rfl Has.here.there rfl) (by decide) ?_
  refine Rg.q (v := .slice y18.2.2.1 x12.2.2.length y18.2.2.2) (Pu.qo (p_move rfl)) (by decide) ?_
  refine Rg.en (e_store (v := .agg #[.slice y18.1.1 x12.1.length y18.1.2, .slice y18.2.1.1 x12.2.1.length y18.2.1.2]) (cs' := [.slice y18.1.1 x12.1.length y18.1.2, .slice y18.2.1.1 x12.2.1.length y18.2.1.2]) ty26 rfl rfl Upd.here rfl (by simp [Value.cells, Value.oneCell']) (Nat.le_of_ble_eq_true rfl) rfl) rfl ?_
  rintro _ _ _ ⟨rfl, rfl, rfl⟩
  refine Rg.q (v := .slice y18.2.2.1 x12.2.2.length y18.2.2.2) (Pu.qo (p_assign rfl)) (by decide) (Rg.nl (nT ?_))
  refine Tr.freeze (.cons Del.here.there.there .nil) ?_
  refine tRet ?_
  have hr := Option.some.inj H; subst hr
  exact back2 ((y18.1, y18.2.1), y18.2.2) rfl (ResV.agg ty26 rfl Has.here rfl) (ResV.tmp (v := .slice y18.2.2.1 x12.2.2.length y18.2.2.2) rfl) rfl (Ents.cons Ent.z.s (Ents.cons Ent.z.s.s (Ents.cons Ent.z Ents.nil))) Take.nil
noncomputable def p_impl_FilterOk_b0 (v0 : (List Cond)) (Q5 : Int) : Option ((Int) ⊕ (Unit ⊕ Bool)) := cond (decide (Q5 < (v0.length : Int))) (gd (ix Q5 v0.length) <| bd (p_impl_tagOk ((nth v0 Q5.toNat).1)) fun r16 => cond (!r16) (some (.inr (.inr false))) (gd (I64 (Q5 + 1)) <| some (.inl (Q5 + 1)))) (some (.inr (.inl ())))
noncomputable def p_impl_FilterOk (v0 : (List Cond)) : Option (Bool) := bd (lp (p_impl_FilterOk_b0 v0) 0) <| sw (fun _ => some (decide ((v0.length : Int) ≤ 3))) (fun q => some q)
theorem c_impl_FilterOk {r : Bool} (v0 : (List Cond)) (x_v0 : Option Addr × Nat) (H : p_impl_FilterOk v0 = some r) : Fn' Try.prog 88 #[.slice x_v0.1 v0.length x_v0.2] [imm (.slice x_v0.1 v0.length x_v0.2) v0] [] (ι := Unit) (fun _ => .bool (r)) (fun _ => []) (fun _ => []) := by
 refine calls_of (args := [_]) Try.func88 rfl (by kernel_rfl) Try.ntmps88 (by simp) fun c => ?_
 unfold p_impl_FilterOk at H
 refine Tr.seq (Tr.region ?_)
 refine Rg.q (v := .bool (false)) (Pu.qo (p_assign rfl)) (by decide) (Rg.nl (nT ?_))
 refine Tr.seq (Tr.seq (Tr.region ?_))
 refine Rg.q (v := .slice x_v0.1 v0.length x_v0.2) (Pu.qo (p_move rfl)) (by decide) ?_
 refine Rg.q (v := .int .i64 ((v0.length : Int))) (Pu.qo (p_len 62 Try.underlying54 rfl)) (by decide) ?_
 refine Rg.q (v := .int .i64 (0)) (Pu.qo (p_move rfl)) (by decide) (Rg.nl (nT ?_))
 obtain ⟨x1, hx2, H⟩ := bd.of H
 obtain ⟨n3, hx2⟩ := lp.of hx2
 refine tMidNC (ι := { q : (Unit) × Unit // x1 = .inl q.1 }) (fun ψ => [(0, .slice x_v0.1 v0.length x_v0.2)]) (fun ψ => []) ?_ ?_
 ·refine Tr.block ?_
  refine tLoopC (ι := { q : Nat × (Int) × Unit // itr (p_impl_FilterOk_b0 v0) q.1 q.2.1 = some x1 }) (fun ζ => [(0, .slice x_v0.1 v0.length x_v0.2), (5, .slice x_v0.1 v0.length x_v0.2), (6, .int .i64 ((v0.length : Int))), (7, .int .i64 (ζ.1.2.1))]) (fun ζ => []) (fun ζ => ζ.1.1) ⟨(n3, 0, ()), hx2⟩ ⟨rfl, rfl, rfl, rfl, trivial⟩ Take.nil ?_
  rintro ⟨⟨m4, Q5, z6⟩, hk11⟩
  obtain ⟨m12, t8, e, H1, hi9, hb10⟩ := itr.of (n := m4) (s := Q5) hk11
  subst e; unfold p_impl_FilterOk_b0 at H1
  show Tr _ _ _ _ _ [(0, .slice x_v0.1 v0.length x_v0.2), (5, .slice x_v0.1 v0.length x_v0.2), (6, .int .i64 ((v0.length : Int))), (7, .int .i64 (Q5))] _ []
  refine Tr.seq (Tr.region ?_)
  refine Rg.q (v := .bool (decide (Q5 < (v0.length : Int)))) (Pu.qo (p_lss rfl rfl)) (by decide) (Rg.nl (nT ?_))
  refine Tr.seq ?_
  refine Tr.cond (b := decide (Q5 < (v0.length : Int))) rfl (fun h13 => ?_) (fun h13 => ?_)
  ·have H1 := cdT h13 H1
   refine tSkip ?_
   refine nT (Tr.seq ?_)
   refine Tr.block ?_
   refine Tr.seq (Tr.region ?_)
   obtain ⟨h14, H1⟩ := gd.of H1
   refine Rg.q (v := elp x_v0.1 (Q5.toNat * Enc.sz Cond + 0)) (q_ixg (l := v0) (E := fun i => Flat.enc (nth v0 i)) (oa := x_v0.1) Try.underlying54 ty62 rfl rfl h14 rfl (EntB.flat (Ent.b Ent.z))) (by decide) ?_
   refine Rg.q (v := .agg #[.string (((nth v0 Q5.toNat).1).1), .string (((nth v0 Q5.toNat).1).2), .bool ((nth v0 Q5.toNat).2)]) (q_ldeA (l := v0) (E := fun i => Flat.enc (nth v0 i)) (oa := x_v0.1) (i := Q5.toNat) ty62 rfl (EntB.flat (Ent.b Ent.z)) h14.lt) (by decide) ?_
   refine Rg.ed (e_alloc ty62) rfl (by decide) ?_
   rintro _ _ _ ⟨g15, rfl, rfl, rfl⟩
   refine Rg.en (e_store (v := .agg #[.string (((nth v0 Q5.toNat).1).1), .string (((nth v0 Q5.toNat).1).2), .bool ((nth v0 Q5.toNat).2)]) (cs' := [.string (((nth v0 Q5.toNat).1).1), .string (((nth v0 Q5.toNat).1).2), .bool ((nth v0 Q5.toNat).2)]) ty62 rfl rfl Upd.here rfl (by simp [Value.cells, Value.oneCell']) (Nat.le_of_ble_eq_true rfl) rfl) rfl ?_
   rintro _ _ _ ⟨rfl, rfl, rfl⟩
   refine Rg.nl (nT ?_)
   refine Tr.seq (Tr.region ?_)
   refine Rg.q (v := .pointer (some ⟨g15, 0, none⟩)) (Pu.qo (p_fabE fa62_0 rfl rfl)) (by decide) ?_
   refine Rg.q (v := .agg #[.string (((nth v0 Q5.toNat).1).1), .string (((nth v0 Q5.toNat).1).2)]) (q_ldbP [.string (((nth v0 Q5.toNat).1).1), .string (((nth v0 Q5.toNat).1).2)] ty30 rfl Has.here rfl rfl) (by decide) ?_
   obtain ⟨r16, h17, H1⟩ := bd.of H1
   refine Rg.q (v := .bool (r16)) (q_call (vs := [.agg #[.string (((nth v0 Q5.toNat).1).1), .string (((nth v0 Q5.toNat).1).2)]]) (c_impl_tagOk ((nth v0 Q5.toNat).1) h17) rfl EntsB.nil) (by decide) ?_
   refine Rg.q (v := .bool (!r16)) (Pu.qo (p_not rfl)) (by decide) (Rg.nl (nT ?_))
   refine Tr.cond (b := !r16) rfl (fun h18 => ?_) (fun h18 => ?_)
   ·have H1 := cdT h18 H1
    refine Tr.seq (Tr.region ?_)
    refine Rg.q (v := .bool (false)) (Pu.qo (p_assign rfl)) (by decide) (Rg.nl (nT ?_))
    refine tRet ?_
    refine rB (rT (rT (rB (rT (rT (?_))))))
    have hx := hb10 _ (Option.some.inj H1).symm; subst hx
    replace H := sw.r H
    have hr := Option.some.inj H; subst hr
    exact back1 () rfl (ResV.tmp (v := .bool (false)) rfl) rfl Ents.nil Take.nil
   ·have H1 := cdF h18 H1
    refine tSkip ?_
    refine nB (nT (?_))
    refine Tr.region ?_
    obtain ⟨h19, H1⟩ := gd.of H1
    refine Rg.q (v := .int .i64 (Q5 + 1)) (Pu.qo (p_add rfl rfl h19)) (by decide) ?_
    refine Rg.q (v := .int .i64 (Q5 + 1)) (Pu.qo (p_move rfl)) (by decide) (Rg.nl ?_)
    exact nLC ⟨(m12, Q5 + 1, ()), hi9 _ (Option.some.inj H1).symm⟩ (Nat.lt_succ_self _) ⟨rfl, rfl, rfl, rfl, trivial⟩ Ents.refl Take.nil
  ·have H1 := cdF h13 H1
   refine tExit (xT (xT (xE (?_))))
   exact nMC ⟨((), ()), (hb10 _ (Option.some.inj H1).symm).symm⟩ ⟨rfl, trivial⟩ Ents.refl Take.nil
 ·rintro ⟨⟨e20, y7⟩, hx⟩; subst hx; replace H := sw.l H
  show At _ _ [(0, .slice x_v0.1 v0.length x_v0.2)] _ [] _
  refine nT (?_)
  refine Tr.seq (Tr.region ?_)
  refine Rg.q (v := .slice x_v0.1 v0.length x_v0.2) (Pu.qo (p_move rfl)) (by decide) ?_
  refine Rg.q (v := .int .i64 ((v0.length : Int))) (Pu.qo (p_len 62 Try.underlying54 rfl)) (by decide) ?_
  refine Rg.q (v := .bool (decide ((v0.length : Int) ≤ 3))) (Pu.qo (p_leq rfl rfl)) (by decide) ?_
  refine Rg.q (v := .bool (decide ((v0.length : Int) ≤ 3))) (Pu.qo (p_assign rfl)) (by decide) (Rg.nl (nT ?_))
  refine tRet ?_
  have hr := Option.some.inj H; subst hr
  exact back1 () rfl (ResV.tmp (v := .bool (decide ((v0.length : Int) ≤ 3))) rfl) rfl Ents.nil Take.nil
noncomputable def p_slices_Index_Tag_Tag_b0 (v0 : (List Tag)) (v1 : Tag) (Q6 : Int) : Option ((Int) ⊕ (Unit ⊕ Int)) := cond (decide (Q6 < (v0.length : Int))) (gd (ix Q6 v0.length) <| cond (decide (v1 = nth v0 Q6.toNat)) (some (.inr (.inr Q6))) (gd (I64 (Q6 + 1)) <| some (.inl (Q6 + 1)))) (some (.inr (.inl ())))
noncomputable def p_slices_Index_Tag_Tag (v0 : (List Tag)) (v1 : Tag) : Option (Int) := bd (lp (p_slices_Index_Tag_Tag_b0 v0 v1) 0) <| sw (fun _ => some (-1)) (fun q => some q)
theorem c_slices_Index_Tag_Tag {r : Int} (v0 : (List Tag)) (x_v0 : Option Addr × Nat) (v1 : Tag) (H : p_slices_Index_Tag_Tag v0 v1 = some r) : Fn' Try.prog 129 #[.slice x_v0.1 v0.length x_v0.2, .agg #[.string (v1.1), .string (v1.2)]] [imm (.slice x_v0.1 v0.length x_v0.2) v0] [] (ι := Unit) (fun _ => .int .i64 (r)) (fun _ => []) (fun _ => []) := by
 refine calls_of (args := [_, _]) Try.func129 rfl (by kernel_rfl) Try.ntmps129 (by simp) fun c => ?_
 unfold p_slices_Index_Tag_Tag at H
 refine Tr.seq (Tr.region ?_)
 refine Rg.ed (e_box (t := 30) (v := .agg #[.string (v1.1), .string (v1.2)]) rfl) rfl (by decide) ?_
 rintro _ _ _ ⟨g1, rfl, rfl, rfl⟩
 refine Rg.q (v := .int .i64 (0)) (Pu.qo (p_assign rfl)) (by decide) (Rg.nl (nT ?_))
 refine Tr.seq (Tr.seq (Tr.region ?_))
 refine Rg.q (v := .slice x_v0.1 v0.length x_v0.2) (Pu.qo (p_move rfl)) (by decide) ?_
 refine Rg.q (v := .int .i64 ((v0.length : Int))) (Pu.qo (p_len 30 Try.underlying38 rfl)) (by decide) ?_
 refine Rg.q (v := .int .i64 (0)) (Pu.qo (p_move rfl)) (by decide) (Rg.nl (nT ?_))
 obtain ⟨x2, hx3, H⟩ := bd.of H
 obtain ⟨n4, hx3⟩ := lp.of hx3
 refine tMidNC (ι := { q : (Unit) × Unit // x2 = .inl q.1 }) (fun ψ => []) (fun ψ => []) ?_ ?_
 ·refine Tr.block ?_
  refine tLoopC (ι := { q : Nat × (Int) × Unit // itr (p_slices_Index_Tag_Tag_b0 v0 v1) q.1 q.2.1 = some x2 }) (fun ζ => [(0, .slice x_v0.1 v0.length x_v0.2), (3, .pointer (some ⟨g1, 0, none⟩)), (7, .int .i64 ((v0.length : Int))), (8, .int .i64 (ζ.1.2.1))]) (fun ζ => [box g1 30 [.string (v1.1), .string (v1.2)]]) (fun ζ => ζ.1.1) ⟨(n4, 0, ()), hx3⟩ ⟨rfl, rfl, rfl, rfl, trivial⟩ (.cons Del.here .nil) ?_
  rintro ⟨⟨m5, Q6, z7⟩, hk12⟩
  obtain ⟨m13, t9, e, H1, hi10, hb11⟩ := itr.of (n := m5) (s := Q6) hk12
  subst e; unfold p_slices_Index_Tag_Tag_b0 at H1
  show Tr _ _ _ _ _ [(0, .slice x_v0.1 v0.length x_v0.2), (3, .pointer (some ⟨g1, 0, none⟩)), (7, .int .i64 ((v0.length : Int))), (8, .int .i64 (Q6))] _ [box g1 30 [.string (v1.1), .string (v1.2)]]
  refine Tr.seq (Tr.region ?_)
  refine Rg.q (v := .bool (decide (Q6 < (v0.length : Int)))) (Pu.qo (p_lss rfl rfl)) (by decide) (Rg.nl (nT ?_))
  refine Tr.seq ?_
  refine Tr.cond (b := decide (Q6 < (v0.length : Int))) rfl (fun h14 => ?_) (fun h14 => ?_)
  ·have H1 := cdT h14 H1
   refine tSkip ?_
   refine nT (Tr.seq ?_)
   refine Tr.block ?_
   refine Tr.seq (Tr.region ?_)
   refine Rg.q (v := .int .i64 (Q6)) (Pu.qo (p_move rfl)) (by decide) ?_
   refine Rg.q (v := .int .i64 (Q6)) (Pu.qo (p_assign rfl)) (by decide) (Rg.nl (nT ?_))
   refine Tr.seq ?_
   refine tLinS [(5, .int .i64 (Q6)), (0, .slice x_v0.1 v0.length x_v0.2), (3, .pointer (some ⟨g1, 0, none⟩)), (7, .int .i64 ((v0.length : Int))), (8, .int .i64 (Q6))] Try.mixed (.inr (by kernel_rfl)) ⟨rfl, rfl, rfl, rfl, rfl, trivial⟩ rfl ?_
   refine Lin.q (v := .agg #[.string (v1.1), .string (v1.2)]) (by decide) (q_ldbA ty30 rfl Has.here rfl) ?_
   refine Lin.q (v := .slice x_v0.1 v0.length x_v0.2) (by decide) (Pu.qo (p_move rfl)) ?_
   refine Lin.q (v := .int .i64 (Q6)) (by decide) (Pu.qo (p_move rfl)) ?_
   obtain ⟨h15, H1⟩ := gd.of H1
   refine Lin.q (v := elp x_v0.1 (Q6.toNat * Enc.sz Tag + 0)) (by decide) (q_ixg (l := v0) (E := fun i => Flat.enc (nth v0 i)) (oa := x_v0.1) Try.underlying38 ty30 rfl rfl h15 rfl (EntB.flat (Ent.b Ent.z))) ?_
   refine Lin.q (v := .agg #[.string ((nth v0 Q6.toNat).1), .string ((nth v0 Q6.toNat).2)]) (by decide) (q_ldeA (l := v0) (E := fun i => Flat.enc (nth v0 i)) (oa := x_v0.1) (i := Q6.toNat) ty30 rfl (EntB.flat (Ent.b Ent.z)) h15.lt) ?_
   refine Lin.q (v := .bool (decide (v1 = nth v0 Q6.toNat))) (by decide) (Pu.qo (p_aeql (a := v1) (b := nth v0 Q6.toNat) ae30 rfl rfl rfl rfl)) ?_
   show At _ _ _ _ _ _
   refine nT (?_)
   refine Tr.cond (b := decide (v1 = nth v0 Q6.toNat)) rfl (fun h16 => ?_) (fun h16 => ?_)
   ·have H1 := cdT h16 H1
    refine Tr.seq (Tr.region ?_)
    refine Rg.q (v := .int .i64 (Q6)) (Pu.qo (p_move rfl)) (by decide) ?_
    refine Rg.q (v := .int .i64 (Q6)) (Pu.qo (p_assign rfl)) (by decide) (Rg.nl (nT ?_))
    refine tRet ?_
    refine rB (rT (rT (rB (rT (rT (?_))))))
    have hx := hb11 _ (Option.some.inj H1).symm; subst hx
    replace H := sw.r H
    have hr := Option.some.inj H; subst hr
    exact back1 () rfl (ResV.tmp (v := .int .i64 (Q6)) rfl) rfl Ents.nil Take.nil
   ·have H1 := cdF h16 H1
    refine tSkip ?_
    refine nB (nT (?_))
    refine Tr.region ?_
    obtain ⟨h17, H1⟩ := gd.of H1
    refine Rg.q (v := .int .i64 (Q6 + 1)) (Pu.qo (p_add rfl rfl h17)) (by decide) ?_
    refine Rg.q (v := .int .i64 (Q6 + 1)) (Pu.qo (p_move rfl)) (by decide) (Rg.nl ?_)
    exact nLC ⟨(m13, Q6 + 1, ()), hi10 _ (Option.some.inj H1).symm⟩ (Nat.lt_succ_self _) ⟨rfl, rfl, rfl, rfl, trivial⟩ Ents.refl (.cons Del.here .nil)
  ·have H1 := cdF h14 H1
   refine tExit (xT (xT (xE (?_))))
   exact nMC ⟨((), ()), (hb11 _ (Option.some.inj H1).symm).symm⟩ trivial Ents.refl Take.nil
 ·rintro ⟨⟨e18, y8⟩, hx⟩; subst hx; replace H := sw.l H
  show At _ _ [] _ [] _
  refine nT (?_)
  refine Tr.seq (Tr.region ?_)
  refine Rg.q (v := .int .i64 (-1)) (Pu.qo (p_assign rfl)) (by decide) (Rg.nl (nT ?_))
  refine tRet ?_
  have hr := Option.some.inj H; subst hr
  exact back1 () rfl (ResV.tmp (v := .int .i64 (-1)) rfl) rfl Ents.nil Take.nil
noncomputable def p_slices_Contains_Tag_Tag (v0 : (List Tag)) (v1 : Tag) : Option (Bool) := bd (p_slices_Index_Tag_Tag v0 v1) fun r2 => some (decide (0 ≤ r2))
theorem c_slices_Contains_Tag_Tag {r : Bool} (v0 : (List Tag)) (x_v0 : Option Addr × Nat) (v1 : Tag) (H : p_slices_Contains_Tag_Tag v0 v1 = some r) : Fn' Try.prog 89 #[.slice x_v0.1 v0.length x_v0.2, .agg #[.string (v1.1), .string (v1.2)]] [imm (.slice x_v0.1 v0.length x_v0.2) v0] [] (ι := Unit) (fun _ => .bool (r)) (fun _ => []) (fun _ => []) := by
 refine calls_of (args := [_, _]) Try.func89 rfl (by kernel_rfl) Try.ntmps89 (by simp) fun c => ?_
 unfold p_slices_Contains_Tag_Tag at H
 refine Tr.seq (Tr.region ?_)
 refine Rg.ed (e_box (t := 30) (v := .agg #[.string (v1.1), .string (v1.2)]) rfl) rfl (by decide) ?_
 rintro _ _ _ ⟨g1, rfl, rfl, rfl⟩
 refine Rg.q (v := .bool (false)) (Pu.qo (p_assign rfl)) (by decide) (Rg.nl (nT ?_))
 refine Tr.seq (Tr.region ?_)
 refine Rg.q (v := .slice x_v0.1 v0.length x_v0.2) (Pu.qo (p_move rfl)) (by decide) ?_
 refine Rg.q (v := .agg #[.string (v1.1), .string (v1.2)]) (q_ldbA ty30 rfl Has.here rfl) (by decide) ?_
 obtain ⟨r2, h3, H⟩ := bd.of H
 refine Rg.q (v := .int .i64 (r2)) (q_call (vs := [.slice x_v0.1 v0.length x_v0.2, .agg #[.string (v1.1), .string (v1.2)]]) (c_slices_Index_Tag_Tag v0 x_v0 v1 h3) rfl (EntsB.cons (Ent.b Ent.z) EntsB.nil)) (by decide) ?_
 refine Rg.q (v := .bool (decide (0 ≤ r2))) (Pu.qo (p_geq rfl rfl)) (by decide) ?_
 refine Rg.q (v := .bool (decide (0 ≤ r2))) (Pu.qo (p_assign rfl)) (by decide) (Rg.nl (nT ?_))
 refine tRet ?_
 have hr := Option.some.inj H; subst hr
 exact back1 () rfl (ResV.tmp (v := .bool (decide (0 ≤ r2))) rfl) rfl Ents.nil Take.nil
noncomputable def p_impl_FilterFits_b0 (v0 : (List Cond)) (v1 : (List Tag)) (Q13 : Int) : Option ((Int) ⊕ (Unit ⊕ Bool)) := cond (decide (Q13 < (v0.length : Int))) (gd (ix Q13 v0.length) <| bd (p_slices_Contains_Tag_Tag v1 ((nth v0 Q13.toNat).1)) fun r24 => cond (decide (r24 = ((nth v0 Q13.toNat).2))) (some (.inr (.inr false))) (gd (I64 (Q13 + 1)) <| some (.inl (Q13 + 1)))) (some (.inr (.inl ())))
noncomputable def p_impl_FilterFits (v0 : (List Cond)) (v1 : (List Tag)) : Option (Bool) := bd (bd (p_impl_FilterOk v0) fun r3 => cond (!r3) (some (true)) (bd (p_impl_NameOk v1) fun r6 => some (!r6))) fun b1 => cond (b1) (some false) (bd (lp (p_impl_FilterFits_b0 v0 v1) 0) <| sw (fun _ => some true) (fun q => some q))
theorem c_impl_FilterFits {r : Bool} (v0 : (List Cond)) (x_v0 : Option Addr × Nat) (v1 : (List Tag)) (x_v1 : Option Addr × Nat) (H : p_impl_FilterFits v0 v1 = some r) : Fn' Try.prog 37 #[.slice x_v0.1 v0.length x_v0.2, .slice x_v1.1 v1.length x_v1.2] [imm (.slice x_v0.1 v0.length x_v0.2) v0, imm (.slice x_v1.1 v1.length x_v1.2) v1] [] (ι := Unit) (fun _ => .bool (r)) (fun _ => []) (fun _ => []) := by
 refine calls_of (args := [_, _]) Try.func37 rfl (by kernel_rfl) Try.ntmps37 (by simp) fun c => ?_
 unfold p_impl_FilterFits at H
 refine Tr.seq (Tr.region ?_)
 refine Rg.q (v := .bool (false)) (Pu.qo (p_assign rfl)) (by decide) (Rg.nl (nT ?_))
 refine Tr.seq ?_
 obtain ⟨b1, j2, H⟩ := bd.of H
 refine tMid1 [(14, .bool (b1)), (0, .slice x_v0.1 v0.length x_v0.2), (1, .slice x_v1.1 v1.length x_v1.2)] ?_ ?_
 ·refine tLinT [(0, .slice x_v0.1 v0.length x_v0.2), (1, .slice x_v1.1 v1.length x_v1.2)] ⟨rfl, rfl, trivial⟩ ?_
  refine Lin.q (v := .slice x_v0.1 v0.length x_v0.2) (by decide) (Pu.qo (p_move rfl)) ?_
  obtain ⟨r3, h4, j2⟩ := bd.of j2
  refine Lin.q (v := .bool (r3)) (by decide) (q_call (vs := [.slice x_v0.1 v0.length x_v0.2]) (c_impl_FilterOk v0 x_v0 h4) rfl (EntsB.cons (Ent.b Ent.z) EntsB.nil)) ?_
  refine Lin.q (v := .bool (!r3)) (by decide) (Pu.qo (p_not rfl)) ?_
  rcases Bool.eq_false_or_eq_true (!r3) with h5 | h5
  ·have j2 := cdT h5 j2
   refine Lin.q (v := .bool (true)) (by decide) (Qo.eqv (v := .bool (!r3)) (Pu.qo (p_move rfl)) (congrArg Value.bool h5)) ?_
   refine Lin.skip (by decide) rfl ?_
   refine Lin.skip (by decide) rfl ?_
   refine Lin.skip (by decide) rfl ?_
   refine Lin.q (v := .bool (true)) (by decide) (Pu.qo (p_pickT rfl rfl)) ?_
   have j2 := Option.some.inj j2; subst j2
   show At _ _ _ _ _ _
   exact n1 ⟨rfl, rfl, rfl, trivial⟩
  ·have j2 := cdF h5 j2
   refine Lin.q (v := .bool (false)) (by decide) (Qo.eqv (v := .bool (!r3)) (Pu.qo (p_move rfl)) (congrArg Value.bool h5)) ?_
   refine Lin.g (v := .slice x_v1.1 v1.length x_v1.2) (by decide) rfl (Pu.qo (p_move rfl)) ?_
   obtain ⟨r6, h7, j2⟩ := bd.of j2
   refine Lin.g (v := .bool (r6)) (by decide) rfl (q_call (vs := [.slice x_v1.1 v1.length x_v1.2]) (c_impl_NameOk v1 x_v1 h7) rfl (EntsB.cons (Ent.b Ent.z.s) EntsB.nil)) ?_
   refine Lin.g (v := .bool (!r6)) (by decide) rfl (Pu.qo (p_not rfl)) ?_
   refine Lin.q (v := .bool (!r6)) (by decide) (Pu.qo (p_pickF rfl rfl)) ?_
   have j2 := Option.some.inj j2; subst j2
   show At _ _ _ _ _ _
   exact n1 ⟨rfl, rfl, rfl, trivial⟩
 refine Tr.cond (b := b1) rfl (fun h8 => ?_) (fun h8 => ?_)
 ·have H := cdT h8 H
  refine Tr.seq (Tr.region ?_)
  refine Rg.q (v := .bool (false)) (Pu.qo (p_assign rfl)) (by decide) (Rg.nl (nT ?_))
  refine tRet ?_
  refine rT (?_)
  have hr := Option.some.inj H; subst hr
  exact back1 () rfl (ResV.tmp (v := .bool (false)) rfl) rfl Ents.nil Take.nil
 ·have H := cdF h8 H
  refine tSkip ?_
  refine nT (?_)
  refine Tr.seq (Tr.seq (Tr.region ?_))
  refine Rg.q (v := .slice x_v0.1 v0.length x_v0.2) (Pu.qo (p_move rfl)) (by decide) ?_
  refine Rg.q (v := .int .i64 ((v0.length : Int))) (Pu.qo (p_len 62 Try.underlying54 rfl)) (by decide) ?_
  refine Rg.q (v := .int .i64 (0)) (Pu.qo (p_move rfl)) (by decide) (Rg.nl (nT ?_))
  obtain ⟨x9, hx10, H⟩ := bd.of H
  obtain ⟨n11, hx10⟩ := lp.of hx10
  refine tMidNC (ι := { q : (Unit) × Unit // x9 = .inl q.1 }) (fun ψ => []) (fun ψ => []) ?_ ?_
  ·refine Tr.block ?_
   refine tLoopC (ι := { q : Nat × (Int) × Unit // itr (p_impl_FilterFits_b0 v0 v1) q.1 q.2.1 = some x9 }) (fun ζ => [(1, .slice x_v1.1 v1.length x_v1.2), (15, .slice x_v0.1 v0.length x_v0.2), (16, .int .i64 ((v0.length : Int))), (17, .int .i64 (ζ.1.2.1))]) (fun ζ => []) (fun ζ => ζ.1.1) ⟨(n11, 0, ()), hx10⟩ ⟨rfl, rfl, rfl, rfl, trivial⟩ Take.nil ?_
   rintro ⟨⟨m12, Q13, z14⟩, hk19⟩
   obtain ⟨m20, t16, e, H1, hi17, hb18⟩ := itr.of (n := m12) (s := Q13) hk19
   subst e; unfold p_impl_FilterFits_b0 at H1
   show Tr _ _ _ _ _ [(1, .slice x_v1.1 v1.length x_v1.2), (15, .slice x_v0.1 v0.length x_v0.2), (16, .int .i64 ((v0.length : Int))), (17, .int .i64 (Q13))] _ []
   refine Tr.seq (Tr.region ?_)
   refine Rg.q (v := .bool (decide (Q13 < (v0.length : Int)))) (Pu.qo (p_lss rfl rfl)) (by decide) (Rg.nl (nT ?_))
   refine Tr.seq ?_
   refine Tr.cond (b := decide (Q13 < (v0.length : Int))) rfl (fun h21 => ?_) (fun h21 => ?_)
   ·have H1 := cdT h21 H1
    refine tSkip ?_
    refine nT (Tr.seq ?_)
    refine Tr.block ?_
    refine Tr.seq (Tr.region ?_)
    obtain ⟨h22, H1⟩ := gd.of H1
    refine Rg.q (v := elp x_v0.1 (Q13.toNat * Enc.sz Cond + 0)) (q_ixg (l := v0) (E := fun i => Flat.enc (nth v0 i)) (oa := x_v0.1) Try.underlying54 ty62 rfl rfl h22 rfl (EntB.flat (Ent.b Ent.z))) (by decide) ?_
    refine Rg.q (v := .agg #[.string (((nth v0 Q13.toNat).1).1), .string (((nth v0 Q13.toNat).1).2), .bool ((nth v0 Q13.toNat).2)]) (q_ldeA (l := v0) (E := fun i => Flat.enc (nth v0 i)) (oa := x_v0.1) (i := Q13.toNat) ty62 rfl (EntB.flat (Ent.b Ent.z)) h22.lt) (by decide) ?_
    refine Rg.ed (e_alloc ty62) rfl (by decide) ?_
    rintro _ _ _ ⟨g23, rfl, rfl, rfl⟩
    refine Rg.en (e_store (v := .agg #[.string (((nth v0 Q13.toNat).1).1), .string (((nth v0 Q13.toNat).1).2), .bool ((nth v0 Q13.toNat).2)]) (cs' := [.string (((nth v0 Q13.toNat).1).1), .string (((nth v0 Q13.toNat).1).2), .bool ((nth v0 Q13.toNat).2)]) ty62 rfl rfl Upd.here rfl (by simp [Value.cells, Value.oneCell']) (Nat.le_of_ble_eq_true rfl) rfl) rfl ?_
    rintro _ _ _ ⟨rfl, rfl, rfl⟩
    refine Rg.nl (nT ?_)
    refine Tr.seq ?_
    refine tLinS [(6, .pointer (some ⟨g23, 0, none⟩)), (1, .slice x_v1.1 v1.length x_v1.2), (15, .slice x_v0.1 v0.length x_v0.2), (16, .int .i64 ((v0.length : Int))), (17, .int .i64 (Q13))] Try.mixed (.inr (by kernel_rfl)) ⟨rfl, rfl, rfl, rfl, rfl, trivial⟩ rfl ?_
    refine Lin.q (v := .slice x_v1.1 v1.length x_v1.2) (by decide) (Pu.qo (p_move rfl)) ?_
    refine Lin.q (v := .pointer (some ⟨g23, 0, none⟩)) (by decide) (Pu.qo (p_fabE fa62_0 rfl rfl)) ?_
    refine Lin.q (v := .agg #[.string (((nth v0 Q13.toNat).1).1), .string (((nth v0 Q13.toNat).1).2)]) (by decide) (q_ldbP [.string (((nth v0 Q13.toNat).1).1), .string (((nth v0 Q13.toNat).1).2)] ty30 rfl Has.here rfl rfl) ?_
    obtain ⟨r24, h25, H1⟩ := bd.of H1
    refine Lin.q (v := .bool (r24)) (by decide) (q_call (vs := [.slice x_v1.1 v1.length x_v1.2, .agg #[.string (((nth v0 Q13.toNat).1).1), .string (((nth v0 Q13.toNat).1).2)]]) (c_slices_Contains_Tag_Tag v1 x_v1 ((nth v0 Q13.toNat).1) h25) rfl (EntsB.cons (Ent.b Ent.z.s) EntsB.nil)) ?_
    refine Lin.q (v := .pointer (some ⟨g23, 2, none⟩)) (by decide) (Pu.qo (p_fabE fa62_1 rfl rfl)) ?_
    refine Lin.q (v := .bool ((nth v0 Q13.toNat).2)) (by decide) (q_ldb ty4 rfl Has.here rfl) ?_
    refine Lin.q (v := .bool (decide (r24 = ((nth v0 Q13.toNat).2)))) (by decide) (Pu.qo (p_beql Try.underlying4 rfl rfl)) ?_
    show At _ _ _ _ _ _
    refine nT (?_)
    refine Tr.cond (b := decide (r24 = ((nth v0 Q13.toNat).2))) rfl (fun h26 => ?_) (fun h26 => ?_)
    ·have H1 := cdT h26 H1
     refine Tr.seq (Tr.region ?_)
     refine Rg.q (v := .bool (false)) (Pu.qo (p_assign rfl)) (by decide) (Rg.nl (nT ?_))
     refine tRet ?_
     refine rB (rT (rT (rB (rT (rT (?_))))))
     have hx := hb18 _ (Option.some.inj H1).symm; subst hx
     replace H := sw.r H
     have hr := Option.some.inj H; subst hr
     exact back1 () rfl (ResV.tmp (v := .bool (false)) rfl) rfl Ents.nil Take.nil
    ·have H1 := cdF h26 H1
     refine tSkip ?_
     refine nB (nT (?_))
     refine Tr.region ?_
     obtain ⟨h27, H1⟩ := gd.of H1
     refine Rg.q (v := .int .i64 (Q13 + 1)) (Pu.qo (p_add rfl rfl h27)) (by decide) ?_
     refine Rg.q (v := .int .i64 (Q13 + 1)) (Pu.qo (p_move rfl)) (by decide) (Rg.nl ?_)
     exact nLC ⟨(m20, Q13 + 1, ()), hi17 _ (Option.some.inj H1).symm⟩ (Nat.lt_succ_self _) ⟨rfl, rfl, rfl, rfl, trivial⟩ Ents.refl Take.nil
   ·have H1 := cdF h21 H1
    refine tExit (xT (xT (xE (?_))))
    exact nMC ⟨((), ()), (hb18 _ (Option.some.inj H1).symm).symm⟩ trivial Ents.refl Take.nil
  ·rintro ⟨⟨e28, y15⟩, hx⟩; subst hx; replace H := sw.l H
   show At _ _ [] _ [] _
   refine nT (?_)
   refine Tr.seq (Tr.region ?_)
   refine Rg.q (v := .bool (true)) (Pu.qo (p_assign rfl)) (by decide) (Rg.nl (nT ?_))
   refine tRet ?_
   have hr := Option.some.inj H; subst hr
   exact back1 () rfl (ResV.tmp (v := .bool (true)) rfl) rfl Ents.nil Take.nil
noncomputable def p_impl_IndexFind_b0 (v0 : Index) (v1 : (List Cond)) (Q13 : (List Int) × Int) : Option (((List Int) × Int) ⊕ ((List Int))) := cond (decide (Q13.2 < (v0.1.length : Int))) (gd (ix Q13.2 v0.1.length) <| bd (p_impl_FilterFits v1 (nth v0.1 Q13.2.toNat)) fun r23 => cond (r23) (gd (I64 (Q13.2 + 1)) <| gd (room (Q13.1.length + 1)) <| some (.inl ((Q13.1 ++ [Q13.2 + 1]), Q13.2 + 1))) (gd (I64 (Q13.2 + 1)) <| some (.inl (Q13.1, Q13.2 + 1)))) (some (.inr Q13.1))
noncomputable def p_impl_IndexFind (v0 : Index) (v1 : (List Cond)) : Option ((List Int)) := bd (p_impl_IndexOk v0) fun r6 => cond (!r6) (some ([] : List Int)) (bd (lp (p_impl_IndexFind_b0 v0 v1) (([] : List Int), 0)) fun x9 => some x9)
theorem c_impl_IndexFind {r : (List Int)} (v0 : Index) (x_v0 : (Option Addr × Nat) × (Option Addr × Nat)) (v1 : (List Cond)) (x_v1 : Option Addr × Nat) (H : p_impl_IndexFind v0 v1 = some r) : Fn' Try.prog 34 #[.agg #[.slice x_v0.1.1 v0.1.length x_v0.1.2, .slice x_v0.2.1 v0.2.length x_v0.2.2], .slice x_v1.1 v1.length x_v1.2] [imm (.slice x_v0.1.1 v0.1.length x_v0.1.2) v0.1, imm (.slice x_v0.2.1 v0.2.length x_v0.2.2) v0.2, imm (.slice x_v1.1 v1.length x_v1.2) v1] [] (ι := Option Addr × Nat) (fun x => .slice x.1 r.length x.2) (fun _ => []) (fun x => [tree (.slice x.1 r.length x.2) r]) := by
 refine calls_of (args := [_, _]) Try.func34 rfl (by kernel_rfl) Try.ntmps34 (by simp) fun c => ?_
 unfold p_impl_IndexFind at H
 refine Tr.openD Ent.z fun X1 => ?_
 refine Tr.openD Ent.z.s.s fun X2 => ?_
 refine Tr.seq (Tr.region ?_)
 refine Rg.ed (e_box (t := 26) (v := .agg #[.slice x_v0.1.1 v0.1.length x_v0.1.2, .slice x_v0.2.1 v0.2.length x_v0.2.2]) rfl) rfl (by decide) ?_
 rintro _ _ _ ⟨g3, rfl, rfl, rfl⟩
 refine Rg.q (v := .slice none 0 0) (Pu.qo (p_assign rfl)) (by decide) (Rg.nl (nT ?_))
 refine Tr.seq (Tr.region ?_)
 refine Rg.ed (e_lit0 Int Try.underlying31 ty3) rfl (by decide) ?_
 rintro _ _ _ ⟨a4, c5, rfl, rfl, rfl⟩
 refine Rg.q (v := .slice a4 (([] : List Int).length) c5) (Pu.qo (p_assign rfl)) (by decide) (Rg.nl (nT ?_))
 refine Tr.seq (Tr.seq (Tr.region ?_))
 refine Rg.q (v := .agg #[.slice x_v0.1.1 v0.1.length x_v0.1.2, .slice x_v0.2.1 v0.2.length x_v0.2.2]) (q_ldbA ty26 rfl Has.here.there rfl) (by decide) ?_
 obtain ⟨r6, h7, H⟩ := bd.of H
 refine Rg.q (v := .bool (r6)) (q_call (vs := [.agg #[.slice x_v0.1.1 v0.1.length x_v0.1.2, .slice x_v0.2.1 v0.2.length x_v0.2.2]]) (c_impl_IndexOk v0 x_v0 h7) rfl (EntsB.cons (Ent.b (Ent.dimm Ent.z.s)) (EntsB.cons (Ent.b (Ent.dimm Ent.z)) EntsB.nil))) (by decide) ?_
 refine Rg.q (v := .bool (!r6)) (Pu.qo (p_not rfl)) (by decide) (Rg.nl (nT ?_))
 refine Tr.cond (b := !r6) rfl (fun h8 => ?_) (fun h8 => ?_)
 ·have H := cdT h8 H
  refine Tr.seq (Tr.region ?_)
  refine Rg.q (v := .slice a4 (([] : List Int).length) c5) (Pu.qo (p_move rfl)) (by decide) ?_
  refine Rg.q (v := .slice a4 (([] : List Int).length) c5) (Pu.qo (p_assign rfl)) (by decide) (Rg.nl (nT ?_))
  refine tRet ?_
  refine rT (?_)
  have hr := Option.some.inj H; subst hr
  exact back1 (a4, c5) rfl (ResV.tmp (v := .slice a4 (([] : List Int).length) c5) rfl) rfl Ents.nil (.cons Del.here .nil)
 ·have H := cdF h8 H
  refine tSkip ?_
  refine nT (?_)
  refine Tr.seq (Tr.seq (Tr.region ?_))
  refine Rg.q (v := .pointer (some ⟨g3, 0, none⟩)) (Pu.qo (p_fabE fa26_0 rfl rfl)) (by decide) ?_
  refine Rg.q (v := .slice x_v0.1.1 v0.1.length x_v0.1.2) (q_ldb ty23 rfl Has.here.there rfl) (by decide) ?_
  refine Rg.q (v := .int .i64 ((v0.1.length : Int))) (Pu.qo (p_len 38 Try.underlying23 rfl)) (by decide) ?_
  refine Rg.q (v := .int .i64 (0)) (Pu.qo (p_move rfl)) (by decide) (Rg.nl (nT ?_))
  obtain ⟨x9, hx10, H⟩ := bd.of H
  obtain ⟨n11, hx10⟩ := lp.of hx10
  refine tMidNC (ι := Option Addr × Nat) (fun ψ => [(5, .slice ψ.1 x9.length ψ.2)]) (fun ψ => [tree (.slice ψ.1 x9.length ψ.2) x9]) ?_ ?_
  ·refine Tr.block ?_
   refine tLoopC (ι := { q : Nat × ((List Int) × Int) × (Option Addr × Nat) // itr (p_impl_IndexFind_b0 v0 v1) q.1 q.2.1 = some x9 }) (fun ζ => [(1, .slice x_v1.1 v1.length x_v1.2), (5, .slice ζ.1.2.2.1 ζ.1.2.1.1.length ζ.1.2.2.2), (14, .slice x_v0.1.1 v0.1.length x_v0.1.2), (15, .int .i64 ((v0.1.length : Int))), (16, .int .i64 (ζ.1.2.1.2))]) (fun ζ => [tree (.slice ζ.1.2.2.1 ζ.1.2.1.1.length ζ.1.2.2.2) ζ.1.2.1.1]) (fun ζ => ζ.1.1) ⟨(n11, (([] : List Int), 0), (a4, c5)), hx10⟩ ⟨rfl, rfl, rfl, rfl, rfl, trivial⟩ (.cons Del.here .nil) ?_
   rintro ⟨⟨m12, Q13, z14⟩, hk19⟩
   obtain ⟨m20, t16, e, H1, hi17, hb18⟩ := itr.of (n := m12) (s := Q13) hk19
   subst e; unfold p_impl_IndexFind_b0 at H1
   show Tr _ _ _ _ _ [(1, .slice x_v1.1 v1.length x_v1.2), (5, .slice z14.1 Q13.1.length z14.2), (14, .slice x_v0.1.1 v0.1.length x_v0.1.2), (15, .int .i64 ((v0.1.length : Int))), (16, .int .i64 (Q13.2))] _ [tree (.slice z14.1 Q13.1.length z14.2) Q13.1]
   refine Tr.seq (Tr.region ?_)
   refine Rg.q (v := .bool (decide (Q13.2 < (v0.1.length : Int)))) (Pu.qo (p_lss rfl rfl)) (by decide) (Rg.nl (nT ?_))
   refine Tr.seq ?_
   refine Tr.cond (b := decide (Q13.2 < (v0.1.length : Int))) rfl (fun h21 => ?_) (fun h21 => ?_)
   ·have H1 := cdT h21 H1
    refine tSkip ?_
    refine nT (Tr.seq ?_)
    refine Tr.block ?_
    refine Tr.seq (Tr.region ?_)
    refine Rg.q (v := .int .i64 (Q13.2)) (Pu.qo (p_move rfl)) (by decide) ?_
    obtain ⟨h22, H1⟩ := gd.of H1
    refine Rg.q (v := elp x_v0.1.1 (Q13.2.toNat * Enc.sz (List Tag) + 0)) (q_ixg (l := v0.1) (E := fun i => Dp.denc (nth v0.1 i) (X1 i)) (oa := x_v0.1.1) Try.underlying23 ty38 rfl rfl h22 rfl (Ent.b (Ent.darr Ent.z.s))) (by decide) ?_
    refine Rg.q (v := .slice ((X1 Q13.2.toNat).1) ((nth v0.1 Q13.2.toNat).length) ((X1 Q13.2.toNat).2.1)) (q_lde (l := v0.1) (E := fun i => Dp.denc (nth v0.1 i) (X1 i)) (oa := x_v0.1.1) (i := Q13.2.toNat) (j := 0) ty38 rfl (Ent.b (Ent.darr Ent.z.s)) h22.lt rfl) (by decide) ?_
    refine Rg.q (v := .int .i64 (Q13.2)) (Pu.qo (p_assign rfl)) (by decide) ?_
    refine Rg.q (v := .slice ((X1 Q13.2.toNat).1) ((nth v0.1 Q13.2.toNat).length) ((X1 Q13.2.toNat).2.1)) (Pu.qo (p_assign rfl)) (by decide) (Rg.nl (nT ?_))
    refine Tr.seq (Tr.region ?_)
    refine Rg.q (v := .slice x_v1.1 v1.length x_v1.2) (Pu.qo (p_move rfl)) (by decide) ?_
    refine Rg.q (v := .slice ((X1 Q13.2.toNat).1) ((nth v0.1 Q13.2.toNat).length) ((X1 Q13.2.toNat).2.1)) (Pu.qo (p_move rfl)) (by decide) ?_
    obtain ⟨r23, h24, H1⟩ := bd.of H1
    refine Rg.q (v := .bool (r23)) (q_call (vs := [.slice x_v1.1 v1.length x_v1.2, .slice ((X1 Q13.2.toNat).1) ((nth v0.1 Q13.2.toNat).length) ((X1 Q13.2.toNat).2.1)]) (c_impl_FilterFits v1 x_v1 (nth v0.1 Q13.2.toNat) ((X1 Q13.2.toNat).1, (X1 Q13.2.toNat).2.1) h24) rfl (EntsB.cons (Ent.b Ent.z.s.s.s.s) (EntsB.cons (Ent.b (Ent.dimm (Ent.del Ent.z.s h22.lt))) EntsB.nil))) (by decide) (Rg.nl (nT ?_))
    refine Tr.cond (b := r23) rfl (fun h25 => ?_) (fun h25 => ?_)
    ·have H1 := cdT h25 H1
     refine Tr.region ?_
     refine Rg.q (v := .slice z14.1 Q13.1.length z14.2) (Pu.qo (p_move rfl)) (by decide) ?_
     refine Rg.q (v := .int .i64 (Q13.2)) (Pu.qo (p_move rfl)) (by decide) ?_
     obtain ⟨h26, H1⟩ := gd.of H1
     refine Rg.q (v := .int .i64 (Q13.2 + 1)) (Pu.qo (p_add rfl rfl h26)) (by decide) ?_
     refine Rg.ed (e_lit (vs := [(0, .int .i64 (Q13.2 + 1))]) [.int .i64 (Q13.2 + 1)] Try.underlying31 ty3 rfl (by decide) (by decide) (by kernel_rfl)) rfl (by decide) ?_
     rintro _ _ _ ⟨g27, rfl, rfl, rfl⟩
     obtain ⟨h30, H1⟩ := gd.of H1
     refine Rg.ed (e_app1 (l := Q13.1) (α := Int) (Q13.2 + 1) () Try.underlying31 ty3 rfl rfl (h30.b (by decide)) h30.x rfl (ShpT.wfa _) (.cons Del.here.there (.cons Del.here .nil))) rfl (by decide) ?_
     rintro _ _ _ ⟨a28, c29, rfl, rfl, rfl⟩
     refine Rg.q (v := .slice a28 ((Q13.1 ++ [Q13.2 + 1]).length) c29) (Pu.qo (p_assign rfl)) (by decide) (Rg.nl ?_)
     refine nB (nT (?_))
     refine Tr.region ?_
     refine Rg.q (v := .int .i64 (Q13.2 + 1)) (Pu.qo (p_add rfl rfl h26)) (by decide) ?_
     refine Rg.q (v := .int .i64 (Q13.2 + 1)) (Pu.qo (p_move rfl)) (by decide) (Rg.nl ?_)
     exact nLC ⟨(m20, ((Q13.1 ++ [Q13.2 + 1]), Q13.2 + 1), (a28, c29)), hi17 _ (Option.some.inj H1).symm⟩ (Nat.lt_succ_self _) ⟨rfl, rfl, rfl, rfl, rfl, trivial⟩ Ents.refl (.cons Del.here .nil)
    ·have H1 := cdF h25 H1
     refine tSkip ?_
     refine nB (nT (?_))
     refine Tr.region ?_
     obtain ⟨h31, H1⟩ := gd.of H1
     refine Rg.q (v := .int .i64 (Q13.2 + 1)) (Pu.qo (p_add rfl rfl h31)) (by decide) ?_
     refine Rg.q (v := .int .i64 (Q13.2 + 1)) (Pu.qo (p_move rfl)) (by decide) (Rg.nl ?_)
     exact nLC ⟨(m20, (Q13.1, Q13.2 + 1), (z14.1, z14.2)), hi17 _ (Option.some.inj H1).symm⟩ (Nat.lt_succ_self _) ⟨rfl, rfl, rfl, rfl, rfl, trivial⟩ Ents.refl (.cons Del.here .nil)
   ·have H1 := cdF h21 H1
    refine tExit (xT (xT (xE (?_))))
    have hx := hb18 _ (Option.some.inj H1).symm; subst hx
    exact nMC (z14.1, z14.2) ⟨rfl, trivial⟩ Ents.refl (.cons Del.here .nil)
  ·intro y15
   show At _ _ [(5, .slice y15.1 x9.length y15.2)] _ [tree (.slice y15.1 x9.length y15.2) x9] _
   refine nT (?_)
   refine Tr.seq (Tr.region ?_)
   refine Rg.q (v := .slice y15.1 x9.length y15.2) (Pu.qo (p_move rfl)) (by decide) ?_
   refine Rg.q (v := .slice y15.1 x9.length y15.2) (Pu.qo (p_assign rfl)) (by decide) (Rg.nl (nT ?_))
   refine tRet ?_
   have hr := Option.some.inj H; subst hr
   exact back1 y15 rfl (ResV.tmp (v := .slice y15.1 x9.length y15.2) rfl) rfl Ents.nil (.cons Del.here .nil)
noncomputable def p_impl_IndexPost_b0 (v0 : Index) (v1 : Tag) (Q14 : (List Int) × Int) : Option (((List Int) × Int) ⊕ ((List Int))) := cond (decide (Q14.2 < (v0.2.length : Int))) (gd (ix Q14.2 v0.2.length) <| cond (decide ((nth v0.2 Q14.2.toNat).1 = v1)) (gd (room (Q14.1.length + ((nth v0.2 Q14.2.toNat).2).length)) <| gd (I64 (Q14.2 + 1)) <| some (.inl ((Q14.1 ++ ((nth v0.2 Q14.2.toNat).2)), Q14.2 + 1))) (gd (I64 (Q14.2 + 1)) <| some (.inl (Q14.1, Q14.2 + 1)))) (some (.inr Q14.1))
noncomputable def p_impl_IndexPost (v0 : Index) (v1 : Tag) : Option ((List Int)) := bd (p_impl_IndexOk v0) fun r7 => cond (r7) (bd (lp (p_impl_IndexPost_b0 v0 v1) (([] : List Int), 0)) fun x10 => some x10) (some ([] : List Int))
theorem c_impl_IndexPost {r : (List Int)} (v0 : Index) (x_v0 : (Option Addr × Nat) × (Option Addr × Nat)) (v1 : Tag) (H : p_impl_IndexPost v0 v1 = some r) : Fn' Try.prog 21 #[.agg #[.slice x_v0.1.1 v0.1.length x_v0.1.2, .slice x_v0.2.1 v0.2.length x_v0.2.2], .agg #[.string (v1.1), .string (v1.2)]] [imm (.slice x_v0.1.1 v0.1.length x_v0.1.2) v0.1, imm (.slice x_v0.2.1 v0.2.length x_v0.2.2) v0.2] [] (ι := Option Addr × Nat) (fun x => .slice x.1 r.length x.2) (fun _ => []) (fun x => [tree (.slice x.1 r.length x.2) r]) := by
 refine calls_of (args := [_, _]) Try.func21 rfl (by kernel_rfl) Try.ntmps21 (by simp) fun c => ?_
 unfold p_impl_IndexPost at H
 refine Tr.openD Ent.z fun X1 => ?_
 refine Tr.openD Ent.z.s.s fun X2 => ?_
 refine Tr.seq (Tr.region ?_)
 refine Rg.ed (e_box (t := 26) (v := .agg #[.slice x_v0.1.1 v0.1.length x_v0.1.2, .slice x_v0.2.1 v0.2.length x_v0.2.2]) rfl) rfl (by decide) ?_
 rintro _ _ _ ⟨g3, rfl, rfl, rfl⟩
 refine Rg.ed (e_box (t := 30) (v := .agg #[.string (v1.1), .string (v1.2)]) rfl) rfl (by decide) ?_
 rintro _ _ _ ⟨g4, rfl, rfl, rfl⟩
 refine Rg.q (v := .slice none 0 0) (Pu.qo (p_assign rfl)) (by decide) (Rg.nl (nT ?_))
 refine Tr.seq (Tr.region ?_)
 refine Rg.ed (e_lit0 Int Try.underlying31 ty3) rfl (by decide) ?_
 rintro _ _ _ ⟨a5, c6, rfl, rfl, rfl⟩
 refine Rg.q (v := .slice a5 (([] : List Int).length) c6) (Pu.qo (p_assign rfl)) (by decide) (Rg.nl (nT ?_))
 refine Tr.seq (Tr.seq (Tr.region ?_))
 refine Rg.q (v := .agg #[.slice x_v0.1.1 v0.1.length x_v0.1.2, .slice x_v0.2.1 v0.2.length x_v0.2.2]) (q_ldbA ty26 rfl Has.here.there.there rfl) (by decide) ?_
 obtain ⟨r7, h8, H⟩ := bd.of H
 refine Rg.q (v := .bool (r7)) (q_call (vs := [.agg #[.slice x_v0.1.1 v0.1.length x_v0.1.2, .slice x_v0.2.1 v0.2.length x_v0.2.2]]) (c_impl_IndexOk v0 x_v0 h8) rfl (EntsB.cons (Ent.b (Ent.dimm Ent.z.s)) (EntsB.cons (Ent.b (Ent.dimm Ent.z)) EntsB.nil))) (by decide) (Rg.nl (nT ?_))
 refine Tr.cond (b := r7) rfl (fun h9 => ?_) (fun h9 => ?_)
 ·have H := cdT h9 H
  refine Tr.seq (Tr.region ?_)
  refine Rg.q (v := .pointer (some ⟨g3, 1, none⟩)) (Pu.qo (p_fabE fa26_1 rfl rfl)) (by decide) ?_
  refine Rg.q (v := .slice x_v0.2.1 v0.2.length x_v0.2.2) (q_ldb ty24 rfl Has.here.there.there rfl) (by decide) ?_
  refine Rg.q (v := .int .i64 ((v0.2.length : Int))) (Pu.qo (p_len 33 Try.underlying24 rfl)) (by decide) ?_
  refine Rg.q (v := .int .i64 (0)) (Pu.qo (p_move rfl)) (by decide) (Rg.nl (nT ?_))
  obtain ⟨x10, hx11, H⟩ := bd.of H
  obtain ⟨n12, hx11⟩ := lp.of hx11
  refine tMidNC (ι := Option Addr × Nat) (fun ψ => [(5, .slice ψ.1 x10.length ψ.2)]) (fun ψ => [tree (.slice ψ.1 x10.length ψ.2) x10]) ?_ ?_
  ·refine Tr.block ?_
   refine tLoopC (ι := { q : Nat × ((List Int) × Int) × (Option Addr × Nat) // itr (p_impl_IndexPost_b0 v0 v1) q.1 q.2.1 = some x10 }) (fun ζ => [(3, .pointer (some ⟨g4, 0, none⟩)), (5, .slice ζ.1.2.2.1 ζ.1.2.1.1.length ζ.1.2.2.2), (12, .slice x_v0.2.1 v0.2.length x_v0.2.2), (13, .int .i64 ((v0.2.length : Int))), (14, .int .i64 (ζ.1.2.1.2))]) (fun ζ => [box g4 30 [.string (v1.1), .string (v1.2)], tree (.slice ζ.1.2.2.1 ζ.1.2.1.1.length ζ.1.2.2.2) ζ.1.2.1.1]) (fun ζ => ζ.1.1) ⟨(n12, (([] : List Int), 0), (a5, c6)), hx11⟩ ⟨rfl, rfl, rfl, rfl, rfl, trivial⟩ (.cons Del.here.there (.cons Del.here .nil)) ?_
   rintro ⟨⟨m13, Q14, z15⟩, hk20⟩
   obtain ⟨m21, t17, e, H1, hi18, hb19⟩ := itr.of (n := m13) (s := Q14) hk20
   subst e; unfold p_impl_IndexPost_b0 at H1
   show Tr _ _ _ _ _ [(3, .pointer (some ⟨g4, 0, none⟩)), (5, .slice z15.1 Q14.1.length z15.2), (12, .slice x_v0.2.1 v0.2.length x_v0.2.2), (13, .int .i64 ((v0.2.length : Int))), (14, .int .i64 (Q14.2))] _ [box g4 30 [.string (v1.1), .string (v1.2)], tree (.slice z15.1 Q14.1.length z15.2) Q14.1]
   refine Tr.seq (Tr.region ?_)
   refine Rg.q (v := .bool (decide (Q14.2 < (v0.2.length : Int)))) (Pu.qo (p_lss rfl rfl)) (by decide) (Rg.nl (nT ?_))
   refine Tr.seq ?_
   refine Tr.cond (b := decide (Q14.2 < (v0.2.length : Int))) rfl (fun h22 => ?_) (fun h22 => ?_)
   ·have H1 := cdT h22 H1
    refine tSkip ?_
    refine nT (Tr.seq ?_)
    refine Tr.block ?_
    refine Tr.seq (Tr.region ?_)
    obtain ⟨h23, H1⟩ := gd.of H1
    refine Rg.q (v := elp x_v0.2.1 (Q14.2.toNat * Enc.sz Post + 0)) (q_ixg (l := v0.2) (E := fun i => Dp.denc (nth v0.2 i) (X2 i)) (oa := x_v0.2.1) Try.underlying24 ty33 rfl rfl h23 rfl (Ent.b (Ent.darr Ent.z))) (by decide) ?_
    refine Rg.q (v := .agg #[.string (((nth v0.2 Q14.2.toNat).1).1), .string (((nth v0.2 Q14.2.toNat).1).2), .slice (((X2 Q14.2.toNat).2).1) (((nth v0.2 Q14.2.toNat).2).length) (((X2 Q14.2.toNat).2).2.1)]) (q_ldeA (l := v0.2) (E := fun i => Dp.denc (nth v0.2 i) (X2 i)) (oa := x_v0.2.1) (i := Q14.2.toNat) ty33 rfl (Ent.b (Ent.darr Ent.z)) h23.lt) (by decide) ?_
    refine Rg.ed (e_alloc ty33) rfl (by decide) ?_
    rintro _ _ _ ⟨g24, rfl, rfl, rfl⟩
    refine Rg.en (e_store (v := .agg #[.string (((nth v0.2 Q14.2.toNat).1).1), .string (((nth v0.2 Q14.2.toNat).1).2), .slice (((X2 Q14.2.toNat).2).1) (((nth v0.2 Q14.2.toNat).2).length) (((X2 Q14.2.toNat).2).2.1)]) (cs' := [.string (((nth v0.2 Q14.2.toNat).1).1), .string (((nth v0.2 Q14.2.toNat).1).2), .slice (((X2 Q14.2.toNat).2).1) (((nth v0.2 Q14.2.toNat).2).length) (((X2 Q14.2.toNat).2).2.1)]) ty33 rfl rfl Upd.here rfl (by simp [Value.cells, Value.oneCell']) (Nat.le_of_ble_eq_true rfl) rfl) rfl ?_
    rintro _ _ _ ⟨rfl, rfl, rfl⟩
    refine Rg.nl (nT ?_)
    refine Tr.seq (Tr.region ?_)
    refine Rg.q (v := .pointer (some ⟨g24, 0, none⟩)) (Pu.qo (p_fabE fa33_0 rfl rfl)) (by decide) ?_
    refine Rg.q (v := .agg #[.string (((nth v0.2 Q14.2.toNat).1).1), .string (((nth v0.2 Q14.2.toNat).1).2)]) (q_ldbP [.string (((nth v0.2 Q14.2.toNat).1).1), .string (((nth v0.2 Q14.2.toNat).1).2)] ty30 rfl Has.here rfl rfl) (by decide) ?_
    refine Rg.q (v := .agg #[.string (v1.1), .string (v1.2)]) (q_ldbA ty30 rfl Has.here.there rfl) (by decide) ?_
    refine Rg.q (v := .bool (decide ((nth v0.2 Q14.2.toNat).1 = v1))) (Pu.qo (p_aeql (a := (nth v0.2 Q14.2.toNat).1) (b := v1) ae30 rfl rfl rfl rfl)) (by decide) (Rg.nl (nT ?_))
    refine Tr.cond (b := decide ((nth v0.2 Q14.2.toNat).1 = v1)) rfl (fun h25 => ?_) (fun h25 => ?_)
    ·have H1 := cdT h25 H1
     refine Tr.region ?_
     refine Rg.q (v := .slice z15.1 Q14.1.length z15.2) (Pu.qo (p_move rfl)) (by decide) ?_
     refine Rg.q (v := .pointer (some ⟨g24, 2, none⟩)) (Pu.qo (p_fabE fa33_1 rfl rfl)) (by decide) ?_
     refine Rg.q (v := .slice (((X2 Q14.2.toNat).2).1) (((nth v0.2 Q14.2.toNat).2).length) (((X2 Q14.2.toNat).2).2.1)) (q_ldb ty31 rfl Has.here rfl) (by decide) ?_
     obtain ⟨h28, H1⟩ := gd.of H1
     refine Rg.ed (e_appF (l := Q14.1) (k := (nth v0.2 Q14.2.toNat).2) (α := Int) Try.underlying31 ty3 rfl rfl (h28.b (by decide)) h28.x (.cons Del.here.there.there .nil) (Ent.b (Ent.dimm (Ent.dsnd (Ent.del Ent.z h23.lt))))) rfl (by decide) ?_
     rintro _ _ _ ⟨a26, c27, rfl, rfl, rfl⟩
     refine Rg.q (v := .slice a26 ((Q14.1 ++ ((nth v0.2 Q14.2.toNat).2)).length) c27) (Pu.qo (p_assign rfl)) (by decide) (Rg.nl ?_)
     refine nB (nT (?_))
     refine Tr.region ?_
     obtain ⟨h29, H1⟩ := gd.of H1
     refine Rg.q (v := .int .i64 (Q14.2 + 1)) (Pu.qo (p_add rfl rfl h29)) (by decide) ?_
     refine Rg.q (v := .int .i64 (Q14.2 + 1)) (Pu.qo (p_move rfl)) (by decide) (Rg.nl ?_)
     exact nLC ⟨(m21, ((Q14.1 ++ ((nth v0.2 Q14.2.toNat).2)), Q14.2 + 1), (a26, c27)), hi18 _ (Option.some.inj H1).symm⟩ (Nat.lt_succ_self _) ⟨rfl, rfl, rfl, rfl, rfl, trivial⟩ Ents.refl (.cons Del.here.there.there (.cons Del.here .nil))
    ·have H1 := cdF h25 H1
     refine tSkip ?_
     refine nB (nT (?_))
     refine Tr.region ?_
     obtain ⟨h30, H1⟩ := gd.of H1
     refine Rg.q (v := .int .i64 (Q14.2 + 1)) (Pu.qo (p_add rfl rfl h30)) (by decide) ?_
     refine Rg.q (v := .int .i64 (Q14.2 + 1)) (Pu.qo (p_move rfl)) (by decide) (Rg.nl ?_)
     exact nLC ⟨(m21, (Q14.1, Q14.2 + 1), (z15.1, z15.2)), hi18 _ (Option.some.inj H1).symm⟩ (Nat.lt_succ_self _) ⟨rfl, rfl, rfl, rfl, rfl, trivial⟩ Ents.refl (.cons Del.here.there (.cons Del.here.there .nil))
   ·have H1 := cdF h22 H1
    refine tExit (xT (xT (xE (?_))))
    have hx := hb19 _ (Option.some.inj H1).symm; subst hx
    exact nMC (z15.1, z15.2) ⟨rfl, trivial⟩ Ents.refl (.cons Del.here.there .nil)
  ·intro y16
   show At _ _ [(5, .slice y16.1 x10.length y16.2)] _ [tree (.slice y16.1 x10.length y16.2) x10] _
   refine nT (?_)
   refine Tr.seq (Tr.region ?_)
   refine Rg.q (v := .slice y16.1 x10.length y16.2) (Pu.qo (p_move rfl)) (by decide) ?_
   refine Rg.q (v := .slice y16.1 x10.length y16.2) (Pu.qo (p_assign rfl)) (by decide) (Rg.nl (nT ?_))
   refine tRet ?_
   have hr := Option.some.inj H; subst hr
   exact back1 y16 rfl (ResV.tmp (v := .slice y16.1 x10.length y16.2) rfl) rfl Ents.nil (.cons Del.here .nil)
 ·have H := cdF h9 H
  refine tSkip ?_
  refine nT (?_)
  refine Tr.seq (Tr.region ?_)
  refine Rg.q (v := .slice a5 (([] : List Int).length) c6) (Pu.qo (p_move rfl)) (by decide) ?_
  refine Rg.q (v := .slice a5 (([] : List Int).length) c6) (Pu.qo (p_assign rfl)) (by decide) (Rg.nl (nT ?_))
  refine tRet ?_
  have hr := Option.some.inj H; subst hr
  exact back1 (a5, c6) rfl (ResV.tmp (v := .slice a5 (([] : List Int).length) c6) rfl) rfl Ents.nil (.cons Del.here .nil)
noncomputable def p_laws_lyAmong_b0 (v0 : (List Int)) (v1 : Int) (Q5 : Int) : Option ((Int) ⊕ (Unit ⊕ Bool)) := cond (decide (Q5 < (v0.length : Int))) (gd (ix Q5 v0.length) <| cond (decide ((nth v0 Q5.toNat) = v1)) (some (.inr (.inr true))) (gd (I64 (Q5 + 1)) <| some (.inl (Q5 + 1)))) (some (.inr (.inl ())))
noncomputable def p_laws_lyAmong (v0 : (List Int)) (v1 : Int) : Option (Bool) := bd (lp (p_laws_lyAmong_b0 v0 v1) 0) <| sw (fun _ => some false) (fun q => some q)
theorem c_laws_lyAmong {r : Bool} (v0 : (List Int)) (x_v0 : Option Addr × Nat) (v1 : Int) (H : p_laws_lyAmong v0 v1 = some r) : Fn' Try.prog 23 #[.slice x_v0.1 v0.length x_v0.2, .int .i64 (v1)] [imm (.slice x_v0.1 v0.length x_v0.2) v0] [] (ι := Unit) (fun _ => .bool (r)) (fun _ => []) (fun _ => []) := by
 refine calls_of (args := [_, _]) Try.func23 rfl (by kernel_rfl) Try.ntmps23 (by simp) fun c => ?_
 unfold p_laws_lyAmong at H
 refine Tr.seq (Tr.region ?_)
 refine Rg.q (v := .bool (false)) (Pu.qo (p_assign rfl)) (by decide) (Rg.nl (nT ?_))
 refine Tr.seq (Tr.seq (Tr.region ?_))
 refine Rg.q (v := .int .i64 (0)) (Pu.qo (p_assign rfl)) (by decide) (Rg.nl (nT ?_))
 obtain ⟨x1, hx2, H⟩ := bd.of H
 obtain ⟨n3, hx2⟩ := lp.of hx2
 refine tMidNC (ι := { q : (Unit) × Unit // x1 = .inl q.1 }) (fun ψ => []) (fun ψ => []) ?_ ?_
 ·refine Tr.block ?_
  refine tLoopC (ι := { q : Nat × (Int) × Unit // itr (p_laws_lyAmong_b0 v0 v1) q.1 q.2.1 = some x1 }) (fun ζ => [(0, .slice x_v0.1 v0.length x_v0.2), (1, .int .i64 (v1)), (5, .int .i64 (ζ.1.2.1))]) (fun ζ => []) (fun ζ => ζ.1.1) ⟨(n3, 0, ()), hx2⟩ ⟨rfl, rfl, rfl, trivial⟩ Take.nil ?_
  rintro ⟨⟨m4, Q5, z6⟩, hk11⟩
  obtain ⟨m12, t8, e, H1, hi9, hb10⟩ := itr.of (n := m4) (s := Q5) hk11
  subst e; unfold p_laws_lyAmong_b0 at H1
  show Tr _ _ _ _ _ [(0, .slice x_v0.1 v0.length x_v0.2), (1, .int .i64 (v1)), (5, .int .i64 (Q5))] _ []
  refine Tr.seq (Tr.seq (Tr.region ?_))
  refine Rg.q (v := .int .i64 (Q5)) (Pu.qo (p_move rfl)) (by decide) ?_
  refine Rg.q (v := .slice x_v0.1 v0.length x_v0.2) (Pu.qo (p_move rfl)) (by decide) ?_
  refine Rg.q (v := .int .i64 ((v0.length : Int))) (Pu.qo (p_len 3 Try.underlying31 rfl)) (by decide) ?_
  refine Rg.q (v := .bool (decide (Q5 < (v0.length : Int)))) (Pu.qo (p_lss rfl rfl)) (by decide) (Rg.nl (nT ?_))
  refine Tr.cond (b := decide (Q5 < (v0.length : Int))) rfl (fun h13 => ?_) (fun h13 => ?_)
  ·have H1 := cdT h13 H1
   refine tSkip ?_
   refine nT (Tr.seq ?_)
   refine Tr.block ?_
   refine Tr.seq (Tr.region ?_)
   refine Rg.q (v := .slice x_v0.1 v0.length x_v0.2) (Pu.qo (p_move rfl)) (by decide) ?_
   refine Rg.q (v := .int .i64 (Q5)) (Pu.qo (p_move rfl)) (by decide) ?_
   obtain ⟨h14, H1⟩ := gd.of H1
   refine Rg.q (v := elp x_v0.1 (Q5.toNat * Enc.sz Int + 0)) (q_ixg (l := v0) (E := fun i => Flat.enc (nth v0 i)) (oa := x_v0.1) Try.underlying31 ty3 rfl rfl h14 rfl (EntB.flat (Ent.b Ent.z))) (by decide) ?_
   refine Rg.q (v := .int .i64 (nth v0 Q5.toNat)) (q_lde (l := v0) (E := fun i => Flat.enc (nth v0 i)) (oa := x_v0.1) (i := Q5.toNat) (j := 0) ty3 rfl (EntB.flat (Ent.b Ent.z)) h14.lt rfl) (by decide) ?_
   refine Rg.q (v := .int .i64 (v1)) (Pu.qo (p_move rfl)) (by decide) ?_
   refine Rg.q (v := .bool (decide ((nth v0 Q5.toNat) = v1))) (Pu.qo (p_eql rfl rfl)) (by decide) (Rg.nl (nT ?_))
   refine Tr.cond (b := decide ((nth v0 Q5.toNat) = v1)) rfl (fun h15 => ?_) (fun h15 => ?_)
   ·have H1 := cdT h15 H1
    refine Tr.seq (Tr.region ?_)
    refine Rg.q (v := .bool (true)) (Pu.qo (p_assign rfl)) (by decide) (Rg.nl (nT ?_))
    refine tRet ?_
    refine rB (rT (rT (rB (rT (rT (?_))))))
    have hx := hb10 _ (Option.some.inj H1).symm; subst hx
    replace H := sw.r H
    have hr := Option.some.inj H; subst hr
    exact back1 () rfl (ResV.tmp (v := .bool (true)) rfl) rfl Ents.nil Take.nil
   ·have H1 := cdF h15 H1
    refine tSkip ?_
    refine nB (nT (?_))
    refine Tr.region ?_
    refine Rg.q (v := .int .i64 (Q5)) (Pu.qo (p_move rfl)) (by decide) ?_
    obtain ⟨h16, H1⟩ := gd.of H1
    refine Rg.q (v := .int .i64 (Q5 + 1)) (Pu.qo (p_add rfl rfl h16)) (by decide) ?_
    refine Rg.q (v := .int .i64 (Q5 + 1)) (Pu.qo (p_assign rfl)) (by decide) (Rg.nl ?_)
    exact nLC ⟨(m12, Q5 + 1, ()), hi9 _ (Option.some.inj H1).symm⟩ (Nat.lt_succ_self _) ⟨rfl, rfl, rfl, trivial⟩ Ents.refl Take.nil
  ·have H1 := cdF h13 H1
   refine tExit (xT (xT (xE (?_))))
   exact nMC ⟨((), ()), (hb10 _ (Option.some.inj H1).symm).symm⟩ trivial Ents.refl Take.nil
 ·rintro ⟨⟨e17, y7⟩, hx⟩; subst hx; replace H := sw.l H
  show At _ _ [] _ [] _
  refine nT (?_)
  refine Tr.seq (Tr.region ?_)
  refine Rg.q (v := .bool (false)) (Pu.qo (p_assign rfl)) (by decide) (Rg.nl (nT ?_))
  refine tRet ?_
  have hr := Option.some.inj H; subst hr
  exact back1 () rfl (ResV.tmp (v := .bool (false)) rfl) rfl Ents.nil Take.nil
noncomputable def p_laws_FnFindBoth_b0 (v1 : (List UInt8)) (r5 : Index × (List Cond)) (r9 : (List Int)) (r39 : (List Int)) (r50 : (List Int)) (r53 : (List Int)) (Q60 : Int) : Option ((Int) ⊕ (Unit ⊕ Bool)) := cond (decide (Q60 ≤ (r5.1.1.length : Int))) (bd (bd (p_laws_lyAmong r50 Q60) fun r71 => bd (p_laws_lyAmong r9 Q60) fun r73 => cond (r73) (bd (p_laws_lyAmong r39 Q60) fun r76 => cond (!decide (r71 = r76)) (some (true)) (bd (p_laws_lyAmong r53 Q60) fun r79 => some (!decide (r76 = (!decide (r79 = (decide (((v1.length : Int).tmod 2) = 0)))))))) (cond (!decide (r71 = false)) (some (true)) (bd (p_laws_lyAmong r39 Q60) fun r82 => bd (p_laws_lyAmong r53 Q60) fun r84 => some (!decide (r82 = (!decide (r84 = (decide (((v1.length : Int).tmod 2) = 0))))))))) fun b69 => cond (b69) (some (.inr (.inr false))) (gd (I64 (Q60 + 1)) <| some (.inl (Q60 + 1)))) (some (.inr (.inl ())))
noncomputable def p_laws_FnFindBoth (v0 : (List UInt8)) (v1 : (List UInt8)) : Option (Bool) := bd (cond (decide (1048576 < (v0.length : Int))) (some (true)) (some (decide (1048576 < (v1.length : Int))))) fun b1 => cond (b1) (some true) (bd (p_spec_DrawIndexFind v0) fun r5 => bd (p_impl_IndexFind r5.1 r5.2) fun r9 => bd (p_spec_IndexFind r5.1 r5.2) fun r12 => bd (p_laws_lyInts r9 r12) fun r15 => cond (!r15) (some r15) (bd (p_spec_IndexOk r5.1) fun r19 => cond (!r19) (some r15) (bd (p_spec_FilterOk r5.2) fun r23 => cond (!r23) (some r15) (cond (decide ((r5.2.length : Int) = 0)) (some r15) (cond (decide ((r5.2.length : Int) = 3)) (some r15) (gd (I64 ((v1.length : Int).tmod 3)) <| gd (ix ((v1.length : Int).tmod 3) ([(⟨#[97]⟩ : ByteArray), (⟨#[98]⟩ : ByteArray), (⟨#[99]⟩ : ByteArray)] : List ByteArray).length) <| gd (I64 ((v1.length : Int).tmod 2)) <| bd (p_impl_IndexFind r5.1 ([(((nth ([(⟨#[97]⟩ : ByteArray), (⟨#[98]⟩ : ByteArray), (⟨#[99]⟩ : ByteArray)] : List ByteArray) (((v1.length : Int).tmod 3).toNat)), (⟨#[112]⟩ : ByteArray)), (decide (((v1.length : Int).tmod 2) = 0)))] : List Cond)) fun r39 => gd (room (([] : List Cond).length + r5.2.length)) <| gd (room ((([] : List Cond) ++ r5.2).length + 1)) <| bd (p_impl_IndexFind r5.1 ((([] : List Cond) ++ r5.2) ++ [(((nth ([(⟨#[97]⟩ : ByteArray), (⟨#[98]⟩ : ByteArray), (⟨#[99]⟩ : ByteArray)] : List ByteArray) (((v1.length : Int).tmod 3).toNat)), (⟨#[112]⟩ : ByteArray)), (decide (((v1.length : Int).tmod 2) = 0)))])) fun r50 => bd (p_impl_IndexPost r5.1 ((nth ([(⟨#[97]⟩ : ByteArray), (⟨#[98]⟩ : ByteArray), (⟨#[99]⟩ : ByteArray)] : List ByteArray) (((v1.length : Int).tmod 3).toNat)), (⟨#[112]⟩ : ByteArray))) fun r53 => bd (lp (p_laws_FnFindBoth_b0 v1 r5 r9 r39 r50 r53) 1) <| sw (fun _ => some true) (fun q => some q)))))))
theorem c_laws_FnFindBoth {r : Bool} (v0 : (List UInt8)) (x_v0 : Option Addr × Nat) (v1 : (List UInt8)) (x_v1 : Option Addr × Nat) (H : p_laws_FnFindBoth v0 v1 = some r) : Fn' Try.prog 12 #[.slice x_v0.1 v0.length x_v0.2, .slice x_v1.1 v1.length x_v1.2] [imm (.slice x_v0.1 v0.length x_v0.2) v0, imm (.slice x_v1.1 v1.length x_v1.2) v1] [] (ι := Unit) (fun _ => .bool (r)) (fun _ => []) (fun _ => []) := by
 refine calls_of (args := [_, _]) Try.func12 rfl (by kernel_rfl) Try.ntmps12 (by simp) fun c => ?_
 unfold p_laws_FnFindBoth at H
 refine Tr.seq (Tr.region ?_)
 refine Rg.q (v := .bool (false)) (Pu.qo (p_assign rfl)) (by decide) (Rg.nl (nT ?_))
 refine Tr.seq ?_
 obtain ⟨b1, j2, H⟩ := bd.of H
 refine tMid1 [(20, .bool (b1)), (0, .slice x_v0.1 v0.length x_v0.2), (1, .slice x_v1.1 v1.length x_v1.2)] ?_ ?_
 ·refine tLinT [(0, .slice x_v0.1 v0.length x_v0.2), (1, .slice x_v1.1 v1.length x_v1.2)] ⟨rfl, rfl, trivial⟩ ?_
  refine Lin.q (v := .slice x_v0.1 v0.length x_v0.2) (by decide) (Pu.qo (p_move rfl)) ?_
  refine Lin.q (v := .int .i64 ((v0.length : Int))) (by decide) (Pu.qo (p_len 5 Try.underlying22 rfl)) ?_
  refine Lin.q (v := .bool (decide (1048576 < (v0.length : Int)))) (by decide) (Pu.qo (p_gtr rfl rfl)) ?_
  rcases Bool.eq_false_or_eq_true (decide (1048576 < (v0.length : Int))) with h3 | h3
  ·have j2 := cdT h3 j2
   refine Lin.q (v := .bool (true)) (by decide) (Qo.eqv (v := .bool (decide (1048576 < (v0.length : Int)))) (Pu.qo (p_move rfl)) (congrArg Value.bool h3)) ?_
   refine Lin.skip (by decide) rfl ?_
   refine Lin.skip (by decide) rfl ?_
   refine Lin.skip (by decide) rfl ?_
   refine Lin.q (v := .bool (true)) (by decide) (Pu.qo (p_pickT rfl rfl)) ?_
   have j2 := Option.some.inj j2; subst j2
   show At _ _ _ _ _ _
   exact n1 ⟨rfl, rfl, rfl, trivial⟩
  ·have j2 := cdF h3 j2
   refine Lin.q (v := .bool (false)) (by decide) (Qo.eqv (v := .bool (decide (1048576 < (v0.length : Int)))) (Pu.qo (p_move rfl)) (congrArg Value.bool h3)) ?_
   refine Lin.g (v := .slice x_v1.1 v1.length x_v1.2) (by decide) rfl (Pu.qo (p_move rfl)) ?_
   refine Lin.g (v := .int .i64 ((v1.length : Int))) (by decide) rfl (Pu.qo (p_len 5 Try.underlying22 rfl)) ?_
   refine Lin.g (v := .bool (decide (1048576 < (v1.length : Int)))) (by decide) rfl (Pu.qo (p_gtr rfl rfl)) ?_
   refine Lin.q (v := .bool (decide (1048576 < (v1.length : Int)))) (by decide) (Pu.qo (p_pickF rfl rfl)) ?_
   have j2 := Option.some.inj j2; subst j2
   show At _ _ _ _ _ _
   exact n1 ⟨rfl, rfl, rfl, trivial⟩
 refine Tr.cond (b := b1) rfl (fun h4 => ?_) (fun h4 => ?_)
 ·have H := cdT h4 H
  refine Tr.seq (Tr.region ?_)
  refine Rg.q (v := .bool (true)) (Pu.qo (p_assign rfl)) (by decide) (Rg.nl (nT ?_))
  refine tRet ?_
  refine rT (?_)
  have hr := Option.some.inj H; subst hr
  exact back1 () rfl (ResV.tmp (v := .bool (true)) rfl) rfl Ents.nil Take.nil
 ·have H := cdF h4 H
  refine tSkip ?_
  refine nT (?_)
  refine Tr.seq (Tr.region ?_)
  refine Rg.q (v := .slice x_v0.1 v0.length x_v0.2) (Pu.qo (p_move rfl)) (by decide) ?_
  obtain ⟨r5, h6, H⟩ := bd.of H
  refine Rg.ed (e_call (vs := [.slice x_v0.1 v0.length x_v0.2]) (c_spec_DrawIndexFind v0 x_v0 h6) rfl (Ents.cons Ent.z Ents.nil) Take.nil) rfl (by decide) ?_
  rintro _ _ _ ⟨x7, rfl, rfl, rfl⟩
  refine Rg.q (v := .tuple #[.agg #[.slice x7.1.1.1 r5.1.1.length x7.1.1.2, .slice x7.1.2.1 r5.1.2.length x7.1.2.2], .slice x7.2.1 r5.2.length x7.2.2]) (Pu.qo (p_move rfl)) (by decide) ?_
  refine Rg.q (v := .agg #[.slice x7.1.1.1 r5.1.1.length x7.1.1.2, .slice x7.1.2.1 r5.1.2.length x7.1.2.2]) (Pu.qo (p_extract rfl rfl)) (by decide) ?_
  refine Rg.q (v := .slice x7.2.1 r5.2.length x7.2.2) (Pu.qo (p_extract rfl rfl)) (by decide) ?_
  refine Rg.ed (e_alloc ty26) rfl (by decide) ?_
  rintro _ _ _ ⟨g8, rfl, rfl, rfl⟩
  refine Rg.en (e_store (v := .agg #[.slice x7.1.1.1 r5.1.1.length x7.1.1.2, .slice x7.1.2.1 r5.1.2.length x7.1.2.2]) (cs' := [.slice x7.1.1.1 r5.1.1.length x7.1.1.2, .slice x7.1.2.1 r5.1.2.length x7.1.2.2]) ty26 rfl rfl Upd.here rfl (by simp [Value.cells, Value.oneCell']) (Nat.le_of_ble_eq_true rfl) rfl) rfl ?_
  rintro _ _ _ ⟨rfl, rfl, rfl⟩
  refine Rg.q (v := .slice x7.2.1 r5.2.length x7.2.2) (Pu.qo (p_assign rfl)) (by decide) (Rg.nl (nT ?_))
  refine Tr.seq (Tr.region ?_)
  refine Rg.q (v := .agg #[.slice x7.1.1.1 r5.1.1.length x7.1.1.2, .slice x7.1.2.1 r5.1.2.length x7.1.2.2]) (q_ldbA ty26 rfl Has.here rfl) (by decide) ?_
  refine Rg.q (v := .slice x7.2.1 r5.2.length x7.2.2) (Pu.qo (p_move rfl)) (by decide) ?_
  obtain ⟨r9, h10, H⟩ := bd.of H
  refine Rg.ed (e_callB (vs := [.agg #[.slice x7.1.1.1 r5.1.1.length x7.1.1.2, .slice x7.1.2.1 r5.1.2.length x7.1.2.2], .slice x7.2.1 r5.2.length x7.2.2]) (c_impl_IndexFind r5.1 x7.1 r5.2 x7.2 h10) (fun _ => (Solo.tree Solo.nil)) rfl (EntsB.cons (Ent.b Ent.z) (EntsB.cons (Ent.b Ent.z.s) (EntsB.cons (Ent.b Ent.z.s.s) EntsB.nil)))) rfl (by decide) ?_
  rintro _ _ _ ⟨x11, rfl, rfl, rfl⟩
  refine Rg.q (v := .slice x11.1 r9.length x11.2) (Pu.qo (p_assign rfl)) (by decide) (Rg.nl (nT ?_))
  refine Tr.seq (Tr.seq (Tr.region ?_))
  refine Rg.q (v := .slice x11.1 r9.length x11.2) (Pu.qo (p_move rfl)) (by decide) ?_
  refine Rg.q (v := .agg #[.slice x7.1.1.1 r5.1.1.length x7.1.1.2, .slice x7.1.2.1 r5.1.2.length x7.1.2.2]) (q_ldbA ty26 rfl Has.here.there rfl) (by decide) ?_
  refine Rg.q (v := .slice x7.2.1 r5.2.length x7.2.2) (Pu.qo (p_move rfl)) (by decide) ?_
  obtain ⟨r12, h13, H⟩ := bd.of H
  refine Rg.ed (e_callB (vs := [.agg #[.slice x7.1.1.1 r5.1.1.length x7.1.1.2, .slice x7.1.2.1 r5.1.2.length x7.1.2.2], .slice x7.2.1 r5.2.length x7.2.2]) (c_spec_IndexFind r5.1 x7.1 r5.2 x7.2 h13) (fun _ => (Solo.tree Solo.nil)) rfl (EntsB.cons (Ent.b Ent.z) (EntsB.cons (Ent.b Ent.z.s) (EntsB.cons (Ent.b Ent.z.s.s) EntsB.nil)))) rfl (by decide) ?_
  rintro _ _ _ ⟨x14, rfl, rfl, rfl⟩
  obtain ⟨r15, h16, H⟩ := bd.of H
  refine Rg.q (v := .bool (r15)) (q_call (vs := [.slice x11.1 r9.length x11.2, .slice x14.1 r12.length x14.2]) (c_laws_lyInts r9 x11 r12 x14 h16) rfl (EntsB.cons (EntB.tree Has.here.there) (EntsB.cons (EntB.tree Has.here) EntsB.nil))) (by decide) ?_
  refine Rg.q (v := .bool (!r15)) (Pu.qo (p_not rfl)) (by decide) ?_
  rcases Bool.eq_false_or_eq_true (!r15) with h17 | h17
  ·have H := cdT h17 H
   refine Rg.q (v := .bool (true)) (Qo.eqv (v := .bool (!r15)) (Pu.qo (p_move rfl)) (congrArg Value.bool h17)) (by decide) ?_
   refine Rg.skip rfl (by decide) ?_
   refine Rg.skip rfl (by decide) ?_
   refine Rg.skip rfl (by decide) ?_
   refine Rg.q (v := .bool (true)) (Pu.qo (p_pickT rfl rfl)) (by decide) ?_
   refine Rg.q (v := .bool (true)) (Pu.qo (p_move rfl)) (by decide) ?_
   refine Rg.skip rfl (by decide) ?_
   refine Rg.skip rfl (by decide) ?_
   refine Rg.skip rfl (by decide) ?_
   refine Rg.q (v := .bool (true)) (Pu.qo (p_pickT rfl rfl)) (by decide) ?_
   refine Rg.q (v := .bool (true)) (Pu.qo (p_move rfl)) (by decide) ?_
   refine Rg.skip rfl (by decide) ?_
   refine Rg.skip rfl (by decide) ?_
   refine Rg.skip rfl (by decide) ?_
   refine Rg.q (v := .bool (true)) (Pu.qo (p_pickT rfl rfl)) (by decide) ?_
   refine Rg.q (v := .bool (true)) (Pu.qo (p_move rfl)) (by decide) ?_
   refine Rg.skip rfl (by decide) ?_
   refine Rg.skip rfl (by decide) ?_
   refine Rg.skip rfl (by decide) ?_
   refine Rg.q (v := .bool (true)) (Pu.qo (p_pickT rfl rfl)) (by decide) (Rg.nl (nT ?_))
   refine Tr.condT rfl ?_
   refine Tr.seq (Tr.region ?_)
   refine Rg.q (v := .slice x11.1 r9.length x11.2) (Pu.qo (p_move rfl)) (by decide) ?_
   refine Rg.q (v := .agg #[.slice x7.1.1.1 r5.1.1.length x7.1.1.2, .slice x7.1.2.1 r5.1.2.length x7.1.2.2]) (q_ldbA ty26 rfl Has.here.there.there rfl) (by decide) ?_
   refine Rg.q (v := .slice x7.2.1 r5.2.length x7.2.2) (Pu.qo (p_move rfl)) (by decide) ?_
   refine Rg.ed (e_callB (vs := [.agg #[.slice x7.1.1.1 r5.1.1.length x7.1.1.2, .slice x7.1.2.1 r5.1.2.length x7.1.2.2], .slice x7.2.1 r5.2.length x7.2.2]) (c_spec_IndexFind r5.1 x7.1 r5.2 x7.2 h13) (fun _ => (Solo.tree Solo.nil)) rfl (EntsB.cons (Ent.b Ent.z) (EntsB.cons (Ent.b Ent.z.s) (EntsB.cons (Ent.b Ent.z.s.s) EntsB.nil)))) rfl (by decide) ?_
   rintro _ _ _ ⟨x18, rfl, rfl, rfl⟩
   refine Rg.q (v := .bool (r15)) (q_call (vs := [.slice x11.1 r9.length x11.2, .slice x18.1 r12.length x18.2]) (c_laws_lyInts r9 x11 r12 x18 h16) rfl (EntsB.cons (EntB.tree Has.here.there.there) (EntsB.cons (EntB.tree Has.here) EntsB.nil))) (by decide) ?_
   refine Rg.q (v := .bool (r15)) (Pu.qo (p_assign rfl)) (by decide) (Rg.nl (nT ?_))
   refine tRet ?_
   refine rT (?_)
   have hr := Option.some.inj H; subst hr
   exact back1 () rfl (ResV.tmp (v := .bool (r15)) rfl) rfl Ents.nil Take.nil
  ·have H := cdF h17 H
   refine Rg.q (v := .bool (false)) (Qo.eqv (v := .bool (!r15)) (Pu.qo (p_move rfl)) (congrArg Value.bool h17)) (by decide) ?_
   refine Rg.g (v := .agg #[.slice x7.1.1.1 r5.1.1.length x7.1.1.2, .slice x7.1.2.1 r5.1.2.length x7.1.2.2]) rfl (q_ldbA ty26 rfl Has.here.there.there rfl) (by decide) ?_
   obtain ⟨r19, h20, H⟩ := bd.of H
   refine Rg.g (v := .bool (r19)) rfl (q_call (vs := [.agg #[.slice x7.1.1.1 r5.1.1.length x7.1.1.2, .slice x7.1.2.1 r5.1.2.length x7.1.2.2]]) (c_spec_IndexOk r5.1 x7.1 h20) rfl (EntsB.cons (Ent.b Ent.z) (EntsB.cons (Ent.b Ent.z.s) EntsB.nil))) (by decide) ?_
   refine Rg.g (v := .bool (!r19)) rfl (Pu.qo (p_not rfl)) (by decide) ?_
   refine Rg.q (v := .bool (!r19)) (Pu.qo (p_pickF rfl rfl)) (by decide) ?_
   rcases Bool.eq_false_or_eq_true (!r19) with h21 | h21
   ·have H := cdT h21 H
    refine Rg.q (v := .bool (true)) (Qo.eqv (v := .bool (!r19)) (Pu.qo (p_move rfl)) (congrArg Value.bool h21)) (by decide) ?_
    refine Rg.skip rfl (by decide) ?_
    refine Rg.skip rfl (by decide) ?_
    refine Rg.skip rfl (by decide) ?_
    refine Rg.q (v := .bool (true)) (Pu.qo (p_pickT rfl rfl)) (by decide) ?_
    refine Rg.q (v := .bool (true)) (Pu.qo (p_move rfl)) (by decide) ?_
    refine Rg.skip rfl (by decide) ?_
    refine Rg.skip rfl (by decide) ?_
    refine Rg.skip rfl (by decide) ?_
    refine Rg.q (v := .bool (true)) (Pu.qo (p_pickT rfl rfl)) (by decide) ?_
    refine Rg.q (v := .bool (true)) (Pu.qo (p_move rfl)) (by decide) ?_
    refine Rg.skip rfl (by decide) ?_
    refine Rg.skip rfl (by decide) ?_
    refine Rg.skip rfl (by decide) ?_
    refine Rg.q (v := .bool (true)) (Pu.qo (p_pickT rfl rfl)) (by decide) (Rg.nl (nT ?_))
    refine Tr.condT rfl ?_
    refine Tr.seq (Tr.region ?_)
    refine Rg.q (v := .slice x11.1 r9.length x11.2) (Pu.qo (p_move rfl)) (by decide) ?_
    refine Rg.q (v := .agg #[.slice x7.1.1.1 r5.1.1.length x7.1.1.2, .slice x7.1.2.1 r5.1.2.length x7.1.2.2]) (q_ldbA ty26 rfl Has.here.there.there rfl) (by decide) ?_
    refine Rg.q (v := .slice x7.2.1 r5.2.length x7.2.2) (Pu.qo (p_move rfl)) (by decide) ?_
    refine Rg.ed (e_callB (vs := [.agg #[.slice x7.1.1.1 r5.1.1.length x7.1.1.2, .slice x7.1.2.1 r5.1.2.length x7.1.2.2], .slice x7.2.1 r5.2.length x7.2.2]) (c_spec_IndexFind r5.1 x7.1 r5.2 x7.2 h13) (fun _ => (Solo.tree Solo.nil)) rfl (EntsB.cons (Ent.b Ent.z) (EntsB.cons (Ent.b Ent.z.s) (EntsB.cons (Ent.b Ent.z.s.s) EntsB.nil)))) rfl (by decide) ?_
    rintro _ _ _ ⟨x22, rfl, rfl, rfl⟩
    refine Rg.q (v := .bool (r15)) (q_call (vs := [.slice x11.1 r9.length x11.2, .slice x22.1 r12.length x22.2]) (c_laws_lyInts r9 x11 r12 x22 h16) rfl (EntsB.cons (EntB.tree Has.here.there.there) (EntsB.cons (EntB.tree Has.here) EntsB.nil))) (by decide) ?_
    refine Rg.q (v := .bool (r15)) (Pu.qo (p_assign rfl)) (by decide) (Rg.nl (nT ?_))
    refine tRet ?_
    refine rT (?_)
    have hr := Option.some.inj H; subst hr
    exact back1 () rfl (ResV.tmp (v := .bool (r15)) rfl) rfl Ents.nil Take.nil
   ·have H := cdF h21 H
    refine Rg.q (v := .bool (false)) (Qo.eqv (v := .bool (!r19)) (Pu.qo (p_move rfl)) (congrArg Value.bool h21)) (by decide) ?_
    refine Rg.g (v := .slice x7.2.1 r5.2.length x7.2.2) rfl (Pu.qo (p_move rfl)) (by decide) ?_
    obtain ⟨r23, h24, H⟩ := bd.of H
    refine Rg.g (v := .bool (r23)) rfl (q_call (vs := [.slice x7.2.1 r5.2.length x7.2.2]) (c_spec_FilterOk r5.2 x7.2 h24) rfl (EntsB.cons (Ent.b Ent.z.s.s) EntsB.nil)) (by decide) ?_
    refine Rg.g (v := .bool (!r23)) rfl (Pu.qo (p_not rfl)) (by decide) ?_
    refine Rg.q (v := .bool (!r23)) (Pu.qo (p_pickF rfl rfl)) (by decide) ?_
    rcases Bool.eq_false_or_eq_true (!r23) with h25 | h25
    ·have H := cdT h25 H
     refine Rg.q (v := .bool (true)) (Qo.eqv (v := .bool (!r23)) (Pu.qo (p_move rfl)) (congrArg Value.bool h25)) (by decide) ?_
     refine Rg.skip rfl (by decide) ?_
     refine Rg.skip rfl (by decide) ?_
     refine Rg.skip rfl (by decide) ?_
     refine Rg.q (v := .bool (true)) (Pu.qo (p_pickT rfl rfl)) (by decide) ?_
     refine Rg.q (v := .bool (true)) (Pu.qo (p_move rfl)) (by decide) ?_
     refine Rg.skip rfl (by decide) ?_
     refine Rg.skip rfl (by decide) ?_
     refine Rg.skip rfl (by decide) ?_
     refine Rg.q (v := .bool (true)) (Pu.qo (p_pickT rfl rfl)) (by decide) (Rg.nl (nT ?_))
     refine Tr.condT rfl ?_
     refine Tr.seq (Tr.region ?_)
     refine Rg.q (v := .slice x11.1 r9.length x11.2) (Pu.qo (p_move rfl)) (by decide) ?_
     refine Rg.q (v := .agg #[.slice x7.1.1.1 r5.1.1.length x7.1.1.2, .slice x7.1.2.1 r5.1.2.length x7.1.2.2]) (q_ldbA ty26 rfl Has.here.there.there rfl) (by decide) ?_
     refine Rg.q (v := .slice x7.2.1 r5.2.length x7.2.2) (Pu.qo (p_move rfl)) (by decide) ?_
     refine Rg.ed (e_callB (vs := [.agg #[.slice x7.1.1.1 r5.1.1.length x7.1.1.2, .slice x7.1.2.1 r5.1.2.length x7.1.2.2], .slice x7.2.1 r5.2.length x7.2.2]) (c_spec_IndexFind r5.1 x7.1 r5.2 x7.2 h13) (fun _ => (Solo.tree Solo.nil)) rfl (EntsB.cons (Ent.b Ent.z) (EntsB.cons (Ent.b Ent.z.s) (EntsB.cons (Ent.b Ent.z.s.s) EntsB.nil)))) rfl (by decide) ?_
     rintro _ _ _ ⟨x26, rfl, rfl, rfl⟩
     refine Rg.q (v := .bool (r15)) (q_call (vs := [.slice x11.1 r9.length x11.2, .slice x26.1 r12.length x26.2]) (c_laws_lyInts r9 x11 r12 x26 h16) rfl (EntsB.cons (EntB.tree Has.here.there.there) (EntsB.cons (EntB.tree Has.here) EntsB.nil))) (by decide) ?_
     refine Rg.q (v := .bool (r15)) (Pu.qo (p_assign rfl)) (by decide) (Rg.nl (nT ?_))
     refine tRet ?_
     refine rT (?_)
     have hr := Option.some.inj H; subst hr
     exact back1 () rfl (ResV.tmp (v := .bool (r15)) rfl) rfl Ents.nil Take.nil
    ·have H := cdF h25 H
     refine Rg.q (v := .bool (false)) (Qo.eqv (v := .bool (!r23)) (Pu.qo (p_move rfl)) (congrArg Value.bool h25)) (by decide) ?_
     refine Rg.g (v := .slice x7.2.1 r5.2.length x7.2.2) rfl (Pu.qo (p_move rfl)) (by decide) ?_
     refine Rg.g (v := .int .i64 ((r5.2.length : Int))) rfl (Pu.qo (p_len 62 Try.underlying54 rfl)) (by decide) ?_
     refine Rg.g (v := .bool (decide ((r5.2.length : Int) = 0))) rfl (Pu.qo (p_eql rfl rfl)) (by decide) ?_
     refine Rg.q (v := .bool (decide ((r5.2.length : Int) = 0))) (Pu.qo (p_pickF rfl rfl)) (by decide) ?_
     rcases Bool.eq_false_or_eq_true (decide ((r5.2.length : Int) = 0)) with h27 | h27
     ·have H := cdT h27 H
      refine Rg.q (v := .bool (true)) (Qo.eqv (v := .bool (decide ((r5.2.length : Int) = 0))) (Pu.qo (p_move rfl)) (congrArg Value.bool h27)) (by decide) ?_
      refine Rg.skip rfl (by decide) ?_
      refine Rg.skip rfl (by decide) ?_
      refine Rg.skip rfl (by decide) ?_
      refine Rg.q (v := .bool (true)) (Pu.qo (p_pickT rfl rfl)) (by decide) (Rg.nl (nT ?_))
      refine Tr.condT rfl ?_
      refine Tr.seq (Tr.region ?_)
      refine Rg.q (v := .slice x11.1 r9.length x11.2) (Pu.qo (p_move rfl)) (by decide) ?_
      refine Rg.q (v := .agg #[.slice x7.1.1.1 r5.1.1.length x7.1.1.2, .slice x7.1.2.1 r5.1.2.length x7.1.2.2]) (q_ldbA ty26 rfl Has.here.there.there rfl) (by decide) ?_
      refine Rg.q (v := .slice x7.2.1 r5.2.length x7.2.2) (Pu.qo (p_move rfl)) (by decide) ?_
      refine Rg.ed (e_callB (vs := [.agg #[.slice x7.1.1.1 r5.1.1.length x7.1.1.2, .slice x7.1.2.1 r5.1.2.length x7.1.2.2], .slice x7.2.1 r5.2.length x7.2.2]) (c_spec_IndexFind r5.1 x7.1 r5.2 x7.2 h13) (fun _ => (Solo.tree Solo.nil)) rfl (EntsB.cons (Ent.b Ent.z) (EntsB.cons (Ent.b Ent.z.s) (EntsB.cons (Ent.b Ent.z.s.s) EntsB.nil)))) rfl (by decide) ?_
      rintro _ _ _ ⟨x28, rfl, rfl, rfl⟩
      refine Rg.q (v := .bool (r15)) (q_call (vs := [.slice x11.1 r9.length x11.2, .slice x28.1 r12.length x28.2]) (c_laws_lyInts r9 x11 r12 x28 h16) rfl (EntsB.cons (EntB.tree Has.here.there.there) (EntsB.cons (EntB.tree Has.here) EntsB.nil))) (by decide) ?_
      refine Rg.q (v := .bool (r15)) (Pu.qo (p_assign rfl)) (by decide) (Rg.nl (nT ?_))
      refine tRet ?_
      refine rT (?_)
      have hr := Option.some.inj H; subst hr
      exact back1 () rfl (ResV.tmp (v := .bool (r15)) rfl) rfl Ents.nil Take.nil
     ·have H := cdF h27 H
      refine Rg.q (v := .bool (false)) (Qo.eqv (v := .bool (decide ((r5.2.length : Int) = 0))) (Pu.qo (p_move rfl)) (congrArg Value.bool h27)) (by decide) ?_
      refine Rg.g (v := .slice x7.2.1 r5.2.length x7.2.2) rfl (Pu.qo (p_move rfl)) (by decide) ?_
      refine Rg.g (v := .int .i64 ((r5.2.length : Int))) rfl (Pu.qo (p_len 62 Try.underlying54 rfl)) (by decide) ?_
      refine Rg.g (v := .bool (decide ((r5.2.length : Int) = 3))) rfl (Pu.qo (p_eql rfl rfl)) (by decide) ?_
      refine Rg.q (v := .bool (decide ((r5.2.length : Int) = 3))) (Pu.qo (p_pickF rfl rfl)) (by decide) (Rg.nl (nT ?_))
      refine Tr.cond (b := decide ((r5.2.length : Int) = 3)) rfl (fun h29 => ?_) (fun h29 => ?_)
      ·have H := cdT h29 H
       refine Tr.seq (Tr.region ?_)
       refine Rg.q (v := .slice x11.1 r9.length x11.2) (Pu.qo (p_move rfl)) (by decide) ?_
       refine Rg.q (v := .agg #[.slice x7.1.1.1 r5.1.1.length x7.1.1.2, .slice x7.1.2.1 r5.1.2.length x7.1.2.2]) (q_ldbA ty26 rfl Has.here.there.there rfl) (by decide) ?_
       refine Rg.q (v := .slice x7.2.1 r5.2.length x7.2.2) (Pu.qo (p_move rfl)) (by decide) ?_
       refine Rg.ed (e_callB (vs := [.agg #[.slice x7.1.1.1 r5.1.1.length x7.1.1.2, .slice x7.1.2.1 r5.1.2.length x7.1.2.2], .slice x7.2.1 r5.2.length x7.2.2]) (c_spec_IndexFind r5.1 x7.1 r5.2 x7.2 h13) (fun _ => (Solo.tree Solo.nil)) rfl (EntsB.cons (Ent.b Ent.z) (EntsB.cons (Ent.b Ent.z.s) (EntsB.cons (Ent.b Ent.z.s.s) EntsB.nil)))) rfl (by decide) ?_
       rintro _ _ _ ⟨x30, rfl, rfl, rfl⟩
       refine Rg.q (v := .bool (r15)) (q_call (vs := [.slice x11.1 r9.length x11.2, .slice x30.1 r12.length x30.2]) (c_laws_lyInts r9 x11 r12 x30 h16) rfl (EntsB.cons (EntB.tree Has.here.there.there) (EntsB.cons (EntB.tree Has.here) EntsB.nil))) (by decide) ?_
       refine Rg.q (v := .bool (r15)) (Pu.qo (p_assign rfl)) (by decide) (Rg.nl (nT ?_))
       refine tRet ?_
       refine rT (?_)
       have hr := Option.some.inj H; subst hr
       exact back1 () rfl (ResV.tmp (v := .bool (r15)) rfl) rfl Ents.nil Take.nil
      ·have H := cdF h29 H
       refine tSkip ?_
       refine nT (?_)
       refine Tr.seq (Tr.region ?_)
       refine Rg.ed (e_litT (α := ByteArray) (vs := [(0, .string ((⟨#[97]⟩ : ByteArray))), (1, .string ((⟨#[98]⟩ : ByteArray))), (2, .string ((⟨#[99]⟩ : ByteArray)))]) [(⟨#[97]⟩ : ByteArray), (⟨#[98]⟩ : ByteArray), (⟨#[99]⟩ : ByteArray)] rfl (fun _ => rfl) (fun _ _ => by repeat constructor) Try.underlying60 ty9 rfl (by decide) (by decide) (by kernel_rfl)) rfl (by decide) ?_
       rintro _ _ _ ⟨a31, c32, rfl, rfl, rfl⟩
       refine Rg.q (v := .slice x_v1.1 v1.length x_v1.2) (Pu.qo (p_move rfl)) (by decide) ?_
       refine Rg.q (v := .int .i64 ((v1.length : Int))) (Pu.qo (p_len 5 Try.underlying22 rfl)) (by decide) ?_
       obtain ⟨h33, H⟩ := gd.of H
       refine Rg.q (v := .int .i64 ((v1.length : Int).tmod 3)) (Pu.qo (p_rem rfl rfl (by decide) h33)) (by decide) ?_
       obtain ⟨h34, H⟩ := gd.of H
       refine Rg.q (v := elp a31 ((((v1.length : Int).tmod 3).toNat) * Enc.sz ByteArray + 0)) (q_ixO' Try.underlying60 ty9 rfl rfl h34 Has.here) (by decide) ?_
       refine Rg.q (v := .string (nth ([(⟨#[97]⟩ : ByteArray), (⟨#[98]⟩ : ByteArray), (⟨#[99]⟩ : ByteArray)] : List ByteArray) (((v1.length : Int).tmod 3).toNat))) (q_lde (l := ([(⟨#[97]⟩ : ByteArray), (⟨#[98]⟩ : ByteArray), (⟨#[99]⟩ : ByteArray)] : List ByteArray)) (E := fun i => Flat.enc (nth ([(⟨#[97]⟩ : ByteArray), (⟨#[98]⟩ : ByteArray), (⟨#[99]⟩ : ByteArray)] : List ByteArray) i)) (oa := a31) (i := ((v1.length : Int).tmod 3).toNat) (j := 0) ty9 rfl (EntB.flat (EntB.tree Has.here)) h34.lt rfl) (by decide) ?_
       refine Rg.q (v := .agg #[.string (nth ([(⟨#[97]⟩ : ByteArray), (⟨#[98]⟩ : ByteArray), (⟨#[99]⟩ : ByteArray)] : List ByteArray) (((v1.length : Int).tmod 3).toNat)), .string ((⟨#[112]⟩ : ByteArray))]) (Pu.qo (p_buildS (vs := [(0, .string (nth ([(⟨#[97]⟩ : ByteArray), (⟨#[98]⟩ : ByteArray), (⟨#[99]⟩ : ByteArray)] : List ByteArray) (((v1.length : Int).tmod 3).toNat))), (1, .string ((⟨#[112]⟩ : ByteArray)))]) (cs := #[.string (nth ([(⟨#[97]⟩ : ByteArray), (⟨#[98]⟩ : ByteArray), (⟨#[99]⟩ : ByteArray)] : List ByteArray) (((v1.length : Int).tmod 3).toNat)), .string ((⟨#[112]⟩ : ByteArray))]) ty30 pl30 rfl rfl)) (by decide) ?_
       refine Rg.q (v := .slice x_v1.1 v1.length x_v1.2) (Pu.qo (p_move rfl)) (by decide) ?_
       refine Rg.q (v := .int .i64 ((v1.length : Int))) (Pu.qo (p_len 5 Try.underlying22 rfl)) (by decide) ?_
       obtain ⟨h35, H⟩ := gd.of H
       refine Rg.q (v := .int .i64 ((v1.length : Int).tmod 2)) (Pu.qo (p_rem rfl rfl (by decide) h35)) (by decide) ?_
       refine Rg.q (v := .bool (decide (((v1.length : Int).tmod 2) = 0))) (Pu.qo (p_eql rfl rfl)) (by decide) ?_
       refine Rg.q (v := .agg #[.string (nth ([(⟨#[97]⟩ : ByteArray), (⟨#[98]⟩ : ByteArray), (⟨#[99]⟩ : ByteArray)] : List ByteArray) (((v1.length : Int).tmod 3).toNat)), .string ((⟨#[112]⟩ : ByteArray)), .bool (decide (((v1.length : Int).tmod 2) = 0))]) (Pu.qo (p_buildS (vs := [(0, .agg #[.string (nth ([(⟨#[97]⟩ : ByteArray), (⟨#[98]⟩ : ByteArray), (⟨#[99]⟩ : ByteArray)] : List ByteArray) (((v1.length : Int).tmod 3).toNat)), .string ((⟨#[112]⟩ : ByteArray))]), (1, .bool (decide (((v1.length : Int).tmod 2) = 0)))]) (cs := #[.string (nth ([(⟨#[97]⟩ : ByteArray), (⟨#[98]⟩ : ByteArray), (⟨#[99]⟩ : ByteArray)] : List ByteArray) (((v1.length : Int).tmod 3).toNat)), .string ((⟨#[112]⟩ : ByteArray)), .bool (decide (((v1.length : Int).tmod 2) = 0))]) ty62 pl62 rfl rfl)) (by decide) ?_
       refine Rg.ed (e_alloc ty62) rfl (by decide) ?_
       rintro _ _ _ ⟨g36, rfl, rfl, rfl⟩
       refine Rg.en (e_store (v := .agg #[.string (nth ([(⟨#[97]⟩ : ByteArray), (⟨#[98]⟩ : ByteArray), (⟨#[99]⟩ : ByteArray)] : List ByteArray) (((v1.length : Int).tmod 3).toNat)), .string ((⟨#[112]⟩ : ByteArray)), .bool (decide (((v1.length : Int).tmod 2) = 0))]) (cs' := [.string (nth ([(⟨#[97]⟩ : ByteArray), (⟨#[98]⟩ : ByteArray), (⟨#[99]⟩ : ByteArray)] : List ByteArray) (((v1.length : Int).tmod 3).toNat)), .string ((⟨#[112]⟩ : ByteArray)), .bool (decide (((v1.length : Int).tmod 2) = 0))]) ty62 rfl rfl Upd.here rfl (by simp [Value.cells, Value.oneCell']) (Nat.le_of_ble_eq_true rfl) rfl) rfl ?_
       rintro _ _ _ ⟨rfl, rfl, rfl⟩
       refine Rg.nl (nT ?_)
       refine Tr.seq (Tr.region ?_)
       refine Rg.q (v := .agg #[.slice x7.1.1.1 r5.1.1.length x7.1.1.2, .slice x7.1.2.1 r5.1.2.length x7.1.2.2]) (q_ldbA ty26 rfl Has.here.there.there.there.there rfl) (by decide) ?_
       refine Rg.q (v := .agg #[.string (nth ([(⟨#[97]⟩ : ByteArray), (⟨#[98]⟩ : ByteArray), (⟨#[99]⟩ : ByteArray)] : List ByteArray) (((v1.length : Int).tmod 3).toNat)), .string ((⟨#[112]⟩ : ByteArray)), .bool (decide (((v1.length : Int).tmod 2) = 0))]) (q_ldbA ty62 rfl Has.here rfl) (by decide) ?_
       refine Rg.ed (e_litT (α := Cond) (vs := [(0, .agg #[.string (nth ([(⟨#[97]⟩ : ByteArray), (⟨#[98]⟩ : ByteArray), (⟨#[99]⟩ : ByteArray)] : List ByteArray) (((v1.length : Int).tmod 3).toNat)), .string ((⟨#[112]⟩ : ByteArray)), .bool (decide (((v1.length : Int).tmod 2) = 0))])]) [(((nth ([(⟨#[97]⟩ : ByteArray), (⟨#[98]⟩ : ByteArray), (⟨#[99]⟩ : ByteArray)] : List ByteArray) (((v1.length : Int).tmod 3).toNat)), (⟨#[112]⟩ : ByteArray)), (decide (((v1.length : Int).tmod 2) = 0)))] rfl (fun _ => rfl) (fun _ _ => by repeat constructor) Try.underlying54 ty62 rfl (by decide) (by decide) (by kernel_rfl)) rfl (by decide) ?_
       rintro _ _ _ ⟨a37, c38, rfl, rfl, rfl⟩
       obtain ⟨r39, h40, H⟩ := bd.of H
       refine Rg.ed (e_callB (vs := [.agg #[.slice x7.1.1.1 r5.1.1.length x7.1.1.2, .slice x7.1.2.1 r5.1.2.length x7.1.2.2], .slice a37 (([(((nth ([(⟨#[97]⟩ : ByteArray), (⟨#[98]⟩ : ByteArray), (⟨#[99]⟩ : ByteArray)] : List ByteArray) (((v1.length : Int).tmod 3).toNat)), (⟨#[112]⟩ : ByteArray)), (decide (((v1.length : Int).tmod 2) = 0)))] : List Cond).length) c38]) (c_impl_IndexFind r5.1 x7.1 ([(((nth ([(⟨#[97]⟩ : ByteArray), (⟨#[98]⟩ : ByteArray), (⟨#[99]⟩ : ByteArray)] : List ByteArray) (((v1.length : Int).tmod 3).toNat)), (⟨#[112]⟩ : ByteArray)), (decide (((v1.length : Int).tmod 2) = 0)))] : List Cond) (a37, c38) h40) (fun _ => (Solo.tree Solo.nil)) rfl (EntsB.cons (Ent.b Ent.z) (EntsB.cons (Ent.b Ent.z.s) (EntsB.cons (EntB.tree Has.here) EntsB.nil)))) rfl (by decide) ?_
       rintro _ _ _ ⟨x41, rfl, rfl, rfl⟩
       refine Rg.q (v := .slice x41.1 r39.length x41.2) (Pu.qo (p_assign rfl)) (by decide) (Rg.nl (nT ?_))
       refine Tr.seq ?_
       refine tNwS [(9, .slice x41.1 r39.length x41.2), (8, .pointer (some ⟨g36, 0, none⟩)), (7, .slice x11.1 r9.length x11.2), (6, .slice x7.2.1 r5.2.length x7.2.2), (5, .pointer (some ⟨g8, 0, none⟩))] 3 [0, 2, 4, 1, 3, 5, 6, 7, 8] [3, 6, 7] [⟨1, [], fun g => .slice (some ⟨g, 0, none⟩) ([] : List Cond).length 0, fun g => tree (.slice (some ⟨g, 0, none⟩) ([] : List Cond).length 0) ([] : List Cond)⟩, ⟨5, [(80, .agg #[.string (nth ([(⟨#[97]⟩ : ByteArray), (⟨#[98]⟩ : ByteArray), (⟨#[99]⟩ : ByteArray)] : List ByteArray) (((v1.length : Int).tmod 3).toNat)), .string ((⟨#[112]⟩ : ByteArray)), .bool (decide (((v1.length : Int).tmod 2) = 0))])], fun g => .slice (some ⟨g, 0, none⟩) 1 1, fun g => box g 62 [.string (nth ([(⟨#[97]⟩ : ByteArray), (⟨#[98]⟩ : ByteArray), (⟨#[99]⟩ : ByteArray)] : List ByteArray) (((v1.length : Int).tmod 3).toNat)), .string ((⟨#[112]⟩ : ByteArray)), .bool (decide (((v1.length : Int).tmod 2) = 0))]⟩] Try.mixed (by kernel_rfl) (by decide) (show List.Nodup [1, 5] by decide) ⟨rfl, rfl, rfl, rfl, rfl, trivial⟩ rfl (okCons (FreeA.Ok.of rfl (by decide) (by kernel_rfl) fun c fs os => g_lit0 Cond Try.underlying54 ty62) (okCons (FreeA.Ok.of rfl (by decide) (by kernel_rfl) fun c fs os => e_lit (vs := [(0, .agg #[.string (nth ([(⟨#[97]⟩ : ByteArray), (⟨#[98]⟩ : ByteArray), (⟨#[99]⟩ : ByteArray)] : List ByteArray) (((v1.length : Int).tmod 3).toNat)), .string ((⟨#[112]⟩ : ByteArray)), .bool (decide (((v1.length : Int).tmod 2) = 0))])]) [.string (nth ([(⟨#[97]⟩ : ByteArray), (⟨#[98]⟩ : ByteArray), (⟨#[99]⟩ : ByteArray)] : List ByteArray) (((v1.length : Int).tmod 3).toNat)), .string ((⟨#[112]⟩ : ByteArray)), .bool (decide (((v1.length : Int).tmod 2) = 0))] Try.underlying54 ty62 rfl (by decide) (by decide) (by kernel_rfl)) okNil)) ?_
       refine w_q (v := .agg #[.slice x7.1.1.1 r5.1.1.length x7.1.1.2, .slice x7.1.2.1 r5.1.2.length x7.1.2.2]) rfl (by decide) rfl rfl rfl (fun F => (q_ldbA ty26 rfl (Has.here.there.there.there.there.there.there.app F) rfl)) ?_
       refine w_pu (v := .slice x7.2.1 r5.2.length x7.2.2) rfl (by decide) rfl rfl rfl (p_move rfl) ?_
       refine w_q (v := .agg #[.string (nth ([(⟨#[97]⟩ : ByteArray), (⟨#[98]⟩ : ByteArray), (⟨#[99]⟩ : ByteArray)] : List ByteArray) (((v1.length : Int).tmod 3).toNat)), .string ((⟨#[112]⟩ : ByteArray)), .bool (decide (((v1.length : Int).tmod 2) = 0))]) rfl (by decide) rfl rfl rfl (fun F => (q_ldbA ty62 rfl (Has.here.there.there.app F) rfl)) ?_
       refine w_fr (z := ⟨1, [], fun g => .slice (some ⟨g, 0, none⟩) ([] : List Cond).length 0, fun g => tree (.slice (some ⟨g, 0, none⟩) ([] : List Cond).length 0) ([] : List Cond)⟩) (.head _) rfl rfl (by decide) (Rdy.cons (.inl rfl) (Rdy.cons (.inr (.inr ⟨rfl, trivial⟩)) Rdy.nil)) trivial ?_; intro g42
       obtain ⟨h45, H⟩ := gd.of H
       refine w_ed rfl (by decide) rfl (Rdy.cons (.inl rfl) (Rdy.cons (.inr (.inr ⟨rfl, trivial⟩)) Rdy.nil)) rfl (n_appF (l := ([] : List Cond)) (k := r5.2) (α := Cond) Try.underlying54 ty62 rfl rfl (h45.b (by decide)) h45.x (.cons Del.here .nil) (Ent.b Ent.z.s.s)) ?_
       rintro _ _ _ ⟨a43, c44, rfl, rfl, rfl⟩
       refine ⟨(PdOk.q rfl rfl (fun F => (q_ldbA ty62 rfl (Has.here.there.there.there.app F) rfl)) (PdOk.q rfl rfl (fun F => (q_ldbA ty26 rfl (Has.here.there.there.there.there.there.there.there.app F) rfl)) PdOk.nil)), ?_⟩
       refine w_fr (z := ⟨5, [(80, .agg #[.string (nth ([(⟨#[97]⟩ : ByteArray), (⟨#[98]⟩ : ByteArray), (⟨#[99]⟩ : ByteArray)] : List ByteArray) (((v1.length : Int).tmod 3).toNat)), .string ((⟨#[112]⟩ : ByteArray)), .bool (decide (((v1.length : Int).tmod 2) = 0))])], fun g => .slice (some ⟨g, 0, none⟩) 1 1, fun g => box g 62 [.string (nth ([(⟨#[97]⟩ : ByteArray), (⟨#[98]⟩ : ByteArray), (⟨#[99]⟩ : ByteArray)] : List ByteArray) (((v1.length : Int).tmod 3).toNat)), .string ((⟨#[112]⟩ : ByteArray)), .bool (decide (((v1.length : Int).tmod 2) = 0))]⟩) (.tail _ (.head _)) rfl rfl (by decide) (Rdy.cons (.inl rfl) (Rdy.cons (.inl rfl) Rdy.nil)) ⟨rfl, trivial⟩ ?_; intro g46
       obtain ⟨h49, H⟩ := gd.of H
       refine w_ed rfl (by decide) rfl (Rdy.cons (.inl rfl) (Rdy.cons (.inl rfl) Rdy.nil)) rfl (n_app1 (l := (([] : List Cond) ++ r5.2)) (α := Cond) (((nth ([(⟨#[97]⟩ : ByteArray), (⟨#[98]⟩ : ByteArray), (⟨#[99]⟩ : ByteArray)] : List ByteArray) (((v1.length : Int).tmod 3).toNat)), (⟨#[112]⟩ : ByteArray)), (decide (((v1.length : Int).tmod 2) = 0))) (((), ()), ()) Try.underlying54 ty62 rfl rfl (h49.b (by decide)) h49.x rfl (ShpT.wfa _) (.cons Del.here.there (.cons Del.here .nil))) ?_
       rintro _ _ _ ⟨a47, c48, rfl, rfl, rfl⟩
       refine ⟨(PdOk.anc (by kernel_rfl) (PdOk.q rfl rfl (fun F => (q_ldbA ty26 rfl (Has.here.there.there.there.there.there.there.there.app F) rfl)) PdOk.nil)), ?_⟩
       obtain ⟨r50, h51, H⟩ := bd.of H
       refine w_ed rfl (by decide) rfl (Rdy.cons (.inl rfl) (Rdy.cons (.inl rfl) Rdy.nil)) rfl (n_callB (vs := [.agg #[.slice x7.1.1.1 r5.1.1.length x7.1.1.2, .slice x7.1.2.1 r5.1.2.length x7.1.2.2], .slice a47 (((([] : List Cond) ++ r5.2) ++ [(((nth ([(⟨#[97]⟩ : ByteArray), (⟨#[98]⟩ : ByteArray), (⟨#[99]⟩ : ByteArray)] : List ByteArray) (((v1.length : Int).tmod 3).toNat)), (⟨#[112]⟩ : ByteArray)), (decide (((v1.length : Int).tmod 2) = 0)))]).length) c48]) (c_impl_IndexFind r5.1 x7.1 ((([] : List Cond) ++ r5.2) ++ [(((nth ([(⟨#[97]⟩ : ByteArray), (⟨#[98]⟩ : ByteArray), (⟨#[99]⟩ : ByteArray)] : List ByteArray) (((v1.length : Int).tmod 3).toNat)), (⟨#[112]⟩ : ByteArray)), (decide (((v1.length : Int).tmod 2) = 0)))]) (a47, c48) h51) (fun _ => (Solo.tree Solo.nil)) rfl (EntsB.cons (Ent.b Ent.z) (EntsB.cons (Ent.b Ent.z.s) (EntsB.cons (EntB.tree Has.here) EntsB.nil)))) ?_
       rintro _ _ _ ⟨x52, rfl, rfl, rfl⟩
       refine ⟨(PdOk.anc (by kernel_rfl) (PdOk.anc (by kernel_rfl) PdOk.nil)), ?_⟩
       refine w_pu (v := .slice x52.1 r50.length x52.2) rfl (by decide) rfl rfl rfl (p_assign rfl) ?_
       refine w_nil ?_
       show At _ _ _ _ _ _
       refine nT (?_)
       refine Tr.seq (Tr.region ?_)
       refine Rg.q (v := .agg #[.slice x7.1.1.1 r5.1.1.length x7.1.1.2, .slice x7.1.2.1 r5.1.2.length x7.1.2.2]) (q_ldbA ty26 rfl Has.here.there.there.there.there.there.there.there.there rfl) (by decide) ?_
       refine Rg.q (v := .pointer (some ⟨g36, 0, none⟩)) (Pu.qo (p_fabE fa62_0 rfl rfl)) (by decide) ?_
       refine Rg.q (v := .agg #[.string (nth ([(⟨#[97]⟩ : ByteArray), (⟨#[98]⟩ : ByteArray), (⟨#[99]⟩ : ByteArray)] : List ByteArray) (((v1.length : Int).tmod 3).toNat)), .string ((⟨#[112]⟩ : ByteArray))]) (q_ldbP [.string (nth ([(⟨#[97]⟩ : ByteArray), (⟨#[98]⟩ : ByteArray), (⟨#[99]⟩ : ByteArray)] : List ByteArray) (((v1.length : Int).tmod 3).toNat)), .string ((⟨#[112]⟩ : ByteArray))] ty30 rfl Has.here.there.there.there.there rfl rfl) (by decide) ?_
       obtain ⟨r53, h54, H⟩ := bd.of H
       refine Rg.ed (e_callB (vs := [.agg #[.slice x7.1.1.1 r5.1.1.length x7.1.1.2, .slice x7.1.2.1 r5.1.2.length x7.1.2.2], .agg #[.string (nth ([(⟨#[97]⟩ : ByteArray), (⟨#[98]⟩ : ByteArray), (⟨#[99]⟩ : ByteArray)] : List ByteArray) (((v1.length : Int).tmod 3).toNat)), .string ((⟨#[112]⟩ : ByteArray))]]) (c_impl_IndexPost r5.1 x7.1 ((nth ([(⟨#[97]⟩ : ByteArray), (⟨#[98]⟩ : ByteArray), (⟨#[99]⟩ : ByteArray)] : List ByteArray) (((v1.length : Int).tmod 3).toNat)), (⟨#[112]⟩ : ByteArray)) h54) (fun _ => (Solo.tree Solo.nil)) rfl (EntsB.cons (Ent.b Ent.z) (EntsB.cons (Ent.b Ent.z.s) EntsB.nil))) rfl (by decide) ?_
       rintro _ _ _ ⟨x55, rfl, rfl, rfl⟩
       refine Rg.q (v := .slice x55.1 r53.length x55.2) (Pu.qo (p_assign rfl)) (by decide) (Rg.nl (nT ?_))
       refine Tr.seq (Tr.seq (Tr.region ?_))
       refine Rg.q (v := .int .i64 (1)) (Pu.qo (p_assign rfl)) (by decide) (Rg.nl (nT ?_))
       obtain ⟨x56, hx57, H⟩ := bd.of H
       obtain ⟨n58, hx57⟩ := lp.of hx57
       refine tMidNC (ι := { q : (Unit) × Unit // x56 = .inl q.1 }) (fun ψ => []) (fun ψ => []) ?_ ?_
       ·refine Tr.block ?_
        refine tLoopC (ι := { q : Nat × (Int) × Unit // itr (p_laws_FnFindBoth_b0 v1 r5 r9 r39 r50 r53) q.1 q.2.1 = some x56 }) (fun ζ => [(5, .pointer (some ⟨g8, 0, none⟩)), (7, .slice x11.1 r9.length x11.2), (8, .pointer (some ⟨g36, 0, none⟩)), (9, .slice x41.1 r39.length x41.2), (10, .slice x52.1 r50.length x52.2), (11, .slice x55.1 r53.length x55.2), (12, .int .i64 (ζ.1.2.1))]) (fun ζ => [box g8 26 [.slice x7.1.1.1 r5.1.1.length x7.1.1.2, .slice x7.1.2.1 r5.1.2.length x7.1.2.2], tree (.slice x11.1 r9.length x11.2) r9, box g36 62 [.string (nth ([(⟨#[97]⟩ : ByteArray), (⟨#[98]⟩ : ByteArray), (⟨#[99]⟩ : ByteArray)] : List ByteArray) (((v1.length : Int).tmod 3).toNat)), .string ((⟨#[112]⟩ : ByteArray)), .bool (decide (((v1.length : Int).tmod 2) = 0))], tree (.slice x41.1 r39.length x41.2) r39, tree (.slice x52.1 r50.length x52.2) r50, tree (.slice x55.1 r53.length x55.2) r53]) (fun ζ => ζ.1.1) ⟨(n58, 1, ()), hx57⟩ ⟨rfl, rfl, rfl, rfl, rfl, rfl, rfl, trivial⟩ (.cons Del.here.there.there.there.there.there.there.there.there.there (.cons Del.here.there.there.there.there.there.there.there.there (.cons Del.here.there.there.there.there.there (.cons Del.here.there.there.there (.cons Del.here.there (.cons Del.here .nil)))))) ?_
        rintro ⟨⟨m59, Q60, z61⟩, hk66⟩
        obtain ⟨m67, t63, e, H1, hi64, hb65⟩ := itr.of (n := m59) (s := Q60) hk66
        subst e; unfold p_laws_FnFindBoth_b0 at H1
        show Tr _ _ _ _ _ [(5, .pointer (some ⟨g8, 0, none⟩)), (7, .slice x11.1 r9.length x11.2), (8, .pointer (some ⟨g36, 0, none⟩)), (9, .slice x41.1 r39.length x41.2), (10, .slice x52.1 r50.length x52.2), (11, .slice x55.1 r53.length x55.2), (12, .int .i64 (Q60))] _ [box g8 26 [.slice x7.1.1.1 r5.1.1.length x7.1.1.2, .slice x7.1.2.1 r5.1.2.length x7.1.2.2], tree (.slice x11.1 r9.length x11.2) r9, box g36 62 [.string (nth ([(⟨#[97]⟩ : ByteArray), (⟨#[98]⟩ : ByteArray), (⟨#[99]⟩ : ByteArray)] : List ByteArray) (((v1.length : Int).tmod 3).toNat)), .string ((⟨#[112]⟩ : ByteArray)), .bool (decide (((v1.length : Int).tmod 2) = 0))], tree (.slice x41.1 r39.length x41.2) r39, tree (.slice x52.1 r50.length x52.2) r50, tree (.slice x55.1 r53.length x55.2) r53]
        refine Tr.seq (Tr.seq (Tr.region ?_))
        refine Rg.q (v := .int .i64 (Q60)) (Pu.qo (p_move rfl)) (by decide) ?_
        refine Rg.q (v := .pointer (some ⟨g8, 0, none⟩)) (Pu.qo (p_fabE fa26_0 rfl rfl)) (by decide) ?_
        refine Rg.q (v := .slice x7.1.1.1 r5.1.1.length x7.1.1.2) (q_ldb ty23 rfl Has.here rfl) (by decide) ?_
        refine Rg.q (v := .int .i64 ((r5.1.1.length : Int))) (Pu.qo (p_len 38 Try.underlying23 rfl)) (by decide) ?_
        refine Rg.q (v := .bool (decide (Q60 ≤ (r5.1.1.length : Int)))) (Pu.qo (p_leq rfl rfl)) (by decide) (Rg.nl (nT ?_))
        refine Tr.cond (b := decide (Q60 ≤ (r5.1.1.length : Int))) rfl (fun h68 => ?_) (fun h68 => ?_)
        ·have H1 := cdT h68 H1
         refine tSkip ?_
         refine nT (Tr.seq ?_)
         refine Tr.block ?_
         obtain ⟨b69, j70, H1⟩ := bd.of H1
         refine tMid1 [(118, .bool (b69)), (5, .pointer (some ⟨g8, 0, none⟩)), (7, .slice x11.1 r9.length x11.2), (8, .pointer (some ⟨g36, 0, none⟩)), (9, .slice x41.1 r39.length x41.2), (10, .slice x52.1 r50.length x52.2), (11, .slice x55.1 r53.length x55.2), (12, .int .i64 (Q60))] ?_ ?_
         ·refine tLinS [(5, .pointer (some ⟨g8, 0, none⟩)), (7, .slice x11.1 r9.length x11.2), (8, .pointer (some ⟨g36, 0, none⟩)), (9, .slice x41.1 r39.length x41.2), (10, .slice x52.1 r50.length x52.2), (11, .slice x55.1 r53.length x55.2), (12, .int .i64 (Q60))] Try.mixed (.inr (by kernel_rfl)) ⟨rfl, rfl, rfl, rfl, rfl, rfl, rfl, trivial⟩ rfl ?_
          refine Lin.q (v := .slice x52.1 r50.length x52.2) (by decide) (Pu.qo (p_move rfl)) ?_
          refine Lin.q (v := .int .i64 (Q60)) (by decide) (Pu.qo (p_move rfl)) ?_
          obtain ⟨r71, h72, j70⟩ := bd.of j70
          refine Lin.q (v := .bool (r71)) (by decide) (q_call (vs := [.slice x52.1 r50.length x52.2, .int .i64 (Q60)]) (c_laws_lyAmong r50 x52 Q60 h72) rfl (EntsB.cons (EntB.tree Has.here.there.there.there.there) EntsB.nil)) ?_
          refine Lin.q (v := .slice x11.1 r9.length x11.2) (by decide) (Pu.qo (p_move rfl)) ?_
          refine Lin.q (v := .int .i64 (Q60)) (by decide) (Pu.qo (p_move rfl)) ?_
          obtain ⟨r73, h74, j70⟩ := bd.of j70
          refine Lin.q (v := .bool (r73)) (by decide) (q_call (vs := [.slice x11.1 r9.length x11.2, .int .i64 (Q60)]) (c_laws_lyAmong r9 x11 Q60 h74) rfl (EntsB.cons (EntB.tree Has.here.there) EntsB.nil)) ?_
          rcases Bool.eq_false_or_eq_true (r73) with h75 | h75
          ·have j70 := cdT h75 j70
           refine Lin.q (v := .bool (true)) (by decide) (Qo.eqv (v := .bool (r73)) (Pu.qo (p_move rfl)) (congrArg Value.bool h75)) ?_
           refine Lin.g (v := .slice x41.1 r39.length x41.2) (by decide) rfl (Pu.qo (p_move rfl)) ?_
           refine Lin.g (v := .int .i64 (Q60)) (by decide) rfl (Pu.qo (p_move rfl)) ?_
           obtain ⟨r76, h77, j70⟩ := bd.of j70
           refine Lin.g (v := .bool (r76)) (by decide) rfl (q_call (vs := [.slice x41.1 r39.length x41.2, .int .i64 (Q60)]) (c_laws_lyAmong r39 x41 Q60 h77) rfl (EntsB.cons (EntB.tree Has.here.there.there.there) EntsB.nil)) ?_
           refine Lin.q (v := .bool (r76)) (by decide) (Pu.qo (p_pickT rfl rfl)) ?_
           refine Lin.q (v := .bool (!decide (r71 = r76))) (by decide) (Pu.qo (p_bneq Try.underlying4 rfl rfl)) ?_
           rcases Bool.eq_false_or_eq_true (!decide (r71 = r76)) with h78 | h78
           ·have j70 := cdT h78 j70
            refine Lin.q (v := .bool (true)) (by decide) (Qo.eqv (v := .bool (!decide (r71 = r76))) (Pu.qo (p_move rfl)) (congrArg Value.bool h78)) ?_
            refine Lin.skip (by decide) rfl ?_
            refine Lin.skip (by decide) rfl ?_
            refine Lin.skip (by decide) rfl ?_
            refine Lin.skip (by decide) rfl ?_
            refine Lin.skip (by decide) rfl ?_
            refine Lin.skip (by decide) rfl ?_
            refine Lin.skip (by decide) rfl ?_
            refine Lin.skip (by decide) rfl ?_
            refine Lin.skip (by decide) rfl ?_
            refine Lin.skip (by decide) rfl ?_
            refine Lin.q (v := .bool (true)) (by decide) (Pu.qo (p_pickT rfl rfl)) ?_
            have j70 := Option.some.inj j70; subst j70
            show At _ _ _ _ _ _
            exact n1 ⟨rfl, rfl, rfl, rfl, rfl, rfl, rfl, rfl, trivial⟩
           ·have j70 := cdF h78 j70
            refine Lin.q (v := .bool (false)) (by decide) (Qo.eqv (v := .bool (!decide (r71 = r76))) (Pu.qo (p_move rfl)) (congrArg Value.bool h78)) ?_
            refine Lin.g (v := .slice x41.1 r39.length x41.2) (by decide) rfl (Pu.qo (p_move rfl)) ?_
            refine Lin.g (v := .int .i64 (Q60)) (by decide) rfl (Pu.qo (p_move rfl)) ?_
            refine Lin.g (v := .bool (r76)) (by decide) rfl (q_call (vs := [.slice x41.1 r39.length x41.2, .int .i64 (Q60)]) (c_laws_lyAmong r39 x41 Q60 h77) rfl (EntsB.cons (EntB.tree Has.here.there.there.there) EntsB.nil)) ?_
            refine Lin.g (v := .slice x55.1 r53.length x55.2) (by decide) rfl (Pu.qo (p_move rfl)) ?_
            refine Lin.g (v := .int .i64 (Q60)) (by decide) rfl (Pu.qo (p_move rfl)) ?_
            obtain ⟨r79, h80, j70⟩ := bd.of j70
            refine Lin.g (v := .bool (r79)) (by decide) rfl (q_call (vs := [.slice x55.1 r53.length x55.2, .int .i64 (Q60)]) (c_laws_lyAmong r53 x55 Q60 h80) rfl (EntsB.cons (EntB.tree Has.here.there.there.there.there.there) EntsB.nil)) ?_
            refine Lin.g (v := .pointer (some ⟨g36, 2, none⟩)) (by decide) rfl (Pu.qo (p_fabE fa62_1 rfl rfl)) ?_
            refine Lin.g (v := .bool (decide (((v1.length : Int).tmod 2) = 0))) (by decide) rfl (q_ldb ty4 rfl Has.here.there.there rfl) ?_
            refine Lin.g (v := .bool (!decide (r79 = (decide (((v1.length : Int).tmod 2) = 0))))) (by decide) rfl (Pu.qo (p_bneq Try.underlying4 rfl rfl)) ?_
            refine Lin.g (v := .bool (!decide (r76 = (!decide (r79 = (decide (((v1.length : Int).tmod 2) = 0))))))) (by decide) rfl (Pu.qo (p_bneq Try.underlying4 rfl rfl)) ?_
            refine Lin.q (v := .bool (!decide (r76 = (!decide (r79 = (decide (((v1.length : Int).tmod 2) = 0))))))) (by decide) (Pu.qo (p_pickF rfl rfl)) ?_
            have j70 := Option.some.inj j70; subst j70
            show At _ _ _ _ _ _
            exact n1 ⟨rfl, rfl, rfl, rfl, rfl, rfl, rfl, rfl, trivial⟩
          ·have j70 := cdF h75 j70
           refine Lin.q (v := .bool (false)) (by decide) (Qo.eqv (v := .bool (r73)) (Pu.qo (p_move rfl)) (congrArg Value.bool h75)) ?_
           refine Lin.skip (by decide) rfl ?_
           refine Lin.skip (by decide) rfl ?_
           refine Lin.skip (by decide) rfl ?_
           refine Lin.q (v := .bool (false)) (by decide) (Pu.qo (p_pickF rfl rfl)) ?_
           refine Lin.q (v := .bool (!decide (r71 = false))) (by decide) (Pu.qo (p_bneq Try.underlying4 rfl rfl)) ?_
           rcases Bool.eq_false_or_eq_true (!decide (r71 = false)) with h81 | h81
           ·have j70 := cdT h81 j70
            refine Lin.q (v := .bool (true)) (by decide) (Qo.eqv (v := .bool (!decide (r71 = false))) (Pu.qo (p_move rfl)) (congrArg Value.bool h81)) ?_
            refine Lin.skip (by decide) rfl ?_
            refine Lin.skip (by decide) rfl ?_
            refine Lin.skip (by decide) rfl ?_
            refine Lin.skip (by decide) rfl ?_
            refine Lin.skip (by decide) rfl ?_
            refine Lin.skip (by decide) rfl ?_
            refine Lin.skip (by decide) rfl ?_
            refine Lin.skip (by decide) rfl ?_
            refine Lin.skip (by decide) rfl ?_
            refine Lin.skip (by decide) rfl ?_
            refine Lin.q (v := .bool (true)) (by decide) (Pu.qo (p_pickT rfl rfl)) ?_
            have j70 := Option.some.inj j70; subst j70
            show At _ _ _ _ _ _
            exact n1 ⟨rfl, rfl, rfl, rfl, rfl, rfl, rfl, rfl, trivial⟩
           ·have j70 := cdF h81 j70
            refine Lin.q (v := .bool (false)) (by decide) (Qo.eqv (v := .bool (!decide (r71 = false))) (Pu.qo (p_move rfl)) (congrArg Value.bool h81)) ?_
            refine Lin.g (v := .slice x41.1 r39.length x41.2) (by decide) rfl (Pu.qo (p_move rfl)) ?_
            refine Lin.g (v := .int .i64 (Q60)) (by decide) rfl (Pu.qo (p_move rfl)) ?_
            obtain ⟨r82, h83, j70⟩ := bd.of j70
            refine Lin.g (v := .bool (r82)) (by decide) rfl (q_call (vs := [.slice x41.1 r39.length x41.2, .int .i64 (Q60)]) (c_laws_lyAmong r39 x41 Q60 h83) rfl (EntsB.cons (EntB.tree Has.here.there.there.there) EntsB.nil)) ?_
            refine Lin.g (v := .slice x55.1 r53.length x55.2) (by decide) rfl (Pu.qo (p_move rfl)) ?_
            refine Lin.g (v := .int .i64 (Q60)) (by decide) rfl (Pu.qo (p_move rfl)) ?_
            obtain ⟨r84, h85, j70⟩ := bd.of j70
            refine Lin.g (v := .bool (r84)) (by decide) rfl (q_call (vs := [.slice x55.1 r53.length x55.2, .int .i64 (Q60)]) (c_laws_lyAmong r53 x55 Q60 h85) rfl (EntsB.cons (EntB.tree Has.here.there.there.there.there.there) EntsB.nil)) ?_
            refine Lin.g (v := .pointer (some ⟨g36, 2, none⟩)) (by decide) rfl (Pu.qo (p_fabE fa62_1 rfl rfl)) ?_
            refine Lin.g (v := .bool (decide (((v1.length : Int).tmod 2) = 0))) (by decide) rfl (q_ldb ty4 rfl Has.here.there.there rfl) ?_
            refine Lin.g (v := .bool (!decide (r84 = (decide (((v1.length : Int).tmod 2) = 0))))) (by decide) rfl (Pu.qo (p_bneq Try.underlying4 rfl rfl)) ?_
            refine Lin.g (v := .bool (!decide (r82 = (!decide (r84 = (decide (((v1.length : Int).tmod 2) = 0))))))) (by decide) rfl (Pu.qo (p_bneq Try.underlying4 rfl rfl)) ?_
            refine Lin.q (v := .bool (!decide (r82 = (!decide (r84 = (decide (((v1.length : Int).tmod 2) = 0))))))) (by decide) (Pu.qo (p_pickF rfl rfl)) ?_
            have j70 := Option.some.inj j70; subst j70
            show At _ _ _ _ _ _
            exact n1 ⟨rfl, rfl, rfl, rfl, rfl, rfl, rfl, rfl, trivial⟩
         refine Tr.cond (b := b69) rfl (fun h86 => ?_) (fun h86 => ?_)
         ·have H1 := cdT h86 H1
          refine Tr.seq (Tr.region ?_)
          refine Rg.q (v := .bool (false)) (Pu.qo (p_assign rfl)) (by decide) (Rg.nl (nT ?_))
          refine tRet ?_
          refine rB (rT (rT (rB (rT (rT (?_))))))
          have hx := hb65 _ (Option.some.inj H1).symm; subst hx
          replace H := sw.r H
          have hr := Option.some.inj H; subst hr
          exact back1 () rfl (ResV.tmp (v := .bool (false)) rfl) rfl Ents.nil Take.nil
         ·have H1 := cdF h86 H1
          refine tSkip ?_
          refine nB (nT (?_))
          refine Tr.region ?_
          refine Rg.q (v := .int .i64 (Q60)) (Pu.qo (p_move rfl)) (by decide) ?_
          obtain ⟨h87, H1⟩ := gd.of H1
          refine Rg.q (v := .int .i64 (Q60 + 1)) (Pu.qo (p_add rfl rfl h87)) (by decide) ?_
          refine Rg.q (v := .int .i64 (Q60 + 1)) (Pu.qo (p_assign rfl)) (by decide) (Rg.nl ?_)
          exact nLC ⟨(m67, Q60 + 1, ()), hi64 _ (Option.some.inj H1).symm⟩ (Nat.lt_succ_self _) ⟨rfl, rfl, rfl, rfl, rfl, rfl, rfl, trivial⟩ Ents.refl (.cons Del.here (.cons Del.here (.cons Del.here (.cons Del.here (.cons Del.here (.cons Del.here .nil))))))
        ·have H1 := cdF h68 H1
         refine tExit (xT (xT (xE (?_))))
         exact nMC ⟨((), ()), (hb65 _ (Option.some.inj H1).symm).symm⟩ trivial Ents.refl Take.nil
       ·rintro ⟨⟨e88, y62⟩, hx⟩; subst hx; replace H := sw.l H
        show At _ _ [] _ [] _
        refine nT (?_)
        refine Tr.seq (Tr.region ?_)
        refine Rg.q (v := .bool (true)) (Pu.qo (p_assign rfl)) (by decide) (Rg.nl (nT ?_))
        refine tRet ?_
        have hr := Option.some.inj H; subst hr
        exact back1 () rfl (ResV.tmp (v := .bool (true)) rfl) rfl Ents.nil Take.nil
def inn (lo n hi : Int) : Bool := decide (lo ≤ n) && decide (n ≤ hi)
theorem e_impl_within (n lo hi : Int) : p_impl_within n lo hi = some (inn lo n hi) := by
 unfold p_impl_within inn; cases decide (lo ≤ n) <;> rfl
theorem e_spec_l6In (n lo hi : Int) : p_spec_l6In n lo hi = some (inn lo n hi) := by
 unfold p_spec_l6In inn; cases decide (lo ≤ n) <;> rfl
theorem tmod_rng {a n : Int} (ha : 0 ≤ a) (hn : 0 < n) : 0 ≤ a.tmod n ∧ a.tmod n < n := ⟨Int.tmod_nonneg n ha, Int.tmod_lt_of_pos a hn⟩
theorem tdiv_rng {a n : Int} (ha : 0 ≤ a) (hn : 0 < n) : 0 ≤ a.tdiv n ∧ a.tdiv n ≤ a := by
 rw [Int.tdiv_eq_ediv_of_nonneg ha]
 exact ⟨Int.ediv_nonneg ha (by omega), Int.ediv_le_self n ha⟩
theorem u8_rng (b : UInt8) : (0 : Int) ≤ (b.toNat : Int) ∧ (b.toNat : Int) ≤ 255 := by have := b.toNat_lt; omega
theorem xr_nn (a b : Int) : 0 ≤ xr a b := by unfold xr; omega
theorem xr_lt {a b : Int} (ha : 0 ≤ a) (ha2 : a < 4611686018427387904) (hb : 0 ≤ b) (hb2 : b < 4611686018427387904) : xr a b < 4611686018427387904 := by
 unfold xr
 have : a.toNat ^^^ b.toNat < 2 ^ 62 := Nat.xor_lt_two_pow (by omega) (by omega)
 omega
theorem d_pick (b : List UInt8) (p n : Int) (hb : b.length ≤ 2000) (h0 : 0 ≤ p) (h1 : p ≤ 1000000) (hn : n ≤ 1000000000) :
  ∃ x, p_spec_l6Rd_pick (b, p) n = some (x, p + 1) ∧ 0 ≤ x ∧ (1 ≤ n → x < n) := by
 unfold p_spec_l6Rd_pick
 have g0 : I64 (p + 1) := by unfold I64; omega
 have ep : p + 1 - 1 = p := by omega
 have gp : I64 p := by unfold I64; omega
 simp only [ep, gd.yes g0, gd.yes gp]
 by_cases hn1 : n < 1
 ·exact ⟨0, by simp [hn1], Int.le_refl _, fun h => by omega⟩
 ·by_cases hb0 : (b.length : Int) = 0
  ·exact ⟨0, by simp [hn1, hb0], Int.le_refl _, fun h => by omega⟩
  ·simp only [hn1, hb0, decide_false, cond_false, bd_some]
   by_cases hp : p < (b.length : Int)
   ·have hx := tmod_rng (u8_rng (nth b p.toNat)).1 (show 0 < n by omega)
    have g1 : ix p b.length := ⟨h0, hp⟩
    have g2 : n ≠ 0 := by omega
    have g3 : I64 (((nth b p.toNat).toNat : Int).tmod n) := by unfold I64; omega
    simp only [hp, decide_true, cond_true, gd.yes g1, gd.yes g2, gd.yes g3]
    exact ⟨_, rfl, hx.1, fun _ => hx.2⟩
   ·simp only [hp, decide_false, cond_false]
    have hL : (0 : Int) < (b.length : Int) := by omega
    have hm := tmod_rng h0 hL
    have hm2 := tmod_rng (show 0 ≤ p * 7 + 3 by omega) hL
    have hq := tdiv_rng h0 hL
    have u1 := u8_rng (nth b (p.tmod (b.length : Int)).toNat)
    have u2 := u8_rng (nth b ((p * 7 + 3).tmod (b.length : Int)).toNat)
    have g1 : (b.length : Int) ≠ 0 := hb0
    have g2 : I64 (p.tmod (b.length : Int)) := by unfold I64; omega
    have g3 : ix (p.tmod (b.length : Int)) b.length := hm
    have g4 : I64 (p * 7) := by unfold I64; omega
    have g5 : I64 (p * 7 + 3) := by unfold I64; omega
    have g6 : I64 ((p * 7 + 3).tmod (b.length : Int)) := by unfold I64; omega
    have g7 : ix ((p * 7 + 3).tmod (b.length : Int)) b.length := hm2
    have g8 : I64 (p * 29) := by unfold I64; omega
    have g9 : I64 (p.tdiv (b.length : Int)) := by unfold I64; omega
    simp only [gd.yes g1, gd.yes g2, gd.yes g3, gd.yes g4, gd.yes g5, gd.yes g6, gd.yes g7, gd.yes g8, gd.yes g9]
    generalize ((nth b (p.tmod (b.length : Int)).toNat).toNat : Int) = y1 at *
    generalize ((nth b ((p * 7 + 3).tmod (b.length : Int)).toNat).toNat : Int) = y2 at *
    generalize p.tdiv (b.length : Int) = q at *
    have k1 : I64 (y1 * 131) := by unfold I64; omega
    have k2 : I64 (y2 * 1117) := by unfold I64; omega
    have k3 : I64 (y1 * 131 + y2 * 1117) := by unfold I64; omega
    have k4 : I64 (y1 * 131 + y2 * 1117 + p * 29) := by unfold I64; omega
    have k5 : I64 (q * 53) := by unfold I64; omega
    have k6 : I64 (y1 * 131 + y2 * 1117 + p * 29 + q * 53) := by unfold I64; omega
    simp only [gd.yes k1, gd.yes k2, gd.yes k3, gd.yes k4, gd.yes k5, gd.yes k6]
    have hx0 : 0 ≤ y1 * 131 + y2 * 1117 + p * 29 + q * 53 := by omega
    have hx1 : y1 * 131 + y2 * 1117 + p * 29 + q * 53 < 1000000000 := by omega
    generalize y1 * 131 + y2 * 1117 + p * 29 + q * 53 = x at *
    have hd := tdiv_rng hx0 (show (0 : Int) < 64 by decide)
    have m1 : I64 (x.tdiv 64) := by unfold I64; omega
    have m2 : nn x := by unfold nn; omega
    have m3 : nn (x.tdiv 64) := by unfold nn; omega
    have hr0 := xr_nn x (x.tdiv 64)
    have hr1 := xr_lt hx0 (by omega) hd.1 (by omega) (b := x.tdiv 64)
    have hz := tmod_rng hr0 (show 0 < n by omega)
    have m4 : n ≠ 0 := by omega
    have m5 : I64 ((xr x (x.tdiv 64)).tmod n) := by unfold I64; omega
    simp only [gd.yes m1, gd.yes m2, gd.yes m3, gd.yes m4, gd.yes m5]
    exact ⟨_, rfl, hz.1, fun _ => hz.2⟩
def l2 (r : Row) : Bool → List Row → List Row
 | put, [] => if put then [] else [r]
 | put, x :: t => (if !put && decide (r.1 ≤ x.1) then [r] else []) ++ ((if x.1 = r.1 then [] else [x]) ++ l2 r (put || decide (r.1 ≤ x.1)) t)
theorem nth_mem {α : Type} [Inhabited α] {l : List α} {k : Nat} (h : k < l.length) : nth l k ∈ l := by rw [nth_eq l k h]; exact List.getElem_mem h
theorem d_l6Open (c : List UInt8) : ∃ b, p_spec_l6Open c = some (b, 0) ∧ b.length ≤ 2000 := by
 unfold p_spec_l6Open
 by_cases h : (2000 : Int) < (c.length : Int)
 ·have g : sl2 0 2000 c.length := by unfold sl2; omega
  simp only [h, decide_true, cond_true, gd.yes g]
  exact ⟨_, rfl, by simp; omega⟩
 ·simp only [h, decide_false, cond_false]
  exact ⟨_, rfl, by omega⟩
theorem ba_one {x : ByteArray} (h : x.size = 1) : x = ⟨#[sb x 0]⟩ := by
 have : x.data.size = 1 := h
 apply ByteArray.ext
 apply Array.ext
 ·rw [this]; rfl
 ·intro i h1 h2
  have hi : i = 0 := by omega
  subst hi
  simp [sb, this]
theorem sl_one (a b : UInt8) : sless ⟨#[a]⟩ ⟨#[b]⟩ = decide (a < b) := by
 rw [sless_lt]
 have e : ∀ c : UInt8, (⟨#[c]⟩ : ByteArray).toList = [c] := fun c => by simp [ByteArray.toList, ByteArray.toList.loop, ByteArray.size, ByteArray.get!]
 have h2 : ([a] < [b]) ↔ a < b := by rw [List.cons_lt_cons_iff]; simp
 rw [e, e]
 exact decide_eq_decide.2 h2
def tagB (t : Tag) : Bool := decide (t.1.size = 1) && (decide (t.2.size = 1) && (inn 97 ((sb t.1 0).toNat : Int) 100 && inn 112 ((sb t.2 0).toNat : Int) 122))
theorem e_spec_l3Tag (t : Tag) : p_spec_l3Tag t = some (tagB t) := by
 unfold p_spec_l3Tag tagB
 have c1 : decide ((t.1.size : Int) = 1) = decide (t.1.size = 1) := decide_eq_decide.2 (by omega)
 have c2 : decide ((t.2.size : Int) = 1) = decide (t.2.size = 1) := decide_eq_decide.2 (by omega)
 rw [c1, c2]
 by_cases h1 : t.1.size = 1
 ·by_cases h2 : t.2.size = 1
  ·simp only [h1, h2, decide_true, cond_true, gd.yes (show ix 0 1 by unfold ix; omega), e_spec_l6In, bd_some, Bool.true_and]
   cases inn 97 ((sb t.1 0).toNat : Int) 100 <;> simp
  ·simp [h1, h2]
 ·simp [h1]
theorem rng_one {x : ByteArray} (h : x.size = 1) (lo hi : UInt8) : (!sless x ⟨#[lo]⟩ && (sless x ⟨#[hi]⟩ || decide (x = ⟨#[hi]⟩))) = inn (lo.toNat : Int) ((sb x 0).toNat : Int) (hi.toNat : Int) := by
 have hx := ba_one h
 generalize sb x 0 = c at *
 subst hx
 rw [sl_one, sl_one]
 have e1 : (!decide (c < lo)) = decide ((lo.toNat : Int) ≤ (c.toNat : Int)) := by
  by_cases k : c < lo
  ·have : c.toNat < lo.toNat := UInt8.lt_iff_toNat_lt.1 k
   simp [k]; omega
  ·have : ¬ c.toNat < lo.toNat := fun q => k (UInt8.lt_iff_toNat_lt.2 q)
   simp [k]; omega
 have e2 : (decide (c < hi) || decide ((⟨#[c]⟩ : ByteArray) = ⟨#[hi]⟩)) = decide ((c.toNat : Int) ≤ (hi.toNat : Int)) := by
  by_cases k : c < hi
  ·have : c.toNat < hi.toNat := UInt8.lt_iff_toNat_lt.1 k
   simp [k]; omega
  ·have h3 : ¬ c.toNat < hi.toNat := fun q => k (UInt8.lt_iff_toNat_lt.2 q)
   by_cases e : c = hi
   ·subst e; simp
   ·have h4 : c.toNat ≠ hi.toNat := fun q => e (UInt8.toNat_inj.1 q)
    have h5 : (⟨#[c]⟩ : ByteArray) ≠ ⟨#[hi]⟩ := fun q => e (by
     have := congrArg (fun b : ByteArray => b.data.toList) q
     simpa using this)
    simp [k, h5]; omega
 rw [e1, e2]; rfl
theorem e_impl_tagOk (t : Tag) : p_impl_tagOk t = some (tagB t) := by
 unfold p_impl_tagOk tagB
 have c1 : decide ((t.1.size : Int) = 1) = decide (t.1.size = 1) := decide_eq_decide.2 (by omega)
 have c2 : decide ((t.2.size : Int) = 1) = decide (t.2.size = 1) := decide_eq_decide.2 (by omega)
 rw [c1, c2]
 by_cases h1 : t.1.size = 1
 ·have r1 := rng_one h1 97 100
  rw [show ((97 : UInt8).toNat : Int) = 97 from rfl, show ((100 : UInt8).toNat : Int) = 100 from rfl] at r1
  rw [← r1]
  by_cases h2 : t.2.size = 1
  ·have r2 := rng_one h2 112 122
   rw [show ((112 : UInt8).toNat : Int) = 112 from rfl, show ((122 : UInt8).toNat : Int) = 122 from rfl] at r2
   rw [← r2]
   simp only [h1, h2, decide_true, cond_true, Bool.true_and]
   cases (!sless t.1 ⟨#[97]⟩) <;> cases (sless t.1 ⟨#[100]⟩ || decide (t.1 = ⟨#[100]⟩)) <;> cases (!sless t.2 ⟨#[112]⟩) <;> rfl
  ·simp only [h1, h2, decide_true, decide_false, cond_true, cond_false, Bool.true_and, Bool.false_and]
   cases (!sless t.1 ⟨#[97]⟩) <;> cases (sless t.1 ⟨#[100]⟩ || decide (t.1 = ⟨#[100]⟩)) <;> rfl
 ·simp [h1]
def nameBad (n : List Tag) (k : Nat) : Bool := !tagB (nth n k) || (decide (0 < k) && !sless (nth n (k - 1)).1 (nth n k).1)
def nameOk (n : List Tag) : Bool := allN n.length (nameBad n) && inn 1 (n.length : Int) 3
theorem e_impl_NameOk (n : List Tag) (hn : n.length ≤ maxLen) : p_impl_NameOk n = some (nameOk n) := by
 have hn' : n.length ≤ 9223372036854775807 := hn
 have hr : ∀ k, k < n.length → p_impl_NameOk_b0 n (k : Int) = some (if nameBad n k then .inr (.inr false) else .inl ((k + 1 : Nat) : Int)) := fun k hk => by
  unfold p_impl_NameOk_b0 nameBad
  simp only [dlt hk, cond_true, gd.yes (ixN hk), e_impl_tagOk, bd_some, Int.toNat_natCast, gd.yes (i64S hk hn')]
  cases h1 : tagB (nth n k) with
  | false => simp
  | true =>
   simp only [Bool.not_true, cond_false, Bool.false_or]
   by_cases h0 : 0 < k
   ·have h0' : (0 : Int) < k := by omega
    have e1 : (k : Int) - 1 = ((k - 1 : Nat) : Int) := by omega
    have hi : I64 ((k - 1 : Nat) : Int) := by unfold I64; omega
    simp only [h0, h0', decide_true, cond_true, e1, gd.yes hi, gd.yes (ixN (show k - 1 < n.length by omega)), Int.toNat_natCast, bd_some, Bool.true_and]
    cases sless (nth n (k - 1)).1 (nth n k).1 <;> simp
   ·simp [h0]
 unfold p_impl_NameOk nameOk
 rcases lp_scan (body := p_impl_NameOk_b0 n) (fun k => (k : Int)) n.length (nameBad n) (.inl ()) (fun _ => .inr false) (fun k hk _ h => by simp [hr k hk, h]) (fun k hk _ h => by simp [hr k hk, h]) (fun _ => by unfold p_impl_NameOk_b0; simp) with ⟨h1, h2⟩ | ⟨h1, k, _, _, _, h2⟩
 ·rw [show (lp (p_impl_NameOk_b0 n) 0) = _ from h2, h1]; simp [sw, e_impl_within]
 ·rw [show (lp (p_impl_NameOk_b0 n) 0) = _ from h2, h1]; simp [sw]
theorem e_spec_NameOk (n : List Tag) (hn : n.length ≤ maxLen) : p_spec_NameOk n = some (nameOk n) := by
 have hn' : n.length ≤ 9223372036854775807 := hn
 have hr : ∀ k, k < n.length → p_spec_NameOk_b0 n (k : Int) = some (if nameBad n k then .inr (.inr false) else .inl ((k + 1 : Nat) : Int)) := fun k hk => by
  unfold p_spec_NameOk_b0 nameBad
  simp only [dlt hk, cond_true, gd.yes (ixN hk), e_spec_l3Tag, bd_some, Int.toNat_natCast, gd.yes (i64S hk hn')]
  cases h1 : tagB (nth n k) with
  | false => simp
  | true =>
   simp only [Bool.not_true, cond_false, Bool.false_or]
   by_cases h0 : 0 < k
   ·have h0' : (0 : Int) < k := by omega
    have e1 : (k : Int) - 1 = ((k - 1 : Nat) : Int) := by omega
    have hi : I64 ((k - 1 : Nat) : Int) := by unfold I64; omega
    simp only [h0, h0', decide_true, cond_true, e1, gd.yes hi, gd.yes (ixN (show k - 1 < n.length by omega)), Int.toNat_natCast, bd_some, Bool.true_and]
    cases sless (nth n (k - 1)).1 (nth n k).1 <;> simp
   ·simp [h0]
 unfold p_spec_NameOk nameOk
 rcases lp_scan (body := p_spec_NameOk_b0 n) (fun k => (k : Int)) n.length (nameBad n) (.inl ()) (fun _ => .inr false) (fun k hk _ h => by simp [hr k hk, h]) (fun k hk _ h => by simp [hr k hk, h]) (fun _ => by unfold p_spec_NameOk_b0; simp) with ⟨h1, h2⟩ | ⟨h1, k, _, _, _, h2⟩
 ·rw [show (lp (p_spec_NameOk_b0 n) 0) = _ from h2, h1]; simp [sw, e_spec_l6In]
 ·rw [show (lp (p_spec_NameOk_b0 n) 0) = _ from h2, h1]; simp [sw]
theorem allN_mem {α : Type} [Inhabited α] {l : List α} {p : α → Bool} : allN l.length (fun k => p (nth l k)) = true ↔ ∀ x ∈ l, p x = false := by
 rw [allN_iff]
 constructor
 ·intro h x hx
  obtain ⟨i, hi, rfl⟩ := List.mem_iff_getElem.1 hx
  have := h i hi
  rwa [nth_eq l i hi] at this
 ·intro h i hi
  rw [nth_eq l i hi]
  exact h _ (List.getElem_mem hi)
def hasT (n : List Tag) (t : Tag) : Bool := n.any fun x => decide (x = t)
theorem hasT_iff {n : List Tag} {t : Tag} : hasT n t = true ↔ t ∈ n := by simp [hasT]
theorem hasT_no {n : List Tag} {t : Tag} (h : t ∉ n) : hasT n t = false := by
 cases hc : hasT n t with
 | false => rfl
 | true => exact absurd (hasT_iff.1 hc) h
theorem e_spec_l3Has (n : List Tag) (t : Tag) (hn : n.length ≤ maxLen) : p_spec_l3Has n t = some (hasT n t) := by
 have hn' : n.length ≤ 9223372036854775807 := hn
 have hr : ∀ k, k < n.length → p_spec_l3Has_b0 n t (k : Int) = some (if decide (nth n k = t) then .inr (.inr true) else .inl ((k + 1 : Nat) : Int)) := fun k hk => by
  unfold p_spec_l3Has_b0
  simp only [dlt hk, cond_true, gd.yes (ixN hk), Int.toNat_natCast, gd.yes (i64S hk hn')]
  by_cases h : nth n k = t <;> simp [h]
 unfold p_spec_l3Has
 rcases lp_scan (body := p_spec_l3Has_b0 n t) (fun k => (k : Int)) n.length (fun k => decide (nth n k = t)) (.inl ()) (fun _ => .inr true) (fun k hk _ h => by simp [hr k hk, of_decide_eq_false h]) (fun k hk _ h => by simp [hr k hk, of_decide_eq_true h]) (fun _ => by unfold p_spec_l3Has_b0; simp) with ⟨h1, h2⟩ | ⟨h1, k, hk, hb, _, h2⟩
 ·rw [show (lp (p_spec_l3Has_b0 n t) 0) = _ from h2]
  have : t ∉ n := fun ht => by
   have := (allN_mem (l := n) (p := fun x => decide (x = t))).1 h1 t ht
   simp at this
  simp [sw, hasT_no this]
 ·rw [show (lp (p_spec_l3Has_b0 n t) 0) = _ from h2]
  have : t ∈ n := (of_decide_eq_true hb) ▸ nth_mem hk
  simp [sw, hasT_iff.2 this]
theorem e_Index_Tag (n : List Tag) (t : Tag) (hn : n.length ≤ maxLen) : ∃ k : Int, p_slices_Index_Tag_Tag n t = some k ∧ (0 ≤ k ↔ t ∈ n) := by
 have hn' : n.length ≤ 9223372036854775807 := hn
 have hr : ∀ k, k < n.length → p_slices_Index_Tag_Tag_b0 n t (k : Int) = some (if decide (t = nth n k) then .inr (.inr (k : Int)) else .inl ((k + 1 : Nat) : Int)) := fun k hk => by
  unfold p_slices_Index_Tag_Tag_b0
  simp only [dlt hk, cond_true, gd.yes (ixN hk), Int.toNat_natCast, gd.yes (i64S hk hn')]
  by_cases h : t = nth n k <;> simp [h]
 unfold p_slices_Index_Tag_Tag
 rcases lp_scan (body := p_slices_Index_Tag_Tag_b0 n t) (fun k => (k : Int)) n.length (fun k => decide (t = nth n k)) (.inl ()) (fun k => .inr (k : Int)) (fun k hk _ h => by simp [hr k hk, of_decide_eq_false h]) (fun k hk _ h => by rw [hr k hk, if_pos h]) (fun _ => by unfold p_slices_Index_Tag_Tag_b0; simp) with ⟨h1, h2⟩ | ⟨h1, k, hk, hb, _, h2⟩
 ·rw [show (lp (p_slices_Index_Tag_Tag_b0 n t) 0) = _ from h2]
  have : t ∉ n := fun ht => by
   have := (allN_mem (l := n) (p := fun x => decide (t = x))).1 h1 t ht
   simp at this
  exact ⟨-1, rfl, by simp [this]⟩
 ·rw [show (lp (p_slices_Index_Tag_Tag_b0 n t) 0) = _ from h2]
  have : t ∈ n := (of_decide_eq_true hb) ▸ nth_mem hk
  exact ⟨(k : Int), rfl, by simp [this]⟩
theorem e_Contains_Tag (n : List Tag) (t : Tag) (hn : n.length ≤ maxLen) : p_slices_Contains_Tag_Tag n t = some (hasT n t) := by
 unfold p_slices_Contains_Tag_Tag
 obtain ⟨k, e, h⟩ := e_Index_Tag n t hn
 simp only [e, bd_some]
 by_cases hm : t ∈ n
 ·rw [hasT_iff.2 hm, decide_eq_true (h.2 hm)]
 ·rw [hasT_no hm, decide_eq_false (fun q => hm (h.1 q))]
def filterOk (f : List Cond) : Bool := allN f.length (fun k => !tagB (nth f k).1) && decide ((f.length : Int) ≤ 3)
theorem e_impl_FilterOk (f : List Cond) (hn : f.length ≤ maxLen) : p_impl_FilterOk f = some (filterOk f) := by
 have hn' : f.length ≤ 9223372036854775807 := hn
 have hr : ∀ k, k < f.length → p_impl_FilterOk_b0 f (k : Int) = some (if (!tagB (nth f k).1) then .inr (.inr false) else .inl ((k + 1 : Nat) : Int)) := fun k hk => by
  unfold p_impl_FilterOk_b0
  simp only [dlt hk, cond_true, gd.yes (ixN hk), e_impl_tagOk, bd_some, Int.toNat_natCast, gd.yes (i64S hk hn')]
  cases tagB (nth f k).1 <;> simp
 unfold p_impl_FilterOk filterOk
 rcases lp_scan (body := p_impl_FilterOk_b0 f) (fun k => (k : Int)) f.length (fun k => !tagB (nth f k).1) (.inl ()) (fun _ => .inr false) (fun k hk _ h => by rw [hr k hk, h]; rfl) (fun k hk _ h => by rw [hr k hk, h]; rfl) (fun _ => by unfold p_impl_FilterOk_b0; simp) with ⟨h1, h2⟩ | ⟨h1, k, _, _, _, h2⟩
 ·rw [show (lp (p_impl_FilterOk_b0 f) 0) = _ from h2, h1]; simp [sw]
 ·rw [show (lp (p_impl_FilterOk_b0 f) 0) = _ from h2, h1]; simp [sw]
end Go.Proofs.Ytichamokohjneaa
