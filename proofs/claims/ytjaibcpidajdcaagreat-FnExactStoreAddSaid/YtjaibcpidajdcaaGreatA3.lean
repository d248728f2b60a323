/- The walks and the plain laws, part 3: each function that the law reaches computes what its plain function tells, and what the plain functions answer. Conditions: lengths that memory can hold. -/
import Derived.Test.YtjaibcpidajdcaaGreatA2
namespace Go.Proofs.YtjaibcpidajdcaaGreat
open Go Go.Sx
theorem e_pdqL {rc : (List PostH) → Int → Int → Int → Option ((List PostH))} {N : Nat} (H : PS rc N) (v0 : List PostH) : ∀ (n : Nat) (d : Array PostH) (a b lim : Nat) (wb wp : Bool), b - a < n → b - a ≤ N → a ≤ b → b ≤ d.size → d.size ≤ 1073741824 → lim ≤ 1000 → Sort.Below ltP a b d →
  ∃ r : Array PostH, bd (lp (p_pdqsortH_b0 rc) (d.toList, (a : Int), (b : Int), (lim : Int), wb, wp)) (sw (fun _ => some v0) (fun q => some q)) = some r.toList ∧ Sort.PermIn a b d r ∧ Sort.SortedIn ltP a b r
 | 0, _, _, _, _, _, _, h, _, _, _, _, _, _ => absurd h (Nat.not_lt_zero _)
 | n + 1, d, a, b, lim, wb, wp, hn, hN, hab, hb, hs, hl, hB => by
  have hS := ltP_swo (β := HV)
  by_cases h12 : b - a ≤ 12
  ·rw [lp.stop (e := .inr (Sort.insertionSort ltP d a b).toList) (by
    rw [pdq_b0, gd.yes (by unfold I64; omega), decide_eq_true (show ((b : Int) - (a : Int) ≤ 12) by omega), cond_true, e_ins a b d hab hb hs]; rfl)]
   exact ⟨_, rfl, Sort.insertionSort_holds hS d a b hab hb⟩
  ·have e12 : decide ((b : Int) - (a : Int) ≤ 12) = false := decide_eq_false (by omega)
   by_cases hl0 : lim = 0
   ·rw [lp.stop (e := .inr (Sort.heapSort ltP d a b).toList) (by
     rw [pdq_b0, gd.yes (by unfold I64; omega), e12, cond_false, decide_eq_true (show ((lim : Int) = 0) by omega), cond_true, e_heap a b d hab hb hs]; rfl)]
    exact ⟨_, rfl, Sort.heapSort_holds hS d a b hab hb⟩
   ·obtain ⟨d1, lim1, hx1, P1, hl1⟩ : ∃ (d1 : Array PostH) (lim1 : Nat), (cond (!wb) (bd (p_breakPatternsH d.toList (a : Int) (b : Int)) fun r29 => gd (I64 ((lim : Int) - 1)) <| some (r29, (lim : Int) - 1)) (some (d.toList, (lim : Int)))) = some (d1.toList, (lim1 : Int)) ∧ Sort.PermIn a b d d1 ∧ lim1 ≤ 1000 := by
     cases wb with
     | true => exact ⟨d, lim, rfl, Sort.permIn_refl d a b, hl⟩
     | false =>
      obtain ⟨r, hr, hp⟩ := e_brk a b d hab hb hs
      refine ⟨r, lim - 1, ?_, hp, by omega⟩
      rw [Bool.not_false, cond_true, hr]
      simp only [bd_some]
      rw [gd.yes (by unfold I64; omega), show (lim : Int) - 1 = ((lim - 1 : Nat) : Int) by omega]
    have b1 : b ≤ d1.size := by rw [P1.1]; exact hb
    obtain ⟨pv, h, hpv, pa, pb⟩ := e_piv a b d1 (by omega) b1 (by rw [P1.1]; exact hs)
    obtain ⟨d2, pv2, h2, hx2, P2, pa2, pb2⟩ : ∃ (d2 : Array PostH) (pv2 : Nat) (h2 : Int), (cond (decide (h = 2)) (bd (p_reverseRangeH d1.toList (a : Int) (b : Int)) fun r41 => gd (I64 ((b : Int) - 1)) <| gd (I64 ((pv : Int) - (a : Int))) <| gd (I64 (((b : Int) - 1) - ((pv : Int) - (a : Int)))) <| some (r41, ((b : Int) - 1) - ((pv : Int) - (a : Int)), (1 : Int))) (some (d1.toList, (pv : Int), h))) = some (d2.toList, (pv2 : Int), h2) ∧ Sort.PermIn a b d1 d2 ∧ a ≤ pv2 ∧ pv2 < b := by
     cases decide (h = 2) with
     | false => exact ⟨d1, pv, h, rfl, Sort.permIn_refl d1 a b, pa, pb⟩
     | true =>
      refine ⟨Sort.reverseRange d1 a b, (b - 1) - (pv - a), 1, ?_, Sort.reverseRange_holds d1 a b hab b1, by omega, by omega⟩
      rw [cond_true, e_rev a b d1 (by omega) b1 (by rw [P1.1]; exact hs)]
      simp only [bd_some]
      rw [gd.yes (by unfold I64; omega), gd.yes (by unfold I64; omega), gd.yes (by unfold I64; omega), show ((b : Int) - 1) - ((pv : Int) - (a : Int)) = (((b - 1) - (pv - a) : Nat) : Int) by omega]
    have b2 : b ≤ d2.size := by rw [P2.1]; exact b1
    have s2 : d2.size ≤ 1073741824 := by rw [P2.1, P1.1]; exact hs
    have B2 : Sort.Below ltP a b d2 := (hB.perm hb P1).perm b1 P2
    have P02 : Sort.PermIn a b d d2 := Sort.permIn_trans _ _ _ a b P1 P2
    obtain ⟨bb, hbb⟩ : ∃ bb : Bool, (cond wb (cond wp (some (decide (h2 = 1))) (some (false))) (some (false))) = some bb := by cases wb <;> cases wp <;> exact ⟨_, rfl⟩
    have start : ∀ K, cond bb (bd (p_partialInsertionSortH d2.toList (a : Int) (b : Int)) fun r54 => cond (r54.1) (some (.inr (.inr r54.2))) (pdqT rc r54.2 (a : Int) (b : Int) (lim1 : Int) wb wp (pv2 : Int))) (pdqT rc d2.toList (a : Int) (b : Int) (lim1 : Int) wb wp (pv2 : Int)) = K → p_pdqsortH_b0 rc (d.toList, (a : Int), (b : Int), (lim : Int), wb, wp) = K := by
     intro K hK
     rw [pdq_b0, gd.yes (by unfold I64; omega), e12, cond_false, decide_eq_false (show ¬ ((lim : Int) = 0) by omega), cond_false, hx1]
     simp only [bd_some]
     rw [hpv]
     simp only [bd_some]
     rw [hx2]
     simp only [bd_some]
     rw [hbb]
     exact hK
    have go : ∀ d3 : Array PostH, Sort.PermIn a b d2 d3 → p_pdqsortH_b0 rc (d.toList, (a : Int), (b : Int), (lim : Int), wb, wp) = pdqT rc d3.toList (a : Int) (b : Int) (lim1 : Int) wb wp (pv2 : Int) →
      ∃ r : Array PostH, bd (lp (p_pdqsortH_b0 rc) (d.toList, (a : Int), (b : Int), (lim : Int), wb, wp)) (sw (fun _ => some v0) (fun q => some q)) = some r.toList ∧ Sort.PermIn a b d r ∧ Sort.SortedIn ltP a b r := by
     intro d3 P3 hst
     have b3 : b ≤ d3.size := by rw [P3.1]; exact b2
     obtain ⟨d', a', b', wb', wp', hT, q1, q2, q3, q4, q5, q6⟩ := e_tail H d3 a b lim1 pv2 wb wp hN pa2 pb2 b3 (by rw [P3.1]; exact s2) hl1 (B2.perm b2 P3)
     rw [lp.step (hst.trans hT)]
     obtain ⟨r, hr, r1, r2⟩ := e_pdqL H v0 n d' a' b' lim1 wb' wp' (by omega) (by omega) q1 q4 (by rw [q3, P3.1]; exact s2) hl1 q5
     obtain ⟨k1, k2⟩ := q6 r r1 r2
     exact ⟨r, hr, Sort.permIn_trans _ _ _ a b (Sort.permIn_trans _ _ _ a b P02 P3) k1, k2⟩
    cases bb with
    | false => exact go d2 (Sort.permIn_refl d2 a b) (start _ rfl)
    | true =>
     have hpi := Sort.partialInsertionSort_holds hS d2 a b (by omega) b2 B2
     have est : p_pdqsortH_b0 rc (d.toList, (a : Int), (b : Int), (lim : Int), wb, wp) = cond (Sort.partialInsertionSort ltP d2 a b).2 (some (.inr (.inr (Sort.partialInsertionSort ltP d2 a b).1.toList))) (pdqT rc (Sort.partialInsertionSort ltP d2 a b).1.toList (a : Int) (b : Int) (lim1 : Int) wb wp (pv2 : Int)) := by
      refine start _ ?_
      rw [cond_true, e_par a b d2 (by omega) b2 s2]
      rfl
     cases ht : (Sort.partialInsertionSort ltP d2 a b).2 with
     | true =>
      rw [ht, cond_true] at est
      rw [lp.stop est]
      exact ⟨_, rfl, Sort.permIn_trans _ _ _ a b P02 hpi.1, hpi.2 ht⟩
     | false =>
      rw [ht, cond_false] at est
      exact go _ hpi.1 est
theorem e_pdq : ∀ N : Nat, PS (p_pdqsortH N) N
 | 0 => fun d a b lim h => absurd h (Nat.not_lt_zero _)
 | N + 1 => fun d a b lim h hab hb hs hl hB => e_pdqL (e_pdq N) d.toList _ d a b lim true true (Nat.lt_succ_self _) (by omega) hab hb hs hl hB
theorem e_SortH (l : List PostH) (hs : l.length ≤ 1073741824) : ∃ r : List PostH, p_SortFuncH l = some r ∧ r.Perm l ∧ r.Pairwise (fun x y => ltP y x = false) := by
 obtain ⟨L, eL, hL, _⟩ := e_len l.length hs
 obtain ⟨r, hr, h1, h2⟩ := e_pdq (l.length + 1) l.toArray 0 l.length L (by omega) (Nat.zero_le _) (by simp) (by simpa using hs) (by omega) (.inl rfl)
 unfold p_SortFuncH
 rw [eL]
 simp only [bd_some]
 rw [show l.toArray.toList = l from rfl, show ((0 : Nat) : Int) = 0 from rfl] at hr
 rw [hr]
 refine ⟨r.toList, rfl, ?_, ?_⟩
 ·have := h1.2.2
  have e1 : r.extract 0 l.length = r := by
   have : l.length = r.size := by rw [h1.1]; simp
   rw [this]; exact Array.extract_size
  have e2 : l.toArray.extract 0 l.length = l.toArray := by
   have : l.length = l.toArray.size := by simp
   rw [this]; exact Array.extract_size
  rw [e1, e2] at this
  exact this
 ·rw [List.pairwise_iff_getElem]
  intro i j hi hj hij
  have hsz : r.size = l.length := by rw [h1.1]; simp
  have := h2 i j (Nat.zero_le _) hij (by rw [← hsz]; simpa using hj)
  rw [getElem!_pos r i (by simpa using hi), getElem!_pos r j (by simpa using hj)] at this
  simpa using this
noncomputable def p_slices_SortFunc_Post_Post_indexOf_2 (v0 : List Post) : Option (List Post) := sortP v0
theorem c_slices_SortFunc_Post_Post_indexOf_2 {r : List Post} (v0 : List Post) (x_v0 : Option Addr × Nat) (n_v0 : Nat) (e_v0 : n_v0 = v0.length) (H : p_slices_SortFunc_Post_Post_indexOf_2 v0 = some r) : Fn' Tryz.prog 128 #[.slice x_v0.1 n_v0 x_v0.2, .func (.func 129) #[] #[]] [] [tree (.slice x_v0.1 n_v0 x_v0.2) v0] (ι := Unit) (fun _ => .tuple #[]) (fun _ => []) (fun _ => [tree (.slice x_v0.1 n_v0 x_v0.2) r]) := by
 subst e_v0
 have H : sortP v0 = some r := H
 refine Fn'.sortN H ⟨⟨_, Tryz.func128, by kernel_rfl, by kernel_rfl⟩⟩ fun l' hl => ?_
 obtain ⟨r', h1, h2, h3⟩ := e_SortH l' (by rw [hl]; exact (gd.of H).1)
 refine ⟨r', h2, h3, ?_⟩
 have := c_SortFuncH l' x_v0 l'.length rfl h1
 rw [hl] at this; exact this
noncomputable def p_impl_indexOf_b1 (v0 : (List (List Tag))) (Q13 : (List Post) × Int) (Q27 : (List Post) × Int) : Option (((List Post) × Int) ⊕ ((List Post))) := cond (decide (Q27.2 < ((nth v0 Q13.2.toNat).length : Int))) (gd (ix Q27.2 (nth v0 Q13.2.toNat).length) <| bd (p_slices_IndexFunc_Post_Post_indexOf_1 Q27.1 (nth (nth v0 Q13.2.toNat) Q27.2.toNat)) fun r38 => cond (decide (r38 < 0)) (gd (room (Q27.1.length + 1)) <| gd (ix (Q27.1.length : Int) (Q27.1 ++ [((nth (nth v0 Q13.2.toNat) Q27.2.toNat), ([]))]).length) <| gd (I64 (Q13.2 + 1)) <| gd (room (((nth (Q27.1 ++ [((nth (nth v0 Q13.2.toNat) Q27.2.toNat), ([]))]) ((Q27.1.length : Int).toNat)).2).length + 1)) <| gd (I64 (Q27.2 + 1)) <| some (.inl (((Q27.1 ++ [((nth (nth v0 Q13.2.toNat) Q27.2.toNat), ([]))]).set ((Q27.1.length : Int).toNat) (((nth (Q27.1 ++ [((nth (nth v0 Q13.2.toNat) Q27.2.toNat), ([]))]) ((Q27.1.length : Int).toNat)).1), (((nth (Q27.1 ++ [((nth (nth v0 Q13.2.toNat) Q27.2.toNat), ([]))]) ((Q27.1.length : Int).toNat)).2) ++ [Q13.2 + 1]))), Q27.2 + 1))) (gd (ix r38 Q27.1.length) <| gd (I64 (Q13.2 + 1)) <| gd (room (((nth Q27.1 r38.toNat).2).length + 1)) <| gd (I64 (Q27.2 + 1)) <| some (.inl ((Q27.1.set r38.toNat (((nth Q27.1 r38.toNat).1), (((nth Q27.1 r38.toNat).2) ++ [Q13.2 + 1]))), Q27.2 + 1)))) (some (.inr Q27.1))
noncomputable def p_impl_indexOf_b0 (v0 : (List (List Tag))) (Q13 : (List Post) × Int) : Option (((List Post) × Int) ⊕ ((List Post))) := cond (decide (Q13.2 < (v0.length : Int))) (gd (ix Q13.2 v0.length) <| bd (lp (p_impl_indexOf_b1 v0 Q13) (Q13.1, 0)) fun x23 => gd (I64 (Q13.2 + 1)) <| some (.inl (x23, Q13.2 + 1))) (some (.inr Q13.1))
noncomputable def p_impl_indexOf (v0 : (List (List Tag))) : Option (Index) := bd (p_impl_cloneNames v0) fun r3 => bd (lp (p_impl_indexOf_b0 v0) (([] : List Post), 0)) fun x9 => bd (p_slices_SortFunc_Post_Post_indexOf_2 x9) fun r62 => some (r3, r62)
theorem c_impl_indexOf {r : Index} (v0 : (List (List Tag))) (x_v0 : Option Addr × Nat) (H : p_impl_indexOf v0 = some r) : Fn' Tryz.prog 90 #[.slice x_v0.1 v0.length x_v0.2] [imm (.slice x_v0.1 v0.length x_v0.2) v0] [] (ι := (Option Addr × Nat) × (Option Addr × Nat)) (fun x => .agg #[.slice x.1.1 r.1.length x.1.2, .slice x.2.1 r.2.length x.2.2]) (fun _ => []) (fun x => [tree (.slice x.1.1 r.1.length x.1.2) r.1, tree (.slice x.2.1 r.2.length x.2.2) r.2]) := by
 refine cof (args := [_]) Tryz.func90 Tryz.ntmps90 fun c => ?_
 unfold p_impl_indexOf at H
 refine Tr.openD Ent.z fun X1 => (sr (f1 (e_alloc ty35) fun g2 => (nl (sr (Rg.m rfl (bdo H fun r3 h4 H => (f1 (e_callB (c_impl_cloneNames v0 x_v0 h4) (fun _ => (Solo.tree Solo.nil)) rfl (EntsB.cons (Ent.b (Ent.dimm Ent.z)) EntsB.nil)) fun x5 => (f2 (e_lit0 Post Tryz.underlying33 ty113) fun a6 c7 => (Rg.p (v := .agg #[.slice x5.1 r3.length x5.2, .slice a6 (([] : List Post).length) c7]) (p_buildS (vs := [(0, .slice x5.1 r3.length x5.2), (1, .slice a6 (([] : List Post).length) c7)]) (cs := #[.slice x5.1 r3.length x5.2, .slice a6 (([] : List Post).length) c7]) ty35 pl35 rfl rfl) ?_)))))))))
 refine f1 (e_alloc ty35) fun g8 => (stb (cs' := [.slice x5.1 r3.length x5.2, .slice a6 (([] : List Post).length) c7]) ty35 Upd.here (nl (Tr.seq (sr (Rg.m rfl (Rg.p (p_len 56 Tryz.underlying32 rfl) (Rg.m (v := .int .i64 (0)) rfl (nl (bdo H fun x9 hx10 H => (tMidNC (ι := Option Addr × Nat) (fun ψ => [(2, .pointer (some ⟨g2, 0, none⟩)), (3, .pointer (some ⟨g8, 0, none⟩))]) (fun ψ => [box g2 35 [.slice none 0 0, .slice none 0 0], tree (.slice x5.1 r3.length x5.2) r3, tree (.slice ψ.1 x9.length ψ.2) x9, box g8 35 [.slice x5.1 r3.length x5.2, .slice ψ.1 x9.length ψ.2]]) ?_ ?_))))))))))
 ·refine Tr.block (tLoopI hx10 (a6, c7) (fun Q13 _ => [(2, .pointer (some ⟨g2, 0, none⟩)), (3, .pointer (some ⟨g8, 0, none⟩)), (13, .slice x_v0.1 v0.length x_v0.2), (14, .int .i64 ((v0.length : Int))), (15, .int .i64 (Q13.2))]) (fun Q13 z14 => [box g2 35 [.slice none 0 0, .slice none 0 0], tree (.slice x5.1 r3.length x5.2) r3, tree (.slice z14.1 Q13.1.length z14.2) Q13.1, box g8 35 [.slice x5.1 r3.length x5.2, .slice z14.1 Q13.1.length z14.2]]) (.cons dl3 (.cons dl2 (.cons dl1 (.cons Del.here .nil)))) ?_)
  rintro _ Q13 z14 t16 H1 hi17 hb18
  unfold p_impl_indexOf_b0 at H1
  refine sr (Rg.p (p_lss rfl rfl) (nl (Tr.seq (cH H1 rfl (fun h21 H1 => ?_) (fun h21 H1 => ?_)))))
  ·refine tSkip (nT (Tr.seq (Tr.block (sr (Rg.m rfl (gdo H1 fun h22 H1 => (Rg.o (q_ixg Tryz.underlying32 ty56 rfl rfl h22 rfl (Ent.b (Ent.darr Ent.z))) (Rg.o (q_lde (i := Q13.2.toNat) (j := 0) ty56 rfl (Ent.b (Ent.darr Ent.z)) h22.lt rfl) (Rg.a rfl (Rg.a rfl (nl ?_)))))))))))
   refine sr (Rg.m rfl (Rg.p (p_len 96 Tryz.underlying56 rfl) (Rg.m (v := .int .i64 (0)) rfl (nl (bdo H1 fun x23 hx24 H1 => (tMidNC (ι := Option Addr × Nat) (fun ψ => [(2, .pointer (some ⟨g2, 0, none⟩)), (3, .pointer (some ⟨g8, 0, none⟩)), (13, .slice x_v0.1 v0.length x_v0.2), (14, .int .i64 ((v0.length : Int))), (15, .int .i64 (Q13.2))]) (fun ψ => [box g2 35 [.slice none 0 0, .slice none 0 0], tree (.slice x5.1 r3.length x5.2) r3, tree (.slice ψ.1 x23.length ψ.2) x23, box g8 35 [.slice x5.1 r3.length x5.2, .slice ψ.1 x23.length ψ.2]]) ?_ ?_))))))
   ·refine Tr.block (tLoopI hx24 (z14.1, z14.2) (fun Q27 _ => [(2, .pointer (some ⟨g2, 0, none⟩)), (3, .pointer (some ⟨g8, 0, none⟩)), (4, .int .i64 (Q13.2)), (13, .slice x_v0.1 v0.length x_v0.2), (14, .int .i64 ((v0.length : Int))), (15, .int .i64 (Q13.2)), (20, .slice ((X1 Q13.2.toNat).1) ((nth v0 Q13.2.toNat).length) ((X1 Q13.2.toNat).2.1)), (21, .int .i64 (((nth v0 Q13.2.toNat).length : Int))), (22, .int .i64 (Q27.2))]) (fun Q27 z28 => [box g2 35 [.slice none 0 0, .slice none 0 0], tree (.slice x5.1 r3.length x5.2) r3, tree (.slice z28.1 Q27.1.length z28.2) Q27.1, box g8 35 [.slice x5.1 r3.length x5.2, .slice z28.1 Q27.1.length z28.2]]) (.cons Del.here (.cons Del.here (.cons Del.here (.cons Del.here .nil)))) ?_)
    rintro _ Q27 z28 t30 H2 hi31 hb32
    unfold p_impl_indexOf_b1 at H2
    refine sr (Rg.p (p_lss rfl rfl) (nl (Tr.seq (cH H2 rfl (fun h35 H2 => ?_) (fun h35 H2 => ?_)))))
    ·refine tSkip (nT (Tr.seq (Tr.block (sr (gdo H2 fun h36 H2 => (Rg.o (q_ixg Tryz.underlying56 ty96 rfl rfl h36 rfl (EntB.flat (Ent.b (Ent.dimm (Ent.del Ent.z h22.lt))))) (Rg.o (v := .agg #[.string ((nth (nth v0 Q13.2.toNat) Q27.2.toNat).1), .string ((nth (nth v0 Q13.2.toNat) Q27.2.toNat).2)]) (q_ldeA (i := Q27.2.toNat) ty96 rfl (EntB.flat (Ent.b (Ent.dimm (Ent.del Ent.z h22.lt)))) h36.lt) (f1 (e_alloc ty96) fun g37 => (stb (cs' := [.string ((nth (nth v0 Q13.2.toNat) Q27.2.toNat).1), .string ((nth (nth v0 Q13.2.toNat) Q27.2.toNat).2)]) ty96 Upd.here (nl ?_))))))))))
     refine sr (Rg.p (p_fabE fa35_1 rfl rfl) (Rg.o (q_ldb ty33 rfl hs4 rfl) (Rg.p (v := .func (.func 127) #[] #[.pointer (some ⟨g37, 0, none⟩)]) (p_mkfunc (vs := [.pointer (some ⟨g37, 0, none⟩)]) rfl rfl) (bdo H2 fun r38 h39 H2 => (Rg.o (q_callC (c_slices_IndexFunc_Post_Post_indexOf_1 Q27.1 z28 g37 (nth (nth v0 Q13.2.toNat) Q27.2.toNat) h39) (Solo.box Solo.nil) rfl (.cons Del.here .nil) (EntsB.cons (EntB.tree hs2) EntsB.nil)) (Rg.a rfl (nl (Tr.seq (sr (Rg.m rfl (Rg.p (p_lss rfl rfl) (nl ?_))))))))))))
     refine cH H2 rfl (fun h40 H2 => ?_) (fun h40 H2 => ?_)
     ·refine sr (Rg.p (p_fabE fa35_1 rfl rfl) (Rg.o (q_ldb ty33 rfl hs4 rfl) (Rg.p (p_len 113 Tryz.underlying33 rfl) (Rg.a rfl (nl (Tr.nilT Int (Tr.region (Rg.p (p_fabE fa35_1 rfl rfl) (Rg.o (q_ldb ty33 rfl hs5 rfl) (Rg.o (q_ldbA ty96 rfl hs1 rfl) ?_))))))))))
      refine Rg.p (v := .agg #[.string ((nth (nth v0 Q13.2.toNat) Q27.2.toNat).1), .string ((nth (nth v0 Q13.2.toNat) Q27.2.toNat).2), .slice none 0 0]) (p_buildS (vs := [(0, .agg #[.string ((nth (nth v0 Q13.2.toNat) Q27.2.toNat).1), .string ((nth (nth v0 Q13.2.toNat) Q27.2.toNat).2)])]) (cs := #[.string ((nth (nth v0 Q13.2.toNat) Q27.2.toNat).1), .string ((nth (nth v0 Q13.2.toNat) Q27.2.toNat).2), .slice none 0 0]) ty113 pl113 rfl rfl) (f1 (e_lit (vs := [(0, .agg #[.string ((nth (nth v0 Q13.2.toNat) Q27.2.toNat).1), .string ((nth (nth v0 Q13.2.toNat) Q27.2.toNat).2), .slice none 0 0])]) [.string ((nth (nth v0 Q13.2.toNat) Q27.2.toNat).1), .string ((nth (nth v0 Q13.2.toNat) Q27.2.toNat).2), .slice none 0 0] Tryz.underlying33 ty113 rfl (by decide) (by decide) (by kernel_rfl)) fun g41 => (gdo H2 fun h44 H2 => (f2 (e_app1 (l := Q27.1) (α := Post) ((nth (nth v0 Q13.2.toNat) Q27.2.toNat), ([])) (((), ()), (none, 0)) Tryz.underlying33 ty113 rfl rfl (h44.b (by decide)) h44.x rfl (ShpT.wfa _) (.cons dl5 (.cons Del.here (.cons Del.here .nil)))) fun a42 c43 => (Rg.p (p_fabE fa35_1 rfl rfl) (stb (cs' := [.slice x5.1 r3.length x5.2, .slice a42 ((Q27.1 ++ [((nth (nth v0 Q13.2.toNat) Q27.2.toNat), ([]))]).length) c43]) ty33 up4 (nl (gdo H2 fun h45 H2 => (Tr.zoom (k := (Q27.1.length : Int).toNat) h45.lt (.cons Del.here .nil) fun x46 => ?_))))))))
      show Tr _ _ _ _ _ _ _ (hole (.slice a42 ((Q27.1 ++ [((nth (nth v0 Q13.2.toNat) Q27.2.toNat), ([]))]).length) c43) (Q27.1 ++ [((nth (nth v0 Q13.2.toNat) Q27.2.toNat), ([]))]) ((Q27.1.length : Int).toNat) [.string (((nth (Q27.1 ++ [((nth (nth v0 Q13.2.toNat) Q27.2.toNat), ([]))]) ((Q27.1.length : Int).toNat)).1).1), .string (((nth (Q27.1 ++ [((nth (nth v0 Q13.2.toNat) Q27.2.toNat), ([]))]) ((Q27.1.length : Int).toNat)).1).2), .slice x46.2.1 (((nth (Q27.1 ++ [((nth (nth v0 Q13.2.toNat) Q27.2.toNat), ([]))]) ((Q27.1.length : Int).toNat)).2).length) x46.2.2] :: tree (.slice x46.2.1 (((nth (Q27.1 ++ [((nth (nth v0 Q13.2.toNat) Q27.2.toNat), ([]))]) ((Q27.1.length : Int).toNat)).2).length) x46.2.2) ((nth (Q27.1 ++ [((nth (nth v0 Q13.2.toNat) Q27.2.toNat), ([]))]) ((Q27.1.length : Int).toNat)).2) :: _)
      refine tNwS [(8, .int .i64 ((Q27.1.length : Int))), (2, .pointer (some ⟨g2, 0, none⟩)), (3, .pointer (some ⟨g8, 0, none⟩)), (4, .int .i64 (Q13.2)), (13, .slice x_v0.1 v0.length x_v0.2), (14, .int .i64 ((v0.length : Int))), (15, .int .i64 (Q13.2)), (20, .slice ((X1 Q13.2.toNat).1) ((nth v0 Q13.2.toNat).length) ((X1 Q13.2.toNat).2.1)), (21, .int .i64 (((nth v0 Q13.2.toNat).length : Int))), (22, .int .i64 (Q27.2))] 1 [0, 1, 2, 3, 4, 5, 6, 7, 8, 9, 10, 11, 12, 13, 14, 15] [11, 12, 15] [] Tryz.mixed (by kernel_rfl) (by decide) List.nodup_nil ⟨rfl, rfl, rfl, rfl, rfl, rfl, rfl, rfl, rfl, rfl, trivial⟩ rfl okNil (w_p rfl (p_fabE fa35_1 rfl rfl) ?_)
      refine w_o rfl (fun F => (q_ldb ty33 rfl (hs5.app F) rfl)) (w_p rfl (p_move rfl) (w_p rfl (p_fabE fa35_1 rfl rfl) ?_))
      refine w_o rfl (fun F => (q_ldb ty33 rfl (hs5.app F) rfl)) (w_p rfl (p_move rfl) ?_)
      refine w_o (v := elp a42 (((Q27.1.length : Int).toNat) * Enc.sz Post + 0)) rfl (fun F => (q_ixH (k := (Q27.1.length : Int).toNat) Tryz.underlying33 ty113 rfl rfl h45 rfl (Has.here.app F))) ?_
      refine w_o (v := elp a42 (((Q27.1.length : Int).toNat) * Enc.sz Post + 2)) rfl (fun F => (q_faH (j := 0) (i := (Q27.1.length : Int).toNat) fa113_1 rfl (Has.here.app F) rfl)) ?_
      refine w_o (v := .slice x46.2.1 (((nth (Q27.1 ++ [((nth (nth v0 Q13.2.toNat) Q27.2.toNat), ([]))]) ((Q27.1.length : Int).toNat)).2).length) x46.2.2) rfl (fun F => (q_ldH (i := (Q27.1.length : Int).toNat) (j := 2) ty69 rfl (Has.here.app F) rfl)) (w_p rfl (p_move rfl) (gdo H2 fun h47 H2 => (w_p rfl (p_add rfl rfl h47) (w_ed rfl (by decide) rfl Rdy.nil rfl (n_lit (vs := [(0, .int .i64 (Q13.2 + 1))]) [.int .i64 (Q13.2 + 1)] Tryz.underlying69 ty3 rfl (by decide) (by decide) (by kernel_rfl)) ?_))))
      rintro _ _ _ ⟨g48, rfl, rfl, rfl⟩
      refine ⟨(PdOk.q rfl rfl (fun F => (q_ldH (i := (Q27.1.length : Int).toNat) (j := 2) ty69 rfl (hs1.app F) rfl)) (PdOk.q rfl rfl (fun F => (q_faH (j := 0) (i := (Q27.1.length : Int).toNat) fa113_1 rfl (hs1.app F) rfl)) (PdOk.q rfl rfl (fun F => (q_ixH (k := (Q27.1.length : Int).toNat) Tryz.underlying33 ty113 rfl rfl h45 rfl (hs1.app F))) (PdOk.q rfl rfl (fun F => (q_ldb ty33 rfl ((hs5t hs1).app F) rfl)) (PdOk.q rfl rfl (fun F => (q_ldb ty33 rfl ((hs5t hs1).app F) rfl)) PdOk.nil))))), ?_⟩
      refine gdo H2 fun h51 H2 => (w_ed rfl (by decide) rfl Rdy.nil rfl (n_app1 (l := (nth (Q27.1 ++ [((nth (nth v0 Q13.2.toNat) Q27.2.toNat), ([]))]) ((Q27.1.length : Int).toNat)).2) (α := Int) (Q13.2 + 1) () Tryz.underlying69 ty3 rfl rfl (h51.b (by decide)) h51.x rfl (ShpT.wfa _) (.cons dl2 (.cons Del.here .nil))) ?_)
      rintro _ _ _ ⟨a49, c50, rfl, rfl, rfl⟩
      refine ⟨(PdOk.anc (by kernel_rfl) (PdOk.q rfl rfl (fun F => (q_faH (j := 0) (i := (Q27.1.length : Int).toNat) fa113_1 rfl (hs1.app F) rfl)) (PdOk.q rfl rfl (fun F => (q_ixH (k := (Q27.1.length : Int).toNat) Tryz.underlying33 ty113 rfl rfl h45 rfl (hs1.app F))) (PdOk.q rfl rfl (fun F => (q_ldb ty33 rfl (hs5.app F) rfl)) (PdOk.q rfl rfl (fun F => (q_ldb ty33 rfl (hs5.app F) rfl)) PdOk.nil))))), ?_⟩
      refine w_o (v := elp a42 (((Q27.1.length : Int).toNat) * Enc.sz Post + 0)) rfl (fun F => (q_ixH (k := (Q27.1.length : Int).toNat) Tryz.underlying33 ty113 rfl rfl h45 rfl (hs1.app F))) ?_
      refine w_o (v := elp a42 (((Q27.1.length : Int).toNat) * Enc.sz Post + 2)) rfl (fun F => (q_faH (j := 0) (i := (Q27.1.length : Int).toNat) fa113_1 rfl (hs1.app F) rfl)) (w_en rfl rfl Rdy.nil rfl (n_stH (v := .slice a49 ((((nth (Q27.1 ++ [((nth (nth v0 Q13.2.toNat) Q27.2.toNat), ([]))]) ((Q27.1.length : Int).toNat)).2) ++ [Q13.2 + 1]).length) c50) (i := (Q27.1.length : Int).toNat) (j := 2) (cs' := [.string (((nth (Q27.1 ++ [((nth (nth v0 Q13.2.toNat) Q27.2.toNat), ([]))]) ((Q27.1.length : Int).toNat)).1).1), .string (((nth (Q27.1 ++ [((nth (nth v0 Q13.2.toNat) Q27.2.toNat), ([]))]) ((Q27.1.length : Int).toNat)).1).2), .slice a49 ((((nth (Q27.1 ++ [((nth (nth v0 Q13.2.toNat) Q27.2.toNat), ([]))]) ((Q27.1.length : Int).toNat)).2) ++ [Q13.2 + 1]).length) c50]) ty69 rfl rfl (.cons dl1 .nil) rfl (one_of rfl) (Nat.le_of_ble_eq_true rfl) rfl rfl) ?_)
      rintro _ _ _ ⟨rfl, rfl, rfl⟩
      refine ⟨(PdOk.anc (by kernel_rfl) (PdOk.q rfl rfl (fun F => (q_ixH (k := (Q27.1.length : Int).toNat) Tryz.underlying33 ty113 rfl rfl h45 rfl (Has.here.app F))) (PdOk.anc (by kernel_rfl) (PdOk.anc (by kernel_rfl) (PdOk.anc (by kernel_rfl) (PdOk.anc (by kernel_rfl) (PdOk.anc (by kernel_rfl) PdOk.nil))))))), ?_⟩
      refine w_nil ?_
      show At _ _ _ _ _ _
      refine nB (nT (Tr.region (gdo H2 fun h52 H2 => (Rg.p (p_add rfl rfl h52) (Rg.m rfl (Rg.nl (At.unzoom (((nth (Q27.1 ++ [((nth (nth v0 Q13.2.toNat) Q27.2.toNat), ([]))]) ((Q27.1.length : Int).toNat)).1), (((nth (Q27.1 ++ [((nth (nth v0 Q13.2.toNat) Q27.2.toNat), ([]))]) ((Q27.1.length : Int).toNat)).2) ++ [Q13.2 + 1])) (((), ()), (a49, c50)) rfl (.cons Del.here (.cons Del.here .nil)) ?_)))))))
      refine At.olen Has.here fun hn => ?_; rw [hn]
      exact nLI (a42, c43) (hi31 _ (sm H2)) (.cons dl2 (.cons dl2 (.cons Del.here (.cons dl1 .nil))))
     ·refine tSkip (nT (gdo H2 fun h53 H2 => (Tr.zoom (k := r38.toNat) h53.lt (.cons dl3 .nil) fun x54 => ?_)))
      show Tr _ _ _ _ _ _ _ (hole (.slice z28.1 Q27.1.length z28.2) Q27.1 r38.toNat [.string (((nth Q27.1 r38.toNat).1).1), .string (((nth Q27.1 r38.toNat).1).2), .slice x54.2.1 (((nth Q27.1 r38.toNat).2).length) x54.2.2] :: tree (.slice x54.2.1 (((nth Q27.1 r38.toNat).2).length) x54.2.2) ((nth Q27.1 r38.toNat).2) :: _)
      refine tNwS [(8, .int .i64 (r38)), (2, .pointer (some ⟨g2, 0, none⟩)), (3, .pointer (some ⟨g8, 0, none⟩)), (4, .int .i64 (Q13.2)), (13, .slice x_v0.1 v0.length x_v0.2), (14, .int .i64 ((v0.length : Int))), (15, .int .i64 (Q13.2)), (20, .slice ((X1 Q13.2.toNat).1) ((nth v0 Q13.2.toNat).length) ((X1 Q13.2.toNat).2.1)), (21, .int .i64 (((nth v0 Q13.2.toNat).length : Int))), (22, .int .i64 (Q27.2))] 1 [0, 1, 2, 3, 4, 5, 6, 7, 8, 9, 10, 11, 12, 13, 14, 15] [11, 12, 15] [] Tryz.mixed (by kernel_rfl) (by decide) List.nodup_nil ⟨rfl, rfl, rfl, rfl, rfl, rfl, rfl, rfl, rfl, rfl, trivial⟩ rfl okNil (w_p rfl (p_fabE fa35_1 rfl rfl) ?_)
      refine w_o rfl (fun F => (q_ldb ty33 rfl (hs5.app F) rfl)) (w_p rfl (p_move rfl) (w_p rfl (p_fabE fa35_1 rfl rfl) ?_))
      refine w_o rfl (fun F => (q_ldb ty33 rfl (hs5.app F) rfl)) (w_p rfl (p_move rfl) ?_)
      refine w_o (v := elp z28.1 (r38.toNat * Enc.sz Post + 0)) rfl (fun F => (q_ixH (k := r38.toNat) Tryz.underlying33 ty113 rfl rfl h53 rfl (Has.here.app F))) ?_
      refine w_o (v := elp z28.1 (r38.toNat * Enc.sz Post + 2)) rfl (fun F => (q_faH (j := 0) (i := r38.toNat) fa113_1 rfl (Has.here.app F) rfl)) ?_
      refine w_o (v := .slice x54.2.1 (((nth Q27.1 r38.toNat).2).length) x54.2.2) rfl (fun F => (q_ldH (i := r38.toNat) (j := 2) ty69 rfl (Has.here.app F) rfl)) (w_p rfl (p_move rfl) (gdo H2 fun h55 H2 => (w_p rfl (p_add rfl rfl h55) (w_ed rfl (by decide) rfl Rdy.nil rfl (n_lit (vs := [(0, .int .i64 (Q13.2 + 1))]) [.int .i64 (Q13.2 + 1)] Tryz.underlying69 ty3 rfl (by decide) (by decide) (by kernel_rfl)) ?_))))
      rintro _ _ _ ⟨g56, rfl, rfl, rfl⟩
      refine ⟨(PdOk.q rfl rfl (fun F => (q_ldH (i := r38.toNat) (j := 2) ty69 rfl (hs1.app F) rfl)) (PdOk.q rfl rfl (fun F => (q_faH (j := 0) (i := r38.toNat) fa113_1 rfl (hs1.app F) rfl)) (PdOk.q rfl rfl (fun F => (q_ixH (k := r38.toNat) Tryz.underlying33 ty113 rfl rfl h53 rfl (hs1.app F))) (PdOk.q rfl rfl (fun F => (q_ldb ty33 rfl ((hs5t hs1).app F) rfl)) (PdOk.q rfl rfl (fun F => (q_ldb ty33 rfl ((hs5t hs1).app F) rfl)) PdOk.nil))))), ?_⟩
      refine gdo H2 fun h59 H2 => (w_ed rfl (by decide) rfl Rdy.nil rfl (n_app1 (l := (nth Q27.1 r38.toNat).2) (α := Int) (Q13.2 + 1) () Tryz.underlying69 ty3 rfl rfl (h59.b (by decide)) h59.x rfl (ShpT.wfa _) (.cons dl2 (.cons Del.here .nil))) ?_)
      rintro _ _ _ ⟨a57, c58, rfl, rfl, rfl⟩
      refine ⟨(PdOk.anc (by kernel_rfl) (PdOk.q rfl rfl (fun F => (q_faH (j := 0) (i := r38.toNat) fa113_1 rfl (hs1.app F) rfl)) (PdOk.q rfl rfl (fun F => (q_ixH (k := r38.toNat) Tryz.underlying33 ty113 rfl rfl h53 rfl (hs1.app F))) (PdOk.q rfl rfl (fun F => (q_ldb ty33 rfl (hs5.app F) rfl)) (PdOk.q rfl rfl (fun F => (q_ldb ty33 rfl (hs5.app F) rfl)) PdOk.nil))))), ?_⟩
      refine w_o (v := elp z28.1 (r38.toNat * Enc.sz Post + 0)) rfl (fun F => (q_ixH (k := r38.toNat) Tryz.underlying33 ty113 rfl rfl h53 rfl (hs1.app F))) ?_
      refine w_o (v := elp z28.1 (r38.toNat * Enc.sz Post + 2)) rfl (fun F => (q_faH (j := 0) (i := r38.toNat) fa113_1 rfl (hs1.app F) rfl)) (w_en rfl rfl Rdy.nil rfl (n_stH (v := .slice a57 ((((nth Q27.1 r38.toNat).2) ++ [Q13.2 + 1]).length) c58) (i := r38.toNat) (j := 2) (cs' := [.string (((nth Q27.1 r38.toNat).1).1), .string (((nth Q27.1 r38.toNat).1).2), .slice a57 ((((nth Q27.1 r38.toNat).2) ++ [Q13.2 + 1]).length) c58]) ty69 rfl rfl (.cons dl1 .nil) rfl (one_of rfl) (Nat.le_of_ble_eq_true rfl) rfl rfl) ?_)
      rintro _ _ _ ⟨rfl, rfl, rfl⟩
      refine ⟨(PdOk.anc (by kernel_rfl) (PdOk.q rfl rfl (fun F => (q_ixH (k := r38.toNat) Tryz.underlying33 ty113 rfl rfl h53 rfl (Has.here.app F))) (PdOk.anc (by kernel_rfl) (PdOk.anc (by kernel_rfl) (PdOk.anc (by kernel_rfl) (PdOk.anc (by kernel_rfl) (PdOk.anc (by kernel_rfl) PdOk.nil))))))), ?_⟩
      refine w_nil ?_
      show At _ _ _ _ _ _
      refine nB (nT (Tr.region (gdo H2 fun h60 H2 => (Rg.p (p_add rfl rfl h60) (Rg.m rfl (Rg.nl (At.unzoom (((nth Q27.1 r38.toNat).1), (((nth Q27.1 r38.toNat).2) ++ [Q13.2 + 1])) (((), ()), (a57, c58)) rfl (.cons Del.here (.cons Del.here .nil)) ?_)))))))
      refine At.olen Has.here fun hn => ?_; rw [hn]
      exact nLI (z28.1, z28.2) (hi31 _ (sm H2)) (.cons dl2 (.cons dl2 (.cons Del.here (.cons dl1 .nil))))
    ·refine tExit (xT (xT (xE (?_))))
     obtain rfl := hb32 _ (sm H2)
     exact nMC (z28.1, z28.2) ⟨rfl, rfl, rfl, rfl, rfl, trivial⟩ Ents.refl (.cons Del.here (.cons Del.here (.cons Del.here (.cons Del.here .nil))))
   ·intro y29
    show At _ _ [(2, .pointer (some ⟨g2, 0, none⟩)), (3, .pointer (some ⟨g8, 0, none⟩)), (13, .slice x_v0.1 v0.length x_v0.2), (14, .int .i64 ((v0.length : Int))), (15, .int .i64 (Q13.2))] _ [box g2 35 [.slice none 0 0, .slice none 0 0], tree (.slice x5.1 r3.length x5.2) r3, tree (.slice y29.1 x23.length y29.2) x23, box g8 35 [.slice x5.1 r3.length x5.2, .slice y29.1 x23.length y29.2]] _
    exact nB (nT (Tr.region (gdo H1 fun h61 H1 => (Rg.p (p_add rfl rfl h61) (Rg.m rfl (Rg.nl (nLI (y29.1, y29.2) (hi17 _ (sm H1)) (.cons Del.here (.cons Del.here (.cons Del.here (.cons Del.here .nil)))))))))))
  ·refine tExit (xT (xT (xE (?_))))
   obtain rfl := hb18 _ (sm H1)
   exact nMC (z14.1, z14.2) ⟨rfl, rfl, trivial⟩ Ents.refl (.cons Del.here (.cons Del.here (.cons Del.here (.cons Del.here .nil))))
 ·intro y15
  show At _ _ [(2, .pointer (some ⟨g2, 0, none⟩)), (3, .pointer (some ⟨g8, 0, none⟩))] _ [box g2 35 [.slice none 0 0, .slice none 0 0], tree (.slice x5.1 r3.length x5.2) r3, tree (.slice y15.1 x9.length y15.2) x9, box g8 35 [.slice x5.1 r3.length x5.2, .slice y15.1 x9.length y15.2]] _
  refine nT (sr (Rg.p (p_fabE fa35_1 rfl rfl) (Rg.o (q_ldb ty33 rfl hs3 rfl) (bdo H fun r62 h63 H => (f1 (e_callM (c_slices_SortFunc_Post_Post_indexOf_2 x9 y15 x9.length rfl h63) (Solo.tree Solo.nil) (fun _ => (Solo.tree Solo.nil)) rfl (.cons dl2 .nil) EntsB.nil) fun u64 => (nl (Tr.seq ?_)))))))
  refine Tr.olen Has.here fun hn => ?_; rw [hn]
  refine Tr.region (Rg.o (q_ldbA ty35 rfl hs3 rfl) (stb (cs' := [.slice x5.1 r3.length x5.2, .slice y15.1 r62.length y15.2]) ty35 up1 (nl (tRet ?_))))
  obtain rfl := si H
  exact back1 (x5, y15) rfl (ResV.agg ty35 rfl hs1 rfl) rfl Ents.nil (.cons dl2 (.cons Del.here .nil))
noncomputable def p_slices_Equal_int_int_b0 (v0 : (List Int)) (v1 : (List Int)) (Q6 : Int) : Option ((Int) ⊕ (Unit ⊕ Bool)) := cond (decide (Q6 < (v0.length : Int))) (gd (ix Q6 v0.length) <| gd (ix Q6 v1.length) <| cond (!decide ((nth v0 Q6.toNat) = (nth v1 Q6.toNat))) (some (.inr (.inr false))) (gd (I64 (Q6 + 1)) <| some (.inl (Q6 + 1)))) (some (.inr (.inl ())))
noncomputable def p_slices_Equal_int_int (v0 : (List Int)) (v1 : (List Int)) : Option (Bool) := cond (!decide ((v0.length : Int) = (v1.length : Int))) (some false) (bd (lp (p_slices_Equal_int_int_b0 v0 v1) 0) <| sw (fun _ => some true) (fun q => some q))
theorem c_slices_Equal_int_int {r : Bool} (v0 : (List Int)) (x_v0 : Option Addr × Nat) (v1 : (List Int)) (x_v1 : Option Addr × Nat) (H : p_slices_Equal_int_int v0 v1 = some r) : Fn' Tryz.prog 92 #[.slice x_v0.1 v0.length x_v0.2, .slice x_v1.1 v1.length x_v1.2] [imm (.slice x_v0.1 v0.length x_v0.2) v0, imm (.slice x_v1.1 v1.length x_v1.2) v1] [] (ι := Unit) (fun _ => .bool (r)) (fun _ => []) (fun _ => []) := by
 refine cof (args := [_, _]) Tryz.func92 Tryz.ntmps92 fun c => ?_
 unfold p_slices_Equal_int_int at H
 refine sr (Rg.a (v := .bool (false)) rfl (nl (Tr.seq (sr (Rg.m rfl (Rg.p (p_len 3 Tryz.underlying69 rfl) (Rg.m rfl (Rg.p (p_len 3 Tryz.underlying69 rfl) (Rg.p (p_neq rfl rfl) (nl (cH H rfl (fun h1 H => ?_) (fun h1 H => ?_))))))))))))
 ·refine sr (Rg.a (v := .bool (false)) rfl (nl (tRet (rT (?_)))))
  obtain rfl := si H
  exact bk
 ·refine tSkip (nT (Tr.seq (sr (Rg.m rfl (Rg.p (p_len 3 Tryz.underlying69 rfl) (Rg.m (v := .int .i64 (0)) rfl (nl (bdo H fun x2 hx3 H => (tMidI (Λ := Unit) H (fun _ _ => []) (fun _ _ => []) ?_ ?_)))))))))
  ·refine Tr.block (tLoopI hx3 () (fun Q6 _ => [(0, .slice x_v0.1 v0.length x_v0.2), (1, .slice x_v1.1 v1.length x_v1.2), (12, .int .i64 ((v0.length : Int))), (13, .int .i64 (Q6))]) (fun _ _ => []) Take.nil ?_)
   rintro _ Q6 z7 t9 H1 hi10 hb11
   unfold p_slices_Equal_int_int_b0 at H1
   refine sr (Rg.p (p_lss rfl rfl) (nl (Tr.seq (cH H1 rfl (fun h14 H1 => ?_) (fun h14 H1 => ?_)))))
   ·refine tSkip (nT (Tr.seq (Tr.block (sr (Rg.m rfl (Rg.a rfl (nl (Tr.seq (tLinS [(5, .int .i64 (Q6)), (0, .slice x_v0.1 v0.length x_v0.2), (1, .slice x_v1.1 v1.length x_v1.2), (12, .int .i64 ((v0.length : Int))), (13, .int .i64 (Q6))] Tryz.mixed (.inr (by kernel_rfl)) ⟨rfl, rfl, rfl, rfl, rfl, trivial⟩ rfl (Lin.m rfl (Lin.m rfl ?_)))))))))))
    refine gdo H1 fun h15 H1 => (Lin.o (q_ixg Tryz.underlying69 ty3 rfl rfl h15 rfl (EntB.flat (Ent.b Ent.z))) (Lin.o (q_lde (i := Q6.toNat) (j := 0) ty3 rfl (EntB.flat (Ent.b Ent.z)) h15.lt rfl) (Lin.m rfl (Lin.m rfl (gdo H1 fun h16 H1 => (Lin.o (q_ixg Tryz.underlying69 ty3 rfl rfl h16 rfl (EntB.flat (Ent.b Ent.z.s))) (Lin.o (q_lde (i := Q6.toNat) (j := 0) ty3 rfl (EntB.flat (Ent.b Ent.z.s)) h16.lt rfl) (Lin.p (p_neq rfl rfl) (nT (?_))))))))))
    refine cH H1 rfl (fun h17 H1 => ?_) (fun h17 H1 => ?_)
    ·refine sr (Rg.a (v := .bool (false)) rfl (nl (tRet (rB (rT (rT (rB (rT (rT (?_))))))))))
     obtain rfl := hb11 _ (sm H1)
     replace H := sw.r H
     obtain rfl := si H
     exact bk
    ·exact tSkip (nB (nT (Tr.region (gdo H1 fun h18 H1 => (Rg.p (p_add rfl rfl h18) (Rg.m rfl (Rg.nl (nLI () (hi10 _ (sm H1)) Take.nil))))))))
   ·exact tExit (xT (xT (xE (nMI () (hb11 _ (sm H1)) Take.nil))))
  ·rintro e19 y8 H
   refine nT (sr (Rg.a (v := .bool (true)) rfl (nl ?_)))
   obtain rfl := si H
   exact tRet bk
noncomputable def p_impl_IndexOk_1 (v0 : Post) (v1 : Post) : Option (Bool) := bd (cond (decide (v0.1 = v1.1)) (bd (p_slices_Equal_int_int v0.2 v1.2) fun r6 => some (r6)) (some (false))) fun b3 => some b3
theorem c_impl_IndexOk_1 {r : Bool} (v0 : Post) (x_v0 : (Unit × Unit) × (Option Addr × Nat)) (v1 : Post) (x_v1 : (Unit × Unit) × (Option Addr × Nat)) (H : p_impl_IndexOk_1 v0 v1 = some r) : Fn' Tryz.prog 91 #[.agg #[.string (v0.1.1), .string (v0.1.2), .slice x_v0.2.1 v0.2.length x_v0.2.2], .agg #[.string (v1.1.1), .string (v1.1.2), .slice x_v1.2.1 v1.2.length x_v1.2.2]] [imm (.slice x_v0.2.1 v0.2.length x_v0.2.2) v0.2, imm (.slice x_v1.2.1 v1.2.length x_v1.2.2) v1.2] [] (ι := Unit) (fun _ => .bool (r)) (fun _ => []) (fun _ => []) := by
 refine cof (args := [_, _]) Tryz.func91 Tryz.ntmps91 fun c => ?_
 unfold p_impl_IndexOk_1 at H
 refine sr (f1 (e_box (t := 113) rfl) fun g1 => (f1 (e_box (t := 113) rfl) fun g2 => (Rg.a (v := .bool (false)) rfl (nl (bdo H fun b3 j4 H => (tMid1 [(4, .bool (b3))] ?_ ?_))))))
 ·refine tLinT [(3, .pointer (some ⟨g2, 0, none⟩)), (2, .pointer (some ⟨g1, 0, none⟩))] ⟨rfl, rfl, trivial⟩ (Lin.p (p_fabE fa113_0 rfl rfl) (Lin.o (v := .agg #[.string (v0.1.1), .string (v0.1.2)]) (q_ldbP [.string (v0.1.1), .string (v0.1.2)] ty96 rfl hs1 rfl rfl) (Lin.p (p_fabE fa113_0 rfl rfl) (Lin.o (v := .agg #[.string (v1.1.1), .string (v1.1.2)]) (q_ldbP [.string (v1.1.1), .string (v1.1.2)] ty96 rfl Has.here rfl rfl) (Lin.p (v := .bool (decide (v0.1 = v1.1))) (p_aeql (a := v0.1) (b := v1.1) ae96 rfl rfl rfl rfl) ?_)))))
  rcases Bool.eq_false_or_eq_true (decide (v0.1 = v1.1)) with h5 | h5
  ·have j4 := cdT h5 j4
   refine Lin.e_ (p_move rfl) h5 (Lin.h rfl (p_fabE fa113_1 rfl rfl) (Lin.i rfl (q_ldb ty69 rfl hs1 rfl) (Lin.h rfl (p_fabE fa113_1 rfl rfl) (Lin.i rfl (q_ldb ty69 rfl Has.here rfl) (bdo j4 fun r6 h7 j4 => (Lin.i rfl (q_call (c_slices_Equal_int_int v0.2 x_v0.2 v1.2 x_v1.2 h7) rfl (EntsB.cons (Ent.b Ent.z) (EntsB.cons (Ent.b Ent.z.s) EntsB.nil))) (Lin.p (p_pickT rfl rfl) (Lin.p (p_assign rfl) ?_))))))))
   obtain rfl := si j4
   show At _ _ _ _ _ _
   exact n1 ⟨rfl, trivial⟩
  ·have j4 := cdF h5 j4
   refine Lin.e_ (p_move rfl) h5 ?_
   iterate 5 refine Lin.sk rfl ?_
   refine Lin.p (v := .bool (false)) (p_pickF rfl rfl) (Lin.p (v := .bool (false)) (p_assign rfl) ?_)
   obtain rfl := si j4
   show At _ _ _ _ _ _
   exact n1 ⟨rfl, trivial⟩
 obtain rfl := si H
 exact tRet bk
noncomputable def p_slices_EqualFunc_Post_Post_Post_Post_IndexOk_1_b0 (v0 : (List Post)) (v1 : (List Post)) (Q8 : Int) : Option ((Int) ⊕ (Unit ⊕ Bool)) := cond (decide (Q8 < (v0.length : Int))) (gd (ix Q8 v0.length) <| gd (ix Q8 v1.length) <| bd (p_impl_IndexOk_1 (nth v0 Q8.toNat) (nth v1 Q8.toNat)) fun r21 => cond (!r21) (some (.inr (.inr false))) (gd (I64 (Q8 + 1)) <| some (.inl (Q8 + 1)))) (some (.inr (.inl ())))
noncomputable def p_slices_EqualFunc_Post_Post_Post_Post_IndexOk_1 (v0 : (List Post)) (v1 : (List Post)) : Option (Bool) := cond (!decide ((v0.length : Int) = (v1.length : Int))) (some false) (bd (lp (p_slices_EqualFunc_Post_Post_Post_Post_IndexOk_1_b0 v0 v1) 0) <| sw (fun _ => some true) (fun q => some q))
theorem c_slices_EqualFunc_Post_Post_Post_Post_IndexOk_1 {r : Bool} (v0 : (List Post)) (x_v0 : Option Addr × Nat) (v1 : (List Post)) (x_v1 : Option Addr × Nat) (H : p_slices_EqualFunc_Post_Post_Post_Post_IndexOk_1 v0 v1 = some r) : Fn' Tryz.prog 89 #[.slice x_v0.1 v0.length x_v0.2, .slice x_v1.1 v1.length x_v1.2, .func (.func 91) #[] #[]] [imm (.slice x_v0.1 v0.length x_v0.2) v0, imm (.slice x_v1.1 v1.length x_v1.2) v1] [] (ι := Unit) (fun _ => .bool (r)) (fun _ => []) (fun _ => []) := by
 refine cof (args := [_, _, _]) Tryz.func89 Tryz.ntmps89 fun c => ?_
 unfold p_slices_EqualFunc_Post_Post_Post_Post_IndexOk_1 at H
 refine Tr.openD Ent.z fun X1 => (Tr.openD Ent.z.s.s fun X2 => (sr (Rg.a (v := .bool (false)) rfl (nl (Tr.seq (sr (Rg.m rfl (Rg.p (p_len 113 Tryz.underlying33 rfl) (Rg.m rfl (Rg.p (p_len 113 Tryz.underlying33 rfl) (Rg.p (p_neq rfl rfl) (nl ?_))))))))))))
 refine cH H rfl (fun h3 H => ?_) (fun h3 H => ?_)
 ·refine sr (Rg.a (v := .bool (false)) rfl (nl (tRet (rT (?_)))))
  obtain rfl := si H
  exact bk
 ·refine tSkip (nT (Tr.seq (sr (Rg.m rfl (Rg.p (p_len 113 Tryz.underlying33 rfl) (Rg.m (v := .int .i64 (0)) rfl (nl (bdo H fun x4 hx5 H => (tMidI (Λ := Unit) H (fun _ _ => []) (fun _ _ => []) ?_ ?_)))))))))
  ·refine Tr.block (tLoopI hx5 () (fun Q8 _ => [(1, .slice x_v1.1 v1.length x_v1.2), (2, .func (.func 91) #[] #[]), (15, .slice x_v0.1 v0.length x_v0.2), (16, .int .i64 ((v0.length : Int))), (17, .int .i64 (Q8))]) (fun _ _ => []) Take.nil ?_)
   rintro _ Q8 z9 t11 H1 hi12 hb13
   unfold p_slices_EqualFunc_Post_Post_Post_Post_IndexOk_1_b0 at H1
   refine sr (Rg.p (p_lss rfl rfl) (nl (Tr.seq (cH H1 rfl (fun h16 H1 => ?_) (fun h16 H1 => ?_)))))
   ·refine tSkip (nT (Tr.seq (Tr.block (sr (Rg.m rfl (gdo H1 fun h17 H1 => (Rg.o (q_ixg Tryz.underlying33 ty113 rfl rfl h17 rfl (Ent.b (Ent.darr Ent.z.s))) (Rg.o (v := .agg #[.string (((nth v0 Q8.toNat).1).1), .string (((nth v0 Q8.toNat).1).2), .slice (((X1 Q8.toNat).2).1) (((nth v0 Q8.toNat).2).length) (((X1 Q8.toNat).2).2.1)]) (q_ldeA (i := Q8.toNat) ty113 rfl (Ent.b (Ent.darr Ent.z.s)) h17.lt) (f1 (e_alloc ty113) fun g18 => (Rg.a rfl ?_))))))))))
    refine stb (cs' := [.string (((nth v0 Q8.toNat).1).1), .string (((nth v0 Q8.toNat).1).2), .slice (((X1 Q8.toNat).2).1) (((nth v0 Q8.toNat).2).length) (((X1 Q8.toNat).2).2.1)]) ty113 Upd.here (nl (sr (Rg.m rfl (Rg.m rfl (gdo H1 fun h19 H1 => (Rg.o (q_ixg Tryz.underlying33 ty113 rfl rfl h19 rfl (Ent.b (Ent.darr Ent.z))) (Rg.o (v := .agg #[.string (((nth v1 Q8.toNat).1).1), .string (((nth v1 Q8.toNat).1).2), .slice (((X2 Q8.toNat).2).1) (((nth v1 Q8.toNat).2).length) (((X2 Q8.toNat).2).2.1)]) (q_ldeA (i := Q8.toNat) ty113 rfl (Ent.b (Ent.darr Ent.z)) h19.lt) (f1 (e_alloc ty113) fun g20 => (stb (cs' := [.string (((nth v1 Q8.toNat).1).1), .string (((nth v1 Q8.toNat).1).2), .slice (((X2 Q8.toNat).2).1) (((nth v1 Q8.toNat).2).length) (((X2 Q8.toNat).2).2.1)]) ty113 Upd.here ?_)))))))))
    refine nl (sr (Rg.m rfl (Rg.o (q_ldbA ty113 rfl hs1 rfl) (Rg.o (q_ldbA ty113 rfl Has.here rfl) (bdo H1 fun r21 h22 H1 => (Rg.o (v := .bool (r21)) (Ex.dyn (caps := []) (vs := [.agg #[.string (((nth v0 Q8.toNat).1).1), .string (((nth v0 Q8.toNat).1).2), .slice (((X1 Q8.toNat).2).1) (((nth v0 Q8.toNat).2).length) (((X1 Q8.toNat).2).2.1)], .agg #[.string (((nth v1 Q8.toNat).1).1), .string (((nth v1 Q8.toNat).1).2), .slice (((X2 Q8.toNat).2).1) (((nth v1 Q8.toNat).2).length) (((X2 Q8.toNat).2).2.1)]]) rfl rfl (q_call (c_impl_IndexOk_1 (nth v0 Q8.toNat) (((), ()), (((X1 Q8.toNat).2).1, ((X1 Q8.toNat).2).2.1)) (nth v1 Q8.toNat) (((), ()), (((X2 Q8.toNat).2).1, ((X2 Q8.toNat).2).2.1)) h22) rfl (EntsB.cons (Ent.b (Ent.dimm (Ent.dsnd (Ent.del Ent.z.s h17.lt)))) (EntsB.cons (Ent.b (Ent.dimm (Ent.dsnd (Ent.del Ent.z h19.lt)))) EntsB.nil)))) (Rg.p (p_not rfl) (nl (cH H1 rfl (fun h23 H1 => ?_) (fun h23 H1 => ?_))))))))))
    ·refine sr (Rg.a (v := .bool (false)) rfl (nl (tRet (rB (rT (rT (rB (rT (rT (?_))))))))))
     obtain rfl := hb13 _ (sm H1)
     replace H := sw.r H
     obtain rfl := si H
     exact bk
    ·exact tSkip (nB (nT (Tr.region (gdo H1 fun h24 H1 => (Rg.p (p_add rfl rfl h24) (Rg.m rfl (Rg.nl (nLI () (hi12 _ (sm H1)) Take.nil))))))))
   ·exact tExit (xT (xT (xE (nMI () (hb13 _ (sm H1)) Take.nil))))
  ·rintro e25 y10 H
   refine nT (sr (Rg.a (v := .bool (true)) rfl (nl ?_)))
   obtain rfl := si H
   exact tRet bk
noncomputable def p_impl_IndexOk (v0 : Index) : Option (Bool) := bd (p_impl_namesOk v0.1) fun r4 => cond (r4) (bd (p_impl_indexOf v0.1) fun r7 => bd (p_slices_EqualFunc_Post_Post_Post_Post_IndexOk_1 v0.2 r7.2) fun r10 => some r10) (some false)
theorem c_impl_IndexOk {r : Bool} (v0 : Index) (x_v0 : (Option Addr × Nat) × (Option Addr × Nat)) (H : p_impl_IndexOk v0 = some r) : Fn' Tryz.prog 42 #[.agg #[.slice x_v0.1.1 v0.1.length x_v0.1.2, .slice x_v0.2.1 v0.2.length x_v0.2.2]] [imm (.slice x_v0.1.1 v0.1.length x_v0.1.2) v0.1, imm (.slice x_v0.2.1 v0.2.length x_v0.2.2) v0.2] [] (ι := Unit) (fun _ => .bool (r)) (fun _ => []) (fun _ => []) := by
 refine cof (args := [_]) Tryz.func42 Tryz.ntmps42 fun c => ?_
 unfold p_impl_IndexOk at H
 refine Tr.openD Ent.z fun X1 => (Tr.openD Ent.z.s.s fun X2 => (sr (f1 (e_box (t := 35) rfl) fun g3 => (Rg.a (v := .bool (false)) rfl (nl (Tr.seq (bdo H fun r4 h5 H => ?_)))))))
 rcases Bool.eq_false_or_eq_true (r4) with h6 | h6
 ·have H := cdT h6 H
  refine tNwS [(1, .pointer (some ⟨g3, 0, none⟩))] 2 [0, 1, 2, 3, 4, 5, 6, 7, 8, 9, 10, 11, 12] [8] [] Tryz.mixed (by kernel_rfl) (by decide) List.nodup_nil ⟨rfl, trivial⟩ rfl okNil (w_p rfl (p_fabE fa35_0 rfl rfl) ?_)
  refine w_o rfl (fun F => (q_ldb ty32 rfl (Has.here.app F) rfl)) ?_
  refine w_o rfl (fun F => (q_call (c_impl_namesOk v0.1 x_v0.1 h5) rfl (EntsB.cons (Ent.b (Ent.dimm Ent.z.s)) EntsB.nil))) (w_p (v := .bool (true)) rfl ((Pu.eqv (v := .bool (r4)) (p_move rfl) (congrArg Value.bool h6))) (w_p rfl (p_fabE fa35_1 rfl rfl) ?_))
  refine w_o rfl (fun F => (q_ldb ty33 rfl (Has.here.app F) rfl)) (w_p rfl (p_fabE fa35_0 rfl rfl) ?_)
  refine w_o rfl (fun F => (q_ldb ty32 rfl (Has.here.app F) rfl)) (bdo H fun r7 h8 H => (w_ed rfl (by decide) rfl Rdy.nil rfl (n_callB (c_impl_indexOf v0.1 x_v0.1 h8) (fun _ => (Solo.tree (Solo.tree Solo.nil))) rfl (EntsB.cons (Ent.b (Ent.dimm Ent.z.s)) EntsB.nil)) ?_))
  rintro _ _ _ ⟨x9, rfl, rfl, rfl⟩
  refine ⟨(PdOk.anc (by kernel_rfl) (PdOk.q rfl rfl (fun F => (q_ldb ty33 rfl (hs2.app F) rfl)) (PdOk.anc (by kernel_rfl) (PdOk.q rfl rfl (fun F => (q_ldb ty32 rfl (hs2.app F) rfl)) PdOk.nil)))), ?_⟩
  refine w_p rfl ((p_field1 Tryz.underlying35 rfl ty33 rfl rfl)) (bdo H fun r10 h11 H => ?_)
  refine w_o rfl (fun F => (q_call (c_slices_EqualFunc_Post_Post_Post_Post_IndexOk_1 v0.2 x_v0.2 r7.2 x9.2 h11) rfl (EntsB.cons (Ent.b (Ent.dimm Ent.z)) (EntsB.cons (EntB.tree (hs1.app F)) EntsB.nil)))) (w_p rfl (p_pickT rfl rfl) (w_p rfl (p_assign rfl) (w_nil (nT (?_)))))
  obtain rfl := si H
  exact tRet bk
 ·have H := cdF h6 H
  refine tNwS [(1, .pointer (some ⟨g3, 0, none⟩))] 1 [0, 1, 2, 3, 4, 5, 6, 7, 8, 9, 10, 11, 12] [] [] Tryz.mixed (by kernel_rfl) (by decide) List.nodup_nil ⟨rfl, trivial⟩ rfl okNil (w_p rfl (p_fabE fa35_0 rfl rfl) ?_)
  refine w_o rfl (fun F => (q_ldb ty32 rfl (Has.here.app F) rfl)) ?_
  refine w_o rfl (fun F => (q_call (c_impl_namesOk v0.1 x_v0.1 h5) rfl (EntsB.cons (Ent.b (Ent.dimm Ent.z.s)) EntsB.nil))) (w_p (v := .bool (false)) rfl ((Pu.eqv (v := .bool (r4)) (p_move rfl) (congrArg Value.bool h6))) (w_skip rfl (by decide) rfl rfl rfl (w_skip rfl (by decide) rfl rfl rfl (w_skip rfl (by decide) rfl rfl rfl (w_skip rfl (by decide) rfl rfl rfl (w_skip rfl (by decide) rfl rfl rfl (w_skip rfl (by decide) rfl rfl rfl (w_skip rfl (by decide) rfl rfl rfl (w_p (v := .bool (false)) rfl (p_pickF rfl rfl) ?_)))))))))
  refine w_p (v := .bool (false)) rfl (p_assign rfl) (w_nil (nT (?_)))
  obtain rfl := si H
  exact tRet bk
noncomputable def p_impl_rowOk (v0 : Row) : Option (Bool) := bd (bd (p_impl_within v0.1 0 99) fun r4 => cond (r4) (bd (p_impl_within v0.2 (-99) 99) fun r7 => some (r7)) (some (false))) fun b2 => some b2
theorem c_impl_rowOk {r : Bool} (v0 : Row) (H : p_impl_rowOk v0 = some r) : Fn' Tryz.prog 46 #[.agg #[.int .i64 (v0.1), .int .i64 (v0.2)]] [] [] (ι := Unit) (fun _ => .bool (r)) (fun _ => []) (fun _ => []) := by
 refine cof (args := [_]) Tryz.func46 Tryz.ntmps46 fun c => ?_
 unfold p_impl_rowOk at H
 refine sr (f1 (e_box (t := 58) rfl) fun g1 => (Rg.a (v := .bool (false)) rfl (nl (bdo H fun b2 j3 H => (tMid1 [(2, .bool (b2))] ?_ ?_)))))
 ·refine tLinT [(1, .pointer (some ⟨g1, 0, none⟩))] ⟨rfl, trivial⟩ (Lin.p (p_fabE fa58_0 rfl rfl) (Lin.o (q_ldb ty3 rfl Has.here rfl) (bdo j3 fun r4 h5 j3 => (Lin.o (q_call (c_impl_within v0.1 0 99 h5) rfl EntsB.nil) ?_))))
  rcases Bool.eq_false_or_eq_true (r4) with h6 | h6
  ·have j3 := cdT h6 j3
   refine Lin.e_ (p_move rfl) h6 (Lin.h rfl (p_fabE fa58_1 rfl rfl) (Lin.i rfl (q_ldb ty3 rfl Has.here rfl) (bdo j3 fun r7 h8 j3 => (Lin.i rfl (q_call (c_impl_within v0.2 (-99) 99 h8) rfl EntsB.nil) (Lin.p (p_pickT rfl rfl) (Lin.p (p_assign rfl) ?_))))))
   obtain rfl := si j3
   show At _ _ _ _ _ _
   exact n1 ⟨rfl, trivial⟩
  ·have j3 := cdF h6 j3
   refine Lin.e_ (p_move rfl) h6 ?_
   iterate 3 refine Lin.sk rfl ?_
   refine Lin.p (v := .bool (false)) (p_pickF rfl rfl) (Lin.p (v := .bool (false)) (p_assign rfl) ?_)
   obtain rfl := si j3
   show At _ _ _ _ _ _
   exact n1 ⟨rfl, trivial⟩
 obtain rfl := si H
 exact tRet bk
noncomputable def p_impl_BlockOk_b0 (v0 : (List Row)) (Q5 : Int) : Option ((Int) ⊕ (Unit ⊕ Bool)) := cond (decide (Q5 < (v0.length : Int))) (gd (ix Q5 v0.length) <| bd (bd (p_impl_rowOk (nth v0 Q5.toNat)) fun r18 => cond (!r18) (some (true)) (cond (decide (0 < Q5)) (gd (I64 (Q5 - 1)) <| gd (ix (Q5 - 1) v0.length) <| some (decide (((nth v0 Q5.toNat).1) ≤ ((nth v0 ((Q5 - 1).toNat)).1)))) (some (false)))) fun b16 => cond (b16) (some (.inr (.inr false))) (gd (I64 (Q5 + 1)) <| some (.inl (Q5 + 1)))) (some (.inr (.inl ())))
noncomputable def p_impl_BlockOk (v0 : (List Row)) : Option (Bool) := bd (lp (p_impl_BlockOk_b0 v0) 0) <| sw (fun _ => some (decide ((v0.length : Int) ≤ 24))) (fun q => some q)
theorem c_impl_BlockOk {r : Bool} (v0 : (List Row)) (x_v0 : Option Addr × Nat) (H : p_impl_BlockOk v0 = some r) : Fn' Tryz.prog 93 #[.slice x_v0.1 v0.length x_v0.2] [imm (.slice x_v0.1 v0.length x_v0.2) v0] [] (ι := Unit) (fun _ => .bool (r)) (fun _ => []) (fun _ => []) := by
 refine cof (args := [_]) Tryz.func93 Tryz.ntmps93 fun c => ?_
 unfold p_impl_BlockOk at H
 refine sr (Rg.a (v := .bool (false)) rfl (nl (Tr.seq (sr (Rg.m rfl (Rg.p (p_len 58 Tryz.underlying43 rfl) (Rg.m (v := .int .i64 (0)) rfl (nl (bdo H fun x1 hx2 H => (tMidI (Λ := Unit) H (fun _ _ => [(0, .slice x_v0.1 v0.length x_v0.2)]) (fun _ _ => []) ?_ ?_))))))))))
 ·refine Tr.block (tLoopI hx2 () (fun Q5 _ => [(0, .slice x_v0.1 v0.length x_v0.2), (5, .slice x_v0.1 v0.length x_v0.2), (6, .int .i64 ((v0.length : Int))), (7, .int .i64 (Q5))]) (fun _ _ => []) Take.nil ?_)
  rintro _ Q5 z6 t8 H1 hi9 hb10
  unfold p_impl_BlockOk_b0 at H1
  refine sr (Rg.p (p_lss rfl rfl) (nl (Tr.seq (cH H1 rfl (fun h13 H1 => ?_) (fun h13 H1 => ?_)))))
  ·refine tSkip (nT (Tr.seq (Tr.block (sr (Rg.m rfl (gdo H1 fun h14 H1 => (Rg.o (q_ixg Tryz.underlying43 ty58 rfl rfl h14 rfl (EntB.flat (Ent.b Ent.z))) (Rg.o (v := .agg #[.int .i64 ((nth v0 Q5.toNat).1), .int .i64 ((nth v0 Q5.toNat).2)]) (q_ldeA (i := Q5.toNat) ty58 rfl (EntB.flat (Ent.b Ent.z)) h14.lt) (f1 (e_alloc ty58) fun g15 => (Rg.a rfl ?_))))))))))
   refine stb (cs' := [.int .i64 ((nth v0 Q5.toNat).1), .int .i64 ((nth v0 Q5.toNat).2)]) ty58 Upd.here (nl (bdo H1 fun b16 j17 H1 => (tMid1 [(29, .bool (b16)), (0, .slice x_v0.1 v0.length x_v0.2), (5, .slice x_v0.1 v0.length x_v0.2), (6, .int .i64 ((v0.length : Int))), (7, .int .i64 (Q5))] ?_ ?_)))
   ·refine tLinS [(3, .int .i64 (Q5)), (4, .pointer (some ⟨g15, 0, none⟩)), (0, .slice x_v0.1 v0.length x_v0.2), (5, .slice x_v0.1 v0.length x_v0.2), (6, .int .i64 ((v0.length : Int))), (7, .int .i64 (Q5))] Tryz.mixed (.inr (by kernel_rfl)) ⟨rfl, rfl, rfl, rfl, rfl, rfl, trivial⟩ rfl (Lin.o (q_ldbA ty58 rfl Has.here rfl) (bdo j17 fun r18 h19 j17 => (Lin.o (q_call (c_impl_rowOk (nth v0 Q5.toNat) h19) rfl EntsB.nil) (Lin.p (p_not rfl) ?_))))
    rcases Bool.eq_false_or_eq_true (!r18) with h20 | h20
    ·have j17 := cdT h20 j17
     refine Lin.e_ (p_move rfl) h20 ?_
     iterate 13 refine Lin.sk rfl ?_
     refine Lin.p (v := .bool (true)) (p_pickT rfl rfl) ?_
     obtain rfl := si j17
     show At _ _ _ _ _ _
     exact n1 ⟨rfl, rfl, rfl, rfl, rfl, trivial⟩
    ·have j17 := cdF h20 j17
     refine Lin.e_ (p_move rfl) h20 (Lin.h rfl (p_move rfl) (Lin.h rfl (p_gtr rfl rfl) ?_))
     rcases Bool.eq_false_or_eq_true (decide (0 < Q5)) with h21 | h21
     ·have j17 := cdT h21 j17
      refine Lin.f_ rfl (p_move rfl) h21 (Lin.h rfl (p_move rfl) (Lin.h rfl (p_move rfl) (gdo j17 fun h22 j17 => (Lin.h rfl (p_sub rfl rfl h22) (gdo j17 fun h23 j17 => (Lin.i rfl (q_ixg Tryz.underlying43 ty58 rfl rfl h23 rfl (EntB.flat (Ent.b Ent.z))) (Lin.i rfl (q_faeE (j := 0) ((Q5 - 1).toNat) fa58_0 rfl (EntB.flat (Ent.b Ent.z)) h23.lt rfl) (Lin.i rfl (q_lde (i := (Q5 - 1).toNat) (j := 0) ty3 rfl (EntB.flat (Ent.b Ent.z)) h23.lt rfl) (Lin.h rfl (p_fabE fa58_0 rfl rfl) ?_)))))))))
      refine Lin.i rfl (q_ldb ty3 rfl Has.here rfl) (Lin.h rfl (p_geq rfl rfl) (Lin.h rfl (p_pickT rfl rfl) (Lin.p (p_pickF rfl rfl) ?_)))
      obtain rfl := si j17
      show At _ _ _ _ _ _
      exact n1 ⟨rfl, rfl, rfl, rfl, rfl, trivial⟩
     ·have j17 := cdF h21 j17
      refine Lin.f_ rfl (p_move rfl) h21 ?_
      iterate 9 refine Lin.sk rfl ?_
      refine Lin.h (v := .bool (false)) rfl (p_pickF rfl rfl) (Lin.p (v := .bool (false)) (p_pickF rfl rfl) ?_)
      obtain rfl := si j17
      show At _ _ _ _ _ _
      exact n1 ⟨rfl, rfl, rfl, rfl, rfl, trivial⟩
   refine cH H1 rfl (fun h24 H1 => ?_) (fun h24 H1 => ?_)
   ·refine sr (Rg.a (v := .bool (false)) rfl (nl (tRet (rB (rT (rT (rB (rT (rT (?_))))))))))
    obtain rfl := hb10 _ (sm H1)
    replace H := sw.r H
    obtain rfl := si H
    exact bk
   ·exact tSkip (nB (nT (Tr.region (gdo H1 fun h25 H1 => (Rg.p (p_add rfl rfl h25) (Rg.m rfl (Rg.nl (nLI () (hi9 _ (sm H1)) Take.nil))))))))
  ·exact tExit (xT (xT (xE (nMI () (hb10 _ (sm H1)) Take.nil))))
 ·rintro e26 y7 H
  refine nT (sr (Rg.m rfl (Rg.p (p_len 58 Tryz.underlying43 rfl) (Rg.p (p_leq rfl rfl) (Rg.a rfl (nl ?_))))))
  obtain rfl := si H
  exact tRet bk
noncomputable def p_impl_PartOk_b0 (v0 : Part) (Q8 : Int) : Option ((Int) ⊕ (Unit ⊕ Bool)) := cond (decide (Q8 < (v0.1.length : Int))) (gd (ix Q8 v0.1.length) <| bd (bd (p_impl_within (nth v0.1 Q8.toNat) 1 6) fun r20 => cond (!r20) (some (true)) (cond (decide (0 < Q8)) (gd (I64 (Q8 - 1)) <| gd (ix (Q8 - 1) v0.1.length) <| cond (decide ((nth v0.1 Q8.toNat) ≤ (nth v0.1 ((Q8 - 1).toNat)))) (some (true)) (gd (ix Q8 v0.2.length) <| bd (p_impl_BlockOk (nth v0.2 Q8.toNat)) fun r28 => cond (!r28) (some (true)) (some (decide (((nth v0.2 Q8.toNat).length : Int) = 0))))) (gd (ix Q8 v0.2.length) <| bd (p_impl_BlockOk (nth v0.2 Q8.toNat)) fun r32 => cond (!r32) (some (true)) (some (decide (((nth v0.2 Q8.toNat).length : Int) = 0)))))) fun b18 => cond (b18) (some (.inr (.inr false))) (gd (I64 (Q8 + 1)) <| some (.inl (Q8 + 1)))) (some (.inr (.inl ())))
noncomputable def p_impl_PartOk (v0 : Part) : Option (Bool) := cond (!decide ((v0.1.length : Int) = (v0.2.length : Int))) (some false) (bd (lp (p_impl_PartOk_b0 v0) 0) <| sw (fun _ => some true) (fun q => some q))
theorem c_impl_PartOk {r : Bool} (v0 : Part) (x_v0 : (Option Addr × Nat) × (Option Addr × Nat)) (H : p_impl_PartOk v0 = some r) : Fn' Tryz.prog 43 #[.agg #[.slice x_v0.1.1 v0.1.length x_v0.1.2, .slice x_v0.2.1 v0.2.length x_v0.2.2]] [imm (.slice x_v0.1.1 v0.1.length x_v0.1.2) v0.1, imm (.slice x_v0.2.1 v0.2.length x_v0.2.2) v0.2] [] (ι := Unit) (fun _ => .bool (r)) (fun _ => []) (fun _ => []) := by
 refine cof (args := [_]) Tryz.func43 Tryz.ntmps43 fun c => ?_
 unfold p_impl_PartOk at H
 refine Tr.openD Ent.z.s fun X1 => (sr (f1 (e_box (t := 72) rfl) fun g2 => (Rg.a (v := .bool (false)) rfl (nl (Tr.seq (sr (Rg.p (p_fabE fa72_0 rfl rfl) (Rg.o (q_ldb ty69 rfl Has.here rfl) (Rg.p (p_len 3 Tryz.underlying69 rfl) (Rg.p (p_fabE fa72_1 rfl rfl) (Rg.o (q_ldb ty70 rfl Has.here rfl) ?_)))))))))))
 refine Rg.p (p_len 43 Tryz.underlying70 rfl) (Rg.p (p_neq rfl rfl) (nl (cH H rfl (fun h3 H => ?_) (fun h3 H => ?_))))
 ·refine sr (Rg.a (v := .bool (false)) rfl (nl (tRet (rT (?_)))))
  obtain rfl := si H
  exact bk
 ·refine tSkip (nT (Tr.seq (sr (Rg.p (p_fabE fa72_0 rfl rfl) (Rg.o (q_ldb ty69 rfl Has.here rfl) (Rg.p (p_len 3 Tryz.underlying69 rfl) (Rg.m (v := .int .i64 (0)) rfl (nl (bdo H fun x4 hx5 H => (tMidI (Λ := Unit) H (fun _ _ => []) (fun _ _ => []) ?_ ?_))))))))))
  ·refine Tr.block (tLoopI hx5 () (fun Q8 _ => [(1, .pointer (some ⟨g2, 0, none⟩)), (13, .slice x_v0.1.1 v0.1.length x_v0.1.2), (14, .int .i64 ((v0.1.length : Int))), (15, .int .i64 (Q8))]) (fun _ _ => [box g2 72 [.slice x_v0.1.1 v0.1.length x_v0.1.2, .slice x_v0.2.1 v0.2.length x_v0.2.2]]) (.cons Del.here .nil) ?_)
   rintro _ Q8 z9 t11 H1 hi12 hb13
   unfold p_impl_PartOk_b0 at H1
   refine sr (Rg.p (p_lss rfl rfl) (nl (Tr.seq (cH H1 rfl (fun h16 H1 => ?_) (fun h16 H1 => ?_)))))
   ·refine tSkip (nT (Tr.seq (Tr.block (sr (Rg.m rfl (gdo H1 fun h17 H1 => (Rg.o (q_ixg Tryz.underlying69 ty3 rfl rfl h17 rfl (EntB.flat (Ent.b Ent.z.s))) (Rg.o (q_lde (i := Q8.toNat) (j := 0) ty3 rfl (EntB.flat (Ent.b Ent.z.s)) h17.lt rfl) (Rg.a rfl (Rg.a rfl (nl ?_)))))))))))
    refine bdo H1 fun b18 j19 H1 => (tMid1 [(54, .bool (b18)), (1, .pointer (some ⟨g2, 0, none⟩)), (13, .slice x_v0.1.1 v0.1.length x_v0.1.2), (14, .int .i64 ((v0.1.length : Int))), (15, .int .i64 (Q8))] ?_ ?_)
    ·refine tLinT [(4, .int .i64 (nth v0.1 Q8.toNat)), (3, .int .i64 (Q8)), (1, .pointer (some ⟨g2, 0, none⟩)), (13, .slice x_v0.1.1 v0.1.length x_v0.1.2), (14, .int .i64 ((v0.1.length : Int))), (15, .int .i64 (Q8))] ⟨rfl, rfl, rfl, rfl, rfl, rfl, trivial⟩ (Lin.m rfl (bdo j19 fun r20 h21 j19 => (Lin.o (q_call (c_impl_within (nth v0.1 Q8.toNat) 1 6 h21) rfl EntsB.nil) (Lin.p (p_not rfl) ?_))))
     rcases Bool.eq_false_or_eq_true (!r20) with h22 | h22
     ·have j19 := cdT h22 j19
      refine Lin.e_ (p_move rfl) h22 ?_
      iterate 12 refine Lin.sk rfl ?_
      refine Lin.p (v := .bool (true)) (p_pickT rfl rfl) (Lin.m (v := .bool (true)) rfl ?_)
      iterate 7 refine Lin.sk rfl ?_
      refine Lin.p (v := .bool (true)) (p_pickT rfl rfl) (Lin.m (v := .bool (true)) rfl ?_)
      iterate 7 refine Lin.sk rfl ?_
      refine Lin.p (v := .bool (true)) (p_pickT rfl rfl) ?_
      obtain rfl := si j19
      show At _ _ _ _ _ _
      exact n1 ⟨rfl, rfl, rfl, rfl, rfl, trivial⟩
     ·have j19 := cdF h22 j19
      refine Lin.e_ (p_move rfl) h22 (Lin.h rfl (p_move rfl) (Lin.h rfl (p_gtr rfl rfl) ?_))
      rcases Bool.eq_false_or_eq_true (decide (0 < Q8)) with h23 | h23
      ·have j19 := cdT h23 j19
       refine Lin.f_ rfl (p_move rfl) h23 (Lin.h rfl (p_fabE fa72_0 rfl rfl) (Lin.i rfl (q_ldb ty69 rfl Has.here rfl) (Lin.h rfl (p_move rfl) (gdo j19 fun h24 j19 => (Lin.h rfl (p_sub rfl rfl h24) (gdo j19 fun h25 j19 => (Lin.i rfl (q_ixg Tryz.underlying69 ty3 rfl rfl h25 rfl (EntB.flat (Ent.b Ent.z.s))) (Lin.i rfl (q_lde (i := (Q8 - 1).toNat) (j := 0) ty3 rfl (EntB.flat (Ent.b Ent.z.s)) h25.lt rfl) (Lin.h rfl (p_move rfl) ?_)))))))))
       refine Lin.h rfl (p_geq rfl rfl) (Lin.h rfl (p_pickT rfl rfl) (Lin.p (p_pickF rfl rfl) ?_))
       rcases Bool.eq_false_or_eq_true (decide ((nth v0.1 Q8.toNat) ≤ (nth v0.1 ((Q8 - 1).toNat)))) with h26 | h26
       ·have j19 := cdT h26 j19
        refine Lin.e_ (p_move rfl) h26 ?_
        iterate 7 refine Lin.sk rfl ?_
        refine Lin.p (v := .bool (true)) (p_pickT rfl rfl) (Lin.m (v := .bool (true)) rfl ?_)
        iterate 7 refine Lin.sk rfl ?_
        refine Lin.p (v := .bool (true)) (p_pickT rfl rfl) ?_
        obtain rfl := si j19
        show At _ _ _ _ _ _
        exact n1 ⟨rfl, rfl, rfl, rfl, rfl, trivial⟩
       ·have j19 := cdF h26 j19
        refine Lin.e_ (p_move rfl) h26 (Lin.h rfl (p_fabE fa72_1 rfl rfl) (Lin.i rfl (q_ldb ty70 rfl Has.here rfl) (Lin.h rfl (p_move rfl) (gdo j19 fun h27 j19 => (Lin.i rfl (q_ixg Tryz.underlying70 ty43 rfl rfl h27 rfl (Ent.b (Ent.darr Ent.z))) (Lin.i rfl (q_lde (i := Q8.toNat) (j := 0) ty43 rfl (Ent.b (Ent.darr Ent.z)) h27.lt rfl) (bdo j19 fun r28 h29 j19 => (Lin.i rfl (q_call (c_impl_BlockOk (nth v0.2 Q8.toNat) ((X1 Q8.toNat).1, (X1 Q8.toNat).2.1) h29) rfl (EntsB.cons (Ent.b (Ent.dimm (Ent.del Ent.z h27.lt))) EntsB.nil)) (Lin.h rfl (p_not rfl) ?_)))))))))
        refine Lin.p (p_pickF rfl rfl) ?_
        rcases Bool.eq_false_or_eq_true (!r28) with h30 | h30
        ·have j19 := cdT h30 j19
         refine Lin.e_ (p_move rfl) h30 ?_
         iterate 7 refine Lin.sk rfl ?_
         refine Lin.p (v := .bool (true)) (p_pickT rfl rfl) ?_
         obtain rfl := si j19
         show At _ _ _ _ _ _
         exact n1 ⟨rfl, rfl, rfl, rfl, rfl, trivial⟩
        ·have j19 := cdF h30 j19
         refine Lin.e_ (p_move rfl) h30 (Lin.h rfl (p_fabE fa72_1 rfl rfl) (Lin.i rfl (q_ldb ty70 rfl Has.here rfl) (Lin.h rfl (p_move rfl) (Lin.i rfl (q_ixg Tryz.underlying70 ty43 rfl rfl h27 rfl (Ent.b (Ent.darr Ent.z))) (Lin.i rfl (q_lde (i := Q8.toNat) (j := 0) ty43 rfl (Ent.b (Ent.darr Ent.z)) h27.lt rfl) (Lin.h rfl (p_len 58 Tryz.underlying43 rfl) (Lin.h rfl (p_eql rfl rfl) (Lin.p (p_pickF rfl rfl) ?_))))))))
         obtain rfl := si j19
         show At _ _ _ _ _ _
         exact n1 ⟨rfl, rfl, rfl, rfl, rfl, trivial⟩
      ·have j19 := cdF h23 j19
       refine Lin.f_ rfl (p_move rfl) h23 ?_
       iterate 8 refine Lin.sk rfl ?_
       refine Lin.h (v := .bool (false)) rfl (p_pickF rfl rfl) (Lin.p (v := .bool (false)) (p_pickF rfl rfl) (Lin.m (v := .bool (false)) rfl (Lin.h rfl (p_fabE fa72_1 rfl rfl) (Lin.i rfl (q_ldb ty70 rfl Has.here rfl) (Lin.h rfl (p_move rfl) (gdo j19 fun h31 j19 => (Lin.i rfl (q_ixg Tryz.underlying70 ty43 rfl rfl h31 rfl (Ent.b (Ent.darr Ent.z))) (Lin.i rfl (q_lde (i := Q8.toNat) (j := 0) ty43 rfl (Ent.b (Ent.darr Ent.z)) h31.lt rfl) (bdo j19 fun r32 h33 j19 => ?_)))))))))
       refine Lin.i rfl (q_call (c_impl_BlockOk (nth v0.2 Q8.toNat) ((X1 Q8.toNat).1, (X1 Q8.toNat).2.1) h33) rfl (EntsB.cons (Ent.b (Ent.dimm (Ent.del Ent.z h31.lt))) EntsB.nil)) (Lin.h rfl (p_not rfl) (Lin.p (p_pickF rfl rfl) ?_))
       rcases Bool.eq_false_or_eq_true (!r32) with h34 | h34
       ·have j19 := cdT h34 j19
        refine Lin.e_ (p_move rfl) h34 ?_
        iterate 7 refine Lin.sk rfl ?_
        refine Lin.p (v := .bool (true)) (p_pickT rfl rfl) ?_
        obtain rfl := si j19
        show At _ _ _ _ _ _
        exact n1 ⟨rfl, rfl, rfl, rfl, rfl, trivial⟩
       ·have j19 := cdF h34 j19
        refine Lin.e_ (p_move rfl) h34 (Lin.h rfl (p_fabE fa72_1 rfl rfl) (Lin.i rfl (q_ldb ty70 rfl Has.here rfl) (Lin.h rfl (p_move rfl) (Lin.i rfl (q_ixg Tryz.underlying70 ty43 rfl rfl h31 rfl (Ent.b (Ent.darr Ent.z))) (Lin.i rfl (q_lde (i := Q8.toNat) (j := 0) ty43 rfl (Ent.b (Ent.darr Ent.z)) h31.lt rfl) (Lin.h rfl (p_len 58 Tryz.underlying43 rfl) (Lin.h rfl (p_eql rfl rfl) (Lin.p (p_pickF rfl rfl) ?_))))))))
        obtain rfl := si j19
        show At _ _ _ _ _ _
        exact n1 ⟨rfl, rfl, rfl, rfl, rfl, trivial⟩
    refine cH H1 rfl (fun h35 H1 => ?_) (fun h35 H1 => ?_)
    ·refine sr (Rg.a (v := .bool (false)) rfl (nl (tRet (rB (rT (rT (rB (rT (rT (?_))))))))))
     obtain rfl := hb13 _ (sm H1)
     replace H := sw.r H
     obtain rfl := si H
     exact bk
    ·exact tSkip (nB (nT (Tr.region (gdo H1 fun h36 H1 => (Rg.p (p_add rfl rfl h36) (Rg.m rfl (Rg.nl (nLI () (hi12 _ (sm H1)) (.cons Del.here .nil)))))))))
   ·exact tExit (xT (xT (xE (nMI () (hb13 _ (sm H1)) Take.nil))))
  ·rintro e37 y10 H
   refine nT (sr (Rg.a (v := .bool (true)) rfl (nl ?_)))
   obtain rfl := si H
   exact tRet bk
noncomputable def p_slices_Max_int_int_b0 (v0 : (List Int)) (Q7 : Int × Int) : Option ((Int × Int) ⊕ (Int)) := cond (decide (Q7.2 < (v0.length : Int))) (gd (ix Q7.2 v0.length) <| gd (I64 (Q7.2 + 1)) <| some (.inl (max Q7.1 (nth v0 Q7.2.toNat), Q7.2 + 1))) (some (.inr Q7.1))
noncomputable def p_slices_Max_int_int (v0 : (List Int)) : Option (Int) := cond (decide ((v0.length : Int) < 1)) (none) (gd (ix 0 v0.length) <| bd (lp (p_slices_Max_int_int_b0 v0) (nth v0 0, 1)) fun x3 => some x3)
theorem c_slices_Max_int_int {r : Int} (v0 : (List Int)) (x_v0 : Option Addr × Nat) (H : p_slices_Max_int_int v0 = some r) : Fn' Tryz.prog 44 #[.slice x_v0.1 v0.length x_v0.2] [imm (.slice x_v0.1 v0.length x_v0.2) v0] [] (ι := Unit) (fun _ => .int .i64 (r)) (fun _ => []) (fun _ => []) := by
 refine cof (args := [_]) Tryz.func44 Tryz.ntmps44 fun c => ?_
 unfold p_slices_Max_int_int at H
 refine sr (Rg.a (v := .int .i64 (0)) rfl (nl (Tr.seq (sr (Rg.m rfl (Rg.p (p_len 3 Tryz.underlying69 rfl) (Rg.p (p_lss rfl rfl) (nl (cH H rfl (fun h1 H => ?_) (fun h1 H => ?_))))))))))
 ·exact nomatch H
 ·refine tSkip (nT (sr (Rg.m rfl (gdo H fun h2 H => (Rg.o (q_ixg Tryz.underlying69 ty3 rfl rfl h2 rfl (EntB.flat (Ent.b Ent.z))) (Rg.o (q_lde (i := 0) (j := 0) ty3 rfl (EntB.flat (Ent.b Ent.z)) h2.lt rfl) (Rg.a rfl (nl (Tr.seq (sr (Rg.a (v := .int .i64 (1)) rfl (nl ?_))))))))))))
  refine bdo H fun x3 hx4 H => (tMidNC (ι := Unit) (fun ψ => [(3, .int .i64 (x3))]) (fun ψ => []) ?_ ?_)
  ·refine Tr.block (tLoopI hx4 () (fun Q7 _ => [(0, .slice x_v0.1 v0.length x_v0.2), (3, .int .i64 (Q7.1)), (4, .int .i64 (Q7.2))]) (fun _ _ => []) Take.nil ?_)
   rintro _ Q7 z8 t10 H1 hi11 hb12
   unfold p_slices_Max_int_int_b0 at H1
   refine Tr.seq (sr (Rg.m rfl (Rg.m rfl (Rg.p (p_len 3 Tryz.underlying69 rfl) (Rg.p (p_lss rfl rfl) (nl (cH H1 rfl (fun h15 H1 => ?_) (fun h15 H1 => ?_))))))))
   ·refine tSkip (nT (Tr.seq (Tr.block (Tr.region (Rg.m rfl (Rg.m rfl (Rg.m rfl (gdo H1 fun h16 H1 => (Rg.o (q_ixg Tryz.underlying69 ty3 rfl rfl h16 rfl (EntB.flat (Ent.b Ent.z))) (Rg.o (q_lde (i := Q7.2.toNat) (j := 0) ty3 rfl (EntB.flat (Ent.b Ent.z)) h16.lt rfl) ?_))))))))))
    exact Rg.p (v := .int .i64 (max Q7.1 (nth v0 Q7.2.toNat))) (p_max rfl rfl) (Rg.a rfl (Rg.nl (nB (nT (Tr.region (Rg.m rfl (gdo H1 fun h17 H1 => (Rg.p (p_add rfl rfl h17) (Rg.a rfl (Rg.nl (nLI () (hi11 _ (sm H1)) Take.nil)))))))))))
   ·refine tExit (xT (xT (xE (?_))))
    obtain rfl := hb12 _ (sm H1)
    exact nMC () ⟨rfl, trivial⟩ Ents.refl Take.nil
  ·intro y9
   show At _ _ [(3, .int .i64 (x3))] _ [] _
   refine nT (sr (Rg.m rfl (Rg.a rfl (nl ?_))))
   obtain rfl := si H
   exact tRet bk
noncomputable def p_slices_Index_int_int_b0 (v0 : (List Int)) (v1 : Int) (Q5 : Int) : Option ((Int) ⊕ (Unit ⊕ Int)) := cond (decide (Q5 < (v0.length : Int))) (gd (ix Q5 v0.length) <| cond (decide (v1 = (nth v0 Q5.toNat))) (some (.inr (.inr Q5))) (gd (I64 (Q5 + 1)) <| some (.inl (Q5 + 1)))) (some (.inr (.inl ())))
noncomputable def p_slices_Index_int_int (v0 : (List Int)) (v1 : Int) : Option (Int) := bd (lp (p_slices_Index_int_int_b0 v0 v1) 0) <| sw (fun _ => some (-1)) (fun q => some q)
theorem c_slices_Index_int_int {r : Int} (v0 : (List Int)) (x_v0 : Option Addr × Nat) (v1 : Int) (H : p_slices_Index_int_int v0 v1 = some r) : Fn' Tryz.prog 132 #[.slice x_v0.1 v0.length x_v0.2, .int .i64 (v1)] [imm (.slice x_v0.1 v0.length x_v0.2) v0] [] (ι := Unit) (fun _ => .int .i64 (r)) (fun _ => []) (fun _ => []) := by
 refine cof (args := [_, _]) Tryz.func132 Tryz.ntmps132 fun c => ?_
 unfold p_slices_Index_int_int at H
 refine sr (Rg.a (v := .int .i64 (0)) rfl (nl (Tr.seq (sr (Rg.m rfl (Rg.p (p_len 3 Tryz.underlying69 rfl) (Rg.m (v := .int .i64 (0)) rfl (nl (bdo H fun x1 hx2 H => (tMidI (Λ := Unit) H (fun _ _ => []) (fun _ _ => []) ?_ ?_))))))))))
 ·refine Tr.block (tLoopI hx2 () (fun Q5 _ => [(0, .slice x_v0.1 v0.length x_v0.2), (1, .int .i64 (v1)), (7, .int .i64 ((v0.length : Int))), (8, .int .i64 (Q5))]) (fun _ _ => []) Take.nil ?_)
  rintro _ Q5 z6 t8 H1 hi9 hb10
  unfold p_slices_Index_int_int_b0 at H1
  refine sr (Rg.p (p_lss rfl rfl) (nl (Tr.seq (cH H1 rfl (fun h13 H1 => ?_) (fun h13 H1 => ?_)))))
  ·refine tSkip (nT (Tr.seq (Tr.block (sr (Rg.m rfl (Rg.a rfl (nl (sr (Rg.m rfl (Rg.m rfl (Rg.m rfl ?_)))))))))))
   refine gdo H1 fun h14 H1 => (Rg.o (q_ixg Tryz.underlying69 ty3 rfl rfl h14 rfl (EntB.flat (Ent.b Ent.z))) (Rg.o (q_lde (i := Q5.toNat) (j := 0) ty3 rfl (EntB.flat (Ent.b Ent.z)) h14.lt rfl) (Rg.p (p_eql rfl rfl) (nl (cH H1 rfl (fun h15 H1 => ?_) (fun h15 H1 => ?_))))))
   ·refine sr (Rg.m rfl (Rg.a rfl (nl (tRet (rB (rT (rT (rB (rT (rT (?_)))))))))))
    obtain rfl := hb10 _ (sm H1)
    replace H := sw.r H
    obtain rfl := si H
    exact bk
   ·exact tSkip (nB (nT (Tr.region (gdo H1 fun h16 H1 => (Rg.p (p_add rfl rfl h16) (Rg.m rfl (Rg.nl (nLI () (hi9 _ (sm H1)) Take.nil))))))))
  ·exact tExit (xT (xT (xE (nMI () (hb10 _ (sm H1)) Take.nil))))
 ·rintro e17 y7 H
  refine nT (sr (Rg.a (v := .int .i64 (-1)) rfl (nl ?_)))
  obtain rfl := si H
  exact tRet bk
noncomputable def p_impl_PartOf (v0 : Part) (v1 : Int) : Option ((List Row)) := bd (p_slices_Index_int_int v0.1 v1) fun r3 => bd (bd (p_impl_PartOk v0) fun r7 => cond (!r7) (some (true)) (some (decide (r3 < 0)))) fun b5 => cond (b5) (some ([] : List Row)) (gd (ix r3 v0.2.length) <| gd (room (([] : List Row).length + (nth v0.2 r3.toNat).length)) <| some (([] : List Row) ++ (nth v0.2 r3.toNat)))
theorem c_impl_PartOf {r : (List Row)} (v0 : Part) (x_v0 : (Option Addr × Nat) × (Option Addr × Nat)) (v1 : Int) (H : p_impl_PartOf v0 v1 = some r) : Fn' Tryz.prog 94 #[.agg #[.slice x_v0.1.1 v0.1.length x_v0.1.2, .slice x_v0.2.1 v0.2.length x_v0.2.2], .int .i64 (v1)] [imm (.slice x_v0.1.1 v0.1.length x_v0.1.2) v0.1, imm (.slice x_v0.2.1 v0.2.length x_v0.2.2) v0.2] [] (ι := Option Addr × Nat) (fun x => .slice x.1 r.length x.2) (fun _ => []) (fun x => [tree (.slice x.1 r.length x.2) r]) := by
 refine cof (args := [_, _]) Tryz.func94 Tryz.ntmps94 fun c => ?_
 unfold p_impl_PartOf at H
 refine Tr.openD Ent.z.s fun X1 => (sr (f1 (e_box (t := 72) rfl) fun g2 => (Rg.a (v := .slice none 0 0) rfl (nl (sr (Rg.p (p_fabE fa72_0 rfl rfl) (Rg.o (q_ldb ty69 rfl Has.here rfl) (Rg.m rfl (bdo H fun r3 h4 H => (Rg.o (q_call (c_slices_Index_int_int v0.1 x_v0.1 v1 h4) rfl (EntsB.cons (Ent.b Ent.z.s) EntsB.nil)) ?_))))))))))
 refine Rg.a rfl (nl (Tr.seq (bdo H fun b5 j6 H => (tMid1 [(16, .bool (b5)), (5, .int .i64 (r3)), (2, .pointer (some ⟨g2, 0, none⟩))] ?_ ?_))))
 ·refine tLinT [(5, .int .i64 (r3)), (2, .pointer (some ⟨g2, 0, none⟩))] ⟨rfl, rfl, trivial⟩ (Lin.o (q_ldbA ty72 rfl Has.here rfl) (bdo j6 fun r7 h8 j6 => (Lin.o (q_call (c_impl_PartOk v0 x_v0 h8) rfl (EntsB.cons (Ent.b Ent.z.s) (EntsB.cons (Ent.b (Ent.dimm Ent.z)) EntsB.nil))) (Lin.p (p_not rfl) ?_))))
  rcases Bool.eq_false_or_eq_true (!r7) with h9 | h9
  ·have j6 := cdT h9 j6
   refine Lin.e_ (p_move rfl) h9 ?_
   iterate 2 refine Lin.sk rfl ?_
   refine Lin.p (v := .bool (true)) (p_pickT rfl rfl) ?_
   obtain rfl := si j6
   show At _ _ _ _ _ _
   exact n1 ⟨rfl, rfl, rfl, trivial⟩
  ·have j6 := cdF h9 j6
   refine Lin.e_ (p_move rfl) h9 (Lin.h rfl (p_move rfl) (Lin.h rfl (p_lss rfl rfl) (Lin.p (p_pickF rfl rfl) ?_)))
   obtain rfl := si j6
   show At _ _ _ _ _ _
   exact n1 ⟨rfl, rfl, rfl, trivial⟩
 refine cH H rfl (fun h10 H => ?_) (fun h10 H => ?_)
 ·refine sr (f2 (e_lit0 Row Tryz.underlying43 ty58) fun a11 c12 => (Rg.a rfl (nl (tRet (rT (?_))))))
  obtain rfl := si H
  exact back1 (a11, c12) rfl (ResV.tmp (v := .slice a11 (([] : List Row).length) c12) rfl) rfl Ents.nil (.cons Del.here .nil)
 ·refine tSkip (nT (sr (f2 (e_lit0 Row Tryz.underlying43 ty58) fun a13 c14 => (Rg.p (p_fabE fa72_1 rfl rfl) (Rg.o (q_ldb ty70 rfl hs1 rfl) (Rg.m rfl (gdo H fun h15 H => (Rg.o (q_ixg Tryz.underlying70 ty43 rfl rfl h15 rfl (Ent.b (Ent.darr Ent.z))) (Rg.o (q_lde (i := r3.toNat) (j := 0) ty43 rfl (Ent.b (Ent.darr Ent.z)) h15.lt rfl) ?_)))))))))
  refine gdo H fun h18 H => (f2 (e_appF (l := ([] : List Row)) (k := nth v0.2 r3.toNat) (α := Row) Tryz.underlying43 ty58 rfl rfl (h18.b (by decide)) h18.x (.cons Del.here .nil) (Ent.b (Ent.dimm (Ent.del Ent.z h15.lt)))) fun a16 c17 => (Rg.a rfl (nl (tRet ?_))))
  obtain rfl := si H
  exact back1 (a16, c17) rfl (ResV.tmp (v := .slice a16 ((([] : List Row) ++ (nth v0.2 r3.toNat)).length) c17) rfl) rfl Ents.nil (.cons Del.here .nil)
def p_slices_Insert_Row_Row (v0 : List Row) (v1 : Int) (v2 : List Row) : Option (List Row) := p_insert v0 v1 v2
theorem c_slices_Insert_Row_Row {r : (List Row)} (v0 : (List Row)) (x_v0 : Option Addr × Nat) (v1 : Int) (v2 : (List Row)) (x_v2 : Option Addr × Nat) (H : p_slices_Insert_Row_Row v0 v1 v2 = some r) : Fn' Tryz.prog 133 #[.slice x_v0.1 v0.length x_v0.2, .int .i64 (v1), .slice x_v2.1 v2.length x_v2.2] [] [tree (.slice x_v0.1 v0.length x_v0.2) v0, tree (.slice x_v2.1 v2.length x_v2.2) v2] (ι := Option Addr × Nat) (fun x => .slice x.1 r.length x.2) (fun _ => []) (fun x => [tree (.slice x.1 r.length x.2) r]) := by
 refine cof (args := [_, _, _]) Tryz.func133 Tryz.ntmps133 fun c => ?_
 unfold p_slices_Insert_Row_Row p_insert at H
 obtain ⟨h1, H⟩ := gd.of H; obtain ⟨h2, H⟩ := gd.of H; obtain ⟨h3, H⟩ := gd.of H
 obtain ⟨oa, cp⟩ := x_v0; obtain ⟨ob, cq⟩ := x_v2
 obtain ⟨i, rfl⟩ := Int.eq_ofNat_of_zero_le h1.1
 have hi : i ≤ v0.length := Int.ofNat_le.1 h1.2
 have hr : v0.take i ++ v2 ++ v0.drop i = r := Option.some.inj H
 subst hr
 have hrm : v0.length + v2.length ≤ 1073741824 := h2
 refine Tr.bnd Has.here fun _ b1 b2 => (sr (Rg.a (v := .slice none 0 0) rfl (Rg.nl (nT (sr (Rg.m rfl (Rg.m rfl (Rg.p (v := .slice (subA oa cp (i : Int).toNat (Enc.sz Row)) (v0.length - (i : Int).toNat) (cp - (i : Int).toNat)) (p_slAny Tryz.underlying43 (show TyI _ _ _ (Enc.sz Row) _ _ from ty58) rfl rfl h1.1 h1.2 b1) (Rg.nl (nT (sr ?_)))))))))))
 refine Rg.m rfl (Rg.p (p_len 58 Tryz.underlying43 rfl) (Rg.a rfl (Rg.nl (nT (Tr.seq (sr (Rg.m rfl (Rg.p (p_eql rfl rfl) (Rg.nl (nT (Tr.cond (b := decide ((v2.length : Int) = 0)) rfl (fun h => absurd (of_decide_eq_true h) (by omega)) (fun _ => (tSkip ?_)))))))))))))
 refine nT (sr (Rg.m rfl (Rg.p (p_len 58 Tryz.underlying43 rfl) (Rg.a rfl (Rg.nl (nT (Tr.seq (sr (Rg.m rfl (Rg.m rfl (Rg.p (p_eql rfl rfl) (Rg.nl ?_))))))))))))
 refine nT (Tr.cond (b := decide ((i : Int) = (v0.length : Int))) rfl (fun h => ?_) (fun h => ?_))
 ·have hin : i = v0.length := Int.ofNat_inj.1 (of_decide_eq_true h)
  subst hin
  refine sr (Rg.m rfl (Rg.m rfl (f2 (e_appF (l := v0) (k := v2) (α := Row) Tryz.underlying43 ty58 rfl rfl (room.b h2 (by decide)) (room.x h2) (.cons Del.here .nil) (EntB.tree Has.here)) fun oa2 cp2 => (Rg.a rfl (Rg.nl (nT (tRet ?_)))))))
  have hE : v0.take v0.length ++ v2 ++ v0.drop v0.length = v0 ++ v2 := by rw [List.take_length, List.drop_length, List.append_nil]
  rw [hE]
  exact back1 (oa2, cp2) rfl (ResV.tmp (v := .slice oa2 ((v0 ++ v2).length) (cp2)) rfl) rfl Ents.nil (.cons Del.here .nil)
 have hne : i < v0.length := Nat.lt_of_le_of_ne hi fun e => absurd (e ▸ h) (by simp)
 refine tSkip (nT (Tr.seq (sr (Rg.m rfl (Rg.m rfl ?_)))))
 refine Rg.p (p_add rfl rfl (by unfold I64; omega)) ?_
 refine Rg.m rfl (Rg.p (v := .int .i64 (cp : Int)) (p_cap 58 Tryz.underlying43 rfl) (Rg.p (p_gtr rfl rfl) (Rg.nl (nT (Tr.unT (.cons Del.here .nil) (by omega) fun g bt js e1 _ _ _ l1 l2 l3 => ?_)))))
 subst e1
 have l2 : v0.length * Enc.sz Row + js.length = cp * Enc.sz Row := l2
 refine Tr.unT (.cons (Del.there Del.here) .nil) h3 fun g2 bt2 js2 e1 _ _ _ k1 k2 k3 => ?_
 subst e1
 have hA1 : ((v0.take i).flatMap Flat.enc).length = i * Enc.sz Row := by rw [flat_flen fun x hx => (l3 x (List.mem_of_mem_take hx)).2.1, List.length_take, Nat.min_eq_left hi]
 have hA2 : ((v0.drop i).flatMap Flat.enc).length = (v0.length - i) * Enc.sz Row := by rw [flat_flen fun x hx => (l3 x (List.mem_of_mem_drop hx)).2.1, List.length_drop]
 have hAA : v0.flatMap Flat.enc = (v0.take i).flatMap Flat.enc ++ (v0.drop i).flatMap Flat.enc := by rw [← List.flatMap_append, List.take_append_drop]
 have hall : ∀ x ∈ v0.take i ++ v2 ++ v0.drop i, Flat.wf x ∧ (Flat.enc x).length = Enc.sz Row := ins_all (fun x hx => ⟨(l3 x hx).1, (l3 x hx).2.1⟩) (fun x hx => ⟨(k3 x hx).1, (k3 x hx).2.1⟩)
 have hlen : (v0.take i ++ v2 ++ v0.drop i).length = v0.length + v2.length := by simp; omega
 have o1 : ∀ v ∈ (v0.drop i).flatMap Flat.enc, v.oneCell' = true := fun v hv => by obtain ⟨x, hx, hv⟩ := List.mem_flatMap.1 hv; exact (l3 x (List.mem_of_mem_drop hx)).2.2 v hv
 have o2 : ∀ v ∈ v2.flatMap Flat.enc, v.oneCell' = true := fun v hv => by obtain ⟨x, hx, hv⟩ := List.mem_flatMap.1 hv; exact (k3 x hx).2.2 v hv
 have q0 : i * Enc.sz Row + v2.length * Enc.sz Row = (i + v2.length) * Enc.sz Row := (Nat.add_mul _ _ _).symm
 have q1 : i * Enc.sz Row + (v0.length - i) * Enc.sz Row = v0.length * Enc.sz Row := by rw [← Nat.add_mul]; congr 1; omega
 have q2 : (v0.length + v2.length) * Enc.sz Row = v0.length * Enc.sz Row + v2.length * Enc.sz Row := Nat.add_mul _ _ _
 refine Tr.cond (b := decide ((cp : Int) < (v0.length : Int) + (v2.length : Int))) rfl (fun h => ?_) (fun h => ?_)
 ·have h := of_decide_eq_true h
  refine sr (Rg.m rfl (Rg.m rfl (Rg.p (v := .slice (some ⟨g, 0, none⟩) (i) (cp)) (p_slHi i Tryz.underlying43 (show TyI _ _ _ (Enc.sz Row) _ _ from ty58) rfl rfl rfl (by omega)) (Rg.m rfl (Rg.m rfl ?_)))))
  refine Rg.p (p_add rfl rfl (by unfold I64; omega)) ?_
  refine Rg.m rfl ?_
  refine Rg.p (p_sub rfl rfl (by unfold I64; omega)) ?_
  refine Rg.ef (e_appZ (k := v0.length + v2.length - i) (olds := (v0.take i).flatMap Flat.enc) Tryz.underlying43 Tryz.underlying3 (show TyI _ _ _ (Enc.sz Row) _ _ from ty58) (Enc.pos (α := Row)) rfl rfl (by omega) (Has.there Has.here) (by rw [hAA, List.append_assoc, ← hA1]; exact List.take_left.symm) hA1 (by omega) (by omega) (by rw [show i + (v0.length + v2.length - i) = v0.length + v2.length by omega]; exact room.b h2 (by decide)) (by omega)) rfl ?_
  rintro _ _ _ ⟨g3, cp3, js3, rfl, m1, m2, m3, rfl, rfl⟩
  refine Rg.a rfl (nl ?_)
  have hn3 : i + (v0.length + v2.length - i) = v0.length + v2.length := by omega
  have m4 := Nat.mul_le_mul_right (Enc.sz Row) m1
  rw [hn3] at m4
  refine sr (Rg.m rfl (Rg.m rfl (Rg.p (v := .slice (some ⟨g3, i * Enc.sz Row, none⟩) (i + (v0.length + v2.length - i) - i) (cp3 - i)) (p_slLo i Tryz.underlying43 (show TyI _ _ _ (Enc.sz Row) _ _ from ty58) rfl rfl rfl (by omega) m1 (by omega)) (Rg.m rfl ?_))))
  refine f0 (e_cpB (m := v2.length) (ks := v2.flatMap Flat.enc) Tryz.underlying43 (show TyI _ _ _ (Enc.sz Row) _ _ from ty58) rfl rfl (Nat.min_eq_left (by omega)) (by rw [List.drop_zero, ← k1]; exact List.take_left.symm) k1 Upd.here (Has.there Has.here) (by rw [List.length_append, hA1]; omega) o2) ?_
  refine Rg.nl (nT (Tr.seq (tNw 2 [0, 1, 2, 3, 4, 5, 6, 7, 8] [8] [] Tryz.mixed (by kernel_rfl) (by decide) List.nodup_nil okNil (w_p rfl (p_move rfl) (w_p rfl (p_move rfl) (w_p rfl (p_move rfl) ?_))))))
  refine w_p rfl (p_add rfl rfl (by unfold I64; omega)) ?_
  refine w_p (v := .slice (some ⟨g3, (i + v2.length) * Enc.sz Row, none⟩) (i + (v0.length + v2.length - i) - (i + v2.length)) (cp3 - (i + v2.length))) rfl (p_slLo (i + v2.length) Tryz.underlying43 (show TyI _ _ _ (Enc.sz Row) _ _ from ty58) rfl rfl rfl (by omega) m1 (by omega)) (w_p rfl (p_move rfl) (w_p rfl (p_move rfl) (w_p (v := .slice (some ⟨g, i * Enc.sz Row, none⟩) (v0.length - i) (cp - i)) rfl (p_slLo i Tryz.underlying43 (show TyI _ _ _ (Enc.sz Row) _ _ from ty58) rfl rfl rfl (by omega) b1 (by omega)) ?_)))
  refine w_ed rfl (by decide) rfl Rdy.nil rfl (n_cpB (m := v0.length - i) (ks := (v0.drop i).flatMap Flat.enc) Tryz.underlying43 (show TyI _ _ _ (Enc.sz Row) _ _ from ty58) rfl rfl (Nat.min_eq_left (by omega)) (by rw [hAA, List.append_assoc, ← hA1, List.drop_left, ← hA2]; exact List.take_left.symm) hA2 Upd.here (Has.there (Has.there Has.here)) (by rw [← q0, Nat.add_assoc]; exact hlenNew hA1 k1 (by omega)) o1) ?_
  rintro _ _ _ ⟨rfl, rfl, rfl⟩
  refine ⟨PdOk.nil, ?_⟩
  refine w_nil (nT (sr (Rg.m rfl (Rg.a rfl (Rg.nl (nT (tRet ?_)))))))
  refine At.mkF (n := i + (v0.length + v2.length - i)) (v0.take i ++ v2 ++ v0.drop i) (js3.drop (v2.length * Enc.sz Row + (v0.length - i) * Enc.sz Row)) (.cons Del.here .nil) (by omega) (by rw [← q0, ins_new hA1 k1 hA2 (by omega), List.flatMap_append, List.flatMap_append]) (by omega) m2 (by rw [← q0, ins_new hA1 k1 hA2 (by omega)]; simp only [List.length_append, List.length_drop, hA1, k1, hA2]; omega) hall ?_
  exact back1 (some ⟨g3, 0, none⟩, cp3) rfl (ResV.tmp (v := .slice (some ⟨g3, 0, none⟩) (i + (v0.length + v2.length - i)) (cp3)) rfl) (by rw [hlen, hn3]) Ents.nil (.cons (by rw [hlen, hn3]; exact Del.here) .nil)
 have h := of_decide_eq_false h
 refine tSkip (nT ?_)
 have p4 := Nat.mul_le_mul_right (Enc.sz Row) (show v0.length + v2.length ≤ cp by omega)
 refine sr (Rg.m rfl (Rg.m rfl (Rg.m rfl ?_)))
 refine Rg.p (p_add rfl rfl (by unfold I64; omega)) ?_
 refine Rg.p (v := .slice (some ⟨g, 0, none⟩) (v0.length + v2.length) (cp)) (p_slHi (v0.length + v2.length) Tryz.underlying43 (show TyI _ _ _ (Enc.sz Row) _ _ from ty58) rfl rfl (by omega) (by omega)) (Rg.a rfl (Rg.nl (nT (Tr.seq (sr (Rg.m rfl (Rg.m rfl (Rg.m rfl (Rg.m rfl ?_)))))))))
 refine Rg.p (p_add rfl rfl (by unfold I64; omega)) ?_
 refine Rg.p (v := .slice (some ⟨g, (i + v2.length) * Enc.sz Row, none⟩) (v0.length + v2.length - (i + v2.length)) (cp - (i + v2.length))) (p_slLo (i + v2.length) Tryz.underlying43 (show TyI _ _ _ (Enc.sz Row) _ _ from ty58) rfl rfl rfl (by omega) (by omega) (by omega)) ?_
 refine Rg.o (v := .bool (false)) (q_ov (tR := 4) Tryz.func150 (by kernel_rfl) (by kernel_rfl) (by kernel_rfl) (by kernel_rfl) Tryz.underlying43 (show TyI _ _ _ (Enc.sz Row) _ _ from ty58) rfl rfl (.cons Del.here (.cons Del.here .nil)) (cells_ne (by rw [l1]; have := Nat.mul_le_mul_right (Enc.sz Row) (show 1 ≤ v0.length by omega); have := Enc.pos (α := Row); omega))) ?_
 refine Rg.p (p_not rfl) (Rg.nl (nT (Tr.condT rfl (Tr.seq (tNw 2 [0, 1, 2, 3, 4, 5, 6, 7, 8] [8] [] Tryz.mixed (by kernel_rfl) (by decide) List.nodup_nil okNil (w_p rfl (p_move rfl) (w_p rfl (p_move rfl) (w_p rfl (p_move rfl) ?_))))))))
 refine w_p rfl (p_add rfl rfl (by unfold I64; omega)) ?_
 refine w_p (v := .slice (some ⟨g, (i + v2.length) * Enc.sz Row, none⟩) (v0.length + v2.length - (i + v2.length)) (cp - (i + v2.length))) rfl (p_slLo (i + v2.length) Tryz.underlying43 (show TyI _ _ _ (Enc.sz Row) _ _ from ty58) rfl rfl rfl (by omega) (by omega) (by omega)) (w_p rfl (p_move rfl) (w_p rfl (p_move rfl) (w_p (v := .slice (some ⟨g, i * Enc.sz Row, none⟩) (v0.length + v2.length - i) (cp - i)) rfl (p_slLo i Tryz.underlying43 (show TyI _ _ _ (Enc.sz Row) _ _ from ty58) rfl rfl rfl (by omega) (by omega) (by omega)) ?_)))
 refine w_ed rfl (by decide) rfl Rdy.nil rfl (n_cpB (m := v0.length - i) (ks := (v0.drop i).flatMap Flat.enc) Tryz.underlying43 (show TyI _ _ _ (Enc.sz Row) _ _ from ty58) rfl rfl (by show min _ _ = _; omega) (by rw [hAA, List.append_assoc, ← hA1, List.drop_left, ← hA2]; exact List.take_left.symm) hA2 (Upd.there Upd.here) (Has.there Has.here) (by rw [List.length_append, l1, ← q0]; omega) o1) ?_
 rintro _ _ _ ⟨rfl, rfl, rfl⟩
 refine ⟨PdOk.nil, ?_⟩
 refine w_nil (nT (sr (Rg.m rfl (Rg.m rfl (Rg.p (v := .slice (some ⟨g, i * Enc.sz Row, none⟩) (v0.length + v2.length - i) (cp - i)) (p_slLo i Tryz.underlying43 (show TyI _ _ _ (Enc.sz Row) _ _ from ty58) rfl rfl rfl (by omega) (by omega) (by omega)) (Rg.m rfl ?_))))))
 refine f0 (e_cpB (m := v2.length) (ks := v2.flatMap Flat.enc) Tryz.underlying43 (show TyI _ _ _ (Enc.sz Row) _ _ from ty58) rfl rfl (by show min _ _ = _; omega) (by rw [List.drop_zero, ← k1]; exact List.take_left.symm) k1 (Upd.there Upd.here) Has.here (by rw [← q0, hAA]; exact hlenHere hA1 hA2 k1 (by omega)) o2) ?_
 refine Rg.nl (nT (sr (Rg.m rfl (Rg.a rfl (Rg.nl (nT (tRet ?_)))))))
 have hX := ins_here (js := js) hA1 k1 hA2 (by omega)
 refine At.mkF (n := v0.length + v2.length) (v0.take i ++ v2 ++ v0.drop i) (((v0.take i).flatMap Flat.enc ++ (v0.drop i).flatMap Flat.enc ++ js).drop (i * Enc.sz Row + v2.length * Enc.sz Row + (v0.length - i) * Enc.sz Row)) (.cons (Del.there Del.here) .nil) (by omega) (by rw [← q0, hAA, hX, List.flatMap_append, List.flatMap_append]) (by omega) b2 (by rw [← q0, hAA, hX]; simp only [List.length_append, List.length_drop, hA1, k1, hA2]; omega) hall ?_
 exact back1 (some ⟨g, 0, none⟩, cp) rfl (ResV.tmp (v := .slice (some ⟨g, 0, none⟩) (v0.length + v2.length) (cp)) rfl) (by rw [hlen]) Ents.nil (.cons (by rw [hlen]; exact Del.here) .nil)
noncomputable def p_impl_put_b0 (v0 : (List Row)) (v1 : Row) (Q11 : Int) : Option ((Int) ⊕ (Int)) := bd (cond (decide (Q11 < ((([] : List Row) ++ v0).length : Int))) (gd (ix Q11 (([] : List Row) ++ v0).length) <| some (decide (((nth (([] : List Row) ++ v0) Q11.toNat).1) < v1.1))) (some (false))) fun b19 => cond (b19) (gd (I64 (Q11 + 1)) <| some (.inl (Q11 + 1))) (some (.inr Q11))
noncomputable def p_impl_put (v0 : (List Row)) (v1 : Row) : Option ((List Row)) := gd (room (([] : List Row).length + v0.length)) <| bd (lp (p_impl_put_b0 v0 v1) 0) fun x7 => bd (cond (decide (x7 < ((([] : List Row) ++ v0).length : Int))) (gd (ix x7 (([] : List Row) ++ v0).length) <| some (decide (((nth (([] : List Row) ++ v0) x7.toNat).1) = v1.1))) (some (false))) fun b25 => cond (b25) (gd (ix x7 (([] : List Row) ++ v0).length) <| some ((([] : List Row) ++ v0).set x7.toNat v1)) (bd (p_slices_Insert_Row_Row (([] : List Row) ++ v0) x7 ([v1] : List Row)) fun r35 => gd (room (([] : List Row).length + r35.length)) <| some (([] : List Row) ++ r35))
theorem c_impl_put {r : (List Row)} (v0 : (List Row)) (x_v0 : Option Addr × Nat) (v1 : Row) (H : p_impl_put v0 v1 = some r) : Fn' Tryz.prog 95 #[.slice x_v0.1 v0.length x_v0.2, .agg #[.int .i64 (v1.1), .int .i64 (v1.2)]] [imm (.slice x_v0.1 v0.length x_v0.2) v0] [] (ι := Option Addr × Nat) (fun x => .slice x.1 r.length x.2) (fun _ => []) (fun x => [tree (.slice x.1 r.length x.2) r]) := by
 refine cof (args := [_, _]) Tryz.func95 Tryz.ntmps95 fun c => ?_
 unfold p_impl_put at H
 refine sr (f1 (e_box (t := 58) rfl) fun g1 => (Rg.a (v := .slice none 0 0) rfl (nl (sr (f2 (e_lit0 Row Tryz.underlying43 ty58) fun a2 c3 => (Rg.m rfl (gdo H fun h6 H => (f2 (e_appF (l := ([] : List Row)) (k := v0) (α := Row) Tryz.underlying43 ty58 rfl rfl (h6.b (by decide)) h6.x (.cons Del.here .nil) (Ent.b Ent.z)) fun a4 c5 => (Rg.a rfl (nl (sr ?_)))))))))))
 refine Rg.a (v := .int .i64 (0)) rfl (nl (bdo H fun x7 hx8 H => (tMidC (ι := Unit) (fun ψ => [(3, .pointer (some ⟨g1, 0, none⟩)), (5, .slice a4 ((([] : List Row) ++ v0).length) c5), (6, .int .i64 (x7))]) (fun ψ => [box g1 58 [.int .i64 (v1.1), .int .i64 (v1.2)], tree (.slice a4 ((([] : List Row) ++ v0).length) c5) (([] : List Row) ++ v0)]) ?_ ?_)))
 ·refine Tr.block (tLoopI hx8 () (fun Q11 _ => [(3, .pointer (some ⟨g1, 0, none⟩)), (5, .slice a4 ((([] : List Row) ++ v0).length) c5), (6, .int .i64 (Q11))]) (fun _ _ => [box g1 58 [.int .i64 (v1.1), .int .i64 (v1.2)], tree (.slice a4 ((([] : List Row) ++ v0).length) c5) (([] : List Row) ++ v0)]) (.cons dl1 (.cons Del.here .nil)) ?_)
  rintro _ Q11 z12 t14 H1 hi15 hb16
  unfold p_impl_put_b0 at H1
  refine Tr.seq (bdo H1 fun b19 j20 H1 => (tMid1 [(23, .bool (b19)), (3, .pointer (some ⟨g1, 0, none⟩)), (5, .slice a4 ((([] : List Row) ++ v0).length) c5), (6, .int .i64 (Q11))] ?_ ?_))
  ·refine tLinS [(3, .pointer (some ⟨g1, 0, none⟩)), (5, .slice a4 ((([] : List Row) ++ v0).length) c5), (6, .int .i64 (Q11))] Tryz.mixed (.inr (by kernel_rfl)) ⟨rfl, rfl, rfl, trivial⟩ rfl (Lin.m rfl (Lin.m rfl (Lin.p (p_len 58 Tryz.underlying43 rfl) (Lin.p (p_lss rfl rfl) ?_))))
   rcases Bool.eq_false_or_eq_true (decide (Q11 < ((([] : List Row) ++ v0).length : Int))) with h21 | h21
   ·have j20 := cdT h21 j20
    refine Lin.e_ (p_move rfl) h21 (Lin.h rfl (p_move rfl) (Lin.h rfl (p_move rfl) (gdo j20 fun h22 j20 => (Lin.i rfl (q_ixO' Tryz.underlying43 ty58 rfl rfl h22 hs1) (Lin.i rfl (q_faeE (j := 0) Q11.toNat fa58_0 rfl (EntB.flat (EntB.tree hs1)) h22.lt rfl) (Lin.i rfl (q_lde (i := Q11.toNat) (j := 0) ty3 rfl (EntB.flat (EntB.tree hs1)) h22.lt rfl) (Lin.h rfl (p_fabE fa58_0 rfl rfl) (Lin.i rfl (q_ldb ty3 rfl Has.here rfl) (Lin.h rfl (p_lss rfl rfl) ?_)))))))))
    refine Lin.p (p_pickT rfl rfl) ?_
    obtain rfl := si j20
    show At _ _ _ _ _ _
    exact n1 ⟨rfl, rfl, rfl, rfl, trivial⟩
   ·have j20 := cdF h21 j20
    refine Lin.e_ (p_move rfl) h21 ?_
    iterate 8 refine Lin.sk rfl ?_
    refine Lin.p (v := .bool (false)) (p_pickF rfl rfl) ?_
    obtain rfl := si j20
    show At _ _ _ _ _ _
    exact n1 ⟨rfl, rfl, rfl, rfl, trivial⟩
  refine cH H1 rfl (fun h23 H1 => ?_) (fun h23 H1 => ?_)
  ·exact tSkip (nT (Tr.block (Tr.region (Rg.m rfl (gdo H1 fun h24 H1 => (Rg.p (p_add rfl rfl h24) (Rg.a rfl (Rg.nl (nB (nLI () (hi15 _ (sm H1)) (.cons Del.here (.cons Del.here .nil)) ))))))))))
  ·refine tExit (xT (xT (xE (?_))))
   obtain rfl := hb16 _ (sm H1)
   exact nMC () ⟨rfl, rfl, rfl, trivial⟩ Ents.refl (.cons Del.here (.cons Del.here .nil))
 ·intro y13
  show Tr _ _ _ _ _ [(3, .pointer (some ⟨g1, 0, none⟩)), (5, .slice a4 ((([] : List Row) ++ v0).length) c5), (6, .int .i64 (x7))] _ [box g1 58 [.int .i64 (v1.1), .int .i64 (v1.2)], tree (.slice a4 ((([] : List Row) ++ v0).length) c5) (([] : List Row) ++ v0)]
  refine Tr.seq (bdo H fun b25 j26 H => (tMid1 [(39, .bool (b25)), (3, .pointer (some ⟨g1, 0, none⟩)), (5, .slice a4 ((([] : List Row) ++ v0).length) c5), (6, .int .i64 (x7))] ?_ ?_))
  ·refine tLinS [(3, .pointer (some ⟨g1, 0, none⟩)), (5, .slice a4 ((([] : List Row) ++ v0).length) c5), (6, .int .i64 (x7))] Tryz.mixed (.inr (by kernel_rfl)) ⟨rfl, rfl, rfl, trivial⟩ rfl (Lin.m rfl (Lin.m rfl (Lin.p (p_len 58 Tryz.underlying43 rfl) (Lin.p (p_lss rfl rfl) ?_))))
   rcases Bool.eq_false_or_eq_true (decide (x7 < ((([] : List Row) ++ v0).length : Int))) with h27 | h27
   ·have j26 := cdT h27 j26
    refine Lin.e_ (p_move rfl) h27 (Lin.h rfl (p_move rfl) (Lin.h rfl (p_move rfl) (gdo j26 fun h28 j26 => (Lin.i rfl (q_ixO' Tryz.underlying43 ty58 rfl rfl h28 hs1) (Lin.i rfl (q_faeE (j := 0) x7.toNat fa58_0 rfl (EntB.flat (EntB.tree hs1)) h28.lt rfl) (Lin.i rfl (q_lde (i := x7.toNat) (j := 0) ty3 rfl (EntB.flat (EntB.tree hs1)) h28.lt rfl) (Lin.h rfl (p_fabE fa58_0 rfl rfl) (Lin.i rfl (q_ldb ty3 rfl Has.here rfl) (Lin.h rfl (p_eql rfl rfl) ?_)))))))))
    refine Lin.p (p_pickT rfl rfl) ?_
    obtain rfl := si j26
    show At _ _ _ _ _ _
    exact n1 ⟨rfl, rfl, rfl, rfl, trivial⟩
   ·have j26 := cdF h27 j26
    refine Lin.e_ (p_move rfl) h27 ?_
    iterate 8 refine Lin.sk rfl ?_
    refine Lin.p (v := .bool (false)) (p_pickF rfl rfl) ?_
    obtain rfl := si j26
    show At _ _ _ _ _ _
    exact n1 ⟨rfl, rfl, rfl, rfl, trivial⟩
  refine cH H rfl (fun h29 H => ?_) (fun h29 H => ?_)
  ·refine sr (Rg.m rfl (Rg.m rfl (Rg.o (q_ldbA ty58 rfl Has.here rfl) (gdo H fun h30 H => (Rg.o (q_ixO' Tryz.underlying43 ty58 rfl rfl h30 hs1) (g0 (e_setT (l := (([] : List Row) ++ v0)) (α := Row) (oa := a4) x7.toNat v1 ((), ()) ty58 rfl rfl rfl h30.lt (ShpT.wfa _) (.cons dl1 .nil)) (nl (Tr.seq ?_))))))))
   refine Tr.olen Has.here fun hn => ?_; rw [hn]
   refine Tr.region (Rg.m rfl (Rg.a rfl (nl (tRet (rT (?_))))))
   obtain rfl := si H
   exact back1 (a4, c5) rfl (ResV.tmp (v := .slice a4 (((([] : List Row) ++ v0).set x7.toNat v1).length) c5) rfl) rfl Ents.nil (.cons Del.here .nil)
  ·refine tSkip (nT (sr (f2 (e_lit0 Row Tryz.underlying43 ty58) fun a31 c32 => (Rg.m rfl (Rg.m rfl (Rg.o (q_ldbA ty58 rfl hs1 rfl) (f2 (e_litT (α := Row) (vs := [(0, .agg #[.int .i64 (v1.1), .int .i64 (v1.2)])]) [v1] rfl (fun _ => rfl) (fun _ _ => by repeat constructor) Tryz.underlying43 ty58 rfl (by decide) (by decide) (by kernel_rfl)) fun a33 c34 => (bdo H fun r35 h36 H => (f1 (e_callM (c_slices_Insert_Row_Row (([] : List Row) ++ v0) (a4, c5) x7 ([v1] : List Row) (a33, c34) h36) (Solo.tree (Solo.tree Solo.nil)) (fun _ => (Solo.tree Solo.nil)) rfl (.cons dl3 (.cons Del.here .nil)) EntsB.nil) fun x37 => ?_)))))))))
   refine gdo H fun h40 H => (f2 (e_appF (l := ([] : List Row)) (k := r35) (α := Row) Tryz.underlying43 ty58 rfl rfl (h40.b (by decide)) h40.x (.cons dl1 .nil) (EntB.tree Has.here)) fun a38 c39 => (Rg.a rfl (nl (tRet ?_))))
   obtain rfl := si H
   exact back1 (a38, c39) rfl (ResV.tmp (v := .slice a38 ((([] : List Row) ++ r35).length) c39) rfl) rfl Ents.nil (.cons Del.here .nil)
noncomputable def p_impl_Store_rows_b1 (r22 : (List Row)) (Q29 : (List Row) × Int) : Option (((List Row) × Int) ⊕ ((List Row))) := cond (decide (Q29.2 < (r22.length : Int))) (gd (ix Q29.2 r22.length) <| bd (p_impl_put Q29.1 (nth r22 Q29.2.toNat)) fun r40 => gd (I64 (Q29.2 + 1)) <| some (.inl (r40, Q29.2 + 1))) (some (.inr Q29.1))
noncomputable def p_impl_Store_rows_b0 (v0 : Store) (v1 : Int) (Q11 : (List Row) × Int) : Option (((List Row) × Int) ⊕ ((List Row))) := cond (decide (Q11.2 < (v0.2.1.length : Int))) (gd (ix Q11.2 v0.2.1.length) <| bd (p_impl_PartOf (nth v0.2.1 Q11.2.toNat) v1) fun r22 => bd (lp (p_impl_Store_rows_b1 r22) (Q11.1, 0)) fun x25 => gd (I64 (Q11.2 + 1)) <| some (.inl (x25, Q11.2 + 1))) (some (.inr Q11.1))
noncomputable def p_impl_Store_rows_b2 (v0 : Store) (v1 : Int) (Q49 : (List Row) × Int) : Option (((List Row) × Int) ⊕ ((List Row))) := cond (decide (Q49.2 < (v0.2.2.length : Int))) (gd (ix Q49.2 v0.2.2.length) <| cond (decide (((nth v0.2.2 Q49.2.toNat).1) = v1)) (bd (p_impl_put Q49.1 ((nth v0.2.2 Q49.2.toNat).2)) fun r61 => gd (I64 (Q49.2 + 1)) <| some (.inl (r61, Q49.2 + 1))) (gd (I64 (Q49.2 + 1)) <| some (.inl (Q49.1, Q49.2 + 1)))) (some (.inr Q49.1))
noncomputable def p_impl_Store_rows (v0 : Store) (v1 : Int) : Option ((List Row)) := bd (lp (p_impl_Store_rows_b0 v0 v1) (([] : List Row), 0)) fun x7 => bd (lp (p_impl_Store_rows_b2 v0 v1) (x7, 0)) fun x45 => some x45
theorem c_impl_Store_rows {r : (List Row)} (v0 : Store) (x_v0 : ((Option Addr × Nat) × (Option Addr × Nat)) × (Option Addr × Nat) × (Option Addr × Nat)) (v1 : Int) (H : p_impl_Store_rows v0 v1 = some r) : Fn' Tryz.prog 47 #[.agg #[.slice x_v0.1.1.1 v0.1.1.length x_v0.1.1.2, .slice x_v0.1.2.1 v0.1.2.length x_v0.1.2.2, .slice x_v0.2.1.1 v0.2.1.length x_v0.2.1.2, .slice x_v0.2.2.1 v0.2.2.length x_v0.2.2.2], .int .i64 (v1)] [imm (.slice x_v0.1.1.1 v0.1.1.length x_v0.1.1.2) v0.1.1, imm (.slice x_v0.1.2.1 v0.1.2.length x_v0.1.2.2) v0.1.2, imm (.slice x_v0.2.1.1 v0.2.1.length x_v0.2.1.2) v0.2.1, imm (.slice x_v0.2.2.1 v0.2.2.length x_v0.2.2.2) v0.2.2] [] (ι := Option Addr × Nat) (fun x => .slice x.1 r.length x.2) (fun _ => []) (fun x => [tree (.slice x.1 r.length x.2) r]) := by
 refine cof (args := [_, _]) Tryz.func47 Tryz.ntmps47 fun c => ?_
 unfold p_impl_Store_rows at H
 refine Tr.openD Ent.z fun X1 => (Tr.openD Ent.z.s.s fun X2 => (Tr.openD Ent.z.s.s.s.s fun X3 => (sr (f1 (e_box (t := 39) rfl) fun g4 => (Rg.a (v := .slice none 0 0) rfl (nl (sr (f2 (e_lit0 Row Tryz.underlying43 ty58) fun a5 c6 => (Rg.a rfl (nl (Tr.seq (sr ?_))))))))))))
 refine Rg.p (p_fabE fa39_1 rfl rfl) (Rg.o (q_ldb ty36 rfl hs1 rfl) (Rg.p (p_len 72 Tryz.underlying36 rfl) (Rg.m (v := .int .i64 (0)) rfl (nl (bdo H fun x7 hx8 H => (tMidNC (ι := Option Addr × Nat) (fun ψ => [(1, .int .i64 (v1)), (2, .pointer (some ⟨g4, 0, none⟩)), (5, .slice ψ.1 x7.length ψ.2)]) (fun ψ => [box g4 39 [.slice x_v0.1.1.1 v0.1.1.length x_v0.1.1.2, .slice x_v0.1.2.1 v0.1.2.length x_v0.1.2.2, .slice x_v0.2.1.1 v0.2.1.length x_v0.2.1.2, .slice x_v0.2.2.1 v0.2.2.length x_v0.2.2.2], tree (.slice ψ.1 x7.length ψ.2) x7]) ?_ ?_))))))
 ·refine Tr.block (tLoopI hx8 (a5, c6) (fun Q11 z12 => [(1, .int .i64 (v1)), (2, .pointer (some ⟨g4, 0, none⟩)), (5, .slice z12.1 Q11.1.length z12.2), (14, .slice x_v0.2.1.1 v0.2.1.length x_v0.2.1.2), (15, .int .i64 ((v0.2.1.length : Int))), (16, .int .i64 (Q11.2))]) (fun Q11 z12 => [box g4 39 [.slice x_v0.1.1.1 v0.1.1.length x_v0.1.1.2, .slice x_v0.1.2.1 v0.1.2.length x_v0.1.2.2, .slice x_v0.2.1.1 v0.2.1.length x_v0.2.1.2, .slice x_v0.2.2.1 v0.2.2.length x_v0.2.2.2], tree (.slice z12.1 Q11.1.length z12.2) Q11.1]) (.cons dl1 (.cons Del.here .nil)) ?_)
  rintro _ Q11 z12 t14 H1 hi15 hb16
  unfold p_impl_Store_rows_b0 at H1
  refine sr (Rg.p (p_lss rfl rfl) (nl (Tr.seq (cH H1 rfl (fun h19 H1 => ?_) (fun h19 H1 => ?_)))))
  ·refine tSkip (nT (Tr.seq (Tr.block (sr (gdo H1 fun h20 H1 => (Rg.o (q_ixg Tryz.underlying36 ty72 rfl rfl h20 rfl (Ent.b (Ent.darr Ent.z))) (Rg.o (v := .agg #[.slice (((X3 Q11.2.toNat).1).1) (((nth v0.2.1 Q11.2.toNat).1).length) (((X3 Q11.2.toNat).1).2.1), .slice (((X3 Q11.2.toNat).2).1) (((nth v0.2.1 Q11.2.toNat).2).length) (((X3 Q11.2.toNat).2).2.1)]) (q_ldeA (i := Q11.2.toNat) ty72 rfl (Ent.b (Ent.darr Ent.z)) h20.lt) (f1 (e_alloc ty72) fun g21 => (stb (cs' := [.slice (((X3 Q11.2.toNat).1).1) (((nth v0.2.1 Q11.2.toNat).1).length) (((X3 Q11.2.toNat).1).2.1), .slice (((X3 Q11.2.toNat).2).1) (((nth v0.2.1 Q11.2.toNat).2).length) (((X3 Q11.2.toNat).2).2.1)]) ty72 Upd.here (nl ?_))))))))))
   refine sr (Rg.o (q_ldbA ty72 rfl Has.here rfl) (Rg.m rfl (bdo H1 fun r22 h23 H1 => (f1 (e_callB (c_impl_PartOf (nth v0.2.1 Q11.2.toNat) ((((X3 Q11.2.toNat).1).1, ((X3 Q11.2.toNat).1).2.1), (((X3 Q11.2.toNat).2).1, ((X3 Q11.2.toNat).2).2.1)) v1 h23) (fun _ => (Solo.tree Solo.nil)) rfl (EntsB.cons (Ent.b (Ent.dimm (Ent.dfst (Ent.del Ent.z h20.lt)))) (EntsB.cons (Ent.b (Ent.dimm (Ent.dsnd (Ent.del Ent.z h20.lt)))) EntsB.nil))) fun x24 => (Rg.p (p_len 58 Tryz.underlying43 rfl) (Rg.m (v := .int .i64 (0)) rfl (nl (bdo H1 fun x25 hx26 H1 => (tMidNC (ι := Option Addr × Nat) (fun ψ => [(1, .int .i64 (v1)), (2, .pointer (some ⟨g4, 0, none⟩)), (5, .slice ψ.1 x25.length ψ.2), (14, .slice x_v0.2.1.1 v0.2.1.length x_v0.2.1.2), (15, .int .i64 ((v0.2.1.length : Int))), (16, .int .i64 (Q11.2))]) (fun ψ => [box g4 39 [.slice x_v0.1.1.1 v0.1.1.length x_v0.1.1.2, .slice x_v0.1.2.1 v0.1.2.length x_v0.1.2.2, .slice x_v0.2.1.1 v0.2.1.length x_v0.2.1.2, .slice x_v0.2.2.1 v0.2.2.length x_v0.2.2.2], tree (.slice ψ.1 x25.length ψ.2) x25]) ?_ ?_)))))))))
   ·refine Tr.block (tLoopI hx26 (z12.1, z12.2) (fun Q29 z30 => [(1, .int .i64 (v1)), (2, .pointer (some ⟨g4, 0, none⟩)), (5, .slice z30.1 Q29.1.length z30.2), (14, .slice x_v0.2.1.1 v0.2.1.length x_v0.2.1.2), (15, .int .i64 ((v0.2.1.length : Int))), (16, .int .i64 (Q11.2)), (22, .slice x24.1 r22.length x24.2), (23, .int .i64 ((r22.length : Int))), (24, .int .i64 (Q29.2))]) (fun Q29 z30 => [box g4 39 [.slice x_v0.1.1.1 v0.1.1.length x_v0.1.1.2, .slice x_v0.1.2.1 v0.1.2.length x_v0.1.2.2, .slice x_v0.2.1.1 v0.2.1.length x_v0.2.1.2, .slice x_v0.2.2.1 v0.2.2.length x_v0.2.2.2], tree (.slice z30.1 Q29.1.length z30.2) Q29.1, tree (.slice x24.1 r22.length x24.2) r22]) (.cons dl2 (.cons dl2 (.cons Del.here .nil))) ?_)
    rintro _ Q29 z30 t32 H2 hi33 hb34
    unfold p_impl_Store_rows_b1 at H2
    refine sr (Rg.p (p_lss rfl rfl) (nl (Tr.seq (cH H2 rfl (fun h37 H2 => ?_) (fun h37 H2 => ?_)))))
    ·refine tSkip (nT (Tr.seq (Tr.block (sr (gdo H2 fun h38 H2 => (Rg.o (q_ixO' Tryz.underlying43 ty58 rfl rfl h38 hs2) (Rg.o (v := .agg #[.int .i64 ((nth r22 Q29.2.toNat).1), .int .i64 ((nth r22 Q29.2.toNat).2)]) (q_ldeA (i := Q29.2.toNat) ty58 rfl (EntB.flat (EntB.tree hs2)) h38.lt) (f1 (e_alloc ty58) fun g39 => (stb (cs' := [.int .i64 ((nth r22 Q29.2.toNat).1), .int .i64 ((nth r22 Q29.2.toNat).2)]) ty58 Upd.here (nl ?_))))))))))
     refine Tr.region (Rg.m rfl (Rg.o (q_ldbA ty58 rfl Has.here rfl) (bdo H2 fun r40 h41 H2 => (f1 (e_callB (c_impl_put Q29.1 z30 (nth r22 Q29.2.toNat) h41) (fun _ => (Solo.tree Solo.nil)) rfl (EntsB.cons (EntB.tree hs2) EntsB.nil)) fun x42 => (Rg.a rfl (Rg.nl (nB (nT (Tr.region (gdo H2 fun h43 H2 => (Rg.p (p_add rfl rfl h43) ?_)))))))))))
     exact Rg.m rfl (Rg.nl (nLI (x42.1, x42.2) (hi33 _ (sm H2)) (.cons dl2 (.cons Del.here (.cons dl2 .nil)))))
    ·refine tExit (xT (xT (xE (?_))))
     obtain rfl := hb34 _ (sm H2)
     exact nMC (z30.1, z30.2) ⟨rfl, rfl, rfl, rfl, rfl, rfl, trivial⟩ Ents.refl (.cons Del.here (.cons Del.here .nil))
   ·intro y31
    show At _ _ [(1, .int .i64 (v1)), (2, .pointer (some ⟨g4, 0, none⟩)), (5, .slice y31.1 x25.length y31.2), (14, .slice x_v0.2.1.1 v0.2.1.length x_v0.2.1.2), (15, .int .i64 ((v0.2.1.length : Int))), (16, .int .i64 (Q11.2))] _ [box g4 39 [.slice x_v0.1.1.1 v0.1.1.length x_v0.1.1.2, .slice x_v0.1.2.1 v0.1.2.length x_v0.1.2.2, .slice x_v0.2.1.1 v0.2.1.length x_v0.2.1.2, .slice x_v0.2.2.1 v0.2.2.length x_v0.2.2.2], tree (.slice y31.1 x25.length y31.2) x25] _
    exact nB (nT (Tr.region (gdo H1 fun h44 H1 => (Rg.p (p_add rfl rfl h44) (Rg.m rfl (Rg.nl (nLI (y31.1, y31.2) (hi15 _ (sm H1)) (.cons Del.here (.cons Del.here .nil)))))))))
  ·refine tExit (xT (xT (xE (?_))))
   obtain rfl := hb16 _ (sm H1)
   exact nMC (z12.1, z12.2) ⟨rfl, rfl, rfl, trivial⟩ Ents.refl (.cons Del.here (.cons Del.here .nil))
 ·intro y13
  show At _ _ [(1, .int .i64 (v1)), (2, .pointer (some ⟨g4, 0, none⟩)), (5, .slice y13.1 x7.length y13.2)] _ [box g4 39 [.slice x_v0.1.1.1 v0.1.1.length x_v0.1.1.2, .slice x_v0.1.2.1 v0.1.2.length x_v0.1.2.2, .slice x_v0.2.1.1 v0.2.1.length x_v0.2.1.2, .slice x_v0.2.2.1 v0.2.2.length x_v0.2.2.2], tree (.slice y13.1 x7.length y13.2) x7] _
  refine nT (Tr.seq (sr (Rg.p (p_fabE fa39_2 rfl rfl) (Rg.o (q_ldb ty37 rfl Has.here rfl) (Rg.p (p_len 75 Tryz.underlying37 rfl) (Rg.m (v := .int .i64 (0)) rfl (nl (bdo H fun x45 hx46 H => (tMidNC (ι := Option Addr × Nat) (fun ψ => [(5, .slice ψ.1 x45.length ψ.2)]) (fun ψ => [tree (.slice ψ.1 x45.length ψ.2) x45]) ?_ ?_)))))))))
  ·refine Tr.block (tLoopI hx46 (y13.1, y13.2) (fun Q49 z50 => [(1, .int .i64 (v1)), (5, .slice z50.1 Q49.1.length z50.2), (34, .slice x_v0.2.2.1 v0.2.2.length x_v0.2.2.2), (35, .int .i64 ((v0.2.2.length : Int))), (36, .int .i64 (Q49.2))]) (fun Q49 z50 => [tree (.slice z50.1 Q49.1.length z50.2) Q49.1]) (.cons dl1 .nil) ?_)
   rintro _ Q49 z50 t52 H1 hi53 hb54
   unfold p_impl_Store_rows_b2 at H1
   refine sr (Rg.p (p_lss rfl rfl) (nl (Tr.seq (cH H1 rfl (fun h57 H1 => ?_) (fun h57 H1 => ?_)))))
   ·refine tSkip (nT (Tr.seq (Tr.block (sr (gdo H1 fun h58 H1 => (Rg.o (q_ixg Tryz.underlying37 ty75 rfl rfl h58 rfl (EntB.flat (Ent.b Ent.z.s.s.s.s.s.s))) (Rg.o (v := .agg #[.int .i64 ((nth v0.2.2 Q49.2.toNat).1), .int .i64 (((nth v0.2.2 Q49.2.toNat).2).1), .int .i64 (((nth v0.2.2 Q49.2.toNat).2).2)]) (q_ldeA (i := Q49.2.toNat) ty75 rfl (EntB.flat (Ent.b Ent.z.s.s.s.s.s.s)) h58.lt) (f1 (e_alloc ty75) fun g59 => (stb (cs' := [.int .i64 ((nth v0.2.2 Q49.2.toNat).1), .int .i64 (((nth v0.2.2 Q49.2.toNat).2).1), .int .i64 (((nth v0.2.2 Q49.2.toNat).2).2)]) ty75 Upd.here (nl ?_))))))))))
    refine sr (Rg.p (p_fabE fa75_0 rfl rfl) (Rg.o (q_ldb ty3 rfl Has.here rfl) (Rg.m rfl (Rg.p (p_eql rfl rfl) (nl (cH H1 rfl (fun h60 H1 => ?_) (fun h60 H1 => ?_)))))))
    ·refine Tr.region (Rg.m rfl (Rg.p (p_fabE fa75_1 rfl rfl) (Rg.o (v := .agg #[.int .i64 (((nth v0.2.2 Q49.2.toNat).2).1), .int .i64 (((nth v0.2.2 Q49.2.toNat).2).2)]) (q_ldbP [.int .i64 (((nth v0.2.2 Q49.2.toNat).2).1), .int .i64 (((nth v0.2.2 Q49.2.toNat).2).2)] ty58 rfl Has.here rfl rfl) (bdo H1 fun r61 h62 H1 => (f1 (e_callB (c_impl_put Q49.1 z50 ((nth v0.2.2 Q49.2.toNat).2) h62) (fun _ => (Solo.tree Solo.nil)) rfl (EntsB.cons (EntB.tree hs1) EntsB.nil)) fun x63 => (Rg.a rfl (Rg.nl (nB (nT (Tr.region (gdo H1 fun h64 H1 => ?_)))))))))))
     exact Rg.p (p_add rfl rfl h64) (Rg.m rfl (Rg.nl (nLI (x63.1, x63.2) (hi53 _ (sm H1)) (.cons Del.here .nil))))
    ·exact tSkip (nB (nT (Tr.region (gdo H1 fun h65 H1 => (Rg.p (p_add rfl rfl h65) (Rg.m rfl (Rg.nl (nLI (z50.1, z50.2) (hi53 _ (sm H1)) (.cons dl1 .nil)))))))))
   ·refine tExit (xT (xT (xE (?_))))
    obtain rfl := hb54 _ (sm H1)
    exact nMC (z50.1, z50.2) ⟨rfl, trivial⟩ Ents.refl (.cons Del.here .nil)
  ·intro y51
   show At _ _ [(5, .slice y51.1 x45.length y51.2)] _ [tree (.slice y51.1 x45.length y51.2) x45] _
   refine nT (sr (Rg.m rfl (Rg.a rfl (nl (tRet ?_)))))
   obtain rfl := si H
   exact back1 y51 rfl (ResV.tmp (v := .slice y51.1 x45.length y51.2) rfl) rfl Ents.nil (.cons Del.here .nil)
noncomputable def p_impl_StoreOk_b0 (v0 : Store) (Q16 : Int) : Option ((Int) ⊕ (Unit ⊕ Bool)) := cond (decide (Q16 < (v0.2.1.length : Int))) (gd (ix Q16 v0.2.1.length) <| bd (bd (p_impl_PartOk (nth v0.2.1 Q16.toNat)) fun r29 => cond (!r29) (some (true)) (cond (decide ((((nth v0.2.1 Q16.toNat).1).length : Int) = 0)) (some (true)) (bd (p_slices_Max_int_int ((nth v0.2.1 Q16.toNat).1)) fun r33 => some (decide ((v0.1.1.length : Int) < r33))))) fun b27 => cond (b27) (some (.inr (.inr false))) (gd (I64 (Q16 + 1)) <| some (.inl (Q16 + 1)))) (some (.inr (.inl ())))
noncomputable def p_impl_StoreOk_b1 (v0 : Store) (Q42 : Int) : Option ((Int) ⊕ (Unit ⊕ Bool)) := cond (decide (Q42 < (v0.2.2.length : Int))) (gd (ix Q42 v0.2.2.length) <| bd (bd (p_impl_within ((nth v0.2.2 Q42.toNat).1) 1 (v0.1.1.length : Int)) fun r55 => cond (!r55) (some (true)) (bd (p_impl_rowOk ((nth v0.2.2 Q42.toNat).2)) fun r58 => some (!r58))) fun b53 => cond (b53) (some (.inr (.inr false))) (gd (I64 (Q42 + 1)) <| some (.inl (Q42 + 1)))) (some (.inr (.inl ())))
noncomputable def p_impl_StoreOk_b2 (v0 : Store) (Q67 : Int) : Option ((Int) ⊕ (Unit ⊕ Bool)) := cond (decide (Q67 ≤ (v0.1.1.length : Int))) (bd (p_impl_Store_rows v0 Q67) fun r76 => cond (decide (24 < (r76.length : Int))) (some (.inr (.inr false))) (gd (I64 (Q67 + 1)) <| some (.inl (Q67 + 1)))) (some (.inr (.inl ())))
noncomputable def p_impl_StoreOk (v0 : Store) : Option (Bool) := bd (bd (p_impl_IndexOk v0.1) fun r7 => cond (!r7) (some (true)) (cond (decide (6 < (v0.2.1.length : Int))) (some (true)) (some (decide (20 < (v0.2.2.length : Int)))))) fun b5 => cond (b5) (some false) (bd (lp (p_impl_StoreOk_b0 v0) 0) <| sw (fun _ => bd (lp (p_impl_StoreOk_b1 v0) 0) <| sw (fun _ => bd (lp (p_impl_StoreOk_b2 v0) 1) <| sw (fun _ => some true) (fun q => some q)) (fun q => some q)) (fun q => some q))
theorem c_impl_StoreOk {r : Bool} (v0 : Store) (x_v0 : ((Option Addr × Nat) × (Option Addr × Nat)) × (Option Addr × Nat) × (Option Addr × Nat)) (H : p_impl_StoreOk v0 = some r) : Fn' Tryz.prog 11 #[.agg #[.slice x_v0.1.1.1 v0.1.1.length x_v0.1.1.2, .slice x_v0.1.2.1 v0.1.2.length x_v0.1.2.2, .slice x_v0.2.1.1 v0.2.1.length x_v0.2.1.2, .slice x_v0.2.2.1 v0.2.2.length x_v0.2.2.2]] [imm (.slice x_v0.1.1.1 v0.1.1.length x_v0.1.1.2) v0.1.1, imm (.slice x_v0.1.2.1 v0.1.2.length x_v0.1.2.2) v0.1.2, imm (.slice x_v0.2.1.1 v0.2.1.length x_v0.2.1.2) v0.2.1, imm (.slice x_v0.2.2.1 v0.2.2.length x_v0.2.2.2) v0.2.2] [] (ι := Unit) (fun _ => .bool (r)) (fun _ => []) (fun _ => []) := by
 refine cof (args := [_]) Tryz.func11 Tryz.ntmps11 fun c => ?_
 unfold p_impl_StoreOk at H
 refine Tr.openD Ent.z fun X1 => (Tr.openD Ent.z.s.s fun X2 => (Tr.openD Ent.z.s.s.s.s fun X3 => (sr (f1 (e_box (t := 39) rfl) fun g4 => (Rg.a (v := .bool (false)) rfl (nl (Tr.seq (bdo H fun b5 j6 H => (tMid1 [(24, .bool (b5)), (1, .pointer (some ⟨g4, 0, none⟩))] ?_ ?_)))))))))
 ·refine tLinT [(1, .pointer (some ⟨g4, 0, none⟩))] ⟨rfl, trivial⟩ (Lin.p (p_fabE fa39_0 rfl rfl) (Lin.o (v := .agg #[.slice x_v0.1.1.1 v0.1.1.length x_v0.1.1.2, .slice x_v0.1.2.1 v0.1.2.length x_v0.1.2.2]) (q_ldbP [.slice x_v0.1.1.1 v0.1.1.length x_v0.1.1.2, .slice x_v0.1.2.1 v0.1.2.length x_v0.1.2.2] ty35 rfl Has.here rfl rfl) (bdo j6 fun r7 h8 j6 => (Lin.o (q_call (c_impl_IndexOk v0.1 x_v0.1 h8) rfl (EntsB.cons (Ent.b (Ent.dimm Ent.z.s.s)) (EntsB.cons (Ent.b (Ent.dimm Ent.z.s)) EntsB.nil))) (Lin.p (p_not rfl) ?_)))))
  rcases Bool.eq_false_or_eq_true (!r7) with h9 | h9
  ·have j6 := cdT h9 j6
   refine Lin.e_ (p_move rfl) h9 ?_
   iterate 4 refine Lin.sk rfl ?_
   refine Lin.p (v := .bool (true)) (p_pickT rfl rfl) (Lin.m (v := .bool (true)) rfl ?_)
   iterate 4 refine Lin.sk rfl ?_
   refine Lin.p (v := .bool (true)) (p_pickT rfl rfl) ?_
   obtain rfl := si j6
   show At _ _ _ _ _ _
   exact n1 ⟨rfl, rfl, trivial⟩
  ·have j6 := cdF h9 j6
   refine Lin.e_ (p_move rfl) h9 (Lin.h rfl (p_fabE fa39_1 rfl rfl) (Lin.i rfl (q_ldb ty36 rfl Has.here rfl) (Lin.h rfl (p_len 72 Tryz.underlying36 rfl) (Lin.h rfl (p_gtr rfl rfl) (Lin.p (p_pickF rfl rfl) ?_)))))
   rcases Bool.eq_false_or_eq_true (decide (6 < (v0.2.1.length : Int))) with h10 | h10
   ·have j6 := cdT h10 j6
    refine Lin.e_ (p_move rfl) h10 ?_
    iterate 4 refine Lin.sk rfl ?_
    refine Lin.p (v := .bool (true)) (p_pickT rfl rfl) ?_
    obtain rfl := si j6
    show At _ _ _ _ _ _
    exact n1 ⟨rfl, rfl, trivial⟩
   ·have j6 := cdF h10 j6
    refine Lin.e_ (p_move rfl) h10 (Lin.h rfl (p_fabE fa39_2 rfl rfl) (Lin.i rfl (q_ldb ty37 rfl Has.here rfl) (Lin.h rfl (p_len 75 Tryz.underlying37 rfl) (Lin.h rfl (p_gtr rfl rfl) (Lin.p (p_pickF rfl rfl) ?_)))))
    obtain rfl := si j6
    show At _ _ _ _ _ _
    exact n1 ⟨rfl, rfl, trivial⟩
 refine cH H rfl (fun h11 H => ?_) (fun h11 H => ?_)
 ·refine sr (Rg.a (v := .bool (false)) rfl (nl (tRet (rT (?_)))))
  obtain rfl := si H
  exact bk
 ·refine tSkip (nT (sr (Rg.p (p_fabE fa39_0 rfl rfl) (Rg.p (p_fabE fa35_0 rfl rfl) (Rg.o (q_ldb ty32 rfl Has.here rfl) (Rg.p (p_len 56 Tryz.underlying32 rfl) (Rg.a rfl (nl (Tr.seq (sr (Rg.p (p_fabE fa39_1 rfl rfl) ?_)))))))))))
  refine Rg.o (q_ldb ty36 rfl Has.here rfl) (Rg.p (p_len 72 Tryz.underlying36 rfl) (Rg.m (v := .int .i64 (0)) rfl (nl (bdo H fun x12 hx13 H => (tMidI (Λ := Unit) H (fun _ _ => [(1, .pointer (some ⟨g4, 0, none⟩)), (3, .int .i64 ((v0.1.1.length : Int)))]) (fun _ _ => [box g4 39 [.slice x_v0.1.1.1 v0.1.1.length x_v0.1.1.2, .slice x_v0.1.2.1 v0.1.2.length x_v0.1.2.2, .slice x_v0.2.1.1 v0.2.1.length x_v0.2.1.2, .slice x_v0.2.2.1 v0.2.2.length x_v0.2.2.2]]) ?_ ?_)))))
  ·refine Tr.block (tLoopI hx13 () (fun Q16 _ => [(1, .pointer (some ⟨g4, 0, none⟩)), (3, .int .i64 ((v0.1.1.length : Int))), (30, .slice x_v0.2.1.1 v0.2.1.length x_v0.2.1.2), (31, .int .i64 ((v0.2.1.length : Int))), (32, .int .i64 (Q16))]) (fun _ _ => [box g4 39 [.slice x_v0.1.1.1 v0.1.1.length x_v0.1.1.2, .slice x_v0.1.2.1 v0.1.2.length x_v0.1.2.2, .slice x_v0.2.1.1 v0.2.1.length x_v0.2.1.2, .slice x_v0.2.2.1 v0.2.2.length x_v0.2.2.2]]) (.cons Del.here .nil) ?_)
   rintro _ Q16 z17 t19 H1 hi20 hb21
   unfold p_impl_StoreOk_b0 at H1
   refine sr (Rg.p (p_lss rfl rfl) (nl (Tr.seq (cH H1 rfl (fun h24 H1 => ?_) (fun h24 H1 => ?_)))))
   ·refine tSkip (nT (Tr.seq (Tr.block (sr (gdo H1 fun h25 H1 => (Rg.o (q_ixg Tryz.underlying36 ty72 rfl rfl h25 rfl (Ent.b (Ent.darr Ent.z))) (Rg.o (v := .agg #[.slice (((X3 Q16.toNat).1).1) (((nth v0.2.1 Q16.toNat).1).length) (((X3 Q16.toNat).1).2.1), .slice (((X3 Q16.toNat).2).1) (((nth v0.2.1 Q16.toNat).2).length) (((X3 Q16.toNat).2).2.1)]) (q_ldeA (i := Q16.toNat) ty72 rfl (Ent.b (Ent.darr Ent.z)) h25.lt) (f1 (e_alloc ty72) fun g26 => (stb (cs' := [.slice (((X3 Q16.toNat).1).1) (((nth v0.2.1 Q16.toNat).1).length) (((X3 Q16.toNat).1).2.1), .slice (((X3 Q16.toNat).2).1) (((nth v0.2.1 Q16.toNat).2).length) (((X3 Q16.toNat).2).2.1)]) ty72 Upd.here (nl ?_))))))))))
    refine bdo H1 fun b27 j28 H1 => (tMid1 [(51, .bool (b27)), (1, .pointer (some ⟨g4, 0, none⟩)), (3, .int .i64 ((v0.1.1.length : Int))), (30, .slice x_v0.2.1.1 v0.2.1.length x_v0.2.1.2), (31, .int .i64 ((v0.2.1.length : Int))), (32, .int .i64 (Q16))] ?_ ?_)
    ·refine tLinT [(5, .pointer (some ⟨g26, 0, none⟩)), (1, .pointer (some ⟨g4, 0, none⟩)), (3, .int .i64 ((v0.1.1.length : Int))), (30, .slice x_v0.2.1.1 v0.2.1.length x_v0.2.1.2), (31, .int .i64 ((v0.2.1.length : Int))), (32, .int .i64 (Q16))] ⟨rfl, rfl, rfl, rfl, rfl, rfl, trivial⟩ (Lin.o (q_ldbA ty72 rfl Has.here rfl) (bdo j28 fun r29 h30 j28 => (Lin.o (q_call (c_impl_PartOk (nth v0.2.1 Q16.toNat) ((((X3 Q16.toNat).1).1, ((X3 Q16.toNat).1).2.1), (((X3 Q16.toNat).2).1, ((X3 Q16.toNat).2).2.1)) h30) rfl (EntsB.cons (Ent.b (Ent.dimm (Ent.dfst (Ent.del Ent.z h25.lt)))) (EntsB.cons (Ent.b (Ent.dimm (Ent.dsnd (Ent.del Ent.z h25.lt)))) EntsB.nil))) (Lin.p (p_not rfl) ?_))))
     rcases Bool.eq_false_or_eq_true (!r29) with h31 | h31
     ·have j28 := cdT h31 j28
      refine Lin.e_ (p_move rfl) h31 ?_
      iterate 4 refine Lin.sk rfl ?_
      refine Lin.p (v := .bool (true)) (p_pickT rfl rfl) (Lin.m (v := .bool (true)) rfl ?_)
      iterate 5 refine Lin.sk rfl ?_
      refine Lin.p (v := .bool (true)) (p_pickT rfl rfl) ?_
      obtain rfl := si j28
      show At _ _ _ _ _ _
      exact n1 ⟨rfl, rfl, rfl, rfl, rfl, rfl, trivial⟩
     ·have j28 := cdF h31 j28
      refine Lin.e_ (p_move rfl) h31 (Lin.h rfl (p_fabE fa72_0 rfl rfl) (Lin.i rfl (q_ldb ty69 rfl Has.here rfl) (Lin.h rfl (p_len 3 Tryz.underlying69 rfl) (Lin.h rfl (p_eql rfl rfl) (Lin.p (p_pickF rfl rfl) ?_)))))
      rcases Bool.eq_false_or_eq_true (decide ((((nth v0.2.1 Q16.toNat).1).length : Int) = 0)) with h32 | h32
      ·have j28 := cdT h32 j28
       refine Lin.e_ (p_move rfl) h32 ?_
       iterate 5 refine Lin.sk rfl ?_
       refine Lin.p (v := .bool (true)) (p_pickT rfl rfl) ?_
       obtain rfl := si j28
       show At _ _ _ _ _ _
       exact n1 ⟨rfl, rfl, rfl, rfl, rfl, rfl, trivial⟩
      ·have j28 := cdF h32 j28
       refine Lin.e_ (p_move rfl) h32 (Lin.h rfl (p_fabE fa72_0 rfl rfl) (Lin.i rfl (q_ldb ty69 rfl Has.here rfl) (bdo j28 fun r33 h34 j28 => (Lin.i rfl (q_call (c_slices_Max_int_int ((nth v0.2.1 Q16.toNat).1) (((X3 Q16.toNat).1).1, ((X3 Q16.toNat).1).2.1) h34) rfl (EntsB.cons (Ent.b (Ent.dimm (Ent.dfst (Ent.del Ent.z h25.lt)))) EntsB.nil)) (Lin.h rfl (p_move rfl) (Lin.h rfl (p_gtr rfl rfl) (Lin.p (p_pickF rfl rfl) ?_)))))))
       obtain rfl := si j28
       show At _ _ _ _ _ _
       exact n1 ⟨rfl, rfl, rfl, rfl, rfl, rfl, trivial⟩
    refine cH H1 rfl (fun h35 H1 => ?_) (fun h35 H1 => ?_)
    ·refine sr (Rg.a (v := .bool (false)) rfl (nl (tRet (rB (rT (rT (rB (rT (rT (?_))))))))))
     obtain rfl := hb21 _ (sm H1)
     replace H := sw.r H
     obtain rfl := si H
     exact bk
    ·exact tSkip (nB (nT (Tr.region (gdo H1 fun h36 H1 => (Rg.p (p_add rfl rfl h36) (Rg.m rfl (Rg.nl (nLI () (hi20 _ (sm H1)) (.cons dl1 .nil)))))))))
   ·exact tExit (xT (xT (xE (nMI () (hb21 _ (sm H1)) (.cons Del.here .nil)))))
  ·rintro e37 y18 H
   refine nT (Tr.seq (sr (Rg.p (p_fabE fa39_2 rfl rfl) (Rg.o (q_ldb ty37 rfl Has.here rfl) (Rg.p (p_len 75 Tryz.underlying37 rfl) (Rg.m (v := .int .i64 (0)) rfl (nl (bdo H fun x38 hx39 H => (tMidI (Λ := Unit) H (fun _ _ => [(1, .pointer (some ⟨g4, 0, none⟩)), (3, .int .i64 ((v0.1.1.length : Int)))]) (fun _ _ => [box g4 39 [.slice x_v0.1.1.1 v0.1.1.length x_v0.1.1.2, .slice x_v0.1.2.1 v0.1.2.length x_v0.1.2.2, .slice x_v0.2.1.1 v0.2.1.length x_v0.2.1.2, .slice x_v0.2.2.1 v0.2.2.length x_v0.2.2.2]]) ?_ ?_)))))))))
   ·refine Tr.block (tLoopI hx39 () (fun Q42 _ => [(1, .pointer (some ⟨g4, 0, none⟩)), (3, .int .i64 ((v0.1.1.length : Int))), (54, .slice x_v0.2.2.1 v0.2.2.length x_v0.2.2.2), (55, .int .i64 ((v0.2.2.length : Int))), (56, .int .i64 (Q42))]) (fun _ _ => [box g4 39 [.slice x_v0.1.1.1 v0.1.1.length x_v0.1.1.2, .slice x_v0.1.2.1 v0.1.2.length x_v0.1.2.2, .slice x_v0.2.1.1 v0.2.1.length x_v0.2.1.2, .slice x_v0.2.2.1 v0.2.2.length x_v0.2.2.2]]) (.cons Del.here .nil) ?_)
    rintro _ Q42 z43 t45 H1 hi46 hb47
    unfold p_impl_StoreOk_b1 at H1
    refine sr (Rg.p (p_lss rfl rfl) (nl (Tr.seq (cH H1 rfl (fun h50 H1 => ?_) (fun h50 H1 => ?_)))))
    ·refine tSkip (nT (Tr.seq (Tr.block (sr (gdo H1 fun h51 H1 => (Rg.o (q_ixg Tryz.underlying37 ty75 rfl rfl h51 rfl (EntB.flat (Ent.b Ent.z.s.s.s.s.s.s))) (Rg.o (v := .agg #[.int .i64 ((nth v0.2.2 Q42.toNat).1), .int .i64 (((nth v0.2.2 Q42.toNat).2).1), .int .i64 (((nth v0.2.2 Q42.toNat).2).2)]) (q_ldeA (i := Q42.toNat) ty75 rfl (EntB.flat (Ent.b Ent.z.s.s.s.s.s.s)) h51.lt) (f1 (e_alloc ty75) fun g52 => (stb (cs' := [.int .i64 ((nth v0.2.2 Q42.toNat).1), .int .i64 (((nth v0.2.2 Q42.toNat).2).1), .int .i64 (((nth v0.2.2 Q42.toNat).2).2)]) ty75 Upd.here (nl ?_))))))))))
     refine bdo H1 fun b53 j54 H1 => (tMid1 [(70, .bool (b53)), (1, .pointer (some ⟨g4, 0, none⟩)), (3, .int .i64 ((v0.1.1.length : Int))), (54, .slice x_v0.2.2.1 v0.2.2.length x_v0.2.2.2), (55, .int .i64 ((v0.2.2.length : Int))), (56, .int .i64 (Q42))] ?_ ?_)
     ·refine tLinT [(7, .pointer (some ⟨g52, 0, none⟩)), (1, .pointer (some ⟨g4, 0, none⟩)), (3, .int .i64 ((v0.1.1.length : Int))), (54, .slice x_v0.2.2.1 v0.2.2.length x_v0.2.2.2), (55, .int .i64 ((v0.2.2.length : Int))), (56, .int .i64 (Q42))] ⟨rfl, rfl, rfl, rfl, rfl, rfl, trivial⟩ (Lin.p (p_fabE fa75_0 rfl rfl) (Lin.o (q_ldb ty3 rfl Has.here rfl) (Lin.m rfl (bdo j54 fun r55 h56 j54 => (Lin.o (q_call (c_impl_within ((nth v0.2.2 Q42.toNat).1) 1 (v0.1.1.length : Int) h56) rfl EntsB.nil) (Lin.p (p_not rfl) ?_))))))
      rcases Bool.eq_false_or_eq_true (!r55) with h57 | h57
      ·have j54 := cdT h57 j54
       refine Lin.e_ (p_move rfl) h57 ?_
       iterate 4 refine Lin.sk rfl ?_
       refine Lin.p (v := .bool (true)) (p_pickT rfl rfl) ?_
       obtain rfl := si j54
       show At _ _ _ _ _ _
       exact n1 ⟨rfl, rfl, rfl, rfl, rfl, rfl, trivial⟩
      ·have j54 := cdF h57 j54
       refine Lin.e_ (p_move rfl) h57 (Lin.h rfl (p_fabE fa75_1 rfl rfl) (Lin.i (v := .agg #[.int .i64 (((nth v0.2.2 Q42.toNat).2).1), .int .i64 (((nth v0.2.2 Q42.toNat).2).2)]) rfl (q_ldbP [.int .i64 (((nth v0.2.2 Q42.toNat).2).1), .int .i64 (((nth v0.2.2 Q42.toNat).2).2)] ty58 rfl Has.here rfl rfl) (bdo j54 fun r58 h59 j54 => (Lin.i rfl (q_call (c_impl_rowOk ((nth v0.2.2 Q42.toNat).2) h59) rfl EntsB.nil) (Lin.h rfl (p_not rfl) (Lin.p (p_pickF rfl rfl) ?_))))))
       obtain rfl := si j54
       show At _ _ _ _ _ _
       exact n1 ⟨rfl, rfl, rfl, rfl, rfl, rfl, trivial⟩
     refine cH H1 rfl (fun h60 H1 => ?_) (fun h60 H1 => ?_)
     ·refine sr (Rg.a (v := .bool (false)) rfl (nl (tRet (rB (rT (rT (rB (rT (rT (?_))))))))))
      obtain rfl := hb47 _ (sm H1)
      replace H := sw.r H
      obtain rfl := si H
      exact bk
     ·exact tSkip (nB (nT (Tr.region (gdo H1 fun h61 H1 => (Rg.p (p_add rfl rfl h61) (Rg.m rfl (Rg.nl (nLI () (hi46 _ (sm H1)) (.cons dl1 .nil)))))))))
    ·exact tExit (xT (xT (xE (nMI () (hb47 _ (sm H1)) (.cons Del.here .nil)))))
   ·rintro e62 y44 H
    refine nT (Tr.seq (sr (Rg.a (v := .int .i64 (1)) rfl (nl (bdo H fun x63 hx64 H => (tMidI (Λ := Unit) H (fun _ _ => []) (fun _ _ => []) ?_ ?_))))))
    ·refine Tr.block (tLoopI hx64 () (fun Q67 _ => [(1, .pointer (some ⟨g4, 0, none⟩)), (3, .int .i64 ((v0.1.1.length : Int))), (8, .int .i64 (Q67))]) (fun _ _ => [box g4 39 [.slice x_v0.1.1.1 v0.1.1.length x_v0.1.1.2, .slice x_v0.1.2.1 v0.1.2.length x_v0.1.2.2, .slice x_v0.2.1.1 v0.2.1.length x_v0.2.1.2, .slice x_v0.2.2.1 v0.2.2.length x_v0.2.2.2]]) (.cons Del.here .nil) ?_)
     rintro _ Q67 z68 t70 H1 hi71 hb72
     unfold p_impl_StoreOk_b2 at H1
     refine Tr.seq (sr (Rg.m rfl (Rg.m rfl (Rg.p (p_leq rfl rfl) (nl (cH H1 rfl (fun h75 H1 => ?_) (fun h75 H1 => ?_)))))))
     ·refine tSkip (nT (Tr.seq (Tr.block (sr (Rg.o (q_ldbA ty39 rfl Has.here rfl) (Rg.m rfl (bdo H1 fun r76 h77 H1 => (f1 (e_callB (c_impl_Store_rows v0 x_v0 Q67 h77) (fun _ => (Solo.tree Solo.nil)) rfl (EntsB.cons (Ent.b (Ent.dimm Ent.z.s.s)) (EntsB.cons (Ent.b (Ent.dimm Ent.z.s)) (EntsB.cons (Ent.b (Ent.dimm Ent.z)) (EntsB.cons (Ent.b Ent.z.s.s.s.s.s.s) EntsB.nil))))) fun x78 => (Rg.p (p_len 58 Tryz.underlying43 rfl) (Rg.p (p_gtr rfl rfl) (nl ?_)))))))))))
      refine cH H1 rfl (fun h79 H1 => ?_) (fun h79 H1 => ?_)
      ·refine sr (Rg.a (v := .bool (false)) rfl (nl (tRet (rB (rT (rT (rB (rT (rT (?_))))))))))
       obtain rfl := hb72 _ (sm H1)
       replace H := sw.r H
       obtain rfl := si H
       exact bk
      ·exact tSkip (nB (nT (Tr.region (Rg.m rfl (gdo H1 fun h80 H1 => (Rg.p (p_add rfl rfl h80) (Rg.a rfl (Rg.nl (nLI () (hi71 _ (sm H1)) (.cons dl1 .nil))))))))))
     ·exact tExit (xT (xT (xE (nMI () (hb72 _ (sm H1)) Take.nil))))
    ·rintro e81 y69 H
     refine nT (sr (Rg.a (v := .bool (true)) rfl (nl ?_)))
     obtain rfl := si H
     exact tRet bk
noncomputable def p_laws_eqTag (v0 : Tag) (v1 : Tag) : Option (Bool) := cond (!decide (v0.1 = v1.1)) (some false) (cond (!decide (v0.2 = v1.2)) (some false) (some true))
theorem c_laws_eqTag {r : Bool} (v0 : Tag) (v1 : Tag) (H : p_laws_eqTag v0 v1 = some r) : Fn' Tryz.prog 68 #[.agg #[.string (v0.1), .string (v0.2)], .agg #[.string (v1.1), .string (v1.2)]] [] [] (ι := Unit) (fun _ => .bool (r)) (fun _ => []) (fun _ => []) := by
 refine cof (args := [_, _]) Tryz.func68 Tryz.ntmps68 fun c => ?_
 unfold p_laws_eqTag at H
 refine sr (f1 (e_box (t := 96) rfl) fun g1 => (f1 (e_box (t := 96) rfl) fun g2 => (Rg.a (v := .bool (false)) rfl (nl (Tr.seq (sr (Rg.p (p_fabE fa96_0 rfl rfl) (Rg.o (q_ldb ty9 rfl hs1 rfl) (Rg.p (p_fabE fa96_0 rfl rfl) (Rg.o (q_ldb ty9 rfl Has.here rfl) (Rg.p (p_sneq rfl rfl) (nl ?_))))))))))))
 refine cH H rfl (fun h3 H => ?_) (fun h3 H => ?_)
 ·refine sr (Rg.a (v := .bool (false)) rfl (nl (tRet (rT (?_)))))
  obtain rfl := si H
  exact bk
 ·refine tSkip (nT (Tr.seq (sr (Rg.p (p_fabE fa96_1 rfl rfl) (Rg.o (q_ldb ty9 rfl hs1 rfl) (Rg.p (p_fabE fa96_1 rfl rfl) (Rg.o (q_ldb ty9 rfl Has.here rfl) (Rg.p (p_sneq rfl rfl) (nl (cH H rfl (fun h4 H => ?_) (fun h4 H => ?_)))))))))))
  ·refine sr (Rg.a (v := .bool (false)) rfl (nl (tRet (rT (?_)))))
   obtain rfl := si H
   exact bk
  ·refine tSkip (nT (sr (Rg.a (v := .bool (true)) rfl (nl ?_))))
   obtain rfl := si H
   exact tRet bk
noncomputable def p_laws_eqTagS_b0 (v0 : (List Tag)) (v1 : (List Tag)) (Q6 : Int) : Option ((Int) ⊕ (Unit ⊕ Bool)) := cond (decide (Q6 < (v0.length : Int))) (gd (ix Q6 v0.length) <| gd (ix Q6 v1.length) <| bd (p_laws_eqTag (nth v0 Q6.toNat) (nth v1 Q6.toNat)) fun r17 => cond (!r17) (some (.inr (.inr false))) (gd (I64 (Q6 + 1)) <| some (.inl (Q6 + 1)))) (some (.inr (.inl ())))
noncomputable def p_laws_eqTagS (v0 : (List Tag)) (v1 : (List Tag)) : Option (Bool) := cond (!decide ((v0.length : Int) = (v1.length : Int))) (some false) (bd (lp (p_laws_eqTagS_b0 v0 v1) 0) <| sw (fun _ => some true) (fun q => some q))
theorem c_laws_eqTagS {r : Bool} (v0 : (List Tag)) (x_v0 : Option Addr × Nat) (v1 : (List Tag)) (x_v1 : Option Addr × Nat) (H : p_laws_eqTagS v0 v1 = some r) : Fn' Tryz.prog 27 #[.slice x_v0.1 v0.length x_v0.2, .slice x_v1.1 v1.length x_v1.2] [imm (.slice x_v0.1 v0.length x_v0.2) v0, imm (.slice x_v1.1 v1.length x_v1.2) v1] [] (ι := Unit) (fun _ => .bool (r)) (fun _ => []) (fun _ => []) := by
 refine cof (args := [_, _]) Tryz.func27 Tryz.ntmps27 fun c => ?_
 unfold p_laws_eqTagS at H
 refine sr (Rg.a (v := .bool (false)) rfl (nl (Tr.seq (sr (Rg.m rfl (Rg.p (p_len 96 Tryz.underlying56 rfl) (Rg.m rfl (Rg.p (p_len 96 Tryz.underlying56 rfl) (Rg.p (p_neq rfl rfl) (nl (cH H rfl (fun h1 H => ?_) (fun h1 H => ?_))))))))))))
 ·refine sr (Rg.a (v := .bool (false)) rfl (nl (tRet (rT (?_)))))
  obtain rfl := si H
  exact bk
 ·refine tSkip (nT (Tr.seq (sr (Rg.a (v := .int .i64 (0)) rfl (nl (bdo H fun x2 hx3 H => (tMidI (Λ := Unit) H (fun _ _ => []) (fun _ _ => []) ?_ ?_)))))))
  ·refine Tr.block (tLoopI hx3 () (fun Q6 _ => [(0, .slice x_v0.1 v0.length x_v0.2), (1, .slice x_v1.1 v1.length x_v1.2), (5, .int .i64 (Q6))]) (fun _ _ => []) Take.nil ?_)
   rintro _ Q6 z7 t9 H1 hi10 hb11
   unfold p_laws_eqTagS_b0 at H1
   refine Tr.seq (sr (Rg.m rfl (Rg.m rfl (Rg.p (p_len 96 Tryz.underlying56 rfl) (Rg.p (p_lss rfl rfl) (nl (cH H1 rfl (fun h14 H1 => ?_) (fun h14 H1 => ?_))))))))
   ·refine tSkip (nT (Tr.seq (Tr.block (Tr.seq (tLinS [(0, .slice x_v0.1 v0.length x_v0.2), (1, .slice x_v1.1 v1.length x_v1.2), (5, .int .i64 (Q6))] Tryz.mixed (.inr (by kernel_rfl)) ⟨rfl, rfl, rfl, trivial⟩ rfl (Lin.m rfl (Lin.m rfl (gdo H1 fun h15 H1 => (Lin.o (q_ixg Tryz.underlying56 ty96 rfl rfl h15 rfl (EntB.flat (Ent.b Ent.z))) (Lin.o (v := .agg #[.string ((nth v0 Q6.toNat).1), .string ((nth v0 Q6.toNat).2)]) (q_ldeA (i := Q6.toNat) ty96 rfl (EntB.flat (Ent.b Ent.z)) h15.lt) ?_))))))))))
    refine Lin.m rfl (Lin.m rfl (gdo H1 fun h16 H1 => (Lin.o (q_ixg Tryz.underlying56 ty96 rfl rfl h16 rfl (EntB.flat (Ent.b Ent.z.s))) (Lin.o (v := .agg #[.string ((nth v1 Q6.toNat).1), .string ((nth v1 Q6.toNat).2)]) (q_ldeA (i := Q6.toNat) ty96 rfl (EntB.flat (Ent.b Ent.z.s)) h16.lt) (bdo H1 fun r17 h18 H1 => (Lin.o (q_call (c_laws_eqTag (nth v0 Q6.toNat) (nth v1 Q6.toNat) h18) rfl EntsB.nil) (Lin.p (p_not rfl) (nT (cH H1 rfl (fun h19 H1 => ?_) (fun h19 H1 => ?_))))))))))
    ·refine sr (Rg.a (v := .bool (false)) rfl (nl (tRet (rB (rT (rT (rB (rT (rT (?_))))))))))
     obtain rfl := hb11 _ (sm H1)
     replace H := sw.r H
     obtain rfl := si H
     exact bk
    ·exact tSkip (nB (nT (Tr.region (Rg.m rfl (gdo H1 fun h20 H1 => (Rg.p (p_add rfl rfl h20) (Rg.a rfl (Rg.nl (nLI () (hi10 _ (sm H1)) Take.nil)))))))))
   ·exact tExit (xT (xT (xE (nMI () (hb11 _ (sm H1)) Take.nil))))
  ·rintro e21 y8 H
   refine nT (sr (Rg.a (v := .bool (true)) rfl (nl ?_)))
   obtain rfl := si H
   exact tRet bk
noncomputable def p_laws_eqTagSS_b0 (v0 : (List (List Tag))) (v1 : (List (List Tag))) (Q8 : Int) : Option ((Int) ⊕ (Unit ⊕ Bool)) := cond (decide (Q8 < (v0.length : Int))) (gd (ix Q8 v0.length) <| gd (ix Q8 v1.length) <| bd (p_laws_eqTagS (nth v0 Q8.toNat) (nth v1 Q8.toNat)) fun r19 => cond (!r19) (some (.inr (.inr false))) (gd (I64 (Q8 + 1)) <| some (.inl (Q8 + 1)))) (some (.inr (.inl ())))
noncomputable def p_laws_eqTagSS (v0 : (List (List Tag))) (v1 : (List (List Tag))) : Option (Bool) := cond (!decide ((v0.length : Int) = (v1.length : Int))) (some false) (bd (lp (p_laws_eqTagSS_b0 v0 v1) 0) <| sw (fun _ => some true) (fun q => some q))
theorem c_laws_eqTagSS {r : Bool} (v0 : (List (List Tag))) (x_v0 : Option Addr × Nat) (v1 : (List (List Tag))) (x_v1 : Option Addr × Nat) (H : p_laws_eqTagSS v0 v1 = some r) : Fn' Tryz.prog 96 #[.slice x_v0.1 v0.length x_v0.2, .slice x_v1.1 v1.length x_v1.2] [imm (.slice x_v0.1 v0.length x_v0.2) v0, imm (.slice x_v1.1 v1.length x_v1.2) v1] [] (ι := Unit) (fun _ => .bool (r)) (fun _ => []) (fun _ => []) := by
 refine cof (args := [_, _]) Tryz.func96 Tryz.ntmps96 fun c => ?_
 unfold p_laws_eqTagSS at H
 refine Tr.openD Ent.z fun X1 => (Tr.openD Ent.z.s.s fun X2 => (sr (Rg.a (v := .bool (false)) rfl (nl (Tr.seq (sr (Rg.m rfl (Rg.p (p_len 56 Tryz.underlying32 rfl) (Rg.m rfl (Rg.p (p_len 56 Tryz.underlying32 rfl) (Rg.p (p_neq rfl rfl) (nl ?_))))))))))))
 refine cH H rfl (fun h3 H => ?_) (fun h3 H => ?_)
 ·refine sr (Rg.a (v := .bool (false)) rfl (nl (tRet (rT (?_)))))
  obtain rfl := si H
  exact bk
 ·refine tSkip (nT (Tr.seq (sr (Rg.a (v := .int .i64 (0)) rfl (nl (bdo H fun x4 hx5 H => (tMidI (Λ := Unit) H (fun _ _ => []) (fun _ _ => []) ?_ ?_)))))))
  ·refine Tr.block (tLoopI hx5 () (fun Q8 _ => [(0, .slice x_v0.1 v0.length x_v0.2), (1, .slice x_v1.1 v1.length x_v1.2), (5, .int .i64 (Q8))]) (fun _ _ => []) Take.nil ?_)
   rintro _ Q8 z9 t11 H1 hi12 hb13
   unfold p_laws_eqTagSS_b0 at H1
   refine Tr.seq (sr (Rg.m rfl (Rg.m rfl (Rg.p (p_len 56 Tryz.underlying32 rfl) (Rg.p (p_lss rfl rfl) (nl (cH H1 rfl (fun h16 H1 => ?_) (fun h16 H1 => ?_))))))))
   ·refine tSkip (nT (Tr.seq (Tr.block (Tr.seq (tLinS [(0, .slice x_v0.1 v0.length x_v0.2), (1, .slice x_v1.1 v1.length x_v1.2), (5, .int .i64 (Q8))] Tryz.mixed (.inr (by kernel_rfl)) ⟨rfl, rfl, rfl, trivial⟩ rfl (Lin.m rfl (Lin.m rfl (gdo H1 fun h17 H1 => (Lin.o (q_ixg Tryz.underlying32 ty56 rfl rfl h17 rfl (Ent.b (Ent.darr Ent.z.s))) (Lin.o (q_lde (i := Q8.toNat) (j := 0) ty56 rfl (Ent.b (Ent.darr Ent.z.s)) h17.lt rfl) ?_))))))))))
    refine Lin.m rfl (Lin.m rfl (gdo H1 fun h18 H1 => (Lin.o (q_ixg Tryz.underlying32 ty56 rfl rfl h18 rfl (Ent.b (Ent.darr Ent.z))) (Lin.o (q_lde (i := Q8.toNat) (j := 0) ty56 rfl (Ent.b (Ent.darr Ent.z)) h18.lt rfl) (bdo H1 fun r19 h20 H1 => (Lin.o (q_call (c_laws_eqTagS (nth v0 Q8.toNat) ((X1 Q8.toNat).1, (X1 Q8.toNat).2.1) (nth v1 Q8.toNat) ((X2 Q8.toNat).1, (X2 Q8.toNat).2.1) h20) rfl (EntsB.cons (Ent.b (Ent.dimm (Ent.del Ent.z.s h17.lt))) (EntsB.cons (Ent.b (Ent.dimm (Ent.del Ent.z h18.lt))) EntsB.nil))) (Lin.p (p_not rfl) (nT (cH H1 rfl (fun h21 H1 => ?_) (fun h21 H1 => ?_))))))))))
    ·refine sr (Rg.a (v := .bool (false)) rfl (nl (tRet (rB (rT (rT (rB (rT (rT (?_))))))))))
     obtain rfl := hb13 _ (sm H1)
     replace H := sw.r H
     obtain rfl := si H
     exact bk
    ·exact tSkip (nB (nT (Tr.region (Rg.m rfl (gdo H1 fun h22 H1 => (Rg.p (p_add rfl rfl h22) (Rg.a rfl (Rg.nl (nLI () (hi12 _ (sm H1)) Take.nil)))))))))
   ·exact tExit (xT (xT (xE (nMI () (hb13 _ (sm H1)) Take.nil))))
  ·rintro e23 y10 H
   refine nT (sr (Rg.a (v := .bool (true)) rfl (nl ?_)))
   obtain rfl := si H
   exact tRet bk
noncomputable def p_laws_eqIntS_b0 (v0 : (List Int)) (v1 : (List Int)) (Q6 : Int) : Option ((Int) ⊕ (Unit ⊕ Bool)) := cond (decide (Q6 < (v0.length : Int))) (gd (ix Q6 v0.length) <| gd (ix Q6 v1.length) <| cond (!decide ((nth v0 Q6.toNat) = (nth v1 Q6.toNat))) (some (.inr (.inr false))) (gd (I64 (Q6 + 1)) <| some (.inl (Q6 + 1)))) (some (.inr (.inl ())))
noncomputable def p_laws_eqIntS (v0 : (List Int)) (v1 : (List Int)) : Option (Bool) := cond (!decide ((v0.length : Int) = (v1.length : Int))) (some false) (bd (lp (p_laws_eqIntS_b0 v0 v1) 0) <| sw (fun _ => some true) (fun q => some q))
theorem c_laws_eqIntS {r : Bool} (v0 : (List Int)) (x_v0 : Option Addr × Nat) (v1 : (List Int)) (x_v1 : Option Addr × Nat) (H : p_laws_eqIntS v0 v1 = some r) : Fn' Tryz.prog 135 #[.slice x_v0.1 v0.length x_v0.2, .slice x_v1.1 v1.length x_v1.2] [imm (.slice x_v0.1 v0.length x_v0.2) v0, imm (.slice x_v1.1 v1.length x_v1.2) v1] [] (ι := Unit) (fun _ => .bool (r)) (fun _ => []) (fun _ => []) := by
 refine cof (args := [_, _]) Tryz.func135 Tryz.ntmps135 fun c => ?_
 unfold p_laws_eqIntS at H
 refine sr (Rg.a (v := .bool (false)) rfl (nl (Tr.seq (sr (Rg.m rfl (Rg.p (p_len 3 Tryz.underlying69 rfl) (Rg.m rfl (Rg.p (p_len 3 Tryz.underlying69 rfl) (Rg.p (p_neq rfl rfl) (nl (cH H rfl (fun h1 H => ?_) (fun h1 H => ?_))))))))))))
 ·refine sr (Rg.a (v := .bool (false)) rfl (nl (tRet (rT (?_)))))
  obtain rfl := si H
  exact bk
 ·refine tSkip (nT (Tr.seq (sr (Rg.a (v := .int .i64 (0)) rfl (nl (bdo H fun x2 hx3 H => (tMidI (Λ := Unit) H (fun _ _ => []) (fun _ _ => []) ?_ ?_)))))))
  ·refine Tr.block (tLoopI hx3 () (fun Q6 _ => [(0, .slice x_v0.1 v0.length x_v0.2), (1, .slice x_v1.1 v1.length x_v1.2), (5, .int .i64 (Q6))]) (fun _ _ => []) Take.nil ?_)
   rintro _ Q6 z7 t9 H1 hi10 hb11
   unfold p_laws_eqIntS_b0 at H1
   refine Tr.seq (sr (Rg.m rfl (Rg.m rfl (Rg.p (p_len 3 Tryz.underlying69 rfl) (Rg.p (p_lss rfl rfl) (nl (cH H1 rfl (fun h14 H1 => ?_) (fun h14 H1 => ?_))))))))
   ·refine tSkip (nT (Tr.seq (Tr.block (Tr.seq (tLinS [(0, .slice x_v0.1 v0.length x_v0.2), (1, .slice x_v1.1 v1.length x_v1.2), (5, .int .i64 (Q6))] Tryz.mixed (.inr (by kernel_rfl)) ⟨rfl, rfl, rfl, trivial⟩ rfl (Lin.m rfl (Lin.m rfl (gdo H1 fun h15 H1 => (Lin.o (q_ixg Tryz.underlying69 ty3 rfl rfl h15 rfl (EntB.flat (Ent.b Ent.z))) (Lin.o (q_lde (i := Q6.toNat) (j := 0) ty3 rfl (EntB.flat (Ent.b Ent.z)) h15.lt rfl) ?_))))))))))
    refine Lin.m rfl (Lin.m rfl (gdo H1 fun h16 H1 => (Lin.o (q_ixg Tryz.underlying69 ty3 rfl rfl h16 rfl (EntB.flat (Ent.b Ent.z.s))) (Lin.o (q_lde (i := Q6.toNat) (j := 0) ty3 rfl (EntB.flat (Ent.b Ent.z.s)) h16.lt rfl) (Lin.p (p_neq rfl rfl) (nT (cH H1 rfl (fun h17 H1 => ?_) (fun h17 H1 => ?_))))))))
    ·refine sr (Rg.a (v := .bool (false)) rfl (nl (tRet (rB (rT (rT (rB (rT (rT (?_))))))))))
     obtain rfl := hb11 _ (sm H1)
     replace H := sw.r H
     obtain rfl := si H
     exact bk
    ·exact tSkip (nB (nT (Tr.region (Rg.m rfl (gdo H1 fun h18 H1 => (Rg.p (p_add rfl rfl h18) (Rg.a rfl (Rg.nl (nLI () (hi10 _ (sm H1)) Take.nil)))))))))
   ·exact tExit (xT (xT (xE (nMI () (hb11 _ (sm H1)) Take.nil))))
  ·rintro e19 y8 H
   refine nT (sr (Rg.a (v := .bool (true)) rfl (nl ?_)))
   obtain rfl := si H
   exact tRet bk
noncomputable def p_laws_eqPost (v0 : Post) (v1 : Post) : Option (Bool) := bd (p_laws_eqTag v0.1 v1.1) fun r3 => cond (!r3) (some false) (bd (p_laws_eqIntS v0.2 v1.2) fun r6 => cond (!r6) (some false) (some true))
theorem c_laws_eqPost {r : Bool} (v0 : Post) (x_v0 : (Unit × Unit) × (Option Addr × Nat)) (v1 : Post) (x_v1 : (Unit × Unit) × (Option Addr × Nat)) (H : p_laws_eqPost v0 v1 = some r) : Fn' Tryz.prog 134 #[.agg #[.string (v0.1.1), .string (v0.1.2), .slice x_v0.2.1 v0.2.length x_v0.2.2], .agg #[.string (v1.1.1), .string (v1.1.2), .slice x_v1.2.1 v1.2.length x_v1.2.2]] [imm (.slice x_v0.2.1 v0.2.length x_v0.2.2) v0.2, imm (.slice x_v1.2.1 v1.2.length x_v1.2.2) v1.2] [] (ι := Unit) (fun _ => .bool (r)) (fun _ => []) (fun _ => []) := by
 refine cof (args := [_, _]) Tryz.func134 Tryz.ntmps134 fun c => ?_
 unfold p_laws_eqPost at H
 refine sr (f1 (e_box (t := 113) rfl) fun g1 => (f1 (e_box (t := 113) rfl) fun g2 => (Rg.a (v := .bool (false)) rfl (nl (Tr.seq (sr (Rg.p (p_fabE fa113_0 rfl rfl) (Rg.o (v := .agg #[.string (v0.1.1), .string (v0.1.2)]) (q_ldbP [.string (v0.1.1), .string (v0.1.2)] ty96 rfl hs1 rfl rfl) (Rg.p (p_fabE fa113_0 rfl rfl) (Rg.o (v := .agg #[.string (v1.1.1), .string (v1.1.2)]) (q_ldbP [.string (v1.1.1), .string (v1.1.2)] ty96 rfl Has.here rfl rfl) (bdo H fun r3 h4 H => ?_)))))))))))
 refine Rg.o (q_call (c_laws_eqTag v0.1 v1.1 h4) rfl EntsB.nil) (Rg.p (p_not rfl) (nl (cH H rfl (fun h5 H => ?_) (fun h5 H => ?_))))
 ·refine sr (Rg.a (v := .bool (false)) rfl (nl (tRet (rT (?_)))))
  obtain rfl := si H
  exact bk
 ·refine tSkip (nT (Tr.seq (sr (Rg.p (p_fabE fa113_1 rfl rfl) (Rg.o (q_ldb ty69 rfl hs1 rfl) (Rg.p (p_fabE fa113_1 rfl rfl) (Rg.o (q_ldb ty69 rfl Has.here rfl) (bdo H fun r6 h7 H => (Rg.o (q_call (c_laws_eqIntS v0.2 x_v0.2 v1.2 x_v1.2 h7) rfl (EntsB.cons (Ent.b Ent.z) (EntsB.cons (Ent.b Ent.z.s) EntsB.nil))) (Rg.p (p_not rfl) (nl ?_)))))))))))
  refine cH H rfl (fun h8 H => ?_) (fun h8 H => ?_)
  ·refine sr (Rg.a (v := .bool (false)) rfl (nl (tRet (rT (?_)))))
   obtain rfl := si H
   exact bk
  ·refine tSkip (nT (sr (Rg.a (v := .bool (true)) rfl (nl ?_))))
   obtain rfl := si H
   exact tRet bk
noncomputable def p_laws_eqPostS_b0 (v0 : (List Post)) (v1 : (List Post)) (Q8 : Int) : Option ((Int) ⊕ (Unit ⊕ Bool)) := cond (decide (Q8 < (v0.length : Int))) (gd (ix Q8 v0.length) <| gd (ix Q8 v1.length) <| bd (p_laws_eqPost (nth v0 Q8.toNat) (nth v1 Q8.toNat)) fun r19 => cond (!r19) (some (.inr (.inr false))) (gd (I64 (Q8 + 1)) <| some (.inl (Q8 + 1)))) (some (.inr (.inl ())))
noncomputable def p_laws_eqPostS (v0 : (List Post)) (v1 : (List Post)) : Option (Bool) := cond (!decide ((v0.length : Int) = (v1.length : Int))) (some false) (bd (lp (p_laws_eqPostS_b0 v0 v1) 0) <| sw (fun _ => some true) (fun q => some q))
theorem c_laws_eqPostS {r : Bool} (v0 : (List Post)) (x_v0 : Option Addr × Nat) (v1 : (List Post)) (x_v1 : Option Addr × Nat) (H : p_laws_eqPostS v0 v1 = some r) : Fn' Tryz.prog 97 #[.slice x_v0.1 v0.length x_v0.2, .slice x_v1.1 v1.length x_v1.2] [imm (.slice x_v0.1 v0.length x_v0.2) v0, imm (.slice x_v1.1 v1.length x_v1.2) v1] [] (ι := Unit) (fun _ => .bool (r)) (fun _ => []) (fun _ => []) := by
 refine cof (args := [_, _]) Tryz.func97 Tryz.ntmps97 fun c => ?_
 unfold p_laws_eqPostS at H
 refine Tr.openD Ent.z fun X1 => (Tr.openD Ent.z.s.s fun X2 => (sr (Rg.a (v := .bool (false)) rfl (nl (Tr.seq (sr (Rg.m rfl (Rg.p (p_len 113 Tryz.underlying33 rfl) (Rg.m rfl (Rg.p (p_len 113 Tryz.underlying33 rfl) (Rg.p (p_neq rfl rfl) (nl ?_))))))))))))
 refine cH H rfl (fun h3 H => ?_) (fun h3 H => ?_)
 ·refine sr (Rg.a (v := .bool (false)) rfl (nl (tRet (rT (?_)))))
  obtain rfl := si H
  exact bk
 ·refine tSkip (nT (Tr.seq (sr (Rg.a (v := .int .i64 (0)) rfl (nl (bdo H fun x4 hx5 H => (tMidI (Λ := Unit) H (fun _ _ => []) (fun _ _ => []) ?_ ?_)))))))
  ·refine Tr.block (tLoopI hx5 () (fun Q8 _ => [(0, .slice x_v0.1 v0.length x_v0.2), (1, .slice x_v1.1 v1.length x_v1.2), (5, .int .i64 (Q8))]) (fun _ _ => []) Take.nil ?_)
   rintro _ Q8 z9 t11 H1 hi12 hb13
   unfold p_laws_eqPostS_b0 at H1
   refine Tr.seq (sr (Rg.m rfl (Rg.m rfl (Rg.p (p_len 113 Tryz.underlying33 rfl) (Rg.p (p_lss rfl rfl) (nl (cH H1 rfl (fun h16 H1 => ?_) (fun h16 H1 => ?_))))))))
   ·refine tSkip (nT (Tr.seq (Tr.block (Tr.seq (tLinS [(0, .slice x_v0.1 v0.length x_v0.2), (1, .slice x_v1.1 v1.length x_v1.2), (5, .int .i64 (Q8))] Tryz.mixed (.inr (by kernel_rfl)) ⟨rfl, rfl, rfl, trivial⟩ rfl (Lin.m rfl (Lin.m rfl (gdo H1 fun h17 H1 => (Lin.o (q_ixg Tryz.underlying33 ty113 rfl rfl h17 rfl (Ent.b (Ent.darr Ent.z.s))) (Lin.o (v := .agg #[.string (((nth v0 Q8.toNat).1).1), .string (((nth v0 Q8.toNat).1).2), .slice (((X1 Q8.toNat).2).1) (((nth v0 Q8.toNat).2).length) (((X1 Q8.toNat).2).2.1)]) (q_ldeA (i := Q8.toNat) ty113 rfl (Ent.b (Ent.darr Ent.z.s)) h17.lt) ?_))))))))))
    refine Lin.m rfl (Lin.m rfl (gdo H1 fun h18 H1 => (Lin.o (q_ixg Tryz.underlying33 ty113 rfl rfl h18 rfl (Ent.b (Ent.darr Ent.z))) (Lin.o (v := .agg #[.string (((nth v1 Q8.toNat).1).1), .string (((nth v1 Q8.toNat).1).2), .slice (((X2 Q8.toNat).2).1) (((nth v1 Q8.toNat).2).length) (((X2 Q8.toNat).2).2.1)]) (q_ldeA (i := Q8.toNat) ty113 rfl (Ent.b (Ent.darr Ent.z)) h18.lt) (bdo H1 fun r19 h20 H1 => (Lin.o (q_call (c_laws_eqPost (nth v0 Q8.toNat) (((), ()), (((X1 Q8.toNat).2).1, ((X1 Q8.toNat).2).2.1)) (nth v1 Q8.toNat) (((), ()), (((X2 Q8.toNat).2).1, ((X2 Q8.toNat).2).2.1)) h20) rfl (EntsB.cons (Ent.b (Ent.dimm (Ent.dsnd (Ent.del Ent.z.s h17.lt)))) (EntsB.cons (Ent.b (Ent.dimm (Ent.dsnd (Ent.del Ent.z h18.lt)))) EntsB.nil))) (Lin.p (p_not rfl) (nT (cH H1 rfl (fun h21 H1 => ?_) (fun h21 H1 => ?_))))))))))
    ·refine sr (Rg.a (v := .bool (false)) rfl (nl (tRet (rB (rT (rT (rB (rT (rT (?_))))))))))
     obtain rfl := hb13 _ (sm H1)
     replace H := sw.r H
     obtain rfl := si H
     exact bk
    ·exact tSkip (nB (nT (Tr.region (Rg.m rfl (gdo H1 fun h22 H1 => (Rg.p (p_add rfl rfl h22) (Rg.a rfl (Rg.nl (nLI () (hi12 _ (sm H1)) Take.nil)))))))))
   ·exact tExit (xT (xT (xE (nMI () (hb13 _ (sm H1)) Take.nil))))
  ·rintro e23 y10 H
   refine nT (sr (Rg.a (v := .bool (true)) rfl (nl ?_)))
   obtain rfl := si H
   exact tRet bk
noncomputable def p_laws_eqIndex (v0 : Index) (v1 : Index) : Option (Bool) := bd (p_laws_eqTagSS v0.1 v1.1) fun r7 => cond (!r7) (some false) (bd (p_laws_eqPostS v0.2 v1.2) fun r10 => cond (!r10) (some false) (some true))
theorem c_laws_eqIndex {r : Bool} (v0 : Index) (x_v0 : (Option Addr × Nat) × (Option Addr × Nat)) (v1 : Index) (x_v1 : (Option Addr × Nat) × (Option Addr × Nat)) (H : p_laws_eqIndex v0 v1 = some r) : Fn' Tryz.prog 48 #[.agg #[.slice x_v0.1.1 v0.1.length x_v0.1.2, .slice x_v0.2.1 v0.2.length x_v0.2.2], .agg #[.slice x_v1.1.1 v1.1.length x_v1.1.2, .slice x_v1.2.1 v1.2.length x_v1.2.2]] [imm (.slice x_v0.1.1 v0.1.length x_v0.1.2) v0.1, imm (.slice x_v0.2.1 v0.2.length x_v0.2.2) v0.2, imm (.slice x_v1.1.1 v1.1.length x_v1.1.2) v1.1, imm (.slice x_v1.2.1 v1.2.length x_v1.2.2) v1.2] [] (ι := Unit) (fun _ => .bool (r)) (fun _ => []) (fun _ => []) := by
 refine cof (args := [_, _]) Tryz.func48 Tryz.ntmps48 fun c => ?_
 unfold p_laws_eqIndex at H
 refine Tr.openD Ent.z fun X1 => (Tr.openD Ent.z.s.s fun X2 => (Tr.openD Ent.z.s.s.s.s fun X3 => (Tr.openD Ent.z.s.s.s.s.s.s fun X4 => (sr (f1 (e_box (t := 35) rfl) fun g5 => (f1 (e_box (t := 35) rfl) fun g6 => (Rg.a (v := .bool (false)) rfl (nl (Tr.seq (sr (Rg.p (p_fabE fa35_0 rfl rfl) ?_)))))))))))
 refine Rg.o (q_ldb ty32 rfl hs1 rfl) (Rg.p (p_fabE fa35_0 rfl rfl) (Rg.o (q_ldb ty32 rfl Has.here rfl) (bdo H fun r7 h8 H => (Rg.o (q_call (c_laws_eqTagSS v0.1 x_v0.1 v1.1 x_v1.1 h8) rfl (EntsB.cons (Ent.b (Ent.dimm Ent.z.s.s.s)) (EntsB.cons (Ent.b (Ent.dimm Ent.z.s)) EntsB.nil))) (Rg.p (p_not rfl) (nl (cH H rfl (fun h9 H => ?_) (fun h9 H => ?_))))))))
 ·refine sr (Rg.a (v := .bool (false)) rfl (nl (tRet (rT (?_)))))
  obtain rfl := si H
  exact bk
 ·refine tSkip (nT (Tr.seq (sr (Rg.p (p_fabE fa35_1 rfl rfl) (Rg.o (q_ldb ty33 rfl hs1 rfl) (Rg.p (p_fabE fa35_1 rfl rfl) (Rg.o (q_ldb ty33 rfl Has.here rfl) (bdo H fun r10 h11 H => (Rg.o (q_call (c_laws_eqPostS v0.2 x_v0.2 v1.2 x_v1.2 h11) rfl (EntsB.cons (Ent.b (Ent.dimm Ent.z.s.s)) (EntsB.cons (Ent.b (Ent.dimm Ent.z)) EntsB.nil))) (Rg.p (p_not rfl) (nl ?_)))))))))))
  refine cH H rfl (fun h12 H => ?_) (fun h12 H => ?_)
  ·refine sr (Rg.a (v := .bool (false)) rfl (nl (tRet (rT (?_)))))
   obtain rfl := si H
   exact bk
  ·refine tSkip (nT (sr (Rg.a (v := .bool (true)) rfl (nl ?_))))
   obtain rfl := si H
   exact tRet bk
noncomputable def p_laws_eqRow (v0 : Row) (v1 : Row) : Option (Bool) := cond (!decide (v0.1 = v1.1)) (some false) (cond (!decide (v0.2 = v1.2)) (some false) (some true))
theorem c_laws_eqRow {r : Bool} (v0 : Row) (v1 : Row) (H : p_laws_eqRow v0 v1 = some r) : Fn' Tryz.prog 51 #[.agg #[.int .i64 (v0.1), .int .i64 (v0.2)], .agg #[.int .i64 (v1.1), .int .i64 (v1.2)]] [] [] (ι := Unit) (fun _ => .bool (r)) (fun _ => []) (fun _ => []) := by
 refine cof (args := [_, _]) Tryz.func51 Tryz.ntmps51 fun c => ?_
 unfold p_laws_eqRow at H
 refine sr (f1 (e_box (t := 58) rfl) fun g1 => (f1 (e_box (t := 58) rfl) fun g2 => (Rg.a (v := .bool (false)) rfl (nl (Tr.seq (sr (Rg.p (p_fabE fa58_0 rfl rfl) (Rg.o (q_ldb ty3 rfl hs1 rfl) (Rg.p (p_fabE fa58_0 rfl rfl) (Rg.o (q_ldb ty3 rfl Has.here rfl) (Rg.p (p_neq rfl rfl) (nl ?_))))))))))))
 refine cH H rfl (fun h3 H => ?_) (fun h3 H => ?_)
 ·refine sr (Rg.a (v := .bool (false)) rfl (nl (tRet (rT (?_)))))
  obtain rfl := si H
  exact bk
 ·refine tSkip (nT (Tr.seq (sr (Rg.p (p_fabE fa58_1 rfl rfl) (Rg.o (q_ldb ty3 rfl hs1 rfl) (Rg.p (p_fabE fa58_1 rfl rfl) (Rg.o (q_ldb ty3 rfl Has.here rfl) (Rg.p (p_neq rfl rfl) (nl (cH H rfl (fun h4 H => ?_) (fun h4 H => ?_)))))))))))
  ·refine sr (Rg.a (v := .bool (false)) rfl (nl (tRet (rT (?_)))))
   obtain rfl := si H
   exact bk
  ·refine tSkip (nT (sr (Rg.a (v := .bool (true)) rfl (nl ?_))))
   obtain rfl := si H
   exact tRet bk
noncomputable def p_laws_eqRowS_b0 (v0 : (List Row)) (v1 : (List Row)) (Q6 : Int) : Option ((Int) ⊕ (Unit ⊕ Bool)) := cond (decide (Q6 < (v0.length : Int))) (gd (ix Q6 v0.length) <| gd (ix Q6 v1.length) <| bd (p_laws_eqRow (nth v0 Q6.toNat) (nth v1 Q6.toNat)) fun r17 => cond (!r17) (some (.inr (.inr false))) (gd (I64 (Q6 + 1)) <| some (.inl (Q6 + 1)))) (some (.inr (.inl ())))
noncomputable def p_laws_eqRowS (v0 : (List Row)) (v1 : (List Row)) : Option (Bool) := cond (!decide ((v0.length : Int) = (v1.length : Int))) (some false) (bd (lp (p_laws_eqRowS_b0 v0 v1) 0) <| sw (fun _ => some true) (fun q => some q))
theorem c_laws_eqRowS {r : Bool} (v0 : (List Row)) (x_v0 : Option Addr × Nat) (v1 : (List Row)) (x_v1 : Option Addr × Nat) (H : p_laws_eqRowS v0 v1 = some r) : Fn' Tryz.prog 15 #[.slice x_v0.1 v0.length x_v0.2, .slice x_v1.1 v1.length x_v1.2] [imm (.slice x_v0.1 v0.length x_v0.2) v0, imm (.slice x_v1.1 v1.length x_v1.2) v1] [] (ι := Unit) (fun _ => .bool (r)) (fun _ => []) (fun _ => []) := by
 refine cof (args := [_, _]) Tryz.func15 Tryz.ntmps15 fun c => ?_
 unfold p_laws_eqRowS at H
 refine sr (Rg.a (v := .bool (false)) rfl (nl (Tr.seq (sr (Rg.m rfl (Rg.p (p_len 58 Tryz.underlying43 rfl) (Rg.m rfl (Rg.p (p_len 58 Tryz.underlying43 rfl) (Rg.p (p_neq rfl rfl) (nl (cH H rfl (fun h1 H => ?_) (fun h1 H => ?_))))))))))))
 ·refine sr (Rg.a (v := .bool (false)) rfl (nl (tRet (rT (?_)))))
  obtain rfl := si H
  exact bk
 ·refine tSkip (nT (Tr.seq (sr (Rg.a (v := .int .i64 (0)) rfl (nl (bdo H fun x2 hx3 H => (tMidI (Λ := Unit) H (fun _ _ => []) (fun _ _ => []) ?_ ?_)))))))
  ·refine Tr.block (tLoopI hx3 () (fun Q6 _ => [(0, .slice x_v0.1 v0.length x_v0.2), (1, .slice x_v1.1 v1.length x_v1.2), (5, .int .i64 (Q6))]) (fun _ _ => []) Take.nil ?_)
   rintro _ Q6 z7 t9 H1 hi10 hb11
   unfold p_laws_eqRowS_b0 at H1
   refine Tr.seq (sr (Rg.m rfl (Rg.m rfl (Rg.p (p_len 58 Tryz.underlying43 rfl) (Rg.p (p_lss rfl rfl) (nl (cH H1 rfl (fun h14 H1 => ?_) (fun h14 H1 => ?_))))))))
   ·refine tSkip (nT (Tr.seq (Tr.block (Tr.seq (tLinS [(0, .slice x_v0.1 v0.length x_v0.2), (1, .slice x_v1.1 v1.length x_v1.2), (5, .int .i64 (Q6))] Tryz.mixed (.inr (by kernel_rfl)) ⟨rfl, rfl, rfl, trivial⟩ rfl (Lin.m rfl (Lin.m rfl (gdo H1 fun h15 H1 => (Lin.o (q_ixg Tryz.underlying43 ty58 rfl rfl h15 rfl (EntB.flat (Ent.b Ent.z))) (Lin.o (v := .agg #[.int .i64 ((nth v0 Q6.toNat).1), .int .i64 ((nth v0 Q6.toNat).2)]) (q_ldeA (i := Q6.toNat) ty58 rfl (EntB.flat (Ent.b Ent.z)) h15.lt) ?_))))))))))
    refine Lin.m rfl (Lin.m rfl (gdo H1 fun h16 H1 => (Lin.o (q_ixg Tryz.underlying43 ty58 rfl rfl h16 rfl (EntB.flat (Ent.b Ent.z.s))) (Lin.o (v := .agg #[.int .i64 ((nth v1 Q6.toNat).1), .int .i64 ((nth v1 Q6.toNat).2)]) (q_ldeA (i := Q6.toNat) ty58 rfl (EntB.flat (Ent.b Ent.z.s)) h16.lt) (bdo H1 fun r17 h18 H1 => (Lin.o (q_call (c_laws_eqRow (nth v0 Q6.toNat) (nth v1 Q6.toNat) h18) rfl EntsB.nil) (Lin.p (p_not rfl) (nT (cH H1 rfl (fun h19 H1 => ?_) (fun h19 H1 => ?_))))))))))
    ·refine sr (Rg.a (v := .bool (false)) rfl (nl (tRet (rB (rT (rT (rB (rT (rT (?_))))))))))
     obtain rfl := hb11 _ (sm H1)
     replace H := sw.r H
     obtain rfl := si H
     exact bk
    ·exact tSkip (nB (nT (Tr.region (Rg.m rfl (gdo H1 fun h20 H1 => (Rg.p (p_add rfl rfl h20) (Rg.a rfl (Rg.nl (nLI () (hi10 _ (sm H1)) Take.nil)))))))))
   ·exact tExit (xT (xT (xE (nMI () (hb11 _ (sm H1)) Take.nil))))
  ·rintro e21 y8 H
   refine nT (sr (Rg.a (v := .bool (true)) rfl (nl ?_)))
   obtain rfl := si H
   exact tRet bk
noncomputable def p_laws_eqRowSS_b0 (v0 : (List (List Row))) (v1 : (List (List Row))) (Q8 : Int) : Option ((Int) ⊕ (Unit ⊕ Bool)) := cond (decide (Q8 < (v0.length : Int))) (gd (ix Q8 v0.length) <| gd (ix Q8 v1.length) <| bd (p_laws_eqRowS (nth v0 Q8.toNat) (nth v1 Q8.toNat)) fun r19 => cond (!r19) (some (.inr (.inr false))) (gd (I64 (Q8 + 1)) <| some (.inl (Q8 + 1)))) (some (.inr (.inl ())))
noncomputable def p_laws_eqRowSS (v0 : (List (List Row))) (v1 : (List (List Row))) : Option (Bool) := cond (!decide ((v0.length : Int) = (v1.length : Int))) (some false) (bd (lp (p_laws_eqRowSS_b0 v0 v1) 0) <| sw (fun _ => some true) (fun q => some q))
theorem c_laws_eqRowSS {r : Bool} (v0 : (List (List Row))) (x_v0 : Option Addr × Nat) (v1 : (List (List Row))) (x_v1 : Option Addr × Nat) (H : p_laws_eqRowSS v0 v1 = some r) : Fn' Tryz.prog 136 #[.slice x_v0.1 v0.length x_v0.2, .slice x_v1.1 v1.length x_v1.2] [imm (.slice x_v0.1 v0.length x_v0.2) v0, imm (.slice x_v1.1 v1.length x_v1.2) v1] [] (ι := Unit) (fun _ => .bool (r)) (fun _ => []) (fun _ => []) := by
 refine cof (args := [_, _]) Tryz.func136 Tryz.ntmps136 fun c => ?_
 unfold p_laws_eqRowSS at H
 refine Tr.openD Ent.z fun X1 => (Tr.openD Ent.z.s.s fun X2 => (sr (Rg.a (v := .bool (false)) rfl (nl (Tr.seq (sr (Rg.m rfl (Rg.p (p_len 43 Tryz.underlying70 rfl) (Rg.m rfl (Rg.p (p_len 43 Tryz.underlying70 rfl) (Rg.p (p_neq rfl rfl) (nl ?_))))))))))))
 refine cH H rfl (fun h3 H => ?_) (fun h3 H => ?_)
 ·refine sr (Rg.a (v := .bool (false)) rfl (nl (tRet (rT (?_)))))
  obtain rfl := si H
  exact bk
 ·refine tSkip (nT (Tr.seq (sr (Rg.a (v := .int .i64 (0)) rfl (nl (bdo H fun x4 hx5 H => (tMidI (Λ := Unit) H (fun _ _ => []) (fun _ _ => []) ?_ ?_)))))))
  ·refine Tr.block (tLoopI hx5 () (fun Q8 _ => [(0, .slice x_v0.1 v0.length x_v0.2), (1, .slice x_v1.1 v1.length x_v1.2), (5, .int .i64 (Q8))]) (fun _ _ => []) Take.nil ?_)
   rintro _ Q8 z9 t11 H1 hi12 hb13
   unfold p_laws_eqRowSS_b0 at H1
   refine Tr.seq (sr (Rg.m rfl (Rg.m rfl (Rg.p (p_len 43 Tryz.underlying70 rfl) (Rg.p (p_lss rfl rfl) (nl (cH H1 rfl (fun h16 H1 => ?_) (fun h16 H1 => ?_))))))))
   ·refine tSkip (nT (Tr.seq (Tr.block (Tr.seq (tLinS [(0, .slice x_v0.1 v0.length x_v0.2), (1, .slice x_v1.1 v1.length x_v1.2), (5, .int .i64 (Q8))] Tryz.mixed (.inr (by kernel_rfl)) ⟨rfl, rfl, rfl, trivial⟩ rfl (Lin.m rfl (Lin.m rfl (gdo H1 fun h17 H1 => (Lin.o (q_ixg Tryz.underlying70 ty43 rfl rfl h17 rfl (Ent.b (Ent.darr Ent.z.s))) (Lin.o (q_lde (i := Q8.toNat) (j := 0) ty43 rfl (Ent.b (Ent.darr Ent.z.s)) h17.lt rfl) ?_))))))))))
    refine Lin.m rfl (Lin.m rfl (gdo H1 fun h18 H1 => (Lin.o (q_ixg Tryz.underlying70 ty43 rfl rfl h18 rfl (Ent.b (Ent.darr Ent.z))) (Lin.o (q_lde (i := Q8.toNat) (j := 0) ty43 rfl (Ent.b (Ent.darr Ent.z)) h18.lt rfl) (bdo H1 fun r19 h20 H1 => (Lin.o (q_call (c_laws_eqRowS (nth v0 Q8.toNat) ((X1 Q8.toNat).1, (X1 Q8.toNat).2.1) (nth v1 Q8.toNat) ((X2 Q8.toNat).1, (X2 Q8.toNat).2.1) h20) rfl (EntsB.cons (Ent.b (Ent.dimm (Ent.del Ent.z.s h17.lt))) (EntsB.cons (Ent.b (Ent.dimm (Ent.del Ent.z h18.lt))) EntsB.nil))) (Lin.p (p_not rfl) (nT (cH H1 rfl (fun h21 H1 => ?_) (fun h21 H1 => ?_))))))))))
    ·refine sr (Rg.a (v := .bool (false)) rfl (nl (tRet (rB (rT (rT (rB (rT (rT (?_))))))))))
     obtain rfl := hb13 _ (sm H1)
     replace H := sw.r H
     obtain rfl := si H
     exact bk
    ·exact tSkip (nB (nT (Tr.region (Rg.m rfl (gdo H1 fun h22 H1 => (Rg.p (p_add rfl rfl h22) (Rg.a rfl (Rg.nl (nLI () (hi12 _ (sm H1)) Take.nil)))))))))
   ·exact tExit (xT (xT (xE (nMI () (hb13 _ (sm H1)) Take.nil))))
  ·rintro e23 y10 H
   refine nT (sr (Rg.a (v := .bool (true)) rfl (nl ?_)))
   obtain rfl := si H
   exact tRet bk
noncomputable def p_laws_eqPart (v0 : Part) (v1 : Part) : Option (Bool) := bd (p_laws_eqIntS v0.1 v1.1) fun r5 => cond (!r5) (some false) (bd (p_laws_eqRowSS v0.2 v1.2) fun r8 => cond (!r8) (some false) (some true))
theorem c_laws_eqPart {r : Bool} (v0 : Part) (x_v0 : (Option Addr × Nat) × (Option Addr × Nat)) (v1 : Part) (x_v1 : (Option Addr × Nat) × (Option Addr × Nat)) (H : p_laws_eqPart v0 v1 = some r) : Fn' Tryz.prog 98 #[.agg #[.slice x_v0.1.1 v0.1.length x_v0.1.2, .slice x_v0.2.1 v0.2.length x_v0.2.2], .agg #[.slice x_v1.1.1 v1.1.length x_v1.1.2, .slice x_v1.2.1 v1.2.length x_v1.2.2]] [imm (.slice x_v0.1.1 v0.1.length x_v0.1.2) v0.1, imm (.slice x_v0.2.1 v0.2.length x_v0.2.2) v0.2, imm (.slice x_v1.1.1 v1.1.length x_v1.1.2) v1.1, imm (.slice x_v1.2.1 v1.2.length x_v1.2.2) v1.2] [] (ι := Unit) (fun _ => .bool (r)) (fun _ => []) (fun _ => []) := by
 refine cof (args := [_, _]) Tryz.func98 Tryz.ntmps98 fun c => ?_
 unfold p_laws_eqPart at H
 refine Tr.openD Ent.z.s fun X1 => (Tr.openD Ent.z.s.s.s.s fun X2 => (sr (f1 (e_box (t := 72) rfl) fun g3 => (f1 (e_box (t := 72) rfl) fun g4 => (Rg.a (v := .bool (false)) rfl (nl (Tr.seq (sr (Rg.p (p_fabE fa72_0 rfl rfl) (Rg.o (q_ldb ty69 rfl hs1 rfl) (Rg.p (p_fabE fa72_0 rfl rfl) ?_)))))))))))
 refine Rg.o (q_ldb ty69 rfl Has.here rfl) (bdo H fun r5 h6 H => (Rg.o (q_call (c_laws_eqIntS v0.1 x_v0.1 v1.1 x_v1.1 h6) rfl (EntsB.cons (Ent.b Ent.z.s.s) (EntsB.cons (Ent.b Ent.z.s.s.s.s) EntsB.nil))) (Rg.p (p_not rfl) (nl (cH H rfl (fun h7 H => ?_) (fun h7 H => ?_))))))
 ·refine sr (Rg.a (v := .bool (false)) rfl (nl (tRet (rT (?_)))))
  obtain rfl := si H
  exact bk
 ·refine tSkip (nT (Tr.seq (sr (Rg.p (p_fabE fa72_1 rfl rfl) (Rg.o (q_ldb ty70 rfl hs1 rfl) (Rg.p (p_fabE fa72_1 rfl rfl) (Rg.o (q_ldb ty70 rfl Has.here rfl) (bdo H fun r8 h9 H => (Rg.o (q_call (c_laws_eqRowSS v0.2 x_v0.2 v1.2 x_v1.2 h9) rfl (EntsB.cons (Ent.b (Ent.dimm Ent.z.s)) (EntsB.cons (Ent.b (Ent.dimm Ent.z)) EntsB.nil))) (Rg.p (p_not rfl) (nl ?_)))))))))))
  refine cH H rfl (fun h10 H => ?_) (fun h10 H => ?_)
  ·refine sr (Rg.a (v := .bool (false)) rfl (nl (tRet (rT (?_)))))
   obtain rfl := si H
   exact bk
  ·refine tSkip (nT (sr (Rg.a (v := .bool (true)) rfl (nl ?_))))
   obtain rfl := si H
   exact tRet bk
noncomputable def p_laws_eqPartS_b0 (v0 : (List Part)) (v1 : (List Part)) (Q8 : Int) : Option ((Int) ⊕ (Unit ⊕ Bool)) := cond (decide (Q8 < (v0.length : Int))) (gd (ix Q8 v0.length) <| gd (ix Q8 v1.length) <| bd (p_laws_eqPart (nth v0 Q8.toNat) (nth v1 Q8.toNat)) fun r19 => cond (!r19) (some (.inr (.inr false))) (gd (I64 (Q8 + 1)) <| some (.inl (Q8 + 1)))) (some (.inr (.inl ())))
noncomputable def p_laws_eqPartS (v0 : (List Part)) (v1 : (List Part)) : Option (Bool) := cond (!decide ((v0.length : Int) = (v1.length : Int))) (some false) (bd (lp (p_laws_eqPartS_b0 v0 v1) 0) <| sw (fun _ => some true) (fun q => some q))
theorem c_laws_eqPartS {r : Bool} (v0 : (List Part)) (x_v0 : Option Addr × Nat) (v1 : (List Part)) (x_v1 : Option Addr × Nat) (H : p_laws_eqPartS v0 v1 = some r) : Fn' Tryz.prog 49 #[.slice x_v0.1 v0.length x_v0.2, .slice x_v1.1 v1.length x_v1.2] [imm (.slice x_v0.1 v0.length x_v0.2) v0, imm (.slice x_v1.1 v1.length x_v1.2) v1] [] (ι := Unit) (fun _ => .bool (r)) (fun _ => []) (fun _ => []) := by
 refine cof (args := [_, _]) Tryz.func49 Tryz.ntmps49 fun c => ?_
 unfold p_laws_eqPartS at H
 refine Tr.openD Ent.z fun X1 => (Tr.openD Ent.z.s.s fun X2 => (sr (Rg.a (v := .bool (false)) rfl (nl (Tr.seq (sr (Rg.m rfl (Rg.p (p_len 72 Tryz.underlying36 rfl) (Rg.m rfl (Rg.p (p_len 72 Tryz.underlying36 rfl) (Rg.p (p_neq rfl rfl) (nl ?_))))))))))))
 refine cH H rfl (fun h3 H => ?_) (fun h3 H => ?_)
 ·refine sr (Rg.a (v := .bool (false)) rfl (nl (tRet (rT (?_)))))
  obtain rfl := si H
  exact bk
 ·refine tSkip (nT (Tr.seq (sr (Rg.a (v := .int .i64 (0)) rfl (nl (bdo H fun x4 hx5 H => (tMidI (Λ := Unit) H (fun _ _ => []) (fun _ _ => []) ?_ ?_)))))))
  ·refine Tr.block (tLoopI hx5 () (fun Q8 _ => [(0, .slice x_v0.1 v0.length x_v0.2), (1, .slice x_v1.1 v1.length x_v1.2), (5, .int .i64 (Q8))]) (fun _ _ => []) Take.nil ?_)
   rintro _ Q8 z9 t11 H1 hi12 hb13
   unfold p_laws_eqPartS_b0 at H1
   refine Tr.seq (sr (Rg.m rfl (Rg.m rfl (Rg.p (p_len 72 Tryz.underlying36 rfl) (Rg.p (p_lss rfl rfl) (nl (cH H1 rfl (fun h16 H1 => ?_) (fun h16 H1 => ?_))))))))
   ·refine tSkip (nT (Tr.seq (Tr.block (Tr.seq (tLinS [(0, .slice x_v0.1 v0.length x_v0.2), (1, .slice x_v1.1 v1.length x_v1.2), (5, .int .i64 (Q8))] Tryz.mixed (.inr (by kernel_rfl)) ⟨rfl, rfl, rfl, trivial⟩ rfl (Lin.m rfl (Lin.m rfl (gdo H1 fun h17 H1 => (Lin.o (q_ixg Tryz.underlying36 ty72 rfl rfl h17 rfl (Ent.b (Ent.darr Ent.z.s))) (Lin.o (v := .agg #[.slice (((X1 Q8.toNat).1).1) (((nth v0 Q8.toNat).1).length) (((X1 Q8.toNat).1).2.1), .slice (((X1 Q8.toNat).2).1) (((nth v0 Q8.toNat).2).length) (((X1 Q8.toNat).2).2.1)]) (q_ldeA (i := Q8.toNat) ty72 rfl (Ent.b (Ent.darr Ent.z.s)) h17.lt) ?_))))))))))
    refine Lin.m rfl (Lin.m rfl (gdo H1 fun h18 H1 => (Lin.o (q_ixg Tryz.underlying36 ty72 rfl rfl h18 rfl (Ent.b (Ent.darr Ent.z))) (Lin.o (v := .agg #[.slice (((X2 Q8.toNat).1).1) (((nth v1 Q8.toNat).1).length) (((X2 Q8.toNat).1).2.1), .slice (((X2 Q8.toNat).2).1) (((nth v1 Q8.toNat).2).length) (((X2 Q8.toNat).2).2.1)]) (q_ldeA (i := Q8.toNat) ty72 rfl (Ent.b (Ent.darr Ent.z)) h18.lt) (bdo H1 fun r19 h20 H1 => (Lin.o (q_call (c_laws_eqPart (nth v0 Q8.toNat) ((((X1 Q8.toNat).1).1, ((X1 Q8.toNat).1).2.1), (((X1 Q8.toNat).2).1, ((X1 Q8.toNat).2).2.1)) (nth v1 Q8.toNat) ((((X2 Q8.toNat).1).1, ((X2 Q8.toNat).1).2.1), (((X2 Q8.toNat).2).1, ((X2 Q8.toNat).2).2.1)) h20) rfl (EntsB.cons (Ent.b (Ent.dimm (Ent.dfst (Ent.del Ent.z.s h17.lt)))) (EntsB.cons (Ent.b (Ent.dimm (Ent.dsnd (Ent.del Ent.z.s h17.lt)))) (EntsB.cons (Ent.b (Ent.dimm (Ent.dfst (Ent.del Ent.z h18.lt)))) (EntsB.cons (Ent.b (Ent.dimm (Ent.dsnd (Ent.del Ent.z h18.lt)))) EntsB.nil))))) (Lin.p (p_not rfl) (nT (cH H1 rfl (fun h21 H1 => ?_) (fun h21 H1 => ?_))))))))))
    ·refine sr (Rg.a (v := .bool (false)) rfl (nl (tRet (rB (rT (rT (rB (rT (rT (?_))))))))))
     obtain rfl := hb13 _ (sm H1)
     replace H := sw.r H
     obtain rfl := si H
     exact bk
    ·exact tSkip (nB (nT (Tr.region (Rg.m rfl (gdo H1 fun h22 H1 => (Rg.p (p_add rfl rfl h22) (Rg.a rfl (Rg.nl (nLI () (hi12 _ (sm H1)) Take.nil)))))))))
   ·exact tExit (xT (xT (xE (nMI () (hb13 _ (sm H1)) Take.nil))))
  ·rintro e23 y10 H
   refine nT (sr (Rg.a (v := .bool (true)) rfl (nl ?_)))
   obtain rfl := si H
   exact tRet bk
noncomputable def p_laws_eqSample (v0 : Sample) (v1 : Sample) : Option (Bool) := cond (!decide (v0.1 = v1.1)) (some false) (bd (p_laws_eqRow v0.2 v1.2) fun r4 => cond (!r4) (some false) (some true))
theorem c_laws_eqSample {r : Bool} (v0 : Sample) (v1 : Sample) (H : p_laws_eqSample v0 v1 = some r) : Fn' Tryz.prog 99 #[.agg #[.int .i64 (v0.1), .int .i64 (v0.2.1), .int .i64 (v0.2.2)], .agg #[.int .i64 (v1.1), .int .i64 (v1.2.1), .int .i64 (v1.2.2)]] [] [] (ι := Unit) (fun _ => .bool (r)) (fun _ => []) (fun _ => []) := by
 refine cof (args := [_, _]) Tryz.func99 Tryz.ntmps99 fun c => ?_
 unfold p_laws_eqSample at H
 refine sr (f1 (e_box (t := 75) rfl) fun g1 => (f1 (e_box (t := 75) rfl) fun g2 => (Rg.a (v := .bool (false)) rfl (nl (Tr.seq (sr (Rg.p (p_fabE fa75_0 rfl rfl) (Rg.o (q_ldb ty3 rfl hs1 rfl) (Rg.p (p_fabE fa75_0 rfl rfl) (Rg.o (q_ldb ty3 rfl Has.here rfl) (Rg.p (p_neq rfl rfl) (nl ?_))))))))))))
 refine cH H rfl (fun h3 H => ?_) (fun h3 H => ?_)
 ·refine sr (Rg.a (v := .bool (false)) rfl (nl (tRet (rT (?_)))))
  obtain rfl := si H
  exact bk
 ·refine tSkip (nT (Tr.seq (sr (Rg.p (p_fabE fa75_1 rfl rfl) (Rg.o (v := .agg #[.int .i64 (v0.2.1), .int .i64 (v0.2.2)]) (q_ldbP [.int .i64 (v0.2.1), .int .i64 (v0.2.2)] ty58 rfl hs1 rfl rfl) (Rg.p (p_fabE fa75_1 rfl rfl) (Rg.o (v := .agg #[.int .i64 (v1.2.1), .int .i64 (v1.2.2)]) (q_ldbP [.int .i64 (v1.2.1), .int .i64 (v1.2.2)] ty58 rfl Has.here rfl rfl) (bdo H fun r4 h5 H => (Rg.o (q_call (c_laws_eqRow v0.2 v1.2 h5) rfl EntsB.nil) (Rg.p (p_not rfl) (nl ?_)))))))))))
  refine cH H rfl (fun h6 H => ?_) (fun h6 H => ?_)
  ·refine sr (Rg.a (v := .bool (false)) rfl (nl (tRet (rT (?_)))))
   obtain rfl := si H
   exact bk
  ·refine tSkip (nT (sr (Rg.a (v := .bool (true)) rfl (nl ?_))))
   obtain rfl := si H
   exact tRet bk
noncomputable def p_laws_eqSampleS_b0 (v0 : (List Sample)) (v1 : (List Sample)) (Q6 : Int) : Option ((Int) ⊕ (Unit ⊕ Bool)) := cond (decide (Q6 < (v0.length : Int))) (gd (ix Q6 v0.length) <| gd (ix Q6 v1.length) <| bd (p_laws_eqSample (nth v0 Q6.toNat) (nth v1 Q6.toNat)) fun r17 => cond (!r17) (some (.inr (.inr false))) (gd (I64 (Q6 + 1)) <| some (.inl (Q6 + 1)))) (some (.inr (.inl ())))
noncomputable def p_laws_eqSampleS (v0 : (List Sample)) (v1 : (List Sample)) : Option (Bool) := cond (!decide ((v0.length : Int) = (v1.length : Int))) (some false) (bd (lp (p_laws_eqSampleS_b0 v0 v1) 0) <| sw (fun _ => some true) (fun q => some q))
theorem c_laws_eqSampleS {r : Bool} (v0 : (List Sample)) (x_v0 : Option Addr × Nat) (v1 : (List Sample)) (x_v1 : Option Addr × Nat) (H : p_laws_eqSampleS v0 v1 = some r) : Fn' Tryz.prog 50 #[.slice x_v0.1 v0.length x_v0.2, .slice x_v1.1 v1.length x_v1.2] [imm (.slice x_v0.1 v0.length x_v0.2) v0, imm (.slice x_v1.1 v1.length x_v1.2) v1] [] (ι := Unit) (fun _ => .bool (r)) (fun _ => []) (fun _ => []) := by
 refine cof (args := [_, _]) Tryz.func50 Tryz.ntmps50 fun c => ?_
 unfold p_laws_eqSampleS at H
 refine sr (Rg.a (v := .bool (false)) rfl (nl (Tr.seq (sr (Rg.m rfl (Rg.p (p_len 75 Tryz.underlying37 rfl) (Rg.m rfl (Rg.p (p_len 75 Tryz.underlying37 rfl) (Rg.p (p_neq rfl rfl) (nl (cH H rfl (fun h1 H => ?_) (fun h1 H => ?_))))))))))))
 ·refine sr (Rg.a (v := .bool (false)) rfl (nl (tRet (rT (?_)))))
  obtain rfl := si H
  exact bk
 ·refine tSkip (nT (Tr.seq (sr (Rg.a (v := .int .i64 (0)) rfl (nl (bdo H fun x2 hx3 H => (tMidI (Λ := Unit) H (fun _ _ => []) (fun _ _ => []) ?_ ?_)))))))
  ·refine Tr.block (tLoopI hx3 () (fun Q6 _ => [(0, .slice x_v0.1 v0.length x_v0.2), (1, .slice x_v1.1 v1.length x_v1.2), (5, .int .i64 (Q6))]) (fun _ _ => []) Take.nil ?_)
   rintro _ Q6 z7 t9 H1 hi10 hb11
   unfold p_laws_eqSampleS_b0 at H1
   refine Tr.seq (sr (Rg.m rfl (Rg.m rfl (Rg.p (p_len 75 Tryz.underlying37 rfl) (Rg.p (p_lss rfl rfl) (nl (cH H1 rfl (fun h14 H1 => ?_) (fun h14 H1 => ?_))))))))
   ·refine tSkip (nT (Tr.seq (Tr.block (Tr.seq (tLinS [(0, .slice x_v0.1 v0.length x_v0.2), (1, .slice x_v1.1 v1.length x_v1.2), (5, .int .i64 (Q6))] Tryz.mixed (.inr (by kernel_rfl)) ⟨rfl, rfl, rfl, trivial⟩ rfl (Lin.m rfl (Lin.m rfl (gdo H1 fun h15 H1 => (Lin.o (q_ixg Tryz.underlying37 ty75 rfl rfl h15 rfl (EntB.flat (Ent.b Ent.z))) (Lin.o (v := .agg #[.int .i64 ((nth v0 Q6.toNat).1), .int .i64 (((nth v0 Q6.toNat).2).1), .int .i64 (((nth v0 Q6.toNat).2).2)]) (q_ldeA (i := Q6.toNat) ty75 rfl (EntB.flat (Ent.b Ent.z)) h15.lt) ?_))))))))))
    refine Lin.m rfl (Lin.m rfl (gdo H1 fun h16 H1 => (Lin.o (q_ixg Tryz.underlying37 ty75 rfl rfl h16 rfl (EntB.flat (Ent.b Ent.z.s))) (Lin.o (v := .agg #[.int .i64 ((nth v1 Q6.toNat).1), .int .i64 (((nth v1 Q6.toNat).2).1), .int .i64 (((nth v1 Q6.toNat).2).2)]) (q_ldeA (i := Q6.toNat) ty75 rfl (EntB.flat (Ent.b Ent.z.s)) h16.lt) (bdo H1 fun r17 h18 H1 => (Lin.o (q_call (c_laws_eqSample (nth v0 Q6.toNat) (nth v1 Q6.toNat) h18) rfl EntsB.nil) (Lin.p (p_not rfl) (nT (cH H1 rfl (fun h19 H1 => ?_) (fun h19 H1 => ?_))))))))))
    ·refine sr (Rg.a (v := .bool (false)) rfl (nl (tRet (rB (rT (rT (rB (rT (rT (?_))))))))))
     obtain rfl := hb11 _ (sm H1)
     replace H := sw.r H
     obtain rfl := si H
     exact bk
    ·exact tSkip (nB (nT (Tr.region (Rg.m rfl (gdo H1 fun h20 H1 => (Rg.p (p_add rfl rfl h20) (Rg.a rfl (Rg.nl (nLI () (hi10 _ (sm H1)) Take.nil)))))))))
   ·exact tExit (xT (xT (xE (nMI () (hb11 _ (sm H1)) Take.nil))))
  ·rintro e21 y8 H
   refine nT (sr (Rg.a (v := .bool (true)) rfl (nl ?_)))
   obtain rfl := si H
   exact tRet bk
noncomputable def p_laws_eqStore (v0 : Store) (v1 : Store) : Option (Bool) := bd (p_laws_eqIndex v0.1 v1.1) fun r9 => cond (!r9) (some false) (bd (p_laws_eqPartS v0.2.1 v1.2.1) fun r12 => cond (!r12) (some false) (bd (p_laws_eqSampleS v0.2.2 v1.2.2) fun r15 => cond (!r15) (some false) (some true)))
theorem c_laws_eqStore {r : Bool} (v0 : Store) (x_v0 : ((Option Addr × Nat) × (Option Addr × Nat)) × (Option Addr × Nat) × (Option Addr × Nat)) (v1 : Store) (x_v1 : ((Option Addr × Nat) × (Option Addr × Nat)) × (Option Addr × Nat) × (Option Addr × Nat)) (H : p_laws_eqStore v0 v1 = some r) : Fn' Tryz.prog 12 #[.agg #[.slice x_v0.1.1.1 v0.1.1.length x_v0.1.1.2, .slice x_v0.1.2.1 v0.1.2.length x_v0.1.2.2, .slice x_v0.2.1.1 v0.2.1.length x_v0.2.1.2, .slice x_v0.2.2.1 v0.2.2.length x_v0.2.2.2], .agg #[.slice x_v1.1.1.1 v1.1.1.length x_v1.1.1.2, .slice x_v1.1.2.1 v1.1.2.length x_v1.1.2.2, .slice x_v1.2.1.1 v1.2.1.length x_v1.2.1.2, .slice x_v1.2.2.1 v1.2.2.length x_v1.2.2.2]] [imm (.slice x_v0.1.1.1 v0.1.1.length x_v0.1.1.2) v0.1.1, imm (.slice x_v0.1.2.1 v0.1.2.length x_v0.1.2.2) v0.1.2, imm (.slice x_v0.2.1.1 v0.2.1.length x_v0.2.1.2) v0.2.1, imm (.slice x_v0.2.2.1 v0.2.2.length x_v0.2.2.2) v0.2.2, imm (.slice x_v1.1.1.1 v1.1.1.length x_v1.1.1.2) v1.1.1, imm (.slice x_v1.1.2.1 v1.1.2.length x_v1.1.2.2) v1.1.2, imm (.slice x_v1.2.1.1 v1.2.1.length x_v1.2.1.2) v1.2.1, imm (.slice x_v1.2.2.1 v1.2.2.length x_v1.2.2.2) v1.2.2] [] (ι := Unit) (fun _ => .bool (r)) (fun _ => []) (fun _ => []) := by
 refine cof (args := [_, _]) Tryz.func12 Tryz.ntmps12 fun c => ?_
 unfold p_laws_eqStore at H
 refine Tr.openD Ent.z fun X1 => (Tr.openD Ent.z.s.s fun X2 => (Tr.openD Ent.z.s.s.s.s fun X3 => (Tr.openD Ent.z.s.s.s.s.s.s.s fun X4 => (Tr.openD Ent.z.s.s.s.s.s.s.s.s.s fun X5 => (Tr.openD Ent.z.s.s.s.s.s.s.s.s.s.s.s fun X6 => (sr (f1 (e_box (t := 39) rfl) fun g7 => (f1 (e_box (t := 39) rfl) fun g8 => (Rg.a (v := .bool (false)) rfl (nl ?_))))))))))
 refine Tr.seq (sr (Rg.p (p_fabE fa39_0 rfl rfl) (Rg.o (v := .agg #[.slice x_v0.1.1.1 v0.1.1.length x_v0.1.1.2, .slice x_v0.1.2.1 v0.1.2.length x_v0.1.2.2]) (q_ldbP [.slice x_v0.1.1.1 v0.1.1.length x_v0.1.1.2, .slice x_v0.1.2.1 v0.1.2.length x_v0.1.2.2] ty35 rfl hs1 rfl rfl) (Rg.p (p_fabE fa39_0 rfl rfl) (Rg.o (v := .agg #[.slice x_v1.1.1.1 v1.1.1.length x_v1.1.1.2, .slice x_v1.1.2.1 v1.1.2.length x_v1.1.2.2]) (q_ldbP [.slice x_v1.1.1.1 v1.1.1.length x_v1.1.1.2, .slice x_v1.1.2.1 v1.1.2.length x_v1.1.2.2] ty35 rfl Has.here rfl rfl) (bdo H fun r9 h10 H => (Rg.o (q_call (c_laws_eqIndex v0.1 x_v0.1 v1.1 x_v1.1 h10) rfl (EntsB.cons (Ent.b (Ent.dimm Ent.z.s.s.s.s.s)) (EntsB.cons (Ent.b (Ent.dimm Ent.z.s.s.s.s)) (EntsB.cons (Ent.b (Ent.dimm Ent.z.s.s)) (EntsB.cons (Ent.b (Ent.dimm Ent.z.s)) EntsB.nil))))) (Rg.p (p_not rfl) (nl (cH H rfl (fun h11 H => ?_) (fun h11 H => ?_)))))))))))
 ·refine sr (Rg.a (v := .bool (false)) rfl (nl (tRet (rT (?_)))))
  obtain rfl := si H
  exact bk
 ·refine tSkip (nT (Tr.seq (sr (Rg.p (p_fabE fa39_1 rfl rfl) (Rg.o (q_ldb ty36 rfl hs1 rfl) (Rg.p (p_fabE fa39_1 rfl rfl) (Rg.o (q_ldb ty36 rfl Has.here rfl) (bdo H fun r12 h13 H => (Rg.o (q_call (c_laws_eqPartS v0.2.1 x_v0.2.1 v1.2.1 x_v1.2.1 h13) rfl (EntsB.cons (Ent.b (Ent.dimm Ent.z.s.s.s)) (EntsB.cons (Ent.b (Ent.dimm Ent.z)) EntsB.nil))) (Rg.p (p_not rfl) (nl ?_)))))))))))
  refine cH H rfl (fun h14 H => ?_) (fun h14 H => ?_)
  ·refine sr (Rg.a (v := .bool (false)) rfl (nl (tRet (rT (?_)))))
   obtain rfl := si H
   exact bk
  ·refine tSkip (nT (Tr.seq (sr (Rg.p (p_fabE fa39_2 rfl rfl) (Rg.o (q_ldb ty37 rfl hs1 rfl) (Rg.p (p_fabE fa39_2 rfl rfl) (Rg.o (q_ldb ty37 rfl Has.here rfl) (bdo H fun r15 h16 H => (Rg.o (q_call (c_laws_eqSampleS v0.2.2 x_v0.2.2 v1.2.2 x_v1.2.2 h16) rfl (EntsB.cons (Ent.b Ent.z.s.s.s.s.s.s.s.s.s) (EntsB.cons (Ent.b Ent.z.s.s.s.s.s.s.s.s.s.s.s.s.s) EntsB.nil))) (Rg.p (p_not rfl) (nl ?_)))))))))))
   refine cH H rfl (fun h17 H => ?_) (fun h17 H => ?_)
   ·refine sr (Rg.a (v := .bool (false)) rfl (nl (tRet (rT (?_)))))
    obtain rfl := si H
    exact bk
   ·refine tSkip (nT (sr (Rg.a (v := .bool (true)) rfl (nl ?_))))
    obtain rfl := si H
    exact tRet bk
noncomputable def p_laws_markText_b0 (Q6 : Int × ByteArray) : Option ((Int × ByteArray) ⊕ (ByteArray)) := cond (decide (0 < Q6.1)) (gd (I64 (Q6.1.tmod 10)) <| gd (I64 (48 + (Q6.1.tmod 10))) <| gd (room ((s2 [b8 (48 + (Q6.1.tmod 10))]).size + Q6.2.size)) <| gd (I64 (Q6.1.tdiv 10)) <| some (.inl (Q6.1.tdiv 10, (s2 [b8 (48 + (Q6.1.tmod 10))]) ++ Q6.2))) (some (.inr Q6.2))
noncomputable def p_laws_markText (v0 : Int) : Option (ByteArray) := cond (decide (v0 ≤ 0)) (some (⟨#[109, 48]⟩ : ByteArray)) (bd (lp (p_laws_markText_b0) (v0, (⟨#[]⟩ : ByteArray))) fun x2 => gd (room ((⟨#[109]⟩ : ByteArray).size + x2.size)) <| some ((⟨#[109]⟩ : ByteArray) ++ x2))
theorem c_laws_markText {r : ByteArray} (v0 : Int) (H : p_laws_markText v0 = some r) : Fn' Tryz.prog 69 #[.int .i64 (v0)] [] [] (ι := Unit) (fun _ => .string (r)) (fun _ => []) (fun _ => []) := by
 refine cof (args := [_]) Tryz.func69 Tryz.ntmps69 fun c => ?_
 unfold p_laws_markText at H
 refine sr (Rg.a (v := .string ((⟨#[]⟩ : ByteArray))) rfl (nl (Tr.seq (sr (Rg.m rfl (Rg.p (p_leq rfl rfl) (nl (cH H rfl (fun h1 H => ?_) (fun h1 H => ?_)))))))))
 ·refine sr (Rg.a (v := .string ((⟨#[109, 48]⟩ : ByteArray))) rfl (nl (tRet (rT (?_)))))
  obtain rfl := si H
  exact bk
 ·refine tSkip (nT (sr (Rg.a (v := .string ((⟨#[]⟩ : ByteArray))) rfl (nl (bdo H fun x2 hx3 H => (tMidC (ι := Unit) (fun ψ => [(3, .string (x2))]) (fun ψ => []) ?_ ?_))))))
  ·refine Tr.block (tLoopI hx3 () (fun Q6 _ => [(0, .int .i64 (Q6.1)), (3, .string (Q6.2))]) (fun _ _ => []) Take.nil ?_)
   rintro _ Q6 z7 t9 H1 hi10 hb11
   unfold p_laws_markText_b0 at H1
   refine Tr.seq (sr (Rg.m rfl (Rg.p (p_gtr rfl rfl) (nl (cH H1 rfl (fun h14 H1 => ?_) (fun h14 H1 => ?_))))))
   ·refine tSkip (nT (Tr.block (sr (Rg.m rfl (gdo H1 fun h15 H1 => (Rg.p (p_rem rfl rfl (by decide) h15) (gdo H1 fun h16 H1 => (Rg.p (p_add rfl rfl h16) (Rg.p (v := .int .u8 ((b8 (48 + (Q6.1.tmod 10))).toNat : Int)) (p_b8 Tryz.underlying3 Tryz.underlying5 rfl) ?_)))))))))
    refine f1 (e_lit (vs := [(0, .int .u8 ((b8 (48 + (Q6.1.tmod 10))).toNat : Int))]) [.int .u8 ((b8 (48 + (Q6.1.tmod 10))).toNat : Int)] Tryz.underlying143 ty5 rfl (by decide) (by decide) (by kernel_rfl)) fun g17 => (Rg.o (v := .string (s2 [b8 (48 + (Q6.1.tmod 10))])) (q_b2sL [b8 (48 + (Q6.1.tmod 10))] Tryz.underlying143 Tryz.underlying5 Tryz.underlying9 rfl Has.here rfl) (Rg.m rfl (gdo H1 fun h18 H1 => (Rg.p (p_cat rfl rfl h18) (Rg.a rfl (nl (Tr.region (Rg.m rfl (gdo H1 fun h19 H1 => (Rg.p (p_quo rfl rfl (by decide) h19) ?_))))))))))
    exact Rg.a rfl (Rg.nl (nB (nLI () (hi10 _ (sm H1)) Take.nil)))
   ·refine tExit (xT (xT (xE (?_))))
    obtain rfl := hb11 _ (sm H1)
    exact nMC () ⟨rfl, trivial⟩ Ents.refl Take.nil
  ·intro y8
   show Tr _ _ _ _ _ [(3, .string (x2))] _ []
   refine sr (Rg.m rfl (gdo H fun h20 H => (Rg.p (v := .string ((⟨#[109]⟩ : ByteArray) ++ x2)) (p_cat rfl rfl h20) (Rg.a (v := .string ((⟨#[109]⟩ : ByteArray) ++ x2)) rfl (nl ?_)))))
   obtain rfl := si H
   exact tRet bk
noncomputable def p_laws_markTagS_b0 (v0 : (List Tag)) (Q5 : (List Tag) × Int × Int) : Option (((List Tag) × Int × Int) ⊕ (Int × (List Tag))) := cond (decide (Q5.2.2 < (v0.length : Int))) (gd (ix Q5.2.2 Q5.1.length) <| bd (p_laws_markText Q5.2.1) fun r16 => gd (I64 (Q5.2.1 + 1)) <| bd (p_laws_markText (Q5.2.1 + 1)) fun r19 => gd (I64 ((Q5.2.1 + 1) + 1)) <| gd (I64 (Q5.2.2 + 1)) <| some (.inl ((Q5.1.set Q5.2.2.toNat (r16, r19)), (Q5.2.1 + 1) + 1, Q5.2.2 + 1))) (some (.inr (Q5.2.1, Q5.1)))
noncomputable def p_laws_markTagS (v0 : (List Tag)) (v1 : Int) : Option (Int × (List Tag)) := bd (lp (p_laws_markTagS_b0 v0) (v0, v1, 0)) fun x1 => some (x1.1, x1.2)
theorem c_laws_markTagS {r : Int × (List Tag)} (v0 : (List Tag)) (x_v0 : Option Addr × Nat) (n_v0 : Nat) (e_v0 : n_v0 = v0.length) (v1 : Int) (H : p_laws_markTagS v0 v1 = some r) : Fn' Tryz.prog 28 #[.slice x_v0.1 n_v0 x_v0.2, .int .i64 (v1)] [] [tree (.slice x_v0.1 n_v0 x_v0.2) v0] (ι := Unit) (fun _ => .int .i64 (r.1)) (fun _ => []) (fun _ => [tree (.slice x_v0.1 n_v0 x_v0.2) r.2]) := by
 subst e_v0
 refine cof (args := [_, _]) Tryz.func28 Tryz.ntmps28 fun c => ?_
 unfold p_laws_markTagS at H
 refine sr (Rg.a (v := .int .i64 (0)) rfl (nl (Tr.seq (sr (Rg.a (v := .int .i64 (0)) rfl (nl (bdo H fun x1 hx2 H => (tMidNC (ι := Unit) (fun ψ => [(1, .int .i64 (x1.1))]) (fun ψ => [tree (.slice x_v0.1 v0.length x_v0.2) x1.2]) ?_ ?_))))))))
 ·refine Tr.block (tLoopI hx2 () (fun Q5 _ => [(0, .slice x_v0.1 v0.length x_v0.2), (1, .int .i64 (Q5.2.1)), (5, .int .i64 (Q5.2.2))]) (fun Q5 _ => [tree (.slice x_v0.1 v0.length x_v0.2) Q5.1]) (.cons Del.here .nil) ?_)
  rintro _ Q5 z6 t8 H1 hi9 hb10
  unfold p_laws_markTagS_b0 at H1
  refine Tr.seq (sr (Rg.m rfl (Rg.m rfl (Rg.p (p_len 96 Tryz.underlying56 rfl) (Rg.p (p_lss rfl rfl) (nl (cH H1 rfl (fun h13 H1 => ?_) (fun h13 H1 => ?_))))))))
  ·refine tSkip (nT (Tr.seq (Tr.block (Tr.seq (gdo H1 fun h14 H1 => (Tr.zoom (k := Q5.2.2.toNat) h14.lt (.cons Del.here .nil) fun x15 => ?_))))))
   show Tr _ _ _ _ _ _ _ (hole (.slice x_v0.1 v0.length x_v0.2) Q5.1 Q5.2.2.toNat [.string ((nth Q5.1 Q5.2.2.toNat).1), .string ((nth Q5.1 Q5.2.2.toNat).2)] :: _)
   refine Tr.region (Rg.m rfl (Rg.m rfl (Rg.m rfl (bdo H1 fun r16 h17 H1 => (Rg.o (q_call (c_laws_markText Q5.2.1 h17) rfl EntsB.nil) (Rg.o (v := elp x_v0.1 (Q5.2.2.toNat * Enc.sz Tag + 0)) (q_ixH (k := Q5.2.2.toNat) Tryz.underlying56 ty96 rfl rfl h14 rfl Has.here) (Rg.o (v := elp x_v0.1 (Q5.2.2.toNat * Enc.sz Tag + 0)) (q_faH (j := 0) (i := Q5.2.2.toNat) fa96_0 rfl Has.here rfl) (g0 (e_stH (v := .string (r16)) (i := Q5.2.2.toNat) (j := 0) (cs' := [.string (r16), .string ((nth Q5.1 Q5.2.2.toNat).2)]) ty9 rfl rfl (.cons Del.here .nil) rfl (one_of rfl) (Nat.le_of_ble_eq_true rfl) rfl rfl) (nl ?_)))))))))
   refine sr (Rg.m rfl (gdo H1 fun h18 H1 => (Rg.p (p_add rfl rfl h18) (Rg.a rfl (nl (sr (Rg.m rfl (Rg.m rfl (Rg.m rfl (bdo H1 fun r19 h20 H1 => ?_))))))))))
   refine Rg.o (q_call (c_laws_markText (Q5.2.1 + 1) h20) rfl EntsB.nil) (Rg.o (v := elp x_v0.1 (Q5.2.2.toNat * Enc.sz Tag + 0)) (q_ixH (k := Q5.2.2.toNat) Tryz.underlying56 ty96 rfl rfl h14 rfl Has.here) (Rg.o (v := elp x_v0.1 (Q5.2.2.toNat * Enc.sz Tag + 1)) (q_faH (j := 0) (i := Q5.2.2.toNat) fa96_1 rfl Has.here rfl) (g0 (e_stH (v := .string (r19)) (i := Q5.2.2.toNat) (j := 1) (cs' := [.string (r16), .string (r19)]) ty9 rfl rfl (.cons Del.here .nil) rfl (one_of rfl) (Nat.le_of_ble_eq_true rfl) rfl rfl) (nl (Tr.region (Rg.m rfl (gdo H1 fun h21 H1 => (Rg.p (p_add rfl rfl h21) (Rg.a rfl (Rg.nl ?_))))))))))
   exact nB (nT (Tr.region (Rg.m rfl (gdo H1 fun h22 H1 => (Rg.p (p_add rfl rfl h22) (Rg.a rfl (Rg.nl (At.unzoom (r16, r19) ((), ()) rfl (.cons Del.here .nil) (nLI () (hi9 _ (sm H1)) (.cons Del.here .nil))))))))))
  ·refine tExit (xT (xT (xE (?_))))
   obtain rfl := hb10 _ (sm H1)
   exact nMC () ⟨rfl, trivial⟩ Ents.refl (.cons Del.here .nil)
 ·intro y7
  show At _ _ [(1, .int .i64 (x1.1))] _ [tree (.slice x_v0.1 v0.length x_v0.2) x1.2] _
  refine nT (sr (Rg.m rfl (Rg.a rfl (nl ?_))))
  obtain rfl := si H
  exact tRet (bk (.cons Del.here .nil))
noncomputable def p_laws_markTagSS_b0 (v0 : (List (List Tag))) (Q5 : (List (List Tag)) × Int × Int) : Option (((List (List Tag)) × Int × Int) ⊕ (Int × (List (List Tag)))) := cond (decide (Q5.2.2 < (v0.length : Int))) (gd (ix Q5.2.2 Q5.1.length) <| bd (p_laws_markTagS (nth Q5.1 Q5.2.2.toNat) Q5.2.1) fun r16 => gd (I64 (Q5.2.2 + 1)) <| some (.inl ((Q5.1.set Q5.2.2.toNat r16.2), r16.1, Q5.2.2 + 1))) (some (.inr (Q5.2.1, Q5.1)))
noncomputable def p_laws_markTagSS (v0 : (List (List Tag))) (v1 : Int) : Option (Int × (List (List Tag))) := bd (lp (p_laws_markTagSS_b0 v0) (v0, v1, 0)) fun x1 => some (x1.1, x1.2)
theorem c_laws_markTagSS {r : Int × (List (List Tag))} (v0 : (List (List Tag))) (x_v0 : Option Addr × Nat) (n_v0 : Nat) (e_v0 : n_v0 = v0.length) (v1 : Int) (H : p_laws_markTagSS v0 v1 = some r) : Fn' Tryz.prog 100 #[.slice x_v0.1 n_v0 x_v0.2, .int .i64 (v1)] [] [tree (.slice x_v0.1 n_v0 x_v0.2) v0] (ι := Unit) (fun _ => .int .i64 (r.1)) (fun _ => []) (fun _ => [tree (.slice x_v0.1 n_v0 x_v0.2) r.2]) := by
 subst e_v0
 refine cof (args := [_, _]) Tryz.func100 Tryz.ntmps100 fun c => ?_
 unfold p_laws_markTagSS at H
 refine sr (Rg.a (v := .int .i64 (0)) rfl (nl (Tr.seq (sr (Rg.a (v := .int .i64 (0)) rfl (nl (bdo H fun x1 hx2 H => (tMidNC (ι := Unit) (fun ψ => [(1, .int .i64 (x1.1))]) (fun ψ => [tree (.slice x_v0.1 v0.length x_v0.2) x1.2]) ?_ ?_))))))))
 ·refine Tr.block (tLoopI hx2 () (fun Q5 _ => [(0, .slice x_v0.1 v0.length x_v0.2), (1, .int .i64 (Q5.2.1)), (5, .int .i64 (Q5.2.2))]) (fun Q5 _ => [tree (.slice x_v0.1 v0.length x_v0.2) Q5.1]) (.cons Del.here .nil) ?_)
  rintro _ Q5 z6 t8 H1 hi9 hb10
  unfold p_laws_markTagSS_b0 at H1
  refine Tr.seq (sr (Rg.m rfl (Rg.m rfl (Rg.p (p_len 56 Tryz.underlying32 rfl) (Rg.p (p_lss rfl rfl) (nl (cH H1 rfl (fun h13 H1 => ?_) (fun h13 H1 => ?_))))))))
  ·refine tSkip (nT (Tr.seq (Tr.block (gdo H1 fun h14 H1 => (Tr.zoom (k := Q5.2.2.toNat) h14.lt (.cons Del.here .nil) fun x15 => ?_)))))
   show Tr _ _ _ _ _ _ _ (hole (.slice x_v0.1 v0.length x_v0.2) Q5.1 Q5.2.2.toNat [.slice x15.1 ((nth Q5.1 Q5.2.2.toNat).length) x15.2] :: tree (.slice x15.1 ((nth Q5.1 Q5.2.2.toNat).length) x15.2) (nth Q5.1 Q5.2.2.toNat) :: _)
   refine Tr.region (Rg.m rfl (Rg.m rfl (Rg.o (v := elp x_v0.1 (Q5.2.2.toNat * Enc.sz (List Tag) + 0)) (q_ixH (k := Q5.2.2.toNat) Tryz.underlying32 ty56 rfl rfl h14 rfl Has.here) (Rg.o (v := .slice x15.1 ((nth Q5.1 Q5.2.2.toNat).length) x15.2) (q_ldH (i := Q5.2.2.toNat) (j := 0) ty56 rfl Has.here rfl) (Rg.m rfl (bdo H1 fun r16 h17 H1 => (f1 (e_callM (c_laws_markTagS (nth Q5.1 Q5.2.2.toNat) x15 ((nth Q5.1 Q5.2.2.toNat).length) rfl Q5.2.1 h17) (Solo.tree Solo.nil) (fun _ => (Solo.tree Solo.nil)) rfl (.cons dl1 .nil) EntsB.nil) fun u18 => (Rg.a rfl (Rg.nl (nB (nT (?_))))))))))))
   refine Tr.olen Has.here fun hn => ?_; rw [hn]
   exact Tr.region (Rg.m rfl (gdo H1 fun h19 H1 => (Rg.p (p_add rfl rfl h19) (Rg.a rfl (Rg.nl (At.unzoom r16.2 x15 rfl (.cons dl1 (.cons Del.here .nil)) (nLI () (hi9 _ (sm H1)) (.cons Del.here .nil))))))))
  ·refine tExit (xT (xT (xE (?_))))
   obtain rfl := hb10 _ (sm H1)
   exact nMC () ⟨rfl, trivial⟩ Ents.refl (.cons Del.here .nil)
 ·intro y7
  show At _ _ [(1, .int .i64 (x1.1))] _ [tree (.slice x_v0.1 v0.length x_v0.2) x1.2] _
  refine nT (sr (Rg.m rfl (Rg.a rfl (nl ?_))))
  obtain rfl := si H
  exact tRet (bk (.cons Del.here .nil))
noncomputable def p_laws_markIntS_b0 (v0 : (List Int)) (Q5 : (List Int) × Int × Int) : Option (((List Int) × Int × Int) ⊕ (Int × (List Int))) := cond (decide (Q5.2.2 < (v0.length : Int))) (gd (ix Q5.2.2 Q5.1.length) <| gd (I64 (Q5.2.1 + 1)) <| gd (I64 (Q5.2.2 + 1)) <| some (.inl ((Q5.1.set Q5.2.2.toNat Q5.2.1), Q5.2.1 + 1, Q5.2.2 + 1))) (some (.inr (Q5.2.1, Q5.1)))
noncomputable def p_laws_markIntS (v0 : (List Int)) (v1 : Int) : Option (Int × (List Int)) := bd (lp (p_laws_markIntS_b0 v0) (v0, v1, 0)) fun x1 => some (x1.1, x1.2)
theorem c_laws_markIntS {r : Int × (List Int)} (v0 : (List Int)) (x_v0 : Option Addr × Nat) (n_v0 : Nat) (e_v0 : n_v0 = v0.length) (v1 : Int) (H : p_laws_markIntS v0 v1 = some r) : Fn' Tryz.prog 102 #[.slice x_v0.1 n_v0 x_v0.2, .int .i64 (v1)] [] [tree (.slice x_v0.1 n_v0 x_v0.2) v0] (ι := Unit) (fun _ => .int .i64 (r.1)) (fun _ => []) (fun _ => [tree (.slice x_v0.1 n_v0 x_v0.2) r.2]) := by
 subst e_v0
 refine cof (args := [_, _]) Tryz.func102 Tryz.ntmps102 fun c => ?_
 unfold p_laws_markIntS at H
 refine sr (Rg.a (v := .int .i64 (0)) rfl (nl (Tr.seq (sr (Rg.a (v := .int .i64 (0)) rfl (nl (bdo H fun x1 hx2 H => (tMidNC (ι := Unit) (fun ψ => [(1, .int .i64 (x1.1))]) (fun ψ => [tree (.slice x_v0.1 v0.length x_v0.2) x1.2]) ?_ ?_))))))))
 ·refine Tr.block (tLoopI hx2 () (fun Q5 _ => [(0, .slice x_v0.1 v0.length x_v0.2), (1, .int .i64 (Q5.2.1)), (5, .int .i64 (Q5.2.2))]) (fun Q5 _ => [tree (.slice x_v0.1 v0.length x_v0.2) Q5.1]) (.cons Del.here .nil) ?_)
  rintro _ Q5 z6 t8 H1 hi9 hb10
  unfold p_laws_markIntS_b0 at H1
  refine Tr.seq (sr (Rg.m rfl (Rg.m rfl (Rg.p (p_len 3 Tryz.underlying69 rfl) (Rg.p (p_lss rfl rfl) (nl (cH H1 rfl (fun h13 H1 => ?_) (fun h13 H1 => ?_))))))))
  ·refine tSkip (nT (Tr.seq (Tr.block (sr (Rg.m rfl (Rg.m rfl (Rg.m rfl (gdo H1 fun h14 H1 => (Rg.o (q_ixO' Tryz.underlying69 ty3 rfl rfl h14 Has.here) (g0 (e_setT (l := Q5.1) (α := Int) (oa := x_v0.1) Q5.2.2.toNat Q5.2.1 () ty3 rfl rfl rfl h14.lt (ShpT.wfa _) (.cons Del.here .nil)) ?_))))))))))
   refine nl (Tr.region (Rg.m rfl (gdo H1 fun h15 H1 => (Rg.p (p_add rfl rfl h15) (Rg.a rfl (Rg.nl (nB (nT (Tr.region (Rg.m rfl (gdo H1 fun h16 H1 => ?_)))))))))))
   exact Rg.p (p_add rfl rfl h16) (Rg.a rfl (Rg.nl (nLI () (hi9 _ (sm H1)) (.cons Del.here .nil))))
  ·refine tExit (xT (xT (xE (?_))))
   obtain rfl := hb10 _ (sm H1)
   exact nMC () ⟨rfl, trivial⟩ Ents.refl (.cons Del.here .nil)
 ·intro y7
  show At _ _ [(1, .int .i64 (x1.1))] _ [tree (.slice x_v0.1 v0.length x_v0.2) x1.2] _
  refine nT (sr (Rg.m rfl (Rg.a rfl (nl ?_))))
  obtain rfl := si H
  exact tRet (bk (.cons Del.here .nil))
noncomputable def p_laws_markPostS_b0 (v0 : (List Post)) (Q5 : (List Post) × Int × Int) : Option (((List Post) × Int × Int) ⊕ (Int × (List Post))) := cond (decide (Q5.2.2 < (v0.length : Int))) (gd (ix Q5.2.2 Q5.1.length) <| bd (p_laws_markText Q5.2.1) fun r16 => gd (I64 (Q5.2.1 + 1)) <| bd (p_laws_markText (Q5.2.1 + 1)) fun r19 => gd (I64 ((Q5.2.1 + 1) + 1)) <| bd (p_laws_markIntS ((nth Q5.1 Q5.2.2.toNat).2) ((Q5.2.1 + 1) + 1)) fun r22 => gd (I64 (Q5.2.2 + 1)) <| some (.inl ((Q5.1.set Q5.2.2.toNat ((r16, r19), r22.2)), r22.1, Q5.2.2 + 1))) (some (.inr (Q5.2.1, Q5.1)))
noncomputable def p_laws_markPostS (v0 : (List Post)) (v1 : Int) : Option (Int × (List Post)) := bd (lp (p_laws_markPostS_b0 v0) (v0, v1, 0)) fun x1 => some (x1.1, x1.2)
theorem c_laws_markPostS {r : Int × (List Post)} (v0 : (List Post)) (x_v0 : Option Addr × Nat) (n_v0 : Nat) (e_v0 : n_v0 = v0.length) (v1 : Int) (H : p_laws_markPostS v0 v1 = some r) : Fn' Tryz.prog 101 #[.slice x_v0.1 n_v0 x_v0.2, .int .i64 (v1)] [] [tree (.slice x_v0.1 n_v0 x_v0.2) v0] (ι := Unit) (fun _ => .int .i64 (r.1)) (fun _ => []) (fun _ => [tree (.slice x_v0.1 n_v0 x_v0.2) r.2]) := by
 subst e_v0
 refine cof (args := [_, _]) Tryz.func101 Tryz.ntmps101 fun c => ?_
 unfold p_laws_markPostS at H
 refine sr (Rg.a (v := .int .i64 (0)) rfl (nl (Tr.seq (sr (Rg.a (v := .int .i64 (0)) rfl (nl (bdo H fun x1 hx2 H => (tMidNC (ι := Unit) (fun ψ => [(1, .int .i64 (x1.1))]) (fun ψ => [tree (.slice x_v0.1 v0.length x_v0.2) x1.2]) ?_ ?_))))))))
 ·refine Tr.block (tLoopI hx2 () (fun Q5 _ => [(0, .slice x_v0.1 v0.length x_v0.2), (1, .int .i64 (Q5.2.1)), (5, .int .i64 (Q5.2.2))]) (fun Q5 _ => [tree (.slice x_v0.1 v0.length x_v0.2) Q5.1]) (.cons Del.here .nil) ?_)
  rintro _ Q5 z6 t8 H1 hi9 hb10
  unfold p_laws_markPostS_b0 at H1
  refine Tr.seq (sr (Rg.m rfl (Rg.m rfl (Rg.p (p_len 113 Tryz.underlying33 rfl) (Rg.p (p_lss rfl rfl) (nl (cH H1 rfl (fun h13 H1 => ?_) (fun h13 H1 => ?_))))))))
  ·refine tSkip (nT (Tr.seq (Tr.block (Tr.seq (gdo H1 fun h14 H1 => (Tr.zoom (k := Q5.2.2.toNat) h14.lt (.cons Del.here .nil) fun x15 => ?_))))))
   show Tr _ _ _ _ _ _ _ (hole (.slice x_v0.1 v0.length x_v0.2) Q5.1 Q5.2.2.toNat [.string (((nth Q5.1 Q5.2.2.toNat).1).1), .string (((nth Q5.1 Q5.2.2.toNat).1).2), .slice x15.2.1 (((nth Q5.1 Q5.2.2.toNat).2).length) x15.2.2] :: tree (.slice x15.2.1 (((nth Q5.1 Q5.2.2.toNat).2).length) x15.2.2) ((nth Q5.1 Q5.2.2.toNat).2) :: _)
   refine Tr.region (Rg.m rfl (Rg.m rfl (Rg.m rfl (bdo H1 fun r16 h17 H1 => (Rg.o (q_call (c_laws_markText Q5.2.1 h17) rfl EntsB.nil) (Rg.o (v := elp x_v0.1 (Q5.2.2.toNat * Enc.sz Post + 0)) (q_ixH (k := Q5.2.2.toNat) Tryz.underlying33 ty113 rfl rfl h14 rfl Has.here) (Rg.o (v := elp x_v0.1 (Q5.2.2.toNat * Enc.sz Post + 0)) (q_faH (j := 0) (i := Q5.2.2.toNat) fa113_0 rfl Has.here rfl) (Rg.o (v := elp x_v0.1 (Q5.2.2.toNat * Enc.sz Post + 0)) (q_faH (j := 0) (i := Q5.2.2.toNat) fa96_0 rfl Has.here rfl) (g0 (e_stH (v := .string (r16)) (i := Q5.2.2.toNat) (j := 0) (cs' := [.string (r16), .string (((nth Q5.1 Q5.2.2.toNat).1).2), .slice x15.2.1 (((nth Q5.1 Q5.2.2.toNat).2).length) x15.2.2]) ty9 rfl rfl (.cons Del.here .nil) rfl (one_of rfl) (Nat.le_of_ble_eq_true rfl) rfl rfl) ?_)))))))))
   refine nl (sr (Rg.m rfl (gdo H1 fun h18 H1 => (Rg.p (p_add rfl rfl h18) (Rg.a rfl (nl (sr (Rg.m rfl (Rg.m rfl (Rg.m rfl ?_))))))))))
   refine bdo H1 fun r19 h20 H1 => (Rg.o (q_call (c_laws_markText (Q5.2.1 + 1) h20) rfl EntsB.nil) (Rg.o (v := elp x_v0.1 (Q5.2.2.toNat * Enc.sz Post + 0)) (q_ixH (k := Q5.2.2.toNat) Tryz.underlying33 ty113 rfl rfl h14 rfl Has.here) (Rg.o (v := elp x_v0.1 (Q5.2.2.toNat * Enc.sz Post + 0)) (q_faH (j := 0) (i := Q5.2.2.toNat) fa113_0 rfl Has.here rfl) (Rg.o (v := elp x_v0.1 (Q5.2.2.toNat * Enc.sz Post + 1)) (q_faH (j := 0) (i := Q5.2.2.toNat) fa96_1 rfl Has.here rfl) (g0 (e_stH (v := .string (r19)) (i := Q5.2.2.toNat) (j := 1) (cs' := [.string (r16), .string (r19), .slice x15.2.1 (((nth Q5.1 Q5.2.2.toNat).2).length) x15.2.2]) ty9 rfl rfl (.cons Del.here .nil) rfl (one_of rfl) (Nat.le_of_ble_eq_true rfl) rfl rfl) (nl (sr (Rg.m rfl (gdo H1 fun h21 H1 => ?_)))))))))
   refine Rg.p (p_add rfl rfl h21) (Rg.a rfl (nl (Tr.region (Rg.m rfl (Rg.m rfl (Rg.o (v := elp x_v0.1 (Q5.2.2.toNat * Enc.sz Post + 0)) (q_ixH (k := Q5.2.2.toNat) Tryz.underlying33 ty113 rfl rfl h14 rfl Has.here) (Rg.o (v := elp x_v0.1 (Q5.2.2.toNat * Enc.sz Post + 2)) (q_faH (j := 0) (i := Q5.2.2.toNat) fa113_1 rfl Has.here rfl) (Rg.o (v := .slice x15.2.1 (((nth Q5.1 Q5.2.2.toNat).2).length) x15.2.2) (q_ldH (i := Q5.2.2.toNat) (j := 2) ty69 rfl Has.here rfl) (Rg.m rfl (bdo H1 fun r22 h23 H1 => ?_))))))))))
   refine f1 (e_callM (c_laws_markIntS ((nth Q5.1 Q5.2.2.toNat).2) x15.2 (((nth Q5.1 Q5.2.2.toNat).2).length) rfl ((Q5.2.1 + 1) + 1) h23) (Solo.tree Solo.nil) (fun _ => (Solo.tree Solo.nil)) rfl (.cons dl1 .nil) EntsB.nil) fun u24 => (Rg.a rfl (Rg.nl (nB (nT (?_)))))
   refine Tr.olen Has.here fun hn => ?_; rw [hn]
   exact Tr.region (Rg.m rfl (gdo H1 fun h25 H1 => (Rg.p (p_add rfl rfl h25) (Rg.a rfl (Rg.nl (At.unzoom ((r16, r19), r22.2) (((), ()), x15.2) rfl (.cons dl1 (.cons Del.here .nil)) (nLI () (hi9 _ (sm H1)) (.cons Del.here .nil))))))))
  ·refine tExit (xT (xT (xE (?_))))
   obtain rfl := hb10 _ (sm H1)
   exact nMC () ⟨rfl, trivial⟩ Ents.refl (.cons Del.here .nil)
 ·intro y7
  show At _ _ [(1, .int .i64 (x1.1))] _ [tree (.slice x_v0.1 v0.length x_v0.2) x1.2] _
  refine nT (sr (Rg.m rfl (Rg.a rfl (nl ?_))))
  obtain rfl := si H
  exact tRet (bk (.cons Del.here .nil))
noncomputable def p_laws_markIndex (v0 : Index) (v1 : Int) : Option (Int × Index) := bd (p_laws_markTagSS v0.1 v1) fun r2 => bd (p_laws_markPostS v0.2 r2.1) fun r5 => some (r5.1, (r2.2, r5.2))
theorem c_laws_markIndex {r : Int × Index} (v0 : Index) (x_v0 : (Option Addr × Nat) × (Option Addr × Nat)) (v1 : Int) (H : p_laws_markIndex v0 v1 = some r) : Fn' Tryz.prog 52 #[.agg #[.slice x_v0.1.1 v0.1.length x_v0.1.2, .slice x_v0.2.1 v0.2.length x_v0.2.2], .int .i64 (v1)] [] [tree (.slice x_v0.1.1 v0.1.length x_v0.1.2) v0.1, tree (.slice x_v0.2.1 v0.2.length x_v0.2.2) v0.2] (ι := Unit) (fun _ => .int .i64 (r.1)) (fun _ => []) (fun _ => [tree (.slice x_v0.1.1 v0.1.length x_v0.1.2) r.2.1, tree (.slice x_v0.2.1 v0.2.length x_v0.2.2) r.2.2]) := by
 refine cof (args := [_, _]) Tryz.func52 Tryz.ntmps52 fun c => ?_
 unfold p_laws_markIndex at H
 refine sr (f1 (e_box (t := 35) rfl) fun g1 => (Rg.a (v := .int .i64 (0)) rfl (nl (sr (Rg.p (p_fabE fa35_0 rfl rfl) (Rg.o (q_ldb ty32 rfl Has.here rfl) (Rg.m rfl (bdo H fun r2 h3 H => (f1 (e_callM (c_laws_markTagSS v0.1 x_v0.1 v0.1.length rfl v1 h3) (Solo.tree Solo.nil) (fun _ => (Solo.tree Solo.nil)) rfl (.cons dl1 .nil) EntsB.nil) fun u4 => (Rg.a rfl (nl ?_)))))))))))
 refine sr (Rg.p (p_fabE fa35_1 rfl rfl) (Rg.o (q_ldb ty33 rfl hs1 rfl) (Rg.m rfl (bdo H fun r5 h6 H => (f1 (e_callM (c_laws_markPostS v0.2 x_v0.2 v0.2.length rfl r2.1 h6) (Solo.tree Solo.nil) (fun _ => (Solo.tree Solo.nil)) rfl (.cons dl2 .nil) EntsB.nil) fun u7 => (Rg.a rfl (nl (sr (Rg.m rfl (Rg.a rfl (nl ?_)))))))))))
 obtain rfl := si H
 exact tRet (bk (.cons dl1 (.cons Del.here .nil)))
noncomputable def p_laws_markRowS_b0 (v0 : (List Row)) (Q5 : (List Row) × Int × Int) : Option (((List Row) × Int × Int) ⊕ (Int × (List Row))) := cond (decide (Q5.2.2 < (v0.length : Int))) (gd (ix Q5.2.2 Q5.1.length) <| gd (I64 (Q5.2.1 + 1)) <| gd (I64 ((Q5.2.1 + 1) + 1)) <| gd (I64 (Q5.2.2 + 1)) <| some (.inl ((Q5.1.set Q5.2.2.toNat (Q5.2.1, (Q5.2.1 + 1))), (Q5.2.1 + 1) + 1, Q5.2.2 + 1))) (some (.inr (Q5.2.1, Q5.1)))
noncomputable def p_laws_markRowS (v0 : (List Row)) (v1 : Int) : Option (Int × (List Row)) := bd (lp (p_laws_markRowS_b0 v0) (v0, v1, 0)) fun x1 => some (x1.1, x1.2)
theorem c_laws_markRowS {r : Int × (List Row)} (v0 : (List Row)) (x_v0 : Option Addr × Nat) (n_v0 : Nat) (e_v0 : n_v0 = v0.length) (v1 : Int) (H : p_laws_markRowS v0 v1 = some r) : Fn' Tryz.prog 17 #[.slice x_v0.1 n_v0 x_v0.2, .int .i64 (v1)] [] [tree (.slice x_v0.1 n_v0 x_v0.2) v0] (ι := Unit) (fun _ => .int .i64 (r.1)) (fun _ => []) (fun _ => [tree (.slice x_v0.1 n_v0 x_v0.2) r.2]) := by
 subst e_v0
 refine cof (args := [_, _]) Tryz.func17 Tryz.ntmps17 fun c => ?_
 unfold p_laws_markRowS at H
 refine sr (Rg.a (v := .int .i64 (0)) rfl (nl (Tr.seq (sr (Rg.a (v := .int .i64 (0)) rfl (nl (bdo H fun x1 hx2 H => (tMidNC (ι := Unit) (fun ψ => [(1, .int .i64 (x1.1))]) (fun ψ => [tree (.slice x_v0.1 v0.length x_v0.2) x1.2]) ?_ ?_))))))))
 ·refine Tr.block (tLoopI hx2 () (fun Q5 _ => [(0, .slice x_v0.1 v0.length x_v0.2), (1, .int .i64 (Q5.2.1)), (5, .int .i64 (Q5.2.2))]) (fun Q5 _ => [tree (.slice x_v0.1 v0.length x_v0.2) Q5.1]) (.cons Del.here .nil) ?_)
  rintro _ Q5 z6 t8 H1 hi9 hb10
  unfold p_laws_markRowS_b0 at H1
  refine Tr.seq (sr (Rg.m rfl (Rg.m rfl (Rg.p (p_len 58 Tryz.underlying43 rfl) (Rg.p (p_lss rfl rfl) (nl (cH H1 rfl (fun h13 H1 => ?_) (fun h13 H1 => ?_))))))))
  ·refine tSkip (nT (Tr.seq (Tr.block (Tr.seq (gdo H1 fun h14 H1 => (Tr.zoom (k := Q5.2.2.toNat) h14.lt (.cons Del.here .nil) fun x15 => ?_))))))
   show Tr _ _ _ _ _ _ _ (hole (.slice x_v0.1 v0.length x_v0.2) Q5.1 Q5.2.2.toNat [.int .i64 ((nth Q5.1 Q5.2.2.toNat).1), .int .i64 ((nth Q5.1 Q5.2.2.toNat).2)] :: _)
   refine Tr.region (Rg.m rfl (Rg.m rfl (Rg.m rfl (Rg.o (v := elp x_v0.1 (Q5.2.2.toNat * Enc.sz Row + 0)) (q_ixH (k := Q5.2.2.toNat) Tryz.underlying43 ty58 rfl rfl h14 rfl Has.here) (Rg.o (v := elp x_v0.1 (Q5.2.2.toNat * Enc.sz Row + 0)) (q_faH (j := 0) (i := Q5.2.2.toNat) fa58_0 rfl Has.here rfl) (g0 (e_stH (v := .int .i64 (Q5.2.1)) (i := Q5.2.2.toNat) (j := 0) (cs' := [.int .i64 (Q5.2.1), .int .i64 ((nth Q5.1 Q5.2.2.toNat).2)]) ty3 rfl rfl (.cons Del.here .nil) rfl (one_of rfl) (Nat.le_of_ble_eq_true rfl) rfl rfl) (nl (sr (Rg.m rfl ?_)))))))))
   refine gdo H1 fun h16 H1 => (Rg.p (p_add rfl rfl h16) (Rg.a rfl (nl (sr (Rg.m rfl (Rg.m rfl (Rg.m rfl (Rg.o (v := elp x_v0.1 (Q5.2.2.toNat * Enc.sz Row + 0)) (q_ixH (k := Q5.2.2.toNat) Tryz.underlying43 ty58 rfl rfl h14 rfl Has.here) (Rg.o (v := elp x_v0.1 (Q5.2.2.toNat * Enc.sz Row + 1)) (q_faH (j := 0) (i := Q5.2.2.toNat) fa58_1 rfl Has.here rfl) (g0 (e_stH (v := .int .i64 (Q5.2.1 + 1)) (i := Q5.2.2.toNat) (j := 1) (cs' := [.int .i64 (Q5.2.1), .int .i64 (Q5.2.1 + 1)]) ty3 rfl rfl (.cons Del.here .nil) rfl (one_of rfl) (Nat.le_of_ble_eq_true rfl) rfl rfl) ?_))))))))))
   refine nl (Tr.region (Rg.m rfl (gdo H1 fun h17 H1 => (Rg.p (p_add rfl rfl h17) (Rg.a rfl (Rg.nl (nB (nT (Tr.region (Rg.m rfl (gdo H1 fun h18 H1 => ?_)))))))))))
   exact Rg.p (p_add rfl rfl h18) (Rg.a rfl (Rg.nl (At.unzoom (Q5.2.1, (Q5.2.1 + 1)) ((), ()) rfl (.cons Del.here .nil) (nLI () (hi9 _ (sm H1)) (.cons Del.here .nil)))))
  ·refine tExit (xT (xT (xE (?_))))
   obtain rfl := hb10 _ (sm H1)
   exact nMC () ⟨rfl, trivial⟩ Ents.refl (.cons Del.here .nil)
 ·intro y7
  show At _ _ [(1, .int .i64 (x1.1))] _ [tree (.slice x_v0.1 v0.length x_v0.2) x1.2] _
  refine nT (sr (Rg.m rfl (Rg.a rfl (nl ?_))))
  obtain rfl := si H
  exact tRet (bk (.cons Del.here .nil))
noncomputable def p_laws_markRowSS_b0 (v0 : (List (List Row))) (Q5 : (List (List Row)) × Int × Int) : Option (((List (List Row)) × Int × Int) ⊕ (Int × (List (List Row)))) := cond (decide (Q5.2.2 < (v0.length : Int))) (gd (ix Q5.2.2 Q5.1.length) <| bd (p_laws_markRowS (nth Q5.1 Q5.2.2.toNat) Q5.2.1) fun r16 => gd (I64 (Q5.2.2 + 1)) <| some (.inl ((Q5.1.set Q5.2.2.toNat r16.2), r16.1, Q5.2.2 + 1))) (some (.inr (Q5.2.1, Q5.1)))
noncomputable def p_laws_markRowSS (v0 : (List (List Row))) (v1 : Int) : Option (Int × (List (List Row))) := bd (lp (p_laws_markRowSS_b0 v0) (v0, v1, 0)) fun x1 => some (x1.1, x1.2)
theorem c_laws_markRowSS {r : Int × (List (List Row))} (v0 : (List (List Row))) (x_v0 : Option Addr × Nat) (n_v0 : Nat) (e_v0 : n_v0 = v0.length) (v1 : Int) (H : p_laws_markRowSS v0 v1 = some r) : Fn' Tryz.prog 103 #[.slice x_v0.1 n_v0 x_v0.2, .int .i64 (v1)] [] [tree (.slice x_v0.1 n_v0 x_v0.2) v0] (ι := Unit) (fun _ => .int .i64 (r.1)) (fun _ => []) (fun _ => [tree (.slice x_v0.1 n_v0 x_v0.2) r.2]) := by
 subst e_v0
 refine cof (args := [_, _]) Tryz.func103 Tryz.ntmps103 fun c => ?_
 unfold p_laws_markRowSS at H
 refine sr (Rg.a (v := .int .i64 (0)) rfl (nl (Tr.seq (sr (Rg.a (v := .int .i64 (0)) rfl (nl (bdo H fun x1 hx2 H => (tMidNC (ι := Unit) (fun ψ => [(1, .int .i64 (x1.1))]) (fun ψ => [tree (.slice x_v0.1 v0.length x_v0.2) x1.2]) ?_ ?_))))))))
 ·refine Tr.block (tLoopI hx2 () (fun Q5 _ => [(0, .slice x_v0.1 v0.length x_v0.2), (1, .int .i64 (Q5.2.1)), (5, .int .i64 (Q5.2.2))]) (fun Q5 _ => [tree (.slice x_v0.1 v0.length x_v0.2) Q5.1]) (.cons Del.here .nil) ?_)
  rintro _ Q5 z6 t8 H1 hi9 hb10
  unfold p_laws_markRowSS_b0 at H1
  refine Tr.seq (sr (Rg.m rfl (Rg.m rfl (Rg.p (p_len 43 Tryz.underlying70 rfl) (Rg.p (p_lss rfl rfl) (nl (cH H1 rfl (fun h13 H1 => ?_) (fun h13 H1 => ?_))))))))
  ·refine tSkip (nT (Tr.seq (Tr.block (gdo H1 fun h14 H1 => (Tr.zoom (k := Q5.2.2.toNat) h14.lt (.cons Del.here .nil) fun x15 => ?_)))))
   show Tr _ _ _ _ _ _ _ (hole (.slice x_v0.1 v0.length x_v0.2) Q5.1 Q5.2.2.toNat [.slice x15.1 ((nth Q5.1 Q5.2.2.toNat).length) x15.2] :: tree (.slice x15.1 ((nth Q5.1 Q5.2.2.toNat).length) x15.2) (nth Q5.1 Q5.2.2.toNat) :: _)
   refine Tr.region (Rg.m rfl (Rg.m rfl (Rg.o (v := elp x_v0.1 (Q5.2.2.toNat * Enc.sz (List Row) + 0)) (q_ixH (k := Q5.2.2.toNat) Tryz.underlying70 ty43 rfl rfl h14 rfl Has.here) (Rg.o (v := .slice x15.1 ((nth Q5.1 Q5.2.2.toNat).length) x15.2) (q_ldH (i := Q5.2.2.toNat) (j := 0) ty43 rfl Has.here rfl) (Rg.m rfl (bdo H1 fun r16 h17 H1 => (f1 (e_callM (c_laws_markRowS (nth Q5.1 Q5.2.2.toNat) x15 ((nth Q5.1 Q5.2.2.toNat).length) rfl Q5.2.1 h17) (Solo.tree Solo.nil) (fun _ => (Solo.tree Solo.nil)) rfl (.cons dl1 .nil) EntsB.nil) fun u18 => (Rg.a rfl (Rg.nl (nB (nT (?_))))))))))))
   refine Tr.olen Has.here fun hn => ?_; rw [hn]
   exact Tr.region (Rg.m rfl (gdo H1 fun h19 H1 => (Rg.p (p_add rfl rfl h19) (Rg.a rfl (Rg.nl (At.unzoom r16.2 x15 rfl (.cons dl1 (.cons Del.here .nil)) (nLI () (hi9 _ (sm H1)) (.cons Del.here .nil))))))))
  ·refine tExit (xT (xT (xE (?_))))
   obtain rfl := hb10 _ (sm H1)
   exact nMC () ⟨rfl, trivial⟩ Ents.refl (.cons Del.here .nil)
 ·intro y7
  show At _ _ [(1, .int .i64 (x1.1))] _ [tree (.slice x_v0.1 v0.length x_v0.2) x1.2] _
  refine nT (sr (Rg.m rfl (Rg.a rfl (nl ?_))))
  obtain rfl := si H
  exact tRet (bk (.cons Del.here .nil))
noncomputable def p_laws_markPartS_b0 (v0 : (List Part)) (Q5 : (List Part) × Int × Int) : Option (((List Part) × Int × Int) ⊕ (Int × (List Part))) := cond (decide (Q5.2.2 < (v0.length : Int))) (gd (ix Q5.2.2 Q5.1.length) <| bd (p_laws_markIntS ((nth Q5.1 Q5.2.2.toNat).1) Q5.2.1) fun r16 => bd (p_laws_markRowSS ((nth Q5.1 Q5.2.2.toNat).2) r16.1) fun r19 => gd (I64 (Q5.2.2 + 1)) <| some (.inl ((Q5.1.set Q5.2.2.toNat (r16.2, r19.2)), r19.1, Q5.2.2 + 1))) (some (.inr (Q5.2.1, Q5.1)))
noncomputable def p_laws_markPartS (v0 : (List Part)) (v1 : Int) : Option (Int × (List Part)) := bd (lp (p_laws_markPartS_b0 v0) (v0, v1, 0)) fun x1 => some (x1.1, x1.2)
theorem c_laws_markPartS {r : Int × (List Part)} (v0 : (List Part)) (x_v0 : Option Addr × Nat) (n_v0 : Nat) (e_v0 : n_v0 = v0.length) (v1 : Int) (H : p_laws_markPartS v0 v1 = some r) : Fn' Tryz.prog 53 #[.slice x_v0.1 n_v0 x_v0.2, .int .i64 (v1)] [] [tree (.slice x_v0.1 n_v0 x_v0.2) v0] (ι := Unit) (fun _ => .int .i64 (r.1)) (fun _ => []) (fun _ => [tree (.slice x_v0.1 n_v0 x_v0.2) r.2]) := by
 subst e_v0
 refine cof (args := [_, _]) Tryz.func53 Tryz.ntmps53 fun c => ?_
 unfold p_laws_markPartS at H
 refine sr (Rg.a (v := .int .i64 (0)) rfl (nl (Tr.seq (sr (Rg.a (v := .int .i64 (0)) rfl (nl (bdo H fun x1 hx2 H => (tMidNC (ι := Unit) (fun ψ => [(1, .int .i64 (x1.1))]) (fun ψ => [tree (.slice x_v0.1 v0.length x_v0.2) x1.2]) ?_ ?_))))))))
 ·refine Tr.block (tLoopI hx2 () (fun Q5 _ => [(0, .slice x_v0.1 v0.length x_v0.2), (1, .int .i64 (Q5.2.1)), (5, .int .i64 (Q5.2.2))]) (fun Q5 _ => [tree (.slice x_v0.1 v0.length x_v0.2) Q5.1]) (.cons Del.here .nil) ?_)
  rintro _ Q5 z6 t8 H1 hi9 hb10
  unfold p_laws_markPartS_b0 at H1
  refine Tr.seq (sr (Rg.m rfl (Rg.m rfl (Rg.p (p_len 72 Tryz.underlying36 rfl) (Rg.p (p_lss rfl rfl) (nl (cH H1 rfl (fun h13 H1 => ?_) (fun h13 H1 => ?_))))))))
  ·refine tSkip (nT (Tr.seq (Tr.block (Tr.seq (gdo H1 fun h14 H1 => (Tr.zoom (k := Q5.2.2.toNat) h14.lt (.cons Del.here .nil) fun x15 => ?_))))))
   show Tr _ _ _ _ _ _ _ (hole (.slice x_v0.1 v0.length x_v0.2) Q5.1 Q5.2.2.toNat [.slice x15.1.1 (((nth Q5.1 Q5.2.2.toNat).1).length) x15.1.2, .slice x15.2.1 (((nth Q5.1 Q5.2.2.toNat).2).length) x15.2.2] :: tree (.slice x15.1.1 (((nth Q5.1 Q5.2.2.toNat).1).length) x15.1.2) ((nth Q5.1 Q5.2.2.toNat).1) :: tree (.slice x15.2.1 (((nth Q5.1 Q5.2.2.toNat).2).length) x15.2.2) ((nth Q5.1 Q5.2.2.toNat).2) :: _)
   refine Tr.region (Rg.m rfl (Rg.m rfl (Rg.o (v := elp x_v0.1 (Q5.2.2.toNat * Enc.sz Part + 0)) (q_ixH (k := Q5.2.2.toNat) Tryz.underlying36 ty72 rfl rfl h14 rfl Has.here) (Rg.o (v := elp x_v0.1 (Q5.2.2.toNat * Enc.sz Part + 0)) (q_faH (j := 0) (i := Q5.2.2.toNat) fa72_0 rfl Has.here rfl) (Rg.o (v := .slice x15.1.1 (((nth Q5.1 Q5.2.2.toNat).1).length) x15.1.2) (q_ldH (i := Q5.2.2.toNat) (j := 0) ty69 rfl Has.here rfl) (Rg.m rfl (bdo H1 fun r16 h17 H1 => (f1 (e_callM (c_laws_markIntS ((nth Q5.1 Q5.2.2.toNat).1) x15.1 (((nth Q5.1 Q5.2.2.toNat).1).length) rfl Q5.2.1 h17) (Solo.tree Solo.nil) (fun _ => (Solo.tree Solo.nil)) rfl (.cons dl1 .nil) EntsB.nil) fun u18 => (Rg.a rfl (nl ?_))))))))))
   refine Tr.olen Has.here fun hn => ?_; rw [hn]
   refine Tr.region (Rg.m rfl (Rg.m rfl (Rg.o (v := elp x_v0.1 (Q5.2.2.toNat * Enc.sz Part + 0)) (q_ixH (k := Q5.2.2.toNat) Tryz.underlying36 ty72 rfl rfl h14 rfl hs1) (Rg.o (v := elp x_v0.1 (Q5.2.2.toNat * Enc.sz Part + 1)) (q_faH (j := 0) (i := Q5.2.2.toNat) fa72_1 rfl hs1 rfl) (Rg.o (v := .slice x15.2.1 (((nth Q5.1 Q5.2.2.toNat).2).length) x15.2.2) (q_ldH (i := Q5.2.2.toNat) (j := 1) ty70 rfl hs1 rfl) (Rg.m rfl (bdo H1 fun r19 h20 H1 => (f1 (e_callM (c_laws_markRowSS ((nth Q5.1 Q5.2.2.toNat).2) x15.2 (((nth Q5.1 Q5.2.2.toNat).2).length) rfl r16.1 h20) (Solo.tree Solo.nil) (fun _ => (Solo.tree Solo.nil)) rfl (.cons dl2 .nil) EntsB.nil) fun u21 => (Rg.a rfl (Rg.nl ?_))))))))))
   refine nB (nT (?_))
   refine Tr.olen Has.here fun hn => ?_; rw [hn]
   exact Tr.region (Rg.m rfl (gdo H1 fun h22 H1 => (Rg.p (p_add rfl rfl h22) (Rg.a rfl (Rg.nl (At.unzoom (r16.2, r19.2) x15 rfl (.cons dl2 (.cons dl1 (.cons Del.here .nil))) (nLI () (hi9 _ (sm H1)) (.cons Del.here .nil))))))))
  ·refine tExit (xT (xT (xE (?_))))
   obtain rfl := hb10 _ (sm H1)
   exact nMC () ⟨rfl, trivial⟩ Ents.refl (.cons Del.here .nil)
 ·intro y7
  show At _ _ [(1, .int .i64 (x1.1))] _ [tree (.slice x_v0.1 v0.length x_v0.2) x1.2] _
  refine nT (sr (Rg.m rfl (Rg.a rfl (nl ?_))))
  obtain rfl := si H
  exact tRet (bk (.cons Del.here .nil))
noncomputable def p_laws_markSampleS_b0 (v0 : (List Sample)) (Q5 : (List Sample) × Int × Int) : Option (((List Sample) × Int × Int) ⊕ (Int × (List Sample))) := cond (decide (Q5.2.2 < (v0.length : Int))) (gd (ix Q5.2.2 Q5.1.length) <| gd (I64 (Q5.2.1 + 1)) <| gd (I64 ((Q5.2.1 + 1) + 1)) <| gd (I64 (((Q5.2.1 + 1) + 1) + 1)) <| gd (I64 (Q5.2.2 + 1)) <| some (.inl ((Q5.1.set Q5.2.2.toNat (Q5.2.1, ((Q5.2.1 + 1), ((Q5.2.1 + 1) + 1)))), ((Q5.2.1 + 1) + 1) + 1, Q5.2.2 + 1))) (some (.inr (Q5.2.1, Q5.1)))
noncomputable def p_laws_markSampleS (v0 : (List Sample)) (v1 : Int) : Option (Int × (List Sample)) := bd (lp (p_laws_markSampleS_b0 v0) (v0, v1, 0)) fun x1 => some (x1.1, x1.2)
theorem c_laws_markSampleS {r : Int × (List Sample)} (v0 : (List Sample)) (x_v0 : Option Addr × Nat) (n_v0 : Nat) (e_v0 : n_v0 = v0.length) (v1 : Int) (H : p_laws_markSampleS v0 v1 = some r) : Fn' Tryz.prog 54 #[.slice x_v0.1 n_v0 x_v0.2, .int .i64 (v1)] [] [tree (.slice x_v0.1 n_v0 x_v0.2) v0] (ι := Unit) (fun _ => .int .i64 (r.1)) (fun _ => []) (fun _ => [tree (.slice x_v0.1 n_v0 x_v0.2) r.2]) := by
 subst e_v0
 refine cof (args := [_, _]) Tryz.func54 Tryz.ntmps54 fun c => ?_
 unfold p_laws_markSampleS at H
 refine sr (Rg.a (v := .int .i64 (0)) rfl (nl (Tr.seq (sr (Rg.a (v := .int .i64 (0)) rfl (nl (bdo H fun x1 hx2 H => (tMidNC (ι := Unit) (fun ψ => [(1, .int .i64 (x1.1))]) (fun ψ => [tree (.slice x_v0.1 v0.length x_v0.2) x1.2]) ?_ ?_))))))))
 ·refine Tr.block (tLoopI hx2 () (fun Q5 _ => [(0, .slice x_v0.1 v0.length x_v0.2), (1, .int .i64 (Q5.2.1)), (5, .int .i64 (Q5.2.2))]) (fun Q5 _ => [tree (.slice x_v0.1 v0.length x_v0.2) Q5.1]) (.cons Del.here .nil) ?_)
  rintro _ Q5 z6 t8 H1 hi9 hb10
  unfold p_laws_markSampleS_b0 at H1
  refine Tr.seq (sr (Rg.m rfl (Rg.m rfl (Rg.p (p_len 75 Tryz.underlying37 rfl) (Rg.p (p_lss rfl rfl) (nl (cH H1 rfl (fun h13 H1 => ?_) (fun h13 H1 => ?_))))))))
  ·refine tSkip (nT (Tr.seq (Tr.block (Tr.seq (gdo H1 fun h14 H1 => (Tr.zoom (k := Q5.2.2.toNat) h14.lt (.cons Del.here .nil) fun x15 => ?_))))))
   show Tr _ _ _ _ _ _ _ (hole (.slice x_v0.1 v0.length x_v0.2) Q5.1 Q5.2.2.toNat [.int .i64 ((nth Q5.1 Q5.2.2.toNat).1), .int .i64 (((nth Q5.1 Q5.2.2.toNat).2).1), .int .i64 (((nth Q5.1 Q5.2.2.toNat).2).2)] :: _)
   refine Tr.region (Rg.m rfl (Rg.m rfl (Rg.m rfl (Rg.o (v := elp x_v0.1 (Q5.2.2.toNat * Enc.sz Sample + 0)) (q_ixH (k := Q5.2.2.toNat) Tryz.underlying37 ty75 rfl rfl h14 rfl Has.here) (Rg.o (v := elp x_v0.1 (Q5.2.2.toNat * Enc.sz Sample + 0)) (q_faH (j := 0) (i := Q5.2.2.toNat) fa75_0 rfl Has.here rfl) (g0 (e_stH (v := .int .i64 (Q5.2.1)) (i := Q5.2.2.toNat) (j := 0) (cs' := [.int .i64 (Q5.2.1), .int .i64 (((nth Q5.1 Q5.2.2.toNat).2).1), .int .i64 (((nth Q5.1 Q5.2.2.toNat).2).2)]) ty3 rfl rfl (.cons Del.here .nil) rfl (one_of rfl) (Nat.le_of_ble_eq_true rfl) rfl rfl) (nl (sr (Rg.m rfl ?_)))))))))
   refine gdo H1 fun h16 H1 => (Rg.p (p_add rfl rfl h16) (Rg.a rfl (nl (sr (Rg.m rfl (Rg.m rfl (Rg.m rfl (Rg.o (v := elp x_v0.1 (Q5.2.2.toNat * Enc.sz Sample + 0)) (q_ixH (k := Q5.2.2.toNat) Tryz.underlying37 ty75 rfl rfl h14 rfl Has.here) (Rg.o (v := elp x_v0.1 (Q5.2.2.toNat * Enc.sz Sample + 1)) (q_faH (j := 0) (i := Q5.2.2.toNat) fa75_1 rfl Has.here rfl) (Rg.o (v := elp x_v0.1 (Q5.2.2.toNat * Enc.sz Sample + 1)) (q_faH (j := 1) (i := Q5.2.2.toNat) fa58_0 rfl Has.here rfl) ?_))))))))))
   refine g0 (e_stH (v := .int .i64 (Q5.2.1 + 1)) (i := Q5.2.2.toNat) (j := 1) (cs' := [.int .i64 (Q5.2.1), .int .i64 (Q5.2.1 + 1), .int .i64 (((nth Q5.1 Q5.2.2.toNat).2).2)]) ty3 rfl rfl (.cons Del.here .nil) rfl (one_of rfl) (Nat.le_of_ble_eq_true rfl) rfl rfl) (nl (sr (Rg.m rfl (gdo H1 fun h17 H1 => (Rg.p (p_add rfl rfl h17) (Rg.a rfl (nl (sr (Rg.m rfl (Rg.m rfl ?_))))))))))
   refine Rg.m rfl (Rg.o (v := elp x_v0.1 (Q5.2.2.toNat * Enc.sz Sample + 0)) (q_ixH (k := Q5.2.2.toNat) Tryz.underlying37 ty75 rfl rfl h14 rfl Has.here) (Rg.o (v := elp x_v0.1 (Q5.2.2.toNat * Enc.sz Sample + 1)) (q_faH (j := 0) (i := Q5.2.2.toNat) fa75_1 rfl Has.here rfl) (Rg.o (v := elp x_v0.1 (Q5.2.2.toNat * Enc.sz Sample + 2)) (q_faH (j := 1) (i := Q5.2.2.toNat) fa58_1 rfl Has.here rfl) (g0 (e_stH (v := .int .i64 ((Q5.2.1 + 1) + 1)) (i := Q5.2.2.toNat) (j := 2) (cs' := [.int .i64 (Q5.2.1), .int .i64 (Q5.2.1 + 1), .int .i64 ((Q5.2.1 + 1) + 1)]) ty3 rfl rfl (.cons Del.here .nil) rfl (one_of rfl) (Nat.le_of_ble_eq_true rfl) rfl rfl) (nl (Tr.region (Rg.m rfl (gdo H1 fun h18 H1 => (Rg.p (p_add rfl rfl h18) ?_)))))))))
   exact Rg.a rfl (Rg.nl (nB (nT (Tr.region (Rg.m rfl (gdo H1 fun h19 H1 => (Rg.p (p_add rfl rfl h19) (Rg.a rfl (Rg.nl (At.unzoom (Q5.2.1, ((Q5.2.1 + 1), ((Q5.2.1 + 1) + 1))) ((), ((), ())) rfl (.cons Del.here .nil) (nLI () (hi9 _ (sm H1)) (.cons Del.here .nil))))))))))))
  ·refine tExit (xT (xT (xE (?_))))
   obtain rfl := hb10 _ (sm H1)
   exact nMC () ⟨rfl, trivial⟩ Ents.refl (.cons Del.here .nil)
 ·intro y7
  show At _ _ [(1, .int .i64 (x1.1))] _ [tree (.slice x_v0.1 v0.length x_v0.2) x1.2] _
  refine nT (sr (Rg.m rfl (Rg.a rfl (nl ?_))))
  obtain rfl := si H
  exact tRet (bk (.cons Del.here .nil))
noncomputable def p_laws_markStore (v0 : Store) (v1 : Int) : Option (Int × Store) := bd (p_laws_markIndex v0.1 v1) fun r2 => bd (p_laws_markPartS v0.2.1 r2.1) fun r5 => bd (p_laws_markSampleS v0.2.2 r5.1) fun r8 => some (r8.1, (r2.2, r5.2, r8.2))
theorem c_laws_markStore {r : Int × Store} (v0 : Store) (x_v0 : ((Option Addr × Nat) × (Option Addr × Nat)) × (Option Addr × Nat) × (Option Addr × Nat)) (v1 : Int) (H : p_laws_markStore v0 v1 = some r) : Fn' Tryz.prog 16 #[.agg #[.slice x_v0.1.1.1 v0.1.1.length x_v0.1.1.2, .slice x_v0.1.2.1 v0.1.2.length x_v0.1.2.2, .slice x_v0.2.1.1 v0.2.1.length x_v0.2.1.2, .slice x_v0.2.2.1 v0.2.2.length x_v0.2.2.2], .int .i64 (v1)] [] [tree (.slice x_v0.1.1.1 v0.1.1.length x_v0.1.1.2) v0.1.1, tree (.slice x_v0.1.2.1 v0.1.2.length x_v0.1.2.2) v0.1.2, tree (.slice x_v0.2.1.1 v0.2.1.length x_v0.2.1.2) v0.2.1, tree (.slice x_v0.2.2.1 v0.2.2.length x_v0.2.2.2) v0.2.2] (ι := Unit) (fun _ => .int .i64 (r.1)) (fun _ => []) (fun _ => [tree (.slice x_v0.1.1.1 v0.1.1.length x_v0.1.1.2) r.2.1.1, tree (.slice x_v0.1.2.1 v0.1.2.length x_v0.1.2.2) r.2.1.2, tree (.slice x_v0.2.1.1 v0.2.1.length x_v0.2.1.2) r.2.2.1, tree (.slice x_v0.2.2.1 v0.2.2.length x_v0.2.2.2) r.2.2.2]) := by
 refine cof (args := [_, _]) Tryz.func16 Tryz.ntmps16 fun c => ?_
 unfold p_laws_markStore at H
 refine sr (f1 (e_box (t := 39) rfl) fun g1 => (Rg.a (v := .int .i64 (0)) rfl (nl (sr (Rg.p (p_fabE fa39_0 rfl rfl) (Rg.o (v := .agg #[.slice x_v0.1.1.1 v0.1.1.length x_v0.1.1.2, .slice x_v0.1.2.1 v0.1.2.length x_v0.1.2.2]) (q_ldbP [.slice x_v0.1.1.1 v0.1.1.length x_v0.1.1.2, .slice x_v0.1.2.1 v0.1.2.length x_v0.1.2.2] ty35 rfl Has.here rfl rfl) (Rg.m rfl (bdo H fun r2 h3 H => (f1 (e_callM (c_laws_markIndex v0.1 x_v0.1 v1 h3) (Solo.tree (Solo.tree Solo.nil)) (fun _ => (Solo.tree (Solo.tree Solo.nil))) rfl (.cons dl1 (.cons dl1 .nil)) EntsB.nil) fun u4 => (Rg.a rfl (nl ?_)))))))))))
 refine sr (Rg.p (p_fabE fa39_1 rfl rfl) (Rg.o (q_ldb ty36 rfl hs2 rfl) (Rg.m rfl (bdo H fun r5 h6 H => (f1 (e_callM (c_laws_markPartS v0.2.1 x_v0.2.1 v0.2.1.length rfl r2.1 h6) (Solo.tree Solo.nil) (fun _ => (Solo.tree Solo.nil)) rfl (.cons dl3 .nil) EntsB.nil) fun u7 => (Rg.a rfl (nl (sr (Rg.p (p_fabE fa39_2 rfl rfl) (Rg.o (q_ldb ty37 rfl hs3 rfl) ?_))))))))))
 refine Rg.m rfl (bdo H fun r8 h9 H => (f1 (e_callM (c_laws_markSampleS v0.2.2 x_v0.2.2 v0.2.2.length rfl r5.1 h9) (Solo.tree Solo.nil) (fun _ => (Solo.tree Solo.nil)) rfl (.cons dl4 .nil) EntsB.nil) fun u10 => (Rg.a rfl (nl (sr (Rg.m rfl (Rg.a rfl (nl ?_))))))))
 obtain rfl := si H
 exact tRet (bk (.cons dl2 (.cons dl2 (.cons dl1 (.cons Del.here .nil)))))
noncomputable def p_laws_heldRowS_b0 (v0 : (List Row)) (Q5 : Int × Int) : Option ((Int × Int) ⊕ (Int ⊕ Int)) := cond (decide (Q5.2 < (v0.length : Int))) (gd (ix Q5.2 v0.length) <| cond (!decide (((nth v0 Q5.2.toNat).1) = Q5.1)) (some (.inr (.inr (-1)))) (gd (I64 (Q5.1 + 1)) <| cond (!decide (((nth v0 Q5.2.toNat).2) = (Q5.1 + 1))) (some (.inr (.inr (-1)))) (gd (I64 ((Q5.1 + 1) + 1)) <| gd (I64 (Q5.2 + 1)) <| some (.inl ((Q5.1 + 1) + 1, Q5.2 + 1))))) (some (.inr (.inl Q5.1)))
noncomputable def p_laws_heldRowS (v0 : (List Row)) (v1 : Int) : Option (Int) := bd (lp (p_laws_heldRowS_b0 v0) (v1, 0)) <| sw (fun e20 => some e20) (fun q => some q)
theorem c_laws_heldRowS {r : Int} (v0 : (List Row)) (x_v0 : Option Addr × Nat) (v1 : Int) (H : p_laws_heldRowS v0 v1 = some r) : Fn' Tryz.prog 18 #[.slice x_v0.1 v0.length x_v0.2, .int .i64 (v1)] [imm (.slice x_v0.1 v0.length x_v0.2) v0] [] (ι := Unit) (fun _ => .int .i64 (r)) (fun _ => []) (fun _ => []) := by
 refine cof (args := [_, _]) Tryz.func18 Tryz.ntmps18 fun c => ?_
 unfold p_laws_heldRowS at H
 refine sr (Rg.a (v := .int .i64 (0)) rfl (nl (Tr.seq (sr (Rg.a (v := .int .i64 (0)) rfl (nl (bdo H fun x1 hx2 H => (tMidI (Λ := Unit) H (fun e20 _ => [(1, .int .i64 (e20))]) (fun _ _ => []) ?_ ?_))))))))
 ·refine Tr.block (tLoopI hx2 () (fun Q5 _ => [(0, .slice x_v0.1 v0.length x_v0.2), (1, .int .i64 (Q5.1)), (5, .int .i64 (Q5.2))]) (fun _ _ => []) Take.nil ?_)
  rintro _ Q5 z6 t8 H1 hi9 hb10
  unfold p_laws_heldRowS_b0 at H1
  refine Tr.seq (sr (Rg.m rfl (Rg.m rfl (Rg.p (p_len 58 Tryz.underlying43 rfl) (Rg.p (p_lss rfl rfl) (nl (cH H1 rfl (fun h13 H1 => ?_) (fun h13 H1 => ?_))))))))
  ·refine tSkip (nT (Tr.seq (Tr.block (Tr.seq (sr (Rg.m rfl (Rg.m rfl (gdo H1 fun h14 H1 => (Rg.o (q_ixg Tryz.underlying43 ty58 rfl rfl h14 rfl (EntB.flat (Ent.b Ent.z))) (Rg.o (q_faeE (j := 0) Q5.2.toNat fa58_0 rfl (EntB.flat (Ent.b Ent.z)) h14.lt rfl) (Rg.o (q_lde (i := Q5.2.toNat) (j := 0) ty3 rfl (EntB.flat (Ent.b Ent.z)) h14.lt rfl) ?_)))))))))))
   refine Rg.m rfl (Rg.p (p_neq rfl rfl) (nl (cH H1 rfl (fun h15 H1 => ?_) (fun h15 H1 => ?_))))
   ·refine sr (Rg.a (v := .int .i64 (-1)) rfl (nl (tRet (rT (rB (rT (rT (rB (rT (rT (?_)))))))))))
    obtain rfl := hb10 _ (sm H1)
    replace H := sw.r H
    obtain rfl := si H
    exact bk
   ·refine tSkip (nT (sr (Rg.m rfl (gdo H1 fun h16 H1 => (Rg.p (p_add rfl rfl h16) (Rg.a rfl (nl (Tr.seq (sr (Rg.m rfl (Rg.m rfl ?_)))))))))))
    refine Rg.o (q_ixg Tryz.underlying43 ty58 rfl rfl h14 rfl (EntB.flat (Ent.b Ent.z))) (Rg.o (q_faeE (j := 0) Q5.2.toNat fa58_1 rfl (EntB.flat (Ent.b Ent.z)) h14.lt rfl) (Rg.o (q_lde (i := Q5.2.toNat) (j := 1) ty3 rfl (EntB.flat (Ent.b Ent.z)) h14.lt rfl) (Rg.m rfl (Rg.p (p_neq rfl rfl) (nl (cH H1 rfl (fun h17 H1 => ?_) (fun h17 H1 => ?_)))))))
    ·refine sr (Rg.a (v := .int .i64 (-1)) rfl (nl (tRet (rT (rB (rT (rT (rB (rT (rT (?_)))))))))))
     obtain rfl := hb10 _ (sm H1)
     replace H := sw.r H
     obtain rfl := si H
     exact bk
    ·refine tSkip (nT (Tr.region (Rg.m rfl (gdo H1 fun h18 H1 => (Rg.p (p_add rfl rfl h18) (Rg.a rfl (Rg.nl (nB (nT (Tr.region (Rg.m rfl ?_)))))))))))
     exact gdo H1 fun h19 H1 => (Rg.p (p_add rfl rfl h19) (Rg.a rfl (Rg.nl (nLI () (hi9 _ (sm H1)) Take.nil))))
  ·exact tExit (xT (xT (xE (nMI () (hb10 _ (sm H1)) Take.nil))))
 ·rintro e20 y7 H
  refine nT (sr (Rg.m rfl (Rg.a rfl (nl ?_))))
  obtain rfl := si H
  exact tRet bk
noncomputable def p_spec_l11Names_b0 (v0 : (List (List Tag))) (Q8 : (List (List Tag)) × Int) : Option (((List (List Tag)) × Int) ⊕ ((List (List Tag)))) := cond (decide (Q8.2 < (v0.length : Int))) (gd (ix Q8.2 v0.length) <| gd (room (([] : List Tag).length + (nth v0 Q8.2.toNat).length)) <| gd (room (Q8.1.length + 1)) <| gd (I64 (Q8.2 + 1)) <| some (.inl ((Q8.1 ++ [([] : List Tag) ++ (nth v0 Q8.2.toNat)]), Q8.2 + 1))) (some (.inr Q8.1))
noncomputable def p_spec_l11Names (v0 : (List (List Tag))) : Option ((List (List Tag))) := bd (lp (p_spec_l11Names_b0 v0) (([] : List (List Tag)), 0)) fun x4 => some x4
theorem c_spec_l11Names {r : (List (List Tag))} (v0 : (List (List Tag))) (x_v0 : Option Addr × Nat) (H : p_spec_l11Names v0 = some r) : Fn' Tryz.prog 138 #[.slice x_v0.1 v0.length x_v0.2] [imm (.slice x_v0.1 v0.length x_v0.2) v0] [] (ι := Option Addr × Nat) (fun x => .slice x.1 r.length x.2) (fun _ => []) (fun x => [tree (.slice x.1 r.length x.2) r]) := by
 refine cof (args := [_]) Tryz.func138 Tryz.ntmps138 fun c => ?_
 unfold p_spec_l11Names at H
 refine Tr.openD Ent.z fun X1 => (sr (Rg.a (v := .slice none 0 0) rfl (nl (sr (f2 (e_lit0 (List Tag) Tryz.underlying32 ty56) fun a2 c3 => (Rg.a rfl (nl (Tr.seq (sr (Rg.a (v := .int .i64 (0)) rfl (nl (bdo H fun x4 hx5 H => (tMidNC (ι := Option Addr × Nat) (fun ψ => [(3, .slice ψ.1 x4.length ψ.2)]) (fun ψ => [tree (.slice ψ.1 x4.length ψ.2) x4]) ?_ ?_)))))))))))))
 ·refine Tr.block (tLoopI hx5 (a2, c3) (fun Q8 z9 => [(0, .slice x_v0.1 v0.length x_v0.2), (3, .slice z9.1 Q8.1.length z9.2), (4, .int .i64 (Q8.2))]) (fun Q8 z9 => [tree (.slice z9.1 Q8.1.length z9.2) Q8.1]) (.cons Del.here .nil) ?_)
  rintro _ Q8 z9 t11 H1 hi12 hb13
  unfold p_spec_l11Names_b0 at H1
  refine Tr.seq (sr (Rg.m rfl (Rg.m rfl (Rg.p (p_len 56 Tryz.underlying32 rfl) (Rg.p (p_lss rfl rfl) (nl (cH H1 rfl (fun h16 H1 => ?_) (fun h16 H1 => ?_))))))))
  ·refine tSkip (nT (Tr.seq (Tr.block (Tr.region (Rg.m rfl (f2 (e_lit0 Tag Tryz.underlying56 ty96) fun a17 c18 => (Rg.m rfl (Rg.m rfl (gdo H1 fun h19 H1 => (Rg.o (q_ixg Tryz.underlying32 ty56 rfl rfl h19 rfl (Ent.b (Ent.darr Ent.z))) ?_))))))))))
   refine Rg.o (q_lde (i := Q8.2.toNat) (j := 0) ty56 rfl (Ent.b (Ent.darr Ent.z)) h19.lt rfl) (gdo H1 fun h22 H1 => (f2 (e_appF (l := ([] : List Tag)) (k := nth v0 Q8.2.toNat) (α := Tag) Tryz.underlying56 ty96 rfl rfl (h22.b (by decide)) h22.x (.cons Del.here .nil) (Ent.b (Ent.dimm (Ent.del Ent.z h19.lt)))) fun a20 c21 => (f1 (e_lit (vs := [(0, .slice a20 ((([] : List Tag) ++ (nth v0 Q8.2.toNat)).length) c21)]) [.slice a20 ((([] : List Tag) ++ (nth v0 Q8.2.toNat)).length) c21] Tryz.underlying32 ty56 rfl (by decide) (by decide) (by kernel_rfl)) fun g23 => (gdo H1 fun h26 H1 => (f2 (e_app1 (l := Q8.1) (α := (List Tag)) (([] : List Tag) ++ (nth v0 Q8.2.toNat)) (a20, c21) Tryz.underlying32 ty56 rfl rfl (h26.b (by decide)) h26.x rfl (ShpT.wfa _) (.cons dl2 (.cons Del.here (.cons Del.here .nil)))) fun a24 c25 => (Rg.a rfl (Rg.nl (nB (nT (Tr.region (Rg.m rfl ?_)))))))))))
   exact gdo H1 fun h27 H1 => (Rg.p (p_add rfl rfl h27) (Rg.a rfl (Rg.nl (nLI (a24, c25) (hi12 _ (sm H1)) (.cons Del.here .nil)))))
  ·refine tExit (xT (xT (xE (?_))))
   obtain rfl := hb13 _ (sm H1)
   exact nMC (z9.1, z9.2) ⟨rfl, trivial⟩ Ents.refl (.cons Del.here .nil)
 ·intro y10
  show At _ _ [(3, .slice y10.1 x4.length y10.2)] _ [tree (.slice y10.1 x4.length y10.2) x4] _
  refine nT (sr (Rg.m rfl (Rg.a rfl (nl (tRet ?_)))))
  obtain rfl := si H
  exact back1 y10 rfl (ResV.tmp (v := .slice y10.1 x4.length y10.2) rfl) rfl Ents.nil (.cons Del.here .nil)
noncomputable def p_spec_l11Of_b1 (v0 : (List (List Tag))) (Q9 : (List Post) × Int) (Q22 : (List Post) × Int) : Option (((List Post) × Int) ⊕ ((List Post))) := cond (decide (Q22.2 ≤ 122)) (gd (asc Q9.2) <| gd (asc Q22.2) <| bd (p_spec_l11Ids v0 ((s1 Q9.2), (s1 Q22.2))) fun r34 => cond (decide (0 < (r34.length : Int))) (gd (room (Q22.1.length + 1)) <| gd (I32 (Q22.2 + 1)) <| some (.inl ((Q22.1 ++ [(((s1 Q9.2), (s1 Q22.2)), r34)]), Q22.2 + 1))) (gd (I32 (Q22.2 + 1)) <| some (.inl (Q22.1, Q22.2 + 1)))) (some (.inr Q22.1))
noncomputable def p_spec_l11Of_b0 (v0 : (List (List Tag))) (Q9 : (List Post) × Int) : Option (((List Post) × Int) ⊕ ((List Post))) := cond (decide (Q9.2 ≤ 100)) (bd (lp (p_spec_l11Of_b1 v0 Q9) (Q9.1, 112)) fun x18 => gd (I32 (Q9.2 + 1)) <| some (.inl (x18, Q9.2 + 1))) (some (.inr Q9.1))
noncomputable def p_spec_l11Of (v0 : (List (List Tag))) : Option (Index) := bd (lp (p_spec_l11Of_b0 v0) (([] : List Post), 97)) fun x5 => bd (p_spec_l11Names v0) fun r45 => some (r45, x5)
theorem c_spec_l11Of {r : Index} (v0 : (List (List Tag))) (x_v0 : Option Addr × Nat) (H : p_spec_l11Of v0 = some r) : Fn' Tryz.prog 105 #[.slice x_v0.1 v0.length x_v0.2] [imm (.slice x_v0.1 v0.length x_v0.2) v0] [] (ι := (Option Addr × Nat) × (Option Addr × Nat)) (fun x => .agg #[.slice x.1.1 r.1.length x.1.2, .slice x.2.1 r.2.length x.2.2]) (fun _ => []) (fun x => [tree (.slice x.1.1 r.1.length x.1.2) r.1, tree (.slice x.2.1 r.2.length x.2.2) r.2]) := by
 refine cof (args := [_]) Tryz.func105 Tryz.ntmps105 fun c => ?_
 unfold p_spec_l11Of at H
 refine Tr.openD Ent.z fun X1 => (sr (f1 (e_alloc ty35) fun g2 => (nl (sr (f2 (e_lit0 Post Tryz.underlying33 ty113) fun a3 c4 => (Rg.a rfl (nl (Tr.seq (sr (Rg.a (v := .int .i32 (97)) rfl (nl (bdo H fun x5 hx6 H => ?_))))))))))))
 refine tMidNC (ι := Option Addr × Nat) (fun ψ => [(0, .slice x_v0.1 v0.length x_v0.2), (2, .pointer (some ⟨g2, 0, none⟩)), (3, .slice ψ.1 x5.length ψ.2)]) (fun ψ => [box g2 35 [.slice none 0 0, .slice none 0 0], tree (.slice ψ.1 x5.length ψ.2) x5]) ?_ ?_
 ·refine Tr.block (tLoopI hx6 (a3, c4) (fun Q9 z10 => [(0, .slice x_v0.1 v0.length x_v0.2), (2, .pointer (some ⟨g2, 0, none⟩)), (3, .slice z10.1 Q9.1.length z10.2), (4, .int .i32 (Q9.2))]) (fun Q9 z10 => [box g2 35 [.slice none 0 0, .slice none 0 0], tree (.slice z10.1 Q9.1.length z10.2) Q9.1]) (.cons dl1 (.cons Del.here .nil)) ?_)
  rintro _ Q9 z10 t12 H1 hi13 hb14
  unfold p_spec_l11Of_b0 at H1
  refine Tr.seq (sr (Rg.m rfl (Rg.p (p_leq rfl rfl) (nl (cH H1 rfl (fun h17 H1 => ?_) (fun h17 H1 => ?_))))))
  ·refine tSkip (nT (Tr.seq (Tr.block (sr (Rg.a (v := .int .i32 (112)) rfl (nl (bdo H1 fun x18 hx19 H1 => (tMidNC (ι := Option Addr × Nat) (fun ψ => [(0, .slice x_v0.1 v0.length x_v0.2), (2, .pointer (some ⟨g2, 0, none⟩)), (3, .slice ψ.1 x18.length ψ.2), (4, .int .i32 (Q9.2))]) (fun ψ => [box g2 35 [.slice none 0 0, .slice none 0 0], tree (.slice ψ.1 x18.length ψ.2) x18]) ?_ ?_))))))))
   ·refine Tr.block (tLoopI hx19 (z10.1, z10.2) (fun Q22 z23 => [(0, .slice x_v0.1 v0.length x_v0.2), (2, .pointer (some ⟨g2, 0, none⟩)), (3, .slice z23.1 Q22.1.length z23.2), (4, .int .i32 (Q9.2)), (5, .int .i32 (Q22.2))]) (fun Q22 z23 => [box g2 35 [.slice none 0 0, .slice none 0 0], tree (.slice z23.1 Q22.1.length z23.2) Q22.1]) (.cons Del.here (.cons Del.here .nil)) ?_)
    rintro _ Q22 z23 t25 H2 hi26 hb27
    unfold p_spec_l11Of_b1 at H2
    refine Tr.seq (sr (Rg.m rfl (Rg.p (p_leq rfl rfl) (nl (cH H2 rfl (fun h30 H2 => ?_) (fun h30 H2 => ?_))))))
    ·refine tSkip (nT (Tr.seq (Tr.block (sr (Rg.m rfl (gdo H2 fun h31 H2 => (Rg.p (v := .string (s1 Q9.2)) (p_r2s Tryz.underlying21 Tryz.underlying9 rfl h31) (Rg.m rfl (gdo H2 fun h32 H2 => (Rg.p (v := .string (s1 Q22.2)) (p_r2s Tryz.underlying21 Tryz.underlying9 rfl h32) ?_))))))))))
     refine Rg.p (v := .agg #[.string (s1 Q9.2), .string (s1 Q22.2)]) (p_buildS (vs := [(0, .string (s1 Q9.2)), (1, .string (s1 Q22.2))]) (cs := #[.string (s1 Q9.2), .string (s1 Q22.2)]) ty96 pl96 rfl rfl) (f1 (e_alloc ty96) fun g33 => (stb (cs' := [.string (s1 Q9.2), .string (s1 Q22.2)]) ty96 Upd.here (nl (sr (Rg.m rfl (Rg.o (q_ldbA ty96 rfl Has.here rfl) (bdo H2 fun r34 h35 H2 => (f1 (e_callB (c_spec_l11Ids v0 x_v0 ((s1 Q9.2), (s1 Q22.2)) h35) (fun _ => (Solo.tree Solo.nil)) rfl (EntsB.cons (Ent.b (Ent.dimm Ent.z)) EntsB.nil)) fun x36 => (Rg.a rfl (nl ?_))))))))))
     refine sr (Rg.m rfl (Rg.p (p_len 3 Tryz.underlying69 rfl) (Rg.p (p_gtr rfl rfl) (nl (cH H2 rfl (fun h37 H2 => ?_) (fun h37 H2 => ?_))))))
     ·refine Tr.region (Rg.m rfl (Rg.o (q_ldbA ty96 rfl hs1 rfl) (Rg.m rfl (Rg.p (v := .agg #[.string (s1 Q9.2), .string (s1 Q22.2), .slice x36.1 r34.length x36.2]) (p_buildS (vs := [(0, .agg #[.string (s1 Q9.2), .string (s1 Q22.2)]), (1, .slice x36.1 r34.length x36.2)]) (cs := #[.string (s1 Q9.2), .string (s1 Q22.2), .slice x36.1 r34.length x36.2]) ty113 pl113 rfl rfl) (f1 (e_lit (vs := [(0, .agg #[.string (s1 Q9.2), .string (s1 Q22.2), .slice x36.1 r34.length x36.2])]) [.string (s1 Q9.2), .string (s1 Q22.2), .slice x36.1 r34.length x36.2] Tryz.underlying33 ty113 rfl (by decide) (by decide) (by kernel_rfl)) fun g38 => (gdo H2 fun h41 H2 => (f2 (e_app1 (l := Q22.1) (α := Post) (((s1 Q9.2), (s1 Q22.2)), r34) (((), ()), x36) Tryz.underlying33 ty113 rfl rfl (h41.b (by decide)) h41.x rfl (ShpT.wfa _) (.cons dl4 (.cons Del.here (.cons Del.here .nil)))) fun a39 c40 => (Rg.a rfl (Rg.nl (nB (nT (?_))))))))))))
      exact Tr.region (Rg.m rfl (gdo H2 fun h42 H2 => (Rg.p (v := .int .i32 (Q22.2 + 1)) (p_add32 rfl rfl h42) (Rg.a rfl (Rg.nl (nLI (a39, c40) (hi26 _ (sm H2)) (.cons dl2 (.cons Del.here .nil))))))))
     ·exact tSkip (nB (nT (Tr.region (Rg.m rfl (gdo H2 fun h43 H2 => (Rg.p (v := .int .i32 (Q22.2 + 1)) (p_add32 rfl rfl h43) (Rg.a rfl (Rg.nl (nLI (z23.1, z23.2) (hi26 _ (sm H2)) (.cons dl2 (.cons dl2 .nil)))))))))))
    ·refine tExit (xT (xT (xE (?_))))
     obtain rfl := hb27 _ (sm H2)
     exact nMC (z23.1, z23.2) ⟨rfl, rfl, rfl, rfl, trivial⟩ Ents.refl (.cons Del.here (.cons Del.here .nil))
   ·intro y24
    show At _ _ [(0, .slice x_v0.1 v0.length x_v0.2), (2, .pointer (some ⟨g2, 0, none⟩)), (3, .slice y24.1 x18.length y24.2), (4, .int .i32 (Q9.2))] _ [box g2 35 [.slice none 0 0, .slice none 0 0], tree (.slice y24.1 x18.length y24.2) x18] _
    exact nB (nT (Tr.region (Rg.m rfl (gdo H1 fun h44 H1 => (Rg.p (v := .int .i32 (Q9.2 + 1)) (p_add32 rfl rfl h44) (Rg.a rfl (Rg.nl (nLI (y24.1, y24.2) (hi13 _ (sm H1)) (.cons Del.here (.cons Del.here .nil))))))))))
  ·refine tExit (xT (xT (xE (?_))))
   obtain rfl := hb14 _ (sm H1)
   exact nMC (z10.1, z10.2) ⟨rfl, rfl, rfl, trivial⟩ Ents.refl (.cons Del.here (.cons Del.here .nil))
 ·intro y11
  show At _ _ [(0, .slice x_v0.1 v0.length x_v0.2), (2, .pointer (some ⟨g2, 0, none⟩)), (3, .slice y11.1 x5.length y11.2)] _ [box g2 35 [.slice none 0 0, .slice none 0 0], tree (.slice y11.1 x5.length y11.2) x5] _
  refine nT (sr (Rg.m rfl (bdo H fun r45 h46 H => (f1 (e_callB (c_spec_l11Names v0 x_v0 h46) (fun _ => (Solo.tree Solo.nil)) rfl (EntsB.cons (Ent.b (Ent.dimm Ent.z)) EntsB.nil)) fun x47 => (Rg.m rfl (Rg.p (v := .agg #[.slice x47.1 r45.length x47.2, .slice y11.1 x5.length y11.2]) (p_buildS (vs := [(0, .slice x47.1 r45.length x47.2), (1, .slice y11.1 x5.length y11.2)]) (cs := #[.slice x47.1 r45.length x47.2, .slice y11.1 x5.length y11.2]) ty35 pl35 rfl rfl) (stb (cs' := [.slice x47.1 r45.length x47.2, .slice y11.1 x5.length y11.2]) ty35 up1 (nl (tRet ?_)))))))))
  obtain rfl := si H
  exact back1 (x47, y11) rfl (ResV.agg ty35 rfl hs1 rfl) rfl Ents.nil (.cons Del.here (.cons dl1 .nil))
noncomputable def p_spec_l13Copy_b1 (v0 : Store) (Q12 : (List Part) × Int) (Q34 : (List (List Row)) × Int) : Option (((List (List Row)) × Int) ⊕ ((List (List Row)))) := cond (decide (Q34.2 < (((nth v0.2.1 Q12.2.toNat).2).length : Int))) (gd (ix Q34.2 ((nth v0.2.1 Q12.2.toNat).2).length) <| gd (room (([] : List Row).length + (nth ((nth v0.2.1 Q12.2.toNat).2) Q34.2.toNat).length)) <| gd (room (Q34.1.length + 1)) <| gd (I64 (Q34.2 + 1)) <| some (.inl ((Q34.1 ++ [([] : List Row) ++ (nth ((nth v0.2.1 Q12.2.toNat).2) Q34.2.toNat)]), Q34.2 + 1))) (some (.inr Q34.1))
noncomputable def p_spec_l13Copy_b0 (v0 : Store) (Q12 : (List Part) × Int) : Option (((List Part) × Int) ⊕ ((List Part))) := cond (decide (Q12.2 < (v0.2.1.length : Int))) (gd (ix Q12.2 v0.2.1.length) <| gd (room (([] : List Int).length + ((nth v0.2.1 Q12.2.toNat).1).length)) <| bd (lp (p_spec_l13Copy_b1 v0 Q12) (([] : List (List Row)), 0)) fun x30 => gd (room (Q12.1.length + 1)) <| gd (I64 (Q12.2 + 1)) <| some (.inl ((Q12.1 ++ [((([] : List Int) ++ ((nth v0.2.1 Q12.2.toNat).1)), x30)]), Q12.2 + 1))) (some (.inr Q12.1))
noncomputable def p_spec_l13Copy (v0 : Store) : Option (Store) := bd (lp (p_spec_l13Copy_b0 v0) (([] : List Part), 0)) fun x8 => bd (p_spec_l11Of v0.1.1) fun r59 => gd (room (([] : List Sample).length + v0.2.2.length)) <| some (r59, x8, (([] : List Sample) ++ v0.2.2))
theorem c_spec_l13Copy {r : Store} (v0 : Store) (x_v0 : ((Option Addr × Nat) × (Option Addr × Nat)) × (Option Addr × Nat) × (Option Addr × Nat)) (H : p_spec_l13Copy v0 = some r) : Fn' Tryz.prog 56 #[.agg #[.slice x_v0.1.1.1 v0.1.1.length x_v0.1.1.2, .slice x_v0.1.2.1 v0.1.2.length x_v0.1.2.2, .slice x_v0.2.1.1 v0.2.1.length x_v0.2.1.2, .slice x_v0.2.2.1 v0.2.2.length x_v0.2.2.2]] [imm (.slice x_v0.1.1.1 v0.1.1.length x_v0.1.1.2) v0.1.1, imm (.slice x_v0.1.2.1 v0.1.2.length x_v0.1.2.2) v0.1.2, imm (.slice x_v0.2.1.1 v0.2.1.length x_v0.2.1.2) v0.2.1, imm (.slice x_v0.2.2.1 v0.2.2.length x_v0.2.2.2) v0.2.2] [] (ι := ((Option Addr × Nat) × (Option Addr × Nat)) × (Option Addr × Nat) × (Option Addr × Nat)) (fun x => .agg #[.slice x.1.1.1 r.1.1.length x.1.1.2, .slice x.1.2.1 r.1.2.length x.1.2.2, .slice x.2.1.1 r.2.1.length x.2.1.2, .slice x.2.2.1 r.2.2.length x.2.2.2]) (fun _ => []) (fun x => [tree (.slice x.1.1.1 r.1.1.length x.1.1.2) r.1.1, tree (.slice x.1.2.1 r.1.2.length x.1.2.2) r.1.2, tree (.slice x.2.1.1 r.2.1.length x.2.1.2) r.2.1, tree (.slice x.2.2.1 r.2.2.length x.2.2.2) r.2.2]) := by
 refine cof (args := [_]) Tryz.func56 Tryz.ntmps56 fun c => ?_
 unfold p_spec_l13Copy at H
 refine Tr.openD Ent.z fun X1 => (Tr.openD Ent.z.s.s fun X2 => (Tr.openD Ent.z.s.s.s.s fun X3 => (sr (f1 (e_box (t := 39) rfl) fun g4 => (f1 (e_alloc ty39) fun g5 => (nl (sr (f2 (e_lit0 Part Tryz.underlying36 ty72) fun a6 c7 => (Rg.a rfl (nl ?_))))))))))
 refine Tr.seq (sr (Rg.a (v := .int .i64 (0)) rfl (nl (bdo H fun x8 hx9 H => (tMidNC (ι := Option Addr × Nat) (fun ψ => [(1, .pointer (some ⟨g4, 0, none⟩)), (2, .pointer (some ⟨g5, 0, none⟩)), (3, .slice ψ.1 x8.length ψ.2)]) (fun ψ => [box g4 39 [.slice x_v0.1.1.1 v0.1.1.length x_v0.1.1.2, .slice x_v0.1.2.1 v0.1.2.length x_v0.1.2.2, .slice x_v0.2.1.1 v0.2.1.length x_v0.2.1.2, .slice x_v0.2.2.1 v0.2.2.length x_v0.2.2.2], box g5 39 [.slice none 0 0, .slice none 0 0, .slice none 0 0, .slice none 0 0], tree (.slice ψ.1 x8.length ψ.2) x8]) ?_ ?_)))))
 ·refine Tr.block (tLoopI hx9 (a6, c7) (fun Q12 z13 => [(1, .pointer (some ⟨g4, 0, none⟩)), (2, .pointer (some ⟨g5, 0, none⟩)), (3, .slice z13.1 Q12.1.length z13.2), (4, .int .i64 (Q12.2))]) (fun Q12 z13 => [box g4 39 [.slice x_v0.1.1.1 v0.1.1.length x_v0.1.1.2, .slice x_v0.1.2.1 v0.1.2.length x_v0.1.2.2, .slice x_v0.2.1.1 v0.2.1.length x_v0.2.1.2, .slice x_v0.2.2.1 v0.2.2.length x_v0.2.2.2], box g5 39 [.slice none 0 0, .slice none 0 0, .slice none 0 0, .slice none 0 0], tree (.slice z13.1 Q12.1.length z13.2) Q12.1]) (.cons dl2 (.cons dl1 (.cons Del.here .nil))) ?_)
  rintro _ Q12 z13 t15 H1 hi16 hb17
  unfold p_spec_l13Copy_b0 at H1
  refine Tr.seq (sr (Rg.m rfl (Rg.p (p_fabE fa39_1 rfl rfl) (Rg.o (q_ldb ty36 rfl Has.here rfl) (Rg.p (p_len 72 Tryz.underlying36 rfl) (Rg.p (p_lss rfl rfl) (nl (cH H1 rfl (fun h20 H1 => ?_) (fun h20 H1 => ?_)))))))))
  ·refine tSkip (nT (Tr.seq (Tr.block (sr (f2 (e_lit0 Int Tryz.underlying69 ty3) fun a21 c22 => (Rg.p (p_fabE fa39_1 rfl rfl) (Rg.o (q_ldb ty36 rfl hs1 rfl) (Rg.m rfl (gdo H1 fun h23 H1 => (Rg.o (q_ixg Tryz.underlying36 ty72 rfl rfl h23 rfl (Ent.b (Ent.darr Ent.z))) ?_))))))))))
   refine Rg.o (q_faeE (j := 0) Q12.2.toNat fa72_0 rfl (Ent.b (Ent.darr Ent.z)) h23.lt rfl) (Rg.o (q_lde (i := Q12.2.toNat) (j := 0) ty69 rfl (Ent.b (Ent.darr Ent.z)) h23.lt rfl) (gdo H1 fun h26 H1 => (f2 (e_appF (l := ([] : List Int)) (k := (nth v0.2.1 Q12.2.toNat).1) (α := Int) Tryz.underlying69 ty3 rfl rfl (h26.b (by decide)) h26.x (.cons Del.here .nil) (Ent.b (Ent.dimm (Ent.dfst (Ent.del Ent.z h23.lt))))) fun a24 c25 => (f2 (e_lit0 (List Row) Tryz.underlying70 ty43) fun a27 c28 => (Rg.p (v := .agg #[.slice a24 ((([] : List Int) ++ ((nth v0.2.1 Q12.2.toNat).1)).length) c25, .slice a27 (([] : List (List Row)).length) c28]) (p_buildS (vs := [(0, .slice a24 ((([] : List Int) ++ ((nth v0.2.1 Q12.2.toNat).1)).length) c25), (1, .slice a27 (([] : List (List Row)).length) c28)]) (cs := #[.slice a24 ((([] : List Int) ++ ((nth v0.2.1 Q12.2.toNat).1)).length) c25, .slice a27 (([] : List (List Row)).length) c28]) ty72 pl72 rfl rfl) (f1 (e_alloc ty72) fun g29 => (stb (cs' := [.slice a24 ((([] : List Int) ++ ((nth v0.2.1 Q12.2.toNat).1)).length) c25, .slice a27 (([] : List (List Row)).length) c28]) ty72 Upd.here (nl (Tr.seq (sr ?_))))))))))
   refine Rg.a (v := .int .i64 (0)) rfl (nl (bdo H1 fun x30 hx31 H1 => (tMidNC (ι := Option Addr × Nat) (fun ψ => [(1, .pointer (some ⟨g4, 0, none⟩)), (2, .pointer (some ⟨g5, 0, none⟩)), (3, .slice z13.1 Q12.1.length z13.2), (4, .int .i64 (Q12.2)), (5, .pointer (some ⟨g29, 0, none⟩))]) (fun ψ => [box g4 39 [.slice x_v0.1.1.1 v0.1.1.length x_v0.1.1.2, .slice x_v0.1.2.1 v0.1.2.length x_v0.1.2.2, .slice x_v0.2.1.1 v0.2.1.length x_v0.2.1.2, .slice x_v0.2.2.1 v0.2.2.length x_v0.2.2.2], box g5 39 [.slice none 0 0, .slice none 0 0, .slice none 0 0, .slice none 0 0], tree (.slice z13.1 Q12.1.length z13.2) Q12.1, tree (.slice a24 ((([] : List Int) ++ ((nth v0.2.1 Q12.2.toNat).1)).length) c25) (([] : List Int) ++ ((nth v0.2.1 Q12.2.toNat).1)), tree (.slice ψ.1 x30.length ψ.2) x30, box g29 72 [.slice a24 ((([] : List Int) ++ ((nth v0.2.1 Q12.2.toNat).1)).length) c25, .slice ψ.1 x30.length ψ.2]]) ?_ ?_)))
   ·refine Tr.block (tLoopI hx31 (a27, c28) (fun Q34 _ => [(1, .pointer (some ⟨g4, 0, none⟩)), (2, .pointer (some ⟨g5, 0, none⟩)), (3, .slice z13.1 Q12.1.length z13.2), (4, .int .i64 (Q12.2)), (5, .pointer (some ⟨g29, 0, none⟩)), (6, .int .i64 (Q34.2))]) (fun Q34 z35 => [box g4 39 [.slice x_v0.1.1.1 v0.1.1.length x_v0.1.1.2, .slice x_v0.1.2.1 v0.1.2.length x_v0.1.2.2, .slice x_v0.2.1.1 v0.2.1.length x_v0.2.1.2, .slice x_v0.2.2.1 v0.2.2.length x_v0.2.2.2], box g5 39 [.slice none 0 0, .slice none 0 0, .slice none 0 0, .slice none 0 0], tree (.slice z13.1 Q12.1.length z13.2) Q12.1, tree (.slice a24 ((([] : List Int) ++ ((nth v0.2.1 Q12.2.toNat).1)).length) c25) (([] : List Int) ++ ((nth v0.2.1 Q12.2.toNat).1)), tree (.slice z35.1 Q34.1.length z35.2) Q34.1, box g29 72 [.slice a24 ((([] : List Int) ++ ((nth v0.2.1 Q12.2.toNat).1)).length) c25, .slice z35.1 Q34.1.length z35.2]]) (.cons dl3 (.cons dl3 (.cons dl3 (.cons dl2 (.cons dl1 (.cons Del.here .nil)))))) ?_)
    rintro _ Q34 z35 t37 H2 hi38 hb39
    unfold p_spec_l13Copy_b1 at H2
    refine Tr.seq (sr (Rg.m rfl (Rg.p (p_fabE fa39_1 rfl rfl) (Rg.o (q_ldb ty36 rfl Has.here rfl) (Rg.m rfl (Rg.o (q_ixg Tryz.underlying36 ty72 rfl rfl h23 rfl (Ent.b (Ent.darr Ent.z))) (Rg.o (q_faeE (j := 0) Q12.2.toNat fa72_1 rfl (Ent.b (Ent.darr Ent.z)) h23.lt rfl) (Rg.o (q_lde (i := Q12.2.toNat) (j := 1) ty70 rfl (Ent.b (Ent.darr Ent.z)) h23.lt rfl) (Rg.p (p_len 43 Tryz.underlying70 rfl) (Rg.p (p_lss rfl rfl) (nl ?_)))))))))))
    refine cH H2 rfl (fun h42 H2 => ?_) (fun h42 H2 => ?_)
    ·refine tSkip (nT (Tr.seq (Tr.block (tNwS [(1, .pointer (some ⟨g4, 0, none⟩)), (2, .pointer (some ⟨g5, 0, none⟩)), (3, .slice z13.1 Q12.1.length z13.2), (4, .int .i64 (Q12.2)), (5, .pointer (some ⟨g29, 0, none⟩)), (6, .int .i64 (Q34.2))] 2 [0, 1, 3, 4, 5, 6, 7, 8, 9, 10, 11, 2, 12, 13, 14, 15, 16] [2, 12, 13, 14, 16] [] Tryz.mixed (by kernel_rfl) (by decide) List.nodup_nil ⟨rfl, rfl, rfl, rfl, rfl, rfl, trivial⟩ rfl okNil (w_p rfl (p_fabE fa72_1 rfl rfl) ?_)))))
     refine w_o rfl (fun F => (q_ldb ty70 rfl (hs5.app F) rfl)) (w_p rfl (p_fabE fa39_1 rfl rfl) ?_)
     refine w_o rfl (fun F => (q_ldb ty36 rfl (Has.here.app F) rfl)) (w_p rfl (p_move rfl) ?_)
     refine w_o rfl (fun F => (q_ixg Tryz.underlying36 ty72 rfl rfl h23 rfl (Ent.b (Ent.darr Ent.z)))) ?_
     refine w_o rfl (fun F => (q_faeE (j := 0) Q12.2.toNat fa72_1 rfl (Ent.b (Ent.darr Ent.z)) h23.lt rfl)) ?_
     refine w_o rfl (fun F => (q_lde (i := Q12.2.toNat) (j := 1) ty70 rfl (Ent.b (Ent.darr Ent.z)) h23.lt rfl)) (w_p rfl (p_move rfl) (gdo H2 fun h43 H2 => ?_))
     refine w_o rfl (fun F => (q_ixg Tryz.underlying70 ty43 rfl rfl h43 rfl (Ent.b (Ent.darr (Ent.dsnd (Ent.del Ent.z h23.lt)))))) ?_
     refine w_o rfl (fun F => (q_lde (i := Q34.2.toNat) (j := 0) ty43 rfl (Ent.b (Ent.darr (Ent.dsnd (Ent.del Ent.z h23.lt)))) h43.lt rfl)) (w_ed rfl (by decide) rfl Rdy.nil rfl (n_lit0 Row Tryz.underlying43 ty58) ?_)
     rintro _ _ _ ⟨a44, c45, rfl, rfl, rfl⟩
     refine ⟨(PdOk.q rfl rfl (fun F => (q_lde (i := Q34.2.toNat) (j := 0) ty43 rfl (Ent.b (Ent.darr (Ent.dsnd (Ent.del Ent.z h23.lt)))) h43.lt rfl)) (PdOk.q rfl rfl (fun F => (q_ixg Tryz.underlying70 ty43 rfl rfl h43 rfl (Ent.b (Ent.darr (Ent.dsnd (Ent.del Ent.z h23.lt)))))) (PdOk.q rfl rfl (fun F => (q_lde (i := Q12.2.toNat) (j := 1) ty70 rfl (Ent.b (Ent.darr Ent.z)) h23.lt rfl)) (PdOk.q rfl rfl (fun F => (q_faeE (j := 0) Q12.2.toNat fa72_1 rfl (Ent.b (Ent.darr Ent.z)) h23.lt rfl)) (PdOk.q rfl rfl (fun F => (q_ixg Tryz.underlying36 ty72 rfl rfl h23 rfl (Ent.b (Ent.darr Ent.z)))) (PdOk.q rfl rfl (fun F => (q_ldb ty36 rfl (hs1.app F) rfl)) (PdOk.q rfl rfl (fun F => (q_ldb ty70 rfl ((hs5t hs1).app F) rfl)) PdOk.nil))))))), ?_⟩
     refine gdo H2 fun h48 H2 => (w_ed rfl (by decide) rfl Rdy.nil rfl (n_appF (l := ([] : List Row)) (k := nth ((nth v0.2.1 Q12.2.toNat).2) Q34.2.toNat) (α := Row) Tryz.underlying43 ty58 rfl rfl (h48.b (by decide)) h48.x (.cons Del.here .nil) (Ent.b (Ent.dimm (Ent.del (Ent.dsnd (Ent.del Ent.z h23.lt)) h43.lt)))) ?_)
     rintro _ _ _ ⟨a46, c47, rfl, rfl, rfl⟩
     refine ⟨(PdOk.anc (by kernel_rfl) (PdOk.anc (by kernel_rfl) (PdOk.q rfl rfl (fun F => (q_lde (i := Q12.2.toNat) (j := 1) ty70 rfl (Ent.b (Ent.darr Ent.z)) h23.lt rfl)) (PdOk.q rfl rfl (fun F => (q_faeE (j := 0) Q12.2.toNat fa72_1 rfl (Ent.b (Ent.darr Ent.z)) h23.lt rfl)) (PdOk.q rfl rfl (fun F => (q_ixg Tryz.underlying36 ty72 rfl rfl h23 rfl (Ent.b (Ent.darr Ent.z)))) (PdOk.q rfl rfl (fun F => (q_ldb ty36 rfl (hs1.app F) rfl)) (PdOk.q rfl rfl (fun F => (q_ldb ty70 rfl ((hs5t hs1).app F) rfl)) PdOk.nil))))))), ?_⟩
     refine w_ed rfl (by decide) rfl Rdy.nil rfl (n_lit (vs := [(0, .slice a46 ((([] : List Row) ++ (nth ((nth v0.2.1 Q12.2.toNat).2) Q34.2.toNat)).length) c47)]) [.slice a46 ((([] : List Row) ++ (nth ((nth v0.2.1 Q12.2.toNat).2) Q34.2.toNat)).length) c47] Tryz.underlying70 ty43 rfl (by decide) (by decide) (by kernel_rfl)) ?_
     rintro _ _ _ ⟨g49, rfl, rfl, rfl⟩
     refine ⟨(PdOk.anc (by kernel_rfl) (PdOk.q rfl rfl (fun F => (q_ixg Tryz.underlying70 ty43 rfl rfl h43 rfl (Ent.b (Ent.darr (Ent.dsnd (Ent.del Ent.z h23.lt)))))) (PdOk.q rfl rfl (fun F => (q_lde (i := Q12.2.toNat) (j := 1) ty70 rfl (Ent.b (Ent.darr Ent.z)) h23.lt rfl)) (PdOk.q rfl rfl (fun F => (q_faeE (j := 0) Q12.2.toNat fa72_1 rfl (Ent.b (Ent.darr Ent.z)) h23.lt rfl)) (PdOk.q rfl rfl (fun F => (q_ixg Tryz.underlying36 ty72 rfl rfl h23 rfl (Ent.b (Ent.darr Ent.z)))) (PdOk.q rfl rfl (fun F => (q_ldb ty36 rfl (hs2.app F) rfl)) (PdOk.q rfl rfl (fun F => (q_ldb ty70 rfl ((hs5t hs2).app F) rfl)) PdOk.nil))))))), ?_⟩
     refine gdo H2 fun h52 H2 => (w_ed rfl (by decide) rfl Rdy.nil rfl (n_app1 (l := Q34.1) (α := (List Row)) (([] : List Row) ++ (nth ((nth v0.2.1 Q12.2.toNat).2) Q34.2.toNat)) (a46, c47) Tryz.underlying70 ty43 rfl rfl (h52.b (by decide)) h52.x rfl (ShpT.wfa _) (.cons (dl5t dl1) (.cons Del.here (.cons Del.here .nil)))) ?_)
     rintro _ _ _ ⟨a50, c51, rfl, rfl, rfl⟩
     refine ⟨(PdOk.anc (by kernel_rfl) (PdOk.q rfl rfl (fun F => (q_ixg Tryz.underlying70 ty43 rfl rfl h43 rfl (Ent.b (Ent.darr (Ent.dsnd (Ent.del Ent.z h23.lt)))))) (PdOk.q rfl rfl (fun F => (q_lde (i := Q12.2.toNat) (j := 1) ty70 rfl (Ent.b (Ent.darr Ent.z)) h23.lt rfl)) (PdOk.q rfl rfl (fun F => (q_faeE (j := 0) Q12.2.toNat fa72_1 rfl (Ent.b (Ent.darr Ent.z)) h23.lt rfl)) (PdOk.q rfl rfl (fun F => (q_ixg Tryz.underlying36 ty72 rfl rfl h23 rfl (Ent.b (Ent.darr Ent.z)))) (PdOk.q rfl rfl (fun F => (q_ldb ty36 rfl (hs1.app F) rfl)) (PdOk.anc (by kernel_rfl) PdOk.nil))))))), ?_⟩
     refine w_p rfl (p_fabE fa72_1 rfl rfl) (w_en rfl rfl Rdy.nil rfl (n_store (cs' := [.slice a24 ((([] : List Int) ++ ((nth v0.2.1 Q12.2.toNat).1)).length) c25, .slice a50 ((Q34.1 ++ [([] : List Row) ++ (nth ((nth v0.2.1 Q12.2.toNat).2) Q34.2.toNat)]).length) c51]) ty70 rfl rfl up5 rfl (one_of rfl) (Nat.le_of_ble_eq_true rfl) rfl) ?_)
     rintro _ _ _ ⟨rfl, rfl, rfl⟩
     refine ⟨(PdOk.anc (by kernel_rfl) (PdOk.anc (by kernel_rfl) (PdOk.anc (by kernel_rfl) (PdOk.anc (by kernel_rfl) (PdOk.anc (by kernel_rfl) (PdOk.anc (by kernel_rfl) (PdOk.anc (by kernel_rfl) PdOk.nil))))))), ?_⟩
     refine w_nil ?_
     show At _ _ _ _ _ _
     exact nB (nT (Tr.region (Rg.m rfl (gdo H2 fun h53 H2 => (Rg.p (p_add rfl rfl h53) (Rg.a rfl (Rg.nl (nLI (a50, c51) (hi38 _ (sm H2)) (.cons dl1 (.cons dl1 (.cons dl1 (.cons dl1 (.cons Del.here (.cons Del.here .nil))))))))))))))
    ·refine tExit (xT (xT (xE (?_))))
     obtain rfl := hb39 _ (sm H2)
     exact nMC (z35.1, z35.2) ⟨rfl, rfl, rfl, rfl, rfl, trivial⟩ Ents.refl (.cons Del.here (.cons Del.here (.cons Del.here (.cons Del.here (.cons Del.here (.cons Del.here .nil))))))
   ·intro y36
    show At _ _ [(1, .pointer (some ⟨g4, 0, none⟩)), (2, .pointer (some ⟨g5, 0, none⟩)), (3, .slice z13.1 Q12.1.length z13.2), (4, .int .i64 (Q12.2)), (5, .pointer (some ⟨g29, 0, none⟩))] _ [box g4 39 [.slice x_v0.1.1.1 v0.1.1.length x_v0.1.1.2, .slice x_v0.1.2.1 v0.1.2.length x_v0.1.2.2, .slice x_v0.2.1.1 v0.2.1.length x_v0.2.1.2, .slice x_v0.2.2.1 v0.2.2.length x_v0.2.2.2], box g5 39 [.slice none 0 0, .slice none 0 0, .slice none 0 0, .slice none 0 0], tree (.slice z13.1 Q12.1.length z13.2) Q12.1, tree (.slice a24 ((([] : List Int) ++ ((nth v0.2.1 Q12.2.toNat).1)).length) c25) (([] : List Int) ++ ((nth v0.2.1 Q12.2.toNat).1)), tree (.slice y36.1 x30.length y36.2) x30, box g29 72 [.slice a24 ((([] : List Int) ++ ((nth v0.2.1 Q12.2.toNat).1)).length) c25, .slice y36.1 x30.length y36.2]] _
    refine nT (Tr.region (Rg.m rfl (Rg.o (q_ldbA ty72 rfl hs5 rfl) (f1 (e_lit (vs := [(0, .agg #[.slice a24 ((([] : List Int) ++ ((nth v0.2.1 Q12.2.toNat).1)).length) c25, .slice y36.1 x30.length y36.2])]) [.slice a24 ((([] : List Int) ++ ((nth v0.2.1 Q12.2.toNat).1)).length) c25, .slice y36.1 x30.length y36.2] Tryz.underlying36 ty72 rfl (by decide) (by decide) (by kernel_rfl)) fun g54 => (gdo H1 fun h57 H1 => (f2 (e_app1 (l := Q12.1) (α := Part) ((([] : List Int) ++ ((nth v0.2.1 Q12.2.toNat).1)), x30) ((a24, c25), y36) Tryz.underlying36 ty72 rfl rfl (h57.b (by decide)) h57.x rfl (ShpT.wfa _) (.cons dl3 (.cons Del.here (.cons dl2 (.cons dl2 .nil))))) fun a55 c56 => (Rg.a rfl (Rg.nl (nB (nT (Tr.region ?_)))))))))))
    exact Rg.m rfl (gdo H1 fun h58 H1 => (Rg.p (p_add rfl rfl h58) (Rg.a rfl (Rg.nl (nLI (a55, c56) (hi16 _ (sm H1)) (.cons dl1 (.cons dl1 (.cons Del.here .nil))))))))
  ·refine tExit (xT (xT (xE (?_))))
   obtain rfl := hb17 _ (sm H1)
   exact nMC (z13.1, z13.2) ⟨rfl, rfl, rfl, trivial⟩ Ents.refl (.cons Del.here (.cons Del.here (.cons Del.here .nil)))
 ·intro y14
  show At _ _ [(1, .pointer (some ⟨g4, 0, none⟩)), (2, .pointer (some ⟨g5, 0, none⟩)), (3, .slice y14.1 x8.length y14.2)] _ [box g4 39 [.slice x_v0.1.1.1 v0.1.1.length x_v0.1.1.2, .slice x_v0.1.2.1 v0.1.2.length x_v0.1.2.2, .slice x_v0.2.1.1 v0.2.1.length x_v0.2.1.2, .slice x_v0.2.2.1 v0.2.2.length x_v0.2.2.2], box g5 39 [.slice none 0 0, .slice none 0 0, .slice none 0 0, .slice none 0 0], tree (.slice y14.1 x8.length y14.2) x8] _
  refine nT (Tr.seq (tNwS [(1, .pointer (some ⟨g4, 0, none⟩)), (2, .pointer (some ⟨g5, 0, none⟩)), (3, .slice y14.1 x8.length y14.2)] 1 [0, 1, 2, 4, 6, 7, 3, 5, 8, 9, 10] [3, 8, 10] [⟨5, [], fun g => .slice (some ⟨g, 0, none⟩) ([] : List Sample).length 0, fun g => tree (.slice (some ⟨g, 0, none⟩) ([] : List Sample).length 0) ([] : List Sample)⟩] Tryz.mixed (by kernel_rfl) (by decide) (show List.Nodup [5] by decide) ⟨rfl, rfl, rfl, trivial⟩ rfl (okCons (FreeA.Ok.of rfl (by decide) (by kernel_rfl) fun c fs os => g_lit0 Sample Tryz.underlying37 ty75) okNil) (w_p rfl (p_fabE fa39_0 rfl rfl) (w_p rfl (p_fabE fa35_0 rfl rfl) ?_))))
  refine w_o rfl (fun F => (q_ldb ty32 rfl (Has.here.app F) rfl)) (w_p rfl (p_move rfl) (w_p rfl (p_fabE fa39_2 rfl rfl) ?_))
  refine w_o rfl (fun F => (q_ldb ty37 rfl (Has.here.app F) rfl)) (bdo H fun r59 h60 H => (w_ed rfl (by decide) rfl (Rdy.cons (.inr (.inr trivial)) Rdy.nil) rfl (n_callB (c_spec_l11Of v0.1.1 x_v0.1.1 h60) (fun _ => (Solo.tree (Solo.tree Solo.nil))) rfl (EntsB.cons (Ent.b (Ent.dimm Ent.z.s.s)) EntsB.nil)) ?_))
  rintro _ _ _ ⟨x61, rfl, rfl, rfl⟩
  refine ⟨(PdOk.q rfl rfl (fun F => (q_ldb ty37 rfl (hs2.app F) rfl)) (PdOk.anc (by kernel_rfl) PdOk.nil)), ?_⟩
  refine w_fr (z := ⟨5, [], fun g => .slice (some ⟨g, 0, none⟩) ([] : List Sample).length 0, fun g => tree (.slice (some ⟨g, 0, none⟩) ([] : List Sample).length 0) ([] : List Sample)⟩) (.head _) rfl rfl (by decide) (Rdy.cons (.inl rfl) Rdy.nil) trivial ?_; intro g62
  refine gdo H fun h65 H => (w_ed rfl (by decide) rfl (Rdy.cons (.inl rfl) Rdy.nil) rfl (n_appF (l := ([] : List Sample)) (k := v0.2.2) (α := Sample) Tryz.underlying37 ty75 rfl rfl (h65.b (by decide)) h65.x (.cons Del.here .nil) (Ent.b Ent.z.s.s.s.s.s.s)) ?_)
  rintro _ _ _ ⟨a63, c64, rfl, rfl, rfl⟩
  refine ⟨(PdOk.anc (by kernel_rfl) (PdOk.q rfl rfl (fun F => (q_ldb ty32 rfl (hs3.app F) rfl)) PdOk.nil)), ?_⟩
  refine w_p (v := .agg #[.slice x61.1.1 r59.1.length x61.1.2, .slice x61.2.1 r59.2.length x61.2.2, .slice y14.1 x8.length y14.2, .slice a63 ((([] : List Sample) ++ v0.2.2).length) c64]) rfl (p_buildS (vs := [(0, .agg #[.slice x61.1.1 r59.1.length x61.1.2, .slice x61.2.1 r59.2.length x61.2.2]), (1, .slice y14.1 x8.length y14.2), (2, .slice a63 ((([] : List Sample) ++ v0.2.2).length) c64)]) (cs := #[.slice x61.1.1 r59.1.length x61.1.2, .slice x61.2.1 r59.2.length x61.2.2, .slice y14.1 x8.length y14.2, .slice a63 ((([] : List Sample) ++ v0.2.2).length) c64]) ty39 pl39 rfl rfl) (w_en rfl rfl (Rdy.cons (.inl rfl) Rdy.nil) rfl (n_store (cs' := [.slice x61.1.1 r59.1.length x61.1.2, .slice x61.2.1 r59.2.length x61.2.2, .slice y14.1 x8.length y14.2, .slice a63 ((([] : List Sample) ++ v0.2.2).length) c64]) ty39 rfl rfl up4 rfl (one_of rfl) (Nat.le_of_ble_eq_true rfl) rfl) ?_)
  rintro _ _ _ ⟨rfl, rfl, rfl⟩
  refine ⟨(PdOk.anc (by kernel_rfl) (PdOk.anc (by kernel_rfl) PdOk.nil)), ?_⟩
  refine w_nil (nT (tRet ?_))
  obtain rfl := si H
  exact back1 (x61, y14, (a63, c64)) rfl (ResV.agg ty39 rfl hs4 rfl) rfl Ents.nil (.cons dl1 (.cons dl1 (.cons dl3 (.cons Del.here .nil))))
noncomputable def p_impl_clonePart_b0 (v0 : Part) (Q16 : (List (List Row)) × Int) : Option (((List (List Row)) × Int) ⊕ ((List (List Row)))) := cond (decide (Q16.2 < (v0.2.length : Int))) (gd (ix Q16.2 v0.2.length) <| gd (room (([] : List Row).length + (nth v0.2 Q16.2.toNat).length)) <| gd (room (Q16.1.length + 1)) <| gd (I64 (Q16.2 + 1)) <| some (.inl ((Q16.1 ++ [([] : List Row) ++ (nth v0.2 Q16.2.toNat)]), Q16.2 + 1))) (some (.inr Q16.1))
noncomputable def p_impl_clonePart (v0 : Part) : Option (Part) := gd (room (([] : List Int).length + v0.1.length)) <| bd (lp (p_impl_clonePart_b0 v0) (([] : List (List Row)), 0)) fun x12 => some ((([] : List Int) ++ v0.1), x12)
end Go.Proofs.YtjaibcpidajdcaaGreat
