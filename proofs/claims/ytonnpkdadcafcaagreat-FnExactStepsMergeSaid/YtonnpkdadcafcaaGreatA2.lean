/- The walks and the plain laws, part 2: each function that the law reaches computes what its plain function tells, and what the plain functions answer. Conditions: lengths that memory can hold. -/
import Derived.Test.YtonnpkdadcafcaaGreatA1
namespace Go.Proofs.YtonnpkdadcafcaaGreat
open Go Go.Sx Tryz
theorem c_impl_indexOf_2 {r : Int} (v0 : PostH) (v1 : PostH) (H : p_impl_indexOf_2 v0 v1 = some r) : Fn' prog 165 #[.agg #[.string (v0.1.1), .string (v0.1.2), v0.2.1], .agg #[.string (v1.1.1), .string (v1.1.2), v1.2.1]] [] [] (ι := Unit) (fun _ => .int .i64 (r)) (fun _ => []) (fun _ => []) := by
 refine cof (args := [_, _]) func165 ntmps165 fun c => ?_
 unfold p_impl_indexOf_2 at H
 refine sr (f1 (cD (t := 183) rfl) fun g1 => (f1 (cD (t := 183) rfl) fun g2 => (aH (v := .int .i64 (0)) rfl (nl (aD (dJ [(3, .pointer (some ⟨g2, 0, none⟩)), (2, .pointer (some ⟨g1, 0, none⟩))] 1 [0, 1, 2, 3, 4, 5, 6, 7, 8, 9, 10, 11, 12, 13, 14, 15, 16] [14] [] mixed (by kernel_rfl) (by decide) dL ⟨rfl, rfl, trivial⟩ rfl okNil (w_p rfl (cC fa183_0 rfl rfl) (w_p rfl (cC fa172_0 rfl rfl) ?_))))))))
 refine w_o rfl (fun F => (bJ ty9 rfl (hs1.app F) rfl)) (w_p rfl (cC fa183_0 rfl rfl) (w_p rfl (cC fa172_0 rfl rfl) ?_))
 refine w_o rfl (fun F => (bJ ty9 rfl (aB.app F) rfl)) (bdo H fun r3 h4 H => ?_)
 refine w_o rfl (fun F => (bO (c_cmp_Compare_string v0.1.1 v1.1.1 h4) rfl aO)) (w_p rfl (cC fa183_0 rfl rfl) (w_p rfl (cC fa172_1 rfl rfl) ?_))
 refine w_o rfl (fun F => (bJ ty9 rfl (hs1.app F) rfl)) (w_p rfl (cC fa183_0 rfl rfl) (w_p rfl (cC fa172_1 rfl rfl) ?_))
 refine w_o rfl (fun F => (bJ ty9 rfl (aB.app F) rfl)) (bdo H fun r5 h6 H => ?_)
 refine w_o rfl (fun F => (bO (c_cmp_Compare_string v0.1.2 v1.1.2 h6) rfl aO)) (cL rfl (by decide) rfl cQ rfl (n_litT (α := Int) (vs := [(0, .int .i64 (r3)), (1, .int .i64 (r5))]) [r3, r5] rfl (fun _ => rfl) (fun _ _ => by repeat constructor) dS ty3 rfl (by decide) (by decide) (by kernel_rfl)) ?_)
 rintro _ _ _ ⟨a7, c8, rfl, rfl, rfl⟩
 refine ⟨(aM (by kernel_rfl) (bW rfl rfl (fun F => (bJ ty9 rfl (hs1.app F) rfl)) (bW rfl rfl (fun F => (bJ ty9 rfl (hs2.app F) rfl)) (aM (by kernel_rfl) (bW rfl rfl (fun F => (bJ ty9 rfl (hs1.app F) rfl)) (bW rfl rfl (fun F => (bJ ty9 rfl (hs2.app F) rfl)) bV)))))), ?_⟩
 refine bdo H fun r9 h10 H => ?_
 refine w_o rfl (fun F => (bO (c_cmp_Or_int ([r3, r5] : List Int) (a7, c8) h10) rfl (aC (bM (aB.app F)) aO))) (w_p rfl (p_assign rfl) (cN (nT (?_))))
 obtain rfl := si H
 exact bR bk
noncomputable def p_insertionSortH_b1 (v1 : Int) (Q20 : (List PostH) × Int) : Option (((List PostH) × Int) ⊕ ((List PostH))) := bd (cond (decide (v1 < Q20.2)) (gd (ix Q20.2 Q20.1.length) <| gd (I64 (Q20.2 - 1)) <| gd (ix (Q20.2 - 1) Q20.1.length) <| bd (p_impl_indexOf_2 (nth Q20.1 Q20.2.toNat) (nth Q20.1 ((Q20.2 - 1).toNat))) fun r35 => some (decide (r35 < 0))) (some (false))) fun b29 => cond (b29) (gd (I64 (Q20.2 - 1)) <| gd (ix (Q20.2 - 1) Q20.1.length) <| gd (ix Q20.2 Q20.1.length) <| gd (ix Q20.2 (Q20.1.set Q20.2.toNat (nth Q20.1 ((Q20.2 - 1).toNat))).length) <| gd (ix (Q20.2 - 1) (Q20.1.set Q20.2.toNat (nth Q20.1 ((Q20.2 - 1).toNat))).length) <| some (.inl (((Q20.1.set Q20.2.toNat (nth Q20.1 ((Q20.2 - 1).toNat))).set ((Q20.2 - 1).toNat) (nth Q20.1 Q20.2.toNat)), Q20.2 - 1))) (some (.inr Q20.1))
noncomputable def p_insertionSortH_b0 (v1 : Int) (v2 : Int) (Q6 : (List PostH) × Int) : Option (((List PostH) × Int) ⊕ ((List PostH))) := cond (decide (Q6.2 < v2)) (bd (lp (p_insertionSortH_b1 v1) (Q6.1, Q6.2)) fun x16 => gd (I64 (Q6.2 + 1)) <| some (.inl (x16, Q6.2 + 1))) (some (.inr Q6.1))
noncomputable def p_insertionSortH (v0 : (List PostH)) (v1 : Int) (v2 : Int) : Option ((List PostH)) := gd (I64 (v1 + 1)) <| bd (lp (p_insertionSortH_b0 v1 v2) (v0, v1 + 1)) fun x2 => some x2
theorem c_insertionSortH {r : (List PostH)} (v0 : (List PostH)) (x_v0 : Option Addr × Nat) (n_v0 : Nat) (e_v0 : n_v0 = v0.length) (v1 : Int) (v2 : Int) (H : p_insertionSortH v0 v1 v2 = some r) : Fn' prog 201 #[.slice x_v0.1 n_v0 x_v0.2, .int .i64 (v1), .int .i64 (v2), .func (.func 165) #[] #[]] [] [tree (.slice x_v0.1 n_v0 x_v0.2) v0] (ι := Unit) (fun _ => .tuple #[]) (fun _ => []) (fun _ => [tree (.slice x_v0.1 n_v0 x_v0.2) r]) := by
 subst e_v0
 refine cof (args := [_, _, _, _]) func201 ntmps201 fun c => ?_
 unfold p_insertionSortH at H
 refine sr (aF rfl (gdo H fun h1 H => (aG (bS rfl rfl h1) (aH rfl (nl (bdo H fun x2 hx3 H => (dE (ι := Unit) (fun ψ => []) (fun ψ => [tree (.slice x_v0.1 v0.length x_v0.2) x2]) ?_ ?_)))))))
 ·refine aQ (dH hx3 () (fun Q6 _ => [(0, .slice x_v0.1 v0.length x_v0.2), (1, .int .i64 (v1)), (2, .int .i64 (v2)), (3, .func (.func 165) #[] #[]), (8, .int .i64 (Q6.2))]) (fun Q6 _ => [tree (.slice x_v0.1 v0.length x_v0.2) Q6.1]) (.cons aA .nil) ?_)
  rintro _ Q6 z7 t9 H1 hi10 hb11
  unfold p_insertionSortH_b0 at H1
  refine aD (aD (dA aB fun hn14 => (aP (aF rfl (aF rfl (aG (cS rfl rfl) (nl (cH H1 rfl (fun h15 H1 => ?_) (fun h15 H1 => ?_)))))))))
  ·refine bI (nT (aD (aQ (sr (aF rfl (aH rfl (nl (bdo H1 fun x16 hx17 H1 => (dE (ι := Unit) (fun ψ => [(0, .slice x_v0.1 v0.length x_v0.2), (1, .int .i64 (v1)), (2, .int .i64 (v2)), (3, .func (.func 165) #[] #[]), (8, .int .i64 (Q6.2))]) (fun ψ => [tree (.slice x_v0.1 v0.length x_v0.2) x16]) ?_ ?_)))))))))
   ·refine aQ (dH hx17 () (fun Q20 _ => [(0, .slice x_v0.1 v0.length x_v0.2), (1, .int .i64 (v1)), (2, .int .i64 (v2)), (3, .func (.func 165) #[] #[]), (8, .int .i64 (Q6.2)), (9, .int .i64 (Q20.2))]) (fun Q20 _ => [tree (.slice x_v0.1 v0.length x_v0.2) Q20.1]) (.cons aA .nil) ?_)
    rintro _ Q20 z21 t23 H2 hi24 hb25
    unfold p_insertionSortH_b1 at H2
    refine aD (dA aB fun hn28 => (bdo H2 fun b29 j30 H2 => (dG [(34, .bool (b29)), (0, .slice x_v0.1 v0.length x_v0.2), (1, .int .i64 (v1)), (2, .int .i64 (v2)), (3, .func (.func 165) #[] #[]), (8, .int .i64 (Q6.2)), (9, .int .i64 (Q20.2))] ?_ ?_)))
    ·refine dI [(0, .slice x_v0.1 v0.length x_v0.2), (1, .int .i64 (v1)), (2, .int .i64 (v2)), (3, .func (.func 165) #[] #[]), (8, .int .i64 (Q6.2)), (9, .int .i64 (Q20.2))] mixed (.inr (by kernel_rfl)) ⟨rfl, rfl, rfl, rfl, rfl, rfl, trivial⟩ rfl (bC rfl (bC rfl (aY (cX rfl rfl) ?_)))
     rcases aK (decide (v1 < Q20.2)) with h31 | h31
     ·have j30 := cdT h31 j30
      refine bD (aE rfl) h31 (aZ rfl (aE rfl) (aZ rfl (aE rfl) (aZ rfl (aE rfl) (gdo j30 fun h32 j30 => (bB rfl (bY dX ty183 rfl rfl h32 aB) (bB (v := .agg #[.string (((nth Q20.1 Q20.2.toNat).1).1), .string (((nth Q20.1 Q20.2.toNat).1).2), ((nth Q20.1 Q20.2.toNat).2).1]) rfl (cB (i := Q20.2.toNat) ty183 rfl (aN (bM aB)) h32.lt) (aZ rfl (aE rfl) (aZ rfl (aE rfl) (gdo j30 fun h33 j30 => ?_)))))))))
      refine aZ rfl (cT rfl rfl h33) (gdo j30 fun h34 j30 => (bB rfl (bY dX ty183 rfl rfl h34 aB) (bB (v := .agg #[.string (((nth Q20.1 ((Q20.2 - 1).toNat)).1).1), .string (((nth Q20.1 ((Q20.2 - 1).toNat)).1).2), ((nth Q20.1 ((Q20.2 - 1).toNat)).2).1]) rfl (cB (i := (Q20.2 - 1).toNat) ty183 rfl (aN (bM aB)) h34.lt) (bdo j30 fun r35 h36 j30 => (bB (v := .int .i64 (r35)) rfl (Ex.dyn (caps := []) (vs := [.agg #[.string (((nth Q20.1 Q20.2.toNat).1).1), .string (((nth Q20.1 Q20.2.toNat).1).2), ((nth Q20.1 Q20.2.toNat).2).1], .agg #[.string (((nth Q20.1 ((Q20.2 - 1).toNat)).1).1), .string (((nth Q20.1 ((Q20.2 - 1).toNat)).1).2), ((nth Q20.1 ((Q20.2 - 1).toNat)).2).1]]) rfl rfl (bO (c_impl_indexOf_2 (nth Q20.1 Q20.2.toNat) (nth Q20.1 ((Q20.2 - 1).toNat)) h36) rfl aO)) (aZ rfl (cS rfl rfl) (aY (bQ rfl rfl) ?_)))))))
      obtain rfl := si j30
      show At _ _ _ _ _ _
      exact n1 ⟨rfl, rfl, rfl, rfl, rfl, rfl, rfl, trivial⟩
     ·have j30 := cdF h31 j30
      refine bD (aE rfl) h31 ?_
      iterate 12 refine bF rfl ?_
      refine aY (v := .bool (false)) (bP rfl rfl) ?_
      obtain rfl := si j30
      show At _ _ _ _ _ _
      exact n1 ⟨rfl, rfl, rfl, rfl, rfl, rfl, rfl, trivial⟩
    refine cH H2 rfl (fun h37 H2 => ?_) (fun h37 H2 => ?_)
    ·refine bI (nT (aD (aQ (dJ [(0, .slice x_v0.1 v0.length x_v0.2), (1, .int .i64 (v1)), (2, .int .i64 (v2)), (3, .func (.func 165) #[] #[]), (8, .int .i64 (Q6.2)), (9, .int .i64 (Q20.2))] 1 [0, 1, 2, 3, 4, 5, 6, 7, 8, 9, 10, 11, 12, 13, 14, 15, 16, 17] [15, 17] [] mixed (by kernel_rfl) (by decide) dL ⟨rfl, rfl, rfl, rfl, rfl, rfl, trivial⟩ rfl okNil (w_p rfl (aE rfl) (w_p rfl (aE rfl) (w_p rfl (aE rfl) (w_p rfl (aE rfl) (gdo H2 fun h38 H2 => (w_p rfl (cT rfl rfl h38) ?_))))))))))
     refine w_p rfl (aE rfl) (w_p rfl (aE rfl) (w_p rfl (cT rfl rfl h38) (gdo H2 fun h39 H2 => ?_)))
     refine w_o rfl (fun F => (bY dX ty183 rfl rfl h39 (aB.app F))) ?_
     refine w_o (v := .agg #[.string (((nth Q20.1 ((Q20.2 - 1).toNat)).1).1), .string (((nth Q20.1 ((Q20.2 - 1).toNat)).1).2), ((nth Q20.1 ((Q20.2 - 1).toNat)).2).1]) rfl (fun F => (cB (i := (Q20.2 - 1).toNat) ty183 rfl (aN (bM (aB.app F))) h39.lt)) (w_p rfl (aE rfl) (w_p rfl (aE rfl) (gdo H2 fun h40 H2 => ?_)))
     refine w_o rfl (fun F => (bY dX ty183 rfl rfl h40 (aB.app F))) ?_
     refine w_o (v := .agg #[.string (((nth Q20.1 Q20.2.toNat).1).1), .string (((nth Q20.1 Q20.2.toNat).1).2), ((nth Q20.1 Q20.2.toNat).2).1]) rfl (fun F => (cB (i := Q20.2.toNat) ty183 rfl (aN (bM (aB.app F))) h40.lt)) ?_
     refine w_o rfl (fun F => (bY dX ty183 rfl rfl h40 (aB.app F))) (cM rfl rfl cQ rfl (n_setT (l := Q20.1) (α := PostH) (oa := x_v0.1) Q20.2.toNat (nth Q20.1 ((Q20.2 - 1).toNat)) (((), ()), ()) ty183 rfl rfl rfl h40.lt (cZ _) (.cons aA .nil)) ?_)
     rintro _ _ _ ⟨rfl, rfl, rfl⟩
     refine gdo H2 fun h41 H2 => ?_
     refine ⟨(aM (by kernel_rfl) (aM (by kernel_rfl) (bW rfl rfl (fun F => (bY dX ty183 rfl rfl h41 (aB.app F))) (aM (by kernel_rfl) (aM (by kernel_rfl) bV))))), ?_⟩
     refine gdo H2 fun h42 H2 => ?_
     refine w_o rfl (fun F => (bY dX ty183 rfl rfl h42 (aB.app F))) (cM rfl rfl cQ rfl (n_setT (l := (Q20.1.set Q20.2.toNat (nth Q20.1 ((Q20.2 - 1).toNat)))) (α := PostH) (oa := x_v0.1) ((Q20.2 - 1).toNat) (nth Q20.1 Q20.2.toNat) (((), ()), ()) ty183 rfl rfl rfl h42.lt (cZ _) (.cons aA .nil)) ?_)
     rintro _ _ _ ⟨rfl, rfl, rfl⟩
     refine ⟨(aM (by kernel_rfl) (aM (by kernel_rfl) (aM (by kernel_rfl) (aM (by kernel_rfl) (aM (by kernel_rfl) (aM (by kernel_rfl) bV)))))), ?_⟩
     refine cN ?_
     show At _ _ _ _ _ _
     exact nB (nT (dA aB fun hn43 => (aP (aF rfl (aG (cT rfl rfl h38) (aH rfl (aJ (nLI () (hi24 _ (sm H2)) (.cons aA .nil)))))))))
    ·refine dD (xT (xT (xE (?_))))
     obtain rfl := hb25 _ (sm H2)
     exact nMC () ⟨rfl, rfl, rfl, rfl, rfl, trivial⟩ bU (.cons aA .nil)
   ·intro y22
    show At _ _ [(0, .slice x_v0.1 v0.length x_v0.2), (1, .int .i64 (v1)), (2, .int .i64 (v2)), (3, .func (.func 165) #[] #[]), (8, .int .i64 (Q6.2))] _ [tree (.slice x_v0.1 v0.length x_v0.2) x16] _
    exact nB (nT (dA aB fun hn44 => (aP (aF rfl (gdo H1 fun h45 H1 => (aG (bS rfl rfl h45) (aH rfl (aJ (nLI () (hi10 _ (sm H1)) (.cons aA .nil))))))))))
  ·refine dD (xT (xT (xE (?_))))
   obtain rfl := hb11 _ (sm H1)
   exact nMC () trivial bU (.cons aA .nil)
 ·intro y8
  show At _ _ [] _ [tree (.slice x_v0.1 v0.length x_v0.2) x2] _
  obtain rfl := si H
  exact back0n () rfl  rfl cP (.cons aA .nil)
noncomputable def p_siftDownH_b0 (v2 : Int) (v3 : Int) (Q5 : (List PostH) × Int) : Option (((List PostH) × Int) ⊕ ((List PostH) ⊕ (List PostH))) := gd (I64 (2 * Q5.2)) <| gd (I64 ((2 * Q5.2) + 1)) <| cond (decide (v2 ≤ ((2 * Q5.2) + 1))) (some (.inr (.inl Q5.1))) (bd (gd (I64 (((2 * Q5.2) + 1) + 1)) <| cond (decide ((((2 * Q5.2) + 1) + 1) < v2)) (gd (I64 (v3 + ((2 * Q5.2) + 1))) <| gd (ix (v3 + ((2 * Q5.2) + 1)) Q5.1.length) <| gd (I64 ((v3 + ((2 * Q5.2) + 1)) + 1)) <| gd (ix ((v3 + ((2 * Q5.2) + 1)) + 1) Q5.1.length) <| bd (p_impl_indexOf_2 (nth Q5.1 ((v3 + ((2 * Q5.2) + 1)).toNat)) (nth Q5.1 (((v3 + ((2 * Q5.2) + 1)) + 1).toNat))) fun r25 => some (decide (r25 < 0))) (some (false))) fun b17 => cond (b17) (gd (I64 (((2 * Q5.2) + 1) + 1)) <| gd (I64 (v3 + Q5.2)) <| gd (ix (v3 + Q5.2) Q5.1.length) <| gd (I64 (v3 + (((2 * Q5.2) + 1) + 1))) <| gd (ix (v3 + (((2 * Q5.2) + 1) + 1)) Q5.1.length) <| bd (p_impl_indexOf_2 (nth Q5.1 ((v3 + Q5.2).toNat)) (nth Q5.1 ((v3 + (((2 * Q5.2) + 1) + 1)).toNat))) fun r33 => cond (!(decide (r33 < 0))) (some (.inr (.inr Q5.1))) (gd (ix (v3 + Q5.2) (Q5.1.set ((v3 + Q5.2).toNat) (nth Q5.1 ((v3 + (((2 * Q5.2) + 1) + 1)).toNat))).length) <| gd (ix (v3 + (((2 * Q5.2) + 1) + 1)) (Q5.1.set ((v3 + Q5.2).toNat) (nth Q5.1 ((v3 + (((2 * Q5.2) + 1) + 1)).toNat))).length) <| some (.inl (((Q5.1.set ((v3 + Q5.2).toNat) (nth Q5.1 ((v3 + (((2 * Q5.2) + 1) + 1)).toNat))).set ((v3 + (((2 * Q5.2) + 1) + 1)).toNat) (nth Q5.1 ((v3 + Q5.2).toNat))), ((2 * Q5.2) + 1) + 1)))) (gd (I64 (v3 + Q5.2)) <| gd (ix (v3 + Q5.2) Q5.1.length) <| gd (I64 (v3 + ((2 * Q5.2) + 1))) <| gd (ix (v3 + ((2 * Q5.2) + 1)) Q5.1.length) <| bd (p_impl_indexOf_2 (nth Q5.1 ((v3 + Q5.2).toNat)) (nth Q5.1 ((v3 + ((2 * Q5.2) + 1)).toNat))) fun r43 => cond (!(decide (r43 < 0))) (some (.inr (.inr Q5.1))) (gd (ix (v3 + Q5.2) (Q5.1.set ((v3 + Q5.2).toNat) (nth Q5.1 ((v3 + ((2 * Q5.2) + 1)).toNat))).length) <| gd (ix (v3 + ((2 * Q5.2) + 1)) (Q5.1.set ((v3 + Q5.2).toNat) (nth Q5.1 ((v3 + ((2 * Q5.2) + 1)).toNat))).length) <| some (.inl (((Q5.1.set ((v3 + Q5.2).toNat) (nth Q5.1 ((v3 + ((2 * Q5.2) + 1)).toNat))).set ((v3 + ((2 * Q5.2) + 1)).toNat) (nth Q5.1 ((v3 + Q5.2).toNat))), (2 * Q5.2) + 1)))))
noncomputable def p_siftDownH (v0 : (List PostH)) (v1 : Int) (v2 : Int) (v3 : Int) : Option ((List PostH)) := bd (lp (p_siftDownH_b0 v2 v3) (v0, v1)) <| sw (fun e49 => some e49) (fun q => some q)
theorem c_siftDownH {r : (List PostH)} (v0 : (List PostH)) (x_v0 : Option Addr × Nat) (n_v0 : Nat) (e_v0 : n_v0 = v0.length) (v1 : Int) (v2 : Int) (v3 : Int) (H : p_siftDownH v0 v1 v2 v3 = some r) : Fn' prog 212 #[.slice x_v0.1 n_v0 x_v0.2, .int .i64 (v1), .int .i64 (v2), .int .i64 (v3), .func (.func 165) #[] #[]] [] [tree (.slice x_v0.1 n_v0 x_v0.2) v0] (ι := Unit) (fun _ => .tuple #[]) (fun _ => []) (fun _ => [tree (.slice x_v0.1 n_v0 x_v0.2) r]) := by
 subst e_v0
 refine cof (args := [_, _, _, _, _]) func212 ntmps212 fun c => ?_
 unfold p_siftDownH at H
 refine sr (aF rfl (aH rfl (nl (bdo H fun x1 hx2 H => (dF (Λ := Unit) H (fun _ _ => []) (fun e49 _ => [tree (.slice x_v0.1 v0.length x_v0.2) e49]) ?_ ?_)))))
 ·refine aQ (dH hx2 () (fun Q5 _ => [(0, .slice x_v0.1 v0.length x_v0.2), (2, .int .i64 (v2)), (3, .int .i64 (v3)), (4, .func (.func 165) #[] #[]), (10, .int .i64 (Q5.2))]) (fun Q5 _ => [tree (.slice x_v0.1 v0.length x_v0.2) Q5.1]) (.cons aA .nil) ?_)
  rintro _ Q5 z6 t8 H1 hi9 hb10
  unfold p_siftDownH_b0 at H1
  refine aQ (aD (dA aB fun hn13 => (aP (aF rfl (gdo H1 fun h14 H1 => (aG (p_mul rfl rfl h14) (gdo H1 fun h15 H1 => (aG (bS rfl rfl h15) (aH rfl (nl ?_))))))))))
  refine aD (sr (aF rfl (aF rfl (aG (p_geq rfl rfl) (nl (cH H1 rfl (fun h16 H1 => ?_) (fun h16 H1 => ?_)))))))
  ·exact dD (xT (xB rfl (xT (xE (nMI () (hb10 _ (sm H1)) (.cons aA .nil))))))
  ·refine bI (nT (aD (bdo H1 fun b17 j18 H1 => (dG [(40, .bool (b17)), (11, .int .i64 ((2 * Q5.2) + 1)), (0, .slice x_v0.1 v0.length x_v0.2), (2, .int .i64 (v2)), (3, .int .i64 (v3)), (4, .func (.func 165) #[] #[]), (10, .int .i64 (Q5.2))] ?_ ?_))))
   ·refine dI [(11, .int .i64 ((2 * Q5.2) + 1)), (0, .slice x_v0.1 v0.length x_v0.2), (2, .int .i64 (v2)), (3, .int .i64 (v3)), (4, .func (.func 165) #[] #[]), (10, .int .i64 (Q5.2))] mixed (.inr (by kernel_rfl)) ⟨rfl, rfl, rfl, rfl, rfl, rfl, trivial⟩ rfl (bC rfl (gdo j18 fun h19 j18 => (aY (bS rfl rfl h19) (bC rfl (aY (cS rfl rfl) ?_)))))
    rcases aK (decide ((((2 * Q5.2) + 1) + 1) < v2)) with h20 | h20
    ·have j18 := cdT h20 j18
     refine bD (aE rfl) h20 (aZ rfl (aE rfl) (aZ rfl (aE rfl) (aZ rfl (aE rfl) (aZ rfl (aE rfl) (gdo j18 fun h21 j18 => (aZ rfl (bS rfl rfl h21) (gdo j18 fun h22 j18 => (bB rfl (bY dX ty183 rfl rfl h22 aB) (bB (v := .agg #[.string (((nth Q5.1 ((v3 + ((2 * Q5.2) + 1)).toNat)).1).1), .string (((nth Q5.1 ((v3 + ((2 * Q5.2) + 1)).toNat)).1).2), ((nth Q5.1 ((v3 + ((2 * Q5.2) + 1)).toNat)).2).1]) rfl (cB (i := (v3 + ((2 * Q5.2) + 1)).toNat) ty183 rfl (aN (bM aB)) h22.lt) ?_)))))))))
     refine aZ rfl (aE rfl) (aZ rfl (aE rfl) (aZ rfl (aE rfl) (aZ rfl (bS rfl rfl h21) (gdo j18 fun h23 j18 => (aZ rfl (bS rfl rfl h23) (gdo j18 fun h24 j18 => (bB rfl (bY dX ty183 rfl rfl h24 aB) (bB (v := .agg #[.string (((nth Q5.1 (((v3 + ((2 * Q5.2) + 1)) + 1).toNat)).1).1), .string (((nth Q5.1 (((v3 + ((2 * Q5.2) + 1)) + 1).toNat)).1).2), ((nth Q5.1 (((v3 + ((2 * Q5.2) + 1)) + 1).toNat)).2).1]) rfl (cB (i := ((v3 + ((2 * Q5.2) + 1)) + 1).toNat) ty183 rfl (aN (bM aB)) h24.lt) (bdo j18 fun r25 h26 j18 => ?_)))))))))
     refine bB (v := .int .i64 (r25)) rfl (Ex.dyn (caps := []) (vs := [.agg #[.string (((nth Q5.1 ((v3 + ((2 * Q5.2) + 1)).toNat)).1).1), .string (((nth Q5.1 ((v3 + ((2 * Q5.2) + 1)).toNat)).1).2), ((nth Q5.1 ((v3 + ((2 * Q5.2) + 1)).toNat)).2).1], .agg #[.string (((nth Q5.1 (((v3 + ((2 * Q5.2) + 1)) + 1).toNat)).1).1), .string (((nth Q5.1 (((v3 + ((2 * Q5.2) + 1)) + 1).toNat)).1).2), ((nth Q5.1 (((v3 + ((2 * Q5.2) + 1)) + 1).toNat)).2).1]]) rfl rfl (bO (c_impl_indexOf_2 (nth Q5.1 ((v3 + ((2 * Q5.2) + 1)).toNat)) (nth Q5.1 (((v3 + ((2 * Q5.2) + 1)) + 1).toNat)) h26) rfl aO)) (aZ rfl (cS rfl rfl) (aY (bQ rfl rfl) ?_))
     obtain rfl := si j18
     show At _ _ _ _ _ _
     exact n1 ⟨rfl, rfl, rfl, rfl, rfl, rfl, rfl, trivial⟩
    ·have j18 := cdF h20 j18
     refine bD (aE rfl) h20 ?_
     iterate 16 refine bF rfl ?_
     refine aY (v := .bool (false)) (bP rfl rfl) ?_
     obtain rfl := si j18
     show At _ _ _ _ _ _
     exact n1 ⟨rfl, rfl, rfl, rfl, rfl, rfl, rfl, trivial⟩
   refine cH H1 rfl (fun h27 H1 => ?_) (fun h27 H1 => ?_)
   ·refine aP (aF rfl (gdo H1 fun h28 H1 => (aG (bS rfl rfl h28) (aH rfl (nl (aD (aD (dI [(11, .int .i64 (((2 * Q5.2) + 1) + 1)), (0, .slice x_v0.1 v0.length x_v0.2), (2, .int .i64 (v2)), (3, .int .i64 (v3)), (4, .func (.func 165) #[] #[]), (10, .int .i64 (Q5.2))] mixed (.inr (by kernel_rfl)) ⟨rfl, rfl, rfl, rfl, rfl, rfl, trivial⟩ rfl (bC rfl (bC rfl ?_))))))))))
    refine bC rfl (bC rfl (gdo H1 fun h29 H1 => (aY (bS rfl rfl h29) (gdo H1 fun h30 H1 => (bA (bY dX ty183 rfl rfl h30 aB) (bA (v := .agg #[.string (((nth Q5.1 ((v3 + Q5.2).toNat)).1).1), .string (((nth Q5.1 ((v3 + Q5.2).toNat)).1).2), ((nth Q5.1 ((v3 + Q5.2).toNat)).2).1]) (cB (i := (v3 + Q5.2).toNat) ty183 rfl (aN (bM aB)) h30.lt) (bC rfl (bC rfl (bC rfl ?_)))))))))
    refine gdo H1 fun h31 H1 => (aY (bS rfl rfl h31) (gdo H1 fun h32 H1 => (bA (bY dX ty183 rfl rfl h32 aB) (bA (v := .agg #[.string (((nth Q5.1 ((v3 + (((2 * Q5.2) + 1) + 1)).toNat)).1).1), .string (((nth Q5.1 ((v3 + (((2 * Q5.2) + 1) + 1)).toNat)).1).2), ((nth Q5.1 ((v3 + (((2 * Q5.2) + 1) + 1)).toNat)).2).1]) (cB (i := (v3 + (((2 * Q5.2) + 1) + 1)).toNat) ty183 rfl (aN (bM aB)) h32.lt) (bdo H1 fun r33 h34 H1 => (bA (v := .int .i64 (r33)) (Ex.dyn (caps := []) (vs := [.agg #[.string (((nth Q5.1 ((v3 + Q5.2).toNat)).1).1), .string (((nth Q5.1 ((v3 + Q5.2).toNat)).1).2), ((nth Q5.1 ((v3 + Q5.2).toNat)).2).1], .agg #[.string (((nth Q5.1 ((v3 + (((2 * Q5.2) + 1) + 1)).toNat)).1).1), .string (((nth Q5.1 ((v3 + (((2 * Q5.2) + 1) + 1)).toNat)).1).2), ((nth Q5.1 ((v3 + (((2 * Q5.2) + 1) + 1)).toNat)).2).1]]) rfl rfl (bO (c_impl_indexOf_2 (nth Q5.1 ((v3 + Q5.2).toNat)) (nth Q5.1 ((v3 + (((2 * Q5.2) + 1) + 1)).toNat)) h34) rfl aO)) (aY (cS rfl rfl) (aY (cY rfl) (nT (?_))))))))))
    refine cH H1 rfl (fun h35 H1 => ?_) (fun h35 H1 => ?_)
    ·refine bR (rT (rB (rT (rB (rT (?_))))))
     obtain rfl := hb10 _ (sm H1)
     replace H := sw.r H
     obtain rfl := si H
     exact back0 () rfl  rfl cP (.cons aA .nil)
    ·refine bI (nT (aD (dJ [(11, .int .i64 (((2 * Q5.2) + 1) + 1)), (0, .slice x_v0.1 v0.length x_v0.2), (2, .int .i64 (v2)), (3, .int .i64 (v3)), (4, .func (.func 165) #[] #[]), (10, .int .i64 (Q5.2))] 1 [0, 1, 2, 3, 4, 5, 6, 7, 8, 9, 10, 11, 12, 13, 14, 15, 16, 17, 18, 19, 20, 21, 22, 23] [21, 23] [] mixed (by kernel_rfl) (by decide) dL ⟨rfl, rfl, rfl, rfl, rfl, rfl, trivial⟩ rfl okNil (w_p rfl (aE rfl) (w_p rfl (aE rfl) (w_p rfl (aE rfl) (w_p rfl (bS rfl rfl h29) (w_p rfl (aE rfl) (w_p rfl (aE rfl) (w_p rfl (aE rfl) ?_))))))))))
     refine w_p rfl (bS rfl rfl h31) (w_p rfl (aE rfl) (w_p rfl (aE rfl) (w_p rfl (aE rfl) (w_p rfl (bS rfl rfl h31) ?_))))
     refine w_o rfl (fun F => (bY dX ty183 rfl rfl h32 (aB.app F))) ?_
     refine w_o (v := .agg #[.string (((nth Q5.1 ((v3 + (((2 * Q5.2) + 1) + 1)).toNat)).1).1), .string (((nth Q5.1 ((v3 + (((2 * Q5.2) + 1) + 1)).toNat)).1).2), ((nth Q5.1 ((v3 + (((2 * Q5.2) + 1) + 1)).toNat)).2).1]) rfl (fun F => (cB (i := (v3 + (((2 * Q5.2) + 1) + 1)).toNat) ty183 rfl (aN (bM (aB.app F))) h32.lt)) (w_p rfl (aE rfl) (w_p rfl (aE rfl) (w_p rfl (aE rfl) (w_p rfl (bS rfl rfl h29) ?_))))
     refine w_o rfl (fun F => (bY dX ty183 rfl rfl h30 (aB.app F))) ?_
     refine w_o (v := .agg #[.string (((nth Q5.1 ((v3 + Q5.2).toNat)).1).1), .string (((nth Q5.1 ((v3 + Q5.2).toNat)).1).2), ((nth Q5.1 ((v3 + Q5.2).toNat)).2).1]) rfl (fun F => (cB (i := (v3 + Q5.2).toNat) ty183 rfl (aN (bM (aB.app F))) h30.lt)) ?_
     refine w_o rfl (fun F => (bY dX ty183 rfl rfl h30 (aB.app F))) (cM rfl rfl cQ rfl (n_setT (l := Q5.1) (α := PostH) (oa := x_v0.1) ((v3 + Q5.2).toNat) (nth Q5.1 ((v3 + (((2 * Q5.2) + 1) + 1)).toNat)) (((), ()), ()) ty183 rfl rfl rfl h30.lt (cZ _) (.cons aA .nil)) ?_)
     rintro _ _ _ ⟨rfl, rfl, rfl⟩
     refine gdo H1 fun h36 H1 => ?_
     refine ⟨(aM (by kernel_rfl) (aM (by kernel_rfl) (bW rfl rfl (fun F => (bY dX ty183 rfl rfl h36 (aB.app F))) (aM (by kernel_rfl) (aM (by kernel_rfl) bV))))), ?_⟩
     refine gdo H1 fun h37 H1 => ?_
     refine w_o rfl (fun F => (bY dX ty183 rfl rfl h37 (aB.app F))) (cM rfl rfl cQ rfl (n_setT (l := (Q5.1.set ((v3 + Q5.2).toNat) (nth Q5.1 ((v3 + (((2 * Q5.2) + 1) + 1)).toNat)))) (α := PostH) (oa := x_v0.1) ((v3 + (((2 * Q5.2) + 1) + 1)).toNat) (nth Q5.1 ((v3 + Q5.2).toNat)) (((), ()), ()) ty183 rfl rfl rfl h37.lt (cZ _) (.cons aA .nil)) ?_)
     rintro _ _ _ ⟨rfl, rfl, rfl⟩
     refine ⟨(aM (by kernel_rfl) (aM (by kernel_rfl) (aM (by kernel_rfl) (aM (by kernel_rfl) (aM (by kernel_rfl) (aM (by kernel_rfl) bV)))))), ?_⟩
     exact cN (nT (dA aB fun hn38 => (aP (aF rfl (aH rfl (aJ (nB (nLI () (hi9 _ (sm H1)) (.cons aA .nil) ))))))))
   ·refine bI (nT (aD (aD (dI [(11, .int .i64 ((2 * Q5.2) + 1)), (0, .slice x_v0.1 v0.length x_v0.2), (2, .int .i64 (v2)), (3, .int .i64 (v3)), (4, .func (.func 165) #[] #[]), (10, .int .i64 (Q5.2))] mixed (.inr (by kernel_rfl)) ⟨rfl, rfl, rfl, rfl, rfl, rfl, trivial⟩ rfl (bC rfl (bC rfl (bC rfl (bC rfl (gdo H1 fun h39 H1 => (aY (bS rfl rfl h39) ?_))))))))))
    refine gdo H1 fun h40 H1 => (bA (bY dX ty183 rfl rfl h40 aB) (bA (v := .agg #[.string (((nth Q5.1 ((v3 + Q5.2).toNat)).1).1), .string (((nth Q5.1 ((v3 + Q5.2).toNat)).1).2), ((nth Q5.1 ((v3 + Q5.2).toNat)).2).1]) (cB (i := (v3 + Q5.2).toNat) ty183 rfl (aN (bM aB)) h40.lt) (bC rfl (bC rfl (bC rfl (gdo H1 fun h41 H1 => (aY (bS rfl rfl h41) (gdo H1 fun h42 H1 => (bA (bY dX ty183 rfl rfl h42 aB) ?_)))))))))
    refine bA (v := .agg #[.string (((nth Q5.1 ((v3 + ((2 * Q5.2) + 1)).toNat)).1).1), .string (((nth Q5.1 ((v3 + ((2 * Q5.2) + 1)).toNat)).1).2), ((nth Q5.1 ((v3 + ((2 * Q5.2) + 1)).toNat)).2).1]) (cB (i := (v3 + ((2 * Q5.2) + 1)).toNat) ty183 rfl (aN (bM aB)) h42.lt) (bdo H1 fun r43 h44 H1 => (bA (v := .int .i64 (r43)) (Ex.dyn (caps := []) (vs := [.agg #[.string (((nth Q5.1 ((v3 + Q5.2).toNat)).1).1), .string (((nth Q5.1 ((v3 + Q5.2).toNat)).1).2), ((nth Q5.1 ((v3 + Q5.2).toNat)).2).1], .agg #[.string (((nth Q5.1 ((v3 + ((2 * Q5.2) + 1)).toNat)).1).1), .string (((nth Q5.1 ((v3 + ((2 * Q5.2) + 1)).toNat)).1).2), ((nth Q5.1 ((v3 + ((2 * Q5.2) + 1)).toNat)).2).1]]) rfl rfl (bO (c_impl_indexOf_2 (nth Q5.1 ((v3 + Q5.2).toNat)) (nth Q5.1 ((v3 + ((2 * Q5.2) + 1)).toNat)) h44) rfl aO)) (aY (cS rfl rfl) (aY (cY rfl) (nT (cH H1 rfl (fun h45 H1 => ?_) (fun h45 H1 => ?_)))))))
    ·refine bR (rT (rB (rT (rB (rT (?_))))))
     obtain rfl := hb10 _ (sm H1)
     replace H := sw.r H
     obtain rfl := si H
     exact back0 () rfl  rfl cP (.cons aA .nil)
    ·refine bI (nT (aD (dJ [(11, .int .i64 ((2 * Q5.2) + 1)), (0, .slice x_v0.1 v0.length x_v0.2), (2, .int .i64 (v2)), (3, .int .i64 (v3)), (4, .func (.func 165) #[] #[]), (10, .int .i64 (Q5.2))] 1 [0, 1, 2, 3, 4, 5, 6, 7, 8, 9, 10, 11, 12, 13, 14, 15, 16, 17, 18, 19, 20, 21, 22, 23] [21, 23] [] mixed (by kernel_rfl) (by decide) dL ⟨rfl, rfl, rfl, rfl, rfl, rfl, trivial⟩ rfl okNil (w_p rfl (aE rfl) (w_p rfl (aE rfl) (w_p rfl (aE rfl) (w_p rfl (bS rfl rfl h39) (w_p rfl (aE rfl) (w_p rfl (aE rfl) (w_p rfl (aE rfl) ?_))))))))))
     refine w_p rfl (bS rfl rfl h41) (w_p rfl (aE rfl) (w_p rfl (aE rfl) (w_p rfl (aE rfl) (w_p rfl (bS rfl rfl h41) ?_))))
     refine w_o rfl (fun F => (bY dX ty183 rfl rfl h42 (aB.app F))) ?_
     refine w_o (v := .agg #[.string (((nth Q5.1 ((v3 + ((2 * Q5.2) + 1)).toNat)).1).1), .string (((nth Q5.1 ((v3 + ((2 * Q5.2) + 1)).toNat)).1).2), ((nth Q5.1 ((v3 + ((2 * Q5.2) + 1)).toNat)).2).1]) rfl (fun F => (cB (i := (v3 + ((2 * Q5.2) + 1)).toNat) ty183 rfl (aN (bM (aB.app F))) h42.lt)) (w_p rfl (aE rfl) (w_p rfl (aE rfl) (w_p rfl (aE rfl) (w_p rfl (bS rfl rfl h39) ?_))))
     refine w_o rfl (fun F => (bY dX ty183 rfl rfl h40 (aB.app F))) ?_
     refine w_o (v := .agg #[.string (((nth Q5.1 ((v3 + Q5.2).toNat)).1).1), .string (((nth Q5.1 ((v3 + Q5.2).toNat)).1).2), ((nth Q5.1 ((v3 + Q5.2).toNat)).2).1]) rfl (fun F => (cB (i := (v3 + Q5.2).toNat) ty183 rfl (aN (bM (aB.app F))) h40.lt)) ?_
     refine w_o rfl (fun F => (bY dX ty183 rfl rfl h40 (aB.app F))) (cM rfl rfl cQ rfl (n_setT (l := Q5.1) (α := PostH) (oa := x_v0.1) ((v3 + Q5.2).toNat) (nth Q5.1 ((v3 + ((2 * Q5.2) + 1)).toNat)) (((), ()), ()) ty183 rfl rfl rfl h40.lt (cZ _) (.cons aA .nil)) ?_)
     rintro _ _ _ ⟨rfl, rfl, rfl⟩
     refine gdo H1 fun h46 H1 => ?_
     refine ⟨(aM (by kernel_rfl) (aM (by kernel_rfl) (bW rfl rfl (fun F => (bY dX ty183 rfl rfl h46 (aB.app F))) (aM (by kernel_rfl) (aM (by kernel_rfl) bV))))), ?_⟩
     refine gdo H1 fun h47 H1 => ?_
     refine w_o rfl (fun F => (bY dX ty183 rfl rfl h47 (aB.app F))) (cM rfl rfl cQ rfl (n_setT (l := (Q5.1.set ((v3 + Q5.2).toNat) (nth Q5.1 ((v3 + ((2 * Q5.2) + 1)).toNat)))) (α := PostH) (oa := x_v0.1) ((v3 + ((2 * Q5.2) + 1)).toNat) (nth Q5.1 ((v3 + Q5.2).toNat)) (((), ()), ()) ty183 rfl rfl rfl h47.lt (cZ _) (.cons aA .nil)) ?_)
     rintro _ _ _ ⟨rfl, rfl, rfl⟩
     refine ⟨(aM (by kernel_rfl) (aM (by kernel_rfl) (aM (by kernel_rfl) (aM (by kernel_rfl) (aM (by kernel_rfl) (aM (by kernel_rfl) bV)))))), ?_⟩
     exact cN (nT (dA aB fun hn48 => (aP (aF rfl (aH rfl (aJ (nB (nLI () (hi9 _ (sm H1)) (.cons aA .nil) ))))))))
 ·rintro e49 y7 H
  obtain rfl := si H
  exact back0n () rfl  rfl cP (.cons aA .nil)
noncomputable def p_heapSortH_b0 (v1 : Int) (v2 : Int) (Q8 : (List PostH) × Int) : Option (((List PostH) × Int) ⊕ ((List PostH))) := cond (decide (0 ≤ Q8.2)) (bd (p_siftDownH Q8.1 Q8.2 (v2 - v1) v1) fun r18 => gd (I64 (Q8.2 - 1)) <| some (.inl (r18, Q8.2 - 1))) (some (.inr Q8.1))
noncomputable def p_heapSortH_b1 (v1 : Int) (Q28 : (List PostH) × Int) : Option (((List PostH) × Int) ⊕ ((List PostH))) := cond (decide (0 ≤ Q28.2)) (gd (I64 (v1 + Q28.2)) <| gd (ix (v1 + Q28.2) Q28.1.length) <| gd (ix v1 Q28.1.length) <| gd (ix v1 (Q28.1.set v1.toNat (nth Q28.1 ((v1 + Q28.2).toNat))).length) <| gd (ix (v1 + Q28.2) (Q28.1.set v1.toNat (nth Q28.1 ((v1 + Q28.2).toNat))).length) <| bd (p_siftDownH ((Q28.1.set v1.toNat (nth Q28.1 ((v1 + Q28.2).toNat))).set ((v1 + Q28.2).toNat) (nth Q28.1 v1.toNat)) 0 Q28.2 v1) fun r44 => gd (I64 (Q28.2 - 1)) <| some (.inl (r44, Q28.2 - 1))) (some (.inr Q28.1))
noncomputable def p_heapSortH (v0 : (List PostH)) (v1 : Int) (v2 : Int) : Option ((List PostH)) := gd (I64 (v2 - v1)) <| gd (I64 ((v2 - v1) - 1)) <| gd (I64 (((v2 - v1) - 1).tdiv 2)) <| bd (lp (p_heapSortH_b0 v1 v2) (v0, ((v2 - v1) - 1).tdiv 2)) fun x4 => bd (lp (p_heapSortH_b1 v1) (x4, (v2 - v1) - 1)) fun x24 => some x24
theorem c_heapSortH {r : (List PostH)} (v0 : (List PostH)) (x_v0 : Option Addr × Nat) (n_v0 : Nat) (e_v0 : n_v0 = v0.length) (v1 : Int) (v2 : Int) (H : p_heapSortH v0 v1 v2 = some r) : Fn' prog 202 #[.slice x_v0.1 n_v0 x_v0.2, .int .i64 (v1), .int .i64 (v2), .func (.func 165) #[] #[]] [] [tree (.slice x_v0.1 n_v0 x_v0.2) v0] (ι := Unit) (fun _ => .tuple #[]) (fun _ => []) (fun _ => [tree (.slice x_v0.1 n_v0 x_v0.2) r]) := by
 subst e_v0
 refine cof (args := [_, _, _, _]) func202 ntmps202 fun c => ?_
 unfold p_heapSortH at H
 refine sr (aF rfl (aH rfl (nl (sr (aH (v := .int .i64 (0)) rfl (nl (sr (aF rfl (aF rfl (gdo H fun h1 H => (aG (cT rfl rfl h1) ?_)))))))))))
 refine aH rfl (nl (aD (sr (aF rfl (gdo H fun h2 H => (aG (cT rfl rfl h2) (gdo H fun h3 H => (aG (p_quo rfl rfl (by decide) h3) (aH rfl (nl (bdo H fun x4 hx5 H => (dE (ι := Unit) (fun ψ => [(0, .slice x_v0.1 v0.length x_v0.2), (3, .func (.func 165) #[] #[]), (8, .int .i64 (v1)), (9, .int .i64 (0)), (10, .int .i64 (v2 - v1))]) (fun ψ => [tree (.slice x_v0.1 v0.length x_v0.2) x4]) ?_ ?_))))))))))))
 ·refine aQ (dH hx5 () (fun Q8 _ => [(0, .slice x_v0.1 v0.length x_v0.2), (3, .func (.func 165) #[] #[]), (8, .int .i64 (v1)), (9, .int .i64 (0)), (10, .int .i64 (v2 - v1)), (11, .int .i64 (Q8.2))]) (fun Q8 _ => [tree (.slice x_v0.1 v0.length x_v0.2) Q8.1]) (.cons aA .nil) ?_)
  rintro _ Q8 z9 t11 H1 hi12 hb13
  unfold p_heapSortH_b0 at H1
  refine aD (aD (dA aB fun hn16 => (aP (aF rfl (aG (p_geq rfl rfl) (nl (cH H1 rfl (fun h17 H1 => ?_) (fun h17 H1 => ?_))))))))
  ·refine bI (nT (aD (aQ (aP (aF rfl (aF rfl (aF rfl (aF rfl (aF rfl (bdo H1 fun r18 h19 H1 => ?_))))))))))
   exact f1 (cJ (c_siftDownH Q8.1 x_v0 v0.length hn16 Q8.2 (v2 - v1) v1 h19) (bG bH) (fun _ => (bG bH)) rfl (.cons aA .nil) aO) fun u20 => (aJ (nB (nT (dA aB fun hn21 => (aP (aF rfl (gdo H1 fun h22 H1 => (aG (cT rfl rfl h22) (aH rfl (aJ (nLI () (hi12 _ (sm H1)) (.cons aA .nil))))))))))))
  ·refine dD (xT (xT (xE (?_))))
   obtain rfl := hb13 _ (sm H1)
   exact nMC () ⟨rfl, rfl, rfl, rfl, rfl, trivial⟩ bU (.cons aA .nil)
 ·intro y10
  show At _ _ [(0, .slice x_v0.1 v0.length x_v0.2), (3, .func (.func 165) #[] #[]), (8, .int .i64 (v1)), (9, .int .i64 (0)), (10, .int .i64 (v2 - v1))] _ [tree (.slice x_v0.1 v0.length x_v0.2) x4] _
  refine nT (aD (dA aB fun hn23 => (aP (aF rfl (aG (cT rfl rfl h2) (aH rfl (nl (bdo H fun x24 hx25 H => (dE (ι := Unit) (fun ψ => []) (fun ψ => [tree (.slice x_v0.1 v0.length x_v0.2) x24]) ?_ ?_)))))))))
  ·refine aQ (dH hx25 () (fun Q28 _ => [(0, .slice x_v0.1 v0.length x_v0.2), (3, .func (.func 165) #[] #[]), (8, .int .i64 (v1)), (9, .int .i64 (0)), (12, .int .i64 (Q28.2))]) (fun Q28 _ => [tree (.slice x_v0.1 v0.length x_v0.2) Q28.1]) (.cons aA .nil) ?_)
   rintro _ Q28 z29 t31 H1 hi32 hb33
   unfold p_heapSortH_b1 at H1
   refine aD (aD (dA aB fun hn36 => (aP (aF rfl (aG (p_geq rfl rfl) (nl (cH H1 rfl (fun h37 H1 => ?_) (fun h37 H1 => ?_))))))))
   ·refine bI (nT (aD (aQ (aD (dJ [(0, .slice x_v0.1 v0.length x_v0.2), (3, .func (.func 165) #[] #[]), (8, .int .i64 (v1)), (9, .int .i64 (0)), (12, .int .i64 (Q28.2))] 1 [0, 1, 2, 3, 4, 5, 6, 7, 8, 9, 10, 11, 12, 13, 14, 15, 16, 17, 18, 19] [17, 19] [] mixed (by kernel_rfl) (by decide) dL ⟨rfl, rfl, rfl, rfl, rfl, trivial⟩ rfl okNil (w_p rfl (aE rfl) (w_p rfl (aE rfl) (w_p rfl (aE rfl) (w_p rfl (aE rfl) (w_p rfl (aE rfl) ?_))))))))))
    refine gdo H1 fun h38 H1 => (w_p rfl (bS rfl rfl h38) (w_p rfl (aE rfl) (w_p rfl (aE rfl) (w_p rfl (aE rfl) (w_p rfl (bS rfl rfl h38) (gdo H1 fun h39 H1 => ?_))))))
    refine w_o rfl (fun F => (bY dX ty183 rfl rfl h39 (aB.app F))) ?_
    refine w_o (v := .agg #[.string (((nth Q28.1 ((v1 + Q28.2).toNat)).1).1), .string (((nth Q28.1 ((v1 + Q28.2).toNat)).1).2), ((nth Q28.1 ((v1 + Q28.2).toNat)).2).1]) rfl (fun F => (cB (i := (v1 + Q28.2).toNat) ty183 rfl (aN (bM (aB.app F))) h39.lt)) (w_p rfl (aE rfl) (w_p rfl (aE rfl) (gdo H1 fun h40 H1 => ?_)))
    refine w_o rfl (fun F => (bY dX ty183 rfl rfl h40 (aB.app F))) ?_
    refine w_o (v := .agg #[.string (((nth Q28.1 v1.toNat).1).1), .string (((nth Q28.1 v1.toNat).1).2), ((nth Q28.1 v1.toNat).2).1]) rfl (fun F => (cB (i := v1.toNat) ty183 rfl (aN (bM (aB.app F))) h40.lt)) ?_
    refine w_o rfl (fun F => (bY dX ty183 rfl rfl h40 (aB.app F))) (cM rfl rfl cQ rfl (n_setT (l := Q28.1) (α := PostH) (oa := x_v0.1) v1.toNat (nth Q28.1 ((v1 + Q28.2).toNat)) (((), ()), ()) ty183 rfl rfl rfl h40.lt (cZ _) (.cons aA .nil)) ?_)
    rintro _ _ _ ⟨rfl, rfl, rfl⟩
    refine gdo H1 fun h41 H1 => ?_
    refine ⟨(aM (by kernel_rfl) (aM (by kernel_rfl) (bW rfl rfl (fun F => (bY dX ty183 rfl rfl h41 (aB.app F))) (aM (by kernel_rfl) (aM (by kernel_rfl) bV))))), ?_⟩
    refine gdo H1 fun h42 H1 => ?_
    refine w_o rfl (fun F => (bY dX ty183 rfl rfl h42 (aB.app F))) (cM rfl rfl cQ rfl (n_setT (l := (Q28.1.set v1.toNat (nth Q28.1 ((v1 + Q28.2).toNat)))) (α := PostH) (oa := x_v0.1) ((v1 + Q28.2).toNat) (nth Q28.1 v1.toNat) (((), ()), ()) ty183 rfl rfl rfl h42.lt (cZ _) (.cons aA .nil)) ?_)
    rintro _ _ _ ⟨rfl, rfl, rfl⟩
    refine ⟨(aM (by kernel_rfl) (aM (by kernel_rfl) (aM (by kernel_rfl) (aM (by kernel_rfl) (aM (by kernel_rfl) (aM (by kernel_rfl) bV)))))), ?_⟩
    refine cN (nT (dA aB fun hn43 => (aP (aF rfl (aF (v := .int .i64 (0)) rfl (aF rfl (aF rfl (aF rfl (bdo H1 fun r44 h45 H1 => ?_)))))))))
    exact f1 (cJ (c_siftDownH ((Q28.1.set v1.toNat (nth Q28.1 ((v1 + Q28.2).toNat))).set ((v1 + Q28.2).toNat) (nth Q28.1 v1.toNat)) x_v0 v0.length hn43 0 Q28.2 v1 h45) (bG bH) (fun _ => (bG bH)) rfl (.cons aA .nil) aO) fun u46 => (aJ (nB (nT (dA aB fun hn47 => (aP (aF rfl (gdo H1 fun h48 H1 => (aG (cT rfl rfl h48) (aH rfl (aJ (nLI () (hi32 _ (sm H1)) (.cons aA .nil))))))))))))
   ·refine dD (xT (xT (xE (?_))))
    obtain rfl := hb33 _ (sm H1)
    exact nMC () trivial bU (.cons aA .nil)
  ·intro y30
   show At _ _ [] _ [tree (.slice x_v0.1 v0.length x_v0.2) x24] _
   obtain rfl := si H
   exact back0n () rfl  rfl cP (.cons aA .nil)
noncomputable def p_order2H (v0 : (List PostH)) (v1 : Int) (v2 : Int) (v3 : Int) : Option (Int × Int × Int) := gd (ix v2 v0.length) <| gd (ix v1 v0.length) <| bd (p_impl_indexOf_2 (nth v0 v2.toNat) (nth v0 v1.toNat)) fun r3 => cond (decide (r3 < 0)) (gd (I64 (v3 + 1)) <| some (v2, v1, v3 + 1)) (some (v1, v2, v3))
theorem c_order2H {r : Int × Int × Int} (v0 : (List PostH)) (x_v0 : Option Addr × Nat) (v1 : Int) (v2 : Int) (g_v3 : Nat) (v3 : Int) (H : p_order2H v0 v1 v2 v3 = some r) : Fn' prog 218 #[.slice x_v0.1 v0.length x_v0.2, .int .i64 (v1), .int .i64 (v2), .pointer (some ⟨g_v3, 0, none⟩), .func (.func 165) #[] #[]] [imm (.slice x_v0.1 v0.length x_v0.2) v0] [box g_v3 3 [.int .i64 (v3)]] (ι := Unit) (fun _ => .tuple #[.int .i64 (r.1), .int .i64 (r.2.1)]) (fun _ => []) (fun _ => [box g_v3 3 [.int .i64 (r.2.2)]]) := by
 refine cof (args := [_, _, _, _, _]) func218 ntmps218 fun c => ?_
 unfold p_order2H at H
 refine sr (aH (v := .int .i64 (0)) rfl (aH (v := .int .i64 (0)) rfl (nl (aD (aD (dI [(0, .slice x_v0.1 v0.length x_v0.2), (1, .int .i64 (v1)), (2, .int .i64 (v2)), (3, .pointer (some ⟨g_v3, 0, none⟩)), (4, .func (.func 165) #[] #[])] mixed (.inr (by kernel_rfl)) ⟨rfl, rfl, rfl, rfl, rfl, trivial⟩ rfl (bC rfl (bC rfl (bC rfl (gdo H fun h1 H => ?_))))))))))
 refine bA (bX dX ty183 rfl rfl h1 rfl (aN (aL aS))) (bA (v := .agg #[.string (((nth v0 v2.toNat).1).1), .string (((nth v0 v2.toNat).1).2), ((nth v0 v2.toNat).2).1]) (cB (i := v2.toNat) ty183 rfl (aN (aL aS)) h1.lt) (bC rfl (bC rfl (gdo H fun h2 H => (bA (bX dX ty183 rfl rfl h2 rfl (aN (aL aS))) (bA (v := .agg #[.string (((nth v0 v1.toNat).1).1), .string (((nth v0 v1.toNat).1).2), ((nth v0 v1.toNat).2).1]) (cB (i := v1.toNat) ty183 rfl (aN (aL aS)) h2.lt) (bdo H fun r3 h4 H => (bA (v := .int .i64 (r3)) (Ex.dyn (caps := []) (vs := [.agg #[.string (((nth v0 v2.toNat).1).1), .string (((nth v0 v2.toNat).1).2), ((nth v0 v2.toNat).2).1], .agg #[.string (((nth v0 v1.toNat).1).1), .string (((nth v0 v1.toNat).1).2), ((nth v0 v1.toNat).2).1]]) rfl rfl (bO (c_impl_indexOf_2 (nth v0 v2.toNat) (nth v0 v1.toNat) h4) rfl aO)) (aY (cS rfl rfl) ?_)))))))))
 refine nT (cH H rfl (fun h5 H => ?_) (fun h5 H => ?_))
 ·refine sr (aF rfl (aG (p_nil rfl) (aI (bJ ty3 rfl aB rfl) (gdo H fun h6 H => (aG (bS rfl rfl h6) (aG (p_nil rfl) (stb (cs' := [.int .i64 (v3 + 1)]) ty3 dB (nl (sr ?_)))))))))
  refine aF rfl (aF rfl (aH rfl (aH rfl (nl (bR (rT (?_)))))))
  obtain rfl := si H
  exact back2 () rfl (ResV.tmp (v := .int .i64 (v2)) rfl) (ResV.tmp (v := .int .i64 (v1)) rfl) rfl cP (.cons aA .nil)
 ·refine bI (nT (sr (aF rfl (aF rfl (aH rfl (aH rfl (nl (bR ?_))))))))
  obtain rfl := si H
  exact back2 () rfl (ResV.tmp (v := .int .i64 (v1)) rfl) (ResV.tmp (v := .int .i64 (v2)) rfl) rfl cP (.cons aA .nil)
noncomputable def p_medianH (v0 : (List PostH)) (v1 : Int) (v2 : Int) (v3 : Int) (v4 : Int) : Option (Int × Int) := bd (p_order2H v0 v1 v2 v4) fun r1 => bd (p_order2H v0 r1.2.1 v3 r1.2.2) fun r4 => bd (p_order2H v0 r1.1 r4.1 r4.2.2) fun r7 => some (r7.2.1, r7.2.2)
theorem c_medianH {r : Int × Int} (v0 : (List PostH)) (x_v0 : Option Addr × Nat) (v1 : Int) (v2 : Int) (v3 : Int) (g_v4 : Nat) (v4 : Int) (H : p_medianH v0 v1 v2 v3 v4 = some r) : Fn' prog 216 #[.slice x_v0.1 v0.length x_v0.2, .int .i64 (v1), .int .i64 (v2), .int .i64 (v3), .pointer (some ⟨g_v4, 0, none⟩), .func (.func 165) #[] #[]] [imm (.slice x_v0.1 v0.length x_v0.2) v0] [box g_v4 3 [.int .i64 (v4)]] (ι := Unit) (fun _ => .int .i64 (r.1)) (fun _ => []) (fun _ => [box g_v4 3 [.int .i64 (r.2)]]) := by
 refine cof (args := [_, _, _, _, _, _]) func216 ntmps216 fun c => ?_
 unfold p_medianH at H
 refine sr (aH (v := .int .i64 (0)) rfl (nl (sr (aF rfl (aF rfl (aF rfl (aF rfl (aF rfl (bdo H fun r1 h2 H => (f1 (cJ (c_order2H v0 x_v0 v1 v2 g_v4 v4 h2) (Solo.box bH) (fun _ => (Solo.box bH)) rfl (.cons aA .nil) (aC (aL aS) aO)) fun u3 => ?_))))))))))
 refine aF rfl (aG (dC rfl rfl) (aG (dC rfl rfl) (aH rfl (aH rfl (nl (sr (aF rfl (aF rfl (aF rfl (aF rfl ?_))))))))))
 refine aF rfl (bdo H fun r4 h5 H => (f1 (cJ (c_order2H v0 x_v0 r1.2.1 v3 g_v4 r1.2.2 h5) (Solo.box bH) (fun _ => (Solo.box bH)) rfl (.cons aA .nil) (aC (aL aS) aO)) fun u6 => (aF rfl (aG (dC rfl rfl) (aG (dC rfl rfl) (aH rfl (aH rfl (nl (sr (aF rfl ?_))))))))))
 refine aF rfl (aF rfl (aF rfl (aF rfl (bdo H fun r7 h8 H => (f1 (cJ (c_order2H v0 x_v0 r1.1 r4.1 g_v4 r4.2.2 h8) (Solo.box bH) (fun _ => (Solo.box bH)) rfl (.cons aA .nil) (aC (aL aS) aO)) fun u9 => (aF rfl (aG (dC rfl rfl) (aG (dC rfl rfl) (aH rfl ?_)))))))))
 refine aH rfl (nl (sr (aF rfl (aH rfl (nl ?_)))))
 obtain rfl := si H
 exact bR (bk (.cons aA .nil))
noncomputable def p_medianAdjacentH (v0 : (List PostH)) (v1 : Int) (v2 : Int) : Option (Int × Int) := gd (I64 (v1 - 1)) <| gd (I64 (v1 + 1)) <| bd (p_medianH v0 (v1 - 1) v1 (v1 + 1) v2) fun r3 => some (r3.1, r3.2)
theorem c_medianAdjacentH {r : Int × Int} (v0 : (List PostH)) (x_v0 : Option Addr × Nat) (v1 : Int) (g_v2 : Nat) (v2 : Int) (H : p_medianAdjacentH v0 v1 v2 = some r) : Fn' prog 215 #[.slice x_v0.1 v0.length x_v0.2, .int .i64 (v1), .pointer (some ⟨g_v2, 0, none⟩), .func (.func 165) #[] #[]] [imm (.slice x_v0.1 v0.length x_v0.2) v0] [box g_v2 3 [.int .i64 (v2)]] (ι := Unit) (fun _ => .int .i64 (r.1)) (fun _ => []) (fun _ => [box g_v2 3 [.int .i64 (r.2)]]) := by
 refine cof (args := [_, _, _, _]) func215 ntmps215 fun c => ?_
 unfold p_medianAdjacentH at H
 refine sr (aH (v := .int .i64 (0)) rfl (nl (sr (aF rfl (aF rfl (gdo H fun h1 H => (aG (cT rfl rfl h1) (aF rfl (aF rfl (gdo H fun h2 H => ?_))))))))))
 refine aG (bS rfl rfl h2) (aF rfl (aF rfl (bdo H fun r3 h4 H => (f1 (cJ (c_medianH v0 x_v0 (v1 - 1) v1 (v1 + 1) g_v2 v2 h4) (Solo.box bH) (fun _ => (Solo.box bH)) rfl (.cons aA .nil) (aC (aL aS) aO)) fun u5 => (aH rfl (nl ?_))))))
 obtain rfl := si H
 exact bR (bk (.cons aA .nil))
noncomputable def p_choosePivotH (v0 : (List PostH)) (v1 : Int) (v2 : Int) : Option (Int × Int) := gd (I64 (v2 - v1)) <| gd (I64 ((v2 - v1).tdiv 4)) <| gd (I64 (((v2 - v1).tdiv 4) * 1)) <| gd (I64 (v1 + (((v2 - v1).tdiv 4) * 1))) <| gd (I64 (((v2 - v1).tdiv 4) * 2)) <| gd (I64 (v1 + (((v2 - v1).tdiv 4) * 2))) <| gd (I64 (((v2 - v1).tdiv 4) * 3)) <| gd (I64 (v1 + (((v2 - v1).tdiv 4) * 3))) <| bd (cond (decide (8 ≤ (v2 - v1))) (bd (cond (decide (50 ≤ (v2 - v1))) (bd (p_medianAdjacentH v0 (v1 + (((v2 - v1).tdiv 4) * 1)) 0) fun r18 => bd (p_medianAdjacentH v0 (v1 + (((v2 - v1).tdiv 4) * 2)) r18.2) fun r21 => bd (p_medianAdjacentH v0 (v1 + (((v2 - v1).tdiv 4) * 3)) r21.2) fun r24 => some (r24.2, r18.1, r21.1, r24.1)) (some (0, v1 + (((v2 - v1).tdiv 4) * 1), v1 + (((v2 - v1).tdiv 4) * 2), v1 + (((v2 - v1).tdiv 4) * 3)))) fun x15 => bd (p_medianH v0 x15.2.1 x15.2.2.1 x15.2.2.2 x15.1) fun r27 => some (r27.2, r27.1)) (some (0, v1 + (((v2 - v1).tdiv 4) * 2)))) fun x11 => cond (decide (x11.1 = 0)) (some (x11.2, 1)) (cond (decide (x11.1 = 12)) (some (x11.2, 2)) (some (x11.2, 0)))
theorem c_choosePivotH {r : Int × Int} (v0 : (List PostH)) (x_v0 : Option Addr × Nat) (n_v0 : Nat) (e_v0 : n_v0 = v0.length) (v1 : Int) (v2 : Int) (H : p_choosePivotH v0 v1 v2 = some r) : Fn' prog 204 #[.slice x_v0.1 n_v0 x_v0.2, .int .i64 (v1), .int .i64 (v2), .func (.func 165) #[] #[]] [imm (.slice x_v0.1 n_v0 x_v0.2) v0] [] (ι := Unit) (fun _ => .tuple #[.int .i64 (r.1), .int .i64 (r.2)]) (fun _ => []) (fun _ => []) := by
 subst e_v0
 refine cof (args := [_, _, _, _]) func204 ntmps204 fun c => ?_
 unfold p_choosePivotH at H
 refine sr (aH (v := .int .i64 (0)) rfl (aH (v := .int .i64 (0)) rfl (nl (sr (aF rfl (aF rfl (gdo H fun h1 H => (aG (cT rfl rfl h1) (aH rfl (nl (sr ?_)))))))))))
 refine f1 (cE ty3) fun g2 => (nl (sr (aF rfl (aF rfl (gdo H fun h3 H => (aG (p_quo rfl rfl (by decide) h3) (gdo H fun h4 H => (aG (p_mul rfl rfl h4) (gdo H fun h5 H => ?_)))))))))
 refine aG (bS rfl rfl h5) (aH rfl (nl (sr (aF rfl (aF rfl (aG (p_quo rfl rfl (by decide) h3) (gdo H fun h6 H => (aG (p_mul rfl rfl h6) (gdo H fun h7 H => (aG (bS rfl rfl h7) ?_))))))))))
 refine aH rfl (nl (sr (aF rfl (aF rfl (aG (p_quo rfl rfl (by decide) h3) (gdo H fun h8 H => (aG (p_mul rfl rfl h8) (gdo H fun h9 H => (aG (bS rfl rfl h9) (aH rfl (nl ?_)))))))))))
 refine aD (sr (aF rfl (aG (p_geq rfl rfl) (nl (bdo H fun x11 hx12 H => (tMidC0 (ι := Unit) (fun ψ => [(11, .pointer (some ⟨g2, 0, none⟩)), (13, .int .i64 (x11.2))]) (fun ψ => [box g2 3 [.int .i64 (x11.1)]]) ?_ ?_))))))
 ·refine aR (b := decide (8 ≤ (v2 - v1))) rfl (fun h10 => ?_) (fun h10 => ?_)
  ·replace hx12 := cdT h10 hx12
   refine aD (sr (aF rfl (aG (p_geq rfl rfl) (nl (bdo hx12 fun x15 hx16 hx12 => (tMidC0 (ι := Unit) (fun ψ => [(0, .slice x_v0.1 v0.length x_v0.2), (3, .func (.func 165) #[] #[]), (11, .pointer (some ⟨g2, 0, none⟩)), (12, .int .i64 (x15.2.1)), (13, .int .i64 (x15.2.2.1)), (14, .int .i64 (x15.2.2.2))]) (fun ψ => [box g2 3 [.int .i64 (x15.1)]]) ?_ ?_))))))
   ·refine aR (b := decide (50 ≤ (v2 - v1))) rfl (fun h14 => ?_) (fun h14 => ?_)
    ·replace hx16 := cdT h14 hx16
     refine sr (aF rfl (aF rfl (aF rfl (bdo hx16 fun r18 h19 hx16 => (f1 (cJ (c_medianAdjacentH v0 x_v0 (v1 + (((v2 - v1).tdiv 4) * 1)) g2 0 h19) (Solo.box bH) (fun _ => (Solo.box bH)) rfl (.cons aA .nil) (aC (aL aS) aO)) fun u20 => (aH rfl (nl (sr (aF rfl (aF rfl ?_))))))))))
     refine aF rfl (bdo hx16 fun r21 h22 hx16 => (f1 (cJ (c_medianAdjacentH v0 x_v0 (v1 + (((v2 - v1).tdiv 4) * 2)) g2 r18.2 h22) (Solo.box bH) (fun _ => (Solo.box bH)) rfl (.cons aA .nil) (aC (aL aS) aO)) fun u23 => (aH rfl (nl (aP (aF rfl (aF rfl (aF rfl (bdo hx16 fun r24 h25 hx16 => (f1 (cJ (c_medianAdjacentH v0 x_v0 (v1 + (((v2 - v1).tdiv 4) * 3)) g2 r21.2 h25) (Solo.box bH) (fun _ => (Solo.box bH)) rfl (.cons aA .nil) (aC (aL aS) aO)) fun u26 => ?_))))))))))
     refine aH rfl (aJ ?_)
     replace hx16 := Option.some.inj hx16; subst hx16
     exact nMC () ⟨rfl, rfl, rfl, rfl, rfl, rfl, trivial⟩ bU (.cons aA .nil)
    ·replace hx16 := cdF h14 hx16
     refine bI ?_
     replace hx16 := Option.some.inj hx16; subst hx16
     exact nMC () ⟨rfl, rfl, rfl, rfl, rfl, rfl, trivial⟩ bU (.cons aA .nil)
   ·intro y17
    show Tr _ _ _ _ _ [(0, .slice x_v0.1 v0.length x_v0.2), (3, .func (.func 165) #[] #[]), (11, .pointer (some ⟨g2, 0, none⟩)), (12, .int .i64 (x15.2.1)), (13, .int .i64 (x15.2.2.1)), (14, .int .i64 (x15.2.2.2))] _ [box g2 3 [.int .i64 (x15.1)]]
    refine aP (aF rfl (aF rfl (aF rfl (aF rfl (aF rfl (bdo hx12 fun r27 h28 hx12 => (f1 (cJ (c_medianH v0 x_v0 x15.2.1 x15.2.2.1 x15.2.2.2 g2 x15.1 h28) (Solo.box bH) (fun _ => (Solo.box bH)) rfl (.cons aA .nil) (aC (aL aS) aO)) fun u29 => (aH rfl (aJ ?_)))))))))
    replace hx12 := Option.some.inj hx12; subst hx12
    exact nMC () ⟨rfl, rfl, trivial⟩ bU (.cons aA .nil)
  ·replace hx12 := cdF h10 hx12
   refine bI ?_
   replace hx12 := Option.some.inj hx12; subst hx12
   exact nMC () ⟨rfl, rfl, trivial⟩ bU (.cons aA .nil)
 ·intro y13
  show Tr _ _ _ _ _ [(11, .pointer (some ⟨g2, 0, none⟩)), (13, .int .i64 (x11.2))] _ [box g2 3 [.int .i64 (x11.1)]]
  refine sr (aI (bJ ty3 rfl aB rfl) (nl (aQ (sr (aG (cV rfl rfl) (aH rfl (nl (cH H rfl (fun h30 H => ?_) (fun h30 H => ?_)))))))))
  ·refine sr (aF rfl (aH rfl (aH (v := .int .i64 (1)) rfl (nl (bR (rB (?_)))))))
   obtain rfl := si H
   exact back2 () rfl (ResV.tmp (v := .int .i64 (x11.2)) rfl) (ResV.tmp (v := .int .i64 (1)) rfl) rfl cP bL
  ·refine sr (aG (cV rfl rfl) (aH rfl (nl (cH H rfl (fun h31 H => ?_) (fun h31 H => ?_)))))
   ·refine sr (aF rfl (aH rfl (aH (v := .int .i64 (2)) rfl (nl (bR (rB (?_)))))))
    obtain rfl := si H
    exact back2 () rfl (ResV.tmp (v := .int .i64 (x11.2)) rfl) (ResV.tmp (v := .int .i64 (2)) rfl) rfl cP bL
   ·refine sr (aF rfl (aH rfl (aH (v := .int .i64 (0)) rfl (nl (bR (rB (?_)))))))
    obtain rfl := si H
    exact back2 () rfl (ResV.tmp (v := .int .i64 (x11.2)) rfl) (ResV.tmp (v := .int .i64 (0)) rfl) rfl cP bL
noncomputable def p_reverseRangeH_b0 (Q6 : (List PostH) × Int × Int) : Option (((List PostH) × Int × Int) ⊕ ((List PostH))) := cond (decide (Q6.2.1 < Q6.2.2)) (gd (ix Q6.2.2 Q6.1.length) <| gd (ix Q6.2.1 Q6.1.length) <| gd (ix Q6.2.1 (Q6.1.set Q6.2.1.toNat (nth Q6.1 Q6.2.2.toNat)).length) <| gd (ix Q6.2.2 (Q6.1.set Q6.2.1.toNat (nth Q6.1 Q6.2.2.toNat)).length) <| gd (I64 (Q6.2.1 + 1)) <| gd (I64 (Q6.2.2 - 1)) <| some (.inl (((Q6.1.set Q6.2.1.toNat (nth Q6.1 Q6.2.2.toNat)).set Q6.2.2.toNat (nth Q6.1 Q6.2.1.toNat)), Q6.2.1 + 1, Q6.2.2 - 1))) (some (.inr Q6.1))
noncomputable def p_reverseRangeH (v0 : (List PostH)) (v1 : Int) (v2 : Int) : Option ((List PostH)) := gd (I64 (v2 - 1)) <| bd (lp (p_reverseRangeH_b0) (v0, v1, v2 - 1)) fun x2 => some x2
theorem c_reverseRangeH {r : (List PostH)} (v0 : (List PostH)) (x_v0 : Option Addr × Nat) (n_v0 : Nat) (e_v0 : n_v0 = v0.length) (v1 : Int) (v2 : Int) (H : p_reverseRangeH v0 v1 v2 = some r) : Fn' prog 205 #[.slice x_v0.1 n_v0 x_v0.2, .int .i64 (v1), .int .i64 (v2), .func (.func 165) #[] #[]] [] [tree (.slice x_v0.1 n_v0 x_v0.2) v0] (ι := Unit) (fun _ => .tuple #[]) (fun _ => []) (fun _ => [tree (.slice x_v0.1 n_v0 x_v0.2) r]) := by
 subst e_v0
 refine cof (args := [_, _, _, _]) func205 ntmps205 fun c => ?_
 unfold p_reverseRangeH at H
 refine sr (aF rfl (aH rfl (nl (sr (aF rfl (gdo H fun h1 H => (aG (cT rfl rfl h1) (aH rfl (nl (bdo H fun x2 hx3 H => (dE (ι := Unit) (fun ψ => []) (fun ψ => [tree (.slice x_v0.1 v0.length x_v0.2) x2]) ?_ ?_)))))))))))
 ·refine aQ (dH hx3 () (fun Q6 _ => [(0, .slice x_v0.1 v0.length x_v0.2), (8, .int .i64 (Q6.2.1)), (9, .int .i64 (Q6.2.2))]) (fun Q6 _ => [tree (.slice x_v0.1 v0.length x_v0.2) Q6.1]) (.cons aA .nil) ?_)
  rintro _ Q6 z7 t9 H1 hi10 hb11
  unfold p_reverseRangeH_b0 at H1
  refine aD (aD (dA aB fun hn14 => (aP (aF rfl (aF rfl (aG (cS rfl rfl) (nl (cH H1 rfl (fun h15 H1 => ?_) (fun h15 H1 => ?_)))))))))
  ·refine bI (nT (aQ (aD (dJ [(0, .slice x_v0.1 v0.length x_v0.2), (8, .int .i64 (Q6.2.1)), (9, .int .i64 (Q6.2.2))] 1 [0, 1, 2, 3, 4, 5, 6, 7, 8, 9, 10, 11, 12, 13, 14, 15] [13, 15] [] mixed (by kernel_rfl) (by decide) dL ⟨rfl, rfl, rfl, trivial⟩ rfl okNil (w_p rfl (aE rfl) (w_p rfl (aE rfl) (w_p rfl (aE rfl) (w_p rfl (aE rfl) (w_p rfl (aE rfl) ?_)))))))))
   refine w_p rfl (aE rfl) (gdo H1 fun h16 H1 => ?_)
   refine w_o rfl (fun F => (bY dX ty183 rfl rfl h16 (aB.app F))) ?_
   refine w_o (v := .agg #[.string (((nth Q6.1 Q6.2.2.toNat).1).1), .string (((nth Q6.1 Q6.2.2.toNat).1).2), ((nth Q6.1 Q6.2.2.toNat).2).1]) rfl (fun F => (cB (i := Q6.2.2.toNat) ty183 rfl (aN (bM (aB.app F))) h16.lt)) (w_p rfl (aE rfl) (w_p rfl (aE rfl) (gdo H1 fun h17 H1 => ?_)))
   refine w_o rfl (fun F => (bY dX ty183 rfl rfl h17 (aB.app F))) ?_
   refine w_o (v := .agg #[.string (((nth Q6.1 Q6.2.1.toNat).1).1), .string (((nth Q6.1 Q6.2.1.toNat).1).2), ((nth Q6.1 Q6.2.1.toNat).2).1]) rfl (fun F => (cB (i := Q6.2.1.toNat) ty183 rfl (aN (bM (aB.app F))) h17.lt)) ?_
   refine w_o rfl (fun F => (bY dX ty183 rfl rfl h17 (aB.app F))) (cM rfl rfl cQ rfl (n_setT (l := Q6.1) (α := PostH) (oa := x_v0.1) Q6.2.1.toNat (nth Q6.1 Q6.2.2.toNat) (((), ()), ()) ty183 rfl rfl rfl h17.lt (cZ _) (.cons aA .nil)) ?_)
   rintro _ _ _ ⟨rfl, rfl, rfl⟩
   refine gdo H1 fun h18 H1 => ?_
   refine ⟨(aM (by kernel_rfl) (aM (by kernel_rfl) (bW rfl rfl (fun F => (bY dX ty183 rfl rfl h18 (aB.app F))) (aM (by kernel_rfl) (aM (by kernel_rfl) bV))))), ?_⟩
   refine gdo H1 fun h19 H1 => ?_
   refine w_o rfl (fun F => (bY dX ty183 rfl rfl h19 (aB.app F))) (cM rfl rfl cQ rfl (n_setT (l := (Q6.1.set Q6.2.1.toNat (nth Q6.1 Q6.2.2.toNat))) (α := PostH) (oa := x_v0.1) Q6.2.2.toNat (nth Q6.1 Q6.2.1.toNat) (((), ()), ()) ty183 rfl rfl rfl h19.lt (cZ _) (.cons aA .nil)) ?_)
   rintro _ _ _ ⟨rfl, rfl, rfl⟩
   refine ⟨(aM (by kernel_rfl) (aM (by kernel_rfl) (aM (by kernel_rfl) (aM (by kernel_rfl) (aM (by kernel_rfl) (aM (by kernel_rfl) bV)))))), ?_⟩
   refine cN (nT (aD (dA aB fun hn20 => (aP (aF rfl (gdo H1 fun h21 H1 => (aG (bS rfl rfl h21) (aH rfl (nl (aP (aF rfl ?_)))))))))))
   exact gdo H1 fun h22 H1 => (aG (cT rfl rfl h22) (aH rfl (aJ (nB (nLI () (hi10 _ (sm H1)) (.cons aA .nil) )))))
  ·refine dD (xT (xT (xE (?_))))
   obtain rfl := hb11 _ (sm H1)
   exact nMC () trivial bU (.cons aA .nil)
 ·intro y8
  show At _ _ [] _ [tree (.slice x_v0.1 v0.length x_v0.2) x2] _
  obtain rfl := si H
  exact back0n () rfl  rfl cP (.cons aA .nil)
noncomputable def p_partialInsertionSortH_b1 (v2 : Int) (Q6 : (List PostH) × Int × Int) (Q20 : Int) : Option ((Int) ⊕ (Int)) := bd (cond (decide (Q20 < v2)) (gd (ix Q20 Q6.1.length) <| gd (I64 (Q20 - 1)) <| gd (ix (Q20 - 1) Q6.1.length) <| bd (p_impl_indexOf_2 (nth Q6.1 Q20.toNat) (nth Q6.1 ((Q20 - 1).toNat))) fun r34 => some (!(decide (r34 < 0)))) (some (false))) fun b28 => cond (b28) (gd (I64 (Q20 + 1)) <| some (.inl (Q20 + 1))) (some (.inr Q20))
noncomputable def p_partialInsertionSortH_b2 (Q56 : (List PostH) × Int) : Option (((List PostH) × Int) ⊕ ((List PostH))) := cond (decide (1 ≤ Q56.2)) (gd (ix Q56.2 Q56.1.length) <| gd (I64 (Q56.2 - 1)) <| gd (ix (Q56.2 - 1) Q56.1.length) <| bd (p_impl_indexOf_2 (nth Q56.1 Q56.2.toNat) (nth Q56.1 ((Q56.2 - 1).toNat))) fun r69 => cond (!(decide (r69 < 0))) (some (.inr Q56.1)) (gd (ix Q56.2 (Q56.1.set Q56.2.toNat (nth Q56.1 ((Q56.2 - 1).toNat))).length) <| gd (ix (Q56.2 - 1) (Q56.1.set Q56.2.toNat (nth Q56.1 ((Q56.2 - 1).toNat))).length) <| some (.inl (((Q56.1.set Q56.2.toNat (nth Q56.1 ((Q56.2 - 1).toNat))).set ((Q56.2 - 1).toNat) (nth Q56.1 Q56.2.toNat)), Q56.2 - 1)))) (some (.inr Q56.1))
noncomputable def p_partialInsertionSortH_b3 (v2 : Int) (Q83 : (List PostH) × Int) : Option (((List PostH) × Int) ⊕ ((List PostH))) := cond (decide (Q83.2 < v2)) (gd (ix Q83.2 Q83.1.length) <| gd (I64 (Q83.2 - 1)) <| gd (ix (Q83.2 - 1) Q83.1.length) <| bd (p_impl_indexOf_2 (nth Q83.1 Q83.2.toNat) (nth Q83.1 ((Q83.2 - 1).toNat))) fun r96 => cond (!(decide (r96 < 0))) (some (.inr Q83.1)) (gd (ix Q83.2 (Q83.1.set Q83.2.toNat (nth Q83.1 ((Q83.2 - 1).toNat))).length) <| gd (ix (Q83.2 - 1) (Q83.1.set Q83.2.toNat (nth Q83.1 ((Q83.2 - 1).toNat))).length) <| gd (I64 (Q83.2 + 1)) <| some (.inl (((Q83.1.set Q83.2.toNat (nth Q83.1 ((Q83.2 - 1).toNat))).set ((Q83.2 - 1).toNat) (nth Q83.1 Q83.2.toNat)), Q83.2 + 1)))) (some (.inr Q83.1))
noncomputable def p_partialInsertionSortH_b0 (v1 : Int) (v2 : Int) (Q6 : (List PostH) × Int × Int) : Option (((List PostH) × Int × Int) ⊕ ((List PostH) ⊕ (Bool × (List PostH)))) := cond (decide (Q6.2.2 < 5)) (bd (lp (p_partialInsertionSortH_b1 v2 Q6) Q6.2.1) fun x16 => cond (decide (x16 = v2)) (some (.inr (.inr (true, Q6.1)))) (gd (I64 (v2 - v1)) <| cond (decide ((v2 - v1) < 50)) (some (.inr (.inr (false, Q6.1)))) (gd (I64 (x16 - 1)) <| gd (ix (x16 - 1) Q6.1.length) <| gd (ix x16 Q6.1.length) <| gd (ix x16 (Q6.1.set x16.toNat (nth Q6.1 ((x16 - 1).toNat))).length) <| gd (ix (x16 - 1) (Q6.1.set x16.toNat (nth Q6.1 ((x16 - 1).toNat))).length) <| gd (I64 (x16 - v1)) <| bd (cond (decide (2 ≤ (x16 - v1))) (bd (lp (p_partialInsertionSortH_b2) (((Q6.1.set x16.toNat (nth Q6.1 ((x16 - 1).toNat))).set ((x16 - 1).toNat) (nth Q6.1 x16.toNat)), x16 - 1)) fun x52 => some x52) (some ((Q6.1.set x16.toNat (nth Q6.1 ((x16 - 1).toNat))).set ((x16 - 1).toNat) (nth Q6.1 x16.toNat)))) fun x49 => gd (I64 (v2 - x16)) <| cond (decide (2 ≤ (v2 - x16))) (gd (I64 (x16 + 1)) <| bd (lp (p_partialInsertionSortH_b3 v2) (x49, x16 + 1)) fun x79 => gd (I64 (Q6.2.2 + 1)) <| some (.inl (x79, x16, Q6.2.2 + 1))) (gd (I64 (Q6.2.2 + 1)) <| some (.inl (x49, x16, Q6.2.2 + 1)))))) (some (.inr (.inl Q6.1)))
noncomputable def p_partialInsertionSortH (v0 : (List PostH)) (v1 : Int) (v2 : Int) : Option (Bool × (List PostH)) := gd (I64 (v1 + 1)) <| bd (lp (p_partialInsertionSortH_b0 v1 v2) (v0, v1 + 1, 0)) <| sw (fun e106 => some (false, e106)) (fun q => some q)
theorem c_partialInsertionSortH {r : Bool × (List PostH)} (v0 : (List PostH)) (x_v0 : Option Addr × Nat) (n_v0 : Nat) (e_v0 : n_v0 = v0.length) (v1 : Int) (v2 : Int) (H : p_partialInsertionSortH v0 v1 v2 = some r) : Fn' prog 206 #[.slice x_v0.1 n_v0 x_v0.2, .int .i64 (v1), .int .i64 (v2), .func (.func 165) #[] #[]] [] [tree (.slice x_v0.1 n_v0 x_v0.2) v0] (ι := Unit) (fun _ => .bool (r.1)) (fun _ => []) (fun _ => [tree (.slice x_v0.1 n_v0 x_v0.2) r.2]) := by
 subst e_v0
 refine cof (args := [_, _, _, _]) func206 ntmps206 fun c => ?_
 unfold p_partialInsertionSortH at H
 refine sr (aH (v := .bool (false)) rfl (nl (sr (aF rfl (gdo H fun h1 H => (aG (bS rfl rfl h1) (aH rfl (nl (aD (sr (aH (v := .int .i64 (0)) rfl (nl (bdo H fun x2 hx3 H => ?_)))))))))))))
 refine dF (Λ := Unit) H (fun _ _ => []) (fun e106 _ => [tree (.slice x_v0.1 v0.length x_v0.2) e106]) ?_ ?_
 ·refine aQ (dH hx3 () (fun Q6 _ => [(0, .slice x_v0.1 v0.length x_v0.2), (1, .int .i64 (v1)), (2, .int .i64 (v2)), (3, .func (.func 165) #[] #[]), (9, .int .i64 (Q6.2.1)), (10, .int .i64 (Q6.2.2))]) (fun Q6 _ => [tree (.slice x_v0.1 v0.length x_v0.2) Q6.1]) (.cons aA .nil) ?_)
  rintro _ Q6 z7 t9 H1 hi10 hb11
  unfold p_partialInsertionSortH_b0 at H1
  refine aD (aD (dA aB fun hn14 => (aP (aF rfl (aG (cS rfl rfl) (nl (cH H1 rfl (fun h15 H1 => ?_) (fun h15 H1 => ?_))))))))
  ·refine bI (nT (aD (aQ (bdo H1 fun x16 hx17 H1 => (tMidC (ι := Unit) (fun ψ => [(0, .slice x_v0.1 v0.length x_v0.2), (1, .int .i64 (v1)), (2, .int .i64 (v2)), (3, .func (.func 165) #[] #[]), (9, .int .i64 (x16)), (10, .int .i64 (Q6.2.2))]) (fun ψ => [tree (.slice x_v0.1 v0.length x_v0.2) Q6.1]) ?_ ?_)))))
   ·refine aQ (dH hx17 () (fun Q20 _ => [(0, .slice x_v0.1 v0.length x_v0.2), (1, .int .i64 (v1)), (2, .int .i64 (v2)), (3, .func (.func 165) #[] #[]), (9, .int .i64 (Q20)), (10, .int .i64 (Q6.2.2))]) (fun _ _ => [tree (.slice x_v0.1 v0.length x_v0.2) Q6.1]) (.cons aA .nil) ?_)
    rintro _ Q20 z21 t23 H2 hi24 hb25
    unfold p_partialInsertionSortH_b1 at H2
    refine aD (bdo H2 fun b28 j29 H2 => (dG [(36, .bool (b28)), (0, .slice x_v0.1 v0.length x_v0.2), (1, .int .i64 (v1)), (2, .int .i64 (v2)), (3, .func (.func 165) #[] #[]), (9, .int .i64 (Q20)), (10, .int .i64 (Q6.2.2))] ?_ ?_))
    ·refine dI [(0, .slice x_v0.1 v0.length x_v0.2), (1, .int .i64 (v1)), (2, .int .i64 (v2)), (3, .func (.func 165) #[] #[]), (9, .int .i64 (Q20)), (10, .int .i64 (Q6.2.2))] mixed (.inr (by kernel_rfl)) ⟨rfl, rfl, rfl, rfl, rfl, rfl, trivial⟩ rfl (bC rfl (bC rfl (aY (cS rfl rfl) ?_)))
     rcases aK (decide (Q20 < v2)) with h30 | h30
     ·have j29 := cdT h30 j29
      refine bD (aE rfl) h30 (aZ rfl (aE rfl) (aZ rfl (aE rfl) (aZ rfl (aE rfl) (gdo j29 fun h31 j29 => (bB rfl (bY dX ty183 rfl rfl h31 aB) (bB (v := .agg #[.string (((nth Q6.1 Q20.toNat).1).1), .string (((nth Q6.1 Q20.toNat).1).2), ((nth Q6.1 Q20.toNat).2).1]) rfl (cB (i := Q20.toNat) ty183 rfl (aN (bM aB)) h31.lt) (aZ rfl (aE rfl) (aZ rfl (aE rfl) (gdo j29 fun h32 j29 => ?_)))))))))
      refine aZ rfl (cT rfl rfl h32) (gdo j29 fun h33 j29 => (bB rfl (bY dX ty183 rfl rfl h33 aB) (bB (v := .agg #[.string (((nth Q6.1 ((Q20 - 1).toNat)).1).1), .string (((nth Q6.1 ((Q20 - 1).toNat)).1).2), ((nth Q6.1 ((Q20 - 1).toNat)).2).1]) rfl (cB (i := (Q20 - 1).toNat) ty183 rfl (aN (bM aB)) h33.lt) (bdo j29 fun r34 h35 j29 => (bB (v := .int .i64 (r34)) rfl (Ex.dyn (caps := []) (vs := [.agg #[.string (((nth Q6.1 Q20.toNat).1).1), .string (((nth Q6.1 Q20.toNat).1).2), ((nth Q6.1 Q20.toNat).2).1], .agg #[.string (((nth Q6.1 ((Q20 - 1).toNat)).1).1), .string (((nth Q6.1 ((Q20 - 1).toNat)).1).2), ((nth Q6.1 ((Q20 - 1).toNat)).2).1]]) rfl rfl (bO (c_impl_indexOf_2 (nth Q6.1 Q20.toNat) (nth Q6.1 ((Q20 - 1).toNat)) h35) rfl aO)) (aZ rfl (cS rfl rfl) (aZ rfl (cY rfl) (aY (bQ rfl rfl) ?_))))))))
      obtain rfl := si j29
      show At _ _ _ _ _ _
      exact n1 ⟨rfl, rfl, rfl, rfl, rfl, rfl, rfl, trivial⟩
     ·have j29 := cdF h30 j29
      refine bD (aE rfl) h30 ?_
      iterate 13 refine bF rfl ?_
      refine aY (v := .bool (false)) (bP rfl rfl) ?_
      obtain rfl := si j29
      show At _ _ _ _ _ _
      exact n1 ⟨rfl, rfl, rfl, rfl, rfl, rfl, rfl, trivial⟩
    refine cH H2 rfl (fun h36 H2 => ?_) (fun h36 H2 => ?_)
    ·exact bI (nT (aQ (aP (aF rfl (gdo H2 fun h37 H2 => (aG (bS rfl rfl h37) (aH rfl (aJ (nB (nLI () (hi24 _ (sm H2)) (.cons aA .nil) ))))))))))
    ·refine dD (xT (xT (xE (?_))))
     obtain rfl := hb25 _ (sm H2)
     exact nMC () ⟨rfl, rfl, rfl, rfl, rfl, rfl, trivial⟩ bU (.cons aA .nil)
   ·intro y22
    show Tr _ _ _ _ _ [(0, .slice x_v0.1 v0.length x_v0.2), (1, .int .i64 (v1)), (2, .int .i64 (v2)), (3, .func (.func 165) #[] #[]), (9, .int .i64 (x16)), (10, .int .i64 (Q6.2.2))] _ [tree (.slice x_v0.1 v0.length x_v0.2) Q6.1]
    refine aD (sr (aF rfl (aF rfl (aG (cV rfl rfl) (nl (cH H1 rfl (fun h38 H1 => ?_) (fun h38 H1 => ?_)))))))
    ·refine sr (aH (v := .bool (true)) rfl (nl (bR (rT (rB (rT (rT (rB (rT (rT (?_)))))))))))
     obtain rfl := hb11 _ (sm H1)
     replace H := sw.r H
     obtain rfl := si H
     exact bk (.cons aA .nil)
    ·refine bI (nT (aD (sr (aF rfl (aF rfl (gdo H1 fun h39 H1 => (aG (cT rfl rfl h39) (aG (cS rfl rfl) (nl (cH H1 rfl (fun h40 H1 => ?_) (fun h40 H1 => ?_)))))))))))
     ·refine sr (aH (v := .bool (false)) rfl (nl (bR (rT (rB (rT (rT (rB (rT (rT (?_)))))))))))
      obtain rfl := hb11 _ (sm H1)
      replace H := sw.r H
      obtain rfl := si H
      exact bk (.cons aA .nil)
     ·refine bI (nT (aD (dJ [(0, .slice x_v0.1 v0.length x_v0.2), (1, .int .i64 (v1)), (2, .int .i64 (v2)), (3, .func (.func 165) #[] #[]), (9, .int .i64 (x16)), (10, .int .i64 (Q6.2.2))] 1 [0, 1, 2, 3, 4, 5, 6, 7, 8, 9, 10, 11, 12, 13, 14, 15, 16, 17] [15, 17] [] mixed (by kernel_rfl) (by decide) dL ⟨rfl, rfl, rfl, rfl, rfl, rfl, trivial⟩ rfl okNil (w_p rfl (aE rfl) (w_p rfl (aE rfl) (w_p rfl (aE rfl) (w_p rfl (aE rfl) (gdo H1 fun h41 H1 => (w_p rfl (cT rfl rfl h41) (w_p rfl (aE rfl) ?_))))))))))
      refine w_p rfl (aE rfl) (w_p rfl (cT rfl rfl h41) (gdo H1 fun h42 H1 => ?_))
      refine w_o rfl (fun F => (bY dX ty183 rfl rfl h42 (aB.app F))) ?_
      refine w_o (v := .agg #[.string (((nth Q6.1 ((x16 - 1).toNat)).1).1), .string (((nth Q6.1 ((x16 - 1).toNat)).1).2), ((nth Q6.1 ((x16 - 1).toNat)).2).1]) rfl (fun F => (cB (i := (x16 - 1).toNat) ty183 rfl (aN (bM (aB.app F))) h42.lt)) (w_p rfl (aE rfl) (w_p rfl (aE rfl) (gdo H1 fun h43 H1 => ?_)))
      refine w_o rfl (fun F => (bY dX ty183 rfl rfl h43 (aB.app F))) ?_
      refine w_o (v := .agg #[.string (((nth Q6.1 x16.toNat).1).1), .string (((nth Q6.1 x16.toNat).1).2), ((nth Q6.1 x16.toNat).2).1]) rfl (fun F => (cB (i := x16.toNat) ty183 rfl (aN (bM (aB.app F))) h43.lt)) ?_
      refine w_o rfl (fun F => (bY dX ty183 rfl rfl h43 (aB.app F))) (cM rfl rfl cQ rfl (n_setT (l := Q6.1) (α := PostH) (oa := x_v0.1) x16.toNat (nth Q6.1 ((x16 - 1).toNat)) (((), ()), ()) ty183 rfl rfl rfl h43.lt (cZ _) (.cons aA .nil)) ?_)
      rintro _ _ _ ⟨rfl, rfl, rfl⟩
      refine gdo H1 fun h44 H1 => ?_
      refine ⟨(aM (by kernel_rfl) (aM (by kernel_rfl) (bW rfl rfl (fun F => (bY dX ty183 rfl rfl h44 (aB.app F))) (aM (by kernel_rfl) (aM (by kernel_rfl) bV))))), ?_⟩
      refine gdo H1 fun h45 H1 => ?_
      refine w_o rfl (fun F => (bY dX ty183 rfl rfl h45 (aB.app F))) (cM rfl rfl cQ rfl (n_setT (l := (Q6.1.set x16.toNat (nth Q6.1 ((x16 - 1).toNat)))) (α := PostH) (oa := x_v0.1) ((x16 - 1).toNat) (nth Q6.1 x16.toNat) (((), ()), ()) ty183 rfl rfl rfl h45.lt (cZ _) (.cons aA .nil)) ?_)
      rintro _ _ _ ⟨rfl, rfl, rfl⟩
      refine ⟨(aM (by kernel_rfl) (aM (by kernel_rfl) (aM (by kernel_rfl) (aM (by kernel_rfl) (aM (by kernel_rfl) (aM (by kernel_rfl) bV)))))), ?_⟩
      refine cN (nT (aD (aD (dA aB fun hn46 => (aP (aF rfl (aF rfl (gdo H1 fun h47 H1 => (aG (cT rfl rfl h47) (aG (p_geq rfl rfl) (nl ?_)))))))))))
      refine bdo H1 fun x49 hx50 H1 => (tMidC0 (ι := Unit) (fun ψ => [(0, .slice x_v0.1 v0.length x_v0.2), (1, .int .i64 (v1)), (2, .int .i64 (v2)), (3, .func (.func 165) #[] #[]), (9, .int .i64 (x16)), (10, .int .i64 (Q6.2.2))]) (fun ψ => [tree (.slice x_v0.1 v0.length x_v0.2) x49]) ?_ ?_)
      ·refine aR (b := decide (2 ≤ (x16 - v1))) rfl (fun h48 => ?_) (fun h48 => ?_)
       ·replace hx50 := cdT h48 hx50
        refine sr (aF rfl (aG (cT rfl rfl h41) (aH rfl (nl (bdo hx50 fun x52 hx53 hx50 => (dE (ι := Unit) (fun ψ => [(0, .slice x_v0.1 v0.length x_v0.2), (1, .int .i64 (v1)), (2, .int .i64 (v2)), (3, .func (.func 165) #[] #[]), (9, .int .i64 (x16)), (10, .int .i64 (Q6.2.2))]) (fun ψ => [tree (.slice x_v0.1 v0.length x_v0.2) x52]) ?_ ?_))))))
        ·refine aQ (dH hx53 () (fun Q56 _ => [(0, .slice x_v0.1 v0.length x_v0.2), (1, .int .i64 (v1)), (2, .int .i64 (v2)), (3, .func (.func 165) #[] #[]), (9, .int .i64 (x16)), (10, .int .i64 (Q6.2.2)), (11, .int .i64 (Q56.2))]) (fun Q56 _ => [tree (.slice x_v0.1 v0.length x_v0.2) Q56.1]) (.cons aA .nil) ?_)
         rintro _ Q56 z57 t59 H2 hi60 hb61
         unfold p_partialInsertionSortH_b2 at H2
         refine aD (aD (dA aB fun hn64 => (aP (aF rfl (aG (p_geq rfl rfl) (nl (cH H2 rfl (fun h65 H2 => ?_) (fun h65 H2 => ?_))))))))
         ·refine bI (nT (aD (aQ (aD (aD (dI [(0, .slice x_v0.1 v0.length x_v0.2), (1, .int .i64 (v1)), (2, .int .i64 (v2)), (3, .func (.func 165) #[] #[]), (9, .int .i64 (x16)), (10, .int .i64 (Q6.2.2)), (11, .int .i64 (Q56.2))] mixed (.inr (by kernel_rfl)) ⟨rfl, rfl, rfl, rfl, rfl, rfl, rfl, trivial⟩ rfl (bC rfl (bC rfl (bC rfl (gdo H2 fun h66 H2 => ?_))))))))))
          refine bA (bY dX ty183 rfl rfl h66 aB) (bA (v := .agg #[.string (((nth Q56.1 Q56.2.toNat).1).1), .string (((nth Q56.1 Q56.2.toNat).1).2), ((nth Q56.1 Q56.2.toNat).2).1]) (cB (i := Q56.2.toNat) ty183 rfl (aN (bM aB)) h66.lt) (bC rfl (bC rfl (gdo H2 fun h67 H2 => (aY (cT rfl rfl h67) (gdo H2 fun h68 H2 => (bA (bY dX ty183 rfl rfl h68 aB) (bA (v := .agg #[.string (((nth Q56.1 ((Q56.2 - 1).toNat)).1).1), .string (((nth Q56.1 ((Q56.2 - 1).toNat)).1).2), ((nth Q56.1 ((Q56.2 - 1).toNat)).2).1]) (cB (i := (Q56.2 - 1).toNat) ty183 rfl (aN (bM aB)) h68.lt) (bdo H2 fun r69 h70 H2 => ?_)))))))))
          refine bA (v := .int .i64 (r69)) (Ex.dyn (caps := []) (vs := [.agg #[.string (((nth Q56.1 Q56.2.toNat).1).1), .string (((nth Q56.1 Q56.2.toNat).1).2), ((nth Q56.1 Q56.2.toNat).2).1], .agg #[.string (((nth Q56.1 ((Q56.2 - 1).toNat)).1).1), .string (((nth Q56.1 ((Q56.2 - 1).toNat)).1).2), ((nth Q56.1 ((Q56.2 - 1).toNat)).2).1]]) rfl rfl (bO (c_impl_indexOf_2 (nth Q56.1 Q56.2.toNat) (nth Q56.1 ((Q56.2 - 1).toNat)) h70) rfl aO)) (aY (cS rfl rfl) (aY (cY rfl) (nT (cH H2 rfl (fun h71 H2 => ?_) (fun h71 H2 => ?_)))))
          ·refine dD (xT (xB rfl (xT (xT (xE (?_))))))
           obtain rfl := hb61 _ (sm H2)
           exact nMC () ⟨rfl, rfl, rfl, rfl, rfl, rfl, trivial⟩ bU (.cons aA .nil)
          ·refine bI (nT (dJ [(0, .slice x_v0.1 v0.length x_v0.2), (1, .int .i64 (v1)), (2, .int .i64 (v2)), (3, .func (.func 165) #[] #[]), (9, .int .i64 (x16)), (10, .int .i64 (Q6.2.2)), (11, .int .i64 (Q56.2))] 1 [0, 1, 2, 3, 4, 5, 6, 7, 8, 9, 10, 11, 12, 13, 14, 15, 16, 17] [15, 17] [] mixed (by kernel_rfl) (by decide) dL ⟨rfl, rfl, rfl, rfl, rfl, rfl, rfl, trivial⟩ rfl okNil (w_p rfl (aE rfl) (w_p rfl (aE rfl) (w_p rfl (aE rfl) (w_p rfl (aE rfl) (w_p rfl (cT rfl rfl h67) (w_p rfl (aE rfl) (w_p rfl (aE rfl) ?_)))))))))
           refine w_p rfl (cT rfl rfl h67) ?_
           refine w_o rfl (fun F => (bY dX ty183 rfl rfl h68 (aB.app F))) ?_
           refine w_o (v := .agg #[.string (((nth Q56.1 ((Q56.2 - 1).toNat)).1).1), .string (((nth Q56.1 ((Q56.2 - 1).toNat)).1).2), ((nth Q56.1 ((Q56.2 - 1).toNat)).2).1]) rfl (fun F => (cB (i := (Q56.2 - 1).toNat) ty183 rfl (aN (bM (aB.app F))) h68.lt)) (w_p rfl (aE rfl) (w_p rfl (aE rfl) ?_))
           refine w_o rfl (fun F => (bY dX ty183 rfl rfl h66 (aB.app F))) ?_
           refine w_o (v := .agg #[.string (((nth Q56.1 Q56.2.toNat).1).1), .string (((nth Q56.1 Q56.2.toNat).1).2), ((nth Q56.1 Q56.2.toNat).2).1]) rfl (fun F => (cB (i := Q56.2.toNat) ty183 rfl (aN (bM (aB.app F))) h66.lt)) ?_
           refine w_o rfl (fun F => (bY dX ty183 rfl rfl h66 (aB.app F))) (cM rfl rfl cQ rfl (n_setT (l := Q56.1) (α := PostH) (oa := x_v0.1) Q56.2.toNat (nth Q56.1 ((Q56.2 - 1).toNat)) (((), ()), ()) ty183 rfl rfl rfl h66.lt (cZ _) (.cons aA .nil)) ?_)
           rintro _ _ _ ⟨rfl, rfl, rfl⟩
           refine gdo H2 fun h72 H2 => ?_
           refine ⟨(aM (by kernel_rfl) (aM (by kernel_rfl) (bW rfl rfl (fun F => (bY dX ty183 rfl rfl h72 (aB.app F))) (aM (by kernel_rfl) (aM (by kernel_rfl) bV))))), ?_⟩
           refine gdo H2 fun h73 H2 => ?_
           refine w_o rfl (fun F => (bY dX ty183 rfl rfl h73 (aB.app F))) (cM rfl rfl cQ rfl (n_setT (l := (Q56.1.set Q56.2.toNat (nth Q56.1 ((Q56.2 - 1).toNat)))) (α := PostH) (oa := x_v0.1) ((Q56.2 - 1).toNat) (nth Q56.1 Q56.2.toNat) (((), ()), ()) ty183 rfl rfl rfl h73.lt (cZ _) (.cons aA .nil)) ?_)
           rintro _ _ _ ⟨rfl, rfl, rfl⟩
           refine ⟨(aM (by kernel_rfl) (aM (by kernel_rfl) (aM (by kernel_rfl) (aM (by kernel_rfl) (aM (by kernel_rfl) (aM (by kernel_rfl) bV)))))), ?_⟩
           refine cN ?_
           show At _ _ _ _ _ _
           exact nB (nT (dA aB fun hn74 => (aP (aF rfl (aG (cT rfl rfl h67) (aH rfl (aJ (nLI () (hi60 _ (sm H2)) (.cons aA .nil)))))))))
         ·refine dD (xT (xT (xE (?_))))
          obtain rfl := hb61 _ (sm H2)
          exact nMC () ⟨rfl, rfl, rfl, rfl, rfl, rfl, trivial⟩ bU (.cons aA .nil)
        ·intro y58
         show At _ _ [(0, .slice x_v0.1 v0.length x_v0.2), (1, .int .i64 (v1)), (2, .int .i64 (v2)), (3, .func (.func 165) #[] #[]), (9, .int .i64 (x16)), (10, .int .i64 (Q6.2.2))] _ [tree (.slice x_v0.1 v0.length x_v0.2) x52] _
         replace hx50 := Option.some.inj hx50; subst hx50
         exact nMC () ⟨rfl, rfl, rfl, rfl, rfl, rfl, trivial⟩ bU (.cons aA .nil)
       ·replace hx50 := cdF h48 hx50
        refine bI ?_
        replace hx50 := Option.some.inj hx50; subst hx50
        exact nMC () ⟨rfl, rfl, rfl, rfl, rfl, rfl, trivial⟩ bU (.cons aA .nil)
      ·intro y51
       show Tr _ _ _ _ _ [(0, .slice x_v0.1 v0.length x_v0.2), (1, .int .i64 (v1)), (2, .int .i64 (v2)), (3, .func (.func 165) #[] #[]), (9, .int .i64 (x16)), (10, .int .i64 (Q6.2.2))] _ [tree (.slice x_v0.1 v0.length x_v0.2) x49]
       refine aD (dA aB fun hn75 => (aP (aF rfl (aF rfl (gdo H1 fun h76 H1 => (aG (cT rfl rfl h76) (aG (p_geq rfl rfl) (nl (cH H1 rfl (fun h77 H1 => ?_) (fun h77 H1 => ?_))))))))))
       ·refine sr (aF rfl (gdo H1 fun h78 H1 => (aG (bS rfl rfl h78) (aH rfl (nl (bdo H1 fun x79 hx80 H1 => (dE (ι := Unit) (fun ψ => [(0, .slice x_v0.1 v0.length x_v0.2), (1, .int .i64 (v1)), (2, .int .i64 (v2)), (3, .func (.func 165) #[] #[]), (9, .int .i64 (x16)), (10, .int .i64 (Q6.2.2))]) (fun ψ => [tree (.slice x_v0.1 v0.length x_v0.2) x79]) ?_ ?_)))))))
        ·refine aQ (dH hx80 () (fun Q83 _ => [(0, .slice x_v0.1 v0.length x_v0.2), (1, .int .i64 (v1)), (2, .int .i64 (v2)), (3, .func (.func 165) #[] #[]), (9, .int .i64 (x16)), (10, .int .i64 (Q6.2.2)), (12, .int .i64 (Q83.2))]) (fun Q83 _ => [tree (.slice x_v0.1 v0.length x_v0.2) Q83.1]) (.cons aA .nil) ?_)
         rintro _ Q83 z84 t86 H2 hi87 hb88
         unfold p_partialInsertionSortH_b3 at H2
         refine aD (aD (dA aB fun hn91 => (aP (aF rfl (aF rfl (aG (cS rfl rfl) (nl (cH H2 rfl (fun h92 H2 => ?_) (fun h92 H2 => ?_)))))))))
         ·refine bI (nT (aD (aQ (aD (aD (dI [(0, .slice x_v0.1 v0.length x_v0.2), (1, .int .i64 (v1)), (2, .int .i64 (v2)), (3, .func (.func 165) #[] #[]), (9, .int .i64 (x16)), (10, .int .i64 (Q6.2.2)), (12, .int .i64 (Q83.2))] mixed (.inr (by kernel_rfl)) ⟨rfl, rfl, rfl, rfl, rfl, rfl, rfl, trivial⟩ rfl (bC rfl (bC rfl (bC rfl (gdo H2 fun h93 H2 => ?_))))))))))
          refine bA (bY dX ty183 rfl rfl h93 aB) (bA (v := .agg #[.string (((nth Q83.1 Q83.2.toNat).1).1), .string (((nth Q83.1 Q83.2.toNat).1).2), ((nth Q83.1 Q83.2.toNat).2).1]) (cB (i := Q83.2.toNat) ty183 rfl (aN (bM aB)) h93.lt) (bC rfl (bC rfl (gdo H2 fun h94 H2 => (aY (cT rfl rfl h94) (gdo H2 fun h95 H2 => (bA (bY dX ty183 rfl rfl h95 aB) (bA (v := .agg #[.string (((nth Q83.1 ((Q83.2 - 1).toNat)).1).1), .string (((nth Q83.1 ((Q83.2 - 1).toNat)).1).2), ((nth Q83.1 ((Q83.2 - 1).toNat)).2).1]) (cB (i := (Q83.2 - 1).toNat) ty183 rfl (aN (bM aB)) h95.lt) (bdo H2 fun r96 h97 H2 => ?_)))))))))
          refine bA (v := .int .i64 (r96)) (Ex.dyn (caps := []) (vs := [.agg #[.string (((nth Q83.1 Q83.2.toNat).1).1), .string (((nth Q83.1 Q83.2.toNat).1).2), ((nth Q83.1 Q83.2.toNat).2).1], .agg #[.string (((nth Q83.1 ((Q83.2 - 1).toNat)).1).1), .string (((nth Q83.1 ((Q83.2 - 1).toNat)).1).2), ((nth Q83.1 ((Q83.2 - 1).toNat)).2).1]]) rfl rfl (bO (c_impl_indexOf_2 (nth Q83.1 Q83.2.toNat) (nth Q83.1 ((Q83.2 - 1).toNat)) h97) rfl aO)) (aY (cS rfl rfl) (aY (cY rfl) (nT (cH H2 rfl (fun h98 H2 => ?_) (fun h98 H2 => ?_)))))
          ·refine dD (xT (xB rfl (xT (xT (xE (?_))))))
           obtain rfl := hb88 _ (sm H2)
           exact nMC () ⟨rfl, rfl, rfl, rfl, rfl, rfl, trivial⟩ bU (.cons aA .nil)
          ·refine bI (nT (dJ [(0, .slice x_v0.1 v0.length x_v0.2), (1, .int .i64 (v1)), (2, .int .i64 (v2)), (3, .func (.func 165) #[] #[]), (9, .int .i64 (x16)), (10, .int .i64 (Q6.2.2)), (12, .int .i64 (Q83.2))] 1 [0, 1, 2, 3, 4, 5, 6, 7, 8, 9, 10, 11, 12, 13, 14, 15, 16, 17] [15, 17] [] mixed (by kernel_rfl) (by decide) dL ⟨rfl, rfl, rfl, rfl, rfl, rfl, rfl, trivial⟩ rfl okNil (w_p rfl (aE rfl) (w_p rfl (aE rfl) (w_p rfl (aE rfl) (w_p rfl (aE rfl) (w_p rfl (cT rfl rfl h94) (w_p rfl (aE rfl) (w_p rfl (aE rfl) ?_)))))))))
           refine w_p rfl (cT rfl rfl h94) ?_
           refine w_o rfl (fun F => (bY dX ty183 rfl rfl h95 (aB.app F))) ?_
           refine w_o (v := .agg #[.string (((nth Q83.1 ((Q83.2 - 1).toNat)).1).1), .string (((nth Q83.1 ((Q83.2 - 1).toNat)).1).2), ((nth Q83.1 ((Q83.2 - 1).toNat)).2).1]) rfl (fun F => (cB (i := (Q83.2 - 1).toNat) ty183 rfl (aN (bM (aB.app F))) h95.lt)) (w_p rfl (aE rfl) (w_p rfl (aE rfl) ?_))
           refine w_o rfl (fun F => (bY dX ty183 rfl rfl h93 (aB.app F))) ?_
           refine w_o (v := .agg #[.string (((nth Q83.1 Q83.2.toNat).1).1), .string (((nth Q83.1 Q83.2.toNat).1).2), ((nth Q83.1 Q83.2.toNat).2).1]) rfl (fun F => (cB (i := Q83.2.toNat) ty183 rfl (aN (bM (aB.app F))) h93.lt)) ?_
           refine w_o rfl (fun F => (bY dX ty183 rfl rfl h93 (aB.app F))) (cM rfl rfl cQ rfl (n_setT (l := Q83.1) (α := PostH) (oa := x_v0.1) Q83.2.toNat (nth Q83.1 ((Q83.2 - 1).toNat)) (((), ()), ()) ty183 rfl rfl rfl h93.lt (cZ _) (.cons aA .nil)) ?_)
           rintro _ _ _ ⟨rfl, rfl, rfl⟩
           refine gdo H2 fun h99 H2 => ?_
           refine ⟨(aM (by kernel_rfl) (aM (by kernel_rfl) (bW rfl rfl (fun F => (bY dX ty183 rfl rfl h99 (aB.app F))) (aM (by kernel_rfl) (aM (by kernel_rfl) bV))))), ?_⟩
           refine gdo H2 fun h100 H2 => ?_
           refine w_o rfl (fun F => (bY dX ty183 rfl rfl h100 (aB.app F))) (cM rfl rfl cQ rfl (n_setT (l := (Q83.1.set Q83.2.toNat (nth Q83.1 ((Q83.2 - 1).toNat)))) (α := PostH) (oa := x_v0.1) ((Q83.2 - 1).toNat) (nth Q83.1 Q83.2.toNat) (((), ()), ()) ty183 rfl rfl rfl h100.lt (cZ _) (.cons aA .nil)) ?_)
           rintro _ _ _ ⟨rfl, rfl, rfl⟩
           refine ⟨(aM (by kernel_rfl) (aM (by kernel_rfl) (aM (by kernel_rfl) (aM (by kernel_rfl) (aM (by kernel_rfl) (aM (by kernel_rfl) bV)))))), ?_⟩
           refine cN ?_
           show At _ _ _ _ _ _
           exact nB (nT (dA aB fun hn101 => (aP (aF rfl (gdo H2 fun h102 H2 => (aG (bS rfl rfl h102) (aH rfl (aJ (nLI () (hi87 _ (sm H2)) (.cons aA .nil))))))))))
         ·refine dD (xT (xT (xE (?_))))
          obtain rfl := hb88 _ (sm H2)
          exact nMC () ⟨rfl, rfl, rfl, rfl, rfl, rfl, trivial⟩ bU (.cons aA .nil)
        ·intro y85
         show At _ _ [(0, .slice x_v0.1 v0.length x_v0.2), (1, .int .i64 (v1)), (2, .int .i64 (v2)), (3, .func (.func 165) #[] #[]), (9, .int .i64 (x16)), (10, .int .i64 (Q6.2.2))] _ [tree (.slice x_v0.1 v0.length x_v0.2) x79] _
         exact nB (nT (dA aB fun hn103 => (aP (aF rfl (gdo H1 fun h104 H1 => (aG (bS rfl rfl h104) (aH rfl (aJ (nLI () (hi10 _ (sm H1)) (.cons aA .nil))))))))))
       ·exact bI (nB (nT (aP (aF rfl (gdo H1 fun h105 H1 => (aG (bS rfl rfl h105) (aH rfl (aJ (nLI () (hi10 _ (sm H1)) (.cons aA .nil))))))))))
  ·exact dD (xT (xT (xE (nMI () (hb11 _ (sm H1)) (.cons aA .nil)))))
 ·rintro e106 y8 H
  refine nT (aD (dA aB fun hn107 => (aP (aH (v := .bool (false)) rfl (nl ?_)))))
  obtain rfl := si H
  exact bR (bk (.cons aA .nil))
noncomputable def p_partitionEqualH_b1 (v1 : Int) (Q12 : (List PostH) × Int × Int) (Q25 : Int) : Option ((Int) ⊕ (Int)) := bd (cond (decide (Q25 ≤ Q12.2.2)) (gd (ix v1 Q12.1.length) <| gd (ix Q25 Q12.1.length) <| bd (p_impl_indexOf_2 (nth Q12.1 v1.toNat) (nth Q12.1 Q25.toNat)) fun r38 => some (!(decide (r38 < 0)))) (some (false))) fun b33 => cond (b33) (gd (I64 (Q25 + 1)) <| some (.inl (Q25 + 1))) (some (.inr Q25))
noncomputable def p_partitionEqualH_b2 (v1 : Int) (Q12 : (List PostH) × Int × Int) (x21 : Int) (Q46 : Int) : Option ((Int) ⊕ (Int)) := bd (cond (decide (x21 ≤ Q46)) (gd (ix v1 Q12.1.length) <| gd (ix Q46 Q12.1.length) <| bd (p_impl_indexOf_2 (nth Q12.1 v1.toNat) (nth Q12.1 Q46.toNat)) fun r59 => some (decide (r59 < 0))) (some (false))) fun b54 => cond (b54) (gd (I64 (Q46 - 1)) <| some (.inl (Q46 - 1))) (some (.inr Q46))
noncomputable def p_partitionEqualH_b0 (v1 : Int) (Q12 : (List PostH) × Int × Int) : Option (((List PostH) × Int × Int) ⊕ (Int × (List PostH))) := bd (lp (p_partitionEqualH_b1 v1 Q12) Q12.2.1) fun x21 => bd (lp (p_partitionEqualH_b2 v1 Q12 x21) Q12.2.2) fun x42 => cond (decide (x42 < x21)) (some (.inr (x21, Q12.1))) (gd (ix x42 Q12.1.length) <| gd (ix x21 Q12.1.length) <| gd (ix x21 (Q12.1.set x21.toNat (nth Q12.1 x42.toNat)).length) <| gd (ix x42 (Q12.1.set x21.toNat (nth Q12.1 x42.toNat)).length) <| gd (I64 (x21 + 1)) <| gd (I64 (x42 - 1)) <| some (.inl (((Q12.1.set x21.toNat (nth Q12.1 x42.toNat)).set x42.toNat (nth Q12.1 x21.toNat)), x21 + 1, x42 - 1)))
noncomputable def p_partitionEqualH (v0 : (List PostH)) (v1 : Int) (v2 : Int) (v3 : Int) : Option (Int × (List PostH)) := gd (ix v3 v0.length) <| gd (ix v1 v0.length) <| gd (ix v1 (v0.set v1.toNat (nth v0 v3.toNat)).length) <| gd (ix v3 (v0.set v1.toNat (nth v0 v3.toNat)).length) <| gd (I64 (v1 + 1)) <| gd (I64 (v2 - 1)) <| bd (lp (p_partitionEqualH_b0 v1) (((v0.set v1.toNat (nth v0 v3.toNat)).set v3.toNat (nth v0 v1.toNat)), v1 + 1, v2 - 1)) fun x8 => some (x8.1, x8.2)
theorem c_partitionEqualH {r : Int × (List PostH)} (v0 : (List PostH)) (x_v0 : Option Addr × Nat) (n_v0 : Nat) (e_v0 : n_v0 = v0.length) (v1 : Int) (v2 : Int) (v3 : Int) (H : p_partitionEqualH v0 v1 v2 v3 = some r) : Fn' prog 207 #[.slice x_v0.1 n_v0 x_v0.2, .int .i64 (v1), .int .i64 (v2), .int .i64 (v3), .func (.func 165) #[] #[]] [] [tree (.slice x_v0.1 n_v0 x_v0.2) v0] (ι := Unit) (fun _ => .int .i64 (r.1)) (fun _ => []) (fun _ => [tree (.slice x_v0.1 n_v0 x_v0.2) r.2]) := by
 subst e_v0
 refine cof (args := [_, _, _, _, _]) func207 ntmps207 fun c => ?_
 unfold p_partitionEqualH at H
 refine sr (aH (v := .int .i64 (0)) rfl (nl (aD (dJ [(0, .slice x_v0.1 v0.length x_v0.2), (1, .int .i64 (v1)), (2, .int .i64 (v2)), (3, .int .i64 (v3)), (4, .func (.func 165) #[] #[])] 1 [0, 1, 2, 3, 4, 5, 6, 7, 8, 9, 10, 11, 12, 13, 14, 15] [13, 15] [] mixed (by kernel_rfl) (by decide) dL ⟨rfl, rfl, rfl, rfl, rfl, trivial⟩ rfl okNil (w_p rfl (aE rfl) (w_p rfl (aE rfl) (w_p rfl (aE rfl) (w_p rfl (aE rfl) (w_p rfl (aE rfl) (w_p rfl (aE rfl) ?_))))))))))
 refine gdo H fun h1 H => ?_
 refine w_o rfl (fun F => (bY dX ty183 rfl rfl h1 (aB.app F))) ?_
 refine w_o (v := .agg #[.string (((nth v0 v3.toNat).1).1), .string (((nth v0 v3.toNat).1).2), ((nth v0 v3.toNat).2).1]) rfl (fun F => (cB (i := v3.toNat) ty183 rfl (aN (bM (aB.app F))) h1.lt)) (w_p rfl (aE rfl) (w_p rfl (aE rfl) (gdo H fun h2 H => ?_)))
 refine w_o rfl (fun F => (bY dX ty183 rfl rfl h2 (aB.app F))) ?_
 refine w_o (v := .agg #[.string (((nth v0 v1.toNat).1).1), .string (((nth v0 v1.toNat).1).2), ((nth v0 v1.toNat).2).1]) rfl (fun F => (cB (i := v1.toNat) ty183 rfl (aN (bM (aB.app F))) h2.lt)) ?_
 refine w_o rfl (fun F => (bY dX ty183 rfl rfl h2 (aB.app F))) (cM rfl rfl cQ rfl (n_setT (l := v0) (α := PostH) (oa := x_v0.1) v1.toNat (nth v0 v3.toNat) (((), ()), ()) ty183 rfl rfl rfl h2.lt (cZ _) (.cons aA .nil)) ?_)
 rintro _ _ _ ⟨rfl, rfl, rfl⟩
 refine gdo H fun h3 H => ?_
 refine ⟨(aM (by kernel_rfl) (aM (by kernel_rfl) (bW rfl rfl (fun F => (bY dX ty183 rfl rfl h3 (aB.app F))) (aM (by kernel_rfl) (aM (by kernel_rfl) bV))))), ?_⟩
 refine gdo H fun h4 H => ?_
 refine w_o rfl (fun F => (bY dX ty183 rfl rfl h4 (aB.app F))) (cM rfl rfl cQ rfl (n_setT (l := (v0.set v1.toNat (nth v0 v3.toNat))) (α := PostH) (oa := x_v0.1) v3.toNat (nth v0 v1.toNat) (((), ()), ()) ty183 rfl rfl rfl h4.lt (cZ _) (.cons aA .nil)) ?_)
 rintro _ _ _ ⟨rfl, rfl, rfl⟩
 refine ⟨(aM (by kernel_rfl) (aM (by kernel_rfl) (aM (by kernel_rfl) (aM (by kernel_rfl) (aM (by kernel_rfl) (aM (by kernel_rfl) bV)))))), ?_⟩
 refine cN (nT (aD (dA aB fun hn5 => (aP (aF rfl (gdo H fun h6 H => (aG (bS rfl rfl h6) (aF rfl (gdo H fun h7 H => (aG (cT rfl rfl h7) ?_))))))))))
 refine aH rfl (aH rfl (nl (bdo H fun x8 hx9 H => (tMidC (ι := Unit) (fun ψ => [(11, .int .i64 (x8.1))]) (fun ψ => [tree (.slice x_v0.1 v0.length x_v0.2) x8.2]) ?_ ?_))))
 ·refine aQ (dH hx9 () (fun Q12 _ => [(0, .slice x_v0.1 v0.length x_v0.2), (1, .int .i64 (v1)), (4, .func (.func 165) #[] #[]), (11, .int .i64 (Q12.2.1)), (12, .int .i64 (Q12.2.2))]) (fun Q12 _ => [tree (.slice x_v0.1 v0.length x_v0.2) Q12.1]) (.cons aA .nil) ?_)
  rintro _ Q12 z13 t15 H1 hi16 hb17
  unfold p_partitionEqualH_b0 at H1
  refine aQ (dA aB fun hn20 => (bdo H1 fun x21 hx22 H1 => (tMidC (ι := Unit) (fun ψ => [(0, .slice x_v0.1 v0.length x_v0.2), (1, .int .i64 (v1)), (4, .func (.func 165) #[] #[]), (11, .int .i64 (x21)), (12, .int .i64 (Q12.2.2))]) (fun ψ => [tree (.slice x_v0.1 v0.length x_v0.2) Q12.1]) ?_ ?_)))
  ·refine aQ (dH hx22 () (fun Q25 _ => [(0, .slice x_v0.1 v0.length x_v0.2), (1, .int .i64 (v1)), (4, .func (.func 165) #[] #[]), (11, .int .i64 (Q25)), (12, .int .i64 (Q12.2.2))]) (fun _ _ => [tree (.slice x_v0.1 v0.length x_v0.2) Q12.1]) (.cons aA .nil) ?_)
   rintro _ Q25 z26 t28 H2 hi29 hb30
   unfold p_partitionEqualH_b1 at H2
   refine aD (bdo H2 fun b33 j34 H2 => (dG [(47, .bool (b33)), (0, .slice x_v0.1 v0.length x_v0.2), (1, .int .i64 (v1)), (4, .func (.func 165) #[] #[]), (11, .int .i64 (Q25)), (12, .int .i64 (Q12.2.2))] ?_ ?_))
   ·refine dI [(0, .slice x_v0.1 v0.length x_v0.2), (1, .int .i64 (v1)), (4, .func (.func 165) #[] #[]), (11, .int .i64 (Q25)), (12, .int .i64 (Q12.2.2))] mixed (.inr (by kernel_rfl)) ⟨rfl, rfl, rfl, rfl, rfl, trivial⟩ rfl (bC rfl (bC rfl (aY (cW rfl rfl) ?_)))
    rcases aK (decide (Q25 ≤ Q12.2.2)) with h35 | h35
    ·have j34 := cdT h35 j34
     refine bD (aE rfl) h35 (aZ rfl (aE rfl) (aZ rfl (aE rfl) (aZ rfl (aE rfl) (gdo j34 fun h36 j34 => (bB rfl (bY dX ty183 rfl rfl h36 aB) (bB (v := .agg #[.string (((nth Q12.1 v1.toNat).1).1), .string (((nth Q12.1 v1.toNat).1).2), ((nth Q12.1 v1.toNat).2).1]) rfl (cB (i := v1.toNat) ty183 rfl (aN (bM aB)) h36.lt) (aZ rfl (aE rfl) (aZ rfl (aE rfl) (gdo j34 fun h37 j34 => ?_)))))))))
     refine bB rfl (bY dX ty183 rfl rfl h37 aB) (bB (v := .agg #[.string (((nth Q12.1 Q25.toNat).1).1), .string (((nth Q12.1 Q25.toNat).1).2), ((nth Q12.1 Q25.toNat).2).1]) rfl (cB (i := Q25.toNat) ty183 rfl (aN (bM aB)) h37.lt) (bdo j34 fun r38 h39 j34 => (bB (v := .int .i64 (r38)) rfl (Ex.dyn (caps := []) (vs := [.agg #[.string (((nth Q12.1 v1.toNat).1).1), .string (((nth Q12.1 v1.toNat).1).2), ((nth Q12.1 v1.toNat).2).1], .agg #[.string (((nth Q12.1 Q25.toNat).1).1), .string (((nth Q12.1 Q25.toNat).1).2), ((nth Q12.1 Q25.toNat).2).1]]) rfl rfl (bO (c_impl_indexOf_2 (nth Q12.1 v1.toNat) (nth Q12.1 Q25.toNat) h39) rfl aO)) (aZ rfl (cS rfl rfl) (aZ rfl (cY rfl) (aY (bQ rfl rfl) ?_))))))
     obtain rfl := si j34
     show At _ _ _ _ _ _
     exact n1 ⟨rfl, rfl, rfl, rfl, rfl, rfl, trivial⟩
    ·have j34 := cdF h35 j34
     refine bD (aE rfl) h35 ?_
     iterate 12 refine bF rfl ?_
     refine aY (v := .bool (false)) (bP rfl rfl) ?_
     obtain rfl := si j34
     show At _ _ _ _ _ _
     exact n1 ⟨rfl, rfl, rfl, rfl, rfl, rfl, trivial⟩
   refine cH H2 rfl (fun h40 H2 => ?_) (fun h40 H2 => ?_)
   ·exact bI (nT (aQ (aP (aF rfl (gdo H2 fun h41 H2 => (aG (bS rfl rfl h41) (aH rfl (aJ (nB (nLI () (hi29 _ (sm H2)) (.cons aA .nil) ))))))))))
   ·refine dD (xT (xT (xE (?_))))
    obtain rfl := hb30 _ (sm H2)
    exact nMC () ⟨rfl, rfl, rfl, rfl, rfl, trivial⟩ bU (.cons aA .nil)
  ·intro y27
   show Tr _ _ _ _ _ [(0, .slice x_v0.1 v0.length x_v0.2), (1, .int .i64 (v1)), (4, .func (.func 165) #[] #[]), (11, .int .i64 (x21)), (12, .int .i64 (Q12.2.2))] _ [tree (.slice x_v0.1 v0.length x_v0.2) Q12.1]
   refine bdo H1 fun x42 hx43 H1 => (tMidC (ι := Unit) (fun ψ => [(0, .slice x_v0.1 v0.length x_v0.2), (1, .int .i64 (v1)), (4, .func (.func 165) #[] #[]), (11, .int .i64 (x21)), (12, .int .i64 (x42))]) (fun ψ => [tree (.slice x_v0.1 v0.length x_v0.2) Q12.1]) ?_ ?_)
   ·refine aQ (dH hx43 () (fun Q46 _ => [(0, .slice x_v0.1 v0.length x_v0.2), (1, .int .i64 (v1)), (4, .func (.func 165) #[] #[]), (11, .int .i64 (x21)), (12, .int .i64 (Q46))]) (fun _ _ => [tree (.slice x_v0.1 v0.length x_v0.2) Q12.1]) (.cons aA .nil) ?_)
    rintro _ Q46 z47 t49 H2 hi50 hb51
    unfold p_partitionEqualH_b2 at H2
    refine aD (bdo H2 fun b54 j55 H2 => (dG [(65, .bool (b54)), (0, .slice x_v0.1 v0.length x_v0.2), (1, .int .i64 (v1)), (4, .func (.func 165) #[] #[]), (11, .int .i64 (x21)), (12, .int .i64 (Q46))] ?_ ?_))
    ·refine dI [(0, .slice x_v0.1 v0.length x_v0.2), (1, .int .i64 (v1)), (4, .func (.func 165) #[] #[]), (11, .int .i64 (x21)), (12, .int .i64 (Q46))] mixed (.inr (by kernel_rfl)) ⟨rfl, rfl, rfl, rfl, rfl, trivial⟩ rfl (bC rfl (bC rfl (aY (cW rfl rfl) ?_)))
     rcases aK (decide (x21 ≤ Q46)) with h56 | h56
     ·have j55 := cdT h56 j55
      refine bD (aE rfl) h56 (aZ rfl (aE rfl) (aZ rfl (aE rfl) (aZ rfl (aE rfl) (gdo j55 fun h57 j55 => (bB rfl (bY dX ty183 rfl rfl h57 aB) (bB (v := .agg #[.string (((nth Q12.1 v1.toNat).1).1), .string (((nth Q12.1 v1.toNat).1).2), ((nth Q12.1 v1.toNat).2).1]) rfl (cB (i := v1.toNat) ty183 rfl (aN (bM aB)) h57.lt) (aZ rfl (aE rfl) (aZ rfl (aE rfl) (gdo j55 fun h58 j55 => ?_)))))))))
      refine bB rfl (bY dX ty183 rfl rfl h58 aB) (bB (v := .agg #[.string (((nth Q12.1 Q46.toNat).1).1), .string (((nth Q12.1 Q46.toNat).1).2), ((nth Q12.1 Q46.toNat).2).1]) rfl (cB (i := Q46.toNat) ty183 rfl (aN (bM aB)) h58.lt) (bdo j55 fun r59 h60 j55 => (bB (v := .int .i64 (r59)) rfl (Ex.dyn (caps := []) (vs := [.agg #[.string (((nth Q12.1 v1.toNat).1).1), .string (((nth Q12.1 v1.toNat).1).2), ((nth Q12.1 v1.toNat).2).1], .agg #[.string (((nth Q12.1 Q46.toNat).1).1), .string (((nth Q12.1 Q46.toNat).1).2), ((nth Q12.1 Q46.toNat).2).1]]) rfl rfl (bO (c_impl_indexOf_2 (nth Q12.1 v1.toNat) (nth Q12.1 Q46.toNat) h60) rfl aO)) (aZ rfl (cS rfl rfl) (aY (bQ rfl rfl) ?_)))))
      obtain rfl := si j55
      show At _ _ _ _ _ _
      exact n1 ⟨rfl, rfl, rfl, rfl, rfl, rfl, trivial⟩
     ·have j55 := cdF h56 j55
      refine bD (aE rfl) h56 ?_
      iterate 11 refine bF rfl ?_
      refine aY (v := .bool (false)) (bP rfl rfl) ?_
      obtain rfl := si j55
      show At _ _ _ _ _ _
      exact n1 ⟨rfl, rfl, rfl, rfl, rfl, rfl, trivial⟩
    refine cH H2 rfl (fun h61 H2 => ?_) (fun h61 H2 => ?_)
    ·exact bI (nT (aQ (aP (aF rfl (gdo H2 fun h62 H2 => (aG (cT rfl rfl h62) (aH rfl (aJ (nB (nLI () (hi50 _ (sm H2)) (.cons aA .nil) ))))))))))
    ·refine dD (xT (xT (xE (?_))))
     obtain rfl := hb51 _ (sm H2)
     exact nMC () ⟨rfl, rfl, rfl, rfl, rfl, trivial⟩ bU (.cons aA .nil)
   ·intro y48
    show Tr _ _ _ _ _ [(0, .slice x_v0.1 v0.length x_v0.2), (1, .int .i64 (v1)), (4, .func (.func 165) #[] #[]), (11, .int .i64 (x21)), (12, .int .i64 (x42))] _ [tree (.slice x_v0.1 v0.length x_v0.2) Q12.1]
    refine aD (sr (aF rfl (aF rfl (aG (cX rfl rfl) (nl (cH H1 rfl (fun h63 H1 => ?_) (fun h63 H1 => ?_)))))))
    ·refine dD (xT (xB rfl (xT (xE (?_)))))
     obtain rfl := hb17 _ (sm H1)
     exact nMC () ⟨rfl, trivial⟩ bU (.cons aA .nil)
    ·refine bI (nT (aD (dJ [(0, .slice x_v0.1 v0.length x_v0.2), (1, .int .i64 (v1)), (4, .func (.func 165) #[] #[]), (11, .int .i64 (x21)), (12, .int .i64 (x42))] 1 [0, 1, 2, 3, 4, 5, 6, 7, 8, 9, 10, 11, 12, 13, 14, 15] [13, 15] [] mixed (by kernel_rfl) (by decide) dL ⟨rfl, rfl, rfl, rfl, rfl, trivial⟩ rfl okNil (w_p rfl (aE rfl) (w_p rfl (aE rfl) (w_p rfl (aE rfl) (w_p rfl (aE rfl) (w_p rfl (aE rfl) (w_p rfl (aE rfl) (gdo H1 fun h64 H1 => ?_))))))))))
     refine w_o rfl (fun F => (bY dX ty183 rfl rfl h64 (aB.app F))) ?_
     refine w_o (v := .agg #[.string (((nth Q12.1 x42.toNat).1).1), .string (((nth Q12.1 x42.toNat).1).2), ((nth Q12.1 x42.toNat).2).1]) rfl (fun F => (cB (i := x42.toNat) ty183 rfl (aN (bM (aB.app F))) h64.lt)) (w_p rfl (aE rfl) (w_p rfl (aE rfl) (gdo H1 fun h65 H1 => ?_)))
     refine w_o rfl (fun F => (bY dX ty183 rfl rfl h65 (aB.app F))) ?_
     refine w_o (v := .agg #[.string (((nth Q12.1 x21.toNat).1).1), .string (((nth Q12.1 x21.toNat).1).2), ((nth Q12.1 x21.toNat).2).1]) rfl (fun F => (cB (i := x21.toNat) ty183 rfl (aN (bM (aB.app F))) h65.lt)) ?_
     refine w_o rfl (fun F => (bY dX ty183 rfl rfl h65 (aB.app F))) (cM rfl rfl cQ rfl (n_setT (l := Q12.1) (α := PostH) (oa := x_v0.1) x21.toNat (nth Q12.1 x42.toNat) (((), ()), ()) ty183 rfl rfl rfl h65.lt (cZ _) (.cons aA .nil)) ?_)
     rintro _ _ _ ⟨rfl, rfl, rfl⟩
     refine gdo H1 fun h66 H1 => ?_
     refine ⟨(aM (by kernel_rfl) (aM (by kernel_rfl) (bW rfl rfl (fun F => (bY dX ty183 rfl rfl h66 (aB.app F))) (aM (by kernel_rfl) (aM (by kernel_rfl) bV))))), ?_⟩
     refine gdo H1 fun h67 H1 => ?_
     refine w_o rfl (fun F => (bY dX ty183 rfl rfl h67 (aB.app F))) (cM rfl rfl cQ rfl (n_setT (l := (Q12.1.set x21.toNat (nth Q12.1 x42.toNat))) (α := PostH) (oa := x_v0.1) x42.toNat (nth Q12.1 x21.toNat) (((), ()), ()) ty183 rfl rfl rfl h67.lt (cZ _) (.cons aA .nil)) ?_)
     rintro _ _ _ ⟨rfl, rfl, rfl⟩
     refine ⟨(aM (by kernel_rfl) (aM (by kernel_rfl) (aM (by kernel_rfl) (aM (by kernel_rfl) (aM (by kernel_rfl) (aM (by kernel_rfl) bV)))))), ?_⟩
     refine cN (nT (aD (dA aB fun hn68 => (aP (aF rfl (gdo H1 fun h69 H1 => (aG (bS rfl rfl h69) (aH rfl (nl (aP (aF rfl ?_)))))))))))
     exact gdo H1 fun h70 H1 => (aG (cT rfl rfl h70) (aH rfl (aJ (nB (nLI () (hi16 _ (sm H1)) (.cons aA .nil) )))))
 ·intro y14
  show Tr _ _ _ _ _ [(11, .int .i64 (x8.1))] _ [tree (.slice x_v0.1 v0.length x_v0.2) x8.2]
  refine aD (dA aB fun hn71 => (aP (aF rfl (aH rfl (nl ?_)))))
  obtain rfl := si H
  exact bR (bk (.cons aA .nil))
noncomputable def p_partitionH_b0 (v0 : (List PostH)) (v1 : Int) (v2 : Int) (v3 : Int) (Q12 : Int) : Option ((Int) ⊕ (Int)) := bd (cond (decide (Q12 ≤ (v2 - 1))) (gd (ix Q12 ((v0.set v1.toNat (nth v0 v3.toNat)).set v3.toNat (nth v0 v1.toNat)).length) <| gd (ix v1 ((v0.set v1.toNat (nth v0 v3.toNat)).set v3.toNat (nth v0 v1.toNat)).length) <| bd (p_impl_indexOf_2 (nth ((v0.set v1.toNat (nth v0 v3.toNat)).set v3.toNat (nth v0 v1.toNat)) Q12.toNat) (nth ((v0.set v1.toNat (nth v0 v3.toNat)).set v3.toNat (nth v0 v1.toNat)) v1.toNat)) fun r25 => some (decide (r25 < 0))) (some (false))) fun b20 => cond (b20) (gd (I64 (Q12 + 1)) <| some (.inl (Q12 + 1))) (some (.inr Q12))
noncomputable def p_partitionH_b1 (v0 : (List PostH)) (v1 : Int) (v3 : Int) (x8 : Int) (Q33 : Int) : Option ((Int) ⊕ (Int)) := bd (cond (decide (x8 ≤ Q33)) (gd (ix Q33 ((v0.set v1.toNat (nth v0 v3.toNat)).set v3.toNat (nth v0 v1.toNat)).length) <| gd (ix v1 ((v0.set v1.toNat (nth v0 v3.toNat)).set v3.toNat (nth v0 v1.toNat)).length) <| bd (p_impl_indexOf_2 (nth ((v0.set v1.toNat (nth v0 v3.toNat)).set v3.toNat (nth v0 v1.toNat)) Q33.toNat) (nth ((v0.set v1.toNat (nth v0 v3.toNat)).set v3.toNat (nth v0 v1.toNat)) v1.toNat)) fun r46 => some (!(decide (r46 < 0)))) (some (false))) fun b41 => cond (b41) (gd (I64 (Q33 - 1)) <| some (.inl (Q33 - 1))) (some (.inr Q33))
noncomputable def p_partitionH_b3 (v1 : Int) (Q67 : (List PostH) × Int × Int) (Q80 : Int) : Option ((Int) ⊕ (Int)) := bd (cond (decide (Q80 ≤ Q67.2.2)) (gd (ix Q80 Q67.1.length) <| gd (ix v1 Q67.1.length) <| bd (p_impl_indexOf_2 (nth Q67.1 Q80.toNat) (nth Q67.1 v1.toNat)) fun r93 => some (decide (r93 < 0))) (some (false))) fun b88 => cond (b88) (gd (I64 (Q80 + 1)) <| some (.inl (Q80 + 1))) (some (.inr Q80))
noncomputable def p_partitionH_b4 (v1 : Int) (Q67 : (List PostH) × Int × Int) (x76 : Int) (Q101 : Int) : Option ((Int) ⊕ (Int)) := bd (cond (decide (x76 ≤ Q101)) (gd (ix Q101 Q67.1.length) <| gd (ix v1 Q67.1.length) <| bd (p_impl_indexOf_2 (nth Q67.1 Q101.toNat) (nth Q67.1 v1.toNat)) fun r114 => some (!(decide (r114 < 0)))) (some (false))) fun b109 => cond (b109) (gd (I64 (Q101 - 1)) <| some (.inl (Q101 - 1))) (some (.inr Q101))
noncomputable def p_partitionH_b2 (v1 : Int) (Q67 : (List PostH) × Int × Int) : Option (((List PostH) × Int × Int) ⊕ ((List PostH) × Int)) := bd (lp (p_partitionH_b3 v1 Q67) Q67.2.1) fun x76 => bd (lp (p_partitionH_b4 v1 Q67 x76) Q67.2.2) fun x97 => cond (decide (x97 < x76)) (some (.inr (Q67.1, x97))) (gd (ix x97 Q67.1.length) <| gd (ix x76 Q67.1.length) <| gd (ix x76 (Q67.1.set x76.toNat (nth Q67.1 x97.toNat)).length) <| gd (ix x97 (Q67.1.set x76.toNat (nth Q67.1 x97.toNat)).length) <| gd (I64 (x76 + 1)) <| gd (I64 (x97 - 1)) <| some (.inl (((Q67.1.set x76.toNat (nth Q67.1 x97.toNat)).set x97.toNat (nth Q67.1 x76.toNat)), x76 + 1, x97 - 1)))
noncomputable def p_partitionH (v0 : (List PostH)) (v1 : Int) (v2 : Int) (v3 : Int) : Option (Int × Bool × (List PostH)) := gd (ix v3 v0.length) <| gd (ix v1 v0.length) <| gd (ix v1 (v0.set v1.toNat (nth v0 v3.toNat)).length) <| gd (ix v3 (v0.set v1.toNat (nth v0 v3.toNat)).length) <| gd (I64 (v1 + 1)) <| gd (I64 (v2 - 1)) <| bd (lp (p_partitionH_b0 v0 v1 v2 v3) (v1 + 1)) fun x8 => bd (lp (p_partitionH_b1 v0 v1 v3 x8) (v2 - 1)) fun x29 => cond (decide (x29 < x8)) (gd (ix v1 ((v0.set v1.toNat (nth v0 v3.toNat)).set v3.toNat (nth v0 v1.toNat)).length) <| gd (ix x29 ((v0.set v1.toNat (nth v0 v3.toNat)).set v3.toNat (nth v0 v1.toNat)).length) <| gd (ix x29 (((v0.set v1.toNat (nth v0 v3.toNat)).set v3.toNat (nth v0 v1.toNat)).set x29.toNat (nth ((v0.set v1.toNat (nth v0 v3.toNat)).set v3.toNat (nth v0 v1.toNat)) v1.toNat)).length) <| gd (ix v1 (((v0.set v1.toNat (nth v0 v3.toNat)).set v3.toNat (nth v0 v1.toNat)).set x29.toNat (nth ((v0.set v1.toNat (nth v0 v3.toNat)).set v3.toNat (nth v0 v1.toNat)) v1.toNat)).length) <| some (x29, true, (((v0.set v1.toNat (nth v0 v3.toNat)).set v3.toNat (nth v0 v1.toNat)).set x29.toNat (nth ((v0.set v1.toNat (nth v0 v3.toNat)).set v3.toNat (nth v0 v1.toNat)) v1.toNat)).set v1.toNat (nth ((v0.set v1.toNat (nth v0 v3.toNat)).set v3.toNat (nth v0 v1.toNat)) x29.toNat))) (gd (ix x29 ((v0.set v1.toNat (nth v0 v3.toNat)).set v3.toNat (nth v0 v1.toNat)).length) <| gd (ix x8 ((v0.set v1.toNat (nth v0 v3.toNat)).set v3.toNat (nth v0 v1.toNat)).length) <| gd (ix x8 (((v0.set v1.toNat (nth v0 v3.toNat)).set v3.toNat (nth v0 v1.toNat)).set x8.toNat (nth ((v0.set v1.toNat (nth v0 v3.toNat)).set v3.toNat (nth v0 v1.toNat)) x29.toNat)).length) <| gd (ix x29 (((v0.set v1.toNat (nth v0 v3.toNat)).set v3.toNat (nth v0 v1.toNat)).set x8.toNat (nth ((v0.set v1.toNat (nth v0 v3.toNat)).set v3.toNat (nth v0 v1.toNat)) x29.toNat)).length) <| gd (I64 (x8 + 1)) <| gd (I64 (x29 - 1)) <| bd (lp (p_partitionH_b2 v1) (((((v0.set v1.toNat (nth v0 v3.toNat)).set v3.toNat (nth v0 v1.toNat)).set x8.toNat (nth ((v0.set v1.toNat (nth v0 v3.toNat)).set v3.toNat (nth v0 v1.toNat)) x29.toNat)).set x29.toNat (nth ((v0.set v1.toNat (nth v0 v3.toNat)).set v3.toNat (nth v0 v1.toNat)) x8.toNat)), x8 + 1, x29 - 1)) fun x63 => gd (ix v1 x63.1.length) <| gd (ix x63.2 x63.1.length) <| gd (ix x63.2 (x63.1.set x63.2.toNat (nth x63.1 v1.toNat)).length) <| gd (ix v1 (x63.1.set x63.2.toNat (nth x63.1 v1.toNat)).length) <| some (x63.2, false, (x63.1.set x63.2.toNat (nth x63.1 v1.toNat)).set v1.toNat (nth x63.1 x63.2.toNat)))
theorem c_partitionH {r : Int × Bool × (List PostH)} (v0 : (List PostH)) (x_v0 : Option Addr × Nat) (n_v0 : Nat) (e_v0 : n_v0 = v0.length) (v1 : Int) (v2 : Int) (v3 : Int) (H : p_partitionH v0 v1 v2 v3 = some r) : Fn' prog 208 #[.slice x_v0.1 n_v0 x_v0.2, .int .i64 (v1), .int .i64 (v2), .int .i64 (v3), .func (.func 165) #[] #[]] [] [tree (.slice x_v0.1 n_v0 x_v0.2) v0] (ι := Unit) (fun _ => .tuple #[.int .i64 (r.1), .bool (r.2.1)]) (fun _ => []) (fun _ => [tree (.slice x_v0.1 n_v0 x_v0.2) r.2.2]) := by
 subst e_v0
 refine cof (args := [_, _, _, _, _]) func208 ntmps208 fun c => ?_
 unfold p_partitionH at H
 refine sr (aH (v := .int .i64 (0)) rfl (aH (v := .bool (false)) rfl (nl (aD (dJ [(0, .slice x_v0.1 v0.length x_v0.2), (1, .int .i64 (v1)), (2, .int .i64 (v2)), (3, .int .i64 (v3)), (4, .func (.func 165) #[] #[])] 1 [0, 1, 2, 3, 4, 5, 6, 7, 8, 9, 10, 11, 12, 13, 14, 15] [13, 15] [] mixed (by kernel_rfl) (by decide) dL ⟨rfl, rfl, rfl, rfl, rfl, trivial⟩ rfl okNil (w_p rfl (aE rfl) (w_p rfl (aE rfl) (w_p rfl (aE rfl) (w_p rfl (aE rfl) (w_p rfl (aE rfl) ?_))))))))))
 refine w_p rfl (aE rfl) (gdo H fun h1 H => ?_)
 refine w_o rfl (fun F => (bY dX ty183 rfl rfl h1 (aB.app F))) ?_
 refine w_o (v := .agg #[.string (((nth v0 v3.toNat).1).1), .string (((nth v0 v3.toNat).1).2), ((nth v0 v3.toNat).2).1]) rfl (fun F => (cB (i := v3.toNat) ty183 rfl (aN (bM (aB.app F))) h1.lt)) (w_p rfl (aE rfl) (w_p rfl (aE rfl) (gdo H fun h2 H => ?_)))
 refine w_o rfl (fun F => (bY dX ty183 rfl rfl h2 (aB.app F))) ?_
 refine w_o (v := .agg #[.string (((nth v0 v1.toNat).1).1), .string (((nth v0 v1.toNat).1).2), ((nth v0 v1.toNat).2).1]) rfl (fun F => (cB (i := v1.toNat) ty183 rfl (aN (bM (aB.app F))) h2.lt)) ?_
 refine w_o rfl (fun F => (bY dX ty183 rfl rfl h2 (aB.app F))) (cM rfl rfl cQ rfl (n_setT (l := v0) (α := PostH) (oa := x_v0.1) v1.toNat (nth v0 v3.toNat) (((), ()), ()) ty183 rfl rfl rfl h2.lt (cZ _) (.cons aA .nil)) ?_)
 rintro _ _ _ ⟨rfl, rfl, rfl⟩
 refine gdo H fun h3 H => ?_
 refine ⟨(aM (by kernel_rfl) (aM (by kernel_rfl) (bW rfl rfl (fun F => (bY dX ty183 rfl rfl h3 (aB.app F))) (aM (by kernel_rfl) (aM (by kernel_rfl) bV))))), ?_⟩
 refine gdo H fun h4 H => ?_
 refine w_o rfl (fun F => (bY dX ty183 rfl rfl h4 (aB.app F))) (cM rfl rfl cQ rfl (n_setT (l := (v0.set v1.toNat (nth v0 v3.toNat))) (α := PostH) (oa := x_v0.1) v3.toNat (nth v0 v1.toNat) (((), ()), ()) ty183 rfl rfl rfl h4.lt (cZ _) (.cons aA .nil)) ?_)
 rintro _ _ _ ⟨rfl, rfl, rfl⟩
 refine ⟨(aM (by kernel_rfl) (aM (by kernel_rfl) (aM (by kernel_rfl) (aM (by kernel_rfl) (aM (by kernel_rfl) (aM (by kernel_rfl) bV)))))), ?_⟩
 refine cN (nT (aD (dA aB fun hn5 => (aP (aF rfl (gdo H fun h6 H => (aG (bS rfl rfl h6) (aF rfl (gdo H fun h7 H => (aG (cT rfl rfl h7) ?_))))))))))
 refine aH rfl (aH rfl (nl (bdo H fun x8 hx9 H => (tMidC (ι := Unit) (fun ψ => [(0, .slice x_v0.1 v0.length x_v0.2), (1, .int .i64 (v1)), (4, .func (.func 165) #[] #[]), (12, .int .i64 (x8)), (13, .int .i64 (v2 - 1))]) (fun ψ => [tree (.slice x_v0.1 v0.length x_v0.2) ((v0.set v1.toNat (nth v0 v3.toNat)).set v3.toNat (nth v0 v1.toNat))]) ?_ ?_))))
 ·refine aQ (dH hx9 () (fun Q12 _ => [(0, .slice x_v0.1 v0.length x_v0.2), (1, .int .i64 (v1)), (4, .func (.func 165) #[] #[]), (12, .int .i64 (Q12)), (13, .int .i64 (v2 - 1))]) (fun _ _ => [tree (.slice x_v0.1 v0.length x_v0.2) ((v0.set v1.toNat (nth v0 v3.toNat)).set v3.toNat (nth v0 v1.toNat))]) (.cons aA .nil) ?_)
  rintro _ Q12 z13 t15 H1 hi16 hb17
  unfold p_partitionH_b0 at H1
  refine aD (bdo H1 fun b20 j21 H1 => (dG [(47, .bool (b20)), (0, .slice x_v0.1 v0.length x_v0.2), (1, .int .i64 (v1)), (4, .func (.func 165) #[] #[]), (12, .int .i64 (Q12)), (13, .int .i64 (v2 - 1))] ?_ ?_))
  ·refine dI [(0, .slice x_v0.1 v0.length x_v0.2), (1, .int .i64 (v1)), (4, .func (.func 165) #[] #[]), (12, .int .i64 (Q12)), (13, .int .i64 (v2 - 1))] mixed (.inr (by kernel_rfl)) ⟨rfl, rfl, rfl, rfl, rfl, trivial⟩ rfl (bC rfl (bC rfl (aY (cW rfl rfl) ?_)))
   rcases aK (decide (Q12 ≤ (v2 - 1))) with h22 | h22
   ·have j21 := cdT h22 j21
    refine bD (aE rfl) h22 (aZ rfl (aE rfl) (aZ rfl (aE rfl) (aZ rfl (aE rfl) (gdo j21 fun h23 j21 => (bB rfl (bY dX ty183 rfl rfl h23 aB) (bB (v := .agg #[.string (((nth ((v0.set v1.toNat (nth v0 v3.toNat)).set v3.toNat (nth v0 v1.toNat)) Q12.toNat).1).1), .string (((nth ((v0.set v1.toNat (nth v0 v3.toNat)).set v3.toNat (nth v0 v1.toNat)) Q12.toNat).1).2), ((nth ((v0.set v1.toNat (nth v0 v3.toNat)).set v3.toNat (nth v0 v1.toNat)) Q12.toNat).2).1]) rfl (cB (i := Q12.toNat) ty183 rfl (aN (bM aB)) h23.lt) (aZ rfl (aE rfl) (aZ rfl (aE rfl) (gdo j21 fun h24 j21 => ?_)))))))))
    refine bB rfl (bY dX ty183 rfl rfl h24 aB) (bB (v := .agg #[.string (((nth ((v0.set v1.toNat (nth v0 v3.toNat)).set v3.toNat (nth v0 v1.toNat)) v1.toNat).1).1), .string (((nth ((v0.set v1.toNat (nth v0 v3.toNat)).set v3.toNat (nth v0 v1.toNat)) v1.toNat).1).2), ((nth ((v0.set v1.toNat (nth v0 v3.toNat)).set v3.toNat (nth v0 v1.toNat)) v1.toNat).2).1]) rfl (cB (i := v1.toNat) ty183 rfl (aN (bM aB)) h24.lt) (bdo j21 fun r25 h26 j21 => (bB (v := .int .i64 (r25)) rfl (Ex.dyn (caps := []) (vs := [.agg #[.string (((nth ((v0.set v1.toNat (nth v0 v3.toNat)).set v3.toNat (nth v0 v1.toNat)) Q12.toNat).1).1), .string (((nth ((v0.set v1.toNat (nth v0 v3.toNat)).set v3.toNat (nth v0 v1.toNat)) Q12.toNat).1).2), ((nth ((v0.set v1.toNat (nth v0 v3.toNat)).set v3.toNat (nth v0 v1.toNat)) Q12.toNat).2).1], .agg #[.string (((nth ((v0.set v1.toNat (nth v0 v3.toNat)).set v3.toNat (nth v0 v1.toNat)) v1.toNat).1).1), .string (((nth ((v0.set v1.toNat (nth v0 v3.toNat)).set v3.toNat (nth v0 v1.toNat)) v1.toNat).1).2), ((nth ((v0.set v1.toNat (nth v0 v3.toNat)).set v3.toNat (nth v0 v1.toNat)) v1.toNat).2).1]]) rfl rfl (bO (c_impl_indexOf_2 (nth ((v0.set v1.toNat (nth v0 v3.toNat)).set v3.toNat (nth v0 v1.toNat)) Q12.toNat) (nth ((v0.set v1.toNat (nth v0 v3.toNat)).set v3.toNat (nth v0 v1.toNat)) v1.toNat) h26) rfl aO)) (aZ rfl (cS rfl rfl) (aY (bQ rfl rfl) ?_)))))
    obtain rfl := si j21
    show At _ _ _ _ _ _
    exact n1 ⟨rfl, rfl, rfl, rfl, rfl, rfl, trivial⟩
   ·have j21 := cdF h22 j21
    refine bD (aE rfl) h22 ?_
    iterate 11 refine bF rfl ?_
    refine aY (v := .bool (false)) (bP rfl rfl) ?_
    obtain rfl := si j21
    show At _ _ _ _ _ _
    exact n1 ⟨rfl, rfl, rfl, rfl, rfl, rfl, trivial⟩
  refine cH H1 rfl (fun h27 H1 => ?_) (fun h27 H1 => ?_)
  ·exact bI (nT (aQ (aP (aF rfl (gdo H1 fun h28 H1 => (aG (bS rfl rfl h28) (aH rfl (aJ (nB (nLI () (hi16 _ (sm H1)) (.cons aA .nil) ))))))))))
  ·refine dD (xT (xT (xE (?_))))
   obtain rfl := hb17 _ (sm H1)
   exact nMC () ⟨rfl, rfl, rfl, rfl, rfl, trivial⟩ bU (.cons aA .nil)
 ·intro y14
  show Tr _ _ _ _ _ [(0, .slice x_v0.1 v0.length x_v0.2), (1, .int .i64 (v1)), (4, .func (.func 165) #[] #[]), (12, .int .i64 (x8)), (13, .int .i64 (v2 - 1))] _ [tree (.slice x_v0.1 v0.length x_v0.2) ((v0.set v1.toNat (nth v0 v3.toNat)).set v3.toNat (nth v0 v1.toNat))]
  refine bdo H fun x29 hx30 H => (tMidC (ι := Unit) (fun ψ => [(0, .slice x_v0.1 v0.length x_v0.2), (1, .int .i64 (v1)), (4, .func (.func 165) #[] #[]), (12, .int .i64 (x8)), (13, .int .i64 (x29))]) (fun ψ => [tree (.slice x_v0.1 v0.length x_v0.2) ((v0.set v1.toNat (nth v0 v3.toNat)).set v3.toNat (nth v0 v1.toNat))]) ?_ ?_)
  ·refine aQ (dH hx30 () (fun Q33 _ => [(0, .slice x_v0.1 v0.length x_v0.2), (1, .int .i64 (v1)), (4, .func (.func 165) #[] #[]), (12, .int .i64 (x8)), (13, .int .i64 (Q33))]) (fun _ _ => [tree (.slice x_v0.1 v0.length x_v0.2) ((v0.set v1.toNat (nth v0 v3.toNat)).set v3.toNat (nth v0 v1.toNat))]) (.cons aA .nil) ?_)
   rintro _ Q33 z34 t36 H1 hi37 hb38
   unfold p_partitionH_b1 at H1
   refine aD (bdo H1 fun b41 j42 H1 => (dG [(66, .bool (b41)), (0, .slice x_v0.1 v0.length x_v0.2), (1, .int .i64 (v1)), (4, .func (.func 165) #[] #[]), (12, .int .i64 (x8)), (13, .int .i64 (Q33))] ?_ ?_))
   ·refine dI [(0, .slice x_v0.1 v0.length x_v0.2), (1, .int .i64 (v1)), (4, .func (.func 165) #[] #[]), (12, .int .i64 (x8)), (13, .int .i64 (Q33))] mixed (.inr (by kernel_rfl)) ⟨rfl, rfl, rfl, rfl, rfl, trivial⟩ rfl (bC rfl (bC rfl (aY (cW rfl rfl) ?_)))
    rcases aK (decide (x8 ≤ Q33)) with h43 | h43
    ·have j42 := cdT h43 j42
     refine bD (aE rfl) h43 (aZ rfl (aE rfl) (aZ rfl (aE rfl) (aZ rfl (aE rfl) (gdo j42 fun h44 j42 => (bB rfl (bY dX ty183 rfl rfl h44 aB) (bB (v := .agg #[.string (((nth ((v0.set v1.toNat (nth v0 v3.toNat)).set v3.toNat (nth v0 v1.toNat)) Q33.toNat).1).1), .string (((nth ((v0.set v1.toNat (nth v0 v3.toNat)).set v3.toNat (nth v0 v1.toNat)) Q33.toNat).1).2), ((nth ((v0.set v1.toNat (nth v0 v3.toNat)).set v3.toNat (nth v0 v1.toNat)) Q33.toNat).2).1]) rfl (cB (i := Q33.toNat) ty183 rfl (aN (bM aB)) h44.lt) (aZ rfl (aE rfl) (aZ rfl (aE rfl) (gdo j42 fun h45 j42 => ?_)))))))))
     refine bB rfl (bY dX ty183 rfl rfl h45 aB) (bB (v := .agg #[.string (((nth ((v0.set v1.toNat (nth v0 v3.toNat)).set v3.toNat (nth v0 v1.toNat)) v1.toNat).1).1), .string (((nth ((v0.set v1.toNat (nth v0 v3.toNat)).set v3.toNat (nth v0 v1.toNat)) v1.toNat).1).2), ((nth ((v0.set v1.toNat (nth v0 v3.toNat)).set v3.toNat (nth v0 v1.toNat)) v1.toNat).2).1]) rfl (cB (i := v1.toNat) ty183 rfl (aN (bM aB)) h45.lt) (bdo j42 fun r46 h47 j42 => (bB (v := .int .i64 (r46)) rfl (Ex.dyn (caps := []) (vs := [.agg #[.string (((nth ((v0.set v1.toNat (nth v0 v3.toNat)).set v3.toNat (nth v0 v1.toNat)) Q33.toNat).1).1), .string (((nth ((v0.set v1.toNat (nth v0 v3.toNat)).set v3.toNat (nth v0 v1.toNat)) Q33.toNat).1).2), ((nth ((v0.set v1.toNat (nth v0 v3.toNat)).set v3.toNat (nth v0 v1.toNat)) Q33.toNat).2).1], .agg #[.string (((nth ((v0.set v1.toNat (nth v0 v3.toNat)).set v3.toNat (nth v0 v1.toNat)) v1.toNat).1).1), .string (((nth ((v0.set v1.toNat (nth v0 v3.toNat)).set v3.toNat (nth v0 v1.toNat)) v1.toNat).1).2), ((nth ((v0.set v1.toNat (nth v0 v3.toNat)).set v3.toNat (nth v0 v1.toNat)) v1.toNat).2).1]]) rfl rfl (bO (c_impl_indexOf_2 (nth ((v0.set v1.toNat (nth v0 v3.toNat)).set v3.toNat (nth v0 v1.toNat)) Q33.toNat) (nth ((v0.set v1.toNat (nth v0 v3.toNat)).set v3.toNat (nth v0 v1.toNat)) v1.toNat) h47) rfl aO)) (aZ rfl (cS rfl rfl) (aZ rfl (cY rfl) (aY (bQ rfl rfl) ?_))))))
     obtain rfl := si j42
     show At _ _ _ _ _ _
     exact n1 ⟨rfl, rfl, rfl, rfl, rfl, rfl, trivial⟩
    ·have j42 := cdF h43 j42
     refine bD (aE rfl) h43 ?_
     iterate 12 refine bF rfl ?_
     refine aY (v := .bool (false)) (bP rfl rfl) ?_
     obtain rfl := si j42
     show At _ _ _ _ _ _
     exact n1 ⟨rfl, rfl, rfl, rfl, rfl, rfl, trivial⟩
   refine cH H1 rfl (fun h48 H1 => ?_) (fun h48 H1 => ?_)
   ·exact bI (nT (aQ (aP (aF rfl (gdo H1 fun h49 H1 => (aG (cT rfl rfl h49) (aH rfl (aJ (nB (nLI () (hi37 _ (sm H1)) (.cons aA .nil) ))))))))))
   ·refine dD (xT (xT (xE (?_))))
    obtain rfl := hb38 _ (sm H1)
    exact nMC () ⟨rfl, rfl, rfl, rfl, rfl, trivial⟩ bU (.cons aA .nil)
  ·intro y35
   show Tr _ _ _ _ _ [(0, .slice x_v0.1 v0.length x_v0.2), (1, .int .i64 (v1)), (4, .func (.func 165) #[] #[]), (12, .int .i64 (x8)), (13, .int .i64 (x29))] _ [tree (.slice x_v0.1 v0.length x_v0.2) ((v0.set v1.toNat (nth v0 v3.toNat)).set v3.toNat (nth v0 v1.toNat))]
   refine aD (sr (aF rfl (aF rfl (aG (cX rfl rfl) (nl (cH H rfl (fun h50 H => ?_) (fun h50 H => ?_)))))))
   ·refine aD (dJ [(0, .slice x_v0.1 v0.length x_v0.2), (1, .int .i64 (v1)), (13, .int .i64 (x29))] 1 [0, 1, 2, 3, 4, 5, 6, 7, 8, 9, 10, 11, 12, 13, 14, 15] [13, 15] [] mixed (by kernel_rfl) (by decide) dL ⟨rfl, rfl, rfl, trivial⟩ rfl okNil (w_p rfl (aE rfl) (w_p rfl (aE rfl) (w_p rfl (aE rfl) (w_p rfl (aE rfl) (w_p rfl (aE rfl) (w_p rfl (aE rfl) (gdo H fun h51 H => ?_))))))))
    refine w_o rfl (fun F => (bY dX ty183 rfl rfl h51 (aB.app F))) ?_
    refine w_o (v := .agg #[.string (((nth ((v0.set v1.toNat (nth v0 v3.toNat)).set v3.toNat (nth v0 v1.toNat)) v1.toNat).1).1), .string (((nth ((v0.set v1.toNat (nth v0 v3.toNat)).set v3.toNat (nth v0 v1.toNat)) v1.toNat).1).2), ((nth ((v0.set v1.toNat (nth v0 v3.toNat)).set v3.toNat (nth v0 v1.toNat)) v1.toNat).2).1]) rfl (fun F => (cB (i := v1.toNat) ty183 rfl (aN (bM (aB.app F))) h51.lt)) (w_p rfl (aE rfl) (w_p rfl (aE rfl) (gdo H fun h52 H => ?_)))
    refine w_o rfl (fun F => (bY dX ty183 rfl rfl h52 (aB.app F))) ?_
    refine w_o (v := .agg #[.string (((nth ((v0.set v1.toNat (nth v0 v3.toNat)).set v3.toNat (nth v0 v1.toNat)) x29.toNat).1).1), .string (((nth ((v0.set v1.toNat (nth v0 v3.toNat)).set v3.toNat (nth v0 v1.toNat)) x29.toNat).1).2), ((nth ((v0.set v1.toNat (nth v0 v3.toNat)).set v3.toNat (nth v0 v1.toNat)) x29.toNat).2).1]) rfl (fun F => (cB (i := x29.toNat) ty183 rfl (aN (bM (aB.app F))) h52.lt)) ?_
    refine w_o rfl (fun F => (bY dX ty183 rfl rfl h52 (aB.app F))) (cM rfl rfl cQ rfl (n_setT (l := ((v0.set v1.toNat (nth v0 v3.toNat)).set v3.toNat (nth v0 v1.toNat))) (α := PostH) (oa := x_v0.1) x29.toNat (nth ((v0.set v1.toNat (nth v0 v3.toNat)).set v3.toNat (nth v0 v1.toNat)) v1.toNat) (((), ()), ()) ty183 rfl rfl rfl h52.lt (cZ _) (.cons aA .nil)) ?_)
    rintro _ _ _ ⟨rfl, rfl, rfl⟩
    refine gdo H fun h53 H => ?_
    refine ⟨(aM (by kernel_rfl) (aM (by kernel_rfl) (bW rfl rfl (fun F => (bY dX ty183 rfl rfl h53 (aB.app F))) (aM (by kernel_rfl) (aM (by kernel_rfl) bV))))), ?_⟩
    refine gdo H fun h54 H => ?_
    refine w_o rfl (fun F => (bY dX ty183 rfl rfl h54 (aB.app F))) (cM rfl rfl cQ rfl (n_setT (l := (((v0.set v1.toNat (nth v0 v3.toNat)).set v3.toNat (nth v0 v1.toNat)).set x29.toNat (nth ((v0.set v1.toNat (nth v0 v3.toNat)).set v3.toNat (nth v0 v1.toNat)) v1.toNat))) (α := PostH) (oa := x_v0.1) v1.toNat (nth ((v0.set v1.toNat (nth v0 v3.toNat)).set v3.toNat (nth v0 v1.toNat)) x29.toNat) (((), ()), ()) ty183 rfl rfl rfl h54.lt (cZ _) (.cons aA .nil)) ?_)
    rintro _ _ _ ⟨rfl, rfl, rfl⟩
    refine ⟨(aM (by kernel_rfl) (aM (by kernel_rfl) (aM (by kernel_rfl) (aM (by kernel_rfl) (aM (by kernel_rfl) (aM (by kernel_rfl) bV)))))), ?_⟩
    refine cN (nT (aD (dA aB fun hn55 => (aP (aF rfl (aH rfl (aH (v := .bool (true)) rfl (nl (bR (rT (?_)))))))))))
    obtain rfl := si H
    exact back2 () rfl (ResV.tmp (v := .int .i64 (x29)) rfl) (ResV.tmp (v := .bool (true)) rfl) rfl cP (.cons aA .nil)
   ·refine bI (nT (aD (dJ [(0, .slice x_v0.1 v0.length x_v0.2), (1, .int .i64 (v1)), (4, .func (.func 165) #[] #[]), (12, .int .i64 (x8)), (13, .int .i64 (x29))] 1 [0, 1, 2, 3, 4, 5, 6, 7, 8, 9, 10, 11, 12, 13, 14, 15] [13, 15] [] mixed (by kernel_rfl) (by decide) dL ⟨rfl, rfl, rfl, rfl, rfl, trivial⟩ rfl okNil (w_p rfl (aE rfl) (w_p rfl (aE rfl) (w_p rfl (aE rfl) (w_p rfl (aE rfl) (w_p rfl (aE rfl) (w_p rfl (aE rfl) (gdo H fun h56 H => ?_))))))))))
    refine w_o rfl (fun F => (bY dX ty183 rfl rfl h56 (aB.app F))) ?_
    refine w_o (v := .agg #[.string (((nth ((v0.set v1.toNat (nth v0 v3.toNat)).set v3.toNat (nth v0 v1.toNat)) x29.toNat).1).1), .string (((nth ((v0.set v1.toNat (nth v0 v3.toNat)).set v3.toNat (nth v0 v1.toNat)) x29.toNat).1).2), ((nth ((v0.set v1.toNat (nth v0 v3.toNat)).set v3.toNat (nth v0 v1.toNat)) x29.toNat).2).1]) rfl (fun F => (cB (i := x29.toNat) ty183 rfl (aN (bM (aB.app F))) h56.lt)) (w_p rfl (aE rfl) (w_p rfl (aE rfl) (gdo H fun h57 H => ?_)))
    refine w_o rfl (fun F => (bY dX ty183 rfl rfl h57 (aB.app F))) ?_
    refine w_o (v := .agg #[.string (((nth ((v0.set v1.toNat (nth v0 v3.toNat)).set v3.toNat (nth v0 v1.toNat)) x8.toNat).1).1), .string (((nth ((v0.set v1.toNat (nth v0 v3.toNat)).set v3.toNat (nth v0 v1.toNat)) x8.toNat).1).2), ((nth ((v0.set v1.toNat (nth v0 v3.toNat)).set v3.toNat (nth v0 v1.toNat)) x8.toNat).2).1]) rfl (fun F => (cB (i := x8.toNat) ty183 rfl (aN (bM (aB.app F))) h57.lt)) ?_
    refine w_o rfl (fun F => (bY dX ty183 rfl rfl h57 (aB.app F))) (cM rfl rfl cQ rfl (n_setT (l := ((v0.set v1.toNat (nth v0 v3.toNat)).set v3.toNat (nth v0 v1.toNat))) (α := PostH) (oa := x_v0.1) x8.toNat (nth ((v0.set v1.toNat (nth v0 v3.toNat)).set v3.toNat (nth v0 v1.toNat)) x29.toNat) (((), ()), ()) ty183 rfl rfl rfl h57.lt (cZ _) (.cons aA .nil)) ?_)
    rintro _ _ _ ⟨rfl, rfl, rfl⟩
    refine gdo H fun h58 H => ?_
    refine ⟨(aM (by kernel_rfl) (aM (by kernel_rfl) (bW rfl rfl (fun F => (bY dX ty183 rfl rfl h58 (aB.app F))) (aM (by kernel_rfl) (aM (by kernel_rfl) bV))))), ?_⟩
    refine gdo H fun h59 H => ?_
    refine w_o rfl (fun F => (bY dX ty183 rfl rfl h59 (aB.app F))) (cM rfl rfl cQ rfl (n_setT (l := (((v0.set v1.toNat (nth v0 v3.toNat)).set v3.toNat (nth v0 v1.toNat)).set x8.toNat (nth ((v0.set v1.toNat (nth v0 v3.toNat)).set v3.toNat (nth v0 v1.toNat)) x29.toNat))) (α := PostH) (oa := x_v0.1) x29.toNat (nth ((v0.set v1.toNat (nth v0 v3.toNat)).set v3.toNat (nth v0 v1.toNat)) x8.toNat) (((), ()), ()) ty183 rfl rfl rfl h59.lt (cZ _) (.cons aA .nil)) ?_)
    rintro _ _ _ ⟨rfl, rfl, rfl⟩
    refine ⟨(aM (by kernel_rfl) (aM (by kernel_rfl) (aM (by kernel_rfl) (aM (by kernel_rfl) (aM (by kernel_rfl) (aM (by kernel_rfl) bV)))))), ?_⟩
    refine cN (nT (aD (dA aB fun hn60 => (aP (aF rfl (gdo H fun h61 H => (aG (bS rfl rfl h61) (aH rfl (nl (sr (aF rfl ?_)))))))))))
    refine gdo H fun h62 H => (aG (cT rfl rfl h62) (aH rfl (nl (bdo H fun x63 hx64 H => (tMidC (ι := Unit) (fun ψ => [(0, .slice x_v0.1 v0.length x_v0.2), (1, .int .i64 (v1)), (13, .int .i64 (x63.2))]) (fun ψ => [tree (.slice x_v0.1 v0.length x_v0.2) x63.1]) ?_ ?_)))))
    ·refine aQ (dH hx64 () (fun Q67 _ => [(0, .slice x_v0.1 v0.length x_v0.2), (1, .int .i64 (v1)), (4, .func (.func 165) #[] #[]), (12, .int .i64 (Q67.2.1)), (13, .int .i64 (Q67.2.2))]) (fun Q67 _ => [tree (.slice x_v0.1 v0.length x_v0.2) Q67.1]) (.cons aA .nil) ?_)
     rintro _ Q67 z68 t70 H1 hi71 hb72
     unfold p_partitionH_b2 at H1
     refine aQ (dA aB fun hn75 => (bdo H1 fun x76 hx77 H1 => (tMidC (ι := Unit) (fun ψ => [(0, .slice x_v0.1 v0.length x_v0.2), (1, .int .i64 (v1)), (4, .func (.func 165) #[] #[]), (12, .int .i64 (x76)), (13, .int .i64 (Q67.2.2))]) (fun ψ => [tree (.slice x_v0.1 v0.length x_v0.2) Q67.1]) ?_ ?_)))
     ·refine aQ (dH hx77 () (fun Q80 _ => [(0, .slice x_v0.1 v0.length x_v0.2), (1, .int .i64 (v1)), (4, .func (.func 165) #[] #[]), (12, .int .i64 (Q80)), (13, .int .i64 (Q67.2.2))]) (fun _ _ => [tree (.slice x_v0.1 v0.length x_v0.2) Q67.1]) (.cons aA .nil) ?_)
      rintro _ Q80 z81 t83 H2 hi84 hb85
      unfold p_partitionH_b3 at H2
      refine aD (bdo H2 fun b88 j89 H2 => (dG [(120, .bool (b88)), (0, .slice x_v0.1 v0.length x_v0.2), (1, .int .i64 (v1)), (4, .func (.func 165) #[] #[]), (12, .int .i64 (Q80)), (13, .int .i64 (Q67.2.2))] ?_ ?_))
      ·refine dI [(0, .slice x_v0.1 v0.length x_v0.2), (1, .int .i64 (v1)), (4, .func (.func 165) #[] #[]), (12, .int .i64 (Q80)), (13, .int .i64 (Q67.2.2))] mixed (.inr (by kernel_rfl)) ⟨rfl, rfl, rfl, rfl, rfl, trivial⟩ rfl (bC rfl (bC rfl (aY (cW rfl rfl) ?_)))
       rcases aK (decide (Q80 ≤ Q67.2.2)) with h90 | h90
       ·have j89 := cdT h90 j89
        refine bD (aE rfl) h90 (aZ rfl (aE rfl) (aZ rfl (aE rfl) (aZ rfl (aE rfl) (gdo j89 fun h91 j89 => (bB rfl (bY dX ty183 rfl rfl h91 aB) (bB (v := .agg #[.string (((nth Q67.1 Q80.toNat).1).1), .string (((nth Q67.1 Q80.toNat).1).2), ((nth Q67.1 Q80.toNat).2).1]) rfl (cB (i := Q80.toNat) ty183 rfl (aN (bM aB)) h91.lt) (aZ rfl (aE rfl) (aZ rfl (aE rfl) (gdo j89 fun h92 j89 => ?_)))))))))
        refine bB rfl (bY dX ty183 rfl rfl h92 aB) (bB (v := .agg #[.string (((nth Q67.1 v1.toNat).1).1), .string (((nth Q67.1 v1.toNat).1).2), ((nth Q67.1 v1.toNat).2).1]) rfl (cB (i := v1.toNat) ty183 rfl (aN (bM aB)) h92.lt) (bdo j89 fun r93 h94 j89 => (bB (v := .int .i64 (r93)) rfl (Ex.dyn (caps := []) (vs := [.agg #[.string (((nth Q67.1 Q80.toNat).1).1), .string (((nth Q67.1 Q80.toNat).1).2), ((nth Q67.1 Q80.toNat).2).1], .agg #[.string (((nth Q67.1 v1.toNat).1).1), .string (((nth Q67.1 v1.toNat).1).2), ((nth Q67.1 v1.toNat).2).1]]) rfl rfl (bO (c_impl_indexOf_2 (nth Q67.1 Q80.toNat) (nth Q67.1 v1.toNat) h94) rfl aO)) (aZ rfl (cS rfl rfl) (aY (bQ rfl rfl) ?_)))))
        obtain rfl := si j89
        show At _ _ _ _ _ _
        exact n1 ⟨rfl, rfl, rfl, rfl, rfl, rfl, trivial⟩
       ·have j89 := cdF h90 j89
        refine bD (aE rfl) h90 ?_
        iterate 11 refine bF rfl ?_
        refine aY (v := .bool (false)) (bP rfl rfl) ?_
        obtain rfl := si j89
        show At _ _ _ _ _ _
        exact n1 ⟨rfl, rfl, rfl, rfl, rfl, rfl, trivial⟩
      refine cH H2 rfl (fun h95 H2 => ?_) (fun h95 H2 => ?_)
      ·exact bI (nT (aQ (aP (aF rfl (gdo H2 fun h96 H2 => (aG (bS rfl rfl h96) (aH rfl (aJ (nB (nLI () (hi84 _ (sm H2)) (.cons aA .nil) ))))))))))
      ·refine dD (xT (xT (xE (?_))))
       obtain rfl := hb85 _ (sm H2)
       exact nMC () ⟨rfl, rfl, rfl, rfl, rfl, trivial⟩ bU (.cons aA .nil)
     ·intro y82
      show Tr _ _ _ _ _ [(0, .slice x_v0.1 v0.length x_v0.2), (1, .int .i64 (v1)), (4, .func (.func 165) #[] #[]), (12, .int .i64 (x76)), (13, .int .i64 (Q67.2.2))] _ [tree (.slice x_v0.1 v0.length x_v0.2) Q67.1]
      refine bdo H1 fun x97 hx98 H1 => (tMidC (ι := Unit) (fun ψ => [(0, .slice x_v0.1 v0.length x_v0.2), (1, .int .i64 (v1)), (4, .func (.func 165) #[] #[]), (12, .int .i64 (x76)), (13, .int .i64 (x97))]) (fun ψ => [tree (.slice x_v0.1 v0.length x_v0.2) Q67.1]) ?_ ?_)
      ·refine aQ (dH hx98 () (fun Q101 _ => [(0, .slice x_v0.1 v0.length x_v0.2), (1, .int .i64 (v1)), (4, .func (.func 165) #[] #[]), (12, .int .i64 (x76)), (13, .int .i64 (Q101))]) (fun _ _ => [tree (.slice x_v0.1 v0.length x_v0.2) Q67.1]) (.cons aA .nil) ?_)
       rintro _ Q101 z102 t104 H2 hi105 hb106
       unfold p_partitionH_b4 at H2
       refine aD (bdo H2 fun b109 j110 H2 => (dG [(139, .bool (b109)), (0, .slice x_v0.1 v0.length x_v0.2), (1, .int .i64 (v1)), (4, .func (.func 165) #[] #[]), (12, .int .i64 (x76)), (13, .int .i64 (Q101))] ?_ ?_))
       ·refine dI [(0, .slice x_v0.1 v0.length x_v0.2), (1, .int .i64 (v1)), (4, .func (.func 165) #[] #[]), (12, .int .i64 (x76)), (13, .int .i64 (Q101))] mixed (.inr (by kernel_rfl)) ⟨rfl, rfl, rfl, rfl, rfl, trivial⟩ rfl (bC rfl (bC rfl (aY (cW rfl rfl) ?_)))
        rcases aK (decide (x76 ≤ Q101)) with h111 | h111
        ·have j110 := cdT h111 j110
         refine bD (aE rfl) h111 (aZ rfl (aE rfl) (aZ rfl (aE rfl) (aZ rfl (aE rfl) (gdo j110 fun h112 j110 => (bB rfl (bY dX ty183 rfl rfl h112 aB) (bB (v := .agg #[.string (((nth Q67.1 Q101.toNat).1).1), .string (((nth Q67.1 Q101.toNat).1).2), ((nth Q67.1 Q101.toNat).2).1]) rfl (cB (i := Q101.toNat) ty183 rfl (aN (bM aB)) h112.lt) (aZ rfl (aE rfl) (aZ rfl (aE rfl) (gdo j110 fun h113 j110 => ?_)))))))))
         refine bB rfl (bY dX ty183 rfl rfl h113 aB) (bB (v := .agg #[.string (((nth Q67.1 v1.toNat).1).1), .string (((nth Q67.1 v1.toNat).1).2), ((nth Q67.1 v1.toNat).2).1]) rfl (cB (i := v1.toNat) ty183 rfl (aN (bM aB)) h113.lt) (bdo j110 fun r114 h115 j110 => (bB (v := .int .i64 (r114)) rfl (Ex.dyn (caps := []) (vs := [.agg #[.string (((nth Q67.1 Q101.toNat).1).1), .string (((nth Q67.1 Q101.toNat).1).2), ((nth Q67.1 Q101.toNat).2).1], .agg #[.string (((nth Q67.1 v1.toNat).1).1), .string (((nth Q67.1 v1.toNat).1).2), ((nth Q67.1 v1.toNat).2).1]]) rfl rfl (bO (c_impl_indexOf_2 (nth Q67.1 Q101.toNat) (nth Q67.1 v1.toNat) h115) rfl aO)) (aZ rfl (cS rfl rfl) (aZ rfl (cY rfl) (aY (bQ rfl rfl) ?_))))))
         obtain rfl := si j110
         show At _ _ _ _ _ _
         exact n1 ⟨rfl, rfl, rfl, rfl, rfl, rfl, trivial⟩
        ·have j110 := cdF h111 j110
         refine bD (aE rfl) h111 ?_
         iterate 12 refine bF rfl ?_
         refine aY (v := .bool (false)) (bP rfl rfl) ?_
         obtain rfl := si j110
         show At _ _ _ _ _ _
         exact n1 ⟨rfl, rfl, rfl, rfl, rfl, rfl, trivial⟩
       refine cH H2 rfl (fun h116 H2 => ?_) (fun h116 H2 => ?_)
       ·exact bI (nT (aQ (aP (aF rfl (gdo H2 fun h117 H2 => (aG (cT rfl rfl h117) (aH rfl (aJ (nB (nLI () (hi105 _ (sm H2)) (.cons aA .nil) ))))))))))
       ·refine dD (xT (xT (xE (?_))))
        obtain rfl := hb106 _ (sm H2)
        exact nMC () ⟨rfl, rfl, rfl, rfl, rfl, trivial⟩ bU (.cons aA .nil)
      ·intro y103
       show Tr _ _ _ _ _ [(0, .slice x_v0.1 v0.length x_v0.2), (1, .int .i64 (v1)), (4, .func (.func 165) #[] #[]), (12, .int .i64 (x76)), (13, .int .i64 (x97))] _ [tree (.slice x_v0.1 v0.length x_v0.2) Q67.1]
       refine aD (sr (aF rfl (aF rfl (aG (cX rfl rfl) (nl (cH H1 rfl (fun h118 H1 => ?_) (fun h118 H1 => ?_)))))))
       ·refine dD (xT (xB rfl (xT (xE (?_)))))
        obtain rfl := hb72 _ (sm H1)
        exact nMC () ⟨rfl, rfl, rfl, trivial⟩ bU (.cons aA .nil)
       ·refine bI (nT (aD (dJ [(0, .slice x_v0.1 v0.length x_v0.2), (1, .int .i64 (v1)), (4, .func (.func 165) #[] #[]), (12, .int .i64 (x76)), (13, .int .i64 (x97))] 1 [0, 1, 2, 3, 4, 5, 6, 7, 8, 9, 10, 11, 12, 13, 14, 15] [13, 15] [] mixed (by kernel_rfl) (by decide) dL ⟨rfl, rfl, rfl, rfl, rfl, trivial⟩ rfl okNil (w_p rfl (aE rfl) (w_p rfl (aE rfl) (w_p rfl (aE rfl) (w_p rfl (aE rfl) (w_p rfl (aE rfl) (w_p rfl (aE rfl) (gdo H1 fun h119 H1 => ?_))))))))))
        refine w_o rfl (fun F => (bY dX ty183 rfl rfl h119 (aB.app F))) ?_
        refine w_o (v := .agg #[.string (((nth Q67.1 x97.toNat).1).1), .string (((nth Q67.1 x97.toNat).1).2), ((nth Q67.1 x97.toNat).2).1]) rfl (fun F => (cB (i := x97.toNat) ty183 rfl (aN (bM (aB.app F))) h119.lt)) (w_p rfl (aE rfl) (w_p rfl (aE rfl) (gdo H1 fun h120 H1 => ?_)))
        refine w_o rfl (fun F => (bY dX ty183 rfl rfl h120 (aB.app F))) ?_
        refine w_o (v := .agg #[.string (((nth Q67.1 x76.toNat).1).1), .string (((nth Q67.1 x76.toNat).1).2), ((nth Q67.1 x76.toNat).2).1]) rfl (fun F => (cB (i := x76.toNat) ty183 rfl (aN (bM (aB.app F))) h120.lt)) ?_
        refine w_o rfl (fun F => (bY dX ty183 rfl rfl h120 (aB.app F))) (cM rfl rfl cQ rfl (n_setT (l := Q67.1) (α := PostH) (oa := x_v0.1) x76.toNat (nth Q67.1 x97.toNat) (((), ()), ()) ty183 rfl rfl rfl h120.lt (cZ _) (.cons aA .nil)) ?_)
        rintro _ _ _ ⟨rfl, rfl, rfl⟩
        refine gdo H1 fun h121 H1 => ?_
        refine ⟨(aM (by kernel_rfl) (aM (by kernel_rfl) (bW rfl rfl (fun F => (bY dX ty183 rfl rfl h121 (aB.app F))) (aM (by kernel_rfl) (aM (by kernel_rfl) bV))))), ?_⟩
        refine gdo H1 fun h122 H1 => ?_
        refine w_o rfl (fun F => (bY dX ty183 rfl rfl h122 (aB.app F))) (cM rfl rfl cQ rfl (n_setT (l := (Q67.1.set x76.toNat (nth Q67.1 x97.toNat))) (α := PostH) (oa := x_v0.1) x97.toNat (nth Q67.1 x76.toNat) (((), ()), ()) ty183 rfl rfl rfl h122.lt (cZ _) (.cons aA .nil)) ?_)
        rintro _ _ _ ⟨rfl, rfl, rfl⟩
        refine ⟨(aM (by kernel_rfl) (aM (by kernel_rfl) (aM (by kernel_rfl) (aM (by kernel_rfl) (aM (by kernel_rfl) (aM (by kernel_rfl) bV)))))), ?_⟩
        refine cN (nT (aD (dA aB fun hn123 => (aP (aF rfl (gdo H1 fun h124 H1 => (aG (bS rfl rfl h124) (aH rfl (nl (aP (aF rfl ?_)))))))))))
        exact gdo H1 fun h125 H1 => (aG (cT rfl rfl h125) (aH rfl (aJ (nB (nLI () (hi71 _ (sm H1)) (.cons aA .nil) )))))
    ·intro y69
     show Tr _ _ _ _ _ [(0, .slice x_v0.1 v0.length x_v0.2), (1, .int .i64 (v1)), (13, .int .i64 (x63.2))] _ [tree (.slice x_v0.1 v0.length x_v0.2) x63.1]
     refine aD (dA aB fun hn126 => (dJ [(0, .slice x_v0.1 v0.length x_v0.2), (1, .int .i64 (v1)), (13, .int .i64 (x63.2))] 1 [0, 1, 2, 3, 4, 5, 6, 7, 8, 9, 10, 11, 12, 13, 14, 15] [13, 15] [] mixed (by kernel_rfl) (by decide) dL ⟨rfl, rfl, rfl, trivial⟩ rfl okNil (w_p rfl (aE rfl) (w_p rfl (aE rfl) (w_p rfl (aE rfl) (w_p rfl (aE rfl) (w_p rfl (aE rfl) (w_p rfl (aE rfl) (gdo H fun h127 H => ?_)))))))))
     refine w_o rfl (fun F => (bY dX ty183 rfl rfl h127 (aB.app F))) ?_
     refine w_o (v := .agg #[.string (((nth x63.1 v1.toNat).1).1), .string (((nth x63.1 v1.toNat).1).2), ((nth x63.1 v1.toNat).2).1]) rfl (fun F => (cB (i := v1.toNat) ty183 rfl (aN (bM (aB.app F))) h127.lt)) (w_p rfl (aE rfl) (w_p rfl (aE rfl) (gdo H fun h128 H => ?_)))
     refine w_o rfl (fun F => (bY dX ty183 rfl rfl h128 (aB.app F))) ?_
     refine w_o (v := .agg #[.string (((nth x63.1 x63.2.toNat).1).1), .string (((nth x63.1 x63.2.toNat).1).2), ((nth x63.1 x63.2.toNat).2).1]) rfl (fun F => (cB (i := x63.2.toNat) ty183 rfl (aN (bM (aB.app F))) h128.lt)) ?_
     refine w_o rfl (fun F => (bY dX ty183 rfl rfl h128 (aB.app F))) (cM rfl rfl cQ rfl (n_setT (l := x63.1) (α := PostH) (oa := x_v0.1) x63.2.toNat (nth x63.1 v1.toNat) (((), ()), ()) ty183 rfl rfl rfl h128.lt (cZ _) (.cons aA .nil)) ?_)
     rintro _ _ _ ⟨rfl, rfl, rfl⟩
     refine gdo H fun h129 H => ?_
     refine ⟨(aM (by kernel_rfl) (aM (by kernel_rfl) (bW rfl rfl (fun F => (bY dX ty183 rfl rfl h129 (aB.app F))) (aM (by kernel_rfl) (aM (by kernel_rfl) bV))))), ?_⟩
     refine gdo H fun h130 H => ?_
     refine w_o rfl (fun F => (bY dX ty183 rfl rfl h130 (aB.app F))) (cM rfl rfl cQ rfl (n_setT (l := (x63.1.set x63.2.toNat (nth x63.1 v1.toNat))) (α := PostH) (oa := x_v0.1) v1.toNat (nth x63.1 x63.2.toNat) (((), ()), ()) ty183 rfl rfl rfl h130.lt (cZ _) (.cons aA .nil)) ?_)
     rintro _ _ _ ⟨rfl, rfl, rfl⟩
     refine ⟨(aM (by kernel_rfl) (aM (by kernel_rfl) (aM (by kernel_rfl) (aM (by kernel_rfl) (aM (by kernel_rfl) (aM (by kernel_rfl) bV)))))), ?_⟩
     refine cN (nT (aD (dA aB fun hn131 => (aP (aF rfl (aH rfl (aH (v := .bool (false)) rfl (nl (bR ?_)))))))))
     obtain rfl := si H
     exact back2 () rfl (ResV.tmp (v := .int .i64 (x63.2)) rfl) (ResV.tmp (v := .bool (false)) rfl) rfl cP (.cons aA .nil)
noncomputable def p_slices_nextPowerOfTwo (v0 : Int) : Option (UInt64) := bd (p_math_bits_Len (w64 v0)) fun r1 => gd (0 ≤ r1) <| some (wl (1 : UInt64) r1)
theorem c_slices_nextPowerOfTwo {r : UInt64} (v0 : Int) (H : p_slices_nextPowerOfTwo v0 = some r) : Fn' prog 213 #[.int .i64 (v0)] [] [] (ι := Unit) (fun _ => .int .u64 (r.toNat : Int)) (fun _ => []) (fun _ => []) := by
 refine cof (args := [_]) func213 ntmps213 fun c => ?_
 unfold p_slices_nextPowerOfTwo at H
 refine sr (aH rfl (nl (sr (aF rfl (aG (v := .int .u64 ((w64 v0).toNat : Int)) (p_iw dV underlying218 rfl) (bdo H fun r1 h2 H => (aI (bO (c_math_bits_Len (w64 v0) h2) rfl aO) (gdo H fun h3 H => (aG (v := .int .u64 ((wl (1 : UInt64) r1).toNat : Int)) (p_wshl (k := r1) rfl rfl h3) (aH rfl (nl ?_)))))))))))
 obtain rfl := si H
 exact bR bk
noncomputable def p_slices_xorshift_Next (v0 : UInt64) : Option (UInt64 × UInt64) := some (((v0 ^^^ (wl v0 ((13 : UInt64).toNat : Int))) ^^^ (wr (v0 ^^^ (wl v0 ((13 : UInt64).toNat : Int))) ((7 : UInt64).toNat : Int))) ^^^ (wl ((v0 ^^^ (wl v0 ((13 : UInt64).toNat : Int))) ^^^ (wr (v0 ^^^ (wl v0 ((13 : UInt64).toNat : Int))) ((7 : UInt64).toNat : Int))) ((17 : UInt64).toNat : Int)), ((v0 ^^^ (wl v0 ((13 : UInt64).toNat : Int))) ^^^ (wr (v0 ^^^ (wl v0 ((13 : UInt64).toNat : Int))) ((7 : UInt64).toNat : Int))) ^^^ (wl ((v0 ^^^ (wl v0 ((13 : UInt64).toNat : Int))) ^^^ (wr (v0 ^^^ (wl v0 ((13 : UInt64).toNat : Int))) ((7 : UInt64).toNat : Int))) ((17 : UInt64).toNat : Int)))
theorem c_slices_xorshift_Next {r : UInt64 × UInt64} (g_v0 : Nat) (v0 : UInt64) (H : p_slices_xorshift_Next v0 = some r) : Fn' prog 214 #[.pointer (some ⟨g_v0, 0, none⟩)] [] [box g_v0 238 [.int .u64 (v0.toNat : Int)]] (ι := Unit) (fun _ => .int .u64 (r.1.toNat : Int)) (fun _ => []) (fun _ => [box g_v0 238 [.int .u64 (r.2.toNat : Int)]]) := by
 refine cof (args := [_]) func214 ntmps214 fun c => ?_
 unfold p_slices_xorshift_Next at H
 refine sr (aH rfl (nl (aD (dJ [(0, .pointer (some ⟨g_v0, 0, none⟩))] 1 [0, 1, 2, 3, 4, 5, 6, 7, 8, 9] [9] [] mixed (by kernel_rfl) (by decide) dL ⟨rfl, trivial⟩ rfl okNil (w_p rfl (aE rfl) (w_p rfl (p_nil rfl) ?_))))))
 refine w_o rfl (fun F => (bJ ty238 rfl (aB.app F) rfl)) (w_p rfl (aE rfl) (w_p rfl (p_nil rfl) ?_))
 refine w_o rfl (fun F => (bJ ty238 rfl (aB.app F) rfl)) (w_p (v := .int .u64 ((wl v0 ((13 : UInt64).toNat : Int)).toNat : Int)) rfl (p_wshl (k := ((13 : UInt64).toNat : Int)) rfl rfl (by decide)) (w_p (v := .int .u64 ((v0 ^^^ (wl v0 ((13 : UInt64).toNat : Int))).toNat : Int)) rfl (p_wxor rfl rfl) (w_p rfl (p_nil rfl) (cM rfl rfl cQ rfl (n_store (cs' := [.int .u64 ((v0 ^^^ (wl v0 ((13 : UInt64).toNat : Int))).toNat : Int)]) ty238 rfl rfl dB rfl (one_of rfl) (Nat.le_of_ble_eq_true rfl) rfl) ?_))))
 rintro _ _ _ ⟨rfl, rfl, rfl⟩
 refine ⟨(aM (by kernel_rfl) (aM (by kernel_rfl) bV)), ?_⟩
 refine cN (nT (aD (dJ [(0, .pointer (some ⟨g_v0, 0, none⟩))] 1 [0, 1, 2, 3, 4, 5, 6, 7, 8, 9] [9] [] mixed (by kernel_rfl) (by decide) dL ⟨rfl, trivial⟩ rfl okNil (w_p rfl (aE rfl) (w_p rfl (p_nil rfl) ?_)))))
 refine w_o rfl (fun F => (bJ ty238 rfl (aB.app F) rfl)) (w_p rfl (aE rfl) (w_p rfl (p_nil rfl) ?_))
 refine w_o rfl (fun F => (bJ ty238 rfl (aB.app F) rfl)) (w_p (v := .int .u64 ((wr (v0 ^^^ (wl v0 ((13 : UInt64).toNat : Int))) ((7 : UInt64).toNat : Int)).toNat : Int)) rfl (p_wshr (k := ((7 : UInt64).toNat : Int)) rfl rfl (by decide)) (w_p (v := .int .u64 (((v0 ^^^ (wl v0 ((13 : UInt64).toNat : Int))) ^^^ (wr (v0 ^^^ (wl v0 ((13 : UInt64).toNat : Int))) ((7 : UInt64).toNat : Int))).toNat : Int)) rfl (p_wxor rfl rfl) (w_p rfl (p_nil rfl) (cM rfl rfl cQ rfl (n_store (cs' := [.int .u64 (((v0 ^^^ (wl v0 ((13 : UInt64).toNat : Int))) ^^^ (wr (v0 ^^^ (wl v0 ((13 : UInt64).toNat : Int))) ((7 : UInt64).toNat : Int))).toNat : Int)]) ty238 rfl rfl dB rfl (one_of rfl) (Nat.le_of_ble_eq_true rfl) rfl) ?_))))
 rintro _ _ _ ⟨rfl, rfl, rfl⟩
 refine ⟨(aM (by kernel_rfl) (aM (by kernel_rfl) bV)), ?_⟩
 refine cN (nT (aD (dJ [(0, .pointer (some ⟨g_v0, 0, none⟩))] 1 [0, 1, 2, 3, 4, 5, 6, 7, 8, 9] [9] [] mixed (by kernel_rfl) (by decide) dL ⟨rfl, trivial⟩ rfl okNil (w_p rfl (aE rfl) (w_p rfl (p_nil rfl) ?_)))))
 refine w_o rfl (fun F => (bJ ty238 rfl (aB.app F) rfl)) (w_p rfl (aE rfl) (w_p rfl (p_nil rfl) ?_))
 refine w_o rfl (fun F => (bJ ty238 rfl (aB.app F) rfl)) (w_p (v := .int .u64 ((wl ((v0 ^^^ (wl v0 ((13 : UInt64).toNat : Int))) ^^^ (wr (v0 ^^^ (wl v0 ((13 : UInt64).toNat : Int))) ((7 : UInt64).toNat : Int))) ((17 : UInt64).toNat : Int)).toNat : Int)) rfl (p_wshl (k := ((17 : UInt64).toNat : Int)) rfl rfl (by decide)) (w_p (v := .int .u64 ((((v0 ^^^ (wl v0 ((13 : UInt64).toNat : Int))) ^^^ (wr (v0 ^^^ (wl v0 ((13 : UInt64).toNat : Int))) ((7 : UInt64).toNat : Int))) ^^^ (wl ((v0 ^^^ (wl v0 ((13 : UInt64).toNat : Int))) ^^^ (wr (v0 ^^^ (wl v0 ((13 : UInt64).toNat : Int))) ((7 : UInt64).toNat : Int))) ((17 : UInt64).toNat : Int))).toNat : Int)) rfl (p_wxor rfl rfl) (w_p rfl (p_nil rfl) (cM rfl rfl cQ rfl (n_store (cs' := [.int .u64 ((((v0 ^^^ (wl v0 ((13 : UInt64).toNat : Int))) ^^^ (wr (v0 ^^^ (wl v0 ((13 : UInt64).toNat : Int))) ((7 : UInt64).toNat : Int))) ^^^ (wl ((v0 ^^^ (wl v0 ((13 : UInt64).toNat : Int))) ^^^ (wr (v0 ^^^ (wl v0 ((13 : UInt64).toNat : Int))) ((7 : UInt64).toNat : Int))) ((17 : UInt64).toNat : Int))).toNat : Int)]) ty238 rfl rfl dB rfl (one_of rfl) (Nat.le_of_ble_eq_true rfl) rfl) ?_))))
 rintro _ _ _ ⟨rfl, rfl, rfl⟩
 refine ⟨(aM (by kernel_rfl) (aM (by kernel_rfl) bV)), ?_⟩
 refine cN (nT (sr (aF rfl (aG (p_nil rfl) (aI (bJ ty238 rfl aB rfl) (aH rfl (nl (bR ?_))))))))
 obtain rfl := si H
 exact back1 () rfl (ResV.tmp (v := .int .u64 ((((v0 ^^^ (wl v0 ((13 : UInt64).toNat : Int))) ^^^ (wr (v0 ^^^ (wl v0 ((13 : UInt64).toNat : Int))) ((7 : UInt64).toNat : Int))) ^^^ (wl ((v0 ^^^ (wl v0 ((13 : UInt64).toNat : Int))) ^^^ (wr (v0 ^^^ (wl v0 ((13 : UInt64).toNat : Int))) ((7 : UInt64).toNat : Int))) ((17 : UInt64).toNat : Int))).toNat : Int)) rfl) rfl cP (.cons aA .nil)
noncomputable def p_breakPatternsH_b0 (v1 : Int) (v2 : Int) (r4 : UInt64) (Q14 : (List PostH) × UInt64 × Int) : Option (((List PostH) × UInt64 × Int) ⊕ ((List PostH))) := gd (I64 ((v1 + (((v2 - v1).tdiv 4) * 2)) + 1)) <| cond (decide (Q14.2.2 ≤ ((v1 + (((v2 - v1).tdiv 4) * 2)) + 1))) (bd (p_slices_xorshift_Next Q14.2.1) fun r25 => gd (I64 ((r25.1 &&& (r4 - (1 : UInt64))).toNat : Int)) <| bd (cond (decide ((v2 - v1) ≤ ((r25.1 &&& (r4 - (1 : UInt64))).toNat : Int))) (gd (I64 (((r25.1 &&& (r4 - (1 : UInt64))).toNat : Int) - (v2 - v1))) <| some (((r25.1 &&& (r4 - (1 : UInt64))).toNat : Int) - (v2 - v1))) (some ((r25.1 &&& (r4 - (1 : UInt64))).toNat : Int))) fun x30 => gd (I64 (v1 + x30)) <| gd (ix (v1 + x30) Q14.1.length) <| gd (ix Q14.2.2 Q14.1.length) <| gd (ix Q14.2.2 (Q14.1.set Q14.2.2.toNat (nth Q14.1 ((v1 + x30).toNat))).length) <| gd (ix (v1 + x30) (Q14.1.set Q14.2.2.toNat (nth Q14.1 ((v1 + x30).toNat))).length) <| gd (I64 (Q14.2.2 + 1)) <| some (.inl (((Q14.1.set Q14.2.2.toNat (nth Q14.1 ((v1 + x30).toNat))).set ((v1 + x30).toNat) (nth Q14.1 Q14.2.2.toNat)), r25.2, Q14.2.2 + 1))) (some (.inr Q14.1))
noncomputable def p_breakPatternsH (v0 : (List PostH)) (v1 : Int) (v2 : Int) : Option ((List PostH)) := gd (I64 (v2 - v1)) <| cond (decide (8 ≤ (v2 - v1))) (bd (p_slices_nextPowerOfTwo (v2 - v1)) fun r4 => gd (I64 ((v2 - v1).tdiv 4)) <| gd (I64 (((v2 - v1).tdiv 4) * 2)) <| gd (I64 (v1 + (((v2 - v1).tdiv 4) * 2))) <| gd (I64 ((v1 + (((v2 - v1).tdiv 4) * 2)) - 1)) <| bd (lp (p_breakPatternsH_b0 v1 v2 r4) (v0, w64 (v2 - v1), (v1 + (((v2 - v1).tdiv 4) * 2)) - 1)) fun x10 => some x10) (some v0)
theorem c_breakPatternsH {r : (List PostH)} (v0 : (List PostH)) (x_v0 : Option Addr × Nat) (n_v0 : Nat) (e_v0 : n_v0 = v0.length) (v1 : Int) (v2 : Int) (H : p_breakPatternsH v0 v1 v2 = some r) : Fn' prog 203 #[.slice x_v0.1 n_v0 x_v0.2, .int .i64 (v1), .int .i64 (v2), .func (.func 165) #[] #[]] [] [tree (.slice x_v0.1 n_v0 x_v0.2) v0] (ι := Unit) (fun _ => .tuple #[]) (fun _ => []) (fun _ => [tree (.slice x_v0.1 n_v0 x_v0.2) r]) := by
 subst e_v0
 refine cof (args := [_, _, _, _]) func203 ntmps203 fun c => ?_
 unfold p_breakPatternsH at H
 refine sr (aF rfl (aF rfl (gdo H fun h1 H => (aG (cT rfl rfl h1) (aH rfl (nl (sr (aF rfl (aG (p_geq rfl rfl) (nl (cH H rfl (fun h2 H => ?_) (fun h2 H => ?_))))))))))))
 ·refine sr (aF rfl (aG (v := .int .u64 ((w64 (v2 - v1)).toNat : Int)) (p_iw dV underlying238 rfl) (f1 (cE ty238) fun g3 => (stb (cs' := [.int .u64 ((w64 (v2 - v1)).toNat : Int)]) ty238 dB (nl (sr (aF rfl (bdo H fun r4 h5 H => (aI (bO (c_slices_nextPowerOfTwo (v2 - v1) h5) rfl aO) ?_)))))))))
  refine aH rfl (nl (sr (aF rfl (aF rfl (gdo H fun h6 H => (aG (p_quo rfl rfl (by decide) h6) (gdo H fun h7 H => (aG (p_mul rfl rfl h7) (gdo H fun h8 H => (aG (bS rfl rfl h8) ?_))))))))))
  refine gdo H fun h9 H => (aG (cT rfl rfl h9) (aH rfl (nl (bdo H fun x10 hx11 H => (dE (ι := Unit) (fun ψ => []) (fun ψ => [tree (.slice x_v0.1 v0.length x_v0.2) x10]) ?_ ?_)))))
  ·refine aQ (dH hx11 () (fun Q14 _ => [(0, .slice x_v0.1 v0.length x_v0.2), (1, .int .i64 (v1)), (8, .int .i64 (v2 - v1)), (9, .pointer (some ⟨g3, 0, none⟩)), (10, .int .u64 (r4.toNat : Int)), (11, .int .i64 (Q14.2.2))]) (fun Q14 _ => [tree (.slice x_v0.1 v0.length x_v0.2) Q14.1, box g3 238 [.int .u64 (Q14.2.1.toNat : Int)]]) (.cons dl1 (.cons aA .nil)) ?_)
   rintro _ Q14 z15 t17 H1 hi18 hb19
   unfold p_breakPatternsH_b0 at H1
   refine aD (aD (dA aB fun hn22 => (aP (aF rfl (aF rfl (aF rfl (aG (p_quo rfl rfl (by decide) h6) (aG (p_mul rfl rfl h7) (aG (bS rfl rfl h8) ?_)))))))))
   refine gdo H1 fun h23 H1 => (aG (bS rfl rfl h23) (aG (cW rfl rfl) (nl (cH H1 rfl (fun h24 H1 => ?_) (fun h24 H1 => ?_)))))
   ·refine bI (nT (aD (aQ (sr (bdo H1 fun r25 h26 H1 => (f1 (cJ (c_slices_xorshift_Next g3 Q14.2.1 h26) (Solo.box bH) (fun _ => (Solo.box bH)) rfl (.cons dl1 .nil) aO) fun u27 => (aF rfl (aG (v := .int .u64 ((r4 - (1 : UInt64)).toNat : Int)) (p_wsub rfl rfl) (aG (v := .int .u64 ((r25.1 &&& (r4 - (1 : UInt64))).toNat : Int)) (p_wand rfl rfl) (gdo H1 fun h28 H1 => ?_))))))))))
    refine aG (v := .int .i64 (((r25.1 &&& (r4 - (1 : UInt64))).toNat : Int))) (p_wi underlying218 dV rfl h28) (aH rfl (nl (aD (sr (aF rfl (aF rfl (aG (p_geq rfl rfl) (nl (bdo H1 fun x30 hx31 H1 => (tMidC0 (ι := Unit) (fun ψ => [(0, .slice x_v0.1 v0.length x_v0.2), (1, .int .i64 (v1)), (8, .int .i64 (v2 - v1)), (9, .pointer (some ⟨g3, 0, none⟩)), (10, .int .u64 (r4.toNat : Int)), (11, .int .i64 (Q14.2.2)), (12, .int .i64 (x30))]) (fun ψ => [tree (.slice x_v0.1 v0.length x_v0.2) Q14.1, box g3 238 [.int .u64 (r25.2.toNat : Int)]]) ?_ ?_))))))))))
    ·refine aR (b := decide ((v2 - v1) ≤ ((r25.1 &&& (r4 - (1 : UInt64))).toNat : Int))) rfl (fun h29 => ?_) (fun h29 => ?_)
     ·replace hx31 := cdT h29 hx31
      refine aP (aF rfl (aF rfl (gdo hx31 fun h33 hx31 => (aG (cT rfl rfl h33) (aH rfl (aJ ?_))))))
      replace hx31 := Option.some.inj hx31; subst hx31
      exact nMC () ⟨rfl, rfl, rfl, rfl, rfl, rfl, rfl, trivial⟩ bU (.cons dl1 (.cons aA .nil))
     ·replace hx31 := cdF h29 hx31
      refine bI ?_
      replace hx31 := Option.some.inj hx31; subst hx31
      exact nMC () ⟨rfl, rfl, rfl, rfl, rfl, rfl, rfl, trivial⟩ bU (.cons dl1 (.cons aA .nil))
    ·intro y32
     show Tr _ _ _ _ _ [(0, .slice x_v0.1 v0.length x_v0.2), (1, .int .i64 (v1)), (8, .int .i64 (v2 - v1)), (9, .pointer (some ⟨g3, 0, none⟩)), (10, .int .u64 (r4.toNat : Int)), (11, .int .i64 (Q14.2.2)), (12, .int .i64 (x30))] _ [tree (.slice x_v0.1 v0.length x_v0.2) Q14.1, box g3 238 [.int .u64 (r25.2.toNat : Int)]]
     refine dJ [(0, .slice x_v0.1 v0.length x_v0.2), (1, .int .i64 (v1)), (8, .int .i64 (v2 - v1)), (9, .pointer (some ⟨g3, 0, none⟩)), (10, .int .u64 (r4.toNat : Int)), (11, .int .i64 (Q14.2.2)), (12, .int .i64 (x30))] 1 [0, 1, 2, 3, 4, 5, 6, 7, 8, 9, 10, 11, 12, 13, 14, 15, 16, 17, 18, 19] [17, 19] [] mixed (by kernel_rfl) (by decide) dL ⟨rfl, rfl, rfl, rfl, rfl, rfl, rfl, trivial⟩ rfl okNil (w_p rfl (aE rfl) (w_p rfl (aE rfl) (w_p rfl (aE rfl) (w_p rfl (aE rfl) (w_p rfl (aE rfl) (gdo H1 fun h34 H1 => (w_p rfl (bS rfl rfl h34) (w_p rfl (aE rfl) (w_p rfl (aE rfl) ?_)))))))))
     refine w_p rfl (aE rfl) (w_p rfl (bS rfl rfl h34) (gdo H1 fun h35 H1 => ?_))
     refine w_o rfl (fun F => (bY dX ty183 rfl rfl h35 (aB.app F))) ?_
     refine w_o (v := .agg #[.string (((nth Q14.1 ((v1 + x30).toNat)).1).1), .string (((nth Q14.1 ((v1 + x30).toNat)).1).2), ((nth Q14.1 ((v1 + x30).toNat)).2).1]) rfl (fun F => (cB (i := (v1 + x30).toNat) ty183 rfl (aN (bM (aB.app F))) h35.lt)) (w_p rfl (aE rfl) (w_p rfl (aE rfl) (gdo H1 fun h36 H1 => ?_)))
     refine w_o rfl (fun F => (bY dX ty183 rfl rfl h36 (aB.app F))) ?_
     refine w_o (v := .agg #[.string (((nth Q14.1 Q14.2.2.toNat).1).1), .string (((nth Q14.1 Q14.2.2.toNat).1).2), ((nth Q14.1 Q14.2.2.toNat).2).1]) rfl (fun F => (cB (i := Q14.2.2.toNat) ty183 rfl (aN (bM (aB.app F))) h36.lt)) ?_
     refine w_o rfl (fun F => (bY dX ty183 rfl rfl h36 (aB.app F))) (cM rfl rfl cQ rfl (n_setT (l := Q14.1) (α := PostH) (oa := x_v0.1) Q14.2.2.toNat (nth Q14.1 ((v1 + x30).toNat)) (((), ()), ()) ty183 rfl rfl rfl h36.lt (cZ _) (.cons aA .nil)) ?_)
     rintro _ _ _ ⟨rfl, rfl, rfl⟩
     refine gdo H1 fun h37 H1 => ?_
     refine ⟨(aM (by kernel_rfl) (aM (by kernel_rfl) (bW rfl rfl (fun F => (bY dX ty183 rfl rfl h37 (aB.app F))) (aM (by kernel_rfl) (aM (by kernel_rfl) bV))))), ?_⟩
     refine gdo H1 fun h38 H1 => ?_
     refine w_o rfl (fun F => (bY dX ty183 rfl rfl h38 (aB.app F))) (cM rfl rfl cQ rfl (n_setT (l := (Q14.1.set Q14.2.2.toNat (nth Q14.1 ((v1 + x30).toNat)))) (α := PostH) (oa := x_v0.1) ((v1 + x30).toNat) (nth Q14.1 Q14.2.2.toNat) (((), ()), ()) ty183 rfl rfl rfl h38.lt (cZ _) (.cons aA .nil)) ?_)
     rintro _ _ _ ⟨rfl, rfl, rfl⟩
     refine ⟨(aM (by kernel_rfl) (aM (by kernel_rfl) (aM (by kernel_rfl) (aM (by kernel_rfl) (aM (by kernel_rfl) (aM (by kernel_rfl) bV)))))), ?_⟩
     refine cN ?_
     show At _ _ _ _ _ _
     exact nB (nT (dA aB fun hn39 => (aP (aF rfl (gdo H1 fun h40 H1 => (aG (bS rfl rfl h40) (aH rfl (aJ (nLI () (hi18 _ (sm H1)) (.cons aA (.cons aA .nil)))))))))))
   ·refine dD (xT (xT (xE (?_))))
    obtain rfl := hb19 _ (sm H1)
    exact nMC () trivial bU (.cons aA .nil)
  ·intro y16
   show At _ _ [] _ [tree (.slice x_v0.1 v0.length x_v0.2) x10] _
   obtain rfl := si H
   exact back0n () rfl  rfl cP (.cons aA .nil)
 ·refine bI ?_
  obtain rfl := si H
  exact back0n () rfl  rfl cP (.cons aA .nil)
noncomputable def p_pdqsortH_b0 (rc : (List PostH) → Int → Int → Int → Option ((List PostH))) (Q5 : (List PostH) × Int × Int × Int × Bool × Bool) : Option (((List PostH) × Int × Int × Int × Bool × Bool) ⊕ (Unit ⊕ (List PostH))) := gd (I64 (Q5.2.2.1 - Q5.2.1)) <| cond (decide ((Q5.2.2.1 - Q5.2.1) ≤ 12)) (bd (p_insertionSortH Q5.1 Q5.2.1 Q5.2.2.1) fun r16 => some (.inr (.inr r16))) (cond (decide (Q5.2.2.2.1 = 0)) (bd (p_heapSortH Q5.1 Q5.2.1 Q5.2.2.1) fun r21 => some (.inr (.inr r21))) (bd (cond (!Q5.2.2.2.2.1) (bd (p_breakPatternsH Q5.1 Q5.2.1 Q5.2.2.1) fun r29 => gd (I64 (Q5.2.2.2.1 - 1)) <| some (r29, Q5.2.2.2.1 - 1)) (some (Q5.1, Q5.2.2.2.1))) fun x26 => bd (p_choosePivotH x26.1 Q5.2.1 Q5.2.2.1) fun r35 => bd (cond (decide (r35.2 = 2)) (bd (p_reverseRangeH x26.1 Q5.2.1 Q5.2.2.1) fun r41 => gd (I64 (Q5.2.2.1 - 1)) <| gd (I64 (r35.1 - Q5.2.1)) <| gd (I64 ((Q5.2.2.1 - 1) - (r35.1 - Q5.2.1))) <| some (r41, (Q5.2.2.1 - 1) - (r35.1 - Q5.2.1), 1)) (some (x26.1, r35.1, r35.2))) fun x38 => bd (cond (Q5.2.2.2.2.1) (cond (Q5.2.2.2.2.2) (some (decide (x38.2.2 = 1))) (some (false))) (some (false))) fun b49 => cond (b49) (bd (p_partialInsertionSortH x38.1 Q5.2.1 Q5.2.2.1) fun r54 => cond (r54.1) (some (.inr (.inr r54.2))) (bd (cond (decide (0 < Q5.2.1)) (gd (I64 (Q5.2.1 - 1)) <| gd (ix (Q5.2.1 - 1) r54.2.length) <| gd (ix x38.2.1 r54.2.length) <| bd (p_impl_indexOf_2 (nth r54.2 ((Q5.2.1 - 1).toNat)) (nth r54.2 x38.2.1.toNat)) fun r66 => some (!(decide (r66 < 0)))) (some (false))) fun b60 => cond (b60) (bd (p_partitionEqualH r54.2 Q5.2.1 Q5.2.2.1 x38.2.1) fun r69 => some (.inl (r69.2, r69.1, Q5.2.2.1, x26.2, Q5.2.2.2.2.1, Q5.2.2.2.2.2))) (bd (p_partitionH r54.2 Q5.2.1 Q5.2.2.1 x38.2.1) fun r73 => gd (I64 (r73.1 - Q5.2.1)) <| gd (I64 (Q5.2.2.1 - r73.1)) <| gd (I64 ((Q5.2.2.1 - Q5.2.1).tdiv 8)) <| cond (decide ((r73.1 - Q5.2.1) < (Q5.2.2.1 - r73.1))) (bd (rc r73.2.2 Q5.2.1 r73.1 x26.2) fun r81 => gd (I64 (r73.1 + 1)) <| some (.inl (r81, r73.1 + 1, Q5.2.2.1, x26.2, decide (((Q5.2.2.1 - Q5.2.1).tdiv 8) ≤ (r73.1 - Q5.2.1)), r73.2.1))) (gd (I64 (r73.1 + 1)) <| bd (rc r73.2.2 (r73.1 + 1) Q5.2.2.1 x26.2) fun r87 => some (.inl (r87, Q5.2.1, r73.1, x26.2, decide (((Q5.2.2.1 - Q5.2.1).tdiv 8) ≤ (Q5.2.2.1 - r73.1)), r73.2.1)))))) (bd (cond (decide (0 < Q5.2.1)) (gd (I64 (Q5.2.1 - 1)) <| gd (ix (Q5.2.1 - 1) x38.1.length) <| gd (ix x38.2.1 x38.1.length) <| bd (p_impl_indexOf_2 (nth x38.1 ((Q5.2.1 - 1).toNat)) (nth x38.1 x38.2.1.toNat)) fun r97 => some (!(decide (r97 < 0)))) (some (false))) fun b91 => cond (b91) (bd (p_partitionEqualH x38.1 Q5.2.1 Q5.2.2.1 x38.2.1) fun r100 => some (.inl (r100.2, r100.1, Q5.2.2.1, x26.2, Q5.2.2.2.2.1, Q5.2.2.2.2.2))) (bd (p_partitionH x38.1 Q5.2.1 Q5.2.2.1 x38.2.1) fun r104 => gd (I64 (r104.1 - Q5.2.1)) <| gd (I64 (Q5.2.2.1 - r104.1)) <| gd (I64 ((Q5.2.2.1 - Q5.2.1).tdiv 8)) <| cond (decide ((r104.1 - Q5.2.1) < (Q5.2.2.1 - r104.1))) (bd (rc r104.2.2 Q5.2.1 r104.1 x26.2) fun r112 => gd (I64 (r104.1 + 1)) <| some (.inl (r112, r104.1 + 1, Q5.2.2.1, x26.2, decide (((Q5.2.2.1 - Q5.2.1).tdiv 8) ≤ (r104.1 - Q5.2.1)), r104.2.1))) (gd (I64 (r104.1 + 1)) <| bd (rc r104.2.2 (r104.1 + 1) Q5.2.2.1 x26.2) fun r118 => some (.inl (r118, Q5.2.1, r104.1, x26.2, decide (((Q5.2.2.1 - Q5.2.1).tdiv 8) ≤ (Q5.2.2.1 - r104.1)), r104.2.1)))))))
noncomputable def p_pdqsortH_s (rc : (List PostH) → Int → Int → Int → Option ((List PostH))) (v0 : (List PostH)) (v1 : Int) (v2 : Int) (v3 : Int) : Option ((List PostH)) := bd (lp (p_pdqsortH_b0 rc) (v0, v1, v2, v3, true, true)) <| sw (fun _ => some v0) (fun q => some q)
noncomputable def p_pdqsortH : Nat → (List PostH) → Int → Int → Int → Option ((List PostH))
 | 0 => fun _ _ _ _ => none
 | n + 1 => p_pdqsortH_s (p_pdqsortH n)
theorem c_pdqsortH (n : Nat) : ∀ {r : (List PostH)} (v0 : (List PostH)) (x_v0 : Option Addr × Nat) (n_v0 : Nat) (_ : n_v0 = v0.length) (v1 : Int) (v2 : Int) (v3 : Int) (_ : p_pdqsortH n v0 v1 v2 v3 = some r), Fn' prog 188 #[.slice x_v0.1 n_v0 x_v0.2, .int .i64 (v1), .int .i64 (v2), .int .i64 (v3), .func (.func 165) #[] #[]] [] [tree (.slice x_v0.1 n_v0 x_v0.2) v0] (ι := Unit) (fun _ => .tuple #[]) (fun _ => []) (fun _ => [tree (.slice x_v0.1 n_v0 x_v0.2) r]) := by
 induction n with
 | zero => intros; rename_i H; exact absurd H (by unfold p_pdqsortH; simp)
 | succ n ih =>
 intro r v0 x_v0 n_v0 e_v0 v1 v2 v3 H
 change p_pdqsortH_s (p_pdqsortH n) v0 v1 v2 v3 = some r at H
 generalize p_pdqsortH n = rc at H ih
 subst e_v0
 refine cof (args := [_, _, _, _, _]) func188 ntmps188 fun c => ?_
 unfold p_pdqsortH_s at H
 refine sr (aH (v := .bool (true)) rfl (nl (sr (aH (v := .bool (true)) rfl (nl (bdo H fun x1 hx2 H => (dF (Λ := Unit) H (fun _ _ => []) (fun _ _ => [tree (.slice x_v0.1 v0.length x_v0.2) v0]) ?_ ?_)))))))
 ·refine aQ (dH hx2 () (fun Q5 _ => [(0, .slice x_v0.1 v0.length x_v0.2), (1, .int .i64 (Q5.2.1)), (2, .int .i64 (Q5.2.2.1)), (3, .int .i64 (Q5.2.2.2.1)), (4, .func (.func 165) #[] #[]), (10, .bool (Q5.2.2.2.2.1)), (11, .bool (Q5.2.2.2.2.2))]) (fun Q5 _ => [tree (.slice x_v0.1 v0.length x_v0.2) Q5.1]) (.cons aA .nil) ?_)
  rintro _ Q5 z6 t8 H1 hi9 hb10
  unfold p_pdqsortH_b0 at H1
  refine aQ (aD (dA aB fun hn13 => (aP (aF rfl (aF rfl (gdo H1 fun h14 H1 => (aG (cT rfl rfl h14) (aH rfl (nl (aD (sr ?_)))))))))))
  refine aF rfl (aG (cW rfl rfl) (nl (cH H1 rfl (fun h15 H1 => ?_) (fun h15 H1 => ?_))))
  ·refine sr (aF rfl (aF rfl (aF rfl (aF rfl (bdo H1 fun r16 h17 H1 => (f1 (cJ (c_insertionSortH Q5.1 x_v0 v0.length hn13 Q5.2.1 Q5.2.2.1 h17) (bG bH) (fun _ => (bG bH)) rfl (.cons aA .nil) aO) fun u18 => (nl (dA aB fun hn19 => (bR ?_)))))))))
   refine rT (rB (rT (rB (rT (?_)))))
   obtain rfl := hb10 _ (sm H1)
   replace H := sw.r H
   obtain rfl := si H
   exact back0 () rfl  rfl cP (.cons aA .nil)
  ·refine bI (nT (aD (sr (aF rfl (aG (cV rfl rfl) (nl (cH H1 rfl (fun h20 H1 => ?_) (fun h20 H1 => ?_))))))))
   ·refine sr (aF rfl (aF rfl (aF rfl (aF rfl (bdo H1 fun r21 h22 H1 => (f1 (cJ (c_heapSortH Q5.1 x_v0 v0.length hn13 Q5.2.1 Q5.2.2.1 h22) (bG bH) (fun _ => (bG bH)) rfl (.cons aA .nil) aO) fun u23 => (nl (dA aB fun hn24 => (bR ?_)))))))))
    refine rT (rB (rT (rB (rT (?_)))))
    obtain rfl := hb10 _ (sm H1)
    replace H := sw.r H
    obtain rfl := si H
    exact back0 () rfl  rfl cP (.cons aA .nil)
   ·refine bI (nT (aD (sr (aF rfl (aG (cY rfl) (nl (bdo H1 fun x26 hx27 H1 => (tMidC0 (ι := Unit) (fun ψ => [(0, .slice x_v0.1 v0.length x_v0.2), (1, .int .i64 (Q5.2.1)), (2, .int .i64 (Q5.2.2.1)), (3, .int .i64 (x26.2)), (4, .func (.func 165) #[] #[]), (10, .bool (Q5.2.2.2.2.1)), (11, .bool (Q5.2.2.2.2.2)), (12, .int .i64 (Q5.2.2.1 - Q5.2.1))]) (fun ψ => [tree (.slice x_v0.1 v0.length x_v0.2) x26.1]) ?_ ?_))))))))
    ·refine aR (b := !Q5.2.2.2.2.1) rfl (fun h25 => ?_) (fun h25 => ?_)
     ·replace hx27 := cdT h25 hx27
      refine sr (aF rfl (aF rfl (aF rfl (aF rfl (bdo hx27 fun r29 h30 hx27 => (f1 (cJ (c_breakPatternsH Q5.1 x_v0 v0.length hn13 Q5.2.1 Q5.2.2.1 h30) (bG bH) (fun _ => (bG bH)) rfl (.cons aA .nil) aO) fun u31 => (nl (dA aB fun hn32 => (aP ?_)))))))))
      refine aF rfl (gdo hx27 fun h33 hx27 => (aG (cT rfl rfl h33) (aH rfl (aJ ?_))))
      replace hx27 := Option.some.inj hx27; subst hx27
      exact nMC () ⟨rfl, rfl, rfl, rfl, rfl, rfl, rfl, rfl, trivial⟩ bU (.cons aA .nil)
     ·replace hx27 := cdF h25 hx27
      refine bI ?_
      replace hx27 := Option.some.inj hx27; subst hx27
      exact nMC () ⟨rfl, rfl, rfl, rfl, rfl, rfl, rfl, rfl, trivial⟩ bU (.cons aA .nil)
    ·intro y28
     show Tr _ _ _ _ _ [(0, .slice x_v0.1 v0.length x_v0.2), (1, .int .i64 (Q5.2.1)), (2, .int .i64 (Q5.2.2.1)), (3, .int .i64 (x26.2)), (4, .func (.func 165) #[] #[]), (10, .bool (Q5.2.2.2.2.1)), (11, .bool (Q5.2.2.2.2.2)), (12, .int .i64 (Q5.2.2.1 - Q5.2.1))] _ [tree (.slice x_v0.1 v0.length x_v0.2) x26.1]
     refine aD (dA aB fun hn34 => (aP (aF rfl (aF rfl (aF rfl (aF rfl (bdo H1 fun r35 h36 H1 => (aI (bO (c_choosePivotH x26.1 x_v0 v0.length hn34 Q5.2.1 Q5.2.2.1 h36) rfl (aC (bM aB) aO)) (aF rfl ?_)))))))))
     refine aG (dC rfl rfl) (aG (dC rfl rfl) (aH rfl (aH rfl (nl (aD (sr (aF rfl (aG (cV rfl rfl) (nl (bdo H1 fun x38 hx39 H1 => (tMidC0 (ι := Unit) (fun ψ => [(0, .slice x_v0.1 v0.length x_v0.2), (1, .int .i64 (Q5.2.1)), (2, .int .i64 (Q5.2.2.1)), (3, .int .i64 (x26.2)), (4, .func (.func 165) #[] #[]), (10, .bool (Q5.2.2.2.2.1)), (11, .bool (Q5.2.2.2.2.2)), (12, .int .i64 (Q5.2.2.1 - Q5.2.1)), (13, .int .i64 (x38.2.1)), (14, .int .i64 (x38.2.2))]) (fun ψ => [tree (.slice x_v0.1 v0.length x_v0.2) x38.1]) ?_ ?_)))))))))))
     ·refine aR (b := decide (r35.2 = 2)) rfl (fun h37 => ?_) (fun h37 => ?_)
      ·replace hx39 := cdT h37 hx39
       refine sr (aF rfl (aF rfl (aF rfl (aF rfl (bdo hx39 fun r41 h42 hx39 => (f1 (cJ (c_reverseRangeH x26.1 x_v0 v0.length hn34 Q5.2.1 Q5.2.2.1 h42) (bG bH) (fun _ => (bG bH)) rfl (.cons aA .nil) aO) fun u43 => (nl (aD (dA aB fun hn44 => ?_)))))))))
       refine aP (aF rfl (gdo hx39 fun h45 hx39 => (aG (cT rfl rfl h45) (aF rfl (aF rfl (gdo hx39 fun h46 hx39 => (aG (cT rfl rfl h46) (gdo hx39 fun h47 hx39 => (aG (cT rfl rfl h47) ?_)))))))))
       refine aH rfl (nl (aP (aH (v := .int .i64 (1)) rfl (aJ ?_))))
       replace hx39 := Option.some.inj hx39; subst hx39
       exact nMC () ⟨rfl, rfl, rfl, rfl, rfl, rfl, rfl, rfl, rfl, rfl, trivial⟩ bU (.cons aA .nil)
      ·replace hx39 := cdF h37 hx39
       refine bI ?_
       replace hx39 := Option.some.inj hx39; subst hx39
       exact nMC () ⟨rfl, rfl, rfl, rfl, rfl, rfl, rfl, rfl, rfl, rfl, trivial⟩ bU (.cons aA .nil)
     ·intro y40
      show Tr _ _ _ _ _ [(0, .slice x_v0.1 v0.length x_v0.2), (1, .int .i64 (Q5.2.1)), (2, .int .i64 (Q5.2.2.1)), (3, .int .i64 (x26.2)), (4, .func (.func 165) #[] #[]), (10, .bool (Q5.2.2.2.2.1)), (11, .bool (Q5.2.2.2.2.2)), (12, .int .i64 (Q5.2.2.1 - Q5.2.1)), (13, .int .i64 (x38.2.1)), (14, .int .i64 (x38.2.2))] _ [tree (.slice x_v0.1 v0.length x_v0.2) x38.1]
      refine aD (dA aB fun hn48 => (bdo H1 fun b49 j50 H1 => (dG [(75, .bool (b49)), (0, .slice x_v0.1 v0.length x_v0.2), (1, .int .i64 (Q5.2.1)), (2, .int .i64 (Q5.2.2.1)), (3, .int .i64 (x26.2)), (4, .func (.func 165) #[] #[]), (10, .bool (Q5.2.2.2.2.1)), (11, .bool (Q5.2.2.2.2.2)), (12, .int .i64 (Q5.2.2.1 - Q5.2.1)), (13, .int .i64 (x38.2.1))] ?_ ?_)))
      ·refine dK [(0, .slice x_v0.1 v0.length x_v0.2), (1, .int .i64 (Q5.2.1)), (2, .int .i64 (Q5.2.2.1)), (3, .int .i64 (x26.2)), (4, .func (.func 165) #[] #[]), (10, .bool (Q5.2.2.2.2.1)), (11, .bool (Q5.2.2.2.2.2)), (12, .int .i64 (Q5.2.2.1 - Q5.2.1)), (13, .int .i64 (x38.2.1)), (14, .int .i64 (x38.2.2))] ⟨rfl, rfl, rfl, rfl, rfl, rfl, rfl, rfl, rfl, rfl, trivial⟩ (bC rfl ?_)
       rcases aK (Q5.2.2.2.2.1) with h51 | h51
       ·have j50 := cdT h51 j50
        refine bD (aE rfl) h51 (aZ rfl (aE rfl) (aY (bQ rfl rfl) ?_))
        rcases aK (Q5.2.2.2.2.2) with h52 | h52
        ·have j50 := cdT h52 j50
         refine bD (aE rfl) h52 (aZ rfl (aE rfl) (aZ rfl (cV rfl rfl) (aY (bQ rfl rfl) ?_)))
         obtain rfl := si j50
         show At _ _ _ _ _ _
         exact n1 ⟨rfl, rfl, rfl, rfl, rfl, rfl, rfl, rfl, rfl, rfl, trivial⟩
        ·have j50 := cdF h52 j50
         refine bD (aE rfl) h52 ?_
         iterate 2 refine bF rfl ?_
         refine aY (v := .bool (false)) (bP rfl rfl) ?_
         obtain rfl := si j50
         show At _ _ _ _ _ _
         exact n1 ⟨rfl, rfl, rfl, rfl, rfl, rfl, rfl, rfl, rfl, rfl, trivial⟩
       ·have j50 := cdF h51 j50
        refine bD (aE rfl) h51 (bF rfl (aY (v := .bool (false)) (bP rfl rfl) (bC (v := .bool (false)) rfl ?_)))
        iterate 2 refine bF rfl ?_
        refine aY (v := .bool (false)) (bP rfl rfl) ?_
        obtain rfl := si j50
        show At _ _ _ _ _ _
        exact n1 ⟨rfl, rfl, rfl, rfl, rfl, rfl, rfl, rfl, rfl, rfl, trivial⟩
      refine cH H1 rfl (fun h53 H1 => ?_) (fun h53 H1 => ?_)
      ·refine sr (aF rfl (aF rfl (aF rfl (aF rfl (bdo H1 fun r54 h55 H1 => (f1 (cJ (c_partialInsertionSortH x38.1 x_v0 v0.length hn48 Q5.2.1 Q5.2.2.1 h55) (bG bH) (fun _ => (bG bH)) rfl (.cons aA .nil) aO) fun u56 => (nl (cH H1 rfl (fun h57 H1 => ?_) (fun h57 H1 => ?_)))))))))
       ·refine dA aB fun hn58 => (bR (rT (rB (rT (rB (rT (?_)))))))
        obtain rfl := hb10 _ (sm H1)
        replace H := sw.r H
        obtain rfl := si H
        exact back0 () rfl  rfl cP (.cons aA .nil)
       ·refine bI (nT (aD (dA aB fun hn59 => (bdo H1 fun b60 j61 H1 => (dG [(97, .bool (b60)), (0, .slice x_v0.1 v0.length x_v0.2), (1, .int .i64 (Q5.2.1)), (2, .int .i64 (Q5.2.2.1)), (3, .int .i64 (x26.2)), (4, .func (.func 165) #[] #[]), (10, .bool (Q5.2.2.2.2.1)), (11, .bool (Q5.2.2.2.2.2)), (12, .int .i64 (Q5.2.2.1 - Q5.2.1)), (13, .int .i64 (x38.2.1))] ?_ ?_)))))
        ·refine dI [(0, .slice x_v0.1 v0.length x_v0.2), (1, .int .i64 (Q5.2.1)), (2, .int .i64 (Q5.2.2.1)), (3, .int .i64 (x26.2)), (4, .func (.func 165) #[] #[]), (10, .bool (Q5.2.2.2.2.1)), (11, .bool (Q5.2.2.2.2.2)), (12, .int .i64 (Q5.2.2.1 - Q5.2.1)), (13, .int .i64 (x38.2.1))] mixed (.inr (by kernel_rfl)) ⟨rfl, rfl, rfl, rfl, rfl, rfl, rfl, rfl, rfl, trivial⟩ rfl (bC rfl (aY (cX rfl rfl) ?_))
         rcases aK (decide (0 < Q5.2.1)) with h62 | h62
         ·have j61 := cdT h62 j61
          refine bD (aE rfl) h62 (aZ rfl (aE rfl) (aZ rfl (aE rfl) (aZ rfl (aE rfl) (gdo j61 fun h63 j61 => (aZ rfl (cT rfl rfl h63) (gdo j61 fun h64 j61 => (bB rfl (bY dX ty183 rfl rfl h64 aB) (bB (v := .agg #[.string (((nth r54.2 ((Q5.2.1 - 1).toNat)).1).1), .string (((nth r54.2 ((Q5.2.1 - 1).toNat)).1).2), ((nth r54.2 ((Q5.2.1 - 1).toNat)).2).1]) rfl (cB (i := (Q5.2.1 - 1).toNat) ty183 rfl (aN (bM aB)) h64.lt) (aZ rfl (aE rfl) ?_)))))))))
          refine aZ rfl (aE rfl) (gdo j61 fun h65 j61 => (bB rfl (bY dX ty183 rfl rfl h65 aB) (bB (v := .agg #[.string (((nth r54.2 x38.2.1.toNat).1).1), .string (((nth r54.2 x38.2.1.toNat).1).2), ((nth r54.2 x38.2.1.toNat).2).1]) rfl (cB (i := x38.2.1.toNat) ty183 rfl (aN (bM aB)) h65.lt) (bdo j61 fun r66 h67 j61 => (bB (v := .int .i64 (r66)) rfl (Ex.dyn (caps := []) (vs := [.agg #[.string (((nth r54.2 ((Q5.2.1 - 1).toNat)).1).1), .string (((nth r54.2 ((Q5.2.1 - 1).toNat)).1).2), ((nth r54.2 ((Q5.2.1 - 1).toNat)).2).1], .agg #[.string (((nth r54.2 x38.2.1.toNat).1).1), .string (((nth r54.2 x38.2.1.toNat).1).2), ((nth r54.2 x38.2.1.toNat).2).1]]) rfl rfl (bO (c_impl_indexOf_2 (nth r54.2 ((Q5.2.1 - 1).toNat)) (nth r54.2 x38.2.1.toNat) h67) rfl aO)) (aZ rfl (cS rfl rfl) (aZ rfl (cY rfl) (aY (bQ rfl rfl) ?_))))))))
          obtain rfl := si j61
          show At _ _ _ _ _ _
          exact n1 ⟨rfl, rfl, rfl, rfl, rfl, rfl, rfl, rfl, rfl, rfl, trivial⟩
         ·have j61 := cdF h62 j61
          refine bD (aE rfl) h62 ?_
          iterate 13 refine bF rfl ?_
          refine aY (v := .bool (false)) (bP rfl rfl) ?_
          obtain rfl := si j61
          show At _ _ _ _ _ _
          exact n1 ⟨rfl, rfl, rfl, rfl, rfl, rfl, rfl, rfl, rfl, rfl, trivial⟩
        refine cH H1 rfl (fun h68 H1 => ?_) (fun h68 H1 => ?_)
        ·refine sr (aF rfl (aF rfl (aF rfl (aF rfl (aF rfl (bdo H1 fun r69 h70 H1 => (f1 (cJ (c_partitionEqualH r54.2 x_v0 v0.length hn59 Q5.2.1 Q5.2.2.1 x38.2.1 h70) (bG bH) (fun _ => (bG bH)) rfl (.cons aA .nil) aO) fun u71 => (aH rfl (nl (aD ?_))))))))))
         exact dA aB fun hn72 => (aP (aF rfl (aH rfl (nl (dD (xT (xE (nLI () (hi9 _ (sm H1)) (.cons aA .nil)))))))))
        ·refine bI (nT (sr (aF rfl (aF rfl (aF rfl (aF rfl (aF rfl (bdo H1 fun r73 h74 H1 => (f1 (cJ (c_partitionH r54.2 x_v0 v0.length hn59 Q5.2.1 Q5.2.2.1 x38.2.1 h74) (bG bH) (fun _ => (bG bH)) rfl (.cons aA .nil) aO) fun u75 => ?_)))))))))
         refine aF rfl (aG (dC rfl rfl) (aG (dC rfl rfl) (aH rfl (aH rfl (nl (aD (dA aB fun hn76 => (aP (aF rfl (aH rfl (nl ?_)))))))))))
         refine sr (aF rfl (aF rfl (gdo H1 fun h77 H1 => (aG (cT rfl rfl h77) (aF rfl (aF rfl (gdo H1 fun h78 H1 => (aG (cT rfl rfl h78) (aH rfl ?_)))))))))
         refine aH rfl (nl (sr (aF rfl (gdo H1 fun h79 H1 => (aG (p_quo rfl rfl (by decide) h79) (aH rfl (nl (sr (aF rfl (aF rfl (aG (cS rfl rfl) (nl ?_))))))))))))
         refine cH H1 rfl (fun h80 H1 => ?_) (fun h80 H1 => ?_)
         ·refine sr (aF rfl (aF rfl (aG (p_geq rfl rfl) (aH rfl (nl (sr (aF rfl (aF rfl (aF rfl (aF rfl ?_))))))))))
          refine aF rfl (bdo H1 fun r81 h82 H1 => (f1 (cJ (ih r73.2.2 x_v0 v0.length hn76 Q5.2.1 r73.1 x26.2 h82) (bG bH) (fun _ => (bG bH)) rfl (.cons aA .nil) aO) fun u83 => (nl (dA aB fun hn84 => (aP (aF rfl (gdo H1 fun h85 H1 => (aG (bS rfl rfl h85) (aH rfl (aJ ?_))))))))))
          exact nB (nLI () (hi9 _ (sm H1)) (.cons aA .nil) )
         ·refine sr (aF rfl (aF rfl (aG (p_geq rfl rfl) (aH rfl (nl (sr (aF rfl (aF rfl (gdo H1 fun h86 H1 => (aG (bS rfl rfl h86) ?_))))))))))
          refine aF rfl (aF rfl (aF rfl (bdo H1 fun r87 h88 H1 => (f1 (cJ (ih r73.2.2 x_v0 v0.length hn76 (r73.1 + 1) Q5.2.2.1 x26.2 h88) (bG bH) (fun _ => (bG bH)) rfl (.cons aA .nil) aO) fun u89 => (nl (dA aB fun hn90 => (aP (aF rfl (aH rfl (aJ ?_))))))))))
          exact nB (nLI () (hi9 _ (sm H1)) (.cons aA .nil) )
      ·refine bI (nT (aD (bdo H1 fun b91 j92 H1 => (dG [(97, .bool (b91)), (0, .slice x_v0.1 v0.length x_v0.2), (1, .int .i64 (Q5.2.1)), (2, .int .i64 (Q5.2.2.1)), (3, .int .i64 (x26.2)), (4, .func (.func 165) #[] #[]), (10, .bool (Q5.2.2.2.2.1)), (11, .bool (Q5.2.2.2.2.2)), (12, .int .i64 (Q5.2.2.1 - Q5.2.1)), (13, .int .i64 (x38.2.1))] ?_ ?_))))
       ·refine dI [(0, .slice x_v0.1 v0.length x_v0.2), (1, .int .i64 (Q5.2.1)), (2, .int .i64 (Q5.2.2.1)), (3, .int .i64 (x26.2)), (4, .func (.func 165) #[] #[]), (10, .bool (Q5.2.2.2.2.1)), (11, .bool (Q5.2.2.2.2.2)), (12, .int .i64 (Q5.2.2.1 - Q5.2.1)), (13, .int .i64 (x38.2.1))] mixed (.inr (by kernel_rfl)) ⟨rfl, rfl, rfl, rfl, rfl, rfl, rfl, rfl, rfl, trivial⟩ rfl (bC rfl (aY (cX rfl rfl) ?_))
        rcases aK (decide (0 < Q5.2.1)) with h93 | h93
        ·have j92 := cdT h93 j92
         refine bD (aE rfl) h93 (aZ rfl (aE rfl) (aZ rfl (aE rfl) (aZ rfl (aE rfl) (gdo j92 fun h94 j92 => (aZ rfl (cT rfl rfl h94) (gdo j92 fun h95 j92 => (bB rfl (bY dX ty183 rfl rfl h95 aB) (bB (v := .agg #[.string (((nth x38.1 ((Q5.2.1 - 1).toNat)).1).1), .string (((nth x38.1 ((Q5.2.1 - 1).toNat)).1).2), ((nth x38.1 ((Q5.2.1 - 1).toNat)).2).1]) rfl (cB (i := (Q5.2.1 - 1).toNat) ty183 rfl (aN (bM aB)) h95.lt) (aZ rfl (aE rfl) ?_)))))))))
         refine aZ rfl (aE rfl) (gdo j92 fun h96 j92 => (bB rfl (bY dX ty183 rfl rfl h96 aB) (bB (v := .agg #[.string (((nth x38.1 x38.2.1.toNat).1).1), .string (((nth x38.1 x38.2.1.toNat).1).2), ((nth x38.1 x38.2.1.toNat).2).1]) rfl (cB (i := x38.2.1.toNat) ty183 rfl (aN (bM aB)) h96.lt) (bdo j92 fun r97 h98 j92 => (bB (v := .int .i64 (r97)) rfl (Ex.dyn (caps := []) (vs := [.agg #[.string (((nth x38.1 ((Q5.2.1 - 1).toNat)).1).1), .string (((nth x38.1 ((Q5.2.1 - 1).toNat)).1).2), ((nth x38.1 ((Q5.2.1 - 1).toNat)).2).1], .agg #[.string (((nth x38.1 x38.2.1.toNat).1).1), .string (((nth x38.1 x38.2.1.toNat).1).2), ((nth x38.1 x38.2.1.toNat).2).1]]) rfl rfl (bO (c_impl_indexOf_2 (nth x38.1 ((Q5.2.1 - 1).toNat)) (nth x38.1 x38.2.1.toNat) h98) rfl aO)) (aZ rfl (cS rfl rfl) (aZ rfl (cY rfl) (aY (bQ rfl rfl) ?_))))))))
         obtain rfl := si j92
         show At _ _ _ _ _ _
         exact n1 ⟨rfl, rfl, rfl, rfl, rfl, rfl, rfl, rfl, rfl, rfl, trivial⟩
        ·have j92 := cdF h93 j92
         refine bD (aE rfl) h93 ?_
         iterate 13 refine bF rfl ?_
         refine aY (v := .bool (false)) (bP rfl rfl) ?_
         obtain rfl := si j92
         show At _ _ _ _ _ _
         exact n1 ⟨rfl, rfl, rfl, rfl, rfl, rfl, rfl, rfl, rfl, rfl, trivial⟩
       refine cH H1 rfl (fun h99 H1 => ?_) (fun h99 H1 => ?_)
       ·refine sr (aF rfl (aF rfl (aF rfl (aF rfl (aF rfl (bdo H1 fun r100 h101 H1 => (f1 (cJ (c_partitionEqualH x38.1 x_v0 v0.length hn48 Q5.2.1 Q5.2.2.1 x38.2.1 h101) (bG bH) (fun _ => (bG bH)) rfl (.cons aA .nil) aO) fun u102 => (aH rfl (nl (aD ?_))))))))))
        exact dA aB fun hn103 => (aP (aF rfl (aH rfl (nl (dD (xT (xE (nLI () (hi9 _ (sm H1)) (.cons aA .nil)))))))))
       ·refine bI (nT (sr (aF rfl (aF rfl (aF rfl (aF rfl (aF rfl (bdo H1 fun r104 h105 H1 => (f1 (cJ (c_partitionH x38.1 x_v0 v0.length hn48 Q5.2.1 Q5.2.2.1 x38.2.1 h105) (bG bH) (fun _ => (bG bH)) rfl (.cons aA .nil) aO) fun u106 => ?_)))))))))
        refine aF rfl (aG (dC rfl rfl) (aG (dC rfl rfl) (aH rfl (aH rfl (nl (aD (dA aB fun hn107 => (aP (aF rfl (aH rfl (nl ?_)))))))))))
        refine sr (aF rfl (aF rfl (gdo H1 fun h108 H1 => (aG (cT rfl rfl h108) (aF rfl (aF rfl (gdo H1 fun h109 H1 => (aG (cT rfl rfl h109) (aH rfl ?_)))))))))
        refine aH rfl (nl (sr (aF rfl (gdo H1 fun h110 H1 => (aG (p_quo rfl rfl (by decide) h110) (aH rfl (nl (sr (aF rfl (aF rfl (aG (cS rfl rfl) (nl ?_))))))))))))
        refine cH H1 rfl (fun h111 H1 => ?_) (fun h111 H1 => ?_)
        ·refine sr (aF rfl (aF rfl (aG (p_geq rfl rfl) (aH rfl (nl (sr (aF rfl (aF rfl (aF rfl (aF rfl ?_))))))))))
         refine aF rfl (bdo H1 fun r112 h113 H1 => (f1 (cJ (ih r104.2.2 x_v0 v0.length hn107 Q5.2.1 r104.1 x26.2 h113) (bG bH) (fun _ => (bG bH)) rfl (.cons aA .nil) aO) fun u114 => (nl (dA aB fun hn115 => (aP (aF rfl (gdo H1 fun h116 H1 => (aG (bS rfl rfl h116) (aH rfl (aJ ?_))))))))))
         exact nB (nLI () (hi9 _ (sm H1)) (.cons aA .nil) )
        ·refine sr (aF rfl (aF rfl (aG (p_geq rfl rfl) (aH rfl (nl (sr (aF rfl (aF rfl (gdo H1 fun h117 H1 => (aG (bS rfl rfl h117) ?_))))))))))
         refine aF rfl (aF rfl (aF rfl (bdo H1 fun r118 h119 H1 => (f1 (cJ (ih r104.2.2 x_v0 v0.length hn107 (r104.1 + 1) Q5.2.2.1 x26.2 h119) (bG bH) (fun _ => (bG bH)) rfl (.cons aA .nil) aO) fun u120 => (nl (dA aB fun hn121 => (aP (aF rfl (aH rfl (aJ ?_))))))))))
         exact nB (nLI () (hi9 _ (sm H1)) (.cons aA .nil) )
 ·rintro e122 y7 H
  obtain rfl := si H
  exact back0n () rfl  rfl cP (.cons aA .nil)
noncomputable def p_SortFuncH (v0 : (List PostH)) : Option ((List PostH)) := bd (p_math_bits_Len (w64 (v0.length : Int))) fun r1 => bd (p_pdqsortH (v0.length + 1) v0 0 (v0.length : Int) r1) fun r3 => some r3
theorem c_SortFuncH {r : (List PostH)} (v0 : (List PostH)) (x_v0 : Option Addr × Nat) (n_v0 : Nat) (e_v0 : n_v0 = v0.length) (H : p_SortFuncH v0 = some r) : Fn' prog 164 #[.slice x_v0.1 n_v0 x_v0.2, .func (.func 165) #[] #[]] [] [tree (.slice x_v0.1 n_v0 x_v0.2) v0] (ι := Unit) (fun _ => .tuple #[]) (fun _ => []) (fun _ => [tree (.slice x_v0.1 n_v0 x_v0.2) r]) := by
 subst e_v0
 refine cof (args := [_, _]) func164 ntmps164 fun c => ?_
 unfold p_SortFuncH at H
 refine sr (aF rfl (aG (bT 183 dX rfl) (aH rfl (nl (aP (aF rfl (aF rfl (aF rfl (aG (v := .int .u64 ((w64 (v0.length : Int)).toNat : Int)) (p_iw dV underlying218 rfl) (bdo H fun r1 h2 H => ?_))))))))))
 refine aI (bO (c_math_bits_Len (w64 (v0.length : Int)) h2) rfl aO) (aF rfl (bdo H fun r3 h4 H => (f1 (cJ (c_pdqsortH _ v0 x_v0 v0.length rfl 0 (v0.length : Int) r1 h4) (bG bH) (fun _ => (bG bH)) rfl (.cons aA .nil) aO) fun u5 => (aJ ?_))))
 obtain rfl := si H
 exact back0n () rfl  rfl cP (.cons aA .nil)
noncomputable def cmS (x y : ByteArray) : Int := if sless x y then -1 else if sless y x then 1 else 0
theorem e_cmpS (x y : ByteArray) : p_cmp_Compare_string x y = some (cmS x y) := by
 unfold p_cmp_Compare_string p_cmp_isNaN_string cmS
 simp only [bd_some, decide_true, Bool.not_true, cond_false]
 cases h : sless x y with
 | true => simp
 | false =>
  cases h' : sless y x with
  | true =>
   have : x ≠ y := fun e => by subst e; rw [h] at h'; cases h'
   simp [this]
  | false =>
   have := sless_anti h h'
   simp [this]
noncomputable def cmH (x y : PostH) : Int := if cmS x.1.1 y.1.1 = 0 then cmS x.1.2 y.1.2 else cmS x.1.1 y.1.1
theorem e_cmpH (x y : PostH) : p_impl_indexOf_2 x y = some (cmH x y) := by
 unfold p_impl_indexOf_2 cmH
 simp only [e_cmpS, bd_some]
 have key : ∀ a b : Int, p_cmp_Or_int [a, b] = some (if a = 0 then b else a) := fun a b => by
  unfold p_cmp_Or_int
  by_cases ha : a = 0
  ·subst ha
   rw [lp.step (s' := 1) (by unfold p_cmp_Or_int_b0; simp [gd, ix, I64, nth])]
   by_cases hb : b = 0
   ·subst hb
    rw [lp.step (s' := 2) (by unfold p_cmp_Or_int_b0; simp [gd, ix, I64, nth])]
    rw [lp.stop (e := .inl ()) (by unfold p_cmp_Or_int_b0; simp)]
    rfl
   ·rw [lp.stop (e := .inr b) (by unfold p_cmp_Or_int_b0; simp [gd, ix, I64, nth, hb])]
    rfl
  ·rw [lp.stop (e := .inr a) (by unfold p_cmp_Or_int_b0; simp [gd, ix, I64, nth, ha])]
   simp [bd, sw, ha]
 rw [key]; rfl
theorem cmS_lt (x y : ByteArray) : decide (cmS x y < 0) = sless x y := by
 unfold cmS
 cases h : sless x y with
 | true => simp
 | false => cases h' : sless y x <;> simp
theorem cmS_0 {x y : ByteArray} : cmS x y = 0 ↔ x = y := by
 unfold cmS
 constructor
 ·intro h
  cases h1 : sless x y with
  | true => rw [h1] at h; simp at h
  | false =>
   cases h2 : sless y x with
   | true => rw [h1, h2] at h; simp at h
   | false => exact sless_anti h1 h2
 ·intro h; subst h; simp [sless_irr]
theorem cmH_lt (x y : PostH) : decide (cmH x y < 0) = ltP x y := by
 unfold cmH ltP ltTag
 by_cases h : x.1.1 = y.1.1
 ·rw [if_pos (cmS_0.2 h), cmS_lt, h, sless_irr]; simp
 ·rw [if_neg (fun e => h (cmS_0.1 e)), cmS_lt]; simp [h]
theorem sz_insIn (a : Nat) : ∀ (j : Nat) (d : Array PostH), (Sort.insInner ltP a j d).size = d.size
  | 0, d => rfl
  | j + 1, d => by unfold Sort.insInner; split; · rw [sz_insIn a j, Sort.swp_size]
                   · rfl
theorem e_insIn (a : Nat) : ∀ (j : Nat) (d : Array PostH), j < d.size → d.size ≤ 1073741824 → lp (p_insertionSortH_b1 (a : Int)) (d.toList, (j : Int)) = some (Sort.insInner ltP a j d).toList
 | 0, d, h, hs => lp.stop (by unfold p_insertionSortH_b1; rw [decide_eq_false (by omega)]; rfl)
 | j + 1, d, h, hs => by
  by_cases ha : a < j + 1
  ·have e1 : decide ((a : Int) < ((j + 1 : Nat) : Int)) = true := decide_eq_true (by omega)
   have step : p_insertionSortH_b1 (a : Int) (d.toList, ((j + 1 : Nat) : Int)) = cond (ltP d[j + 1]! d[j]!) (some (.inl ((Sort.swp d (j + 1) j).toList, (j : Int)))) (some (.inr d.toList)) := by
    unfold p_insertionSortH_b1
    simp (disch := first | (unfold I64; omega) | (unfold ix; (try simp only [List.length_set, lenA]); omega)) only [e1, cond_true, gd_true, subI, natI, nthA, e_cmpH, bd_some, cmH_lt, swpA']
   unfold Sort.insInner
   cases hl : ltP d[j + 1]! d[j]! with
   | true =>
    rw [lp.step (by rw [step, hl]; rfl), e_insIn a j _ (by rw [Sort.swp_size]; omega) (by rw [Sort.swp_size]; exact hs)]
    simp [ha]
   | false =>
    rw [lp.stop (by rw [step, hl]; rfl)]
    simp
  ·have e1 : decide ((a : Int) < ((j + 1 : Nat) : Int)) = false := decide_eq_false (by omega)
   rw [lp.stop (e := d.toList) (by unfold p_insertionSortH_b1; rw [e1]; rfl)]
   unfold Sort.insInner
   simp [ha]
theorem e_insOut (a b : Nat) : ∀ (n i : Nat) (d : Array PostH), b - i ≤ n → b ≤ d.size → d.size ≤ 1073741824 → lp (p_insertionSortH_b0 (a : Int) (b : Int)) (d.toList, (i : Int)) = some (Sort.insOuter ltP a b i d).toList
 | n, i, d, hn, hb, hs => by
  by_cases hi : i < b
  ·cases n with
   | zero => omega
   | succ n =>
    have e1 : decide ((i : Int) < (b : Int)) = true := decide_eq_true (by omega)
    rw [lp.step (s' := ((Sort.insInner ltP a i d).toList, ((i + 1 : Nat) : Int))) (by
     unfold p_insertionSortH_b0
     simp (disch := first | (unfold I64; omega)) only [e1, cond_true, e_insIn a i d (by omega) hs, bd_some, gd_true, addI]), e_insOut a b n (i + 1) _ (by omega) (by rw [sz_insIn]; exact hb) (by rw [sz_insIn]; exact hs)]
    conv => rhs; rw [Sort.insOuter]
    rw [if_pos hi]
  ·rw [lp.stop (e := d.toList) (by unfold p_insertionSortH_b0; rw [decide_eq_false (by omega)]; rfl)]
   rw [Sort.insOuter, if_neg hi]
theorem e_ins (a b : Nat) (d : Array PostH) (ha : a ≤ b) (hb : b ≤ d.size) (hs : d.size ≤ 1073741824) : p_insertionSortH d.toList (a : Int) (b : Int) = some (Sort.insertionSort ltP d a b).toList := by
 unfold p_insertionSortH
 simp (disch := first | (unfold I64; omega)) only [gd_true, addI, e_insOut a b _ _ d (Nat.le_refl _) hb hs, bd_some]
 rfl
theorem sz_sift (hi F : Nat) : ∀ (n root : Nat) (d : Array PostH), hi - root ≤ n → (Sort.siftDown ltP hi F root d).size = d.size
 | n, root, d, hn => by
  unfold Sort.siftDown
  split
  ·rfl
  ·cases n with
   | zero => omega
   | succ n =>
    split
    ·split
     ·rfl
     ·split
      ·rw [sz_sift hi F n _ _ (by omega), Sort.swp_size]
      ·rfl
    ·split
     ·rfl
     ·rw [sz_sift hi F n _ _ (by omega), Sort.swp_size]
theorem e_siftL (hi F : Nat) : ∀ (n root : Nat) (d : Array PostH), hi - root ≤ n → root ≤ 1073741824 → F + hi ≤ d.size → d.size ≤ 1073741824 →
  bd (lp (p_siftDownH_b0 (hi : Int) (F : Int)) (d.toList, (root : Int))) (sw (fun e => some e) (fun q => some q)) = some (Sort.siftDown ltP hi F root d).toList
 | n, root, d, hn, hr, hF, hs => by
  have c1 : (2 * (root : Int)) + 1 = ((2 * root + 1 : Nat) : Int) := by omega
  have c2 : ((2 * root + 1 : Nat) : Int) + 1 = ((2 * root + 2 : Nat) : Int) := by omega
  by_cases h1 : 2 * root + 1 ≥ hi
  ·rw [lp.stop (e := .inl d.toList) (by
    unfold p_siftDownH_b0
    simp (disch := first | (unfold I64; omega)) only [gd_true, c1]
    rw [decide_eq_true (by omega)]; rfl)]
   rw [Sort.siftDown, dif_pos h1]; rfl
  ·cases n with
   | zero => omega
   | succ n =>
    have f1 : (F : Int) + ((2 * root + 1 : Nat) : Int) = ((F + (2 * root + 1) : Nat) : Int) := by omega
    have f2 : ((F + (2 * root + 1) : Nat) : Int) + 1 = ((F + (2 * root + 1) + 1 : Nat) : Int) := by omega
    have f3 : (F : Int) + (root : Int) = ((F + root : Nat) : Int) := by omega
    have f4 : (F : Int) + ((2 * root + 2 : Nat) : Int) = ((F + (2 * root + 2) : Nat) : Int) := by omega
    have e1 : decide ((hi : Int) ≤ ((2 * root + 1 : Nat) : Int)) = false := decide_eq_false (by omega)
    have step : p_siftDownH_b0 (hi : Int) (F : Int) (d.toList, (root : Int)) =
      if 2 * root + 1 + 1 < hi && ltP d[F + (2 * root + 1)]! d[F + (2 * root + 1) + 1]! then
       (if !ltP d[F + root]! d[F + (2 * root + 2)]! then some (.inr (.inr d.toList)) else some (.inl ((Sort.swp d (F + root) (F + (2 * root + 2))).toList, ((2 * root + 2 : Nat) : Int))))
      else
       (if !ltP d[F + root]! d[F + (2 * root + 1)]! then some (.inr (.inr d.toList)) else some (.inl ((Sort.swp d (F + root) (F + (2 * root + 1))).toList, ((2 * root + 1 : Nat) : Int)))) := by
     unfold p_siftDownH_b0
     simp (disch := first | (unfold I64; omega)) only [gd_true, c1, e1, cond_false, c2]
     by_cases h2 : 2 * root + 2 < hi
     ·have e2 : decide (((2 * root + 2 : Nat) : Int) < (hi : Int)) = true := decide_eq_true (by omega)
      have e3 : decide (2 * root + 1 + 1 < hi) = true := decide_eq_true (by omega)
      simp (disch := first | (unfold I64; omega) | (unfold ix; (try simp only [List.length_set, lenA]); omega)) only [e2, e3, cond_true, gd_true, f1, f2, f3, f4, natI, nthA, e_cmpH, bd_some, cmH_lt, swpA', Bool.true_and]
      cases ltP d[F + (2 * root + 1)]! d[F + (2 * root + 1) + 1]! <;> cases ltP d[F + root]! d[F + (2 * root + 1)]! <;> cases ltP d[F + root]! d[F + (2 * root + 2)]! <;> rfl
     ·have e2 : decide (((2 * root + 2 : Nat) : Int) < (hi : Int)) = false := decide_eq_false (by omega)
      have e3 : decide (2 * root + 1 + 1 < hi) = false := decide_eq_false (by omega)
      simp (disch := first | (unfold I64; omega) | (unfold ix; (try simp only [List.length_set, lenA]); omega)) only [e2, e3, cond_false, gd_true, f1, f2, f3, f4, natI, nthA, e_cmpH, bd_some, cmH_lt, swpA', Bool.false_and]
      cases ltP d[F + root]! d[F + (2 * root + 1)]! <;> rfl
    conv => rhs; rw [Sort.siftDown]
    rw [dif_neg h1]
    split
    ·rename_i hc
     rw [if_pos hc] at step
     have h2 : 2 * root + 2 < hi := by simp only [Bool.and_eq_true, decide_eq_true_eq] at hc; omega
     rw [dif_pos h2]
     split
     ·rename_i hx; rw [if_pos hx] at step; rw [lp.stop step]; rfl
     ·rename_i hx; rw [if_neg hx] at step
      first
       | (rw [lp.step step])
       | (rw [dif_pos h2, lp.step step])
      exact e_siftL hi F n _ _ (by omega) (by omega) (by rw [Sort.swp_size]; exact hF) (by rw [Sort.swp_size]; exact hs)
    ·rename_i hc
     rw [if_neg hc] at step
     split
     ·rename_i hx; rw [if_pos hx] at step; rw [lp.stop step]; rfl
     ·rename_i hx; rw [if_neg hx] at step
      rw [lp.step step]
      exact e_siftL hi F n _ _ (by omega) (by omega) (by rw [Sort.swp_size]; exact hF) (by rw [Sort.swp_size]; exact hs)
theorem e_sift (hi F root : Nat) (d : Array PostH) (hr : root ≤ 1073741824) (hF : F + hi ≤ d.size) (hs : d.size ≤ 1073741824) :
  p_siftDownH d.toList (root : Int) (hi : Int) (F : Int) = some (Sort.siftDown ltP hi F root d).toList := e_siftL hi F _ root d (Nat.le_refl _) hr hF hs
theorem sz_build (hi F : Nat) : ∀ (k : Nat) (d : Array PostH), (Sort.heapBuild ltP hi F k d).size = d.size
 | 0, d => rfl
 | k + 1, d => by unfold Sort.heapBuild; rw [sz_build hi F k, sz_sift hi F _ _ _ (Nat.le_refl _)]
theorem e_build (a b : Nat) (hab : a ≤ b) : ∀ (k : Nat) (d : Array PostH), k ≤ 1073741824 → b ≤ d.size → d.size ≤ 1073741824 → lp (p_heapSortH_b0 (a : Int) (b : Int)) (d.toList, (k : Int) - 1) = some (Sort.heapBuild ltP (b - a) a k d).toList
 | 0, d, hk, hb, hs => lp.stop (by unfold p_heapSortH_b0; rw [decide_eq_false (by omega)]; rfl)
 | k + 1, d, hk, hb, hs => by
  have c : ((k + 1 : Nat) : Int) - 1 = (k : Int) := by omega
  have c2 : (b : Int) - (a : Int) = ((b - a : Nat) : Int) := by omega
  rw [c, lp.step (s' := ((Sort.siftDown ltP (b - a) a k d).toList, (k : Int) - 1)) (by
   unfold p_heapSortH_b0
   have e1 : decide ((0 : Int) ≤ (k : Int)) = true := decide_eq_true (by omega)
   simp (disch := first | (unfold I64; omega)) only [e1, cond_true, c2, e_sift (b - a) a k d (by omega) (by omega) hs, bd_some, gd_true]), e_build a b hab k _ (by omega) (by rw [sz_sift _ _ _ _ _ (Nat.le_refl _)]; exact hb) (by rw [sz_sift _ _ _ _ _ (Nat.le_refl _)]; exact hs)]
  rfl
theorem e_pop (a : Nat) : ∀ (k : Nat) (d : Array PostH), a + k ≤ d.size → d.size ≤ 1073741824 → lp (p_heapSortH_b1 (a : Int)) (d.toList, (k : Int) - 1) = some (Sort.heapPop ltP a k d).toList
 | 0, d, hb, hs => lp.stop (by unfold p_heapSortH_b1; rw [decide_eq_false (by omega)]; rfl)
 | k + 1, d, hb, hs => by
  have c : ((k + 1 : Nat) : Int) - 1 = (k : Int) := by omega
  have c2 : (a : Int) + (k : Int) = ((a + k : Nat) : Int) := by omega
  rw [c, lp.step (s' := ((Sort.siftDown ltP k a 0 (Sort.swp d a (a + k))).toList, (k : Int) - 1)) (by
   unfold p_heapSortH_b1
   have e1 : decide ((0 : Int) ≤ (k : Int)) = true := decide_eq_true (by omega)
   have e2 := e_sift k a 0 (Sort.swp d a (a + k)) (by omega) (by rw [Sort.swp_size]; omega) (by rw [Sort.swp_size]; exact hs)
   rw [show ((0 : Nat) : Int) = 0 from rfl] at e2
   simp (disch := first | (unfold I64; omega) | (unfold ix; (try simp only [List.length_set, lenA]); omega)) only [e1, cond_true, gd_true, c2, natI, nthA, swpA', e2, bd_some]), e_pop a k _ (by rw [sz_sift _ _ _ _ _ (Nat.le_refl _), Sort.swp_size]; omega) (by rw [sz_sift _ _ _ _ _ (Nat.le_refl _), Sort.swp_size]; exact hs)]
  rfl
theorem e_heap (a b : Nat) (d : Array PostH) (ha : a ≤ b) (hb : b ≤ d.size) (hs : d.size ≤ 1073741824) : p_heapSortH d.toList (a : Int) (b : Int) = some (Sort.heapSort ltP d a b).toList := by
 unfold p_heapSortH
 have c : ((b : Int) - (a : Int) - 1).tdiv 2 = (((b - a - 1) / 2 + 1 : Nat) : Int) - 1 := by
  by_cases h : b - a = 0
  ·have : (b : Int) - (a : Int) - 1 = -1 := by omega
   rw [this, h]; rfl
  ·have : (b : Int) - (a : Int) - 1 = ((b - a - 1 : Nat) : Int) := by omega
   rw [this]
   have h2 : (((b - a - 1) / 2 : Nat) : Int) = ((b - a - 1 : Nat) : Int).tdiv 2 := Int.ofNat_tdiv (b - a - 1) 2
   rw [← h2]; omega
 have c2 : (b : Int) - (a : Int) - 1 = ((b - a : Nat) : Int) - 1 := by omega
 have h3 : (b - a - 1) / 2 ≤ b - a - 1 := Nat.div_le_self _ _
 rw [c]
 rw [gd.yes (by unfold I64; omega), gd.yes (by unfold I64; omega), gd.yes (by unfold I64; omega), e_build a b ha _ d (by omega) hb hs]
 simp only [bd_some]
 rw [c2, e_pop a (b - a) _ (by rw [sz_build]; omega) (by rw [sz_build]; exact hs)]
 rfl
theorem e_revL (a b : Nat) : ∀ (n i j : Nat) (d : Array PostH), j - i ≤ n → j < d.size → i ≤ d.size → d.size ≤ 1073741824 → lp p_reverseRangeH_b0 (d.toList, (i : Int), (j : Int)) = some (Sort.reverseLoop i j d).toList
 | n, i, j, d, hn, hj, hi, hs => by
  by_cases h : i < j
  ·cases n with
   | zero => omega
   | succ n =>
    have c : (j : Int) - 1 = ((j - 1 : Nat) : Int) := by omega
    rw [lp.step (s' := ((Sort.swp d i j).toList, ((i + 1 : Nat) : Int), ((j - 1 : Nat) : Int))) (by
     unfold p_reverseRangeH_b0
     have e1 : decide ((i : Int) < (j : Int)) = true := decide_eq_true (by omega)
     simp (disch := first | (unfold I64; omega) | (unfold ix; (try simp only [List.length_set, lenA]); omega)) only [e1, cond_true, gd_true, natI, nthA, swpA', addI, c]), e_revL a b n (i + 1) (j - 1) _ (by omega) (by rw [Sort.swp_size]; omega) (by rw [Sort.swp_size]; omega) (by rw [Sort.swp_size]; exact hs)]
    conv => rhs; rw [Sort.reverseLoop]
    rw [if_pos h]
  ·rw [lp.stop (e := d.toList) (by unfold p_reverseRangeH_b0; rw [decide_eq_false (show ¬ ((i : Int) < (j : Int)) by omega)]; rfl)]
   rw [Sort.reverseLoop, if_neg h]
theorem e_rev (a b : Nat) (d : Array PostH) (ha : a < b) (hb : b ≤ d.size) (hs : d.size ≤ 1073741824) : p_reverseRangeH d.toList (a : Int) (b : Int) = some (Sort.reverseRange d a b).toList := by
 unfold p_reverseRangeH
 have c : (b : Int) - 1 = ((b - 1 : Nat) : Int) := by omega
 simp (disch := first | (unfold I64; omega)) only [gd_true, c, e_revL a b _ a (b - 1) d (Nat.le_refl _) (by omega) (by omega) hs, bd_some]
 rfl
theorem ltN {x y : PostH} : (!decide (cmH x y < 0)) = !ltP x y := by rw [cmH_lt]
theorem e_up3 (a : Nat) (d : Array PostH) (j : Nat) (hj : j < d.size) (ha : a < d.size) (hs : d.size ≤ 1073741824) (s : (List PostH) × Int × Int) (h1 : s.1 = d.toList) (h2 : s.2.2 = (j : Int)) : ∀ (n i : Nat), j + 1 - i ≤ n → i ≤ 1073741825 →
  lp (p_partitionH_b3 (a : Int) s) (i : Int) = some (((Sort.scanUp (fun x => ltP x d[a]!) d j i : Nat) : Int))
 | n, i, hn, hi => by
  rw [Sort.scanUp]
  by_cases h : i ≤ j
  ·cases n with
   | zero => omega
   | succ n =>
    have e1 : decide ((i : Int) ≤ (j : Int)) = true := decide_eq_true (by omega)
    have step : p_partitionH_b3 (a : Int) s (i : Int) = cond (ltP d[i]! d[a]!) (some (.inl ((i + 1 : Nat) : Int))) (some (.inr (i : Int))) := by
     unfold p_partitionH_b3
     rw [h1, h2]
     simp (disch := first | (unfold I64; omega) | (unfold ix; (try simp only [List.length_set, lenA]); omega)) only [e1, cond_true, gd_true, natI, nthA, e_cmpH, bd_some, cmH_lt, addI]
    cases hl : ltP d[i]! d[a]! with
    | true =>
     rw [lp.step (by rw [step, hl]; rfl), if_pos (by simp [h])]
     exact e_up3 a d j hj ha hs s h1 h2 n (i + 1) (by omega) (by omega)
    | false => rw [lp.stop (by rw [step, hl]; rfl), if_neg (by simp)]
  ·rw [lp.stop (e := (i : Int)) (by unfold p_partitionH_b3; rw [h2, decide_eq_false (show ¬ ((i : Int) ≤ (j : Int)) by omega)]; rfl), if_neg (by simp [h])]
theorem e_dn4 (a : Nat) (d : Array PostH) (i : Nat) (h0 : 1 ≤ i) (ha : a < d.size) (hs : d.size ≤ 1073741824) (s : (List PostH) × Int × Int) (h1 : s.1 = d.toList) : ∀ (j : Nat), j < d.size →
  lp (p_partitionH_b4 (a : Int) s (i : Int)) (j : Int) = some (((Sort.scanDown (fun x => !ltP x d[a]!) d i j : Nat) : Int))
 | 0, hj => by
  rw [lp.stop (e := ((0 : Nat) : Int)) (by unfold p_partitionH_b4; rw [decide_eq_false (show ¬ ((i : Int) ≤ ((0 : Nat) : Int)) by omega)]; rfl)]
  rfl
 | j + 1, hj => by
  unfold Sort.scanDown
  by_cases h : i ≤ j + 1
  ·have e1 : decide ((i : Int) ≤ ((j + 1 : Nat) : Int)) = true := decide_eq_true (by omega)
   have step : p_partitionH_b4 (a : Int) s (i : Int) ((j + 1 : Nat) : Int) = cond (!ltP d[j + 1]! d[a]!) (some (.inl (j : Int))) (some (.inr ((j + 1 : Nat) : Int))) := by
    unfold p_partitionH_b4
    rw [h1]
    simp (disch := first | (unfold I64; omega) | (unfold ix; (try simp only [List.length_set, lenA]); omega)) only [e1, cond_true, gd_true, natI, nthA, e_cmpH, bd_some, ltN, subI]
   cases hl : ltP d[j + 1]! d[a]! with
   | false =>
    rw [lp.step (by rw [step, hl]; rfl), if_pos (by simp [h])]
    exact e_dn4 a d i h0 ha hs s h1 j (by omega)
   | true => rw [lp.stop (by rw [step, hl]; rfl), if_neg (by simp)]
  ·rw [lp.stop (e := ((j + 1 : Nat) : Int)) (by unfold p_partitionH_b4; rw [decide_eq_false (show ¬ ((i : Int) ≤ ((j + 1 : Nat) : Int)) by omega)]; rfl), if_neg (by simp [h])]
theorem sz_partL (a : Nat) : ∀ (n i j : Nat) (d : Array PostH), j + 1 - i ≤ n → (Sort.partLoop ltP a i j d).2.size = d.size
 | n, i, j, d, hn => by
  rw [Sort.partLoop]
  split
  ·rfl
  ·split
   ·rename_i h
    cases n with
    | zero => omega
    | succ n => rw [sz_partL a n _ _ _ (by omega), Sort.swp_size]
   ·rfl
theorem e_partL (a : Nat) : ∀ (n i j : Nat) (d : Array PostH), j + 1 - i ≤ n → a < i → i ≤ d.size → j < d.size → d.size ≤ 1073741824 →
  lp (p_partitionH_b2 (a : Int)) (d.toList, (i : Int), (j : Int)) = some ((Sort.partLoop ltP a i j d).2.toList, ((Sort.partLoop ltP a i j d).1 : Int))
 | n, i, j, d, hn, hai, hij, hj, hs => by
  have hu := e_up3 a d j hj (by omega) hs (d.toList, (i : Int), (j : Int)) rfl rfl _ i (Nat.le_refl _) (by omega)
  have gu := Sort.scanUp_ge (fun x => ltP x d[a]!) d j i
  have hd := e_dn4 a d (Sort.scanUp (fun x => ltP x d[a]!) d j i) (by omega) (by omega) hs (d.toList, (i : Int), (j : Int)) rfl j hj
  have gl := Sort.scanDown_le (fun x => !ltP x d[a]!) d (Sort.scanUp (fun x => ltP x d[a]!) d j i) j
  rw [Sort.partLoop_eq]
  generalize hI : Sort.scanUp (fun x => ltP x d[a]!) d j i = i2 at *
  generalize hJ : Sort.scanDown (fun x => !ltP x d[a]!) d i2 j = j2 at *
  by_cases h : i2 > j2
  ·rw [if_pos h, lp.stop (e := (d.toList, (j2 : Int))) (by
    unfold p_partitionH_b2
    rw [hu]; simp only [bd_some]; rw [hd]; simp only [bd_some]
    rw [decide_eq_true (show ((j2 : Int) < (i2 : Int)) by omega)]; rfl)]
  ·rw [if_neg h]
   cases n with
   | zero => omega
   | succ n =>
    have c : (j2 : Int) - 1 = ((j2 - 1 : Nat) : Int) := by omega
    rw [lp.step (s' := ((Sort.swp d i2 j2).toList, ((i2 + 1 : Nat) : Int), ((j2 - 1 : Nat) : Int))) (by
     unfold p_partitionH_b2
     rw [hu]; simp only [bd_some]; rw [hd]; simp only [bd_some]
     rw [decide_eq_false (show ¬ ((j2 : Int) < (i2 : Int)) by omega)]
     simp (disch := first | (unfold I64; omega) | (unfold ix; (try simp only [List.length_set, lenA]); omega)) only [cond_false, gd_true, natI, nthA, swpA', addI, c])]
    exact e_partL a n (i2 + 1) (j2 - 1) _ (by omega) (by omega) (by rw [Sort.swp_size]; omega) (by rw [Sort.swp_size]; omega) (by rw [Sort.swp_size]; exact hs)
theorem e_part (a b pv : Nat) (d : Array PostH) (ha : a ≤ pv) (hp : pv < b) (hb : b ≤ d.size) (hs : d.size ≤ 1073741824) :
  p_partitionH d.toList (a : Int) (b : Int) (pv : Int) = some (((Sort.partition ltP d a b pv).1 : Int), (Sort.partition ltP d a b pv).2.1, (Sort.partition ltP d a b pv).2.2.toList) := by
 have eb0 : p_partitionH_b0 d.toList (a : Int) (b : Int) (pv : Int) = p_partitionH_b3 (a : Int) ((Sort.swp d a pv).toList, (0 : Int), (b : Int) - 1) := by rw [← swpA d a pv]; rfl
 have eb1 : ∀ x, p_partitionH_b1 d.toList (a : Int) (pv : Int) x = p_partitionH_b4 (a : Int) ((Sort.swp d a pv).toList, (0 : Int), (0 : Int)) x := fun x => by rw [← swpA d a pv]; rfl
 have hz : (Sort.swp d a pv).size = d.size := Sort.swp_size _ _ _
 have c : (b : Int) - 1 = ((b - 1 : Nat) : Int) := by omega
 unfold Sort.partition p_partitionH
 simp (disch := first | (unfold I64; omega) | (unfold ix; (try simp only [List.length_set, lenA]); omega)) only [gd_true, natI, nthA, swpA', eb0, eb1, addI, c]
 generalize hD : Sort.swp d a pv = d1 at *
 have hu := e_up3 a d1 (b - 1) (by omega) (by omega) (by omega) (d1.toList, (0 : Int), ((b - 1 : Nat) : Int)) rfl rfl _ (a + 1) (Nat.le_refl _) (by omega)
 have gu := Sort.scanUp_ge (fun x => ltP x d1[a]!) d1 (b - 1) (a + 1)
 have gu2 := (Sort.scanUp_spec (fun x => ltP x d1[a]!) d1 (b - 1) _ (a + 1) rfl).2.1 (by omega)
 generalize hI : Sort.scanUp (fun x => ltP x d1[a]!) d1 (b - 1) (a + 1) = i at *
 have hd := e_dn4 a d1 i (by omega) (by omega) (by omega) (d1.toList, (0 : Int), (0 : Int)) rfl (b - 1) (by omega)
 have gl := Sort.scanDown_le (fun x => !ltP x d1[a]!) d1 i (b - 1)
 have gl2 := (Sort.scanDown_spec (fun x => !ltP x d1[a]!) d1 i (b - 1)).2.1 (by omega)
 generalize hJ : Sort.scanDown (fun x => !ltP x d1[a]!) d1 i (b - 1) = j at *
 rw [hu]; simp only [bd_some]; rw [hd]; simp only [bd_some]
 by_cases h : i > j
 ·rw [decide_eq_true (show ((j : Int) < (i : Int)) by omega), if_pos h]
  simp (disch := first | (unfold I64; omega) | (unfold ix; (try simp only [List.length_set, lenA]); omega)) only [cond_true, gd_true, natI]
 ·rw [decide_eq_false (show ¬ ((j : Int) < (i : Int)) by omega), if_neg h]
  have c2 : (j : Int) - 1 = ((j - 1 : Nat) : Int) := by omega
  have hz2 : (Sort.swp d1 i j).size = d.size := by rw [Sort.swp_size]; exact hz
  have hl := e_partL a _ (i + 1) (j - 1) (Sort.swp d1 i j) (Nat.le_refl _) (by omega) (by omega) (by omega) (by omega)
  have hz3 := sz_partL a _ (i + 1) (j - 1) (Sort.swp d1 i j) (Nat.le_refl _)
  have hle : (Sort.partLoop ltP a (i + 1) (j - 1) (Sort.swp d1 i j)).1 ≤ j - 1 := by
   clear hl hz3
   have : ∀ (n i j : Nat) (d : Array PostH), j + 1 - i ≤ n → (Sort.partLoop ltP a i j d).1 ≤ j := by
    intro n
    induction n with
    | zero =>
     intro i j d hn
     rw [Sort.partLoop_eq]
     have g1 := Sort.scanUp_ge (fun x => ltP x d[a]!) d j i
     have g2 := Sort.scanDown_le (fun x => !ltP x d[a]!) d (Sort.scanUp (fun x => ltP x d[a]!) d j i) j
     rw [if_pos (by omega)]; exact g2
    | succ n ih =>
     intro i j d hn
     rw [Sort.partLoop_eq]
     have g1 := Sort.scanUp_ge (fun x => ltP x d[a]!) d j i
     have g2 := Sort.scanDown_le (fun x => !ltP x d[a]!) d (Sort.scanUp (fun x => ltP x d[a]!) d j i) j
     split
     ·exact g2
     ·exact Nat.le_trans (ih _ _ _ (by omega)) (by omega)
   exact this _ _ _ _ (Nat.le_refl _)
  simp (disch := first | (unfold I64; omega) | (unfold ix; (try simp only [List.length_set, lenA]); omega)) only [cond_false, gd_true, natI, nthA, swpA', addI, c2, hl, bd_some]
theorem e_upE (a : Nat) (d : Array PostH) (j : Nat) (hj : j < d.size) (ha : a < d.size) (hs : d.size ≤ 1073741824) (s : (List PostH) × Int × Int) (h1 : s.1 = d.toList) (h2 : s.2.2 = (j : Int)) : ∀ (n i : Nat), j + 1 - i ≤ n → i ≤ 1073741825 →
  lp (p_partitionEqualH_b1 (a : Int) s) (i : Int) = some (((Sort.scanUp (fun x => !ltP d[a]! x) d j i : Nat) : Int))
 | n, i, hn, hi => by
  rw [Sort.scanUp]
  by_cases h : i ≤ j
  ·cases n with
   | zero => omega
   | succ n =>
    have e1 : decide ((i : Int) ≤ (j : Int)) = true := decide_eq_true (by omega)
    have step : p_partitionEqualH_b1 (a : Int) s (i : Int) = cond (!ltP d[a]! d[i]!) (some (.inl ((i + 1 : Nat) : Int))) (some (.inr (i : Int))) := by
     unfold p_partitionEqualH_b1
     rw [h1, h2]
     simp (disch := first | (unfold I64; omega) | (unfold ix; (try simp only [List.length_set, lenA]); omega)) only [e1, cond_true, gd_true, natI, nthA, e_cmpH, bd_some, ltN, addI]
    cases hl : ltP d[a]! d[i]! with
    | false =>
     rw [lp.step (by rw [step, hl]; rfl), if_pos (by simp [h])]
     exact e_upE a d j hj ha hs s h1 h2 n (i + 1) (by omega) (by omega)
    | true => rw [lp.stop (by rw [step, hl]; rfl), if_neg (by simp)]
  ·rw [lp.stop (e := (i : Int)) (by unfold p_partitionEqualH_b1; rw [h2, decide_eq_false (show ¬ ((i : Int) ≤ (j : Int)) by omega)]; rfl), if_neg (by simp [h])]
theorem e_dnE (a : Nat) (d : Array PostH) (i : Nat) (h0 : 1 ≤ i) (ha : a < d.size) (hs : d.size ≤ 1073741824) (s : (List PostH) × Int × Int) (h1 : s.1 = d.toList) : ∀ (j : Nat), j < d.size →
  lp (p_partitionEqualH_b2 (a : Int) s (i : Int)) (j : Int) = some (((Sort.scanDown (fun x => ltP d[a]! x) d i j : Nat) : Int))
 | 0, hj => by
  rw [lp.stop (e := ((0 : Nat) : Int)) (by unfold p_partitionEqualH_b2; rw [decide_eq_false (show ¬ ((i : Int) ≤ ((0 : Nat) : Int)) by omega)]; rfl)]
  rfl
 | j + 1, hj => by
  unfold Sort.scanDown
  by_cases h : i ≤ j + 1
  ·have e1 : decide ((i : Int) ≤ ((j + 1 : Nat) : Int)) = true := decide_eq_true (by omega)
   have step : p_partitionEqualH_b2 (a : Int) s (i : Int) ((j + 1 : Nat) : Int) = cond (ltP d[a]! d[j + 1]!) (some (.inl (j : Int))) (some (.inr ((j + 1 : Nat) : Int))) := by
    unfold p_partitionEqualH_b2
    rw [h1]
    simp (disch := first | (unfold I64; omega) | (unfold ix; (try simp only [List.length_set, lenA]); omega)) only [e1, cond_true, gd_true, natI, nthA, e_cmpH, bd_some, cmH_lt, subI]
   cases hl : ltP d[a]! d[j + 1]! with
   | true =>
    rw [lp.step (by rw [step, hl]; rfl), if_pos (by simp [h])]
    exact e_dnE a d i h0 ha hs s h1 j (by omega)
   | false => rw [lp.stop (by rw [step, hl]; rfl), if_neg (by simp)]
  ·rw [lp.stop (e := ((j + 1 : Nat) : Int)) (by unfold p_partitionEqualH_b2; rw [decide_eq_false (show ¬ ((i : Int) ≤ ((j + 1 : Nat) : Int)) by omega)]; rfl), if_neg (by simp [h])]
theorem e_parEL (a : Nat) : ∀ (n i j : Nat) (d : Array PostH), j + 1 - i ≤ n → a < i → i ≤ d.size → j < d.size → d.size ≤ 1073741824 →
  lp (p_partitionEqualH_b0 (a : Int)) (d.toList, (i : Int), (j : Int)) = some (((Sort.partEqLoop ltP a i j d).1 : Int), (Sort.partEqLoop ltP a i j d).2.toList)
 | n, i, j, d, hn, hai, hij, hj, hs => by
  have hu := e_upE a d j hj (by omega) hs (d.toList, (i : Int), (j : Int)) rfl rfl _ i (Nat.le_refl _) (by omega)
  have gu := Sort.scanUp_ge (fun x => !ltP d[a]! x) d j i
  have hd := e_dnE a d (Sort.scanUp (fun x => !ltP d[a]! x) d j i) (by omega) (by omega) hs (d.toList, (i : Int), (j : Int)) rfl j hj
  have gl := Sort.scanDown_le (fun x => ltP d[a]! x) d (Sort.scanUp (fun x => !ltP d[a]! x) d j i) j
  rw [Sort.partEqLoop_eq]
  generalize hI : Sort.scanUp (fun x => !ltP d[a]! x) d j i = i2 at *
  generalize hJ : Sort.scanDown (fun x => ltP d[a]! x) d i2 j = j2 at *
  by_cases h : i2 > j2
  ·rw [if_pos h, lp.stop (e := ((i2 : Int), d.toList)) (by
    unfold p_partitionEqualH_b0
    rw [hu]; simp only [bd_some]; rw [hd]; simp only [bd_some]
    rw [decide_eq_true (show ((j2 : Int) < (i2 : Int)) by omega)]; rfl)]
  ·rw [if_neg h]
   cases n with
   | zero => omega
   | succ n =>
    have c : (j2 : Int) - 1 = ((j2 - 1 : Nat) : Int) := by omega
    rw [lp.step (s' := ((Sort.swp d i2 j2).toList, ((i2 + 1 : Nat) : Int), ((j2 - 1 : Nat) : Int))) (by
     unfold p_partitionEqualH_b0
     rw [hu]; simp only [bd_some]; rw [hd]; simp only [bd_some]
     rw [decide_eq_false (show ¬ ((j2 : Int) < (i2 : Int)) by omega)]
     simp (disch := first | (unfold I64; omega) | (unfold ix; (try simp only [List.length_set, lenA]); omega)) only [cond_false, gd_true, natI, nthA, swpA', addI, c])]
    exact e_parEL a n (i2 + 1) (j2 - 1) _ (by omega) (by omega) (by rw [Sort.swp_size]; omega) (by rw [Sort.swp_size]; omega) (by rw [Sort.swp_size]; exact hs)
theorem e_parE (a b pv : Nat) (d : Array PostH) (ha : a ≤ pv) (hp : pv < b) (hb : b ≤ d.size) (hs : d.size ≤ 1073741824) :
  p_partitionEqualH d.toList (a : Int) (b : Int) (pv : Int) = some (((Sort.partitionEqual ltP d a b pv).1 : Int), (Sort.partitionEqual ltP d a b pv).2.toList) := by
 have c : (b : Int) - 1 = ((b - 1 : Nat) : Int) := by omega
 have hz : (Sort.swp d a pv).size = d.size := Sort.swp_size _ _ _
 unfold Sort.partitionEqual p_partitionEqualH
 simp (disch := first | (unfold I64; omega) | (unfold ix; (try simp only [List.length_set, lenA]); omega)) only [gd_true, natI, nthA, swpA', addI, c, e_parEL a _ (a + 1) (b - 1) (Sort.swp d a pv) (Nat.le_refl _) (by omega) (by omega) (by omega) (by omega), bd_some]
theorem e_scanS (b : Nat) (d : Array PostH) (hb : b ≤ d.size) (hs : d.size ≤ 1073741824) (s : (List PostH) × Int × Int) (h1 : s.1 = d.toList) : ∀ (n i : Nat), b - i ≤ n → 1 ≤ i → i ≤ b →
  lp (p_partialInsertionSortH_b1 (b : Int) s) (i : Int) = some ((Sort.scanSorted ltP d b i : Nat) : Int)
 | n, i, hn, h0, hi => by
  rw [Sort.scanSorted]
  by_cases h : i < b
  ·cases n with
   | zero => omega
   | succ n =>
    have e1 : decide ((i : Int) < (b : Int)) = true := decide_eq_true (by omega)
    have c : (i : Int) - 1 = ((i - 1 : Nat) : Int) := by omega
    have step : p_partialInsertionSortH_b1 (b : Int) s (i : Int) = cond (!ltP d[i]! d[i - 1]!) (some (.inl ((i + 1 : Nat) : Int))) (some (.inr (i : Int))) := by
     unfold p_partialInsertionSortH_b1
     rw [h1]
     simp (disch := first | (unfold I64; omega) | (unfold ix; (try simp only [List.length_set, lenA]); omega)) only [e1, cond_true, c, gd_true, natI, nthA, e_cmpH, bd_some, ltN, addI]
    cases hl : ltP d[i]! d[i - 1]! with
    | false =>
     rw [lp.step (by rw [step, hl]; rfl), if_pos (by simp [h])]
     exact e_scanS b d hb hs s h1 n (i + 1) (by omega) (by omega) (by omega)
    | true => rw [lp.stop (by rw [step, hl]; rfl), if_neg (by simp)]
  ·rw [lp.stop (e := (i : Int)) (by unfold p_partialInsertionSortH_b1; rw [decide_eq_false (show ¬ ((i : Int) < (b : Int)) by omega)]; rfl), if_neg (by simp [h])]
theorem sz_shD : ∀ (j : Nat) (d : Array PostH), (Sort.shiftDown ltP j d).size = d.size
 | 0, d => rfl
 | j + 1, d => by
  unfold Sort.shiftDown
  split
  ·rfl
  ·rw [sz_shD j, Sort.swp_size]
theorem sz_shU (b : Nat) : ∀ (n j : Nat) (d : Array PostH), b - j ≤ n → (Sort.shiftUp ltP b j d).size = d.size
 | n, j, d, hn => by
  rw [Sort.shiftUp]
  split
  ·split
   ·rfl
   ·cases n with
    | zero => omega
    | succ n => rw [sz_shU b n _ _ (by omega), Sort.swp_size]
  ·rfl
theorem e_shD : ∀ (j : Nat) (d : Array PostH), j < d.size → d.size ≤ 1073741824 → lp p_partialInsertionSortH_b2 (d.toList, (j : Int)) = some (Sort.shiftDown ltP j d).toList
 | 0, d, hj, hs => lp.stop (by unfold p_partialInsertionSortH_b2; rw [decide_eq_false (show ¬ ((1 : Int) ≤ ((0 : Nat) : Int)) by omega)]; rfl)
 | j + 1, d, hj, hs => by
  have e1 : decide ((1 : Int) ≤ ((j + 1 : Nat) : Int)) = true := decide_eq_true (by omega)
  have step : p_partialInsertionSortH_b2 (d.toList, ((j + 1 : Nat) : Int)) = cond (!ltP d[j + 1]! d[j]!) (some (.inr d.toList)) (some (.inl ((Sort.swp d (j + 1) j).toList, (j : Int)))) := by
   unfold p_partialInsertionSortH_b2
   simp (disch := first | (unfold I64; omega) | (unfold ix; (try simp only [List.length_set, lenA]); omega)) only [e1, cond_true, gd_true, subI, natI, nthA, e_cmpH, bd_some, ltN, swpA']
  unfold Sort.shiftDown
  cases hl : ltP d[j + 1]! d[j]! with
  | false => rw [lp.stop (by rw [step, hl]; rfl)]; rfl
  | true =>
   rw [lp.step (by rw [step, hl]; rfl), e_shD j _ (by rw [Sort.swp_size]; omega) (by rw [Sort.swp_size]; exact hs)]; rfl
theorem e_shU (b : Nat) : ∀ (n j : Nat) (d : Array PostH), b - j ≤ n → 1 ≤ j → b ≤ d.size → d.size ≤ 1073741824 → lp (p_partialInsertionSortH_b3 (b : Int)) (d.toList, (j : Int)) = some (Sort.shiftUp ltP b j d).toList
 | n, j, d, hn, h0, hb, hs => by
  rw [Sort.shiftUp]
  by_cases h : j < b
  ·cases n with
   | zero => omega
   | succ n =>
    have e1 : decide ((j : Int) < (b : Int)) = true := decide_eq_true (by omega)
    have c : (j : Int) - 1 = ((j - 1 : Nat) : Int) := by omega
    have step : p_partialInsertionSortH_b3 (b : Int) (d.toList, (j : Int)) = cond (!ltP d[j]! d[j - 1]!) (some (.inr d.toList)) (some (.inl ((Sort.swp d j (j - 1)).toList, ((j + 1 : Nat) : Int)))) := by
     unfold p_partialInsertionSortH_b3
     simp (disch := first | (unfold I64; omega) | (unfold ix; (try simp only [List.length_set, lenA]); omega)) only [e1, cond_true, c, gd_true, natI, nthA, e_cmpH, bd_some, ltN, swpA', addI]
    rw [if_pos h]
    cases hl : ltP d[j]! d[j - 1]! with
    | false => rw [lp.stop (by rw [step, hl]; rfl)]; rfl
    | true =>
     rw [lp.step (by rw [step, hl]; rfl), e_shU b n (j + 1) _ (by omega) (by omega) (by rw [Sort.swp_size]; exact hb) (by rw [Sort.swp_size]; exact hs)]; rfl
  ·rw [if_neg h, lp.stop (e := d.toList) (by unfold p_partialInsertionSortH_b3; rw [decide_eq_false (show ¬ ((j : Int) < (b : Int)) by omega)]; rfl)]
theorem e_parI (a b : Nat) : ∀ (s i : Nat) (d : Array PostH), s ≤ 5 → a < i → i ≤ b → b ≤ d.size → d.size ≤ 1073741824 →
  bd (lp (p_partialInsertionSortH_b0 (a : Int) (b : Int)) (d.toList, (i : Int), 5 - (s : Int))) (sw (fun e => some (false, e)) (fun q => some q)) = some ((Sort.partialIns ltP a b s i d).2, (Sort.partialIns ltP a b s i d).1.toList)
 | 0, i, d, hs5, hai, hib, hb, hs => by
  rw [lp.stop (e := .inl d.toList) (by unfold p_partialInsertionSortH_b0; rw [decide_eq_false (show ¬ ((5 : Int) - ((0 : Nat) : Int) < 5) by omega)]; rfl)]
  rfl
 | s + 1, i, d, hs5, hai, hib, hb, hs => by
  have e1 : decide ((5 : Int) - ((s + 1 : Nat) : Int) < 5) = true := decide_eq_true (by omega)
  have hu := e_scanS b d hb hs (d.toList, (i : Int), (5 : Int) - ((s + 1 : Nat) : Int)) rfl _ i (Nat.le_refl _) (by omega) hib
  have gu : i ≤ Sort.scanSorted ltP d b i ∧ Sort.scanSorted ltP d b i ≤ b := by
   clear hu
   have : ∀ (n i : Nat), b - i ≤ n → i ≤ b → i ≤ Sort.scanSorted ltP d b i ∧ Sort.scanSorted ltP d b i ≤ b := by
    intro n
    induction n with
    | zero => intro i hn hi; rw [Sort.scanSorted, if_neg (by simp; omega)]; exact ⟨Nat.le_refl _, hi⟩
    | succ n ih =>
     intro i hn hi
     rw [Sort.scanSorted]
     split
     ·rename_i h; simp only [Bool.and_eq_true, decide_eq_true_eq] at h
      have := ih (i + 1) (by omega) (by omega); omega
     ·exact ⟨Nat.le_refl _, hi⟩
   exact this _ i (Nat.le_refl _) hib
  rw [Sort.partialIns_succ]
  generalize hI : Sort.scanSorted ltP d b i = i2 at *
  by_cases hE : i2 = b
  ·rw [lp.stop (e := .inr (true, d.toList)) (by
    unfold p_partialInsertionSortH_b0
    simp only [e1, cond_true, hu, bd_some]
    rw [decide_eq_true (show ((i2 : Int) = (b : Int)) by omega)]; rfl)]
   simp [hE, bd, sw]
  ·by_cases hL : b - a < 50
   ·rw [lp.stop (e := .inr (false, d.toList)) (by
     unfold p_partialInsertionSortH_b0
     simp only [e1, cond_true, hu, bd_some]
     rw [decide_eq_false (show ¬ ((i2 : Int) = (b : Int)) by omega), gd.yes (by unfold I64; omega), decide_eq_true (show ((b : Int) - (a : Int) < 50) by omega)]; rfl)]
    simp [hE, hL, bd, sw]
   ·have c : (i2 : Int) - 1 = ((i2 - 1 : Nat) : Int) := by omega
    have c2 : (i2 : Int) - (a : Int) = ((i2 - a : Nat) : Int) := by omega
    have c3 : (b : Int) - (i2 : Int) = ((b - i2 : Nat) : Int) := by omega
    have c4 : (5 : Int) - ((s + 1 : Nat) : Int) + 1 = 5 - (s : Int) := by omega
    have hz : (Sort.swp d i2 (i2 - 1)).size = d.size := Sort.swp_size _ _ _
    rw [if_neg hE, if_neg hL]
    generalize hD : Sort.swp d i2 (i2 - 1) = d1 at *
    have hz2 : ((if i2 - a ≥ 2 then Sort.shiftDown ltP (i2 - 1) d1 else d1)).size = d.size := by split <;> simp only [sz_shD, hz]
    have step : p_partialInsertionSortH_b0 (a : Int) (b : Int) (d.toList, (i : Int), 5 - ((s + 1 : Nat) : Int)) =
      some (.inl ((if b - i2 ≥ 2 then Sort.shiftUp ltP b (i2 + 1) (if i2 - a ≥ 2 then Sort.shiftDown ltP (i2 - 1) d1 else d1) else (if i2 - a ≥ 2 then Sort.shiftDown ltP (i2 - 1) d1 else d1)).toList, (i2 : Int), 5 - (s : Int))) := by
     unfold p_partialInsertionSortH_b0
     simp only [e1, cond_true, hu, bd_some]
     rw [decide_eq_false (show ¬ ((i2 : Int) = (b : Int)) by omega), gd.yes (by unfold I64; omega), decide_eq_false (show ¬ ((b : Int) - (a : Int) < 50) by omega)]
     simp (disch := first | (unfold I64; omega) | (unfold ix; (try simp only [List.length_set, lenA]); omega)) only [cond_false, c, c2, gd_true, natI, nthA, swpA', hD]
     have hsd := e_shD (i2 - 1) d1 (by omega) (by omega)
     have j1 : (cond (decide ((2 : Int) ≤ ((i2 - a : Nat) : Int))) (bd (lp p_partialInsertionSortH_b2 (d1.toList, ((i2 - 1 : Nat) : Int))) fun x52 => some x52) (some d1.toList)) = some (if i2 - a ≥ 2 then Sort.shiftDown ltP (i2 - 1) d1 else d1).toList := by
      by_cases hq : i2 - a ≥ 2
      ·rw [decide_eq_true (show ((2 : Int) ≤ ((i2 - a : Nat) : Int)) by omega), if_pos hq, cond_true, hsd]; rfl
      ·rw [decide_eq_false (show ¬ ((2 : Int) ≤ ((i2 - a : Nat) : Int)) by omega), if_neg hq]; rfl
     rw [j1]
     generalize (if i2 - a ≥ 2 then Sort.shiftDown ltP (i2 - 1) d1 else d1) = d2 at *
     simp (disch := first | (unfold I64; omega) | (unfold ix; (try simp only [List.length_set, lenA]); omega)) only [bd_some, c3]
     by_cases hq : b - i2 ≥ 2
     ·rw [decide_eq_true (show ((2 : Int) ≤ ((b - i2 : Nat) : Int)) by omega), if_pos hq]
      simp (disch := first | (unfold I64; omega)) only [cond_true, addI, e_shU b _ (i2 + 1) d2 (Nat.le_refl _) (by omega) (by omega) (by omega), bd_some, c4]
     ·rw [decide_eq_false (show ¬ ((2 : Int) ≤ ((b - i2 : Nat) : Int)) by omega), if_neg hq]
      simp (disch := first | (unfold I64; omega)) only [cond_false, c4]
    rw [lp.step step]
    exact e_parI a b s i2 _ (by omega) (by omega) (by omega) (by split <;> simp only [sz_shU b _ _ _ (Nat.le_refl _), hz2] <;> exact hb) (by split <;> simp only [sz_shU b _ _ _ (Nat.le_refl _), hz2] <;> exact hs)
theorem e_par (a b : Nat) (d : Array PostH) (ha : a < b) (hb : b ≤ d.size) (hs : d.size ≤ 1073741824) :
  p_partialInsertionSortH d.toList (a : Int) (b : Int) = some ((Sort.partialInsertionSort ltP d a b).2, (Sort.partialInsertionSort ltP d a b).1.toList) := by
 unfold p_partialInsertionSortH
 rw [gd.yes (by unfold I64; omega), addI]
 exact e_parI a b 5 (a + 1) d (by omega) (by omega) (by omega) hb hs
theorem e_ord (d : Array PostH) (x y s : Nat) (hx : x < d.size) (hy : y < d.size) (hs : s ≤ 1000) :
  ∃ u v t : Nat, p_order2H d.toList (x : Int) (y : Int) (s : Int) = some ((u : Int), (v : Int), (t : Int)) ∧ (u = x ∧ v = y ∨ u = y ∧ v = x) ∧ t ≤ s + 1 := by
 unfold p_order2H
 simp (disch := first | (unfold I64; omega) | (unfold ix; (try simp only [List.length_set, lenA]); omega)) only [gd_true, natI, nthA, e_cmpH, bd_some, cmH_lt, addI]
 cases ltP d[y]! d[x]! with
 | true => exact ⟨y, x, s + 1, rfl, .inr ⟨rfl, rfl⟩, Nat.le_refl _⟩
 | false => exact ⟨x, y, s, rfl, .inl ⟨rfl, rfl⟩, Nat.le_succ _⟩
theorem e_med (d : Array PostH) (x y z s : Nat) (hx : x < d.size) (hy : y < d.size) (hz : z < d.size) (hs : s ≤ 900) :
  ∃ u t : Nat, p_medianH d.toList (x : Int) (y : Int) (z : Int) (s : Int) = some ((u : Int), (t : Int)) ∧ (u = x ∨ u = y ∨ u = z) ∧ t ≤ s + 3 := by
 unfold p_medianH
 obtain ⟨u1, v1, t1, e1, k1, l1⟩ := e_ord d x y s hx hy (by omega)
 obtain ⟨u2, v2, t2, e2, k2, l2⟩ := e_ord d v1 z t1 (by omega) hz (by omega)
 obtain ⟨u3, v3, t3, e3, k3, l3⟩ := e_ord d u1 u2 t2 (by omega) (by omega) (by omega)
 simp only [e1, bd_some, e2, e3]
 exact ⟨v3, t3, rfl, by omega, by omega⟩
theorem e_adj (d : Array PostH) (x s : Nat) (hx : x + 1 < d.size) (h0 : 1 ≤ x) (hs : s ≤ 900) (hb : d.size ≤ 1073741824) :
  ∃ u t : Nat, p_medianAdjacentH d.toList (x : Int) (s : Int) = some ((u : Int), (t : Int)) ∧ (u = x - 1 ∨ u = x ∨ u = x + 1) ∧ t ≤ s + 3 := by
 unfold p_medianAdjacentH
 have c : (x : Int) - 1 = ((x - 1 : Nat) : Int) := by omega
 obtain ⟨u, t, e, k, l⟩ := e_med d (x - 1) x (x + 1) s (by omega) (by omega) hx hs
 simp (disch := first | (unfold I64; omega)) only [gd_true, c, addI, e, bd_some]
 exact ⟨u, t, rfl, k, l⟩
theorem e_piv (a b : Nat) (d : Array PostH) (ha : a < b) (hb : b ≤ d.size) (hs : d.size ≤ 1073741824) :
  ∃ (p : Nat) (h : Int), p_choosePivotH d.toList (a : Int) (b : Int) = some ((p : Int), h) ∧ a ≤ p ∧ p < b := by
 unfold p_choosePivotH
 have c0 : (b : Int) - (a : Int) = ((b - a : Nat) : Int) := by omega
 have c1 : (((b - a : Nat) : Int)).tdiv 4 = (((b - a) / 4 : Nat) : Int) := (Int.ofNat_tdiv (b - a) 4).symm
 have hq : (b - a) / 4 * 4 ≤ b - a := Nat.div_mul_le_self _ _
 have hq2 : b - a < (b - a) / 4 * 4 + 4 := by omega
 simp only [c0, c1]
 generalize (b - a) / 4 = q at *
 have f1 : (a : Int) + (q : Int) * 1 = ((a + q : Nat) : Int) := by omega
 have f2 : (a : Int) + (q : Int) * 2 = ((a + q * 2 : Nat) : Int) := by omega
 have f3 : (a : Int) + (q : Int) * 3 = ((a + q * 3 : Nat) : Int) := by omega
 simp (disch := first | (unfold I64; omega)) only [gd_true, f1, f2, f3]
 have key : ∃ (s p : Nat), (cond (decide (8 ≤ ((b - a : Nat) : Int))) (bd (cond (decide (50 ≤ ((b - a : Nat) : Int))) (bd (p_medianAdjacentH d.toList ((a + q : Nat) : Int) 0) fun r18 => bd (p_medianAdjacentH d.toList ((a + q * 2 : Nat) : Int) r18.2) fun r21 => bd (p_medianAdjacentH d.toList ((a + q * 3 : Nat) : Int) r21.2) fun r24 => some (r24.2, r18.1, r21.1, r24.1)) (some (0, ((a + q : Nat) : Int), ((a + q * 2 : Nat) : Int), ((a + q * 3 : Nat) : Int)))) fun x15 => bd (p_medianH d.toList x15.2.1 x15.2.2.1 x15.2.2.2 x15.1) fun r27 => some (r27.2, r27.1)) (some (0, ((a + q * 2 : Nat) : Int)))) = some ((s : Int), (p : Int)) ∧ a ≤ p ∧ p < b := by
  by_cases h8 : 8 ≤ b - a
  ·rw [decide_eq_true (show (8 : Int) ≤ ((b - a : Nat) : Int) by omega), cond_true]
   by_cases h50 : 50 ≤ b - a
   ·rw [decide_eq_true (show (50 : Int) ≤ ((b - a : Nat) : Int) by omega), cond_true]
    obtain ⟨u1, t1, e1, k1, l1⟩ := e_adj d (a + q) 0 (by omega) (by omega) (by omega) hs
    obtain ⟨u2, t2, e2, k2, l2⟩ := e_adj d (a + q * 2) t1 (by omega) (by omega) (by omega) hs
    obtain ⟨u3, t3, e3, k3, l3⟩ := e_adj d (a + q * 3) t2 (by omega) (by omega) (by omega) hs
    obtain ⟨u4, t4, e4, k4, l4⟩ := e_med d u1 u2 u3 t3 (by omega) (by omega) (by omega) (by omega)
    rw [show ((0 : Nat) : Int) = 0 from rfl] at e1
    simp only [e1, bd_some, e2, e3, e4]
    exact ⟨t4, u4, rfl, by omega, by omega⟩
   ·rw [decide_eq_false (show ¬ (50 : Int) ≤ ((b - a : Nat) : Int) by omega), cond_false]
    obtain ⟨u4, t4, e4, k4, l4⟩ := e_med d (a + q) (a + q * 2) (a + q * 3) 0 (by omega) (by omega) (by omega) (by omega)
    rw [show ((0 : Nat) : Int) = 0 from rfl] at e4
    simp only [bd_some, e4]
    exact ⟨t4, u4, rfl, by omega, by omega⟩
  ·rw [decide_eq_false (show ¬ (8 : Int) ≤ ((b - a : Nat) : Int) by omega), cond_false]
   exact ⟨0, a + q * 2, rfl, by omega, by omega⟩
 obtain ⟨s, p, e, k1, k2⟩ := key
 rw [e]
 simp only [bd_some]
 cases decide ((s : Int) = 0) <;> cases decide ((s : Int) = 12) <;> exact ⟨p, _, rfl, k1, k2⟩
theorem tab256 : ∀ k : Fin 256, (sb kstr_307d5e k.val).toNat = Sort.bitsLen k.val := by decide +kernel
theorem sz_k : kstr_307d5e.size = 256 := by decide +kernel
theorem w64N (n : Nat) (h : n < 18446744073709551616) : (w64 (n : Int)).toNat = n := by
 have := w64_wrap (n : Int)
 have h2 : IntKind.u64.wrap (n : Int) = (n : Int) := by show (n : Int) % (2 ^ 64 : Int) = _; omega
 omega
theorem wrN (x : UInt64) (k : Nat) (hk : k ≤ 64) : (wr x (k : Int)).toNat = x.toNat / 2 ^ k := by
 have h1 := x.toNat_lt
 unfold wr
 have h2 : x.toNat / 2 ^ k ≤ x.toNat := Nat.div_le_self _ _
 rw [natI, Nat.min_eq_left hk, UInt64.toNat_ofNat_of_lt' (show _ < 2 ^ 64 by omega)]
theorem b8N (n : Nat) (h : n < 256) : (b8 (n : Int)).toNat = n := by
 have := b8_wrap (n : Int)
 have h2 : IntKind.u8.wrap (n : Int) = (n : Int) := by show (n : Int) % (2 ^ 8 : Int) = _; omega
 omega
theorem e_len (n : Nat) (hn : n ≤ 1073741824) : ∃ L : Nat, p_math_bits_Len (w64 (n : Int)) = some (L : Int) ∧ L ≤ 32 ∧ (1 ≤ n → 2 ^ L ≤ 2 * n) := by
 have hx := w64N n (by omega)
 generalize w64 (n : Int) = x at *
 unfold p_math_bits_Len p_math_bits_Len64
 have s1 : (cond (decide ((4294967296 : UInt64).toNat ≤ x.toNat)) (some (wr x ((32 : UInt64).toNat : Int), (32 : Int))) (some (x, 0))) = some (x, 0) := by
  rw [decide_eq_false (show ¬ ((4294967296 : UInt64).toNat ≤ x.toNat) by rw [show (4294967296 : UInt64).toNat = 4294967296 from rfl]; omega)]; rfl
 rw [s1]
 simp only [bd_some]
 obtain ⟨y, p, e2, hp, hy⟩ : ∃ (y : UInt64) (p : Nat), (cond (decide ((65536 : UInt64).toNat ≤ x.toNat)) (gd (I64 (0 + 16)) <| some (wr x ((16 : UInt64).toNat : Int), (0 : Int) + 16)) (some (x, 0))) = some (y, (p : Int)) ∧ (p = 0 ∧ y.toNat = n ∧ n < 65536 ∨ p = 16 ∧ y.toNat = n / 65536 ∧ 65536 ≤ n) ∧ y.toNat < 65536 := by
  by_cases h : 65536 ≤ n
  ·rw [decide_eq_true (show ((65536 : UInt64).toNat ≤ x.toNat) by rw [show (65536 : UInt64).toNat = 65536 from rfl]; omega), cond_true, gd.yes (by unfold I64; omega)]
   have := wrN x 16 (by omega)
   rw [hx] at this
   exact ⟨_, 16, rfl, .inr ⟨rfl, this, h⟩, by have e : ((16 : UInt64).toNat : Int) = ((16 : Nat) : Int) := rfl; rw [e, this]; omega⟩
  ·rw [decide_eq_false (show ¬ ((65536 : UInt64).toNat ≤ x.toNat) by rw [show (65536 : UInt64).toNat = 65536 from rfl]; omega)]
   exact ⟨x, 0, rfl, .inl ⟨rfl, hx, by omega⟩, by omega⟩
 rw [e2]
 simp only [bd_some]
 obtain ⟨z, q, e3, hq, hz⟩ : ∃ (z : UInt64) (q : Nat), (cond (decide ((256 : UInt64).toNat ≤ y.toNat)) (gd (I64 ((p : Int) + 8)) <| some (wr y ((8 : UInt64).toNat : Int), (p : Int) + 8)) (some (y, (p : Int)))) = some (z, (q : Int)) ∧ (q = p ∧ z.toNat = y.toNat ∨ q = p + 8 ∧ z.toNat = y.toNat / 256 ∧ 256 ≤ y.toNat) ∧ z.toNat < 256 := by
  by_cases h : 256 ≤ y.toNat
  ·rw [decide_eq_true (show ((256 : UInt64).toNat ≤ y.toNat) by rw [show (256 : UInt64).toNat = 256 from rfl]; omega), cond_true, gd.yes (by unfold I64; omega)]
   have := wrN y 8 (by omega)
   exact ⟨_, p + 8, rfl, .inr ⟨rfl, this, h⟩, by have e : ((8 : UInt64).toNat : Int) = ((8 : Nat) : Int) := rfl; rw [e, this]; omega⟩
  ·rw [decide_eq_false (show ¬ ((256 : UInt64).toNat ≤ y.toNat) by rw [show (256 : UInt64).toNat = 256 from rfl]; omega)]
   exact ⟨y, p, rfl, .inl ⟨rfl, rfl⟩, by omega⟩
 rw [e3]
 simp only [bd_some, b8N z.toNat hz]
 have ht := tab256 ⟨z.toNat, hz⟩
 simp only [] at ht
 have hb : Sort.bitsLen z.toNat ≤ 8 := (Sort.bitsLen_le_iff z.toNat 8).2 (by omega)
 rw [gd.yes (by unfold ix; rw [sz_k]; omega), gd.yes (by unfold I64; rw [ht]; omega), ht]
 simp only [bd_some]
 refine ⟨q + Sort.bitsLen z.toNat, by congr 1, by omega, fun h1 => ?_⟩
 have hz0 : 0 < z.toNat := by omega
 have h2 := Sort.two_pow_bitsLen_le hz0
 generalize Sort.bitsLen z.toNat = L at *
 rw [Nat.pow_add]
 have hcase : 2 ^ q * z.toNat ≤ n := by
  rcases hq with ⟨rfl, hzy⟩ | ⟨rfl, hzy, _⟩ <;> rcases hp with ⟨rfl, hyn, _⟩ | ⟨rfl, hyn, _⟩ <;> simp only [hzy, hyn, Nat.reduceAdd, Nat.reducePow] <;> omega
 calc 2 ^ q * 2 ^ L ≤ 2 ^ q * (2 * z.toNat) := Nat.mul_le_mul_left _ h2
  _ = 2 * (2 ^ q * z.toNat) := by rw [Nat.mul_left_comm]
  _ ≤ 2 * n := Nat.mul_le_mul_left _ hcase
theorem wl1 (L : Nat) (h : L ≤ 32) : (wl (1 : UInt64) (L : Int)).toNat = 2 ^ L := by
 unfold wl
 have hp : 2 ^ L ≤ 2 ^ 32 := Nat.pow_le_pow_right (by omega) h
 have e : ((1 : UInt64).toNat : Int) * 2 ^ (min (L : Int).toNat 64) = ((2 ^ L : Nat) : Int) := by
  rw [natI, Nat.min_eq_left (by omega)]
  show (1 : Int) * 2 ^ L = _
  rw [Int.one_mul]; push_cast; rfl
 rw [e, w64N _ (by omega)]
theorem e_brk (a b : Nat) (d : Array PostH) (ha : a ≤ b) (hb : b ≤ d.size) (hs : d.size ≤ 1073741824) :
  ∃ r : Array PostH, p_breakPatternsH d.toList (a : Int) (b : Int) = some r.toList ∧ Sort.PermIn a b d r := by
 unfold p_breakPatternsH
 have c0 : (b : Int) - (a : Int) = ((b - a : Nat) : Int) := by omega
 rw [gd.yes (by unfold I64; omega), c0]
 by_cases h8 : 8 ≤ b - a
 ·rw [decide_eq_true (show (8 : Int) ≤ ((b - a : Nat) : Int) by omega), cond_true]
  obtain ⟨L, eL, hL, hL2⟩ := e_len (b - a) (by omega)
  have hL2 := hL2 (by omega)
  have e1 : p_slices_nextPowerOfTwo ((b - a : Nat) : Int) = some (wl (1 : UInt64) (L : Int)) := by
   unfold p_slices_nextPowerOfTwo
   rw [eL]; simp only [bd_some]
   rw [gd.yes (by omega)]
  have hM := wl1 L hL
  have hpos : 0 < 2 ^ L := Nat.two_pow_pos _
  rw [e1]; simp only [bd_some]
  generalize wl (1 : UInt64) (L : Int) = M at *
  have c1 : (((b - a : Nat) : Int)).tdiv 4 = (((b - a) / 4 : Nat) : Int) := (Int.ofNat_tdiv (b - a) 4).symm
  have hq : (b - a) / 4 * 4 ≤ b - a := Nat.div_mul_le_self _ _
  have hq2 : b - a < (b - a) / 4 * 4 + 4 := by omega
  rw [c1]
  have hbody : ∀ r4 Q, p_breakPatternsH_b0 (a : Int) (b : Int) r4 Q = p_breakPatternsH_b0 (a : Int) (b : Int) r4 Q := fun _ _ => rfl
  have c2 : ((b : Int) - (a : Int)).tdiv 4 = (((b - a) / 4 : Nat) : Int) := by rw [c0, c1]
  generalize (b - a) / 4 = q at *
  rw [gd.yes (by unfold I64; omega), gd.yes (by unfold I64; omega), gd.yes (by unfold I64; omega), gd.yes (by unfold I64; omega)]
  have hMs : (M - 1).toNat = 2 ^ L - 1 := by
   rw [UInt64.toNat_sub_of_le]
   ·rw [hM]; rfl
   ·rw [UInt64.le_iff_toNat_le, hM]; exact hpos
  have step : ∀ (d' : Array PostH) (x : UInt64) (i : Nat), d'.size = d.size → a + q * 2 - 1 ≤ i → i ≤ a + q * 2 + 1 →
    ∃ (y : UInt64) (o : Nat), a ≤ o ∧ o < b ∧ p_breakPatternsH_b0 (a : Int) (b : Int) M (d'.toList, x, (i : Int)) = some (.inl ((Sort.swp d' i o).toList, y, ((i + 1 : Nat) : Int))) := by
   intro d' x i hz h1 h2
   unfold p_breakPatternsH_b0
   rw [c2, gd.yes (by unfold I64; omega)]
   rw [decide_eq_true (show ((i : Int) ≤ (a : Int) + (q : Int) * 2 + 1) by omega), cond_true]
   obtain ⟨u, v, eN⟩ : ∃ u v, p_slices_xorshift_Next x = some (u, v) := ⟨_, _, rfl⟩
   rw [eN]; simp only [bd_some]
   have hand : (u &&& (M - 1)).toNat ≤ 2 ^ L - 1 := by rw [UInt64.toNat_and, hMs]; exact Nat.and_le_right
   generalize (u &&& (M - 1)).toNat = w at *
   have hp32 : 2 ^ L ≤ 2 ^ 32 := Nat.pow_le_pow_right (by omega) hL
   rw [gd.yes (by unfold I64; omega)]
   obtain ⟨t, et, ht⟩ : ∃ t : Nat, (cond (decide ((b : Int) - (a : Int) ≤ (w : Int))) (gd (I64 ((w : Int) - ((b : Int) - (a : Int)))) <| some ((w : Int) - ((b : Int) - (a : Int)))) (some (w : Int))) = some (t : Int) ∧ t < b - a := by
    by_cases hw : b - a ≤ w
    ·rw [decide_eq_true (show ((b : Int) - (a : Int) ≤ (w : Int)) by omega), cond_true, gd.yes (by unfold I64; omega)]
     exact ⟨w - (b - a), by congr 1; omega, by omega⟩
    ·rw [decide_eq_false (show ¬ ((b : Int) - (a : Int) ≤ (w : Int)) by omega)]
     exact ⟨w, rfl, by omega⟩
   rw [et]
   have c3 : (a : Int) + (t : Int) = ((a + t : Nat) : Int) := by omega
   refine ⟨v, a + t, by omega, by omega, ?_⟩
   simp (disch := first | (unfold I64; omega) | (unfold ix; (try simp only [List.length_set, lenA]); omega)) only [bd_some, c3, gd_true, natI, nthA, swpA', addI]
  have cI : (a : Int) + (q : Int) * 2 - 1 = ((a + q * 2 - 1 : Nat) : Int) := by omega
  rw [cI]
  obtain ⟨e, he, r, rfl, hr⟩ := lp.rule (body := p_breakPatternsH_b0 (a : Int) (b : Int) M) (fun Q => ∃ (d' : Array PostH) (x : UInt64) (i : Nat), Q = (d'.toList, x, (i : Int)) ∧ Sort.PermIn a b d d' ∧ a + q * 2 - 1 ≤ i ∧ i ≤ a + q * 2 + 2)
   (fun Q => ((a + q * 2 + 2 : Nat) - Q.2.2 : Int).toNat) (fun e => ∃ r : Array PostH, e = r.toList ∧ Sort.PermIn a b d r) (by
    rintro _ ⟨d', x, i, rfl, hp, h1, h2⟩
    by_cases hi : i ≤ a + q * 2 + 1
    ·obtain ⟨y, o, ho1, ho2, hst⟩ := step d' x i hp.1 h1 hi
     refine .inl ⟨_, hst, ⟨_, y, i + 1, rfl, Sort.permIn_trans _ _ _ a b hp (Sort.swp_permIn d' a b i o (by omega) (by omega) ho1 ho2 (by rw [hp.1]; exact hb)), by omega, by omega⟩, ?_⟩
     simp only []; omega
    ·refine .inr ⟨d'.toList, ?_, d', rfl, hp⟩
     unfold p_breakPatternsH_b0
     rw [c2, gd.yes (by unfold I64; omega), decide_eq_false (show ¬ ((i : Int) ≤ (a : Int) + (q : Int) * 2 + 1) by omega)]; rfl)
   (s := (d.toList, w64 ((b - a : Nat) : Int), ((a + q * 2 - 1 : Nat) : Int))) ⟨d, _, _, rfl, Sort.permIn_refl d a b, Nat.le_refl _, by omega⟩
  rw [he]
  exact ⟨r, rfl, hr⟩
 ·rw [decide_eq_false (show ¬ (8 : Int) ≤ ((b - a : Nat) : Int) by omega)]
  exact ⟨d, rfl, Sort.permIn_refl d a b⟩
noncomputable def pdqT (rc : (List PostH) → Int → Int → Int → Option ((List PostH))) (l : List PostH) (a b lim : Int) (wb wp : Bool) (p : Int) : Option (((List PostH) × Int × Int × Int × Bool × Bool) ⊕ (Unit ⊕ (List PostH))) :=
 bd (cond (decide (0 < a)) (gd (I64 (a - 1)) <| gd (ix (a - 1) l.length) <| gd (ix p l.length) <| bd (p_impl_indexOf_2 (nth l ((a - 1).toNat)) (nth l p.toNat)) fun r66 => some (!(decide (r66 < 0)))) (some (false))) fun b60 => cond (b60) (bd (p_partitionEqualH l a b p) fun r69 => some (.inl (r69.2, r69.1, b, lim, wb, wp))) (bd (p_partitionH l a b p) fun r73 => gd (I64 (r73.1 - a)) <| gd (I64 (b - r73.1)) <| gd (I64 ((b - a).tdiv 8)) <| cond (decide ((r73.1 - a) < (b - r73.1))) (bd (rc r73.2.2 a r73.1 lim) fun r81 => gd (I64 (r73.1 + 1)) <| some (.inl (r81, r73.1 + 1, b, lim, decide (((b - a).tdiv 8) ≤ (r73.1 - a)), r73.2.1))) (gd (I64 (r73.1 + 1)) <| bd (rc r73.2.2 (r73.1 + 1) b lim) fun r87 => some (.inl (r87, a, r73.1, lim, decide (((b - a).tdiv 8) ≤ (b - r73.1)), r73.2.1))))
theorem pdq_b0s (rc : (List PostH) → Int → Int → Int → Option ((List PostH))) (Q : List PostH × Int × Int × Int × Bool × Bool) : p_pdqsortH_b0 rc Q =
  (gd (I64 (Q.2.2.1 - Q.2.1)) <| cond (decide ((Q.2.2.1 - Q.2.1) ≤ 12)) (bd (p_insertionSortH Q.1 Q.2.1 Q.2.2.1) fun r16 => some (.inr (.inr r16))) (cond (decide (Q.2.2.2.1 = 0)) (bd (p_heapSortH Q.1 Q.2.1 Q.2.2.1) fun r21 => some (.inr (.inr r21))) (bd (cond (!Q.2.2.2.2.1) (bd (p_breakPatternsH Q.1 Q.2.1 Q.2.2.1) fun r29 => gd (I64 (Q.2.2.2.1 - 1)) <| some (r29, Q.2.2.2.1 - 1)) (some (Q.1, Q.2.2.2.1))) fun x26 => bd (p_choosePivotH x26.1 Q.2.1 Q.2.2.1) fun r35 => bd (cond (decide (r35.2 = 2)) (bd (p_reverseRangeH x26.1 Q.2.1 Q.2.2.1) fun r41 => gd (I64 (Q.2.2.1 - 1)) <| gd (I64 (r35.1 - Q.2.1)) <| gd (I64 ((Q.2.2.1 - 1) - (r35.1 - Q.2.1))) <| some (r41, (Q.2.2.1 - 1) - (r35.1 - Q.2.1), 1)) (some (x26.1, r35.1, r35.2))) fun x38 => bd (cond Q.2.2.2.2.1 (cond Q.2.2.2.2.2 (some (decide (x38.2.2 = 1))) (some (false))) (some (false))) fun b49 => cond (b49) (bd (p_partialInsertionSortH x38.1 Q.2.1 Q.2.2.1) fun r54 => cond (r54.1) (some (.inr (.inr r54.2))) (pdqT rc r54.2 Q.2.1 Q.2.2.1 x26.2 Q.2.2.2.2.1 Q.2.2.2.2.2 x38.2.1)) (pdqT rc x38.1 Q.2.1 Q.2.2.1 x26.2 Q.2.2.2.2.1 Q.2.2.2.2.2 x38.2.1)))) := by unfold p_pdqsortH_b0 pdqT; rfl
theorem pdq_b0g (rc : (List PostH) → Int → Int → Int → Option ((List PostH))) (l : List PostH) (a b lim : Int) (wb wp : Bool) (Q : List PostH × Int × Int × Int × Bool × Bool) (h1 : Q.1 = l) (h2 : Q.2.1 = a) (h3 : Q.2.2.1 = b) (h4 : Q.2.2.2.1 = lim) (h5 : Q.2.2.2.2.1 = wb) (h6 : Q.2.2.2.2.2 = wp) : p_pdqsortH_b0 rc Q =
  (gd (I64 (b - a)) <| cond (decide ((b - a) ≤ 12)) (bd (p_insertionSortH l a b) fun r16 => some (.inr (.inr r16))) (cond (decide (lim = 0)) (bd (p_heapSortH l a b) fun r21 => some (.inr (.inr r21))) (bd (cond (!wb) (bd (p_breakPatternsH l a b) fun r29 => gd (I64 (lim - 1)) <| some (r29, lim - 1)) (some (l, lim))) fun x26 => bd (p_choosePivotH x26.1 a b) fun r35 => bd (cond (decide (r35.2 = 2)) (bd (p_reverseRangeH x26.1 a b) fun r41 => gd (I64 (b - 1)) <| gd (I64 (r35.1 - a)) <| gd (I64 ((b - 1) - (r35.1 - a))) <| some (r41, (b - 1) - (r35.1 - a), 1)) (some (x26.1, r35.1, r35.2))) fun x38 => bd (cond wb (cond wp (some (decide (x38.2.2 = 1))) (some (false))) (some (false))) fun b49 => cond (b49) (bd (p_partialInsertionSortH x38.1 a b) fun r54 => cond (r54.1) (some (.inr (.inr r54.2))) (pdqT rc r54.2 a b x26.2 wb wp x38.2.1)) (pdqT rc x38.1 a b x26.2 wb wp x38.2.1)))) := by subst h1 h2 h3 h4 h5 h6; exact pdq_b0s rc Q
theorem pdq_b0 (rc : (List PostH) → Int → Int → Int → Option ((List PostH))) (l : List PostH) (a b lim : Int) (wb wp : Bool) : p_pdqsortH_b0 rc (l, a, b, lim, wb, wp) =
  (gd (I64 (b - a)) <| cond (decide ((b - a) ≤ 12)) (bd (p_insertionSortH l a b) fun r16 => some (.inr (.inr r16))) (cond (decide (lim = 0)) (bd (p_heapSortH l a b) fun r21 => some (.inr (.inr r21))) (bd (cond (!wb) (bd (p_breakPatternsH l a b) fun r29 => gd (I64 (lim - 1)) <| some (r29, lim - 1)) (some (l, lim))) fun x26 => bd (p_choosePivotH x26.1 a b) fun r35 => bd (cond (decide (r35.2 = 2)) (bd (p_reverseRangeH x26.1 a b) fun r41 => gd (I64 (b - 1)) <| gd (I64 (r35.1 - a)) <| gd (I64 ((b - 1) - (r35.1 - a))) <| some (r41, (b - 1) - (r35.1 - a), 1)) (some (x26.1, r35.1, r35.2))) fun x38 => bd (cond wb (cond wp (some (decide (x38.2.2 = 1))) (some (false))) (some (false))) fun b49 => cond (b49) (bd (p_partialInsertionSortH x38.1 a b) fun r54 => cond (r54.1) (some (.inr (.inr r54.2))) (pdqT rc r54.2 a b x26.2 wb wp x38.2.1)) (pdqT rc x38.1 a b x26.2 wb wp x38.2.1)))) := pdq_b0g rc l a b lim wb wp _ rfl rfl rfl rfl rfl rfl
def PS (f : (List PostH) → Int → Int → Int → Option ((List PostH))) (N : Nat) : Prop := ∀ (d : Array PostH) (a b lim : Nat), b - a < N → a ≤ b → b ≤ d.size → d.size ≤ 1073741824 → lim ≤ 1000 → Sort.Below ltP a b d →
 ∃ r : Array PostH, f d.toList (a : Int) (b : Int) (lim : Int) = some r.toList ∧ Sort.PermIn a b d r ∧ Sort.SortedIn ltP a b r
theorem eta2 {α β : Type} (x : α × β) : x = (x.1, x.2) := rfl
theorem eta3 {α β γ : Type} (x : α × β × γ) : x = (x.1, x.2.1, x.2.2) := rfl
theorem e_tailP {rc : (List PostH) → Int → Int → Int → Option ((List PostH))} {N : Nat} (H : PS rc N) (d d4 : Array PostH) (a b lim mid : Nat) (_ _ ap : Bool) (hN : b - a ≤ N) (hb : b ≤ d.size) (hs : d.size ≤ 1073741824) (hl : lim ≤ 1000) (g1 : a ≤ mid) (g2 : mid < b) (hs4 : d4.size = d.size)
  (hBa : Sort.Below ltP a mid d4) (hBr : Sort.Below ltP (mid + 1) b d4)
  (hleft : ∀ L, Sort.PermIn a mid d4 L → Sort.SortedIn ltP a mid L → Sort.Below ltP (mid + 1) b L ∧ ∀ R, Sort.PermIn (mid + 1) b L R → Sort.SortedIn ltP (mid + 1) b R → Sort.PermIn a b d R ∧ Sort.SortedIn ltP a b R)
  (hright : ∀ L, Sort.PermIn (mid + 1) b d4 L → Sort.SortedIn ltP (mid + 1) b L → Sort.Below ltP a mid L ∧ ∀ R, Sort.PermIn a mid L R → Sort.SortedIn ltP a mid R → Sort.PermIn a b d R ∧ Sort.SortedIn ltP a b R) :
  ∃ (d' : Array PostH) (a' b' : Nat) (wb' wp' : Bool), (gd (I64 ((mid : Int) - (a : Int))) <| gd (I64 ((b : Int) - (mid : Int))) <| gd (I64 (((b : Int) - (a : Int)).tdiv 8)) <| cond (decide (((mid : Int) - (a : Int)) < ((b : Int) - (mid : Int)))) (bd (rc d4.toList (a : Int) (mid : Int) (lim : Int)) fun r81 => gd (I64 ((mid : Int) + 1)) <| some (.inl (r81, (mid : Int) + 1, (b : Int), (lim : Int), decide ((((b : Int) - (a : Int)).tdiv 8) ≤ ((mid : Int) - (a : Int))), ap))) (gd (I64 ((mid : Int) + 1)) <| bd (rc d4.toList ((mid : Int) + 1) (b : Int) (lim : Int)) fun r87 => some (.inl (r87, (a : Int), (mid : Int), (lim : Int), decide ((((b : Int) - (a : Int)).tdiv 8) ≤ ((b : Int) - (mid : Int))), ap)))) = (some (.inl (d'.toList, (a' : Int), (b' : Int), (lim : Int), wb', wp')) : Option (((List PostH) × Int × Int × Int × Bool × Bool) ⊕ (Unit ⊕ (List PostH)))) ∧ a' ≤ b' ∧ b' - a' < b - a ∧ d'.size = d.size ∧ b' ≤ d'.size ∧ Sort.Below ltP a' b' d' ∧
   ∀ R, Sort.PermIn a' b' d' R → Sort.SortedIn ltP a' b' R → Sort.PermIn a b d R ∧ Sort.SortedIn ltP a b R := by
 have c8 : ((b : Int) - (a : Int)).tdiv 8 = (((b - a) / 8 : Nat) : Int) := by rw [show (b : Int) - (a : Int) = ((b - a : Nat) : Int) by omega]; exact (Int.ofNat_tdiv (b - a) 8).symm
 have h8 : (b - a) / 8 ≤ b - a := Nat.div_le_self _ _
 rw [gd.yes (by unfold I64; omega), gd.yes (by unfold I64; omega), c8, gd.yes (by unfold I64; omega)]
 by_cases hlt : mid - a < b - mid
 ·rw [decide_eq_true (show ((mid : Int) - (a : Int) < (b : Int) - (mid : Int)) by omega), cond_true]
  obtain ⟨L, eL, l1, l2⟩ := H d4 a mid lim (by omega) g1 (by rw [hs4]; omega) (by rw [hs4]; exact hs) hl hBa
  obtain ⟨hBL, hfin⟩ := hleft L l1 l2
  rw [bd.yes eL, gd.yes (by unfold I64; omega), addI]
  exact ⟨L, mid + 1, b, _, _, rfl, by omega, by omega, by rw [l1.1, hs4], by rw [l1.1, hs4]; exact hb, hBL, hfin⟩
 ·rw [decide_eq_false (show ¬ ((mid : Int) - (a : Int) < (b : Int) - (mid : Int)) by omega), cond_false]
  obtain ⟨L, eL, l1, l2⟩ := H d4 (mid + 1) b lim (by omega) (by omega) (by rw [hs4]; exact hb) (by rw [hs4]; exact hs) hl hBr
  obtain ⟨hBL, hfin⟩ := hright L l1 l2
  rw [gd.yes (by unfold I64; omega), addI, bd.yes eL]
  exact ⟨L, a, mid, _, _, rfl, g1, by omega, by rw [l1.1, hs4], by rw [l1.1, hs4]; omega, hBL, hfin⟩
theorem e_tail {rc : (List PostH) → Int → Int → Int → Option ((List PostH))} {N : Nat} (H : PS rc N) (d : Array PostH) (a b lim p : Nat) (wb wp : Bool) (hN : b - a ≤ N) (ha : a ≤ p) (hp : p < b) (hb : b ≤ d.size) (hs : d.size ≤ 1073741824) (hl : lim ≤ 1000) (hB : Sort.Below ltP a b d) :
  ∃ (d' : Array PostH) (a' b' : Nat) (wb' wp' : Bool), pdqT rc d.toList (a : Int) (b : Int) (lim : Int) wb wp (p : Int) = some (.inl (d'.toList, (a' : Int), (b' : Int), (lim : Int), wb', wp')) ∧ a' ≤ b' ∧ b' - a' < b - a ∧ d'.size = d.size ∧ b' ≤ d'.size ∧ Sort.Below ltP a' b' d' ∧
   ∀ R, Sort.PermIn a' b' d' R → Sort.SortedIn ltP a' b' R → Sort.PermIn a b d R ∧ Sort.SortedIn ltP a b R := by
 have hS := ltP_swo (β := HV)
 unfold pdqT
 obtain ⟨e, he, hc⟩ : ∃ e : Bool, (cond (decide ((0 : Int) < (a : Int))) (gd (I64 ((a : Int) - 1)) <| gd (ix ((a : Int) - 1) d.toList.length) <| gd (ix (p : Int) d.toList.length) <| bd (p_impl_indexOf_2 (nth d.toList (((a : Int) - 1).toNat)) (nth d.toList (p : Int).toNat)) fun r66 => some (!(decide (r66 < 0)))) (some (false))) = some e ∧ (e = true → 0 < a ∧ ltP d[a - 1]! d[p]! = false) := by
  by_cases h0 : 0 < a
  ·have c : (a : Int) - 1 = ((a - 1 : Nat) : Int) := by omega
   refine ⟨!ltP d[a - 1]! d[p]!, ?_, fun h => ⟨h0, by simpa using h⟩⟩
   rw [decide_eq_true (show (0 : Int) < (a : Int) by omega)]
   simp (disch := first | (unfold I64; omega) | (unfold ix; (try simp only [List.length_set, lenA]); omega)) only [cond_true, c, gd_true, natI, nthA, e_cmpH, bd_some, ltN]
  ·exact ⟨false, by rw [decide_eq_false (show ¬ (0 : Int) < (a : Int) by omega)]; rfl, fun h => by cases h⟩
 rw [he]
 simp only [bd_some]
 cases e with
 | true =>
  obtain ⟨h0, hnl⟩ := hc rfl
  obtain ⟨g1, g2, hs4, hB4, hfin⟩ := Sort.round_eq hS (Sort.partitionEqual_holds ltP) h0 ha hp hb hB hnl (eta2 (Sort.partitionEqual ltP d a b p))
  rw [cond_true, e_parE a b p d ha hp hb hs]
  generalize (Sort.partitionEqual ltP d a b p).1 = mid at *
  generalize (Sort.partitionEqual ltP d a b p).2 = d4 at *
  simp only [bd_some]
  exact ⟨_, _, b, wb, wp, rfl, g2, by omega, hs4, by rw [hs4]; exact hb, hB4, hfin⟩
 | false =>
  obtain ⟨g1, g2, hs4, hBa, hBr, hleft, hright⟩ := Sort.round_part hS (Sort.partition_holds ltP) ha hp hb hB (eta3 (Sort.partition ltP d a b p))
  rw [cond_false, e_part a b p d ha hp hb hs]
  simp only [bd_some]
  generalize (Sort.partition ltP d a b p).1 = mid at *
  generalize (Sort.partition ltP d a b p).2.1 = ap at *
  generalize (Sort.partition ltP d a b p).2.2 = d4 at *
  exact e_tailP H d d4 a b lim mid wb wp ap hN hb hs hl g1 g2 hs4 hBa hBr hleft hright
theorem e_pdqL {rc : (List PostH) → Int → Int → Int → Option ((List PostH))} {N : Nat} (H : PS rc N) (v0 : List PostH) : ∀ (n : Nat) (d : Array PostH) (a b lim : Nat) (wb wp : Bool), b - a < n → b - a ≤ N → a ≤ b → b ≤ d.size → d.size ≤ 1073741824 → lim ≤ 1000 → Sort.Below ltP a b d →
  ∃ r : Array PostH, bd (lp (p_pdqsortH_b0 rc) (d.toList, (a : Int), (b : Int), (lim : Int), wb, wp)) (sw (fun _ => some v0) (fun q => some q)) = some r.toList ∧ Sort.PermIn a b d r ∧ Sort.SortedIn ltP a b r
 | 0, _, _, _, _, _, _, h, _, _, _, _, _, _ => absurd h (Nat.not_lt_zero _)
 | n + 1, d, a, b, lim, wb, wp, hn, hN, hab, hb, hs, hl, hB => by
  have hS := ltP_swo (β := HV)
  by_cases h12 : b - a ≤ 12
  ·rw [lp.stop (e := .inr (Sort.insertionSort ltP d a b).toList) (by
    rw [pdq_b0, gd.yes (by unfold I64; omega), decide_eq_true (show ((b : Int) - (a : Int) ≤ 12) by omega), cond_true, e_ins a b d hab hb hs]; rfl)]
   exact ⟨_, rfl, Sort.insertionSort_holds hS d a b hab hb⟩
  ·have e12 : decide ((b : Int) - (a : Int) ≤ 12) = false := decide_eq_false (by omega)
   by_cases hl0 : lim = 0
   ·rw [lp.stop (e := .inr (Sort.heapSort ltP d a b).toList) (by
     rw [pdq_b0, gd.yes (by unfold I64; omega), e12, cond_false, decide_eq_true (show ((lim : Int) = 0) by omega), cond_true, e_heap a b d hab hb hs]; rfl)]
    exact ⟨_, rfl, Sort.heapSort_holds hS d a b hab hb⟩
   ·obtain ⟨d1, lim1, hx1, P1, hl1⟩ : ∃ (d1 : Array PostH) (lim1 : Nat), (cond (!wb) (bd (p_breakPatternsH d.toList (a : Int) (b : Int)) fun r29 => gd (I64 ((lim : Int) - 1)) <| some (r29, (lim : Int) - 1)) (some (d.toList, (lim : Int)))) = some (d1.toList, (lim1 : Int)) ∧ Sort.PermIn a b d d1 ∧ lim1 ≤ 1000 := by
     cases wb with
     | true => exact ⟨d, lim, rfl, Sort.permIn_refl d a b, hl⟩
     | false =>
      obtain ⟨r, hr, hp⟩ := e_brk a b d hab hb hs
      refine ⟨r, lim - 1, ?_, hp, by omega⟩
      rw [Bool.not_false, cond_true, hr]
      simp only [bd_some]
      rw [gd.yes (by unfold I64; omega), show (lim : Int) - 1 = ((lim - 1 : Nat) : Int) by omega]
    have b1 : b ≤ d1.size := by rw [P1.1]; exact hb
    obtain ⟨pv, h, hpv, pa, pb⟩ := e_piv a b d1 (by omega) b1 (by rw [P1.1]; exact hs)
    obtain ⟨d2, pv2, h2, hx2, P2, pa2, pb2⟩ : ∃ (d2 : Array PostH) (pv2 : Nat) (h2 : Int), (cond (decide (h = 2)) (bd (p_reverseRangeH d1.toList (a : Int) (b : Int)) fun r41 => gd (I64 ((b : Int) - 1)) <| gd (I64 ((pv : Int) - (a : Int))) <| gd (I64 (((b : Int) - 1) - ((pv : Int) - (a : Int)))) <| some (r41, ((b : Int) - 1) - ((pv : Int) - (a : Int)), (1 : Int))) (some (d1.toList, (pv : Int), h))) = some (d2.toList, (pv2 : Int), h2) ∧ Sort.PermIn a b d1 d2 ∧ a ≤ pv2 ∧ pv2 < b := by
     cases decide (h = 2) with
     | false => exact ⟨d1, pv, h, rfl, Sort.permIn_refl d1 a b, pa, pb⟩
     | true =>
      refine ⟨Sort.reverseRange d1 a b, (b - 1) - (pv - a), 1, ?_, Sort.reverseRange_holds d1 a b hab b1, by omega, by omega⟩
      rw [cond_true, e_rev a b d1 (by omega) b1 (by rw [P1.1]; exact hs)]
      simp only [bd_some]
      rw [gd.yes (by unfold I64; omega), gd.yes (by unfold I64; omega), gd.yes (by unfold I64; omega), show ((b : Int) - 1) - ((pv : Int) - (a : Int)) = (((b - 1) - (pv - a) : Nat) : Int) by omega]
    have b2 : b ≤ d2.size := by rw [P2.1]; exact b1
    have s2 : d2.size ≤ 1073741824 := by rw [P2.1, P1.1]; exact hs
    have B2 : Sort.Below ltP a b d2 := (hB.perm hb P1).perm b1 P2
    have P02 : Sort.PermIn a b d d2 := Sort.permIn_trans _ _ _ a b P1 P2
    obtain ⟨bb, hbb⟩ : ∃ bb : Bool, (cond wb (cond wp (some (decide (h2 = 1))) (some (false))) (some (false))) = some bb := by cases wb <;> cases wp <;> exact ⟨_, rfl⟩
    have start : ∀ K, cond bb (bd (p_partialInsertionSortH d2.toList (a : Int) (b : Int)) fun r54 => cond (r54.1) (some (.inr (.inr r54.2))) (pdqT rc r54.2 (a : Int) (b : Int) (lim1 : Int) wb wp (pv2 : Int))) (pdqT rc d2.toList (a : Int) (b : Int) (lim1 : Int) wb wp (pv2 : Int)) = K → p_pdqsortH_b0 rc (d.toList, (a : Int), (b : Int), (lim : Int), wb, wp) = K := by
     intro K hK
     rw [pdq_b0, gd.yes (by unfold I64; omega), e12, cond_false, decide_eq_false (show ¬ ((lim : Int) = 0) by omega), cond_false, hx1]
     simp only [bd_some]
     rw [hpv]
     simp only [bd_some]
     rw [hx2]
     simp only [bd_some]
     rw [hbb]
     exact hK
    have go : ∀ d3 : Array PostH, Sort.PermIn a b d2 d3 → p_pdqsortH_b0 rc (d.toList, (a : Int), (b : Int), (lim : Int), wb, wp) = pdqT rc d3.toList (a : Int) (b : Int) (lim1 : Int) wb wp (pv2 : Int) →
      ∃ r : Array PostH, bd (lp (p_pdqsortH_b0 rc) (d.toList, (a : Int), (b : Int), (lim : Int), wb, wp)) (sw (fun _ => some v0) (fun q => some q)) = some r.toList ∧ Sort.PermIn a b d r ∧ Sort.SortedIn ltP a b r := by
     intro d3 P3 hst
     have b3 : b ≤ d3.size := by rw [P3.1]; exact b2
     obtain ⟨d', a', b', wb', wp', hT, q1, q2, q3, q4, q5, q6⟩ := e_tail H d3 a b lim1 pv2 wb wp hN pa2 pb2 b3 (by rw [P3.1]; exact s2) hl1 (B2.perm b2 P3)
     rw [lp.step (hst.trans hT)]
     obtain ⟨r, hr, r1, r2⟩ := e_pdqL H v0 n d' a' b' lim1 wb' wp' (by omega) (by omega) q1 q4 (by rw [q3, P3.1]; exact s2) hl1 q5
     obtain ⟨k1, k2⟩ := q6 r r1 r2
     exact ⟨r, hr, Sort.permIn_trans _ _ _ a b (Sort.permIn_trans _ _ _ a b P02 P3) k1, k2⟩
    cases bb with
    | false => exact go d2 (Sort.permIn_refl d2 a b) (start _ rfl)
    | true =>
     have hpi := Sort.partialInsertionSort_holds hS d2 a b (by omega) b2 B2
     have est : p_pdqsortH_b0 rc (d.toList, (a : Int), (b : Int), (lim : Int), wb, wp) = cond (Sort.partialInsertionSort ltP d2 a b).2 (some (.inr (.inr (Sort.partialInsertionSort ltP d2 a b).1.toList))) (pdqT rc (Sort.partialInsertionSort ltP d2 a b).1.toList (a : Int) (b : Int) (lim1 : Int) wb wp (pv2 : Int)) := by
      refine start _ ?_
      rw [cond_true, e_par a b d2 (by omega) b2 s2]
      rfl
     cases ht : (Sort.partialInsertionSort ltP d2 a b).2 with
     | true =>
      rw [ht, cond_true] at est
      rw [lp.stop est]
      exact ⟨_, rfl, Sort.permIn_trans _ _ _ a b P02 hpi.1, hpi.2 ht⟩
     | false =>
      rw [ht, cond_false] at est
      exact go _ hpi.1 est
theorem e_pdq : ∀ N : Nat, PS (p_pdqsortH N) N
 | 0 => fun d a b lim h => absurd h (Nat.not_lt_zero _)
 | N + 1 => fun d a b lim h hab hb hs hl hB => e_pdqL (e_pdq N) d.toList _ d a b lim true true (Nat.lt_succ_self _) (by omega) hab hb hs hl hB
theorem e_SortH (l : List PostH) (hs : l.length ≤ 1073741824) : ∃ r : List PostH, p_SortFuncH l = some r ∧ r.Perm l ∧ r.Pairwise (fun x y => ltP y x = false) := by
 obtain ⟨L, eL, hL, _⟩ := e_len l.length hs
 obtain ⟨r, hr, h1, h2⟩ := e_pdq (l.length + 1) l.toArray 0 l.length L (by omega) (Nat.zero_le _) (by simp) (by simpa using hs) (by omega) (.inl rfl)
 unfold p_SortFuncH
 rw [eL]
 simp only [bd_some]
 rw [show l.toArray.toList = l from rfl, show ((0 : Nat) : Int) = 0 from rfl] at hr
 rw [hr]
 refine ⟨r.toList, rfl, ?_, ?_⟩
 ·have := h1.2.2
  have e1 : r.extract 0 l.length = r := by
   have : l.length = r.size := by rw [h1.1]; simp
   rw [this]; exact Array.extract_size
  have e2 : l.toArray.extract 0 l.length = l.toArray := by
   have : l.length = l.toArray.size := by simp
   rw [this]; exact Array.extract_size
  rw [e1, e2] at this
  exact this
 ·rw [List.pairwise_iff_getElem]
  intro i j hi hj hij
  have hsz : r.size = l.length := by rw [h1.1]; simp
  have := h2 i j (Nat.zero_le _) hij (by rw [← hsz]; simpa using hj)
  rw [getElem!_pos r i (by simpa using hi), getElem!_pos r j (by simpa using hj)] at this
  simpa using this
noncomputable def p_slices_SortFunc_Post_Post_indexOf_2 (v0 : List Post) : Option (List Post) := sortP v0
theorem c_slices_SortFunc_Post_Post_indexOf_2 {r : List Post} (v0 : List Post) (x_v0 : Option Addr × Nat) (n_v0 : Nat) (e_v0 : n_v0 = v0.length) (H : p_slices_SortFunc_Post_Post_indexOf_2 v0 = some r) : Fn' prog 164 #[.slice x_v0.1 n_v0 x_v0.2, .func (.func 165) #[] #[]] [] [tree (.slice x_v0.1 n_v0 x_v0.2) v0] (ι := Unit) (fun _ => .tuple #[]) (fun _ => []) (fun _ => [tree (.slice x_v0.1 n_v0 x_v0.2) r]) := by
 subst e_v0
 have H : sortP v0 = some r := H
 refine Fn'.sortN H ⟨⟨_, func164, by kernel_rfl, by kernel_rfl⟩⟩ fun l' hl => ?_
 obtain ⟨r', h1, h2, h3⟩ := e_SortH l' (by rw [hl]; exact (gd.of H).1)
 refine ⟨r', h2, h3, ?_⟩
 have := c_SortFuncH l' x_v0 l'.length rfl h1
 rw [hl] at this; exact this
noncomputable def p_impl_indexOf_b1 (v0 : (List (List Tag))) (Q13 : (List Post) × Int) (Q27 : (List Post) × Int) : Option (((List Post) × Int) ⊕ ((List Post))) := cond (decide (Q27.2 < ((nth v0 Q13.2.toNat).length : Int))) (gd (ix Q27.2 (nth v0 Q13.2.toNat).length) <| bd (p_slices_IndexFunc_Post_Post_indexOf_1 Q27.1 (nth (nth v0 Q13.2.toNat) Q27.2.toNat)) fun r38 => cond (decide (r38 < 0)) (gd (room (Q27.1.length + 1)) <| gd (ix (Q27.1.length : Int) (Q27.1 ++ [((nth (nth v0 Q13.2.toNat) Q27.2.toNat), ([]))]).length) <| gd (I64 (Q13.2 + 1)) <| gd (room (((nth (Q27.1 ++ [((nth (nth v0 Q13.2.toNat) Q27.2.toNat), ([]))]) ((Q27.1.length : Int).toNat)).2).length + 1)) <| gd (I64 (Q27.2 + 1)) <| some (.inl (((Q27.1 ++ [((nth (nth v0 Q13.2.toNat) Q27.2.toNat), ([]))]).set ((Q27.1.length : Int).toNat) (((nth (Q27.1 ++ [((nth (nth v0 Q13.2.toNat) Q27.2.toNat), ([]))]) ((Q27.1.length : Int).toNat)).1), (((nth (Q27.1 ++ [((nth (nth v0 Q13.2.toNat) Q27.2.toNat), ([]))]) ((Q27.1.length : Int).toNat)).2) ++ [Q13.2 + 1]))), Q27.2 + 1))) (gd (ix r38 Q27.1.length) <| gd (I64 (Q13.2 + 1)) <| gd (room (((nth Q27.1 r38.toNat).2).length + 1)) <| gd (I64 (Q27.2 + 1)) <| some (.inl ((Q27.1.set r38.toNat (((nth Q27.1 r38.toNat).1), (((nth Q27.1 r38.toNat).2) ++ [Q13.2 + 1]))), Q27.2 + 1)))) (some (.inr Q27.1))
noncomputable def p_impl_indexOf_b0 (v0 : (List (List Tag))) (Q13 : (List Post) × Int) : Option (((List Post) × Int) ⊕ ((List Post))) := cond (decide (Q13.2 < (v0.length : Int))) (gd (ix Q13.2 v0.length) <| bd (lp (p_impl_indexOf_b1 v0 Q13) (Q13.1, 0)) fun x23 => gd (I64 (Q13.2 + 1)) <| some (.inl (x23, Q13.2 + 1))) (some (.inr Q13.1))
noncomputable def p_impl_indexOf (v0 : (List (List Tag))) : Option (Index) := bd (p_impl_cloneNames v0) fun r3 => bd (lp (p_impl_indexOf_b0 v0) (([] : List Post), 0)) fun x9 => bd (p_slices_SortFunc_Post_Post_indexOf_2 x9) fun r62 => some (r3, r62)
end Go.Proofs.YtonnpkdadcafcaaGreat
