/- The walks and the plain laws, part 3: each function that the law reaches computes what its plain function tells, and what the plain functions answer. Conditions: lengths that memory can hold. -/
import Derived.Test.YtlkcnfjdhkoelaaGreatA2
namespace Go.Proofs.YtlkcnfjdhkoelaaGreat
open Go Go.Sx Tryz
theorem c_spec_l13Copy {r : Store} (v0 : Store) (x_v0 : ((Option Addr × Nat) × (Option Addr × Nat)) × (Option Addr × Nat) × (Option Addr × Nat)) (H : p_spec_l13Copy v0 = some r) : Fn' prog 89 #[.agg #[.slice x_v0.1.1.1 v0.1.1.length x_v0.1.1.2, .slice x_v0.1.2.1 v0.1.2.length x_v0.1.2.2, .slice x_v0.2.1.1 v0.2.1.length x_v0.2.1.2, .slice x_v0.2.2.1 v0.2.2.length x_v0.2.2.2]] [imm (.slice x_v0.1.1.1 v0.1.1.length x_v0.1.1.2) v0.1.1, imm (.slice x_v0.1.2.1 v0.1.2.length x_v0.1.2.2) v0.1.2, imm (.slice x_v0.2.1.1 v0.2.1.length x_v0.2.1.2) v0.2.1, imm (.slice x_v0.2.2.1 v0.2.2.length x_v0.2.2.2) v0.2.2] [] (ι := ((Option Addr × Nat) × (Option Addr × Nat)) × (Option Addr × Nat) × (Option Addr × Nat)) (fun x => .agg #[.slice x.1.1.1 r.1.1.length x.1.1.2, .slice x.1.2.1 r.1.2.length x.1.2.2, .slice x.2.1.1 r.2.1.length x.2.1.2, .slice x.2.2.1 r.2.2.length x.2.2.2]) (fun _ => []) (fun x => [tree (.slice x.1.1.1 r.1.1.length x.1.1.2) r.1.1, tree (.slice x.1.2.1 r.1.2.length x.1.2.2) r.1.2, tree (.slice x.2.1.1 r.2.1.length x.2.1.2) r.2.1, tree (.slice x.2.2.1 r.2.2.length x.2.2.2) r.2.2]) := by
 refine cof (args := [_]) func89 ntmps89 fun c => ?_
 unfold p_spec_l13Copy at H
 refine bN aS fun X1 => (bN aS.s.s fun X2 => (bN aS.s.s.s.s fun X3 => (sr (f1 (cD (t := 42) rfl) fun g4 => (f1 (cE ty42) fun g5 => (nl (sr (f2 (e_lit0 Part dQ ty72) fun a6 c7 => (aH rfl (nl ?_))))))))))
 refine aD (sr (aH (v := .int .i64 (0)) rfl (nl (bdo H fun x8 hx9 H => (dC (ι := Option Addr × Nat) (fun ψ => [(1, .pointer (some ⟨g4, 0, none⟩)), (2, .pointer (some ⟨g5, 0, none⟩)), (3, .slice ψ.1 x8.length ψ.2)]) (fun ψ => [box g4 42 [.slice x_v0.1.1.1 v0.1.1.length x_v0.1.1.2, .slice x_v0.1.2.1 v0.1.2.length x_v0.1.2.2, .slice x_v0.2.1.1 v0.2.1.length x_v0.2.1.2, .slice x_v0.2.2.1 v0.2.2.length x_v0.2.2.2], box g5 42 [.slice none 0 0, .slice none 0 0, .slice none 0 0, .slice none 0 0], tree (.slice ψ.1 x8.length ψ.2) x8]) ?_ ?_)))))
 ·refine aR (dF hx9 (a6, c7) (fun Q12 z13 => [(1, .pointer (some ⟨g4, 0, none⟩)), (2, .pointer (some ⟨g5, 0, none⟩)), (3, .slice z13.1 Q12.1.length z13.2), (4, .int .i64 (Q12.2))]) (fun Q12 z13 => [box g4 42 [.slice x_v0.1.1.1 v0.1.1.length x_v0.1.1.2, .slice x_v0.1.2.1 v0.1.2.length x_v0.1.2.2, .slice x_v0.2.1.1 v0.2.1.length x_v0.2.1.2, .slice x_v0.2.2.1 v0.2.2.length x_v0.2.2.2], box g5 42 [.slice none 0 0, .slice none 0 0, .slice none 0 0, .slice none 0 0], tree (.slice z13.1 Q12.1.length z13.2) Q12.1]) (.cons dl2 (.cons dl1 (.cons aA .nil))) ?_)
  rintro _ Q12 z13 t15 H1 hi16 hb17
  unfold p_spec_l13Copy_b0 at H1
  refine aD (sr (aF rfl (aG (cC fa42_1 rfl rfl) (aI (bJ ty39 rfl aB rfl) (aG (bT 72 dQ rfl) (aG (cS rfl rfl) (nl (cH H1 rfl (fun h20 H1 => ?_) (fun h20 H1 => ?_)))))))))
  ·refine bI (nT (aD (aR (sr (f2 (e_lit0 Int dW ty3) fun a21 c22 => (aG (cC fa42_1 rfl rfl) (aI (bJ ty39 rfl hs1 rfl) (aF rfl (gdo H1 fun h23 H1 => (aI (bX dQ ty72 rfl rfl h23 rfl (aM (aU aS))) ?_))))))))))
   refine aI (bZ (j := 0) Q12.2.toNat fa72_0 rfl (aM (aU aS)) h23.lt rfl) (aI (cA (i := Q12.2.toNat) (j := 0) ty69 rfl (aM (aU aS)) h23.lt rfl) (gdo H1 fun h26 H1 => (f2 (e_appF (l := ([] : List Int)) (k := (nth v0.2.1 Q12.2.toNat).1) (α := Int) dW ty3 rfl rfl (h26.b (by decide)) h26.x (.cons aA .nil) (aM (aT (aW (aX aS h23.lt))))) fun a24 c25 => (f2 (e_lit0 (List Row) dX ty63) fun a27 c28 => (aG (v := .agg #[.slice a24 ((([] : List Int) ++ ((nth v0.2.1 Q12.2.toNat).1)).length) c25, .slice a27 (([] : List (List Row)).length) c28]) (p_buildS (vs := [(0, .slice a24 ((([] : List Int) ++ ((nth v0.2.1 Q12.2.toNat).1)).length) c25), (1, .slice a27 (([] : List (List Row)).length) c28)]) (cs := #[.slice a24 ((([] : List Int) ++ ((nth v0.2.1 Q12.2.toNat).1)).length) c25, .slice a27 (([] : List (List Row)).length) c28]) ty72 pl72 rfl rfl) (f1 (cE ty72) fun g29 => (stb (cs' := [.slice a24 ((([] : List Int) ++ ((nth v0.2.1 Q12.2.toNat).1)).length) c25, .slice a27 (([] : List (List Row)).length) c28]) ty72 cZ (nl (aD (sr ?_))))))))))
   refine aH (v := .int .i64 (0)) rfl (nl (bdo H1 fun x30 hx31 H1 => (dC (ι := Option Addr × Nat) (fun ψ => [(1, .pointer (some ⟨g4, 0, none⟩)), (2, .pointer (some ⟨g5, 0, none⟩)), (3, .slice z13.1 Q12.1.length z13.2), (4, .int .i64 (Q12.2)), (5, .pointer (some ⟨g29, 0, none⟩))]) (fun ψ => [box g4 42 [.slice x_v0.1.1.1 v0.1.1.length x_v0.1.1.2, .slice x_v0.1.2.1 v0.1.2.length x_v0.1.2.2, .slice x_v0.2.1.1 v0.2.1.length x_v0.2.1.2, .slice x_v0.2.2.1 v0.2.2.length x_v0.2.2.2], box g5 42 [.slice none 0 0, .slice none 0 0, .slice none 0 0, .slice none 0 0], tree (.slice z13.1 Q12.1.length z13.2) Q12.1, tree (.slice a24 ((([] : List Int) ++ ((nth v0.2.1 Q12.2.toNat).1)).length) c25) (([] : List Int) ++ ((nth v0.2.1 Q12.2.toNat).1)), tree (.slice ψ.1 x30.length ψ.2) x30, box g29 72 [.slice a24 ((([] : List Int) ++ ((nth v0.2.1 Q12.2.toNat).1)).length) c25, .slice ψ.1 x30.length ψ.2]]) ?_ ?_)))
   ·refine aR (dF hx31 (a27, c28) (fun Q34 _ => [(1, .pointer (some ⟨g4, 0, none⟩)), (2, .pointer (some ⟨g5, 0, none⟩)), (3, .slice z13.1 Q12.1.length z13.2), (4, .int .i64 (Q12.2)), (5, .pointer (some ⟨g29, 0, none⟩)), (6, .int .i64 (Q34.2))]) (fun Q34 z35 => [box g4 42 [.slice x_v0.1.1.1 v0.1.1.length x_v0.1.1.2, .slice x_v0.1.2.1 v0.1.2.length x_v0.1.2.2, .slice x_v0.2.1.1 v0.2.1.length x_v0.2.1.2, .slice x_v0.2.2.1 v0.2.2.length x_v0.2.2.2], box g5 42 [.slice none 0 0, .slice none 0 0, .slice none 0 0, .slice none 0 0], tree (.slice z13.1 Q12.1.length z13.2) Q12.1, tree (.slice a24 ((([] : List Int) ++ ((nth v0.2.1 Q12.2.toNat).1)).length) c25) (([] : List Int) ++ ((nth v0.2.1 Q12.2.toNat).1)), tree (.slice z35.1 Q34.1.length z35.2) Q34.1, box g29 72 [.slice a24 ((([] : List Int) ++ ((nth v0.2.1 Q12.2.toNat).1)).length) c25, .slice z35.1 Q34.1.length z35.2]]) (.cons dl3 (.cons dl3 (.cons dl3 (.cons dl2 (.cons dl1 (.cons aA .nil)))))) ?_)
    rintro _ Q34 z35 t37 H2 hi38 hb39
    unfold p_spec_l13Copy_b1 at H2
    refine aD (sr (aF rfl (aG (cC fa42_1 rfl rfl) (aI (bJ ty39 rfl aB rfl) (aF rfl (aI (bX dQ ty72 rfl rfl h23 rfl (aM (aU aS))) (aI (bZ (j := 0) Q12.2.toNat fa72_1 rfl (aM (aU aS)) h23.lt rfl) (aI (cA (i := Q12.2.toNat) (j := 1) ty70 rfl (aM (aU aS)) h23.lt rfl) (aG (bT 63 dX rfl) (aG (cS rfl rfl) (nl ?_)))))))))))
    refine cH H2 rfl (fun h42 H2 => ?_) (fun h42 H2 => ?_)
    ·refine bI (nT (aD (aR (dH [(1, .pointer (some ⟨g4, 0, none⟩)), (2, .pointer (some ⟨g5, 0, none⟩)), (3, .slice z13.1 Q12.1.length z13.2), (4, .int .i64 (Q12.2)), (5, .pointer (some ⟨g29, 0, none⟩)), (6, .int .i64 (Q34.2))] 2 [0, 1, 3, 4, 5, 6, 7, 8, 9, 10, 11, 2, 12, 13, 14, 15, 16] [2, 12, 13, 14, 16] [] mixed (by kernel_rfl) (by decide) dJ ⟨rfl, rfl, rfl, rfl, rfl, rfl, trivial⟩ rfl okNil (w_p rfl (cC fa72_1 rfl rfl) ?_)))))
     refine w_o rfl (fun F => (bJ ty70 rfl (hs5.app F) rfl)) (w_p rfl (cC fa42_1 rfl rfl) ?_)
     refine w_o rfl (fun F => (bJ ty39 rfl (aB.app F) rfl)) (w_p rfl (aE rfl) ?_)
     refine w_o rfl (fun F => (bX dQ ty72 rfl rfl h23 rfl (aM (aU aS)))) ?_
     refine w_o rfl (fun F => (bZ (j := 0) Q12.2.toNat fa72_1 rfl (aM (aU aS)) h23.lt rfl)) ?_
     refine w_o rfl (fun F => (cA (i := Q12.2.toNat) (j := 1) ty70 rfl (aM (aU aS)) h23.lt rfl)) (w_p rfl (aE rfl) (gdo H2 fun h43 H2 => ?_))
     refine w_o rfl (fun F => (bX dX ty63 rfl rfl h43 rfl (aM (aU (aV (aX aS h23.lt)))))) ?_
     refine w_o rfl (fun F => (cA (i := Q34.2.toNat) (j := 0) ty63 rfl (aM (aU (aV (aX aS h23.lt)))) h43.lt rfl)) (cK rfl (by decide) rfl cP rfl (n_lit0 Row dV ty57) ?_)
     rintro _ _ _ ⟨a44, c45, rfl, rfl, rfl⟩
     refine ⟨(bW rfl rfl (fun F => (cA (i := Q34.2.toNat) (j := 0) ty63 rfl (aM (aU (aV (aX aS h23.lt)))) h43.lt rfl)) (bW rfl rfl (fun F => (bX dX ty63 rfl rfl h43 rfl (aM (aU (aV (aX aS h23.lt)))))) (bW rfl rfl (fun F => (cA (i := Q12.2.toNat) (j := 1) ty70 rfl (aM (aU aS)) h23.lt rfl)) (bW rfl rfl (fun F => (bZ (j := 0) Q12.2.toNat fa72_1 rfl (aM (aU aS)) h23.lt rfl)) (bW rfl rfl (fun F => (bX dQ ty72 rfl rfl h23 rfl (aM (aU aS)))) (bW rfl rfl (fun F => (bJ ty39 rfl (hs1.app F) rfl)) (bW rfl rfl (fun F => (bJ ty70 rfl ((hs5t hs1).app F) rfl)) bV))))))), ?_⟩
     refine gdo H2 fun h48 H2 => (cK rfl (by decide) rfl cP rfl (n_appF (l := ([] : List Row)) (k := nth ((nth v0.2.1 Q12.2.toNat).2) Q34.2.toNat) (α := Row) dV ty57 rfl rfl (h48.b (by decide)) h48.x (.cons aA .nil) (aM (aT (aX (aV (aX aS h23.lt)) h43.lt)))) ?_)
     rintro _ _ _ ⟨a46, c47, rfl, rfl, rfl⟩
     refine ⟨(aN (by kernel_rfl) (aN (by kernel_rfl) (bW rfl rfl (fun F => (cA (i := Q12.2.toNat) (j := 1) ty70 rfl (aM (aU aS)) h23.lt rfl)) (bW rfl rfl (fun F => (bZ (j := 0) Q12.2.toNat fa72_1 rfl (aM (aU aS)) h23.lt rfl)) (bW rfl rfl (fun F => (bX dQ ty72 rfl rfl h23 rfl (aM (aU aS)))) (bW rfl rfl (fun F => (bJ ty39 rfl (hs1.app F) rfl)) (bW rfl rfl (fun F => (bJ ty70 rfl ((hs5t hs1).app F) rfl)) bV))))))), ?_⟩
     refine cK rfl (by decide) rfl cP rfl (n_lit (vs := [(0, .slice a46 ((([] : List Row) ++ (nth ((nth v0.2.1 Q12.2.toNat).2) Q34.2.toNat)).length) c47)]) [.slice a46 ((([] : List Row) ++ (nth ((nth v0.2.1 Q12.2.toNat).2) Q34.2.toNat)).length) c47] dX ty63 rfl (by decide) (by decide) (by kernel_rfl)) ?_
     rintro _ _ _ ⟨g49, rfl, rfl, rfl⟩
     refine ⟨(aN (by kernel_rfl) (bW rfl rfl (fun F => (bX dX ty63 rfl rfl h43 rfl (aM (aU (aV (aX aS h23.lt)))))) (bW rfl rfl (fun F => (cA (i := Q12.2.toNat) (j := 1) ty70 rfl (aM (aU aS)) h23.lt rfl)) (bW rfl rfl (fun F => (bZ (j := 0) Q12.2.toNat fa72_1 rfl (aM (aU aS)) h23.lt rfl)) (bW rfl rfl (fun F => (bX dQ ty72 rfl rfl h23 rfl (aM (aU aS)))) (bW rfl rfl (fun F => (bJ ty39 rfl (hs2.app F) rfl)) (bW rfl rfl (fun F => (bJ ty70 rfl ((hs5t hs2).app F) rfl)) bV))))))), ?_⟩
     refine gdo H2 fun h52 H2 => (cK rfl (by decide) rfl cP rfl (n_app1 (l := Q34.1) (α := (List Row)) (([] : List Row) ++ (nth ((nth v0.2.1 Q12.2.toNat).2) Q34.2.toNat)) (a46, c47) dX ty63 rfl rfl (h52.b (by decide)) h52.x rfl (cY _) (.cons (dl5t dl1) (.cons aA (.cons aA .nil)))) ?_)
     rintro _ _ _ ⟨a50, c51, rfl, rfl, rfl⟩
     refine ⟨(aN (by kernel_rfl) (bW rfl rfl (fun F => (bX dX ty63 rfl rfl h43 rfl (aM (aU (aV (aX aS h23.lt)))))) (bW rfl rfl (fun F => (cA (i := Q12.2.toNat) (j := 1) ty70 rfl (aM (aU aS)) h23.lt rfl)) (bW rfl rfl (fun F => (bZ (j := 0) Q12.2.toNat fa72_1 rfl (aM (aU aS)) h23.lt rfl)) (bW rfl rfl (fun F => (bX dQ ty72 rfl rfl h23 rfl (aM (aU aS)))) (bW rfl rfl (fun F => (bJ ty39 rfl (hs1.app F) rfl)) (aN (by kernel_rfl) bV))))))), ?_⟩
     refine w_p rfl (cC fa72_1 rfl rfl) (cL rfl rfl cP rfl (n_store (cs' := [.slice a24 ((([] : List Int) ++ ((nth v0.2.1 Q12.2.toNat).1)).length) c25, .slice a50 ((Q34.1 ++ [([] : List Row) ++ (nth ((nth v0.2.1 Q12.2.toNat).2) Q34.2.toNat)]).length) c51]) ty70 rfl rfl up5 rfl (one_of rfl) (Nat.le_of_ble_eq_true rfl) rfl) ?_)
     rintro _ _ _ ⟨rfl, rfl, rfl⟩
     refine ⟨(aN (by kernel_rfl) (aN (by kernel_rfl) (aN (by kernel_rfl) (aN (by kernel_rfl) (aN (by kernel_rfl) (aN (by kernel_rfl) (aN (by kernel_rfl) bV))))))), ?_⟩
     refine cM ?_
     show At _ _ _ _ _ _
     exact nB (nT (aQ (aF rfl (gdo H2 fun h53 H2 => (aG (bS rfl rfl h53) (aH rfl (aJ (nLI (a50, c51) (hi38 _ (sm H2)) (.cons dl1 (.cons dl1 (.cons dl1 (.cons dl1 (.cons aA (.cons aA .nil))))))))))))))
    ·refine dB (xT (xT (xE (?_))))
     obtain rfl := hb39 _ (sm H2)
     exact nMC (z35.1, z35.2) ⟨rfl, rfl, rfl, rfl, rfl, trivial⟩ bU (.cons aA (.cons aA (.cons aA (.cons aA (.cons aA (.cons aA .nil))))))
   ·intro y36
    show At _ _ [(1, .pointer (some ⟨g4, 0, none⟩)), (2, .pointer (some ⟨g5, 0, none⟩)), (3, .slice z13.1 Q12.1.length z13.2), (4, .int .i64 (Q12.2)), (5, .pointer (some ⟨g29, 0, none⟩))] _ [box g4 42 [.slice x_v0.1.1.1 v0.1.1.length x_v0.1.1.2, .slice x_v0.1.2.1 v0.1.2.length x_v0.1.2.2, .slice x_v0.2.1.1 v0.2.1.length x_v0.2.1.2, .slice x_v0.2.2.1 v0.2.2.length x_v0.2.2.2], box g5 42 [.slice none 0 0, .slice none 0 0, .slice none 0 0, .slice none 0 0], tree (.slice z13.1 Q12.1.length z13.2) Q12.1, tree (.slice a24 ((([] : List Int) ++ ((nth v0.2.1 Q12.2.toNat).1)).length) c25) (([] : List Int) ++ ((nth v0.2.1 Q12.2.toNat).1)), tree (.slice y36.1 x30.length y36.2) x30, box g29 72 [.slice a24 ((([] : List Int) ++ ((nth v0.2.1 Q12.2.toNat).1)).length) c25, .slice y36.1 x30.length y36.2]] _
    refine nT (aQ (aF rfl (aI (bK ty72 rfl hs5 rfl) (f1 (e_lit (vs := [(0, .agg #[.slice a24 ((([] : List Int) ++ ((nth v0.2.1 Q12.2.toNat).1)).length) c25, .slice y36.1 x30.length y36.2])]) [.slice a24 ((([] : List Int) ++ ((nth v0.2.1 Q12.2.toNat).1)).length) c25, .slice y36.1 x30.length y36.2] dQ ty72 rfl (by decide) (by decide) (by kernel_rfl)) fun g54 => (gdo H1 fun h57 H1 => (f2 (e_app1 (l := Q12.1) (α := Part) ((([] : List Int) ++ ((nth v0.2.1 Q12.2.toNat).1)), x30) ((a24, c25), y36) dQ ty72 rfl rfl (h57.b (by decide)) h57.x rfl (cY _) (.cons dl3 (.cons aA (.cons dl2 (.cons dl2 .nil))))) fun a55 c56 => (aH rfl (aJ (nB (nT (aQ ?_)))))))))))
    exact aF rfl (gdo H1 fun h58 H1 => (aG (bS rfl rfl h58) (aH rfl (aJ (nLI (a55, c56) (hi16 _ (sm H1)) (.cons dl1 (.cons dl1 (.cons aA .nil))))))))
  ·refine dB (xT (xT (xE (?_))))
   obtain rfl := hb17 _ (sm H1)
   exact nMC (z13.1, z13.2) ⟨rfl, rfl, rfl, trivial⟩ bU (.cons aA (.cons aA (.cons aA .nil)))
 ·intro y14
  show At _ _ [(1, .pointer (some ⟨g4, 0, none⟩)), (2, .pointer (some ⟨g5, 0, none⟩)), (3, .slice y14.1 x8.length y14.2)] _ [box g4 42 [.slice x_v0.1.1.1 v0.1.1.length x_v0.1.1.2, .slice x_v0.1.2.1 v0.1.2.length x_v0.1.2.2, .slice x_v0.2.1.1 v0.2.1.length x_v0.2.1.2, .slice x_v0.2.2.1 v0.2.2.length x_v0.2.2.2], box g5 42 [.slice none 0 0, .slice none 0 0, .slice none 0 0, .slice none 0 0], tree (.slice y14.1 x8.length y14.2) x8] _
  refine nT (aD (dH [(1, .pointer (some ⟨g4, 0, none⟩)), (2, .pointer (some ⟨g5, 0, none⟩)), (3, .slice y14.1 x8.length y14.2)] 1 [0, 1, 2, 4, 6, 7, 3, 5, 8, 9, 10] [3, 8, 10] [⟨5, [], fun g => .slice (some ⟨g, 0, none⟩) ([] : List Sample).length 0, fun g => tree (.slice (some ⟨g, 0, none⟩) ([] : List Sample).length 0) ([] : List Sample)⟩] mixed (by kernel_rfl) (by decide) (show List.Nodup [5] by decide) ⟨rfl, rfl, rfl, trivial⟩ rfl (okCons (FreeA.Ok.of rfl (by decide) (by kernel_rfl) fun c fs os => g_lit0 Sample dR ty59) okNil) (w_p rfl (cC fa42_0 rfl rfl) (w_p rfl (cC fa38_0 rfl rfl) ?_))))
  refine w_o rfl (fun F => (bJ ty35 rfl (aB.app F) rfl)) (w_p rfl (aE rfl) (w_p rfl (cC fa42_2 rfl rfl) ?_))
  refine w_o rfl (fun F => (bJ ty40 rfl (aB.app F) rfl)) (bdo H fun r59 h60 H => (cK rfl (by decide) rfl (cQ (.inr (.inr trivial)) cP) rfl (cF (c_spec_l11Of v0.1.1 x_v0.1.1 h60) (fun _ => (bG (bG bH))) rfl (aC (aM (aT aS.s.s)) aP)) ?_))
  rintro _ _ _ ⟨x61, rfl, rfl, rfl⟩
  refine ⟨(bW rfl rfl (fun F => (bJ ty40 rfl (hs2.app F) rfl)) (aN (by kernel_rfl) bV)), ?_⟩
  refine w_fr (z := ⟨5, [], fun g => .slice (some ⟨g, 0, none⟩) ([] : List Sample).length 0, fun g => tree (.slice (some ⟨g, 0, none⟩) ([] : List Sample).length 0) ([] : List Sample)⟩) (.head _) rfl rfl (by decide) (cQ (.inl rfl) cP) trivial ?_; intro g62
  refine gdo H fun h65 H => (cK rfl (by decide) rfl (cQ (.inl rfl) cP) rfl (n_appF (l := ([] : List Sample)) (k := v0.2.2) (α := Sample) dR ty59 rfl rfl (h65.b (by decide)) h65.x (.cons aA .nil) (aM aS.s.s.s.s.s.s)) ?_)
  rintro _ _ _ ⟨a63, c64, rfl, rfl, rfl⟩
  refine ⟨(aN (by kernel_rfl) (bW rfl rfl (fun F => (bJ ty35 rfl (hs3.app F) rfl)) bV)), ?_⟩
  refine w_p (v := .agg #[.slice x61.1.1 r59.1.length x61.1.2, .slice x61.2.1 r59.2.length x61.2.2, .slice y14.1 x8.length y14.2, .slice a63 ((([] : List Sample) ++ v0.2.2).length) c64]) rfl (p_buildS (vs := [(0, .agg #[.slice x61.1.1 r59.1.length x61.1.2, .slice x61.2.1 r59.2.length x61.2.2]), (1, .slice y14.1 x8.length y14.2), (2, .slice a63 ((([] : List Sample) ++ v0.2.2).length) c64)]) (cs := #[.slice x61.1.1 r59.1.length x61.1.2, .slice x61.2.1 r59.2.length x61.2.2, .slice y14.1 x8.length y14.2, .slice a63 ((([] : List Sample) ++ v0.2.2).length) c64]) ty42 pl42 rfl rfl) (cL rfl rfl (cQ (.inl rfl) cP) rfl (n_store (cs' := [.slice x61.1.1 r59.1.length x61.1.2, .slice x61.2.1 r59.2.length x61.2.2, .slice y14.1 x8.length y14.2, .slice a63 ((([] : List Sample) ++ v0.2.2).length) c64]) ty42 rfl rfl up4 rfl (one_of rfl) (Nat.le_of_ble_eq_true rfl) rfl) ?_)
  rintro _ _ _ ⟨rfl, rfl, rfl⟩
  refine ⟨(aN (by kernel_rfl) (aN (by kernel_rfl) bV)), ?_⟩
  refine cM (nT (bR ?_))
  obtain rfl := si H
  exact back1 (x61, y14, (a63, c64)) rfl (ResV.agg ty42 rfl hs4 rfl) rfl cO (.cons dl1 (.cons dl1 (.cons dl3 (.cons aA .nil))))
noncomputable def p_spec_l22Fall (v0 : World) : Option (World) := bd (p_spec_l21Tidy v0.2) fun r8 => bd (p_spec_l21Copy r8) fun r11 => bd (p_spec_l21Open r11) fun r14 => bd (p_spec_l13Copy r14) fun r17 => some (r17, r11)
theorem c_spec_l22Fall {r : World} (v0 : World) (x_v0 : (((Option Addr × Nat) × (Option Addr × Nat)) × (Option Addr × Nat) × (Option Addr × Nat)) × ((Option Addr × Nat) × (Option Addr × Nat) × (Option Addr × Nat) × Unit)) (H : p_spec_l22Fall v0 = some r) : Fn' prog 199 #[.agg #[.slice x_v0.1.1.1.1 v0.1.1.1.length x_v0.1.1.1.2, .slice x_v0.1.1.2.1 v0.1.1.2.length x_v0.1.1.2.2, .slice x_v0.1.2.1.1 v0.1.2.1.length x_v0.1.2.1.2, .slice x_v0.1.2.2.1 v0.1.2.2.length x_v0.1.2.2.2, .slice x_v0.2.1.1 v0.2.1.length x_v0.2.1.2, .slice x_v0.2.2.1.1 v0.2.2.1.length x_v0.2.2.1.2, .slice x_v0.2.2.2.1.1 v0.2.2.2.1.length x_v0.2.2.2.1.2, .int .i64 (v0.2.2.2.2)]] [imm (.slice x_v0.1.1.1.1 v0.1.1.1.length x_v0.1.1.1.2) v0.1.1.1, imm (.slice x_v0.1.1.2.1 v0.1.1.2.length x_v0.1.1.2.2) v0.1.1.2, imm (.slice x_v0.1.2.1.1 v0.1.2.1.length x_v0.1.2.1.2) v0.1.2.1, imm (.slice x_v0.1.2.2.1 v0.1.2.2.length x_v0.1.2.2.2) v0.1.2.2, imm (.slice x_v0.2.1.1 v0.2.1.length x_v0.2.1.2) v0.2.1, imm (.slice x_v0.2.2.1.1 v0.2.2.1.length x_v0.2.2.1.2) v0.2.2.1, imm (.slice x_v0.2.2.2.1.1 v0.2.2.2.1.length x_v0.2.2.2.1.2) v0.2.2.2.1] [] (ι := (((Option Addr × Nat) × (Option Addr × Nat)) × (Option Addr × Nat) × (Option Addr × Nat)) × ((Option Addr × Nat) × (Option Addr × Nat) × (Option Addr × Nat) × Unit)) (fun x => .agg #[.slice x.1.1.1.1 r.1.1.1.length x.1.1.1.2, .slice x.1.1.2.1 r.1.1.2.length x.1.1.2.2, .slice x.1.2.1.1 r.1.2.1.length x.1.2.1.2, .slice x.1.2.2.1 r.1.2.2.length x.1.2.2.2, .slice x.2.1.1 r.2.1.length x.2.1.2, .slice x.2.2.1.1 r.2.2.1.length x.2.2.1.2, .slice x.2.2.2.1.1 r.2.2.2.1.length x.2.2.2.1.2, .int .i64 (r.2.2.2.2)]) (fun x => [imm (.slice x.1.1.1.1 r.1.1.1.length x.1.1.1.2) r.1.1.1, imm (.slice x.1.1.2.1 r.1.1.2.length x.1.1.2.2) r.1.1.2, imm (.slice x.1.2.1.1 r.1.2.1.length x.1.2.1.2) r.1.2.1, imm (.slice x.1.2.2.1 r.1.2.2.length x.1.2.2.2) r.1.2.2, imm (.slice x.2.1.1 r.2.1.length x.2.1.2) r.2.1, imm (.slice x.2.2.1.1 r.2.2.1.length x.2.2.1.2) r.2.2.1, imm (.slice x.2.2.2.1.1 r.2.2.2.1.length x.2.2.2.1.2) r.2.2.2.1]) (fun _ => []) := by
 refine cof (args := [_]) func199 ntmps199 fun c => ?_
 unfold p_spec_l22Fall at H
 refine bN aS fun X1 => (bN aS.s.s fun X2 => (bN aS.s.s.s.s fun X3 => (bN aS.s.s.s.s.s.s.s fun X4 => (bN aS.s.s.s.s.s.s.s.s.s.s fun X5 => (sr (f1 (cD (t := 121) rfl) fun g6 => (f1 (cE ty121) fun g7 => (nl (sr ?_)))))))))
 refine aG (cC fa121_1 rfl rfl) (aI (v := .agg #[.slice x_v0.2.1.1 v0.2.1.length x_v0.2.1.2, .slice x_v0.2.2.1.1 v0.2.2.1.length x_v0.2.2.1.2, .slice x_v0.2.2.2.1.1 v0.2.2.2.1.length x_v0.2.2.2.1.2, .int .i64 (v0.2.2.2.2)]) (q_ldbP [.slice x_v0.2.1.1 v0.2.1.length x_v0.2.1.2, .slice x_v0.2.2.1.1 v0.2.2.1.length x_v0.2.2.1.2, .slice x_v0.2.2.2.1.1 v0.2.2.2.1.length x_v0.2.2.2.1.2, .int .i64 (v0.2.2.2.2)] ty76 rfl hs1 rfl rfl) (bdo H fun r8 h9 H => (f1 (e_call (c_spec_l21Tidy v0.2 (x_v0.2.1, x_v0.2.2.1, x_v0.2.2.2.1, ()) h9) rfl (cN (aT aS.s) (cN aS.s.s.s.s.s.s.s.s.s.s (cN (aT aS) cO))) bL) fun x10 => (bdo H fun r11 h12 H => (f1 (cG (c_spec_l21Copy r8 (x10.1, x10.2.1, x10.2.2.1, ()) h12) (fun _ => (bG (bG (bG bH)))) rfl (aC (aM aS) (aC (aM aS.s) (aC (aM aS.s.s) aP)))) fun x13 => (aG (cC fa121_1 rfl rfl) (stb (cs' := [.slice x_v0.1.1.1.1 v0.1.1.1.length x_v0.1.1.1.2, .slice x_v0.1.1.2.1 v0.1.1.2.length x_v0.1.1.2.2, .slice x_v0.1.2.1.1 v0.1.2.1.length x_v0.1.2.1.2, .slice x_v0.1.2.2.1 v0.1.2.2.length x_v0.1.2.2.2, .slice x13.1.1 r11.1.length x13.1.2, .slice x13.2.1.1 r11.2.1.length x13.2.1.2, .slice x13.2.2.1.1 r11.2.2.1.length x13.2.2.1.2, .int .i64 (r11.2.2.2)]) ty76 up4 (nl (aD ?_)))))))))
 refine Tr.freeze (.cons dl2 .nil) (Tr.freeze (.cons dl1 .nil) (Tr.freeze (.cons aA .nil) (aQ (aG (cC fa121_1 rfl rfl) (aI (v := .agg #[.slice x13.1.1 r11.1.length x13.1.2, .slice x13.2.1.1 r11.2.1.length x13.2.1.2, .slice x13.2.2.1.1 r11.2.2.1.length x13.2.2.1.2, .int .i64 (r11.2.2.2)]) (q_ldbP [.slice x13.1.1 r11.1.length x13.1.2, .slice x13.2.1.1 r11.2.1.length x13.2.1.2, .slice x13.2.2.1.1 r11.2.2.1.length x13.2.2.1.2, .int .i64 (r11.2.2.2)] ty76 rfl hs1 rfl rfl) (bdo H fun r14 h15 H => (f1 (e_call (c_spec_l21Open r11 (x13.1, x13.2.1, x13.2.2.1, ()) h15) rfl (cN aS (cN aS.s (cN aS.s.s cO))) bL) fun x16 => (bdo H fun r17 h18 H => (f1 (cG (c_spec_l13Copy r14 x16 h18) (fun _ => (bG (bG (bG (bG bH))))) rfl (aC (aM aS) (aC (aM aS.s) (aC (aM aS.s.s) (aC (aM aS.s.s.s) aP))))) fun x19 => ?_)))))))))
 refine aG (cC fa121_0 rfl rfl) (stb (cs' := [.slice x19.1.1.1 r17.1.1.length x19.1.1.2, .slice x19.1.2.1 r17.1.2.length x19.1.2.2, .slice x19.2.1.1 r17.2.1.length x19.2.1.2, .slice x19.2.2.1 r17.2.2.length x19.2.2.2, .slice x13.1.1 r11.1.length x13.1.2, .slice x13.2.1.1 r11.2.1.length x13.2.1.2, .slice x13.2.2.1.1 r11.2.2.1.length x13.2.2.1.2, .int .i64 (r11.2.2.2)]) ty42 up5 (nl (sr (aI (bK ty121 rfl hs5 rfl) (stb (cs' := [.slice x19.1.1.1 r17.1.1.length x19.1.1.2, .slice x19.1.2.1 r17.1.2.length x19.1.2.2, .slice x19.2.1.1 r17.2.1.length x19.2.1.2, .slice x19.2.2.1 r17.2.2.length x19.2.2.2, .slice x13.1.1 r11.1.length x13.1.2, .slice x13.2.1.1 r11.2.1.length x13.2.1.2, .slice x13.2.2.1.1 r11.2.2.1.length x13.2.2.1.2, .int .i64 (r11.2.2.2)]) ty121 up4 (nl (Tr.freeze (.cons aA .nil) (Tr.freeze (.cons aA .nil) (Tr.freeze (.cons aA .nil) ?_)))))))))
 refine Tr.freeze (.cons aA .nil) (bR ?_)
 obtain rfl := si H
 exact back1 (x19, (x13.1, x13.2.1, x13.2.2.1, ())) rfl (ResV.agg ty121 rfl aB rfl) rfl (cN aS.s.s.s (cN aS.s.s (cN aS.s (cN aS (cN aS.s.s.s.s.s.s.s.s (cN aS.s.s.s.s.s.s.s.s.s (cN aS.s.s.s.s.s.s.s.s.s.s cO))))))) bL
noncomputable def p_spec_l22Steps (v0 : World) (v1 : (List Step)) (v2 : Int) (v3 : Store) : Option (World) := bd (cond (decide ((v1.length : Int) = 0)) (some (true)) (some (decide (v2 < 0)))) fun b13 => cond (b13) (some v0) (bd (p_spec_l21To v0.2 v1 v2) fun r17 => cond (decide (v2 < (v1.length : Int))) (bd (p_spec_l22Fall (v0.1, r17)) fun r21 => some r21) (some (v3, r17)))
theorem c_spec_l22Steps {r : World} (v0 : World) (x_v0 : (((Option Addr × Nat) × (Option Addr × Nat)) × (Option Addr × Nat) × (Option Addr × Nat)) × ((Option Addr × Nat) × (Option Addr × Nat) × (Option Addr × Nat) × Unit)) (v1 : (List Step)) (x_v1 : Option Addr × Nat) (v2 : Int) (v3 : Store) (x_v3 : ((Option Addr × Nat) × (Option Addr × Nat)) × (Option Addr × Nat) × (Option Addr × Nat)) (H : p_spec_l22Steps v0 v1 v2 v3 = some r) : Fn' prog 195 #[.agg #[.slice x_v0.1.1.1.1 v0.1.1.1.length x_v0.1.1.1.2, .slice x_v0.1.1.2.1 v0.1.1.2.length x_v0.1.1.2.2, .slice x_v0.1.2.1.1 v0.1.2.1.length x_v0.1.2.1.2, .slice x_v0.1.2.2.1 v0.1.2.2.length x_v0.1.2.2.2, .slice x_v0.2.1.1 v0.2.1.length x_v0.2.1.2, .slice x_v0.2.2.1.1 v0.2.2.1.length x_v0.2.2.1.2, .slice x_v0.2.2.2.1.1 v0.2.2.2.1.length x_v0.2.2.2.1.2, .int .i64 (v0.2.2.2.2)], .slice x_v1.1 v1.length x_v1.2, .int .i64 (v2), .agg #[.slice x_v3.1.1.1 v3.1.1.length x_v3.1.1.2, .slice x_v3.1.2.1 v3.1.2.length x_v3.1.2.2, .slice x_v3.2.1.1 v3.2.1.length x_v3.2.1.2, .slice x_v3.2.2.1 v3.2.2.length x_v3.2.2.2]] [imm (.slice x_v0.1.1.1.1 v0.1.1.1.length x_v0.1.1.1.2) v0.1.1.1, imm (.slice x_v0.1.1.2.1 v0.1.1.2.length x_v0.1.1.2.2) v0.1.1.2, imm (.slice x_v0.1.2.1.1 v0.1.2.1.length x_v0.1.2.1.2) v0.1.2.1, imm (.slice x_v0.1.2.2.1 v0.1.2.2.length x_v0.1.2.2.2) v0.1.2.2, imm (.slice x_v0.2.1.1 v0.2.1.length x_v0.2.1.2) v0.2.1, imm (.slice x_v0.2.2.1.1 v0.2.2.1.length x_v0.2.2.1.2) v0.2.2.1, imm (.slice x_v0.2.2.2.1.1 v0.2.2.2.1.length x_v0.2.2.2.1.2) v0.2.2.2.1, imm (.slice x_v1.1 v1.length x_v1.2) v1, imm (.slice x_v3.1.1.1 v3.1.1.length x_v3.1.1.2) v3.1.1, imm (.slice x_v3.1.2.1 v3.1.2.length x_v3.1.2.2) v3.1.2, imm (.slice x_v3.2.1.1 v3.2.1.length x_v3.2.1.2) v3.2.1, imm (.slice x_v3.2.2.1 v3.2.2.length x_v3.2.2.2) v3.2.2] [] (ι := (((Option Addr × Nat) × (Option Addr × Nat)) × (Option Addr × Nat) × (Option Addr × Nat)) × ((Option Addr × Nat) × (Option Addr × Nat) × (Option Addr × Nat) × Unit)) (fun x => .agg #[.slice x.1.1.1.1 r.1.1.1.length x.1.1.1.2, .slice x.1.1.2.1 r.1.1.2.length x.1.1.2.2, .slice x.1.2.1.1 r.1.2.1.length x.1.2.1.2, .slice x.1.2.2.1 r.1.2.2.length x.1.2.2.2, .slice x.2.1.1 r.2.1.length x.2.1.2, .slice x.2.2.1.1 r.2.2.1.length x.2.2.1.2, .slice x.2.2.2.1.1 r.2.2.2.1.length x.2.2.2.1.2, .int .i64 (r.2.2.2.2)]) (fun x => [imm (.slice x.1.1.1.1 r.1.1.1.length x.1.1.1.2) r.1.1.1, imm (.slice x.1.1.2.1 r.1.1.2.length x.1.1.2.2) r.1.1.2, imm (.slice x.1.2.1.1 r.1.2.1.length x.1.2.1.2) r.1.2.1, imm (.slice x.1.2.2.1 r.1.2.2.length x.1.2.2.2) r.1.2.2, imm (.slice x.2.1.1 r.2.1.length x.2.1.2) r.2.1, imm (.slice x.2.2.1.1 r.2.2.1.length x.2.2.1.2) r.2.2.1, imm (.slice x.2.2.2.1.1 r.2.2.2.1.length x.2.2.2.1.2) r.2.2.2.1]) (fun _ => []) := by
 refine cof (args := [_, _, _, _]) func195 ntmps195 fun c => ?_
 unfold p_spec_l22Steps at H
 refine bN aS fun X1 => (bN aS.s.s fun X2 => (bN aS.s.s.s.s fun X3 => (bN aS.s.s.s.s.s.s.s fun X4 => (bN aS.s.s.s.s.s.s.s.s.s.s fun X5 => (bN aS.s.s.s.s.s.s.s.s.s.s.s.s fun X6 => (bN aS.s.s.s.s.s.s.s.s.s.s.s.s.s.s fun X7 => (bN aS.s.s.s.s.s.s.s.s.s.s.s.s.s.s.s.s fun X8 => (bN aS.s.s.s.s.s.s.s.s.s.s.s.s.s.s.s.s.s.s fun X9 => (sr ?_)))))))))
 refine f1 (cD (t := 121) rfl) fun g10 => (f1 (cD (t := 42) rfl) fun g11 => (f1 (cE ty121) fun g12 => (nl (aD (bdo H fun b13 j14 H => (dE [(15, .bool (b13)), (8, .pointer (some ⟨g12, 0, none⟩)), (7, .pointer (some ⟨g11, 0, none⟩)), (4, .pointer (some ⟨g10, 0, none⟩)), (1, .slice x_v1.1 v1.length x_v1.2), (2, .int .i64 (v2))] ?_ ?_))))))
 ·refine dI [(8, .pointer (some ⟨g12, 0, none⟩)), (7, .pointer (some ⟨g11, 0, none⟩)), (4, .pointer (some ⟨g10, 0, none⟩)), (1, .slice x_v1.1 v1.length x_v1.2), (2, .int .i64 (v2))] ⟨rfl, rfl, rfl, rfl, rfl, trivial⟩ (bC rfl (aY (bT 260 dM rfl) (aY (cV rfl rfl) ?_)))
  rcases aL (decide ((v1.length : Int) = 0)) with h15 | h15
  ·have j14 := cdT h15 j14
   refine bD (aE rfl) h15 ?_
   iterate 2 refine bF rfl ?_
   refine aY (v := .bool (true)) (bQ rfl rfl) ?_
   obtain rfl := si j14
   show At _ _ _ _ _ _
   exact n1 ⟨rfl, rfl, rfl, rfl, rfl, rfl, trivial⟩
  ·have j14 := cdF h15 j14
   refine bD (aE rfl) h15 (aZ rfl (aE rfl) (aZ rfl (cS rfl rfl) (aY (bP rfl rfl) ?_)))
   obtain rfl := si j14
   show At _ _ _ _ _ _
   exact n1 ⟨rfl, rfl, rfl, rfl, rfl, rfl, trivial⟩
 refine cH H rfl (fun h16 H => ?_) (fun h16 H => ?_)
 ·refine sr (aI (bK ty121 rfl hs2 rfl) (stb (cs' := [.slice x_v0.1.1.1.1 v0.1.1.1.length x_v0.1.1.1.2, .slice x_v0.1.1.2.1 v0.1.1.2.length x_v0.1.1.2.2, .slice x_v0.1.2.1.1 v0.1.2.1.length x_v0.1.2.1.2, .slice x_v0.1.2.2.1 v0.1.2.2.length x_v0.1.2.2.2, .slice x_v0.2.1.1 v0.2.1.length x_v0.2.1.2, .slice x_v0.2.2.1.1 v0.2.2.1.length x_v0.2.2.1.2, .slice x_v0.2.2.2.1.1 v0.2.2.2.1.length x_v0.2.2.2.1.2, .int .i64 (v0.2.2.2.2)]) ty121 cZ (nl (bR (rT (?_))))))
  obtain rfl := si H
  exact back1 (x_v0.1, (x_v0.2.1, x_v0.2.2.1, x_v0.2.2.2.1, ())) rfl (ResV.agg ty121 rfl aB rfl) rfl (cN (aT aS.s.s.s.s.s.s.s.s) (cN (aT aS.s.s.s.s.s.s.s) (cN (aT aS.s.s.s.s.s.s) (cN aS.s.s.s.s.s.s.s.s.s.s.s.s (cN (aT aS.s.s.s.s.s) (cN aS.s.s.s.s.s.s.s.s.s.s.s.s.s.s (cN (aT aS.s.s.s.s) cO))))))) bL
 ·refine bI (nT (sr (aG (cC fa121_1 rfl rfl) (aI (v := .agg #[.slice x_v0.2.1.1 v0.2.1.length x_v0.2.1.2, .slice x_v0.2.2.1.1 v0.2.2.1.length x_v0.2.2.1.2, .slice x_v0.2.2.2.1.1 v0.2.2.2.1.length x_v0.2.2.2.1.2, .int .i64 (v0.2.2.2.2)]) (q_ldbP [.slice x_v0.2.1.1 v0.2.1.length x_v0.2.1.2, .slice x_v0.2.2.1.1 v0.2.2.1.length x_v0.2.2.1.2, .slice x_v0.2.2.2.1.1 v0.2.2.2.1.length x_v0.2.2.2.1.2, .int .i64 (v0.2.2.2.2)] ty76 rfl hs2 rfl rfl) (aF rfl (aF rfl (bdo H fun r17 h18 H => (f1 (e_call (c_spec_l21To v0.2 (x_v0.2.1, x_v0.2.2.1, x_v0.2.2.2.1, ()) v1 x_v1 v2 h18) rfl (cN (aT aS.s.s.s.s.s) (cN aS.s.s.s.s.s.s.s.s.s.s.s.s.s.s (cN (aT aS.s.s.s.s) (cN (aT aS.s.s.s) cO)))) bL) fun x19 => (aG (cC fa121_1 rfl rfl) ?_)))))))))
  refine stb (cs' := [.slice x_v0.1.1.1.1 v0.1.1.1.length x_v0.1.1.1.2, .slice x_v0.1.1.2.1 v0.1.1.2.length x_v0.1.1.2.2, .slice x_v0.1.2.1.1 v0.1.2.1.length x_v0.1.2.1.2, .slice x_v0.1.2.2.1 v0.1.2.2.length x_v0.1.2.2.2, .slice x19.1.1 r17.1.length x19.1.2, .slice x19.2.1.1 r17.2.1.length x19.2.1.2, .slice x19.2.2.1.1 r17.2.2.1.length x19.2.2.1.2, .int .i64 (r17.2.2.2)]) ty76 up2 (nl (aD (sr (aF rfl (aF rfl (aG (bT 260 dM rfl) (aG (cS rfl rfl) (nl (cH H rfl (fun h20 H => ?_) (fun h20 H => ?_))))))))))
  ·refine sr (aI (bK ty121 rfl hs2 rfl) (bdo H fun r21 h22 H => (f1 (e_call (c_spec_l22Fall (v0.1, r17) (x_v0.1, (x19.1, x19.2.1, x19.2.2.1, ())) h22) rfl (cN (aT aS.s.s.s.s.s.s.s.s.s.s.s) (cN (aT aS.s.s.s.s.s.s.s.s.s.s) (cN (aT aS.s.s.s.s.s.s.s.s.s) (cN aS.s.s.s.s.s.s.s.s.s.s.s.s.s.s.s (cN aS (cN aS.s (cN aS.s.s cO))))))) bL) fun x23 => (stb (cs' := [.slice x23.1.1.1.1 r21.1.1.1.length x23.1.1.1.2, .slice x23.1.1.2.1 r21.1.1.2.length x23.1.1.2.2, .slice x23.1.2.1.1 r21.1.2.1.length x23.1.2.1.2, .slice x23.1.2.2.1 r21.1.2.2.length x23.1.2.2.2, .slice x23.2.1.1 r21.2.1.length x23.2.1.2, .slice x23.2.2.1.1 r21.2.2.1.length x23.2.2.1.2, .slice x23.2.2.2.1.1 r21.2.2.2.1.length x23.2.2.2.1.2, .int .i64 (r21.2.2.2.2)]) ty121 cZ (nl (bR (rT (?_))))))))
   obtain rfl := si H
   exact back1 (x23.1, (x23.2.1, x23.2.2.1, x23.2.2.2.1, ())) rfl (ResV.agg ty121 rfl aB rfl) rfl (cN aS (cN aS.s (cN aS.s.s (cN aS.s.s.s (cN aS.s.s.s.s (cN aS.s.s.s.s.s (cN aS.s.s.s.s.s.s cO))))))) bL
  ·refine bI (nT (sr (aI (bK ty42 rfl hs1 rfl) (aG (cC fa121_0 rfl rfl) (stb (cs' := [.slice x_v3.1.1.1 v3.1.1.length x_v3.1.1.2, .slice x_v3.1.2.1 v3.1.2.length x_v3.1.2.2, .slice x_v3.2.1.1 v3.2.1.length x_v3.2.1.2, .slice x_v3.2.2.1 v3.2.2.length x_v3.2.2.2, .slice x19.1.1 r17.1.length x19.1.2, .slice x19.2.1.1 r17.2.1.length x19.2.1.2, .slice x19.2.2.1.1 r17.2.2.1.length x19.2.2.1.2, .int .i64 (r17.2.2.2)]) ty42 up2 (nl (sr (aI (bK ty121 rfl hs2 rfl) (stb (cs' := [.slice x_v3.1.1.1 v3.1.1.length x_v3.1.1.2, .slice x_v3.1.2.1 v3.1.2.length x_v3.1.2.2, .slice x_v3.2.1.1 v3.2.1.length x_v3.2.1.2, .slice x_v3.2.2.1 v3.2.2.length x_v3.2.2.2, .slice x19.1.1 r17.1.length x19.1.2, .slice x19.2.1.1 r17.2.1.length x19.2.1.2, .slice x19.2.2.1.1 r17.2.2.1.length x19.2.2.1.2, .int .i64 (r17.2.2.2)]) ty121 cZ ?_)))))))))
   refine nl (bR ?_)
   obtain rfl := si H
   exact back1 (x_v3, (x19.1, x19.2.1, x19.2.2.1, ())) rfl (ResV.agg ty121 rfl aB rfl) rfl (cN (aT aS.s.s.s.s.s) (cN (aT aS.s.s.s.s) (cN (aT aS.s.s.s) (cN aS.s.s.s.s.s.s.s.s.s.s.s.s.s.s.s.s.s.s.s.s.s.s.s (cN aS (cN aS.s (cN aS.s.s cO))))))) bL
noncomputable def p_spec_l13Merge (v0 : Store) (v1 : Int) : Option (Store × Bool) := gd (I64 ((v0.2.1.length : Int) - 2)) <| bd (p_spec_l6In v1 0 ((v0.2.1.length : Int) - 2)) fun r7 => cond (!r7) (some (v0, false)) (gd (sl2 0 v1 v0.2.1.length) <| gd (room (([] : List Part).length + ((v0.2.1.take v1.toNat).drop 0).length)) <| gd (ix v1 v0.2.1.length) <| gd (I64 (v1 + 1)) <| gd (ix (v1 + 1) v0.2.1.length) <| bd (p_spec_l12Merge (nth v0.2.1 v1.toNat) (nth v0.2.1 ((v1 + 1).toNat))) fun r19 => gd (room ((([] : List Part) ++ ((v0.2.1.take v1.toNat).drop 0)).length + 1)) <| gd (I64 (v1 + 2)) <| gd (sl2 (v1 + 2) (v0.2.1.length : Int) v0.2.1.length) <| gd (room (((([] : List Part) ++ ((v0.2.1.take v1.toNat).drop 0)) ++ [r19]).length + ((v0.2.1.take (v0.2.1.length : Int).toNat).drop (v1 + 2).toNat).length)) <| some ((v0.1, (((([] : List Part) ++ ((v0.2.1.take v1.toNat).drop 0)) ++ [r19]) ++ ((v0.2.1.take (v0.2.1.length : Int).toNat).drop (v1 + 2).toNat)), v0.2.2), true))
theorem c_spec_l13Merge {r : Store × Bool} (v0 : Store) (x_v0 : ((Option Addr × Nat) × (Option Addr × Nat)) × (Option Addr × Nat) × (Option Addr × Nat)) (v1 : Int) (H : p_spec_l13Merge v0 v1 = some r) : Fn' prog 197 #[.agg #[.slice x_v0.1.1.1 v0.1.1.length x_v0.1.1.2, .slice x_v0.1.2.1 v0.1.2.length x_v0.1.2.2, .slice x_v0.2.1.1 v0.2.1.length x_v0.2.1.2, .slice x_v0.2.2.1 v0.2.2.length x_v0.2.2.2], .int .i64 (v1)] [imm (.slice x_v0.1.1.1 v0.1.1.length x_v0.1.1.2) v0.1.1, imm (.slice x_v0.1.2.1 v0.1.2.length x_v0.1.2.2) v0.1.2, imm (.slice x_v0.2.1.1 v0.2.1.length x_v0.2.1.2) v0.2.1, imm (.slice x_v0.2.2.1 v0.2.2.length x_v0.2.2.2) v0.2.2] [] (ι := (((Option Addr × Nat) × (Option Addr × Nat)) × (Option Addr × Nat) × (Option Addr × Nat)) × Unit) (fun x => .tuple #[.agg #[.slice x.1.1.1.1 r.1.1.1.length x.1.1.1.2, .slice x.1.1.2.1 r.1.1.2.length x.1.1.2.2, .slice x.1.2.1.1 r.1.2.1.length x.1.2.1.2, .slice x.1.2.2.1 r.1.2.2.length x.1.2.2.2], .bool (r.2)]) (fun x => [imm (.slice x.1.1.1.1 r.1.1.1.length x.1.1.1.2) r.1.1.1, imm (.slice x.1.1.2.1 r.1.1.2.length x.1.1.2.2) r.1.1.2, imm (.slice x.1.2.1.1 r.1.2.1.length x.1.2.1.2) r.1.2.1, imm (.slice x.1.2.2.1 r.1.2.2.length x.1.2.2.2) r.1.2.2]) (fun _ => []) := by
 refine cof (args := [_, _]) func197 ntmps197 fun c => ?_
 unfold p_spec_l13Merge at H
 refine bN aS fun X1 => (bN aS.s.s fun X2 => (bN aS.s.s.s.s fun X3 => (sr (f1 (cD (t := 42) rfl) fun g4 => (f1 (cE ty42) fun g5 => (aH (v := .bool (false)) rfl (nl (aD (sr (aF rfl (aG (cC fa42_1 rfl rfl) ?_)))))))))))
 refine aI (bJ ty39 rfl hs1 rfl) (aG (bT 72 dQ rfl) (gdo H fun h6 H => (aG (cT rfl rfl h6) (bdo H fun r7 h8 H => (aI (bO (c_spec_l6In v1 0 ((v0.2.1.length : Int) - 2) h8) rfl aP) (aG (cX rfl) (nl (cH H rfl (fun h9 H => ?_) (fun h9 H => ?_)))))))))
 ·refine sr (aI (bK ty42 rfl hs1 rfl) (stb (cs' := [.slice x_v0.1.1.1 v0.1.1.length x_v0.1.1.2, .slice x_v0.1.2.1 v0.1.2.length x_v0.1.2.2, .slice x_v0.2.1.1 v0.2.1.length x_v0.2.1.2, .slice x_v0.2.2.1 v0.2.2.length x_v0.2.2.2]) ty42 cZ (aH (v := .bool (false)) rfl (nl (bR (rT (?_)))))))
  obtain rfl := si H
  exact back2 (x_v0, ()) rfl (ResV.agg ty42 rfl aB rfl) (ResV.tmp (v := .bool (false)) rfl) rfl (cN (aT aS.s.s) (cN (aT aS.s) (cN (aT aS) (cN aS.s.s.s.s.s.s cO)))) bL
 ·refine bI (nT (sr (f2 (e_lit0r Part dQ ty72) fun a10 c11 => (aG (cC fa42_1 rfl rfl) (aI (bJ ty39 rfl hs2 rfl) (aF rfl (gdo H fun h12 H => (aI (v := .slice (subA x_v0.2.1.1 x_v0.2.1.2 0 (Enc.sz Part)) (((v0.2.1.take v1.toNat).drop 0).length) (x_v0.2.1.2 - 0)) (q_slF (l := v0.2.1) (α := Part) 0 v1 dQ ty72 rfl rfl (fun _ => rfl) rfl (fun h => nomatch h) h12 (aM (aT aS))) (gdo H fun h15 H => ?_)))))))))
  refine f2 (e_appR (l := ([] : List Part)) (k := ((v0.2.1.take v1.toNat).drop 0)) (α := Part) dQ ty72 rfl rfl (h15.b (by decide)) h15.x (.cons aA .nil) (Ent.sub (aT aS) h12.le h12.lt)) fun a13 c14 => (aH rfl (nl (aD (tNwL [(6, .slice a13 ((([] : List Part) ++ ((v0.2.1.take v1.toNat).drop 0)).length) c14), (4, .pointer (some ⟨g5, 0, none⟩)), (2, .pointer (some ⟨g4, 0, none⟩)), (1, .int .i64 (v1))] 1 [0, 1, 2, 3, 4, 5, 6, 7, 8, 9, 10, 11, 12, 13, 14] [12, 13, 14] [] mixed rfl (by kernel_rfl) (by kernel_rfl) (by decide) dJ ⟨rfl, rfl, rfl, rfl, trivial⟩ rfl okNil (w_p rfl (aE rfl) (w_p rfl (cC fa42_1 rfl rfl) ?_))))))
  refine w_o rfl (fun F => (bJ ty39 rfl (hs2.app F) rfl)) (w_p rfl (aE rfl) (gdo H fun h16 H => ?_))
  refine w_o rfl (fun F => (bX dQ ty72 rfl rfl h16 rfl (aM (aU aS)))) ?_
  refine w_o (v := .agg #[.slice (((X3 v1.toNat).1).1) (((nth v0.2.1 v1.toNat).1).length) (((X3 v1.toNat).1).2.1), .slice (((X3 v1.toNat).2).1) (((nth v0.2.1 v1.toNat).2).length) (((X3 v1.toNat).2).2.1)]) rfl (fun F => (cB (i := v1.toNat) ty72 rfl (aM (aU aS)) h16.lt)) (w_p rfl (cC fa42_1 rfl rfl) ?_)
  refine w_o rfl (fun F => (bJ ty39 rfl (hs2.app F) rfl)) (w_p rfl (aE rfl) (gdo H fun h17 H => (w_p rfl (bS rfl rfl h17) (gdo H fun h18 H => ?_))))
  refine w_o rfl (fun F => (bX dQ ty72 rfl rfl h18 rfl (aM (aU aS)))) ?_
  refine w_o (v := .agg #[.slice (((X3 ((v1 + 1).toNat)).1).1) (((nth v0.2.1 ((v1 + 1).toNat)).1).length) (((X3 ((v1 + 1).toNat)).1).2.1), .slice (((X3 ((v1 + 1).toNat)).2).1) (((nth v0.2.1 ((v1 + 1).toNat)).2).length) (((X3 ((v1 + 1).toNat)).2).2.1)]) rfl (fun F => (cB (i := (v1 + 1).toNat) ty72 rfl (aM (aU aS)) h18.lt)) (bdo H fun r19 h20 H => (cK rfl (by decide) rfl cP rfl (cF (c_spec_l12Merge (nth v0.2.1 v1.toNat) ((((X3 v1.toNat).1).1, ((X3 v1.toNat).1).2.1), (((X3 v1.toNat).2).1, ((X3 v1.toNat).2).2.1)) (nth v0.2.1 ((v1 + 1).toNat)) ((((X3 ((v1 + 1).toNat)).1).1, ((X3 ((v1 + 1).toNat)).1).2.1), (((X3 ((v1 + 1).toNat)).2).1, ((X3 ((v1 + 1).toNat)).2).2.1)) h20) (fun _ => (bG (bG bH))) rfl (aC (aM (aT (aW (aX aS h16.lt)))) (aC (aM (aT (aV (aX aS h16.lt)))) (aC (aM (aT (aW (aX aS h18.lt)))) (aC (aM (aT (aV (aX aS h18.lt)))) aP))))) ?_))
  rintro _ _ _ ⟨x21, rfl, rfl, rfl⟩
  refine ⟨(aN (by kernel_rfl) (bW rfl rfl (fun F => (bX dQ ty72 rfl rfl h18 rfl (aM (aU aS)))) (bW rfl rfl (fun F => (bJ ty39 rfl (hs4.app F) rfl)) (aN (by kernel_rfl) (bW rfl rfl (fun F => (bX dQ ty72 rfl rfl h16 rfl (aM (aU aS)))) (bW rfl rfl (fun F => (bJ ty39 rfl (hs4.app F) rfl)) bV)))))), ?_⟩
  refine cK rfl (by decide) rfl cP rfl (n_lit (vs := [(0, .agg #[.slice x21.1.1 r19.1.length x21.1.2, .slice x21.2.1 r19.2.length x21.2.2])]) [.slice x21.1.1 r19.1.length x21.1.2, .slice x21.2.1 r19.2.length x21.2.2] dQ ty72 rfl (by decide) (by decide) (by kernel_rfl)) ?_
  rintro _ _ _ ⟨g22, rfl, rfl, rfl⟩
  refine ⟨(bW rfl rfl (fun F => (cB (i := (v1 + 1).toNat) ty72 rfl (aM (aU aS)) h18.lt)) (bW rfl rfl (fun F => (bX dQ ty72 rfl rfl h18 rfl (aM (aU aS)))) (bW rfl rfl (fun F => (bJ ty39 rfl (hs5.app F) rfl)) (bW rfl rfl (fun F => (cB (i := v1.toNat) ty72 rfl (aM (aU aS)) h16.lt)) (bW rfl rfl (fun F => (bX dQ ty72 rfl rfl h16 rfl (aM (aU aS)))) (bW rfl rfl (fun F => (bJ ty39 rfl (hs5.app F) rfl)) bV)))))), ?_⟩
  refine gdo H fun h25 H => (cK rfl (by decide) rfl cP rfl (n_app1RO (l := (([] : List Part) ++ ((v0.2.1.take v1.toNat).drop 0))) (α := Part) r19 x21 dQ ty72 rfl rfl (h25.b (by decide)) h25.x rfl (.cons dl3 (.cons aA (.cons aA (.cons aA .nil))))) ?_)
  rintro _ _ _ ⟨a23, c24, rfl, rfl, rfl⟩
  refine ⟨(bW rfl rfl (fun F => (cB (i := (v1 + 1).toNat) ty72 rfl (aM (aU aS)) h18.lt)) (bW rfl rfl (fun F => (bX dQ ty72 rfl rfl h18 rfl (aM (aU aS)))) (bW rfl rfl (fun F => (bJ ty39 rfl (hs2.app F) rfl)) (bW rfl rfl (fun F => (cB (i := v1.toNat) ty72 rfl (aM (aU aS)) h16.lt)) (bW rfl rfl (fun F => (bX dQ ty72 rfl rfl h16 rfl (aM (aU aS)))) (bW rfl rfl (fun F => (bJ ty39 rfl (hs2.app F) rfl)) bV)))))), ?_⟩
  refine cM ?_
  show Rg _ _ _ _ _ _ _ _ _
  refine aH rfl (nl (sr (aF rfl (aG (cC fa42_1 rfl rfl) (aI (bJ ty39 rfl hs2 rfl) (aF rfl (gdo H fun h26 H => (aG (bS rfl rfl h26) (gdo H fun h27 H => (aI (v := .slice (subA x_v0.2.1.1 x_v0.2.1.2 (v1 + 2).toNat (Enc.sz Part)) (((v0.2.1.take (v0.2.1.length : Int).toNat).drop (v1 + 2).toNat).length) (x_v0.2.1.2 - (v1 + 2).toNat)) (q_slF (l := v0.2.1) (α := Part) (v1 + 2) (v0.2.1.length : Int) dQ ty72 rfl rfl (fun h => nomatch h) rfl (fun _ => rfl) h27 (aM (aT aS))) ?_))))))))))
  refine gdo H fun h30 H => (f2 (e_appR (l := ((([] : List Part) ++ ((v0.2.1.take v1.toNat).drop 0)) ++ [r19])) (k := ((v0.2.1.take (v0.2.1.length : Int).toNat).drop (v1 + 2).toNat)) (α := Part) dQ ty72 rfl rfl (h30.b (by decide)) h30.x (.cons aA .nil) (Ent.sub (aT aS) h27.le h27.lt)) fun a28 c29 => (aG (cC fa42_1 rfl rfl) (stb (cs' := [.slice x_v0.1.1.1 v0.1.1.length x_v0.1.1.2, .slice x_v0.1.2.1 v0.1.2.length x_v0.1.2.2, .slice a28 ((((([] : List Part) ++ ((v0.2.1.take v1.toNat).drop 0)) ++ [r19]) ++ ((v0.2.1.take (v0.2.1.length : Int).toNat).drop (v1 + 2).toNat)).length) c29, .slice x_v0.2.2.1 v0.2.2.length x_v0.2.2.2]) ty39 up2 (nl (sr (aI (bK ty42 rfl hs2 rfl) (stb (cs' := [.slice x_v0.1.1.1 v0.1.1.length x_v0.1.1.2, .slice x_v0.1.2.1 v0.1.2.length x_v0.1.2.2, .slice a28 ((((([] : List Part) ++ ((v0.2.1.take v1.toNat).drop 0)) ++ [r19]) ++ ((v0.2.1.take (v0.2.1.length : Int).toNat).drop (v1 + 2).toNat)).length) c29, .slice x_v0.2.2.1 v0.2.2.length x_v0.2.2.2]) ty42 up1 (aH (v := .bool (true)) rfl (nl (Tr.freezeR (.cons aA .nil) ?_))))))))))
  refine bR ?_
  obtain rfl := si H
  exact back2 ((x_v0.1, (a28, c29), x_v0.2.2), ()) rfl (ResV.agg ty42 rfl aB rfl) (ResV.tmp (v := .bool (true)) rfl) rfl (cN (aT aS.s.s.s) (cN (aT aS.s.s) (cN aS (cN aS.s.s.s.s.s.s.s cO)))) bL
noncomputable def p_spec_l21Merge (v0 : Disk) (v1 : Int) : Option ((List Step)) := bd (gd (I64 ((v0.2.1.length : Int) - 2)) <| bd (p_spec_l6In v1 0 ((v0.2.1.length : Int) - 2)) fun r7 => cond (!r7) (some (true)) (cond (decide (999 ≤ v0.2.2.2)) (some (true)) (some (decide (20 ≤ (v0.1.length : Int)))))) fun b4 => cond (b4) (some ([] : List Step)) (gd (ix v1 v0.2.1.length) <| gd (I64 (v1 + 1)) <| gd (ix (v1 + 1) v0.2.1.length) <| bd (p_spec_l21At v0 (nth v0.2.1 v1.toNat)) fun r17 => gd (ix r17 v0.1.length) <| bd (p_spec_l21At v0 (nth v0.2.1 ((v1 + 1).toNat))) fun r20 => gd (ix r20 v0.1.length) <| bd (p_spec_l12Merge ((nth v0.1 r17.toNat).2) ((nth v0.1 r20.toNat).2)) fun r23 => gd (sl2 0 v1 v0.2.1.length) <| gd (I64 (v1 + 2)) <| gd (sl2 (v1 + 2) (v0.2.1.length : Int) v0.2.1.length) <| gd (room (([] : List Int).length + ((v0.2.1.take v1.toNat).drop 0).length)) <| gd (room ((([] : List Int) ++ ((v0.2.1.take v1.toNat).drop 0)).length + 1)) <| gd (room (((([] : List Int) ++ ((v0.2.1.take v1.toNat).drop 0)) ++ [v0.2.2.2]).length + ((v0.2.1.take (v0.2.1.length : Int).toNat).drop (v1 + 2).toNat).length)) <| bd (p_spec_l11Names v0.2.2.1) fun r41 => some ([(1, v0.2.2.2, r23, ([]), ([])), (2, 0, (([]), ([])), (((([] : List Int) ++ ((v0.2.1.take v1.toNat).drop 0)) ++ [v0.2.2.2]) ++ ((v0.2.1.take (v0.2.1.length : Int).toNat).drop (v1 + 2).toNat)), r41), (3, (nth v0.2.1 v1.toNat), (([]), ([])), ([]), ([])), (3, (nth v0.2.1 ((v1 + 1).toNat)), (([]), ([])), ([]), ([]))] : List Step))
theorem c_spec_l21Merge {r : (List Step)} (v0 : Disk) (x_v0 : (Option Addr × Nat) × (Option Addr × Nat) × (Option Addr × Nat) × Unit) (v1 : Int) (H : p_spec_l21Merge v0 v1 = some r) : Fn' prog 198 #[.agg #[.slice x_v0.1.1 v0.1.length x_v0.1.2, .slice x_v0.2.1.1 v0.2.1.length x_v0.2.1.2, .slice x_v0.2.2.1.1 v0.2.2.1.length x_v0.2.2.1.2, .int .i64 (v0.2.2.2)], .int .i64 (v1)] [imm (.slice x_v0.1.1 v0.1.length x_v0.1.2) v0.1, imm (.slice x_v0.2.1.1 v0.2.1.length x_v0.2.1.2) v0.2.1, imm (.slice x_v0.2.2.1.1 v0.2.2.1.length x_v0.2.2.1.2) v0.2.2.1] [] (ι := Option Addr × Nat) (fun x => .slice x.1 r.length x.2) (fun x => [imm (.slice x.1 r.length x.2) r]) (fun _ => []) := by
 refine cof (args := [_, _]) func198 ntmps198 fun c => ?_
 unfold p_spec_l21Merge at H
 refine bN aS fun X1 => (bN aS.s.s.s fun X2 => (sr (f1 (cD (t := 76) rfl) fun g3 => (aH (v := .slice none 0 0) rfl (nl (aD (bdo H fun b4 j5 H => (dE [(26, .bool (b4)), (2, .pointer (some ⟨g3, 0, none⟩)), (1, .int .i64 (v1))] ?_ ?_))))))))
 ·refine dI [(2, .pointer (some ⟨g3, 0, none⟩)), (1, .int .i64 (v1))] ⟨rfl, rfl, trivial⟩ (bC rfl (aY (cC fa76_1 rfl rfl) (bA (bJ ty69 rfl aB rfl) (aY (bT 3 dW rfl) (gdo j5 fun h6 j5 => (aY (cT rfl rfl h6) (bdo j5 fun r7 h8 j5 => (bA (bO (c_spec_l6In v1 0 ((v0.2.1.length : Int) - 2) h8) rfl aP) (aY (cX rfl) ?_)))))))))
  rcases aL (!r7) with h9 | h9
  ·have j5 := cdT h9 j5
   refine bD (aE rfl) h9 ?_
   iterate 3 refine bF rfl ?_
   refine aY (v := .bool (true)) (bQ rfl rfl) (bC (v := .bool (true)) rfl ?_)
   iterate 4 refine bF rfl ?_
   refine aY (v := .bool (true)) (bQ rfl rfl) ?_
   obtain rfl := si j5
   show At _ _ _ _ _ _
   exact n1 ⟨rfl, rfl, rfl, trivial⟩
  ·have j5 := cdF h9 j5
   refine bD (aE rfl) h9 (aZ rfl (cC fa76_3 rfl rfl) (bB rfl (bJ ty3 rfl aB rfl) (aZ rfl (p_geq rfl rfl) (aY (bP rfl rfl) ?_))))
   rcases aL (decide (999 ≤ v0.2.2.2)) with h10 | h10
   ·have j5 := cdT h10 j5
    refine bD (aE rfl) h10 ?_
    iterate 4 refine bF rfl ?_
    refine aY (v := .bool (true)) (bQ rfl rfl) ?_
    obtain rfl := si j5
    show At _ _ _ _ _ _
    exact n1 ⟨rfl, rfl, rfl, trivial⟩
   ·have j5 := cdF h10 j5
    refine bD (aE rfl) h10 (aZ rfl (cC fa76_0 rfl rfl) (bB rfl (bJ ty74 rfl aB rfl) (aZ rfl (bT 80 dY rfl) (aZ rfl (p_geq rfl rfl) (aY (bP rfl rfl) ?_)))))
    obtain rfl := si j5
    show At _ _ _ _ _ _
    exact n1 ⟨rfl, rfl, rfl, trivial⟩
 refine cH H rfl (fun h11 H => ?_) (fun h11 H => ?_)
 ·refine sr (f2 (e_lit0 Step dM ty260) fun a12 c13 => (aH rfl (nl (Tr.freeze (.cons aA .nil) (bR (rT (?_)))))))
  obtain rfl := si H
  exact back1 (a12, c13) rfl (ResV.tmp (v := .slice a12 (([] : List Step).length) c13) rfl) rfl (cN aS cO) bL
 ·refine bI (nT (sr (aG (cC fa76_1 rfl rfl) (aI (bJ ty69 rfl aB rfl) (aF rfl (gdo H fun h14 H => (aI (bX dW ty3 rfl rfl h14 rfl (aO (aM aS.s.s.s))) (aI (cA (i := v1.toNat) (j := 0) ty3 rfl (aO (aM aS.s.s.s)) h14.lt rfl) (aH rfl (nl ?_))))))))))
  refine sr (aG (cC fa76_1 rfl rfl) (aI (bJ ty69 rfl aB rfl) (aF rfl (gdo H fun h15 H => (aG (bS rfl rfl h15) (gdo H fun h16 H => (aI (bX dW ty3 rfl rfl h16 rfl (aO (aM aS.s.s.s))) (aI (cA (i := (v1 + 1).toNat) (j := 0) ty3 rfl (aO (aM aS.s.s.s)) h16.lt rfl) (aH rfl (nl ?_))))))))))
  refine aD (dH [(6, .int .i64 (nth v0.2.1 ((v1 + 1).toNat))), (5, .int .i64 (nth v0.2.1 v1.toNat)), (2, .pointer (some ⟨g3, 0, none⟩)), (1, .int .i64 (v1))] 1 [0, 1, 2, 3, 4, 5, 6, 7, 8, 9, 10, 11, 12, 13, 14, 15, 16, 17, 18] [16, 18] [⟨17, [], fun g => .pointer (some ⟨g, 0, none⟩), fun g => box g 72 [.slice none 0 0, .slice none 0 0]⟩] mixed (by kernel_rfl) (by decide) (show List.Nodup [17] by decide) ⟨rfl, rfl, rfl, rfl, trivial⟩ rfl (okCons (FreeA.Ok.of rfl (by decide) (by kernel_rfl) fun c fs os => cE ty72) okNil) (w_p rfl (cC fa76_0 rfl rfl) ?_))
  refine w_o rfl (fun F => (bJ ty74 rfl (aB.app F) rfl)) ?_
  refine w_o rfl (fun F => (bK ty76 rfl (aB.app F) rfl)) (w_p rfl (aE rfl) (bdo H fun r17 h18 H => ?_))
  refine w_o rfl (fun F => (bO (c_spec_l21At v0 (x_v0.1, x_v0.2.1, x_v0.2.2.1, ()) (nth v0.2.1 v1.toNat) h18) rfl (aC (aM (aT aS.s)) (aC (aM aS.s.s.s) (aC (aM (aT aS)) aP))))) (gdo H fun h19 H => ?_)
  refine w_o rfl (fun F => (bX dY ty80 rfl rfl h19 rfl (aM (aU aS.s)))) ?_
  refine w_o rfl (fun F => (bZ (j := 0) r17.toNat fa80_1 rfl (aM (aU aS.s)) h19.lt rfl)) ?_
  refine w_o (v := .agg #[.slice ((((X1 r17.toNat).2).1).1) ((((nth v0.1 r17.toNat).2).1).length) ((((X1 r17.toNat).2).1).2.1), .slice ((((X1 r17.toNat).2).2).1) ((((nth v0.1 r17.toNat).2).2).length) ((((X1 r17.toNat).2).2).2.1)]) rfl (fun F => (q_ldeP [.slice ((((X1 r17.toNat).2).1).1) ((((nth v0.1 r17.toNat).2).1).length) ((((X1 r17.toNat).2).1).2.1), .slice ((((X1 r17.toNat).2).2).1) ((((nth v0.1 r17.toNat).2).2).length) ((((X1 r17.toNat).2).2).2.1)] (l := v0.1) (E := fun i => Dp.denc (nth v0.1 i) (X1 i)) (oa := x_v0.1.1) (i := r17.toNat) (j := 1) ty72 rfl (aM (aU aS.s)) h19.lt rfl rfl)) (w_p rfl (cC fa76_0 rfl rfl) ?_)
  refine w_o rfl (fun F => (bJ ty74 rfl (aB.app F) rfl)) ?_
  refine w_o rfl (fun F => (bK ty76 rfl (aB.app F) rfl)) (w_p rfl (aE rfl) (bdo H fun r20 h21 H => ?_))
  refine w_o rfl (fun F => (bO (c_spec_l21At v0 (x_v0.1, x_v0.2.1, x_v0.2.2.1, ()) (nth v0.2.1 ((v1 + 1).toNat)) h21) rfl (aC (aM (aT aS.s)) (aC (aM aS.s.s.s) (aC (aM (aT aS)) aP))))) (gdo H fun h22 H => ?_)
  refine w_o rfl (fun F => (bX dY ty80 rfl rfl h22 rfl (aM (aU aS.s)))) ?_
  refine w_o rfl (fun F => (bZ (j := 0) r20.toNat fa80_1 rfl (aM (aU aS.s)) h22.lt rfl)) ?_
  refine w_o (v := .agg #[.slice ((((X1 r20.toNat).2).1).1) ((((nth v0.1 r20.toNat).2).1).length) ((((X1 r20.toNat).2).1).2.1), .slice ((((X1 r20.toNat).2).2).1) ((((nth v0.1 r20.toNat).2).2).length) ((((X1 r20.toNat).2).2).2.1)]) rfl (fun F => (q_ldeP [.slice ((((X1 r20.toNat).2).1).1) ((((nth v0.1 r20.toNat).2).1).length) ((((X1 r20.toNat).2).1).2.1), .slice ((((X1 r20.toNat).2).2).1) ((((nth v0.1 r20.toNat).2).2).length) ((((X1 r20.toNat).2).2).2.1)] (l := v0.1) (E := fun i => Dp.denc (nth v0.1 i) (X1 i)) (oa := x_v0.1.1) (i := r20.toNat) (j := 1) ty72 rfl (aM (aU aS.s)) h22.lt rfl rfl)) (bdo H fun r23 h24 H => (cK rfl (by decide) rfl (cQ (.inr (.inr trivial)) cP) rfl (cF (c_spec_l12Merge ((nth v0.1 r17.toNat).2) (((((X1 r17.toNat).2).1).1, (((X1 r17.toNat).2).1).2.1), ((((X1 r17.toNat).2).2).1, (((X1 r17.toNat).2).2).2.1)) ((nth v0.1 r20.toNat).2) (((((X1 r20.toNat).2).1).1, (((X1 r20.toNat).2).1).2.1), ((((X1 r20.toNat).2).2).1, (((X1 r20.toNat).2).2).2.1)) h24) (fun _ => (bG (bG bH))) rfl (aC (aM (aT (aW (aV (aX aS.s h19.lt))))) (aC (aM (aT (aV (aV (aX aS.s h19.lt))))) (aC (aM (aT (aW (aV (aX aS.s h22.lt))))) (aC (aM (aT (aV (aV (aX aS.s h22.lt))))) aP))))) ?_))
  rintro _ _ _ ⟨x25, rfl, rfl, rfl⟩
  refine ⟨(aN (by kernel_rfl) (bW rfl rfl (fun F => (bZ (j := 0) r20.toNat fa80_1 rfl (aM (aU aS.s)) h22.lt rfl)) (bW rfl rfl (fun F => (bX dY ty80 rfl rfl h22 rfl (aM (aU aS.s)))) (aN (by kernel_rfl) (bW rfl rfl (fun F => (bK ty76 rfl (hs2.app F) rfl)) (bW rfl rfl (fun F => (bJ ty74 rfl (hs2.app F) rfl)) (aN (by kernel_rfl) (bW rfl rfl (fun F => (bZ (j := 0) r17.toNat fa80_1 rfl (aM (aU aS.s)) h19.lt rfl)) (bW rfl rfl (fun F => (bX dY ty80 rfl rfl h19 rfl (aM (aU aS.s)))) (bW rfl rfl (fun F => (bO (c_spec_l21At v0 (x_v0.1, x_v0.2.1, x_v0.2.2.1, ()) (nth v0.2.1 v1.toNat) h18) rfl (aC (aM (aT aS.s)) (aC (aM aS.s.s.s) (aC (aM (aT aS)) aP))))) (bW rfl rfl (fun F => (bK ty76 rfl (hs2.app F) rfl)) (bW rfl rfl (fun F => (bJ ty74 rfl (hs2.app F) rfl)) bV)))))))))))), ?_⟩
  refine w_fr (z := ⟨17, [], fun g => .pointer (some ⟨g, 0, none⟩), fun g => box g 72 [.slice none 0 0, .slice none 0 0]⟩) (.head _) rfl rfl (by decide) (cQ (.inl rfl) cP) trivial ?_; intro g26
  refine cL rfl rfl (cQ (.inl rfl) cP) rfl (n_store (cs' := [.slice x25.1.1 r23.1.length x25.1.2, .slice x25.2.1 r23.2.length x25.2.2]) ty72 rfl rfl cZ rfl (one_of rfl) (Nat.le_of_ble_eq_true rfl) rfl) ?_
  rintro _ _ _ ⟨rfl, rfl, rfl⟩
  refine ⟨(aN (by kernel_rfl) (aN (by kernel_rfl) (aN (by kernel_rfl) (aN (by kernel_rfl) (aN (by kernel_rfl) (aN (by kernel_rfl) (aN (by kernel_rfl) (aN (by kernel_rfl) (aN (by kernel_rfl) (aN (by kernel_rfl) (aN (by kernel_rfl) (aN (by kernel_rfl) bV)))))))))))), ?_⟩
  refine cM (nT (aD (dH [(7, .pointer (some ⟨g26, 0, none⟩)), (6, .int .i64 (nth v0.2.1 ((v1 + 1).toNat))), (5, .int .i64 (nth v0.2.1 v1.toNat)), (2, .pointer (some ⟨g3, 0, none⟩)), (1, .int .i64 (v1))] 3 [1, 2, 3, 4, 6, 7, 10, 11, 12, 13, 14, 0, 5, 8, 9, 15, 16] [5, 9, 15] [⟨0, [], fun g => .slice (some ⟨g, 0, none⟩) ([] : List Int).length 0, fun g => tree (.slice (some ⟨g, 0, none⟩) ([] : List Int).length 0) ([] : List Int)⟩, ⟨8, [(63, .int .i64 (v0.2.2.2))], fun g => .slice (some ⟨g, 0, none⟩) 1 1, fun g => box g 3 [.int .i64 (v0.2.2.2)]⟩] mixed (by kernel_rfl) (by decide) (show List.Nodup [0, 8] by decide) ⟨rfl, rfl, rfl, rfl, rfl, trivial⟩ rfl (okCons (FreeA.Ok.of rfl (by decide) (by kernel_rfl) fun c fs os => g_lit0 Int dW ty3) (okCons (FreeA.Ok.of rfl (by decide) (by kernel_rfl) fun c fs os => e_lit (vs := [(0, .int .i64 (v0.2.2.2))]) [.int .i64 (v0.2.2.2)] dW ty3 rfl (by decide) (by decide) (by kernel_rfl)) okNil)) (w_p rfl (cC fa76_1 rfl rfl) ?_))))
  refine w_o rfl (fun F => (bJ ty69 rfl (hs3.app F) rfl)) (w_p rfl (aE rfl) (gdo H fun h27 H => ?_))
  refine w_o (v := .slice (subA x_v0.2.1.1 x_v0.2.1.2 0 (Enc.sz Int)) (((v0.2.1.take v1.toNat).drop 0).length) (x_v0.2.1.2 - 0)) rfl (fun F => (q_slF (l := v0.2.1) (α := Int) 0 v1 dW ty3 rfl rfl (fun _ => rfl) rfl (fun h => nomatch h) h27 (aM aS.s.s.s))) (w_p rfl (cC fa76_3 rfl rfl) ?_)
  refine w_o rfl (fun F => (bJ ty3 rfl (hs3.app F) rfl)) (w_p rfl (cC fa76_1 rfl rfl) ?_)
  refine w_o rfl (fun F => (bJ ty69 rfl (hs3.app F) rfl)) (w_p rfl (aE rfl) (gdo H fun h28 H => (w_p rfl (bS rfl rfl h28) (gdo H fun h29 H => ?_))))
  refine w_o (v := .slice (subA x_v0.2.1.1 x_v0.2.1.2 (v1 + 2).toNat (Enc.sz Int)) (((v0.2.1.take (v0.2.1.length : Int).toNat).drop (v1 + 2).toNat).length) (x_v0.2.1.2 - (v1 + 2).toNat)) rfl (fun F => (q_slF (l := v0.2.1) (α := Int) (v1 + 2) (v0.2.1.length : Int) dW ty3 rfl rfl (fun h => nomatch h) rfl (fun _ => rfl) h29 (aM aS.s.s.s))) ?_
  refine w_fr (z := ⟨0, [], fun g => .slice (some ⟨g, 0, none⟩) ([] : List Int).length 0, fun g => tree (.slice (some ⟨g, 0, none⟩) ([] : List Int).length 0) ([] : List Int)⟩) (.head _) rfl rfl (by decide) (cQ (.inl rfl) (cQ (.inr (.inr ⟨rfl, trivial⟩)) cP)) trivial ?_; intro g30
  refine gdo H fun h33 H => (cK rfl (by decide) rfl (cQ (.inl rfl) (cQ (.inr (.inr ⟨rfl, trivial⟩)) cP)) rfl (n_appF (l := ([] : List Int)) (k := ((v0.2.1.take v1.toNat).drop 0)) (α := Int) dW ty3 rfl rfl (h33.b (by decide)) h33.x (.cons aA .nil) (aM (Ent.sub aS.s.s.s h27.le h27.lt))) ?_)
  rintro _ _ _ ⟨a31, c32, rfl, rfl, rfl⟩
  refine ⟨(bW rfl rfl (fun F => (q_slF (l := v0.2.1) (α := Int) (v1 + 2) (v0.2.1.length : Int) dW ty3 rfl rfl (fun h => nomatch h) rfl (fun _ => rfl) h29 (aM aS.s.s.s))) (bW rfl rfl (fun F => (bJ ty69 rfl (hs4.app F) rfl)) (bW rfl rfl (fun F => (bJ ty3 rfl (hs4.app F) rfl)) (aN (by kernel_rfl) (aN (by kernel_rfl) bV))))), ?_⟩
  refine w_fr (z := ⟨8, [(63, .int .i64 (v0.2.2.2))], fun g => .slice (some ⟨g, 0, none⟩) 1 1, fun g => box g 3 [.int .i64 (v0.2.2.2)]⟩) (.tail _ (.head _)) rfl rfl (by decide) (cQ (.inl rfl) (cQ (.inl rfl) cP)) ⟨rfl, trivial⟩ ?_; intro g34
  refine gdo H fun h37 H => (cK rfl (by decide) rfl (cQ (.inl rfl) (cQ (.inl rfl) cP)) rfl (n_app1 (l := (([] : List Int) ++ ((v0.2.1.take v1.toNat).drop 0))) (α := Int) v0.2.2.2 () dW ty3 rfl rfl (h37.b (by decide)) h37.x rfl (cY _) (.cons dl1 (.cons aA .nil))) ?_)
  rintro _ _ _ ⟨a35, c36, rfl, rfl, rfl⟩
  refine ⟨(bW rfl rfl (fun F => (q_slF (l := v0.2.1) (α := Int) (v1 + 2) (v0.2.1.length : Int) dW ty3 rfl rfl (fun h => nomatch h) rfl (fun _ => rfl) h29 (aM aS.s.s.s))) (bW rfl rfl (fun F => (bJ ty69 rfl (hs4.app F) rfl)) (aN (by kernel_rfl) (aN (by kernel_rfl) (aN (by kernel_rfl) bV))))), ?_⟩
  refine gdo H fun h40 H => (cK rfl (by decide) rfl (cQ (.inl rfl) (cQ (.inl rfl) cP)) rfl (n_appF (l := ((([] : List Int) ++ ((v0.2.1.take v1.toNat).drop 0)) ++ [v0.2.2.2])) (k := ((v0.2.1.take (v0.2.1.length : Int).toNat).drop (v1 + 2).toNat)) (α := Int) dW ty3 rfl rfl (h40.b (by decide)) h40.x (.cons aA .nil) (aM (Ent.sub aS.s.s.s h29.le h29.lt))) ?_)
  rintro _ _ _ ⟨a38, c39, rfl, rfl, rfl⟩
  refine ⟨(aN (by kernel_rfl) (aN (by kernel_rfl) (aN (by kernel_rfl) (aN (by kernel_rfl) (bW rfl rfl (fun F => (bJ ty69 rfl (hs4.app F) rfl)) bV))))), ?_⟩
  refine w_p rfl (p_assign rfl) (cM (nT (aD (Tr.nilT Int (Tr.nilT (List Tag) (Tr.nilT Int (Tr.nilT (List Row) (Tr.nilT Int (Tr.nilT (List Row) (Tr.nilT Int ?_))))))))))
  refine Tr.nilT (List Tag) (Tr.nilT Int (Tr.nilT (List Row) (Tr.nilT Int (Tr.nilT (List Tag) (dH [(8, .slice a38 ((((([] : List Int) ++ ((v0.2.1.take v1.toNat).drop 0)) ++ [v0.2.2.2]) ++ ((v0.2.1.take (v0.2.1.length : Int).toNat).drop (v1 + 2).toNat)).length) c39), (7, .pointer (some ⟨g26, 0, none⟩)), (6, .int .i64 (nth v0.2.1 ((v1 + 1).toNat))), (5, .int .i64 (nth v0.2.1 v1.toNat)), (2, .pointer (some ⟨g3, 0, none⟩))] 2 [0, 1, 2, 3, 4, 5, 6, 9, 10, 11, 12, 7, 8, 13, 14] [7, 13] [] mixed (by kernel_rfl) (by decide) dJ ⟨rfl, rfl, rfl, rfl, rfl, trivial⟩ rfl okNil (w_p rfl (cC fa76_3 rfl rfl) ?_))))))
  refine w_o rfl (fun F => (bJ ty3 rfl ((hs5t (hs5t (hs5t hs1))).app F) rfl)) ?_
  refine w_o rfl (fun F => (bK ty72 rfl ((hs5t (hs5t hs3)).app F) rfl)) (w_p (v := .agg #[.int .i64 (1), .int .i64 (v0.2.2.2), .slice x25.1.1 r23.1.length x25.1.2, .slice x25.2.1 r23.2.length x25.2.2, .slice none 0 0, .slice none 0 0]) rfl (p_buildS (vs := [(0, .int .i64 (1)), (1, .int .i64 (v0.2.2.2)), (2, .agg #[.slice x25.1.1 r23.1.length x25.1.2, .slice x25.2.1 r23.2.length x25.2.2])]) (cs := #[.int .i64 (1), .int .i64 (v0.2.2.2), .slice x25.1.1 r23.1.length x25.1.2, .slice x25.2.1 r23.2.length x25.2.2, .slice none 0 0, .slice none 0 0]) ty260 pl260 rfl (by kernel_rfl)) (w_p rfl (aE rfl) (w_p rfl (cC fa76_2 rfl rfl) ?_)))
  refine w_o rfl (fun F => (bJ ty35 rfl ((hs5t (hs5t (hs5t hs1))).app F) rfl)) (w_p rfl (aE rfl) (w_p (v := .agg #[.int .i64 (3), .int .i64 (nth v0.2.1 v1.toNat), .slice none 0 0, .slice none 0 0, .slice none 0 0, .slice none 0 0]) rfl (p_buildS (vs := [(0, .int .i64 (3)), (1, .int .i64 (nth v0.2.1 v1.toNat))]) (cs := #[.int .i64 (3), .int .i64 (nth v0.2.1 v1.toNat), .slice none 0 0, .slice none 0 0, .slice none 0 0, .slice none 0 0]) ty260 pl260 rfl (by kernel_rfl)) (w_p rfl (aE rfl) (w_p (v := .agg #[.int .i64 (3), .int .i64 (nth v0.2.1 ((v1 + 1).toNat)), .slice none 0 0, .slice none 0 0, .slice none 0 0, .slice none 0 0]) rfl (p_buildS (vs := [(0, .int .i64 (3)), (1, .int .i64 (nth v0.2.1 ((v1 + 1).toNat)))]) (cs := #[.int .i64 (3), .int .i64 (nth v0.2.1 ((v1 + 1).toNat)), .slice none 0 0, .slice none 0 0, .slice none 0 0, .slice none 0 0]) ty260 pl260 rfl (by kernel_rfl)) (bdo H fun r41 h42 H => (cK rfl (by decide) rfl cP rfl (cF (c_spec_l11Names v0.2.2.1 x_v0.2.2.1 h42) (fun _ => (bG bH)) rfl (aC (aM (aT aS)) aP)) ?_))))))
  rintro _ _ _ ⟨x43, rfl, rfl, rfl⟩
  refine ⟨(aN (by kernel_rfl) (bW rfl rfl (fun F => (bK ty72 rfl ((hs5t (hs5t hs4)).app F) rfl)) (bW rfl rfl (fun F => (bJ ty3 rfl ((hs5t (hs5t (hs5t hs2))).app F) rfl)) bV))), ?_⟩
  refine w_p (v := .agg #[.int .i64 (2), .int .i64 (0), .slice none 0 0, .slice none 0 0, .slice a38 ((((([] : List Int) ++ ((v0.2.1.take v1.toNat).drop 0)) ++ [v0.2.2.2]) ++ ((v0.2.1.take (v0.2.1.length : Int).toNat).drop (v1 + 2).toNat)).length) c39, .slice x43.1 r41.length x43.2]) rfl (p_buildS (vs := [(0, .int .i64 (2)), (3, .slice a38 ((((([] : List Int) ++ ((v0.2.1.take v1.toNat).drop 0)) ++ [v0.2.2.2]) ++ ((v0.2.1.take (v0.2.1.length : Int).toNat).drop (v1 + 2).toNat)).length) c39), (4, .slice x43.1 r41.length x43.2)]) (cs := #[.int .i64 (2), .int .i64 (0), .slice none 0 0, .slice none 0 0, .slice a38 ((((([] : List Int) ++ ((v0.2.1.take v1.toNat).drop 0)) ++ [v0.2.2.2]) ++ ((v0.2.1.take (v0.2.1.length : Int).toNat).drop (v1 + 2).toNat)).length) c39, .slice x43.1 r41.length x43.2]) ty260 pl260 rfl (by kernel_rfl)) (cK rfl (by decide) rfl cP rfl (n_litO (α := Step) (vs := [(0, .agg #[.int .i64 (1), .int .i64 (v0.2.2.2), .slice x25.1.1 r23.1.length x25.1.2, .slice x25.2.1 r23.2.length x25.2.2, .slice none 0 0, .slice none 0 0]), (1, .agg #[.int .i64 (2), .int .i64 (0), .slice none 0 0, .slice none 0 0, .slice a38 ((((([] : List Int) ++ ((v0.2.1.take v1.toNat).drop 0)) ++ [v0.2.2.2]) ++ ((v0.2.1.take (v0.2.1.length : Int).toNat).drop (v1 + 2).toNat)).length) c39, .slice x43.1 r41.length x43.2]), (2, .agg #[.int .i64 (3), .int .i64 (nth v0.2.1 v1.toNat), .slice none 0 0, .slice none 0 0, .slice none 0 0, .slice none 0 0]), (3, .agg #[.int .i64 (3), .int .i64 (nth v0.2.1 ((v1 + 1).toNat)), .slice none 0 0, .slice none 0 0, .slice none 0 0, .slice none 0 0])]) ([(1, v0.2.2.2, r23, ([]), ([])), (2, 0, (([]), ([])), (((([] : List Int) ++ ((v0.2.1.take v1.toNat).drop 0)) ++ [v0.2.2.2]) ++ ((v0.2.1.take (v0.2.1.length : Int).toNat).drop (v1 + 2).toNat)), r41), (3, (nth v0.2.1 v1.toNat), (([]), ([])), ([]), ([])), (3, (nth v0.2.1 ((v1 + 1).toNat)), (([]), ([])), ([]), ([]))] : List Step) [((1, v0.2.2.2, r23, ([]), ([])), ((), (), x25, (none, 0), (none, 0))), ((2, 0, (([]), ([])), (((([] : List Int) ++ ((v0.2.1.take v1.toNat).drop 0)) ++ [v0.2.2.2]) ++ ((v0.2.1.take (v0.2.1.length : Int).toNat).drop (v1 + 2).toNat)), r41), ((), (), ((none, 0), (none, 0)), (a38, c39), x43)), ((3, (nth v0.2.1 v1.toNat), (([]), ([])), ([]), ([])), ((), (), ((none, 0), (none, 0)), (none, 0), (none, 0))), ((3, (nth v0.2.1 ((v1 + 1).toNat)), (([]), ([])), ([]), ([])), ((), (), ((none, 0), (none, 0)), (none, 0), (none, 0)))] rfl rfl dM ty260 rfl (by decide) (by decide) (by kernel_rfl) (.cons (dl5t (dl5t dl5)) (.cons (dl5t (dl5t dl5)) (.cons dl2 (.cons dl1 (.cons dl2 (.cons dl1 (.cons (dl5t dl4) (.cons aA (.cons dl1 (.cons dl1 (.cons dl1 (.cons aA (.cons dl1 (.cons aA (.cons dl1 (.cons aA .nil))))))))))))))))) ?_)
  rintro _ _ _ ⟨a44, c45, rfl, rfl, rfl⟩
  refine ⟨(bW rfl rfl (fun F => (bJ ty35 rfl (hs2.app F) rfl)) (aN (by kernel_rfl) (aN (by kernel_rfl) bV))), ?_⟩
  refine w_p rfl (p_assign rfl) (cM (nT (Tr.freeze (.cons aA .nil) (bR ?_))))
  obtain rfl := si H
  exact back1 (a44, c45) rfl (ResV.tmp (v := .slice a44 (([(1, v0.2.2.2, r23, ([]), ([])), (2, 0, (([]), ([])), (((([] : List Int) ++ ((v0.2.1.take v1.toNat).drop 0)) ++ [v0.2.2.2]) ++ ((v0.2.1.take (v0.2.1.length : Int).toNat).drop (v1 + 2).toNat)), r41), (3, (nth v0.2.1 v1.toNat), (([]), ([])), ([]), ([])), (3, (nth v0.2.1 ((v1 + 1).toNat)), (([]), ([])), ([]), ([]))] : List Step).length) c45) rfl) rfl (cN aS cO) bL
noncomputable def p_spec_l22Do (v0 : World) (v1 : Event) : Option (World) := cond (decide (v1.1 = 1)) (bd (p_spec_NameOk v1.2.2.2.1) fun r10 => cond (r10) (bd (p_spec_l13Add v0.1 v1.2.2.2.1 v1.2.2.2.2) fun r13 => some (r13.1, v0.2)) (some v0)) (cond (decide (v1.1 = 2)) (bd (p_spec_l13Flush v0.1) fun r18 => bd (p_spec_l21Flush v0.2 v0.1) fun r22 => bd (p_spec_l22Steps v0 r22 v1.2.2.1 r18.1) fun r25 => some r25) (cond (decide (v1.1 = 3)) (bd (p_spec_l13Merge v0.1 v1.2.1) fun r29 => bd (p_spec_l21Merge v0.2 v1.2.1) fun r33 => bd (p_spec_l22Steps v0 r33 v1.2.2.1 r29.1) fun r36 => some r36) (cond (decide (v1.1 = 4)) (bd (p_spec_l22Fall v0) fun r40 => some r40) (some v0))))
theorem c_spec_l22Do {r : World} (v0 : World) (x_v0 : (((Option Addr × Nat) × (Option Addr × Nat)) × (Option Addr × Nat) × (Option Addr × Nat)) × ((Option Addr × Nat) × (Option Addr × Nat) × (Option Addr × Nat) × Unit)) (v1 : Event) (x_v1 : Unit × Unit × Unit × (Option Addr × Nat) × (Unit × Unit)) (H : p_spec_l22Do v0 v1 = some r) : Fn' prog 170 #[.agg #[.slice x_v0.1.1.1.1 v0.1.1.1.length x_v0.1.1.1.2, .slice x_v0.1.1.2.1 v0.1.1.2.length x_v0.1.1.2.2, .slice x_v0.1.2.1.1 v0.1.2.1.length x_v0.1.2.1.2, .slice x_v0.1.2.2.1 v0.1.2.2.length x_v0.1.2.2.2, .slice x_v0.2.1.1 v0.2.1.length x_v0.2.1.2, .slice x_v0.2.2.1.1 v0.2.2.1.length x_v0.2.2.1.2, .slice x_v0.2.2.2.1.1 v0.2.2.2.1.length x_v0.2.2.2.1.2, .int .i64 (v0.2.2.2.2)], .agg #[.int .i64 (v1.1), .int .i64 (v1.2.1), .int .i64 (v1.2.2.1), .slice x_v1.2.2.2.1.1 v1.2.2.2.1.length x_v1.2.2.2.1.2, .int .i64 (v1.2.2.2.2.1), .int .i64 (v1.2.2.2.2.2)]] [imm (.slice x_v0.1.1.1.1 v0.1.1.1.length x_v0.1.1.1.2) v0.1.1.1, imm (.slice x_v0.1.1.2.1 v0.1.1.2.length x_v0.1.1.2.2) v0.1.1.2, imm (.slice x_v0.1.2.1.1 v0.1.2.1.length x_v0.1.2.1.2) v0.1.2.1, imm (.slice x_v0.1.2.2.1 v0.1.2.2.length x_v0.1.2.2.2) v0.1.2.2, imm (.slice x_v0.2.1.1 v0.2.1.length x_v0.2.1.2) v0.2.1, imm (.slice x_v0.2.2.1.1 v0.2.2.1.length x_v0.2.2.1.2) v0.2.2.1, imm (.slice x_v0.2.2.2.1.1 v0.2.2.2.1.length x_v0.2.2.2.1.2) v0.2.2.2.1, imm (.slice x_v1.2.2.2.1.1 v1.2.2.2.1.length x_v1.2.2.2.1.2) v1.2.2.2.1] [] (ι := (((Option Addr × Nat) × (Option Addr × Nat)) × (Option Addr × Nat) × (Option Addr × Nat)) × ((Option Addr × Nat) × (Option Addr × Nat) × (Option Addr × Nat) × Unit)) (fun x => .agg #[.slice x.1.1.1.1 r.1.1.1.length x.1.1.1.2, .slice x.1.1.2.1 r.1.1.2.length x.1.1.2.2, .slice x.1.2.1.1 r.1.2.1.length x.1.2.1.2, .slice x.1.2.2.1 r.1.2.2.length x.1.2.2.2, .slice x.2.1.1 r.2.1.length x.2.1.2, .slice x.2.2.1.1 r.2.2.1.length x.2.2.1.2, .slice x.2.2.2.1.1 r.2.2.2.1.length x.2.2.2.1.2, .int .i64 (r.2.2.2.2)]) (fun x => [imm (.slice x.1.1.1.1 r.1.1.1.length x.1.1.1.2) r.1.1.1, imm (.slice x.1.1.2.1 r.1.1.2.length x.1.1.2.2) r.1.1.2, imm (.slice x.1.2.1.1 r.1.2.1.length x.1.2.1.2) r.1.2.1, imm (.slice x.1.2.2.1 r.1.2.2.length x.1.2.2.2) r.1.2.2, imm (.slice x.2.1.1 r.2.1.length x.2.1.2) r.2.1, imm (.slice x.2.2.1.1 r.2.2.1.length x.2.2.1.2) r.2.2.1, imm (.slice x.2.2.2.1.1 r.2.2.2.1.length x.2.2.2.1.2) r.2.2.2.1]) (fun _ => []) := by
 refine cof (args := [_, _]) func170 ntmps170 fun c => ?_
 unfold p_spec_l22Do at H
 refine bN aS fun X1 => (bN aS.s.s fun X2 => (bN aS.s.s.s.s fun X3 => (bN aS.s.s.s.s.s.s.s fun X4 => (bN aS.s.s.s.s.s.s.s.s.s.s fun X5 => (sr (f1 (cD (t := 121) rfl) fun g6 => (f1 (cD (t := 218) rfl) fun g7 => (f1 (cE ty121) fun g8 => (nl ?_)))))))))
 refine aD (sr (aG (cC fa218_0 rfl rfl) (aI (bJ ty3 rfl hs1 rfl) (nl (aR (sr (aG (cV rfl rfl) (aH rfl (nl (cH H rfl (fun h9 H => ?_) (fun h9 H => ?_)))))))))))
 ·refine sr (aG (cC fa218_3 rfl rfl) (aI (bJ ty105 rfl hs1 rfl) (bdo H fun r10 h11 H => (aI (bO (c_spec_NameOk v1.2.2.2.1 x_v1.2.2.2.1 h11) rfl (aC (aM aS.s.s.s.s.s.s.s.s.s.s.s.s) aP)) (nl (cH H rfl (fun h12 H => ?_) (fun h12 H => ?_)))))))
  ·refine sr (aG (cC fa121_0 rfl rfl) (aI (v := .agg #[.slice x_v0.1.1.1.1 v0.1.1.1.length x_v0.1.1.1.2, .slice x_v0.1.1.2.1 v0.1.1.2.length x_v0.1.1.2.2, .slice x_v0.1.2.1.1 v0.1.2.1.length x_v0.1.2.1.2, .slice x_v0.1.2.2.1 v0.1.2.2.length x_v0.1.2.2.2]) (q_ldbP [.slice x_v0.1.1.1.1 v0.1.1.1.length x_v0.1.1.1.2, .slice x_v0.1.1.2.1 v0.1.1.2.length x_v0.1.1.2.2, .slice x_v0.1.2.1.1 v0.1.2.1.length x_v0.1.2.1.2, .slice x_v0.1.2.2.1 v0.1.2.2.length x_v0.1.2.2.2] ty42 rfl hs2 rfl rfl) (aG (cC fa218_3 rfl rfl) (aI (bJ ty105 rfl hs1 rfl) (aG (cC fa218_4 rfl rfl) (aI (v := .agg #[.int .i64 (v1.2.2.2.2.1), .int .i64 (v1.2.2.2.2.2)]) (q_ldbP [.int .i64 (v1.2.2.2.2.1), .int .i64 (v1.2.2.2.2.2)] ty57 rfl hs1 rfl rfl) (bdo H fun r13 h14 H => (f1 (e_call (c_spec_l13Add v0.1 x_v0.1 v1.2.2.2.1 x_v1.2.2.2.1 v1.2.2.2.2 h14) rfl (cN (aT aS.s.s.s.s) (cN (aT aS.s.s.s) (cN (aT aS.s.s) (cN aS.s.s.s.s.s.s.s.s (cN aS.s.s.s.s.s.s.s.s.s.s.s.s cO))))) bL) fun x15 => (aF rfl ?_)))))))))
   refine aG (dA rfl rfl) (aG (dA rfl rfl) (f1 (cE ty42) fun g16 => (stb (cs' := [.slice x15.1.1.1.1 r13.1.1.1.length x15.1.1.1.2, .slice x15.1.1.2.1 r13.1.1.2.length x15.1.1.2.2, .slice x15.1.2.1.1 r13.1.2.1.length x15.1.2.1.2, .slice x15.1.2.2.1 r13.1.2.2.length x15.1.2.2.2]) ty42 cZ (aH rfl (nl (aQ (aI (bK ty42 rfl aB rfl) (aG (cC fa121_0 rfl rfl) (stb (cs' := [.slice x15.1.1.1.1 r13.1.1.1.length x15.1.1.1.2, .slice x15.1.1.2.1 r13.1.1.2.length x15.1.1.2.2, .slice x15.1.2.1.1 r13.1.2.1.length x15.1.2.1.2, .slice x15.1.2.2.1 r13.1.2.2.length x15.1.2.2.2, .slice x_v0.2.1.1 v0.2.1.length x_v0.2.1.2, .slice x_v0.2.2.1.1 v0.2.2.1.length x_v0.2.2.1.2, .slice x_v0.2.2.2.1.1 v0.2.2.2.1.length x_v0.2.2.2.1.2, .int .i64 (v0.2.2.2.2)]) ty42 up3 (aJ ?_))))))))))
   refine nB (nT (sr (aI (bK ty121 rfl hs3 rfl) (stb (cs' := [.slice x15.1.1.1.1 r13.1.1.1.length x15.1.1.1.2, .slice x15.1.1.2.1 r13.1.1.2.length x15.1.1.2.2, .slice x15.1.2.1.1 r13.1.2.1.length x15.1.2.1.2, .slice x15.1.2.2.1 r13.1.2.2.length x15.1.2.2.2, .slice x_v0.2.1.1 v0.2.1.length x_v0.2.1.2, .slice x_v0.2.2.1.1 v0.2.2.1.length x_v0.2.2.1.2, .slice x_v0.2.2.2.1.1 v0.2.2.2.1.length x_v0.2.2.2.1.2, .int .i64 (v0.2.2.2.2)]) ty121 up1 (nl (bR ?_))))))
   obtain rfl := si H
   exact back1 (x15.1, (x_v0.2.1, x_v0.2.2.1, x_v0.2.2.2.1, ())) rfl (ResV.agg ty121 rfl hs1 rfl) rfl (cN aS (cN aS.s (cN aS.s.s (cN aS.s.s.s (cN (aT aS.s.s.s.s.s) (cN aS.s.s.s.s.s.s.s.s.s.s.s.s.s.s (cN (aT aS.s.s.s.s) cO))))))) bL
  ·refine bI (nB (nT (sr (aI (bK ty121 rfl hs2 rfl) (stb (cs' := [.slice x_v0.1.1.1.1 v0.1.1.1.length x_v0.1.1.1.2, .slice x_v0.1.1.2.1 v0.1.1.2.length x_v0.1.1.2.2, .slice x_v0.1.2.1.1 v0.1.2.1.length x_v0.1.2.1.2, .slice x_v0.1.2.2.1 v0.1.2.2.length x_v0.1.2.2.2, .slice x_v0.2.1.1 v0.2.1.length x_v0.2.1.2, .slice x_v0.2.2.1.1 v0.2.2.1.length x_v0.2.2.1.2, .slice x_v0.2.2.2.1.1 v0.2.2.2.1.length x_v0.2.2.2.1.2, .int .i64 (v0.2.2.2.2)]) ty121 cZ (nl (bR ?_)))))))
   obtain rfl := si H
   exact back1 (x_v0.1, (x_v0.2.1, x_v0.2.2.1, x_v0.2.2.2.1, ())) rfl (ResV.agg ty121 rfl aB rfl) rfl (cN (aT aS.s.s.s.s) (cN (aT aS.s.s.s) (cN (aT aS.s.s) (cN aS.s.s.s.s.s.s.s.s (cN (aT aS.s) (cN aS.s.s.s.s.s.s.s.s.s.s (cN (aT aS) cO))))))) bL
 ·refine sr (aG (cV rfl rfl) (aH rfl (nl (cH H rfl (fun h17 H => ?_) (fun h17 H => ?_)))))
  ·refine sr (aG (cC fa121_0 rfl rfl) (aI (v := .agg #[.slice x_v0.1.1.1.1 v0.1.1.1.length x_v0.1.1.1.2, .slice x_v0.1.1.2.1 v0.1.1.2.length x_v0.1.1.2.2, .slice x_v0.1.2.1.1 v0.1.2.1.length x_v0.1.2.1.2, .slice x_v0.1.2.2.1 v0.1.2.2.length x_v0.1.2.2.2]) (q_ldbP [.slice x_v0.1.1.1.1 v0.1.1.1.length x_v0.1.1.1.2, .slice x_v0.1.1.2.1 v0.1.1.2.length x_v0.1.1.2.2, .slice x_v0.1.2.1.1 v0.1.2.1.length x_v0.1.2.1.2, .slice x_v0.1.2.2.1 v0.1.2.2.length x_v0.1.2.2.2] ty42 rfl hs2 rfl rfl) (bdo H fun r18 h19 H => (f1 (e_call (c_spec_l13Flush v0.1 x_v0.1 h19) rfl (cN (aT aS.s.s.s.s) (cN (aT aS.s.s.s) (cN (aT aS.s.s) (cN aS.s.s.s.s.s.s.s.s cO)))) bL) fun x20 => (aF rfl (aG (dA rfl rfl) (aG (dA rfl rfl) (f1 (cE ty42) fun g21 => (stb (cs' := [.slice x20.1.1.1.1 r18.1.1.1.length x20.1.1.1.2, .slice x20.1.1.2.1 r18.1.1.2.length x20.1.1.2.2, .slice x20.1.2.1.1 r18.1.2.1.length x20.1.2.1.2, .slice x20.1.2.2.1 r18.1.2.2.length x20.1.2.2.2]) ty42 cZ ?_)))))))))
   refine aH rfl (nl (aD (dH [(7, .pointer (some ⟨g21, 0, none⟩)), (4, .pointer (some ⟨g8, 0, none⟩)), (3, .pointer (some ⟨g7, 0, none⟩)), (2, .pointer (some ⟨g6, 0, none⟩))] 1 [0, 1, 2, 3, 4, 6, 7, 8, 5, 9, 10] [5, 9, 10] [] mixed (by kernel_rfl) (by decide) dJ ⟨rfl, rfl, rfl, rfl, trivial⟩ rfl okNil ?_)))
   refine w_o rfl (fun F => (bK ty121 rfl (hs3.app F) rfl)) (w_p rfl (cC fa121_1 rfl rfl) ?_)
   refine w_o (v := .agg #[.slice x_v0.2.1.1 v0.2.1.length x_v0.2.1.2, .slice x_v0.2.2.1.1 v0.2.2.1.length x_v0.2.2.1.2, .slice x_v0.2.2.2.1.1 v0.2.2.2.1.length x_v0.2.2.2.1.2, .int .i64 (v0.2.2.2.2)]) rfl (fun F => (q_ldbP [.slice x_v0.2.1.1 v0.2.1.length x_v0.2.1.2, .slice x_v0.2.2.1.1 v0.2.2.1.length x_v0.2.2.1.2, .slice x_v0.2.2.2.1.1 v0.2.2.2.1.length x_v0.2.2.2.1.2, .int .i64 (v0.2.2.2.2)] ty76 rfl (hs3.app F) rfl rfl)) (w_p rfl (cC fa121_0 rfl rfl) ?_)
   refine w_o (v := .agg #[.slice x_v0.1.1.1.1 v0.1.1.1.length x_v0.1.1.1.2, .slice x_v0.1.1.2.1 v0.1.1.2.length x_v0.1.1.2.2, .slice x_v0.1.2.1.1 v0.1.2.1.length x_v0.1.2.1.2, .slice x_v0.1.2.2.1 v0.1.2.2.length x_v0.1.2.2.2]) rfl (fun F => (q_ldbP [.slice x_v0.1.1.1.1 v0.1.1.1.length x_v0.1.1.1.2, .slice x_v0.1.1.2.1 v0.1.1.2.length x_v0.1.1.2.2, .slice x_v0.1.2.1.1 v0.1.2.1.length x_v0.1.2.1.2, .slice x_v0.1.2.2.1 v0.1.2.2.length x_v0.1.2.2.2] ty42 rfl (hs3.app F) rfl rfl)) (w_p rfl (cC fa218_2 rfl rfl) ?_)
   refine w_o rfl (fun F => (bJ ty3 rfl (hs2.app F) rfl)) ?_
   refine w_o rfl (fun F => (bK ty42 rfl (aB.app F) rfl)) (bdo H fun r22 h23 H => (cK rfl (by decide) rfl cP rfl (n_call (c_spec_l21Flush v0.2 (x_v0.2.1, x_v0.2.2.1, x_v0.2.2.2.1, ()) v0.1 x_v0.1 h23) rfl (cN (aT aS.s.s.s.s.s) (cN aS.s.s.s.s.s.s.s.s.s.s.s.s.s.s (cN (aT aS.s.s.s.s) (cN (aT aS.s.s.s.s.s.s.s.s) (cN (aT aS.s.s.s.s.s.s.s) (cN (aT aS.s.s.s.s.s.s) (cN aS.s.s.s.s.s.s.s.s.s.s.s.s cO))))))) bL) ?_))
   rintro _ _ _ ⟨x24, rfl, rfl, rfl⟩
   refine ⟨(bW rfl rfl (fun F => (bK ty42 rfl (aB.app F) rfl)) (bW rfl rfl (fun F => (bJ ty3 rfl (hs2.app F) rfl)) (aN (by kernel_rfl) (aN (by kernel_rfl) (bW rfl rfl (fun F => (bK ty121 rfl (hs3.app F) rfl)) bV))))), ?_⟩
   refine bdo H fun r25 h26 H => (cK rfl (by decide) rfl cP rfl (n_call (c_spec_l22Steps v0 (x_v0.1, (x_v0.2.1, x_v0.2.2.1, x_v0.2.2.2.1, ())) r22 x24 v1.2.2.1 r18.1 x20.1 h26) rfl (cN (aT aS.s.s.s.s.s.s.s.s.s) (cN (aT aS.s.s.s.s.s.s.s.s) (cN (aT aS.s.s.s.s.s.s.s) (cN aS.s.s.s.s.s.s.s.s.s.s.s.s.s (cN (aT aS.s.s.s.s.s.s) (cN aS.s.s.s.s.s.s.s.s.s.s.s.s.s.s.s (cN (aT aS.s.s.s.s.s) (cN aS (cN aS.s (cN aS.s.s (cN aS.s.s.s (cN aS.s.s.s.s cO)))))))))))) bL) ?_)
   rintro _ _ _ ⟨x27, rfl, rfl, rfl⟩
   refine ⟨(aN (by kernel_rfl) (aN (by kernel_rfl) (bW rfl rfl (fun F => (q_ldbP [.slice x_v0.1.1.1.1 v0.1.1.1.length x_v0.1.1.1.2, .slice x_v0.1.1.2.1 v0.1.1.2.length x_v0.1.1.2.2, .slice x_v0.1.2.1.1 v0.1.2.1.length x_v0.1.2.1.2, .slice x_v0.1.2.2.1 v0.1.2.2.length x_v0.1.2.2.2] ty42 rfl (hs3.app F) rfl rfl)) (bW rfl rfl (fun F => (q_ldbP [.slice x_v0.2.1.1 v0.2.1.length x_v0.2.1.2, .slice x_v0.2.2.1.1 v0.2.2.1.length x_v0.2.2.1.2, .slice x_v0.2.2.2.1.1 v0.2.2.2.1.length x_v0.2.2.2.1.2, .int .i64 (v0.2.2.2.2)] ty76 rfl (hs3.app F) rfl rfl)) (aN (by kernel_rfl) bV))))), ?_⟩
   refine cL rfl rfl cP rfl (n_store (cs' := [.slice x27.1.1.1.1 r25.1.1.1.length x27.1.1.1.2, .slice x27.1.1.2.1 r25.1.1.2.length x27.1.1.2.2, .slice x27.1.2.1.1 r25.1.2.1.length x27.1.2.1.2, .slice x27.1.2.2.1 r25.1.2.2.length x27.1.2.2.2, .slice x27.2.1.1 r25.2.1.length x27.2.1.2, .slice x27.2.2.1.1 r25.2.2.1.length x27.2.2.1.2, .slice x27.2.2.2.1.1 r25.2.2.2.1.length x27.2.2.2.1.2, .int .i64 (r25.2.2.2.2)]) ty121 rfl rfl up1 rfl (one_of rfl) (Nat.le_of_ble_eq_true rfl) rfl) ?_
   rintro _ _ _ ⟨rfl, rfl, rfl⟩
   refine ⟨(aN (by kernel_rfl) (aN (by kernel_rfl) (aN (by kernel_rfl) (aN (by kernel_rfl) (aN (by kernel_rfl) bV))))), ?_⟩
   refine cM (nT (bR (rB (rT (?_)))))
   obtain rfl := si H
   exact back1 (x27.1, (x27.2.1, x27.2.2.1, x27.2.2.2.1, ())) rfl (ResV.agg ty121 rfl hs1 rfl) rfl (cN aS (cN aS.s (cN aS.s.s (cN aS.s.s.s (cN aS.s.s.s.s (cN aS.s.s.s.s.s (cN aS.s.s.s.s.s.s cO))))))) bL
  ·refine sr (aG (cV rfl rfl) (aH rfl (nl (cH H rfl (fun h28 H => ?_) (fun h28 H => ?_)))))
   ·refine sr (aG (cC fa121_0 rfl rfl) (aI (v := .agg #[.slice x_v0.1.1.1.1 v0.1.1.1.length x_v0.1.1.1.2, .slice x_v0.1.1.2.1 v0.1.1.2.length x_v0.1.1.2.2, .slice x_v0.1.2.1.1 v0.1.2.1.length x_v0.1.2.1.2, .slice x_v0.1.2.2.1 v0.1.2.2.length x_v0.1.2.2.2]) (q_ldbP [.slice x_v0.1.1.1.1 v0.1.1.1.length x_v0.1.1.1.2, .slice x_v0.1.1.2.1 v0.1.1.2.length x_v0.1.1.2.2, .slice x_v0.1.2.1.1 v0.1.2.1.length x_v0.1.2.1.2, .slice x_v0.1.2.2.1 v0.1.2.2.length x_v0.1.2.2.2] ty42 rfl hs2 rfl rfl) (aG (cC fa218_1 rfl rfl) (aI (bJ ty3 rfl hs1 rfl) (bdo H fun r29 h30 H => (f1 (e_call (c_spec_l13Merge v0.1 x_v0.1 v1.2.1 h30) rfl (cN (aT aS.s.s.s.s) (cN (aT aS.s.s.s) (cN (aT aS.s.s) (cN aS.s.s.s.s.s.s.s.s cO)))) bL) fun x31 => (aF rfl (aG (dA rfl rfl) (aG (dA rfl rfl) ?_)))))))))
    refine f1 (cE ty42) fun g32 => (stb (cs' := [.slice x31.1.1.1.1 r29.1.1.1.length x31.1.1.1.2, .slice x31.1.1.2.1 r29.1.1.2.length x31.1.1.2.2, .slice x31.1.2.1.1 r29.1.2.1.length x31.1.2.1.2, .slice x31.1.2.2.1 r29.1.2.2.length x31.1.2.2.2]) ty42 cZ (aH rfl (nl (aD (dH [(9, .pointer (some ⟨g32, 0, none⟩)), (4, .pointer (some ⟨g8, 0, none⟩)), (3, .pointer (some ⟨g7, 0, none⟩)), (2, .pointer (some ⟨g6, 0, none⟩))] 1 [0, 1, 2, 3, 4, 6, 7, 8, 5, 9, 10] [5, 9, 10] [] mixed (by kernel_rfl) (by decide) dJ ⟨rfl, rfl, rfl, rfl, trivial⟩ rfl okNil ?_)))))
    refine w_o rfl (fun F => (bK ty121 rfl (hs3.app F) rfl)) (w_p rfl (cC fa121_1 rfl rfl) ?_)
    refine w_o (v := .agg #[.slice x_v0.2.1.1 v0.2.1.length x_v0.2.1.2, .slice x_v0.2.2.1.1 v0.2.2.1.length x_v0.2.2.1.2, .slice x_v0.2.2.2.1.1 v0.2.2.2.1.length x_v0.2.2.2.1.2, .int .i64 (v0.2.2.2.2)]) rfl (fun F => (q_ldbP [.slice x_v0.2.1.1 v0.2.1.length x_v0.2.1.2, .slice x_v0.2.2.1.1 v0.2.2.1.length x_v0.2.2.1.2, .slice x_v0.2.2.2.1.1 v0.2.2.2.1.length x_v0.2.2.2.1.2, .int .i64 (v0.2.2.2.2)] ty76 rfl (hs3.app F) rfl rfl)) (w_p rfl (cC fa218_1 rfl rfl) ?_)
    refine w_o rfl (fun F => (bJ ty3 rfl (hs2.app F) rfl)) (w_p rfl (cC fa218_2 rfl rfl) ?_)
    refine w_o rfl (fun F => (bJ ty3 rfl (hs2.app F) rfl)) ?_
    refine w_o rfl (fun F => (bK ty42 rfl (aB.app F) rfl)) (bdo H fun r33 h34 H => (cK rfl (by decide) rfl cP rfl (n_call (c_spec_l21Merge v0.2 (x_v0.2.1, x_v0.2.2.1, x_v0.2.2.2.1, ()) v1.2.1 h34) rfl (cN (aT aS.s.s.s.s.s) (cN aS.s.s.s.s.s.s.s.s.s.s.s.s.s.s (cN (aT aS.s.s.s.s) cO))) bL) ?_))
    rintro _ _ _ ⟨x35, rfl, rfl, rfl⟩
    refine ⟨(bW rfl rfl (fun F => (bK ty42 rfl (aB.app F) rfl)) (bW rfl rfl (fun F => (bJ ty3 rfl (hs2.app F) rfl)) (aN (by kernel_rfl) (aN (by kernel_rfl) (bW rfl rfl (fun F => (bK ty121 rfl (hs3.app F) rfl)) bV))))), ?_⟩
    refine bdo H fun r36 h37 H => (cK rfl (by decide) rfl cP rfl (n_call (c_spec_l22Steps v0 (x_v0.1, (x_v0.2.1, x_v0.2.2.1, x_v0.2.2.2.1, ())) r33 x35 v1.2.2.1 r29.1 x31.1 h37) rfl (cN (aT aS.s.s.s.s.s.s.s.s.s) (cN (aT aS.s.s.s.s.s.s.s.s) (cN (aT aS.s.s.s.s.s.s.s) (cN aS.s.s.s.s.s.s.s.s.s.s.s.s.s (cN (aT aS.s.s.s.s.s.s) (cN aS.s.s.s.s.s.s.s.s.s.s.s.s.s.s.s (cN (aT aS.s.s.s.s.s) (cN aS (cN aS.s (cN aS.s.s (cN aS.s.s.s (cN aS.s.s.s.s cO)))))))))))) bL) ?_)
    rintro _ _ _ ⟨x38, rfl, rfl, rfl⟩
    refine ⟨(aN (by kernel_rfl) (aN (by kernel_rfl) (bW rfl rfl (fun F => (bJ ty3 rfl (hs2.app F) rfl)) (bW rfl rfl (fun F => (q_ldbP [.slice x_v0.2.1.1 v0.2.1.length x_v0.2.1.2, .slice x_v0.2.2.1.1 v0.2.2.1.length x_v0.2.2.1.2, .slice x_v0.2.2.2.1.1 v0.2.2.2.1.length x_v0.2.2.2.1.2, .int .i64 (v0.2.2.2.2)] ty76 rfl (hs3.app F) rfl rfl)) (aN (by kernel_rfl) bV))))), ?_⟩
    refine cL rfl rfl cP rfl (n_store (cs' := [.slice x38.1.1.1.1 r36.1.1.1.length x38.1.1.1.2, .slice x38.1.1.2.1 r36.1.1.2.length x38.1.1.2.2, .slice x38.1.2.1.1 r36.1.2.1.length x38.1.2.1.2, .slice x38.1.2.2.1 r36.1.2.2.length x38.1.2.2.2, .slice x38.2.1.1 r36.2.1.length x38.2.1.2, .slice x38.2.2.1.1 r36.2.2.1.length x38.2.2.1.2, .slice x38.2.2.2.1.1 r36.2.2.2.1.length x38.2.2.2.1.2, .int .i64 (r36.2.2.2.2)]) ty121 rfl rfl up1 rfl (one_of rfl) (Nat.le_of_ble_eq_true rfl) rfl) ?_
    rintro _ _ _ ⟨rfl, rfl, rfl⟩
    refine ⟨(aN (by kernel_rfl) (aN (by kernel_rfl) (aN (by kernel_rfl) (aN (by kernel_rfl) (aN (by kernel_rfl) bV))))), ?_⟩
    refine cM (nT (bR (rB (rT (?_)))))
    obtain rfl := si H
    exact back1 (x38.1, (x38.2.1, x38.2.2.1, x38.2.2.2.1, ())) rfl (ResV.agg ty121 rfl hs1 rfl) rfl (cN aS (cN aS.s (cN aS.s.s (cN aS.s.s.s (cN aS.s.s.s.s (cN aS.s.s.s.s.s (cN aS.s.s.s.s.s.s cO))))))) bL
   ·refine sr (aG (cV rfl rfl) (aH rfl (nl (cH H rfl (fun h39 H => ?_) (fun h39 H => ?_)))))
    ·refine sr (aI (bK ty121 rfl hs2 rfl) (bdo H fun r40 h41 H => (f1 (e_call (c_spec_l22Fall v0 (x_v0.1, (x_v0.2.1, x_v0.2.2.1, x_v0.2.2.2.1, ())) h41) rfl (cN (aT aS.s.s.s.s) (cN (aT aS.s.s.s) (cN (aT aS.s.s) (cN aS.s.s.s.s.s.s.s.s (cN (aT aS.s) (cN aS.s.s.s.s.s.s.s.s.s.s (cN (aT aS) cO))))))) bL) fun x42 => (stb (cs' := [.slice x42.1.1.1.1 r40.1.1.1.length x42.1.1.1.2, .slice x42.1.1.2.1 r40.1.1.2.length x42.1.1.2.2, .slice x42.1.2.1.1 r40.1.2.1.length x42.1.2.1.2, .slice x42.1.2.2.1 r40.1.2.2.length x42.1.2.2.2, .slice x42.2.1.1 r40.2.1.length x42.2.1.2, .slice x42.2.2.1.1 r40.2.2.1.length x42.2.2.1.2, .slice x42.2.2.2.1.1 r40.2.2.2.1.length x42.2.2.2.1.2, .int .i64 (r40.2.2.2.2)]) ty121 cZ (nl (bR (rB (rT (?_)))))))))
     obtain rfl := si H
     exact back1 (x42.1, (x42.2.1, x42.2.2.1, x42.2.2.2.1, ())) rfl (ResV.agg ty121 rfl aB rfl) rfl (cN aS (cN aS.s (cN aS.s.s (cN aS.s.s.s (cN aS.s.s.s.s (cN aS.s.s.s.s.s (cN aS.s.s.s.s.s.s cO))))))) bL
    ·refine bI (nB (nT (sr (aI (bK ty121 rfl hs2 rfl) (stb (cs' := [.slice x_v0.1.1.1.1 v0.1.1.1.length x_v0.1.1.1.2, .slice x_v0.1.1.2.1 v0.1.1.2.length x_v0.1.1.2.2, .slice x_v0.1.2.1.1 v0.1.2.1.length x_v0.1.2.1.2, .slice x_v0.1.2.2.1 v0.1.2.2.length x_v0.1.2.2.2, .slice x_v0.2.1.1 v0.2.1.length x_v0.2.1.2, .slice x_v0.2.2.1.1 v0.2.2.1.length x_v0.2.2.1.2, .slice x_v0.2.2.2.1.1 v0.2.2.2.1.length x_v0.2.2.2.1.2, .int .i64 (v0.2.2.2.2)]) ty121 cZ (nl (bR ?_)))))))
     obtain rfl := si H
     exact back1 (x_v0.1, (x_v0.2.1, x_v0.2.2.1, x_v0.2.2.2.1, ())) rfl (ResV.agg ty121 rfl aB rfl) rfl (cN (aT aS.s.s.s.s) (cN (aT aS.s.s.s) (cN (aT aS.s.s) (cN aS.s.s.s.s.s.s.s.s (cN (aT aS.s) (cN aS.s.s.s.s.s.s.s.s.s.s (cN (aT aS) cO))))))) bL
noncomputable def p_spec_l22Copy (v0 : World) : Option (World) := bd (p_spec_l13Copy v0.1) fun r8 => bd (p_spec_l21Copy v0.2) fun r11 => some (r8, r11)
theorem c_spec_l22Copy {r : World} (v0 : World) (x_v0 : (((Option Addr × Nat) × (Option Addr × Nat)) × (Option Addr × Nat) × (Option Addr × Nat)) × ((Option Addr × Nat) × (Option Addr × Nat) × (Option Addr × Nat) × Unit)) (H : p_spec_l22Copy v0 = some r) : Fn' prog 171 #[.agg #[.slice x_v0.1.1.1.1 v0.1.1.1.length x_v0.1.1.1.2, .slice x_v0.1.1.2.1 v0.1.1.2.length x_v0.1.1.2.2, .slice x_v0.1.2.1.1 v0.1.2.1.length x_v0.1.2.1.2, .slice x_v0.1.2.2.1 v0.1.2.2.length x_v0.1.2.2.2, .slice x_v0.2.1.1 v0.2.1.length x_v0.2.1.2, .slice x_v0.2.2.1.1 v0.2.2.1.length x_v0.2.2.1.2, .slice x_v0.2.2.2.1.1 v0.2.2.2.1.length x_v0.2.2.2.1.2, .int .i64 (v0.2.2.2.2)]] [imm (.slice x_v0.1.1.1.1 v0.1.1.1.length x_v0.1.1.1.2) v0.1.1.1, imm (.slice x_v0.1.1.2.1 v0.1.1.2.length x_v0.1.1.2.2) v0.1.1.2, imm (.slice x_v0.1.2.1.1 v0.1.2.1.length x_v0.1.2.1.2) v0.1.2.1, imm (.slice x_v0.1.2.2.1 v0.1.2.2.length x_v0.1.2.2.2) v0.1.2.2, imm (.slice x_v0.2.1.1 v0.2.1.length x_v0.2.1.2) v0.2.1, imm (.slice x_v0.2.2.1.1 v0.2.2.1.length x_v0.2.2.1.2) v0.2.2.1, imm (.slice x_v0.2.2.2.1.1 v0.2.2.2.1.length x_v0.2.2.2.1.2) v0.2.2.2.1] [] (ι := (((Option Addr × Nat) × (Option Addr × Nat)) × (Option Addr × Nat) × (Option Addr × Nat)) × ((Option Addr × Nat) × (Option Addr × Nat) × (Option Addr × Nat) × Unit)) (fun x => .agg #[.slice x.1.1.1.1 r.1.1.1.length x.1.1.1.2, .slice x.1.1.2.1 r.1.1.2.length x.1.1.2.2, .slice x.1.2.1.1 r.1.2.1.length x.1.2.1.2, .slice x.1.2.2.1 r.1.2.2.length x.1.2.2.2, .slice x.2.1.1 r.2.1.length x.2.1.2, .slice x.2.2.1.1 r.2.2.1.length x.2.2.1.2, .slice x.2.2.2.1.1 r.2.2.2.1.length x.2.2.2.1.2, .int .i64 (r.2.2.2.2)]) (fun _ => []) (fun x => [tree (.slice x.1.1.1.1 r.1.1.1.length x.1.1.1.2) r.1.1.1, tree (.slice x.1.1.2.1 r.1.1.2.length x.1.1.2.2) r.1.1.2, tree (.slice x.1.2.1.1 r.1.2.1.length x.1.2.1.2) r.1.2.1, tree (.slice x.1.2.2.1 r.1.2.2.length x.1.2.2.2) r.1.2.2, tree (.slice x.2.1.1 r.2.1.length x.2.1.2) r.2.1, tree (.slice x.2.2.1.1 r.2.2.1.length x.2.2.1.2) r.2.2.1, tree (.slice x.2.2.2.1.1 r.2.2.2.1.length x.2.2.2.1.2) r.2.2.2.1]) := by
 refine cof (args := [_]) func171 ntmps171 fun c => ?_
 unfold p_spec_l22Copy at H
 refine bN aS fun X1 => (bN aS.s.s fun X2 => (bN aS.s.s.s.s fun X3 => (bN aS.s.s.s.s.s.s.s fun X4 => (bN aS.s.s.s.s.s.s.s.s.s.s fun X5 => (sr (f1 (cD (t := 121) rfl) fun g6 => (f1 (cE ty121) fun g7 => (nl (aD ?_)))))))))
 refine dH [(2, .pointer (some ⟨g7, 0, none⟩)), (1, .pointer (some ⟨g6, 0, none⟩))] 1 [0, 1, 3, 4, 2, 5, 6, 7] [2, 5, 7] [] mixed (by kernel_rfl) (by decide) dJ ⟨rfl, rfl, trivial⟩ rfl okNil (w_p rfl (cC fa121_0 rfl rfl) ?_)
 refine w_o (v := .agg #[.slice x_v0.1.1.1.1 v0.1.1.1.length x_v0.1.1.1.2, .slice x_v0.1.1.2.1 v0.1.1.2.length x_v0.1.1.2.2, .slice x_v0.1.2.1.1 v0.1.2.1.length x_v0.1.2.1.2, .slice x_v0.1.2.2.1 v0.1.2.2.length x_v0.1.2.2.2]) rfl (fun F => (q_ldbP [.slice x_v0.1.1.1.1 v0.1.1.1.length x_v0.1.1.1.2, .slice x_v0.1.1.2.1 v0.1.1.2.length x_v0.1.1.2.2, .slice x_v0.1.2.1.1 v0.1.2.1.length x_v0.1.2.1.2, .slice x_v0.1.2.2.1 v0.1.2.2.length x_v0.1.2.2.2] ty42 rfl (hs1.app F) rfl rfl)) (w_p rfl (cC fa121_1 rfl rfl) ?_)
 refine w_o (v := .agg #[.slice x_v0.2.1.1 v0.2.1.length x_v0.2.1.2, .slice x_v0.2.2.1.1 v0.2.2.1.length x_v0.2.2.1.2, .slice x_v0.2.2.2.1.1 v0.2.2.2.1.length x_v0.2.2.2.1.2, .int .i64 (v0.2.2.2.2)]) rfl (fun F => (q_ldbP [.slice x_v0.2.1.1 v0.2.1.length x_v0.2.1.2, .slice x_v0.2.2.1.1 v0.2.2.1.length x_v0.2.2.1.2, .slice x_v0.2.2.2.1.1 v0.2.2.2.1.length x_v0.2.2.2.1.2, .int .i64 (v0.2.2.2.2)] ty76 rfl (hs1.app F) rfl rfl)) (bdo H fun r8 h9 H => (cK rfl (by decide) rfl cP rfl (cF (c_spec_l13Copy v0.1 x_v0.1 h9) (fun _ => (bG (bG (bG (bG bH))))) rfl (aC (aM (aT aS.s.s.s.s)) (aC (aM (aT aS.s.s.s)) (aC (aM (aT aS.s.s)) (aC (aM aS.s.s.s.s.s.s.s.s) aP))))) ?_))
 rintro _ _ _ ⟨x10, rfl, rfl, rfl⟩
 refine ⟨(bW rfl rfl (fun F => (q_ldbP [.slice x_v0.2.1.1 v0.2.1.length x_v0.2.1.2, .slice x_v0.2.2.1.1 v0.2.2.1.length x_v0.2.2.1.2, .slice x_v0.2.2.2.1.1 v0.2.2.2.1.length x_v0.2.2.2.1.2, .int .i64 (v0.2.2.2.2)] ty76 rfl (hs5.app F) rfl rfl)) (aN (by kernel_rfl) bV)), ?_⟩
 refine bdo H fun r11 h12 H => (cK rfl (by decide) rfl cP rfl (cF (c_spec_l21Copy v0.2 (x_v0.2.1, x_v0.2.2.1, x_v0.2.2.2.1, ()) h12) (fun _ => (bG (bG (bG bH)))) rfl (aC (aM (aT aS.s)) (aC (aM aS.s.s.s.s.s.s.s.s.s.s) (aC (aM (aT aS)) aP)))) ?_)
 rintro _ _ _ ⟨x13, rfl, rfl, rfl⟩
 refine ⟨(aN (by kernel_rfl) (bW rfl rfl (fun F => (q_ldbP [.slice x_v0.1.1.1.1 v0.1.1.1.length x_v0.1.1.1.2, .slice x_v0.1.1.2.1 v0.1.1.2.length x_v0.1.1.2.2, .slice x_v0.1.2.1.1 v0.1.2.1.length x_v0.1.2.1.2, .slice x_v0.1.2.2.1 v0.1.2.2.length x_v0.1.2.2.2] ty42 rfl ((hs5t hs3).app F) rfl rfl)) bV)), ?_⟩
 refine w_p (v := .agg #[.slice x10.1.1.1 r8.1.1.length x10.1.1.2, .slice x10.1.2.1 r8.1.2.length x10.1.2.2, .slice x10.2.1.1 r8.2.1.length x10.2.1.2, .slice x10.2.2.1 r8.2.2.length x10.2.2.2, .slice x13.1.1 r11.1.length x13.1.2, .slice x13.2.1.1 r11.2.1.length x13.2.1.2, .slice x13.2.2.1.1 r11.2.2.1.length x13.2.2.1.2, .int .i64 (r11.2.2.2)]) rfl (p_buildS (vs := [(0, .agg #[.slice x10.1.1.1 r8.1.1.length x10.1.1.2, .slice x10.1.2.1 r8.1.2.length x10.1.2.2, .slice x10.2.1.1 r8.2.1.length x10.2.1.2, .slice x10.2.2.1 r8.2.2.length x10.2.2.2]), (1, .agg #[.slice x13.1.1 r11.1.length x13.1.2, .slice x13.2.1.1 r11.2.1.length x13.2.1.2, .slice x13.2.2.1.1 r11.2.2.1.length x13.2.2.1.2, .int .i64 (r11.2.2.2)])]) (cs := #[.slice x10.1.1.1 r8.1.1.length x10.1.1.2, .slice x10.1.2.1 r8.1.2.length x10.1.2.2, .slice x10.2.1.1 r8.2.1.length x10.2.1.2, .slice x10.2.2.1 r8.2.2.length x10.2.2.2, .slice x13.1.1 r11.1.length x13.1.2, .slice x13.2.1.1 r11.2.1.length x13.2.1.2, .slice x13.2.2.1.1 r11.2.2.1.length x13.2.2.1.2, .int .i64 (r11.2.2.2)]) ty121 pl121 rfl (by kernel_rfl)) (cL rfl rfl cP rfl (n_store (cs' := [.slice x10.1.1.1 r8.1.1.length x10.1.1.2, .slice x10.1.2.1 r8.1.2.length x10.1.2.2, .slice x10.2.1.1 r8.2.1.length x10.2.1.2, .slice x10.2.2.1 r8.2.2.length x10.2.2.2, .slice x13.1.1 r11.1.length x13.1.2, .slice x13.2.1.1 r11.2.1.length x13.2.1.2, .slice x13.2.2.1.1 r11.2.2.1.length x13.2.2.1.2, .int .i64 (r11.2.2.2)]) ty121 rfl rfl (up5t up2) rfl (one_of rfl) (Nat.le_of_ble_eq_true rfl) rfl) ?_)
 rintro _ _ _ ⟨rfl, rfl, rfl⟩
 refine ⟨(aN (by kernel_rfl) (aN (by kernel_rfl) bV)), ?_⟩
 refine cM (nT (bR ?_))
 obtain rfl := si H
 exact back1 (x10, (x13.1, x13.2.1, x13.2.2.1, ())) rfl (ResV.agg ty121 rfl (hs5t hs2) rfl) rfl cO (.cons dl3 (.cons dl3 (.cons dl3 (.cons dl3 (.cons aA (.cons aA (.cons aA .nil)))))))
noncomputable def p_spec_l72Play_b0 (v0 : L6Rd) (Q15 : Int × (List (List Tag)) × (List Post) × (List Part) × (List Sample) × (List File) × (List Int) × (List (List Tag)) × Int × (List Event) × Int) : Option ((Int × (List (List Tag)) × (List Post) × (List Part) × (List Sample) × (List File) × (List Int) × (List (List Tag)) × Int × (List Event) × Int) ⊕ ((List (List Tag)) × (List Post) × (List Part) × (List Sample) × (List File) × (List Int) × (List (List Tag)) × Int × (List Event) × Int)) := cond (decide (0 < Q15.2.2.2.2.2.2.2.2.2.2)) (bd (p_spec_l72Event (v0.1, Q15.1) (((Q15.2.1, Q15.2.2.1), Q15.2.2.2.1, Q15.2.2.2.2.1), (Q15.2.2.2.2.2.1, Q15.2.2.2.2.2.2.1, Q15.2.2.2.2.2.2.2.1, Q15.2.2.2.2.2.2.2.2.1))) fun r24 => gd (room (Q15.2.2.2.2.2.2.2.2.2.1.length + 1)) <| bd (p_spec_l22Do (((Q15.2.1, Q15.2.2.1), Q15.2.2.2.1, Q15.2.2.2.2.1), (Q15.2.2.2.2.2.1, Q15.2.2.2.2.2.2.1, Q15.2.2.2.2.2.2.2.1, Q15.2.2.2.2.2.2.2.2.1)) r24.1) fun r32 => gd (I64 (Q15.2.2.2.2.2.2.2.2.2.2 - 1)) <| some (.inl (r24.2, r32.1.1.1, r32.1.1.2, r32.1.2.1, r32.1.2.2, r32.2.1, r32.2.2.1, r32.2.2.2.1, r32.2.2.2.2, (Q15.2.2.2.2.2.2.2.2.2.1 ++ [r24.1]), Q15.2.2.2.2.2.2.2.2.2.2 - 1))) (some (.inr (Q15.2.1, Q15.2.2.1, Q15.2.2.2.1, Q15.2.2.2.2.1, Q15.2.2.2.2.2.1, Q15.2.2.2.2.2.2.1, Q15.2.2.2.2.2.2.2.1, Q15.2.2.2.2.2.2.2.2.1, Q15.2.2.2.2.2.2.2.2.2.1, Q15.1)))
noncomputable def p_spec_l72Play (v0 : L6Rd) : Option ((List Event) × World × Int) := bd (p_spec_WorldNew) fun r2 => bd (p_spec_l6Rd_pick v0 46) fun r8 => bd (lp (p_spec_l72Play_b0 v0) (r8.2, r2.1.1.1, r2.1.1.2, r2.1.2.1, r2.1.2.2, r2.2.1, r2.2.2.1, r2.2.2.2.1, r2.2.2.2.2, ([] : List Event), r8.1)) fun x11 => bd (p_spec_l22Copy (((x11.1, x11.2.1), x11.2.2.1, x11.2.2.2.1), (x11.2.2.2.2.1, x11.2.2.2.2.2.1, x11.2.2.2.2.2.2.1, x11.2.2.2.2.2.2.2.1))) fun r36 => some (x11.2.2.2.2.2.2.2.2.1, r36, x11.2.2.2.2.2.2.2.2.2)
theorem c_spec_l72Play {r : (List Event) × World × Int} (g_v0 : Nat) (v0 : L6Rd) (x_v0 : (Option Addr × Nat) × Unit) (H : p_spec_l72Play v0 = some r) : Fn' prog 120 #[.pointer (some ⟨g_v0, 0, none⟩)] [imm (.slice x_v0.1.1 v0.1.length x_v0.1.2) v0.1] [box g_v0 169 [.slice x_v0.1.1 v0.1.length x_v0.1.2, .int .i64 (v0.2)]] (ι := (Option Addr × Nat) × ((((Option Addr × Nat) × (Option Addr × Nat)) × (Option Addr × Nat) × (Option Addr × Nat)) × ((Option Addr × Nat) × (Option Addr × Nat) × (Option Addr × Nat) × Unit))) (fun x => .tuple #[.slice x.1.1 r.1.length x.1.2, .agg #[.slice x.2.1.1.1.1 r.2.1.1.1.1.length x.2.1.1.1.2, .slice x.2.1.1.2.1 r.2.1.1.1.2.length x.2.1.1.2.2, .slice x.2.1.2.1.1 r.2.1.1.2.1.length x.2.1.2.1.2, .slice x.2.1.2.2.1 r.2.1.1.2.2.length x.2.1.2.2.2, .slice x.2.2.1.1 r.2.1.2.1.length x.2.2.1.2, .slice x.2.2.2.1.1 r.2.1.2.2.1.length x.2.2.2.1.2, .slice x.2.2.2.2.1.1 r.2.1.2.2.2.1.length x.2.2.2.2.1.2, .int .i64 (r.2.1.2.2.2.2)]]) (fun x => [imm (.slice x.1.1 r.1.length x.1.2) r.1, imm (.slice x.2.1.1.1.1 r.2.1.1.1.1.length x.2.1.1.1.2) r.2.1.1.1.1, imm (.slice x.2.1.1.2.1 r.2.1.1.1.2.length x.2.1.1.2.2) r.2.1.1.1.2, imm (.slice x.2.1.2.1.1 r.2.1.1.2.1.length x.2.1.2.1.2) r.2.1.1.2.1]) (fun x => [orow (.slice x.2.1.2.2.1 r.2.1.1.2.2.length x.2.1.2.2.2) r.2.1.1.2.2, orow (.slice x.2.2.1.1 r.2.1.2.1.length x.2.2.1.2) r.2.1.2.1, orow (.slice x.2.2.2.1.1 r.2.1.2.2.1.length x.2.2.2.1.2) r.2.1.2.2.1, orow (.slice x.2.2.2.2.1.1 r.2.1.2.2.2.1.length x.2.2.2.2.1.2) r.2.1.2.2.2.1, box g_v0 169 [.slice x_v0.1.1 v0.1.length x_v0.1.2, .int .i64 (r.2.2)]]) := by
 refine cof (args := [_]) func120 ntmps120 fun c => ?_
 unfold p_spec_l72Play at H
 refine sr (aH (v := .slice none 0 0) rfl (f1 (cE ty121) fun g1 => (nl (sr (bdo H fun r2 h3 H => (f1 (cG (c_spec_WorldNew h3) (fun _ => (bG (bG (bG (bG (bG (bG (bG bH)))))))) rfl aP) fun x4 => (f1 (cE ty121) fun g5 => (stb (cs' := [.slice x4.1.1.1.1 r2.1.1.1.length x4.1.1.1.2, .slice x4.1.1.2.1 r2.1.1.2.length x4.1.1.2.2, .slice x4.1.2.1.1 r2.1.2.1.length x4.1.2.1.2, .slice x4.1.2.2.1 r2.1.2.2.length x4.1.2.2.2, .slice x4.2.1.1 r2.2.1.length x4.2.1.2, .slice x4.2.2.1.1 r2.2.2.1.length x4.2.2.1.2, .slice x4.2.2.2.1.1 r2.2.2.2.1.length x4.2.2.2.1.2, .int .i64 (r2.2.2.2.2)]) ty121 cZ (nl ?_)))))))))
 refine sr (f2 (e_lit0r Event underlying170 ty218) fun a6 c7 => (aH rfl (nl (aD (aD (Tr.freeze (.cons dl2 .nil) (Tr.freeze (.cons dl2 .nil) (Tr.freeze (.cons dl2 .nil) (Tr.freeze (.cons dl2 .nil) (Tr.freeze (.cons dl2 .nil) ?_))))))))))
 refine Tr.freeze (.cons dl2 .nil) (Tr.freeze (.cons dl2 .nil) (aQ (aF rfl (bdo H fun r8 h9 H => (f1 (cI (c_spec_l6Rd_pick g_v0 v0 (x_v0.1, ()) 46 h9) (Solo.box bH) (fun _ => (Solo.box bH)) rfl (.cons dl3 .nil) (aC (aM aS.s.s.s.s.s.s.s) aP)) fun u10 => (aH rfl (nl (bdo H fun x11 hx12 H => ?_))))))))
 obtain ⟨n13, hx12⟩ := lp.of hx12
 refine tMidNF (ι := (Option Addr × Nat) × (Option Addr × Nat) × (Option Addr × Nat) × (Option Addr × Nat) × (Option Addr × Nat) × (Option Addr × Nat) × (Option Addr × Nat) × (Option Addr × Nat)) (fun ψ => [(3, .pointer (some ⟨g1, 0, none⟩)), (4, .pointer (some ⟨g5, 0, none⟩)), (5, .slice ψ.2.2.2.2.2.2.2.1 x11.2.2.2.2.2.2.2.2.1.length ψ.2.2.2.2.2.2.2.2)]) (fun ψ => [imm (.slice ψ.1.1 x11.1.length ψ.1.2) x11.1, imm (.slice ψ.2.1.1 x11.2.1.length ψ.2.1.2) x11.2.1, imm (.slice ψ.2.2.1.1 x11.2.2.1.length ψ.2.2.1.2) x11.2.2.1, imm (.slice ψ.2.2.2.1.1 x11.2.2.2.1.length ψ.2.2.2.1.2) x11.2.2.2.1, imm (.slice ψ.2.2.2.2.1.1 x11.2.2.2.2.1.length ψ.2.2.2.2.1.2) x11.2.2.2.2.1, imm (.slice ψ.2.2.2.2.2.1.1 x11.2.2.2.2.2.1.length ψ.2.2.2.2.2.1.2) x11.2.2.2.2.2.1, imm (.slice ψ.2.2.2.2.2.2.1.1 x11.2.2.2.2.2.2.1.length ψ.2.2.2.2.2.2.1.2) x11.2.2.2.2.2.2.1]) (fun ψ => [box g1 121 [.slice none 0 0, .slice none 0 0, .slice none 0 0, .slice none 0 0, .slice none 0 0, .slice none 0 0, .slice none 0 0, .int .i64 (0)], box g5 121 [.slice ψ.1.1 x11.1.length ψ.1.2, .slice ψ.2.1.1 x11.2.1.length ψ.2.1.2, .slice ψ.2.2.1.1 x11.2.2.1.length ψ.2.2.1.2, .slice ψ.2.2.2.1.1 x11.2.2.2.1.length ψ.2.2.2.1.2, .slice ψ.2.2.2.2.1.1 x11.2.2.2.2.1.length ψ.2.2.2.2.1.2, .slice ψ.2.2.2.2.2.1.1 x11.2.2.2.2.2.1.length ψ.2.2.2.2.2.1.2, .slice ψ.2.2.2.2.2.2.1.1 x11.2.2.2.2.2.2.1.length ψ.2.2.2.2.2.2.1.2, .int .i64 (x11.2.2.2.2.2.2.2.1)], row (.slice ψ.2.2.2.2.2.2.2.1 x11.2.2.2.2.2.2.2.2.1.length ψ.2.2.2.2.2.2.2.2) x11.2.2.2.2.2.2.2.2.1, box g_v0 169 [.slice x_v0.1.1 v0.1.length x_v0.1.2, .int .i64 (x11.2.2.2.2.2.2.2.2.2)]]) ?_ ?_
 ·refine aR (tLoopF (ι := { q : Nat × (Int × (List (List Tag)) × (List Post) × (List Part) × (List Sample) × (List File) × (List Int) × (List (List Tag)) × Int × (List Event) × Int) × ((Option Addr × Nat) × (Option Addr × Nat) × (Option Addr × Nat) × (Option Addr × Nat) × (Option Addr × Nat) × (Option Addr × Nat) × (Option Addr × Nat) × (Option Addr × Nat)) // itr (p_spec_l72Play_b0 v0) q.1 q.2.1 = some x11 }) (fun ζ => [(0, .pointer (some ⟨g_v0, 0, none⟩)), (3, .pointer (some ⟨g1, 0, none⟩)), (4, .pointer (some ⟨g5, 0, none⟩)), (5, .slice ζ.1.2.2.2.2.2.2.2.2.2.1 ζ.1.2.1.2.2.2.2.2.2.2.2.2.1.length ζ.1.2.2.2.2.2.2.2.2.2.2), (6, .int .i64 (ζ.1.2.1.2.2.2.2.2.2.2.2.2.2))]) (fun ζ => [imm (.slice ζ.1.2.2.1.1 ζ.1.2.1.2.1.length ζ.1.2.2.1.2) ζ.1.2.1.2.1, imm (.slice ζ.1.2.2.2.1.1 ζ.1.2.1.2.2.1.length ζ.1.2.2.2.1.2) ζ.1.2.1.2.2.1, imm (.slice ζ.1.2.2.2.2.1.1 ζ.1.2.1.2.2.2.1.length ζ.1.2.2.2.2.1.2) ζ.1.2.1.2.2.2.1, imm (.slice ζ.1.2.2.2.2.2.1.1 ζ.1.2.1.2.2.2.2.1.length ζ.1.2.2.2.2.2.1.2) ζ.1.2.1.2.2.2.2.1, imm (.slice ζ.1.2.2.2.2.2.2.1.1 ζ.1.2.1.2.2.2.2.2.1.length ζ.1.2.2.2.2.2.2.1.2) ζ.1.2.1.2.2.2.2.2.1, imm (.slice ζ.1.2.2.2.2.2.2.2.1.1 ζ.1.2.1.2.2.2.2.2.2.1.length ζ.1.2.2.2.2.2.2.2.1.2) ζ.1.2.1.2.2.2.2.2.2.1, imm (.slice ζ.1.2.2.2.2.2.2.2.2.1.1 ζ.1.2.1.2.2.2.2.2.2.2.1.length ζ.1.2.2.2.2.2.2.2.2.1.2) ζ.1.2.1.2.2.2.2.2.2.2.1]) (fun ζ => [box g_v0 169 [.slice x_v0.1.1 v0.1.length x_v0.1.2, .int .i64 (ζ.1.2.1.1)], box g1 121 [.slice none 0 0, .slice none 0 0, .slice none 0 0, .slice none 0 0, .slice none 0 0, .slice none 0 0, .slice none 0 0, .int .i64 (0)], box g5 121 [.slice ζ.1.2.2.1.1 ζ.1.2.1.2.1.length ζ.1.2.2.1.2, .slice ζ.1.2.2.2.1.1 ζ.1.2.1.2.2.1.length ζ.1.2.2.2.1.2, .slice ζ.1.2.2.2.2.1.1 ζ.1.2.1.2.2.2.1.length ζ.1.2.2.2.2.1.2, .slice ζ.1.2.2.2.2.2.1.1 ζ.1.2.1.2.2.2.2.1.length ζ.1.2.2.2.2.2.1.2, .slice ζ.1.2.2.2.2.2.2.1.1 ζ.1.2.1.2.2.2.2.2.1.length ζ.1.2.2.2.2.2.2.1.2, .slice ζ.1.2.2.2.2.2.2.2.1.1 ζ.1.2.1.2.2.2.2.2.2.1.length ζ.1.2.2.2.2.2.2.2.1.2, .slice ζ.1.2.2.2.2.2.2.2.2.1.1 ζ.1.2.1.2.2.2.2.2.2.2.1.length ζ.1.2.2.2.2.2.2.2.2.1.2, .int .i64 (ζ.1.2.1.2.2.2.2.2.2.2.2.1)], row (.slice ζ.1.2.2.2.2.2.2.2.2.2.1 ζ.1.2.1.2.2.2.2.2.2.2.2.2.1.length ζ.1.2.2.2.2.2.2.2.2.2.2) ζ.1.2.1.2.2.2.2.2.2.2.2.2.1]) (fun ζ => ζ.1.1) ⟨(n13, (r8.2, r2.1.1.1, r2.1.1.2, r2.1.2.1, r2.1.2.2, r2.2.1, r2.2.2.1, r2.2.2.2.1, r2.2.2.2.2, ([] : List Event), r8.1), ((x4.1.1.1.1, x4.1.1.1.2), (x4.1.1.2.1, x4.1.1.2.2), (x4.1.2.1.1, x4.1.2.1.2), (x4.1.2.2.1, x4.1.2.2.2), (x4.2.1.1, x4.2.1.2), (x4.2.2.1.1, x4.2.2.1.2), (x4.2.2.2.1.1, x4.2.2.2.1.2), (a6, c7))), hx12⟩ ⟨rfl, rfl, rfl, rfl, rfl, trivial⟩ (cN aS.s.s.s.s.s.s (cN aS.s.s.s.s.s (cN aS.s.s.s.s (cN aS.s.s.s (cN aS.s.s (cN aS.s (cN aS cO))))))) (.cons aA (.cons dl2 (.cons dl1 (.cons aA .nil)))) ?_)
  rintro ⟨⟨m14, Q15, z16⟩, hk21⟩
  obtain ⟨m22, t18, e, H1, hi19, hb20⟩ := itr.of (n := m14) (s := Q15) hk21
  subst e; unfold p_spec_l72Play_b0 at H1
  show Tr _ _ _ _ _ [(0, .pointer (some ⟨g_v0, 0, none⟩)), (3, .pointer (some ⟨g1, 0, none⟩)), (4, .pointer (some ⟨g5, 0, none⟩)), (5, .slice z16.2.2.2.2.2.2.2.1 Q15.2.2.2.2.2.2.2.2.2.1.length z16.2.2.2.2.2.2.2.2), (6, .int .i64 (Q15.2.2.2.2.2.2.2.2.2.2))] (imm (.slice z16.1.1 Q15.2.1.length z16.1.2) Q15.2.1 :: imm (.slice z16.2.1.1 Q15.2.2.1.length z16.2.1.2) Q15.2.2.1 :: imm (.slice z16.2.2.1.1 Q15.2.2.2.1.length z16.2.2.1.2) Q15.2.2.2.1 :: imm (.slice z16.2.2.2.1.1 Q15.2.2.2.2.1.length z16.2.2.2.1.2) Q15.2.2.2.2.1 :: imm (.slice z16.2.2.2.2.1.1 Q15.2.2.2.2.2.1.length z16.2.2.2.2.1.2) Q15.2.2.2.2.2.1 :: imm (.slice z16.2.2.2.2.2.1.1 Q15.2.2.2.2.2.2.1.length z16.2.2.2.2.2.1.2) Q15.2.2.2.2.2.2.1 :: imm (.slice z16.2.2.2.2.2.2.1.1 Q15.2.2.2.2.2.2.2.1.length z16.2.2.2.2.2.2.1.2) Q15.2.2.2.2.2.2.2.1 :: _) [box g_v0 169 [.slice x_v0.1.1 v0.1.length x_v0.1.2, .int .i64 (Q15.1)], box g1 121 [.slice none 0 0, .slice none 0 0, .slice none 0 0, .slice none 0 0, .slice none 0 0, .slice none 0 0, .slice none 0 0, .int .i64 (0)], box g5 121 [.slice z16.1.1 Q15.2.1.length z16.1.2, .slice z16.2.1.1 Q15.2.2.1.length z16.2.1.2, .slice z16.2.2.1.1 Q15.2.2.2.1.length z16.2.2.1.2, .slice z16.2.2.2.1.1 Q15.2.2.2.2.1.length z16.2.2.2.1.2, .slice z16.2.2.2.2.1.1 Q15.2.2.2.2.2.1.length z16.2.2.2.2.1.2, .slice z16.2.2.2.2.2.1.1 Q15.2.2.2.2.2.2.1.length z16.2.2.2.2.2.1.2, .slice z16.2.2.2.2.2.2.1.1 Q15.2.2.2.2.2.2.2.1.length z16.2.2.2.2.2.2.1.2, .int .i64 (Q15.2.2.2.2.2.2.2.2.1)], row (.slice z16.2.2.2.2.2.2.2.1 Q15.2.2.2.2.2.2.2.2.2.1.length z16.2.2.2.2.2.2.2.2) Q15.2.2.2.2.2.2.2.2.2.1]
  refine aD (sr (aF rfl (aG (cW rfl rfl) (nl (cH H1 rfl (fun h23 H1 => ?_) (fun h23 H1 => ?_))))))
  ·refine bI (nT (aD (aR (sr (aF rfl (aI (bK ty121 rfl hs2 rfl) (bdo H1 fun r24 h25 H1 => (f1 (e_call (FnL'.frz (c_spec_l72Event g_v0 (v0.1, Q15.1) (x_v0.1, ()) (((Q15.2.1, Q15.2.2.1), Q15.2.2.2.1, Q15.2.2.2.2.1), (Q15.2.2.2.2.2.1, Q15.2.2.2.2.2.2.1, Q15.2.2.2.2.2.2.2.1, Q15.2.2.2.2.2.2.2.2.1)) (((z16.1, z16.2.1), z16.2.2.1, z16.2.2.2.1), (z16.2.2.2.2.1, z16.2.2.2.2.2.1, z16.2.2.2.2.2.2.1, ())) h25)) rfl (cN aS.s.s.s.s.s.s.s.s.s.s.s.s.s.s (cN aS (cN aS.s (cN aS.s.s (cN aS.s.s.s (cN aS.s.s.s.s (cN aS.s.s.s.s.s (cN aS.s.s.s.s.s.s cO)))))))) (.cons aA .nil)) fun x26 => (f1 (cE ty218) fun g27 => (stb (cs' := [.int .i64 (r24.1.1), .int .i64 (r24.1.2.1), .int .i64 (r24.1.2.2.1), .slice x26.2.2.2.1.1 r24.1.2.2.2.1.length x26.2.2.2.1.2, .int .i64 (r24.1.2.2.2.2.1), .int .i64 (r24.1.2.2.2.2.2)]) ty218 cZ ?_))))))))))
   refine nl (sr (aF rfl (aI (bK ty218 rfl aB rfl) (f1 (e_lit (vs := [(0, .agg #[.int .i64 (r24.1.1), .int .i64 (r24.1.2.1), .int .i64 (r24.1.2.2.1), .slice x26.2.2.2.1.1 r24.1.2.2.2.1.length x26.2.2.2.1.2, .int .i64 (r24.1.2.2.2.2.1), .int .i64 (r24.1.2.2.2.2.2)])]) [.int .i64 (r24.1.1), .int .i64 (r24.1.2.1), .int .i64 (r24.1.2.2.1), .slice x26.2.2.2.1.1 r24.1.2.2.2.1.length x26.2.2.2.1.2, .int .i64 (r24.1.2.2.2.2.1), .int .i64 (r24.1.2.2.2.2.2)] underlying170 ty218 rfl (by decide) (by decide) (by kernel_rfl)) fun g28 => (gdo H1 fun h31 H1 => (f2 (e_app1R (l := Q15.2.2.2.2.2.2.2.2.2.1) (α := Event) r24.1 ((), (), (), x26.2.2.2.1, ((), ())) underlying170 ty218 rfl rfl (h31.b (by decide)) h31.x rfl (.cons dl5 (.cons aA .nil)) (cN aS cO)) fun a29 c30 => (aH rfl (nl (aQ (aI (bK ty121 rfl hs4 rfl) ?_))))))))))
   refine aI (bK ty218 rfl hs1 rfl) (bdo H1 fun r32 h33 H1 => (f1 (e_call (c_spec_l22Do (((Q15.2.1, Q15.2.2.1), Q15.2.2.2.1, Q15.2.2.2.2.1), (Q15.2.2.2.2.2.1, Q15.2.2.2.2.2.2.1, Q15.2.2.2.2.2.2.2.1, Q15.2.2.2.2.2.2.2.2.1)) (((z16.1, z16.2.1), z16.2.2.1, z16.2.2.2.1), (z16.2.2.2.2.1, z16.2.2.2.2.2.1, z16.2.2.2.2.2.2.1, ())) r24.1 ((), (), (), x26.2.2.2.1, ((), ())) h33) rfl (cN aS.s (cN aS.s.s (cN aS.s.s.s (cN aS.s.s.s.s (cN aS.s.s.s.s.s (cN aS.s.s.s.s.s.s (cN aS.s.s.s.s.s.s.s (cN aS cO)))))))) bL) fun x34 => (stb (cs' := [.slice x34.1.1.1.1 r32.1.1.1.length x34.1.1.1.2, .slice x34.1.1.2.1 r32.1.1.2.length x34.1.1.2.2, .slice x34.1.2.1.1 r32.1.2.1.length x34.1.2.1.2, .slice x34.1.2.2.1 r32.1.2.2.length x34.1.2.2.2, .slice x34.2.1.1 r32.2.1.length x34.2.1.2, .slice x34.2.2.1.1 r32.2.2.1.length x34.2.2.1.2, .slice x34.2.2.2.1.1 r32.2.2.2.1.length x34.2.2.2.1.2, .int .i64 (r32.2.2.2.2)]) ty121 up4 (aJ (nB (nT (aQ (aF rfl (gdo H1 fun h35 H1 => (aG (cT rfl rfl h35) ?_))))))))))
   exact aH rfl (aJ (nLF ⟨(m22, (r24.2, r32.1.1.1, r32.1.1.2, r32.1.2.1, r32.1.2.2, r32.2.1, r32.2.2.1, r32.2.2.2.1, r32.2.2.2.2, (Q15.2.2.2.2.2.2.2.2.2.1 ++ [r24.1]), Q15.2.2.2.2.2.2.2.2.2.2 - 1), ((x34.1.1.1.1, x34.1.1.1.2), (x34.1.1.2.1, x34.1.1.2.2), (x34.1.2.1.1, x34.1.2.1.2), (x34.1.2.2.1, x34.1.2.2.2), (x34.2.1.1, x34.2.1.2), (x34.2.2.1.1, x34.2.2.1.2), (x34.2.2.2.1.1, x34.2.2.2.1.2), (a29, c30))), hi19 _ (sm H1)⟩ (Nat.lt_succ_self _) ⟨rfl, rfl, rfl, rfl, rfl, trivial⟩ (cN aS (cN aS.s (cN aS.s.s (cN aS.s.s.s (cN aS.s.s.s.s (cN aS.s.s.s.s.s (cN aS.s.s.s.s.s.s cO))))))) bU.s.s.s.s.s.s.s.s.s.s.s.s.s.s.s (.cons dl2 (.cons dl2 (.cons dl2 (.cons aA .nil))))))
  ·refine dB (xT (xT (xE (?_))))
   obtain rfl := hb20 _ (sm H1)
   exact nMF ((z16.1.1, z16.1.2), (z16.2.1.1, z16.2.1.2), (z16.2.2.1.1, z16.2.2.1.2), (z16.2.2.2.1.1, z16.2.2.2.1.2), (z16.2.2.2.2.1.1, z16.2.2.2.2.1.2), (z16.2.2.2.2.2.1.1, z16.2.2.2.2.2.1.2), (z16.2.2.2.2.2.2.1.1, z16.2.2.2.2.2.2.1.2), (z16.2.2.2.2.2.2.2.1, z16.2.2.2.2.2.2.2.2)) ⟨rfl, rfl, rfl, trivial⟩ (cN aS (cN aS.s (cN aS.s.s (cN aS.s.s.s (cN aS.s.s.s.s (cN aS.s.s.s.s.s (cN aS.s.s.s.s.s.s cO))))))) bU.s.s.s.s.s.s.s (.cons dl1 (.cons dl1 (.cons dl1 (.cons aA .nil))))
 ·intro y17
  show At _ _ [(3, .pointer (some ⟨g1, 0, none⟩)), (4, .pointer (some ⟨g5, 0, none⟩)), (5, .slice y17.2.2.2.2.2.2.2.1 x11.2.2.2.2.2.2.2.2.1.length y17.2.2.2.2.2.2.2.2)] (imm (.slice y17.1.1 x11.1.length y17.1.2) x11.1 :: imm (.slice y17.2.1.1 x11.2.1.length y17.2.1.2) x11.2.1 :: imm (.slice y17.2.2.1.1 x11.2.2.1.length y17.2.2.1.2) x11.2.2.1 :: imm (.slice y17.2.2.2.1.1 x11.2.2.2.1.length y17.2.2.2.1.2) x11.2.2.2.1 :: imm (.slice y17.2.2.2.2.1.1 x11.2.2.2.2.1.length y17.2.2.2.2.1.2) x11.2.2.2.2.1 :: imm (.slice y17.2.2.2.2.2.1.1 x11.2.2.2.2.2.1.length y17.2.2.2.2.2.1.2) x11.2.2.2.2.2.1 :: imm (.slice y17.2.2.2.2.2.2.1.1 x11.2.2.2.2.2.2.1.length y17.2.2.2.2.2.2.1.2) x11.2.2.2.2.2.2.1 :: _) [box g1 121 [.slice none 0 0, .slice none 0 0, .slice none 0 0, .slice none 0 0, .slice none 0 0, .slice none 0 0, .slice none 0 0, .int .i64 (0)], box g5 121 [.slice y17.1.1 x11.1.length y17.1.2, .slice y17.2.1.1 x11.2.1.length y17.2.1.2, .slice y17.2.2.1.1 x11.2.2.1.length y17.2.2.1.2, .slice y17.2.2.2.1.1 x11.2.2.2.1.length y17.2.2.2.1.2, .slice y17.2.2.2.2.1.1 x11.2.2.2.2.1.length y17.2.2.2.2.1.2, .slice y17.2.2.2.2.2.1.1 x11.2.2.2.2.2.1.length y17.2.2.2.2.2.1.2, .slice y17.2.2.2.2.2.2.1.1 x11.2.2.2.2.2.2.1.length y17.2.2.2.2.2.2.1.2, .int .i64 (x11.2.2.2.2.2.2.2.1)], row (.slice y17.2.2.2.2.2.2.2.1 x11.2.2.2.2.2.2.2.2.1.length y17.2.2.2.2.2.2.2.2) x11.2.2.2.2.2.2.2.2.1, box g_v0 169 [.slice x_v0.1.1 v0.1.length x_v0.1.2, .int .i64 (x11.2.2.2.2.2.2.2.2.2)]] _
  refine nT (sr (aF rfl (aI (bK ty121 rfl hs1 rfl) (bdo H fun r36 h37 H => (f1 (cG (c_spec_l22Copy (((x11.1, x11.2.1), x11.2.2.1, x11.2.2.2.1), (x11.2.2.2.2.1, x11.2.2.2.2.2.1, x11.2.2.2.2.2.2.1, x11.2.2.2.2.2.2.2.1)) (((y17.1, y17.2.1), y17.2.2.1, y17.2.2.2.1), (y17.2.2.2.2.1, y17.2.2.2.2.2.1, y17.2.2.2.2.2.2.1, ())) h37) (fun _ => (bG (bG (bG (bG (bG (bG (bG bH)))))))) rfl (aC (aM aS) (aC (aM aS.s) (aC (aM aS.s.s) (aC (aM aS.s.s.s) (aC (aM aS.s.s.s.s) (aC (aM aS.s.s.s.s.s) (aC (aM aS.s.s.s.s.s.s) aP)))))))) fun x38 => (aH rfl (stb (cs' := [.slice x38.1.1.1.1 r36.1.1.1.length x38.1.1.1.2, .slice x38.1.1.2.1 r36.1.1.2.length x38.1.1.2.2, .slice x38.1.2.1.1 r36.1.2.1.length x38.1.2.1.2, .slice x38.1.2.2.1 r36.1.2.2.length x38.1.2.2.2, .slice x38.2.1.1 r36.2.1.length x38.2.1.2, .slice x38.2.2.1.1 r36.2.2.1.length x38.2.2.1.2, .slice x38.2.2.2.1.1 r36.2.2.2.1.length x38.2.2.2.1.2, .int .i64 (r36.2.2.2.2)]) ty121 (up5t up2) (nl (Tr.freezeR (.cons (dl5t dl4) .nil) ?_)))))))))
  refine Tr.freeze (.cons aA .nil) (Tr.freeze (.cons aA .nil) (Tr.freeze (.cons aA .nil) (Tr.treeO (.cons aA .nil) (Tr.treeO (.cons dl1 .nil) (Tr.treeO (.cons dl2 .nil) (Tr.treeO (.cons dl3 .nil) (bR ?_)))))))
  obtain rfl := si H
  exact back2 (y17.2.2.2.2.2.2.2, (x38.1, (x38.2.1, x38.2.2.1, x38.2.2.2.1, ()))) rfl (ResV.tmp (v := .slice y17.2.2.2.2.2.2.2.1 x11.2.2.2.2.2.2.2.2.1.length y17.2.2.2.2.2.2.2.2) rfl) (ResV.agg ty121 rfl hs4 rfl) rfl (cN aS.s.s.s (cN aS.s.s (cN aS.s (cN aS cO)))) (.cons dl3 (.cons dl2 (.cons dl1 (.cons aA (.cons dl2 .nil)))))
noncomputable def p_spec_l72World (v0 : L6Rd) : Option (World × Int) := bd (p_spec_l72Play v0) fun r2 => bd (p_spec_l6Rd_pick (v0.1, r2.2.2) 40) fun r6 => cond (decide (r6.1 = 0)) (bd (p_spec_l6Rd_pick (v0.1, r6.2) 6) fun r10 => gd (I64 (1 + r10.1)) <| gd (room (r2.2.1.2.2.1.length + 1)) <| some ((r2.2.1.1, (r2.2.1.2.1, (r2.2.1.2.2.1 ++ [1 + r10.1]), r2.2.1.2.2.2.1, r2.2.1.2.2.2.2)), r10.2)) (cond (decide (r6.1 = 1)) (bd (p_spec_l6Rd_pick (v0.1, r6.2) 7) fun r19 => gd (I64 (1 + r19.1)) <| bd (p_spec_l71Row (v0.1, r19.2)) fun r23 => gd (room (r2.2.1.1.2.2.length + 1)) <| some (((r2.2.1.1.1, r2.2.1.1.2.1, (r2.2.1.1.2.2 ++ [((1 + r19.1), r23.1)])), r2.2.1.2), r23.2)) (cond (decide (r6.1 = 2)) (cond (decide (0 < (r2.2.1.2.1.length : Int))) (gd (sl2 1 (r2.2.1.2.1.length : Int) r2.2.1.2.1.length) <| some ((r2.2.1.1, (((r2.2.1.2.1.take (r2.2.1.2.1.length : Int).toNat).drop 1), r2.2.1.2.2.1, r2.2.1.2.2.2.1, r2.2.1.2.2.2.2)), r6.2)) (some (r2.2.1, r6.2))) (cond (decide (r6.1 = 3)) (bd (p_spec_l71Name (v0.1, r6.2)) fun r36 => gd (room (r2.2.1.2.2.2.1.length + 1)) <| some ((r2.2.1.1, (r2.2.1.2.1, r2.2.1.2.2.1, (r2.2.1.2.2.2.1 ++ [r36.1]), r2.2.1.2.2.2.2)), r36.2)) (some (r2.2.1, r6.2)))))
theorem c_spec_l72World {r : World × Int} (g_v0 : Nat) (v0 : L6Rd) (x_v0 : (Option Addr × Nat) × Unit) (H : p_spec_l72World v0 = some r) : Fn' prog 66 #[.pointer (some ⟨g_v0, 0, none⟩)] [imm (.slice x_v0.1.1 v0.1.length x_v0.1.2) v0.1] [box g_v0 169 [.slice x_v0.1.1 v0.1.length x_v0.1.2, .int .i64 (v0.2)]] (ι := (((Option Addr × Nat) × (Option Addr × Nat)) × (Option Addr × Nat) × (Option Addr × Nat)) × ((Option Addr × Nat) × (Option Addr × Nat) × (Option Addr × Nat) × Unit)) (fun x => .agg #[.slice x.1.1.1.1 r.1.1.1.1.length x.1.1.1.2, .slice x.1.1.2.1 r.1.1.1.2.length x.1.1.2.2, .slice x.1.2.1.1 r.1.1.2.1.length x.1.2.1.2, .slice x.1.2.2.1 r.1.1.2.2.length x.1.2.2.2, .slice x.2.1.1 r.1.2.1.length x.2.1.2, .slice x.2.2.1.1 r.1.2.2.1.length x.2.2.1.2, .slice x.2.2.2.1.1 r.1.2.2.2.1.length x.2.2.2.1.2, .int .i64 (r.1.2.2.2.2)]) (fun x => [imm (.slice x.1.1.1.1 r.1.1.1.1.length x.1.1.1.2) r.1.1.1.1, imm (.slice x.1.1.2.1 r.1.1.1.2.length x.1.1.2.2) r.1.1.1.2, imm (.slice x.1.2.1.1 r.1.1.2.1.length x.1.2.1.2) r.1.1.2.1]) (fun x => [orow (.slice x.1.2.2.1 r.1.1.2.2.length x.1.2.2.2) r.1.1.2.2, orow (.slice x.2.1.1 r.1.2.1.length x.2.1.2) r.1.2.1, orow (.slice x.2.2.1.1 r.1.2.2.1.length x.2.2.1.2) r.1.2.2.1, orow (.slice x.2.2.2.1.1 r.1.2.2.2.1.length x.2.2.2.1.2) r.1.2.2.2.1, box g_v0 169 [.slice x_v0.1.1 v0.1.length x_v0.1.2, .int .i64 (r.2)]]) := by
 refine cof (args := [_]) func66 ntmps66 fun c => ?_
 unfold p_spec_l72World at H
 refine sr (f1 (cE ty121) fun g1 => (nl (sr (aF rfl (bdo H fun r2 h3 H => (f1 (e_call (c_spec_l72Play g_v0 v0 (x_v0.1, ()) h3) rfl (cN aS cO) (.cons dl1 .nil)) fun x4 => (aF rfl (aG (dA rfl rfl) (aG (dA rfl rfl) ?_)))))))))
 refine f1 (cE ty121) fun g5 => (aH rfl (stb (cs' := [.slice x4.2.1.1.1.1 r2.2.1.1.1.1.length x4.2.1.1.1.2, .slice x4.2.1.1.2.1 r2.2.1.1.1.2.length x4.2.1.1.2.2, .slice x4.2.1.2.1.1 r2.2.1.1.2.1.length x4.2.1.2.1.2, .slice x4.2.1.2.2.1 r2.2.1.1.2.2.length x4.2.1.2.2.2, .slice x4.2.2.1.1 r2.2.1.2.1.length x4.2.2.1.2, .slice x4.2.2.2.1.1 r2.2.1.2.2.1.length x4.2.2.2.1.2, .slice x4.2.2.2.2.1.1 r2.2.1.2.2.2.1.length x4.2.2.2.2.1.2, .int .i64 (r2.2.1.2.2.2.2)]) ty121 cZ (nl (aD (sr (aF rfl (bdo H fun r6 h7 H => (f1 (cI (c_spec_l6Rd_pick g_v0 (v0.1, r2.2.2) (x_v0.1, ()) 40 h7) (Solo.box bH) (fun _ => (Solo.box bH)) rfl (.cons dl5 .nil) (aC (aM aS.s.s.s.s) aP)) fun u8 => (nl (aR ?_))))))))))
 refine sr (aG (cV rfl rfl) (aH rfl (nl (cH H rfl (fun h9 H => ?_) (fun h9 H => ?_)))))
 ·refine dH [(4, .pointer (some ⟨g5, 0, none⟩)), (2, .pointer (some ⟨g1, 0, none⟩)), (0, .pointer (some ⟨g_v0, 0, none⟩))] 2 [0, 1, 2, 3, 4, 5, 6, 7, 8, 9, 10] [4, 6, 7, 10] [] mixed (by kernel_rfl) (by decide) dJ ⟨rfl, rfl, rfl, trivial⟩ rfl okNil (w_p rfl (cC fa121_1 rfl rfl) (w_p rfl (cC fa76_1 rfl rfl) ?_))
  refine w_o rfl (fun F => (bJ ty69 rfl (hs1.app F) rfl)) (w_p rfl (aE rfl) (bdo H fun r10 h11 H => (cK rfl (by decide) rfl cP rfl (n_callM (c_spec_l6Rd_pick g_v0 (v0.1, r6.2) (x_v0.1, ()) 6 h11) (Solo.box bH) (fun _ => (Solo.box bH)) rfl (.cons aA .nil) (aC (aM aS.s.s.s.s) aP)) ?_)))
  rintro _ _ _ ⟨u12, rfl, rfl, rfl⟩
  refine ⟨(bW rfl rfl (fun F => (bJ ty69 rfl (hs1.app F) rfl)) bV), ?_⟩
  refine gdo H fun h13 H => (w_p rfl (bS rfl rfl h13) (cK rfl (by decide) rfl cP rfl (n_lit (vs := [(0, .int .i64 (1 + r10.1))]) [.int .i64 (1 + r10.1)] dW ty3 rfl (by decide) (by decide) (by kernel_rfl)) ?_))
  rintro _ _ _ ⟨g14, rfl, rfl, rfl⟩
  refine ⟨(bW rfl rfl (fun F => (bJ ty69 rfl (hs2.app F) rfl)) bV), ?_⟩
  refine gdo H fun h17 H => (cK rfl (by decide) rfl cP rfl (n_app1O (l := r2.2.1.2.2.1) (α := Int) (1 + r10.1) () dW ty3 rfl rfl (h17.b (by decide)) h17.x rfl (.cons dl5 (.cons aA .nil)) cO) ?_)
  rintro _ _ _ ⟨a15, c16, rfl, rfl, rfl⟩
  refine ⟨(aN (by kernel_rfl) bV), ?_⟩
  refine w_p rfl (cC fa121_1 rfl rfl) (w_p rfl (cC fa76_1 rfl rfl) (cL rfl rfl cP rfl (n_store (cs' := [.slice x4.2.1.1.1.1 r2.2.1.1.1.1.length x4.2.1.1.1.2, .slice x4.2.1.1.2.1 r2.2.1.1.1.2.length x4.2.1.1.2.2, .slice x4.2.1.2.1.1 r2.2.1.1.2.1.length x4.2.1.2.1.2, .slice x4.2.1.2.2.1 r2.2.1.1.2.2.length x4.2.1.2.2.2, .slice x4.2.2.1.1 r2.2.1.2.1.length x4.2.2.1.2, .slice a15 ((r2.2.1.2.2.1 ++ [1 + r10.1]).length) c16, .slice x4.2.2.2.2.1.1 r2.2.1.2.2.2.1.length x4.2.2.2.2.1.2, .int .i64 (r2.2.1.2.2.2.2)]) ty69 rfl rfl up2 rfl (by simp [Value.cells, Value.oneCell']) (Nat.le_of_ble_eq_true rfl) rfl) ?_))
  rintro _ _ _ ⟨rfl, rfl, rfl⟩
  refine ⟨(aN (by kernel_rfl) bV), ?_⟩
  refine cM ?_
  show At _ _ _ _ _ _
  refine nB (nT (sr (aI (bK ty121 rfl hs2 rfl) (g0 (e_store (cs' := [.slice x4.2.1.1.1.1 r2.2.1.1.1.1.length x4.2.1.1.1.2, .slice x4.2.1.1.2.1 r2.2.1.1.1.2.length x4.2.1.1.2.2, .slice x4.2.1.2.1.1 r2.2.1.1.2.1.length x4.2.1.2.1.2, .slice x4.2.1.2.2.1 r2.2.1.1.2.2.length x4.2.1.2.2.2, .slice x4.2.2.1.1 r2.2.1.2.1.length x4.2.2.1.2, .slice a15 ((r2.2.1.2.2.1 ++ [1 + r10.1]).length) c16, .slice x4.2.2.2.2.1.1 r2.2.1.2.2.2.1.length x4.2.2.2.2.1.2, .int .i64 (r2.2.1.2.2.2.2)]) ty121 rfl rfl (up5t up1) rfl (by simp [Value.cells, Value.oneCell']) (Nat.le_of_ble_eq_true rfl) rfl) (nl (bR ?_))))))
  obtain rfl := si H
  exact back1 (x4.2.1, (x4.2.2.1, (a15, c16), x4.2.2.2.2.1, ())) rfl (ResV.agg ty121 rfl (hs5t hs1) rfl) rfl (cN aS.s (cN aS.s.s (cN aS.s.s.s cO))) (.cons dl3 (.cons dl3 (.cons aA (.cons dl2 (.cons aA .nil)))))
 ·refine sr (aG (cV rfl rfl) (aH rfl (nl (cH H rfl (fun h18 H => ?_) (fun h18 H => ?_)))))
  ·refine dH [(4, .pointer (some ⟨g5, 0, none⟩)), (2, .pointer (some ⟨g1, 0, none⟩)), (0, .pointer (some ⟨g_v0, 0, none⟩))] 3 [0, 1, 2, 3, 6, 4, 5, 7, 8, 9, 10, 11, 12, 13] [4, 7, 9, 10, 13] [] mixed (by kernel_rfl) (by decide) dJ ⟨rfl, rfl, rfl, trivial⟩ rfl okNil (w_p rfl (cC fa121_0 rfl rfl) (w_p rfl (cC fa42_2 rfl rfl) ?_))
   refine w_o rfl (fun F => (bJ ty40 rfl (hs1.app F) rfl)) (w_p rfl (aE rfl) (w_p rfl (aE rfl) (bdo H fun r19 h20 H => (cK rfl (by decide) rfl cP rfl (n_callM (c_spec_l6Rd_pick g_v0 (v0.1, r6.2) (x_v0.1, ()) 7 h20) (Solo.box bH) (fun _ => (Solo.box bH)) rfl (.cons aA .nil) (aC (aM aS.s.s.s.s) aP)) ?_))))
   rintro _ _ _ ⟨u21, rfl, rfl, rfl⟩
   refine ⟨(bW rfl rfl (fun F => (bJ ty40 rfl (hs1.app F) rfl)) bV), ?_⟩
   refine gdo H fun h22 H => (w_p rfl (bS rfl rfl h22) (bdo H fun r23 h24 H => (cK rfl (by decide) rfl cP rfl (n_callM (c_spec_l71Row g_v0 (v0.1, r19.2) (x_v0.1, ()) h24) (Solo.box bH) (fun _ => (Solo.box bH)) rfl (.cons aA .nil) (aC (aM aS.s.s.s.s) aP)) ?_)))
   rintro _ _ _ ⟨u25, rfl, rfl, rfl⟩
   refine ⟨(bW rfl rfl (fun F => (bJ ty40 rfl (hs1.app F) rfl)) bV), ?_⟩
   refine w_p (v := .agg #[.int .i64 (1 + r19.1), .int .i64 (r23.1.1), .int .i64 (r23.1.2)]) rfl (p_buildS (vs := [(0, .int .i64 (1 + r19.1)), (1, .agg #[.int .i64 (r23.1.1), .int .i64 (r23.1.2)])]) (cs := #[.int .i64 (1 + r19.1), .int .i64 (r23.1.1), .int .i64 (r23.1.2)]) ty59 pl59 rfl rfl) (cK rfl (by decide) rfl cP rfl (n_lit (vs := [(0, .agg #[.int .i64 (1 + r19.1), .int .i64 (r23.1.1), .int .i64 (r23.1.2)])]) [.int .i64 (1 + r19.1), .int .i64 (r23.1.1), .int .i64 (r23.1.2)] dR ty59 rfl (by decide) (by decide) (by kernel_rfl)) ?_)
   rintro _ _ _ ⟨g26, rfl, rfl, rfl⟩
   refine ⟨(bW rfl rfl (fun F => (bJ ty40 rfl (hs2.app F) rfl)) bV), ?_⟩
   refine gdo H fun h29 H => (cK rfl (by decide) rfl cP rfl (n_app1O (l := r2.2.1.1.2.2) (α := Sample) ((1 + r19.1), r23.1) ((), ((), ())) dR ty59 rfl rfl (h29.b (by decide)) h29.x rfl (.cons dl3 (.cons aA .nil)) cO) ?_)
   rintro _ _ _ ⟨a27, c28, rfl, rfl, rfl⟩
   refine ⟨(aN (by kernel_rfl) bV), ?_⟩
   refine w_p rfl (cC fa121_0 rfl rfl) (w_p rfl (cC fa42_2 rfl rfl) (cL rfl rfl cP rfl (n_store (cs' := [.slice x4.2.1.1.1.1 r2.2.1.1.1.1.length x4.2.1.1.1.2, .slice x4.2.1.1.2.1 r2.2.1.1.1.2.length x4.2.1.1.2.2, .slice x4.2.1.2.1.1 r2.2.1.1.2.1.length x4.2.1.2.1.2, .slice a27 ((r2.2.1.1.2.2 ++ [((1 + r19.1), r23.1)]).length) c28, .slice x4.2.2.1.1 r2.2.1.2.1.length x4.2.2.1.2, .slice x4.2.2.2.1.1 r2.2.1.2.2.1.length x4.2.2.2.1.2, .slice x4.2.2.2.2.1.1 r2.2.1.2.2.2.1.length x4.2.2.2.2.1.2, .int .i64 (r2.2.1.2.2.2.2)]) ty40 rfl rfl up2 rfl (one_of rfl) (Nat.le_of_ble_eq_true rfl) rfl) ?_))
   rintro _ _ _ ⟨rfl, rfl, rfl⟩
   refine ⟨(aN (by kernel_rfl) bV), ?_⟩
   refine cM ?_
   show At _ _ _ _ _ _
   refine nB (nT (sr (aI (bK ty121 rfl hs2 rfl) (stb (cs' := [.slice x4.2.1.1.1.1 r2.2.1.1.1.1.length x4.2.1.1.1.2, .slice x4.2.1.1.2.1 r2.2.1.1.1.2.length x4.2.1.1.2.2, .slice x4.2.1.2.1.1 r2.2.1.1.2.1.length x4.2.1.2.1.2, .slice a27 ((r2.2.1.1.2.2 ++ [((1 + r19.1), r23.1)]).length) c28, .slice x4.2.2.1.1 r2.2.1.2.1.length x4.2.2.1.2, .slice x4.2.2.2.1.1 r2.2.1.2.2.1.length x4.2.2.2.1.2, .slice x4.2.2.2.2.1.1 r2.2.1.2.2.2.1.length x4.2.2.2.2.1.2, .int .i64 (r2.2.1.2.2.2.2)]) ty121 (up5t up1) (nl (bR ?_))))))
   obtain rfl := si H
   exact back1 ((x4.2.1.1, x4.2.1.2.1, (a27, c28)), (x4.2.2.1, x4.2.2.2.1, x4.2.2.2.2.1, ())) rfl (ResV.agg ty121 rfl (hs5t hs1) rfl) rfl (cN aS.s (cN aS.s.s (cN aS.s.s.s cO))) (.cons aA (.cons dl2 (.cons dl2 (.cons dl2 (.cons aA .nil)))))
  ·refine sr (aG (cV rfl rfl) (aH rfl (nl (cH H rfl (fun h30 H => ?_) (fun h30 H => ?_)))))
   ·refine sr (aG (cC fa121_1 rfl rfl) (aG (cC fa76_0 rfl rfl) (aI (bJ ty74 rfl hs1 rfl) (aG (bT 80 dY rfl) (aG (cW rfl rfl) (nl (cH H rfl (fun h31 H => ?_) (fun h31 H => ?_))))))))
    ·refine aQ (aG (cC fa121_1 rfl rfl) (aG (cC fa76_0 rfl rfl) (aI (bJ ty74 rfl hs1 rfl) (gdo H fun h32 H => (f2 (e_slO (l := r2.2.1.2.1) (α := File) 1 (r2.2.1.2.1.length : Int) dY ty80 rfl rfl (fun h => nomatch h) rfl (fun _ => rfl) h32 (.cons dl3 .nil) hs3) fun a33 c34 => (aG (cC fa121_1 rfl rfl) (aG (cC fa76_0 rfl rfl) (stb (cs' := [.slice x4.2.1.1.1.1 r2.2.1.1.1.1.length x4.2.1.1.1.2, .slice x4.2.1.1.2.1 r2.2.1.1.1.2.length x4.2.1.1.2.2, .slice x4.2.1.2.1.1 r2.2.1.1.2.1.length x4.2.1.2.1.2, .slice x4.2.1.2.2.1 r2.2.1.1.2.2.length x4.2.1.2.2.2, .slice a33 (((r2.2.1.2.1.take (r2.2.1.2.1.length : Int).toNat).drop 1).length) c34, .slice x4.2.2.2.1.1 r2.2.1.2.2.1.length x4.2.2.2.1.2, .slice x4.2.2.2.2.1.1 r2.2.1.2.2.2.1.length x4.2.2.2.2.1.2, .int .i64 (r2.2.1.2.2.2.2)]) ty74 up2 (aJ ?_)))))))))
     refine nB (nT (sr (aI (bK ty121 rfl hs2 rfl) (stb (cs' := [.slice x4.2.1.1.1.1 r2.2.1.1.1.1.length x4.2.1.1.1.2, .slice x4.2.1.1.2.1 r2.2.1.1.1.2.length x4.2.1.1.2.2, .slice x4.2.1.2.1.1 r2.2.1.1.2.1.length x4.2.1.2.1.2, .slice x4.2.1.2.2.1 r2.2.1.1.2.2.length x4.2.1.2.2.2, .slice a33 (((r2.2.1.2.1.take (r2.2.1.2.1.length : Int).toNat).drop 1).length) c34, .slice x4.2.2.2.1.1 r2.2.1.2.2.1.length x4.2.2.2.1.2, .slice x4.2.2.2.2.1.1 r2.2.1.2.2.2.1.length x4.2.2.2.2.1.2, .int .i64 (r2.2.1.2.2.2.2)]) ty121 (up5t up1) (nl (bR ?_))))))
     obtain rfl := si H
     exact back1 (x4.2.1, ((a33, c34), x4.2.2.2.1, x4.2.2.2.2.1, ())) rfl (ResV.agg ty121 rfl (hs5t hs1) rfl) rfl (cN aS.s (cN aS.s.s (cN aS.s.s.s cO))) (.cons dl3 (.cons aA (.cons dl2 (.cons dl2 (.cons aA .nil)))))
    ·refine bI (nB (nT (sr (aI (bK ty121 rfl hs1 rfl) (stb (cs' := [.slice x4.2.1.1.1.1 r2.2.1.1.1.1.length x4.2.1.1.1.2, .slice x4.2.1.1.2.1 r2.2.1.1.1.2.length x4.2.1.1.2.2, .slice x4.2.1.2.1.1 r2.2.1.1.2.1.length x4.2.1.2.1.2, .slice x4.2.1.2.2.1 r2.2.1.1.2.2.length x4.2.1.2.2.2, .slice x4.2.2.1.1 r2.2.1.2.1.length x4.2.2.1.2, .slice x4.2.2.2.1.1 r2.2.1.2.2.1.length x4.2.2.2.1.2, .slice x4.2.2.2.2.1.1 r2.2.1.2.2.2.1.length x4.2.2.2.2.1.2, .int .i64 (r2.2.1.2.2.2.2)]) ty121 (up5t up1) (nl (bR ?_)))))))
     obtain rfl := si H
     exact back1 (x4.2.1, (x4.2.2.1, x4.2.2.2.1, x4.2.2.2.2.1, ())) rfl (ResV.agg ty121 rfl (hs5t hs1) rfl) rfl (cN aS.s (cN aS.s.s (cN aS.s.s.s cO))) (.cons dl2 (.cons dl2 (.cons dl2 (.cons dl2 (.cons aA .nil)))))
   ·refine sr (aG (cV rfl rfl) (aH rfl (nl (cH H rfl (fun h35 H => ?_) (fun h35 H => ?_)))))
    ·refine dH [(4, .pointer (some ⟨g5, 0, none⟩)), (2, .pointer (some ⟨g1, 0, none⟩)), (0, .pointer (some ⟨g_v0, 0, none⟩))] 1 [0, 1, 2, 3, 4, 5, 6, 7, 8, 9] [4, 5, 6, 9] [] mixed (by kernel_rfl) (by decide) dJ ⟨rfl, rfl, rfl, trivial⟩ rfl okNil (w_p rfl (cC fa121_1 rfl rfl) (w_p rfl (cC fa76_2 rfl rfl) ?_))
     refine w_o rfl (fun F => (bJ ty35 rfl (hs1.app F) rfl)) (w_p rfl (aE rfl) (bdo H fun r36 h37 H => (cK rfl (by decide) rfl cP rfl (n_callM (c_spec_l71Name g_v0 (v0.1, r6.2) (x_v0.1, ()) h37) (Solo.box bH) (fun _ => (bG (Solo.box bH))) rfl (.cons aA .nil) (aC (aM aS.s.s.s.s) aP)) ?_)))
     rintro _ _ _ ⟨x38, rfl, rfl, rfl⟩
     refine ⟨(bW rfl rfl (fun F => (bJ ty35 rfl (hs2.app F) rfl)) bV), ?_⟩
     refine cK rfl (by decide) rfl cP rfl (n_lit (vs := [(0, .slice x38.1 r36.1.length x38.2)]) [.slice x38.1 r36.1.length x38.2] dO ty105 rfl (by decide) (by decide) (by kernel_rfl)) ?_
     rintro _ _ _ ⟨g39, rfl, rfl, rfl⟩
     refine ⟨(bW rfl rfl (fun F => (bJ ty35 rfl (hs3.app F) rfl)) bV), ?_⟩
     refine gdo H fun h42 H => (cK rfl (by decide) rfl cP rfl (n_app1OT (l := r2.2.1.2.2.2.1) (α := (List Tag)) r36.1 x38 dO ty105 rfl rfl (h42.b (by decide)) h42.x rfl (.cons (dl5t dl2) (.cons aA (.cons aA .nil)))) ?_)
     rintro _ _ _ ⟨a40, c41, rfl, rfl, rfl⟩
     refine ⟨(aN (by kernel_rfl) bV), ?_⟩
     refine w_p rfl (cC fa121_1 rfl rfl) (w_p rfl (cC fa76_2 rfl rfl) (cL rfl rfl cP rfl (n_store (cs' := [.slice x4.2.1.1.1.1 r2.2.1.1.1.1.length x4.2.1.1.1.2, .slice x4.2.1.1.2.1 r2.2.1.1.1.2.length x4.2.1.1.2.2, .slice x4.2.1.2.1.1 r2.2.1.1.2.1.length x4.2.1.2.1.2, .slice x4.2.1.2.2.1 r2.2.1.1.2.2.length x4.2.1.2.2.2, .slice x4.2.2.1.1 r2.2.1.2.1.length x4.2.2.1.2, .slice x4.2.2.2.1.1 r2.2.1.2.2.1.length x4.2.2.2.1.2, .slice a40 ((r2.2.1.2.2.2.1 ++ [r36.1]).length) c41, .int .i64 (r2.2.1.2.2.2.2)]) ty35 rfl rfl up2 rfl (by simp [Value.cells, Value.oneCell']) (Nat.le_of_ble_eq_true rfl) rfl) ?_))
     rintro _ _ _ ⟨rfl, rfl, rfl⟩
     refine ⟨(aN (by kernel_rfl) bV), ?_⟩
     refine cM ?_
     show At _ _ _ _ _ _
     refine nB (nT (sr (aI (bK ty121 rfl hs2 rfl) (g0 (e_store (cs' := [.slice x4.2.1.1.1.1 r2.2.1.1.1.1.length x4.2.1.1.1.2, .slice x4.2.1.1.2.1 r2.2.1.1.1.2.length x4.2.1.1.2.2, .slice x4.2.1.2.1.1 r2.2.1.1.2.1.length x4.2.1.2.1.2, .slice x4.2.1.2.2.1 r2.2.1.1.2.2.length x4.2.1.2.2.2, .slice x4.2.2.1.1 r2.2.1.2.1.length x4.2.2.1.2, .slice x4.2.2.2.1.1 r2.2.1.2.2.1.length x4.2.2.2.1.2, .slice a40 ((r2.2.1.2.2.2.1 ++ [r36.1]).length) c41, .int .i64 (r2.2.1.2.2.2.2)]) ty121 rfl rfl (up5t up1) rfl (by simp [Value.cells, Value.oneCell']) (Nat.le_of_ble_eq_true rfl) rfl) (nl (bR ?_))))))
     obtain rfl := si H
     exact back1 (x4.2.1, (x4.2.2.1, x4.2.2.2.1, (a40, c41), ())) rfl (ResV.agg ty121 rfl (hs5t hs1) rfl) rfl (cN aS.s (cN aS.s.s (cN aS.s.s.s cO))) (.cons dl3 (.cons dl3 (.cons dl3 (.cons aA (.cons aA .nil)))))
    ·refine bI (nB (nT (sr (aI (bK ty121 rfl hs1 rfl) (stb (cs' := [.slice x4.2.1.1.1.1 r2.2.1.1.1.1.length x4.2.1.1.1.2, .slice x4.2.1.1.2.1 r2.2.1.1.1.2.length x4.2.1.1.2.2, .slice x4.2.1.2.1.1 r2.2.1.1.2.1.length x4.2.1.2.1.2, .slice x4.2.1.2.2.1 r2.2.1.1.2.2.length x4.2.1.2.2.2, .slice x4.2.2.1.1 r2.2.1.2.1.length x4.2.2.1.2, .slice x4.2.2.2.1.1 r2.2.1.2.2.1.length x4.2.2.2.1.2, .slice x4.2.2.2.2.1.1 r2.2.1.2.2.2.1.length x4.2.2.2.2.1.2, .int .i64 (r2.2.1.2.2.2.2)]) ty121 (up5t up1) (nl (bR ?_)))))))
     obtain rfl := si H
     exact back1 (x4.2.1, (x4.2.2.1, x4.2.2.2.1, x4.2.2.2.2.1, ())) rfl (ResV.agg ty121 rfl (hs5t hs1) rfl) rfl (cN aS.s (cN aS.s.s (cN aS.s.s.s cO))) (.cons dl2 (.cons dl2 (.cons dl2 (.cons dl2 (.cons aA .nil)))))
noncomputable def p_spec_l71Block_b0 (v0 : L6Rd) (Q10 : Int × (List Row) × Int) : Option ((Int × (List Row) × Int) ⊕ (Int × (List Row))) := cond (decide (0 < Q10.2.2)) (bd (p_spec_l71Row (v0.1, Q10.1)) fun r19 => bd (p_spec_l2Row r19.1) fun r23 => cond (r23) (bd (p_spec_l2Put Q10.2.1 r19.1) fun r26 => gd (I64 (Q10.2.2 - 1)) <| some (.inl (r19.2, r26, Q10.2.2 - 1))) (gd (I64 (Q10.2.2 - 1)) <| some (.inl (r19.2, Q10.2.1, Q10.2.2 - 1)))) (some (.inr (Q10.1, Q10.2.1)))
noncomputable def p_spec_l71Block_b1 (v0 : L6Rd) (Q47 : Int × (List Row) × Int) : Option ((Int × (List Row) × Int) ⊕ ((List Row) × Int)) := bd (p_spec_l6Rd_pick (v0.1, Q47.1) 2) fun r55 => gd (I64 (24 - r55.1)) <| cond (decide ((Q47.2.1.length : Int) < (24 - r55.1))) (gd (room (Q47.2.1.length + 1)) <| gd (I64 (Q47.2.2 + 1)) <| some (.inl (r55.2, (Q47.2.1 ++ [(Q47.2.2, 1)]), Q47.2.2 + 1))) (some (.inr (Q47.2.1, r55.2)))
noncomputable def p_spec_l71Block (v0 : L6Rd) : Option ((List Row) × Int) := bd (p_spec_l6Rd_pick v0 9) fun r3 => bd (lp (p_spec_l71Block_b0 v0) (r3.2, ([] : List Row), r3.1)) fun x6 => bd (p_spec_l6Rd_pick (v0.1, x6.1) 24) fun r31 => cond (decide (r31.1 = 0)) (bd (p_spec_l71Row (v0.1, r31.2)) fun r35 => gd (room (x6.2.length + 1)) <| some (x6.2 ++ [r35.1], r35.2)) (cond (decide (r31.1 = 1)) (bd (lp (p_spec_l71Block_b1 v0) (r31.2, x6.2, 50)) fun x43 => some (x43.1, x43.2)) (some (x6.2, r31.2)))
theorem c_spec_l71Block {r : (List Row) × Int} (g_v0 : Nat) (v0 : L6Rd) (x_v0 : (Option Addr × Nat) × Unit) (H : p_spec_l71Block v0 = some r) : Fn' prog 135 #[.pointer (some ⟨g_v0, 0, none⟩)] [imm (.slice x_v0.1.1 v0.1.length x_v0.1.2) v0.1] [box g_v0 169 [.slice x_v0.1.1 v0.1.length x_v0.1.2, .int .i64 (v0.2)]] (ι := Option Addr × Nat) (fun x => .slice x.1 r.1.length x.2) (fun _ => []) (fun x => [tree (.slice x.1 r.1.length x.2) r.1, box g_v0 169 [.slice x_v0.1.1 v0.1.length x_v0.1.2, .int .i64 (r.2)]]) := by
 refine cof (args := [_]) func135 ntmps135 fun c => ?_
 unfold p_spec_l71Block at H
 refine sr (aH (v := .slice none 0 0) rfl (nl (sr (f2 (e_lit0 Row dV ty57) fun a1 c2 => (aH rfl (nl (aD (sr (aF rfl (bdo H fun r3 h4 H => (f1 (cI (c_spec_l6Rd_pick g_v0 v0 (x_v0.1, ()) 9 h4) (Solo.box bH) (fun _ => (Solo.box bH)) rfl (.cons dl1 .nil) (aC (aM aS) aP)) fun u5 => (aH rfl (nl ?_)))))))))))))
 refine bdo H fun x6 hx7 H => (dC (ι := Option Addr × Nat) (fun ψ => [(0, .pointer (some ⟨g_v0, 0, none⟩)), (3, .slice ψ.1 x6.2.length ψ.2)]) (fun ψ => [box g_v0 169 [.slice x_v0.1.1 v0.1.length x_v0.1.2, .int .i64 (x6.1)], tree (.slice ψ.1 x6.2.length ψ.2) x6.2]) ?_ ?_)
 ·refine aR (dF hx7 (a1, c2) (fun Q10 z11 => [(0, .pointer (some ⟨g_v0, 0, none⟩)), (3, .slice z11.1 Q10.2.1.length z11.2), (4, .int .i64 (Q10.2.2))]) (fun Q10 z11 => [box g_v0 169 [.slice x_v0.1.1 v0.1.length x_v0.1.2, .int .i64 (Q10.1)], tree (.slice z11.1 Q10.2.1.length z11.2) Q10.2.1]) (.cons aA (.cons aA .nil)) ?_)
  rintro _ Q10 z11 t13 H1 hi14 hb15
  unfold p_spec_l71Block_b0 at H1
  refine aD (sr (aF rfl (aG (cW rfl rfl) (nl (cH H1 rfl (fun h18 H1 => ?_) (fun h18 H1 => ?_))))))
  ·refine bI (nT (aD (aR (sr (aF rfl (bdo H1 fun r19 h20 H1 => (f1 (cI (c_spec_l71Row g_v0 (v0.1, Q10.1) (x_v0.1, ()) h20) (Solo.box bH) (fun _ => (Solo.box bH)) rfl (.cons aA .nil) (aC (aM aS) aP)) fun u21 => (f1 (cE ty57) fun g22 => (stb (cs' := [.int .i64 (r19.1.1), .int .i64 (r19.1.2)]) ty57 cZ (nl ?_))))))))))
   refine sr (aI (bK ty57 rfl aB rfl) (bdo H1 fun r23 h24 H1 => (aI (bO (c_spec_l2Row r19.1 h24) rfl aP) (nl (cH H1 rfl (fun h25 H1 => ?_) (fun h25 H1 => ?_))))))
   ·refine aQ (aF rfl (aI (bK ty57 rfl aB rfl) (bdo H1 fun r26 h27 H1 => (f1 (cG (c_spec_l2Put Q10.2.1 z11 r19.1 h27) (fun _ => (bG bH)) rfl (aC (bM hs2) aP)) fun x28 => (aH rfl (aJ (nB (nT (aQ (aF rfl (gdo H1 fun h29 H1 => ?_)))))))))))
    exact aG (cT rfl rfl h29) (aH rfl (aJ (nLI (x28.1, x28.2) (hi14 _ (sm H1)) (.cons dl2 (.cons aA .nil)))))
   ·exact bI (nB (nT (aQ (aF rfl (gdo H1 fun h30 H1 => (aG (cT rfl rfl h30) (aH rfl (aJ (nLI (z11.1, z11.2) (hi14 _ (sm H1)) (.cons dl1 (.cons dl1 .nil)))))))))))
  ·refine dB (xT (xT (xE (?_))))
   obtain rfl := hb15 _ (sm H1)
   exact nMC (z11.1, z11.2) ⟨rfl, rfl, trivial⟩ bU (.cons aA (.cons aA .nil))
 ·intro y12
  show At _ _ [(0, .pointer (some ⟨g_v0, 0, none⟩)), (3, .slice y12.1 x6.2.length y12.2)] _ [box g_v0 169 [.slice x_v0.1.1 v0.1.length x_v0.1.2, .int .i64 (x6.1)], tree (.slice y12.1 x6.2.length y12.2) x6.2] _
  refine nT (aD (sr (aF rfl (bdo H fun r31 h32 H => (f1 (cI (c_spec_l6Rd_pick g_v0 (v0.1, x6.1) (x_v0.1, ()) 24 h32) (Solo.box bH) (fun _ => (Solo.box bH)) rfl (.cons aA .nil) (aC (aM aS) aP)) fun u33 => (nl (aR (sr (aG (cV rfl rfl) (aH rfl (nl ?_)))))))))))
  refine cH H rfl (fun h34 H => ?_) (fun h34 H => ?_)
  ·refine sr (aF rfl (aF rfl (bdo H fun r35 h36 H => (f1 (cI (c_spec_l71Row g_v0 (v0.1, r31.2) (x_v0.1, ()) h36) (Solo.box bH) (fun _ => (Solo.box bH)) rfl (.cons aA .nil) (aC (aM aS) aP)) fun u37 => (f1 (e_lit (vs := [(0, .agg #[.int .i64 (r35.1.1), .int .i64 (r35.1.2)])]) [.int .i64 (r35.1.1), .int .i64 (r35.1.2)] dV ty57 rfl (by decide) (by decide) (by kernel_rfl)) fun g38 => (gdo H fun h41 H => (f2 (e_app1 (l := x6.2) (α := Row) r35.1 ((), ()) dV ty57 rfl rfl (h41.b (by decide)) h41.x rfl (cY _) (.cons dl2 (.cons aA .nil))) fun a39 c40 => (aH rfl (nl (bR ?_))))))))))
   refine rB (rT (?_))
   obtain rfl := si H
   exact back1 (a39, c40) rfl (ResV.tmp (v := .slice a39 ((x6.2 ++ [r35.1]).length) c40) rfl) rfl cO (.cons aA (.cons aA .nil))
  ·refine sr (aG (cV rfl rfl) (aH rfl (nl (cH H rfl (fun h42 H => ?_) (fun h42 H => ?_)))))
   ·refine sr (aH (v := .int .i64 (50)) rfl (nl (bdo H fun x43 hx44 H => (dC (ι := Option Addr × Nat) (fun ψ => [(3, .slice ψ.1 x43.1.length ψ.2)]) (fun ψ => [tree (.slice ψ.1 x43.1.length ψ.2) x43.1, box g_v0 169 [.slice x_v0.1.1 v0.1.length x_v0.1.2, .int .i64 (x43.2)]]) ?_ ?_))))
    ·refine aR (dF hx44 (y12.1, y12.2) (fun Q47 z48 => [(0, .pointer (some ⟨g_v0, 0, none⟩)), (3, .slice z48.1 Q47.2.1.length z48.2), (6, .int .i64 (Q47.2.2))]) (fun Q47 z48 => [box g_v0 169 [.slice x_v0.1.1 v0.1.length x_v0.1.2, .int .i64 (Q47.1)], tree (.slice z48.1 Q47.2.1.length z48.2) Q47.2.1]) (.cons aA (.cons aA .nil)) ?_)
     rintro _ Q47 z48 t50 H1 hi51 hb52
     unfold p_spec_l71Block_b1 at H1
     refine aD (sr (aF rfl (aG (bT 57 dV rfl) (aF rfl (bdo H1 fun r55 h56 H1 => (f1 (cI (c_spec_l6Rd_pick g_v0 (v0.1, Q47.1) (x_v0.1, ()) 2 h56) (Solo.box bH) (fun _ => (Solo.box bH)) rfl (.cons aA .nil) (aC (aM aS) aP)) fun u57 => (gdo H1 fun h58 H1 => (aG (cT rfl rfl h58) (aG (cS rfl rfl) (nl (cH H1 rfl (fun h59 H1 => ?_) (fun h59 H1 => ?_))))))))))))
     ·refine bI (nT (aD (aR (aQ (aF rfl (aF rfl (aG (v := .agg #[.int .i64 (Q47.2.2), .int .i64 (1)]) (p_buildS (vs := [(0, .int .i64 (Q47.2.2)), (1, .int .i64 (1))]) (cs := #[.int .i64 (Q47.2.2), .int .i64 (1)]) ty57 pl57 rfl rfl) (f1 (e_lit (vs := [(0, .agg #[.int .i64 (Q47.2.2), .int .i64 (1)])]) [.int .i64 (Q47.2.2), .int .i64 (1)] dV ty57 rfl (by decide) (by decide) (by kernel_rfl)) fun g60 => (gdo H1 fun h63 H1 => (f2 (e_app1 (l := Q47.2.1) (α := Row) (Q47.2.2, 1) ((), ()) dV ty57 rfl rfl (h63.b (by decide)) h63.x rfl (cY _) (.cons dl2 (.cons aA .nil))) fun a61 c62 => ?_))))))))))
      exact aH rfl (aJ (nB (nT (aQ (aF rfl (gdo H1 fun h64 H1 => (aG (bS rfl rfl h64) (aH rfl (aJ (nLI (a61, c62) (hi51 _ (sm H1)) (.cons dl1 (.cons aA .nil))))))))))))
     ·refine dB (xT (xT (xE (?_))))
      obtain rfl := hb52 _ (sm H1)
      exact nMC (z48.1, z48.2) ⟨rfl, trivial⟩ bU (.cons dl1 (.cons aA .nil))
    ·intro y49
     show At _ _ [(3, .slice y49.1 x43.1.length y49.2)] _ [tree (.slice y49.1 x43.1.length y49.2) x43.1, box g_v0 169 [.slice x_v0.1.1 v0.1.length x_v0.1.2, .int .i64 (x43.2)]] _
     refine nB (nT (sr (aF rfl (aH rfl (nl (bR ?_))))))
     obtain rfl := si H
     exact back1 y49 rfl (ResV.tmp (v := .slice y49.1 x43.1.length y49.2) rfl) rfl cO (.cons aA (.cons aA .nil))
   ·refine bI (nB (nT (sr (aF rfl (aH rfl (nl (bR ?_)))))))
    obtain rfl := si H
    exact back1 y12 rfl (ResV.tmp (v := .slice y12.1 x6.2.length y12.2) rfl) rfl cO (.cons dl1 (.cons aA .nil))
noncomputable def p_spec_l72Part_b0 (v0 : L6Rd) (Q8 : Int × (List (List Row)) × Int) : Option ((Int × (List (List Row)) × Int) ⊕ (Int × (List (List Row)))) := cond (decide (Q8.2.2 < 4)) (bd (p_spec_l6Rd_pick (v0.1, Q8.1) 2) fun r19 => cond (decide (r19.1 = 0)) (bd (p_spec_l71Block (v0.1, r19.2)) fun r23 => gd (room (Q8.2.1.length + 1)) <| gd (I64 (Q8.2.2 + 1)) <| some (.inl (r23.2, (Q8.2.1 ++ [r23.1]), Q8.2.2 + 1))) (gd (room (Q8.2.1.length + 1)) <| gd (I64 (Q8.2.2 + 1)) <| some (.inl (r19.2, (Q8.2.1 ++ [([] : List Row)]), Q8.2.2 + 1)))) (some (.inr (Q8.1, Q8.2.1)))
noncomputable def p_spec_l72Part (v0 : L6Rd) : Option (Part × Int) := bd (lp (p_spec_l72Part_b0 v0) (v0.2, ([] : List (List Row)), 0)) fun x4 => bd (p_spec_l12Make x4.2) fun r36 => bd (p_spec_l6Rd_pick (v0.1, x4.1) 24) fun r40 => cond (decide (r40.1 = 0)) (bd (p_spec_l6Rd_pick (v0.1, r40.2) 9) fun r44 => gd (room (r36.1.length + 1)) <| some (((r36.1 ++ [r44.1]), r36.2), r44.2)) (cond (decide (r40.1 = 1)) (gd (room (r36.1.length + 1)) <| gd (room (r36.2.length + 1)) <| some (((r36.1 ++ [6]), (r36.2 ++ [([] : List Row)])), r40.2)) (some (r36, r40.2)))
theorem c_spec_l72Part {r : Part × Int} (g_v0 : Nat) (v0 : L6Rd) (x_v0 : (Option Addr × Nat) × Unit) (H : p_spec_l72Part v0 = some r) : Fn' prog 81 #[.pointer (some ⟨g_v0, 0, none⟩)] [imm (.slice x_v0.1.1 v0.1.length x_v0.1.2) v0.1] [box g_v0 169 [.slice x_v0.1.1 v0.1.length x_v0.1.2, .int .i64 (v0.2)]] (ι := (Option Addr × Nat) × (Option Addr × Nat)) (fun x => .agg #[.slice x.1.1 r.1.1.length x.1.2, .slice x.2.1 r.1.2.length x.2.2]) (fun _ => []) (fun x => [tree (.slice x.1.1 r.1.1.length x.1.2) r.1.1, tree (.slice x.2.1 r.1.2.length x.2.2) r.1.2, box g_v0 169 [.slice x_v0.1.1 v0.1.length x_v0.1.2, .int .i64 (r.2)]]) := by
 refine cof (args := [_]) func81 ntmps81 fun c => ?_
 unfold p_spec_l72Part at H
 refine sr (f1 (cE ty72) fun g1 => (nl (sr (f2 (e_lit0 (List Row) dX ty63) fun a2 c3 => (aH rfl (nl (aD (sr (aH (v := .int .i64 (0)) rfl (nl (bdo H fun x4 hx5 H => (dC (ι := Option Addr × Nat) (fun ψ => [(0, .pointer (some ⟨g_v0, 0, none⟩)), (2, .pointer (some ⟨g1, 0, none⟩)), (3, .slice ψ.1 x4.2.length ψ.2)]) (fun ψ => [box g_v0 169 [.slice x_v0.1.1 v0.1.length x_v0.1.2, .int .i64 (x4.1)], box g1 72 [.slice none 0 0, .slice none 0 0], tree (.slice ψ.1 x4.2.length ψ.2) x4.2]) ?_ ?_))))))))))))
 ·refine aR (dF hx5 (a2, c3) (fun Q8 z9 => [(0, .pointer (some ⟨g_v0, 0, none⟩)), (2, .pointer (some ⟨g1, 0, none⟩)), (3, .slice z9.1 Q8.2.1.length z9.2), (4, .int .i64 (Q8.2.2))]) (fun Q8 z9 => [box g_v0 169 [.slice x_v0.1.1 v0.1.length x_v0.1.2, .int .i64 (Q8.1)], box g1 72 [.slice none 0 0, .slice none 0 0], tree (.slice z9.1 Q8.2.1.length z9.2) Q8.2.1]) (.cons dl2 (.cons dl1 (.cons aA .nil))) ?_)
  rintro _ Q8 z9 t11 H1 hi12 hb13
  unfold p_spec_l72Part_b0 at H1
  refine aD (sr (aF rfl (aG (cS rfl rfl) (nl (cH H1 rfl (fun h16 H1 => ?_) (fun h16 H1 => ?_))))))
  ·refine bI (nT (aD (aR (sr (f2 (e_lit0 Row dV ty57) fun a17 c18 => (aH rfl (nl (aD (sr (aF rfl (bdo H1 fun r19 h20 H1 => (f1 (cI (c_spec_l6Rd_pick g_v0 (v0.1, Q8.1) (x_v0.1, ()) 2 h20) (Solo.box bH) (fun _ => (Solo.box bH)) rfl (.cons dl1 .nil) (aC (aM aS) aP)) fun u21 => ?_))))))))))))
   refine aG (cV rfl rfl) (nl (cH H1 rfl (fun h22 H1 => ?_) (fun h22 H1 => ?_)))
   ·refine aQ (aF rfl (bdo H1 fun r23 h24 H1 => (f1 (cI (c_spec_l71Block g_v0 (v0.1, r19.2) (x_v0.1, ()) h24) (Solo.box bH) (fun _ => (bG (Solo.box bH))) rfl (.cons aA .nil) (aC (aM aS) aP)) fun x25 => (aH rfl (nl (aQ (aF rfl (aF rfl (f1 (e_lit (vs := [(0, .slice x25.1 r23.1.length x25.2)]) [.slice x25.1 r23.1.length x25.2] dX ty63 rfl (by decide) (by decide) (by kernel_rfl)) fun g26 => (gdo H1 fun h29 H1 => ?_))))))))))
    exact f2 (e_app1 (l := Q8.2.1) (α := (List Row)) r23.1 x25 dX ty63 rfl rfl (h29.b (by decide)) h29.x rfl (cY _) (.cons dl5 (.cons aA (.cons aA .nil)))) fun a27 c28 => (aH rfl (aJ (nB (nT (aQ (aF rfl (gdo H1 fun h30 H1 => (aG (bS rfl rfl h30) (aH rfl (aJ (nLI (a27, c28) (hi12 _ (sm H1)) (.cons dl1 (.cons dl2 (.cons aA .nil))))))))))))))
   ·refine bI (nT (aQ (aF rfl (aF rfl (f1 (e_lit (vs := [(0, .slice a17 (([] : List Row).length) c18)]) [.slice a17 (([] : List Row).length) c18] dX ty63 rfl (by decide) (by decide) (by kernel_rfl)) fun g31 => (gdo H1 fun h34 H1 => (f2 (e_app1 (l := Q8.2.1) (α := (List Row)) ([] : List Row) (a17, c18) dX ty63 rfl rfl (h34.b (by decide)) h34.x rfl (cY _) (.cons dl4 (.cons aA (.cons dl1 .nil)))) fun a32 c33 => (aH rfl (aJ (nB (nT (?_))))))))))))
    exact aQ (aF rfl (gdo H1 fun h35 H1 => (aG (bS rfl rfl h35) (aH rfl (aJ (nLI (a32, c33) (hi12 _ (sm H1)) (.cons dl1 (.cons dl1 (.cons aA .nil)))))))))
  ·refine dB (xT (xT (xE (?_))))
   obtain rfl := hb13 _ (sm H1)
   exact nMC (z9.1, z9.2) ⟨rfl, rfl, rfl, trivial⟩ bU (.cons aA (.cons aA (.cons aA .nil)))
 ·intro y10
  show At _ _ [(0, .pointer (some ⟨g_v0, 0, none⟩)), (2, .pointer (some ⟨g1, 0, none⟩)), (3, .slice y10.1 x4.2.length y10.2)] _ [box g_v0 169 [.slice x_v0.1.1 v0.1.length x_v0.1.2, .int .i64 (x4.1)], box g1 72 [.slice none 0 0, .slice none 0 0], tree (.slice y10.1 x4.2.length y10.2) x4.2] _
  refine nT (sr (aF rfl (bdo H fun r36 h37 H => (f1 (cG (c_spec_l12Make x4.2 y10 h37) (fun _ => (bG (bG bH))) rfl (aC (bM hs2) aP)) fun x38 => (f1 (cE ty72) fun g39 => (stb (cs' := [.slice x38.1.1 r36.1.length x38.1.2, .slice x38.2.1 r36.2.length x38.2.2]) ty72 cZ (nl (aD (sr (aF rfl ?_))))))))))
  refine bdo H fun r40 h41 H => (f1 (cI (c_spec_l6Rd_pick g_v0 (v0.1, x4.1) (x_v0.1, ()) 24 h41) (Solo.box bH) (fun _ => (Solo.box bH)) rfl (.cons dl3 .nil) (aC (aM aS) aP)) fun u42 => (nl (aR (sr (aG (cV rfl rfl) (aH rfl (nl (cH H rfl (fun h43 H => ?_) (fun h43 H => ?_)))))))))
  ·refine dH [(6, .pointer (some ⟨g39, 0, none⟩)), (0, .pointer (some ⟨g_v0, 0, none⟩)), (2, .pointer (some ⟨g1, 0, none⟩))] 1 [0, 1, 2, 3, 4, 5, 6, 7] [3, 4, 5, 7] [] mixed (by kernel_rfl) (by decide) dJ ⟨rfl, rfl, rfl, trivial⟩ rfl okNil (w_p rfl (cC fa72_0 rfl rfl) ?_)
   refine w_o rfl (fun F => (bJ ty69 rfl (hs1.app F) rfl)) (w_p rfl (aE rfl) (bdo H fun r44 h45 H => (cK rfl (by decide) rfl cP rfl (n_callM (c_spec_l6Rd_pick g_v0 (v0.1, r40.2) (x_v0.1, ()) 9 h45) (Solo.box bH) (fun _ => (Solo.box bH)) rfl (.cons aA .nil) (aC (aM aS) aP)) ?_)))
   rintro _ _ _ ⟨u46, rfl, rfl, rfl⟩
   refine ⟨(bW rfl rfl (fun F => (bJ ty69 rfl (hs1.app F) rfl)) bV), ?_⟩
   refine cK rfl (by decide) rfl cP rfl (n_lit (vs := [(0, .int .i64 (r44.1))]) [.int .i64 (r44.1)] dW ty3 rfl (by decide) (by decide) (by kernel_rfl)) ?_
   rintro _ _ _ ⟨g47, rfl, rfl, rfl⟩
   refine ⟨(bW rfl rfl (fun F => (bJ ty69 rfl (hs2.app F) rfl)) bV), ?_⟩
   refine gdo H fun h50 H => (cK rfl (by decide) rfl cP rfl (n_app1 (l := r36.1) (α := Int) r44.1 () dW ty3 rfl rfl (h50.b (by decide)) h50.x rfl (cY _) (.cons dl3 (.cons aA .nil))) ?_)
   rintro _ _ _ ⟨a48, c49, rfl, rfl, rfl⟩
   refine ⟨(aN (by kernel_rfl) bV), ?_⟩
   refine w_p rfl (cC fa72_0 rfl rfl) (cL rfl rfl cP rfl (n_store (cs' := [.slice a48 ((r36.1 ++ [r44.1]).length) c49, .slice x38.2.1 r36.2.length x38.2.2]) ty69 rfl rfl up2 rfl (by simp [Value.cells, Value.oneCell']) (Nat.le_of_ble_eq_true rfl) rfl) ?_)
   rintro _ _ _ ⟨rfl, rfl, rfl⟩
   refine ⟨(aN (by kernel_rfl) bV), ?_⟩
   refine cM ?_
   show At _ _ _ _ _ _
   refine nB (nT (sr (aI (bK ty72 rfl hs2 rfl) (g0 (e_store (cs' := [.slice a48 ((r36.1 ++ [r44.1]).length) c49, .slice x38.2.1 r36.2.length x38.2.2]) ty72 rfl rfl up4 rfl (by simp [Value.cells, Value.oneCell']) (Nat.le_of_ble_eq_true rfl) rfl) (nl (bR ?_))))))
   obtain rfl := si H
   exact back1 ((a48, c49), x38.2) rfl (ResV.agg ty72 rfl hs4 rfl) rfl cO (.cons aA (.cons dl2 (.cons aA .nil)))
  ·refine sr (aG (cV rfl rfl) (aH rfl (nl (cH H rfl (fun h51 H => ?_) (fun h51 H => ?_)))))
   ·refine sr (aG (cC fa72_0 rfl rfl) (aI (bJ ty69 rfl hs1 rfl) (f1 (e_lit (vs := [(0, .int .i64 (6))]) [.int .i64 (6)] dW ty3 rfl (by decide) (by decide) (by kernel_rfl)) fun g52 => (gdo H fun h55 H => (f2 (e_app1 (l := r36.1) (α := Int) 6 () dW ty3 rfl rfl (h55.b (by decide)) h55.x rfl (cY _) (.cons dl3 (.cons aA .nil))) fun a53 c54 => (aG (cC fa72_0 rfl rfl) (stb (cs' := [.slice a53 ((r36.1 ++ [6]).length) c54, .slice x38.2.1 r36.2.length x38.2.2]) ty69 up2 (nl (aQ ?_)))))))))
    refine aG (cC fa72_1 rfl rfl) (aI (bJ ty70 rfl hs2 rfl) (f2 (e_lit0 Row dV ty57) fun a56 c57 => (f1 (e_lit (vs := [(0, .slice a56 (([] : List Row).length) c57)]) [.slice a56 (([] : List Row).length) c57] dX ty63 rfl (by decide) (by decide) (by kernel_rfl)) fun g58 => (gdo H fun h61 H => (f2 (e_app1 (l := r36.2) (α := (List Row)) ([] : List Row) (a56, c57) dX ty63 rfl rfl (h61.b (by decide)) h61.x rfl (cY _) (.cons dl5 (.cons aA (.cons aA .nil)))) fun a59 c60 => (aG (cC fa72_1 rfl rfl) (stb (cs' := [.slice a53 ((r36.1 ++ [6]).length) c54, .slice a59 ((r36.2 ++ [([] : List Row)]).length) c60]) ty70 up3 (aJ (nB (nT (?_)))))))))))
    refine sr (aI (bK ty72 rfl hs3 rfl) (stb (cs' := [.slice a53 ((r36.1 ++ [6]).length) c54, .slice a59 ((r36.2 ++ [([] : List Row)]).length) c60]) ty72 up4 (nl (bR ?_))))
    obtain rfl := si H
    exact back1 ((a53, c54), (a59, c60)) rfl (ResV.agg ty72 rfl hs4 rfl) rfl cO (.cons dl1 (.cons aA (.cons aA .nil)))
   ·refine bI (nB (nT (sr (aI (bK ty72 rfl hs1 rfl) (stb (cs' := [.slice x38.1.1 r36.1.length x38.1.2, .slice x38.2.1 r36.2.length x38.2.2]) ty72 up4 (nl (bR ?_)))))))
    obtain rfl := si H
    exact back1 x38 rfl (ResV.agg ty72 rfl hs4 rfl) rfl cO (.cons dl2 (.cons dl2 (.cons aA .nil)))
noncomputable def p_spec_DrawDiskOk (v0 : (List UInt8)) : Option (Disk) := bd (p_spec_l6Open v0) fun r2 => bd (p_spec_l72World r2) fun r5 => bd (p_spec_l6Rd_pick (r2.1, r5.2) 8) fun r9 => cond (decide (r9.1 = 0)) (bd (p_spec_l6Rd_pick (r2.1, r9.2) 9) fun r13 => gd (room (r5.1.2.2.1.length + 1)) <| some (r5.1.2.1, (r5.1.2.2.1 ++ [r13.1]), r5.1.2.2.2.1, r5.1.2.2.2.2)) (cond (decide (r9.1 = 1)) (bd (p_spec_l6Rd_pick (r2.1, r9.2) 4) fun r21 => some (r5.1.2.1, r5.1.2.2.1, r5.1.2.2.2.1, r21.1)) (cond (decide (r9.1 = 2)) (bd (p_spec_l6Rd_pick (r2.1, r9.2) 2) fun r25 => gd (I64 (r5.1.2.2.2.2 - r25.1)) <| bd (p_spec_l72Part (r2.1, r25.2)) fun r29 => gd (room (r5.1.2.1.length + 1)) <| some ((r5.1.2.1 ++ [((r5.1.2.2.2.2 - r25.1), r29.1)]), r5.1.2.2.1, r5.1.2.2.2.1, r5.1.2.2.2.2)) (some r5.1.2)))
theorem c_spec_DrawDiskOk {r : Disk} (v0 : (List UInt8)) (x_v0 : Option Addr × Nat) (H : p_spec_DrawDiskOk v0 = some r) : Fn' prog 31 #[.slice x_v0.1 v0.length x_v0.2] [imm (.slice x_v0.1 v0.length x_v0.2) v0] [] (ι := (Option Addr × Nat) × (Option Addr × Nat) × (Option Addr × Nat) × Unit) (fun x => .agg #[.slice x.1.1 r.1.length x.1.2, .slice x.2.1.1 r.2.1.length x.2.1.2, .slice x.2.2.1.1 r.2.2.1.length x.2.2.1.2, .int .i64 (r.2.2.2)]) (fun x => [imm (.slice x.1.1 r.1.length x.1.2) r.1, imm (.slice x.2.1.1 r.2.1.length x.2.1.2) r.2.1, imm (.slice x.2.2.1.1 r.2.2.1.length x.2.2.1.2) r.2.2.1]) (fun _ => []) := by
 refine cof (args := [_]) func31 ntmps31 fun c => ?_
 unfold p_spec_DrawDiskOk at H
 refine sr (f1 (cE ty76) fun g1 => (nl (sr (aF rfl (bdo H fun r2 h3 H => (f1 (e_call (c_spec_l6Open v0 x_v0 h3) rfl (cN aS cO) bL) fun x4 => (aH rfl (nl (sr (aF rfl ?_))))))))))
 refine bdo H fun r5 h6 H => (f1 (e_call (c_spec_l72World x4.1 r2 (x4.2.1, ()) h6) rfl (cN aS cO) (.cons aA .nil)) fun x7 => (aG (v := .agg #[.slice x7.2.1.1 r5.1.2.1.length x7.2.1.2, .slice x7.2.2.1.1 r5.1.2.2.1.length x7.2.2.1.2, .slice x7.2.2.2.1.1 r5.1.2.2.2.1.length x7.2.2.2.1.2, .int .i64 (r5.1.2.2.2.2)]) ((p_fieldA (vs := #[.slice x7.2.1.1 r5.1.2.1.length x7.2.1.2, .slice x7.2.2.1.1 r5.1.2.2.1.length x7.2.2.1.2, .slice x7.2.2.2.1.1 r5.1.2.2.2.1.length x7.2.2.2.1.2, .int .i64 (r5.1.2.2.2.2)]) underlying121 rfl ty76 rfl rfl)) (f1 (cE ty76) fun g8 => (stb (cs' := [.slice x7.2.1.1 r5.1.2.1.length x7.2.1.2, .slice x7.2.2.1.1 r5.1.2.2.1.length x7.2.2.1.2, .slice x7.2.2.2.1.1 r5.1.2.2.2.1.length x7.2.2.2.1.2, .int .i64 (r5.1.2.2.2.2)]) ty76 cZ (nl (aD (sr (aF rfl (bdo H fun r9 h10 H => (f1 (cI (c_spec_l6Rd_pick x4.1 (r2.1, r5.2) (x4.2.1, ()) 8 h10) (Solo.box bH) (fun _ => (Solo.box bH)) rfl (.cons dl5 .nil) (aC (aM aS.s.s.s) aP)) fun u11 => ?_))))))))))
 refine nl (aR (sr (aG (cV rfl rfl) (aH rfl (nl (cH H rfl (fun h12 H => ?_) (fun h12 H => ?_)))))))
 ·refine dH [(4, .pointer (some ⟨g8, 0, none⟩)), (3, .pointer (some ⟨x4.1, 0, none⟩)), (2, .pointer (some ⟨g1, 0, none⟩))] 1 [0, 1, 2, 3, 4, 5, 6, 7] [3, 4, 5, 7] [] mixed (by kernel_rfl) (by decide) dJ ⟨rfl, rfl, rfl, trivial⟩ rfl okNil (w_p rfl (cC fa76_1 rfl rfl) ?_)
  refine w_o rfl (fun F => (bJ ty69 rfl (hs1.app F) rfl)) (w_p rfl (aE rfl) (bdo H fun r13 h14 H => (cK rfl (by decide) rfl cP rfl (n_callM (c_spec_l6Rd_pick x4.1 (r2.1, r9.2) (x4.2.1, ()) 9 h14) (Solo.box bH) (fun _ => (Solo.box bH)) rfl (.cons aA .nil) (aC (aM aS.s.s.s) aP)) ?_)))
  rintro _ _ _ ⟨u15, rfl, rfl, rfl⟩
  refine ⟨(bW rfl rfl (fun F => (bJ ty69 rfl (hs1.app F) rfl)) bV), ?_⟩
  refine cK rfl (by decide) rfl cP rfl (n_lit (vs := [(0, .int .i64 (r13.1))]) [.int .i64 (r13.1)] dW ty3 rfl (by decide) (by decide) (by kernel_rfl)) ?_
  rintro _ _ _ ⟨g16, rfl, rfl, rfl⟩
  refine ⟨(bW rfl rfl (fun F => (bJ ty69 rfl (hs2.app F) rfl)) bV), ?_⟩
  refine gdo H fun h19 H => (cK rfl (by decide) rfl cP rfl (n_app1O (l := r5.1.2.2.1) (α := Int) r13.1 () dW ty3 rfl rfl (h19.b (by decide)) h19.x rfl (.cons dl5 (.cons aA .nil)) cO) ?_)
  rintro _ _ _ ⟨a17, c18, rfl, rfl, rfl⟩
  refine ⟨(aN (by kernel_rfl) bV), ?_⟩
  refine w_p rfl (cC fa76_1 rfl rfl) (cL rfl rfl cP rfl (n_store (cs' := [.slice x7.2.1.1 r5.1.2.1.length x7.2.1.2, .slice a17 ((r5.1.2.2.1 ++ [r13.1]).length) c18, .slice x7.2.2.2.1.1 r5.1.2.2.2.1.length x7.2.2.2.1.2, .int .i64 (r5.1.2.2.2.2)]) ty69 rfl rfl up2 rfl (by simp [Value.cells, Value.oneCell']) (Nat.le_of_ble_eq_true rfl) rfl) ?_)
  rintro _ _ _ ⟨rfl, rfl, rfl⟩
  refine ⟨(aN (by kernel_rfl) bV), ?_⟩
  refine cM ?_
  show At _ _ _ _ _ _
  refine nB (nT (sr (aI (bK ty76 rfl hs2 rfl) (g0 (e_store (cs' := [.slice x7.2.1.1 r5.1.2.1.length x7.2.1.2, .slice a17 ((r5.1.2.2.1 ++ [r13.1]).length) c18, .slice x7.2.2.2.1.1 r5.1.2.2.2.1.length x7.2.2.2.1.2, .int .i64 (r5.1.2.2.2.2)]) ty76 rfl rfl (up5t up1) rfl (by simp [Value.cells, Value.oneCell']) (Nat.le_of_ble_eq_true rfl) rfl) (nl (Tr.freezeO (.cons dl4 .nil) (Tr.freezeO (.cons aA .nil) (Tr.freezeO (.cons dl3 .nil) (bR ?_)))))))))
  obtain rfl := si H
  exact back1 (x7.2.1, (a17, c18), x7.2.2.2.1, ()) rfl (ResV.agg ty76 rfl hs3 rfl) rfl (cN aS.s.s (cN aS.s (cN aS cO))) bL
 ·refine sr (aG (cV rfl rfl) (aH rfl (nl (cH H rfl (fun h20 H => ?_) (fun h20 H => ?_)))))
  ·refine aQ (aF rfl (bdo H fun r21 h22 H => (f1 (cI (c_spec_l6Rd_pick x4.1 (r2.1, r9.2) (x4.2.1, ()) 4 h22) (Solo.box bH) (fun _ => (Solo.box bH)) rfl (.cons aA .nil) (aC (aM aS.s.s.s) aP)) fun u23 => (aG (cC fa76_3 rfl rfl) (stb (cs' := [.slice x7.2.1.1 r5.1.2.1.length x7.2.1.2, .slice x7.2.2.1.1 r5.1.2.2.1.length x7.2.2.1.2, .slice x7.2.2.2.1.1 r5.1.2.2.2.1.length x7.2.2.2.1.2, .int .i64 (r21.1)]) ty3 up1 (aJ (nB (nT (sr (aI (bK ty76 rfl hs1 rfl) ?_))))))))))
   refine stb (cs' := [.slice x7.2.1.1 r5.1.2.1.length x7.2.1.2, .slice x7.2.2.1.1 r5.1.2.2.1.length x7.2.2.1.2, .slice x7.2.2.2.1.1 r5.1.2.2.2.1.length x7.2.2.2.1.2, .int .i64 (r21.1)]) ty76 (up5t up1) (nl (Tr.freezeO (.cons dl3 .nil) (Tr.freezeO (.cons dl3 .nil) (Tr.freezeO (.cons dl3 .nil) (bR ?_)))))
   obtain rfl := si H
   exact back1 (x7.2.1, x7.2.2.1, x7.2.2.2.1, ()) rfl (ResV.agg ty76 rfl hs3 rfl) rfl (cN aS.s.s (cN aS.s (cN aS cO))) bL
  ·refine sr (aG (cV rfl rfl) (aH rfl (nl (cH H rfl (fun h24 H => ?_) (fun h24 H => ?_)))))
   ·refine dH [(4, .pointer (some ⟨g8, 0, none⟩)), (3, .pointer (some ⟨x4.1, 0, none⟩)), (2, .pointer (some ⟨g1, 0, none⟩))] 3 [0, 1, 2, 3, 4, 7, 5, 6, 8, 9, 10, 11, 12, 13] [5, 8, 10, 11, 13] [] mixed (by kernel_rfl) (by decide) dJ ⟨rfl, rfl, rfl, trivial⟩ rfl okNil (w_p rfl (cC fa76_0 rfl rfl) ?_)
    refine w_o rfl (fun F => (bJ ty74 rfl (hs1.app F) rfl)) (w_p rfl (cC fa76_3 rfl rfl) ?_)
    refine w_o rfl (fun F => (bJ ty3 rfl (hs1.app F) rfl)) (w_p rfl (aE rfl) (w_p rfl (aE rfl) (bdo H fun r25 h26 H => (cK rfl (by decide) rfl cP rfl (n_callM (c_spec_l6Rd_pick x4.1 (r2.1, r9.2) (x4.2.1, ()) 2 h26) (Solo.box bH) (fun _ => (Solo.box bH)) rfl (.cons aA .nil) (aC (aM aS.s.s.s) aP)) ?_))))
    rintro _ _ _ ⟨u27, rfl, rfl, rfl⟩
    refine ⟨(bW rfl rfl (fun F => (bJ ty3 rfl (hs1.app F) rfl)) (bW rfl rfl (fun F => (bJ ty74 rfl (hs1.app F) rfl)) bV)), ?_⟩
    refine gdo H fun h28 H => (w_p rfl (cT rfl rfl h28) (bdo H fun r29 h30 H => (cK rfl (by decide) rfl cP rfl (n_callM (c_spec_l72Part x4.1 (r2.1, r25.2) (x4.2.1, ()) h30) (Solo.box bH) (fun _ => (bG (bG (Solo.box bH)))) rfl (.cons aA .nil) (aC (aM aS.s.s.s) aP)) ?_)))
    rintro _ _ _ ⟨x31, rfl, rfl, rfl⟩
    refine ⟨(bW rfl rfl (fun F => (bJ ty3 rfl (hs3.app F) rfl)) (bW rfl rfl (fun F => (bJ ty74 rfl (hs3.app F) rfl)) bV)), ?_⟩
    refine w_p (v := .agg #[.int .i64 (r5.1.2.2.2.2 - r25.1), .slice x31.1.1 r29.1.1.length x31.1.2, .slice x31.2.1 r29.1.2.length x31.2.2]) rfl (p_buildS (vs := [(0, .int .i64 (r5.1.2.2.2.2 - r25.1)), (1, .agg #[.slice x31.1.1 r29.1.1.length x31.1.2, .slice x31.2.1 r29.1.2.length x31.2.2])]) (cs := #[.int .i64 (r5.1.2.2.2.2 - r25.1), .slice x31.1.1 r29.1.1.length x31.1.2, .slice x31.2.1 r29.1.2.length x31.2.2]) ty80 pl80 rfl rfl) (cK rfl (by decide) rfl cP rfl (n_lit (vs := [(0, .agg #[.int .i64 (r5.1.2.2.2.2 - r25.1), .slice x31.1.1 r29.1.1.length x31.1.2, .slice x31.2.1 r29.1.2.length x31.2.2])]) [.int .i64 (r5.1.2.2.2.2 - r25.1), .slice x31.1.1 r29.1.1.length x31.1.2, .slice x31.2.1 r29.1.2.length x31.2.2] dY ty80 rfl (by decide) (by decide) (by kernel_rfl)) ?_)
    rintro _ _ _ ⟨g32, rfl, rfl, rfl⟩
    refine ⟨(aN (by kernel_rfl) (bW rfl rfl (fun F => (bJ ty74 rfl (hs4.app F) rfl)) bV)), ?_⟩
    refine gdo H fun h35 H => (cK rfl (by decide) rfl cP rfl (n_app1OT (l := r5.1.2.1) (α := File) ((r5.1.2.2.2.2 - r25.1), r29.1) ((), x31) dY ty80 rfl rfl (h35.b (by decide)) h35.x rfl (.cons (dl5t dl1) (.cons aA (.cons aA (.cons aA .nil))))) ?_)
    rintro _ _ _ ⟨a33, c34, rfl, rfl, rfl⟩
    refine ⟨(bW rfl rfl (fun F => (bJ ty3 rfl (hs2.app F) rfl)) (aN (by kernel_rfl) bV)), ?_⟩
    refine w_p rfl (cC fa76_0 rfl rfl) (cL rfl rfl cP rfl (n_store (cs' := [.slice a33 ((r5.1.2.1 ++ [((r5.1.2.2.2.2 - r25.1), r29.1)]).length) c34, .slice x7.2.2.1.1 r5.1.2.2.1.length x7.2.2.1.2, .slice x7.2.2.2.1.1 r5.1.2.2.2.1.length x7.2.2.2.1.2, .int .i64 (r5.1.2.2.2.2)]) ty74 rfl rfl up2 rfl (one_of rfl) (Nat.le_of_ble_eq_true rfl) rfl) ?_)
    rintro _ _ _ ⟨rfl, rfl, rfl⟩
    refine ⟨(aN (by kernel_rfl) (aN (by kernel_rfl) bV)), ?_⟩
    refine cM ?_
    show At _ _ _ _ _ _
    refine nB (nT (sr (aI (bK ty76 rfl hs2 rfl) (stb (cs' := [.slice a33 ((r5.1.2.1 ++ [((r5.1.2.2.2.2 - r25.1), r29.1)]).length) c34, .slice x7.2.2.1.1 r5.1.2.2.1.length x7.2.2.1.2, .slice x7.2.2.2.1.1 r5.1.2.2.2.1.length x7.2.2.2.1.2, .int .i64 (r5.1.2.2.2.2)]) ty76 (up5t up1) (nl (Tr.freezeO (.cons aA .nil) (Tr.freezeO (.cons dl3 .nil) (Tr.freezeO (.cons dl3 .nil) (bR ?_)))))))))
    obtain rfl := si H
    exact back1 ((a33, c34), x7.2.2.1, x7.2.2.2.1, ()) rfl (ResV.agg ty76 rfl hs3 rfl) rfl (cN aS.s.s (cN aS.s (cN aS cO))) bL
   ·refine bI (nB (nT (sr (aI (bK ty76 rfl hs1 rfl) (stb (cs' := [.slice x7.2.1.1 r5.1.2.1.length x7.2.1.2, .slice x7.2.2.1.1 r5.1.2.2.1.length x7.2.2.1.2, .slice x7.2.2.2.1.1 r5.1.2.2.2.1.length x7.2.2.2.1.2, .int .i64 (r5.1.2.2.2.2)]) ty76 (up5t up1) (nl (Tr.freezeO (.cons dl3 .nil) (Tr.freezeO (.cons dl3 .nil) (Tr.freezeO (.cons dl3 .nil) (bR ?_))))))))))
    obtain rfl := si H
    exact back1 (x7.2.1, x7.2.2.1, x7.2.2.2.1, ()) rfl (ResV.agg ty76 rfl hs3 rfl) rfl (cN aS.s.s (cN aS.s (cN aS cO))) bL
noncomputable def p_impl_Disk_file_1 (v0 : File) (k0 : Int) : Option (Bool) := some (decide (v0.1 = k0))
theorem c_impl_Disk_file_1 {r : Bool} (v0 : File) (x_v0 : Unit × ((Option Addr × Nat) × (Option Addr × Nat))) (g_k0 : Nat) (k0 : Int) (H : p_impl_Disk_file_1 v0 k0 = some r) : Fn' prog 138 #[.agg #[.int .i64 (v0.1), .slice x_v0.2.1.1 v0.2.1.length x_v0.2.1.2, .slice x_v0.2.2.1 v0.2.2.length x_v0.2.2.2], .pointer (some ⟨g_k0, 0, none⟩)] [imm (.slice x_v0.2.1.1 v0.2.1.length x_v0.2.1.2) v0.2.1, imm (.slice x_v0.2.2.1 v0.2.2.length x_v0.2.2.2) v0.2.2] [box g_k0 3 [.int .i64 (k0)]] (ι := Unit) (fun _ => .bool (r)) (fun _ => []) (fun _ => [box g_k0 3 [.int .i64 (k0)]]) := by
 refine cof (args := [_, _]) func138 ntmps138 fun c => ?_
 unfold p_impl_Disk_file_1 at H
 refine bN aS.s fun X1 => (sr (f1 (cD (t := 80) rfl) fun g2 => (aH (v := .bool (false)) rfl (nl (sr (aG (cC fa80_0 rfl rfl) (aI (bJ ty3 rfl aB rfl) (aI (bJ ty3 rfl hs1 rfl) (aG (cV rfl rfl) (aH rfl (nl ?_)))))))))))
 obtain rfl := si H
 exact bR (bk (.cons dl1 .nil))
noncomputable def p_slices_IndexFunc_File_File_Disk_file_1_b0 (v0 : (List File)) (v1_0 : Int) (Q6 : Int) : Option ((Int) ⊕ (Unit ⊕ Int)) := cond (decide (Q6 < (v0.length : Int))) (gd (ix Q6 v0.length) <| bd (p_impl_Disk_file_1 (nth v0 Q6.toNat) v1_0) fun r16 => cond (r16) (some (.inr (.inr Q6))) (gd (I64 (Q6 + 1)) <| some (.inl (Q6 + 1)))) (some (.inr (.inl ())))
noncomputable def p_slices_IndexFunc_File_File_Disk_file_1 (v0 : (List File)) (v1_0 : Int) : Option (Int) := bd (lp (p_slices_IndexFunc_File_File_Disk_file_1_b0 v0 v1_0) 0) <| sw (fun _ => some (-1)) (fun q => some q)
theorem c_slices_IndexFunc_File_File_Disk_file_1 {r : Int} (v0 : (List File)) (x_v0 : Option Addr × Nat) (g_v1_0 : Nat) (v1_0 : Int) (H : p_slices_IndexFunc_File_File_Disk_file_1 v0 v1_0 = some r) : Fn' prog 137 #[.slice x_v0.1 v0.length x_v0.2, .func (.func 138) #[] #[.pointer (some ⟨g_v1_0, 0, none⟩)]] [imm (.slice x_v0.1 v0.length x_v0.2) v0] [box g_v1_0 3 [.int .i64 (v1_0)]] (ι := Unit) (fun _ => .int .i64 (r)) (fun _ => []) (fun _ => [box g_v1_0 3 [.int .i64 (v1_0)]]) := by
 refine cof (args := [_, _]) func137 ntmps137 fun c => ?_
 unfold p_slices_IndexFunc_File_File_Disk_file_1 at H
 refine bN aS fun X1 => (sr (aH (v := .int .i64 (0)) rfl (nl (aD (sr (aF rfl (aG (bT 80 dY rfl) (aF (v := .int .i64 (0)) rfl (nl (bdo H fun x2 hx3 H => (dD (Λ := Unit) H (fun _ _ => []) (fun _ _ => [box g_v1_0 3 [.int .i64 (v1_0)]]) ?_ ?_)))))))))))
 ·refine aR (dF hx3 () (fun Q6 _ => [(0, .slice x_v0.1 v0.length x_v0.2), (1, .func (.func 138) #[] #[.pointer (some ⟨g_v1_0, 0, none⟩)]), (7, .int .i64 ((v0.length : Int))), (8, .int .i64 (Q6))]) (fun _ _ => [box g_v1_0 3 [.int .i64 (v1_0)]]) (.cons aA .nil) ?_)
  rintro _ Q6 z7 t9 H1 hi10 hb11
  unfold p_slices_IndexFunc_File_File_Disk_file_1_b0 at H1
  refine sr (aG (cS rfl rfl) (nl (aD (cH H1 rfl (fun h14 H1 => ?_) (fun h14 H1 => ?_)))))
  ·refine bI (nT (aD (aR (sr (aF rfl (aH rfl (nl (sr (aF rfl (aF rfl (aF rfl ?_)))))))))))
   refine gdo H1 fun h15 H1 => (aI (bX dY ty80 rfl rfl h15 rfl (aM (aU aS))) (aI (v := .agg #[.int .i64 ((nth v0 Q6.toNat).1), .slice ((((X1 Q6.toNat).2).1).1) ((((nth v0 Q6.toNat).2).1).length) ((((X1 Q6.toNat).2).1).2.1), .slice ((((X1 Q6.toNat).2).2).1) ((((nth v0 Q6.toNat).2).2).length) ((((X1 Q6.toNat).2).2).2.1)]) (cB (i := Q6.toNat) ty80 rfl (aM (aU aS)) h15.lt) (bdo H1 fun r16 h17 H1 => (aI (v := .bool (r16)) (Ex.dyn (caps := [.pointer (some ⟨g_v1_0, 0, none⟩)]) (vs := [.agg #[.int .i64 ((nth v0 Q6.toNat).1), .slice ((((X1 Q6.toNat).2).1).1) ((((nth v0 Q6.toNat).2).1).length) ((((X1 Q6.toNat).2).1).2.1), .slice ((((X1 Q6.toNat).2).2).1) ((((nth v0 Q6.toNat).2).2).length) ((((X1 Q6.toNat).2).2).2.1)]]) rfl rfl (q_callC (c_impl_Disk_file_1 (nth v0 Q6.toNat) ((), (((((X1 Q6.toNat).2).1).1, (((X1 Q6.toNat).2).1).2.1), ((((X1 Q6.toNat).2).2).1, (((X1 Q6.toNat).2).2).2.1))) g_v1_0 v1_0 h17) (Solo.box bH) rfl (.cons aA .nil) (aC (aM (aT (aW (aV (aX aS h15.lt))))) (aC (aM (aT (aV (aV (aX aS h15.lt))))) aP)))) (nl (cH H1 rfl (fun h18 H1 => ?_) (fun h18 H1 => ?_)))))))
   ·refine sr (aF rfl (aH rfl (nl (bR (rB (rT (rT (rB (rT (rT (?_)))))))))))
    obtain rfl := hb11 _ (sm H1)
    replace H := sw.r H
    obtain rfl := si H
    exact bk (.cons aA .nil)
   ·exact bI (nB (nT (aQ (gdo H1 fun h19 H1 => (aG (bS rfl rfl h19) (aF rfl (aJ (nLI () (hi10 _ (sm H1)) (.cons aA .nil)))))))))
  ·exact dB (xT (xT (xE (nMI () (hb11 _ (sm H1)) (.cons aA .nil)))))
 ·rintro e20 y8 H
  refine nT (sr (aH (v := .int .i64 (-1)) rfl (nl ?_)))
  obtain rfl := si H
  exact bR (bk (.cons aA .nil))
noncomputable def p_impl_Disk_file (v0 : Disk) (v1 : Int) : Option (Int) := bd (p_slices_IndexFunc_File_File_Disk_file_1 v0.1 v1) fun r5 => some r5
theorem c_impl_Disk_file {r : Int} (v0 : Disk) (x_v0 : (Option Addr × Nat) × (Option Addr × Nat) × (Option Addr × Nat) × Unit) (v1 : Int) (H : p_impl_Disk_file v0 v1 = some r) : Fn' prog 82 #[.agg #[.slice x_v0.1.1 v0.1.length x_v0.1.2, .slice x_v0.2.1.1 v0.2.1.length x_v0.2.1.2, .slice x_v0.2.2.1.1 v0.2.2.1.length x_v0.2.2.1.2, .int .i64 (v0.2.2.2)], .int .i64 (v1)] [imm (.slice x_v0.1.1 v0.1.length x_v0.1.2) v0.1, imm (.slice x_v0.2.1.1 v0.2.1.length x_v0.2.1.2) v0.2.1, imm (.slice x_v0.2.2.1.1 v0.2.2.1.length x_v0.2.2.1.2) v0.2.2.1] [] (ι := Unit) (fun _ => .int .i64 (r)) (fun _ => []) (fun _ => []) := by
 refine cof (args := [_, _]) func82 ntmps82 fun c => ?_
 unfold p_impl_Disk_file at H
 refine bN aS fun X1 => (bN aS.s.s.s fun X2 => (sr (f1 (cD (t := 76) rfl) fun g3 => (f1 (cD (t := 3) rfl) fun g4 => (aH (v := .int .i64 (0)) rfl (nl (sr (aG (cC fa76_0 rfl rfl) (aI (bJ ty74 rfl hs1 rfl) (aG (v := .func (.func 138) #[] #[.pointer (some ⟨g4, 0, none⟩)]) (p_mkfunc (vs := [.pointer (some ⟨g4, 0, none⟩)]) rfl rfl) ?_))))))))))
 refine bdo H fun r5 h6 H => (aI (q_callC (c_slices_IndexFunc_File_File_Disk_file_1 v0.1 x_v0.1 g4 v1 h6) (Solo.box bH) rfl (.cons aA .nil) (aC (aM (aT aS.s)) aP)) (aH rfl (nl ?_)))
 obtain rfl := si H
 exact bR bk
noncomputable def p_slices_Contains_int_int (v0 : (List Int)) (v1 : Int) : Option (Bool) := bd (p_slices_Index_int_int v0 v1) fun r1 => some (decide (0 ≤ r1))
theorem c_slices_Contains_int_int {r : Bool} (v0 : (List Int)) (x_v0 : Option Addr × Nat) (v1 : Int) (H : p_slices_Contains_int_int v0 v1 = some r) : Fn' prog 83 #[.slice x_v0.1 v0.length x_v0.2, .int .i64 (v1)] [imm (.slice x_v0.1 v0.length x_v0.2) v0] [] (ι := Unit) (fun _ => .bool (r)) (fun _ => []) (fun _ => []) := by
 refine cof (args := [_, _]) func83 ntmps83 fun c => ?_
 unfold p_slices_Contains_int_int at H
 refine sr (aH (v := .bool (false)) rfl (nl (sr (aF rfl (aF rfl (bdo H fun r1 h2 H => (aI (bO (c_slices_Index_int_int v0 x_v0 v1 h2) rfl (aC (aM aS) aP)) (aG (p_geq rfl rfl) (aH rfl (nl ?_))))))))))
 obtain rfl := si H
 exact bR bk
noncomputable def p_impl_clonePart_b0 (v0 : Part) (Q16 : (List (List Row)) × Int) : Option (((List (List Row)) × Int) ⊕ ((List (List Row)))) := cond (decide (Q16.2 < (v0.2.length : Int))) (gd (ix Q16.2 v0.2.length) <| gd (room (([] : List Row).length + (nth v0.2 Q16.2.toNat).length)) <| gd (room (Q16.1.length + 1)) <| gd (I64 (Q16.2 + 1)) <| some (.inl ((Q16.1 ++ [([] : List Row) ++ (nth v0.2 Q16.2.toNat)]), Q16.2 + 1))) (some (.inr Q16.1))
noncomputable def p_impl_clonePart (v0 : Part) : Option (Part) := gd (room (([] : List Int).length + v0.1.length)) <| bd (lp (p_impl_clonePart_b0 v0) (([] : List (List Row)), 0)) fun x12 => some ((([] : List Int) ++ v0.1), x12)
theorem c_impl_clonePart {r : Part} (v0 : Part) (x_v0 : (Option Addr × Nat) × (Option Addr × Nat)) (H : p_impl_clonePart v0 = some r) : Fn' prog 139 #[.agg #[.slice x_v0.1.1 v0.1.length x_v0.1.2, .slice x_v0.2.1 v0.2.length x_v0.2.2]] [imm (.slice x_v0.1.1 v0.1.length x_v0.1.2) v0.1, imm (.slice x_v0.2.1 v0.2.length x_v0.2.2) v0.2] [] (ι := (Option Addr × Nat) × (Option Addr × Nat)) (fun x => .agg #[.slice x.1.1 r.1.length x.1.2, .slice x.2.1 r.2.length x.2.2]) (fun _ => []) (fun x => [tree (.slice x.1.1 r.1.length x.1.2) r.1, tree (.slice x.2.1 r.2.length x.2.2) r.2]) := by
 refine cof (args := [_]) func139 ntmps139 fun c => ?_
 unfold p_impl_clonePart at H
 refine bN aS.s fun X1 => (sr (f1 (cD (t := 72) rfl) fun g2 => (f1 (cE ty72) fun g3 => (nl (sr (f2 (e_lit0 Int dW ty3) fun a4 c5 => (aG (cC fa72_0 rfl rfl) (aI (bJ ty69 rfl hs2 rfl) (gdo H fun h8 H => ?_)))))))))
 refine f2 (e_appF (l := ([] : List Int)) (k := v0.1) (α := Int) dW ty3 rfl rfl (h8.b (by decide)) h8.x (.cons aA .nil) (aM aS.s)) fun a6 c7 => (f2 (e_lit0 (List Row) dX ty63) fun a9 c10 => (aG (v := .agg #[.slice a6 ((([] : List Int) ++ v0.1).length) c7, .slice a9 (([] : List (List Row)).length) c10]) (p_buildS (vs := [(0, .slice a6 ((([] : List Int) ++ v0.1).length) c7), (1, .slice a9 (([] : List (List Row)).length) c10)]) (cs := #[.slice a6 ((([] : List Int) ++ v0.1).length) c7, .slice a9 (([] : List (List Row)).length) c10]) ty72 pl72 rfl rfl) (f1 (cE ty72) fun g11 => (stb (cs' := [.slice a6 ((([] : List Int) ++ v0.1).length) c7, .slice a9 (([] : List (List Row)).length) c10]) ty72 cZ (nl (aD (sr (aG (cC fa72_1 rfl rfl) (aI (bJ ty70 rfl hs4 rfl) (aG (bT 63 dX rfl) ?_))))))))))
 refine aF (v := .int .i64 (0)) rfl (nl (bdo H fun x12 hx13 H => (dC (ι := Option Addr × Nat) (fun ψ => [(2, .pointer (some ⟨g3, 0, none⟩)), (3, .pointer (some ⟨g11, 0, none⟩))]) (fun ψ => [box g3 72 [.slice none 0 0, .slice none 0 0], tree (.slice a6 ((([] : List Int) ++ v0.1).length) c7) (([] : List Int) ++ v0.1), tree (.slice ψ.1 x12.length ψ.2) x12, box g11 72 [.slice a6 ((([] : List Int) ++ v0.1).length) c7, .slice ψ.1 x12.length ψ.2]]) ?_ ?_)))
 ·refine aR (dF hx13 (a9, c10) (fun Q16 _ => [(2, .pointer (some ⟨g3, 0, none⟩)), (3, .pointer (some ⟨g11, 0, none⟩)), (13, .slice x_v0.2.1 v0.2.length x_v0.2.2), (14, .int .i64 ((v0.2.length : Int))), (15, .int .i64 (Q16.2))]) (fun Q16 z17 => [box g3 72 [.slice none 0 0, .slice none 0 0], tree (.slice a6 ((([] : List Int) ++ v0.1).length) c7) (([] : List Int) ++ v0.1), tree (.slice z17.1 Q16.1.length z17.2) Q16.1, box g11 72 [.slice a6 ((([] : List Int) ++ v0.1).length) c7, .slice z17.1 Q16.1.length z17.2]]) (.cons dl3 (.cons dl2 (.cons dl1 (.cons aA .nil)))) ?_)
  rintro _ Q16 z17 t19 H1 hi20 hb21
  unfold p_impl_clonePart_b0 at H1
  refine sr (aG (cS rfl rfl) (nl (aD (cH H1 rfl (fun h24 H1 => ?_) (fun h24 H1 => ?_)))))
  ·refine bI (nT (aD (aR (sr (gdo H1 fun h25 H1 => (aI (bX dX ty63 rfl rfl h25 rfl (aM (aU aS))) (aI (cA (i := Q16.2.toNat) (j := 0) ty63 rfl (aM (aU aS)) h25.lt rfl) (aH rfl (nl (dH [(5, .slice ((X1 Q16.2.toNat).1) ((nth v0.2 Q16.2.toNat).length) ((X1 Q16.2.toNat).2.1)), (2, .pointer (some ⟨g3, 0, none⟩)), (3, .pointer (some ⟨g11, 0, none⟩)), (13, .slice x_v0.2.1 v0.2.length x_v0.2.2), (14, .int .i64 ((v0.2.length : Int))), (15, .int .i64 (Q16.2))] 2 [0, 1, 3, 2, 4, 5, 6, 7, 8] [2, 4, 5, 6, 8] [] mixed (by kernel_rfl) (by decide) dJ ⟨rfl, rfl, rfl, rfl, rfl, rfl, trivial⟩ rfl okNil (w_p rfl (cC fa72_1 rfl rfl) ?_)))))))))))
   refine w_o rfl (fun F => (bJ ty70 rfl (hs3.app F) rfl)) (w_p rfl (aE rfl) (cK rfl (by decide) rfl cP rfl (n_lit0 Row dV ty57) ?_))
   rintro _ _ _ ⟨a26, c27, rfl, rfl, rfl⟩
   refine ⟨(bW rfl rfl (fun F => (bJ ty70 rfl (hs4.app F) rfl)) bV), ?_⟩
   refine gdo H1 fun h30 H1 => (cK rfl (by decide) rfl cP rfl (n_appF (l := ([] : List Row)) (k := nth v0.2 Q16.2.toNat) (α := Row) dV ty57 rfl rfl (h30.b (by decide)) h30.x (.cons aA .nil) (aM (aT (aX aS h25.lt)))) ?_)
   rintro _ _ _ ⟨a28, c29, rfl, rfl, rfl⟩
   refine ⟨(bW rfl rfl (fun F => (bJ ty70 rfl (hs4.app F) rfl)) bV), ?_⟩
   refine cK rfl (by decide) rfl cP rfl (n_lit (vs := [(0, .slice a28 ((([] : List Row) ++ (nth v0.2 Q16.2.toNat)).length) c29)]) [.slice a28 ((([] : List Row) ++ (nth v0.2 Q16.2.toNat)).length) c29] dX ty63 rfl (by decide) (by decide) (by kernel_rfl)) ?_
   rintro _ _ _ ⟨g31, rfl, rfl, rfl⟩
   refine ⟨(bW rfl rfl (fun F => (bJ ty70 rfl (hs5.app F) rfl)) bV), ?_⟩
   refine gdo H1 fun h34 H1 => (cK rfl (by decide) rfl cP rfl (n_app1 (l := Q16.1) (α := (List Row)) (([] : List Row) ++ (nth v0.2 Q16.2.toNat)) (a28, c29) dX ty63 rfl rfl (h34.b (by decide)) h34.x rfl (cY _) (.cons dl4 (.cons aA (.cons aA .nil)))) ?_)
   rintro _ _ _ ⟨a32, c33, rfl, rfl, rfl⟩
   refine ⟨(aN (by kernel_rfl) bV), ?_⟩
   refine w_p rfl (cC fa72_1 rfl rfl) (cL rfl rfl cP rfl (n_store (cs' := [.slice a6 ((([] : List Int) ++ v0.1).length) c7, .slice a32 ((Q16.1 ++ [([] : List Row) ++ (nth v0.2 Q16.2.toNat)]).length) c33]) ty70 rfl rfl up3 rfl (one_of rfl) (Nat.le_of_ble_eq_true rfl) rfl) ?_)
   rintro _ _ _ ⟨rfl, rfl, rfl⟩
   refine ⟨(aN (by kernel_rfl) bV), ?_⟩
   refine cM ?_
   show At _ _ _ _ _ _
   exact nB (nT (aQ (gdo H1 fun h35 H1 => (aG (bS rfl rfl h35) (aF rfl (aJ (nLI (a32, c33) (hi20 _ (sm H1)) (.cons dl1 (.cons dl1 (.cons aA (.cons aA .nil)))))))))))
  ·refine dB (xT (xT (xE (?_))))
   obtain rfl := hb21 _ (sm H1)
   exact nMC (z17.1, z17.2) ⟨rfl, rfl, trivial⟩ bU (.cons aA (.cons aA (.cons aA (.cons aA .nil))))
 ·intro y18
  show At _ _ [(2, .pointer (some ⟨g3, 0, none⟩)), (3, .pointer (some ⟨g11, 0, none⟩))] _ [box g3 72 [.slice none 0 0, .slice none 0 0], tree (.slice a6 ((([] : List Int) ++ v0.1).length) c7) (([] : List Int) ++ v0.1), tree (.slice y18.1 x12.length y18.2) x12, box g11 72 [.slice a6 ((([] : List Int) ++ v0.1).length) c7, .slice y18.1 x12.length y18.2]] _
  refine nT (sr (aI (bK ty72 rfl hs3 rfl) (stb (cs' := [.slice a6 ((([] : List Int) ++ v0.1).length) c7, .slice y18.1 x12.length y18.2]) ty72 cZ (nl (bR ?_)))))
  obtain rfl := si H
  exact back1 ((a6, c7), y18) rfl (ResV.agg ty72 rfl aB rfl) rfl cO (.cons dl1 (.cons dl1 .nil))
noncomputable def p_impl_Disk_open_b0 (v0 : Disk) (Q17 : (List Part) × Int) : Option (((List Part) × Int) ⊕ ((List Part))) := cond (decide (Q17.2 < (v0.2.1.length : Int))) (gd (ix Q17.2 v0.2.1.length) <| bd (p_impl_Disk_file v0 (nth v0.2.1 Q17.2.toNat)) fun r27 => gd (ix r27 v0.1.length) <| bd (p_impl_clonePart ((nth v0.1 r27.toNat).2)) fun r30 => gd (room (Q17.1.length + 1)) <| gd (I64 (Q17.2 + 1)) <| some (.inl ((Q17.1 ++ [r30]), Q17.2 + 1))) (some (.inr Q17.1))
noncomputable def p_impl_Disk_open (v0 : Disk) : Option (Store) := bd (p_impl_indexOf v0.2.2.1) fun r5 => bd (lp (p_impl_Disk_open_b0 v0) (([] : List Part), 0)) fun x13 => some (r5, x13, ([] : List Sample))
theorem c_impl_Disk_open {r : Store} (v0 : Disk) (x_v0 : (Option Addr × Nat) × (Option Addr × Nat) × (Option Addr × Nat) × Unit) (H : p_impl_Disk_open v0 = some r) : Fn' prog 84 #[.agg #[.slice x_v0.1.1 v0.1.length x_v0.1.2, .slice x_v0.2.1.1 v0.2.1.length x_v0.2.1.2, .slice x_v0.2.2.1.1 v0.2.2.1.length x_v0.2.2.1.2, .int .i64 (v0.2.2.2)]] [imm (.slice x_v0.1.1 v0.1.length x_v0.1.2) v0.1, imm (.slice x_v0.2.1.1 v0.2.1.length x_v0.2.1.2) v0.2.1, imm (.slice x_v0.2.2.1.1 v0.2.2.1.length x_v0.2.2.1.2) v0.2.2.1] [] (ι := ((Option Addr × Nat) × (Option Addr × Nat)) × (Option Addr × Nat) × (Option Addr × Nat)) (fun x => .agg #[.slice x.1.1.1 r.1.1.length x.1.1.2, .slice x.1.2.1 r.1.2.length x.1.2.2, .slice x.2.1.1 r.2.1.length x.2.1.2, .slice x.2.2.1 r.2.2.length x.2.2.2]) (fun _ => []) (fun x => [tree (.slice x.1.1.1 r.1.1.length x.1.1.2) r.1.1, tree (.slice x.1.2.1 r.1.2.length x.1.2.2) r.1.2, tree (.slice x.2.1.1 r.2.1.length x.2.1.2) r.2.1, tree (.slice x.2.2.1 r.2.2.length x.2.2.2) r.2.2]) := by
 refine cof (args := [_]) func84 ntmps84 fun c => ?_
 unfold p_impl_Disk_open at H
 refine bN aS fun X1 => (bN aS.s.s.s fun X2 => (sr (f1 (cD (t := 76) rfl) fun g3 => (f1 (cE ty42) fun g4 => (nl (sr (aG (cC fa76_2 rfl rfl) (aI (bJ ty35 rfl hs1 rfl) (bdo H fun r5 h6 H => ?_)))))))))
 refine f1 (cG (c_impl_indexOf v0.2.2.1 x_v0.2.2.1 h6) (fun _ => (bG (bG bH))) rfl (aC (aM (aT aS)) aP)) fun x7 => (f2 (e_lit0 Part dQ ty72) fun a8 c9 => (f2 (e_lit0 Sample dR ty59) fun a10 c11 => (aG (v := .agg #[.slice x7.1.1 r5.1.length x7.1.2, .slice x7.2.1 r5.2.length x7.2.2, .slice a8 (([] : List Part).length) c9, .slice a10 (([] : List Sample).length) c11]) (p_buildS (vs := [(0, .agg #[.slice x7.1.1 r5.1.length x7.1.2, .slice x7.2.1 r5.2.length x7.2.2]), (1, .slice a8 (([] : List Part).length) c9), (2, .slice a10 (([] : List Sample).length) c11)]) (cs := #[.slice x7.1.1 r5.1.length x7.1.2, .slice x7.2.1 r5.2.length x7.2.2, .slice a8 (([] : List Part).length) c9, .slice a10 (([] : List Sample).length) c11]) ty42 pl42 rfl rfl) (f1 (cE ty42) fun g12 => (stb (cs' := [.slice x7.1.1 r5.1.length x7.1.2, .slice x7.2.1 r5.2.length x7.2.2, .slice a8 (([] : List Part).length) c9, .slice a10 (([] : List Sample).length) c11]) ty42 cZ (nl (aD (sr (aG (cC fa76_1 rfl rfl) (aI (bJ ty69 rfl (hs5t hs1) rfl) ?_))))))))))
 refine aG (bT 3 dW rfl) (aF (v := .int .i64 (0)) rfl (nl (bdo H fun x13 hx14 H => (dC (ι := Option Addr × Nat) (fun ψ => [(2, .pointer (some ⟨g4, 0, none⟩)), (3, .pointer (some ⟨g12, 0, none⟩))]) (fun ψ => [box g4 42 [.slice none 0 0, .slice none 0 0, .slice none 0 0, .slice none 0 0], tree (.slice x7.1.1 r5.1.length x7.1.2) r5.1, tree (.slice x7.2.1 r5.2.length x7.2.2) r5.2, tree (.slice ψ.1 x13.length ψ.2) x13, tree (.slice a10 (([] : List Sample).length) c11) ([] : List Sample), box g12 42 [.slice x7.1.1 r5.1.length x7.1.2, .slice x7.2.1 r5.2.length x7.2.2, .slice ψ.1 x13.length ψ.2, .slice a10 (([] : List Sample).length) c11]]) ?_ ?_))))
 ·refine aR (dF hx14 (a8, c9) (fun Q17 _ => [(1, .pointer (some ⟨g3, 0, none⟩)), (2, .pointer (some ⟨g4, 0, none⟩)), (3, .pointer (some ⟨g12, 0, none⟩)), (13, .slice x_v0.2.1.1 v0.2.1.length x_v0.2.1.2), (14, .int .i64 ((v0.2.1.length : Int))), (15, .int .i64 (Q17.2))]) (fun Q17 z18 => [box g3 76 [.slice x_v0.1.1 v0.1.length x_v0.1.2, .slice x_v0.2.1.1 v0.2.1.length x_v0.2.1.2, .slice x_v0.2.2.1.1 v0.2.2.1.length x_v0.2.2.1.2, .int .i64 (v0.2.2.2)], box g4 42 [.slice none 0 0, .slice none 0 0, .slice none 0 0, .slice none 0 0], tree (.slice x7.1.1 r5.1.length x7.1.2) r5.1, tree (.slice x7.2.1 r5.2.length x7.2.2) r5.2, tree (.slice z18.1 Q17.1.length z18.2) Q17.1, tree (.slice a10 (([] : List Sample).length) c11) ([] : List Sample), box g12 42 [.slice x7.1.1 r5.1.length x7.1.2, .slice x7.2.1 r5.2.length x7.2.2, .slice z18.1 Q17.1.length z18.2, .slice a10 (([] : List Sample).length) c11]]) (.cons (dl5t dl1) (.cons dl5 (.cons dl3 (.cons dl3 (.cons dl2 (.cons dl1 (.cons aA .nil))))))) ?_)
  rintro _ Q17 z18 t20 H1 hi21 hb22
  unfold p_impl_Disk_open_b0 at H1
  refine sr (aG (cS rfl rfl) (nl (aD (cH H1 rfl (fun h25 H1 => ?_) (fun h25 H1 => ?_)))))
  ·refine bI (nT (aD (aR (sr (gdo H1 fun h26 H1 => (aI (bX dW ty3 rfl rfl h26 rfl (aO (aM aS.s.s.s))) (aI (cA (i := Q17.2.toNat) (j := 0) ty3 rfl (aO (aM aS.s.s.s)) h26.lt rfl) (aH rfl (nl (dH [(5, .int .i64 (nth v0.2.1 Q17.2.toNat)), (1, .pointer (some ⟨g3, 0, none⟩)), (2, .pointer (some ⟨g4, 0, none⟩)), (3, .pointer (some ⟨g12, 0, none⟩)), (13, .slice x_v0.2.1.1 v0.2.1.length x_v0.2.1.2), (14, .int .i64 ((v0.2.1.length : Int))), (15, .int .i64 (Q17.2))] 1 [0, 1, 2, 3, 4, 5, 6, 7, 8, 9, 10, 11, 12, 13, 14] [10, 11, 12, 14] [] mixed (by kernel_rfl) (by decide) dJ ⟨rfl, rfl, rfl, rfl, rfl, rfl, rfl, trivial⟩ rfl okNil (w_p rfl (cC fa42_1 rfl rfl) ?_)))))))))))
   refine w_o rfl (fun F => (bJ ty39 rfl ((hs5t hs1).app F) rfl)) (w_p rfl (cC fa76_0 rfl rfl) ?_)
   refine w_o rfl (fun F => (bJ ty74 rfl (aB.app F) rfl)) ?_
   refine w_o rfl (fun F => (bK ty76 rfl (aB.app F) rfl)) (w_p rfl (aE rfl) (bdo H1 fun r27 h28 H1 => ?_))
   refine w_o rfl (fun F => (bO (c_impl_Disk_file v0 (x_v0.1, x_v0.2.1, x_v0.2.2.1, ()) (nth v0.2.1 Q17.2.toNat) h28) rfl (aC (aM (aT aS.s)) (aC (aM aS.s.s.s) (aC (aM (aT aS)) aP))))) (gdo H1 fun h29 H1 => ?_)
   refine w_o rfl (fun F => (bX dY ty80 rfl rfl h29 rfl (aM (aU aS.s)))) ?_
   refine w_o rfl (fun F => (bZ (j := 0) r27.toNat fa80_1 rfl (aM (aU aS.s)) h29.lt rfl)) ?_
   refine w_o (v := .agg #[.slice ((((X1 r27.toNat).2).1).1) ((((nth v0.1 r27.toNat).2).1).length) ((((X1 r27.toNat).2).1).2.1), .slice ((((X1 r27.toNat).2).2).1) ((((nth v0.1 r27.toNat).2).2).length) ((((X1 r27.toNat).2).2).2.1)]) rfl (fun F => (q_ldeP [.slice ((((X1 r27.toNat).2).1).1) ((((nth v0.1 r27.toNat).2).1).length) ((((X1 r27.toNat).2).1).2.1), .slice ((((X1 r27.toNat).2).2).1) ((((nth v0.1 r27.toNat).2).2).length) ((((X1 r27.toNat).2).2).2.1)] (l := v0.1) (E := fun i => Dp.denc (nth v0.1 i) (X1 i)) (oa := x_v0.1.1) (i := r27.toNat) (j := 1) ty72 rfl (aM (aU aS.s)) h29.lt rfl rfl)) (bdo H1 fun r30 h31 H1 => (cK rfl (by decide) rfl cP rfl (cF (c_impl_clonePart ((nth v0.1 r27.toNat).2) (((((X1 r27.toNat).2).1).1, (((X1 r27.toNat).2).1).2.1), ((((X1 r27.toNat).2).2).1, (((X1 r27.toNat).2).2).2.1)) h31) (fun _ => (bG (bG bH))) rfl (aC (aM (aT (aW (aV (aX aS.s h29.lt))))) (aC (aM (aT (aV (aV (aX aS.s h29.lt))))) aP))) ?_))
   rintro _ _ _ ⟨x32, rfl, rfl, rfl⟩
   refine ⟨(aN (by kernel_rfl) (bW rfl rfl (fun F => (bZ (j := 0) r27.toNat fa80_1 rfl (aM (aU aS.s)) h29.lt rfl)) (bW rfl rfl (fun F => (bX dY ty80 rfl rfl h29 rfl (aM (aU aS.s)))) (aN (by kernel_rfl) (bW rfl rfl (fun F => (bK ty76 rfl (hs2.app F) rfl)) (bW rfl rfl (fun F => (bJ ty74 rfl (hs2.app F) rfl)) (bW rfl rfl (fun F => (bJ ty39 rfl ((hs5t hs3).app F) rfl)) bV))))))), ?_⟩
   refine cK rfl (by decide) rfl cP rfl (n_lit (vs := [(0, .agg #[.slice x32.1.1 r30.1.length x32.1.2, .slice x32.2.1 r30.2.length x32.2.2])]) [.slice x32.1.1 r30.1.length x32.1.2, .slice x32.2.1 r30.2.length x32.2.2] dQ ty72 rfl (by decide) (by decide) (by kernel_rfl)) ?_
   rintro _ _ _ ⟨g33, rfl, rfl, rfl⟩
   refine ⟨(bW rfl rfl (fun F => (q_ldeP [.slice ((((X1 r27.toNat).2).1).1) ((((nth v0.1 r27.toNat).2).1).length) ((((X1 r27.toNat).2).1).2.1), .slice ((((X1 r27.toNat).2).2).1) ((((nth v0.1 r27.toNat).2).2).length) ((((X1 r27.toNat).2).2).2.1)] (l := v0.1) (E := fun i => Dp.denc (nth v0.1 i) (X1 i)) (oa := x_v0.1.1) (i := r27.toNat) (j := 1) ty72 rfl (aM (aU aS.s)) h29.lt rfl rfl)) (bW rfl rfl (fun F => (bZ (j := 0) r27.toNat fa80_1 rfl (aM (aU aS.s)) h29.lt rfl)) (bW rfl rfl (fun F => (bX dY ty80 rfl rfl h29 rfl (aM (aU aS.s)))) (bW rfl rfl (fun F => (bO (c_impl_Disk_file v0 (x_v0.1, x_v0.2.1, x_v0.2.2.1, ()) (nth v0.2.1 Q17.2.toNat) h28) rfl (aC (aM (aT aS.s)) (aC (aM aS.s.s.s) (aC (aM (aT aS)) aP))))) (bW rfl rfl (fun F => (bK ty76 rfl (hs3.app F) rfl)) (bW rfl rfl (fun F => (bJ ty74 rfl (hs3.app F) rfl)) (bW rfl rfl (fun F => (bJ ty39 rfl ((hs5t hs4).app F) rfl)) bV))))))), ?_⟩
   refine gdo H1 fun h36 H1 => (cK rfl (by decide) rfl cP rfl (n_app1 (l := Q17.1) (α := Part) r30 x32 dQ ty72 rfl rfl (h36.b (by decide)) h36.x rfl (cY _) (.cons (dl5t dl2) (.cons aA (.cons aA (.cons aA .nil))))) ?_)
   rintro _ _ _ ⟨a34, c35, rfl, rfl, rfl⟩
   refine ⟨(bW rfl rfl (fun F => (q_ldeP [.slice ((((X1 r27.toNat).2).1).1) ((((nth v0.1 r27.toNat).2).1).length) ((((X1 r27.toNat).2).1).2.1), .slice ((((X1 r27.toNat).2).2).1) ((((nth v0.1 r27.toNat).2).2).length) ((((X1 r27.toNat).2).2).2.1)] (l := v0.1) (E := fun i => Dp.denc (nth v0.1 i) (X1 i)) (oa := x_v0.1.1) (i := r27.toNat) (j := 1) ty72 rfl (aM (aU aS.s)) h29.lt rfl rfl)) (bW rfl rfl (fun F => (bZ (j := 0) r27.toNat fa80_1 rfl (aM (aU aS.s)) h29.lt rfl)) (bW rfl rfl (fun F => (bX dY ty80 rfl rfl h29 rfl (aM (aU aS.s)))) (bW rfl rfl (fun F => (bO (c_impl_Disk_file v0 (x_v0.1, x_v0.2.1, x_v0.2.2.1, ()) (nth v0.2.1 Q17.2.toNat) h28) rfl (aC (aM (aT aS.s)) (aC (aM aS.s.s.s) (aC (aM (aT aS)) aP))))) (bW rfl rfl (fun F => (bK ty76 rfl (hs1.app F) rfl)) (bW rfl rfl (fun F => (bJ ty74 rfl (hs1.app F) rfl)) (aN (by kernel_rfl) bV))))))), ?_⟩
   refine w_p rfl (cC fa42_1 rfl rfl) (cL rfl rfl cP rfl (n_store (cs' := [.slice x7.1.1 r5.1.length x7.1.2, .slice x7.2.1 r5.2.length x7.2.2, .slice a34 ((Q17.1 ++ [r30]).length) c35, .slice a10 (([] : List Sample).length) c11]) ty39 rfl rfl (up5t up1) rfl (one_of rfl) (Nat.le_of_ble_eq_true rfl) rfl) ?_)
   rintro _ _ _ ⟨rfl, rfl, rfl⟩
   refine ⟨(aN (by kernel_rfl) (aN (by kernel_rfl) (aN (by kernel_rfl) (aN (by kernel_rfl) (aN (by kernel_rfl) (aN (by kernel_rfl) (aN (by kernel_rfl) bV))))))), ?_⟩
   refine cM ?_
   show At _ _ _ _ _ _
   exact nB (nT (aQ (gdo H1 fun h37 H1 => (aG (bS rfl rfl h37) (aF rfl (aJ (nLI (a34, c35) (hi21 _ (sm H1)) (.cons dl1 (.cons dl1 (.cons dl1 (.cons dl1 (.cons aA (.cons aA (.cons aA .nil))))))))))))))
  ·refine dB (xT (xT (xE (?_))))
   obtain rfl := hb22 _ (sm H1)
   exact nMC (z18.1, z18.2) ⟨rfl, rfl, trivial⟩ bU (.cons dl1 (.cons dl1 (.cons dl1 (.cons dl1 (.cons dl1 (.cons dl1 .nil))))))
 ·intro y19
  show At _ _ [(2, .pointer (some ⟨g4, 0, none⟩)), (3, .pointer (some ⟨g12, 0, none⟩))] _ [box g4 42 [.slice none 0 0, .slice none 0 0, .slice none 0 0, .slice none 0 0], tree (.slice x7.1.1 r5.1.length x7.1.2) r5.1, tree (.slice x7.2.1 r5.2.length x7.2.2) r5.2, tree (.slice y19.1 x13.length y19.2) x13, tree (.slice a10 (([] : List Sample).length) c11) ([] : List Sample), box g12 42 [.slice x7.1.1 r5.1.length x7.1.2, .slice x7.2.1 r5.2.length x7.2.2, .slice y19.1 x13.length y19.2, .slice a10 (([] : List Sample).length) c11]] _
  refine nT (sr (aI (bK ty42 rfl hs5 rfl) (stb (cs' := [.slice x7.1.1 r5.1.length x7.1.2, .slice x7.2.1 r5.2.length x7.2.2, .slice y19.1 x13.length y19.2, .slice a10 (([] : List Sample).length) c11]) ty42 cZ (nl (bR ?_)))))
  obtain rfl := si H
  exact back1 (x7, y19, (a10, c11)) rfl (ResV.agg ty42 rfl aB rfl) rfl cO (.cons dl1 (.cons dl1 (.cons dl1 (.cons dl1 .nil))))
noncomputable def p_impl_DiskOk_b0 (v0 : Disk) (Q15 : Int) : Option ((Int) ⊕ (Unit ⊕ Bool)) := cond (decide (Q15 < (v0.1.length : Int))) (gd (ix Q15 v0.1.length) <| bd (gd (I64 (v0.2.2.2 - 1)) <| bd (p_impl_within ((nth v0.1 Q15.toNat).1) 1 (v0.2.2.2 - 1)) fun r29 => cond (!r29) (some (true)) (cond (decide (0 < Q15)) (gd (I64 (Q15 - 1)) <| gd (ix (Q15 - 1) v0.1.length) <| cond (decide (((nth v0.1 Q15.toNat).1) ≤ ((nth v0.1 ((Q15 - 1).toNat)).1))) (some (true)) (bd (p_impl_PartOk ((nth v0.1 Q15.toNat).2)) fun r36 => some (!r36))) (bd (p_impl_PartOk ((nth v0.1 Q15.toNat).2)) fun r38 => some (!r38)))) fun b26 => cond (b26) (some (.inr (.inr false))) (gd (I64 (Q15 + 1)) <| some (.inl (Q15 + 1)))) (some (.inr (.inl ())))
noncomputable def p_impl_DiskOk_b1 (v0 : Disk) (Q47 : Int) : Option ((Int) ⊕ (Unit ⊕ Bool)) := cond (decide (Q47 < (v0.2.1.length : Int))) (gd (ix Q47 v0.2.1.length) <| bd (bd (p_impl_Disk_file v0 (nth v0.2.1 Q47.toNat)) fun r59 => cond (decide (r59 < 0)) (some (true)) (gd (sl2 0 Q47 v0.2.1.length) <| bd (p_slices_Contains_int_int ((v0.2.1.take Q47.toNat).drop 0) (nth v0.2.1 Q47.toNat)) fun r63 => some (r63))) fun b57 => cond (b57) (some (.inr (.inr false))) (gd (I64 (Q47 + 1)) <| some (.inl (Q47 + 1)))) (some (.inr (.inl ())))
noncomputable def p_impl_DiskOk (v0 : Disk) : Option (Bool) := bd (bd (p_impl_within v0.2.2.2 1 999) fun r6 => cond (!r6) (some (true)) (cond (decide (20 < (v0.1.length : Int))) (some (true)) (some (decide (6 < (v0.2.1.length : Int)))))) fun b4 => cond (b4) (some false) (bd (lp (p_impl_DiskOk_b0 v0) 0) <| sw (fun _ => bd (lp (p_impl_DiskOk_b1 v0) 0) <| sw (fun _ => bd (p_impl_Disk_open v0) fun r68 => bd (p_impl_StoreOk r68) fun r71 => some r71) (fun q => some q)) (fun q => some q))
theorem c_impl_DiskOk {r : Bool} (v0 : Disk) (x_v0 : (Option Addr × Nat) × (Option Addr × Nat) × (Option Addr × Nat) × Unit) (H : p_impl_DiskOk v0 = some r) : Fn' prog 32 #[.agg #[.slice x_v0.1.1 v0.1.length x_v0.1.2, .slice x_v0.2.1.1 v0.2.1.length x_v0.2.1.2, .slice x_v0.2.2.1.1 v0.2.2.1.length x_v0.2.2.1.2, .int .i64 (v0.2.2.2)]] [imm (.slice x_v0.1.1 v0.1.length x_v0.1.2) v0.1, imm (.slice x_v0.2.1.1 v0.2.1.length x_v0.2.1.2) v0.2.1, imm (.slice x_v0.2.2.1.1 v0.2.2.1.length x_v0.2.2.1.2) v0.2.2.1] [] (ι := Unit) (fun _ => .bool (r)) (fun _ => []) (fun _ => []) := by
 refine cof (args := [_]) func32 ntmps32 fun c => ?_
 unfold p_impl_DiskOk at H
 refine bN aS fun X1 => (bN aS.s.s.s fun X2 => (sr (f1 (cD (t := 76) rfl) fun g3 => (aH (v := .bool (false)) rfl (nl (aD (bdo H fun b4 j5 H => (dE [(22, .bool (b4)), (1, .pointer (some ⟨g3, 0, none⟩))] ?_ ?_))))))))
 ·refine dI [(1, .pointer (some ⟨g3, 0, none⟩))] ⟨rfl, trivial⟩ (aY (cC fa76_3 rfl rfl) (bA (bJ ty3 rfl aB rfl) (bdo j5 fun r6 h7 j5 => (bA (bO (c_impl_within v0.2.2.2 1 999 h7) rfl aP) (aY (cX rfl) ?_)))))
  rcases aL (!r6) with h8 | h8
  ·have j5 := cdT h8 j5
   refine bD (aE rfl) h8 ?_
   iterate 4 refine bF rfl ?_
   refine aY (v := .bool (true)) (bQ rfl rfl) (bC (v := .bool (true)) rfl ?_)
   iterate 4 refine bF rfl ?_
   refine aY (v := .bool (true)) (bQ rfl rfl) ?_
   obtain rfl := si j5
   show At _ _ _ _ _ _
   exact n1 ⟨rfl, rfl, trivial⟩
  ·have j5 := cdF h8 j5
   refine bD (aE rfl) h8 (aZ rfl (cC fa76_0 rfl rfl) (bB rfl (bJ ty74 rfl aB rfl) (aZ rfl (bT 80 dY rfl) (aZ rfl (cW rfl rfl) (aY (bP rfl rfl) ?_)))))
   rcases aL (decide (20 < (v0.1.length : Int))) with h9 | h9
   ·have j5 := cdT h9 j5
    refine bD (aE rfl) h9 ?_
    iterate 4 refine bF rfl ?_
    refine aY (v := .bool (true)) (bQ rfl rfl) ?_
    obtain rfl := si j5
    show At _ _ _ _ _ _
    exact n1 ⟨rfl, rfl, trivial⟩
   ·have j5 := cdF h9 j5
    refine bD (aE rfl) h9 (aZ rfl (cC fa76_1 rfl rfl) (bB rfl (bJ ty69 rfl aB rfl) (aZ rfl (bT 3 dW rfl) (aZ rfl (cW rfl rfl) (aY (bP rfl rfl) ?_)))))
    obtain rfl := si j5
    show At _ _ _ _ _ _
    exact n1 ⟨rfl, rfl, trivial⟩
 refine cH H rfl (fun h10 H => ?_) (fun h10 H => ?_)
 ·refine sr (aH (v := .bool (false)) rfl (nl (bR (rT (?_)))))
  obtain rfl := si H
  exact bk
 ·refine bI (nT (aD (sr (aG (cC fa76_0 rfl rfl) (aI (bJ ty74 rfl aB rfl) (aG (bT 80 dY rfl) (aF (v := .int .i64 (0)) rfl (nl (bdo H fun x11 hx12 H => (dD (Λ := Unit) H (fun _ _ => [(1, .pointer (some ⟨g3, 0, none⟩))]) (fun _ _ => [box g3 76 [.slice x_v0.1.1 v0.1.length x_v0.1.2, .slice x_v0.2.1.1 v0.2.1.length x_v0.2.1.2, .slice x_v0.2.2.1.1 v0.2.2.1.length x_v0.2.2.1.2, .int .i64 (v0.2.2.2)]]) ?_ ?_))))))))))
  ·refine aR (dF hx12 () (fun Q15 _ => [(1, .pointer (some ⟨g3, 0, none⟩)), (24, .slice x_v0.1.1 v0.1.length x_v0.1.2), (25, .int .i64 ((v0.1.length : Int))), (26, .int .i64 (Q15))]) (fun _ _ => [box g3 76 [.slice x_v0.1.1 v0.1.length x_v0.1.2, .slice x_v0.2.1.1 v0.2.1.length x_v0.2.1.2, .slice x_v0.2.2.1.1 v0.2.2.1.length x_v0.2.2.1.2, .int .i64 (v0.2.2.2)]]) (.cons aA .nil) ?_)
   rintro _ Q15 z16 t18 H1 hi19 hb20
   unfold p_impl_DiskOk_b0 at H1
   refine sr (aG (cS rfl rfl) (nl (aD (cH H1 rfl (fun h23 H1 => ?_) (fun h23 H1 => ?_)))))
   ·refine bI (nT (aD (aR (sr (aF rfl (gdo H1 fun h24 H1 => (aI (bX dY ty80 rfl rfl h24 rfl (aM (aU aS.s))) (aI (v := .agg #[.int .i64 ((nth v0.1 Q15.toNat).1), .slice ((((X1 Q15.toNat).2).1).1) ((((nth v0.1 Q15.toNat).2).1).length) ((((X1 Q15.toNat).2).1).2.1), .slice ((((X1 Q15.toNat).2).2).1) ((((nth v0.1 Q15.toNat).2).2).length) ((((X1 Q15.toNat).2).2).2.1)]) (cB (i := Q15.toNat) ty80 rfl (aM (aU aS.s)) h24.lt) (f1 (cE ty80) fun g25 => (aH rfl ?_))))))))))
    refine stb (cs' := [.int .i64 ((nth v0.1 Q15.toNat).1), .slice ((((X1 Q15.toNat).2).1).1) ((((nth v0.1 Q15.toNat).2).1).length) ((((X1 Q15.toNat).2).1).2.1), .slice ((((X1 Q15.toNat).2).2).1) ((((nth v0.1 Q15.toNat).2).2).length) ((((X1 Q15.toNat).2).2).2.1)]) ty80 cZ (nl (bdo H1 fun b26 j27 H1 => (dE [(59, .bool (b26)), (1, .pointer (some ⟨g3, 0, none⟩)), (24, .slice x_v0.1.1 v0.1.length x_v0.1.2), (25, .int .i64 ((v0.1.length : Int))), (26, .int .i64 (Q15))] ?_ ?_)))
    ·refine dG [(3, .int .i64 (Q15)), (4, .pointer (some ⟨g25, 0, none⟩)), (1, .pointer (some ⟨g3, 0, none⟩)), (24, .slice x_v0.1.1 v0.1.length x_v0.1.2), (25, .int .i64 ((v0.1.length : Int))), (26, .int .i64 (Q15))] mixed (.inr (by kernel_rfl)) ⟨rfl, rfl, rfl, rfl, rfl, rfl, trivial⟩ rfl (aY (cC fa80_0 rfl rfl) (bA (bJ ty3 rfl aB rfl) (aY (cC fa76_3 rfl rfl) (bA (bJ ty3 rfl hs1 rfl) (gdo j27 fun h28 j27 => (aY (cT rfl rfl h28) (bdo j27 fun r29 h30 j27 => (bA (bO (c_impl_within ((nth v0.1 Q15.toNat).1) 1 (v0.2.2.2 - 1) h30) rfl aP) (aY (cX rfl) ?_)))))))))
     rcases aL (!r29) with h31 | h31
     ·have j27 := cdT h31 j27
      refine bD (aE rfl) h31 ?_
      iterate 14 refine bF rfl ?_
      refine aY (v := .bool (true)) (bQ rfl rfl) (bC (v := .bool (true)) rfl ?_)
      iterate 4 refine bF rfl ?_
      refine aY (v := .bool (true)) (bQ rfl rfl) ?_
      obtain rfl := si j27
      show At _ _ _ _ _ _
      exact n1 ⟨rfl, rfl, rfl, rfl, rfl, trivial⟩
     ·have j27 := cdF h31 j27
      refine bD (aE rfl) h31 (aZ rfl (aE rfl) (aZ rfl (cW rfl rfl) ?_))
      rcases aL (decide (0 < Q15)) with h32 | h32
      ·have j27 := cdT h32 j27
       refine bE rfl (aE rfl) h32 (aZ rfl (cC fa76_0 rfl rfl) (bB rfl (bJ ty74 rfl hs1 rfl) (aZ rfl (aE rfl) (gdo j27 fun h33 j27 => (aZ rfl (cT rfl rfl h33) (gdo j27 fun h34 j27 => (bB rfl (bX dY ty80 rfl rfl h34 rfl (aM (aU aS.s))) (bB rfl (bZ (j := 0) ((Q15 - 1).toNat) fa80_0 rfl (aM (aU aS.s)) h34.lt rfl) (bB rfl (cA (i := (Q15 - 1).toNat) (j := 0) ty3 rfl (aM (aU aS.s)) h34.lt rfl) ?_)))))))))
       refine aZ rfl (cC fa80_0 rfl rfl) (bB rfl (bJ ty3 rfl aB rfl) (aZ rfl (p_geq rfl rfl) (aZ rfl (bQ rfl rfl) (aY (bP rfl rfl) ?_))))
       rcases aL (decide (((nth v0.1 Q15.toNat).1) ≤ ((nth v0.1 ((Q15 - 1).toNat)).1))) with h35 | h35
       ·have j27 := cdT h35 j27
        refine bD (aE rfl) h35 ?_
        iterate 4 refine bF rfl ?_
        refine aY (v := .bool (true)) (bQ rfl rfl) ?_
        obtain rfl := si j27
        show At _ _ _ _ _ _
        exact n1 ⟨rfl, rfl, rfl, rfl, rfl, trivial⟩
       ·have j27 := cdF h35 j27
        refine bD (aE rfl) h35 (aZ rfl (cC fa80_1 rfl rfl) (bB (v := .agg #[.slice ((((X1 Q15.toNat).2).1).1) ((((nth v0.1 Q15.toNat).2).1).length) ((((X1 Q15.toNat).2).1).2.1), .slice ((((X1 Q15.toNat).2).2).1) ((((nth v0.1 Q15.toNat).2).2).length) ((((X1 Q15.toNat).2).2).2.1)]) rfl (q_ldbP [.slice ((((X1 Q15.toNat).2).1).1) ((((nth v0.1 Q15.toNat).2).1).length) ((((X1 Q15.toNat).2).1).2.1), .slice ((((X1 Q15.toNat).2).2).1) ((((nth v0.1 Q15.toNat).2).2).length) ((((X1 Q15.toNat).2).2).2.1)] ty72 rfl aB rfl rfl) (bdo j27 fun r36 h37 j27 => (bB rfl (bO (c_impl_PartOk ((nth v0.1 Q15.toNat).2) (((((X1 Q15.toNat).2).1).1, (((X1 Q15.toNat).2).1).2.1), ((((X1 Q15.toNat).2).2).1, (((X1 Q15.toNat).2).2).2.1)) h37) rfl (aC (aM (aT (aW (aV (aX aS.s h24.lt))))) (aC (aM (aT (aV (aV (aX aS.s h24.lt))))) aP))) (aZ rfl (cX rfl) (aY (bP rfl rfl) ?_))))))
        obtain rfl := si j27
        show At _ _ _ _ _ _
        exact n1 ⟨rfl, rfl, rfl, rfl, rfl, trivial⟩
      ·have j27 := cdF h32 j27
       refine bE rfl (aE rfl) h32 ?_
       iterate 10 refine bF rfl ?_
       refine aZ (v := .bool (false)) rfl (bP rfl rfl) (aY (v := .bool (false)) (bP rfl rfl) (bC (v := .bool (false)) rfl (aZ rfl (cC fa80_1 rfl rfl) (bB (v := .agg #[.slice ((((X1 Q15.toNat).2).1).1) ((((nth v0.1 Q15.toNat).2).1).length) ((((X1 Q15.toNat).2).1).2.1), .slice ((((X1 Q15.toNat).2).2).1) ((((nth v0.1 Q15.toNat).2).2).length) ((((X1 Q15.toNat).2).2).2.1)]) rfl (q_ldbP [.slice ((((X1 Q15.toNat).2).1).1) ((((nth v0.1 Q15.toNat).2).1).length) ((((X1 Q15.toNat).2).1).2.1), .slice ((((X1 Q15.toNat).2).2).1) ((((nth v0.1 Q15.toNat).2).2).length) ((((X1 Q15.toNat).2).2).2.1)] ty72 rfl aB rfl rfl) (bdo j27 fun r38 h39 j27 => (bB rfl (bO (c_impl_PartOk ((nth v0.1 Q15.toNat).2) (((((X1 Q15.toNat).2).1).1, (((X1 Q15.toNat).2).1).2.1), ((((X1 Q15.toNat).2).2).1, (((X1 Q15.toNat).2).2).2.1)) h39) rfl (aC (aM (aT (aW (aV (aX aS.s h24.lt))))) (aC (aM (aT (aV (aV (aX aS.s h24.lt))))) aP))) (aZ rfl (cX rfl) (aY (bP rfl rfl) ?_))))))))
       obtain rfl := si j27
       show At _ _ _ _ _ _
       exact n1 ⟨rfl, rfl, rfl, rfl, rfl, trivial⟩
    refine cH H1 rfl (fun h40 H1 => ?_) (fun h40 H1 => ?_)
    ·refine sr (aH (v := .bool (false)) rfl (nl (bR (rB (rT (rT (rB (rT (rT (?_))))))))))
     obtain rfl := hb20 _ (sm H1)
     replace H := sw.r H
     obtain rfl := si H
     exact bk
    ·exact bI (nB (nT (aQ (gdo H1 fun h41 H1 => (aG (bS rfl rfl h41) (aF rfl (aJ (nLI () (hi19 _ (sm H1)) (.cons dl1 .nil)))))))))
   ·exact dB (xT (xT (xE (nMI () (hb20 _ (sm H1)) (.cons aA .nil)))))
  ·rintro e42 y17 H
   refine nT (aD (sr (aG (cC fa76_1 rfl rfl) (aI (bJ ty69 rfl aB rfl) (aG (bT 3 dW rfl) (aF (v := .int .i64 (0)) rfl (nl (bdo H fun x43 hx44 H => (dD (Λ := Unit) H (fun _ _ => [(1, .pointer (some ⟨g3, 0, none⟩))]) (fun _ _ => [box g3 76 [.slice x_v0.1.1 v0.1.length x_v0.1.2, .slice x_v0.2.1.1 v0.2.1.length x_v0.2.1.2, .slice x_v0.2.2.1.1 v0.2.2.1.length x_v0.2.2.1.2, .int .i64 (v0.2.2.2)]]) ?_ ?_)))))))))
   ·refine aR (dF hx44 () (fun Q47 _ => [(1, .pointer (some ⟨g3, 0, none⟩)), (62, .slice x_v0.2.1.1 v0.2.1.length x_v0.2.1.2), (63, .int .i64 ((v0.2.1.length : Int))), (64, .int .i64 (Q47))]) (fun _ _ => [box g3 76 [.slice x_v0.1.1 v0.1.length x_v0.1.2, .slice x_v0.2.1.1 v0.2.1.length x_v0.2.1.2, .slice x_v0.2.2.1.1 v0.2.2.1.length x_v0.2.2.1.2, .int .i64 (v0.2.2.2)]]) (.cons aA .nil) ?_)
    rintro _ Q47 z48 t50 H1 hi51 hb52
    unfold p_impl_DiskOk_b1 at H1
    refine sr (aG (cS rfl rfl) (nl (aD (cH H1 rfl (fun h55 H1 => ?_) (fun h55 H1 => ?_)))))
    ·refine bI (nT (aD (aR (sr (aF rfl (gdo H1 fun h56 H1 => (aI (bX dW ty3 rfl rfl h56 rfl (aO (aM aS.s.s.s))) (aI (cA (i := Q47.toNat) (j := 0) ty3 rfl (aO (aM aS.s.s.s)) h56.lt rfl) (aH rfl (aH rfl (nl ?_)))))))))))
     refine bdo H1 fun b57 j58 H1 => (dE [(80, .bool (b57)), (1, .pointer (some ⟨g3, 0, none⟩)), (62, .slice x_v0.2.1.1 v0.2.1.length x_v0.2.1.2), (63, .int .i64 ((v0.2.1.length : Int))), (64, .int .i64 (Q47))] ?_ ?_)
     ·refine dI [(6, .int .i64 (nth v0.2.1 Q47.toNat)), (5, .int .i64 (Q47)), (1, .pointer (some ⟨g3, 0, none⟩)), (62, .slice x_v0.2.1.1 v0.2.1.length x_v0.2.1.2), (63, .int .i64 ((v0.2.1.length : Int))), (64, .int .i64 (Q47))] ⟨rfl, rfl, rfl, rfl, rfl, rfl, trivial⟩ (bA (bK ty76 rfl aB rfl) (bC rfl (bdo j58 fun r59 h60 j58 => (bA (bO (c_impl_Disk_file v0 (x_v0.1, x_v0.2.1, x_v0.2.2.1, ()) (nth v0.2.1 Q47.toNat) h60) rfl (aC (aM (aT aS.s)) (aC (aM aS.s.s.s) (aC (aM (aT aS)) aP)))) (aY (cS rfl rfl) ?_)))))
      rcases aL (decide (r59 < 0)) with h61 | h61
      ·have j58 := cdT h61 j58
       refine bD (aE rfl) h61 ?_
       iterate 6 refine bF rfl ?_
       refine aY (v := .bool (true)) (bQ rfl rfl) ?_
       obtain rfl := si j58
       show At _ _ _ _ _ _
       exact n1 ⟨rfl, rfl, rfl, rfl, rfl, trivial⟩
      ·have j58 := cdF h61 j58
       refine bD (aE rfl) h61 (aZ rfl (cC fa76_1 rfl rfl) (bB rfl (bJ ty69 rfl aB rfl) (aZ rfl (aE rfl) (gdo j58 fun h62 j58 => (bB (v := .slice (subA x_v0.2.1.1 x_v0.2.1.2 0 (Enc.sz Int)) (((v0.2.1.take Q47.toNat).drop 0).length) (x_v0.2.1.2 - 0)) rfl (q_slF (l := v0.2.1) (α := Int) 0 Q47 dW ty3 rfl rfl (fun _ => rfl) rfl (fun h => nomatch h) h62 (aM aS.s.s.s)) (aZ rfl (aE rfl) (bdo j58 fun r63 h64 j58 => (bB rfl (bO (c_slices_Contains_int_int ((v0.2.1.take Q47.toNat).drop 0) (subA x_v0.2.1.1 x_v0.2.1.2 0 (Enc.sz Int), (x_v0.2.1.2 - 0)) (nth v0.2.1 Q47.toNat) h64) rfl (aC (aM (Ent.sub aS.s.s.s h62.le h62.lt)) aP)) (aY (bP rfl rfl) ?_)))))))))
       obtain rfl := si j58
       show At _ _ _ _ _ _
       exact n1 ⟨rfl, rfl, rfl, rfl, rfl, trivial⟩
     refine cH H1 rfl (fun h65 H1 => ?_) (fun h65 H1 => ?_)
     ·refine sr (aH (v := .bool (false)) rfl (nl (bR (rB (rT (rT (rB (rT (rT (?_))))))))))
      obtain rfl := hb52 _ (sm H1)
      replace H := sw.r H
      obtain rfl := si H
      exact bk
     ·exact bI (nB (nT (aQ (gdo H1 fun h66 H1 => (aG (bS rfl rfl h66) (aF rfl (aJ (nLI () (hi51 _ (sm H1)) (.cons aA .nil)))))))))
    ·exact dB (xT (xT (xE (nMI () (hb52 _ (sm H1)) (.cons aA .nil)))))
   ·rintro e67 y49 H
    refine nT (sr (aI (bK ty76 rfl aB rfl) (bdo H fun r68 h69 H => (f1 (cG (c_impl_Disk_open v0 (x_v0.1, x_v0.2.1, x_v0.2.2.1, ()) h69) (fun _ => (bG (bG (bG (bG bH))))) rfl (aC (aM (aT aS.s)) (aC (aM aS.s.s.s) (aC (aM (aT aS)) aP)))) fun x70 => (bdo H fun r71 h72 H => (aI (bO (c_impl_StoreOk r68 x70 h72) rfl (aC (bM aB) (aC (bM hs1) (aC (bM hs2) (aC (bM hs3) aP))))) (aH rfl (nl ?_))))))))
    obtain rfl := si H
    exact bR bk
noncomputable def p_spec_DiskOk_b0 (v0 : Disk) (Q16 : Int) : Option ((Int) ⊕ (Unit ⊕ Bool)) := cond (decide (Q16 < (v0.1.length : Int))) (bd (gd (ix Q16 v0.1.length) <| gd (I64 (v0.2.2.2 - 1)) <| bd (p_spec_l6In ((nth v0.1 Q16.toNat).1) 1 (v0.2.2.2 - 1)) fun r29 => cond (!r29) (some (true)) (cond (decide (0 < Q16)) (gd (I64 (Q16 - 1)) <| gd (ix (Q16 - 1) v0.1.length) <| cond (decide (((nth v0.1 Q16.toNat).1) ≤ ((nth v0.1 ((Q16 - 1).toNat)).1))) (some (true)) (bd (p_spec_PartOk ((nth v0.1 Q16.toNat).2)) fun r36 => some (!r36))) (bd (p_spec_PartOk ((nth v0.1 Q16.toNat).2)) fun r38 => some (!r38)))) fun b25 => cond (b25) (some (.inr (.inr false))) (gd (I64 (Q16 + 1)) <| some (.inl (Q16 + 1)))) (some (.inr (.inl ())))
noncomputable def p_spec_DiskOk_b2 (v0 : Disk) (Q47 : Int) (Q64 : Int) : Option ((Int) ⊕ (Unit ⊕ Bool)) := cond (decide (Q64 < Q47)) (gd (ix Q64 v0.2.1.length) <| cond (decide ((nth v0.2.1 Q64.toNat) = (nth v0.2.1 Q47.toNat))) (some (.inr (.inr false))) (gd (I64 (Q64 + 1)) <| some (.inl (Q64 + 1)))) (some (.inr (.inl ())))
noncomputable def p_spec_DiskOk_b1 (v0 : Disk) (Q47 : Int) : Option ((Int) ⊕ (Unit ⊕ Bool)) := cond (decide (Q47 < (v0.2.1.length : Int))) (gd (ix Q47 v0.2.1.length) <| bd (p_spec_l21At v0 (nth v0.2.1 Q47.toNat)) fun r57 => cond (decide (r57 < 0)) (some (.inr (.inr false))) (bd (lp (p_spec_DiskOk_b2 v0 Q47) 0) <| sw (fun _ => gd (I64 (Q47 + 1)) <| some (.inl (Q47 + 1))) (fun q => some (.inr (.inr q))))) (some (.inr (.inl ())))
noncomputable def p_spec_DiskOk (v0 : Disk) : Option (Bool) := bd (bd (p_spec_l6In v0.2.2.2 1 999) fun r6 => cond (!r6) (some (true)) (cond (decide (20 < (v0.1.length : Int))) (some (true)) (cond (decide (6 < (v0.2.1.length : Int))) (some (true)) (some (decide (6 < (v0.2.2.1.length : Int))))))) fun b4 => cond (b4) (some false) (bd (lp (p_spec_DiskOk_b0 v0) 0) <| sw (fun _ => bd (lp (p_spec_DiskOk_b1 v0) 0) <| sw (fun _ => bd (p_spec_l21Open v0) fun r79 => bd (p_spec_StoreOk r79) fun r82 => some r82) (fun q => some q)) (fun q => some q))
theorem c_spec_DiskOk {r : Bool} (v0 : Disk) (x_v0 : (Option Addr × Nat) × (Option Addr × Nat) × (Option Addr × Nat) × Unit) (H : p_spec_DiskOk v0 = some r) : Fn' prog 33 #[.agg #[.slice x_v0.1.1 v0.1.length x_v0.1.2, .slice x_v0.2.1.1 v0.2.1.length x_v0.2.1.2, .slice x_v0.2.2.1.1 v0.2.2.1.length x_v0.2.2.1.2, .int .i64 (v0.2.2.2)]] [imm (.slice x_v0.1.1 v0.1.length x_v0.1.2) v0.1, imm (.slice x_v0.2.1.1 v0.2.1.length x_v0.2.1.2) v0.2.1, imm (.slice x_v0.2.2.1.1 v0.2.2.1.length x_v0.2.2.1.2) v0.2.2.1] [] (ι := Unit) (fun _ => .bool (r)) (fun _ => []) (fun _ => []) := by
 refine cof (args := [_]) func33 ntmps33 fun c => ?_
 unfold p_spec_DiskOk at H
 refine bN aS fun X1 => (bN aS.s.s.s fun X2 => (sr (f1 (cD (t := 76) rfl) fun g3 => (aH (v := .bool (false)) rfl (nl (aD (bdo H fun b4 j5 H => (dE [(27, .bool (b4)), (1, .pointer (some ⟨g3, 0, none⟩))] ?_ ?_))))))))
 ·refine dI [(1, .pointer (some ⟨g3, 0, none⟩))] ⟨rfl, trivial⟩ (aY (cC fa76_3 rfl rfl) (bA (bJ ty3 rfl aB rfl) (bdo j5 fun r6 h7 j5 => (bA (bO (c_spec_l6In v0.2.2.2 1 999 h7) rfl aP) (aY (cX rfl) ?_)))))
  rcases aL (!r6) with h8 | h8
  ·have j5 := cdT h8 j5
   refine bD (aE rfl) h8 ?_
   iterate 4 refine bF rfl ?_
   refine aY (v := .bool (true)) (bQ rfl rfl) (bC (v := .bool (true)) rfl ?_)
   iterate 4 refine bF rfl ?_
   refine aY (v := .bool (true)) (bQ rfl rfl) (bC (v := .bool (true)) rfl ?_)
   iterate 4 refine bF rfl ?_
   refine aY (v := .bool (true)) (bQ rfl rfl) ?_
   obtain rfl := si j5
   show At _ _ _ _ _ _
   exact n1 ⟨rfl, rfl, trivial⟩
  ·have j5 := cdF h8 j5
   refine bD (aE rfl) h8 (aZ rfl (cC fa76_0 rfl rfl) (bB rfl (bJ ty74 rfl aB rfl) (aZ rfl (bT 80 dY rfl) (aZ rfl (cW rfl rfl) (aY (bP rfl rfl) ?_)))))
   rcases aL (decide (20 < (v0.1.length : Int))) with h9 | h9
   ·have j5 := cdT h9 j5
    refine bD (aE rfl) h9 ?_
    iterate 4 refine bF rfl ?_
    refine aY (v := .bool (true)) (bQ rfl rfl) (bC (v := .bool (true)) rfl ?_)
    iterate 4 refine bF rfl ?_
    refine aY (v := .bool (true)) (bQ rfl rfl) ?_
    obtain rfl := si j5
    show At _ _ _ _ _ _
    exact n1 ⟨rfl, rfl, trivial⟩
   ·have j5 := cdF h9 j5
    refine bD (aE rfl) h9 (aZ rfl (cC fa76_1 rfl rfl) (bB rfl (bJ ty69 rfl aB rfl) (aZ rfl (bT 3 dW rfl) (aZ rfl (cW rfl rfl) (aY (bP rfl rfl) ?_)))))
    rcases aL (decide (6 < (v0.2.1.length : Int))) with h10 | h10
    ·have j5 := cdT h10 j5
     refine bD (aE rfl) h10 ?_
     iterate 4 refine bF rfl ?_
     refine aY (v := .bool (true)) (bQ rfl rfl) ?_
     obtain rfl := si j5
     show At _ _ _ _ _ _
     exact n1 ⟨rfl, rfl, trivial⟩
    ·have j5 := cdF h10 j5
     refine bD (aE rfl) h10 (aZ rfl (cC fa76_2 rfl rfl) (bB rfl (bJ ty35 rfl aB rfl) (aZ rfl (bT 105 dO rfl) (aZ rfl (cW rfl rfl) (aY (bP rfl rfl) ?_)))))
     obtain rfl := si j5
     show At _ _ _ _ _ _
     exact n1 ⟨rfl, rfl, trivial⟩
 refine cH H rfl (fun h11 H => ?_) (fun h11 H => ?_)
 ·refine sr (aH (v := .bool (false)) rfl (nl (bR (rT (?_)))))
  obtain rfl := si H
  exact bk
 ·refine bI (nT (aD (sr (aH (v := .int .i64 (0)) rfl (nl (bdo H fun x12 hx13 H => (dD (Λ := Unit) H (fun _ _ => [(1, .pointer (some ⟨g3, 0, none⟩))]) (fun _ _ => [box g3 76 [.slice x_v0.1.1 v0.1.length x_v0.1.2, .slice x_v0.2.1.1 v0.2.1.length x_v0.2.1.2, .slice x_v0.2.2.1.1 v0.2.2.1.length x_v0.2.2.1.2, .int .i64 (v0.2.2.2)]]) ?_ ?_)))))))
  ·refine aR (dF hx13 () (fun Q16 _ => [(1, .pointer (some ⟨g3, 0, none⟩)), (3, .int .i64 (Q16))]) (fun _ _ => [box g3 76 [.slice x_v0.1.1 v0.1.length x_v0.1.2, .slice x_v0.2.1.1 v0.2.1.length x_v0.2.1.2, .slice x_v0.2.2.1.1 v0.2.2.1.length x_v0.2.2.1.2, .int .i64 (v0.2.2.2)]]) (.cons aA .nil) ?_)
   rintro _ Q16 z17 t19 H1 hi20 hb21
   unfold p_spec_DiskOk_b0 at H1
   refine aD (sr (aF rfl (aG (cC fa76_0 rfl rfl) (aI (bJ ty74 rfl aB rfl) (aG (bT 80 dY rfl) (aG (cS rfl rfl) (nl (cH H1 rfl (fun h24 H1 => ?_) (fun h24 H1 => ?_)))))))))
   ·refine bI (nT (aD (aR (bdo H1 fun b25 j26 H1 => (dE [(75, .bool (b25)), (1, .pointer (some ⟨g3, 0, none⟩)), (3, .int .i64 (Q16))] ?_ ?_)))))
    ·refine dG [(1, .pointer (some ⟨g3, 0, none⟩)), (3, .int .i64 (Q16))] mixed (.inr (by kernel_rfl)) ⟨rfl, rfl, trivial⟩ rfl (aY (cC fa76_0 rfl rfl) (bA (bJ ty74 rfl aB rfl) (bC rfl (gdo j26 fun h27 j26 => (bA (bX dY ty80 rfl rfl h27 rfl (aM (aU aS.s))) (bA (bZ (j := 0) Q16.toNat fa80_0 rfl (aM (aU aS.s)) h27.lt rfl) (bA (cA (i := Q16.toNat) (j := 0) ty3 rfl (aM (aU aS.s)) h27.lt rfl) (aY (cC fa76_3 rfl rfl) (bA (bJ ty3 rfl aB rfl) ?_)))))))))
     refine gdo j26 fun h28 j26 => (aY (cT rfl rfl h28) (bdo j26 fun r29 h30 j26 => (bA (bO (c_spec_l6In ((nth v0.1 Q16.toNat).1) 1 (v0.2.2.2 - 1) h30) rfl aP) (aY (cX rfl) ?_))))
     rcases aL (!r29) with h31 | h31
     ·have j26 := cdT h31 j26
      refine bD (aE rfl) h31 ?_
      iterate 18 refine bF rfl ?_
      refine aY (v := .bool (true)) (bQ rfl rfl) (bC (v := .bool (true)) rfl ?_)
      iterate 8 refine bF rfl ?_
      refine aY (v := .bool (true)) (bQ rfl rfl) ?_
      obtain rfl := si j26
      show At _ _ _ _ _ _
      exact n1 ⟨rfl, rfl, rfl, trivial⟩
     ·have j26 := cdF h31 j26
      refine bD (aE rfl) h31 (aZ rfl (aE rfl) (aZ rfl (cW rfl rfl) ?_))
      rcases aL (decide (0 < Q16)) with h32 | h32
      ·have j26 := cdT h32 j26
       refine bE rfl (aE rfl) h32 (aZ rfl (cC fa76_0 rfl rfl) (bB rfl (bJ ty74 rfl aB rfl) (aZ rfl (aE rfl) (gdo j26 fun h33 j26 => (aZ rfl (cT rfl rfl h33) (gdo j26 fun h34 j26 => (bB rfl (bX dY ty80 rfl rfl h34 rfl (aM (aU aS.s))) (bB rfl (bZ (j := 0) ((Q16 - 1).toNat) fa80_0 rfl (aM (aU aS.s)) h34.lt rfl) (bB rfl (cA (i := (Q16 - 1).toNat) (j := 0) ty3 rfl (aM (aU aS.s)) h34.lt rfl) ?_)))))))))
       refine aZ rfl (cC fa76_0 rfl rfl) (bB rfl (bJ ty74 rfl aB rfl) (aZ rfl (aE rfl) (bB rfl (bX dY ty80 rfl rfl h27 rfl (aM (aU aS.s))) (bB rfl (bZ (j := 0) Q16.toNat fa80_0 rfl (aM (aU aS.s)) h27.lt rfl) (bB rfl (cA (i := Q16.toNat) (j := 0) ty3 rfl (aM (aU aS.s)) h27.lt rfl) (aZ rfl (p_geq rfl rfl) (aZ rfl (bQ rfl rfl) (aY (bP rfl rfl) ?_))))))))
       rcases aL (decide (((nth v0.1 Q16.toNat).1) ≤ ((nth v0.1 ((Q16 - 1).toNat)).1))) with h35 | h35
       ·have j26 := cdT h35 j26
        refine bD (aE rfl) h35 ?_
        iterate 8 refine bF rfl ?_
        refine aY (v := .bool (true)) (bQ rfl rfl) ?_
        obtain rfl := si j26
        show At _ _ _ _ _ _
        exact n1 ⟨rfl, rfl, rfl, trivial⟩
       ·have j26 := cdF h35 j26
        refine bD (aE rfl) h35 (aZ rfl (cC fa76_0 rfl rfl) (bB rfl (bJ ty74 rfl aB rfl) (aZ rfl (aE rfl) (bB rfl (bX dY ty80 rfl rfl h27 rfl (aM (aU aS.s))) (bB rfl (bZ (j := 0) Q16.toNat fa80_1 rfl (aM (aU aS.s)) h27.lt rfl) (bB (v := .agg #[.slice ((((X1 Q16.toNat).2).1).1) ((((nth v0.1 Q16.toNat).2).1).length) ((((X1 Q16.toNat).2).1).2.1), .slice ((((X1 Q16.toNat).2).2).1) ((((nth v0.1 Q16.toNat).2).2).length) ((((X1 Q16.toNat).2).2).2.1)]) rfl (q_ldeP [.slice ((((X1 Q16.toNat).2).1).1) ((((nth v0.1 Q16.toNat).2).1).length) ((((X1 Q16.toNat).2).1).2.1), .slice ((((X1 Q16.toNat).2).2).1) ((((nth v0.1 Q16.toNat).2).2).length) ((((X1 Q16.toNat).2).2).2.1)] (l := v0.1) (E := fun i => Dp.denc (nth v0.1 i) (X1 i)) (oa := x_v0.1.1) (i := Q16.toNat) (j := 1) ty72 rfl (aM (aU aS.s)) h27.lt rfl rfl) (bdo j26 fun r36 h37 j26 => (bB rfl (bO (c_spec_PartOk ((nth v0.1 Q16.toNat).2) (((((X1 Q16.toNat).2).1).1, (((X1 Q16.toNat).2).1).2.1), ((((X1 Q16.toNat).2).2).1, (((X1 Q16.toNat).2).2).2.1)) h37) rfl (aC (aM (aT (aW (aV (aX aS.s h27.lt))))) (aC (aM (aT (aV (aV (aX aS.s h27.lt))))) aP))) (aZ rfl (cX rfl) ?_)))))))))
        refine aY (bP rfl rfl) ?_
        obtain rfl := si j26
        show At _ _ _ _ _ _
        exact n1 ⟨rfl, rfl, rfl, trivial⟩
      ·have j26 := cdF h32 j26
       refine bE rfl (aE rfl) h32 ?_
       iterate 14 refine bF rfl ?_
       refine aZ (v := .bool (false)) rfl (bP rfl rfl) (aY (v := .bool (false)) (bP rfl rfl) (bC (v := .bool (false)) rfl (aZ rfl (cC fa76_0 rfl rfl) (bB rfl (bJ ty74 rfl aB rfl) (aZ rfl (aE rfl) (bB rfl (bX dY ty80 rfl rfl h27 rfl (aM (aU aS.s))) (bB rfl (bZ (j := 0) Q16.toNat fa80_1 rfl (aM (aU aS.s)) h27.lt rfl) (bB (v := .agg #[.slice ((((X1 Q16.toNat).2).1).1) ((((nth v0.1 Q16.toNat).2).1).length) ((((X1 Q16.toNat).2).1).2.1), .slice ((((X1 Q16.toNat).2).2).1) ((((nth v0.1 Q16.toNat).2).2).length) ((((X1 Q16.toNat).2).2).2.1)]) rfl (q_ldeP [.slice ((((X1 Q16.toNat).2).1).1) ((((nth v0.1 Q16.toNat).2).1).length) ((((X1 Q16.toNat).2).1).2.1), .slice ((((X1 Q16.toNat).2).2).1) ((((nth v0.1 Q16.toNat).2).2).length) ((((X1 Q16.toNat).2).2).2.1)] (l := v0.1) (E := fun i => Dp.denc (nth v0.1 i) (X1 i)) (oa := x_v0.1.1) (i := Q16.toNat) (j := 1) ty72 rfl (aM (aU aS.s)) h27.lt rfl rfl) (bdo j26 fun r38 h39 j26 => ?_)))))))))
       refine bB rfl (bO (c_spec_PartOk ((nth v0.1 Q16.toNat).2) (((((X1 Q16.toNat).2).1).1, (((X1 Q16.toNat).2).1).2.1), ((((X1 Q16.toNat).2).2).1, (((X1 Q16.toNat).2).2).2.1)) h39) rfl (aC (aM (aT (aW (aV (aX aS.s h27.lt))))) (aC (aM (aT (aV (aV (aX aS.s h27.lt))))) aP))) (aZ rfl (cX rfl) (aY (bP rfl rfl) ?_))
       obtain rfl := si j26
       show At _ _ _ _ _ _
       exact n1 ⟨rfl, rfl, rfl, trivial⟩
    refine cH H1 rfl (fun h40 H1 => ?_) (fun h40 H1 => ?_)
    ·refine sr (aH (v := .bool (false)) rfl (nl (bR (rB (rT (rT (rB (rT (rT (?_))))))))))
     obtain rfl := hb21 _ (sm H1)
     replace H := sw.r H
     obtain rfl := si H
     exact bk
    ·exact bI (nB (nT (aQ (aF rfl (gdo H1 fun h41 H1 => (aG (bS rfl rfl h41) (aH rfl (aJ (nLI () (hi20 _ (sm H1)) (.cons aA .nil))))))))))
   ·exact dB (xT (xT (xE (nMI () (hb21 _ (sm H1)) (.cons aA .nil)))))
  ·rintro e42 y18 H
   refine nT (aD (sr (aH (v := .int .i64 (0)) rfl (nl (bdo H fun x43 hx44 H => (dD (Λ := Unit) H (fun _ _ => [(1, .pointer (some ⟨g3, 0, none⟩))]) (fun _ _ => [box g3 76 [.slice x_v0.1.1 v0.1.length x_v0.1.2, .slice x_v0.2.1.1 v0.2.1.length x_v0.2.1.2, .slice x_v0.2.2.1.1 v0.2.2.1.length x_v0.2.2.1.2, .int .i64 (v0.2.2.2)]]) ?_ ?_))))))
   ·refine aR (dF hx44 () (fun Q47 _ => [(1, .pointer (some ⟨g3, 0, none⟩)), (4, .int .i64 (Q47))]) (fun _ _ => [box g3 76 [.slice x_v0.1.1 v0.1.length x_v0.1.2, .slice x_v0.2.1.1 v0.2.1.length x_v0.2.1.2, .slice x_v0.2.2.1.1 v0.2.2.1.length x_v0.2.2.1.2, .int .i64 (v0.2.2.2)]]) (.cons aA .nil) ?_)
    rintro _ Q47 z48 t50 H1 hi51 hb52
    unfold p_spec_DiskOk_b1 at H1
    refine aD (sr (aF rfl (aG (cC fa76_1 rfl rfl) (aI (bJ ty69 rfl aB rfl) (aG (bT 3 dW rfl) (aG (cS rfl rfl) (nl (cH H1 rfl (fun h55 H1 => ?_) (fun h55 H1 => ?_)))))))))
    ·refine bI (nT (aD (aR (aD (aD (dG [(1, .pointer (some ⟨g3, 0, none⟩)), (4, .int .i64 (Q47))] mixed (.inr (by kernel_rfl)) ⟨rfl, rfl, trivial⟩ rfl (bA (bK ty76 rfl aB rfl) (aY (cC fa76_1 rfl rfl) (bA (bJ ty69 rfl aB rfl) (bC rfl ?_))))))))))
     refine gdo H1 fun h56 H1 => (bA (bX dW ty3 rfl rfl h56 rfl (aO (aM aS.s.s.s))) (bA (cA (i := Q47.toNat) (j := 0) ty3 rfl (aO (aM aS.s.s.s)) h56.lt rfl) (bdo H1 fun r57 h58 H1 => (bA (bO (c_spec_l21At v0 (x_v0.1, x_v0.2.1, x_v0.2.2.1, ()) (nth v0.2.1 Q47.toNat) h58) rfl (aC (aM (aT aS.s)) (aC (aM aS.s.s.s) (aC (aM (aT aS)) aP)))) (aY (cS rfl rfl) (nT (cH H1 rfl (fun h59 H1 => ?_) (fun h59 H1 => ?_))))))))
     ·refine sr (aH (v := .bool (false)) rfl (nl (bR (rT (rB (rT (rT (rB (rT (rT (?_)))))))))))
      obtain rfl := hb52 _ (sm H1)
      replace H := sw.r H
      obtain rfl := si H
      exact bk
     ·refine bI (nT (sr (aH (v := .int .i64 (0)) rfl (nl (bdo H1 fun x60 hx61 H1 => (dD (Λ := Unit) H1 (fun _ _ => [(1, .pointer (some ⟨g3, 0, none⟩)), (4, .int .i64 (Q47))]) (fun _ _ => [box g3 76 [.slice x_v0.1.1 v0.1.length x_v0.1.2, .slice x_v0.2.1.1 v0.2.1.length x_v0.2.1.2, .slice x_v0.2.2.1.1 v0.2.2.1.length x_v0.2.2.1.2, .int .i64 (v0.2.2.2)]]) ?_ ?_))))))
      ·refine aR (dF hx61 () (fun Q64 _ => [(1, .pointer (some ⟨g3, 0, none⟩)), (4, .int .i64 (Q47)), (5, .int .i64 (Q64))]) (fun _ _ => [box g3 76 [.slice x_v0.1.1 v0.1.length x_v0.1.2, .slice x_v0.2.1.1 v0.2.1.length x_v0.2.1.2, .slice x_v0.2.2.1.1 v0.2.2.1.length x_v0.2.2.1.2, .int .i64 (v0.2.2.2)]]) (.cons aA .nil) ?_)
       rintro _ Q64 z65 t67 H2 hi68 hb69
       unfold p_spec_DiskOk_b2 at H2
       refine aD (sr (aF rfl (aF rfl (aG (cS rfl rfl) (nl (cH H2 rfl (fun h72 H2 => ?_) (fun h72 H2 => ?_)))))))
       ·refine bI (nT (aD (aR (aD (dG [(1, .pointer (some ⟨g3, 0, none⟩)), (4, .int .i64 (Q47)), (5, .int .i64 (Q64))] mixed (.inr (by kernel_rfl)) ⟨rfl, rfl, rfl, trivial⟩ rfl (aY (cC fa76_1 rfl rfl) (bA (bJ ty69 rfl aB rfl) (bC rfl (gdo H2 fun h73 H2 => (bA (bX dW ty3 rfl rfl h73 rfl (aO (aM aS.s.s.s))) ?_))))))))))
        refine bA (cA (i := Q64.toNat) (j := 0) ty3 rfl (aO (aM aS.s.s.s)) h73.lt rfl) (aY (cC fa76_1 rfl rfl) (bA (bJ ty69 rfl aB rfl) (bC rfl (bA (bX dW ty3 rfl rfl h56 rfl (aO (aM aS.s.s.s))) (bA (cA (i := Q47.toNat) (j := 0) ty3 rfl (aO (aM aS.s.s.s)) h56.lt rfl) (aY (cV rfl rfl) (nT (cH H2 rfl (fun h74 H2 => ?_) (fun h74 H2 => ?_)))))))))
        ·refine sr (aH (v := .bool (false)) rfl (nl (bR (rB (rT (rT (rB (rT (rB (rT (rT (rB (rT (rT (?_)))))))))))))))
         obtain rfl := hb69 _ (sm H2)
         replace H1 := sw.r H1
         obtain rfl := hb52 _ (sm H1)
         replace H := sw.r H
         obtain rfl := si H
         exact bk
        ·exact bI (nB (nT (aQ (aF rfl (gdo H2 fun h75 H2 => (aG (bS rfl rfl h75) (aH rfl (aJ (nLI () (hi68 _ (sm H2)) (.cons aA .nil))))))))))
       ·exact dB (xT (xT (xE (nMI () (hb69 _ (sm H2)) (.cons aA .nil)))))
      ·rintro e76 y66 H1
       exact nB (nT (aQ (aF rfl (gdo H1 fun h77 H1 => (aG (bS rfl rfl h77) (aH rfl (aJ (nLI () (hi51 _ (sm H1)) (.cons aA .nil)))))))))
    ·exact dB (xT (xT (xE (nMI () (hb52 _ (sm H1)) (.cons aA .nil)))))
   ·rintro e78 y49 H
    refine nT (sr (aI (bK ty76 rfl aB rfl) (bdo H fun r79 h80 H => (f1 (e_call (c_spec_l21Open v0 (x_v0.1, x_v0.2.1, x_v0.2.2.1, ()) h80) rfl (cN (aT aS.s) (cN aS.s.s.s (cN (aT aS) cO))) bL) fun x81 => (bdo H fun r82 h83 H => (aI (bO (c_spec_StoreOk r79 x81 h83) rfl (aC (aM aS) (aC (aM aS.s) (aC (aM aS.s.s) (aC (aM aS.s.s.s) aP))))) (aH rfl (nl ?_))))))))
    obtain rfl := si H
    exact bR bk
noncomputable def p_impl_DiskNew : Option (Disk) := some (([] : List File), ([] : List Int), ([] : List (List Tag)), 1)
theorem c_impl_DiskNew {r : Disk}  (H : p_impl_DiskNew = some r) : Fn' prog 34 #[] [] [] (ι := (Option Addr × Nat) × (Option Addr × Nat) × (Option Addr × Nat) × Unit) (fun x => .agg #[.slice x.1.1 r.1.length x.1.2, .slice x.2.1.1 r.2.1.length x.2.1.2, .slice x.2.2.1.1 r.2.2.1.length x.2.2.1.2, .int .i64 (r.2.2.2)]) (fun _ => []) (fun x => [tree (.slice x.1.1 r.1.length x.1.2) r.1, tree (.slice x.2.1.1 r.2.1.length x.2.1.2) r.2.1, tree (.slice x.2.2.1.1 r.2.2.1.length x.2.2.1.2) r.2.2.1]) := by
 refine cof (args := []) func34 ntmps34 fun c => ?_
 unfold p_impl_DiskNew at H
 refine sr (f1 (cE ty76) fun g1 => (nl (sr (f2 (e_lit0 File dY ty80) fun a2 c3 => (f2 (e_lit0 Int dW ty3) fun a4 c5 => (f2 (e_lit0 (List Tag) dO ty105) fun a6 c7 => (aG (v := .agg #[.slice a2 (([] : List File).length) c3, .slice a4 (([] : List Int).length) c5, .slice a6 (([] : List (List Tag)).length) c7, .int .i64 (1)]) (p_buildS (vs := [(0, .slice a2 (([] : List File).length) c3), (1, .slice a4 (([] : List Int).length) c5), (2, .slice a6 (([] : List (List Tag)).length) c7), (3, .int .i64 (1))]) (cs := #[.slice a2 (([] : List File).length) c3, .slice a4 (([] : List Int).length) c5, .slice a6 (([] : List (List Tag)).length) c7, .int .i64 (1)]) ty76 pl76 rfl rfl) (stb (cs' := [.slice a2 (([] : List File).length) c3, .slice a4 (([] : List Int).length) c5, .slice a6 (([] : List (List Tag)).length) c7, .int .i64 (1)]) ty76 up3 (nl ?_)))))))))
 refine bR ?_
 obtain rfl := si H
 exact back1 ((a2, c3), (a4, c5), (a6, c7), ()) rfl (ResV.agg ty76 rfl hs3 rfl) rfl cO (.cons dl2 (.cons dl1 (.cons aA .nil)))
noncomputable def p_laws_FnDiskForm_b1 (r2 : Disk) (Q20 : Int) (Q33 : Int × Int) : Option ((Int × Int) ⊕ (Int)) := cond (decide (Q33.2 < (r2.1.length : Int))) (gd (ix Q33.2 r2.1.length) <| gd (ix Q20 r2.2.1.length) <| cond (decide (((nth r2.1 Q33.2.toNat).1) = (nth r2.2.1 Q20.toNat))) (gd (I64 (Q33.1 + 1)) <| gd (I64 (Q33.2 + 1)) <| some (.inl (Q33.1 + 1, Q33.2 + 1))) (gd (I64 (Q33.2 + 1)) <| some (.inl (Q33.1, Q33.2 + 1)))) (some (.inr Q33.1))
noncomputable def p_laws_FnDiskForm_b0 (r2 : Disk) (Q20 : Int) : Option ((Int) ⊕ (Unit ⊕ Bool)) := cond (decide (Q20 < (r2.2.1.length : Int))) (bd (lp (p_laws_FnDiskForm_b1 r2 Q20) (0, 0)) fun x29 => cond (!decide (x29 = 1)) (some (.inr (.inr false))) (gd (I64 (Q20 + 1)) <| some (.inl (Q20 + 1)))) (some (.inr (.inl ())))
noncomputable def p_laws_FnDiskForm (v0 : (List UInt8)) : Option (Bool) := cond (decide (1048576 < (v0.length : Int))) (some true) (bd (p_spec_DrawDiskOk v0) fun r2 => bd (p_impl_DiskOk r2) fun r6 => bd (bd (p_spec_DiskOk r2) fun r10 => cond (!decide (r6 = r10)) (some (true)) (some (!r6))) fun b8 => cond (b8) (bd (p_spec_DiskOk r2) fun r14 => some (decide (r6 = r14))) (bd (lp (p_laws_FnDiskForm_b0 r2) 0) <| sw (fun _ => gd (room (([] : List Int).length + r2.2.1.length)) <| gd (room ((([] : List Int) ++ r2.2.1).length + 1)) <| cond (decide (0 < (r2.2.1.length : Int))) (gd (ix 0 r2.2.1.length) <| bd (p_impl_DiskOk (r2.1, ((([] : List Int) ++ r2.2.1) ++ [r2.2.2.2]), r2.2.2.1, r2.2.2.2)) fun r70 => cond (!r70) (cond (decide ((r2.2.1.length : Int) = 0)) (bd (p_impl_DiskNew) fun r74 => bd (p_impl_DiskOk r74) fun r77 => some r77) (bd (p_impl_DiskOk (r2.1, ((([] : List Int) ++ r2.2.1) ++ [nth r2.2.1 0]), r2.2.2.1, r2.2.2.2)) fun r79 => cond (!r79) (bd (p_impl_DiskNew) fun r82 => bd (p_impl_DiskOk r82) fun r85 => some r85) (some false))) (some false)) (bd (p_impl_DiskOk (r2.1, ((([] : List Int) ++ r2.2.1) ++ [r2.2.2.2]), r2.2.2.1, r2.2.2.2)) fun r87 => cond (!r87) (cond (decide ((r2.2.1.length : Int) = 0)) (bd (p_impl_DiskNew) fun r91 => bd (p_impl_DiskOk r91) fun r94 => some r94) (cond (!r6) (bd (p_impl_DiskNew) fun r97 => bd (p_impl_DiskOk r97) fun r100 => some r100) (some false))) (some false))) (fun q => some q)))
theorem c_laws_FnDiskForm {r : Bool} (v0 : (List UInt8)) (x_v0 : Option Addr × Nat) (H : p_laws_FnDiskForm v0 = some r) : Fn' prog 6 #[.slice x_v0.1 v0.length x_v0.2] [imm (.slice x_v0.1 v0.length x_v0.2) v0] [] (ι := Unit) (fun _ => .bool (r)) (fun _ => []) (fun _ => []) := by
 refine cof (args := [_]) func6 ntmps6 fun c => ?_
 unfold p_laws_FnDiskForm at H
 refine sr (aH (v := .bool (false)) rfl (nl (aD (sr (aF rfl (aG (bT 5 dU rfl) (aG (cW rfl rfl) (nl (cH H rfl (fun h1 H => ?_) (fun h1 H => ?_))))))))))
 ·refine sr (aH (v := .bool (true)) rfl (nl (bR (rT (?_)))))
  obtain rfl := si H
  exact bk
 ·refine bI (nT (sr (aF rfl (bdo H fun r2 h3 H => (f1 (e_call (c_spec_DrawDiskOk v0 x_v0 h3) rfl (cN aS cO) bL) fun x4 => (f1 (cE ty76) fun g5 => (stb (cs' := [.slice x4.1.1 r2.1.length x4.1.2, .slice x4.2.1.1 r2.2.1.length x4.2.1.2, .slice x4.2.2.1.1 r2.2.2.1.length x4.2.2.1.2, .int .i64 (r2.2.2.2)]) ty76 cZ (nl (sr ?_)))))))))
  refine aI (bK ty76 rfl aB rfl) (bdo H fun r6 h7 H => (aI (bO (c_impl_DiskOk r2 (x4.1, x4.2.1, x4.2.2.1, ()) h7) rfl (aC (aM aS) (aC (aM aS.s) (aC (aM aS.s.s) aP)))) (aH rfl (nl (aD (bdo H fun b8 j9 H => (dE [(24, .bool (b8)), (4, .bool (r6)), (3, .pointer (some ⟨g5, 0, none⟩))] ?_ ?_)))))))
  ·refine dI [(4, .bool (r6)), (3, .pointer (some ⟨g5, 0, none⟩))] ⟨rfl, rfl, trivial⟩ (bC rfl (bA (bK ty76 rfl aB rfl) (bdo j9 fun r10 h11 j9 => (bA (bO (c_spec_DiskOk r2 (x4.1, x4.2.1, x4.2.2.1, ()) h11) rfl (aC (aM aS) (aC (aM aS.s) (aC (aM aS.s.s) aP)))) (aY (p_bneq underlying4 rfl rfl) ?_)))))
   rcases aL (!decide (r6 = r10)) with h12 | h12
   ·have j9 := cdT h12 j9
    refine bD (aE rfl) h12 ?_
    iterate 2 refine bF rfl ?_
    refine aY (v := .bool (true)) (bQ rfl rfl) ?_
    obtain rfl := si j9
    show At _ _ _ _ _ _
    exact n1 ⟨rfl, rfl, rfl, trivial⟩
   ·have j9 := cdF h12 j9
    refine bD (aE rfl) h12 (aZ rfl (aE rfl) (aZ rfl (cX rfl) (aY (bP rfl rfl) ?_)))
    obtain rfl := si j9
    show At _ _ _ _ _ _
    exact n1 ⟨rfl, rfl, rfl, trivial⟩
  refine cH H rfl (fun h13 H => ?_) (fun h13 H => ?_)
  ·refine sr (aF rfl (aI (bK ty76 rfl aB rfl) (bdo H fun r14 h15 H => (aI (bO (c_spec_DiskOk r2 (x4.1, x4.2.1, x4.2.2.1, ()) h15) rfl (aC (aM aS) (aC (aM aS.s) (aC (aM aS.s.s) aP)))) (aG (p_beql underlying4 rfl rfl) (aH rfl (nl (bR (rT (?_))))))))))
   obtain rfl := si H
   exact bk
  ·refine bI (nT (aD (sr (aH (v := .int .i64 (0)) rfl (nl (bdo H fun x16 hx17 H => (dD (Λ := Unit) H (fun _ _ => [(3, .pointer (some ⟨g5, 0, none⟩))]) (fun _ _ => [box g5 76 [.slice x4.1.1 r2.1.length x4.1.2, .slice x4.2.1.1 r2.2.1.length x4.2.1.2, .slice x4.2.2.1.1 r2.2.2.1.length x4.2.2.1.2, .int .i64 (r2.2.2.2)]]) ?_ ?_)))))))
   ·refine aR (dF hx17 () (fun Q20 _ => [(3, .pointer (some ⟨g5, 0, none⟩)), (5, .int .i64 (Q20))]) (fun _ _ => [box g5 76 [.slice x4.1.1 r2.1.length x4.1.2, .slice x4.2.1.1 r2.2.1.length x4.2.1.2, .slice x4.2.2.1.1 r2.2.2.1.length x4.2.2.1.2, .int .i64 (r2.2.2.2)]]) (.cons aA .nil) ?_)
    rintro _ Q20 z21 t23 H1 hi24 hb25
    unfold p_laws_FnDiskForm_b0 at H1
    refine aD (sr (aF rfl (aG (cC fa76_1 rfl rfl) (aI (bJ ty69 rfl aB rfl) (aG (bT 3 dW rfl) (aG (cS rfl rfl) (nl (cH H1 rfl (fun h28 H1 => ?_) (fun h28 H1 => ?_)))))))))
    ·refine bI (nT (aD (aR (sr (aH (v := .int .i64 (0)) rfl (nl (aD (sr (aH (v := .int .i64 (0)) rfl (nl (bdo H1 fun x29 hx30 H1 => (dC (ι := Unit) (fun ψ => [(3, .pointer (some ⟨g5, 0, none⟩)), (5, .int .i64 (Q20)), (6, .int .i64 (x29))]) (fun ψ => [box g5 76 [.slice x4.1.1 r2.1.length x4.1.2, .slice x4.2.1.1 r2.2.1.length x4.2.1.2, .slice x4.2.2.1.1 r2.2.2.1.length x4.2.2.1.2, .int .i64 (r2.2.2.2)]]) ?_ ?_))))))))))))
     ·refine aR (dF hx30 () (fun Q33 _ => [(3, .pointer (some ⟨g5, 0, none⟩)), (5, .int .i64 (Q20)), (6, .int .i64 (Q33.1)), (7, .int .i64 (Q33.2))]) (fun _ _ => [box g5 76 [.slice x4.1.1 r2.1.length x4.1.2, .slice x4.2.1.1 r2.2.1.length x4.2.1.2, .slice x4.2.2.1.1 r2.2.2.1.length x4.2.2.1.2, .int .i64 (r2.2.2.2)]]) (.cons aA .nil) ?_)
      rintro _ Q33 z34 t36 H2 hi37 hb38
      unfold p_laws_FnDiskForm_b1 at H2
      refine aD (sr (aF rfl (aG (cC fa76_0 rfl rfl) (aI (bJ ty74 rfl aB rfl) (aG (bT 80 dY rfl) (aG (cS rfl rfl) (nl (cH H2 rfl (fun h41 H2 => ?_) (fun h41 H2 => ?_)))))))))
      ·refine bI (nT (aD (aR (aD (bN aS fun X42 => (dG [(3, .pointer (some ⟨g5, 0, none⟩)), (5, .int .i64 (Q20)), (6, .int .i64 (Q33.1)), (7, .int .i64 (Q33.2))] mixed (.inr (by kernel_rfl)) ⟨rfl, rfl, rfl, rfl, trivial⟩ rfl (aY (cC fa76_0 rfl rfl) (bA (bJ ty74 rfl aB rfl) (bC rfl (gdo H2 fun h43 H2 => ?_))))))))))
       refine bA (bX dY ty80 rfl rfl h43 rfl (aM (aU aS))) (bA (bZ (j := 0) Q33.2.toNat fa80_0 rfl (aM (aU aS)) h43.lt rfl) (bA (cA (i := Q33.2.toNat) (j := 0) ty3 rfl (aM (aU aS)) h43.lt rfl) (aY (cC fa76_1 rfl rfl) (bA (bJ ty69 rfl aB rfl) (bC rfl (gdo H2 fun h44 H2 => (bA (bX dW ty3 rfl rfl h44 rfl (aO (aM aS.s.s))) (bA (cA (i := Q20.toNat) (j := 0) ty3 rfl (aO (aM aS.s.s)) h44.lt rfl) (aY (cV rfl rfl) ?_)))))))))
       refine nT (cH H2 rfl (fun h45 H2 => ?_) (fun h45 H2 => ?_))
       ·refine aQ (aF rfl (gdo H2 fun h46 H2 => (aG (bS rfl rfl h46) (aH rfl (aJ (nB (nT (aQ (aF rfl (gdo H2 fun h47 H2 => (aG (bS rfl rfl h47) ?_)))))))))))
        exact aH rfl (aJ (nLI (hf := bU.s) () (hi37 _ (sm H2)) (.cons aA .nil)))
       ·exact bI (nB (nT (aQ (aF rfl (gdo H2 fun h48 H2 => (aG (bS rfl rfl h48) (aH rfl (aJ (nLI (hf := bU.s) () (hi37 _ (sm H2)) (.cons aA .nil))))))))))
      ·refine dB (xT (xT (xE (?_))))
       obtain rfl := hb38 _ (sm H2)
       exact nMC () ⟨rfl, rfl, rfl, trivial⟩ bU (.cons aA .nil)
     ·intro y35
      show At _ _ [(3, .pointer (some ⟨g5, 0, none⟩)), (5, .int .i64 (Q20)), (6, .int .i64 (x29))] _ [box g5 76 [.slice x4.1.1 r2.1.length x4.1.2, .slice x4.2.1.1 r2.2.1.length x4.2.1.2, .slice x4.2.2.1.1 r2.2.2.1.length x4.2.2.1.2, .int .i64 (r2.2.2.2)]] _
      refine nT (sr (aF rfl (aG (cU rfl rfl) (nl (cH H1 rfl (fun h49 H1 => ?_) (fun h49 H1 => ?_))))))
      ·refine sr (aH (v := .bool (false)) rfl (nl (bR (rB (rT (rT (rB (rT (rT (?_))))))))))
       obtain rfl := hb25 _ (sm H1)
       replace H := sw.r H
       obtain rfl := si H
       exact bk
      ·exact bI (nB (nT (aQ (aF rfl (gdo H1 fun h50 H1 => (aG (bS rfl rfl h50) (aH rfl (aJ (nLI () (hi24 _ (sm H1)) (.cons aA .nil))))))))))
    ·exact dB (xT (xT (xE (nMI () (hb25 _ (sm H1)) (.cons aA .nil)))))
   ·rintro e51 y22 H
    refine nT (sr (aI (bK ty76 rfl aB rfl) (f1 (cE ty76) fun g52 => (stb (cs' := [.slice x4.1.1 r2.1.length x4.1.2, .slice x4.2.1.1 r2.2.1.length x4.2.1.2, .slice x4.2.2.1.1 r2.2.2.1.length x4.2.2.1.2, .int .i64 (r2.2.2.2)]) ty76 cZ (nl (aD (dH [(8, .pointer (some ⟨g52, 0, none⟩)), (3, .pointer (some ⟨g5, 0, none⟩))] 2 [1, 2, 4, 5, 0, 3, 6, 7, 8, 9] [3, 7, 9] [⟨0, [], fun g => .slice (some ⟨g, 0, none⟩) ([] : List Int).length 0, fun g => tree (.slice (some ⟨g, 0, none⟩) ([] : List Int).length 0) ([] : List Int)⟩, ⟨6, [(65, .int .i64 (r2.2.2.2))], fun g => .slice (some ⟨g, 0, none⟩) 1 1, fun g => box g 3 [.int .i64 (r2.2.2.2)]⟩] mixed (by kernel_rfl) (by decide) (show List.Nodup [0, 6] by decide) ⟨rfl, rfl, trivial⟩ rfl (okCons (FreeA.Ok.of rfl (by decide) (by kernel_rfl) fun c fs os => g_lit0 Int dW ty3) (okCons (FreeA.Ok.of rfl (by decide) (by kernel_rfl) fun c fs os => e_lit (vs := [(0, .int .i64 (r2.2.2.2))]) [.int .i64 (r2.2.2.2)] dW ty3 rfl (by decide) (by decide) (by kernel_rfl)) okNil)) (w_p rfl (cC fa76_1 rfl rfl) ?_))))))))
    refine w_o rfl (fun F => (bJ ty69 rfl (hs1.app F) rfl)) (w_p rfl (cC fa76_3 rfl rfl) ?_)
    refine w_o rfl (fun F => (bJ ty3 rfl (hs1.app F) rfl)) ?_
    refine w_fr (z := ⟨0, [], fun g => .slice (some ⟨g, 0, none⟩) ([] : List Int).length 0, fun g => tree (.slice (some ⟨g, 0, none⟩) ([] : List Int).length 0) ([] : List Int)⟩) (.head _) rfl rfl (by decide) (cQ (.inl rfl) (cQ (.inr (.inr ⟨rfl, trivial⟩)) cP)) trivial ?_; intro g53
    refine gdo H fun h56 H => (cK rfl (by decide) rfl (cQ (.inl rfl) (cQ (.inr (.inr ⟨rfl, trivial⟩)) cP)) rfl (n_appF (l := ([] : List Int)) (k := r2.2.1) (α := Int) dW ty3 rfl rfl (h56.b (by decide)) h56.x (.cons aA .nil) (aM aS.s)) ?_)
    rintro _ _ _ ⟨a54, c55, rfl, rfl, rfl⟩
    refine ⟨(bW rfl rfl (fun F => (bJ ty3 rfl (hs2.app F) rfl)) (aN (by kernel_rfl) bV)), ?_⟩
    refine w_fr (z := ⟨6, [(65, .int .i64 (r2.2.2.2))], fun g => .slice (some ⟨g, 0, none⟩) 1 1, fun g => box g 3 [.int .i64 (r2.2.2.2)]⟩) (.tail _ (.head _)) rfl rfl (by decide) (cQ (.inl rfl) (cQ (.inl rfl) cP)) ⟨rfl, trivial⟩ ?_; intro g57
    refine gdo H fun h60 H => (cK rfl (by decide) rfl (cQ (.inl rfl) (cQ (.inl rfl) cP)) rfl (n_app1 (l := (([] : List Int) ++ r2.2.1)) (α := Int) r2.2.2.2 () dW ty3 rfl rfl (h60.b (by decide)) h60.x rfl (cY _) (.cons dl1 (.cons aA .nil))) ?_)
    rintro _ _ _ ⟨a58, c59, rfl, rfl, rfl⟩
    refine ⟨(aN (by kernel_rfl) (aN (by kernel_rfl) bV)), ?_⟩
    refine w_p rfl (cC fa76_1 rfl rfl) (cL rfl rfl (cQ (.inl rfl) (cQ (.inl rfl) cP)) rfl (n_store (cs' := [.slice x4.1.1 r2.1.length x4.1.2, .slice a58 (((([] : List Int) ++ r2.2.1) ++ [r2.2.2.2]).length) c59, .slice x4.2.2.1.1 r2.2.2.1.length x4.2.2.1.2, .int .i64 (r2.2.2.2)]) ty69 rfl rfl up1 rfl (one_of rfl) (Nat.le_of_ble_eq_true rfl) rfl) ?_)
    rintro _ _ _ ⟨rfl, rfl, rfl⟩
    refine ⟨(aN (by kernel_rfl) (aN (by kernel_rfl) bV)), ?_⟩
    refine cM (nT (sr (aI (bK ty76 rfl hs2 rfl) (f1 (cE ty76) fun g61 => (stb (cs' := [.slice x4.1.1 r2.1.length x4.1.2, .slice x4.2.1.1 r2.2.1.length x4.2.1.2, .slice x4.2.2.1.1 r2.2.2.1.length x4.2.2.1.2, .int .i64 (r2.2.2.2)]) ty76 cZ (nl (aD (sr (aG (cC fa76_1 rfl rfl) (aI (bJ ty69 rfl hs3 rfl) ?_))))))))))
    refine aG (bT 3 dW rfl) (aG (cW rfl rfl) (nl (cH H rfl (fun h62 H => ?_) (fun h62 H => ?_))))
    ·refine gdo H fun h63 H => (dH [(9, .pointer (some ⟨g61, 0, none⟩)), (8, .pointer (some ⟨g52, 0, none⟩)), (3, .pointer (some ⟨g5, 0, none⟩))] 2 [1, 2, 4, 5, 6, 7, 0, 3, 8, 9, 10, 11] [3, 9, 11] [⟨0, [], fun g => .slice (some ⟨g, 0, none⟩) ([] : List Int).length 0, fun g => tree (.slice (some ⟨g, 0, none⟩) ([] : List Int).length 0) ([] : List Int)⟩, ⟨8, [(81, .int .i64 (nth r2.2.1 0))], fun g => .slice (some ⟨g, 0, none⟩) 1 1, fun g => box g 3 [.int .i64 (nth r2.2.1 0)]⟩] mixed (by kernel_rfl) (by decide) (show List.Nodup [0, 8] by decide) ⟨rfl, rfl, rfl, trivial⟩ rfl (okCons (FreeA.Ok.of rfl (by decide) (by kernel_rfl) fun c fs os => g_lit0 Int dW ty3) (okCons (FreeA.Ok.of rfl (by decide) (by kernel_rfl) fun c fs os => e_lit (vs := [(0, .int .i64 (nth r2.2.1 0))]) [.int .i64 (nth r2.2.1 0)] dW ty3 rfl (by decide) (by decide) (by kernel_rfl)) okNil)) (w_p rfl (cC fa76_1 rfl rfl) ?_))
     refine w_o rfl (fun F => (bJ ty69 rfl (hs3.app F) rfl)) (w_p rfl (cC fa76_1 rfl rfl) ?_)
     refine w_o rfl (fun F => (bJ ty69 rfl (hs3.app F) rfl)) ?_
     refine w_o rfl (fun F => (bX dW ty3 rfl rfl h63 rfl (aO (aM aS.s)))) ?_
     refine w_o rfl (fun F => (cA (i := 0) (j := 0) ty3 rfl (aO (aM aS.s)) h63.lt rfl)) ?_
     refine w_fr (z := ⟨0, [], fun g => .slice (some ⟨g, 0, none⟩) ([] : List Int).length 0, fun g => tree (.slice (some ⟨g, 0, none⟩) ([] : List Int).length 0) ([] : List Int)⟩) (.head _) rfl rfl (by decide) (cQ (.inl rfl) (cQ (.inr (.inr ⟨rfl, trivial⟩)) cP)) trivial ?_; intro g64
     refine cK rfl (by decide) rfl (cQ (.inl rfl) (cQ (.inr (.inr ⟨rfl, trivial⟩)) cP)) rfl (n_appF (l := ([] : List Int)) (k := r2.2.1) (α := Int) dW ty3 rfl rfl (h56.b (by decide)) h56.x (.cons aA .nil) (aM aS.s)) ?_
     rintro _ _ _ ⟨a65, c66, rfl, rfl, rfl⟩
     refine ⟨(bW rfl rfl (fun F => (cA (i := 0) (j := 0) ty3 rfl (aO (aM aS.s)) h63.lt rfl)) (bW rfl rfl (fun F => (bX dW ty3 rfl rfl h63 rfl (aO (aM aS.s)))) (bW rfl rfl (fun F => (bJ ty69 rfl (hs4.app F) rfl)) (aN (by kernel_rfl) bV)))), ?_⟩
     refine w_fr (z := ⟨8, [(81, .int .i64 (nth r2.2.1 0))], fun g => .slice (some ⟨g, 0, none⟩) 1 1, fun g => box g 3 [.int .i64 (nth r2.2.1 0)]⟩) (.tail _ (.head _)) rfl rfl (by decide) (cQ (.inl rfl) (cQ (.inl rfl) cP)) ⟨rfl, trivial⟩ ?_; intro g67
     refine cK rfl (by decide) rfl (cQ (.inl rfl) (cQ (.inl rfl) cP)) rfl (n_app1 (l := (([] : List Int) ++ r2.2.1)) (α := Int) (nth r2.2.1 0) () dW ty3 rfl rfl (h60.b (by decide)) h60.x rfl (cY _) (.cons dl1 (.cons aA .nil))) ?_
     rintro _ _ _ ⟨a68, c69, rfl, rfl, rfl⟩
     refine ⟨(aN (by kernel_rfl) (bW rfl rfl (fun F => (bX dW ty3 rfl rfl h63 rfl (aO (aM aS.s)))) (bW rfl rfl (fun F => (bJ ty69 rfl (hs4.app F) rfl)) (aN (by kernel_rfl) bV)))), ?_⟩
     refine w_p rfl (cC fa76_1 rfl rfl) (cL rfl rfl (cQ (.inl rfl) (cQ (.inl rfl) cP)) rfl (n_store (cs' := [.slice x4.1.1 r2.1.length x4.1.2, .slice a68 (((([] : List Int) ++ r2.2.1) ++ [nth r2.2.1 0]).length) c69, .slice x4.2.2.1.1 r2.2.2.1.length x4.2.2.1.2, .int .i64 (r2.2.2.2)]) ty69 rfl rfl up1 rfl (one_of rfl) (Nat.le_of_ble_eq_true rfl) rfl) ?_)
     rintro _ _ _ ⟨rfl, rfl, rfl⟩
     refine ⟨(aN (by kernel_rfl) (aN (by kernel_rfl) (aN (by kernel_rfl) (aN (by kernel_rfl) bV)))), ?_⟩
     refine cM (nT (sr (aI (bK ty76 rfl hs3 rfl) (bdo H fun r70 h71 H => (aI (bO (c_impl_DiskOk (r2.1, ((([] : List Int) ++ r2.2.1) ++ [r2.2.2.2]), r2.2.2.1, r2.2.2.2) (x4.1, (a58, c59), x4.2.2.1, ()) h71) rfl (aC (aM aS) (aC (bM hs2) (aC (aM aS.s.s) aP)))) (aG (cX rfl) ?_))))))
     rcases aL (!r70) with h72 | h72
     ·have H := cdT h72 H
      refine Rg.e_ (aE rfl) h72 (aK (v := .pointer (some ⟨g5, 1, none⟩)) rfl (cR (cC fa76_1 rfl rfl)) (by decide) (aK (v := .slice x4.2.1.1 r2.2.1.length x4.2.1.2) rfl (bJ ty69 rfl hs4 rfl) (by decide) (aK (v := .int .i64 ((r2.2.1.length : Int))) rfl (cR (bT 3 dW rfl)) (by decide) (aK (v := .bool (decide ((r2.2.1.length : Int) = 0))) rfl (cR (cV rfl rfl)) (by decide) ?_))))
      rcases aL (decide ((r2.2.1.length : Int) = 0)) with h73 | h73
      ·have H := cdT h73 H
       refine aK (v := .bool (true)) rfl (Qo.eqv (v := .bool (decide ((r2.2.1.length : Int) = 0))) (cR (aE rfl)) (congrArg Value.bool h73)) (by decide) (Rg.skip rfl (by decide) (Rg.skip rfl (by decide) (Rg.skip rfl (by decide) (aK (v := .bool (true)) rfl (cR (bQ rfl rfl)) (by decide) (aG (v := .bool (true)) (bQ rfl rfl) (aF (v := .bool (true)) rfl (bdo H fun r74 h75 H => (f1 (cG (c_impl_DiskNew h75) (fun _ => (bG (bG (bG bH)))) rfl aP) fun x76 => (bdo H fun r77 h78 H => ?_)))))))))
       refine aK (v := .bool (r77)) rfl (bO (c_impl_DiskOk r74 (x76.1, x76.2.1, x76.2.2.1, ()) h78) rfl (aC (bM aB) (aC (bM hs1) (aC (bM hs2) aP)))) (by decide) (aG (bQ rfl rfl) (aH rfl (nl ?_)))
       obtain rfl := si H
       exact bR bk
      ·have H := cdF h73 H
       refine aK (v := .bool (false)) rfl (Qo.eqv (v := .bool (decide ((r2.2.1.length : Int) = 0))) (cR (aE rfl)) (congrArg Value.bool h73)) (by decide) (aK (v := .agg #[.slice x4.1.1 r2.1.length x4.1.2, .slice a68 (((([] : List Int) ++ r2.2.1) ++ [nth r2.2.1 0]).length) c69, .slice x4.2.2.1.1 r2.2.2.1.length x4.2.2.1.2, .int .i64 (r2.2.2.2)]) rfl (bK ty76 rfl hs1 rfl) (by decide) (bdo H fun r79 h80 H => (aK (v := .bool (r79)) rfl (bO (c_impl_DiskOk (r2.1, ((([] : List Int) ++ r2.2.1) ++ [nth r2.2.1 0]), r2.2.2.1, r2.2.2.2) (x4.1, (a68, c69), x4.2.2.1, ()) h80) rfl (aC (aM aS) (aC (bM aB) (aC (aM aS.s.s) aP)))) (by decide) (aK (v := .bool (!r79)) rfl (cR (cX rfl)) (by decide) (aK (v := .bool (!r79)) rfl (cR (bP rfl rfl)) (by decide) (aG (bQ rfl rfl) ?_))))))
       rcases aL (!r79) with h81 | h81
       ·have H := cdT h81 H
        refine Rg.e_ (aE rfl) h81 (bdo H fun r82 h83 H => (f1 (cG (c_impl_DiskNew h83) (fun _ => (bG (bG (bG bH)))) rfl aP) fun x84 => (bdo H fun r85 h86 H => (aK (v := .bool (r85)) rfl (bO (c_impl_DiskOk r82 (x84.1, x84.2.1, x84.2.2.1, ()) h86) rfl (aC (bM aB) (aC (bM hs1) (aC (bM hs2) aP)))) (by decide) (aG (bQ rfl rfl) (aH rfl (nl ?_)))))))
        obtain rfl := si H
        exact bR bk
       ·have H := cdF h81 H
        refine Rg.e_ (aE rfl) h81 (Rg.skip rfl (by decide) (Rg.skip rfl (by decide) (aG (v := .bool (false)) (bP rfl rfl) (aH (v := .bool (false)) rfl (nl ?_)))))
        obtain rfl := si H
        exact bR bk
     ·have H := cdF h72 H
      refine Rg.e_ (aE rfl) h72 (Rg.skip rfl (by decide) (Rg.skip rfl (by decide) (Rg.skip rfl (by decide) (Rg.skip rfl (by decide) (Rg.skip rfl (by decide) (Rg.skip rfl (by decide) (Rg.skip rfl (by decide) (Rg.skip rfl (by decide) (Rg.skip rfl (by decide) ?_)))))))))
      refine aG (v := .bool (false)) (bP rfl rfl) (aF (v := .bool (false)) rfl (Rg.skip rfl (by decide) (Rg.skip rfl (by decide) (aG (v := .bool (false)) (bP rfl rfl) (aH (v := .bool (false)) rfl (nl ?_))))))
      obtain rfl := si H
      exact bR bk
    ·refine bI (nT (sr (aI (bK ty76 rfl hs2 rfl) (bdo H fun r87 h88 H => (aI (bO (c_impl_DiskOk (r2.1, ((([] : List Int) ++ r2.2.1) ++ [r2.2.2.2]), r2.2.2.1, r2.2.2.2) (x4.1, (a58, c59), x4.2.2.1, ()) h88) rfl (aC (aM aS) (aC (bM hs1) (aC (aM aS.s.s) aP)))) (aG (cX rfl) ?_))))))
     rcases aL (!r87) with h89 | h89
     ·have H := cdT h89 H
      refine Rg.e_ (aE rfl) h89 (aK (v := .pointer (some ⟨g5, 1, none⟩)) rfl (cR (cC fa76_1 rfl rfl)) (by decide) (aK (v := .slice x4.2.1.1 r2.2.1.length x4.2.1.2) rfl (bJ ty69 rfl hs3 rfl) (by decide) (aK (v := .int .i64 ((r2.2.1.length : Int))) rfl (cR (bT 3 dW rfl)) (by decide) (aK (v := .bool (decide ((r2.2.1.length : Int) = 0))) rfl (cR (cV rfl rfl)) (by decide) ?_))))
      rcases aL (decide ((r2.2.1.length : Int) = 0)) with h90 | h90
      ·have H := cdT h90 H
       refine aK (v := .bool (true)) rfl (Qo.eqv (v := .bool (decide ((r2.2.1.length : Int) = 0))) (cR (aE rfl)) (congrArg Value.bool h90)) (by decide) (Rg.skip rfl (by decide) (Rg.skip rfl (by decide) (Rg.skip rfl (by decide) (aK (v := .bool (true)) rfl (cR (bQ rfl rfl)) (by decide) (aG (v := .bool (true)) (bQ rfl rfl) (aF (v := .bool (true)) rfl (bdo H fun r91 h92 H => (f1 (cG (c_impl_DiskNew h92) (fun _ => (bG (bG (bG bH)))) rfl aP) fun x93 => (bdo H fun r94 h95 H => ?_)))))))))
       refine aK (v := .bool (r94)) rfl (bO (c_impl_DiskOk r91 (x93.1, x93.2.1, x93.2.2.1, ()) h95) rfl (aC (bM aB) (aC (bM hs1) (aC (bM hs2) aP)))) (by decide) (aG (bQ rfl rfl) (aH rfl (nl ?_)))
       obtain rfl := si H
       exact bR bk
      ·have H := cdF h90 H
       refine aK (v := .bool (false)) rfl (Qo.eqv (v := .bool (decide ((r2.2.1.length : Int) = 0))) (cR (aE rfl)) (congrArg Value.bool h90)) (by decide) (aK (v := .agg #[.slice x4.1.1 r2.1.length x4.1.2, .slice x4.2.1.1 r2.2.1.length x4.2.1.2, .slice x4.2.2.1.1 r2.2.2.1.length x4.2.2.1.2, .int .i64 (r2.2.2.2)]) rfl (bK ty76 rfl aB rfl) (by decide) (aK (v := .bool (r6)) rfl (bO (c_impl_DiskOk r2 (x4.1, x4.2.1, x4.2.2.1, ()) h7) rfl (aC (aM aS) (aC (aM aS.s) (aC (aM aS.s.s) aP)))) (by decide) (aK (v := .bool (!r6)) rfl (cR (cX rfl)) (by decide) (aK (v := .bool (!r6)) rfl (cR (bP rfl rfl)) (by decide) (aG (bQ rfl rfl) ?_)))))
       rcases aL (!r6) with h96 | h96
       ·have H := cdT h96 H
        refine Rg.e_ (aE rfl) h96 (bdo H fun r97 h98 H => (f1 (cG (c_impl_DiskNew h98) (fun _ => (bG (bG (bG bH)))) rfl aP) fun x99 => (bdo H fun r100 h101 H => (aK (v := .bool (r100)) rfl (bO (c_impl_DiskOk r97 (x99.1, x99.2.1, x99.2.2.1, ()) h101) rfl (aC (bM aB) (aC (bM hs1) (aC (bM hs2) aP)))) (by decide) (aG (bQ rfl rfl) (aH rfl (nl ?_)))))))
        obtain rfl := si H
        exact bR bk
       ·have H := cdF h96 H
        refine Rg.e_ (aE rfl) h96 (Rg.skip rfl (by decide) (Rg.skip rfl (by decide) (aG (v := .bool (false)) (bP rfl rfl) (aH (v := .bool (false)) rfl (nl ?_)))))
        obtain rfl := si H
        exact bR bk
     ·have H := cdF h89 H
      refine Rg.e_ (aE rfl) h89 (Rg.skip rfl (by decide) (Rg.skip rfl (by decide) (Rg.skip rfl (by decide) (Rg.skip rfl (by decide) (Rg.skip rfl (by decide) (Rg.skip rfl (by decide) (Rg.skip rfl (by decide) (Rg.skip rfl (by decide) (Rg.skip rfl (by decide) ?_)))))))))
      refine aG (v := .bool (false)) (bP rfl rfl) (aF (v := .bool (false)) rfl (Rg.skip rfl (by decide) (Rg.skip rfl (by decide) (aG (v := .bool (false)) (bP rfl rfl) (aH (v := .bool (false)) rfl (nl ?_))))))
      obtain rfl := si H
      exact bR bk
def inn (lo n hi : Int) : Bool := decide (lo ≤ n) && decide (n ≤ hi)
theorem e_impl_within (n lo hi : Int) : p_impl_within n lo hi = some (inn lo n hi) := by
 unfold p_impl_within inn; cases decide (lo ≤ n) <;> rfl
theorem e_spec_l6In (n lo hi : Int) : p_spec_l6In n lo hi = some (inn lo n hi) := by
 unfold p_spec_l6In inn; cases decide (lo ≤ n) <;> rfl
def rowOk (r : Row) : Bool := inn 0 r.1 99 && inn (-99) r.2 99
theorem e_impl_rowOk (r : Row) : p_impl_rowOk r = some (rowOk r) := by
 unfold p_impl_rowOk rowOk; simp only [e_impl_within, bd_some]; cases inn 0 r.1 99 <;> rfl
theorem e_spec_l2Row (r : Row) : p_spec_l2Row r = some (rowOk r) := by
 unfold p_spec_l2Row rowOk; simp only [e_spec_l6In, bd_some]; cases inn 0 r.1 99 <;> rfl
def rowBad (b : List Row) (k : Nat) : Bool := !rowOk (nth b k) || (decide (0 < k) && decide ((nth b k).1 ≤ (nth b (k - 1)).1))
def blockOk (b : List Row) : Bool := allN b.length (rowBad b) && decide ((b.length : Int) ≤ 24)
theorem e_impl_BlockOk (b : List Row) (hb : b.length ≤ maxLen) : p_impl_BlockOk b = some (blockOk b) := by
 have hb' : b.length ≤ 9223372036854775807 := hb
 have hr : ∀ k, k < b.length → p_impl_BlockOk_b0 b (k : Int) = some (if rowBad b k then .inr (.inr false) else .inl ((k + 1 : Nat) : Int)) := fun k hk => by
  unfold p_impl_BlockOk_b0 rowBad
  simp only [dlt hk, cond_true, gd.yes (ixN hk), e_impl_rowOk, bd_some, Int.toNat_natCast, gd.yes (i64S hk hb')]
  cases h1 : rowOk (nth b k) with
  | false => simp
  | true =>
   simp only [Bool.not_true, cond_false, Bool.false_or]
   by_cases h0 : 0 < k
   ·have h0' : (0 : Int) < k := by omega
    have e1 : (k : Int) - 1 = ((k - 1 : Nat) : Int) := by omega
    have hi : I64 ((k - 1 : Nat) : Int) := by unfold I64; omega
    simp only [h0, h0', decide_true, cond_true, e1, gd.yes hi, gd.yes (ixN (show k - 1 < b.length by omega)), Int.toNat_natCast, bd_some, Bool.true_and]
    cases decide ((nth b k).1 ≤ (nth b (k - 1)).1) <;> simp
   ·have h0' : ¬ (0 : Int) < k := by omega
    simp [h0]
 unfold p_impl_BlockOk blockOk
 rcases lp_scan (body := p_impl_BlockOk_b0 b) (fun k => (k : Int)) b.length (rowBad b) (.inl ()) (fun _ => .inr false) (fun k hk _ h => by simp [hr k hk, h]) (fun k hk _ h => by simp [hr k hk, h]) (fun _ => by unfold p_impl_BlockOk_b0; simp) with ⟨h1, h2⟩ | ⟨h1, k, _, _, _, h2⟩
 ·rw [show (lp (p_impl_BlockOk_b0 b) 0) = _ from h2, h1]; simp [sw]
 ·rw [show (lp (p_impl_BlockOk_b0 b) 0) = _ from h2, h1]; simp [sw]
theorem e_spec_BlockOk (b : List Row) (hb : b.length ≤ maxLen) : p_spec_BlockOk b = some (blockOk b) := by
 have hb' : b.length ≤ 9223372036854775807 := hb
 have hr : ∀ k, k < b.length → p_spec_BlockOk_b0 b (k : Int) = some (if rowBad b k then .inr (.inr false) else .inl ((k + 1 : Nat) : Int)) := fun k hk => by
  unfold p_spec_BlockOk_b0 rowBad
  simp only [dlt hk, cond_true, gd.yes (ixN hk), e_spec_l2Row, bd_some, Int.toNat_natCast, gd.yes (i64S hk hb')]
  cases h1 : rowOk (nth b k) with
  | false => simp
  | true =>
   simp only [Bool.not_true, cond_false, Bool.false_or]
   by_cases h0 : 0 < k
   ·have h0' : (0 : Int) < k := by omega
    have e1 : (k : Int) - 1 = ((k - 1 : Nat) : Int) := by omega
    have hi : I64 ((k - 1 : Nat) : Int) := by unfold I64; omega
    simp only [h0, h0', decide_true, cond_true, e1, gd.yes hi, gd.yes (ixN (show k - 1 < b.length by omega)), Int.toNat_natCast, bd_some, Bool.true_and]
    cases decide ((nth b k).1 ≤ (nth b (k - 1)).1) <;> simp
   ·simp [h0]
 unfold p_spec_BlockOk blockOk
 rcases lp_scan (body := p_spec_BlockOk_b0 b) (fun k => (k : Int)) b.length (rowBad b) (.inl ()) (fun _ => .inr false) (fun k hk _ h => by simp [hr k hk, h]) (fun k hk _ h => by simp [hr k hk, h]) (fun _ => by unfold p_spec_BlockOk_b0; simp) with ⟨h1, h2⟩ | ⟨h1, k, _, _, _, h2⟩
 ·rw [show (lp (p_spec_BlockOk_b0 b) 0) = _ from h2, h1]; simp [sw]
 ·rw [show (lp (p_spec_BlockOk_b0 b) 0) = _ from h2, h1]; simp [sw]
def partBad (p : Part) (k : Nat) : Bool := ((!inn 1 (nth p.1 k) 6 || (decide (0 < k) && decide (nth p.1 k ≤ nth p.1 (k - 1)))) || !blockOk (nth p.2 k)) || decide ((nth p.2 k).length = 0)
def partOk (p : Part) : Bool := decide (p.1.length = p.2.length) && allN p.1.length (partBad p)
theorem e_impl_PartOk (p : Part) (hp : Dp.ok p) : p_impl_PartOk p = some (partOk p) := by
 obtain ⟨⟨hp1, _⟩, _, hp2⟩ := hp
 have hp1 : p.1.length ≤ 9223372036854775807 := hp1
 unfold p_impl_PartOk partOk
 by_cases hl : p.1.length = p.2.length
 ·have hr : ∀ k, k < p.1.length → p_impl_PartOk_b0 p (k : Int) = some (if partBad p k then .inr (.inr false) else .inl ((k + 1 : Nat) : Int)) := fun k hk => by
   have hk2 : k < p.2.length := by omega
   unfold p_impl_PartOk_b0 partBad
   simp only [dlt hk, cond_true, gd.yes (ixN hk), gd.yes (ixN hk2), e_impl_within, e_impl_BlockOk _ (hp2 k hk2).1, bd_some, Int.toNat_natCast, gd.yes (i64S hk hp1)]
   cases h1 : inn 1 (nth p.1 k) 6 with
   | false => simp
   | true =>
    by_cases h0 : 0 < k
    ·have h0' : (0 : Int) < k := by omega
     have e1 : (k : Int) - 1 = ((k - 1 : Nat) : Int) := by omega
     have hi : I64 ((k - 1 : Nat) : Int) := by unfold I64; omega
     simp only [h0, h0', decide_true, cond_true, e1, gd.yes hi, gd.yes (ixN (show k - 1 < p.1.length by omega)), Int.toNat_natCast, Bool.true_and, Bool.not_true, cond_false, Bool.false_or]
     cases decide (nth p.1 k ≤ nth p.1 (k - 1)) <;> cases blockOk (nth p.2 k) <;> cases h9 : decide ((nth p.2 k).length = 0) <;> simp_all
    ·simp only [h0, Bool.not_true, cond_false, Bool.false_or, decide_false, Bool.false_and]
     cases blockOk (nth p.2 k) <;> cases h9 : decide ((nth p.2 k).length = 0) <;> simp_all
  rcases lp_scan (body := p_impl_PartOk_b0 p) (fun k => (k : Int)) p.1.length (partBad p) (.inl ()) (fun _ => .inr false) (fun k hk _ h => by simp [hr k hk, h]) (fun k hk _ h => by simp [hr k hk, h]) (fun _ => by unfold p_impl_PartOk_b0; simp) with ⟨h1, h2⟩ | ⟨h1, k, _, _, _, h2⟩
  ·rw [show (lp (p_impl_PartOk_b0 p) 0) = _ from h2, h1]; simp [sw, hl]
  ·rw [show (lp (p_impl_PartOk_b0 p) 0) = _ from h2, h1]; simp [sw, hl]
 ·have : ¬ (p.1.length : Int) = (p.2.length : Int) := by omega
  simp [this, hl]
theorem e_spec_PartOk (p : Part) (hp : Dp.ok p) : p_spec_PartOk p = some (partOk p) := by
 obtain ⟨⟨hp1, _⟩, _, hp2⟩ := hp
 have hp1 : p.1.length ≤ 9223372036854775807 := hp1
 unfold p_spec_PartOk partOk
 by_cases hl : p.1.length = p.2.length
 ·have hr : ∀ k, k < p.1.length → p_spec_PartOk_b0 p (k : Int) = some (if partBad p k then .inr (.inr false) else .inl ((k + 1 : Nat) : Int)) := fun k hk => by
   have hk2 : k < p.2.length := by omega
   unfold p_spec_PartOk_b0 partBad
   simp only [dlt hk, cond_true, gd.yes (ixN hk), gd.yes (ixN hk2), e_spec_l6In, e_spec_BlockOk _ (hp2 k hk2).1, bd_some, Int.toNat_natCast, gd.yes (i64S hk hp1)]
   cases h1 : inn 1 (nth p.1 k) 6 with
   | false => simp
   | true =>
    by_cases h0 : 0 < k
    ·have h0' : (0 : Int) < k := by omega
     have e1 : (k : Int) - 1 = ((k - 1 : Nat) : Int) := by omega
     have hi : I64 ((k - 1 : Nat) : Int) := by unfold I64; omega
     simp only [h0, h0', decide_true, cond_true, e1, gd.yes hi, gd.yes (ixN (show k - 1 < p.1.length by omega)), Int.toNat_natCast, Bool.true_and, Bool.not_true, cond_false, Bool.false_or]
     cases decide (nth p.1 k ≤ nth p.1 (k - 1)) <;> cases blockOk (nth p.2 k) <;> cases h9 : decide ((nth p.2 k).length = 0) <;> simp_all
    ·simp only [h0, Bool.not_true, cond_false, Bool.false_or, decide_false, Bool.false_and]
     cases blockOk (nth p.2 k) <;> cases h9 : decide ((nth p.2 k).length = 0) <;> simp_all
  rcases lp_scan (body := p_spec_PartOk_b0 p) (fun k => (k : Int)) p.1.length (partBad p) (.inl ()) (fun _ => .inr false) (fun k hk _ h => by simp [hr k hk, h]) (fun k hk _ h => by simp [hr k hk, h]) (fun _ => by unfold p_spec_PartOk_b0; simp) with ⟨h1, h2⟩ | ⟨h1, k, _, _, _, h2⟩
  ·rw [show (lp (p_spec_PartOk_b0 p) 0) = _ from h2, h1]; simp [sw, hl]
  ·rw [show (lp (p_spec_PartOk_b0 p) 0) = _ from h2, h1]; simp [sw, hl]
 ·have : ¬ (p.1.length : Int) = (p.2.length : Int) := by omega
  simp [this, hl]
def place (l : List Int) (id : Int) : Int := match (List.range l.length).find? (fun i => decide (nth l i = id)) with | some i => i | none => -1
theorem place_no {l : List Int} {id : Int} (h : allN l.length (fun i => decide (nth l i = id)) = true) : place l id = -1 := by
 unfold place
 rw [List.find?_eq_none.2]
 intro i hi
 have := allN_iff.1 h i (by simpa using hi)
 simpa using this
theorem place_yes {l : List Int} {id : Int} {k : Nat} (hk : k < l.length) (h : decide (nth l k = id) = true) (h2 : ∀ i, i < k → decide (nth l i = id) = false) : place l id = k := by
 unfold place
 have : (List.range l.length).find? (fun i => decide (nth l i = id)) = some k := by
  rw [List.find?_range_eq_some]
  exact ⟨h, by simpa using hk, fun i hi => by simpa using h2 i hi⟩
 rw [this]
end Go.Proofs.YtlkcnfjdhkoelaaGreat
