/- The walks and the plain laws, part 3: each function that the law reaches computes what its plain function tells, and what the plain functions answer. Conditions: lengths that memory can hold. -/
import Derived.Test.YtlkcnfjdhkoelaaGreatA2
namespace Go.Proofs.YtlkcnfjdhkoelaaGreat
open Go Go.Sx Tryz
theorem c_spec_l13Copy {r : Store} (v0 : Store) (x_v0 : ((Option Addr × Nat) × (Option Addr × Nat)) × (Option Addr × Nat) × (Option Addr × Nat)) (H : p_spec_l13Copy v0 = some r) : Fn' prog 89 #[.agg #[.slice x_v0.1.1.1 v0.1.1.length x_v0.1.1.2, .slice x_v0.1.2.1 v0.1.2.length x_v0.1.2.2, .slice x_v0.2.1.1 v0.2.1.length x_v0.2.1.2, .slice x_v0.2.2.1 v0.2.2.length x_v0.2.2.2]] [imm (.slice x_v0.1.1.1 v0.1.1.length x_v0.1.1.2) v0.1.1, imm (.slice x_v0.1.2.1 v0.1.2.length x_v0.1.2.2) v0.1.2, imm (.slice x_v0.2.1.1 v0.2.1.length x_v0.2.1.2) v0.2.1, imm (.slice x_v0.2.2.1 v0.2.2.length x_v0.2.2.2) v0.2.2] [] (ι := ((Option Addr × Nat) × (Option Addr × Nat)) × (Option Addr × Nat) × (Option Addr × Nat)) (fun x => .agg #[.slice x.1.1.1 r.1.1.length x.1.1.2, .slice x.1.2.1 r.1.2.length x.1.2.2, .slice x.2.1.1 r.2.1.length x.2.1.2, .slice x.2.2.1 r.2.2.length x.2.2.2]) (fun _ => []) (fun x => [tree (.slice x.1.1.1 r.1.1.length x.1.1.2) r.1.1, tree (.slice x.1.2.1 r.1.2.length x.1.2.2) r.1.2, tree (.slice x.2.1.1 r.2.1.length x.2.1.2) r.2.1, tree (.slice x.2.2.1 r.2.2.length x.2.2.2) r.2.2]) := by
 refine cof (args := [_]) func89 ntmps89 fun c => ?_
 unfold p_spec_l13Copy at H
 refine bM aR fun X1 => (bM aR.s.s fun X2 => (bM aR.s.s.s.s fun X3 => (sr (f1 (cC (t := 42) rfl) fun g4 => (f1 (cD ty42) fun g5 => (nl (sr (f2 (e_lit0 Part dP ty72) fun a6 c7 => (aH rfl (nl ?_))))))))))
 refine aD (sr (aH (v := .int .i64 (0)) rfl (nl (bdo H fun x8 hx9 H => (dB (ι := Option Addr × Nat) (fun ψ => [(1, .pointer (some ⟨g4, 0, none⟩)), (2, .pointer (some ⟨g5, 0, none⟩)), (3, .slice ψ.1 x8.length ψ.2)]) (fun ψ => [box g4 42 [.slice x_v0.1.1.1 v0.1.1.length x_v0.1.1.2, .slice x_v0.1.2.1 v0.1.2.length x_v0.1.2.2, .slice x_v0.2.1.1 v0.2.1.length x_v0.2.1.2, .slice x_v0.2.2.1 v0.2.2.length x_v0.2.2.2], box g5 42 [.slice none 0 0, .slice none 0 0, .slice none 0 0, .slice none 0 0], tree (.slice ψ.1 x8.length ψ.2) x8]) ?_ ?_)))))
 ·refine aQ (dE hx9 (a6, c7) (fun Q12 z13 => [(1, .pointer (some ⟨g4, 0, none⟩)), (2, .pointer (some ⟨g5, 0, none⟩)), (3, .slice z13.1 Q12.1.length z13.2), (4, .int .i64 (Q12.2))]) (fun Q12 z13 => [box g4 42 [.slice x_v0.1.1.1 v0.1.1.length x_v0.1.1.2, .slice x_v0.1.2.1 v0.1.2.length x_v0.1.2.2, .slice x_v0.2.1.1 v0.2.1.length x_v0.2.1.2, .slice x_v0.2.2.1 v0.2.2.length x_v0.2.2.2], box g5 42 [.slice none 0 0, .slice none 0 0, .slice none 0 0, .slice none 0 0], tree (.slice z13.1 Q12.1.length z13.2) Q12.1]) (.cons dl2 (.cons dl1 (.cons aA .nil))) ?_)
  rintro _ Q12 z13 t15 H1 hi16 hb17
  unfold p_spec_l13Copy_b0 at H1
  refine aD (sr (aF rfl (aG (cB fa42_1 rfl rfl) (aI (bI ty39 rfl aB rfl) (aG (bS 72 dP rfl) (aG (cQ rfl rfl) (nl (cH H1 rfl (fun h20 H1 => ?_) (fun h20 H1 => ?_)))))))))
  ·refine bH (nT (aD (aQ (sr (f2 (e_lit0 Int dV ty3) fun a21 c22 => (aG (cB fa42_1 rfl rfl) (aI (bI ty39 rfl hs1 rfl) (aF rfl (gdo H1 fun h23 H1 => (aI (bW dP ty72 rfl rfl h23 rfl (aL (aT aR))) ?_))))))))))
   refine aI (bY (j := 0) Q12.2.toNat fa72_0 rfl (aL (aT aR)) h23.lt rfl) (aI (bZ (i := Q12.2.toNat) (j := 0) ty69 rfl (aL (aT aR)) h23.lt rfl) (gdo H1 fun h26 H1 => (f2 (e_appF (l := ([] : List Int)) (k := (nth v0.2.1 Q12.2.toNat).1) (α := Int) dV ty3 rfl rfl (h26.b (by decide)) h26.x (.cons aA .nil) (aL (aS (aV (aW aR h23.lt))))) fun a24 c25 => (f2 (e_lit0 (List Row) dW ty63) fun a27 c28 => (aG (v := .agg #[.slice a24 ((([] : List Int) ++ ((nth v0.2.1 Q12.2.toNat).1)).length) c25, .slice a27 (([] : List (List Row)).length) c28]) (p_buildS (vs := [(0, .slice a24 ((([] : List Int) ++ ((nth v0.2.1 Q12.2.toNat).1)).length) c25), (1, .slice a27 (([] : List (List Row)).length) c28)]) (cs := #[.slice a24 ((([] : List Int) ++ ((nth v0.2.1 Q12.2.toNat).1)).length) c25, .slice a27 (([] : List (List Row)).length) c28]) ty72 pl72 rfl rfl) (f1 (cD ty72) fun g29 => (stb (cs' := [.slice a24 ((([] : List Int) ++ ((nth v0.2.1 Q12.2.toNat).1)).length) c25, .slice a27 (([] : List (List Row)).length) c28]) ty72 cY (nl (aD (sr ?_))))))))))
   refine aH (v := .int .i64 (0)) rfl (nl (bdo H1 fun x30 hx31 H1 => (dB (ι := Option Addr × Nat) (fun ψ => [(1, .pointer (some ⟨g4, 0, none⟩)), (2, .pointer (some ⟨g5, 0, none⟩)), (3, .slice z13.1 Q12.1.length z13.2), (4, .int .i64 (Q12.2)), (5, .pointer (some ⟨g29, 0, none⟩))]) (fun ψ => [box g4 42 [.slice x_v0.1.1.1 v0.1.1.length x_v0.1.1.2, .slice x_v0.1.2.1 v0.1.2.length x_v0.1.2.2, .slice x_v0.2.1.1 v0.2.1.length x_v0.2.1.2, .slice x_v0.2.2.1 v0.2.2.length x_v0.2.2.2], box g5 42 [.slice none 0 0, .slice none 0 0, .slice none 0 0, .slice none 0 0], tree (.slice z13.1 Q12.1.length z13.2) Q12.1, tree (.slice a24 ((([] : List Int) ++ ((nth v0.2.1 Q12.2.toNat).1)).length) c25) (([] : List Int) ++ ((nth v0.2.1 Q12.2.toNat).1)), tree (.slice ψ.1 x30.length ψ.2) x30, box g29 72 [.slice a24 ((([] : List Int) ++ ((nth v0.2.1 Q12.2.toNat).1)).length) c25, .slice ψ.1 x30.length ψ.2]]) ?_ ?_)))
   ·refine aQ (dE hx31 (a27, c28) (fun Q34 _ => [(1, .pointer (some ⟨g4, 0, none⟩)), (2, .pointer (some ⟨g5, 0, none⟩)), (3, .slice z13.1 Q12.1.length z13.2), (4, .int .i64 (Q12.2)), (5, .pointer (some ⟨g29, 0, none⟩)), (6, .int .i64 (Q34.2))]) (fun Q34 z35 => [box g4 42 [.slice x_v0.1.1.1 v0.1.1.length x_v0.1.1.2, .slice x_v0.1.2.1 v0.1.2.length x_v0.1.2.2, .slice x_v0.2.1.1 v0.2.1.length x_v0.2.1.2, .slice x_v0.2.2.1 v0.2.2.length x_v0.2.2.2], box g5 42 [.slice none 0 0, .slice none 0 0, .slice none 0 0, .slice none 0 0], tree (.slice z13.1 Q12.1.length z13.2) Q12.1, tree (.slice a24 ((([] : List Int) ++ ((nth v0.2.1 Q12.2.toNat).1)).length) c25) (([] : List Int) ++ ((nth v0.2.1 Q12.2.toNat).1)), tree (.slice z35.1 Q34.1.length z35.2) Q34.1, box g29 72 [.slice a24 ((([] : List Int) ++ ((nth v0.2.1 Q12.2.toNat).1)).length) c25, .slice z35.1 Q34.1.length z35.2]]) (.cons dl3 (.cons dl3 (.cons dl3 (.cons dl2 (.cons dl1 (.cons aA .nil)))))) ?_)
    rintro _ Q34 z35 t37 H2 hi38 hb39
    unfold p_spec_l13Copy_b1 at H2
    refine aD (sr (aF rfl (aG (cB fa42_1 rfl rfl) (aI (bI ty39 rfl aB rfl) (aF rfl (aI (bW dP ty72 rfl rfl h23 rfl (aL (aT aR))) (aI (bY (j := 0) Q12.2.toNat fa72_1 rfl (aL (aT aR)) h23.lt rfl) (aI (bZ (i := Q12.2.toNat) (j := 1) ty70 rfl (aL (aT aR)) h23.lt rfl) (aG (bS 63 dW rfl) (aG (cQ rfl rfl) (nl ?_)))))))))))
    refine cH H2 rfl (fun h42 H2 => ?_) (fun h42 H2 => ?_)
    ·refine bH (nT (aD (aQ (dG [(1, .pointer (some ⟨g4, 0, none⟩)), (2, .pointer (some ⟨g5, 0, none⟩)), (3, .slice z13.1 Q12.1.length z13.2), (4, .int .i64 (Q12.2)), (5, .pointer (some ⟨g29, 0, none⟩)), (6, .int .i64 (Q34.2))] 2 [0, 1, 3, 4, 5, 6, 7, 8, 9, 10, 11, 2, 12, 13, 14, 15, 16] [2, 12, 13, 14, 16] [] mixed (by kernel_rfl) (by decide) dI ⟨rfl, rfl, rfl, rfl, rfl, rfl, trivial⟩ rfl okNil (w_p rfl (cB fa72_1 rfl rfl) ?_)))))
     refine w_o rfl (fun F => (bI ty70 rfl (hs5.app F) rfl)) (w_p rfl (cB fa42_1 rfl rfl) ?_)
     refine w_o rfl (fun F => (bI ty39 rfl (aB.app F) rfl)) (w_p rfl (aE rfl) ?_)
     refine w_o rfl (fun F => (bW dP ty72 rfl rfl h23 rfl (aL (aT aR)))) ?_
     refine w_o rfl (fun F => (bY (j := 0) Q12.2.toNat fa72_1 rfl (aL (aT aR)) h23.lt rfl)) ?_
     refine w_o rfl (fun F => (bZ (i := Q12.2.toNat) (j := 1) ty70 rfl (aL (aT aR)) h23.lt rfl)) (w_p rfl (aE rfl) (gdo H2 fun h43 H2 => ?_))
     refine w_o rfl (fun F => (bW dW ty63 rfl rfl h43 rfl (aL (aT (aU (aW aR h23.lt)))))) ?_
     refine w_o rfl (fun F => (bZ (i := Q34.2.toNat) (j := 0) ty63 rfl (aL (aT (aU (aW aR h23.lt)))) h43.lt rfl)) (cJ rfl (by decide) rfl cO rfl (n_lit0 Row dU ty57) ?_)
     rintro _ _ _ ⟨a44, c45, rfl, rfl, rfl⟩
     refine ⟨(bV rfl rfl (fun F => (bZ (i := Q34.2.toNat) (j := 0) ty63 rfl (aL (aT (aU (aW aR h23.lt)))) h43.lt rfl)) (bV rfl rfl (fun F => (bW dW ty63 rfl rfl h43 rfl (aL (aT (aU (aW aR h23.lt)))))) (bV rfl rfl (fun F => (bZ (i := Q12.2.toNat) (j := 1) ty70 rfl (aL (aT aR)) h23.lt rfl)) (bV rfl rfl (fun F => (bY (j := 0) Q12.2.toNat fa72_1 rfl (aL (aT aR)) h23.lt rfl)) (bV rfl rfl (fun F => (bW dP ty72 rfl rfl h23 rfl (aL (aT aR)))) (bV rfl rfl (fun F => (bI ty39 rfl (hs1.app F) rfl)) (bV rfl rfl (fun F => (bI ty70 rfl ((hs5t hs1).app F) rfl)) bU))))))), ?_⟩
     refine gdo H2 fun h48 H2 => (cJ rfl (by decide) rfl cO rfl (n_appF (l := ([] : List Row)) (k := nth ((nth v0.2.1 Q12.2.toNat).2) Q34.2.toNat) (α := Row) dU ty57 rfl rfl (h48.b (by decide)) h48.x (.cons aA .nil) (aL (aS (aW (aU (aW aR h23.lt)) h43.lt)))) ?_)
     rintro _ _ _ ⟨a46, c47, rfl, rfl, rfl⟩
     refine ⟨(aM (by kernel_rfl) (aM (by kernel_rfl) (bV rfl rfl (fun F => (bZ (i := Q12.2.toNat) (j := 1) ty70 rfl (aL (aT aR)) h23.lt rfl)) (bV rfl rfl (fun F => (bY (j := 0) Q12.2.toNat fa72_1 rfl (aL (aT aR)) h23.lt rfl)) (bV rfl rfl (fun F => (bW dP ty72 rfl rfl h23 rfl (aL (aT aR)))) (bV rfl rfl (fun F => (bI ty39 rfl (hs1.app F) rfl)) (bV rfl rfl (fun F => (bI ty70 rfl ((hs5t hs1).app F) rfl)) bU))))))), ?_⟩
     refine cJ rfl (by decide) rfl cO rfl (n_lit (vs := [(0, .slice a46 ((([] : List Row) ++ (nth ((nth v0.2.1 Q12.2.toNat).2) Q34.2.toNat)).length) c47)]) [.slice a46 ((([] : List Row) ++ (nth ((nth v0.2.1 Q12.2.toNat).2) Q34.2.toNat)).length) c47] dW ty63 rfl (by decide) (by decide) (by kernel_rfl)) ?_
     rintro _ _ _ ⟨g49, rfl, rfl, rfl⟩
     refine ⟨(aM (by kernel_rfl) (bV rfl rfl (fun F => (bW dW ty63 rfl rfl h43 rfl (aL (aT (aU (aW aR h23.lt)))))) (bV rfl rfl (fun F => (bZ (i := Q12.2.toNat) (j := 1) ty70 rfl (aL (aT aR)) h23.lt rfl)) (bV rfl rfl (fun F => (bY (j := 0) Q12.2.toNat fa72_1 rfl (aL (aT aR)) h23.lt rfl)) (bV rfl rfl (fun F => (bW dP ty72 rfl rfl h23 rfl (aL (aT aR)))) (bV rfl rfl (fun F => (bI ty39 rfl (hs2.app F) rfl)) (bV rfl rfl (fun F => (bI ty70 rfl ((hs5t hs2).app F) rfl)) bU))))))), ?_⟩
     refine gdo H2 fun h52 H2 => (cJ rfl (by decide) rfl cO rfl (n_app1 (l := Q34.1) (α := (List Row)) (([] : List Row) ++ (nth ((nth v0.2.1 Q12.2.toNat).2) Q34.2.toNat)) (a46, c47) dW ty63 rfl rfl (h52.b (by decide)) h52.x rfl (cX _) (.cons (dl5t dl1) (.cons aA (.cons aA .nil)))) ?_)
     rintro _ _ _ ⟨a50, c51, rfl, rfl, rfl⟩
     refine ⟨(aM (by kernel_rfl) (bV rfl rfl (fun F => (bW dW ty63 rfl rfl h43 rfl (aL (aT (aU (aW aR h23.lt)))))) (bV rfl rfl (fun F => (bZ (i := Q12.2.toNat) (j := 1) ty70 rfl (aL (aT aR)) h23.lt rfl)) (bV rfl rfl (fun F => (bY (j := 0) Q12.2.toNat fa72_1 rfl (aL (aT aR)) h23.lt rfl)) (bV rfl rfl (fun F => (bW dP ty72 rfl rfl h23 rfl (aL (aT aR)))) (bV rfl rfl (fun F => (bI ty39 rfl (hs1.app F) rfl)) (aM (by kernel_rfl) bU))))))), ?_⟩
     refine w_p rfl (cB fa72_1 rfl rfl) (cK rfl rfl cO rfl (n_store (cs' := [.slice a24 ((([] : List Int) ++ ((nth v0.2.1 Q12.2.toNat).1)).length) c25, .slice a50 ((Q34.1 ++ [([] : List Row) ++ (nth ((nth v0.2.1 Q12.2.toNat).2) Q34.2.toNat)]).length) c51]) ty70 rfl rfl up5 rfl (one_of rfl) (Nat.le_of_ble_eq_true rfl) rfl) ?_)
     rintro _ _ _ ⟨rfl, rfl, rfl⟩
     refine ⟨(aM (by kernel_rfl) (aM (by kernel_rfl) (aM (by kernel_rfl) (aM (by kernel_rfl) (aM (by kernel_rfl) (aM (by kernel_rfl) (aM (by kernel_rfl) bU))))))), ?_⟩
     refine cL ?_
     show At _ _ _ _ _ _
     exact nB (nT (aP (aF rfl (gdo H2 fun h53 H2 => (aG (bR rfl rfl h53) (aH rfl (aJ (nLI (a50, c51) (hi38 _ (sm H2)) (.cons dl1 (.cons dl1 (.cons dl1 (.cons dl1 (.cons aA (.cons aA .nil))))))))))))))
    ·refine dA (xT (xT (xE (?_))))
     obtain rfl := hb39 _ (sm H2)
     exact nMC (z35.1, z35.2) ⟨rfl, rfl, rfl, rfl, rfl, trivial⟩ bT (.cons aA (.cons aA (.cons aA (.cons aA (.cons aA (.cons aA .nil))))))
   ·intro y36
    show At _ _ [(1, .pointer (some ⟨g4, 0, none⟩)), (2, .pointer (some ⟨g5, 0, none⟩)), (3, .slice z13.1 Q12.1.length z13.2), (4, .int .i64 (Q12.2)), (5, .pointer (some ⟨g29, 0, none⟩))] _ [box g4 42 [.slice x_v0.1.1.1 v0.1.1.length x_v0.1.1.2, .slice x_v0.1.2.1 v0.1.2.length x_v0.1.2.2, .slice x_v0.2.1.1 v0.2.1.length x_v0.2.1.2, .slice x_v0.2.2.1 v0.2.2.length x_v0.2.2.2], box g5 42 [.slice none 0 0, .slice none 0 0, .slice none 0 0, .slice none 0 0], tree (.slice z13.1 Q12.1.length z13.2) Q12.1, tree (.slice a24 ((([] : List Int) ++ ((nth v0.2.1 Q12.2.toNat).1)).length) c25) (([] : List Int) ++ ((nth v0.2.1 Q12.2.toNat).1)), tree (.slice y36.1 x30.length y36.2) x30, box g29 72 [.slice a24 ((([] : List Int) ++ ((nth v0.2.1 Q12.2.toNat).1)).length) c25, .slice y36.1 x30.length y36.2]] _
    refine nT (aP (aF rfl (aI (bJ ty72 rfl hs5 rfl) (f1 (e_lit (vs := [(0, .agg #[.slice a24 ((([] : List Int) ++ ((nth v0.2.1 Q12.2.toNat).1)).length) c25, .slice y36.1 x30.length y36.2])]) [.slice a24 ((([] : List Int) ++ ((nth v0.2.1 Q12.2.toNat).1)).length) c25, .slice y36.1 x30.length y36.2] dP ty72 rfl (by decide) (by decide) (by kernel_rfl)) fun g54 => (gdo H1 fun h57 H1 => (f2 (e_app1 (l := Q12.1) (α := Part) ((([] : List Int) ++ ((nth v0.2.1 Q12.2.toNat).1)), x30) ((a24, c25), y36) dP ty72 rfl rfl (h57.b (by decide)) h57.x rfl (cX _) (.cons dl3 (.cons aA (.cons dl2 (.cons dl2 .nil))))) fun a55 c56 => (aH rfl (aJ (nB (nT (aP ?_)))))))))))
    exact aF rfl (gdo H1 fun h58 H1 => (aG (bR rfl rfl h58) (aH rfl (aJ (nLI (a55, c56) (hi16 _ (sm H1)) (.cons dl1 (.cons dl1 (.cons aA .nil))))))))
  ·refine dA (xT (xT (xE (?_))))
   obtain rfl := hb17 _ (sm H1)
   exact nMC (z13.1, z13.2) ⟨rfl, rfl, rfl, trivial⟩ bT (.cons aA (.cons aA (.cons aA .nil)))
 ·intro y14
  show At _ _ [(1, .pointer (some ⟨g4, 0, none⟩)), (2, .pointer (some ⟨g5, 0, none⟩)), (3, .slice y14.1 x8.length y14.2)] _ [box g4 42 [.slice x_v0.1.1.1 v0.1.1.length x_v0.1.1.2, .slice x_v0.1.2.1 v0.1.2.length x_v0.1.2.2, .slice x_v0.2.1.1 v0.2.1.length x_v0.2.1.2, .slice x_v0.2.2.1 v0.2.2.length x_v0.2.2.2], box g5 42 [.slice none 0 0, .slice none 0 0, .slice none 0 0, .slice none 0 0], tree (.slice y14.1 x8.length y14.2) x8] _
  refine nT (aD (dG [(1, .pointer (some ⟨g4, 0, none⟩)), (2, .pointer (some ⟨g5, 0, none⟩)), (3, .slice y14.1 x8.length y14.2)] 1 [0, 1, 2, 4, 6, 7, 3, 5, 8, 9, 10] [3, 8, 10] [⟨5, [], fun g => .slice (some ⟨g, 0, none⟩) ([] : List Sample).length 0, fun g => tree (.slice (some ⟨g, 0, none⟩) ([] : List Sample).length 0) ([] : List Sample)⟩] mixed (by kernel_rfl) (by decide) (show List.Nodup [5] by decide) ⟨rfl, rfl, rfl, trivial⟩ rfl (okCons (FreeA.Ok.of rfl (by decide) (by kernel_rfl) fun c fs os => g_lit0 Sample dQ ty59) okNil) (w_p rfl (cB fa42_0 rfl rfl) (w_p rfl (cB fa38_0 rfl rfl) ?_))))
  refine w_o rfl (fun F => (bI ty35 rfl (aB.app F) rfl)) (w_p rfl (aE rfl) (w_p rfl (cB fa42_2 rfl rfl) ?_))
  refine w_o rfl (fun F => (bI ty40 rfl (aB.app F) rfl)) (bdo H fun r59 h60 H => (cJ rfl (by decide) rfl (cP (.inr (.inr trivial)) cO) rfl (cE (c_spec_l11Of v0.1.1 x_v0.1.1 h60) (fun _ => (bF (bF bG))) rfl (aC (aL (aS aR.s.s)) aO)) ?_))
  rintro _ _ _ ⟨x61, rfl, rfl, rfl⟩
  refine ⟨(bV rfl rfl (fun F => (bI ty40 rfl (hs2.app F) rfl)) (aM (by kernel_rfl) bU)), ?_⟩
  refine w_fr (z := ⟨5, [], fun g => .slice (some ⟨g, 0, none⟩) ([] : List Sample).length 0, fun g => tree (.slice (some ⟨g, 0, none⟩) ([] : List Sample).length 0) ([] : List Sample)⟩) (.head _) rfl rfl (by decide) (cP (.inl rfl) cO) trivial ?_; intro g62
  refine gdo H fun h65 H => (cJ rfl (by decide) rfl (cP (.inl rfl) cO) rfl (n_appF (l := ([] : List Sample)) (k := v0.2.2) (α := Sample) dQ ty59 rfl rfl (h65.b (by decide)) h65.x (.cons aA .nil) (aL aR.s.s.s.s.s.s)) ?_)
  rintro _ _ _ ⟨a63, c64, rfl, rfl, rfl⟩
  refine ⟨(aM (by kernel_rfl) (bV rfl rfl (fun F => (bI ty35 rfl (hs3.app F) rfl)) bU)), ?_⟩
  refine w_p (v := .agg #[.slice x61.1.1 r59.1.length x61.1.2, .slice x61.2.1 r59.2.length x61.2.2, .slice y14.1 x8.length y14.2, .slice a63 ((([] : List Sample) ++ v0.2.2).length) c64]) rfl (p_buildS (vs := [(0, .agg #[.slice x61.1.1 r59.1.length x61.1.2, .slice x61.2.1 r59.2.length x61.2.2]), (1, .slice y14.1 x8.length y14.2), (2, .slice a63 ((([] : List Sample) ++ v0.2.2).length) c64)]) (cs := #[.slice x61.1.1 r59.1.length x61.1.2, .slice x61.2.1 r59.2.length x61.2.2, .slice y14.1 x8.length y14.2, .slice a63 ((([] : List Sample) ++ v0.2.2).length) c64]) ty42 pl42 rfl rfl) (cK rfl rfl (cP (.inl rfl) cO) rfl (n_store (cs' := [.slice x61.1.1 r59.1.length x61.1.2, .slice x61.2.1 r59.2.length x61.2.2, .slice y14.1 x8.length y14.2, .slice a63 ((([] : List Sample) ++ v0.2.2).length) c64]) ty42 rfl rfl up4 rfl (one_of rfl) (Nat.le_of_ble_eq_true rfl) rfl) ?_)
  rintro _ _ _ ⟨rfl, rfl, rfl⟩
  refine ⟨(aM (by kernel_rfl) (aM (by kernel_rfl) bU)), ?_⟩
  refine cL (nT (bQ ?_))
  obtain rfl := si H
  exact back1 (x61, y14, (a63, c64)) rfl (ResV.agg ty42 rfl hs4 rfl) rfl cN (.cons dl1 (.cons dl1 (.cons dl3 (.cons aA .nil))))
noncomputable def p_spec_l22Fall (v0 : World) : Option (World) := bd (p_spec_l21Tidy v0.2) fun r8 => bd (p_spec_l21Copy r8) fun r11 => bd (p_spec_l21Open r11) fun r14 => bd (p_spec_l13Copy r14) fun r17 => some (r17, r11)
theorem c_spec_l22Fall {r : World} (v0 : World) (x_v0 : (((Option Addr × Nat) × (Option Addr × Nat)) × (Option Addr × Nat) × (Option Addr × Nat)) × ((Option Addr × Nat) × (Option Addr × Nat) × (Option Addr × Nat) × Unit)) (H : p_spec_l22Fall v0 = some r) : Fn' prog 199 #[.agg #[.slice x_v0.1.1.1.1 v0.1.1.1.length x_v0.1.1.1.2, .slice x_v0.1.1.2.1 v0.1.1.2.length x_v0.1.1.2.2, .slice x_v0.1.2.1.1 v0.1.2.1.length x_v0.1.2.1.2, .slice x_v0.1.2.2.1 v0.1.2.2.length x_v0.1.2.2.2, .slice x_v0.2.1.1 v0.2.1.length x_v0.2.1.2, .slice x_v0.2.2.1.1 v0.2.2.1.length x_v0.2.2.1.2, .slice x_v0.2.2.2.1.1 v0.2.2.2.1.length x_v0.2.2.2.1.2, .int .i64 (v0.2.2.2.2)]] [imm (.slice x_v0.1.1.1.1 v0.1.1.1.length x_v0.1.1.1.2) v0.1.1.1, imm (.slice x_v0.1.1.2.1 v0.1.1.2.length x_v0.1.1.2.2) v0.1.1.2, imm (.slice x_v0.1.2.1.1 v0.1.2.1.length x_v0.1.2.1.2) v0.1.2.1, imm (.slice x_v0.1.2.2.1 v0.1.2.2.length x_v0.1.2.2.2) v0.1.2.2, imm (.slice x_v0.2.1.1 v0.2.1.length x_v0.2.1.2) v0.2.1, imm (.slice x_v0.2.2.1.1 v0.2.2.1.length x_v0.2.2.1.2) v0.2.2.1, imm (.slice x_v0.2.2.2.1.1 v0.2.2.2.1.length x_v0.2.2.2.1.2) v0.2.2.2.1] [] (ι := (((Option Addr × Nat) × (Option Addr × Nat)) × (Option Addr × Nat) × (Option Addr × Nat)) × ((Option Addr × Nat) × (Option Addr × Nat) × (Option Addr × Nat) × Unit)) (fun x => .agg #[.slice x.1.1.1.1 r.1.1.1.length x.1.1.1.2, .slice x.1.1.2.1 r.1.1.2.length x.1.1.2.2, .slice x.1.2.1.1 r.1.2.1.length x.1.2.1.2, .slice x.1.2.2.1 r.1.2.2.length x.1.2.2.2, .slice x.2.1.1 r.2.1.length x.2.1.2, .slice x.2.2.1.1 r.2.2.1.length x.2.2.1.2, .slice x.2.2.2.1.1 r.2.2.2.1.length x.2.2.2.1.2, .int .i64 (r.2.2.2.2)]) (fun x => [imm (.slice x.1.1.1.1 r.1.1.1.length x.1.1.1.2) r.1.1.1, imm (.slice x.1.1.2.1 r.1.1.2.length x.1.1.2.2) r.1.1.2, imm (.slice x.1.2.1.1 r.1.2.1.length x.1.2.1.2) r.1.2.1, imm (.slice x.1.2.2.1 r.1.2.2.length x.1.2.2.2) r.1.2.2, imm (.slice x.2.1.1 r.2.1.length x.2.1.2) r.2.1, imm (.slice x.2.2.1.1 r.2.2.1.length x.2.2.1.2) r.2.2.1, imm (.slice x.2.2.2.1.1 r.2.2.2.1.length x.2.2.2.1.2) r.2.2.2.1]) (fun _ => []) := by
 refine cof (args := [_]) func199 ntmps199 fun c => ?_
 unfold p_spec_l22Fall at H
 refine bM aR fun X1 => (bM aR.s.s fun X2 => (bM aR.s.s.s.s fun X3 => (bM aR.s.s.s.s.s.s.s fun X4 => (bM aR.s.s.s.s.s.s.s.s.s.s fun X5 => (sr (f1 (cC (t := 121) rfl) fun g6 => (f1 (cD ty121) fun g7 => (nl (sr ?_)))))))))
 refine aG (cB fa121_1 rfl rfl) (aI (v := .agg #[.slice x_v0.2.1.1 v0.2.1.length x_v0.2.1.2, .slice x_v0.2.2.1.1 v0.2.2.1.length x_v0.2.2.1.2, .slice x_v0.2.2.2.1.1 v0.2.2.2.1.length x_v0.2.2.2.1.2, .int .i64 (v0.2.2.2.2)]) (q_ldbP [.slice x_v0.2.1.1 v0.2.1.length x_v0.2.1.2, .slice x_v0.2.2.1.1 v0.2.2.1.length x_v0.2.2.1.2, .slice x_v0.2.2.2.1.1 v0.2.2.2.1.length x_v0.2.2.2.1.2, .int .i64 (v0.2.2.2.2)] ty76 rfl hs1 rfl rfl) (bdo H fun r8 h9 H => (f1 (e_call (c_spec_l21Tidy v0.2 (x_v0.2.1, x_v0.2.2.1, x_v0.2.2.2.1, ()) h9) rfl (cM (aS aR.s) (cM aR.s.s.s.s.s.s.s.s.s.s (cM (aS aR) cN))) bK) fun x10 => (bdo H fun r11 h12 H => (f1 (cF (c_spec_l21Copy r8 (x10.1, x10.2.1, x10.2.2.1, ()) h12) (fun _ => (bF (bF (bF bG)))) rfl (aC (aL aR) (aC (aL aR.s) (aC (aL aR.s.s) aO)))) fun x13 => (aG (cB fa121_1 rfl rfl) (stb (cs' := [.slice x_v0.1.1.1.1 v0.1.1.1.length x_v0.1.1.1.2, .slice x_v0.1.1.2.1 v0.1.1.2.length x_v0.1.1.2.2, .slice x_v0.1.2.1.1 v0.1.2.1.length x_v0.1.2.1.2, .slice x_v0.1.2.2.1 v0.1.2.2.length x_v0.1.2.2.2, .slice x13.1.1 r11.1.length x13.1.2, .slice x13.2.1.1 r11.2.1.length x13.2.1.2, .slice x13.2.2.1.1 r11.2.2.1.length x13.2.2.1.2, .int .i64 (r11.2.2.2)]) ty76 up4 (nl (aD ?_)))))))))
 refine Tr.freeze (.cons dl2 .nil) (Tr.freeze (.cons dl1 .nil) (Tr.freeze (.cons aA .nil) (aP (aG (cB fa121_1 rfl rfl) (aI (v := .agg #[.slice x13.1.1 r11.1.length x13.1.2, .slice x13.2.1.1 r11.2.1.length x13.2.1.2, .slice x13.2.2.1.1 r11.2.2.1.length x13.2.2.1.2, .int .i64 (r11.2.2.2)]) (q_ldbP [.slice x13.1.1 r11.1.length x13.1.2, .slice x13.2.1.1 r11.2.1.length x13.2.1.2, .slice x13.2.2.1.1 r11.2.2.1.length x13.2.2.1.2, .int .i64 (r11.2.2.2)] ty76 rfl hs1 rfl rfl) (bdo H fun r14 h15 H => (f1 (e_call (c_spec_l21Open r11 (x13.1, x13.2.1, x13.2.2.1, ()) h15) rfl (cM aR (cM aR.s (cM aR.s.s cN))) bK) fun x16 => (bdo H fun r17 h18 H => (f1 (cF (c_spec_l13Copy r14 x16 h18) (fun _ => (bF (bF (bF (bF bG))))) rfl (aC (aL aR) (aC (aL aR.s) (aC (aL aR.s.s) (aC (aL aR.s.s.s) aO))))) fun x19 => ?_)))))))))
 refine aG (cB fa121_0 rfl rfl) (stb (cs' := [.slice x19.1.1.1 r17.1.1.length x19.1.1.2, .slice x19.1.2.1 r17.1.2.length x19.1.2.2, .slice x19.2.1.1 r17.2.1.length x19.2.1.2, .slice x19.2.2.1 r17.2.2.length x19.2.2.2, .slice x13.1.1 r11.1.length x13.1.2, .slice x13.2.1.1 r11.2.1.length x13.2.1.2, .slice x13.2.2.1.1 r11.2.2.1.length x13.2.2.1.2, .int .i64 (r11.2.2.2)]) ty42 up5 (nl (sr (aI (bJ ty121 rfl hs5 rfl) (stb (cs' := [.slice x19.1.1.1 r17.1.1.length x19.1.1.2, .slice x19.1.2.1 r17.1.2.length x19.1.2.2, .slice x19.2.1.1 r17.2.1.length x19.2.1.2, .slice x19.2.2.1 r17.2.2.length x19.2.2.2, .slice x13.1.1 r11.1.length x13.1.2, .slice x13.2.1.1 r11.2.1.length x13.2.1.2, .slice x13.2.2.1.1 r11.2.2.1.length x13.2.2.1.2, .int .i64 (r11.2.2.2)]) ty121 up4 (nl (Tr.freeze (.cons aA .nil) (Tr.freeze (.cons aA .nil) (Tr.freeze (.cons aA .nil) ?_)))))))))
 refine Tr.freeze (.cons aA .nil) (bQ ?_)
 obtain rfl := si H
 exact back1 (x19, (x13.1, x13.2.1, x13.2.2.1, ())) rfl (ResV.agg ty121 rfl aB rfl) rfl (cM aR.s.s.s (cM aR.s.s (cM aR.s (cM aR (cM aR.s.s.s.s.s.s.s.s (cM aR.s.s.s.s.s.s.s.s.s (cM aR.s.s.s.s.s.s.s.s.s.s cN))))))) bK
noncomputable def p_spec_l22Steps (v0 : World) (v1 : (List Step)) (v2 : Int) (v3 : Store) : Option (World) := bd (cond (decide ((v1.length : Int) = 0)) (some (true)) (some (decide (v2 < 0)))) fun b13 => cond (b13) (some v0) (bd (p_spec_l21To v0.2 v1 v2) fun r17 => cond (decide (v2 < (v1.length : Int))) (bd (p_spec_l22Fall (v0.1, r17)) fun r21 => some r21) (some (v3, r17)))
theorem c_spec_l22Steps {r : World} (v0 : World) (x_v0 : (((Option Addr × Nat) × (Option Addr × Nat)) × (Option Addr × Nat) × (Option Addr × Nat)) × ((Option Addr × Nat) × (Option Addr × Nat) × (Option Addr × Nat) × Unit)) (v1 : (List Step)) (x_v1 : Option Addr × Nat) (v2 : Int) (v3 : Store) (x_v3 : ((Option Addr × Nat) × (Option Addr × Nat)) × (Option Addr × Nat) × (Option Addr × Nat)) (H : p_spec_l22Steps v0 v1 v2 v3 = some r) : Fn' prog 195 #[.agg #[.slice x_v0.1.1.1.1 v0.1.1.1.length x_v0.1.1.1.2, .slice x_v0.1.1.2.1 v0.1.1.2.length x_v0.1.1.2.2, .slice x_v0.1.2.1.1 v0.1.2.1.length x_v0.1.2.1.2, .slice x_v0.1.2.2.1 v0.1.2.2.length x_v0.1.2.2.2, .slice x_v0.2.1.1 v0.2.1.length x_v0.2.1.2, .slice x_v0.2.2.1.1 v0.2.2.1.length x_v0.2.2.1.2, .slice x_v0.2.2.2.1.1 v0.2.2.2.1.length x_v0.2.2.2.1.2, .int .i64 (v0.2.2.2.2)], .slice x_v1.1 v1.length x_v1.2, .int .i64 (v2), .agg #[.slice x_v3.1.1.1 v3.1.1.length x_v3.1.1.2, .slice x_v3.1.2.1 v3.1.2.length x_v3.1.2.2, .slice x_v3.2.1.1 v3.2.1.length x_v3.2.1.2, .slice x_v3.2.2.1 v3.2.2.length x_v3.2.2.2]] [imm (.slice x_v0.1.1.1.1 v0.1.1.1.length x_v0.1.1.1.2) v0.1.1.1, imm (.slice x_v0.1.1.2.1 v0.1.1.2.length x_v0.1.1.2.2) v0.1.1.2, imm (.slice x_v0.1.2.1.1 v0.1.2.1.length x_v0.1.2.1.2) v0.1.2.1, imm (.slice x_v0.1.2.2.1 v0.1.2.2.length x_v0.1.2.2.2) v0.1.2.2, imm (.slice x_v0.2.1.1 v0.2.1.length x_v0.2.1.2) v0.2.1, imm (.slice x_v0.2.2.1.1 v0.2.2.1.length x_v0.2.2.1.2) v0.2.2.1, imm (.slice x_v0.2.2.2.1.1 v0.2.2.2.1.length x_v0.2.2.2.1.2) v0.2.2.2.1, imm (.slice x_v1.1 v1.length x_v1.2) v1, imm (.slice x_v3.1.1.1 v3.1.1.length x_v3.1.1.2) v3.1.1, imm (.slice x_v3.1.2.1 v3.1.2.length x_v3.1.2.2) v3.1.2, imm (.slice x_v3.2.1.1 v3.2.1.length x_v3.2.1.2) v3.2.1, imm (.slice x_v3.2.2.1 v3.2.2.length x_v3.2.2.2) v3.2.2] [] (ι := (((Option Addr × Nat) × (Option Addr × Nat)) × (Option Addr × Nat) × (Option Addr × Nat)) × ((Option Addr × Nat) × (Option Addr × Nat) × (Option Addr × Nat) × Unit)) (fun x => .agg #[.slice x.1.1.1.1 r.1.1.1.length x.1.1.1.2, .slice x.1.1.2.1 r.1.1.2.length x.1.1.2.2, .slice x.1.2.1.1 r.1.2.1.length x.1.2.1.2, .slice x.1.2.2.1 r.1.2.2.length x.1.2.2.2, .slice x.2.1.1 r.2.1.length x.2.1.2, .slice x.2.2.1.1 r.2.2.1.length x.2.2.1.2, .slice x.2.2.2.1.1 r.2.2.2.1.length x.2.2.2.1.2, .int .i64 (r.2.2.2.2)]) (fun x => [imm (.slice x.1.1.1.1 r.1.1.1.length x.1.1.1.2) r.1.1.1, imm (.slice x.1.1.2.1 r.1.1.2.length x.1.1.2.2) r.1.1.2, imm (.slice x.1.2.1.1 r.1.2.1.length x.1.2.1.2) r.1.2.1, imm (.slice x.1.2.2.1 r.1.2.2.length x.1.2.2.2) r.1.2.2, imm (.slice x.2.1.1 r.2.1.length x.2.1.2) r.2.1, imm (.slice x.2.2.1.1 r.2.2.1.length x.2.2.1.2) r.2.2.1, imm (.slice x.2.2.2.1.1 r.2.2.2.1.length x.2.2.2.1.2) r.2.2.2.1]) (fun _ => []) := by
 refine cof (args := [_, _, _, _]) func195 ntmps195 fun c => ?_
 unfold p_spec_l22Steps at H
 refine bM aR fun X1 => (bM aR.s.s fun X2 => (bM aR.s.s.s.s fun X3 => (bM aR.s.s.s.s.s.s.s fun X4 => (bM aR.s.s.s.s.s.s.s.s.s.s fun X5 => (bM aR.s.s.s.s.s.s.s.s.s.s.s.s fun X6 => (bM aR.s.s.s.s.s.s.s.s.s.s.s.s.s.s fun X7 => (bM aR.s.s.s.s.s.s.s.s.s.s.s.s.s.s.s.s fun X8 => (bM aR.s.s.s.s.s.s.s.s.s.s.s.s.s.s.s.s.s.s fun X9 => (sr ?_)))))))))
 refine f1 (cC (t := 121) rfl) fun g10 => (f1 (cC (t := 42) rfl) fun g11 => (f1 (cD ty121) fun g12 => (nl (aD (bdo H fun b13 j14 H => (dD [(15, .bool (b13)), (8, .pointer (some ⟨g12, 0, none⟩)), (7, .pointer (some ⟨g11, 0, none⟩)), (4, .pointer (some ⟨g10, 0, none⟩)), (1, .slice x_v1.1 v1.length x_v1.2), (2, .int .i64 (v2))] ?_ ?_))))))
 ·refine dH [(8, .pointer (some ⟨g12, 0, none⟩)), (7, .pointer (some ⟨g11, 0, none⟩)), (4, .pointer (some ⟨g10, 0, none⟩)), (1, .slice x_v1.1 v1.length x_v1.2), (2, .int .i64 (v2))] ⟨rfl, rfl, rfl, rfl, rfl, trivial⟩ (bB rfl (aX (bS 260 dL rfl) (aX (cT rfl rfl) ?_)))
  rcases aK (decide ((v1.length : Int) = 0)) with h15 | h15
  ·have j14 := cdT h15 j14
   refine bC (aE rfl) h15 ?_
   iterate 2 refine bE rfl ?_
   refine aX (v := .bool (true)) (bP rfl rfl) ?_
   obtain rfl := si j14
   show At _ _ _ _ _ _
   exact n1 ⟨rfl, rfl, rfl, rfl, rfl, rfl, trivial⟩
  ·have j14 := cdF h15 j14
   refine bC (aE rfl) h15 (aY rfl (aE rfl) (aY rfl (cQ rfl rfl) (aX (bO rfl rfl) ?_)))
   obtain rfl := si j14
   show At _ _ _ _ _ _
   exact n1 ⟨rfl, rfl, rfl, rfl, rfl, rfl, trivial⟩
 refine cH H rfl (fun h16 H => ?_) (fun h16 H => ?_)
 ·refine sr (aI (bJ ty121 rfl hs2 rfl) (stb (cs' := [.slice x_v0.1.1.1.1 v0.1.1.1.length x_v0.1.1.1.2, .slice x_v0.1.1.2.1 v0.1.1.2.length x_v0.1.1.2.2, .slice x_v0.1.2.1.1 v0.1.2.1.length x_v0.1.2.1.2, .slice x_v0.1.2.2.1 v0.1.2.2.length x_v0.1.2.2.2, .slice x_v0.2.1.1 v0.2.1.length x_v0.2.1.2, .slice x_v0.2.2.1.1 v0.2.2.1.length x_v0.2.2.1.2, .slice x_v0.2.2.2.1.1 v0.2.2.2.1.length x_v0.2.2.2.1.2, .int .i64 (v0.2.2.2.2)]) ty121 cY (nl (bQ (rT (?_))))))
  obtain rfl := si H
  exact back1 (x_v0.1, (x_v0.2.1, x_v0.2.2.1, x_v0.2.2.2.1, ())) rfl (ResV.agg ty121 rfl aB rfl) rfl (cM (aS aR.s.s.s.s.s.s.s.s) (cM (aS aR.s.s.s.s.s.s.s) (cM (aS aR.s.s.s.s.s.s) (cM aR.s.s.s.s.s.s.s.s.s.s.s.s (cM (aS aR.s.s.s.s.s) (cM aR.s.s.s.s.s.s.s.s.s.s.s.s.s.s (cM (aS aR.s.s.s.s) cN))))))) bK
 ·refine bH (nT (sr (aG (cB fa121_1 rfl rfl) (aI (v := .agg #[.slice x_v0.2.1.1 v0.2.1.length x_v0.2.1.2, .slice x_v0.2.2.1.1 v0.2.2.1.length x_v0.2.2.1.2, .slice x_v0.2.2.2.1.1 v0.2.2.2.1.length x_v0.2.2.2.1.2, .int .i64 (v0.2.2.2.2)]) (q_ldbP [.slice x_v0.2.1.1 v0.2.1.length x_v0.2.1.2, .slice x_v0.2.2.1.1 v0.2.2.1.length x_v0.2.2.1.2, .slice x_v0.2.2.2.1.1 v0.2.2.2.1.length x_v0.2.2.2.1.2, .int .i64 (v0.2.2.2.2)] ty76 rfl hs2 rfl rfl) (aF rfl (aF rfl (bdo H fun r17 h18 H => (f1 (e_call (c_spec_l21To v0.2 (x_v0.2.1, x_v0.2.2.1, x_v0.2.2.2.1, ()) v1 x_v1 v2 h18) rfl (cM (aS aR.s.s.s.s.s) (cM aR.s.s.s.s.s.s.s.s.s.s.s.s.s.s (cM (aS aR.s.s.s.s) (cM (aS aR.s.s.s) cN)))) bK) fun x19 => (aG (cB fa121_1 rfl rfl) ?_)))))))))
  refine stb (cs' := [.slice x_v0.1.1.1.1 v0.1.1.1.length x_v0.1.1.1.2, .slice x_v0.1.1.2.1 v0.1.1.2.length x_v0.1.1.2.2, .slice x_v0.1.2.1.1 v0.1.2.1.length x_v0.1.2.1.2, .slice x_v0.1.2.2.1 v0.1.2.2.length x_v0.1.2.2.2, .slice x19.1.1 r17.1.length x19.1.2, .slice x19.2.1.1 r17.2.1.length x19.2.1.2, .slice x19.2.2.1.1 r17.2.2.1.length x19.2.2.1.2, .int .i64 (r17.2.2.2)]) ty76 up2 (nl (aD (sr (aF rfl (aF rfl (aG (bS 260 dL rfl) (aG (cQ rfl rfl) (nl (cH H rfl (fun h20 H => ?_) (fun h20 H => ?_))))))))))
  ·refine sr (aI (bJ ty121 rfl hs2 rfl) (bdo H fun r21 h22 H => (f1 (e_call (c_spec_l22Fall (v0.1, r17) (x_v0.1, (x19.1, x19.2.1, x19.2.2.1, ())) h22) rfl (cM (aS aR.s.s.s.s.s.s.s.s.s.s.s) (cM (aS aR.s.s.s.s.s.s.s.s.s.s) (cM (aS aR.s.s.s.s.s.s.s.s.s) (cM aR.s.s.s.s.s.s.s.s.s.s.s.s.s.s.s (cM aR (cM aR.s (cM aR.s.s cN))))))) bK) fun x23 => (stb (cs' := [.slice x23.1.1.1.1 r21.1.1.1.length x23.1.1.1.2, .slice x23.1.1.2.1 r21.1.1.2.length x23.1.1.2.2, .slice x23.1.2.1.1 r21.1.2.1.length x23.1.2.1.2, .slice x23.1.2.2.1 r21.1.2.2.length x23.1.2.2.2, .slice x23.2.1.1 r21.2.1.length x23.2.1.2, .slice x23.2.2.1.1 r21.2.2.1.length x23.2.2.1.2, .slice x23.2.2.2.1.1 r21.2.2.2.1.length x23.2.2.2.1.2, .int .i64 (r21.2.2.2.2)]) ty121 cY (nl (bQ (rT (?_))))))))
   obtain rfl := si H
   exact back1 (x23.1, (x23.2.1, x23.2.2.1, x23.2.2.2.1, ())) rfl (ResV.agg ty121 rfl aB rfl) rfl (cM aR (cM aR.s (cM aR.s.s (cM aR.s.s.s (cM aR.s.s.s.s (cM aR.s.s.s.s.s (cM aR.s.s.s.s.s.s cN))))))) bK
  ·refine bH (nT (sr (aI (bJ ty42 rfl hs1 rfl) (aG (cB fa121_0 rfl rfl) (stb (cs' := [.slice x_v3.1.1.1 v3.1.1.length x_v3.1.1.2, .slice x_v3.1.2.1 v3.1.2.length x_v3.1.2.2, .slice x_v3.2.1.1 v3.2.1.length x_v3.2.1.2, .slice x_v3.2.2.1 v3.2.2.length x_v3.2.2.2, .slice x19.1.1 r17.1.length x19.1.2, .slice x19.2.1.1 r17.2.1.length x19.2.1.2, .slice x19.2.2.1.1 r17.2.2.1.length x19.2.2.1.2, .int .i64 (r17.2.2.2)]) ty42 up2 (nl (sr (aI (bJ ty121 rfl hs2 rfl) (stb (cs' := [.slice x_v3.1.1.1 v3.1.1.length x_v3.1.1.2, .slice x_v3.1.2.1 v3.1.2.length x_v3.1.2.2, .slice x_v3.2.1.1 v3.2.1.length x_v3.2.1.2, .slice x_v3.2.2.1 v3.2.2.length x_v3.2.2.2, .slice x19.1.1 r17.1.length x19.1.2, .slice x19.2.1.1 r17.2.1.length x19.2.1.2, .slice x19.2.2.1.1 r17.2.2.1.length x19.2.2.1.2, .int .i64 (r17.2.2.2)]) ty121 cY ?_)))))))))
   refine nl (bQ ?_)
   obtain rfl := si H
   exact back1 (x_v3, (x19.1, x19.2.1, x19.2.2.1, ())) rfl (ResV.agg ty121 rfl aB rfl) rfl (cM (aS aR.s.s.s.s.s) (cM (aS aR.s.s.s.s) (cM (aS aR.s.s.s) (cM aR.s.s.s.s.s.s.s.s.s.s.s.s.s.s.s.s.s.s.s.s.s.s.s (cM aR (cM aR.s (cM aR.s.s cN))))))) bK
noncomputable def p_spec_l13Merge (v0 : Store) (v1 : Int) : Option (Store × Bool) := gd (I64 ((v0.2.1.length : Int) - 2)) <| bd (p_spec_l6In v1 0 ((v0.2.1.length : Int) - 2)) fun r7 => cond (!r7) (some (v0, false)) (gd (sl2 0 v1 v0.2.1.length) <| gd (room (([] : List Part).length + ((v0.2.1.take v1.toNat).drop 0).length)) <| gd (ix v1 v0.2.1.length) <| gd (I64 (v1 + 1)) <| gd (ix (v1 + 1) v0.2.1.length) <| bd (p_spec_l12Merge (nth v0.2.1 v1.toNat) (nth v0.2.1 ((v1 + 1).toNat))) fun r19 => gd (room ((([] : List Part) ++ ((v0.2.1.take v1.toNat).drop 0)).length + 1)) <| gd (I64 (v1 + 2)) <| gd (sl2 (v1 + 2) (v0.2.1.length : Int) v0.2.1.length) <| gd (room (((([] : List Part) ++ ((v0.2.1.take v1.toNat).drop 0)) ++ [r19]).length + ((v0.2.1.take (v0.2.1.length : Int).toNat).drop (v1 + 2).toNat).length)) <| some ((v0.1, (((([] : List Part) ++ ((v0.2.1.take v1.toNat).drop 0)) ++ [r19]) ++ ((v0.2.1.take (v0.2.1.length : Int).toNat).drop (v1 + 2).toNat)), v0.2.2), true))
theorem c_spec_l13Merge {r : Store × Bool} (v0 : Store) (x_v0 : ((Option Addr × Nat) × (Option Addr × Nat)) × (Option Addr × Nat) × (Option Addr × Nat)) (v1 : Int) (H : p_spec_l13Merge v0 v1 = some r) : Fn' prog 197 #[.agg #[.slice x_v0.1.1.1 v0.1.1.length x_v0.1.1.2, .slice x_v0.1.2.1 v0.1.2.length x_v0.1.2.2, .slice x_v0.2.1.1 v0.2.1.length x_v0.2.1.2, .slice x_v0.2.2.1 v0.2.2.length x_v0.2.2.2], .int .i64 (v1)] [imm (.slice x_v0.1.1.1 v0.1.1.length x_v0.1.1.2) v0.1.1, imm (.slice x_v0.1.2.1 v0.1.2.length x_v0.1.2.2) v0.1.2, imm (.slice x_v0.2.1.1 v0.2.1.length x_v0.2.1.2) v0.2.1, imm (.slice x_v0.2.2.1 v0.2.2.length x_v0.2.2.2) v0.2.2] [] (ι := (((Option Addr × Nat) × (Option Addr × Nat)) × (Option Addr × Nat) × (Option Addr × Nat)) × Unit) (fun x => .tuple #[.agg #[.slice x.1.1.1.1 r.1.1.1.length x.1.1.1.2, .slice x.1.1.2.1 r.1.1.2.length x.1.1.2.2, .slice x.1.2.1.1 r.1.2.1.length x.1.2.1.2, .slice x.1.2.2.1 r.1.2.2.length x.1.2.2.2], .bool (r.2)]) (fun x => [imm (.slice x.1.1.1.1 r.1.1.1.length x.1.1.1.2) r.1.1.1, imm (.slice x.1.1.2.1 r.1.1.2.length x.1.1.2.2) r.1.1.2, imm (.slice x.1.2.1.1 r.1.2.1.length x.1.2.1.2) r.1.2.1, imm (.slice x.1.2.2.1 r.1.2.2.length x.1.2.2.2) r.1.2.2]) (fun _ => []) := by
 refine cof (args := [_, _]) func197 ntmps197 fun c => ?_
 unfold p_spec_l13Merge at H
 refine bM aR fun X1 => (bM aR.s.s fun X2 => (bM aR.s.s.s.s fun X3 => (sr (f1 (cC (t := 42) rfl) fun g4 => (f1 (cD ty42) fun g5 => (aH (v := .bool (false)) rfl (nl (aD (sr (aF rfl (aG (cB fa42_1 rfl rfl) ?_)))))))))))
 refine aI (bI ty39 rfl hs1 rfl) (aG (bS 72 dP rfl) (gdo H fun h6 H => (aG (cR rfl rfl h6) (bdo H fun r7 h8 H => (aI (bN (c_spec_l6In v1 0 ((v0.2.1.length : Int) - 2) h8) rfl aO) (aG (cW rfl) (nl (cH H rfl (fun h9 H => ?_) (fun h9 H => ?_)))))))))
 ·refine sr (aI (bJ ty42 rfl hs1 rfl) (stb (cs' := [.slice x_v0.1.1.1 v0.1.1.length x_v0.1.1.2, .slice x_v0.1.2.1 v0.1.2.length x_v0.1.2.2, .slice x_v0.2.1.1 v0.2.1.length x_v0.2.1.2, .slice x_v0.2.2.1 v0.2.2.length x_v0.2.2.2]) ty42 cY (aH (v := .bool (false)) rfl (nl (bQ (rT (?_)))))))
  obtain rfl := si H
  exact back2 (x_v0, ()) rfl (ResV.agg ty42 rfl aB rfl) (ResV.tmp (v := .bool (false)) rfl) rfl (cM (aS aR.s.s) (cM (aS aR.s) (cM (aS aR) (cM aR.s.s.s.s.s.s cN)))) bK
 ·refine bH (nT (sr (f2 (e_lit0r Part dP ty72) fun a10 c11 => (aG (cB fa42_1 rfl rfl) (aI (bI ty39 rfl hs2 rfl) (aF rfl (gdo H fun h12 H => (aI (v := .slice (subA x_v0.2.1.1 x_v0.2.1.2 0 (Enc.sz Part)) (((v0.2.1.take v1.toNat).drop 0).length) (x_v0.2.1.2 - 0)) (q_slF (l := v0.2.1) (α := Part) 0 v1 dP ty72 rfl rfl (fun _ => rfl) rfl (fun h => nomatch h) h12 (aL (aS aR))) (gdo H fun h15 H => ?_)))))))))
  refine f2 (e_appR (l := ([] : List Part)) (k := ((v0.2.1.take v1.toNat).drop 0)) (α := Part) dP ty72 rfl rfl (h15.b (by decide)) h15.x (.cons aA .nil) (Ent.sub (aS aR) h12.le h12.lt)) fun a13 c14 => (aH rfl (nl (aD (tNwL [(6, .slice a13 ((([] : List Part) ++ ((v0.2.1.take v1.toNat).drop 0)).length) c14), (4, .pointer (some ⟨g5, 0, none⟩)), (2, .pointer (some ⟨g4, 0, none⟩)), (1, .int .i64 (v1))] 1 [0, 1, 2, 3, 4, 5, 6, 7, 8, 9, 10, 11, 12, 13, 14] [12, 13, 14] [] mixed rfl (by kernel_rfl) (by kernel_rfl) (by decide) dI ⟨rfl, rfl, rfl, rfl, trivial⟩ rfl okNil (w_p rfl (aE rfl) (w_p rfl (cB fa42_1 rfl rfl) ?_))))))
  refine w_o rfl (fun F => (bI ty39 rfl (hs2.app F) rfl)) (w_p rfl (aE rfl) (gdo H fun h16 H => ?_))
  refine w_o rfl (fun F => (bW dP ty72 rfl rfl h16 rfl (aL (aT aR)))) ?_
  refine w_o (v := .agg #[.slice (((X3 v1.toNat).1).1) (((nth v0.2.1 v1.toNat).1).length) (((X3 v1.toNat).1).2.1), .slice (((X3 v1.toNat).2).1) (((nth v0.2.1 v1.toNat).2).length) (((X3 v1.toNat).2).2.1)]) rfl (fun F => (cA (i := v1.toNat) ty72 rfl (aL (aT aR)) h16.lt)) (w_p rfl (cB fa42_1 rfl rfl) ?_)
  refine w_o rfl (fun F => (bI ty39 rfl (hs2.app F) rfl)) (w_p rfl (aE rfl) (gdo H fun h17 H => (w_p rfl (bR rfl rfl h17) (gdo H fun h18 H => ?_))))
  refine w_o rfl (fun F => (bW dP ty72 rfl rfl h18 rfl (aL (aT aR)))) ?_
  refine w_o (v := .agg #[.slice (((X3 ((v1 + 1).toNat)).1).1) (((nth v0.2.1 ((v1 + 1).toNat)).1).length) (((X3 ((v1 + 1).toNat)).1).2.1), .slice (((X3 ((v1 + 1).toNat)).2).1) (((nth v0.2.1 ((v1 + 1).toNat)).2).length) (((X3 ((v1 + 1).toNat)).2).2.1)]) rfl (fun F => (cA (i := (v1 + 1).toNat) ty72 rfl (aL (aT aR)) h18.lt)) (bdo H fun r19 h20 H => (cJ rfl (by decide) rfl cO rfl (cE (c_spec_l12Merge (nth v0.2.1 v1.toNat) ((((X3 v1.toNat).1).1, ((X3 v1.toNat).1).2.1), (((X3 v1.toNat).2).1, ((X3 v1.toNat).2).2.1)) (nth v0.2.1 ((v1 + 1).toNat)) ((((X3 ((v1 + 1).toNat)).1).1, ((X3 ((v1 + 1).toNat)).1).2.1), (((X3 ((v1 + 1).toNat)).2).1, ((X3 ((v1 + 1).toNat)).2).2.1)) h20) (fun _ => (bF (bF bG))) rfl (aC (aL (aS (aV (aW aR h16.lt)))) (aC (aL (aS (aU (aW aR h16.lt)))) (aC (aL (aS (aV (aW aR h18.lt)))) (aC (aL (aS (aU (aW aR h18.lt)))) aO))))) ?_))
  rintro _ _ _ ⟨x21, rfl, rfl, rfl⟩
  refine ⟨(aM (by kernel_rfl) (bV rfl rfl (fun F => (bW dP ty72 rfl rfl h18 rfl (aL (aT aR)))) (bV rfl rfl (fun F => (bI ty39 rfl (hs4.app F) rfl)) (aM (by kernel_rfl) (bV rfl rfl (fun F => (bW dP ty72 rfl rfl h16 rfl (aL (aT aR)))) (bV rfl rfl (fun F => (bI ty39 rfl (hs4.app F) rfl)) bU)))))), ?_⟩
  refine cJ rfl (by decide) rfl cO rfl (n_lit (vs := [(0, .agg #[.slice x21.1.1 r19.1.length x21.1.2, .slice x21.2.1 r19.2.length x21.2.2])]) [.slice x21.1.1 r19.1.length x21.1.2, .slice x21.2.1 r19.2.length x21.2.2] dP ty72 rfl (by decide) (by decide) (by kernel_rfl)) ?_
  rintro _ _ _ ⟨g22, rfl, rfl, rfl⟩
  refine ⟨(bV rfl rfl (fun F => (cA (i := (v1 + 1).toNat) ty72 rfl (aL (aT aR)) h18.lt)) (bV rfl rfl (fun F => (bW dP ty72 rfl rfl h18 rfl (aL (aT aR)))) (bV rfl rfl (fun F => (bI ty39 rfl (hs5.app F) rfl)) (bV rfl rfl (fun F => (cA (i := v1.toNat) ty72 rfl (aL (aT aR)) h16.lt)) (bV rfl rfl (fun F => (bW dP ty72 rfl rfl h16 rfl (aL (aT aR)))) (bV rfl rfl (fun F => (bI ty39 rfl (hs5.app F) rfl)) bU)))))), ?_⟩
  refine gdo H fun h25 H => (cJ rfl (by decide) rfl cO rfl (n_app1RO (l := (([] : List Part) ++ ((v0.2.1.take v1.toNat).drop 0))) (α := Part) r19 x21 dP ty72 rfl rfl (h25.b (by decide)) h25.x rfl (.cons dl3 (.cons aA (.cons aA (.cons aA .nil))))) ?_)
  rintro _ _ _ ⟨a23, c24, rfl, rfl, rfl⟩
  refine ⟨(bV rfl rfl (fun F => (cA (i := (v1 + 1).toNat) ty72 rfl (aL (aT aR)) h18.lt)) (bV rfl rfl (fun F => (bW dP ty72 rfl rfl h18 rfl (aL (aT aR)))) (bV rfl rfl (fun F => (bI ty39 rfl (hs2.app F) rfl)) (bV rfl rfl (fun F => (cA (i := v1.toNat) ty72 rfl (aL (aT aR)) h16.lt)) (bV rfl rfl (fun F => (bW dP ty72 rfl rfl h16 rfl (aL (aT aR)))) (bV rfl rfl (fun F => (bI ty39 rfl (hs2.app F) rfl)) bU)))))), ?_⟩
  refine cL ?_
  show Rg _ _ _ _ _ _ _ _ _
  refine aH rfl (nl (sr (aF rfl (aG (cB fa42_1 rfl rfl) (aI (bI ty39 rfl hs2 rfl) (aF rfl (gdo H fun h26 H => (aG (bR rfl rfl h26) (gdo H fun h27 H => (aI (v := .slice (subA x_v0.2.1.1 x_v0.2.1.2 (v1 + 2).toNat (Enc.sz Part)) (((v0.2.1.take (v0.2.1.length : Int).toNat).drop (v1 + 2).toNat).length) (x_v0.2.1.2 - (v1 + 2).toNat)) (q_slF (l := v0.2.1) (α := Part) (v1 + 2) (v0.2.1.length : Int) dP ty72 rfl rfl (fun h => nomatch h) rfl (fun _ => rfl) h27 (aL (aS aR))) ?_))))))))))
  refine gdo H fun h30 H => (f2 (e_appR (l := ((([] : List Part) ++ ((v0.2.1.take v1.toNat).drop 0)) ++ [r19])) (k := ((v0.2.1.take (v0.2.1.length : Int).toNat).drop (v1 + 2).toNat)) (α := Part) dP ty72 rfl rfl (h30.b (by decide)) h30.x (.cons aA .nil) (Ent.sub (aS aR) h27.le h27.lt)) fun a28 c29 => (aG (cB fa42_1 rfl rfl) (stb (cs' := [.slice x_v0.1.1.1 v0.1.1.length x_v0.1.1.2, .slice x_v0.1.2.1 v0.1.2.length x_v0.1.2.2, .slice a28 ((((([] : List Part) ++ ((v0.2.1.take v1.toNat).drop 0)) ++ [r19]) ++ ((v0.2.1.take (v0.2.1.length : Int).toNat).drop (v1 + 2).toNat)).length) c29, .slice x_v0.2.2.1 v0.2.2.length x_v0.2.2.2]) ty39 up2 (nl (sr (aI (bJ ty42 rfl hs2 rfl) (stb (cs' := [.slice x_v0.1.1.1 v0.1.1.length x_v0.1.1.2, .slice x_v0.1.2.1 v0.1.2.length x_v0.1.2.2, .slice a28 ((((([] : List Part) ++ ((v0.2.1.take v1.toNat).drop 0)) ++ [r19]) ++ ((v0.2.1.take (v0.2.1.length : Int).toNat).drop (v1 + 2).toNat)).length) c29, .slice x_v0.2.2.1 v0.2.2.length x_v0.2.2.2]) ty42 up1 (aH (v := .bool (true)) rfl (nl (Tr.freezeR (.cons aA .nil) ?_))))))))))
  refine bQ ?_
  obtain rfl := si H
  exact back2 ((x_v0.1, (a28, c29), x_v0.2.2), ()) rfl (ResV.agg ty42 rfl aB rfl) (ResV.tmp (v := .bool (true)) rfl) rfl (cM (aS aR.s.s.s) (cM (aS aR.s.s) (cM aR (cM aR.s.s.s.s.s.s.s cN)))) bK
noncomputable def p_spec_l21Merge (v0 : Disk) (v1 : Int) : Option ((List Step)) := bd (gd (I64 ((v0.2.1.length : Int) - 2)) <| bd (p_spec_l6In v1 0 ((v0.2.1.length : Int) - 2)) fun r7 => cond (!r7) (some (true)) (cond (decide (999 ≤ v0.2.2.2)) (some (true)) (some (decide (20 ≤ (v0.1.length : Int)))))) fun b4 => cond (b4) (some ([] : List Step)) (gd (ix v1 v0.2.1.length) <| gd (I64 (v1 + 1)) <| gd (ix (v1 + 1) v0.2.1.length) <| bd (p_spec_l21At v0 (nth v0.2.1 v1.toNat)) fun r17 => gd (ix r17 v0.1.length) <| bd (p_spec_l21At v0 (nth v0.2.1 ((v1 + 1).toNat))) fun r20 => gd (ix r20 v0.1.length) <| bd (p_spec_l12Merge ((nth v0.1 r17.toNat).2) ((nth v0.1 r20.toNat).2)) fun r23 => gd (sl2 0 v1 v0.2.1.length) <| gd (I64 (v1 + 2)) <| gd (sl2 (v1 + 2) (v0.2.1.length : Int) v0.2.1.length) <| gd (room (([] : List Int).length + ((v0.2.1.take v1.toNat).drop 0).length)) <| gd (room ((([] : List Int) ++ ((v0.2.1.take v1.toNat).drop 0)).length + 1)) <| gd (room (((([] : List Int) ++ ((v0.2.1.take v1.toNat).drop 0)) ++ [v0.2.2.2]).length + ((v0.2.1.take (v0.2.1.length : Int).toNat).drop (v1 + 2).toNat).length)) <| bd (p_spec_l11Names v0.2.2.1) fun r41 => some ([(1, v0.2.2.2, r23, ([]), ([])), (2, 0, (([]), ([])), (((([] : List Int) ++ ((v0.2.1.take v1.toNat).drop 0)) ++ [v0.2.2.2]) ++ ((v0.2.1.take (v0.2.1.length : Int).toNat).drop (v1 + 2).toNat)), r41), (3, (nth v0.2.1 v1.toNat), (([]), ([])), ([]), ([])), (3, (nth v0.2.1 ((v1 + 1).toNat)), (([]), ([])), ([]), ([]))] : List Step))
theorem c_spec_l21Merge {r : (List Step)} (v0 : Disk) (x_v0 : (Option Addr × Nat) × (Option Addr × Nat) × (Option Addr × Nat) × Unit) (v1 : Int) (H : p_spec_l21Merge v0 v1 = some r) : Fn' prog 198 #[.agg #[.slice x_v0.1.1 v0.1.length x_v0.1.2, .slice x_v0.2.1.1 v0.2.1.length x_v0.2.1.2, .slice x_v0.2.2.1.1 v0.2.2.1.length x_v0.2.2.1.2, .int .i64 (v0.2.2.2)], .int .i64 (v1)] [imm (.slice x_v0.1.1 v0.1.length x_v0.1.2) v0.1, imm (.slice x_v0.2.1.1 v0.2.1.length x_v0.2.1.2) v0.2.1, imm (.slice x_v0.2.2.1.1 v0.2.2.1.length x_v0.2.2.1.2) v0.2.2.1] [] (ι := Option Addr × Nat) (fun x => .slice x.1 r.length x.2) (fun x => [imm (.slice x.1 r.length x.2) r]) (fun _ => []) := by
 refine cof (args := [_, _]) func198 ntmps198 fun c => ?_
 unfold p_spec_l21Merge at H
 refine bM aR fun X1 => (bM aR.s.s.s fun X2 => (sr (f1 (cC (t := 76) rfl) fun g3 => (aH (v := .slice none 0 0) rfl (nl (aD (bdo H fun b4 j5 H => (dD [(26, .bool (b4)), (2, .pointer (some ⟨g3, 0, none⟩)), (1, .int .i64 (v1))] ?_ ?_))))))))
 ·refine dH [(2, .pointer (some ⟨g3, 0, none⟩)), (1, .int .i64 (v1))] ⟨rfl, rfl, trivial⟩ (bB rfl (aX (cB fa76_1 rfl rfl) (aZ (bI ty69 rfl aB rfl) (aX (bS 3 dV rfl) (gdo j5 fun h6 j5 => (aX (cR rfl rfl h6) (bdo j5 fun r7 h8 j5 => (aZ (bN (c_spec_l6In v1 0 ((v0.2.1.length : Int) - 2) h8) rfl aO) (aX (cW rfl) ?_)))))))))
  rcases aK (!r7) with h9 | h9
  ·have j5 := cdT h9 j5
   refine bC (aE rfl) h9 ?_
   iterate 3 refine bE rfl ?_
   refine aX (v := .bool (true)) (bP rfl rfl) (bB (v := .bool (true)) rfl ?_)
   iterate 4 refine bE rfl ?_
   refine aX (v := .bool (true)) (bP rfl rfl) ?_
   obtain rfl := si j5
   show At _ _ _ _ _ _
   exact n1 ⟨rfl, rfl, rfl, trivial⟩
  ·have j5 := cdF h9 j5
   refine bC (aE rfl) h9 (aY rfl (cB fa76_3 rfl rfl) (bA rfl (bI ty3 rfl aB rfl) (aY rfl (p_geq rfl rfl) (aX (bO rfl rfl) ?_))))
   rcases aK (decide (999 ≤ v0.2.2.2)) with h10 | h10
   ·have j5 := cdT h10 j5
    refine bC (aE rfl) h10 ?_
    iterate 4 refine bE rfl ?_
    refine aX (v := .bool (true)) (bP rfl rfl) ?_
    obtain rfl := si j5
    show At _ _ _ _ _ _
    exact n1 ⟨rfl, rfl, rfl, trivial⟩
   ·have j5 := cdF h10 j5
    refine bC (aE rfl) h10 (aY rfl (cB fa76_0 rfl rfl) (bA rfl (bI ty74 rfl aB rfl) (aY rfl (bS 80 dX rfl) (aY rfl (p_geq rfl rfl) (aX (bO rfl rfl) ?_)))))
    obtain rfl := si j5
    show At _ _ _ _ _ _
    exact n1 ⟨rfl, rfl, rfl, trivial⟩
 refine cH H rfl (fun h11 H => ?_) (fun h11 H => ?_)
 ·refine sr (f2 (e_lit0 Step dL ty260) fun a12 c13 => (aH rfl (nl (Tr.freeze (.cons aA .nil) (bQ (rT (?_)))))))
  obtain rfl := si H
  exact back1 (a12, c13) rfl (ResV.tmp (v := .slice a12 (([] : List Step).length) c13) rfl) rfl (cM aR cN) bK
 ·refine bH (nT (sr (aG (cB fa76_1 rfl rfl) (aI (bI ty69 rfl aB rfl) (aF rfl (gdo H fun h14 H => (aI (bW dV ty3 rfl rfl h14 rfl (aN (aL aR.s.s.s))) (aI (bZ (i := v1.toNat) (j := 0) ty3 rfl (aN (aL aR.s.s.s)) h14.lt rfl) (aH rfl (nl ?_))))))))))
  refine sr (aG (cB fa76_1 rfl rfl) (aI (bI ty69 rfl aB rfl) (aF rfl (gdo H fun h15 H => (aG (bR rfl rfl h15) (gdo H fun h16 H => (aI (bW dV ty3 rfl rfl h16 rfl (aN (aL aR.s.s.s))) (aI (bZ (i := (v1 + 1).toNat) (j := 0) ty3 rfl (aN (aL aR.s.s.s)) h16.lt rfl) (aH rfl (nl ?_))))))))))
  refine aD (dG [(6, .int .i64 (nth v0.2.1 ((v1 + 1).toNat))), (5, .int .i64 (nth v0.2.1 v1.toNat)), (2, .pointer (some ⟨g3, 0, none⟩)), (1, .int .i64 (v1))] 1 [0, 1, 2, 3, 4, 5, 6, 7, 8, 9, 10, 11, 12, 13, 14, 15, 16, 17, 18] [16, 18] [⟨17, [], fun g => .pointer (some ⟨g, 0, none⟩), fun g => box g 72 [.slice none 0 0, .slice none 0 0]⟩] mixed (by kernel_rfl) (by decide) (show List.Nodup [17] by decide) ⟨rfl, rfl, rfl, rfl, trivial⟩ rfl (okCons (FreeA.Ok.of rfl (by decide) (by kernel_rfl) fun c fs os => cD ty72) okNil) (w_p rfl (cB fa76_0 rfl rfl) ?_))
  refine w_o rfl (fun F => (bI ty74 rfl (aB.app F) rfl)) ?_
  refine w_o rfl (fun F => (bJ ty76 rfl (aB.app F) rfl)) (w_p rfl (aE rfl) (bdo H fun r17 h18 H => ?_))
  refine w_o rfl (fun F => (bN (c_spec_l21At v0 (x_v0.1, x_v0.2.1, x_v0.2.2.1, ()) (nth v0.2.1 v1.toNat) h18) rfl (aC (aL (aS aR.s)) (aC (aL aR.s.s.s) (aC (aL (aS aR)) aO))))) (gdo H fun h19 H => ?_)
  refine w_o rfl (fun F => (bW dX ty80 rfl rfl h19 rfl (aL (aT aR.s)))) ?_
  refine w_o rfl (fun F => (bY (j := 0) r17.toNat fa80_1 rfl (aL (aT aR.s)) h19.lt rfl)) ?_
  refine w_o (v := .agg #[.slice ((((X1 r17.toNat).2).1).1) ((((nth v0.1 r17.toNat).2).1).length) ((((X1 r17.toNat).2).1).2.1), .slice ((((X1 r17.toNat).2).2).1) ((((nth v0.1 r17.toNat).2).2).length) ((((X1 r17.toNat).2).2).2.1)]) rfl (fun F => (q_ldeP [.slice ((((X1 r17.toNat).2).1).1) ((((nth v0.1 r17.toNat).2).1).length) ((((X1 r17.toNat).2).1).2.1), .slice ((((X1 r17.toNat).2).2).1) ((((nth v0.1 r17.toNat).2).2).length) ((((X1 r17.toNat).2).2).2.1)] (l := v0.1) (E := fun i => Dp.denc (nth v0.1 i) (X1 i)) (oa := x_v0.1.1) (i := r17.toNat) (j := 1) ty72 rfl (aL (aT aR.s)) h19.lt rfl rfl)) (w_p rfl (cB fa76_0 rfl rfl) ?_)
  refine w_o rfl (fun F => (bI ty74 rfl (aB.app F) rfl)) ?_
  refine w_o rfl (fun F => (bJ ty76 rfl (aB.app F) rfl)) (w_p rfl (aE rfl) (bdo H fun r20 h21 H => ?_))
  refine w_o rfl (fun F => (bN (c_spec_l21At v0 (x_v0.1, x_v0.2.1, x_v0.2.2.1, ()) (nth v0.2.1 ((v1 + 1).toNat)) h21) rfl (aC (aL (aS aR.s)) (aC (aL aR.s.s.s) (aC (aL (aS aR)) aO))))) (gdo H fun h22 H => ?_)
  refine w_o rfl (fun F => (bW dX ty80 rfl rfl h22 rfl (aL (aT aR.s)))) ?_
  refine w_o rfl (fun F => (bY (j := 0) r20.toNat fa80_1 rfl (aL (aT aR.s)) h22.lt rfl)) ?_
  refine w_o (v := .agg #[.slice ((((X1 r20.toNat).2).1).1) ((((nth v0.1 r20.toNat).2).1).length) ((((X1 r20.toNat).2).1).2.1), .slice ((((X1 r20.toNat).2).2).1) ((((nth v0.1 r20.toNat).2).2).length) ((((X1 r20.toNat).2).2).2.1)]) rfl (fun F => (q_ldeP [.slice ((((X1 r20.toNat).2).1).1) ((((nth v0.1 r20.toNat).2).1).length) ((((X1 r20.toNat).2).1).2.1), .slice ((((X1 r20.toNat).2).2).1) ((((nth v0.1 r20.toNat).2).2).length) ((((X1 r20.toNat).2).2).2.1)] (l := v0.1) (E := fun i => Dp.denc (nth v0.1 i) (X1 i)) (oa := x_v0.1.1) (i := r20.toNat) (j := 1) ty72 rfl (aL (aT aR.s)) h22.lt rfl rfl)) (bdo H fun r23 h24 H => (cJ rfl (by decide) rfl (cP (.inr (.inr trivial)) cO) rfl (cE (c_spec_l12Merge ((nth v0.1 r17.toNat).2) (((((X1 r17.toNat).2).1).1, (((X1 r17.toNat).2).1).2.1), ((((X1 r17.toNat).2).2).1, (((X1 r17.toNat).2).2).2.1)) ((nth v0.1 r20.toNat).2) (((((X1 r20.toNat).2).1).1, (((X1 r20.toNat).2).1).2.1), ((((X1 r20.toNat).2).2).1, (((X1 r20.toNat).2).2).2.1)) h24) (fun _ => (bF (bF bG))) rfl (aC (aL (aS (aV (aU (aW aR.s h19.lt))))) (aC (aL (aS (aU (aU (aW aR.s h19.lt))))) (aC (aL (aS (aV (aU (aW aR.s h22.lt))))) (aC (aL (aS (aU (aU (aW aR.s h22.lt))))) aO))))) ?_))
  rintro _ _ _ ⟨x25, rfl, rfl, rfl⟩
  refine ⟨(aM (by kernel_rfl) (bV rfl rfl (fun F => (bY (j := 0) r20.toNat fa80_1 rfl (aL (aT aR.s)) h22.lt rfl)) (bV rfl rfl (fun F => (bW dX ty80 rfl rfl h22 rfl (aL (aT aR.s)))) (aM (by kernel_rfl) (bV rfl rfl (fun F => (bJ ty76 rfl (hs2.app F) rfl)) (bV rfl rfl (fun F => (bI ty74 rfl (hs2.app F) rfl)) (aM (by kernel_rfl) (bV rfl rfl (fun F => (bY (j := 0) r17.toNat fa80_1 rfl (aL (aT aR.s)) h19.lt rfl)) (bV rfl rfl (fun F => (bW dX ty80 rfl rfl h19 rfl (aL (aT aR.s)))) (bV rfl rfl (fun F => (bN (c_spec_l21At v0 (x_v0.1, x_v0.2.1, x_v0.2.2.1, ()) (nth v0.2.1 v1.toNat) h18) rfl (aC (aL (aS aR.s)) (aC (aL aR.s.s.s) (aC (aL (aS aR)) aO))))) (bV rfl rfl (fun F => (bJ ty76 rfl (hs2.app F) rfl)) (bV rfl rfl (fun F => (bI ty74 rfl (hs2.app F) rfl)) bU)))))))))))), ?_⟩
  refine w_fr (z := ⟨17, [], fun g => .pointer (some ⟨g, 0, none⟩), fun g => box g 72 [.slice none 0 0, .slice none 0 0]⟩) (.head _) rfl rfl (by decide) (cP (.inl rfl) cO) trivial ?_; intro g26
  refine cK rfl rfl (cP (.inl rfl) cO) rfl (n_store (cs' := [.slice x25.1.1 r23.1.length x25.1.2, .slice x25.2.1 r23.2.length x25.2.2]) ty72 rfl rfl cY rfl (one_of rfl) (Nat.le_of_ble_eq_true rfl) rfl) ?_
  rintro _ _ _ ⟨rfl, rfl, rfl⟩
  refine ⟨(aM (by kernel_rfl) (aM (by kernel_rfl) (aM (by kernel_rfl) (aM (by kernel_rfl) (aM (by kernel_rfl) (aM (by kernel_rfl) (aM (by kernel_rfl) (aM (by kernel_rfl) (aM (by kernel_rfl) (aM (by kernel_rfl) (aM (by kernel_rfl) (aM (by kernel_rfl) bU)))))))))))), ?_⟩
  refine cL (nT (aD (dG [(7, .pointer (some ⟨g26, 0, none⟩)), (6, .int .i64 (nth v0.2.1 ((v1 + 1).toNat))), (5, .int .i64 (nth v0.2.1 v1.toNat)), (2, .pointer (some ⟨g3, 0, none⟩)), (1, .int .i64 (v1))] 3 [1, 2, 3, 4, 6, 7, 10, 11, 12, 13, 14, 0, 5, 8, 9, 15, 16] [5, 9, 15] [⟨0, [], fun g => .slice (some ⟨g, 0, none⟩) ([] : List Int).length 0, fun g => tree (.slice (some ⟨g, 0, none⟩) ([] : List Int).length 0) ([] : List Int)⟩, ⟨8, [(63, .int .i64 (v0.2.2.2))], fun g => .slice (some ⟨g, 0, none⟩) 1 1, fun g => box g 3 [.int .i64 (v0.2.2.2)]⟩] mixed (by kernel_rfl) (by decide) (show List.Nodup [0, 8] by decide) ⟨rfl, rfl, rfl, rfl, rfl, trivial⟩ rfl (okCons (FreeA.Ok.of rfl (by decide) (by kernel_rfl) fun c fs os => g_lit0 Int dV ty3) (okCons (FreeA.Ok.of rfl (by decide) (by kernel_rfl) fun c fs os => e_lit (vs := [(0, .int .i64 (v0.2.2.2))]) [.int .i64 (v0.2.2.2)] dV ty3 rfl (by decide) (by decide) (by kernel_rfl)) okNil)) (w_p rfl (cB fa76_1 rfl rfl) ?_))))
  refine w_o rfl (fun F => (bI ty69 rfl (hs3.app F) rfl)) (w_p rfl (aE rfl) (gdo H fun h27 H => ?_))
  refine w_o (v := .slice (subA x_v0.2.1.1 x_v0.2.1.2 0 (Enc.sz Int)) (((v0.2.1.take v1.toNat).drop 0).length) (x_v0.2.1.2 - 0)) rfl (fun F => (q_slF (l := v0.2.1) (α := Int) 0 v1 dV ty3 rfl rfl (fun _ => rfl) rfl (fun h => nomatch h) h27 (aL aR.s.s.s))) (w_p rfl (cB fa76_3 rfl rfl) ?_)
  refine w_o rfl (fun F => (bI ty3 rfl (hs3.app F) rfl)) (w_p rfl (cB fa76_1 rfl rfl) ?_)
  refine w_o rfl (fun F => (bI ty69 rfl (hs3.app F) rfl)) (w_p rfl (aE rfl) (gdo H fun h28 H => (w_p rfl (bR rfl rfl h28) (gdo H fun h29 H => ?_))))
  refine w_o (v := .slice (subA x_v0.2.1.1 x_v0.2.1.2 (v1 + 2).toNat (Enc.sz Int)) (((v0.2.1.take (v0.2.1.length : Int).toNat).drop (v1 + 2).toNat).length) (x_v0.2.1.2 - (v1 + 2).toNat)) rfl (fun F => (q_slF (l := v0.2.1) (α := Int) (v1 + 2) (v0.2.1.length : Int) dV ty3 rfl rfl (fun h => nomatch h) rfl (fun _ => rfl) h29 (aL aR.s.s.s))) ?_
  refine w_fr (z := ⟨0, [], fun g => .slice (some ⟨g, 0, none⟩) ([] : List Int).length 0, fun g => tree (.slice (some ⟨g, 0, none⟩) ([] : List Int).length 0) ([] : List Int)⟩) (.head _) rfl rfl (by decide) (cP (.inl rfl) (cP (.inr (.inr ⟨rfl, trivial⟩)) cO)) trivial ?_; intro g30
  refine gdo H fun h33 H => (cJ rfl (by decide) rfl (cP (.inl rfl) (cP (.inr (.inr ⟨rfl, trivial⟩)) cO)) rfl (n_appF (l := ([] : List Int)) (k := ((v0.2.1.take v1.toNat).drop 0)) (α := Int) dV ty3 rfl rfl (h33.b (by decide)) h33.x (.cons aA .nil) (aL (Ent.sub aR.s.s.s h27.le h27.lt))) ?_)
  rintro _ _ _ ⟨a31, c32, rfl, rfl, rfl⟩
  refine ⟨(bV rfl rfl (fun F => (q_slF (l := v0.2.1) (α := Int) (v1 + 2) (v0.2.1.length : Int) dV ty3 rfl rfl (fun h => nomatch h) rfl (fun _ => rfl) h29 (aL aR.s.s.s))) (bV rfl rfl (fun F => (bI ty69 rfl (hs4.app F) rfl)) (bV rfl rfl (fun F => (bI ty3 rfl (hs4.app F) rfl)) (aM (by kernel_rfl) (aM (by kernel_rfl) bU))))), ?_⟩
  refine w_fr (z := ⟨8, [(63, .int .i64 (v0.2.2.2))], fun g => .slice (some ⟨g, 0, none⟩) 1 1, fun g => box g 3 [.int .i64 (v0.2.2.2)]⟩) (.tail _ (.head _)) rfl rfl (by decide) (cP (.inl rfl) (cP (.inl rfl) cO)) ⟨rfl, trivial⟩ ?_; intro g34
  refine gdo H fun h37 H => (cJ rfl (by decide) rfl (cP (.inl rfl) (cP (.inl rfl) cO)) rfl (n_app1 (l := (([] : List Int) ++ ((v0.2.1.take v1.toNat).drop 0))) (α := Int) v0.2.2.2 () dV ty3 rfl rfl (h37.b (by decide)) h37.x rfl (cX _) (.cons dl1 (.cons aA .nil))) ?_)
  rintro _ _ _ ⟨a35, c36, rfl, rfl, rfl⟩
  refine ⟨(bV rfl rfl (fun F => (q_slF (l := v0.2.1) (α := Int) (v1 + 2) (v0.2.1.length : Int) dV ty3 rfl rfl (fun h => nomatch h) rfl (fun _ => rfl) h29 (aL aR.s.s.s))) (bV rfl rfl (fun F => (bI ty69 rfl (hs4.app F) rfl)) (aM (by kernel_rfl) (aM (by kernel_rfl) (aM (by kernel_rfl) bU))))), ?_⟩
  refine gdo H fun h40 H => (cJ rfl (by decide) rfl (cP (.inl rfl) (cP (.inl rfl) cO)) rfl (n_appF (l := ((([] : List Int) ++ ((v0.2.1.take v1.toNat).drop 0)) ++ [v0.2.2.2])) (k := ((v0.2.1.take (v0.2.1.length : Int).toNat).drop (v1 + 2).toNat)) (α := Int) dV ty3 rfl rfl (h40.b (by decide)) h40.x (.cons aA .nil) (aL (Ent.sub aR.s.s.s h29.le h29.lt))) ?_)
  rintro _ _ _ ⟨a38, c39, rfl, rfl, rfl⟩
  refine ⟨(aM (by kernel_rfl) (aM (by kernel_rfl) (aM (by kernel_rfl) (aM (by kernel_rfl) (bV rfl rfl (fun F => (bI ty69 rfl (hs4.app F) rfl)) bU))))), ?_⟩
  refine w_p rfl (p_assign rfl) (cL (nT (aD (Tr.nilT Int (Tr.nilT (List Tag) (Tr.nilT Int (Tr.nilT (List Row) (Tr.nilT Int (Tr.nilT (List Row) (Tr.nilT Int ?_))))))))))
  refine Tr.nilT (List Tag) (Tr.nilT Int (Tr.nilT (List Row) (Tr.nilT Int (Tr.nilT (List Tag) (dG [(8, .slice a38 ((((([] : List Int) ++ ((v0.2.1.take v1.toNat).drop 0)) ++ [v0.2.2.2]) ++ ((v0.2.1.take (v0.2.1.length : Int).toNat).drop (v1 + 2).toNat)).length) c39), (7, .pointer (some ⟨g26, 0, none⟩)), (6, .int .i64 (nth v0.2.1 ((v1 + 1).toNat))), (5, .int .i64 (nth v0.2.1 v1.toNat)), (2, .pointer (some ⟨g3, 0, none⟩))] 2 [0, 1, 2, 3, 4, 5, 6, 9, 10, 11, 12, 7, 8, 13, 14] [7, 13] [] mixed (by kernel_rfl) (by decide) dI ⟨rfl, rfl, rfl, rfl, rfl, trivial⟩ rfl okNil (w_p rfl (cB fa76_3 rfl rfl) ?_))))))
  refine w_o rfl (fun F => (bI ty3 rfl ((hs5t (hs5t (hs5t hs1))).app F) rfl)) ?_
  refine w_o rfl (fun F => (bJ ty72 rfl ((hs5t (hs5t hs3)).app F) rfl)) (w_p (v := .agg #[.int .i64 (1), .int .i64 (v0.2.2.2), .slice x25.1.1 r23.1.length x25.1.2, .slice x25.2.1 r23.2.length x25.2.2, .slice none 0 0, .slice none 0 0]) rfl (p_buildS (vs := [(0, .int .i64 (1)), (1, .int .i64 (v0.2.2.2)), (2, .agg #[.slice x25.1.1 r23.1.length x25.1.2, .slice x25.2.1 r23.2.length x25.2.2])]) (cs := #[.int .i64 (1), .int .i64 (v0.2.2.2), .slice x25.1.1 r23.1.length x25.1.2, .slice x25.2.1 r23.2.length x25.2.2, .slice none 0 0, .slice none 0 0]) ty260 pl260 rfl (by kernel_rfl)) (w_p rfl (aE rfl) (w_p rfl (cB fa76_2 rfl rfl) ?_)))
  refine w_o rfl (fun F => (bI ty35 rfl ((hs5t (hs5t (hs5t hs1))).app F) rfl)) (w_p rfl (aE rfl) (w_p (v := .agg #[.int .i64 (3), .int .i64 (nth v0.2.1 v1.toNat), .slice none 0 0, .slice none 0 0, .slice none 0 0, .slice none 0 0]) rfl (p_buildS (vs := [(0, .int .i64 (3)), (1, .int .i64 (nth v0.2.1 v1.toNat))]) (cs := #[.int .i64 (3), .int .i64 (nth v0.2.1 v1.toNat), .slice none 0 0, .slice none 0 0, .slice none 0 0, .slice none 0 0]) ty260 pl260 rfl (by kernel_rfl)) (w_p rfl (aE rfl) (w_p (v := .agg #[.int .i64 (3), .int .i64 (nth v0.2.1 ((v1 + 1).toNat)), .slice none 0 0, .slice none 0 0, .slice none 0 0, .slice none 0 0]) rfl (p_buildS (vs := [(0, .int .i64 (3)), (1, .int .i64 (nth v0.2.1 ((v1 + 1).toNat)))]) (cs := #[.int .i64 (3), .int .i64 (nth v0.2.1 ((v1 + 1).toNat)), .slice none 0 0, .slice none 0 0, .slice none 0 0, .slice none 0 0]) ty260 pl260 rfl (by kernel_rfl)) (bdo H fun r41 h42 H => (cJ rfl (by decide) rfl cO rfl (cE (c_spec_l11Names v0.2.2.1 x_v0.2.2.1 h42) (fun _ => (bF bG)) rfl (aC (aL (aS aR)) aO)) ?_))))))
  rintro _ _ _ ⟨x43, rfl, rfl, rfl⟩
  refine ⟨(aM (by kernel_rfl) (bV rfl rfl (fun F => (bJ ty72 rfl ((hs5t (hs5t hs4)).app F) rfl)) (bV rfl rfl (fun F => (bI ty3 rfl ((hs5t (hs5t (hs5t hs2))).app F) rfl)) bU))), ?_⟩
  refine w_p (v := .agg #[.int .i64 (2), .int .i64 (0), .slice none 0 0, .slice none 0 0, .slice a38 ((((([] : List Int) ++ ((v0.2.1.take v1.toNat).drop 0)) ++ [v0.2.2.2]) ++ ((v0.2.1.take (v0.2.1.length : Int).toNat).drop (v1 + 2).toNat)).length) c39, .slice x43.1 r41.length x43.2]) rfl (p_buildS (vs := [(0, .int .i64 (2)), (3, .slice a38 ((((([] : List Int) ++ ((v0.2.1.take v1.toNat).drop 0)) ++ [v0.2.2.2]) ++ ((v0.2.1.take (v0.2.1.length : Int).toNat).drop (v1 + 2).toNat)).length) c39), (4, .slice x43.1 r41.length x43.2)]) (cs := #[.int .i64 (2), .int .i64 (0), .slice none 0 0, .slice none 0 0, .slice a38 ((((([] : List Int) ++ ((v0.2.1.take v1.toNat).drop 0)) ++ [v0.2.2.2]) ++ ((v0.2.1.take (v0.2.1.length : Int).toNat).drop (v1 + 2).toNat)).length) c39, .slice x43.1 r41.length x43.2]) ty260 pl260 rfl (by kernel_rfl)) (cJ rfl (by decide) rfl cO rfl (n_litO (α := Step) (vs := [(0, .agg #[.int .i64 (1), .int .i64 (v0.2.2.2), .slice x25.1.1 r23.1.length x25.1.2, .slice x25.2.1 r23.2.length x25.2.2, .slice none 0 0, .slice none 0 0]), (1, .agg #[.int .i64 (2), .int .i64 (0), .slice none 0 0, .slice none 0 0, .slice a38 ((((([] : List Int) ++ ((v0.2.1.take v1.toNat).drop 0)) ++ [v0.2.2.2]) ++ ((v0.2.1.take (v0.2.1.length : Int).toNat).drop (v1 + 2).toNat)).length) c39, .slice x43.1 r41.length x43.2]), (2, .agg #[.int .i64 (3), .int .i64 (nth v0.2.1 v1.toNat), .slice none 0 0, .slice none 0 0, .slice none 0 0, .slice none 0 0]), (3, .agg #[.int .i64 (3), .int .i64 (nth v0.2.1 ((v1 + 1).toNat)), .slice none 0 0, .slice none 0 0, .slice none 0 0, .slice none 0 0])]) ([(1, v0.2.2.2, r23, ([]), ([])), (2, 0, (([]), ([])), (((([] : List Int) ++ ((v0.2.1.take v1.toNat).drop 0)) ++ [v0.2.2.2]) ++ ((v0.2.1.take (v0.2.1.length : Int).toNat).drop (v1 + 2).toNat)), r41), (3, (nth v0.2.1 v1.toNat), (([]), ([])), ([]), ([])), (3, (nth v0.2.1 ((v1 + 1).toNat)), (([]), ([])), ([]), ([]))] : List Step) [((1, v0.2.2.2, r23, ([]), ([])), ((), (), x25, (none, 0), (none, 0))), ((2, 0, (([]), ([])), (((([] : List Int) ++ ((v0.2.1.take v1.toNat).drop 0)) ++ [v0.2.2.2]) ++ ((v0.2.1.take (v0.2.1.length : Int).toNat).drop (v1 + 2).toNat)), r41), ((), (), ((none, 0), (none, 0)), (a38, c39), x43)), ((3, (nth v0.2.1 v1.toNat), (([]), ([])), ([]), ([])), ((), (), ((none, 0), (none, 0)), (none, 0), (none, 0))), ((3, (nth v0.2.1 ((v1 + 1).toNat)), (([]), ([])), ([]), ([])), ((), (), ((none, 0), (none, 0)), (none, 0), (none, 0)))] rfl rfl dL ty260 rfl (by decide) (by decide) (by kernel_rfl) (.cons (dl5t (dl5t dl5)) (.cons (dl5t (dl5t dl5)) (.cons dl2 (.cons dl1 (.cons dl2 (.cons dl1 (.cons (dl5t dl4) (.cons aA (.cons dl1 (.cons dl1 (.cons dl1 (.cons aA (.cons dl1 (.cons aA (.cons dl1 (.cons aA .nil))))))))))))))))) ?_)
  rintro _ _ _ ⟨a44, c45, rfl, rfl, rfl⟩
  refine ⟨(bV rfl rfl (fun F => (bI ty35 rfl (hs2.app F) rfl)) (aM (by kernel_rfl) (aM (by kernel_rfl) bU))), ?_⟩
  refine w_p rfl (p_assign rfl) (cL (nT (Tr.freeze (.cons aA .nil) (bQ ?_))))
  obtain rfl := si H
  exact back1 (a44, c45) rfl (ResV.tmp (v := .slice a44 (([(1, v0.2.2.2, r23, ([]), ([])), (2, 0, (([]), ([])), (((([] : List Int) ++ ((v0.2.1.take v1.toNat).drop 0)) ++ [v0.2.2.2]) ++ ((v0.2.1.take (v0.2.1.length : Int).toNat).drop (v1 + 2).toNat)), r41), (3, (nth v0.2.1 v1.toNat), (([]), ([])), ([]), ([])), (3, (nth v0.2.1 ((v1 + 1).toNat)), (([]), ([])), ([]), ([]))] : List Step).length) c45) rfl) rfl (cM aR cN) bK
noncomputable def p_spec_l22Do (v0 : World) (v1 : Event) : Option (World) := cond (decide (v1.1 = 1)) (bd (p_spec_NameOk v1.2.2.2.1) fun r10 => cond (r10) (bd (p_spec_l13Add v0.1 v1.2.2.2.1 v1.2.2.2.2) fun r13 => some (r13.1, v0.2)) (some v0)) (cond (decide (v1.1 = 2)) (bd (p_spec_l13Flush v0.1) fun r18 => bd (p_spec_l21Flush v0.2 v0.1) fun r22 => bd (p_spec_l22Steps v0 r22 v1.2.2.1 r18.1) fun r25 => some r25) (cond (decide (v1.1 = 3)) (bd (p_spec_l13Merge v0.1 v1.2.1) fun r29 => bd (p_spec_l21Merge v0.2 v1.2.1) fun r33 => bd (p_spec_l22Steps v0 r33 v1.2.2.1 r29.1) fun r36 => some r36) (cond (decide (v1.1 = 4)) (bd (p_spec_l22Fall v0) fun r40 => some r40) (some v0))))
theorem c_spec_l22Do {r : World} (v0 : World) (x_v0 : (((Option Addr × Nat) × (Option Addr × Nat)) × (Option Addr × Nat) × (Option Addr × Nat)) × ((Option Addr × Nat) × (Option Addr × Nat) × (Option Addr × Nat) × Unit)) (v1 : Event) (x_v1 : Unit × Unit × Unit × (Option Addr × Nat) × (Unit × Unit)) (H : p_spec_l22Do v0 v1 = some r) : Fn' prog 170 #[.agg #[.slice x_v0.1.1.1.1 v0.1.1.1.length x_v0.1.1.1.2, .slice x_v0.1.1.2.1 v0.1.1.2.length x_v0.1.1.2.2, .slice x_v0.1.2.1.1 v0.1.2.1.length x_v0.1.2.1.2, .slice x_v0.1.2.2.1 v0.1.2.2.length x_v0.1.2.2.2, .slice x_v0.2.1.1 v0.2.1.length x_v0.2.1.2, .slice x_v0.2.2.1.1 v0.2.2.1.length x_v0.2.2.1.2, .slice x_v0.2.2.2.1.1 v0.2.2.2.1.length x_v0.2.2.2.1.2, .int .i64 (v0.2.2.2.2)], .agg #[.int .i64 (v1.1), .int .i64 (v1.2.1), .int .i64 (v1.2.2.1), .slice x_v1.2.2.2.1.1 v1.2.2.2.1.length x_v1.2.2.2.1.2, .int .i64 (v1.2.2.2.2.1), .int .i64 (v1.2.2.2.2.2)]] [imm (.slice x_v0.1.1.1.1 v0.1.1.1.length x_v0.1.1.1.2) v0.1.1.1, imm (.slice x_v0.1.1.2.1 v0.1.1.2.length x_v0.1.1.2.2) v0.1.1.2, imm (.slice x_v0.1.2.1.1 v0.1.2.1.length x_v0.1.2.1.2) v0.1.2.1, imm (.slice x_v0.1.2.2.1 v0.1.2.2.length x_v0.1.2.2.2) v0.1.2.2, imm (.slice x_v0.2.1.1 v0.2.1.length x_v0.2.1.2) v0.2.1, imm (.slice x_v0.2.2.1.1 v0.2.2.1.length x_v0.2.2.1.2) v0.2.2.1, imm (.slice x_v0.2.2.2.1.1 v0.2.2.2.1.length x_v0.2.2.2.1.2) v0.2.2.2.1, imm (.slice x_v1.2.2.2.1.1 v1.2.2.2.1.length x_v1.2.2.2.1.2) v1.2.2.2.1] [] (ι := (((Option Addr × Nat) × (Option Addr × Nat)) × (Option Addr × Nat) × (Option Addr × Nat)) × ((Option Addr × Nat) × (Option Addr × Nat) × (Option Addr × Nat) × Unit)) (fun x => .agg #[.slice x.1.1.1.1 r.1.1.1.length x.1.1.1.2, .slice x.1.1.2.1 r.1.1.2.length x.1.1.2.2, .slice x.1.2.1.1 r.1.2.1.length x.1.2.1.2, .slice x.1.2.2.1 r.1.2.2.length x.1.2.2.2, .slice x.2.1.1 r.2.1.length x.2.1.2, .slice x.2.2.1.1 r.2.2.1.length x.2.2.1.2, .slice x.2.2.2.1.1 r.2.2.2.1.length x.2.2.2.1.2, .int .i64 (r.2.2.2.2)]) (fun x => [imm (.slice x.1.1.1.1 r.1.1.1.length x.1.1.1.2) r.1.1.1, imm (.slice x.1.1.2.1 r.1.1.2.length x.1.1.2.2) r.1.1.2, imm (.slice x.1.2.1.1 r.1.2.1.length x.1.2.1.2) r.1.2.1, imm (.slice x.1.2.2.1 r.1.2.2.length x.1.2.2.2) r.1.2.2, imm (.slice x.2.1.1 r.2.1.length x.2.1.2) r.2.1, imm (.slice x.2.2.1.1 r.2.2.1.length x.2.2.1.2) r.2.2.1, imm (.slice x.2.2.2.1.1 r.2.2.2.1.length x.2.2.2.1.2) r.2.2.2.1]) (fun _ => []) := by
 refine cof (args := [_, _]) func170 ntmps170 fun c => ?_
 unfold p_spec_l22Do at H
 refine bM aR fun X1 => (bM aR.s.s fun X2 => (bM aR.s.s.s.s fun X3 => (bM aR.s.s.s.s.s.s.s fun X4 => (bM aR.s.s.s.s.s.s.s.s.s.s fun X5 => (sr (f1 (cC (t := 121) rfl) fun g6 => (f1 (cC (t := 218) rfl) fun g7 => (f1 (cD ty121) fun g8 => (nl ?_)))))))))
 refine aD (sr (aG (cB fa218_0 rfl rfl) (aI (bI ty3 rfl hs1 rfl) (nl (aQ (sr (aG (cT rfl rfl) (aH rfl (nl (cH H rfl (fun h9 H => ?_) (fun h9 H => ?_)))))))))))
 ·refine sr (aG (cB fa218_3 rfl rfl) (aI (bI ty105 rfl hs1 rfl) (bdo H fun r10 h11 H => (aI (bN (c_spec_NameOk v1.2.2.2.1 x_v1.2.2.2.1 h11) rfl (aC (aL aR.s.s.s.s.s.s.s.s.s.s.s.s) aO)) (nl (cH H rfl (fun h12 H => ?_) (fun h12 H => ?_)))))))
  ·refine sr (aG (cB fa121_0 rfl rfl) (aI (v := .agg #[.slice x_v0.1.1.1.1 v0.1.1.1.length x_v0.1.1.1.2, .slice x_v0.1.1.2.1 v0.1.1.2.length x_v0.1.1.2.2, .slice x_v0.1.2.1.1 v0.1.2.1.length x_v0.1.2.1.2, .slice x_v0.1.2.2.1 v0.1.2.2.length x_v0.1.2.2.2]) (q_ldbP [.slice x_v0.1.1.1.1 v0.1.1.1.length x_v0.1.1.1.2, .slice x_v0.1.1.2.1 v0.1.1.2.length x_v0.1.1.2.2, .slice x_v0.1.2.1.1 v0.1.2.1.length x_v0.1.2.1.2, .slice x_v0.1.2.2.1 v0.1.2.2.length x_v0.1.2.2.2] ty42 rfl hs2 rfl rfl) (aG (cB fa218_3 rfl rfl) (aI (bI ty105 rfl hs1 rfl) (aG (cB fa218_4 rfl rfl) (aI (v := .agg #[.int .i64 (v1.2.2.2.2.1), .int .i64 (v1.2.2.2.2.2)]) (q_ldbP [.int .i64 (v1.2.2.2.2.1), .int .i64 (v1.2.2.2.2.2)] ty57 rfl hs1 rfl rfl) (bdo H fun r13 h14 H => (f1 (e_call (c_spec_l13Add v0.1 x_v0.1 v1.2.2.2.1 x_v1.2.2.2.1 v1.2.2.2.2 h14) rfl (cM (aS aR.s.s.s.s) (cM (aS aR.s.s.s) (cM (aS aR.s.s) (cM aR.s.s.s.s.s.s.s.s (cM aR.s.s.s.s.s.s.s.s.s.s.s.s cN))))) bK) fun x15 => (aF rfl ?_)))))))))
   refine aG (cZ rfl rfl) (aG (cZ rfl rfl) (f1 (cD ty42) fun g16 => (stb (cs' := [.slice x15.1.1.1.1 r13.1.1.1.length x15.1.1.1.2, .slice x15.1.1.2.1 r13.1.1.2.length x15.1.1.2.2, .slice x15.1.2.1.1 r13.1.2.1.length x15.1.2.1.2, .slice x15.1.2.2.1 r13.1.2.2.length x15.1.2.2.2]) ty42 cY (aH rfl (nl (aP (aI (bJ ty42 rfl aB rfl) (aG (cB fa121_0 rfl rfl) (stb (cs' := [.slice x15.1.1.1.1 r13.1.1.1.length x15.1.1.1.2, .slice x15.1.1.2.1 r13.1.1.2.length x15.1.1.2.2, .slice x15.1.2.1.1 r13.1.2.1.length x15.1.2.1.2, .slice x15.1.2.2.1 r13.1.2.2.length x15.1.2.2.2, .slice x_v0.2.1.1 v0.2.1.length x_v0.2.1.2, .slice x_v0.2.2.1.1 v0.2.2.1.length x_v0.2.2.1.2, .slice x_v0.2.2.2.1.1 v0.2.2.2.1.length x_v0.2.2.2.1.2, .int .i64 (v0.2.2.2.2)]) ty42 up3 (aJ ?_))))))))))
   refine nB (nT (sr (aI (bJ ty121 rfl hs3 rfl) (stb (cs' := [.slice x15.1.1.1.1 r13.1.1.1.length x15.1.1.1.2, .slice x15.1.1.2.1 r13.1.1.2.length x15.1.1.2.2, .slice x15.1.2.1.1 r13.1.2.1.length x15.1.2.1.2, .slice x15.1.2.2.1 r13.1.2.2.length x15.1.2.2.2, .slice x_v0.2.1.1 v0.2.1.length x_v0.2.1.2, .slice x_v0.2.2.1.1 v0.2.2.1.length x_v0.2.2.1.2, .slice x_v0.2.2.2.1.1 v0.2.2.2.1.length x_v0.2.2.2.1.2, .int .i64 (v0.2.2.2.2)]) ty121 up1 (nl (bQ ?_))))))
   obtain rfl := si H
   exact back1 (x15.1, (x_v0.2.1, x_v0.2.2.1, x_v0.2.2.2.1, ())) rfl (ResV.agg ty121 rfl hs1 rfl) rfl (cM aR (cM aR.s (cM aR.s.s (cM aR.s.s.s (cM (aS aR.s.s.s.s.s) (cM aR.s.s.s.s.s.s.s.s.s.s.s.s.s.s (cM (aS aR.s.s.s.s) cN))))))) bK
  ·refine bH (nB (nT (sr (aI (bJ ty121 rfl hs2 rfl) (stb (cs' := [.slice x_v0.1.1.1.1 v0.1.1.1.length x_v0.1.1.1.2, .slice x_v0.1.1.2.1 v0.1.1.2.length x_v0.1.1.2.2, .slice x_v0.1.2.1.1 v0.1.2.1.length x_v0.1.2.1.2, .slice x_v0.1.2.2.1 v0.1.2.2.length x_v0.1.2.2.2, .slice x_v0.2.1.1 v0.2.1.length x_v0.2.1.2, .slice x_v0.2.2.1.1 v0.2.2.1.length x_v0.2.2.1.2, .slice x_v0.2.2.2.1.1 v0.2.2.2.1.length x_v0.2.2.2.1.2, .int .i64 (v0.2.2.2.2)]) ty121 cY (nl (bQ ?_)))))))
   obtain rfl := si H
   exact back1 (x_v0.1, (x_v0.2.1, x_v0.2.2.1, x_v0.2.2.2.1, ())) rfl (ResV.agg ty121 rfl aB rfl) rfl (cM (aS aR.s.s.s.s) (cM (aS aR.s.s.s) (cM (aS aR.s.s) (cM aR.s.s.s.s.s.s.s.s (cM (aS aR.s) (cM aR.s.s.s.s.s.s.s.s.s.s (cM (aS aR) cN))))))) bK
 ·refine sr (aG (cT rfl rfl) (aH rfl (nl (cH H rfl (fun h17 H => ?_) (fun h17 H => ?_)))))
  ·refine sr (aG (cB fa121_0 rfl rfl) (aI (v := .agg #[.slice x_v0.1.1.1.1 v0.1.1.1.length x_v0.1.1.1.2, .slice x_v0.1.1.2.1 v0.1.1.2.length x_v0.1.1.2.2, .slice x_v0.1.2.1.1 v0.1.2.1.length x_v0.1.2.1.2, .slice x_v0.1.2.2.1 v0.1.2.2.length x_v0.1.2.2.2]) (q_ldbP [.slice x_v0.1.1.1.1 v0.1.1.1.length x_v0.1.1.1.2, .slice x_v0.1.1.2.1 v0.1.1.2.length x_v0.1.1.2.2, .slice x_v0.1.2.1.1 v0.1.2.1.length x_v0.1.2.1.2, .slice x_v0.1.2.2.1 v0.1.2.2.length x_v0.1.2.2.2] ty42 rfl hs2 rfl rfl) (bdo H fun r18 h19 H => (f1 (e_call (c_spec_l13Flush v0.1 x_v0.1 h19) rfl (cM (aS aR.s.s.s.s) (cM (aS aR.s.s.s) (cM (aS aR.s.s) (cM aR.s.s.s.s.s.s.s.s cN)))) bK) fun x20 => (aF rfl (aG (cZ rfl rfl) (aG (cZ rfl rfl) (f1 (cD ty42) fun g21 => (stb (cs' := [.slice x20.1.1.1.1 r18.1.1.1.length x20.1.1.1.2, .slice x20.1.1.2.1 r18.1.1.2.length x20.1.1.2.2, .slice x20.1.2.1.1 r18.1.2.1.length x20.1.2.1.2, .slice x20.1.2.2.1 r18.1.2.2.length x20.1.2.2.2]) ty42 cY ?_)))))))))
   refine aH rfl (nl (aD (dG [(7, .pointer (some ⟨g21, 0, none⟩)), (4, .pointer (some ⟨g8, 0, none⟩)), (3, .pointer (some ⟨g7, 0, none⟩)), (2, .pointer (some ⟨g6, 0, none⟩))] 1 [0, 1, 2, 3, 4, 6, 7, 8, 5, 9, 10] [5, 9, 10] [] mixed (by kernel_rfl) (by decide) dI ⟨rfl, rfl, rfl, rfl, trivial⟩ rfl okNil ?_)))
   refine w_o rfl (fun F => (bJ ty121 rfl (hs3.app F) rfl)) (w_p rfl (cB fa121_1 rfl rfl) ?_)
   refine w_o (v := .agg #[.slice x_v0.2.1.1 v0.2.1.length x_v0.2.1.2, .slice x_v0.2.2.1.1 v0.2.2.1.length x_v0.2.2.1.2, .slice x_v0.2.2.2.1.1 v0.2.2.2.1.length x_v0.2.2.2.1.2, .int .i64 (v0.2.2.2.2)]) rfl (fun F => (q_ldbP [.slice x_v0.2.1.1 v0.2.1.length x_v0.2.1.2, .slice x_v0.2.2.1.1 v0.2.2.1.length x_v0.2.2.1.2, .slice x_v0.2.2.2.1.1 v0.2.2.2.1.length x_v0.2.2.2.1.2, .int .i64 (v0.2.2.2.2)] ty76 rfl (hs3.app F) rfl rfl)) (w_p rfl (cB fa121_0 rfl rfl) ?_)
   refine w_o (v := .agg #[.slice x_v0.1.1.1.1 v0.1.1.1.length x_v0.1.1.1.2, .slice x_v0.1.1.2.1 v0.1.1.2.length x_v0.1.1.2.2, .slice x_v0.1.2.1.1 v0.1.2.1.length x_v0.1.2.1.2, .slice x_v0.1.2.2.1 v0.1.2.2.length x_v0.1.2.2.2]) rfl (fun F => (q_ldbP [.slice x_v0.1.1.1.1 v0.1.1.1.length x_v0.1.1.1.2, .slice x_v0.1.1.2.1 v0.1.1.2.length x_v0.1.1.2.2, .slice x_v0.1.2.1.1 v0.1.2.1.length x_v0.1.2.1.2, .slice x_v0.1.2.2.1 v0.1.2.2.length x_v0.1.2.2.2] ty42 rfl (hs3.app F) rfl rfl)) (w_p rfl (cB fa218_2 rfl rfl) ?_)
   refine w_o rfl (fun F => (bI ty3 rfl (hs2.app F) rfl)) ?_
   refine w_o rfl (fun F => (bJ ty42 rfl (aB.app F) rfl)) (bdo H fun r22 h23 H => (cJ rfl (by decide) rfl cO rfl (n_call (c_spec_l21Flush v0.2 (x_v0.2.1, x_v0.2.2.1, x_v0.2.2.2.1, ()) v0.1 x_v0.1 h23) rfl (cM (aS aR.s.s.s.s.s) (cM aR.s.s.s.s.s.s.s.s.s.s.s.s.s.s (cM (aS aR.s.s.s.s) (cM (aS aR.s.s.s.s.s.s.s.s) (cM (aS aR.s.s.s.s.s.s.s) (cM (aS aR.s.s.s.s.s.s) (cM aR.s.s.s.s.s.s.s.s.s.s.s.s cN))))))) bK) ?_))
   rintro _ _ _ ⟨x24, rfl, rfl, rfl⟩
   refine ⟨(bV rfl rfl (fun F => (bJ ty42 rfl (aB.app F) rfl)) (bV rfl rfl (fun F => (bI ty3 rfl (hs2.app F) rfl)) (aM (by kernel_rfl) (aM (by kernel_rfl) (bV rfl rfl (fun F => (bJ ty121 rfl (hs3.app F) rfl)) bU))))), ?_⟩
   refine bdo H fun r25 h26 H => (cJ rfl (by decide) rfl cO rfl (n_call (c_spec_l22Steps v0 (x_v0.1, (x_v0.2.1, x_v0.2.2.1, x_v0.2.2.2.1, ())) r22 x24 v1.2.2.1 r18.1 x20.1 h26) rfl (cM (aS aR.s.s.s.s.s.s.s.s.s) (cM (aS aR.s.s.s.s.s.s.s.s) (cM (aS aR.s.s.s.s.s.s.s) (cM aR.s.s.s.s.s.s.s.s.s.s.s.s.s (cM (aS aR.s.s.s.s.s.s) (cM aR.s.s.s.s.s.s.s.s.s.s.s.s.s.s.s (cM (aS aR.s.s.s.s.s) (cM aR (cM aR.s (cM aR.s.s (cM aR.s.s.s (cM aR.s.s.s.s cN)))))))))))) bK) ?_)
   rintro _ _ _ ⟨x27, rfl, rfl, rfl⟩
   refine ⟨(aM (by kernel_rfl) (aM (by kernel_rfl) (bV rfl rfl (fun F => (q_ldbP [.slice x_v0.1.1.1.1 v0.1.1.1.length x_v0.1.1.1.2, .slice x_v0.1.1.2.1 v0.1.1.2.length x_v0.1.1.2.2, .slice x_v0.1.2.1.1 v0.1.2.1.length x_v0.1.2.1.2, .slice x_v0.1.2.2.1 v0.1.2.2.length x_v0.1.2.2.2] ty42 rfl (hs3.app F) rfl rfl)) (bV rfl rfl (fun F => (q_ldbP [.slice x_v0.2.1.1 v0.2.1.length x_v0.2.1.2, .slice x_v0.2.2.1.1 v0.2.2.1.length x_v0.2.2.1.2, .slice x_v0.2.2.2.1.1 v0.2.2.2.1.length x_v0.2.2.2.1.2, .int .i64 (v0.2.2.2.2)] ty76 rfl (hs3.app F) rfl rfl)) (aM (by kernel_rfl) bU))))), ?_⟩
   refine cK rfl rfl cO rfl (n_store (cs' := [.slice x27.1.1.1.1 r25.1.1.1.length x27.1.1.1.2, .slice x27.1.1.2.1 r25.1.1.2.length x27.1.1.2.2, .slice x27.1.2.1.1 r25.1.2.1.length x27.1.2.1.2, .slice x27.1.2.2.1 r25.1.2.2.length x27.1.2.2.2, .slice x27.2.1.1 r25.2.1.length x27.2.1.2, .slice x27.2.2.1.1 r25.2.2.1.length x27.2.2.1.2, .slice x27.2.2.2.1.1 r25.2.2.2.1.length x27.2.2.2.1.2, .int .i64 (r25.2.2.2.2)]) ty121 rfl rfl up1 rfl (one_of rfl) (Nat.le_of_ble_eq_true rfl) rfl) ?_
   rintro _ _ _ ⟨rfl, rfl, rfl⟩
   refine ⟨(aM (by kernel_rfl) (aM (by kernel_rfl) (aM (by kernel_rfl) (aM (by kernel_rfl) (aM (by kernel_rfl) bU))))), ?_⟩
   refine cL (nT (bQ (rB (rT (?_)))))
   obtain rfl := si H
   exact back1 (x27.1, (x27.2.1, x27.2.2.1, x27.2.2.2.1, ())) rfl (ResV.agg ty121 rfl hs1 rfl) rfl (cM aR (cM aR.s (cM aR.s.s (cM aR.s.s.s (cM aR.s.s.s.s (cM aR.s.s.s.s.s (cM aR.s.s.s.s.s.s cN))))))) bK
  ·refine sr (aG (cT rfl rfl) (aH rfl (nl (cH H rfl (fun h28 H => ?_) (fun h28 H => ?_)))))
   ·refine sr (aG (cB fa121_0 rfl rfl) (aI (v := .agg #[.slice x_v0.1.1.1.1 v0.1.1.1.length x_v0.1.1.1.2, .slice x_v0.1.1.2.1 v0.1.1.2.length x_v0.1.1.2.2, .slice x_v0.1.2.1.1 v0.1.2.1.length x_v0.1.2.1.2, .slice x_v0.1.2.2.1 v0.1.2.2.length x_v0.1.2.2.2]) (q_ldbP [.slice x_v0.1.1.1.1 v0.1.1.1.length x_v0.1.1.1.2, .slice x_v0.1.1.2.1 v0.1.1.2.length x_v0.1.1.2.2, .slice x_v0.1.2.1.1 v0.1.2.1.length x_v0.1.2.1.2, .slice x_v0.1.2.2.1 v0.1.2.2.length x_v0.1.2.2.2] ty42 rfl hs2 rfl rfl) (aG (cB fa218_1 rfl rfl) (aI (bI ty3 rfl hs1 rfl) (bdo H fun r29 h30 H => (f1 (e_call (c_spec_l13Merge v0.1 x_v0.1 v1.2.1 h30) rfl (cM (aS aR.s.s.s.s) (cM (aS aR.s.s.s) (cM (aS aR.s.s) (cM aR.s.s.s.s.s.s.s.s cN)))) bK) fun x31 => (aF rfl (aG (cZ rfl rfl) (aG (cZ rfl rfl) ?_)))))))))
    refine f1 (cD ty42) fun g32 => (stb (cs' := [.slice x31.1.1.1.1 r29.1.1.1.length x31.1.1.1.2, .slice x31.1.1.2.1 r29.1.1.2.length x31.1.1.2.2, .slice x31.1.2.1.1 r29.1.2.1.length x31.1.2.1.2, .slice x31.1.2.2.1 r29.1.2.2.length x31.1.2.2.2]) ty42 cY (aH rfl (nl (aD (dG [(9, .pointer (some ⟨g32, 0, none⟩)), (4, .pointer (some ⟨g8, 0, none⟩)), (3, .pointer (some ⟨g7, 0, none⟩)), (2, .pointer (some ⟨g6, 0, none⟩))] 1 [0, 1, 2, 3, 4, 6, 7, 8, 5, 9, 10] [5, 9, 10] [] mixed (by kernel_rfl) (by decide) dI ⟨rfl, rfl, rfl, rfl, trivial⟩ rfl okNil ?_)))))
    refine w_o rfl (fun F => (bJ ty121 rfl (hs3.app F) rfl)) (w_p rfl (cB fa121_1 rfl rfl) ?_)
    refine w_o (v := .agg #[.slice x_v0.2.1.1 v0.2.1.length x_v0.2.1.2, .slice x_v0.2.2.1.1 v0.2.2.1.length x_v0.2.2.1.2, .slice x_v0.2.2.2.1.1 v0.2.2.2.1.length x_v0.2.2.2.1.2, .int .i64 (v0.2.2.2.2)]) rfl (fun F => (q_ldbP [.slice x_v0.2.1.1 v0.2.1.length x_v0.2.1.2, .slice x_v0.2.2.1.1 v0.2.2.1.length x_v0.2.2.1.2, .slice x_v0.2.2.2.1.1 v0.2.2.2.1.length x_v0.2.2.2.1.2, .int .i64 (v0.2.2.2.2)] ty76 rfl (hs3.app F) rfl rfl)) (w_p rfl (cB fa218_1 rfl rfl) ?_)
    refine w_o rfl (fun F => (bI ty3 rfl (hs2.app F) rfl)) (w_p rfl (cB fa218_2 rfl rfl) ?_)
    refine w_o rfl (fun F => (bI ty3 rfl (hs2.app F) rfl)) ?_
    refine w_o rfl (fun F => (bJ ty42 rfl (aB.app F) rfl)) (bdo H fun r33 h34 H => (cJ rfl (by decide) rfl cO rfl (n_call (c_spec_l21Merge v0.2 (x_v0.2.1, x_v0.2.2.1, x_v0.2.2.2.1, ()) v1.2.1 h34) rfl (cM (aS aR.s.s.s.s.s) (cM aR.s.s.s.s.s.s.s.s.s.s.s.s.s.s (cM (aS aR.s.s.s.s) cN))) bK) ?_))
    rintro _ _ _ ⟨x35, rfl, rfl, rfl⟩
    refine ⟨(bV rfl rfl (fun F => (bJ ty42 rfl (aB.app F) rfl)) (bV rfl rfl (fun F => (bI ty3 rfl (hs2.app F) rfl)) (aM (by kernel_rfl) (aM (by kernel_rfl) (bV rfl rfl (fun F => (bJ ty121 rfl (hs3.app F) rfl)) bU))))), ?_⟩
    refine bdo H fun r36 h37 H => (cJ rfl (by decide) rfl cO rfl (n_call (c_spec_l22Steps v0 (x_v0.1, (x_v0.2.1, x_v0.2.2.1, x_v0.2.2.2.1, ())) r33 x35 v1.2.2.1 r29.1 x31.1 h37) rfl (cM (aS aR.s.s.s.s.s.s.s.s.s) (cM (aS aR.s.s.s.s.s.s.s.s) (cM (aS aR.s.s.s.s.s.s.s) (cM aR.s.s.s.s.s.s.s.s.s.s.s.s.s (cM (aS aR.s.s.s.s.s.s) (cM aR.s.s.s.s.s.s.s.s.s.s.s.s.s.s.s (cM (aS aR.s.s.s.s.s) (cM aR (cM aR.s (cM aR.s.s (cM aR.s.s.s (cM aR.s.s.s.s cN)))))))))))) bK) ?_)
    rintro _ _ _ ⟨x38, rfl, rfl, rfl⟩
    refine ⟨(aM (by kernel_rfl) (aM (by kernel_rfl) (bV rfl rfl (fun F => (bI ty3 rfl (hs2.app F) rfl)) (bV rfl rfl (fun F => (q_ldbP [.slice x_v0.2.1.1 v0.2.1.length x_v0.2.1.2, .slice x_v0.2.2.1.1 v0.2.2.1.length x_v0.2.2.1.2, .slice x_v0.2.2.2.1.1 v0.2.2.2.1.length x_v0.2.2.2.1.2, .int .i64 (v0.2.2.2.2)] ty76 rfl (hs3.app F) rfl rfl)) (aM (by kernel_rfl) bU))))), ?_⟩
    refine cK rfl rfl cO rfl (n_store (cs' := [.slice x38.1.1.1.1 r36.1.1.1.length x38.1.1.1.2, .slice x38.1.1.2.1 r36.1.1.2.length x38.1.1.2.2, .slice x38.1.2.1.1 r36.1.2.1.length x38.1.2.1.2, .slice x38.1.2.2.1 r36.1.2.2.length x38.1.2.2.2, .slice x38.2.1.1 r36.2.1.length x38.2.1.2, .slice x38.2.2.1.1 r36.2.2.1.length x38.2.2.1.2, .slice x38.2.2.2.1.1 r36.2.2.2.1.length x38.2.2.2.1.2, .int .i64 (r36.2.2.2.2)]) ty121 rfl rfl up1 rfl (one_of rfl) (Nat.le_of_ble_eq_true rfl) rfl) ?_
    rintro _ _ _ ⟨rfl, rfl, rfl⟩
    refine ⟨(aM (by kernel_rfl) (aM (by kernel_rfl) (aM (by kernel_rfl) (aM (by kernel_rfl) (aM (by kernel_rfl) bU))))), ?_⟩
    refine cL (nT (bQ (rB (rT (?_)))))
    obtain rfl := si H
    exact back1 (x38.1, (x38.2.1, x38.2.2.1, x38.2.2.2.1, ())) rfl (ResV.agg ty121 rfl hs1 rfl) rfl (cM aR (cM aR.s (cM aR.s.s (cM aR.s.s.s (cM aR.s.s.s.s (cM aR.s.s.s.s.s (cM aR.s.s.s.s.s.s cN))))))) bK
   ·refine sr (aG (cT rfl rfl) (aH rfl (nl (cH H rfl (fun h39 H => ?_) (fun h39 H => ?_)))))
    ·refine sr (aI (bJ ty121 rfl hs2 rfl) (bdo H fun r40 h41 H => (f1 (e_call (c_spec_l22Fall v0 (x_v0.1, (x_v0.2.1, x_v0.2.2.1, x_v0.2.2.2.1, ())) h41) rfl (cM (aS aR.s.s.s.s) (cM (aS aR.s.s.s) (cM (aS aR.s.s) (cM aR.s.s.s.s.s.s.s.s (cM (aS aR.s) (cM aR.s.s.s.s.s.s.s.s.s.s (cM (aS aR) cN))))))) bK) fun x42 => (stb (cs' := [.slice x42.1.1.1.1 r40.1.1.1.length x42.1.1.1.2, .slice x42.1.1.2.1 r40.1.1.2.length x42.1.1.2.2, .slice x42.1.2.1.1 r40.1.2.1.length x42.1.2.1.2, .slice x42.1.2.2.1 r40.1.2.2.length x42.1.2.2.2, .slice x42.2.1.1 r40.2.1.length x42.2.1.2, .slice x42.2.2.1.1 r40.2.2.1.length x42.2.2.1.2, .slice x42.2.2.2.1.1 r40.2.2.2.1.length x42.2.2.2.1.2, .int .i64 (r40.2.2.2.2)]) ty121 cY (nl (bQ (rB (rT (?_)))))))))
     obtain rfl := si H
     exact back1 (x42.1, (x42.2.1, x42.2.2.1, x42.2.2.2.1, ())) rfl (ResV.agg ty121 rfl aB rfl) rfl (cM aR (cM aR.s (cM aR.s.s (cM aR.s.s.s (cM aR.s.s.s.s (cM aR.s.s.s.s.s (cM aR.s.s.s.s.s.s cN))))))) bK
    ·refine bH (nB (nT (sr (aI (bJ ty121 rfl hs2 rfl) (stb (cs' := [.slice x_v0.1.1.1.1 v0.1.1.1.length x_v0.1.1.1.2, .slice x_v0.1.1.2.1 v0.1.1.2.length x_v0.1.1.2.2, .slice x_v0.1.2.1.1 v0.1.2.1.length x_v0.1.2.1.2, .slice x_v0.1.2.2.1 v0.1.2.2.length x_v0.1.2.2.2, .slice x_v0.2.1.1 v0.2.1.length x_v0.2.1.2, .slice x_v0.2.2.1.1 v0.2.2.1.length x_v0.2.2.1.2, .slice x_v0.2.2.2.1.1 v0.2.2.2.1.length x_v0.2.2.2.1.2, .int .i64 (v0.2.2.2.2)]) ty121 cY (nl (bQ ?_)))))))
     obtain rfl := si H
     exact back1 (x_v0.1, (x_v0.2.1, x_v0.2.2.1, x_v0.2.2.2.1, ())) rfl (ResV.agg ty121 rfl aB rfl) rfl (cM (aS aR.s.s.s.s) (cM (aS aR.s.s.s) (cM (aS aR.s.s) (cM aR.s.s.s.s.s.s.s.s (cM (aS aR.s) (cM aR.s.s.s.s.s.s.s.s.s.s (cM (aS aR) cN))))))) bK
noncomputable def p_spec_l22Copy (v0 : World) : Option (World) := bd (p_spec_l13Copy v0.1) fun r8 => bd (p_spec_l21Copy v0.2) fun r11 => some (r8, r11)
theorem c_spec_l22Copy {r : World} (v0 : World) (x_v0 : (((Option Addr × Nat) × (Option Addr × Nat)) × (Option Addr × Nat) × (Option Addr × Nat)) × ((Option Addr × Nat) × (Option Addr × Nat) × (Option Addr × Nat) × Unit)) (H : p_spec_l22Copy v0 = some r) : Fn' prog 171 #[.agg #[.slice x_v0.1.1.1.1 v0.1.1.1.length x_v0.1.1.1.2, .slice x_v0.1.1.2.1 v0.1.1.2.length x_v0.1.1.2.2, .slice x_v0.1.2.1.1 v0.1.2.1.length x_v0.1.2.1.2, .slice x_v0.1.2.2.1 v0.1.2.2.length x_v0.1.2.2.2, .slice x_v0.2.1.1 v0.2.1.length x_v0.2.1.2, .slice x_v0.2.2.1.1 v0.2.2.1.length x_v0.2.2.1.2, .slice x_v0.2.2.2.1.1 v0.2.2.2.1.length x_v0.2.2.2.1.2, .int .i64 (v0.2.2.2.2)]] [imm (.slice x_v0.1.1.1.1 v0.1.1.1.length x_v0.1.1.1.2) v0.1.1.1, imm (.slice x_v0.1.1.2.1 v0.1.1.2.length x_v0.1.1.2.2) v0.1.1.2, imm (.slice x_v0.1.2.1.1 v0.1.2.1.length x_v0.1.2.1.2) v0.1.2.1, imm (.slice x_v0.1.2.2.1 v0.1.2.2.length x_v0.1.2.2.2) v0.1.2.2, imm (.slice x_v0.2.1.1 v0.2.1.length x_v0.2.1.2) v0.2.1, imm (.slice x_v0.2.2.1.1 v0.2.2.1.length x_v0.2.2.1.2) v0.2.2.1, imm (.slice x_v0.2.2.2.1.1 v0.2.2.2.1.length x_v0.2.2.2.1.2) v0.2.2.2.1] [] (ι := (((Option Addr × Nat) × (Option Addr × Nat)) × (Option Addr × Nat) × (Option Addr × Nat)) × ((Option Addr × Nat) × (Option Addr × Nat) × (Option Addr × Nat) × Unit)) (fun x => .agg #[.slice x.1.1.1.1 r.1.1.1.length x.1.1.1.2, .slice x.1.1.2.1 r.1.1.2.length x.1.1.2.2, .slice x.1.2.1.1 r.1.2.1.length x.1.2.1.2, .slice x.1.2.2.1 r.1.2.2.length x.1.2.2.2, .slice x.2.1.1 r.2.1.length x.2.1.2, .slice x.2.2.1.1 r.2.2.1.length x.2.2.1.2, .slice x.2.2.2.1.1 r.2.2.2.1.length x.2.2.2.1.2, .int .i64 (r.2.2.2.2)]) (fun _ => []) (fun x => [tree (.slice x.1.1.1.1 r.1.1.1.length x.1.1.1.2) r.1.1.1, tree (.slice x.1.1.2.1 r.1.1.2.length x.1.1.2.2) r.1.1.2, tree (.slice x.1.2.1.1 r.1.2.1.length x.1.2.1.2) r.1.2.1, tree (.slice x.1.2.2.1 r.1.2.2.length x.1.2.2.2) r.1.2.2, tree (.slice x.2.1.1 r.2.1.length x.2.1.2) r.2.1, tree (.slice x.2.2.1.1 r.2.2.1.length x.2.2.1.2) r.2.2.1, tree (.slice x.2.2.2.1.1 r.2.2.2.1.length x.2.2.2.1.2) r.2.2.2.1]) := by
 refine cof (args := [_]) func171 ntmps171 fun c => ?_
 unfold p_spec_l22Copy at H
 refine bM aR fun X1 => (bM aR.s.s fun X2 => (bM aR.s.s.s.s fun X3 => (bM aR.s.s.s.s.s.s.s fun X4 => (bM aR.s.s.s.s.s.s.s.s.s.s fun X5 => (sr (f1 (cC (t := 121) rfl) fun g6 => (f1 (cD ty121) fun g7 => (nl (aD ?_)))))))))
 refine dG [(2, .pointer (some ⟨g7, 0, none⟩)), (1, .pointer (some ⟨g6, 0, none⟩))] 1 [0, 1, 3, 4, 2, 5, 6, 7] [2, 5, 7] [] mixed (by kernel_rfl) (by decide) dI ⟨rfl, rfl, trivial⟩ rfl okNil (w_p rfl (cB fa121_0 rfl rfl) ?_)
 refine w_o (v := .agg #[.slice x_v0.1.1.1.1 v0.1.1.1.length x_v0.1.1.1.2, .slice x_v0.1.1.2.1 v0.1.1.2.length x_v0.1.1.2.2, .slice x_v0.1.2.1.1 v0.1.2.1.length x_v0.1.2.1.2, .slice x_v0.1.2.2.1 v0.1.2.2.length x_v0.1.2.2.2]) rfl (fun F => (q_ldbP [.slice x_v0.1.1.1.1 v0.1.1.1.length x_v0.1.1.1.2, .slice x_v0.1.1.2.1 v0.1.1.2.length x_v0.1.1.2.2, .slice x_v0.1.2.1.1 v0.1.2.1.length x_v0.1.2.1.2, .slice x_v0.1.2.2.1 v0.1.2.2.length x_v0.1.2.2.2] ty42 rfl (hs1.app F) rfl rfl)) (w_p rfl (cB fa121_1 rfl rfl) ?_)
 refine w_o (v := .agg #[.slice x_v0.2.1.1 v0.2.1.length x_v0.2.1.2, .slice x_v0.2.2.1.1 v0.2.2.1.length x_v0.2.2.1.2, .slice x_v0.2.2.2.1.1 v0.2.2.2.1.length x_v0.2.2.2.1.2, .int .i64 (v0.2.2.2.2)]) rfl (fun F => (q_ldbP [.slice x_v0.2.1.1 v0.2.1.length x_v0.2.1.2, .slice x_v0.2.2.1.1 v0.2.2.1.length x_v0.2.2.1.2, .slice x_v0.2.2.2.1.1 v0.2.2.2.1.length x_v0.2.2.2.1.2, .int .i64 (v0.2.2.2.2)] ty76 rfl (hs1.app F) rfl rfl)) (bdo H fun r8 h9 H => (cJ rfl (by decide) rfl cO rfl (cE (c_spec_l13Copy v0.1 x_v0.1 h9) (fun _ => (bF (bF (bF (bF bG))))) rfl (aC (aL (aS aR.s.s.s.s)) (aC (aL (aS aR.s.s.s)) (aC (aL (aS aR.s.s)) (aC (aL aR.s.s.s.s.s.s.s.s) aO))))) ?_))
 rintro _ _ _ ⟨x10, rfl, rfl, rfl⟩
 refine ⟨(bV rfl rfl (fun F => (q_ldbP [.slice x_v0.2.1.1 v0.2.1.length x_v0.2.1.2, .slice x_v0.2.2.1.1 v0.2.2.1.length x_v0.2.2.1.2, .slice x_v0.2.2.2.1.1 v0.2.2.2.1.length x_v0.2.2.2.1.2, .int .i64 (v0.2.2.2.2)] ty76 rfl (hs5.app F) rfl rfl)) (aM (by kernel_rfl) bU)), ?_⟩
 refine bdo H fun r11 h12 H => (cJ rfl (by decide) rfl cO rfl (cE (c_spec_l21Copy v0.2 (x_v0.2.1, x_v0.2.2.1, x_v0.2.2.2.1, ()) h12) (fun _ => (bF (bF (bF bG)))) rfl (aC (aL (aS aR.s)) (aC (aL aR.s.s.s.s.s.s.s.s.s.s) (aC (aL (aS aR)) aO)))) ?_)
 rintro _ _ _ ⟨x13, rfl, rfl, rfl⟩
 refine ⟨(aM (by kernel_rfl) (bV rfl rfl (fun F => (q_ldbP [.slice x_v0.1.1.1.1 v0.1.1.1.length x_v0.1.1.1.2, .slice x_v0.1.1.2.1 v0.1.1.2.length x_v0.1.1.2.2, .slice x_v0.1.2.1.1 v0.1.2.1.length x_v0.1.2.1.2, .slice x_v0.1.2.2.1 v0.1.2.2.length x_v0.1.2.2.2] ty42 rfl ((hs5t hs3).app F) rfl rfl)) bU)), ?_⟩
 refine w_p (v := .agg #[.slice x10.1.1.1 r8.1.1.length x10.1.1.2, .slice x10.1.2.1 r8.1.2.length x10.1.2.2, .slice x10.2.1.1 r8.2.1.length x10.2.1.2, .slice x10.2.2.1 r8.2.2.length x10.2.2.2, .slice x13.1.1 r11.1.length x13.1.2, .slice x13.2.1.1 r11.2.1.length x13.2.1.2, .slice x13.2.2.1.1 r11.2.2.1.length x13.2.2.1.2, .int .i64 (r11.2.2.2)]) rfl (p_buildS (vs := [(0, .agg #[.slice x10.1.1.1 r8.1.1.length x10.1.1.2, .slice x10.1.2.1 r8.1.2.length x10.1.2.2, .slice x10.2.1.1 r8.2.1.length x10.2.1.2, .slice x10.2.2.1 r8.2.2.length x10.2.2.2]), (1, .agg #[.slice x13.1.1 r11.1.length x13.1.2, .slice x13.2.1.1 r11.2.1.length x13.2.1.2, .slice x13.2.2.1.1 r11.2.2.1.length x13.2.2.1.2, .int .i64 (r11.2.2.2)])]) (cs := #[.slice x10.1.1.1 r8.1.1.length x10.1.1.2, .slice x10.1.2.1 r8.1.2.length x10.1.2.2, .slice x10.2.1.1 r8.2.1.length x10.2.1.2, .slice x10.2.2.1 r8.2.2.length x10.2.2.2, .slice x13.1.1 r11.1.length x13.1.2, .slice x13.2.1.1 r11.2.1.length x13.2.1.2, .slice x13.2.2.1.1 r11.2.2.1.length x13.2.2.1.2, .int .i64 (r11.2.2.2)]) ty121 pl121 rfl (by kernel_rfl)) (cK rfl rfl cO rfl (n_store (cs' := [.slice x10.1.1.1 r8.1.1.length x10.1.1.2, .slice x10.1.2.1 r8.1.2.length x10.1.2.2, .slice x10.2.1.1 r8.2.1.length x10.2.1.2, .slice x10.2.2.1 r8.2.2.length x10.2.2.2, .slice x13.1.1 r11.1.length x13.1.2, .slice x13.2.1.1 r11.2.1.length x13.2.1.2, .slice x13.2.2.1.1 r11.2.2.1.length x13.2.2.1.2, .int .i64 (r11.2.2.2)]) ty121 rfl rfl (up5t up2) rfl (one_of rfl) (Nat.le_of_ble_eq_true rfl) rfl) ?_)
 rintro _ _ _ ⟨rfl, rfl, rfl⟩
 refine ⟨(aM (by kernel_rfl) (aM (by kernel_rfl) bU)), ?_⟩
 refine cL (nT (bQ ?_))
 obtain rfl := si H
 exact back1 (x10, (x13.1, x13.2.1, x13.2.2.1, ())) rfl (ResV.agg ty121 rfl (hs5t hs2) rfl) rfl cN (.cons dl3 (.cons dl3 (.cons dl3 (.cons dl3 (.cons aA (.cons aA (.cons aA .nil)))))))
noncomputable def p_spec_l72Play_b0 (v0 : L6Rd) (Q15 : Int × (List (List Tag)) × (List Post) × (List Part) × (List Sample) × (List File) × (List Int) × (List (List Tag)) × Int × (List Event) × Int) : Option ((Int × (List (List Tag)) × (List Post) × (List Part) × (List Sample) × (List File) × (List Int) × (List (List Tag)) × Int × (List Event) × Int) ⊕ ((List (List Tag)) × (List Post) × (List Part) × (List Sample) × (List File) × (List Int) × (List (List Tag)) × Int × (List Event) × Int)) := cond (decide (0 < Q15.2.2.2.2.2.2.2.2.2.2)) (bd (p_spec_l72Event (v0.1, Q15.1) (((Q15.2.1, Q15.2.2.1), Q15.2.2.2.1, Q15.2.2.2.2.1), (Q15.2.2.2.2.2.1, Q15.2.2.2.2.2.2.1, Q15.2.2.2.2.2.2.2.1, Q15.2.2.2.2.2.2.2.2.1))) fun r24 => gd (room (Q15.2.2.2.2.2.2.2.2.2.1.length + 1)) <| bd (p_spec_l22Do (((Q15.2.1, Q15.2.2.1), Q15.2.2.2.1, Q15.2.2.2.2.1), (Q15.2.2.2.2.2.1, Q15.2.2.2.2.2.2.1, Q15.2.2.2.2.2.2.2.1, Q15.2.2.2.2.2.2.2.2.1)) r24.1) fun r32 => gd (I64 (Q15.2.2.2.2.2.2.2.2.2.2 - 1)) <| some (.inl (r24.2, r32.1.1.1, r32.1.1.2, r32.1.2.1, r32.1.2.2, r32.2.1, r32.2.2.1, r32.2.2.2.1, r32.2.2.2.2, (Q15.2.2.2.2.2.2.2.2.2.1 ++ [r24.1]), Q15.2.2.2.2.2.2.2.2.2.2 - 1))) (some (.inr (Q15.2.1, Q15.2.2.1, Q15.2.2.2.1, Q15.2.2.2.2.1, Q15.2.2.2.2.2.1, Q15.2.2.2.2.2.2.1, Q15.2.2.2.2.2.2.2.1, Q15.2.2.2.2.2.2.2.2.1, Q15.2.2.2.2.2.2.2.2.2.1, Q15.1)))
noncomputable def p_spec_l72Play (v0 : L6Rd) : Option ((List Event) × World × Int) := bd (p_spec_WorldNew) fun r2 => bd (p_spec_l6Rd_pick v0 46) fun r8 => bd (lp (p_spec_l72Play_b0 v0) (r8.2, r2.1.1.1, r2.1.1.2, r2.1.2.1, r2.1.2.2, r2.2.1, r2.2.2.1, r2.2.2.2.1, r2.2.2.2.2, ([] : List Event), r8.1)) fun x11 => bd (p_spec_l22Copy (((x11.1, x11.2.1), x11.2.2.1, x11.2.2.2.1), (x11.2.2.2.2.1, x11.2.2.2.2.2.1, x11.2.2.2.2.2.2.1, x11.2.2.2.2.2.2.2.1))) fun r36 => some (x11.2.2.2.2.2.2.2.2.1, r36, x11.2.2.2.2.2.2.2.2.2)
theorem c_spec_l72Play {r : (List Event) × World × Int} (g_v0 : Nat) (v0 : L6Rd) (x_v0 : (Option Addr × Nat) × Unit) (H : p_spec_l72Play v0 = some r) : Fn' prog 120 #[.pointer (some ⟨g_v0, 0, none⟩)] [imm (.slice x_v0.1.1 v0.1.length x_v0.1.2) v0.1] [box g_v0 169 [.slice x_v0.1.1 v0.1.length x_v0.1.2, .int .i64 (v0.2)]] (ι := (Option Addr × Nat) × ((((Option Addr × Nat) × (Option Addr × Nat)) × (Option Addr × Nat) × (Option Addr × Nat)) × ((Option Addr × Nat) × (Option Addr × Nat) × (Option Addr × Nat) × Unit))) (fun x => .tuple #[.slice x.1.1 r.1.length x.1.2, .agg #[.slice x.2.1.1.1.1 r.2.1.1.1.1.length x.2.1.1.1.2, .slice x.2.1.1.2.1 r.2.1.1.1.2.length x.2.1.1.2.2, .slice x.2.1.2.1.1 r.2.1.1.2.1.length x.2.1.2.1.2, .slice x.2.1.2.2.1 r.2.1.1.2.2.length x.2.1.2.2.2, .slice x.2.2.1.1 r.2.1.2.1.length x.2.2.1.2, .slice x.2.2.2.1.1 r.2.1.2.2.1.length x.2.2.2.1.2, .slice x.2.2.2.2.1.1 r.2.1.2.2.2.1.length x.2.2.2.2.1.2, .int .i64 (r.2.1.2.2.2.2)]]) (fun x => [imm (.slice x.1.1 r.1.length x.1.2) r.1, imm (.slice x.2.1.1.1.1 r.2.1.1.1.1.length x.2.1.1.1.2) r.2.1.1.1.1, imm (.slice x.2.1.1.2.1 r.2.1.1.1.2.length x.2.1.1.2.2) r.2.1.1.1.2, imm (.slice x.2.1.2.1.1 r.2.1.1.2.1.length x.2.1.2.1.2) r.2.1.1.2.1]) (fun x => [orow (.slice x.2.1.2.2.1 r.2.1.1.2.2.length x.2.1.2.2.2) r.2.1.1.2.2, orow (.slice x.2.2.1.1 r.2.1.2.1.length x.2.2.1.2) r.2.1.2.1, orow (.slice x.2.2.2.1.1 r.2.1.2.2.1.length x.2.2.2.1.2) r.2.1.2.2.1, orow (.slice x.2.2.2.2.1.1 r.2.1.2.2.2.1.length x.2.2.2.2.1.2) r.2.1.2.2.2.1, box g_v0 169 [.slice x_v0.1.1 v0.1.length x_v0.1.2, .int .i64 (r.2.2)]]) := by
 refine cof (args := [_]) func120 ntmps120 fun c => ?_
 unfold p_spec_l72Play at H
 refine sr (aH (v := .slice none 0 0) rfl (f1 (cD ty121) fun g1 => (nl (sr (bdo H fun r2 h3 H => (f1 (cF (c_spec_WorldNew h3) (fun _ => (bF (bF (bF (bF (bF (bF (bF bG)))))))) rfl aO) fun x4 => (f1 (cD ty121) fun g5 => (stb (cs' := [.slice x4.1.1.1.1 r2.1.1.1.length x4.1.1.1.2, .slice x4.1.1.2.1 r2.1.1.2.length x4.1.1.2.2, .slice x4.1.2.1.1 r2.1.2.1.length x4.1.2.1.2, .slice x4.1.2.2.1 r2.1.2.2.length x4.1.2.2.2, .slice x4.2.1.1 r2.2.1.length x4.2.1.2, .slice x4.2.2.1.1 r2.2.2.1.length x4.2.2.1.2, .slice x4.2.2.2.1.1 r2.2.2.2.1.length x4.2.2.2.1.2, .int .i64 (r2.2.2.2.2)]) ty121 cY (nl ?_)))))))))
 refine sr (f2 (e_lit0r Event underlying170 ty218) fun a6 c7 => (aH rfl (nl (aD (aD (Tr.freeze (.cons dl2 .nil) (Tr.freeze (.cons dl2 .nil) (Tr.freeze (.cons dl2 .nil) (Tr.freeze (.cons dl2 .nil) (Tr.freeze (.cons dl2 .nil) ?_))))))))))
 refine Tr.freeze (.cons dl2 .nil) (Tr.freeze (.cons dl2 .nil) (aP (aF rfl (bdo H fun r8 h9 H => (f1 (cG (c_spec_l6Rd_pick g_v0 v0 (x_v0.1, ()) 46 h9) (Solo.box bG) (fun _ => (Solo.box bG)) rfl (.cons dl3 .nil) (aC (aL aR.s.s.s.s.s.s.s) aO)) fun u10 => (aH rfl (nl (bdo H fun x11 hx12 H => ?_))))))))
 obtain ⟨n13, hx12⟩ := lp.of hx12
 refine tMidNF (ι := (Option Addr × Nat) × (Option Addr × Nat) × (Option Addr × Nat) × (Option Addr × Nat) × (Option Addr × Nat) × (Option Addr × Nat) × (Option Addr × Nat) × (Option Addr × Nat)) (fun ψ => [(3, .pointer (some ⟨g1, 0, none⟩)), (4, .pointer (some ⟨g5, 0, none⟩)), (5, .slice ψ.2.2.2.2.2.2.2.1 x11.2.2.2.2.2.2.2.2.1.length ψ.2.2.2.2.2.2.2.2)]) (fun ψ => [imm (.slice ψ.1.1 x11.1.length ψ.1.2) x11.1, imm (.slice ψ.2.1.1 x11.2.1.length ψ.2.1.2) x11.2.1, imm (.slice ψ.2.2.1.1 x11.2.2.1.length ψ.2.2.1.2) x11.2.2.1, imm (.slice ψ.2.2.2.1.1 x11.2.2.2.1.length ψ.2.2.2.1.2) x11.2.2.2.1, imm (.slice ψ.2.2.2.2.1.1 x11.2.2.2.2.1.length ψ.2.2.2.2.1.2) x11.2.2.2.2.1, imm (.slice ψ.2.2.2.2.2.1.1 x11.2.2.2.2.2.1.length ψ.2.2.2.2.2.1.2) x11.2.2.2.2.2.1, imm (.slice ψ.2.2.2.2.2.2.1.1 x11.2.2.2.2.2.2.1.length ψ.2.2.2.2.2.2.1.2) x11.2.2.2.2.2.2.1]) (fun ψ => [box g1 121 [.slice none 0 0, .slice none 0 0, .slice none 0 0, .slice none 0 0, .slice none 0 0, .slice none 0 0, .slice none 0 0, .int .i64 (0)], box g5 121 [.slice ψ.1.1 x11.1.length ψ.1.2, .slice ψ.2.1.1 x11.2.1.length ψ.2.1.2, .slice ψ.2.2.1.1 x11.2.2.1.length ψ.2.2.1.2, .slice ψ.2.2.2.1.1 x11.2.2.2.1.length ψ.2.2.2.1.2, .slice ψ.2.2.2.2.1.1 x11.2.2.2.2.1.length ψ.2.2.2.2.1.2, .slice ψ.2.2.2.2.2.1.1 x11.2.2.2.2.2.1.length ψ.2.2.2.2.2.1.2, .slice ψ.2.2.2.2.2.2.1.1 x11.2.2.2.2.2.2.1.length ψ.2.2.2.2.2.2.1.2, .int .i64 (x11.2.2.2.2.2.2.2.1)], row (.slice ψ.2.2.2.2.2.2.2.1 x11.2.2.2.2.2.2.2.2.1.length ψ.2.2.2.2.2.2.2.2) x11.2.2.2.2.2.2.2.2.1, box g_v0 169 [.slice x_v0.1.1 v0.1.length x_v0.1.2, .int .i64 (x11.2.2.2.2.2.2.2.2.2)]]) ?_ ?_
 ·refine aQ (tLoopF (ι := { q : Nat × (Int × (List (List Tag)) × (List Post) × (List Part) × (List Sample) × (List File) × (List Int) × (List (List Tag)) × Int × (List Event) × Int) × ((Option Addr × Nat) × (Option Addr × Nat) × (Option Addr × Nat) × (Option Addr × Nat) × (Option Addr × Nat) × (Option Addr × Nat) × (Option Addr × Nat) × (Option Addr × Nat)) // itr (p_spec_l72Play_b0 v0) q.1 q.2.1 = some x11 }) (fun ζ => [(0, .pointer (some ⟨g_v0, 0, none⟩)), (3, .pointer (some ⟨g1, 0, none⟩)), (4, .pointer (some ⟨g5, 0, none⟩)), (5, .slice ζ.1.2.2.2.2.2.2.2.2.2.1 ζ.1.2.1.2.2.2.2.2.2.2.2.2.1.length ζ.1.2.2.2.2.2.2.2.2.2.2), (6, .int .i64 (ζ.1.2.1.2.2.2.2.2.2.2.2.2.2))]) (fun ζ => [imm (.slice ζ.1.2.2.1.1 ζ.1.2.1.2.1.length ζ.1.2.2.1.2) ζ.1.2.1.2.1, imm (.slice ζ.1.2.2.2.1.1 ζ.1.2.1.2.2.1.length ζ.1.2.2.2.1.2) ζ.1.2.1.2.2.1, imm (.slice ζ.1.2.2.2.2.1.1 ζ.1.2.1.2.2.2.1.length ζ.1.2.2.2.2.1.2) ζ.1.2.1.2.2.2.1, imm (.slice ζ.1.2.2.2.2.2.1.1 ζ.1.2.1.2.2.2.2.1.length ζ.1.2.2.2.2.2.1.2) ζ.1.2.1.2.2.2.2.1, imm (.slice ζ.1.2.2.2.2.2.2.1.1 ζ.1.2.1.2.2.2.2.2.1.length ζ.1.2.2.2.2.2.2.1.2) ζ.1.2.1.2.2.2.2.2.1, imm (.slice ζ.1.2.2.2.2.2.2.2.1.1 ζ.1.2.1.2.2.2.2.2.2.1.length ζ.1.2.2.2.2.2.2.2.1.2) ζ.1.2.1.2.2.2.2.2.2.1, imm (.slice ζ.1.2.2.2.2.2.2.2.2.1.1 ζ.1.2.1.2.2.2.2.2.2.2.1.length ζ.1.2.2.2.2.2.2.2.2.1.2) ζ.1.2.1.2.2.2.2.2.2.2.1]) (fun ζ => [box g_v0 169 [.slice x_v0.1.1 v0.1.length x_v0.1.2, .int .i64 (ζ.1.2.1.1)], box g1 121 [.slice none 0 0, .slice none 0 0, .slice none 0 0, .slice none 0 0, .slice none 0 0, .slice none 0 0, .slice none 0 0, .int .i64 (0)], box g5 121 [.slice ζ.1.2.2.1.1 ζ.1.2.1.2.1.length ζ.1.2.2.1.2, .slice ζ.1.2.2.2.1.1 ζ.1.2.1.2.2.1.length ζ.1.2.2.2.1.2, .slice ζ.1.2.2.2.2.1.1 ζ.1.2.1.2.2.2.1.length ζ.1.2.2.2.2.1.2, .slice ζ.1.2.2.2.2.2.1.1 ζ.1.2.1.2.2.2.2.1.length ζ.1.2.2.2.2.2.1.2, .slice ζ.1.2.2.2.2.2.2.1.1 ζ.1.2.1.2.2.2.2.2.1.length ζ.1.2.2.2.2.2.2.1.2, .slice ζ.1.2.2.2.2.2.2.2.1.1 ζ.1.2.1.2.2.2.2.2.2.1.length ζ.1.2.2.2.2.2.2.2.1.2, .slice ζ.1.2.2.2.2.2.2.2.2.1.1 ζ.1.2.1.2.2.2.2.2.2.2.1.length ζ.1.2.2.2.2.2.2.2.2.1.2, .int .i64 (ζ.1.2.1.2.2.2.2.2.2.2.2.1)], row (.slice ζ.1.2.2.2.2.2.2.2.2.2.1 ζ.1.2.1.2.2.2.2.2.2.2.2.2.1.length ζ.1.2.2.2.2.2.2.2.2.2.2) ζ.1.2.1.2.2.2.2.2.2.2.2.2.1]) (fun ζ => ζ.1.1) ⟨(n13, (r8.2, r2.1.1.1, r2.1.1.2, r2.1.2.1, r2.1.2.2, r2.2.1, r2.2.2.1, r2.2.2.2.1, r2.2.2.2.2, ([] : List Event), r8.1), ((x4.1.1.1.1, x4.1.1.1.2), (x4.1.1.2.1, x4.1.1.2.2), (x4.1.2.1.1, x4.1.2.1.2), (x4.1.2.2.1, x4.1.2.2.2), (x4.2.1.1, x4.2.1.2), (x4.2.2.1.1, x4.2.2.1.2), (x4.2.2.2.1.1, x4.2.2.2.1.2), (a6, c7))), hx12⟩ ⟨rfl, rfl, rfl, rfl, rfl, trivial⟩ (cM aR.s.s.s.s.s.s (cM aR.s.s.s.s.s (cM aR.s.s.s.s (cM aR.s.s.s (cM aR.s.s (cM aR.s (cM aR cN))))))) (.cons aA (.cons dl2 (.cons dl1 (.cons aA .nil)))) ?_)
  rintro ⟨⟨m14, Q15, z16⟩, hk21⟩
  obtain ⟨m22, t18, e, H1, hi19, hb20⟩ := itr.of (n := m14) (s := Q15) hk21
  subst e; unfold p_spec_l72Play_b0 at H1
  show Tr _ _ _ _ _ [(0, .pointer (some ⟨g_v0, 0, none⟩)), (3, .pointer (some ⟨g1, 0, none⟩)), (4, .pointer (some ⟨g5, 0, none⟩)), (5, .slice z16.2.2.2.2.2.2.2.1 Q15.2.2.2.2.2.2.2.2.2.1.length z16.2.2.2.2.2.2.2.2), (6, .int .i64 (Q15.2.2.2.2.2.2.2.2.2.2))] (imm (.slice z16.1.1 Q15.2.1.length z16.1.2) Q15.2.1 :: imm (.slice z16.2.1.1 Q15.2.2.1.length z16.2.1.2) Q15.2.2.1 :: imm (.slice z16.2.2.1.1 Q15.2.2.2.1.length z16.2.2.1.2) Q15.2.2.2.1 :: imm (.slice z16.2.2.2.1.1 Q15.2.2.2.2.1.length z16.2.2.2.1.2) Q15.2.2.2.2.1 :: imm (.slice z16.2.2.2.2.1.1 Q15.2.2.2.2.2.1.length z16.2.2.2.2.1.2) Q15.2.2.2.2.2.1 :: imm (.slice z16.2.2.2.2.2.1.1 Q15.2.2.2.2.2.2.1.length z16.2.2.2.2.2.1.2) Q15.2.2.2.2.2.2.1 :: imm (.slice z16.2.2.2.2.2.2.1.1 Q15.2.2.2.2.2.2.2.1.length z16.2.2.2.2.2.2.1.2) Q15.2.2.2.2.2.2.2.1 :: _) [box g_v0 169 [.slice x_v0.1.1 v0.1.length x_v0.1.2, .int .i64 (Q15.1)], box g1 121 [.slice none 0 0, .slice none 0 0, .slice none 0 0, .slice none 0 0, .slice none 0 0, .slice none 0 0, .slice none 0 0, .int .i64 (0)], box g5 121 [.slice z16.1.1 Q15.2.1.length z16.1.2, .slice z16.2.1.1 Q15.2.2.1.length z16.2.1.2, .slice z16.2.2.1.1 Q15.2.2.2.1.length z16.2.2.1.2, .slice z16.2.2.2.1.1 Q15.2.2.2.2.1.length z16.2.2.2.1.2, .slice z16.2.2.2.2.1.1 Q15.2.2.2.2.2.1.length z16.2.2.2.2.1.2, .slice z16.2.2.2.2.2.1.1 Q15.2.2.2.2.2.2.1.length z16.2.2.2.2.2.1.2, .slice z16.2.2.2.2.2.2.1.1 Q15.2.2.2.2.2.2.2.1.length z16.2.2.2.2.2.2.1.2, .int .i64 (Q15.2.2.2.2.2.2.2.2.1)], row (.slice z16.2.2.2.2.2.2.2.1 Q15.2.2.2.2.2.2.2.2.2.1.length z16.2.2.2.2.2.2.2.2) Q15.2.2.2.2.2.2.2.2.2.1]
  refine aD (sr (aF rfl (aG (cV rfl rfl) (nl (cH H1 rfl (fun h23 H1 => ?_) (fun h23 H1 => ?_))))))
  ·refine bH (nT (aD (aQ (sr (aF rfl (aI (bJ ty121 rfl hs2 rfl) (bdo H1 fun r24 h25 H1 => (f1 (e_call (FnL'.frz (c_spec_l72Event g_v0 (v0.1, Q15.1) (x_v0.1, ()) (((Q15.2.1, Q15.2.2.1), Q15.2.2.2.1, Q15.2.2.2.2.1), (Q15.2.2.2.2.2.1, Q15.2.2.2.2.2.2.1, Q15.2.2.2.2.2.2.2.1, Q15.2.2.2.2.2.2.2.2.1)) (((z16.1, z16.2.1), z16.2.2.1, z16.2.2.2.1), (z16.2.2.2.2.1, z16.2.2.2.2.2.1, z16.2.2.2.2.2.2.1, ())) h25)) rfl (cM aR.s.s.s.s.s.s.s.s.s.s.s.s.s.s (cM aR (cM aR.s (cM aR.s.s (cM aR.s.s.s (cM aR.s.s.s.s (cM aR.s.s.s.s.s (cM aR.s.s.s.s.s.s cN)))))))) (.cons aA .nil)) fun x26 => (f1 (cD ty218) fun g27 => (stb (cs' := [.int .i64 (r24.1.1), .int .i64 (r24.1.2.1), .int .i64 (r24.1.2.2.1), .slice x26.2.2.2.1.1 r24.1.2.2.2.1.length x26.2.2.2.1.2, .int .i64 (r24.1.2.2.2.2.1), .int .i64 (r24.1.2.2.2.2.2)]) ty218 cY ?_))))))))))
   refine nl (sr (aF rfl (aI (bJ ty218 rfl aB rfl) (f1 (e_lit (vs := [(0, .agg #[.int .i64 (r24.1.1), .int .i64 (r24.1.2.1), .int .i64 (r24.1.2.2.1), .slice x26.2.2.2.1.1 r24.1.2.2.2.1.length x26.2.2.2.1.2, .int .i64 (r24.1.2.2.2.2.1), .int .i64 (r24.1.2.2.2.2.2)])]) [.int .i64 (r24.1.1), .int .i64 (r24.1.2.1), .int .i64 (r24.1.2.2.1), .slice x26.2.2.2.1.1 r24.1.2.2.2.1.length x26.2.2.2.1.2, .int .i64 (r24.1.2.2.2.2.1), .int .i64 (r24.1.2.2.2.2.2)] underlying170 ty218 rfl (by decide) (by decide) (by kernel_rfl)) fun g28 => (gdo H1 fun h31 H1 => (f2 (e_app1R (l := Q15.2.2.2.2.2.2.2.2.2.1) (α := Event) r24.1 ((), (), (), x26.2.2.2.1, ((), ())) underlying170 ty218 rfl rfl (h31.b (by decide)) h31.x rfl (.cons dl5 (.cons aA .nil)) (cM aR cN)) fun a29 c30 => (aH rfl (nl (aP (aI (bJ ty121 rfl hs4 rfl) ?_))))))))))
   refine aI (bJ ty218 rfl hs1 rfl) (bdo H1 fun r32 h33 H1 => (f1 (e_call (c_spec_l22Do (((Q15.2.1, Q15.2.2.1), Q15.2.2.2.1, Q15.2.2.2.2.1), (Q15.2.2.2.2.2.1, Q15.2.2.2.2.2.2.1, Q15.2.2.2.2.2.2.2.1, Q15.2.2.2.2.2.2.2.2.1)) (((z16.1, z16.2.1), z16.2.2.1, z16.2.2.2.1), (z16.2.2.2.2.1, z16.2.2.2.2.2.1, z16.2.2.2.2.2.2.1, ())) r24.1 ((), (), (), x26.2.2.2.1, ((), ())) h33) rfl (cM aR.s (cM aR.s.s (cM aR.s.s.s (cM aR.s.s.s.s (cM aR.s.s.s.s.s (cM aR.s.s.s.s.s.s (cM aR.s.s.s.s.s.s.s (cM aR cN)))))))) bK) fun x34 => (stb (cs' := [.slice x34.1.1.1.1 r32.1.1.1.length x34.1.1.1.2, .slice x34.1.1.2.1 r32.1.1.2.length x34.1.1.2.2, .slice x34.1.2.1.1 r32.1.2.1.length x34.1.2.1.2, .slice x34.1.2.2.1 r32.1.2.2.length x34.1.2.2.2, .slice x34.2.1.1 r32.2.1.length x34.2.1.2, .slice x34.2.2.1.1 r32.2.2.1.length x34.2.2.1.2, .slice x34.2.2.2.1.1 r32.2.2.2.1.length x34.2.2.2.1.2, .int .i64 (r32.2.2.2.2)]) ty121 up4 (aJ (nB (nT (aP (aF rfl (gdo H1 fun h35 H1 => (aG (cR rfl rfl h35) ?_))))))))))
   exact aH rfl (aJ (nLF ⟨(m22, (r24.2, r32.1.1.1, r32.1.1.2, r32.1.2.1, r32.1.2.2, r32.2.1, r32.2.2.1, r32.2.2.2.1, r32.2.2.2.2, (Q15.2.2.2.2.2.2.2.2.2.1 ++ [r24.1]), Q15.2.2.2.2.2.2.2.2.2.2 - 1), ((x34.1.1.1.1, x34.1.1.1.2), (x34.1.1.2.1, x34.1.1.2.2), (x34.1.2.1.1, x34.1.2.1.2), (x34.1.2.2.1, x34.1.2.2.2), (x34.2.1.1, x34.2.1.2), (x34.2.2.1.1, x34.2.2.1.2), (x34.2.2.2.1.1, x34.2.2.2.1.2), (a29, c30))), hi19 _ (sm H1)⟩ (Nat.lt_succ_self _) ⟨rfl, rfl, rfl, rfl, rfl, trivial⟩ (cM aR (cM aR.s (cM aR.s.s (cM aR.s.s.s (cM aR.s.s.s.s (cM aR.s.s.s.s.s (cM aR.s.s.s.s.s.s cN))))))) bT.s.s.s.s.s.s.s.s.s.s.s.s.s.s.s (.cons dl2 (.cons dl2 (.cons dl2 (.cons aA .nil))))))
  ·refine dA (xT (xT (xE (?_))))
   obtain rfl := hb20 _ (sm H1)
   exact nMF ((z16.1.1, z16.1.2), (z16.2.1.1, z16.2.1.2), (z16.2.2.1.1, z16.2.2.1.2), (z16.2.2.2.1.1, z16.2.2.2.1.2), (z16.2.2.2.2.1.1, z16.2.2.2.2.1.2), (z16.2.2.2.2.2.1.1, z16.2.2.2.2.2.1.2), (z16.2.2.2.2.2.2.1.1, z16.2.2.2.2.2.2.1.2), (z16.2.2.2.2.2.2.2.1, z16.2.2.2.2.2.2.2.2)) ⟨rfl, rfl, rfl, trivial⟩ (cM aR (cM aR.s (cM aR.s.s (cM aR.s.s.s (cM aR.s.s.s.s (cM aR.s.s.s.s.s (cM aR.s.s.s.s.s.s cN))))))) bT.s.s.s.s.s.s.s (.cons dl1 (.cons dl1 (.cons dl1 (.cons aA .nil))))
 ·intro y17
  show At _ _ [(3, .pointer (some ⟨g1, 0, none⟩)), (4, .pointer (some ⟨g5, 0, none⟩)), (5, .slice y17.2.2.2.2.2.2.2.1 x11.2.2.2.2.2.2.2.2.1.length y17.2.2.2.2.2.2.2.2)] (imm (.slice y17.1.1 x11.1.length y17.1.2) x11.1 :: imm (.slice y17.2.1.1 x11.2.1.length y17.2.1.2) x11.2.1 :: imm (.slice y17.2.2.1.1 x11.2.2.1.length y17.2.2.1.2) x11.2.2.1 :: imm (.slice y17.2.2.2.1.1 x11.2.2.2.1.length y17.2.2.2.1.2) x11.2.2.2.1 :: imm (.slice y17.2.2.2.2.1.1 x11.2.2.2.2.1.length y17.2.2.2.2.1.2) x11.2.2.2.2.1 :: imm (.slice y17.2.2.2.2.2.1.1 x11.2.2.2.2.2.1.length y17.2.2.2.2.2.1.2) x11.2.2.2.2.2.1 :: imm (.slice y17.2.2.2.2.2.2.1.1 x11.2.2.2.2.2.2.1.length y17.2.2.2.2.2.2.1.2) x11.2.2.2.2.2.2.1 :: _) [box g1 121 [.slice none 0 0, .slice none 0 0, .slice none 0 0, .slice none 0 0, .slice none 0 0, .slice none 0 0, .slice none 0 0, .int .i64 (0)], box g5 121 [.slice y17.1.1 x11.1.length y17.1.2, .slice y17.2.1.1 x11.2.1.length y17.2.1.2, .slice y17.2.2.1.1 x11.2.2.1.length y17.2.2.1.2, .slice y17.2.2.2.1.1 x11.2.2.2.1.length y17.2.2.2.1.2, .slice y17.2.2.2.2.1.1 x11.2.2.2.2.1.length y17.2.2.2.2.1.2, .slice y17.2.2.2.2.2.1.1 x11.2.2.2.2.2.1.length y17.2.2.2.2.2.1.2, .slice y17.2.2.2.2.2.2.1.1 x11.2.2.2.2.2.2.1.length y17.2.2.2.2.2.2.1.2, .int .i64 (x11.2.2.2.2.2.2.2.1)], row (.slice y17.2.2.2.2.2.2.2.1 x11.2.2.2.2.2.2.2.2.1.length y17.2.2.2.2.2.2.2.2) x11.2.2.2.2.2.2.2.2.1, box g_v0 169 [.slice x_v0.1.1 v0.1.length x_v0.1.2, .int .i64 (x11.2.2.2.2.2.2.2.2.2)]] _
  refine nT (sr (aF rfl (aI (bJ ty121 rfl hs1 rfl) (bdo H fun r36 h37 H => (f1 (cF (c_spec_l22Copy (((x11.1, x11.2.1), x11.2.2.1, x11.2.2.2.1), (x11.2.2.2.2.1, x11.2.2.2.2.2.1, x11.2.2.2.2.2.2.1, x11.2.2.2.2.2.2.2.1)) (((y17.1, y17.2.1), y17.2.2.1, y17.2.2.2.1), (y17.2.2.2.2.1, y17.2.2.2.2.2.1, y17.2.2.2.2.2.2.1, ())) h37) (fun _ => (bF (bF (bF (bF (bF (bF (bF bG)))))))) rfl (aC (aL aR) (aC (aL aR.s) (aC (aL aR.s.s) (aC (aL aR.s.s.s) (aC (aL aR.s.s.s.s) (aC (aL aR.s.s.s.s.s) (aC (aL aR.s.s.s.s.s.s) aO)))))))) fun x38 => (aH rfl (stb (cs' := [.slice x38.1.1.1.1 r36.1.1.1.length x38.1.1.1.2, .slice x38.1.1.2.1 r36.1.1.2.length x38.1.1.2.2, .slice x38.1.2.1.1 r36.1.2.1.length x38.1.2.1.2, .slice x38.1.2.2.1 r36.1.2.2.length x38.1.2.2.2, .slice x38.2.1.1 r36.2.1.length x38.2.1.2, .slice x38.2.2.1.1 r36.2.2.1.length x38.2.2.1.2, .slice x38.2.2.2.1.1 r36.2.2.2.1.length x38.2.2.2.1.2, .int .i64 (r36.2.2.2.2)]) ty121 (up5t up2) (nl (Tr.freezeR (.cons (dl5t dl4) .nil) ?_)))))))))
  refine Tr.freeze (.cons aA .nil) (Tr.freeze (.cons aA .nil) (Tr.freeze (.cons aA .nil) (Tr.treeO (.cons aA .nil) (Tr.treeO (.cons dl1 .nil) (Tr.treeO (.cons dl2 .nil) (Tr.treeO (.cons dl3 .nil) (bQ ?_)))))))
  obtain rfl := si H
  exact back2 (y17.2.2.2.2.2.2.2, (x38.1, (x38.2.1, x38.2.2.1, x38.2.2.2.1, ()))) rfl (ResV.tmp (v := .slice y17.2.2.2.2.2.2.2.1 x11.2.2.2.2.2.2.2.2.1.length y17.2.2.2.2.2.2.2.2) rfl) (ResV.agg ty121 rfl hs4 rfl) rfl (cM aR.s.s.s (cM aR.s.s (cM aR.s (cM aR cN)))) (.cons dl3 (.cons dl2 (.cons dl1 (.cons aA (.cons dl2 .nil)))))
noncomputable def p_spec_l72World (v0 : L6Rd) : Option (World × Int) := bd (p_spec_l72Play v0) fun r2 => bd (p_spec_l6Rd_pick (v0.1, r2.2.2) 40) fun r6 => cond (decide (r6.1 = 0)) (bd (p_spec_l6Rd_pick (v0.1, r6.2) 6) fun r10 => gd (I64 (1 + r10.1)) <| gd (room (r2.2.1.2.2.1.length + 1)) <| some ((r2.2.1.1, (r2.2.1.2.1, (r2.2.1.2.2.1 ++ [1 + r10.1]), r2.2.1.2.2.2.1, r2.2.1.2.2.2.2)), r10.2)) (cond (decide (r6.1 = 1)) (bd (p_spec_l6Rd_pick (v0.1, r6.2) 7) fun r19 => gd (I64 (1 + r19.1)) <| bd (p_spec_l71Row (v0.1, r19.2)) fun r23 => gd (room (r2.2.1.1.2.2.length + 1)) <| some (((r2.2.1.1.1, r2.2.1.1.2.1, (r2.2.1.1.2.2 ++ [((1 + r19.1), r23.1)])), r2.2.1.2), r23.2)) (cond (decide (r6.1 = 2)) (cond (decide (0 < (r2.2.1.2.1.length : Int))) (gd (sl2 1 (r2.2.1.2.1.length : Int) r2.2.1.2.1.length) <| some ((r2.2.1.1, (((r2.2.1.2.1.take (r2.2.1.2.1.length : Int).toNat).drop 1), r2.2.1.2.2.1, r2.2.1.2.2.2.1, r2.2.1.2.2.2.2)), r6.2)) (some (r2.2.1, r6.2))) (cond (decide (r6.1 = 3)) (bd (p_spec_l71Name (v0.1, r6.2)) fun r36 => gd (room (r2.2.1.2.2.2.1.length + 1)) <| some ((r2.2.1.1, (r2.2.1.2.1, r2.2.1.2.2.1, (r2.2.1.2.2.2.1 ++ [r36.1]), r2.2.1.2.2.2.2)), r36.2)) (some (r2.2.1, r6.2)))))
theorem c_spec_l72World {r : World × Int} (g_v0 : Nat) (v0 : L6Rd) (x_v0 : (Option Addr × Nat) × Unit) (H : p_spec_l72World v0 = some r) : Fn' prog 66 #[.pointer (some ⟨g_v0, 0, none⟩)] [imm (.slice x_v0.1.1 v0.1.length x_v0.1.2) v0.1] [box g_v0 169 [.slice x_v0.1.1 v0.1.length x_v0.1.2, .int .i64 (v0.2)]] (ι := (((Option Addr × Nat) × (Option Addr × Nat)) × (Option Addr × Nat) × (Option Addr × Nat)) × ((Option Addr × Nat) × (Option Addr × Nat) × (Option Addr × Nat) × Unit)) (fun x => .agg #[.slice x.1.1.1.1 r.1.1.1.1.length x.1.1.1.2, .slice x.1.1.2.1 r.1.1.1.2.length x.1.1.2.2, .slice x.1.2.1.1 r.1.1.2.1.length x.1.2.1.2, .slice x.1.2.2.1 r.1.1.2.2.length x.1.2.2.2, .slice x.2.1.1 r.1.2.1.length x.2.1.2, .slice x.2.2.1.1 r.1.2.2.1.length x.2.2.1.2, .slice x.2.2.2.1.1 r.1.2.2.2.1.length x.2.2.2.1.2, .int .i64 (r.1.2.2.2.2)]) (fun x => [imm (.slice x.1.1.1.1 r.1.1.1.1.length x.1.1.1.2) r.1.1.1.1, imm (.slice x.1.1.2.1 r.1.1.1.2.length x.1.1.2.2) r.1.1.1.2, imm (.slice x.1.2.1.1 r.1.1.2.1.length x.1.2.1.2) r.1.1.2.1]) (fun x => [orow (.slice x.1.2.2.1 r.1.1.2.2.length x.1.2.2.2) r.1.1.2.2, orow (.slice x.2.1.1 r.1.2.1.length x.2.1.2) r.1.2.1, orow (.slice x.2.2.1.1 r.1.2.2.1.length x.2.2.1.2) r.1.2.2.1, orow (.slice x.2.2.2.1.1 r.1.2.2.2.1.length x.2.2.2.1.2) r.1.2.2.2.1, box g_v0 169 [.slice x_v0.1.1 v0.1.length x_v0.1.2, .int .i64 (r.2)]]) := by
 refine cof (args := [_]) func66 ntmps66 fun c => ?_
 unfold p_spec_l72World at H
 refine sr (f1 (cD ty121) fun g1 => (nl (sr (aF rfl (bdo H fun r2 h3 H => (f1 (e_call (c_spec_l72Play g_v0 v0 (x_v0.1, ()) h3) rfl (cM aR cN) (.cons dl1 .nil)) fun x4 => (aF rfl (aG (cZ rfl rfl) (aG (cZ rfl rfl) ?_)))))))))
 refine f1 (cD ty121) fun g5 => (aH rfl (stb (cs' := [.slice x4.2.1.1.1.1 r2.2.1.1.1.1.length x4.2.1.1.1.2, .slice x4.2.1.1.2.1 r2.2.1.1.1.2.length x4.2.1.1.2.2, .slice x4.2.1.2.1.1 r2.2.1.1.2.1.length x4.2.1.2.1.2, .slice x4.2.1.2.2.1 r2.2.1.1.2.2.length x4.2.1.2.2.2, .slice x4.2.2.1.1 r2.2.1.2.1.length x4.2.2.1.2, .slice x4.2.2.2.1.1 r2.2.1.2.2.1.length x4.2.2.2.1.2, .slice x4.2.2.2.2.1.1 r2.2.1.2.2.2.1.length x4.2.2.2.2.1.2, .int .i64 (r2.2.1.2.2.2.2)]) ty121 cY (nl (aD (sr (aF rfl (bdo H fun r6 h7 H => (f1 (cG (c_spec_l6Rd_pick g_v0 (v0.1, r2.2.2) (x_v0.1, ()) 40 h7) (Solo.box bG) (fun _ => (Solo.box bG)) rfl (.cons dl5 .nil) (aC (aL aR.s.s.s.s) aO)) fun u8 => (nl (aQ ?_))))))))))
 refine sr (aG (cT rfl rfl) (aH rfl (nl (cH H rfl (fun h9 H => ?_) (fun h9 H => ?_)))))
 ·refine dG [(4, .pointer (some ⟨g5, 0, none⟩)), (2, .pointer (some ⟨g1, 0, none⟩)), (0, .pointer (some ⟨g_v0, 0, none⟩))] 2 [0, 1, 2, 3, 4, 5, 6, 7, 8, 9, 10] [4, 6, 7, 10] [] mixed (by kernel_rfl) (by decide) dI ⟨rfl, rfl, rfl, trivial⟩ rfl okNil (w_p rfl (cB fa121_1 rfl rfl) (w_p rfl (cB fa76_1 rfl rfl) ?_))
  refine w_o rfl (fun F => (bI ty69 rfl (hs1.app F) rfl)) (w_p rfl (aE rfl) (bdo H fun r10 h11 H => (cJ rfl (by decide) rfl cO rfl (n_callM (c_spec_l6Rd_pick g_v0 (v0.1, r6.2) (x_v0.1, ()) 6 h11) (Solo.box bG) (fun _ => (Solo.box bG)) rfl (.cons aA .nil) (aC (aL aR.s.s.s.s) aO)) ?_)))
  rintro _ _ _ ⟨u12, rfl, rfl, rfl⟩
  refine ⟨(bV rfl rfl (fun F => (bI ty69 rfl (hs1.app F) rfl)) bU), ?_⟩
  refine gdo H fun h13 H => (w_p rfl (bR rfl rfl h13) (cJ rfl (by decide) rfl cO rfl (n_lit (vs := [(0, .int .i64 (1 + r10.1))]) [.int .i64 (1 + r10.1)] dV ty3 rfl (by decide) (by decide) (by kernel_rfl)) ?_))
  rintro _ _ _ ⟨g14, rfl, rfl, rfl⟩
  refine ⟨(bV rfl rfl (fun F => (bI ty69 rfl (hs2.app F) rfl)) bU), ?_⟩
  refine gdo H fun h17 H => (cJ rfl (by decide) rfl cO rfl (n_app1O (l := r2.2.1.2.2.1) (α := Int) (1 + r10.1) () dV ty3 rfl rfl (h17.b (by decide)) h17.x rfl (.cons dl5 (.cons aA .nil)) cN) ?_)
  rintro _ _ _ ⟨a15, c16, rfl, rfl, rfl⟩
  refine ⟨(aM (by kernel_rfl) bU), ?_⟩
  refine w_p rfl (cB fa121_1 rfl rfl) (w_p rfl (cB fa76_1 rfl rfl) (cK rfl rfl cO rfl (n_store (cs' := [.slice x4.2.1.1.1.1 r2.2.1.1.1.1.length x4.2.1.1.1.2, .slice x4.2.1.1.2.1 r2.2.1.1.1.2.length x4.2.1.1.2.2, .slice x4.2.1.2.1.1 r2.2.1.1.2.1.length x4.2.1.2.1.2, .slice x4.2.1.2.2.1 r2.2.1.1.2.2.length x4.2.1.2.2.2, .slice x4.2.2.1.1 r2.2.1.2.1.length x4.2.2.1.2, .slice a15 ((r2.2.1.2.2.1 ++ [1 + r10.1]).length) c16, .slice x4.2.2.2.2.1.1 r2.2.1.2.2.2.1.length x4.2.2.2.2.1.2, .int .i64 (r2.2.1.2.2.2.2)]) ty69 rfl rfl up2 rfl (by simp [Value.cells, Value.oneCell']) (Nat.le_of_ble_eq_true rfl) rfl) ?_))
  rintro _ _ _ ⟨rfl, rfl, rfl⟩
  refine ⟨(aM (by kernel_rfl) bU), ?_⟩
  refine cL ?_
  show At _ _ _ _ _ _
  refine nB (nT (sr (aI (bJ ty121 rfl hs2 rfl) (g0 (e_store (cs' := [.slice x4.2.1.1.1.1 r2.2.1.1.1.1.length x4.2.1.1.1.2, .slice x4.2.1.1.2.1 r2.2.1.1.1.2.length x4.2.1.1.2.2, .slice x4.2.1.2.1.1 r2.2.1.1.2.1.length x4.2.1.2.1.2, .slice x4.2.1.2.2.1 r2.2.1.1.2.2.length x4.2.1.2.2.2, .slice x4.2.2.1.1 r2.2.1.2.1.length x4.2.2.1.2, .slice a15 ((r2.2.1.2.2.1 ++ [1 + r10.1]).length) c16, .slice x4.2.2.2.2.1.1 r2.2.1.2.2.2.1.length x4.2.2.2.2.1.2, .int .i64 (r2.2.1.2.2.2.2)]) ty121 rfl rfl (up5t up1) rfl (by simp [Value.cells, Value.oneCell']) (Nat.le_of_ble_eq_true rfl) rfl) (nl (bQ ?_))))))
  obtain rfl := si H
  exact back1 (x4.2.1, (x4.2.2.1, (a15, c16), x4.2.2.2.2.1, ())) rfl (ResV.agg ty121 rfl (hs5t hs1) rfl) rfl (cM aR.s (cM aR.s.s (cM aR.s.s.s cN))) (.cons dl3 (.cons dl3 (.cons aA (.cons dl2 (.cons aA .nil)))))
 ·refine sr (aG (cT rfl rfl) (aH rfl (nl (cH H rfl (fun h18 H => ?_) (fun h18 H => ?_)))))
  ·refine dG [(4, .pointer (some ⟨g5, 0, none⟩)), (2, .pointer (some ⟨g1, 0, none⟩)), (0, .pointer (some ⟨g_v0, 0, none⟩))] 3 [0, 1, 2, 3, 6, 4, 5, 7, 8, 9, 10, 11, 12, 13] [4, 7, 9, 10, 13] [] mixed (by kernel_rfl) (by decide) dI ⟨rfl, rfl, rfl, trivial⟩ rfl okNil (w_p rfl (cB fa121_0 rfl rfl) (w_p rfl (cB fa42_2 rfl rfl) ?_))
   refine w_o rfl (fun F => (bI ty40 rfl (hs1.app F) rfl)) (w_p rfl (aE rfl) (w_p rfl (aE rfl) (bdo H fun r19 h20 H => (cJ rfl (by decide) rfl cO rfl (n_callM (c_spec_l6Rd_pick g_v0 (v0.1, r6.2) (x_v0.1, ()) 7 h20) (Solo.box bG) (fun _ => (Solo.box bG)) rfl (.cons aA .nil) (aC (aL aR.s.s.s.s) aO)) ?_))))
   rintro _ _ _ ⟨u21, rfl, rfl, rfl⟩
   refine ⟨(bV rfl rfl (fun F => (bI ty40 rfl (hs1.app F) rfl)) bU), ?_⟩
   refine gdo H fun h22 H => (w_p rfl (bR rfl rfl h22) (bdo H fun r23 h24 H => (cJ rfl (by decide) rfl cO rfl (n_callM (c_spec_l71Row g_v0 (v0.1, r19.2) (x_v0.1, ()) h24) (Solo.box bG) (fun _ => (Solo.box bG)) rfl (.cons aA .nil) (aC (aL aR.s.s.s.s) aO)) ?_)))
   rintro _ _ _ ⟨u25, rfl, rfl, rfl⟩
   refine ⟨(bV rfl rfl (fun F => (bI ty40 rfl (hs1.app F) rfl)) bU), ?_⟩
   refine w_p (v := .agg #[.int .i64 (1 + r19.1), .int .i64 (r23.1.1), .int .i64 (r23.1.2)]) rfl (p_buildS (vs := [(0, .int .i64 (1 + r19.1)), (1, .agg #[.int .i64 (r23.1.1), .int .i64 (r23.1.2)])]) (cs := #[.int .i64 (1 + r19.1), .int .i64 (r23.1.1), .int .i64 (r23.1.2)]) ty59 pl59 rfl rfl) (cJ rfl (by decide) rfl cO rfl (n_lit (vs := [(0, .agg #[.int .i64 (1 + r19.1), .int .i64 (r23.1.1), .int .i64 (r23.1.2)])]) [.int .i64 (1 + r19.1), .int .i64 (r23.1.1), .int .i64 (r23.1.2)] dQ ty59 rfl (by decide) (by decide) (by kernel_rfl)) ?_)
   rintro _ _ _ ⟨g26, rfl, rfl, rfl⟩
   refine ⟨(bV rfl rfl (fun F => (bI ty40 rfl (hs2.app F) rfl)) bU), ?_⟩
   refine gdo H fun h29 H => (cJ rfl (by decide) rfl cO rfl (n_app1O (l := r2.2.1.1.2.2) (α := Sample) ((1 + r19.1), r23.1) ((), ((), ())) dQ ty59 rfl rfl (h29.b (by decide)) h29.x rfl (.cons dl3 (.cons aA .nil)) cN) ?_)
   rintro _ _ _ ⟨a27, c28, rfl, rfl, rfl⟩
   refine ⟨(aM (by kernel_rfl) bU), ?_⟩
   refine w_p rfl (cB fa121_0 rfl rfl) (w_p rfl (cB fa42_2 rfl rfl) (cK rfl rfl cO rfl (n_store (cs' := [.slice x4.2.1.1.1.1 r2.2.1.1.1.1.length x4.2.1.1.1.2, .slice x4.2.1.1.2.1 r2.2.1.1.1.2.length x4.2.1.1.2.2, .slice x4.2.1.2.1.1 r2.2.1.1.2.1.length x4.2.1.2.1.2, .slice a27 ((r2.2.1.1.2.2 ++ [((1 + r19.1), r23.1)]).length) c28, .slice x4.2.2.1.1 r2.2.1.2.1.length x4.2.2.1.2, .slice x4.2.2.2.1.1 r2.2.1.2.2.1.length x4.2.2.2.1.2, .slice x4.2.2.2.2.1.1 r2.2.1.2.2.2.1.length x4.2.2.2.2.1.2, .int .i64 (r2.2.1.2.2.2.2)]) ty40 rfl rfl up2 rfl (one_of rfl) (Nat.le_of_ble_eq_true rfl) rfl) ?_))
   rintro _ _ _ ⟨rfl, rfl, rfl⟩
   refine ⟨(aM (by kernel_rfl) bU), ?_⟩
   refine cL ?_
   show At _ _ _ _ _ _
   refine nB (nT (sr (aI (bJ ty121 rfl hs2 rfl) (stb (cs' := [.slice x4.2.1.1.1.1 r2.2.1.1.1.1.length x4.2.1.1.1.2, .slice x4.2.1.1.2.1 r2.2.1.1.1.2.length x4.2.1.1.2.2, .slice x4.2.1.2.1.1 r2.2.1.1.2.1.length x4.2.1.2.1.2, .slice a27 ((r2.2.1.1.2.2 ++ [((1 + r19.1), r23.1)]).length) c28, .slice x4.2.2.1.1 r2.2.1.2.1.length x4.2.2.1.2, .slice x4.2.2.2.1.1 r2.2.1.2.2.1.length x4.2.2.2.1.2, .slice x4.2.2.2.2.1.1 r2.2.1.2.2.2.1.length x4.2.2.2.2.1.2, .int .i64 (r2.2.1.2.2.2.2)]) ty121 (up5t up1) (nl (bQ ?_))))))
   obtain rfl := si H
   exact back1 ((x4.2.1.1, x4.2.1.2.1, (a27, c28)), (x4.2.2.1, x4.2.2.2.1, x4.2.2.2.2.1, ())) rfl (ResV.agg ty121 rfl (hs5t hs1) rfl) rfl (cM aR.s (cM aR.s.s (cM aR.s.s.s cN))) (.cons aA (.cons dl2 (.cons dl2 (.cons dl2 (.cons aA .nil)))))
  ·refine sr (aG (cT rfl rfl) (aH rfl (nl (cH H rfl (fun h30 H => ?_) (fun h30 H => ?_)))))
   ·refine sr (aG (cB fa121_1 rfl rfl) (aG (cB fa76_0 rfl rfl) (aI (bI ty74 rfl hs1 rfl) (aG (bS 80 dX rfl) (aG (cV rfl rfl) (nl (cH H rfl (fun h31 H => ?_) (fun h31 H => ?_))))))))
    ·refine aP (aG (cB fa121_1 rfl rfl) (aG (cB fa76_0 rfl rfl) (aI (bI ty74 rfl hs1 rfl) (gdo H fun h32 H => (f2 (e_slO (l := r2.2.1.2.1) (α := File) 1 (r2.2.1.2.1.length : Int) dX ty80 rfl rfl (fun h => nomatch h) rfl (fun _ => rfl) h32 (.cons dl3 .nil) hs3) fun a33 c34 => (aG (cB fa121_1 rfl rfl) (aG (cB fa76_0 rfl rfl) (stb (cs' := [.slice x4.2.1.1.1.1 r2.2.1.1.1.1.length x4.2.1.1.1.2, .slice x4.2.1.1.2.1 r2.2.1.1.1.2.length x4.2.1.1.2.2, .slice x4.2.1.2.1.1 r2.2.1.1.2.1.length x4.2.1.2.1.2, .slice x4.2.1.2.2.1 r2.2.1.1.2.2.length x4.2.1.2.2.2, .slice a33 (((r2.2.1.2.1.take (r2.2.1.2.1.length : Int).toNat).drop 1).length) c34, .slice x4.2.2.2.1.1 r2.2.1.2.2.1.length x4.2.2.2.1.2, .slice x4.2.2.2.2.1.1 r2.2.1.2.2.2.1.length x4.2.2.2.2.1.2, .int .i64 (r2.2.1.2.2.2.2)]) ty74 up2 (aJ ?_)))))))))
     refine nB (nT (sr (aI (bJ ty121 rfl hs2 rfl) (stb (cs' := [.slice x4.2.1.1.1.1 r2.2.1.1.1.1.length x4.2.1.1.1.2, .slice x4.2.1.1.2.1 r2.2.1.1.1.2.length x4.2.1.1.2.2, .slice x4.2.1.2.1.1 r2.2.1.1.2.1.length x4.2.1.2.1.2, .slice x4.2.1.2.2.1 r2.2.1.1.2.2.length x4.2.1.2.2.2, .slice a33 (((r2.2.1.2.1.take (r2.2.1.2.1.length : Int).toNat).drop 1).length) c34, .slice x4.2.2.2.1.1 r2.2.1.2.2.1.length x4.2.2.2.1.2, .slice x4.2.2.2.2.1.1 r2.2.1.2.2.2.1.length x4.2.2.2.2.1.2, .int .i64 (r2.2.1.2.2.2.2)]) ty121 (up5t up1) (nl (bQ ?_))))))
     obtain rfl := si H
     exact back1 (x4.2.1, ((a33, c34), x4.2.2.2.1, x4.2.2.2.2.1, ())) rfl (ResV.agg ty121 rfl (hs5t hs1) rfl) rfl (cM aR.s (cM aR.s.s (cM aR.s.s.s cN))) (.cons dl3 (.cons aA (.cons dl2 (.cons dl2 (.cons aA .nil)))))
    ·refine bH (nB (nT (sr (aI (bJ ty121 rfl hs1 rfl) (stb (cs' := [.slice x4.2.1.1.1.1 r2.2.1.1.1.1.length x4.2.1.1.1.2, .slice x4.2.1.1.2.1 r2.2.1.1.1.2.length x4.2.1.1.2.2, .slice x4.2.1.2.1.1 r2.2.1.1.2.1.length x4.2.1.2.1.2, .slice x4.2.1.2.2.1 r2.2.1.1.2.2.length x4.2.1.2.2.2, .slice x4.2.2.1.1 r2.2.1.2.1.length x4.2.2.1.2, .slice x4.2.2.2.1.1 r2.2.1.2.2.1.length x4.2.2.2.1.2, .slice x4.2.2.2.2.1.1 r2.2.1.2.2.2.1.length x4.2.2.2.2.1.2, .int .i64 (r2.2.1.2.2.2.2)]) ty121 (up5t up1) (nl (bQ ?_)))))))
     obtain rfl := si H
     exact back1 (x4.2.1, (x4.2.2.1, x4.2.2.2.1, x4.2.2.2.2.1, ())) rfl (ResV.agg ty121 rfl (hs5t hs1) rfl) rfl (cM aR.s (cM aR.s.s (cM aR.s.s.s cN))) (.cons dl2 (.cons dl2 (.cons dl2 (.cons dl2 (.cons aA .nil)))))
   ·refine sr (aG (cT rfl rfl) (aH rfl (nl (cH H rfl (fun h35 H => ?_) (fun h35 H => ?_)))))
    ·refine dG [(4, .pointer (some ⟨g5, 0, none⟩)), (2, .pointer (some ⟨g1, 0, none⟩)), (0, .pointer (some ⟨g_v0, 0, none⟩))] 1 [0, 1, 2, 3, 4, 5, 6, 7, 8, 9] [4, 5, 6, 9] [] mixed (by kernel_rfl) (by decide) dI ⟨rfl, rfl, rfl, trivial⟩ rfl okNil (w_p rfl (cB fa121_1 rfl rfl) (w_p rfl (cB fa76_2 rfl rfl) ?_))
     refine w_o rfl (fun F => (bI ty35 rfl (hs1.app F) rfl)) (w_p rfl (aE rfl) (bdo H fun r36 h37 H => (cJ rfl (by decide) rfl cO rfl (n_callM (c_spec_l71Name g_v0 (v0.1, r6.2) (x_v0.1, ()) h37) (Solo.box bG) (fun _ => (bF (Solo.box bG))) rfl (.cons aA .nil) (aC (aL aR.s.s.s.s) aO)) ?_)))
     rintro _ _ _ ⟨x38, rfl, rfl, rfl⟩
     refine ⟨(bV rfl rfl (fun F => (bI ty35 rfl (hs2.app F) rfl)) bU), ?_⟩
     refine cJ rfl (by decide) rfl cO rfl (n_lit (vs := [(0, .slice x38.1 r36.1.length x38.2)]) [.slice x38.1 r36.1.length x38.2] dN ty105 rfl (by decide) (by decide) (by kernel_rfl)) ?_
     rintro _ _ _ ⟨g39, rfl, rfl, rfl⟩
     refine ⟨(bV rfl rfl (fun F => (bI ty35 rfl (hs3.app F) rfl)) bU), ?_⟩
     refine gdo H fun h42 H => (cJ rfl (by decide) rfl cO rfl (n_app1OT (l := r2.2.1.2.2.2.1) (α := (List Tag)) r36.1 x38 dN ty105 rfl rfl (h42.b (by decide)) h42.x rfl (.cons (dl5t dl2) (.cons aA (.cons aA .nil)))) ?_)
     rintro _ _ _ ⟨a40, c41, rfl, rfl, rfl⟩
     refine ⟨(aM (by kernel_rfl) bU), ?_⟩
     refine w_p rfl (cB fa121_1 rfl rfl) (w_p rfl (cB fa76_2 rfl rfl) (cK rfl rfl cO rfl (n_store (cs' := [.slice x4.2.1.1.1.1 r2.2.1.1.1.1.length x4.2.1.1.1.2, .slice x4.2.1.1.2.1 r2.2.1.1.1.2.length x4.2.1.1.2.2, .slice x4.2.1.2.1.1 r2.2.1.1.2.1.length x4.2.1.2.1.2, .slice x4.2.1.2.2.1 r2.2.1.1.2.2.length x4.2.1.2.2.2, .slice x4.2.2.1.1 r2.2.1.2.1.length x4.2.2.1.2, .slice x4.2.2.2.1.1 r2.2.1.2.2.1.length x4.2.2.2.1.2, .slice a40 ((r2.2.1.2.2.2.1 ++ [r36.1]).length) c41, .int .i64 (r2.2.1.2.2.2.2)]) ty35 rfl rfl up2 rfl (by simp [Value.cells, Value.oneCell']) (Nat.le_of_ble_eq_true rfl) rfl) ?_))
     rintro _ _ _ ⟨rfl, rfl, rfl⟩
     refine ⟨(aM (by kernel_rfl) bU), ?_⟩
     refine cL ?_
     show At _ _ _ _ _ _
     refine nB (nT (sr (aI (bJ ty121 rfl hs2 rfl) (g0 (e_store (cs' := [.slice x4.2.1.1.1.1 r2.2.1.1.1.1.length x4.2.1.1.1.2, .slice x4.2.1.1.2.1 r2.2.1.1.1.2.length x4.2.1.1.2.2, .slice x4.2.1.2.1.1 r2.2.1.1.2.1.length x4.2.1.2.1.2, .slice x4.2.1.2.2.1 r2.2.1.1.2.2.length x4.2.1.2.2.2, .slice x4.2.2.1.1 r2.2.1.2.1.length x4.2.2.1.2, .slice x4.2.2.2.1.1 r2.2.1.2.2.1.length x4.2.2.2.1.2, .slice a40 ((r2.2.1.2.2.2.1 ++ [r36.1]).length) c41, .int .i64 (r2.2.1.2.2.2.2)]) ty121 rfl rfl (up5t up1) rfl (by simp [Value.cells, Value.oneCell']) (Nat.le_of_ble_eq_true rfl) rfl) (nl (bQ ?_))))))
     obtain rfl := si H
     exact back1 (x4.2.1, (x4.2.2.1, x4.2.2.2.1, (a40, c41), ())) rfl (ResV.agg ty121 rfl (hs5t hs1) rfl) rfl (cM aR.s (cM aR.s.s (cM aR.s.s.s cN))) (.cons dl3 (.cons dl3 (.cons dl3 (.cons aA (.cons aA .nil)))))
    ·refine bH (nB (nT (sr (aI (bJ ty121 rfl hs1 rfl) (stb (cs' := [.slice x4.2.1.1.1.1 r2.2.1.1.1.1.length x4.2.1.1.1.2, .slice x4.2.1.1.2.1 r2.2.1.1.1.2.length x4.2.1.1.2.2, .slice x4.2.1.2.1.1 r2.2.1.1.2.1.length x4.2.1.2.1.2, .slice x4.2.1.2.2.1 r2.2.1.1.2.2.length x4.2.1.2.2.2, .slice x4.2.2.1.1 r2.2.1.2.1.length x4.2.2.1.2, .slice x4.2.2.2.1.1 r2.2.1.2.2.1.length x4.2.2.2.1.2, .slice x4.2.2.2.2.1.1 r2.2.1.2.2.2.1.length x4.2.2.2.2.1.2, .int .i64 (r2.2.1.2.2.2.2)]) ty121 (up5t up1) (nl (bQ ?_)))))))
     obtain rfl := si H
     exact back1 (x4.2.1, (x4.2.2.1, x4.2.2.2.1, x4.2.2.2.2.1, ())) rfl (ResV.agg ty121 rfl (hs5t hs1) rfl) rfl (cM aR.s (cM aR.s.s (cM aR.s.s.s cN))) (.cons dl2 (.cons dl2 (.cons dl2 (.cons dl2 (.cons aA .nil)))))
noncomputable def p_laws_lyRows_b0 (v0 : (List Row)) (v1 : (List Row)) (Q6 : Int) : Option ((Int) ⊕ (Unit ⊕ Bool)) := cond (decide (Q6 < (v0.length : Int))) (gd (ix Q6 v0.length) <| gd (ix Q6 v1.length) <| cond (!decide (nth v0 Q6.toNat = nth v1 Q6.toNat)) (some (.inr (.inr false))) (gd (I64 (Q6 + 1)) <| some (.inl (Q6 + 1)))) (some (.inr (.inl ())))
noncomputable def p_laws_lyRows (v0 : (List Row)) (v1 : (List Row)) : Option (Bool) := cond (!decide ((v0.length : Int) = (v1.length : Int))) (some false) (bd (lp (p_laws_lyRows_b0 v0 v1) 0) <| sw (fun _ => some true) (fun q => some q))
theorem c_laws_lyRows {r : Bool} (v0 : (List Row)) (x_v0 : Option Addr × Nat) (v1 : (List Row)) (x_v1 : Option Addr × Nat) (H : p_laws_lyRows v0 v1 = some r) : Fn' prog 26 #[.slice x_v0.1 v0.length x_v0.2, .slice x_v1.1 v1.length x_v1.2] [imm (.slice x_v0.1 v0.length x_v0.2) v0, imm (.slice x_v1.1 v1.length x_v1.2) v1] [] (ι := Unit) (fun _ => .bool (r)) (fun _ => []) (fun _ => []) := by
 refine cof (args := [_, _]) func26 ntmps26 fun c => ?_
 unfold p_laws_lyRows at H
 refine sr (aH (v := .bool (false)) rfl (nl (aD (sr (aF rfl (aG (bS 57 dU rfl) (aF rfl (aG (bS 57 dU rfl) (aG (cS rfl rfl) (nl (cH H rfl (fun h1 H => ?_) (fun h1 H => ?_))))))))))))
 ·refine sr (aH (v := .bool (false)) rfl (nl (bQ (rT (?_)))))
  obtain rfl := si H
  exact bk
 ·refine bH (nT (aD (sr (aH (v := .int .i64 (0)) rfl (nl (bdo H fun x2 hx3 H => (dC (Λ := Unit) H (fun _ _ => []) (fun _ _ => []) ?_ ?_)))))))
  ·refine aQ (dE hx3 () (fun Q6 _ => [(0, .slice x_v0.1 v0.length x_v0.2), (1, .slice x_v1.1 v1.length x_v1.2), (5, .int .i64 (Q6))]) (fun _ _ => []) bK ?_)
   rintro _ Q6 z7 t9 H1 hi10 hb11
   unfold p_laws_lyRows_b0 at H1
   refine aD (sr (aF rfl (aF rfl (aG (bS 57 dU rfl) (aG (cQ rfl rfl) (nl (cH H1 rfl (fun h14 H1 => ?_) (fun h14 H1 => ?_))))))))
   ·refine bH (nT (aD (aQ (aD (dF [(0, .slice x_v0.1 v0.length x_v0.2), (1, .slice x_v1.1 v1.length x_v1.2), (5, .int .i64 (Q6))] mixed (.inr (by kernel_rfl)) ⟨rfl, rfl, rfl, trivial⟩ rfl (bB rfl (bB rfl (gdo H1 fun h15 H1 => (aZ (bW dU ty57 rfl rfl h15 rfl (aN (aL aR))) (aZ (v := .agg #[.int .i64 ((nth v0 Q6.toNat).1), .int .i64 ((nth v0 Q6.toNat).2)]) (cA (i := Q6.toNat) ty57 rfl (aN (aL aR)) h15.lt) ?_))))))))))
    refine bB rfl (bB rfl (gdo H1 fun h16 H1 => (aZ (bW dU ty57 rfl rfl h16 rfl (aN (aL aR.s))) (aZ (v := .agg #[.int .i64 ((nth v1 Q6.toNat).1), .int .i64 ((nth v1 Q6.toNat).2)]) (cA (i := Q6.toNat) ty57 rfl (aN (aL aR.s)) h16.lt) (aX (v := .bool (!decide (nth v0 Q6.toNat = nth v1 Q6.toNat))) (p_aneq (a := nth v0 Q6.toNat) (b := nth v1 Q6.toNat) ae57 rfl rfl rfl rfl) (nT (cH H1 rfl (fun h17 H1 => ?_) (fun h17 H1 => ?_))))))))
    ·refine sr (aH (v := .bool (false)) rfl (nl (bQ (rB (rT (rT (rB (rT (rT (?_))))))))))
     obtain rfl := hb11 _ (sm H1)
     replace H := sw.r H
     obtain rfl := si H
     exact bk
    ·exact bH (nB (nT (aP (aF rfl (gdo H1 fun h18 H1 => (aG (bR rfl rfl h18) (aH rfl (aJ (nLI () (hi10 _ (sm H1)) bK)))))))))
   ·exact dA (xT (xT (xE (nMI () (hb11 _ (sm H1)) bK))))
  ·rintro e19 y8 H
   refine nT (sr (aH (v := .bool (true)) rfl (nl ?_)))
   obtain rfl := si H
   exact bQ bk
noncomputable def p_impl_BlockPut (v0 : (List Row)) (v1 : Row) : Option ((List Row) × Bool) := bd (bd (p_impl_BlockOk v0) fun r4 => cond (!r4) (some (true)) (bd (p_impl_rowOk v1) fun r7 => some (!r7))) fun b2 => cond (b2) (some (([] : List Row), false)) (bd (p_impl_put v0 v1) fun r12 => cond (decide (24 < (r12.length : Int))) (gd (room (([] : List Row).length + v0.length)) <| some (([] : List Row) ++ v0, false)) (some (r12, true)))
theorem c_impl_BlockPut {r : (List Row) × Bool} (v0 : (List Row)) (x_v0 : Option Addr × Nat) (v1 : Row) (H : p_impl_BlockPut v0 v1 = some r) : Fn' prog 30 #[.slice x_v0.1 v0.length x_v0.2, .agg #[.int .i64 (v1.1), .int .i64 (v1.2)]] [imm (.slice x_v0.1 v0.length x_v0.2) v0] [] (ι := (Option Addr × Nat) × Unit) (fun x => .tuple #[.slice x.1.1 r.1.length x.1.2, .bool (r.2)]) (fun _ => []) (fun x => [tree (.slice x.1.1 r.1.length x.1.2) r.1]) := by
 refine cof (args := [_, _]) func30 ntmps30 fun c => ?_
 unfold p_impl_BlockPut at H
 refine sr (f1 (cC (t := 57) rfl) fun g1 => (aH (v := .slice none 0 0) rfl (aH (v := .bool (false)) rfl (nl (aD (bdo H fun b2 j3 H => (dD [(14, .bool (b2)), (3, .pointer (some ⟨g1, 0, none⟩)), (0, .slice x_v0.1 v0.length x_v0.2)] ?_ ?_)))))))
 ·refine dH [(3, .pointer (some ⟨g1, 0, none⟩)), (0, .slice x_v0.1 v0.length x_v0.2)] ⟨rfl, rfl, trivial⟩ (bB rfl (bdo j3 fun r4 h5 j3 => (aZ (bN (c_impl_BlockOk v0 x_v0 h5) rfl (aC (aL aR) aO)) (aX (cW rfl) ?_))))
  rcases aK (!r4) with h6 | h6
  ·have j3 := cdT h6 j3
   refine bC (aE rfl) h6 ?_
   iterate 3 refine bE rfl ?_
   refine aX (v := .bool (true)) (bP rfl rfl) ?_
   obtain rfl := si j3
   show At _ _ _ _ _ _
   exact n1 ⟨rfl, rfl, rfl, trivial⟩
  ·have j3 := cdF h6 j3
   refine bC (aE rfl) h6 (bA rfl (bJ ty57 rfl aB rfl) (bdo j3 fun r7 h8 j3 => (bA rfl (bN (c_impl_rowOk v1 h8) rfl aO) (aY rfl (cW rfl) (aX (bO rfl rfl) ?_)))))
   obtain rfl := si j3
   show At _ _ _ _ _ _
   exact n1 ⟨rfl, rfl, rfl, trivial⟩
 refine cH H rfl (fun h9 H => ?_) (fun h9 H => ?_)
 ·refine sr (f2 (e_lit0 Row dU ty57) fun a10 c11 => (aH rfl (aH (v := .bool (false)) rfl (nl (bQ (rT (?_)))))))
  obtain rfl := si H
  exact back2 ((a10, c11), ()) rfl (ResV.tmp (v := .slice a10 (([] : List Row).length) c11) rfl) (ResV.tmp (v := .bool (false)) rfl) rfl cN (.cons aA .nil)
 ·refine bH (nT (sr (aF rfl (aI (bJ ty57 rfl aB rfl) (bdo H fun r12 h13 H => (f1 (cF (c_impl_put v0 x_v0 v1 h13) (fun _ => (bF bG)) rfl (aC (aL aR) aO)) fun x14 => (aH rfl (nl (aD (sr (aF rfl ?_)))))))))))
  refine aG (bS 57 dU rfl) (aG (cV rfl rfl) (nl (cH H rfl (fun h15 H => ?_) (fun h15 H => ?_))))
  ·refine sr (f2 (e_lit0 Row dU ty57) fun a16 c17 => (aF rfl (gdo H fun h20 H => (f2 (e_appF (l := ([] : List Row)) (k := v0) (α := Row) dU ty57 rfl rfl (h20.b (by decide)) h20.x (.cons aA .nil) (aL aR)) fun a18 c19 => (aH rfl (aH (v := .bool (false)) rfl (nl (bQ (rT (?_))))))))))
   obtain rfl := si H
   exact back2 ((a18, c19), ()) rfl (ResV.tmp (v := .slice a18 ((([] : List Row) ++ v0).length) c19) rfl) (ResV.tmp (v := .bool (false)) rfl) rfl cN (.cons aA .nil)
  ·refine bH (nT (sr (aF rfl (aH rfl (aH (v := .bool (true)) rfl (nl (bQ ?_)))))))
   obtain rfl := si H
   exact back2 (x14, ()) rfl (ResV.tmp (v := .slice x14.1 r12.length x14.2) rfl) (ResV.tmp (v := .bool (true)) rfl) rfl cN (.cons aA .nil)
noncomputable def p_impl_clonePart_b0 (v0 : Part) (Q16 : (List (List Row)) × Int) : Option (((List (List Row)) × Int) ⊕ ((List (List Row)))) := cond (decide (Q16.2 < (v0.2.length : Int))) (gd (ix Q16.2 v0.2.length) <| gd (room (([] : List Row).length + (nth v0.2 Q16.2.toNat).length)) <| gd (room (Q16.1.length + 1)) <| gd (I64 (Q16.2 + 1)) <| some (.inl ((Q16.1 ++ [([] : List Row) ++ (nth v0.2 Q16.2.toNat)]), Q16.2 + 1))) (some (.inr Q16.1))
noncomputable def p_impl_clonePart (v0 : Part) : Option (Part) := gd (room (([] : List Int).length + v0.1.length)) <| bd (lp (p_impl_clonePart_b0 v0) (([] : List (List Row)), 0)) fun x12 => some ((([] : List Int) ++ v0.1), x12)
theorem c_impl_clonePart {r : Part} (v0 : Part) (x_v0 : (Option Addr × Nat) × (Option Addr × Nat)) (H : p_impl_clonePart v0 = some r) : Fn' prog 139 #[.agg #[.slice x_v0.1.1 v0.1.length x_v0.1.2, .slice x_v0.2.1 v0.2.length x_v0.2.2]] [imm (.slice x_v0.1.1 v0.1.length x_v0.1.2) v0.1, imm (.slice x_v0.2.1 v0.2.length x_v0.2.2) v0.2] [] (ι := (Option Addr × Nat) × (Option Addr × Nat)) (fun x => .agg #[.slice x.1.1 r.1.length x.1.2, .slice x.2.1 r.2.length x.2.2]) (fun _ => []) (fun x => [tree (.slice x.1.1 r.1.length x.1.2) r.1, tree (.slice x.2.1 r.2.length x.2.2) r.2]) := by
 refine cof (args := [_]) func139 ntmps139 fun c => ?_
 unfold p_impl_clonePart at H
 refine bM aR.s fun X1 => (sr (f1 (cC (t := 72) rfl) fun g2 => (f1 (cD ty72) fun g3 => (nl (sr (f2 (e_lit0 Int dV ty3) fun a4 c5 => (aG (cB fa72_0 rfl rfl) (aI (bI ty69 rfl hs2 rfl) (gdo H fun h8 H => ?_)))))))))
 refine f2 (e_appF (l := ([] : List Int)) (k := v0.1) (α := Int) dV ty3 rfl rfl (h8.b (by decide)) h8.x (.cons aA .nil) (aL aR.s)) fun a6 c7 => (f2 (e_lit0 (List Row) dW ty63) fun a9 c10 => (aG (v := .agg #[.slice a6 ((([] : List Int) ++ v0.1).length) c7, .slice a9 (([] : List (List Row)).length) c10]) (p_buildS (vs := [(0, .slice a6 ((([] : List Int) ++ v0.1).length) c7), (1, .slice a9 (([] : List (List Row)).length) c10)]) (cs := #[.slice a6 ((([] : List Int) ++ v0.1).length) c7, .slice a9 (([] : List (List Row)).length) c10]) ty72 pl72 rfl rfl) (f1 (cD ty72) fun g11 => (stb (cs' := [.slice a6 ((([] : List Int) ++ v0.1).length) c7, .slice a9 (([] : List (List Row)).length) c10]) ty72 cY (nl (aD (sr (aG (cB fa72_1 rfl rfl) (aI (bI ty70 rfl hs4 rfl) (aG (bS 63 dW rfl) ?_))))))))))
 refine aF (v := .int .i64 (0)) rfl (nl (bdo H fun x12 hx13 H => (dB (ι := Option Addr × Nat) (fun ψ => [(2, .pointer (some ⟨g3, 0, none⟩)), (3, .pointer (some ⟨g11, 0, none⟩))]) (fun ψ => [box g3 72 [.slice none 0 0, .slice none 0 0], tree (.slice a6 ((([] : List Int) ++ v0.1).length) c7) (([] : List Int) ++ v0.1), tree (.slice ψ.1 x12.length ψ.2) x12, box g11 72 [.slice a6 ((([] : List Int) ++ v0.1).length) c7, .slice ψ.1 x12.length ψ.2]]) ?_ ?_)))
 ·refine aQ (dE hx13 (a9, c10) (fun Q16 _ => [(2, .pointer (some ⟨g3, 0, none⟩)), (3, .pointer (some ⟨g11, 0, none⟩)), (13, .slice x_v0.2.1 v0.2.length x_v0.2.2), (14, .int .i64 ((v0.2.length : Int))), (15, .int .i64 (Q16.2))]) (fun Q16 z17 => [box g3 72 [.slice none 0 0, .slice none 0 0], tree (.slice a6 ((([] : List Int) ++ v0.1).length) c7) (([] : List Int) ++ v0.1), tree (.slice z17.1 Q16.1.length z17.2) Q16.1, box g11 72 [.slice a6 ((([] : List Int) ++ v0.1).length) c7, .slice z17.1 Q16.1.length z17.2]]) (.cons dl3 (.cons dl2 (.cons dl1 (.cons aA .nil)))) ?_)
  rintro _ Q16 z17 t19 H1 hi20 hb21
  unfold p_impl_clonePart_b0 at H1
  refine sr (aG (cQ rfl rfl) (nl (aD (cH H1 rfl (fun h24 H1 => ?_) (fun h24 H1 => ?_)))))
  ·refine bH (nT (aD (aQ (sr (gdo H1 fun h25 H1 => (aI (bW dW ty63 rfl rfl h25 rfl (aL (aT aR))) (aI (bZ (i := Q16.2.toNat) (j := 0) ty63 rfl (aL (aT aR)) h25.lt rfl) (aH rfl (nl (dG [(5, .slice ((X1 Q16.2.toNat).1) ((nth v0.2 Q16.2.toNat).length) ((X1 Q16.2.toNat).2.1)), (2, .pointer (some ⟨g3, 0, none⟩)), (3, .pointer (some ⟨g11, 0, none⟩)), (13, .slice x_v0.2.1 v0.2.length x_v0.2.2), (14, .int .i64 ((v0.2.length : Int))), (15, .int .i64 (Q16.2))] 2 [0, 1, 3, 2, 4, 5, 6, 7, 8] [2, 4, 5, 6, 8] [] mixed (by kernel_rfl) (by decide) dI ⟨rfl, rfl, rfl, rfl, rfl, rfl, trivial⟩ rfl okNil (w_p rfl (cB fa72_1 rfl rfl) ?_)))))))))))
   refine w_o rfl (fun F => (bI ty70 rfl (hs3.app F) rfl)) (w_p rfl (aE rfl) (cJ rfl (by decide) rfl cO rfl (n_lit0 Row dU ty57) ?_))
   rintro _ _ _ ⟨a26, c27, rfl, rfl, rfl⟩
   refine ⟨(bV rfl rfl (fun F => (bI ty70 rfl (hs4.app F) rfl)) bU), ?_⟩
   refine gdo H1 fun h30 H1 => (cJ rfl (by decide) rfl cO rfl (n_appF (l := ([] : List Row)) (k := nth v0.2 Q16.2.toNat) (α := Row) dU ty57 rfl rfl (h30.b (by decide)) h30.x (.cons aA .nil) (aL (aS (aW aR h25.lt)))) ?_)
   rintro _ _ _ ⟨a28, c29, rfl, rfl, rfl⟩
   refine ⟨(bV rfl rfl (fun F => (bI ty70 rfl (hs4.app F) rfl)) bU), ?_⟩
   refine cJ rfl (by decide) rfl cO rfl (n_lit (vs := [(0, .slice a28 ((([] : List Row) ++ (nth v0.2 Q16.2.toNat)).length) c29)]) [.slice a28 ((([] : List Row) ++ (nth v0.2 Q16.2.toNat)).length) c29] dW ty63 rfl (by decide) (by decide) (by kernel_rfl)) ?_
   rintro _ _ _ ⟨g31, rfl, rfl, rfl⟩
   refine ⟨(bV rfl rfl (fun F => (bI ty70 rfl (hs5.app F) rfl)) bU), ?_⟩
   refine gdo H1 fun h34 H1 => (cJ rfl (by decide) rfl cO rfl (n_app1 (l := Q16.1) (α := (List Row)) (([] : List Row) ++ (nth v0.2 Q16.2.toNat)) (a28, c29) dW ty63 rfl rfl (h34.b (by decide)) h34.x rfl (cX _) (.cons dl4 (.cons aA (.cons aA .nil)))) ?_)
   rintro _ _ _ ⟨a32, c33, rfl, rfl, rfl⟩
   refine ⟨(aM (by kernel_rfl) bU), ?_⟩
   refine w_p rfl (cB fa72_1 rfl rfl) (cK rfl rfl cO rfl (n_store (cs' := [.slice a6 ((([] : List Int) ++ v0.1).length) c7, .slice a32 ((Q16.1 ++ [([] : List Row) ++ (nth v0.2 Q16.2.toNat)]).length) c33]) ty70 rfl rfl up3 rfl (one_of rfl) (Nat.le_of_ble_eq_true rfl) rfl) ?_)
   rintro _ _ _ ⟨rfl, rfl, rfl⟩
   refine ⟨(aM (by kernel_rfl) bU), ?_⟩
   refine cL ?_
   show At _ _ _ _ _ _
   exact nB (nT (aP (gdo H1 fun h35 H1 => (aG (bR rfl rfl h35) (aF rfl (aJ (nLI (a32, c33) (hi20 _ (sm H1)) (.cons dl1 (.cons dl1 (.cons aA (.cons aA .nil)))))))))))
  ·refine dA (xT (xT (xE (?_))))
   obtain rfl := hb21 _ (sm H1)
   exact nMC (z17.1, z17.2) ⟨rfl, rfl, trivial⟩ bT (.cons aA (.cons aA (.cons aA (.cons aA .nil))))
 ·intro y18
  show At _ _ [(2, .pointer (some ⟨g3, 0, none⟩)), (3, .pointer (some ⟨g11, 0, none⟩))] _ [box g3 72 [.slice none 0 0, .slice none 0 0], tree (.slice a6 ((([] : List Int) ++ v0.1).length) c7) (([] : List Int) ++ v0.1), tree (.slice y18.1 x12.length y18.2) x12, box g11 72 [.slice a6 ((([] : List Int) ++ v0.1).length) c7, .slice y18.1 x12.length y18.2]] _
  refine nT (sr (aI (bJ ty72 rfl hs3 rfl) (stb (cs' := [.slice a6 ((([] : List Int) ++ v0.1).length) c7, .slice y18.1 x12.length y18.2]) ty72 cY (nl (bQ ?_)))))
  obtain rfl := si H
  exact back1 ((a6, c7), y18) rfl (ResV.agg ty72 rfl aB rfl) rfl cN (.cons dl1 (.cons dl1 .nil))
noncomputable def p_spec_DrawStoreFlush_b0 (r2 : L6Rd) (Q13 : Int × (List (List Tag)) × (List Post) × (List Part) × (List Sample) × Int) : Option ((Int × (List (List Tag)) × (List Post) × (List Part) × (List Sample) × Int) ⊕ ((List (List Tag)) × (List Post) × (List Part) × (List Sample))) := cond (decide (Q13.2.2.2.2.2 < 3)) (cond (decide ((Q13.2.2.2.2.1.length : Int) = 0)) (bd (p_spec_l6Rd_pick (r2.1, Q13.1) 8) fun r23 => cond (decide (0 < r23.1)) (bd (p_spec_l72World (r2.1, r23.2)) fun r27 => gd (I64 (Q13.2.2.2.2.2 + 1)) <| some (.inl (r27.2, r27.1.1.1.1, r27.1.1.1.2, r27.1.1.2.1, r27.1.1.2.2, Q13.2.2.2.2.2 + 1))) (some (.inr (Q13.2.1, Q13.2.2.1, Q13.2.2.2.1, Q13.2.2.2.2.1)))) (some (.inr (Q13.2.1, Q13.2.2.1, Q13.2.2.2.1, Q13.2.2.2.2.1)))) (some (.inr (Q13.2.1, Q13.2.2.1, Q13.2.2.2.1, Q13.2.2.2.2.1)))
noncomputable def p_spec_DrawStoreFlush (v0 : (List UInt8)) : Option (Store) := bd (p_spec_l6Open v0) fun r2 => bd (p_spec_l72World r2) fun r5 => bd (lp (p_spec_DrawStoreFlush_b0 r2) (r5.2, r5.1.1.1.1, r5.1.1.1.2, r5.1.1.2.1, r5.1.1.2.2, 0)) fun x9 => some ((x9.1, x9.2.1), x9.2.2.1, x9.2.2.2)
theorem c_spec_DrawStoreFlush {r : Store} (v0 : (List UInt8)) (x_v0 : Option Addr × Nat) (H : p_spec_DrawStoreFlush v0 = some r) : Fn' prog 35 #[.slice x_v0.1 v0.length x_v0.2] [imm (.slice x_v0.1 v0.length x_v0.2) v0] [] (ι := ((Option Addr × Nat) × (Option Addr × Nat)) × (Option Addr × Nat) × (Option Addr × Nat)) (fun x => .agg #[.slice x.1.1.1 r.1.1.length x.1.1.2, .slice x.1.2.1 r.1.2.length x.1.2.2, .slice x.2.1.1 r.2.1.length x.2.1.2, .slice x.2.2.1 r.2.2.length x.2.2.2]) (fun x => [imm (.slice x.1.1.1 r.1.1.length x.1.1.2) r.1.1, imm (.slice x.1.2.1 r.1.2.length x.1.2.2) r.1.2, imm (.slice x.2.1.1 r.2.1.length x.2.1.2) r.2.1, imm (.slice x.2.2.1 r.2.2.length x.2.2.2) r.2.2]) (fun _ => []) := by
 refine cof (args := [_]) func35 ntmps35 fun c => ?_
 unfold p_spec_DrawStoreFlush at H
 refine sr (f1 (cD ty42) fun g1 => (nl (sr (aF rfl (bdo H fun r2 h3 H => (f1 (e_call (c_spec_l6Open v0 x_v0 h3) rfl (cM aR cN) bK) fun x4 => (aH rfl (nl (sr (aF rfl ?_))))))))))
 refine bdo H fun r5 h6 H => (f1 (e_call (c_spec_l72World x4.1 r2 (x4.2.1, ()) h6) rfl (cM aR cN) (.cons aA .nil)) fun x7 => (aG (v := .agg #[.slice x7.1.1.1.1 r5.1.1.1.1.length x7.1.1.1.2, .slice x7.1.1.2.1 r5.1.1.1.2.length x7.1.1.2.2, .slice x7.1.2.1.1 r5.1.1.2.1.length x7.1.2.1.2, .slice x7.1.2.2.1 r5.1.1.2.2.length x7.1.2.2.2]) ((p_fieldA (vs := #[.slice x7.1.1.1.1 r5.1.1.1.1.length x7.1.1.1.2, .slice x7.1.1.2.1 r5.1.1.1.2.length x7.1.1.2.2, .slice x7.1.2.1.1 r5.1.1.2.1.length x7.1.2.1.2, .slice x7.1.2.2.1 r5.1.1.2.2.length x7.1.2.2.2]) underlying121 rfl ty42 rfl rfl)) (f1 (cD ty42) fun g8 => (stb (cs' := [.slice x7.1.1.1.1 r5.1.1.1.1.length x7.1.1.1.2, .slice x7.1.1.2.1 r5.1.1.1.2.length x7.1.1.2.2, .slice x7.1.2.1.1 r5.1.1.2.1.length x7.1.2.1.2, .slice x7.1.2.2.1 r5.1.1.2.2.length x7.1.2.2.2]) ty42 cY (nl (aD (sr (aH (v := .int .i64 (0)) rfl (nl (bdo H fun x9 hx10 H => ?_))))))))))
 obtain ⟨n11, hx10⟩ := lp.of hx10
 refine tMidNF (ι := (Option Addr × Nat) × (Option Addr × Nat) × (Option Addr × Nat) × (Option Addr × Nat)) (fun ψ => [(2, .pointer (some ⟨g1, 0, none⟩)), (4, .pointer (some ⟨g8, 0, none⟩))]) (fun ψ => [imm (.slice ψ.1.1 x9.1.length ψ.1.2) x9.1, imm (.slice ψ.2.1.1 x9.2.1.length ψ.2.1.2) x9.2.1, imm (.slice ψ.2.2.1.1 x9.2.2.1.length ψ.2.2.1.2) x9.2.2.1]) (fun ψ => [box g1 42 [.slice none 0 0, .slice none 0 0, .slice none 0 0, .slice none 0 0], orow (.slice ψ.2.2.2.1 x9.2.2.2.length ψ.2.2.2.2) x9.2.2.2, box g8 42 [.slice ψ.1.1 x9.1.length ψ.1.2, .slice ψ.2.1.1 x9.2.1.length ψ.2.1.2, .slice ψ.2.2.1.1 x9.2.2.1.length ψ.2.2.1.2, .slice ψ.2.2.2.1 x9.2.2.2.length ψ.2.2.2.2]]) ?_ ?_
 ·refine aQ (tLoopF (ι := { q : Nat × (Int × (List (List Tag)) × (List Post) × (List Part) × (List Sample) × Int) × ((Option Addr × Nat) × (Option Addr × Nat) × (Option Addr × Nat) × (Option Addr × Nat)) // itr (p_spec_DrawStoreFlush_b0 r2) q.1 q.2.1 = some x9 }) (fun ζ => [(2, .pointer (some ⟨g1, 0, none⟩)), (3, .pointer (some ⟨x4.1, 0, none⟩)), (4, .pointer (some ⟨g8, 0, none⟩)), (5, .int .i64 (ζ.1.2.1.2.2.2.2.2))]) (fun ζ => [imm (.slice ζ.1.2.2.1.1 ζ.1.2.1.2.1.length ζ.1.2.2.1.2) ζ.1.2.1.2.1, imm (.slice ζ.1.2.2.2.1.1 ζ.1.2.1.2.2.1.length ζ.1.2.2.2.1.2) ζ.1.2.1.2.2.1, imm (.slice ζ.1.2.2.2.2.1.1 ζ.1.2.1.2.2.2.1.length ζ.1.2.2.2.2.1.2) ζ.1.2.1.2.2.2.1]) (fun ζ => [box g1 42 [.slice none 0 0, .slice none 0 0, .slice none 0 0, .slice none 0 0], box x4.1 169 [.slice x4.2.1.1 r2.1.length x4.2.1.2, .int .i64 (ζ.1.2.1.1)], orow (.slice ζ.1.2.2.2.2.2.1 ζ.1.2.1.2.2.2.2.1.length ζ.1.2.2.2.2.2.2) ζ.1.2.1.2.2.2.2.1, box g8 42 [.slice ζ.1.2.2.1.1 ζ.1.2.1.2.1.length ζ.1.2.2.1.2, .slice ζ.1.2.2.2.1.1 ζ.1.2.1.2.2.1.length ζ.1.2.2.2.1.2, .slice ζ.1.2.2.2.2.1.1 ζ.1.2.1.2.2.2.1.length ζ.1.2.2.2.2.1.2, .slice ζ.1.2.2.2.2.2.1 ζ.1.2.1.2.2.2.2.1.length ζ.1.2.2.2.2.2.2]]) (fun ζ => ζ.1.1) ⟨(n11, (r5.2, r5.1.1.1.1, r5.1.1.1.2, r5.1.1.2.1, r5.1.1.2.2, 0), ((x7.1.1.1.1, x7.1.1.1.2), (x7.1.1.2.1, x7.1.1.2.2), (x7.1.2.1.1, x7.1.2.1.2), (x7.1.2.2.1, x7.1.2.2.2))), hx10⟩ ⟨rfl, rfl, rfl, rfl, trivial⟩ (cM aR (cM aR.s (cM aR.s.s cN))) (.cons (dl5t dl1) (.cons dl5 (.cons dl1 (.cons aA .nil)))) ?_)
  rintro ⟨⟨m12, Q13, z14⟩, hk19⟩
  obtain ⟨m20, t16, e, H1, hi17, hb18⟩ := itr.of (n := m12) (s := Q13) hk19
  subst e; unfold p_spec_DrawStoreFlush_b0 at H1
  show Tr _ _ _ _ _ [(2, .pointer (some ⟨g1, 0, none⟩)), (3, .pointer (some ⟨x4.1, 0, none⟩)), (4, .pointer (some ⟨g8, 0, none⟩)), (5, .int .i64 (Q13.2.2.2.2.2))] (imm (.slice z14.1.1 Q13.2.1.length z14.1.2) Q13.2.1 :: imm (.slice z14.2.1.1 Q13.2.2.1.length z14.2.1.2) Q13.2.2.1 :: imm (.slice z14.2.2.1.1 Q13.2.2.2.1.length z14.2.2.1.2) Q13.2.2.2.1 :: _) [box g1 42 [.slice none 0 0, .slice none 0 0, .slice none 0 0, .slice none 0 0], box x4.1 169 [.slice x4.2.1.1 r2.1.length x4.2.1.2, .int .i64 (Q13.1)], orow (.slice z14.2.2.2.1 Q13.2.2.2.2.1.length z14.2.2.2.2) Q13.2.2.2.2.1, box g8 42 [.slice z14.1.1 Q13.2.1.length z14.1.2, .slice z14.2.1.1 Q13.2.2.1.length z14.2.1.2, .slice z14.2.2.1.1 Q13.2.2.2.1.length z14.2.2.1.2, .slice z14.2.2.2.1 Q13.2.2.2.2.1.length z14.2.2.2.2]]
  refine aD (sr (aF rfl (aG (cQ rfl rfl) ?_)))
  rcases aK (decide (Q13.2.2.2.2.2 < 3)) with h21 | h21
  ·have H1 := cdT h21 H1
   refine Rg.e_ (aE rfl) h21 (Rg.g (v := .pointer (some ⟨g8, 3, none⟩)) rfl (Pu.qo (cB fa42_2 rfl rfl)) (by decide) (Rg.g (v := .slice z14.2.2.2.1 Q13.2.2.2.2.1.length z14.2.2.2.2) rfl (bI ty40 rfl hs3 rfl) (by decide) (Rg.g (v := .int .i64 ((Q13.2.2.2.2.1.length : Int))) rfl (Pu.qo (bS 59 dQ rfl)) (by decide) (Rg.g (v := .bool (decide ((Q13.2.2.2.2.1.length : Int) = 0))) rfl (Pu.qo (cT rfl rfl)) (by decide) (aG (bP rfl rfl) ?_)))))
   rcases aK (decide ((Q13.2.2.2.2.1.length : Int) = 0)) with h22 | h22
   ·have H1 := cdT h22 H1
    refine Rg.e_ (aE rfl) h22 (Rg.g (v := .pointer (some ⟨x4.1, 0, none⟩)) rfl (Pu.qo (aE rfl)) (by decide) (bdo H1 fun r23 h24 H1 => (f1 (cG (c_spec_l6Rd_pick x4.1 (r2.1, Q13.1) (x4.2.1, ()) 8 h24) (Solo.box bG) (fun _ => (Solo.box bG)) rfl (.cons dl1 .nil) (aC (aL aR.s.s.s.s.s.s) aO)) fun u25 => (Rg.g (v := .bool (decide (0 < r23.1))) rfl (Pu.qo (cV rfl rfl)) (by decide) (aG (bP rfl rfl) (nl (cH H1 rfl (fun h26 H1 => ?_) (fun h26 H1 => ?_))))))))
    ·refine bH (nT (aD (aQ (aP (aF rfl (bdo H1 fun r27 h28 H1 => (f1 (e_call (c_spec_l72World x4.1 (r2.1, r23.2) (x4.2.1, ()) h28) rfl (cM aR.s.s.s.s.s.s cN) (.cons aA .nil)) fun x29 => (aG (v := .agg #[.slice x29.1.1.1.1 r27.1.1.1.1.length x29.1.1.1.2, .slice x29.1.1.2.1 r27.1.1.1.2.length x29.1.1.2.2, .slice x29.1.2.1.1 r27.1.1.2.1.length x29.1.2.1.2, .slice x29.1.2.2.1 r27.1.1.2.2.length x29.1.2.2.2]) ((p_fieldA (vs := #[.slice x29.1.1.1.1 r27.1.1.1.1.length x29.1.1.1.2, .slice x29.1.1.2.1 r27.1.1.1.2.length x29.1.1.2.2, .slice x29.1.2.1.1 r27.1.1.2.1.length x29.1.2.1.2, .slice x29.1.2.2.1 r27.1.1.2.2.length x29.1.2.2.2]) underlying121 rfl ty42 rfl rfl)) (stb (cs' := [.slice x29.1.1.1.1 r27.1.1.1.1.length x29.1.1.1.2, .slice x29.1.1.2.1 r27.1.1.1.2.length x29.1.1.2.2, .slice x29.1.2.1.1 r27.1.1.2.1.length x29.1.2.1.2, .slice x29.1.2.2.1 r27.1.1.2.2.length x29.1.2.2.2]) ty42 (up5t up2) (aJ ?_))))))))))
     exact nB (nT (aP (aF rfl (gdo H1 fun h30 H1 => (aG (bR rfl rfl h30) (aH rfl (aJ (nLF ⟨(m20, (r27.2, r27.1.1.1.1, r27.1.1.1.2, r27.1.1.2.1, r27.1.1.2.2, Q13.2.2.2.2.2 + 1), ((x29.1.1.1.1, x29.1.1.1.2), (x29.1.1.2.1, x29.1.1.2.2), (x29.1.2.1.1, x29.1.2.1.2), (x29.1.2.2.1, x29.1.2.2.2))), hi17 _ (sm H1)⟩ (Nat.lt_succ_self _) ⟨rfl, rfl, rfl, rfl, trivial⟩ (cM aR (cM aR.s (cM aR.s.s cN))) bT.s.s.s.s.s.s (.cons dl5 (.cons dl4 (.cons aA (.cons dl4 .nil))))))))))))
    ·refine dA (xT (xT (xE (?_))))
     obtain rfl := hb18 _ (sm H1)
     exact nMF ((z14.1.1, z14.1.2), (z14.2.1.1, z14.2.1.2), (z14.2.2.1.1, z14.2.2.1.2), (z14.2.2.2.1, z14.2.2.2.2)) ⟨rfl, rfl, trivial⟩ (cM aR (cM aR.s (cM aR.s.s cN))) bT.s.s.s (.cons dl1 (.cons dl1 (.cons dl1 .nil)))
   ·have H1 := cdF h22 H1
    refine Rg.e_ (aE rfl) h22 (Rg.skip rfl (by decide) (Rg.skip rfl (by decide) (Rg.skip rfl (by decide) (aG (v := .bool (false)) (bO rfl rfl) (nl (Tr.condF rfl (dA (xT (xT (xE (?_)))))))))))
    obtain rfl := hb18 _ (sm H1)
    exact nMF ((z14.1.1, z14.1.2), (z14.2.1.1, z14.2.1.2), (z14.2.2.1.1, z14.2.2.1.2), (z14.2.2.2.1, z14.2.2.2.2)) ⟨rfl, rfl, trivial⟩ (cM aR (cM aR.s (cM aR.s.s cN))) bT.s.s.s (.cons aA (.cons dl1 (.cons dl1 .nil)))
  ·have H1 := cdF h21 H1
   refine Rg.e_ (aE rfl) h21 (Rg.skip rfl (by decide) (Rg.skip rfl (by decide) (Rg.skip rfl (by decide) (Rg.skip rfl (by decide) (aG (v := .bool (false)) (bO rfl rfl) (aF (v := .bool (false)) rfl (Rg.skip rfl (by decide) (Rg.skip rfl (by decide) (Rg.skip rfl (by decide) ?_)))))))))
   refine aG (v := .bool (false)) (bO rfl rfl) (nl (Tr.condF rfl (dA (xT (xT (xE (?_)))))))
   obtain rfl := hb18 _ (sm H1)
   exact nMF ((z14.1.1, z14.1.2), (z14.2.1.1, z14.2.1.2), (z14.2.2.1.1, z14.2.2.1.2), (z14.2.2.2.1, z14.2.2.2.2)) ⟨rfl, rfl, trivial⟩ (cM aR (cM aR.s (cM aR.s.s cN))) bT.s.s.s (.cons aA (.cons dl1 (.cons dl1 .nil)))
 ·intro y15
  show At _ _ [(2, .pointer (some ⟨g1, 0, none⟩)), (4, .pointer (some ⟨g8, 0, none⟩))] (imm (.slice y15.1.1 x9.1.length y15.1.2) x9.1 :: imm (.slice y15.2.1.1 x9.2.1.length y15.2.1.2) x9.2.1 :: imm (.slice y15.2.2.1.1 x9.2.2.1.length y15.2.2.1.2) x9.2.2.1 :: _) [box g1 42 [.slice none 0 0, .slice none 0 0, .slice none 0 0, .slice none 0 0], orow (.slice y15.2.2.2.1 x9.2.2.2.length y15.2.2.2.2) x9.2.2.2, box g8 42 [.slice y15.1.1 x9.1.length y15.1.2, .slice y15.2.1.1 x9.2.1.length y15.2.1.2, .slice y15.2.2.1.1 x9.2.2.1.length y15.2.2.1.2, .slice y15.2.2.2.1 x9.2.2.2.length y15.2.2.2.2]] _
  refine nT (sr (aI (bJ ty42 rfl hs2 rfl) (stb (cs' := [.slice y15.1.1 x9.1.length y15.1.2, .slice y15.2.1.1 x9.2.1.length y15.2.1.2, .slice y15.2.2.1.1 x9.2.2.1.length y15.2.2.1.2, .slice y15.2.2.2.1 x9.2.2.2.length y15.2.2.2.2]) ty42 cY (nl (Tr.freezeO (.cons dl1 .nil) (bQ ?_))))))
  obtain rfl := si H
  exact back1 ((y15.1, y15.2.1), y15.2.2.1, y15.2.2.2) rfl (ResV.agg ty42 rfl aB rfl) rfl (cM aR.s (cM aR.s.s (cM aR.s.s.s (cM aR cN)))) bK
noncomputable def p_spec_StoreFlush (v0 : Store) : Option (Store × Bool) := bd (p_spec_StoreOk v0) fun r6 => cond (!r6) (some (((([]), ([])), ([]), ([])), false)) (bd (p_spec_l13Copy v0) fun r9 => bd (p_spec_l13Flush r9) fun r12 => some (r12.1, r12.2))
theorem c_spec_StoreFlush {r : Store × Bool} (v0 : Store) (x_v0 : ((Option Addr × Nat) × (Option Addr × Nat)) × (Option Addr × Nat) × (Option Addr × Nat)) (H : p_spec_StoreFlush v0 = some r) : Fn' prog 36 #[.agg #[.slice x_v0.1.1.1 v0.1.1.length x_v0.1.1.2, .slice x_v0.1.2.1 v0.1.2.length x_v0.1.2.2, .slice x_v0.2.1.1 v0.2.1.length x_v0.2.1.2, .slice x_v0.2.2.1 v0.2.2.length x_v0.2.2.2]] [imm (.slice x_v0.1.1.1 v0.1.1.length x_v0.1.1.2) v0.1.1, imm (.slice x_v0.1.2.1 v0.1.2.length x_v0.1.2.2) v0.1.2, imm (.slice x_v0.2.1.1 v0.2.1.length x_v0.2.1.2) v0.2.1, imm (.slice x_v0.2.2.1 v0.2.2.length x_v0.2.2.2) v0.2.2] [] (ι := (((Option Addr × Nat) × (Option Addr × Nat)) × (Option Addr × Nat) × (Option Addr × Nat)) × Unit) (fun x => .tuple #[.agg #[.slice x.1.1.1.1 r.1.1.1.length x.1.1.1.2, .slice x.1.1.2.1 r.1.1.2.length x.1.1.2.2, .slice x.1.2.1.1 r.1.2.1.length x.1.2.1.2, .slice x.1.2.2.1 r.1.2.2.length x.1.2.2.2], .bool (r.2)]) (fun x => [imm (.slice x.1.1.1.1 r.1.1.1.length x.1.1.1.2) r.1.1.1, imm (.slice x.1.1.2.1 r.1.1.2.length x.1.1.2.2) r.1.1.2, imm (.slice x.1.2.1.1 r.1.2.1.length x.1.2.1.2) r.1.2.1, imm (.slice x.1.2.2.1 r.1.2.2.length x.1.2.2.2) r.1.2.2]) (fun _ => []) := by
 refine cof (args := [_]) func36 ntmps36 fun c => ?_
 unfold p_spec_StoreFlush at H
 refine bM aR fun X1 => (bM aR.s.s fun X2 => (bM aR.s.s.s.s fun X3 => (sr (f1 (cC (t := 42) rfl) fun g4 => (f1 (cD ty42) fun g5 => (aH (v := .bool (false)) rfl (nl (aD (sr (aI (bJ ty42 rfl hs1 rfl) (bdo H fun r6 h7 H => ?_)))))))))))
 refine aI (bN (c_spec_StoreOk v0 x_v0 h7) rfl (aC (aL (aS aR.s.s)) (aC (aL (aS aR.s)) (aC (aL (aS aR)) (aC (aL aR.s.s.s.s.s.s) aO))))) (aG (cW rfl) (nl (cH H rfl (fun h8 H => ?_) (fun h8 H => ?_))))
 ·refine sr (aG (v := .agg #[.slice none 0 0, .slice none 0 0, .slice none 0 0, .slice none 0 0]) (p_buildS (vs := []) (cs := #[.slice none 0 0, .slice none 0 0, .slice none 0 0, .slice none 0 0]) ty42 pl42 rfl rfl) (stb (cs' := [.slice none 0 0, .slice none 0 0, .slice none 0 0, .slice none 0 0]) ty42 cY (aH (v := .bool (false)) rfl (nl (bQ (rT (?_)))))))
  obtain rfl := si H
  exact back2 ((((none, 0), (none, 0)), (none, 0), (none, 0)), ()) rfl (ResV.agg ty42 rfl aB rfl) (ResV.tmp (v := .bool (false)) rfl) rfl (cM Ent.nil0 (cM Ent.nil0 (cM Ent.nil0 (cM Ent.nil0 cN)))) bK
 ·refine bH (nT (sr (aI (bJ ty42 rfl hs1 rfl) (bdo H fun r9 h10 H => (f1 (e_call (FnL'.frz (FnL'.frz (FnL'.frz (FnL'.frz (c_spec_l13Copy v0 x_v0 h10))))) rfl (cM (aS aR.s.s) (cM (aS aR.s) (cM (aS aR) (cM aR.s.s.s.s.s.s cN)))) bK) fun x11 => (bdo H fun r12 h13 H => (f1 (e_call (c_spec_l13Flush r9 x11 h13) rfl (cM aR.s.s.s (cM aR.s.s (cM aR.s (cM aR cN)))) bK) fun x14 => (aG (cZ rfl rfl) (aG (cZ rfl rfl) ?_)))))))))
  refine stb (cs' := [.slice x14.1.1.1.1 r12.1.1.1.length x14.1.1.1.2, .slice x14.1.1.2.1 r12.1.1.2.length x14.1.1.2.2, .slice x14.1.2.1.1 r12.1.2.1.length x14.1.2.1.2, .slice x14.1.2.2.1 r12.1.2.2.length x14.1.2.2.2]) ty42 cY (aH rfl (nl (bQ ?_)))
  obtain rfl := si H
  exact back2 (x14.1, ()) rfl (ResV.agg ty42 rfl aB rfl) (ResV.tmp (v := .bool (r12.2)) rfl) rfl (cM aR (cM aR.s (cM aR.s.s (cM aR.s.s.s cN)))) bK
noncomputable def p_impl_cloneParts_b0 (v0 : (List Part)) (Q8 : (List Part) × Int) : Option (((List Part) × Int) ⊕ ((List Part))) := cond (decide (Q8.2 < (v0.length : Int))) (gd (ix Q8.2 v0.length) <| bd (p_impl_clonePart (nth v0 Q8.2.toNat)) fun r19 => gd (room (Q8.1.length + 1)) <| gd (I64 (Q8.2 + 1)) <| some (.inl ((Q8.1 ++ [r19]), Q8.2 + 1))) (some (.inr Q8.1))
noncomputable def p_impl_cloneParts (v0 : (List Part)) : Option ((List Part)) := bd (lp (p_impl_cloneParts_b0 v0) (([] : List Part), 0)) fun x4 => some x4
theorem c_impl_cloneParts {r : (List Part)} (v0 : (List Part)) (x_v0 : Option Addr × Nat) (H : p_impl_cloneParts v0 = some r) : Fn' prog 143 #[.slice x_v0.1 v0.length x_v0.2] [imm (.slice x_v0.1 v0.length x_v0.2) v0] [] (ι := Option Addr × Nat) (fun x => .slice x.1 r.length x.2) (fun _ => []) (fun x => [tree (.slice x.1 r.length x.2) r]) := by
 refine cof (args := [_]) func143 ntmps143 fun c => ?_
 unfold p_impl_cloneParts at H
 refine bM aR fun X1 => (sr (aH (v := .slice none 0 0) rfl (nl (sr (f2 (e_lit0 Part dP ty72) fun a2 c3 => (aH rfl (nl (aD (sr (aF rfl (aG (bS 72 dP rfl) (aF (v := .int .i64 (0)) rfl (nl ?_)))))))))))))
 refine bdo H fun x4 hx5 H => (dB (ι := Option Addr × Nat) (fun ψ => [(3, .slice ψ.1 x4.length ψ.2)]) (fun ψ => [tree (.slice ψ.1 x4.length ψ.2) x4]) ?_ ?_)
 ·refine aQ (dE hx5 (a2, c3) (fun Q8 z9 => [(3, .slice z9.1 Q8.1.length z9.2), (7, .slice x_v0.1 v0.length x_v0.2), (8, .int .i64 ((v0.length : Int))), (9, .int .i64 (Q8.2))]) (fun Q8 z9 => [tree (.slice z9.1 Q8.1.length z9.2) Q8.1]) (.cons aA .nil) ?_)
  rintro _ Q8 z9 t11 H1 hi12 hb13
  unfold p_impl_cloneParts_b0 at H1
  refine sr (aG (cQ rfl rfl) (nl (aD (cH H1 rfl (fun h16 H1 => ?_) (fun h16 H1 => ?_)))))
  ·refine bH (nT (aD (aQ (sr (gdo H1 fun h17 H1 => (aI (bW dP ty72 rfl rfl h17 rfl (aL (aT aR))) (aI (v := .agg #[.slice (((X1 Q8.2.toNat).1).1) (((nth v0 Q8.2.toNat).1).length) (((X1 Q8.2.toNat).1).2.1), .slice (((X1 Q8.2.toNat).2).1) (((nth v0 Q8.2.toNat).2).length) (((X1 Q8.2.toNat).2).2.1)]) (cA (i := Q8.2.toNat) ty72 rfl (aL (aT aR)) h17.lt) (f1 (cD ty72) fun g18 => (stb (cs' := [.slice (((X1 Q8.2.toNat).1).1) (((nth v0 Q8.2.toNat).1).length) (((X1 Q8.2.toNat).1).2.1), .slice (((X1 Q8.2.toNat).2).1) (((nth v0 Q8.2.toNat).2).length) (((X1 Q8.2.toNat).2).2.1)]) ty72 cY (nl ?_))))))))))
   refine aP (aF rfl (aI (bJ ty72 rfl aB rfl) (bdo H1 fun r19 h20 H1 => (f1 (cF (c_impl_clonePart (nth v0 Q8.2.toNat) ((((X1 Q8.2.toNat).1).1, ((X1 Q8.2.toNat).1).2.1), (((X1 Q8.2.toNat).2).1, ((X1 Q8.2.toNat).2).2.1)) h20) (fun _ => (bF (bF bG))) rfl (aC (aL (aS (aV (aW aR h17.lt)))) (aC (aL (aS (aU (aW aR h17.lt)))) aO))) fun x21 => (f1 (e_lit (vs := [(0, .agg #[.slice x21.1.1 r19.1.length x21.1.2, .slice x21.2.1 r19.2.length x21.2.2])]) [.slice x21.1.1 r19.1.length x21.1.2, .slice x21.2.1 r19.2.length x21.2.2] dP ty72 rfl (by decide) (by decide) (by kernel_rfl)) fun g22 => (gdo H1 fun h25 H1 => (f2 (e_app1 (l := Q8.1) (α := Part) r19 x21 dP ty72 rfl rfl (h25.b (by decide)) h25.x rfl (cX _) (.cons dl4 (.cons aA (.cons aA (.cons aA .nil))))) fun a23 c24 => (aH rfl (aJ (nB (nT (?_))))))))))))
   exact aP (gdo H1 fun h26 H1 => (aG (bR rfl rfl h26) (aF rfl (aJ (nLI (a23, c24) (hi12 _ (sm H1)) (.cons aA .nil))))))
  ·refine dA (xT (xT (xE (?_))))
   obtain rfl := hb13 _ (sm H1)
   exact nMC (z9.1, z9.2) ⟨rfl, trivial⟩ bT (.cons aA .nil)
 ·intro y10
  show At _ _ [(3, .slice y10.1 x4.length y10.2)] _ [tree (.slice y10.1 x4.length y10.2) x4] _
  refine nT (sr (aF rfl (aH rfl (nl (bQ ?_)))))
  obtain rfl := si H
  exact back1 y10 rfl (ResV.tmp (v := .slice y10.1 x4.length y10.2) rfl) rfl cN (.cons aA .nil)
noncomputable def p_impl_cloneStore (v0 : Store) : Option (Store) := bd (p_impl_indexOf v0.1.1) fun r6 => bd (p_impl_cloneParts v0.2.1) fun r9 => gd (room (([] : List Sample).length + v0.2.2.length)) <| some (r6, r9, (([] : List Sample) ++ v0.2.2))
theorem c_impl_cloneStore {r : Store} (v0 : Store) (x_v0 : ((Option Addr × Nat) × (Option Addr × Nat)) × (Option Addr × Nat) × (Option Addr × Nat)) (H : p_impl_cloneStore v0 = some r) : Fn' prog 90 #[.agg #[.slice x_v0.1.1.1 v0.1.1.length x_v0.1.1.2, .slice x_v0.1.2.1 v0.1.2.length x_v0.1.2.2, .slice x_v0.2.1.1 v0.2.1.length x_v0.2.1.2, .slice x_v0.2.2.1 v0.2.2.length x_v0.2.2.2]] [imm (.slice x_v0.1.1.1 v0.1.1.length x_v0.1.1.2) v0.1.1, imm (.slice x_v0.1.2.1 v0.1.2.length x_v0.1.2.2) v0.1.2, imm (.slice x_v0.2.1.1 v0.2.1.length x_v0.2.1.2) v0.2.1, imm (.slice x_v0.2.2.1 v0.2.2.length x_v0.2.2.2) v0.2.2] [] (ι := ((Option Addr × Nat) × (Option Addr × Nat)) × (Option Addr × Nat) × (Option Addr × Nat)) (fun x => .agg #[.slice x.1.1.1 r.1.1.length x.1.1.2, .slice x.1.2.1 r.1.2.length x.1.2.2, .slice x.2.1.1 r.2.1.length x.2.1.2, .slice x.2.2.1 r.2.2.length x.2.2.2]) (fun _ => []) (fun x => [tree (.slice x.1.1.1 r.1.1.length x.1.1.2) r.1.1, tree (.slice x.1.2.1 r.1.2.length x.1.2.2) r.1.2, tree (.slice x.2.1.1 r.2.1.length x.2.1.2) r.2.1, tree (.slice x.2.2.1 r.2.2.length x.2.2.2) r.2.2]) := by
 refine cof (args := [_]) func90 ntmps90 fun c => ?_
 unfold p_impl_cloneStore at H
 refine bM aR fun X1 => (bM aR.s.s fun X2 => (bM aR.s.s.s.s fun X3 => (sr (f1 (cC (t := 42) rfl) fun g4 => (f1 (cD ty42) fun g5 => (nl (aD (dG [(2, .pointer (some ⟨g5, 0, none⟩)), (1, .pointer (some ⟨g4, 0, none⟩))] 2 [0, 1, 2, 4, 5, 8, 9, 3, 6, 7, 10, 11, 12] [3, 6, 10, 12] [⟨7, [], fun g => .slice (some ⟨g, 0, none⟩) ([] : List Sample).length 0, fun g => tree (.slice (some ⟨g, 0, none⟩) ([] : List Sample).length 0) ([] : List Sample)⟩] mixed (by kernel_rfl) (by decide) (show List.Nodup [7] by decide) ⟨rfl, rfl, trivial⟩ rfl (okCons (FreeA.Ok.of rfl (by decide) (by kernel_rfl) fun c fs os => g_lit0 Sample dQ ty59) okNil) (w_p rfl (cB fa42_0 rfl rfl) ?_)))))))))
 refine w_p rfl (cB fa38_0 rfl rfl) ?_
 refine w_o rfl (fun F => (bI ty35 rfl (hs1.app F) rfl)) (w_p rfl (cB fa42_1 rfl rfl) ?_)
 refine w_o rfl (fun F => (bI ty39 rfl (hs1.app F) rfl)) (w_p rfl (cB fa42_2 rfl rfl) ?_)
 refine w_o rfl (fun F => (bI ty40 rfl (hs1.app F) rfl)) (bdo H fun r6 h7 H => (cJ rfl (by decide) rfl (cP (.inr (.inr trivial)) cO) rfl (cE (c_impl_indexOf v0.1.1 x_v0.1.1 h7) (fun _ => (bF (bF bG))) rfl (aC (aL (aS aR.s.s)) aO)) ?_))
 rintro _ _ _ ⟨x8, rfl, rfl, rfl⟩
 refine ⟨(bV rfl rfl (fun F => (bI ty40 rfl (hs3.app F) rfl)) (bV rfl rfl (fun F => (bI ty39 rfl (hs3.app F) rfl)) (aM (by kernel_rfl) bU))), ?_⟩
 refine bdo H fun r9 h10 H => (cJ rfl (by decide) rfl (cP (.inr (.inr trivial)) cO) rfl (cE (c_impl_cloneParts v0.2.1 x_v0.2.1 h10) (fun _ => (bF bG)) rfl (aC (aL (aS aR)) aO)) ?_)
 rintro _ _ _ ⟨x11, rfl, rfl, rfl⟩
 refine ⟨(bV rfl rfl (fun F => (bI ty40 rfl (hs4.app F) rfl)) (aM (by kernel_rfl) (aM (by kernel_rfl) bU))), ?_⟩
 refine w_fr (z := ⟨7, [], fun g => .slice (some ⟨g, 0, none⟩) ([] : List Sample).length 0, fun g => tree (.slice (some ⟨g, 0, none⟩) ([] : List Sample).length 0) ([] : List Sample)⟩) (.head _) rfl rfl (by decide) (cP (.inl rfl) cO) trivial ?_; intro g12
 refine gdo H fun h15 H => (cJ rfl (by decide) rfl (cP (.inl rfl) cO) rfl (n_appF (l := ([] : List Sample)) (k := v0.2.2) (α := Sample) dQ ty59 rfl rfl (h15.b (by decide)) h15.x (.cons aA .nil) (aL aR.s.s.s.s.s.s)) ?_)
 rintro _ _ _ ⟨a13, c14, rfl, rfl, rfl⟩
 refine ⟨(aM (by kernel_rfl) (aM (by kernel_rfl) (bV rfl rfl (fun F => (bI ty35 rfl (hs5.app F) rfl)) bU))), ?_⟩
 refine w_p (v := .agg #[.slice x8.1.1 r6.1.length x8.1.2, .slice x8.2.1 r6.2.length x8.2.2, .slice x11.1 r9.length x11.2, .slice a13 ((([] : List Sample) ++ v0.2.2).length) c14]) rfl (p_buildS (vs := [(0, .agg #[.slice x8.1.1 r6.1.length x8.1.2, .slice x8.2.1 r6.2.length x8.2.2]), (1, .slice x11.1 r9.length x11.2), (2, .slice a13 ((([] : List Sample) ++ v0.2.2).length) c14)]) (cs := #[.slice x8.1.1 r6.1.length x8.1.2, .slice x8.2.1 r6.2.length x8.2.2, .slice x11.1 r9.length x11.2, .slice a13 ((([] : List Sample) ++ v0.2.2).length) c14]) ty42 pl42 rfl rfl) (cK rfl rfl (cP (.inl rfl) cO) rfl (n_store (cs' := [.slice x8.1.1 r6.1.length x8.1.2, .slice x8.2.1 r6.2.length x8.2.2, .slice x11.1 r9.length x11.2, .slice a13 ((([] : List Sample) ++ v0.2.2).length) c14]) ty42 rfl rfl up4 rfl (one_of rfl) (Nat.le_of_ble_eq_true rfl) rfl) ?_)
 rintro _ _ _ ⟨rfl, rfl, rfl⟩
 refine ⟨(aM (by kernel_rfl) (aM (by kernel_rfl) (aM (by kernel_rfl) bU))), ?_⟩
 refine cL (nT (bQ ?_))
 obtain rfl := si H
 exact back1 (x8, x11, (a13, c14)) rfl (ResV.agg ty42 rfl hs4 rfl) rfl cN (.cons dl2 (.cons dl2 (.cons dl1 (.cons aA .nil))))
noncomputable def p_impl_Store_flushed_b0 (v0 : Store) (Q15 : (List Int) × (List (List Row)) × Int) : Option (((List Int) × (List (List Row)) × Int) ⊕ ((List Int) × (List (List Row)))) := cond (decide (Q15.2.2 ≤ 6)) (bd (p_impl_Store_rows ((([]), ([])), ([]), v0.2.2) Q15.2.2) fun r24 => cond (decide (0 < (r24.length : Int))) (gd (room (Q15.1.length + 1)) <| gd (room (Q15.2.1.length + 1)) <| gd (I64 (Q15.2.2 + 1)) <| some (.inl ((Q15.1 ++ [Q15.2.2]), (Q15.2.1 ++ [r24]), Q15.2.2 + 1))) (gd (I64 (Q15.2.2 + 1)) <| some (.inl (Q15.1, Q15.2.1, Q15.2.2 + 1)))) (some (.inr (Q15.1, Q15.2.1)))
noncomputable def p_impl_Store_flushed (v0 : Store) : Option (Part) := bd (lp (p_impl_Store_flushed_b0 v0) (([] : List Int), ([] : List (List Row)), 1)) fun x11 => some x11
theorem c_impl_Store_flushed {r : Part} (v0 : Store) (x_v0 : ((Option Addr × Nat) × (Option Addr × Nat)) × (Option Addr × Nat) × (Option Addr × Nat)) (H : p_impl_Store_flushed v0 = some r) : Fn' prog 91 #[.agg #[.slice x_v0.1.1.1 v0.1.1.length x_v0.1.1.2, .slice x_v0.1.2.1 v0.1.2.length x_v0.1.2.2, .slice x_v0.2.1.1 v0.2.1.length x_v0.2.1.2, .slice x_v0.2.2.1 v0.2.2.length x_v0.2.2.2]] [imm (.slice x_v0.1.1.1 v0.1.1.length x_v0.1.1.2) v0.1.1, imm (.slice x_v0.1.2.1 v0.1.2.length x_v0.1.2.2) v0.1.2, imm (.slice x_v0.2.1.1 v0.2.1.length x_v0.2.1.2) v0.2.1, imm (.slice x_v0.2.2.1 v0.2.2.length x_v0.2.2.2) v0.2.2] [] (ι := (Option Addr × Nat) × (Option Addr × Nat)) (fun x => .agg #[.slice x.1.1 r.1.length x.1.2, .slice x.2.1 r.2.length x.2.2]) (fun _ => []) (fun x => [tree (.slice x.1.1 r.1.length x.1.2) r.1, tree (.slice x.2.1 r.2.length x.2.2) r.2]) := by
 refine cof (args := [_]) func91 ntmps91 fun c => ?_
 unfold p_impl_Store_flushed at H
 refine bM aR fun X1 => (bM aR.s.s fun X2 => (bM aR.s.s.s.s fun X3 => (sr (f1 (cC (t := 42) rfl) fun g4 => (f1 (cD ty72) fun g5 => (nl (sr (f2 (e_lit0 Int dV ty3) fun a6 c7 => (f2 (e_lit0 (List Row) dW ty63) fun a8 c9 => ?_)))))))))
 refine aG (v := .agg #[.slice a6 (([] : List Int).length) c7, .slice a8 (([] : List (List Row)).length) c9]) (p_buildS (vs := [(0, .slice a6 (([] : List Int).length) c7), (1, .slice a8 (([] : List (List Row)).length) c9)]) (cs := #[.slice a6 (([] : List Int).length) c7, .slice a8 (([] : List (List Row)).length) c9]) ty72 pl72 rfl rfl) (f1 (cD ty72) fun g10 => (stb (cs' := [.slice a6 (([] : List Int).length) c7, .slice a8 (([] : List (List Row)).length) c9]) ty72 cY (nl (aD (sr (aH (v := .int .i64 (1)) rfl (nl (bdo H fun x11 hx12 H => (dB (ι := (Option Addr × Nat) × (Option Addr × Nat)) (fun ψ => [(2, .pointer (some ⟨g5, 0, none⟩)), (3, .pointer (some ⟨g10, 0, none⟩))]) (fun ψ => [box g5 72 [.slice none 0 0, .slice none 0 0], tree (.slice ψ.1.1 x11.1.length ψ.1.2) x11.1, tree (.slice ψ.2.1 x11.2.length ψ.2.2) x11.2, box g10 72 [.slice ψ.1.1 x11.1.length ψ.1.2, .slice ψ.2.1 x11.2.length ψ.2.2]]) ?_ ?_)))))))))
 ·refine aQ (dE (Λ := ((Option Addr × Nat) × (Option Addr × Nat))) hx12 ((a6, c7), (a8, c9)) (fun Q15 _ => [(1, .pointer (some ⟨g4, 0, none⟩)), (2, .pointer (some ⟨g5, 0, none⟩)), (3, .pointer (some ⟨g10, 0, none⟩)), (4, .int .i64 (Q15.2.2))]) (fun Q15 z16 => [box g4 42 [.slice x_v0.1.1.1 v0.1.1.length x_v0.1.1.2, .slice x_v0.1.2.1 v0.1.2.length x_v0.1.2.2, .slice x_v0.2.1.1 v0.2.1.length x_v0.2.1.2, .slice x_v0.2.2.1 v0.2.2.length x_v0.2.2.2], box g5 72 [.slice none 0 0, .slice none 0 0], tree (.slice z16.1.1 Q15.1.length z16.1.2) Q15.1, tree (.slice z16.2.1 Q15.2.1.length z16.2.2) Q15.2.1, box g10 72 [.slice z16.1.1 Q15.1.length z16.1.2, .slice z16.2.1 Q15.2.1.length z16.2.2]]) (.cons dl4 (.cons dl3 (.cons dl2 (.cons dl1 (.cons aA .nil))))) ?_)
  rintro _ Q15 z16 t18 H1 hi19 hb20
  unfold p_impl_Store_flushed_b0 at H1
  refine aD (sr (aF rfl (aG (cU rfl rfl) (nl (cH H1 rfl (fun h23 H1 => ?_) (fun h23 H1 => ?_))))))
  ·refine bH (nT (aD (aQ (sr (aG (cB fa42_2 rfl rfl) (aI (bI ty40 rfl aB rfl) (aG (v := .agg #[.slice none 0 0, .slice none 0 0, .slice none 0 0, .slice x_v0.2.2.1 v0.2.2.length x_v0.2.2.2]) (p_buildS (vs := [(2, .slice x_v0.2.2.1 v0.2.2.length x_v0.2.2.2)]) (cs := #[.slice none 0 0, .slice none 0 0, .slice none 0 0, .slice x_v0.2.2.1 v0.2.2.length x_v0.2.2.2]) ty42 pl42 rfl rfl) (aF rfl (bdo H1 fun r24 h25 H1 => (f1 (cF (c_impl_Store_rows ((([]), ([])), ([]), v0.2.2) (((none, 0), (none, 0)), (none, 0), x_v0.2.2) Q15.2.2 h25) (fun _ => (bF bG)) rfl (aC (aL Ent.nil0) (aC (aL Ent.nil0) (aC (aL Ent.nil0) (aC (aL aR.s.s.s.s.s.s) aO))))) fun x26 => ?_))))))))))
   refine aH rfl (nl (sr (aF rfl (aG (bS 57 dU rfl) (aG (cV rfl rfl) (nl (cH H1 rfl (fun h27 H1 => ?_) (fun h27 H1 => ?_))))))))
   ·refine sr (aG (cB fa72_0 rfl rfl) (aI (bI ty69 rfl hs5 rfl) (aF rfl (f1 (e_lit (vs := [(0, .int .i64 (Q15.2.2))]) [.int .i64 (Q15.2.2)] dV ty3 rfl (by decide) (by decide) (by kernel_rfl)) fun g28 => (gdo H1 fun h31 H1 => (f2 (e_app1 (l := Q15.1) (α := Int) Q15.2.2 () dV ty3 rfl rfl (h31.b (by decide)) h31.x rfl (cX _) (.cons dl4 (.cons aA .nil))) fun a29 c30 => (aG (cB fa72_0 rfl rfl) (stb (cs' := [.slice a29 ((Q15.1 ++ [Q15.2.2]).length) c30, .slice z16.2.1 Q15.2.1.length z16.2.2]) ty69 up5 (nl ?_)))))))))
    refine aP (aG (cB fa72_1 rfl rfl) (aI (bI ty70 rfl hs5 rfl) (aF rfl (f1 (e_lit (vs := [(0, .slice x26.1 r24.length x26.2)]) [.slice x26.1 r24.length x26.2] dW ty63 rfl (by decide) (by decide) (by kernel_rfl)) fun g32 => (gdo H1 fun h35 H1 => (f2 (e_app1 (l := Q15.2.1) (α := (List Row)) r24 x26 dW ty63 rfl rfl (h35.b (by decide)) h35.x rfl (cX _) (.cons dl5 (.cons aA (.cons dl1 .nil)))) fun a33 c34 => (aG (cB fa72_1 rfl rfl) (stb (cs' := [.slice a29 ((Q15.1 ++ [Q15.2.2]).length) c30, .slice a33 ((Q15.2.1 ++ [r24]).length) c34]) ty70 up4 (aJ ?_)))))))))
    exact nB (nT (aP (aF rfl (gdo H1 fun h36 H1 => (aG (bR rfl rfl h36) (aH rfl (aJ (nLI ((a29, c30), (a33, c34)) (hi19 _ (sm H1)) (.cons dl2 (.cons dl2 (.cons dl1 (.cons aA (.cons aA .nil)))))))))))))
   ·exact bH (nB (nT (aP (aF rfl (gdo H1 fun h37 H1 => (aG (bR rfl rfl h37) (aH rfl (aJ (nLI ((z16.1.1, z16.1.2), (z16.2.1, z16.2.2)) (hi19 _ (sm H1)) (.cons dl1 (.cons dl1 (.cons dl1 (.cons dl1 (.cons dl1 .nil))))))))))))))
  ·refine dA (xT (xT (xE (?_))))
   obtain rfl := hb20 _ (sm H1)
   exact nMC ((z16.1.1, z16.1.2), (z16.2.1, z16.2.2)) ⟨rfl, rfl, trivial⟩ bT (.cons dl1 (.cons dl1 (.cons dl1 (.cons dl1 .nil))))
 ·intro y17
  show At _ _ [(2, .pointer (some ⟨g5, 0, none⟩)), (3, .pointer (some ⟨g10, 0, none⟩))] _ [box g5 72 [.slice none 0 0, .slice none 0 0], tree (.slice y17.1.1 x11.1.length y17.1.2) x11.1, tree (.slice y17.2.1 x11.2.length y17.2.2) x11.2, box g10 72 [.slice y17.1.1 x11.1.length y17.1.2, .slice y17.2.1 x11.2.length y17.2.2]] _
  refine nT (sr (aI (bJ ty72 rfl hs3 rfl) (stb (cs' := [.slice y17.1.1 x11.1.length y17.1.2, .slice y17.2.1 x11.2.length y17.2.2]) ty72 cY (nl (bQ ?_)))))
  obtain rfl := si H
  exact back1 y17 rfl (ResV.agg ty72 rfl aB rfl) rfl cN (.cons dl1 (.cons dl1 .nil))
noncomputable def p_impl_StoreFlush (v0 : Store) : Option (Store × Bool) := bd (p_impl_StoreOk v0) fun r6 => cond (!r6) (some (((([]), ([])), ([]), ([])), false)) (bd (p_impl_cloneStore v0) fun r9 => bd (cond (decide ((v0.2.2.length : Int) = 0)) (some (true)) (some (decide ((v0.2.1.length : Int) = 6)))) fun b13 => cond (b13) (some (r9, false)) (bd (p_impl_Store_flushed v0) fun r17 => gd (room (r9.2.1.length + 1)) <| some ((r9.1, (r9.2.1 ++ [r17]), ([] : List Sample)), true)))
theorem c_impl_StoreFlush {r : Store × Bool} (v0 : Store) (x_v0 : ((Option Addr × Nat) × (Option Addr × Nat)) × (Option Addr × Nat) × (Option Addr × Nat)) (H : p_impl_StoreFlush v0 = some r) : Fn' prog 37 #[.agg #[.slice x_v0.1.1.1 v0.1.1.length x_v0.1.1.2, .slice x_v0.1.2.1 v0.1.2.length x_v0.1.2.2, .slice x_v0.2.1.1 v0.2.1.length x_v0.2.1.2, .slice x_v0.2.2.1 v0.2.2.length x_v0.2.2.2]] [imm (.slice x_v0.1.1.1 v0.1.1.length x_v0.1.1.2) v0.1.1, imm (.slice x_v0.1.2.1 v0.1.2.length x_v0.1.2.2) v0.1.2, imm (.slice x_v0.2.1.1 v0.2.1.length x_v0.2.1.2) v0.2.1, imm (.slice x_v0.2.2.1 v0.2.2.length x_v0.2.2.2) v0.2.2] [] (ι := (((Option Addr × Nat) × (Option Addr × Nat)) × (Option Addr × Nat) × (Option Addr × Nat)) × Unit) (fun x => .tuple #[.agg #[.slice x.1.1.1.1 r.1.1.1.length x.1.1.1.2, .slice x.1.1.2.1 r.1.1.2.length x.1.1.2.2, .slice x.1.2.1.1 r.1.2.1.length x.1.2.1.2, .slice x.1.2.2.1 r.1.2.2.length x.1.2.2.2], .bool (r.2)]) (fun _ => []) (fun x => [tree (.slice x.1.1.1.1 r.1.1.1.length x.1.1.1.2) r.1.1.1, tree (.slice x.1.1.2.1 r.1.1.2.length x.1.1.2.2) r.1.1.2, tree (.slice x.1.2.1.1 r.1.2.1.length x.1.2.1.2) r.1.2.1, tree (.slice x.1.2.2.1 r.1.2.2.length x.1.2.2.2) r.1.2.2]) := by
 refine cof (args := [_]) func37 ntmps37 fun c => ?_
 unfold p_impl_StoreFlush at H
 refine bM aR fun X1 => (bM aR.s.s fun X2 => (bM aR.s.s.s.s fun X3 => (sr (f1 (cC (t := 42) rfl) fun g4 => (f1 (cD ty42) fun g5 => (aH (v := .bool (false)) rfl (nl (aD (sr (aI (bJ ty42 rfl hs1 rfl) (bdo H fun r6 h7 H => ?_)))))))))))
 refine aI (bN (c_impl_StoreOk v0 x_v0 h7) rfl (aC (aL (aS aR.s.s)) (aC (aL (aS aR.s)) (aC (aL (aS aR)) (aC (aL aR.s.s.s.s.s.s) aO))))) (aG (cW rfl) (nl (cH H rfl (fun h8 H => ?_) (fun h8 H => ?_))))
 ·refine aD (Tr.nilT (List Tag) (Tr.nilT Post (Tr.nilT Part (Tr.nilT Sample (aP (aG (v := .agg #[.slice none 0 0, .slice none 0 0, .slice none 0 0, .slice none 0 0]) (p_buildS (vs := []) (cs := #[.slice none 0 0, .slice none 0 0, .slice none 0 0, .slice none 0 0]) ty42 pl42 rfl rfl) (stb (cs' := [.slice none 0 0, .slice none 0 0, .slice none 0 0, .slice none 0 0]) ty42 up4 (aH (v := .bool (false)) rfl (nl (bQ ?_))))))))))
  refine rT (?_)
  obtain rfl := si H
  exact back2 ((((none, 0), (none, 0)), (none, 0), (none, 0)), ()) rfl (ResV.agg ty42 rfl hs4 rfl) (ResV.tmp (v := .bool (false)) rfl) rfl cN (.cons dl3 (.cons dl2 (.cons dl1 (.cons aA .nil))))
 ·refine bH (nT (sr (aI (bJ ty42 rfl hs1 rfl) (bdo H fun r9 h10 H => (f1 (cF (c_impl_cloneStore v0 x_v0 h10) (fun _ => (bF (bF (bF (bF bG))))) rfl (aC (aL (aS aR.s.s)) (aC (aL (aS aR.s)) (aC (aL (aS aR)) (aC (aL aR.s.s.s.s.s.s) aO))))) fun x11 => (f1 (cD ty42) fun g12 => (stb (cs' := [.slice x11.1.1.1 r9.1.1.length x11.1.1.2, .slice x11.1.2.1 r9.1.2.length x11.1.2.2, .slice x11.2.1.1 r9.2.1.length x11.2.1.2, .slice x11.2.2.1 r9.2.2.length x11.2.2.2]) ty42 cY (nl (aD ?_)))))))))
  refine bdo H fun b13 j14 H => (dD [(20, .bool (b13)), (4, .pointer (some ⟨g12, 0, none⟩)), (2, .pointer (some ⟨g5, 0, none⟩)), (1, .pointer (some ⟨g4, 0, none⟩))] ?_ ?_)
  ·refine dH [(4, .pointer (some ⟨g12, 0, none⟩)), (2, .pointer (some ⟨g5, 0, none⟩)), (1, .pointer (some ⟨g4, 0, none⟩))] ⟨rfl, rfl, rfl, trivial⟩ (aX (cB fa42_2 rfl rfl) (aZ (bI ty40 rfl (hs5t hs1) rfl) (aX (bS 59 dQ rfl) (aX (cT rfl rfl) ?_))))
   rcases aK (decide ((v0.2.2.length : Int) = 0)) with h15 | h15
   ·have j14 := cdT h15 j14
    refine bC (aE rfl) h15 ?_
    iterate 4 refine bE rfl ?_
    refine aX (v := .bool (true)) (bP rfl rfl) ?_
    obtain rfl := si j14
    show At _ _ _ _ _ _
    exact n1 ⟨rfl, rfl, rfl, rfl, trivial⟩
   ·have j14 := cdF h15 j14
    refine bC (aE rfl) h15 (aY rfl (cB fa42_1 rfl rfl) (bA rfl (bI ty39 rfl (hs5t hs1) rfl) (aY rfl (bS 72 dP rfl) (aY rfl (cT rfl rfl) (aX (bO rfl rfl) ?_)))))
    obtain rfl := si j14
    show At _ _ _ _ _ _
    exact n1 ⟨rfl, rfl, rfl, rfl, trivial⟩
  refine cH H rfl (fun h16 H => ?_) (fun h16 H => ?_)
  ·refine sr (aI (bJ ty42 rfl aB rfl) (stb (cs' := [.slice x11.1.1.1 r9.1.1.length x11.1.1.2, .slice x11.1.2.1 r9.1.2.length x11.1.2.2, .slice x11.2.1.1 r9.2.1.length x11.2.1.2, .slice x11.2.2.1 r9.2.2.length x11.2.2.2]) ty42 up5 (aH (v := .bool (false)) rfl (nl (bQ (rT (?_)))))))
   obtain rfl := si H
   exact back2 (x11, ()) rfl (ResV.agg ty42 rfl hs5 rfl) (ResV.tmp (v := .bool (false)) rfl) rfl cN (.cons dl1 (.cons dl1 (.cons dl1 (.cons dl1 .nil))))
  ·refine bH (nT (aD (dG [(4, .pointer (some ⟨g12, 0, none⟩)), (2, .pointer (some ⟨g5, 0, none⟩)), (1, .pointer (some ⟨g4, 0, none⟩))] 1 [0, 1, 2, 3, 4, 5, 6, 7] [3, 4, 5, 7] [] mixed (by kernel_rfl) (by decide) dI ⟨rfl, rfl, rfl, trivial⟩ rfl okNil (w_p rfl (cB fa42_1 rfl rfl) ?_))))
   refine w_o rfl (fun F => (bI ty39 rfl (aB.app F) rfl)) ?_
   refine w_o rfl (fun F => (bJ ty42 rfl ((hs5t hs1).app F) rfl)) (bdo H fun r17 h18 H => (cJ rfl (by decide) rfl cO rfl (cE (c_impl_Store_flushed v0 x_v0 h18) (fun _ => (bF (bF bG))) rfl (aC (aL (aS aR.s.s)) (aC (aL (aS aR.s)) (aC (aL (aS aR)) (aC (aL aR.s.s.s.s.s.s) aO))))) ?_))
   rintro _ _ _ ⟨x19, rfl, rfl, rfl⟩
   refine ⟨(aM (by kernel_rfl) (bV rfl rfl (fun F => (bI ty39 rfl (hs2.app F) rfl)) bU)), ?_⟩
   refine cJ rfl (by decide) rfl cO rfl (n_lit (vs := [(0, .agg #[.slice x19.1.1 r17.1.length x19.1.2, .slice x19.2.1 r17.2.length x19.2.2])]) [.slice x19.1.1 r17.1.length x19.1.2, .slice x19.2.1 r17.2.length x19.2.2] dP ty72 rfl (by decide) (by decide) (by kernel_rfl)) ?_
   rintro _ _ _ ⟨g20, rfl, rfl, rfl⟩
   refine ⟨(bV rfl rfl (fun F => (bJ ty42 rfl ((hs5t hs4).app F) rfl)) (bV rfl rfl (fun F => (bI ty39 rfl (hs3.app F) rfl)) bU)), ?_⟩
   refine gdo H fun h23 H => (cJ rfl (by decide) rfl cO rfl (n_app1 (l := r9.2.1) (α := Part) r17 x19 dP ty72 rfl rfl (h23.b (by decide)) h23.x rfl (cX _) (.cons (dl5t dl1) (.cons aA (.cons aA (.cons aA .nil))))) ?_)
   rintro _ _ _ ⟨a21, c22, rfl, rfl, rfl⟩
   refine ⟨(bV rfl rfl (fun F => (bJ ty42 rfl ((hs5t hs1).app F) rfl)) (aM (by kernel_rfl) bU)), ?_⟩
   refine w_p rfl (cB fa42_1 rfl rfl) (cK rfl rfl cO rfl (n_store (cs' := [.slice x11.1.1.1 r9.1.1.length x11.1.1.2, .slice x11.1.2.1 r9.1.2.length x11.1.2.2, .slice a21 ((r9.2.1 ++ [r17]).length) c22, .slice x11.2.2.1 r9.2.2.length x11.2.2.2]) ty39 rfl rfl up1 rfl (one_of rfl) (Nat.le_of_ble_eq_true rfl) rfl) ?_)
   rintro _ _ _ ⟨rfl, rfl, rfl⟩
   refine ⟨(aM (by kernel_rfl) (aM (by kernel_rfl) bU)), ?_⟩
   refine cL (nT (sr (f2 (e_lit0 Sample dQ ty59) fun a24 c25 => (aG (cB fa42_2 rfl rfl) (stb (cs' := [.slice x11.1.1.1 r9.1.1.length x11.1.1.2, .slice x11.1.2.1 r9.1.2.length x11.1.2.2, .slice a21 ((r9.2.1 ++ [r17]).length) c22, .slice a24 (([] : List Sample).length) c25]) ty40 up2 (nl (sr (aI (bJ ty42 rfl hs2 rfl) (stb (cs' := [.slice x11.1.1.1 r9.1.1.length x11.1.1.2, .slice x11.1.2.1 r9.1.2.length x11.1.2.2, .slice a21 ((r9.2.1 ++ [r17]).length) c22, .slice a24 (([] : List Sample).length) c25]) ty42 (up5t up1) ?_)))))))))
   refine aH (v := .bool (true)) rfl (nl (bQ ?_))
   obtain rfl := si H
   exact back2 ((x11.1, (a21, c22), (a24, c25)), ()) rfl (ResV.agg ty42 rfl (hs5t hs1) rfl) (ResV.tmp (v := .bool (true)) rfl) rfl cN (.cons dl3 (.cons dl3 (.cons dl1 (.cons aA .nil))))
noncomputable def p_laws_lyName_b0 (v0 : (List Tag)) (v1 : (List Tag)) (Q6 : Int) : Option ((Int) ⊕ (Unit ⊕ Bool)) := cond (decide (Q6 < (v0.length : Int))) (gd (ix Q6 v0.length) <| gd (ix Q6 v1.length) <| cond (!decide (nth v0 Q6.toNat = nth v1 Q6.toNat)) (some (.inr (.inr false))) (gd (I64 (Q6 + 1)) <| some (.inl (Q6 + 1)))) (some (.inr (.inl ())))
noncomputable def p_laws_lyName (v0 : (List Tag)) (v1 : (List Tag)) : Option (Bool) := cond (!decide ((v0.length : Int) = (v1.length : Int))) (some false) (bd (lp (p_laws_lyName_b0 v0 v1) 0) <| sw (fun _ => some true) (fun q => some q))
theorem c_laws_lyName {r : Bool} (v0 : (List Tag)) (x_v0 : Option Addr × Nat) (v1 : (List Tag)) (x_v1 : Option Addr × Nat) (H : p_laws_lyName v0 v1 = some r) : Fn' prog 144 #[.slice x_v0.1 v0.length x_v0.2, .slice x_v1.1 v1.length x_v1.2] [imm (.slice x_v0.1 v0.length x_v0.2) v0, imm (.slice x_v1.1 v1.length x_v1.2) v1] [] (ι := Unit) (fun _ => .bool (r)) (fun _ => []) (fun _ => []) := by
 refine cof (args := [_, _]) func144 ntmps144 fun c => ?_
 unfold p_laws_lyName at H
 refine sr (aH (v := .bool (false)) rfl (nl (aD (sr (aF rfl (aG (bS 97 dJ rfl) (aF rfl (aG (bS 97 dJ rfl) (aG (cS rfl rfl) (nl (cH H rfl (fun h1 H => ?_) (fun h1 H => ?_))))))))))))
 ·refine sr (aH (v := .bool (false)) rfl (nl (bQ (rT (?_)))))
  obtain rfl := si H
  exact bk
 ·refine bH (nT (aD (sr (aH (v := .int .i64 (0)) rfl (nl (bdo H fun x2 hx3 H => (dC (Λ := Unit) H (fun _ _ => []) (fun _ _ => []) ?_ ?_)))))))
  ·refine aQ (dE hx3 () (fun Q6 _ => [(0, .slice x_v0.1 v0.length x_v0.2), (1, .slice x_v1.1 v1.length x_v1.2), (5, .int .i64 (Q6))]) (fun _ _ => []) bK ?_)
   rintro _ Q6 z7 t9 H1 hi10 hb11
   unfold p_laws_lyName_b0 at H1
   refine aD (sr (aF rfl (aF rfl (aG (bS 97 dJ rfl) (aG (cQ rfl rfl) (nl (cH H1 rfl (fun h14 H1 => ?_) (fun h14 H1 => ?_))))))))
   ·refine bH (nT (aD (aQ (aD (dF [(0, .slice x_v0.1 v0.length x_v0.2), (1, .slice x_v1.1 v1.length x_v1.2), (5, .int .i64 (Q6))] mixed (.inr (by kernel_rfl)) ⟨rfl, rfl, rfl, trivial⟩ rfl (bB rfl (bB rfl (gdo H1 fun h15 H1 => (aZ (bW dJ ty97 rfl rfl h15 rfl (aN (aL aR))) (aZ (v := .agg #[.string ((nth v0 Q6.toNat).1), .string ((nth v0 Q6.toNat).2)]) (cA (i := Q6.toNat) ty97 rfl (aN (aL aR)) h15.lt) ?_))))))))))
    refine bB rfl (bB rfl (gdo H1 fun h16 H1 => (aZ (bW dJ ty97 rfl rfl h16 rfl (aN (aL aR.s))) (aZ (v := .agg #[.string ((nth v1 Q6.toNat).1), .string ((nth v1 Q6.toNat).2)]) (cA (i := Q6.toNat) ty97 rfl (aN (aL aR.s)) h16.lt) (aX (v := .bool (!decide (nth v0 Q6.toNat = nth v1 Q6.toNat))) (p_aneq (a := nth v0 Q6.toNat) (b := nth v1 Q6.toNat) ae97 rfl rfl rfl rfl) (nT (cH H1 rfl (fun h17 H1 => ?_) (fun h17 H1 => ?_))))))))
    ·refine sr (aH (v := .bool (false)) rfl (nl (bQ (rB (rT (rT (rB (rT (rT (?_))))))))))
     obtain rfl := hb11 _ (sm H1)
     replace H := sw.r H
     obtain rfl := si H
     exact bk
    ·exact bH (nB (nT (aP (aF rfl (gdo H1 fun h18 H1 => (aG (bR rfl rfl h18) (aH rfl (aJ (nLI () (hi10 _ (sm H1)) bK)))))))))
   ·exact dA (xT (xT (xE (nMI () (hb11 _ (sm H1)) bK))))
  ·rintro e19 y8 H
   refine nT (sr (aH (v := .bool (true)) rfl (nl ?_)))
   obtain rfl := si H
   exact bQ bk
noncomputable def p_laws_lyInts_b0 (v0 : (List Int)) (v1 : (List Int)) (Q6 : Int) : Option ((Int) ⊕ (Unit ⊕ Bool)) := cond (decide (Q6 < (v0.length : Int))) (gd (ix Q6 v0.length) <| gd (ix Q6 v1.length) <| cond (!decide ((nth v0 Q6.toNat) = (nth v1 Q6.toNat))) (some (.inr (.inr false))) (gd (I64 (Q6 + 1)) <| some (.inl (Q6 + 1)))) (some (.inr (.inl ())))
noncomputable def p_laws_lyInts (v0 : (List Int)) (v1 : (List Int)) : Option (Bool) := cond (!decide ((v0.length : Int) = (v1.length : Int))) (some false) (bd (lp (p_laws_lyInts_b0 v0 v1) 0) <| sw (fun _ => some true) (fun q => some q))
theorem c_laws_lyInts {r : Bool} (v0 : (List Int)) (x_v0 : Option Addr × Nat) (v1 : (List Int)) (x_v1 : Option Addr × Nat) (H : p_laws_lyInts v0 v1 = some r) : Fn' prog 145 #[.slice x_v0.1 v0.length x_v0.2, .slice x_v1.1 v1.length x_v1.2] [imm (.slice x_v0.1 v0.length x_v0.2) v0, imm (.slice x_v1.1 v1.length x_v1.2) v1] [] (ι := Unit) (fun _ => .bool (r)) (fun _ => []) (fun _ => []) := by
 refine cof (args := [_, _]) func145 ntmps145 fun c => ?_
 unfold p_laws_lyInts at H
 refine sr (aH (v := .bool (false)) rfl (nl (aD (sr (aF rfl (aG (bS 3 dV rfl) (aF rfl (aG (bS 3 dV rfl) (aG (cS rfl rfl) (nl (cH H rfl (fun h1 H => ?_) (fun h1 H => ?_))))))))))))
 ·refine sr (aH (v := .bool (false)) rfl (nl (bQ (rT (?_)))))
  obtain rfl := si H
  exact bk
 ·refine bH (nT (aD (sr (aH (v := .int .i64 (0)) rfl (nl (bdo H fun x2 hx3 H => (dC (Λ := Unit) H (fun _ _ => []) (fun _ _ => []) ?_ ?_)))))))
  ·refine aQ (dE hx3 () (fun Q6 _ => [(0, .slice x_v0.1 v0.length x_v0.2), (1, .slice x_v1.1 v1.length x_v1.2), (5, .int .i64 (Q6))]) (fun _ _ => []) bK ?_)
   rintro _ Q6 z7 t9 H1 hi10 hb11
   unfold p_laws_lyInts_b0 at H1
   refine aD (sr (aF rfl (aF rfl (aG (bS 3 dV rfl) (aG (cQ rfl rfl) (nl (cH H1 rfl (fun h14 H1 => ?_) (fun h14 H1 => ?_))))))))
   ·refine bH (nT (aD (aQ (aD (dF [(0, .slice x_v0.1 v0.length x_v0.2), (1, .slice x_v1.1 v1.length x_v1.2), (5, .int .i64 (Q6))] mixed (.inr (by kernel_rfl)) ⟨rfl, rfl, rfl, trivial⟩ rfl (bB rfl (bB rfl (gdo H1 fun h15 H1 => (aZ (bW dV ty3 rfl rfl h15 rfl (aN (aL aR))) (aZ (bZ (i := Q6.toNat) (j := 0) ty3 rfl (aN (aL aR)) h15.lt rfl) ?_))))))))))
    refine bB rfl (bB rfl (gdo H1 fun h16 H1 => (aZ (bW dV ty3 rfl rfl h16 rfl (aN (aL aR.s))) (aZ (bZ (i := Q6.toNat) (j := 0) ty3 rfl (aN (aL aR.s)) h16.lt rfl) (aX (cS rfl rfl) (nT (cH H1 rfl (fun h17 H1 => ?_) (fun h17 H1 => ?_))))))))
    ·refine sr (aH (v := .bool (false)) rfl (nl (bQ (rB (rT (rT (rB (rT (rT (?_))))))))))
     obtain rfl := hb11 _ (sm H1)
     replace H := sw.r H
     obtain rfl := si H
     exact bk
    ·exact bH (nB (nT (aP (aF rfl (gdo H1 fun h18 H1 => (aG (bR rfl rfl h18) (aH rfl (aJ (nLI () (hi10 _ (sm H1)) bK)))))))))
   ·exact dA (xT (xT (xE (nMI () (hb11 _ (sm H1)) bK))))
  ·rintro e19 y8 H
   refine nT (sr (aH (v := .bool (true)) rfl (nl ?_)))
   obtain rfl := si H
   exact bQ bk
noncomputable def p_laws_lyIndex_b0 (v0 : Index) (v1 : Index) (Q15 : Int) : Option ((Int) ⊕ (Unit ⊕ Bool)) := cond (decide (Q15 < (v0.1.length : Int))) (gd (ix Q15 v0.1.length) <| gd (ix Q15 v1.1.length) <| bd (p_laws_lyName (nth v0.1 Q15.toNat) (nth v1.1 Q15.toNat)) fun r26 => cond (!r26) (some (.inr (.inr false))) (gd (I64 (Q15 + 1)) <| some (.inl (Q15 + 1)))) (some (.inr (.inl ())))
noncomputable def p_laws_lyIndex_b1 (v0 : Index) (v1 : Index) (Q35 : Int) : Option ((Int) ⊕ (Unit ⊕ Bool)) := cond (decide (Q35 < (v0.2.length : Int))) (bd (gd (ix Q35 v0.2.length) <| gd (ix Q35 v1.2.length) <| cond (!decide ((nth v0.2 Q35.toNat).1 = (nth v1.2 Q35.toNat).1)) (some (true)) (bd (p_laws_lyInts ((nth v0.2 Q35.toNat).2) ((nth v1.2 Q35.toNat).2)) fun r49 => some (!r49))) fun b44 => cond (b44) (some (.inr (.inr false))) (gd (I64 (Q35 + 1)) <| some (.inl (Q35 + 1)))) (some (.inr (.inl ())))
noncomputable def p_laws_lyIndex (v0 : Index) (v1 : Index) : Option (Bool) := bd (cond (!decide ((v0.1.length : Int) = (v1.1.length : Int))) (some (true)) (some (!decide ((v0.2.length : Int) = (v1.2.length : Int))))) fun b7 => cond (b7) (some false) (bd (lp (p_laws_lyIndex_b0 v0 v1) 0) <| sw (fun _ => bd (lp (p_laws_lyIndex_b1 v0 v1) 0) <| sw (fun _ => some true) (fun q => some q)) (fun q => some q))
theorem c_laws_lyIndex {r : Bool} (v0 : Index) (x_v0 : (Option Addr × Nat) × (Option Addr × Nat)) (v1 : Index) (x_v1 : (Option Addr × Nat) × (Option Addr × Nat)) (H : p_laws_lyIndex v0 v1 = some r) : Fn' prog 92 #[.agg #[.slice x_v0.1.1 v0.1.length x_v0.1.2, .slice x_v0.2.1 v0.2.length x_v0.2.2], .agg #[.slice x_v1.1.1 v1.1.length x_v1.1.2, .slice x_v1.2.1 v1.2.length x_v1.2.2]] [imm (.slice x_v0.1.1 v0.1.length x_v0.1.2) v0.1, imm (.slice x_v0.2.1 v0.2.length x_v0.2.2) v0.2, imm (.slice x_v1.1.1 v1.1.length x_v1.1.2) v1.1, imm (.slice x_v1.2.1 v1.2.length x_v1.2.2) v1.2] [] (ι := Unit) (fun _ => .bool (r)) (fun _ => []) (fun _ => []) := by
 refine cof (args := [_, _]) func92 ntmps92 fun c => ?_
 unfold p_laws_lyIndex at H
 refine bM aR fun X1 => (bM aR.s.s fun X2 => (bM aR.s.s.s.s fun X3 => (bM aR.s.s.s.s.s.s fun X4 => (sr (f1 (cC (t := 38) rfl) fun g5 => (f1 (cC (t := 38) rfl) fun g6 => (aH (v := .bool (false)) rfl (nl (aD (bdo H fun b7 j8 H => ?_))))))))))
 refine dD [(22, .bool (b7)), (3, .pointer (some ⟨g6, 0, none⟩)), (2, .pointer (some ⟨g5, 0, none⟩))] ?_ ?_
 ·refine dH [(3, .pointer (some ⟨g6, 0, none⟩)), (2, .pointer (some ⟨g5, 0, none⟩))] ⟨rfl, rfl, trivial⟩ (aX (cB fa38_0 rfl rfl) (aZ (bI ty35 rfl hs1 rfl) (aX (bS 105 dN rfl) (aX (cB fa38_0 rfl rfl) (aZ (bI ty35 rfl aB rfl) (aX (bS 105 dN rfl) (aX (cS rfl rfl) ?_)))))))
  rcases aK (!decide ((v0.1.length : Int) = (v1.1.length : Int))) with h9 | h9
  ·have j8 := cdT h9 j8
   refine bC (aE rfl) h9 ?_
   iterate 7 refine bE rfl ?_
   refine aX (v := .bool (true)) (bP rfl rfl) ?_
   obtain rfl := si j8
   show At _ _ _ _ _ _
   exact n1 ⟨rfl, rfl, rfl, trivial⟩
  ·have j8 := cdF h9 j8
   refine bC (aE rfl) h9 (aY rfl (cB fa38_1 rfl rfl) (bA rfl (bI ty36 rfl hs1 rfl) (aY rfl (bS 177 dO rfl) (aY rfl (cB fa38_1 rfl rfl) (bA rfl (bI ty36 rfl aB rfl) (aY rfl (bS 177 dO rfl) (aY rfl (cS rfl rfl) (aX (bO rfl rfl) ?_))))))))
   obtain rfl := si j8
   show At _ _ _ _ _ _
   exact n1 ⟨rfl, rfl, rfl, trivial⟩
 refine cH H rfl (fun h10 H => ?_) (fun h10 H => ?_)
 ·refine sr (aH (v := .bool (false)) rfl (nl (bQ (rT (?_)))))
  obtain rfl := si H
  exact bk
 ·refine bH (nT (aD (sr (aH (v := .int .i64 (0)) rfl (nl (bdo H fun x11 hx12 H => (dC (Λ := Unit) H (fun _ _ => [(2, .pointer (some ⟨g5, 0, none⟩)), (3, .pointer (some ⟨g6, 0, none⟩))]) (fun _ _ => [box g5 38 [.slice x_v0.1.1 v0.1.length x_v0.1.2, .slice x_v0.2.1 v0.2.length x_v0.2.2], box g6 38 [.slice x_v1.1.1 v1.1.length x_v1.1.2, .slice x_v1.2.1 v1.2.length x_v1.2.2]]) ?_ ?_)))))))
  ·refine aQ (dE hx12 () (fun Q15 _ => [(2, .pointer (some ⟨g5, 0, none⟩)), (3, .pointer (some ⟨g6, 0, none⟩)), (5, .int .i64 (Q15))]) (fun _ _ => [box g5 38 [.slice x_v0.1.1 v0.1.length x_v0.1.2, .slice x_v0.2.1 v0.2.length x_v0.2.2], box g6 38 [.slice x_v1.1.1 v1.1.length x_v1.1.2, .slice x_v1.2.1 v1.2.length x_v1.2.2]]) (.cons dl1 (.cons aA .nil)) ?_)
   rintro _ Q15 z16 t18 H1 hi19 hb20
   unfold p_laws_lyIndex_b0 at H1
   refine aD (sr (aF rfl (aG (cB fa38_0 rfl rfl) (aI (bI ty35 rfl aB rfl) (aG (bS 105 dN rfl) (aG (cQ rfl rfl) (nl (cH H1 rfl (fun h23 H1 => ?_) (fun h23 H1 => ?_)))))))))
   ·refine bH (nT (aD (aQ (aD (dF [(2, .pointer (some ⟨g5, 0, none⟩)), (3, .pointer (some ⟨g6, 0, none⟩)), (5, .int .i64 (Q15))] mixed (.inr (by kernel_rfl)) ⟨rfl, rfl, rfl, trivial⟩ rfl (aX (cB fa38_0 rfl rfl) (aZ (bI ty35 rfl aB rfl) (bB rfl (gdo H1 fun h24 H1 => (aZ (bW dN ty105 rfl rfl h24 rfl (aL (aT aR.s.s.s))) ?_))))))))))
    refine aZ (bZ (i := Q15.toNat) (j := 0) ty105 rfl (aL (aT aR.s.s.s)) h24.lt rfl) (aX (cB fa38_0 rfl rfl) (aZ (bI ty35 rfl hs1 rfl) (bB rfl (gdo H1 fun h25 H1 => (aZ (bW dN ty105 rfl rfl h25 rfl (aL (aT aR.s))) (aZ (bZ (i := Q15.toNat) (j := 0) ty105 rfl (aL (aT aR.s)) h25.lt rfl) (bdo H1 fun r26 h27 H1 => (aZ (bN (c_laws_lyName (nth v0.1 Q15.toNat) ((X1 Q15.toNat).1, (X1 Q15.toNat).2.1) (nth v1.1 Q15.toNat) ((X3 Q15.toNat).1, (X3 Q15.toNat).2.1) h27) rfl (aC (aL (aS (aW aR.s.s.s h24.lt))) (aC (aL (aS (aW aR.s h25.lt))) aO))) (aX (cW rfl) ?_)))))))))
    refine nT (cH H1 rfl (fun h28 H1 => ?_) (fun h28 H1 => ?_))
    ·refine sr (aH (v := .bool (false)) rfl (nl (bQ (rB (rT (rT (rB (rT (rT (?_))))))))))
     obtain rfl := hb20 _ (sm H1)
     replace H := sw.r H
     obtain rfl := si H
     exact bk
    ·exact bH (nB (nT (aP (aF rfl (gdo H1 fun h29 H1 => (aG (bR rfl rfl h29) (aH rfl (aJ (nLI () (hi19 _ (sm H1)) (.cons aA (.cons aA .nil)))))))))))
   ·exact dA (xT (xT (xE (nMI () (hb20 _ (sm H1)) (.cons aA (.cons aA .nil))))))
  ·rintro e30 y17 H
   refine nT (aD (sr (aH (v := .int .i64 (0)) rfl (nl (bdo H fun x31 hx32 H => (dC (Λ := Unit) H (fun _ _ => []) (fun _ _ => []) ?_ ?_))))))
   ·refine aQ (dE hx32 () (fun Q35 _ => [(2, .pointer (some ⟨g5, 0, none⟩)), (3, .pointer (some ⟨g6, 0, none⟩)), (6, .int .i64 (Q35))]) (fun _ _ => [box g5 38 [.slice x_v0.1.1 v0.1.length x_v0.1.2, .slice x_v0.2.1 v0.2.length x_v0.2.2], box g6 38 [.slice x_v1.1.1 v1.1.length x_v1.1.2, .slice x_v1.2.1 v1.2.length x_v1.2.2]]) (.cons aA (.cons aA .nil)) ?_)
    rintro _ Q35 z36 t38 H1 hi39 hb40
    unfold p_laws_lyIndex_b1 at H1
    refine aD (sr (aF rfl (aG (cB fa38_1 rfl rfl) (aI (bI ty36 rfl aB rfl) (aG (bS 177 dO rfl) (aG (cQ rfl rfl) (nl (cH H1 rfl (fun h43 H1 => ?_) (fun h43 H1 => ?_)))))))))
    ·refine bH (nT (aD (aQ (bdo H1 fun b44 j45 H1 => (dD [(77, .bool (b44)), (2, .pointer (some ⟨g5, 0, none⟩)), (3, .pointer (some ⟨g6, 0, none⟩)), (6, .int .i64 (Q35))] ?_ ?_)))))
     ·refine dF [(2, .pointer (some ⟨g5, 0, none⟩)), (3, .pointer (some ⟨g6, 0, none⟩)), (6, .int .i64 (Q35))] mixed (.inr (by kernel_rfl)) ⟨rfl, rfl, rfl, trivial⟩ rfl (aX (cB fa38_1 rfl rfl) (aZ (bI ty36 rfl aB rfl) (bB rfl (gdo j45 fun h46 j45 => (aZ (bW dO ty177 rfl rfl h46 rfl (aL (aT aR.s.s))) (aZ (bY (j := 0) Q35.toNat fa177_0 rfl (aL (aT aR.s.s)) h46.lt rfl) (aZ (v := .agg #[.string (((nth v0.2 Q35.toNat).1).1), .string (((nth v0.2 Q35.toNat).1).2)]) (q_ldeP [.string (((nth v0.2 Q35.toNat).1).1), .string (((nth v0.2 Q35.toNat).1).2)] (l := v0.2) (E := fun i => Dp.denc (nth v0.2 i) (X2 i)) (oa := x_v0.2.1) (i := Q35.toNat) (j := 0) ty97 rfl (aL (aT aR.s.s)) h46.lt rfl rfl) (aX (cB fa38_1 rfl rfl) (aZ (bI ty36 rfl hs1 rfl) ?_)))))))))
      refine bB rfl (gdo j45 fun h47 j45 => (aZ (bW dO ty177 rfl rfl h47 rfl (aL (aT aR))) (aZ (bY (j := 0) Q35.toNat fa177_0 rfl (aL (aT aR)) h47.lt rfl) (aZ (v := .agg #[.string (((nth v1.2 Q35.toNat).1).1), .string (((nth v1.2 Q35.toNat).1).2)]) (q_ldeP [.string (((nth v1.2 Q35.toNat).1).1), .string (((nth v1.2 Q35.toNat).1).2)] (l := v1.2) (E := fun i => Dp.denc (nth v1.2 i) (X4 i)) (oa := x_v1.2.1) (i := Q35.toNat) (j := 0) ty97 rfl (aL (aT aR)) h47.lt rfl rfl) (aX (v := .bool (!decide ((nth v0.2 Q35.toNat).1 = (nth v1.2 Q35.toNat).1))) (p_aneq (a := (nth v0.2 Q35.toNat).1) (b := (nth v1.2 Q35.toNat).1) ae97 rfl rfl rfl rfl) ?_)))))
      rcases aK (!decide ((nth v0.2 Q35.toNat).1 = (nth v1.2 Q35.toNat).1)) with h48 | h48
      ·have j45 := cdT h48 j45
       refine bC (aE rfl) h48 ?_
       iterate 14 refine bE rfl ?_
       refine aX (v := .bool (true)) (bP rfl rfl) ?_
       obtain rfl := si j45
       show At _ _ _ _ _ _
       exact n1 ⟨rfl, rfl, rfl, rfl, trivial⟩
      ·have j45 := cdF h48 j45
       refine bC (aE rfl) h48 (aY rfl (cB fa38_1 rfl rfl) (bA rfl (bI ty36 rfl aB rfl) (aY rfl (aE rfl) (bA rfl (bW dO ty177 rfl rfl h46 rfl (aL (aT aR.s.s))) (bA rfl (bY (j := 0) Q35.toNat fa177_1 rfl (aL (aT aR.s.s)) h46.lt rfl) (bA rfl (bZ (i := Q35.toNat) (j := 2) ty69 rfl (aL (aT aR.s.s)) h46.lt rfl) (aY rfl (cB fa38_1 rfl rfl) (bA rfl (bI ty36 rfl hs1 rfl) (aY rfl (aE rfl) ?_)))))))))
       refine bA rfl (bW dO ty177 rfl rfl h47 rfl (aL (aT aR))) (bA rfl (bY (j := 0) Q35.toNat fa177_1 rfl (aL (aT aR)) h47.lt rfl) (bA rfl (bZ (i := Q35.toNat) (j := 2) ty69 rfl (aL (aT aR)) h47.lt rfl) (bdo j45 fun r49 h50 j45 => (bA rfl (bN (c_laws_lyInts ((nth v0.2 Q35.toNat).2) (((X2 Q35.toNat).2).1, ((X2 Q35.toNat).2).2.1) ((nth v1.2 Q35.toNat).2) (((X4 Q35.toNat).2).1, ((X4 Q35.toNat).2).2.1) h50) rfl (aC (aL (aS (aU (aW aR.s.s h46.lt)))) (aC (aL (aS (aU (aW aR h47.lt)))) aO))) (aY rfl (cW rfl) (aX (bO rfl rfl) ?_))))))
       obtain rfl := si j45
       show At _ _ _ _ _ _
       exact n1 ⟨rfl, rfl, rfl, rfl, trivial⟩
     refine cH H1 rfl (fun h51 H1 => ?_) (fun h51 H1 => ?_)
     ·refine sr (aH (v := .bool (false)) rfl (nl (bQ (rB (rT (rT (rB (rT (rT (?_))))))))))
      obtain rfl := hb40 _ (sm H1)
      replace H := sw.r H
      obtain rfl := si H
      exact bk
     ·exact bH (nB (nT (aP (aF rfl (gdo H1 fun h52 H1 => (aG (bR rfl rfl h52) (aH rfl (aJ (nLI () (hi39 _ (sm H1)) (.cons aA (.cons aA .nil)))))))))))
    ·exact dA (xT (xT (xE (nMI () (hb40 _ (sm H1)) bK))))
   ·rintro e53 y37 H
    refine nT (sr (aH (v := .bool (true)) rfl (nl ?_)))
    obtain rfl := si H
    exact bQ bk
noncomputable def p_laws_lyPart_b0 (v0 : Part) (v1 : Part) (Q15 : Int) : Option ((Int) ⊕ (Unit ⊕ Bool)) := cond (decide (Q15 < (v0.2.length : Int))) (gd (ix Q15 v0.2.length) <| gd (ix Q15 v1.2.length) <| bd (p_laws_lyRows (nth v0.2 Q15.toNat) (nth v1.2 Q15.toNat)) fun r26 => cond (!r26) (some (.inr (.inr false))) (gd (I64 (Q15 + 1)) <| some (.inl (Q15 + 1)))) (some (.inr (.inl ())))
noncomputable def p_laws_lyPart (v0 : Part) (v1 : Part) : Option (Bool) := bd (bd (p_laws_lyInts v0.1 v1.1) fun r7 => cond (!r7) (some (true)) (some (!decide ((v0.2.length : Int) = (v1.2.length : Int))))) fun b5 => cond (b5) (some false) (bd (lp (p_laws_lyPart_b0 v0 v1) 0) <| sw (fun _ => some true) (fun q => some q))
theorem c_laws_lyPart {r : Bool} (v0 : Part) (x_v0 : (Option Addr × Nat) × (Option Addr × Nat)) (v1 : Part) (x_v1 : (Option Addr × Nat) × (Option Addr × Nat)) (H : p_laws_lyPart v0 v1 = some r) : Fn' prog 93 #[.agg #[.slice x_v0.1.1 v0.1.length x_v0.1.2, .slice x_v0.2.1 v0.2.length x_v0.2.2], .agg #[.slice x_v1.1.1 v1.1.length x_v1.1.2, .slice x_v1.2.1 v1.2.length x_v1.2.2]] [imm (.slice x_v0.1.1 v0.1.length x_v0.1.2) v0.1, imm (.slice x_v0.2.1 v0.2.length x_v0.2.2) v0.2, imm (.slice x_v1.1.1 v1.1.length x_v1.1.2) v1.1, imm (.slice x_v1.2.1 v1.2.length x_v1.2.2) v1.2] [] (ι := Unit) (fun _ => .bool (r)) (fun _ => []) (fun _ => []) := by
 refine cof (args := [_, _]) func93 ntmps93 fun c => ?_
 unfold p_laws_lyPart at H
 refine bM aR.s fun X1 => (bM aR.s.s.s.s fun X2 => (sr (f1 (cC (t := 72) rfl) fun g3 => (f1 (cC (t := 72) rfl) fun g4 => (aH (v := .bool (false)) rfl (nl (aD (bdo H fun b5 j6 H => (dD [(20, .bool (b5)), (3, .pointer (some ⟨g4, 0, none⟩)), (2, .pointer (some ⟨g3, 0, none⟩))] ?_ ?_)))))))))
 ·refine dH [(3, .pointer (some ⟨g4, 0, none⟩)), (2, .pointer (some ⟨g3, 0, none⟩))] ⟨rfl, rfl, trivial⟩ (aX (cB fa72_0 rfl rfl) (aZ (bI ty69 rfl hs1 rfl) (aX (cB fa72_0 rfl rfl) (aZ (bI ty69 rfl aB rfl) (bdo j6 fun r7 h8 j6 => (aZ (bN (c_laws_lyInts v0.1 x_v0.1 v1.1 x_v1.1 h8) rfl (aC (aL aR.s.s) (aC (aL aR.s.s.s.s) aO))) (aX (cW rfl) ?_)))))))
  rcases aK (!r7) with h9 | h9
  ·have j6 := cdT h9 j6
   refine bC (aE rfl) h9 ?_
   iterate 7 refine bE rfl ?_
   refine aX (v := .bool (true)) (bP rfl rfl) ?_
   obtain rfl := si j6
   show At _ _ _ _ _ _
   exact n1 ⟨rfl, rfl, rfl, trivial⟩
  ·have j6 := cdF h9 j6
   refine bC (aE rfl) h9 (aY rfl (cB fa72_1 rfl rfl) (bA rfl (bI ty70 rfl hs1 rfl) (aY rfl (bS 63 dW rfl) (aY rfl (cB fa72_1 rfl rfl) (bA rfl (bI ty70 rfl aB rfl) (aY rfl (bS 63 dW rfl) (aY rfl (cS rfl rfl) (aX (bO rfl rfl) ?_))))))))
   obtain rfl := si j6
   show At _ _ _ _ _ _
   exact n1 ⟨rfl, rfl, rfl, trivial⟩
 refine cH H rfl (fun h10 H => ?_) (fun h10 H => ?_)
 ·refine sr (aH (v := .bool (false)) rfl (nl (bQ (rT (?_)))))
  obtain rfl := si H
  exact bk
 ·refine bH (nT (aD (sr (aH (v := .int .i64 (0)) rfl (nl (bdo H fun x11 hx12 H => (dC (Λ := Unit) H (fun _ _ => []) (fun _ _ => []) ?_ ?_)))))))
  ·refine aQ (dE hx12 () (fun Q15 _ => [(2, .pointer (some ⟨g3, 0, none⟩)), (3, .pointer (some ⟨g4, 0, none⟩)), (5, .int .i64 (Q15))]) (fun _ _ => [box g3 72 [.slice x_v0.1.1 v0.1.length x_v0.1.2, .slice x_v0.2.1 v0.2.length x_v0.2.2], box g4 72 [.slice x_v1.1.1 v1.1.length x_v1.1.2, .slice x_v1.2.1 v1.2.length x_v1.2.2]]) (.cons dl1 (.cons aA .nil)) ?_)
   rintro _ Q15 z16 t18 H1 hi19 hb20
   unfold p_laws_lyPart_b0 at H1
   refine aD (sr (aF rfl (aG (cB fa72_1 rfl rfl) (aI (bI ty70 rfl aB rfl) (aG (bS 63 dW rfl) (aG (cQ rfl rfl) (nl (cH H1 rfl (fun h23 H1 => ?_) (fun h23 H1 => ?_)))))))))
   ·refine bH (nT (aD (aQ (aD (dF [(2, .pointer (some ⟨g3, 0, none⟩)), (3, .pointer (some ⟨g4, 0, none⟩)), (5, .int .i64 (Q15))] mixed (.inr (by kernel_rfl)) ⟨rfl, rfl, rfl, trivial⟩ rfl (aX (cB fa72_1 rfl rfl) (aZ (bI ty70 rfl aB rfl) (bB rfl (gdo H1 fun h24 H1 => (aZ (bW dW ty63 rfl rfl h24 rfl (aL (aT aR.s))) ?_))))))))))
    refine aZ (bZ (i := Q15.toNat) (j := 0) ty63 rfl (aL (aT aR.s)) h24.lt rfl) (aX (cB fa72_1 rfl rfl) (aZ (bI ty70 rfl hs1 rfl) (bB rfl (gdo H1 fun h25 H1 => (aZ (bW dW ty63 rfl rfl h25 rfl (aL (aT aR))) (aZ (bZ (i := Q15.toNat) (j := 0) ty63 rfl (aL (aT aR)) h25.lt rfl) (bdo H1 fun r26 h27 H1 => (aZ (bN (c_laws_lyRows (nth v0.2 Q15.toNat) ((X1 Q15.toNat).1, (X1 Q15.toNat).2.1) (nth v1.2 Q15.toNat) ((X2 Q15.toNat).1, (X2 Q15.toNat).2.1) h27) rfl (aC (aL (aS (aW aR.s h24.lt))) (aC (aL (aS (aW aR h25.lt))) aO))) (aX (cW rfl) ?_)))))))))
    refine nT (cH H1 rfl (fun h28 H1 => ?_) (fun h28 H1 => ?_))
    ·refine sr (aH (v := .bool (false)) rfl (nl (bQ (rB (rT (rT (rB (rT (rT (?_))))))))))
     obtain rfl := hb20 _ (sm H1)
     replace H := sw.r H
     obtain rfl := si H
     exact bk
    ·exact bH (nB (nT (aP (aF rfl (gdo H1 fun h29 H1 => (aG (bR rfl rfl h29) (aH rfl (aJ (nLI () (hi19 _ (sm H1)) (.cons aA (.cons aA .nil)))))))))))
   ·exact dA (xT (xT (xE (nMI () (hb20 _ (sm H1)) bK))))
  ·rintro e30 y17 H
   refine nT (sr (aH (v := .bool (true)) rfl (nl ?_)))
   obtain rfl := si H
   exact bQ bk
noncomputable def p_laws_lyStore_b0 (v0 : Store) (v1 : Store) (Q20 : Int) : Option ((Int) ⊕ (Unit ⊕ Bool)) := cond (decide (Q20 < (v0.2.1.length : Int))) (gd (ix Q20 v0.2.1.length) <| gd (ix Q20 v1.2.1.length) <| bd (p_laws_lyPart (nth v0.2.1 Q20.toNat) (nth v1.2.1 Q20.toNat)) fun r31 => cond (!r31) (some (.inr (.inr false))) (gd (I64 (Q20 + 1)) <| some (.inl (Q20 + 1)))) (some (.inr (.inl ())))
noncomputable def p_laws_lyStore_b1 (v0 : Store) (v1 : Store) (Q40 : Int) : Option ((Int) ⊕ (Unit ⊕ Bool)) := cond (decide (Q40 < (v0.2.2.length : Int))) (gd (ix Q40 v0.2.2.length) <| gd (ix Q40 v1.2.2.length) <| cond (!decide (nth v0.2.2 Q40.toNat = nth v1.2.2 Q40.toNat)) (some (.inr (.inr false))) (gd (I64 (Q40 + 1)) <| some (.inl (Q40 + 1)))) (some (.inr (.inl ())))
noncomputable def p_laws_lyStore (v0 : Store) (v1 : Store) : Option (Bool) := bd (bd (p_laws_lyIndex v0.1 v1.1) fun r11 => cond (!r11) (some (true)) (cond (!decide ((v0.2.1.length : Int) = (v1.2.1.length : Int))) (some (true)) (some (!decide ((v0.2.2.length : Int) = (v1.2.2.length : Int)))))) fun b9 => cond (b9) (some false) (bd (lp (p_laws_lyStore_b0 v0 v1) 0) <| sw (fun _ => bd (lp (p_laws_lyStore_b1 v0 v1) 0) <| sw (fun _ => some true) (fun q => some q)) (fun q => some q))
theorem c_laws_lyStore {r : Bool} (v0 : Store) (x_v0 : ((Option Addr × Nat) × (Option Addr × Nat)) × (Option Addr × Nat) × (Option Addr × Nat)) (v1 : Store) (x_v1 : ((Option Addr × Nat) × (Option Addr × Nat)) × (Option Addr × Nat) × (Option Addr × Nat)) (H : p_laws_lyStore v0 v1 = some r) : Fn' prog 38 #[.agg #[.slice x_v0.1.1.1 v0.1.1.length x_v0.1.1.2, .slice x_v0.1.2.1 v0.1.2.length x_v0.1.2.2, .slice x_v0.2.1.1 v0.2.1.length x_v0.2.1.2, .slice x_v0.2.2.1 v0.2.2.length x_v0.2.2.2], .agg #[.slice x_v1.1.1.1 v1.1.1.length x_v1.1.1.2, .slice x_v1.1.2.1 v1.1.2.length x_v1.1.2.2, .slice x_v1.2.1.1 v1.2.1.length x_v1.2.1.2, .slice x_v1.2.2.1 v1.2.2.length x_v1.2.2.2]] [imm (.slice x_v0.1.1.1 v0.1.1.length x_v0.1.1.2) v0.1.1, imm (.slice x_v0.1.2.1 v0.1.2.length x_v0.1.2.2) v0.1.2, imm (.slice x_v0.2.1.1 v0.2.1.length x_v0.2.1.2) v0.2.1, imm (.slice x_v0.2.2.1 v0.2.2.length x_v0.2.2.2) v0.2.2, imm (.slice x_v1.1.1.1 v1.1.1.length x_v1.1.1.2) v1.1.1, imm (.slice x_v1.1.2.1 v1.1.2.length x_v1.1.2.2) v1.1.2, imm (.slice x_v1.2.1.1 v1.2.1.length x_v1.2.1.2) v1.2.1, imm (.slice x_v1.2.2.1 v1.2.2.length x_v1.2.2.2) v1.2.2] [] (ι := Unit) (fun _ => .bool (r)) (fun _ => []) (fun _ => []) := by
 refine cof (args := [_, _]) func38 ntmps38 fun c => ?_
 unfold p_laws_lyStore at H
 refine bM aR fun X1 => (bM aR.s.s fun X2 => (bM aR.s.s.s.s fun X3 => (bM aR.s.s.s.s.s.s.s fun X4 => (bM aR.s.s.s.s.s.s.s.s.s fun X5 => (bM aR.s.s.s.s.s.s.s.s.s.s.s fun X6 => (sr (f1 (cC (t := 42) rfl) fun g7 => (f1 (cC (t := 42) rfl) fun g8 => (aH (v := .bool (false)) rfl (nl ?_))))))))))
 refine aD (bdo H fun b9 j10 H => (dD [(30, .bool (b9)), (3, .pointer (some ⟨g8, 0, none⟩)), (2, .pointer (some ⟨g7, 0, none⟩))] ?_ ?_))
 ·refine dH [(3, .pointer (some ⟨g8, 0, none⟩)), (2, .pointer (some ⟨g7, 0, none⟩))] ⟨rfl, rfl, trivial⟩ (aX (cB fa42_0 rfl rfl) (aZ (v := .agg #[.slice x_v0.1.1.1 v0.1.1.length x_v0.1.1.2, .slice x_v0.1.2.1 v0.1.2.length x_v0.1.2.2]) (q_ldbP [.slice x_v0.1.1.1 v0.1.1.length x_v0.1.1.2, .slice x_v0.1.2.1 v0.1.2.length x_v0.1.2.2] ty38 rfl hs1 rfl rfl) (aX (cB fa42_0 rfl rfl) (aZ (v := .agg #[.slice x_v1.1.1.1 v1.1.1.length x_v1.1.1.2, .slice x_v1.1.2.1 v1.1.2.length x_v1.1.2.2]) (q_ldbP [.slice x_v1.1.1.1 v1.1.1.length x_v1.1.1.2, .slice x_v1.1.2.1 v1.1.2.length x_v1.1.2.2] ty38 rfl aB rfl rfl) (bdo j10 fun r11 h12 j10 => (aZ (bN (c_laws_lyIndex v0.1 x_v0.1 v1.1 x_v1.1 h12) rfl (aC (aL (aS aR.s.s.s.s.s)) (aC (aL (aS aR.s.s.s.s)) (aC (aL (aS aR.s.s)) (aC (aL (aS aR.s)) aO))))) (aX (cW rfl) ?_)))))))
  rcases aK (!r11) with h13 | h13
  ·have j10 := cdT h13 j10
   refine bC (aE rfl) h13 ?_
   iterate 7 refine bE rfl ?_
   refine aX (v := .bool (true)) (bP rfl rfl) (bB (v := .bool (true)) rfl ?_)
   iterate 7 refine bE rfl ?_
   refine aX (v := .bool (true)) (bP rfl rfl) ?_
   obtain rfl := si j10
   show At _ _ _ _ _ _
   exact n1 ⟨rfl, rfl, rfl, trivial⟩
  ·have j10 := cdF h13 j10
   refine bC (aE rfl) h13 (aY rfl (cB fa42_1 rfl rfl) (bA rfl (bI ty39 rfl hs1 rfl) (aY rfl (bS 72 dP rfl) (aY rfl (cB fa42_1 rfl rfl) (bA rfl (bI ty39 rfl aB rfl) (aY rfl (bS 72 dP rfl) (aY rfl (cS rfl rfl) (aX (bO rfl rfl) ?_))))))))
   rcases aK (!decide ((v0.2.1.length : Int) = (v1.2.1.length : Int))) with h14 | h14
   ·have j10 := cdT h14 j10
    refine bC (aE rfl) h14 ?_
    iterate 7 refine bE rfl ?_
    refine aX (v := .bool (true)) (bP rfl rfl) ?_
    obtain rfl := si j10
    show At _ _ _ _ _ _
    exact n1 ⟨rfl, rfl, rfl, trivial⟩
   ·have j10 := cdF h14 j10
    refine bC (aE rfl) h14 (aY rfl (cB fa42_2 rfl rfl) (bA rfl (bI ty40 rfl hs1 rfl) (aY rfl (bS 59 dQ rfl) (aY rfl (cB fa42_2 rfl rfl) (bA rfl (bI ty40 rfl aB rfl) (aY rfl (bS 59 dQ rfl) (aY rfl (cS rfl rfl) (aX (bO rfl rfl) ?_))))))))
    obtain rfl := si j10
    show At _ _ _ _ _ _
    exact n1 ⟨rfl, rfl, rfl, trivial⟩
 refine cH H rfl (fun h15 H => ?_) (fun h15 H => ?_)
 ·refine sr (aH (v := .bool (false)) rfl (nl (bQ (rT (?_)))))
  obtain rfl := si H
  exact bk
 ·refine bH (nT (aD (sr (aH (v := .int .i64 (0)) rfl (nl (bdo H fun x16 hx17 H => (dC (Λ := Unit) H (fun _ _ => [(2, .pointer (some ⟨g7, 0, none⟩)), (3, .pointer (some ⟨g8, 0, none⟩))]) (fun _ _ => [box g7 42 [.slice x_v0.1.1.1 v0.1.1.length x_v0.1.1.2, .slice x_v0.1.2.1 v0.1.2.length x_v0.1.2.2, .slice x_v0.2.1.1 v0.2.1.length x_v0.2.1.2, .slice x_v0.2.2.1 v0.2.2.length x_v0.2.2.2], box g8 42 [.slice x_v1.1.1.1 v1.1.1.length x_v1.1.1.2, .slice x_v1.1.2.1 v1.1.2.length x_v1.1.2.2, .slice x_v1.2.1.1 v1.2.1.length x_v1.2.1.2, .slice x_v1.2.2.1 v1.2.2.length x_v1.2.2.2]]) ?_ ?_)))))))
  ·refine aQ (dE hx17 () (fun Q20 _ => [(2, .pointer (some ⟨g7, 0, none⟩)), (3, .pointer (some ⟨g8, 0, none⟩)), (5, .int .i64 (Q20))]) (fun _ _ => [box g7 42 [.slice x_v0.1.1.1 v0.1.1.length x_v0.1.1.2, .slice x_v0.1.2.1 v0.1.2.length x_v0.1.2.2, .slice x_v0.2.1.1 v0.2.1.length x_v0.2.1.2, .slice x_v0.2.2.1 v0.2.2.length x_v0.2.2.2], box g8 42 [.slice x_v1.1.1.1 v1.1.1.length x_v1.1.1.2, .slice x_v1.1.2.1 v1.1.2.length x_v1.1.2.2, .slice x_v1.2.1.1 v1.2.1.length x_v1.2.1.2, .slice x_v1.2.2.1 v1.2.2.length x_v1.2.2.2]]) (.cons dl1 (.cons aA .nil)) ?_)
   rintro _ Q20 z21 t23 H1 hi24 hb25
   unfold p_laws_lyStore_b0 at H1
   refine aD (sr (aF rfl (aG (cB fa42_1 rfl rfl) (aI (bI ty39 rfl aB rfl) (aG (bS 72 dP rfl) (aG (cQ rfl rfl) (nl (cH H1 rfl (fun h28 H1 => ?_) (fun h28 H1 => ?_)))))))))
   ·refine bH (nT (aD (aQ (aD (dF [(2, .pointer (some ⟨g7, 0, none⟩)), (3, .pointer (some ⟨g8, 0, none⟩)), (5, .int .i64 (Q20))] mixed (.inr (by kernel_rfl)) ⟨rfl, rfl, rfl, trivial⟩ rfl (aX (cB fa42_1 rfl rfl) (aZ (bI ty39 rfl aB rfl) (bB rfl (gdo H1 fun h29 H1 => (aZ (bW dP ty72 rfl rfl h29 rfl (aL (aT aR.s.s.s))) ?_))))))))))
    refine aZ (v := .agg #[.slice (((X3 Q20.toNat).1).1) (((nth v0.2.1 Q20.toNat).1).length) (((X3 Q20.toNat).1).2.1), .slice (((X3 Q20.toNat).2).1) (((nth v0.2.1 Q20.toNat).2).length) (((X3 Q20.toNat).2).2.1)]) (cA (i := Q20.toNat) ty72 rfl (aL (aT aR.s.s.s)) h29.lt) (aX (cB fa42_1 rfl rfl) (aZ (bI ty39 rfl hs1 rfl) (bB rfl (gdo H1 fun h30 H1 => (aZ (bW dP ty72 rfl rfl h30 rfl (aL (aT aR))) (aZ (v := .agg #[.slice (((X6 Q20.toNat).1).1) (((nth v1.2.1 Q20.toNat).1).length) (((X6 Q20.toNat).1).2.1), .slice (((X6 Q20.toNat).2).1) (((nth v1.2.1 Q20.toNat).2).length) (((X6 Q20.toNat).2).2.1)]) (cA (i := Q20.toNat) ty72 rfl (aL (aT aR)) h30.lt) (bdo H1 fun r31 h32 H1 => (aZ (bN (c_laws_lyPart (nth v0.2.1 Q20.toNat) ((((X3 Q20.toNat).1).1, ((X3 Q20.toNat).1).2.1), (((X3 Q20.toNat).2).1, ((X3 Q20.toNat).2).2.1)) (nth v1.2.1 Q20.toNat) ((((X6 Q20.toNat).1).1, ((X6 Q20.toNat).1).2.1), (((X6 Q20.toNat).2).1, ((X6 Q20.toNat).2).2.1)) h32) rfl (aC (aL (aS (aV (aW aR.s.s.s h29.lt)))) (aC (aL (aS (aU (aW aR.s.s.s h29.lt)))) (aC (aL (aS (aV (aW aR h30.lt)))) (aC (aL (aS (aU (aW aR h30.lt)))) aO))))) (aX (cW rfl) ?_)))))))))
    refine nT (cH H1 rfl (fun h33 H1 => ?_) (fun h33 H1 => ?_))
    ·refine sr (aH (v := .bool (false)) rfl (nl (bQ (rB (rT (rT (rB (rT (rT (?_))))))))))
     obtain rfl := hb25 _ (sm H1)
     replace H := sw.r H
     obtain rfl := si H
     exact bk
    ·exact bH (nB (nT (aP (aF rfl (gdo H1 fun h34 H1 => (aG (bR rfl rfl h34) (aH rfl (aJ (nLI () (hi24 _ (sm H1)) (.cons aA (.cons aA .nil)))))))))))
   ·exact dA (xT (xT (xE (nMI () (hb25 _ (sm H1)) (.cons aA (.cons aA .nil))))))
  ·rintro e35 y22 H
   refine nT (aD (sr (aH (v := .int .i64 (0)) rfl (nl (bdo H fun x36 hx37 H => (dC (Λ := Unit) H (fun _ _ => []) (fun _ _ => []) ?_ ?_))))))
   ·refine aQ (dE hx37 () (fun Q40 _ => [(2, .pointer (some ⟨g7, 0, none⟩)), (3, .pointer (some ⟨g8, 0, none⟩)), (6, .int .i64 (Q40))]) (fun _ _ => [box g7 42 [.slice x_v0.1.1.1 v0.1.1.length x_v0.1.1.2, .slice x_v0.1.2.1 v0.1.2.length x_v0.1.2.2, .slice x_v0.2.1.1 v0.2.1.length x_v0.2.1.2, .slice x_v0.2.2.1 v0.2.2.length x_v0.2.2.2], box g8 42 [.slice x_v1.1.1.1 v1.1.1.length x_v1.1.1.2, .slice x_v1.1.2.1 v1.1.2.length x_v1.1.2.2, .slice x_v1.2.1.1 v1.2.1.length x_v1.2.1.2, .slice x_v1.2.2.1 v1.2.2.length x_v1.2.2.2]]) (.cons aA (.cons aA .nil)) ?_)
    rintro _ Q40 z41 t43 H1 hi44 hb45
    unfold p_laws_lyStore_b1 at H1
    refine aD (sr (aF rfl (aG (cB fa42_2 rfl rfl) (aI (bI ty40 rfl aB rfl) (aG (bS 59 dQ rfl) (aG (cQ rfl rfl) (nl (cH H1 rfl (fun h48 H1 => ?_) (fun h48 H1 => ?_)))))))))
    ·refine bH (nT (aD (aQ (aD (dF [(2, .pointer (some ⟨g7, 0, none⟩)), (3, .pointer (some ⟨g8, 0, none⟩)), (6, .int .i64 (Q40))] mixed (.inr (by kernel_rfl)) ⟨rfl, rfl, rfl, trivial⟩ rfl (aX (cB fa42_2 rfl rfl) (aZ (bI ty40 rfl aB rfl) (bB rfl (gdo H1 fun h49 H1 => (aZ (bW dQ ty59 rfl rfl h49 rfl (aN (aL aR.s.s.s.s.s.s.s.s.s))) ?_))))))))))
     refine aZ (v := .agg #[.int .i64 ((nth v0.2.2 Q40.toNat).1), .int .i64 (((nth v0.2.2 Q40.toNat).2).1), .int .i64 (((nth v0.2.2 Q40.toNat).2).2)]) (cA (i := Q40.toNat) ty59 rfl (aN (aL aR.s.s.s.s.s.s.s.s.s)) h49.lt) (aX (cB fa42_2 rfl rfl) (aZ (bI ty40 rfl hs1 rfl) (bB rfl (gdo H1 fun h50 H1 => (aZ (bW dQ ty59 rfl rfl h50 rfl (aN (aL aR.s.s.s.s.s.s.s.s.s.s.s.s.s))) (aZ (v := .agg #[.int .i64 ((nth v1.2.2 Q40.toNat).1), .int .i64 (((nth v1.2.2 Q40.toNat).2).1), .int .i64 (((nth v1.2.2 Q40.toNat).2).2)]) (cA (i := Q40.toNat) ty59 rfl (aN (aL aR.s.s.s.s.s.s.s.s.s.s.s.s.s)) h50.lt) (aX (v := .bool (!decide (nth v0.2.2 Q40.toNat = nth v1.2.2 Q40.toNat))) (p_aneq (a := nth v0.2.2 Q40.toNat) (b := nth v1.2.2 Q40.toNat) ae59 rfl rfl rfl rfl) (nT (cH H1 rfl (fun h51 H1 => ?_) (fun h51 H1 => ?_))))))))))
     ·refine sr (aH (v := .bool (false)) rfl (nl (bQ (rB (rT (rT (rB (rT (rT (?_))))))))))
      obtain rfl := hb45 _ (sm H1)
      replace H := sw.r H
      obtain rfl := si H
      exact bk
     ·exact bH (nB (nT (aP (aF rfl (gdo H1 fun h52 H1 => (aG (bR rfl rfl h52) (aH rfl (aJ (nLI () (hi44 _ (sm H1)) (.cons aA (.cons aA .nil)))))))))))
    ·exact dA (xT (xT (xE (nMI () (hb45 _ (sm H1)) bK))))
   ·rintro e53 y42 H
    refine nT (sr (aH (v := .bool (true)) rfl (nl ?_)))
    obtain rfl := si H
    exact bQ bk
noncomputable def p_laws_FnFlushPart_b1 (r2 : Store) (Q34 : Int) (Q49 : (List Row) × Int) : Option (((List Row) × Int) ⊕ ((List Row))) := cond (decide (Q49.2 < (r2.2.2.length : Int))) (gd (ix Q49.2 r2.2.2.length) <| cond (decide (((nth r2.2.2 Q49.2.toNat).1) = Q34)) (bd (p_impl_BlockPut Q49.1 ((nth r2.2.2 Q49.2.toNat).2)) fun r60 => gd (I64 (Q49.2 + 1)) <| some (.inl (r60.1, Q49.2 + 1))) (gd (I64 (Q49.2 + 1)) <| some (.inl (Q49.1, Q49.2 + 1)))) (some (.inr Q49.1))
noncomputable def p_laws_FnFlushPart_b0 (r2 : Store) (r10 : Store × Bool) (Q34 : Int) : Option ((Int) ⊕ (Unit ⊕ Bool)) := cond (decide (Q34 ≤ 6)) (bd (lp (p_laws_FnFlushPart_b1 r2 Q34) (([] : List Row), 0)) fun x45 => bd (p_impl_PartOf (nth r10.1.2.1 (((r10.1.2.1.length : Int) - 1).toNat)) Q34) fun r65 => bd (p_laws_lyRows r65 x45) fun r68 => cond (!r68) (some (.inr (.inr false))) (gd (I64 (Q34 + 1)) <| some (.inl (Q34 + 1)))) (some (.inr (.inl ())))
noncomputable def p_laws_FnFlushPart (v0 : (List UInt8)) : Option (Bool) := cond (decide (1048576 < (v0.length : Int))) (some true) (bd (p_spec_DrawStoreFlush v0) fun r2 => bd (p_spec_StoreFlush r2) fun r6 => bd (p_impl_StoreFlush r2) fun r10 => bd (cond (!decide (r10.2 = r6.2)) (some (true)) (bd (p_laws_lyStore r10.1 r6.1) fun r17 => cond (!r17) (some (true)) (some (!r10.2)))) fun b14 => cond (b14) (bd (cond (decide (r10.2 = r6.2)) (bd (p_laws_lyStore r10.1 r6.1) fun r24 => some (r24)) (some (false))) fun b21 => some b21) (gd (I64 ((r10.1.2.1.length : Int) - 1)) <| gd (ix ((r10.1.2.1.length : Int) - 1) r10.1.2.1.length) <| bd (lp (p_laws_FnFlushPart_b0 r2 r10) 1) <| sw (fun _ => bd (p_impl_PartOk (nth r10.1.2.1 (((r10.1.2.1.length : Int) - 1).toNat))) fun r73 => some r73) (fun q => some q)))
theorem c_laws_FnFlushPart {r : Bool} (v0 : (List UInt8)) (x_v0 : Option Addr × Nat) (H : p_laws_FnFlushPart v0 = some r) : Fn' prog 7 #[.slice x_v0.1 v0.length x_v0.2] [imm (.slice x_v0.1 v0.length x_v0.2) v0] [] (ι := Unit) (fun _ => .bool (r)) (fun _ => []) (fun _ => []) := by
 refine cof (args := [_]) func7 ntmps7 fun c => ?_
 unfold p_laws_FnFlushPart at H
 refine sr (aH (v := .bool (false)) rfl (nl (aD (sr (aF rfl (aG (bS 5 dT rfl) (aG (cV rfl rfl) (nl (cH H rfl (fun h1 H => ?_) (fun h1 H => ?_))))))))))
 ·refine sr (aH (v := .bool (true)) rfl (nl (bQ (rT (?_)))))
  obtain rfl := si H
  exact bk
 ·refine bH (nT (sr (aF rfl (bdo H fun r2 h3 H => (f1 (e_call (c_spec_DrawStoreFlush v0 x_v0 h3) rfl (cM aR cN) bK) fun x4 => (f1 (cD ty42) fun g5 => (stb (cs' := [.slice x4.1.1.1 r2.1.1.length x4.1.1.2, .slice x4.1.2.1 r2.1.2.length x4.1.2.2, .slice x4.2.1.1 r2.2.1.length x4.2.1.2, .slice x4.2.2.1 r2.2.2.length x4.2.2.2]) ty42 cY (nl (sr ?_)))))))))
  refine aI (bJ ty42 rfl aB rfl) (bdo H fun r6 h7 H => (f1 (e_call (c_spec_StoreFlush r2 x4 h7) rfl (cM aR (cM aR.s (cM aR.s.s (cM aR.s.s.s cN)))) bK) fun x8 => (aF rfl (aG (cZ rfl rfl) (aG (cZ rfl rfl) (f1 (cD ty42) fun g9 => (stb (cs' := [.slice x8.1.1.1.1 r6.1.1.1.length x8.1.1.1.2, .slice x8.1.1.2.1 r6.1.1.2.length x8.1.1.2.2, .slice x8.1.2.1.1 r6.1.2.1.length x8.1.2.1.2, .slice x8.1.2.2.1 r6.1.2.2.length x8.1.2.2.2]) ty42 cY (aH rfl (nl (sr ?_))))))))))
  refine aI (bJ ty42 rfl hs1 rfl) (bdo H fun r10 h11 H => (f1 (cF (c_impl_StoreFlush r2 x4 h11) (fun _ => (bF (bF (bF (bF bG))))) rfl (aC (aL aR.s.s.s.s) (aC (aL aR.s.s.s.s.s) (aC (aL aR.s.s.s.s.s.s) (aC (aL aR.s.s.s.s.s.s.s) aO))))) fun x12 => (aF rfl (aG (cZ rfl rfl) (aG (cZ rfl rfl) (f1 (cD ty42) fun g13 => (stb (cs' := [.slice x12.1.1.1.1 r10.1.1.1.length x12.1.1.1.2, .slice x12.1.1.2.1 r10.1.1.2.length x12.1.1.2.2, .slice x12.1.2.1.1 r10.1.2.1.length x12.1.2.1.2, .slice x12.1.2.2.1 r10.1.2.2.length x12.1.2.2.2]) ty42 cY (aH rfl (nl (aD ?_))))))))))
  refine bdo H fun b14 j15 H => (dD [(39, .bool (b14)), (7, .bool (r10.2)), (6, .pointer (some ⟨g13, 0, none⟩)), (5, .bool (r6.2)), (4, .pointer (some ⟨g9, 0, none⟩)), (3, .pointer (some ⟨g5, 0, none⟩))] ?_ ?_)
  ·refine dH [(7, .bool (r10.2)), (6, .pointer (some ⟨g13, 0, none⟩)), (5, .bool (r6.2)), (4, .pointer (some ⟨g9, 0, none⟩)), (3, .pointer (some ⟨g5, 0, none⟩))] ⟨rfl, rfl, rfl, rfl, rfl, trivial⟩ (bB rfl (bB rfl (aX (p_bneq underlying4 rfl rfl) ?_)))
   rcases aK (!decide (r10.2 = r6.2)) with h16 | h16
   ·have j15 := cdT h16 j15
    refine bC (aE rfl) h16 ?_
    iterate 4 refine bE rfl ?_
    refine aX (v := .bool (true)) (bP rfl rfl) (bB (v := .bool (true)) rfl ?_)
    iterate 2 refine bE rfl ?_
    refine aX (v := .bool (true)) (bP rfl rfl) ?_
    obtain rfl := si j15
    show At _ _ _ _ _ _
    exact n1 ⟨rfl, rfl, rfl, rfl, rfl, rfl, trivial⟩
   ·have j15 := cdF h16 j15
    refine bC (aE rfl) h16 (bA rfl (bJ ty42 rfl aB rfl) (bA rfl (bJ ty42 rfl hs5 rfl) (bdo j15 fun r17 h18 j15 => (bA rfl (bN (c_laws_lyStore r10.1 x12.1 r6.1 x8.1 h18) rfl (aC (bL hs1) (aC (bL hs2) (aC (bL hs3) (aC (bL hs4) (aC (aL aR) (aC (aL aR.s) (aC (aL aR.s.s) (aC (aL aR.s.s.s) aO))))))))) (aY rfl (cW rfl) (aX (bO rfl rfl) ?_))))))
    rcases aK (!r17) with h19 | h19
    ·have j15 := cdT h19 j15
     refine bC (aE rfl) h19 ?_
     iterate 2 refine bE rfl ?_
     refine aX (v := .bool (true)) (bP rfl rfl) ?_
     obtain rfl := si j15
     show At _ _ _ _ _ _
     exact n1 ⟨rfl, rfl, rfl, rfl, rfl, rfl, trivial⟩
    ·have j15 := cdF h19 j15
     refine bC (aE rfl) h19 (aY rfl (aE rfl) (aY rfl (cW rfl) (aX (bO rfl rfl) ?_)))
     obtain rfl := si j15
     show At _ _ _ _ _ _
     exact n1 ⟨rfl, rfl, rfl, rfl, rfl, rfl, trivial⟩
  refine cH H rfl (fun h20 H => ?_) (fun h20 H => ?_)
  ·refine bdo H fun b21 j22 H => (dD [(2, .bool (b21))] ?_ ?_)
   ·refine dH [(7, .bool (r10.2)), (6, .pointer (some ⟨g13, 0, none⟩)), (5, .bool (r6.2)), (4, .pointer (some ⟨g9, 0, none⟩))] ⟨rfl, rfl, rfl, rfl, trivial⟩ (bB rfl (bB rfl (aX (p_beql underlying4 rfl rfl) ?_)))
    rcases aK (decide (r10.2 = r6.2)) with h23 | h23
    ·have j22 := cdT h23 j22
     refine bC (aE rfl) h23 (bA rfl (bJ ty42 rfl aB rfl) (bA rfl (bJ ty42 rfl hs5 rfl) (bdo j22 fun r24 h25 j22 => (bA rfl (bN (c_laws_lyStore r10.1 x12.1 r6.1 x8.1 h25) rfl (aC (bL hs1) (aC (bL hs2) (aC (bL hs3) (aC (bL hs4) (aC (aL aR) (aC (aL aR.s) (aC (aL aR.s.s) (aC (aL aR.s.s.s) aO))))))))) (aX (bP rfl rfl) (aX (p_assign rfl) ?_))))))
     obtain rfl := si j22
     show At _ _ _ _ _ _
     exact n1 ⟨rfl, trivial⟩
    ·have j22 := cdF h23 j22
     refine bC (aE rfl) h23 ?_
     iterate 3 refine bE rfl ?_
     refine aX (v := .bool (false)) (bO rfl rfl) (aX (v := .bool (false)) (p_assign rfl) ?_)
     obtain rfl := si j22
     show At _ _ _ _ _ _
     exact n1 ⟨rfl, trivial⟩
   refine bQ (rT (?_))
   obtain rfl := si H
   exact bk
  ·refine bH (nT (aD (Tr.freeze (.cons dl3 .nil) (bM aR fun X26 => (aP (aG (cB fa42_1 rfl rfl) (aI (bI ty39 rfl aB rfl) (aG (cB fa42_1 rfl rfl) (aI (bI ty39 rfl aB rfl) (aG (bS 72 dP rfl) ?_))))))))))
   refine gdo H fun h27 H => (aG (cR rfl rfl h27) (gdo H fun h28 H => (aI (bW dP ty72 rfl rfl h28 rfl (aL (aT aR))) (aI (v := .agg #[.slice (((X26 (((r10.1.2.1.length : Int) - 1).toNat)).1).1) (((nth r10.1.2.1 (((r10.1.2.1.length : Int) - 1).toNat)).1).length) (((X26 (((r10.1.2.1.length : Int) - 1).toNat)).1).2.1), .slice (((X26 (((r10.1.2.1.length : Int) - 1).toNat)).2).1) (((nth r10.1.2.1 (((r10.1.2.1.length : Int) - 1).toNat)).2).length) (((X26 (((r10.1.2.1.length : Int) - 1).toNat)).2).2.1)]) (cA (i := ((r10.1.2.1.length : Int) - 1).toNat) ty72 rfl (aL (aT aR)) h28.lt) (f1 (cD ty72) fun g29 => (stb (cs' := [.slice (((X26 (((r10.1.2.1.length : Int) - 1).toNat)).1).1) (((nth r10.1.2.1 (((r10.1.2.1.length : Int) - 1).toNat)).1).length) (((X26 (((r10.1.2.1.length : Int) - 1).toNat)).1).2.1), .slice (((X26 (((r10.1.2.1.length : Int) - 1).toNat)).2).1) (((nth r10.1.2.1 (((r10.1.2.1.length : Int) - 1).toNat)).2).length) (((X26 (((r10.1.2.1.length : Int) - 1).toNat)).2).2.1)]) ty72 cY (nl (aD (sr (aH (v := .int .i64 (1)) rfl (nl ?_)))))))))))
   refine bdo H fun x30 hx31 H => (dC (Λ := Unit) H (fun _ _ => [(8, .pointer (some ⟨g29, 0, none⟩))]) (fun _ _ => [box g29 72 [.slice (((X26 (((r10.1.2.1.length : Int) - 1).toNat)).1).1) (((nth r10.1.2.1 (((r10.1.2.1.length : Int) - 1).toNat)).1).length) (((X26 (((r10.1.2.1.length : Int) - 1).toNat)).1).2.1), .slice (((X26 (((r10.1.2.1.length : Int) - 1).toNat)).2).1) (((nth r10.1.2.1 (((r10.1.2.1.length : Int) - 1).toNat)).2).length) (((X26 (((r10.1.2.1.length : Int) - 1).toNat)).2).2.1)]]) ?_ ?_)
   ·refine aQ (dE hx31 () (fun Q34 _ => [(3, .pointer (some ⟨g5, 0, none⟩)), (8, .pointer (some ⟨g29, 0, none⟩)), (9, .int .i64 (Q34))]) (fun _ _ => [box g5 42 [.slice x4.1.1.1 r2.1.1.length x4.1.1.2, .slice x4.1.2.1 r2.1.2.length x4.1.2.2, .slice x4.2.1.1 r2.2.1.length x4.2.1.2, .slice x4.2.2.1 r2.2.2.length x4.2.2.2], box g29 72 [.slice (((X26 (((r10.1.2.1.length : Int) - 1).toNat)).1).1) (((nth r10.1.2.1 (((r10.1.2.1.length : Int) - 1).toNat)).1).length) (((X26 (((r10.1.2.1.length : Int) - 1).toNat)).1).2.1), .slice (((X26 (((r10.1.2.1.length : Int) - 1).toNat)).2).1) (((nth r10.1.2.1 (((r10.1.2.1.length : Int) - 1).toNat)).2).length) (((X26 (((r10.1.2.1.length : Int) - 1).toNat)).2).2.1)]]) (.cons (dl5t dl1) (.cons aA .nil)) ?_)
    rintro _ Q34 z35 t37 H1 hi38 hb39
    unfold p_laws_FnFlushPart_b0 at H1
    refine aD (sr (aF rfl (aG (cU rfl rfl) (nl (cH H1 rfl (fun h42 H1 => ?_) (fun h42 H1 => ?_))))))
    ·refine bH (nT (aD (aQ (sr (f2 (e_lit0 Row dU ty57) fun a43 c44 => (aH rfl (nl (aD (sr (aH (v := .int .i64 (0)) rfl (nl (bdo H1 fun x45 hx46 H1 => (dB (ι := Option Addr × Nat) (fun ψ => [(3, .pointer (some ⟨g5, 0, none⟩)), (8, .pointer (some ⟨g29, 0, none⟩)), (9, .int .i64 (Q34)), (10, .slice ψ.1 x45.length ψ.2)]) (fun ψ => [box g5 42 [.slice x4.1.1.1 r2.1.1.length x4.1.1.2, .slice x4.1.2.1 r2.1.2.length x4.1.2.2, .slice x4.2.1.1 r2.2.1.length x4.2.1.2, .slice x4.2.2.1 r2.2.2.length x4.2.2.2], box g29 72 [.slice (((X26 (((r10.1.2.1.length : Int) - 1).toNat)).1).1) (((nth r10.1.2.1 (((r10.1.2.1.length : Int) - 1).toNat)).1).length) (((X26 (((r10.1.2.1.length : Int) - 1).toNat)).1).2.1), .slice (((X26 (((r10.1.2.1.length : Int) - 1).toNat)).2).1) (((nth r10.1.2.1 (((r10.1.2.1.length : Int) - 1).toNat)).2).length) (((X26 (((r10.1.2.1.length : Int) - 1).toNat)).2).2.1)], tree (.slice ψ.1 x45.length ψ.2) x45]) ?_ ?_)))))))))))))
     ·refine aQ (dE hx46 (a43, c44) (fun Q49 z50 => [(3, .pointer (some ⟨g5, 0, none⟩)), (8, .pointer (some ⟨g29, 0, none⟩)), (9, .int .i64 (Q34)), (10, .slice z50.1 Q49.1.length z50.2), (11, .int .i64 (Q49.2))]) (fun Q49 z50 => [box g5 42 [.slice x4.1.1.1 r2.1.1.length x4.1.1.2, .slice x4.1.2.1 r2.1.2.length x4.1.2.2, .slice x4.2.1.1 r2.2.1.length x4.2.1.2, .slice x4.2.2.1 r2.2.2.length x4.2.2.2], box g29 72 [.slice (((X26 (((r10.1.2.1.length : Int) - 1).toNat)).1).1) (((nth r10.1.2.1 (((r10.1.2.1.length : Int) - 1).toNat)).1).length) (((X26 (((r10.1.2.1.length : Int) - 1).toNat)).1).2.1), .slice (((X26 (((r10.1.2.1.length : Int) - 1).toNat)).2).1) (((nth r10.1.2.1 (((r10.1.2.1.length : Int) - 1).toNat)).2).length) (((X26 (((r10.1.2.1.length : Int) - 1).toNat)).2).2.1)], tree (.slice z50.1 Q49.1.length z50.2) Q49.1]) (.cons dl1 (.cons dl1 (.cons aA .nil))) ?_)
      rintro _ Q49 z50 t52 H2 hi53 hb54
      unfold p_laws_FnFlushPart_b1 at H2
      refine aD (sr (aF rfl (aG (cB fa42_2 rfl rfl) (aI (bI ty40 rfl aB rfl) (aG (bS 59 dQ rfl) (aG (cQ rfl rfl) (nl (cH H2 rfl (fun h57 H2 => ?_) (fun h57 H2 => ?_)))))))))
      ·refine bH (nT (aD (aQ (sr (aG (cB fa42_2 rfl rfl) (aI (bI ty40 rfl aB rfl) (aF rfl (gdo H2 fun h58 H2 => (aI (bW dQ ty59 rfl rfl h58 rfl (aN (aL aR.s.s.s.s.s.s.s.s.s))) (aI (bY (j := 0) Q49.2.toNat fa59_0 rfl (aN (aL aR.s.s.s.s.s.s.s.s.s)) h58.lt rfl) ?_))))))))))
       refine aI (bZ (i := Q49.2.toNat) (j := 0) ty3 rfl (aN (aL aR.s.s.s.s.s.s.s.s.s)) h58.lt rfl) (aF rfl (aG (cT rfl rfl) (nl (cH H2 rfl (fun h59 H2 => ?_) (fun h59 H2 => ?_)))))
       ·refine aP (aF rfl (aG (cB fa42_2 rfl rfl) (aI (bI ty40 rfl aB rfl) (aF rfl (aI (bW dQ ty59 rfl rfl h58 rfl (aN (aL aR.s.s.s.s.s.s.s.s.s))) (aI (bY (j := 0) Q49.2.toNat fa59_1 rfl (aN (aL aR.s.s.s.s.s.s.s.s.s)) h58.lt rfl) (aI (v := .agg #[.int .i64 (((nth r2.2.2 Q49.2.toNat).2).1), .int .i64 (((nth r2.2.2 Q49.2.toNat).2).2)]) (q_ldeP [.int .i64 (((nth r2.2.2 Q49.2.toNat).2).1), .int .i64 (((nth r2.2.2 Q49.2.toNat).2).2)] (l := r2.2.2) (E := fun i => Flat.enc (nth r2.2.2 i)) (oa := x4.2.2.1) (i := Q49.2.toNat) (j := 1) ty57 rfl (aN (aL aR.s.s.s.s.s.s.s.s.s)) h58.lt rfl rfl) (bdo H2 fun r60 h61 H2 => (f1 (cF (c_impl_BlockPut Q49.1 z50 ((nth r2.2.2 Q49.2.toNat).2) h61) (fun _ => (bF bG)) rfl (aC (bL hs2) aO)) fun x62 => ?_)))))))))
        refine aF rfl (aG (cZ rfl rfl) (aG (cZ rfl rfl) (aH rfl (aJ (nB (nT (aP (aF rfl (gdo H2 fun h63 H2 => (aG (bR rfl rfl h63) (aH rfl (aJ ?_))))))))))))
        exact nLI (x62.1.1, x62.1.2) (hi53 _ (sm H2)) (.cons dl1 (.cons dl1 (.cons aA .nil)))
       ·exact bH (nB (nT (aP (aF rfl (gdo H2 fun h64 H2 => (aG (bR rfl rfl h64) (aH rfl (aJ (nLI (z50.1, z50.2) (hi53 _ (sm H2)) (.cons aA (.cons aA (.cons aA .nil))))))))))))
      ·refine dA (xT (xT (xE (?_))))
       obtain rfl := hb54 _ (sm H2)
       exact nMC (z50.1, z50.2) ⟨rfl, rfl, rfl, rfl, trivial⟩ bT (.cons aA (.cons aA (.cons aA .nil)))
     ·intro y51
      show At _ _ [(3, .pointer (some ⟨g5, 0, none⟩)), (8, .pointer (some ⟨g29, 0, none⟩)), (9, .int .i64 (Q34)), (10, .slice y51.1 x45.length y51.2)] _ [box g5 42 [.slice x4.1.1.1 r2.1.1.length x4.1.1.2, .slice x4.1.2.1 r2.1.2.length x4.1.2.2, .slice x4.2.1.1 r2.2.1.length x4.2.1.2, .slice x4.2.2.1 r2.2.2.length x4.2.2.2], box g29 72 [.slice (((X26 (((r10.1.2.1.length : Int) - 1).toNat)).1).1) (((nth r10.1.2.1 (((r10.1.2.1.length : Int) - 1).toNat)).1).length) (((X26 (((r10.1.2.1.length : Int) - 1).toNat)).1).2.1), .slice (((X26 (((r10.1.2.1.length : Int) - 1).toNat)).2).1) (((nth r10.1.2.1 (((r10.1.2.1.length : Int) - 1).toNat)).2).length) (((X26 (((r10.1.2.1.length : Int) - 1).toNat)).2).2.1)], tree (.slice y51.1 x45.length y51.2) x45] _
      refine nT (sr (aI (bJ ty72 rfl hs1 rfl) (aF rfl (bdo H1 fun r65 h66 H1 => (f1 (cF (c_impl_PartOf (nth r10.1.2.1 (((r10.1.2.1.length : Int) - 1).toNat)) ((((X26 (((r10.1.2.1.length : Int) - 1).toNat)).1).1, ((X26 (((r10.1.2.1.length : Int) - 1).toNat)).1).2.1), (((X26 (((r10.1.2.1.length : Int) - 1).toNat)).2).1, ((X26 (((r10.1.2.1.length : Int) - 1).toNat)).2).2.1)) Q34 h66) (fun _ => (bF bG)) rfl (aC (aL (aS (aV (aW aR h28.lt)))) (aC (aL (aS (aU (aW aR h28.lt)))) aO))) fun x67 => (aF rfl (bdo H1 fun r68 h69 H1 => (aI (bN (c_laws_lyRows r65 x67 x45 y51 h69) rfl (aC (bL aB) (aC (bL hs3) aO))) (aG (cW rfl) (nl ?_))))))))))
      refine cH H1 rfl (fun h70 H1 => ?_) (fun h70 H1 => ?_)
      ·refine sr (aH (v := .bool (false)) rfl (nl (bQ (rB (rT (rT (rB (rT (rT (?_))))))))))
       obtain rfl := hb39 _ (sm H1)
       replace H := sw.r H
       obtain rfl := si H
       exact bk
      ·exact bH (nB (nT (aP (aF rfl (gdo H1 fun h71 H1 => (aG (bR rfl rfl h71) (aH rfl (aJ (nLI () (hi38 _ (sm H1)) (.cons dl1 (.cons dl1 .nil)))))))))))
    ·exact dA (xT (xT (xE (nMI () (hb39 _ (sm H1)) (.cons dl1 .nil)))))
   ·rintro e72 y36 H
    refine nT (sr (aI (bJ ty72 rfl aB rfl) (bdo H fun r73 h74 H => (aI (bN (c_impl_PartOk (nth r10.1.2.1 (((r10.1.2.1.length : Int) - 1).toNat)) ((((X26 (((r10.1.2.1.length : Int) - 1).toNat)).1).1, ((X26 (((r10.1.2.1.length : Int) - 1).toNat)).1).2.1), (((X26 (((r10.1.2.1.length : Int) - 1).toNat)).2).1, ((X26 (((r10.1.2.1.length : Int) - 1).toNat)).2).2.1)) h74) rfl (aC (aL (aS (aV (aW aR h28.lt)))) (aC (aL (aS (aU (aW aR h28.lt)))) aO))) (aH rfl (nl ?_))))))
    obtain rfl := si H
    exact bQ bk
def inn (lo n hi : Int) : Bool := decide (lo ≤ n) && decide (n ≤ hi)
theorem e_impl_within (n lo hi : Int) : p_impl_within n lo hi = some (inn lo n hi) := by
 unfold p_impl_within inn; cases decide (lo ≤ n) <;> rfl
theorem e_spec_l6In (n lo hi : Int) : p_spec_l6In n lo hi = some (inn lo n hi) := by
 unfold p_spec_l6In inn; cases decide (lo ≤ n) <;> rfl
def rowOk (r : Row) : Bool := inn 0 r.1 99 && inn (-99) r.2 99
theorem e_impl_rowOk (r : Row) : p_impl_rowOk r = some (rowOk r) := by
 unfold p_impl_rowOk rowOk; simp only [e_impl_within, bd_some]; cases inn 0 r.1 99 <;> rfl
theorem e_spec_l2Row (r : Row) : p_spec_l2Row r = some (rowOk r) := by
 unfold p_spec_l2Row rowOk; simp only [e_spec_l6In, bd_some]; cases inn 0 r.1 99 <;> rfl
def rowBad (b : List Row) (k : Nat) : Bool := !rowOk (nth b k) || (decide (0 < k) && decide ((nth b k).1 ≤ (nth b (k - 1)).1))
def blockOk (b : List Row) : Bool := allN b.length (rowBad b) && decide ((b.length : Int) ≤ 24)
theorem e_impl_BlockOk (b : List Row) (hb : b.length ≤ maxLen) : p_impl_BlockOk b = some (blockOk b) := by
 have hb' : b.length ≤ 9223372036854775807 := hb
 have hr : ∀ k, k < b.length → p_impl_BlockOk_b0 b (k : Int) = some (if rowBad b k then .inr (.inr false) else .inl ((k + 1 : Nat) : Int)) := fun k hk => by
  unfold p_impl_BlockOk_b0 rowBad
  simp only [dlt hk, cond_true, gd.yes (ixN hk), e_impl_rowOk, bd_some, Int.toNat_natCast, gd.yes (i64S hk hb')]
  cases h1 : rowOk (nth b k) with
  | false => simp
  | true =>
   simp only [Bool.not_true, cond_false, Bool.false_or]
   by_cases h0 : 0 < k
   ·have h0' : (0 : Int) < k := by omega
    have e1 : (k : Int) - 1 = ((k - 1 : Nat) : Int) := by omega
    have hi : I64 ((k - 1 : Nat) : Int) := by unfold I64; omega
    simp only [h0, h0', decide_true, cond_true, e1, gd.yes hi, gd.yes (ixN (show k - 1 < b.length by omega)), Int.toNat_natCast, bd_some, Bool.true_and]
    cases decide ((nth b k).1 ≤ (nth b (k - 1)).1) <;> simp
   ·have h0' : ¬ (0 : Int) < k := by omega
    simp [h0]
 unfold p_impl_BlockOk blockOk
 rcases lp_scan (body := p_impl_BlockOk_b0 b) (fun k => (k : Int)) b.length (rowBad b) (.inl ()) (fun _ => .inr false) (fun k hk _ h => by simp [hr k hk, h]) (fun k hk _ h => by simp [hr k hk, h]) (fun _ => by unfold p_impl_BlockOk_b0; simp) with ⟨h1, h2⟩ | ⟨h1, k, _, _, _, h2⟩
 ·rw [show (lp (p_impl_BlockOk_b0 b) 0) = _ from h2, h1]; simp [sw]
 ·rw [show (lp (p_impl_BlockOk_b0 b) 0) = _ from h2, h1]; simp [sw]
theorem e_spec_BlockOk (b : List Row) (hb : b.length ≤ maxLen) : p_spec_BlockOk b = some (blockOk b) := by
 have hb' : b.length ≤ 9223372036854775807 := hb
 have hr : ∀ k, k < b.length → p_spec_BlockOk_b0 b (k : Int) = some (if rowBad b k then .inr (.inr false) else .inl ((k + 1 : Nat) : Int)) := fun k hk => by
  unfold p_spec_BlockOk_b0 rowBad
  simp only [dlt hk, cond_true, gd.yes (ixN hk), e_spec_l2Row, bd_some, Int.toNat_natCast, gd.yes (i64S hk hb')]
  cases h1 : rowOk (nth b k) with
  | false => simp
  | true =>
   simp only [Bool.not_true, cond_false, Bool.false_or]
   by_cases h0 : 0 < k
   ·have h0' : (0 : Int) < k := by omega
    have e1 : (k : Int) - 1 = ((k - 1 : Nat) : Int) := by omega
    have hi : I64 ((k - 1 : Nat) : Int) := by unfold I64; omega
    simp only [h0, h0', decide_true, cond_true, e1, gd.yes hi, gd.yes (ixN (show k - 1 < b.length by omega)), Int.toNat_natCast, bd_some, Bool.true_and]
    cases decide ((nth b k).1 ≤ (nth b (k - 1)).1) <;> simp
   ·simp [h0]
 unfold p_spec_BlockOk blockOk
 rcases lp_scan (body := p_spec_BlockOk_b0 b) (fun k => (k : Int)) b.length (rowBad b) (.inl ()) (fun _ => .inr false) (fun k hk _ h => by simp [hr k hk, h]) (fun k hk _ h => by simp [hr k hk, h]) (fun _ => by unfold p_spec_BlockOk_b0; simp) with ⟨h1, h2⟩ | ⟨h1, k, _, _, _, h2⟩
 ·rw [show (lp (p_spec_BlockOk_b0 b) 0) = _ from h2, h1]; simp [sw]
 ·rw [show (lp (p_spec_BlockOk_b0 b) 0) = _ from h2, h1]; simp [sw]
def partBad (p : Part) (k : Nat) : Bool := ((!inn 1 (nth p.1 k) 6 || (decide (0 < k) && decide (nth p.1 k ≤ nth p.1 (k - 1)))) || !blockOk (nth p.2 k)) || decide ((nth p.2 k).length = 0)
def partOk (p : Part) : Bool := decide (p.1.length = p.2.length) && allN p.1.length (partBad p)
theorem e_impl_PartOk (p : Part) (hp : Dp.ok p) : p_impl_PartOk p = some (partOk p) := by
 obtain ⟨⟨hp1, _⟩, _, hp2⟩ := hp
 have hp1 : p.1.length ≤ 9223372036854775807 := hp1
 unfold p_impl_PartOk partOk
 by_cases hl : p.1.length = p.2.length
 ·have hr : ∀ k, k < p.1.length → p_impl_PartOk_b0 p (k : Int) = some (if partBad p k then .inr (.inr false) else .inl ((k + 1 : Nat) : Int)) := fun k hk => by
   have hk2 : k < p.2.length := by omega
   unfold p_impl_PartOk_b0 partBad
   simp only [dlt hk, cond_true, gd.yes (ixN hk), gd.yes (ixN hk2), e_impl_within, e_impl_BlockOk _ (hp2 k hk2).1, bd_some, Int.toNat_natCast, gd.yes (i64S hk hp1)]
   cases h1 : inn 1 (nth p.1 k) 6 with
   | false => simp
   | true =>
    by_cases h0 : 0 < k
    ·have h0' : (0 : Int) < k := by omega
     have e1 : (k : Int) - 1 = ((k - 1 : Nat) : Int) := by omega
     have hi : I64 ((k - 1 : Nat) : Int) := by unfold I64; omega
     simp only [h0, h0', decide_true, cond_true, e1, gd.yes hi, gd.yes (ixN (show k - 1 < p.1.length by omega)), Int.toNat_natCast, Bool.true_and, Bool.not_true, cond_false, Bool.false_or]
     cases decide (nth p.1 k ≤ nth p.1 (k - 1)) <;> cases blockOk (nth p.2 k) <;> cases h9 : decide ((nth p.2 k).length = 0) <;> simp_all
    ·simp only [h0, Bool.not_true, cond_false, Bool.false_or, decide_false, Bool.false_and]
     cases blockOk (nth p.2 k) <;> cases h9 : decide ((nth p.2 k).length = 0) <;> simp_all
  rcases lp_scan (body := p_impl_PartOk_b0 p) (fun k => (k : Int)) p.1.length (partBad p) (.inl ()) (fun _ => .inr false) (fun k hk _ h => by simp [hr k hk, h]) (fun k hk _ h => by simp [hr k hk, h]) (fun _ => by unfold p_impl_PartOk_b0; simp) with ⟨h1, h2⟩ | ⟨h1, k, _, _, _, h2⟩
  ·rw [show (lp (p_impl_PartOk_b0 p) 0) = _ from h2, h1]; simp [sw, hl]
  ·rw [show (lp (p_impl_PartOk_b0 p) 0) = _ from h2, h1]; simp [sw, hl]
 ·have : ¬ (p.1.length : Int) = (p.2.length : Int) := by omega
  simp [this, hl]
theorem e_spec_PartOk (p : Part) (hp : Dp.ok p) : p_spec_PartOk p = some (partOk p) := by
 obtain ⟨⟨hp1, _⟩, _, hp2⟩ := hp
 have hp1 : p.1.length ≤ 9223372036854775807 := hp1
 unfold p_spec_PartOk partOk
 by_cases hl : p.1.length = p.2.length
 ·have hr : ∀ k, k < p.1.length → p_spec_PartOk_b0 p (k : Int) = some (if partBad p k then .inr (.inr false) else .inl ((k + 1 : Nat) : Int)) := fun k hk => by
   have hk2 : k < p.2.length := by omega
   unfold p_spec_PartOk_b0 partBad
   simp only [dlt hk, cond_true, gd.yes (ixN hk), gd.yes (ixN hk2), e_spec_l6In, e_spec_BlockOk _ (hp2 k hk2).1, bd_some, Int.toNat_natCast, gd.yes (i64S hk hp1)]
   cases h1 : inn 1 (nth p.1 k) 6 with
   | false => simp
   | true =>
    by_cases h0 : 0 < k
    ·have h0' : (0 : Int) < k := by omega
     have e1 : (k : Int) - 1 = ((k - 1 : Nat) : Int) := by omega
     have hi : I64 ((k - 1 : Nat) : Int) := by unfold I64; omega
     simp only [h0, h0', decide_true, cond_true, e1, gd.yes hi, gd.yes (ixN (show k - 1 < p.1.length by omega)), Int.toNat_natCast, Bool.true_and, Bool.not_true, cond_false, Bool.false_or]
     cases decide (nth p.1 k ≤ nth p.1 (k - 1)) <;> cases blockOk (nth p.2 k) <;> cases h9 : decide ((nth p.2 k).length = 0) <;> simp_all
    ·simp only [h0, Bool.not_true, cond_false, Bool.false_or, decide_false, Bool.false_and]
     cases blockOk (nth p.2 k) <;> cases h9 : decide ((nth p.2 k).length = 0) <;> simp_all
  rcases lp_scan (body := p_spec_PartOk_b0 p) (fun k => (k : Int)) p.1.length (partBad p) (.inl ()) (fun _ => .inr false) (fun k hk _ h => by simp [hr k hk, h]) (fun k hk _ h => by simp [hr k hk, h]) (fun _ => by unfold p_spec_PartOk_b0; simp) with ⟨h1, h2⟩ | ⟨h1, k, _, _, _, h2⟩
  ·rw [show (lp (p_spec_PartOk_b0 p) 0) = _ from h2, h1]; simp [sw, hl]
  ·rw [show (lp (p_spec_PartOk_b0 p) 0) = _ from h2, h1]; simp [sw, hl]
 ·have : ¬ (p.1.length : Int) = (p.2.length : Int) := by omega
  simp [this, hl]
def place (l : List Int) (id : Int) : Int := match (List.range l.length).find? (fun i => decide (nth l i = id)) with | some i => i | none => -1
theorem place_no {l : List Int} {id : Int} (h : allN l.length (fun i => decide (nth l i = id)) = true) : place l id = -1 := by
 unfold place
 rw [List.find?_eq_none.2]
 intro i hi
 have := allN_iff.1 h i (by simpa using hi)
 simpa using this
theorem place_yes {l : List Int} {id : Int} {k : Nat} (hk : k < l.length) (h : decide (nth l k = id) = true) (h2 : ∀ i, i < k → decide (nth l i = id) = false) : place l id = k := by
 unfold place
 have : (List.range l.length).find? (fun i => decide (nth l i = id)) = some k := by
  rw [List.find?_range_eq_some]
  exact ⟨h, by simpa using hk, fun i hi => by simpa using h2 i hi⟩
 rw [this]
theorem e_Index (l : List Int) (id : Int) (ok : l.length ≤ 9223372036854775807) : p_slices_Index_int_int l id = some (place l id) := by
 unfold p_slices_Index_int_int
 rcases lp_scan (body := p_slices_Index_int_int_b0 l id) (fun k => (k : Int)) l.length (fun i => decide (nth l i = id)) (.inl ()) (fun k => .inr (k : Int)) (fun k hk _ h => by
   have h' : ¬ id = nth l k := fun e => by simp [e] at h
   unfold p_slices_Index_int_int_b0; simp [hk, gd.yes (ixN hk), h', gd.yes (i64S hk ok)]) (fun k hk _ h => by
   have h' : id = nth l k := by simp at h; exact h.symm
   unfold p_slices_Index_int_int_b0; simp [hk, gd.yes (ixN hk), h']) (fun _ => by unfold p_slices_Index_int_int_b0; simp) with ⟨h1, h2⟩ | ⟨h1, k, hk, hb, hn, h2⟩
 ·rw [show (lp (p_slices_Index_int_int_b0 l id) 0) = _ from h2, place_no h1]; rfl
 ·rw [show (lp (p_slices_Index_int_int_b0 l id) 0) = _ from h2, place_yes hk hb hn]; rfl
theorem place_lt {l : List Int} {id : Int} : place l id < 0 ∨ ∃ k, k < l.length ∧ place l id = (k : Int) := by
 cases ha : allN l.length (fun i => decide (nth l i = id)) with
 | true => exact .inl (by rw [place_no ha]; decide)
 | false =>
  obtain ⟨k, hk, h1, h2⟩ := first_bad ha
  exact .inr ⟨k, hk, place_yes hk h1 h2⟩
def rowsOf (p : Part) (id : Int) : List Row := if place p.1 id < 0 then [] else nth p.2 (place p.1 id).toNat
theorem partOk_len' {p : Part} (h : partOk p = true) : p.1.length = p.2.length := by
 unfold partOk at h; simp at h; exact h.1
theorem e_l12Of (p : Part) (id : Int) (ok : Dp.ok p) (hl : p.1.length = p.2.length) : p_spec_l12Of p id = some (rowsOf p id) := by
 have hm : p.1.length ≤ 9223372036854775807 := ok.1.1
 unfold p_spec_l12Of rowsOf
 rcases lp_scan (body := p_spec_l12Of_b0 p id) (fun k => (k : Int)) p.1.length (fun i => decide (nth p.1 i = id)) (.inl ()) (fun k => .inr (nth p.2 k)) (fun k hk _ h => by
   have h' : ¬ nth p.1 k = id := by simpa using h
   unfold p_spec_l12Of_b0; simp [hk, gd.yes (ixN hk), h', gd.yes (i64S hk hm)]) (fun k hk _ h => by
   have h' : nth p.1 k = id := by simpa using h
   have hk2 : k < p.2.length := by omega
   unfold p_spec_l12Of_b0; simp [hk, gd.yes (ixN hk), h', gd.yes (ixN hk2)]) (fun _ => by unfold p_spec_l12Of_b0; simp) with ⟨h1, h2⟩ | ⟨h1, k, hk, hb, hn, h2⟩
 ·rw [show (lp (p_spec_l12Of_b0 p id) 0) = _ from h2, place_no h1]; rfl
 ·rw [show (lp (p_spec_l12Of_b0 p id) 0) = _ from h2, place_yes hk hb hn]
  have : ¬ (k : Int) < 0 := by omega
  simp [sw, this]
def partOf (p : Part) (id : Int) : List Row := if partOk p then rowsOf p id else []
theorem e_impl_PartOf (p : Part) (id : Int) (ok : Dp.ok p) (hw : Wt.w p ≤ 1048576) : p_impl_PartOf p id = some (partOf p id) := by
 unfold p_impl_PartOf partOf
 rw [e_Index p.1 id ok.1.1, bd_some, e_impl_PartOk p ok, bd_some]
 cases h : partOk p with
 | false => rfl
 | true =>
  have hl := partOk_len' h
  rcases place_lt (l := p.1) (id := id) with hp | ⟨k, hk, hp⟩
  ·simp [hp, rowsOf]
  ·have h0 : ¬ (k : Int) < 0 := by omega
   have hk2 : k < p.2.length := by omega
   have hr : room (nth p.2 k).length := by
    have : (nth p.2 k).length ≤ 1048576 := Nat.le_trans wL_le (Nat.le_trans (wL_el hk2) (Nat.le_trans wP_2 hw))
    unfold room; omega
   simp [hp, rowsOf, h0, gd.yes (ixN hk2), gd.yes hr]
theorem ok_rows (l : List Row) (h : l.length ≤ 1048576) : Dp.ok l := ⟨Nat.le_trans h (by decide), fun _ _ => ⟨trivial, trivial⟩⟩
theorem tmod_rng {a n : Int} (ha : 0 ≤ a) (hn : 0 < n) : 0 ≤ a.tmod n ∧ a.tmod n < n := ⟨Int.tmod_nonneg n ha, Int.tmod_lt_of_pos a hn⟩
theorem tdiv_rng {a n : Int} (ha : 0 ≤ a) (hn : 0 < n) : 0 ≤ a.tdiv n ∧ a.tdiv n ≤ a := by
 rw [Int.tdiv_eq_ediv_of_nonneg ha]
 exact ⟨Int.ediv_nonneg ha (by omega), Int.ediv_le_self n ha⟩
theorem u8_rng (b : UInt8) : (0 : Int) ≤ (b.toNat : Int) ∧ (b.toNat : Int) ≤ 255 := by have := b.toNat_lt; omega
theorem xr_nn (a b : Int) : 0 ≤ xr a b := by unfold xr; omega
theorem xr_lt {a b : Int} (ha : 0 ≤ a) (ha2 : a < 4611686018427387904) (hb : 0 ≤ b) (hb2 : b < 4611686018427387904) : xr a b < 4611686018427387904 := by
 unfold xr
 have : a.toNat ^^^ b.toNat < 2 ^ 62 := Nat.xor_lt_two_pow (by omega) (by omega)
 omega
theorem d_pick (b : List UInt8) (p n : Int) (hb : b.length ≤ 2000) (h0 : 0 ≤ p) (h1 : p ≤ 1000000) (hn : n ≤ 1000000000) :
  ∃ x, p_spec_l6Rd_pick (b, p) n = some (x, p + 1) ∧ 0 ≤ x ∧ (1 ≤ n → x < n) := by
 unfold p_spec_l6Rd_pick
 have g0 : I64 (p + 1) := by unfold I64; omega
 have ep : p + 1 - 1 = p := by omega
 have gp : I64 p := by unfold I64; omega
 simp only [ep, gd.yes g0, gd.yes gp]
 by_cases hn1 : n < 1
 ·exact ⟨0, by simp [hn1], Int.le_refl _, fun h => by omega⟩
 ·by_cases hb0 : (b.length : Int) = 0
  ·exact ⟨0, by simp [hn1, hb0], Int.le_refl _, fun h => by omega⟩
  ·simp only [hn1, hb0, decide_false, cond_false, bd_some]
   by_cases hp : p < (b.length : Int)
   ·have hx := tmod_rng (u8_rng (nth b p.toNat)).1 (show 0 < n by omega)
    have g1 : ix p b.length := ⟨h0, hp⟩
    have g2 : n ≠ 0 := by omega
    have g3 : I64 (((nth b p.toNat).toNat : Int).tmod n) := by unfold I64; omega
    simp only [hp, decide_true, cond_true, gd.yes g1, gd.yes g2, gd.yes g3]
    exact ⟨_, rfl, hx.1, fun _ => hx.2⟩
   ·simp only [hp, decide_false, cond_false]
    have hL : (0 : Int) < (b.length : Int) := by omega
    have hm := tmod_rng h0 hL
    have hm2 := tmod_rng (show 0 ≤ p * 7 + 3 by omega) hL
    have hq := tdiv_rng h0 hL
    have u1 := u8_rng (nth b (p.tmod (b.length : Int)).toNat)
    have u2 := u8_rng (nth b ((p * 7 + 3).tmod (b.length : Int)).toNat)
    have g1 : (b.length : Int) ≠ 0 := hb0
    have g2 : I64 (p.tmod (b.length : Int)) := by unfold I64; omega
    have g3 : ix (p.tmod (b.length : Int)) b.length := hm
    have g4 : I64 (p * 7) := by unfold I64; omega
    have g5 : I64 (p * 7 + 3) := by unfold I64; omega
    have g6 : I64 ((p * 7 + 3).tmod (b.length : Int)) := by unfold I64; omega
    have g7 : ix ((p * 7 + 3).tmod (b.length : Int)) b.length := hm2
    have g8 : I64 (p * 29) := by unfold I64; omega
    have g9 : I64 (p.tdiv (b.length : Int)) := by unfold I64; omega
    simp only [gd.yes g1, gd.yes g2, gd.yes g3, gd.yes g4, gd.yes g5, gd.yes g6, gd.yes g7, gd.yes g8, gd.yes g9]
    generalize ((nth b (p.tmod (b.length : Int)).toNat).toNat : Int) = y1 at *
    generalize ((nth b ((p * 7 + 3).tmod (b.length : Int)).toNat).toNat : Int) = y2 at *
    generalize p.tdiv (b.length : Int) = q at *
    have k1 : I64 (y1 * 131) := by unfold I64; omega
    have k2 : I64 (y2 * 1117) := by unfold I64; omega
    have k3 : I64 (y1 * 131 + y2 * 1117) := by unfold I64; omega
    have k4 : I64 (y1 * 131 + y2 * 1117 + p * 29) := by unfold I64; omega
    have k5 : I64 (q * 53) := by unfold I64; omega
    have k6 : I64 (y1 * 131 + y2 * 1117 + p * 29 + q * 53) := by unfold I64; omega
    simp only [gd.yes k1, gd.yes k2, gd.yes k3, gd.yes k4, gd.yes k5, gd.yes k6]
    have hx0 : 0 ≤ y1 * 131 + y2 * 1117 + p * 29 + q * 53 := by omega
    have hx1 : y1 * 131 + y2 * 1117 + p * 29 + q * 53 < 1000000000 := by omega
    generalize y1 * 131 + y2 * 1117 + p * 29 + q * 53 = x at *
    have hd := tdiv_rng hx0 (show (0 : Int) < 64 by decide)
    have m1 : I64 (x.tdiv 64) := by unfold I64; omega
    have m2 : nn x := by unfold nn; omega
    have m3 : nn (x.tdiv 64) := by unfold nn; omega
    have hr0 := xr_nn x (x.tdiv 64)
    have hr1 := xr_lt hx0 (by omega) hd.1 (by omega) (b := x.tdiv 64)
    have hz := tmod_rng hr0 (show 0 < n by omega)
    have m4 : n ≠ 0 := by omega
    have m5 : I64 ((xr x (x.tdiv 64)).tmod n) := by unfold I64; omega
    simp only [gd.yes m1, gd.yes m2, gd.yes m3, gd.yes m4, gd.yes m5]
    exact ⟨_, rfl, hz.1, fun _ => hz.2⟩
def l2 (r : Row) : Bool → List Row → List Row
 | put, [] => if put then [] else [r]
 | put, x :: t => (if !put && decide (r.1 ≤ x.1) then [r] else []) ++ ((if x.1 = r.1 then [] else [x]) ++ l2 r (put || decide (r.1 ≤ x.1)) t)
theorem drop_nth {α : Type} [Inhabited α] {l : List α} {k : Nat} (hk : k < l.length) : l.drop k = nth l k :: l.drop (k + 1) := by
 rw [nth_eq l k hk, List.drop_eq_getElem_cons hk]
end Go.Proofs.YtlkcnfjdhkoelaaGreat
