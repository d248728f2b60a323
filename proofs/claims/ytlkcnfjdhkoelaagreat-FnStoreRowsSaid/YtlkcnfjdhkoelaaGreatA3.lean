/- The walks and the plain laws, part 3: each function that the law reaches computes what its plain function tells, and what the plain functions answer. Conditions: lengths that memory can hold. -/
import Derived.Test.YtlkcnfjdhkoelaaGreatA2
namespace Go.Proofs.YtlkcnfjdhkoelaaGreat
open Go Go.Sx Tryz
theorem c_spec_l13Copy {r : Store} (v0 : Store) (x_v0 : ((Option Addr × Nat) × (Option Addr × Nat)) × (Option Addr × Nat) × (Option Addr × Nat)) (H : p_spec_l13Copy v0 = some r) : Fn' prog 89 #[.agg #[.slice x_v0.1.1.1 v0.1.1.length x_v0.1.1.2, .slice x_v0.1.2.1 v0.1.2.length x_v0.1.2.2, .slice x_v0.2.1.1 v0.2.1.length x_v0.2.1.2, .slice x_v0.2.2.1 v0.2.2.length x_v0.2.2.2]] [imm (.slice x_v0.1.1.1 v0.1.1.length x_v0.1.1.2) v0.1.1, imm (.slice x_v0.1.2.1 v0.1.2.length x_v0.1.2.2) v0.1.2, imm (.slice x_v0.2.1.1 v0.2.1.length x_v0.2.1.2) v0.2.1, imm (.slice x_v0.2.2.1 v0.2.2.length x_v0.2.2.2) v0.2.2] [] (ι := ((Option Addr × Nat) × (Option Addr × Nat)) × (Option Addr × Nat) × (Option Addr × Nat)) (fun x => .agg #[.slice x.1.1.1 r.1.1.length x.1.1.2, .slice x.1.2.1 r.1.2.length x.1.2.2, .slice x.2.1.1 r.2.1.length x.2.1.2, .slice x.2.2.1 r.2.2.length x.2.2.2]) (fun _ => []) (fun x => [tree (.slice x.1.1.1 r.1.1.length x.1.1.2) r.1.1, tree (.slice x.1.2.1 r.1.2.length x.1.2.2) r.1.2, tree (.slice x.2.1.1 r.2.1.length x.2.1.2) r.2.1, tree (.slice x.2.2.1 r.2.2.length x.2.2.2) r.2.2]) := by
 refine cof (args := [_]) func89 ntmps89 fun c => ?_
 unfold p_spec_l13Copy at H
 refine bM aR fun X1 => (bM aR.s.s fun X2 => (bM aR.s.s.s.s fun X3 => (sr (f1 (cC (t := 42) rfl) fun g4 => (f1 (cD ty42) fun g5 => (nl (sr (f2 (e_lit0 Part dO ty72) fun a6 c7 => (aH rfl (nl ?_))))))))))
 refine aD (sr (aH (v := .int .i64 (0)) rfl (nl (bdo H fun x8 hx9 H => (dA (ι := Option Addr × Nat) (fun ψ => [(1, .pointer (some ⟨g4, 0, none⟩)), (2, .pointer (some ⟨g5, 0, none⟩)), (3, .slice ψ.1 x8.length ψ.2)]) (fun ψ => [box g4 42 [.slice x_v0.1.1.1 v0.1.1.length x_v0.1.1.2, .slice x_v0.1.2.1 v0.1.2.length x_v0.1.2.2, .slice x_v0.2.1.1 v0.2.1.length x_v0.2.1.2, .slice x_v0.2.2.1 v0.2.2.length x_v0.2.2.2], box g5 42 [.slice none 0 0, .slice none 0 0, .slice none 0 0, .slice none 0 0], tree (.slice ψ.1 x8.length ψ.2) x8]) ?_ ?_)))))
 ·refine aQ (dD hx9 (a6, c7) (fun Q12 z13 => [(1, .pointer (some ⟨g4, 0, none⟩)), (2, .pointer (some ⟨g5, 0, none⟩)), (3, .slice z13.1 Q12.1.length z13.2), (4, .int .i64 (Q12.2))]) (fun Q12 z13 => [box g4 42 [.slice x_v0.1.1.1 v0.1.1.length x_v0.1.1.2, .slice x_v0.1.2.1 v0.1.2.length x_v0.1.2.2, .slice x_v0.2.1.1 v0.2.1.length x_v0.2.1.2, .slice x_v0.2.2.1 v0.2.2.length x_v0.2.2.2], box g5 42 [.slice none 0 0, .slice none 0 0, .slice none 0 0, .slice none 0 0], tree (.slice z13.1 Q12.1.length z13.2) Q12.1]) (.cons dl2 (.cons dl1 (.cons aA .nil))) ?_)
  rintro _ Q12 z13 t15 H1 hi16 hb17
  unfold p_spec_l13Copy_b0 at H1
  refine aD (sr (aF rfl (aG (cB fa42_1 rfl rfl) (aI (bI ty39 rfl aB rfl) (aG (bS 72 dO rfl) (aG (cQ rfl rfl) (nl (cH H1 rfl (fun h20 H1 => ?_) (fun h20 H1 => ?_)))))))))
  ·refine bH (nT (aD (aQ (sr (f2 (e_lit0 Int dU ty3) fun a21 c22 => (aG (cB fa42_1 rfl rfl) (aI (bI ty39 rfl hs1 rfl) (aF rfl (gdo H1 fun h23 H1 => (aI (bW dO ty72 rfl rfl h23 rfl (aL (aT aR))) ?_))))))))))
   refine aI (bY (j := 0) Q12.2.toNat fa72_0 rfl (aL (aT aR)) h23.lt rfl) (aI (bZ (i := Q12.2.toNat) (j := 0) ty69 rfl (aL (aT aR)) h23.lt rfl) (gdo H1 fun h26 H1 => (f2 (e_appF (l := ([] : List Int)) (k := (nth v0.2.1 Q12.2.toNat).1) (α := Int) dU ty3 rfl rfl (h26.b (by decide)) h26.x (.cons aA .nil) (aL (aS (aV (aW aR h23.lt))))) fun a24 c25 => (f2 (e_lit0 (List Row) dV ty63) fun a27 c28 => (aG (v := .agg #[.slice a24 ((([] : List Int) ++ ((nth v0.2.1 Q12.2.toNat).1)).length) c25, .slice a27 (([] : List (List Row)).length) c28]) (p_buildS (vs := [(0, .slice a24 ((([] : List Int) ++ ((nth v0.2.1 Q12.2.toNat).1)).length) c25), (1, .slice a27 (([] : List (List Row)).length) c28)]) (cs := #[.slice a24 ((([] : List Int) ++ ((nth v0.2.1 Q12.2.toNat).1)).length) c25, .slice a27 (([] : List (List Row)).length) c28]) ty72 pl72 rfl rfl) (f1 (cD ty72) fun g29 => (stb (cs' := [.slice a24 ((([] : List Int) ++ ((nth v0.2.1 Q12.2.toNat).1)).length) c25, .slice a27 (([] : List (List Row)).length) c28]) ty72 cX (nl (aD (sr ?_))))))))))
   refine aH (v := .int .i64 (0)) rfl (nl (bdo H1 fun x30 hx31 H1 => (dA (ι := Option Addr × Nat) (fun ψ => [(1, .pointer (some ⟨g4, 0, none⟩)), (2, .pointer (some ⟨g5, 0, none⟩)), (3, .slice z13.1 Q12.1.length z13.2), (4, .int .i64 (Q12.2)), (5, .pointer (some ⟨g29, 0, none⟩))]) (fun ψ => [box g4 42 [.slice x_v0.1.1.1 v0.1.1.length x_v0.1.1.2, .slice x_v0.1.2.1 v0.1.2.length x_v0.1.2.2, .slice x_v0.2.1.1 v0.2.1.length x_v0.2.1.2, .slice x_v0.2.2.1 v0.2.2.length x_v0.2.2.2], box g5 42 [.slice none 0 0, .slice none 0 0, .slice none 0 0, .slice none 0 0], tree (.slice z13.1 Q12.1.length z13.2) Q12.1, tree (.slice a24 ((([] : List Int) ++ ((nth v0.2.1 Q12.2.toNat).1)).length) c25) (([] : List Int) ++ ((nth v0.2.1 Q12.2.toNat).1)), tree (.slice ψ.1 x30.length ψ.2) x30, box g29 72 [.slice a24 ((([] : List Int) ++ ((nth v0.2.1 Q12.2.toNat).1)).length) c25, .slice ψ.1 x30.length ψ.2]]) ?_ ?_)))
   ·refine aQ (dD hx31 (a27, c28) (fun Q34 _ => [(1, .pointer (some ⟨g4, 0, none⟩)), (2, .pointer (some ⟨g5, 0, none⟩)), (3, .slice z13.1 Q12.1.length z13.2), (4, .int .i64 (Q12.2)), (5, .pointer (some ⟨g29, 0, none⟩)), (6, .int .i64 (Q34.2))]) (fun Q34 z35 => [box g4 42 [.slice x_v0.1.1.1 v0.1.1.length x_v0.1.1.2, .slice x_v0.1.2.1 v0.1.2.length x_v0.1.2.2, .slice x_v0.2.1.1 v0.2.1.length x_v0.2.1.2, .slice x_v0.2.2.1 v0.2.2.length x_v0.2.2.2], box g5 42 [.slice none 0 0, .slice none 0 0, .slice none 0 0, .slice none 0 0], tree (.slice z13.1 Q12.1.length z13.2) Q12.1, tree (.slice a24 ((([] : List Int) ++ ((nth v0.2.1 Q12.2.toNat).1)).length) c25) (([] : List Int) ++ ((nth v0.2.1 Q12.2.toNat).1)), tree (.slice z35.1 Q34.1.length z35.2) Q34.1, box g29 72 [.slice a24 ((([] : List Int) ++ ((nth v0.2.1 Q12.2.toNat).1)).length) c25, .slice z35.1 Q34.1.length z35.2]]) (.cons dl3 (.cons dl3 (.cons dl3 (.cons dl2 (.cons dl1 (.cons aA .nil)))))) ?_)
    rintro _ Q34 z35 t37 H2 hi38 hb39
    unfold p_spec_l13Copy_b1 at H2
    refine aD (sr (aF rfl (aG (cB fa42_1 rfl rfl) (aI (bI ty39 rfl aB rfl) (aF rfl (aI (bW dO ty72 rfl rfl h23 rfl (aL (aT aR))) (aI (bY (j := 0) Q12.2.toNat fa72_1 rfl (aL (aT aR)) h23.lt rfl) (aI (bZ (i := Q12.2.toNat) (j := 1) ty70 rfl (aL (aT aR)) h23.lt rfl) (aG (bS 63 dV rfl) (aG (cQ rfl rfl) (nl ?_)))))))))))
    refine cH H2 rfl (fun h42 H2 => ?_) (fun h42 H2 => ?_)
    ·refine bH (nT (aD (aQ (dF [(1, .pointer (some ⟨g4, 0, none⟩)), (2, .pointer (some ⟨g5, 0, none⟩)), (3, .slice z13.1 Q12.1.length z13.2), (4, .int .i64 (Q12.2)), (5, .pointer (some ⟨g29, 0, none⟩)), (6, .int .i64 (Q34.2))] 2 [0, 1, 3, 4, 5, 6, 7, 8, 9, 10, 11, 2, 12, 13, 14, 15, 16] [2, 12, 13, 14, 16] [] mixed (by kernel_rfl) (by decide) dH ⟨rfl, rfl, rfl, rfl, rfl, rfl, trivial⟩ rfl okNil (w_p rfl (cB fa72_1 rfl rfl) ?_)))))
     refine w_o rfl (fun F => (bI ty70 rfl (hs5.app F) rfl)) (w_p rfl (cB fa42_1 rfl rfl) ?_)
     refine w_o rfl (fun F => (bI ty39 rfl (aB.app F) rfl)) (w_p rfl (aE rfl) ?_)
     refine w_o rfl (fun F => (bW dO ty72 rfl rfl h23 rfl (aL (aT aR)))) ?_
     refine w_o rfl (fun F => (bY (j := 0) Q12.2.toNat fa72_1 rfl (aL (aT aR)) h23.lt rfl)) ?_
     refine w_o rfl (fun F => (bZ (i := Q12.2.toNat) (j := 1) ty70 rfl (aL (aT aR)) h23.lt rfl)) (w_p rfl (aE rfl) (gdo H2 fun h43 H2 => ?_))
     refine w_o rfl (fun F => (bW dV ty63 rfl rfl h43 rfl (aL (aT (aU (aW aR h23.lt)))))) ?_
     refine w_o rfl (fun F => (bZ (i := Q34.2.toNat) (j := 0) ty63 rfl (aL (aT (aU (aW aR h23.lt)))) h43.lt rfl)) (cJ rfl (by decide) rfl cO rfl (n_lit0 Row dT ty57) ?_)
     rintro _ _ _ ⟨a44, c45, rfl, rfl, rfl⟩
     refine ⟨(bV rfl rfl (fun F => (bZ (i := Q34.2.toNat) (j := 0) ty63 rfl (aL (aT (aU (aW aR h23.lt)))) h43.lt rfl)) (bV rfl rfl (fun F => (bW dV ty63 rfl rfl h43 rfl (aL (aT (aU (aW aR h23.lt)))))) (bV rfl rfl (fun F => (bZ (i := Q12.2.toNat) (j := 1) ty70 rfl (aL (aT aR)) h23.lt rfl)) (bV rfl rfl (fun F => (bY (j := 0) Q12.2.toNat fa72_1 rfl (aL (aT aR)) h23.lt rfl)) (bV rfl rfl (fun F => (bW dO ty72 rfl rfl h23 rfl (aL (aT aR)))) (bV rfl rfl (fun F => (bI ty39 rfl (hs1.app F) rfl)) (bV rfl rfl (fun F => (bI ty70 rfl ((hs5t hs1).app F) rfl)) bU))))))), ?_⟩
     refine gdo H2 fun h48 H2 => (cJ rfl (by decide) rfl cO rfl (n_appF (l := ([] : List Row)) (k := nth ((nth v0.2.1 Q12.2.toNat).2) Q34.2.toNat) (α := Row) dT ty57 rfl rfl (h48.b (by decide)) h48.x (.cons aA .nil) (aL (aS (aW (aU (aW aR h23.lt)) h43.lt)))) ?_)
     rintro _ _ _ ⟨a46, c47, rfl, rfl, rfl⟩
     refine ⟨(aM (by kernel_rfl) (aM (by kernel_rfl) (bV rfl rfl (fun F => (bZ (i := Q12.2.toNat) (j := 1) ty70 rfl (aL (aT aR)) h23.lt rfl)) (bV rfl rfl (fun F => (bY (j := 0) Q12.2.toNat fa72_1 rfl (aL (aT aR)) h23.lt rfl)) (bV rfl rfl (fun F => (bW dO ty72 rfl rfl h23 rfl (aL (aT aR)))) (bV rfl rfl (fun F => (bI ty39 rfl (hs1.app F) rfl)) (bV rfl rfl (fun F => (bI ty70 rfl ((hs5t hs1).app F) rfl)) bU))))))), ?_⟩
     refine cJ rfl (by decide) rfl cO rfl (n_lit (vs := [(0, .slice a46 ((([] : List Row) ++ (nth ((nth v0.2.1 Q12.2.toNat).2) Q34.2.toNat)).length) c47)]) [.slice a46 ((([] : List Row) ++ (nth ((nth v0.2.1 Q12.2.toNat).2) Q34.2.toNat)).length) c47] dV ty63 rfl (by decide) (by decide) (by kernel_rfl)) ?_
     rintro _ _ _ ⟨g49, rfl, rfl, rfl⟩
     refine ⟨(aM (by kernel_rfl) (bV rfl rfl (fun F => (bW dV ty63 rfl rfl h43 rfl (aL (aT (aU (aW aR h23.lt)))))) (bV rfl rfl (fun F => (bZ (i := Q12.2.toNat) (j := 1) ty70 rfl (aL (aT aR)) h23.lt rfl)) (bV rfl rfl (fun F => (bY (j := 0) Q12.2.toNat fa72_1 rfl (aL (aT aR)) h23.lt rfl)) (bV rfl rfl (fun F => (bW dO ty72 rfl rfl h23 rfl (aL (aT aR)))) (bV rfl rfl (fun F => (bI ty39 rfl (hs2.app F) rfl)) (bV rfl rfl (fun F => (bI ty70 rfl ((hs5t hs2).app F) rfl)) bU))))))), ?_⟩
     refine gdo H2 fun h52 H2 => (cJ rfl (by decide) rfl cO rfl (n_app1 (l := Q34.1) (α := (List Row)) (([] : List Row) ++ (nth ((nth v0.2.1 Q12.2.toNat).2) Q34.2.toNat)) (a46, c47) dV ty63 rfl rfl (h52.b (by decide)) h52.x rfl (cW _) (.cons (dl5t dl1) (.cons aA (.cons aA .nil)))) ?_)
     rintro _ _ _ ⟨a50, c51, rfl, rfl, rfl⟩
     refine ⟨(aM (by kernel_rfl) (bV rfl rfl (fun F => (bW dV ty63 rfl rfl h43 rfl (aL (aT (aU (aW aR h23.lt)))))) (bV rfl rfl (fun F => (bZ (i := Q12.2.toNat) (j := 1) ty70 rfl (aL (aT aR)) h23.lt rfl)) (bV rfl rfl (fun F => (bY (j := 0) Q12.2.toNat fa72_1 rfl (aL (aT aR)) h23.lt rfl)) (bV rfl rfl (fun F => (bW dO ty72 rfl rfl h23 rfl (aL (aT aR)))) (bV rfl rfl (fun F => (bI ty39 rfl (hs1.app F) rfl)) (aM (by kernel_rfl) bU))))))), ?_⟩
     refine w_p rfl (cB fa72_1 rfl rfl) (cK rfl rfl cO rfl (n_store (cs' := [.slice a24 ((([] : List Int) ++ ((nth v0.2.1 Q12.2.toNat).1)).length) c25, .slice a50 ((Q34.1 ++ [([] : List Row) ++ (nth ((nth v0.2.1 Q12.2.toNat).2) Q34.2.toNat)]).length) c51]) ty70 rfl rfl up5 rfl (one_of rfl) (Nat.le_of_ble_eq_true rfl) rfl) ?_)
     rintro _ _ _ ⟨rfl, rfl, rfl⟩
     refine ⟨(aM (by kernel_rfl) (aM (by kernel_rfl) (aM (by kernel_rfl) (aM (by kernel_rfl) (aM (by kernel_rfl) (aM (by kernel_rfl) (aM (by kernel_rfl) bU))))))), ?_⟩
     refine cL ?_
     show At _ _ _ _ _ _
     exact nB (nT (aP (aF rfl (gdo H2 fun h53 H2 => (aG (bR rfl rfl h53) (aH rfl (aJ (nLI (a50, c51) (hi38 _ (sm H2)) (.cons dl1 (.cons dl1 (.cons dl1 (.cons dl1 (.cons aA (.cons aA .nil))))))))))))))
    ·refine cZ (xT (xT (xE (?_))))
     obtain rfl := hb39 _ (sm H2)
     exact nMC (z35.1, z35.2) ⟨rfl, rfl, rfl, rfl, rfl, trivial⟩ bT (.cons aA (.cons aA (.cons aA (.cons aA (.cons aA (.cons aA .nil))))))
   ·intro y36
    show At _ _ [(1, .pointer (some ⟨g4, 0, none⟩)), (2, .pointer (some ⟨g5, 0, none⟩)), (3, .slice z13.1 Q12.1.length z13.2), (4, .int .i64 (Q12.2)), (5, .pointer (some ⟨g29, 0, none⟩))] _ [box g4 42 [.slice x_v0.1.1.1 v0.1.1.length x_v0.1.1.2, .slice x_v0.1.2.1 v0.1.2.length x_v0.1.2.2, .slice x_v0.2.1.1 v0.2.1.length x_v0.2.1.2, .slice x_v0.2.2.1 v0.2.2.length x_v0.2.2.2], box g5 42 [.slice none 0 0, .slice none 0 0, .slice none 0 0, .slice none 0 0], tree (.slice z13.1 Q12.1.length z13.2) Q12.1, tree (.slice a24 ((([] : List Int) ++ ((nth v0.2.1 Q12.2.toNat).1)).length) c25) (([] : List Int) ++ ((nth v0.2.1 Q12.2.toNat).1)), tree (.slice y36.1 x30.length y36.2) x30, box g29 72 [.slice a24 ((([] : List Int) ++ ((nth v0.2.1 Q12.2.toNat).1)).length) c25, .slice y36.1 x30.length y36.2]] _
    refine nT (aP (aF rfl (aI (bJ ty72 rfl hs5 rfl) (f1 (e_lit (vs := [(0, .agg #[.slice a24 ((([] : List Int) ++ ((nth v0.2.1 Q12.2.toNat).1)).length) c25, .slice y36.1 x30.length y36.2])]) [.slice a24 ((([] : List Int) ++ ((nth v0.2.1 Q12.2.toNat).1)).length) c25, .slice y36.1 x30.length y36.2] dO ty72 rfl (by decide) (by decide) (by kernel_rfl)) fun g54 => (gdo H1 fun h57 H1 => (f2 (e_app1 (l := Q12.1) (α := Part) ((([] : List Int) ++ ((nth v0.2.1 Q12.2.toNat).1)), x30) ((a24, c25), y36) dO ty72 rfl rfl (h57.b (by decide)) h57.x rfl (cW _) (.cons dl3 (.cons aA (.cons dl2 (.cons dl2 .nil))))) fun a55 c56 => (aH rfl (aJ (nB (nT (aP ?_)))))))))))
    exact aF rfl (gdo H1 fun h58 H1 => (aG (bR rfl rfl h58) (aH rfl (aJ (nLI (a55, c56) (hi16 _ (sm H1)) (.cons dl1 (.cons dl1 (.cons aA .nil))))))))
  ·refine cZ (xT (xT (xE (?_))))
   obtain rfl := hb17 _ (sm H1)
   exact nMC (z13.1, z13.2) ⟨rfl, rfl, rfl, trivial⟩ bT (.cons aA (.cons aA (.cons aA .nil)))
 ·intro y14
  show At _ _ [(1, .pointer (some ⟨g4, 0, none⟩)), (2, .pointer (some ⟨g5, 0, none⟩)), (3, .slice y14.1 x8.length y14.2)] _ [box g4 42 [.slice x_v0.1.1.1 v0.1.1.length x_v0.1.1.2, .slice x_v0.1.2.1 v0.1.2.length x_v0.1.2.2, .slice x_v0.2.1.1 v0.2.1.length x_v0.2.1.2, .slice x_v0.2.2.1 v0.2.2.length x_v0.2.2.2], box g5 42 [.slice none 0 0, .slice none 0 0, .slice none 0 0, .slice none 0 0], tree (.slice y14.1 x8.length y14.2) x8] _
  refine nT (aD (dF [(1, .pointer (some ⟨g4, 0, none⟩)), (2, .pointer (some ⟨g5, 0, none⟩)), (3, .slice y14.1 x8.length y14.2)] 1 [0, 1, 2, 4, 6, 7, 3, 5, 8, 9, 10] [3, 8, 10] [⟨5, [], fun g => .slice (some ⟨g, 0, none⟩) ([] : List Sample).length 0, fun g => tree (.slice (some ⟨g, 0, none⟩) ([] : List Sample).length 0) ([] : List Sample)⟩] mixed (by kernel_rfl) (by decide) (show List.Nodup [5] by decide) ⟨rfl, rfl, rfl, trivial⟩ rfl (okCons (FreeA.Ok.of rfl (by decide) (by kernel_rfl) fun c fs os => g_lit0 Sample dP ty59) okNil) (w_p rfl (cB fa42_0 rfl rfl) (w_p rfl (cB fa38_0 rfl rfl) ?_))))
  refine w_o rfl (fun F => (bI ty35 rfl (aB.app F) rfl)) (w_p rfl (aE rfl) (w_p rfl (cB fa42_2 rfl rfl) ?_))
  refine w_o rfl (fun F => (bI ty40 rfl (aB.app F) rfl)) (bdo H fun r59 h60 H => (cJ rfl (by decide) rfl (cP (.inr (.inr trivial)) cO) rfl (cE (c_spec_l11Of v0.1.1 x_v0.1.1 h60) (fun _ => (bF (bF bG))) rfl (aC (aL (aS aR.s.s)) aO)) ?_))
  rintro _ _ _ ⟨x61, rfl, rfl, rfl⟩
  refine ⟨(bV rfl rfl (fun F => (bI ty40 rfl (hs2.app F) rfl)) (aM (by kernel_rfl) bU)), ?_⟩
  refine w_fr (z := ⟨5, [], fun g => .slice (some ⟨g, 0, none⟩) ([] : List Sample).length 0, fun g => tree (.slice (some ⟨g, 0, none⟩) ([] : List Sample).length 0) ([] : List Sample)⟩) (.head _) rfl rfl (by decide) (cP (.inl rfl) cO) trivial ?_; intro g62
  refine gdo H fun h65 H => (cJ rfl (by decide) rfl (cP (.inl rfl) cO) rfl (n_appF (l := ([] : List Sample)) (k := v0.2.2) (α := Sample) dP ty59 rfl rfl (h65.b (by decide)) h65.x (.cons aA .nil) (aL aR.s.s.s.s.s.s)) ?_)
  rintro _ _ _ ⟨a63, c64, rfl, rfl, rfl⟩
  refine ⟨(aM (by kernel_rfl) (bV rfl rfl (fun F => (bI ty35 rfl (hs3.app F) rfl)) bU)), ?_⟩
  refine w_p (v := .agg #[.slice x61.1.1 r59.1.length x61.1.2, .slice x61.2.1 r59.2.length x61.2.2, .slice y14.1 x8.length y14.2, .slice a63 ((([] : List Sample) ++ v0.2.2).length) c64]) rfl (p_buildS (vs := [(0, .agg #[.slice x61.1.1 r59.1.length x61.1.2, .slice x61.2.1 r59.2.length x61.2.2]), (1, .slice y14.1 x8.length y14.2), (2, .slice a63 ((([] : List Sample) ++ v0.2.2).length) c64)]) (cs := #[.slice x61.1.1 r59.1.length x61.1.2, .slice x61.2.1 r59.2.length x61.2.2, .slice y14.1 x8.length y14.2, .slice a63 ((([] : List Sample) ++ v0.2.2).length) c64]) ty42 pl42 rfl rfl) (cK rfl rfl (cP (.inl rfl) cO) rfl (n_store (cs' := [.slice x61.1.1 r59.1.length x61.1.2, .slice x61.2.1 r59.2.length x61.2.2, .slice y14.1 x8.length y14.2, .slice a63 ((([] : List Sample) ++ v0.2.2).length) c64]) ty42 rfl rfl up4 rfl (one_of rfl) (Nat.le_of_ble_eq_true rfl) rfl) ?_)
  rintro _ _ _ ⟨rfl, rfl, rfl⟩
  refine ⟨(aM (by kernel_rfl) (aM (by kernel_rfl) bU)), ?_⟩
  refine cL (nT (bQ ?_))
  obtain rfl := si H
  exact back1 (x61, y14, (a63, c64)) rfl (ResV.agg ty42 rfl hs4 rfl) rfl cN (.cons dl1 (.cons dl1 (.cons dl3 (.cons aA .nil))))
noncomputable def p_spec_l22Fall (v0 : World) : Option (World) := bd (p_spec_l21Tidy v0.2) fun r8 => bd (p_spec_l21Copy r8) fun r11 => bd (p_spec_l21Open r11) fun r14 => bd (p_spec_l13Copy r14) fun r17 => some (r17, r11)
theorem c_spec_l22Fall {r : World} (v0 : World) (x_v0 : (((Option Addr × Nat) × (Option Addr × Nat)) × (Option Addr × Nat) × (Option Addr × Nat)) × ((Option Addr × Nat) × (Option Addr × Nat) × (Option Addr × Nat) × Unit)) (H : p_spec_l22Fall v0 = some r) : Fn' prog 199 #[.agg #[.slice x_v0.1.1.1.1 v0.1.1.1.length x_v0.1.1.1.2, .slice x_v0.1.1.2.1 v0.1.1.2.length x_v0.1.1.2.2, .slice x_v0.1.2.1.1 v0.1.2.1.length x_v0.1.2.1.2, .slice x_v0.1.2.2.1 v0.1.2.2.length x_v0.1.2.2.2, .slice x_v0.2.1.1 v0.2.1.length x_v0.2.1.2, .slice x_v0.2.2.1.1 v0.2.2.1.length x_v0.2.2.1.2, .slice x_v0.2.2.2.1.1 v0.2.2.2.1.length x_v0.2.2.2.1.2, .int .i64 (v0.2.2.2.2)]] [imm (.slice x_v0.1.1.1.1 v0.1.1.1.length x_v0.1.1.1.2) v0.1.1.1, imm (.slice x_v0.1.1.2.1 v0.1.1.2.length x_v0.1.1.2.2) v0.1.1.2, imm (.slice x_v0.1.2.1.1 v0.1.2.1.length x_v0.1.2.1.2) v0.1.2.1, imm (.slice x_v0.1.2.2.1 v0.1.2.2.length x_v0.1.2.2.2) v0.1.2.2, imm (.slice x_v0.2.1.1 v0.2.1.length x_v0.2.1.2) v0.2.1, imm (.slice x_v0.2.2.1.1 v0.2.2.1.length x_v0.2.2.1.2) v0.2.2.1, imm (.slice x_v0.2.2.2.1.1 v0.2.2.2.1.length x_v0.2.2.2.1.2) v0.2.2.2.1] [] (ι := (((Option Addr × Nat) × (Option Addr × Nat)) × (Option Addr × Nat) × (Option Addr × Nat)) × ((Option Addr × Nat) × (Option Addr × Nat) × (Option Addr × Nat) × Unit)) (fun x => .agg #[.slice x.1.1.1.1 r.1.1.1.length x.1.1.1.2, .slice x.1.1.2.1 r.1.1.2.length x.1.1.2.2, .slice x.1.2.1.1 r.1.2.1.length x.1.2.1.2, .slice x.1.2.2.1 r.1.2.2.length x.1.2.2.2, .slice x.2.1.1 r.2.1.length x.2.1.2, .slice x.2.2.1.1 r.2.2.1.length x.2.2.1.2, .slice x.2.2.2.1.1 r.2.2.2.1.length x.2.2.2.1.2, .int .i64 (r.2.2.2.2)]) (fun x => [imm (.slice x.1.1.1.1 r.1.1.1.length x.1.1.1.2) r.1.1.1, imm (.slice x.1.1.2.1 r.1.1.2.length x.1.1.2.2) r.1.1.2, imm (.slice x.1.2.1.1 r.1.2.1.length x.1.2.1.2) r.1.2.1, imm (.slice x.1.2.2.1 r.1.2.2.length x.1.2.2.2) r.1.2.2, imm (.slice x.2.1.1 r.2.1.length x.2.1.2) r.2.1, imm (.slice x.2.2.1.1 r.2.2.1.length x.2.2.1.2) r.2.2.1, imm (.slice x.2.2.2.1.1 r.2.2.2.1.length x.2.2.2.1.2) r.2.2.2.1]) (fun _ => []) := by
 refine cof (args := [_]) func199 ntmps199 fun c => ?_
 unfold p_spec_l22Fall at H
 refine bM aR fun X1 => (bM aR.s.s fun X2 => (bM aR.s.s.s.s fun X3 => (bM aR.s.s.s.s.s.s.s fun X4 => (bM aR.s.s.s.s.s.s.s.s.s.s fun X5 => (sr (f1 (cC (t := 121) rfl) fun g6 => (f1 (cD ty121) fun g7 => (nl (sr ?_)))))))))
 refine aG (cB fa121_1 rfl rfl) (aI (v := .agg #[.slice x_v0.2.1.1 v0.2.1.length x_v0.2.1.2, .slice x_v0.2.2.1.1 v0.2.2.1.length x_v0.2.2.1.2, .slice x_v0.2.2.2.1.1 v0.2.2.2.1.length x_v0.2.2.2.1.2, .int .i64 (v0.2.2.2.2)]) (q_ldbP [.slice x_v0.2.1.1 v0.2.1.length x_v0.2.1.2, .slice x_v0.2.2.1.1 v0.2.2.1.length x_v0.2.2.1.2, .slice x_v0.2.2.2.1.1 v0.2.2.2.1.length x_v0.2.2.2.1.2, .int .i64 (v0.2.2.2.2)] ty76 rfl hs1 rfl rfl) (bdo H fun r8 h9 H => (f1 (e_call (c_spec_l21Tidy v0.2 (x_v0.2.1, x_v0.2.2.1, x_v0.2.2.2.1, ()) h9) rfl (cM (aS aR.s) (cM aR.s.s.s.s.s.s.s.s.s.s (cM (aS aR) cN))) bK) fun x10 => (bdo H fun r11 h12 H => (f1 (cF (c_spec_l21Copy r8 (x10.1, x10.2.1, x10.2.2.1, ()) h12) (fun _ => (bF (bF (bF bG)))) rfl (aC (aL aR) (aC (aL aR.s) (aC (aL aR.s.s) aO)))) fun x13 => (aG (cB fa121_1 rfl rfl) (stb (cs' := [.slice x_v0.1.1.1.1 v0.1.1.1.length x_v0.1.1.1.2, .slice x_v0.1.1.2.1 v0.1.1.2.length x_v0.1.1.2.2, .slice x_v0.1.2.1.1 v0.1.2.1.length x_v0.1.2.1.2, .slice x_v0.1.2.2.1 v0.1.2.2.length x_v0.1.2.2.2, .slice x13.1.1 r11.1.length x13.1.2, .slice x13.2.1.1 r11.2.1.length x13.2.1.2, .slice x13.2.2.1.1 r11.2.2.1.length x13.2.2.1.2, .int .i64 (r11.2.2.2)]) ty76 up4 (nl (aD ?_)))))))))
 refine Tr.freeze (.cons dl2 .nil) (Tr.freeze (.cons dl1 .nil) (Tr.freeze (.cons aA .nil) (aP (aG (cB fa121_1 rfl rfl) (aI (v := .agg #[.slice x13.1.1 r11.1.length x13.1.2, .slice x13.2.1.1 r11.2.1.length x13.2.1.2, .slice x13.2.2.1.1 r11.2.2.1.length x13.2.2.1.2, .int .i64 (r11.2.2.2)]) (q_ldbP [.slice x13.1.1 r11.1.length x13.1.2, .slice x13.2.1.1 r11.2.1.length x13.2.1.2, .slice x13.2.2.1.1 r11.2.2.1.length x13.2.2.1.2, .int .i64 (r11.2.2.2)] ty76 rfl hs1 rfl rfl) (bdo H fun r14 h15 H => (f1 (e_call (c_spec_l21Open r11 (x13.1, x13.2.1, x13.2.2.1, ()) h15) rfl (cM aR (cM aR.s (cM aR.s.s cN))) bK) fun x16 => (bdo H fun r17 h18 H => (f1 (cF (c_spec_l13Copy r14 x16 h18) (fun _ => (bF (bF (bF (bF bG))))) rfl (aC (aL aR) (aC (aL aR.s) (aC (aL aR.s.s) (aC (aL aR.s.s.s) aO))))) fun x19 => ?_)))))))))
 refine aG (cB fa121_0 rfl rfl) (stb (cs' := [.slice x19.1.1.1 r17.1.1.length x19.1.1.2, .slice x19.1.2.1 r17.1.2.length x19.1.2.2, .slice x19.2.1.1 r17.2.1.length x19.2.1.2, .slice x19.2.2.1 r17.2.2.length x19.2.2.2, .slice x13.1.1 r11.1.length x13.1.2, .slice x13.2.1.1 r11.2.1.length x13.2.1.2, .slice x13.2.2.1.1 r11.2.2.1.length x13.2.2.1.2, .int .i64 (r11.2.2.2)]) ty42 up5 (nl (sr (aI (bJ ty121 rfl hs5 rfl) (stb (cs' := [.slice x19.1.1.1 r17.1.1.length x19.1.1.2, .slice x19.1.2.1 r17.1.2.length x19.1.2.2, .slice x19.2.1.1 r17.2.1.length x19.2.1.2, .slice x19.2.2.1 r17.2.2.length x19.2.2.2, .slice x13.1.1 r11.1.length x13.1.2, .slice x13.2.1.1 r11.2.1.length x13.2.1.2, .slice x13.2.2.1.1 r11.2.2.1.length x13.2.2.1.2, .int .i64 (r11.2.2.2)]) ty121 up4 (nl (Tr.freeze (.cons aA .nil) (Tr.freeze (.cons aA .nil) (Tr.freeze (.cons aA .nil) ?_)))))))))
 refine Tr.freeze (.cons aA .nil) (bQ ?_)
 obtain rfl := si H
 exact back1 (x19, (x13.1, x13.2.1, x13.2.2.1, ())) rfl (ResV.agg ty121 rfl aB rfl) rfl (cM aR.s.s.s (cM aR.s.s (cM aR.s (cM aR (cM aR.s.s.s.s.s.s.s.s (cM aR.s.s.s.s.s.s.s.s.s (cM aR.s.s.s.s.s.s.s.s.s.s cN))))))) bK
noncomputable def p_spec_l22Steps (v0 : World) (v1 : (List Step)) (v2 : Int) (v3 : Store) : Option (World) := bd (cond (decide ((v1.length : Int) = 0)) (some (true)) (some (decide (v2 < 0)))) fun b13 => cond (b13) (some v0) (bd (p_spec_l21To v0.2 v1 v2) fun r17 => cond (decide (v2 < (v1.length : Int))) (bd (p_spec_l22Fall (v0.1, r17)) fun r21 => some r21) (some (v3, r17)))
theorem c_spec_l22Steps {r : World} (v0 : World) (x_v0 : (((Option Addr × Nat) × (Option Addr × Nat)) × (Option Addr × Nat) × (Option Addr × Nat)) × ((Option Addr × Nat) × (Option Addr × Nat) × (Option Addr × Nat) × Unit)) (v1 : (List Step)) (x_v1 : Option Addr × Nat) (v2 : Int) (v3 : Store) (x_v3 : ((Option Addr × Nat) × (Option Addr × Nat)) × (Option Addr × Nat) × (Option Addr × Nat)) (H : p_spec_l22Steps v0 v1 v2 v3 = some r) : Fn' prog 195 #[.agg #[.slice x_v0.1.1.1.1 v0.1.1.1.length x_v0.1.1.1.2, .slice x_v0.1.1.2.1 v0.1.1.2.length x_v0.1.1.2.2, .slice x_v0.1.2.1.1 v0.1.2.1.length x_v0.1.2.1.2, .slice x_v0.1.2.2.1 v0.1.2.2.length x_v0.1.2.2.2, .slice x_v0.2.1.1 v0.2.1.length x_v0.2.1.2, .slice x_v0.2.2.1.1 v0.2.2.1.length x_v0.2.2.1.2, .slice x_v0.2.2.2.1.1 v0.2.2.2.1.length x_v0.2.2.2.1.2, .int .i64 (v0.2.2.2.2)], .slice x_v1.1 v1.length x_v1.2, .int .i64 (v2), .agg #[.slice x_v3.1.1.1 v3.1.1.length x_v3.1.1.2, .slice x_v3.1.2.1 v3.1.2.length x_v3.1.2.2, .slice x_v3.2.1.1 v3.2.1.length x_v3.2.1.2, .slice x_v3.2.2.1 v3.2.2.length x_v3.2.2.2]] [imm (.slice x_v0.1.1.1.1 v0.1.1.1.length x_v0.1.1.1.2) v0.1.1.1, imm (.slice x_v0.1.1.2.1 v0.1.1.2.length x_v0.1.1.2.2) v0.1.1.2, imm (.slice x_v0.1.2.1.1 v0.1.2.1.length x_v0.1.2.1.2) v0.1.2.1, imm (.slice x_v0.1.2.2.1 v0.1.2.2.length x_v0.1.2.2.2) v0.1.2.2, imm (.slice x_v0.2.1.1 v0.2.1.length x_v0.2.1.2) v0.2.1, imm (.slice x_v0.2.2.1.1 v0.2.2.1.length x_v0.2.2.1.2) v0.2.2.1, imm (.slice x_v0.2.2.2.1.1 v0.2.2.2.1.length x_v0.2.2.2.1.2) v0.2.2.2.1, imm (.slice x_v1.1 v1.length x_v1.2) v1, imm (.slice x_v3.1.1.1 v3.1.1.length x_v3.1.1.2) v3.1.1, imm (.slice x_v3.1.2.1 v3.1.2.length x_v3.1.2.2) v3.1.2, imm (.slice x_v3.2.1.1 v3.2.1.length x_v3.2.1.2) v3.2.1, imm (.slice x_v3.2.2.1 v3.2.2.length x_v3.2.2.2) v3.2.2] [] (ι := (((Option Addr × Nat) × (Option Addr × Nat)) × (Option Addr × Nat) × (Option Addr × Nat)) × ((Option Addr × Nat) × (Option Addr × Nat) × (Option Addr × Nat) × Unit)) (fun x => .agg #[.slice x.1.1.1.1 r.1.1.1.length x.1.1.1.2, .slice x.1.1.2.1 r.1.1.2.length x.1.1.2.2, .slice x.1.2.1.1 r.1.2.1.length x.1.2.1.2, .slice x.1.2.2.1 r.1.2.2.length x.1.2.2.2, .slice x.2.1.1 r.2.1.length x.2.1.2, .slice x.2.2.1.1 r.2.2.1.length x.2.2.1.2, .slice x.2.2.2.1.1 r.2.2.2.1.length x.2.2.2.1.2, .int .i64 (r.2.2.2.2)]) (fun x => [imm (.slice x.1.1.1.1 r.1.1.1.length x.1.1.1.2) r.1.1.1, imm (.slice x.1.1.2.1 r.1.1.2.length x.1.1.2.2) r.1.1.2, imm (.slice x.1.2.1.1 r.1.2.1.length x.1.2.1.2) r.1.2.1, imm (.slice x.1.2.2.1 r.1.2.2.length x.1.2.2.2) r.1.2.2, imm (.slice x.2.1.1 r.2.1.length x.2.1.2) r.2.1, imm (.slice x.2.2.1.1 r.2.2.1.length x.2.2.1.2) r.2.2.1, imm (.slice x.2.2.2.1.1 r.2.2.2.1.length x.2.2.2.1.2) r.2.2.2.1]) (fun _ => []) := by
 refine cof (args := [_, _, _, _]) func195 ntmps195 fun c => ?_
 unfold p_spec_l22Steps at H
 refine bM aR fun X1 => (bM aR.s.s fun X2 => (bM aR.s.s.s.s fun X3 => (bM aR.s.s.s.s.s.s.s fun X4 => (bM aR.s.s.s.s.s.s.s.s.s.s fun X5 => (bM aR.s.s.s.s.s.s.s.s.s.s.s.s fun X6 => (bM aR.s.s.s.s.s.s.s.s.s.s.s.s.s.s fun X7 => (bM aR.s.s.s.s.s.s.s.s.s.s.s.s.s.s.s.s fun X8 => (bM aR.s.s.s.s.s.s.s.s.s.s.s.s.s.s.s.s.s.s fun X9 => (sr ?_)))))))))
 refine f1 (cC (t := 121) rfl) fun g10 => (f1 (cC (t := 42) rfl) fun g11 => (f1 (cD ty121) fun g12 => (nl (aD (bdo H fun b13 j14 H => (dC [(15, .bool (b13)), (8, .pointer (some ⟨g12, 0, none⟩)), (7, .pointer (some ⟨g11, 0, none⟩)), (4, .pointer (some ⟨g10, 0, none⟩)), (1, .slice x_v1.1 v1.length x_v1.2), (2, .int .i64 (v2))] ?_ ?_))))))
 ·refine dG [(8, .pointer (some ⟨g12, 0, none⟩)), (7, .pointer (some ⟨g11, 0, none⟩)), (4, .pointer (some ⟨g10, 0, none⟩)), (1, .slice x_v1.1 v1.length x_v1.2), (2, .int .i64 (v2))] ⟨rfl, rfl, rfl, rfl, rfl, trivial⟩ (bB rfl (aX (bS 260 dK rfl) (aX (cT rfl rfl) ?_)))
  rcases aK (decide ((v1.length : Int) = 0)) with h15 | h15
  ·have j14 := cdT h15 j14
   refine bC (aE rfl) h15 ?_
   iterate 2 refine bE rfl ?_
   refine aX (v := .bool (true)) (bP rfl rfl) ?_
   obtain rfl := si j14
   show At _ _ _ _ _ _
   exact n1 ⟨rfl, rfl, rfl, rfl, rfl, rfl, trivial⟩
  ·have j14 := cdF h15 j14
   refine bC (aE rfl) h15 (aY rfl (aE rfl) (aY rfl (cQ rfl rfl) (aX (bO rfl rfl) ?_)))
   obtain rfl := si j14
   show At _ _ _ _ _ _
   exact n1 ⟨rfl, rfl, rfl, rfl, rfl, rfl, trivial⟩
 refine cH H rfl (fun h16 H => ?_) (fun h16 H => ?_)
 ·refine sr (aI (bJ ty121 rfl hs2 rfl) (stb (cs' := [.slice x_v0.1.1.1.1 v0.1.1.1.length x_v0.1.1.1.2, .slice x_v0.1.1.2.1 v0.1.1.2.length x_v0.1.1.2.2, .slice x_v0.1.2.1.1 v0.1.2.1.length x_v0.1.2.1.2, .slice x_v0.1.2.2.1 v0.1.2.2.length x_v0.1.2.2.2, .slice x_v0.2.1.1 v0.2.1.length x_v0.2.1.2, .slice x_v0.2.2.1.1 v0.2.2.1.length x_v0.2.2.1.2, .slice x_v0.2.2.2.1.1 v0.2.2.2.1.length x_v0.2.2.2.1.2, .int .i64 (v0.2.2.2.2)]) ty121 cX (nl (bQ (rT (?_))))))
  obtain rfl := si H
  exact back1 (x_v0.1, (x_v0.2.1, x_v0.2.2.1, x_v0.2.2.2.1, ())) rfl (ResV.agg ty121 rfl aB rfl) rfl (cM (aS aR.s.s.s.s.s.s.s.s) (cM (aS aR.s.s.s.s.s.s.s) (cM (aS aR.s.s.s.s.s.s) (cM aR.s.s.s.s.s.s.s.s.s.s.s.s (cM (aS aR.s.s.s.s.s) (cM aR.s.s.s.s.s.s.s.s.s.s.s.s.s.s (cM (aS aR.s.s.s.s) cN))))))) bK
 ·refine bH (nT (sr (aG (cB fa121_1 rfl rfl) (aI (v := .agg #[.slice x_v0.2.1.1 v0.2.1.length x_v0.2.1.2, .slice x_v0.2.2.1.1 v0.2.2.1.length x_v0.2.2.1.2, .slice x_v0.2.2.2.1.1 v0.2.2.2.1.length x_v0.2.2.2.1.2, .int .i64 (v0.2.2.2.2)]) (q_ldbP [.slice x_v0.2.1.1 v0.2.1.length x_v0.2.1.2, .slice x_v0.2.2.1.1 v0.2.2.1.length x_v0.2.2.1.2, .slice x_v0.2.2.2.1.1 v0.2.2.2.1.length x_v0.2.2.2.1.2, .int .i64 (v0.2.2.2.2)] ty76 rfl hs2 rfl rfl) (aF rfl (aF rfl (bdo H fun r17 h18 H => (f1 (e_call (c_spec_l21To v0.2 (x_v0.2.1, x_v0.2.2.1, x_v0.2.2.2.1, ()) v1 x_v1 v2 h18) rfl (cM (aS aR.s.s.s.s.s) (cM aR.s.s.s.s.s.s.s.s.s.s.s.s.s.s (cM (aS aR.s.s.s.s) (cM (aS aR.s.s.s) cN)))) bK) fun x19 => (aG (cB fa121_1 rfl rfl) ?_)))))))))
  refine stb (cs' := [.slice x_v0.1.1.1.1 v0.1.1.1.length x_v0.1.1.1.2, .slice x_v0.1.1.2.1 v0.1.1.2.length x_v0.1.1.2.2, .slice x_v0.1.2.1.1 v0.1.2.1.length x_v0.1.2.1.2, .slice x_v0.1.2.2.1 v0.1.2.2.length x_v0.1.2.2.2, .slice x19.1.1 r17.1.length x19.1.2, .slice x19.2.1.1 r17.2.1.length x19.2.1.2, .slice x19.2.2.1.1 r17.2.2.1.length x19.2.2.1.2, .int .i64 (r17.2.2.2)]) ty76 up2 (nl (aD (sr (aF rfl (aF rfl (aG (bS 260 dK rfl) (aG (cQ rfl rfl) (nl (cH H rfl (fun h20 H => ?_) (fun h20 H => ?_))))))))))
  ·refine sr (aI (bJ ty121 rfl hs2 rfl) (bdo H fun r21 h22 H => (f1 (e_call (c_spec_l22Fall (v0.1, r17) (x_v0.1, (x19.1, x19.2.1, x19.2.2.1, ())) h22) rfl (cM (aS aR.s.s.s.s.s.s.s.s.s.s.s) (cM (aS aR.s.s.s.s.s.s.s.s.s.s) (cM (aS aR.s.s.s.s.s.s.s.s.s) (cM aR.s.s.s.s.s.s.s.s.s.s.s.s.s.s.s (cM aR (cM aR.s (cM aR.s.s cN))))))) bK) fun x23 => (stb (cs' := [.slice x23.1.1.1.1 r21.1.1.1.length x23.1.1.1.2, .slice x23.1.1.2.1 r21.1.1.2.length x23.1.1.2.2, .slice x23.1.2.1.1 r21.1.2.1.length x23.1.2.1.2, .slice x23.1.2.2.1 r21.1.2.2.length x23.1.2.2.2, .slice x23.2.1.1 r21.2.1.length x23.2.1.2, .slice x23.2.2.1.1 r21.2.2.1.length x23.2.2.1.2, .slice x23.2.2.2.1.1 r21.2.2.2.1.length x23.2.2.2.1.2, .int .i64 (r21.2.2.2.2)]) ty121 cX (nl (bQ (rT (?_))))))))
   obtain rfl := si H
   exact back1 (x23.1, (x23.2.1, x23.2.2.1, x23.2.2.2.1, ())) rfl (ResV.agg ty121 rfl aB rfl) rfl (cM aR (cM aR.s (cM aR.s.s (cM aR.s.s.s (cM aR.s.s.s.s (cM aR.s.s.s.s.s (cM aR.s.s.s.s.s.s cN))))))) bK
  ·refine bH (nT (sr (aI (bJ ty42 rfl hs1 rfl) (aG (cB fa121_0 rfl rfl) (stb (cs' := [.slice x_v3.1.1.1 v3.1.1.length x_v3.1.1.2, .slice x_v3.1.2.1 v3.1.2.length x_v3.1.2.2, .slice x_v3.2.1.1 v3.2.1.length x_v3.2.1.2, .slice x_v3.2.2.1 v3.2.2.length x_v3.2.2.2, .slice x19.1.1 r17.1.length x19.1.2, .slice x19.2.1.1 r17.2.1.length x19.2.1.2, .slice x19.2.2.1.1 r17.2.2.1.length x19.2.2.1.2, .int .i64 (r17.2.2.2)]) ty42 up2 (nl (sr (aI (bJ ty121 rfl hs2 rfl) (stb (cs' := [.slice x_v3.1.1.1 v3.1.1.length x_v3.1.1.2, .slice x_v3.1.2.1 v3.1.2.length x_v3.1.2.2, .slice x_v3.2.1.1 v3.2.1.length x_v3.2.1.2, .slice x_v3.2.2.1 v3.2.2.length x_v3.2.2.2, .slice x19.1.1 r17.1.length x19.1.2, .slice x19.2.1.1 r17.2.1.length x19.2.1.2, .slice x19.2.2.1.1 r17.2.2.1.length x19.2.2.1.2, .int .i64 (r17.2.2.2)]) ty121 cX ?_)))))))))
   refine nl (bQ ?_)
   obtain rfl := si H
   exact back1 (x_v3, (x19.1, x19.2.1, x19.2.2.1, ())) rfl (ResV.agg ty121 rfl aB rfl) rfl (cM (aS aR.s.s.s.s.s) (cM (aS aR.s.s.s.s) (cM (aS aR.s.s.s) (cM aR.s.s.s.s.s.s.s.s.s.s.s.s.s.s.s.s.s.s.s.s.s.s.s (cM aR (cM aR.s (cM aR.s.s cN))))))) bK
noncomputable def p_spec_l13Merge (v0 : Store) (v1 : Int) : Option (Store × Bool) := gd (I64 ((v0.2.1.length : Int) - 2)) <| bd (p_spec_l6In v1 0 ((v0.2.1.length : Int) - 2)) fun r7 => cond (!r7) (some (v0, false)) (gd (sl2 0 v1 v0.2.1.length) <| gd (room (([] : List Part).length + ((v0.2.1.take v1.toNat).drop 0).length)) <| gd (ix v1 v0.2.1.length) <| gd (I64 (v1 + 1)) <| gd (ix (v1 + 1) v0.2.1.length) <| bd (p_spec_l12Merge (nth v0.2.1 v1.toNat) (nth v0.2.1 ((v1 + 1).toNat))) fun r19 => gd (room ((([] : List Part) ++ ((v0.2.1.take v1.toNat).drop 0)).length + 1)) <| gd (I64 (v1 + 2)) <| gd (sl2 (v1 + 2) (v0.2.1.length : Int) v0.2.1.length) <| gd (room (((([] : List Part) ++ ((v0.2.1.take v1.toNat).drop 0)) ++ [r19]).length + ((v0.2.1.take (v0.2.1.length : Int).toNat).drop (v1 + 2).toNat).length)) <| some ((v0.1, (((([] : List Part) ++ ((v0.2.1.take v1.toNat).drop 0)) ++ [r19]) ++ ((v0.2.1.take (v0.2.1.length : Int).toNat).drop (v1 + 2).toNat)), v0.2.2), true))
theorem c_spec_l13Merge {r : Store × Bool} (v0 : Store) (x_v0 : ((Option Addr × Nat) × (Option Addr × Nat)) × (Option Addr × Nat) × (Option Addr × Nat)) (v1 : Int) (H : p_spec_l13Merge v0 v1 = some r) : Fn' prog 197 #[.agg #[.slice x_v0.1.1.1 v0.1.1.length x_v0.1.1.2, .slice x_v0.1.2.1 v0.1.2.length x_v0.1.2.2, .slice x_v0.2.1.1 v0.2.1.length x_v0.2.1.2, .slice x_v0.2.2.1 v0.2.2.length x_v0.2.2.2], .int .i64 (v1)] [imm (.slice x_v0.1.1.1 v0.1.1.length x_v0.1.1.2) v0.1.1, imm (.slice x_v0.1.2.1 v0.1.2.length x_v0.1.2.2) v0.1.2, imm (.slice x_v0.2.1.1 v0.2.1.length x_v0.2.1.2) v0.2.1, imm (.slice x_v0.2.2.1 v0.2.2.length x_v0.2.2.2) v0.2.2] [] (ι := (((Option Addr × Nat) × (Option Addr × Nat)) × (Option Addr × Nat) × (Option Addr × Nat)) × Unit) (fun x => .tuple #[.agg #[.slice x.1.1.1.1 r.1.1.1.length x.1.1.1.2, .slice x.1.1.2.1 r.1.1.2.length x.1.1.2.2, .slice x.1.2.1.1 r.1.2.1.length x.1.2.1.2, .slice x.1.2.2.1 r.1.2.2.length x.1.2.2.2], .bool (r.2)]) (fun x => [imm (.slice x.1.1.1.1 r.1.1.1.length x.1.1.1.2) r.1.1.1, imm (.slice x.1.1.2.1 r.1.1.2.length x.1.1.2.2) r.1.1.2, imm (.slice x.1.2.1.1 r.1.2.1.length x.1.2.1.2) r.1.2.1, imm (.slice x.1.2.2.1 r.1.2.2.length x.1.2.2.2) r.1.2.2]) (fun _ => []) := by
 refine cof (args := [_, _]) func197 ntmps197 fun c => ?_
 unfold p_spec_l13Merge at H
 refine bM aR fun X1 => (bM aR.s.s fun X2 => (bM aR.s.s.s.s fun X3 => (sr (f1 (cC (t := 42) rfl) fun g4 => (f1 (cD ty42) fun g5 => (aH (v := .bool (false)) rfl (nl (aD (sr (aF rfl (aG (cB fa42_1 rfl rfl) ?_)))))))))))
 refine aI (bI ty39 rfl hs1 rfl) (aG (bS 72 dO rfl) (gdo H fun h6 H => (aG (cR rfl rfl h6) (bdo H fun r7 h8 H => (aI (bN (c_spec_l6In v1 0 ((v0.2.1.length : Int) - 2) h8) rfl aO) (aG (cV rfl) (nl (cH H rfl (fun h9 H => ?_) (fun h9 H => ?_)))))))))
 ·refine sr (aI (bJ ty42 rfl hs1 rfl) (stb (cs' := [.slice x_v0.1.1.1 v0.1.1.length x_v0.1.1.2, .slice x_v0.1.2.1 v0.1.2.length x_v0.1.2.2, .slice x_v0.2.1.1 v0.2.1.length x_v0.2.1.2, .slice x_v0.2.2.1 v0.2.2.length x_v0.2.2.2]) ty42 cX (aH (v := .bool (false)) rfl (nl (bQ (rT (?_)))))))
  obtain rfl := si H
  exact back2 (x_v0, ()) rfl (ResV.agg ty42 rfl aB rfl) (ResV.tmp (v := .bool (false)) rfl) rfl (cM (aS aR.s.s) (cM (aS aR.s) (cM (aS aR) (cM aR.s.s.s.s.s.s cN)))) bK
 ·refine bH (nT (sr (f2 (e_lit0r Part dO ty72) fun a10 c11 => (aG (cB fa42_1 rfl rfl) (aI (bI ty39 rfl hs2 rfl) (aF rfl (gdo H fun h12 H => (aI (v := .slice (subA x_v0.2.1.1 x_v0.2.1.2 0 (Enc.sz Part)) (((v0.2.1.take v1.toNat).drop 0).length) (x_v0.2.1.2 - 0)) (q_slF (l := v0.2.1) (α := Part) 0 v1 dO ty72 rfl rfl (fun _ => rfl) rfl (fun h => nomatch h) h12 (aL (aS aR))) (gdo H fun h15 H => ?_)))))))))
  refine f2 (e_appR (l := ([] : List Part)) (k := ((v0.2.1.take v1.toNat).drop 0)) (α := Part) dO ty72 rfl rfl (h15.b (by decide)) h15.x (.cons aA .nil) (Ent.sub (aS aR) h12.le h12.lt)) fun a13 c14 => (aH rfl (nl (aD (tNwL [(6, .slice a13 ((([] : List Part) ++ ((v0.2.1.take v1.toNat).drop 0)).length) c14), (4, .pointer (some ⟨g5, 0, none⟩)), (2, .pointer (some ⟨g4, 0, none⟩)), (1, .int .i64 (v1))] 1 [0, 1, 2, 3, 4, 5, 6, 7, 8, 9, 10, 11, 12, 13, 14] [12, 13, 14] [] mixed rfl (by kernel_rfl) (by kernel_rfl) (by decide) dH ⟨rfl, rfl, rfl, rfl, trivial⟩ rfl okNil (w_p rfl (aE rfl) (w_p rfl (cB fa42_1 rfl rfl) ?_))))))
  refine w_o rfl (fun F => (bI ty39 rfl (hs2.app F) rfl)) (w_p rfl (aE rfl) (gdo H fun h16 H => ?_))
  refine w_o rfl (fun F => (bW dO ty72 rfl rfl h16 rfl (aL (aT aR)))) ?_
  refine w_o (v := .agg #[.slice (((X3 v1.toNat).1).1) (((nth v0.2.1 v1.toNat).1).length) (((X3 v1.toNat).1).2.1), .slice (((X3 v1.toNat).2).1) (((nth v0.2.1 v1.toNat).2).length) (((X3 v1.toNat).2).2.1)]) rfl (fun F => (cA (i := v1.toNat) ty72 rfl (aL (aT aR)) h16.lt)) (w_p rfl (cB fa42_1 rfl rfl) ?_)
  refine w_o rfl (fun F => (bI ty39 rfl (hs2.app F) rfl)) (w_p rfl (aE rfl) (gdo H fun h17 H => (w_p rfl (bR rfl rfl h17) (gdo H fun h18 H => ?_))))
  refine w_o rfl (fun F => (bW dO ty72 rfl rfl h18 rfl (aL (aT aR)))) ?_
  refine w_o (v := .agg #[.slice (((X3 ((v1 + 1).toNat)).1).1) (((nth v0.2.1 ((v1 + 1).toNat)).1).length) (((X3 ((v1 + 1).toNat)).1).2.1), .slice (((X3 ((v1 + 1).toNat)).2).1) (((nth v0.2.1 ((v1 + 1).toNat)).2).length) (((X3 ((v1 + 1).toNat)).2).2.1)]) rfl (fun F => (cA (i := (v1 + 1).toNat) ty72 rfl (aL (aT aR)) h18.lt)) (bdo H fun r19 h20 H => (cJ rfl (by decide) rfl cO rfl (cE (c_spec_l12Merge (nth v0.2.1 v1.toNat) ((((X3 v1.toNat).1).1, ((X3 v1.toNat).1).2.1), (((X3 v1.toNat).2).1, ((X3 v1.toNat).2).2.1)) (nth v0.2.1 ((v1 + 1).toNat)) ((((X3 ((v1 + 1).toNat)).1).1, ((X3 ((v1 + 1).toNat)).1).2.1), (((X3 ((v1 + 1).toNat)).2).1, ((X3 ((v1 + 1).toNat)).2).2.1)) h20) (fun _ => (bF (bF bG))) rfl (aC (aL (aS (aV (aW aR h16.lt)))) (aC (aL (aS (aU (aW aR h16.lt)))) (aC (aL (aS (aV (aW aR h18.lt)))) (aC (aL (aS (aU (aW aR h18.lt)))) aO))))) ?_))
  rintro _ _ _ ⟨x21, rfl, rfl, rfl⟩
  refine ⟨(aM (by kernel_rfl) (bV rfl rfl (fun F => (bW dO ty72 rfl rfl h18 rfl (aL (aT aR)))) (bV rfl rfl (fun F => (bI ty39 rfl (hs4.app F) rfl)) (aM (by kernel_rfl) (bV rfl rfl (fun F => (bW dO ty72 rfl rfl h16 rfl (aL (aT aR)))) (bV rfl rfl (fun F => (bI ty39 rfl (hs4.app F) rfl)) bU)))))), ?_⟩
  refine cJ rfl (by decide) rfl cO rfl (n_lit (vs := [(0, .agg #[.slice x21.1.1 r19.1.length x21.1.2, .slice x21.2.1 r19.2.length x21.2.2])]) [.slice x21.1.1 r19.1.length x21.1.2, .slice x21.2.1 r19.2.length x21.2.2] dO ty72 rfl (by decide) (by decide) (by kernel_rfl)) ?_
  rintro _ _ _ ⟨g22, rfl, rfl, rfl⟩
  refine ⟨(bV rfl rfl (fun F => (cA (i := (v1 + 1).toNat) ty72 rfl (aL (aT aR)) h18.lt)) (bV rfl rfl (fun F => (bW dO ty72 rfl rfl h18 rfl (aL (aT aR)))) (bV rfl rfl (fun F => (bI ty39 rfl (hs5.app F) rfl)) (bV rfl rfl (fun F => (cA (i := v1.toNat) ty72 rfl (aL (aT aR)) h16.lt)) (bV rfl rfl (fun F => (bW dO ty72 rfl rfl h16 rfl (aL (aT aR)))) (bV rfl rfl (fun F => (bI ty39 rfl (hs5.app F) rfl)) bU)))))), ?_⟩
  refine gdo H fun h25 H => (cJ rfl (by decide) rfl cO rfl (n_app1RO (l := (([] : List Part) ++ ((v0.2.1.take v1.toNat).drop 0))) (α := Part) r19 x21 dO ty72 rfl rfl (h25.b (by decide)) h25.x rfl (.cons dl3 (.cons aA (.cons aA (.cons aA .nil))))) ?_)
  rintro _ _ _ ⟨a23, c24, rfl, rfl, rfl⟩
  refine ⟨(bV rfl rfl (fun F => (cA (i := (v1 + 1).toNat) ty72 rfl (aL (aT aR)) h18.lt)) (bV rfl rfl (fun F => (bW dO ty72 rfl rfl h18 rfl (aL (aT aR)))) (bV rfl rfl (fun F => (bI ty39 rfl (hs2.app F) rfl)) (bV rfl rfl (fun F => (cA (i := v1.toNat) ty72 rfl (aL (aT aR)) h16.lt)) (bV rfl rfl (fun F => (bW dO ty72 rfl rfl h16 rfl (aL (aT aR)))) (bV rfl rfl (fun F => (bI ty39 rfl (hs2.app F) rfl)) bU)))))), ?_⟩
  refine cL ?_
  show Rg _ _ _ _ _ _ _ _ _
  refine aH rfl (nl (sr (aF rfl (aG (cB fa42_1 rfl rfl) (aI (bI ty39 rfl hs2 rfl) (aF rfl (gdo H fun h26 H => (aG (bR rfl rfl h26) (gdo H fun h27 H => (aI (v := .slice (subA x_v0.2.1.1 x_v0.2.1.2 (v1 + 2).toNat (Enc.sz Part)) (((v0.2.1.take (v0.2.1.length : Int).toNat).drop (v1 + 2).toNat).length) (x_v0.2.1.2 - (v1 + 2).toNat)) (q_slF (l := v0.2.1) (α := Part) (v1 + 2) (v0.2.1.length : Int) dO ty72 rfl rfl (fun h => nomatch h) rfl (fun _ => rfl) h27 (aL (aS aR))) ?_))))))))))
  refine gdo H fun h30 H => (f2 (e_appR (l := ((([] : List Part) ++ ((v0.2.1.take v1.toNat).drop 0)) ++ [r19])) (k := ((v0.2.1.take (v0.2.1.length : Int).toNat).drop (v1 + 2).toNat)) (α := Part) dO ty72 rfl rfl (h30.b (by decide)) h30.x (.cons aA .nil) (Ent.sub (aS aR) h27.le h27.lt)) fun a28 c29 => (aG (cB fa42_1 rfl rfl) (stb (cs' := [.slice x_v0.1.1.1 v0.1.1.length x_v0.1.1.2, .slice x_v0.1.2.1 v0.1.2.length x_v0.1.2.2, .slice a28 ((((([] : List Part) ++ ((v0.2.1.take v1.toNat).drop 0)) ++ [r19]) ++ ((v0.2.1.take (v0.2.1.length : Int).toNat).drop (v1 + 2).toNat)).length) c29, .slice x_v0.2.2.1 v0.2.2.length x_v0.2.2.2]) ty39 up2 (nl (sr (aI (bJ ty42 rfl hs2 rfl) (stb (cs' := [.slice x_v0.1.1.1 v0.1.1.length x_v0.1.1.2, .slice x_v0.1.2.1 v0.1.2.length x_v0.1.2.2, .slice a28 ((((([] : List Part) ++ ((v0.2.1.take v1.toNat).drop 0)) ++ [r19]) ++ ((v0.2.1.take (v0.2.1.length : Int).toNat).drop (v1 + 2).toNat)).length) c29, .slice x_v0.2.2.1 v0.2.2.length x_v0.2.2.2]) ty42 up1 (aH (v := .bool (true)) rfl (nl (Tr.freezeR (.cons aA .nil) ?_))))))))))
  refine bQ ?_
  obtain rfl := si H
  exact back2 ((x_v0.1, (a28, c29), x_v0.2.2), ()) rfl (ResV.agg ty42 rfl aB rfl) (ResV.tmp (v := .bool (true)) rfl) rfl (cM (aS aR.s.s.s) (cM (aS aR.s.s) (cM aR (cM aR.s.s.s.s.s.s.s cN)))) bK
noncomputable def p_spec_l21Merge (v0 : Disk) (v1 : Int) : Option ((List Step)) := bd (gd (I64 ((v0.2.1.length : Int) - 2)) <| bd (p_spec_l6In v1 0 ((v0.2.1.length : Int) - 2)) fun r7 => cond (!r7) (some (true)) (cond (decide (999 ≤ v0.2.2.2)) (some (true)) (some (decide (20 ≤ (v0.1.length : Int)))))) fun b4 => cond (b4) (some ([] : List Step)) (gd (ix v1 v0.2.1.length) <| gd (I64 (v1 + 1)) <| gd (ix (v1 + 1) v0.2.1.length) <| bd (p_spec_l21At v0 (nth v0.2.1 v1.toNat)) fun r17 => gd (ix r17 v0.1.length) <| bd (p_spec_l21At v0 (nth v0.2.1 ((v1 + 1).toNat))) fun r20 => gd (ix r20 v0.1.length) <| bd (p_spec_l12Merge ((nth v0.1 r17.toNat).2) ((nth v0.1 r20.toNat).2)) fun r23 => gd (sl2 0 v1 v0.2.1.length) <| gd (I64 (v1 + 2)) <| gd (sl2 (v1 + 2) (v0.2.1.length : Int) v0.2.1.length) <| gd (room (([] : List Int).length + ((v0.2.1.take v1.toNat).drop 0).length)) <| gd (room ((([] : List Int) ++ ((v0.2.1.take v1.toNat).drop 0)).length + 1)) <| gd (room (((([] : List Int) ++ ((v0.2.1.take v1.toNat).drop 0)) ++ [v0.2.2.2]).length + ((v0.2.1.take (v0.2.1.length : Int).toNat).drop (v1 + 2).toNat).length)) <| bd (p_spec_l11Names v0.2.2.1) fun r41 => some ([(1, v0.2.2.2, r23, ([]), ([])), (2, 0, (([]), ([])), (((([] : List Int) ++ ((v0.2.1.take v1.toNat).drop 0)) ++ [v0.2.2.2]) ++ ((v0.2.1.take (v0.2.1.length : Int).toNat).drop (v1 + 2).toNat)), r41), (3, (nth v0.2.1 v1.toNat), (([]), ([])), ([]), ([])), (3, (nth v0.2.1 ((v1 + 1).toNat)), (([]), ([])), ([]), ([]))] : List Step))
theorem c_spec_l21Merge {r : (List Step)} (v0 : Disk) (x_v0 : (Option Addr × Nat) × (Option Addr × Nat) × (Option Addr × Nat) × Unit) (v1 : Int) (H : p_spec_l21Merge v0 v1 = some r) : Fn' prog 198 #[.agg #[.slice x_v0.1.1 v0.1.length x_v0.1.2, .slice x_v0.2.1.1 v0.2.1.length x_v0.2.1.2, .slice x_v0.2.2.1.1 v0.2.2.1.length x_v0.2.2.1.2, .int .i64 (v0.2.2.2)], .int .i64 (v1)] [imm (.slice x_v0.1.1 v0.1.length x_v0.1.2) v0.1, imm (.slice x_v0.2.1.1 v0.2.1.length x_v0.2.1.2) v0.2.1, imm (.slice x_v0.2.2.1.1 v0.2.2.1.length x_v0.2.2.1.2) v0.2.2.1] [] (ι := Option Addr × Nat) (fun x => .slice x.1 r.length x.2) (fun x => [imm (.slice x.1 r.length x.2) r]) (fun _ => []) := by
 refine cof (args := [_, _]) func198 ntmps198 fun c => ?_
 unfold p_spec_l21Merge at H
 refine bM aR fun X1 => (bM aR.s.s.s fun X2 => (sr (f1 (cC (t := 76) rfl) fun g3 => (aH (v := .slice none 0 0) rfl (nl (aD (bdo H fun b4 j5 H => (dC [(26, .bool (b4)), (2, .pointer (some ⟨g3, 0, none⟩)), (1, .int .i64 (v1))] ?_ ?_))))))))
 ·refine dG [(2, .pointer (some ⟨g3, 0, none⟩)), (1, .int .i64 (v1))] ⟨rfl, rfl, trivial⟩ (bB rfl (aX (cB fa76_1 rfl rfl) (aZ (bI ty69 rfl aB rfl) (aX (bS 3 dU rfl) (gdo j5 fun h6 j5 => (aX (cR rfl rfl h6) (bdo j5 fun r7 h8 j5 => (aZ (bN (c_spec_l6In v1 0 ((v0.2.1.length : Int) - 2) h8) rfl aO) (aX (cV rfl) ?_)))))))))
  rcases aK (!r7) with h9 | h9
  ·have j5 := cdT h9 j5
   refine bC (aE rfl) h9 ?_
   iterate 3 refine bE rfl ?_
   refine aX (v := .bool (true)) (bP rfl rfl) (bB (v := .bool (true)) rfl ?_)
   iterate 4 refine bE rfl ?_
   refine aX (v := .bool (true)) (bP rfl rfl) ?_
   obtain rfl := si j5
   show At _ _ _ _ _ _
   exact n1 ⟨rfl, rfl, rfl, trivial⟩
  ·have j5 := cdF h9 j5
   refine bC (aE rfl) h9 (aY rfl (cB fa76_3 rfl rfl) (bA rfl (bI ty3 rfl aB rfl) (aY rfl (p_geq rfl rfl) (aX (bO rfl rfl) ?_))))
   rcases aK (decide (999 ≤ v0.2.2.2)) with h10 | h10
   ·have j5 := cdT h10 j5
    refine bC (aE rfl) h10 ?_
    iterate 4 refine bE rfl ?_
    refine aX (v := .bool (true)) (bP rfl rfl) ?_
    obtain rfl := si j5
    show At _ _ _ _ _ _
    exact n1 ⟨rfl, rfl, rfl, trivial⟩
   ·have j5 := cdF h10 j5
    refine bC (aE rfl) h10 (aY rfl (cB fa76_0 rfl rfl) (bA rfl (bI ty74 rfl aB rfl) (aY rfl (bS 80 dW rfl) (aY rfl (p_geq rfl rfl) (aX (bO rfl rfl) ?_)))))
    obtain rfl := si j5
    show At _ _ _ _ _ _
    exact n1 ⟨rfl, rfl, rfl, trivial⟩
 refine cH H rfl (fun h11 H => ?_) (fun h11 H => ?_)
 ·refine sr (f2 (e_lit0 Step dK ty260) fun a12 c13 => (aH rfl (nl (Tr.freeze (.cons aA .nil) (bQ (rT (?_)))))))
  obtain rfl := si H
  exact back1 (a12, c13) rfl (ResV.tmp (v := .slice a12 (([] : List Step).length) c13) rfl) rfl (cM aR cN) bK
 ·refine bH (nT (sr (aG (cB fa76_1 rfl rfl) (aI (bI ty69 rfl aB rfl) (aF rfl (gdo H fun h14 H => (aI (bW dU ty3 rfl rfl h14 rfl (aN (aL aR.s.s.s))) (aI (bZ (i := v1.toNat) (j := 0) ty3 rfl (aN (aL aR.s.s.s)) h14.lt rfl) (aH rfl (nl ?_))))))))))
  refine sr (aG (cB fa76_1 rfl rfl) (aI (bI ty69 rfl aB rfl) (aF rfl (gdo H fun h15 H => (aG (bR rfl rfl h15) (gdo H fun h16 H => (aI (bW dU ty3 rfl rfl h16 rfl (aN (aL aR.s.s.s))) (aI (bZ (i := (v1 + 1).toNat) (j := 0) ty3 rfl (aN (aL aR.s.s.s)) h16.lt rfl) (aH rfl (nl ?_))))))))))
  refine aD (dF [(6, .int .i64 (nth v0.2.1 ((v1 + 1).toNat))), (5, .int .i64 (nth v0.2.1 v1.toNat)), (2, .pointer (some ⟨g3, 0, none⟩)), (1, .int .i64 (v1))] 1 [0, 1, 2, 3, 4, 5, 6, 7, 8, 9, 10, 11, 12, 13, 14, 15, 16, 17, 18] [16, 18] [⟨17, [], fun g => .pointer (some ⟨g, 0, none⟩), fun g => box g 72 [.slice none 0 0, .slice none 0 0]⟩] mixed (by kernel_rfl) (by decide) (show List.Nodup [17] by decide) ⟨rfl, rfl, rfl, rfl, trivial⟩ rfl (okCons (FreeA.Ok.of rfl (by decide) (by kernel_rfl) fun c fs os => cD ty72) okNil) (w_p rfl (cB fa76_0 rfl rfl) ?_))
  refine w_o rfl (fun F => (bI ty74 rfl (aB.app F) rfl)) ?_
  refine w_o rfl (fun F => (bJ ty76 rfl (aB.app F) rfl)) (w_p rfl (aE rfl) (bdo H fun r17 h18 H => ?_))
  refine w_o rfl (fun F => (bN (c_spec_l21At v0 (x_v0.1, x_v0.2.1, x_v0.2.2.1, ()) (nth v0.2.1 v1.toNat) h18) rfl (aC (aL (aS aR.s)) (aC (aL aR.s.s.s) (aC (aL (aS aR)) aO))))) (gdo H fun h19 H => ?_)
  refine w_o rfl (fun F => (bW dW ty80 rfl rfl h19 rfl (aL (aT aR.s)))) ?_
  refine w_o rfl (fun F => (bY (j := 0) r17.toNat fa80_1 rfl (aL (aT aR.s)) h19.lt rfl)) ?_
  refine w_o (v := .agg #[.slice ((((X1 r17.toNat).2).1).1) ((((nth v0.1 r17.toNat).2).1).length) ((((X1 r17.toNat).2).1).2.1), .slice ((((X1 r17.toNat).2).2).1) ((((nth v0.1 r17.toNat).2).2).length) ((((X1 r17.toNat).2).2).2.1)]) rfl (fun F => (q_ldeP [.slice ((((X1 r17.toNat).2).1).1) ((((nth v0.1 r17.toNat).2).1).length) ((((X1 r17.toNat).2).1).2.1), .slice ((((X1 r17.toNat).2).2).1) ((((nth v0.1 r17.toNat).2).2).length) ((((X1 r17.toNat).2).2).2.1)] (l := v0.1) (E := fun i => Dp.denc (nth v0.1 i) (X1 i)) (oa := x_v0.1.1) (i := r17.toNat) (j := 1) ty72 rfl (aL (aT aR.s)) h19.lt rfl rfl)) (w_p rfl (cB fa76_0 rfl rfl) ?_)
  refine w_o rfl (fun F => (bI ty74 rfl (aB.app F) rfl)) ?_
  refine w_o rfl (fun F => (bJ ty76 rfl (aB.app F) rfl)) (w_p rfl (aE rfl) (bdo H fun r20 h21 H => ?_))
  refine w_o rfl (fun F => (bN (c_spec_l21At v0 (x_v0.1, x_v0.2.1, x_v0.2.2.1, ()) (nth v0.2.1 ((v1 + 1).toNat)) h21) rfl (aC (aL (aS aR.s)) (aC (aL aR.s.s.s) (aC (aL (aS aR)) aO))))) (gdo H fun h22 H => ?_)
  refine w_o rfl (fun F => (bW dW ty80 rfl rfl h22 rfl (aL (aT aR.s)))) ?_
  refine w_o rfl (fun F => (bY (j := 0) r20.toNat fa80_1 rfl (aL (aT aR.s)) h22.lt rfl)) ?_
  refine w_o (v := .agg #[.slice ((((X1 r20.toNat).2).1).1) ((((nth v0.1 r20.toNat).2).1).length) ((((X1 r20.toNat).2).1).2.1), .slice ((((X1 r20.toNat).2).2).1) ((((nth v0.1 r20.toNat).2).2).length) ((((X1 r20.toNat).2).2).2.1)]) rfl (fun F => (q_ldeP [.slice ((((X1 r20.toNat).2).1).1) ((((nth v0.1 r20.toNat).2).1).length) ((((X1 r20.toNat).2).1).2.1), .slice ((((X1 r20.toNat).2).2).1) ((((nth v0.1 r20.toNat).2).2).length) ((((X1 r20.toNat).2).2).2.1)] (l := v0.1) (E := fun i => Dp.denc (nth v0.1 i) (X1 i)) (oa := x_v0.1.1) (i := r20.toNat) (j := 1) ty72 rfl (aL (aT aR.s)) h22.lt rfl rfl)) (bdo H fun r23 h24 H => (cJ rfl (by decide) rfl (cP (.inr (.inr trivial)) cO) rfl (cE (c_spec_l12Merge ((nth v0.1 r17.toNat).2) (((((X1 r17.toNat).2).1).1, (((X1 r17.toNat).2).1).2.1), ((((X1 r17.toNat).2).2).1, (((X1 r17.toNat).2).2).2.1)) ((nth v0.1 r20.toNat).2) (((((X1 r20.toNat).2).1).1, (((X1 r20.toNat).2).1).2.1), ((((X1 r20.toNat).2).2).1, (((X1 r20.toNat).2).2).2.1)) h24) (fun _ => (bF (bF bG))) rfl (aC (aL (aS (aV (aU (aW aR.s h19.lt))))) (aC (aL (aS (aU (aU (aW aR.s h19.lt))))) (aC (aL (aS (aV (aU (aW aR.s h22.lt))))) (aC (aL (aS (aU (aU (aW aR.s h22.lt))))) aO))))) ?_))
  rintro _ _ _ ⟨x25, rfl, rfl, rfl⟩
  refine ⟨(aM (by kernel_rfl) (bV rfl rfl (fun F => (bY (j := 0) r20.toNat fa80_1 rfl (aL (aT aR.s)) h22.lt rfl)) (bV rfl rfl (fun F => (bW dW ty80 rfl rfl h22 rfl (aL (aT aR.s)))) (aM (by kernel_rfl) (bV rfl rfl (fun F => (bJ ty76 rfl (hs2.app F) rfl)) (bV rfl rfl (fun F => (bI ty74 rfl (hs2.app F) rfl)) (aM (by kernel_rfl) (bV rfl rfl (fun F => (bY (j := 0) r17.toNat fa80_1 rfl (aL (aT aR.s)) h19.lt rfl)) (bV rfl rfl (fun F => (bW dW ty80 rfl rfl h19 rfl (aL (aT aR.s)))) (bV rfl rfl (fun F => (bN (c_spec_l21At v0 (x_v0.1, x_v0.2.1, x_v0.2.2.1, ()) (nth v0.2.1 v1.toNat) h18) rfl (aC (aL (aS aR.s)) (aC (aL aR.s.s.s) (aC (aL (aS aR)) aO))))) (bV rfl rfl (fun F => (bJ ty76 rfl (hs2.app F) rfl)) (bV rfl rfl (fun F => (bI ty74 rfl (hs2.app F) rfl)) bU)))))))))))), ?_⟩
  refine w_fr (z := ⟨17, [], fun g => .pointer (some ⟨g, 0, none⟩), fun g => box g 72 [.slice none 0 0, .slice none 0 0]⟩) (.head _) rfl rfl (by decide) (cP (.inl rfl) cO) trivial ?_; intro g26
  refine cK rfl rfl (cP (.inl rfl) cO) rfl (n_store (cs' := [.slice x25.1.1 r23.1.length x25.1.2, .slice x25.2.1 r23.2.length x25.2.2]) ty72 rfl rfl cX rfl (one_of rfl) (Nat.le_of_ble_eq_true rfl) rfl) ?_
  rintro _ _ _ ⟨rfl, rfl, rfl⟩
  refine ⟨(aM (by kernel_rfl) (aM (by kernel_rfl) (aM (by kernel_rfl) (aM (by kernel_rfl) (aM (by kernel_rfl) (aM (by kernel_rfl) (aM (by kernel_rfl) (aM (by kernel_rfl) (aM (by kernel_rfl) (aM (by kernel_rfl) (aM (by kernel_rfl) (aM (by kernel_rfl) bU)))))))))))), ?_⟩
  refine cL (nT (aD (dF [(7, .pointer (some ⟨g26, 0, none⟩)), (6, .int .i64 (nth v0.2.1 ((v1 + 1).toNat))), (5, .int .i64 (nth v0.2.1 v1.toNat)), (2, .pointer (some ⟨g3, 0, none⟩)), (1, .int .i64 (v1))] 3 [1, 2, 3, 4, 6, 7, 10, 11, 12, 13, 14, 0, 5, 8, 9, 15, 16] [5, 9, 15] [⟨0, [], fun g => .slice (some ⟨g, 0, none⟩) ([] : List Int).length 0, fun g => tree (.slice (some ⟨g, 0, none⟩) ([] : List Int).length 0) ([] : List Int)⟩, ⟨8, [(63, .int .i64 (v0.2.2.2))], fun g => .slice (some ⟨g, 0, none⟩) 1 1, fun g => box g 3 [.int .i64 (v0.2.2.2)]⟩] mixed (by kernel_rfl) (by decide) (show List.Nodup [0, 8] by decide) ⟨rfl, rfl, rfl, rfl, rfl, trivial⟩ rfl (okCons (FreeA.Ok.of rfl (by decide) (by kernel_rfl) fun c fs os => g_lit0 Int dU ty3) (okCons (FreeA.Ok.of rfl (by decide) (by kernel_rfl) fun c fs os => e_lit (vs := [(0, .int .i64 (v0.2.2.2))]) [.int .i64 (v0.2.2.2)] dU ty3 rfl (by decide) (by decide) (by kernel_rfl)) okNil)) (w_p rfl (cB fa76_1 rfl rfl) ?_))))
  refine w_o rfl (fun F => (bI ty69 rfl (hs3.app F) rfl)) (w_p rfl (aE rfl) (gdo H fun h27 H => ?_))
  refine w_o (v := .slice (subA x_v0.2.1.1 x_v0.2.1.2 0 (Enc.sz Int)) (((v0.2.1.take v1.toNat).drop 0).length) (x_v0.2.1.2 - 0)) rfl (fun F => (q_slF (l := v0.2.1) (α := Int) 0 v1 dU ty3 rfl rfl (fun _ => rfl) rfl (fun h => nomatch h) h27 (aL aR.s.s.s))) (w_p rfl (cB fa76_3 rfl rfl) ?_)
  refine w_o rfl (fun F => (bI ty3 rfl (hs3.app F) rfl)) (w_p rfl (cB fa76_1 rfl rfl) ?_)
  refine w_o rfl (fun F => (bI ty69 rfl (hs3.app F) rfl)) (w_p rfl (aE rfl) (gdo H fun h28 H => (w_p rfl (bR rfl rfl h28) (gdo H fun h29 H => ?_))))
  refine w_o (v := .slice (subA x_v0.2.1.1 x_v0.2.1.2 (v1 + 2).toNat (Enc.sz Int)) (((v0.2.1.take (v0.2.1.length : Int).toNat).drop (v1 + 2).toNat).length) (x_v0.2.1.2 - (v1 + 2).toNat)) rfl (fun F => (q_slF (l := v0.2.1) (α := Int) (v1 + 2) (v0.2.1.length : Int) dU ty3 rfl rfl (fun h => nomatch h) rfl (fun _ => rfl) h29 (aL aR.s.s.s))) ?_
  refine w_fr (z := ⟨0, [], fun g => .slice (some ⟨g, 0, none⟩) ([] : List Int).length 0, fun g => tree (.slice (some ⟨g, 0, none⟩) ([] : List Int).length 0) ([] : List Int)⟩) (.head _) rfl rfl (by decide) (cP (.inl rfl) (cP (.inr (.inr ⟨rfl, trivial⟩)) cO)) trivial ?_; intro g30
  refine gdo H fun h33 H => (cJ rfl (by decide) rfl (cP (.inl rfl) (cP (.inr (.inr ⟨rfl, trivial⟩)) cO)) rfl (n_appF (l := ([] : List Int)) (k := ((v0.2.1.take v1.toNat).drop 0)) (α := Int) dU ty3 rfl rfl (h33.b (by decide)) h33.x (.cons aA .nil) (aL (Ent.sub aR.s.s.s h27.le h27.lt))) ?_)
  rintro _ _ _ ⟨a31, c32, rfl, rfl, rfl⟩
  refine ⟨(bV rfl rfl (fun F => (q_slF (l := v0.2.1) (α := Int) (v1 + 2) (v0.2.1.length : Int) dU ty3 rfl rfl (fun h => nomatch h) rfl (fun _ => rfl) h29 (aL aR.s.s.s))) (bV rfl rfl (fun F => (bI ty69 rfl (hs4.app F) rfl)) (bV rfl rfl (fun F => (bI ty3 rfl (hs4.app F) rfl)) (aM (by kernel_rfl) (aM (by kernel_rfl) bU))))), ?_⟩
  refine w_fr (z := ⟨8, [(63, .int .i64 (v0.2.2.2))], fun g => .slice (some ⟨g, 0, none⟩) 1 1, fun g => box g 3 [.int .i64 (v0.2.2.2)]⟩) (.tail _ (.head _)) rfl rfl (by decide) (cP (.inl rfl) (cP (.inl rfl) cO)) ⟨rfl, trivial⟩ ?_; intro g34
  refine gdo H fun h37 H => (cJ rfl (by decide) rfl (cP (.inl rfl) (cP (.inl rfl) cO)) rfl (n_app1 (l := (([] : List Int) ++ ((v0.2.1.take v1.toNat).drop 0))) (α := Int) v0.2.2.2 () dU ty3 rfl rfl (h37.b (by decide)) h37.x rfl (cW _) (.cons dl1 (.cons aA .nil))) ?_)
  rintro _ _ _ ⟨a35, c36, rfl, rfl, rfl⟩
  refine ⟨(bV rfl rfl (fun F => (q_slF (l := v0.2.1) (α := Int) (v1 + 2) (v0.2.1.length : Int) dU ty3 rfl rfl (fun h => nomatch h) rfl (fun _ => rfl) h29 (aL aR.s.s.s))) (bV rfl rfl (fun F => (bI ty69 rfl (hs4.app F) rfl)) (aM (by kernel_rfl) (aM (by kernel_rfl) (aM (by kernel_rfl) bU))))), ?_⟩
  refine gdo H fun h40 H => (cJ rfl (by decide) rfl (cP (.inl rfl) (cP (.inl rfl) cO)) rfl (n_appF (l := ((([] : List Int) ++ ((v0.2.1.take v1.toNat).drop 0)) ++ [v0.2.2.2])) (k := ((v0.2.1.take (v0.2.1.length : Int).toNat).drop (v1 + 2).toNat)) (α := Int) dU ty3 rfl rfl (h40.b (by decide)) h40.x (.cons aA .nil) (aL (Ent.sub aR.s.s.s h29.le h29.lt))) ?_)
  rintro _ _ _ ⟨a38, c39, rfl, rfl, rfl⟩
  refine ⟨(aM (by kernel_rfl) (aM (by kernel_rfl) (aM (by kernel_rfl) (aM (by kernel_rfl) (bV rfl rfl (fun F => (bI ty69 rfl (hs4.app F) rfl)) bU))))), ?_⟩
  refine w_p rfl (p_assign rfl) (cL (nT (aD (Tr.nilT Int (Tr.nilT (List Tag) (Tr.nilT Int (Tr.nilT (List Row) (Tr.nilT Int (Tr.nilT (List Row) (Tr.nilT Int ?_))))))))))
  refine Tr.nilT (List Tag) (Tr.nilT Int (Tr.nilT (List Row) (Tr.nilT Int (Tr.nilT (List Tag) (dF [(8, .slice a38 ((((([] : List Int) ++ ((v0.2.1.take v1.toNat).drop 0)) ++ [v0.2.2.2]) ++ ((v0.2.1.take (v0.2.1.length : Int).toNat).drop (v1 + 2).toNat)).length) c39), (7, .pointer (some ⟨g26, 0, none⟩)), (6, .int .i64 (nth v0.2.1 ((v1 + 1).toNat))), (5, .int .i64 (nth v0.2.1 v1.toNat)), (2, .pointer (some ⟨g3, 0, none⟩))] 2 [0, 1, 2, 3, 4, 5, 6, 9, 10, 11, 12, 7, 8, 13, 14] [7, 13] [] mixed (by kernel_rfl) (by decide) dH ⟨rfl, rfl, rfl, rfl, rfl, trivial⟩ rfl okNil (w_p rfl (cB fa76_3 rfl rfl) ?_))))))
  refine w_o rfl (fun F => (bI ty3 rfl ((hs5t (hs5t (hs5t hs1))).app F) rfl)) ?_
  refine w_o rfl (fun F => (bJ ty72 rfl ((hs5t (hs5t hs3)).app F) rfl)) (w_p (v := .agg #[.int .i64 (1), .int .i64 (v0.2.2.2), .slice x25.1.1 r23.1.length x25.1.2, .slice x25.2.1 r23.2.length x25.2.2, .slice none 0 0, .slice none 0 0]) rfl (p_buildS (vs := [(0, .int .i64 (1)), (1, .int .i64 (v0.2.2.2)), (2, .agg #[.slice x25.1.1 r23.1.length x25.1.2, .slice x25.2.1 r23.2.length x25.2.2])]) (cs := #[.int .i64 (1), .int .i64 (v0.2.2.2), .slice x25.1.1 r23.1.length x25.1.2, .slice x25.2.1 r23.2.length x25.2.2, .slice none 0 0, .slice none 0 0]) ty260 pl260 rfl (by kernel_rfl)) (w_p rfl (aE rfl) (w_p rfl (cB fa76_2 rfl rfl) ?_)))
  refine w_o rfl (fun F => (bI ty35 rfl ((hs5t (hs5t (hs5t hs1))).app F) rfl)) (w_p rfl (aE rfl) (w_p (v := .agg #[.int .i64 (3), .int .i64 (nth v0.2.1 v1.toNat), .slice none 0 0, .slice none 0 0, .slice none 0 0, .slice none 0 0]) rfl (p_buildS (vs := [(0, .int .i64 (3)), (1, .int .i64 (nth v0.2.1 v1.toNat))]) (cs := #[.int .i64 (3), .int .i64 (nth v0.2.1 v1.toNat), .slice none 0 0, .slice none 0 0, .slice none 0 0, .slice none 0 0]) ty260 pl260 rfl (by kernel_rfl)) (w_p rfl (aE rfl) (w_p (v := .agg #[.int .i64 (3), .int .i64 (nth v0.2.1 ((v1 + 1).toNat)), .slice none 0 0, .slice none 0 0, .slice none 0 0, .slice none 0 0]) rfl (p_buildS (vs := [(0, .int .i64 (3)), (1, .int .i64 (nth v0.2.1 ((v1 + 1).toNat)))]) (cs := #[.int .i64 (3), .int .i64 (nth v0.2.1 ((v1 + 1).toNat)), .slice none 0 0, .slice none 0 0, .slice none 0 0, .slice none 0 0]) ty260 pl260 rfl (by kernel_rfl)) (bdo H fun r41 h42 H => (cJ rfl (by decide) rfl cO rfl (cE (c_spec_l11Names v0.2.2.1 x_v0.2.2.1 h42) (fun _ => (bF bG)) rfl (aC (aL (aS aR)) aO)) ?_))))))
  rintro _ _ _ ⟨x43, rfl, rfl, rfl⟩
  refine ⟨(aM (by kernel_rfl) (bV rfl rfl (fun F => (bJ ty72 rfl ((hs5t (hs5t hs4)).app F) rfl)) (bV rfl rfl (fun F => (bI ty3 rfl ((hs5t (hs5t (hs5t hs2))).app F) rfl)) bU))), ?_⟩
  refine w_p (v := .agg #[.int .i64 (2), .int .i64 (0), .slice none 0 0, .slice none 0 0, .slice a38 ((((([] : List Int) ++ ((v0.2.1.take v1.toNat).drop 0)) ++ [v0.2.2.2]) ++ ((v0.2.1.take (v0.2.1.length : Int).toNat).drop (v1 + 2).toNat)).length) c39, .slice x43.1 r41.length x43.2]) rfl (p_buildS (vs := [(0, .int .i64 (2)), (3, .slice a38 ((((([] : List Int) ++ ((v0.2.1.take v1.toNat).drop 0)) ++ [v0.2.2.2]) ++ ((v0.2.1.take (v0.2.1.length : Int).toNat).drop (v1 + 2).toNat)).length) c39), (4, .slice x43.1 r41.length x43.2)]) (cs := #[.int .i64 (2), .int .i64 (0), .slice none 0 0, .slice none 0 0, .slice a38 ((((([] : List Int) ++ ((v0.2.1.take v1.toNat).drop 0)) ++ [v0.2.2.2]) ++ ((v0.2.1.take (v0.2.1.length : Int).toNat).drop (v1 + 2).toNat)).length) c39, .slice x43.1 r41.length x43.2]) ty260 pl260 rfl (by kernel_rfl)) (cJ rfl (by decide) rfl cO rfl (n_litO (α := Step) (vs := [(0, .agg #[.int .i64 (1), .int .i64 (v0.2.2.2), .slice x25.1.1 r23.1.length x25.1.2, .slice x25.2.1 r23.2.length x25.2.2, .slice none 0 0, .slice none 0 0]), (1, .agg #[.int .i64 (2), .int .i64 (0), .slice none 0 0, .slice none 0 0, .slice a38 ((((([] : List Int) ++ ((v0.2.1.take v1.toNat).drop 0)) ++ [v0.2.2.2]) ++ ((v0.2.1.take (v0.2.1.length : Int).toNat).drop (v1 + 2).toNat)).length) c39, .slice x43.1 r41.length x43.2]), (2, .agg #[.int .i64 (3), .int .i64 (nth v0.2.1 v1.toNat), .slice none 0 0, .slice none 0 0, .slice none 0 0, .slice none 0 0]), (3, .agg #[.int .i64 (3), .int .i64 (nth v0.2.1 ((v1 + 1).toNat)), .slice none 0 0, .slice none 0 0, .slice none 0 0, .slice none 0 0])]) ([(1, v0.2.2.2, r23, ([]), ([])), (2, 0, (([]), ([])), (((([] : List Int) ++ ((v0.2.1.take v1.toNat).drop 0)) ++ [v0.2.2.2]) ++ ((v0.2.1.take (v0.2.1.length : Int).toNat).drop (v1 + 2).toNat)), r41), (3, (nth v0.2.1 v1.toNat), (([]), ([])), ([]), ([])), (3, (nth v0.2.1 ((v1 + 1).toNat)), (([]), ([])), ([]), ([]))] : List Step) [((1, v0.2.2.2, r23, ([]), ([])), ((), (), x25, (none, 0), (none, 0))), ((2, 0, (([]), ([])), (((([] : List Int) ++ ((v0.2.1.take v1.toNat).drop 0)) ++ [v0.2.2.2]) ++ ((v0.2.1.take (v0.2.1.length : Int).toNat).drop (v1 + 2).toNat)), r41), ((), (), ((none, 0), (none, 0)), (a38, c39), x43)), ((3, (nth v0.2.1 v1.toNat), (([]), ([])), ([]), ([])), ((), (), ((none, 0), (none, 0)), (none, 0), (none, 0))), ((3, (nth v0.2.1 ((v1 + 1).toNat)), (([]), ([])), ([]), ([])), ((), (), ((none, 0), (none, 0)), (none, 0), (none, 0)))] rfl rfl dK ty260 rfl (by decide) (by decide) (by kernel_rfl) (.cons (dl5t (dl5t dl5)) (.cons (dl5t (dl5t dl5)) (.cons dl2 (.cons dl1 (.cons dl2 (.cons dl1 (.cons (dl5t dl4) (.cons aA (.cons dl1 (.cons dl1 (.cons dl1 (.cons aA (.cons dl1 (.cons aA (.cons dl1 (.cons aA .nil))))))))))))))))) ?_)
  rintro _ _ _ ⟨a44, c45, rfl, rfl, rfl⟩
  refine ⟨(bV rfl rfl (fun F => (bI ty35 rfl (hs2.app F) rfl)) (aM (by kernel_rfl) (aM (by kernel_rfl) bU))), ?_⟩
  refine w_p rfl (p_assign rfl) (cL (nT (Tr.freeze (.cons aA .nil) (bQ ?_))))
  obtain rfl := si H
  exact back1 (a44, c45) rfl (ResV.tmp (v := .slice a44 (([(1, v0.2.2.2, r23, ([]), ([])), (2, 0, (([]), ([])), (((([] : List Int) ++ ((v0.2.1.take v1.toNat).drop 0)) ++ [v0.2.2.2]) ++ ((v0.2.1.take (v0.2.1.length : Int).toNat).drop (v1 + 2).toNat)), r41), (3, (nth v0.2.1 v1.toNat), (([]), ([])), ([]), ([])), (3, (nth v0.2.1 ((v1 + 1).toNat)), (([]), ([])), ([]), ([]))] : List Step).length) c45) rfl) rfl (cM aR cN) bK
noncomputable def p_spec_l22Do (v0 : World) (v1 : Event) : Option (World) := cond (decide (v1.1 = 1)) (bd (p_spec_NameOk v1.2.2.2.1) fun r10 => cond (r10) (bd (p_spec_l13Add v0.1 v1.2.2.2.1 v1.2.2.2.2) fun r13 => some (r13.1, v0.2)) (some v0)) (cond (decide (v1.1 = 2)) (bd (p_spec_l13Flush v0.1) fun r18 => bd (p_spec_l21Flush v0.2 v0.1) fun r22 => bd (p_spec_l22Steps v0 r22 v1.2.2.1 r18.1) fun r25 => some r25) (cond (decide (v1.1 = 3)) (bd (p_spec_l13Merge v0.1 v1.2.1) fun r29 => bd (p_spec_l21Merge v0.2 v1.2.1) fun r33 => bd (p_spec_l22Steps v0 r33 v1.2.2.1 r29.1) fun r36 => some r36) (cond (decide (v1.1 = 4)) (bd (p_spec_l22Fall v0) fun r40 => some r40) (some v0))))
theorem c_spec_l22Do {r : World} (v0 : World) (x_v0 : (((Option Addr × Nat) × (Option Addr × Nat)) × (Option Addr × Nat) × (Option Addr × Nat)) × ((Option Addr × Nat) × (Option Addr × Nat) × (Option Addr × Nat) × Unit)) (v1 : Event) (x_v1 : Unit × Unit × Unit × (Option Addr × Nat) × (Unit × Unit)) (H : p_spec_l22Do v0 v1 = some r) : Fn' prog 170 #[.agg #[.slice x_v0.1.1.1.1 v0.1.1.1.length x_v0.1.1.1.2, .slice x_v0.1.1.2.1 v0.1.1.2.length x_v0.1.1.2.2, .slice x_v0.1.2.1.1 v0.1.2.1.length x_v0.1.2.1.2, .slice x_v0.1.2.2.1 v0.1.2.2.length x_v0.1.2.2.2, .slice x_v0.2.1.1 v0.2.1.length x_v0.2.1.2, .slice x_v0.2.2.1.1 v0.2.2.1.length x_v0.2.2.1.2, .slice x_v0.2.2.2.1.1 v0.2.2.2.1.length x_v0.2.2.2.1.2, .int .i64 (v0.2.2.2.2)], .agg #[.int .i64 (v1.1), .int .i64 (v1.2.1), .int .i64 (v1.2.2.1), .slice x_v1.2.2.2.1.1 v1.2.2.2.1.length x_v1.2.2.2.1.2, .int .i64 (v1.2.2.2.2.1), .int .i64 (v1.2.2.2.2.2)]] [imm (.slice x_v0.1.1.1.1 v0.1.1.1.length x_v0.1.1.1.2) v0.1.1.1, imm (.slice x_v0.1.1.2.1 v0.1.1.2.length x_v0.1.1.2.2) v0.1.1.2, imm (.slice x_v0.1.2.1.1 v0.1.2.1.length x_v0.1.2.1.2) v0.1.2.1, imm (.slice x_v0.1.2.2.1 v0.1.2.2.length x_v0.1.2.2.2) v0.1.2.2, imm (.slice x_v0.2.1.1 v0.2.1.length x_v0.2.1.2) v0.2.1, imm (.slice x_v0.2.2.1.1 v0.2.2.1.length x_v0.2.2.1.2) v0.2.2.1, imm (.slice x_v0.2.2.2.1.1 v0.2.2.2.1.length x_v0.2.2.2.1.2) v0.2.2.2.1, imm (.slice x_v1.2.2.2.1.1 v1.2.2.2.1.length x_v1.2.2.2.1.2) v1.2.2.2.1] [] (ι := (((Option Addr × Nat) × (Option Addr × Nat)) × (Option Addr × Nat) × (Option Addr × Nat)) × ((Option Addr × Nat) × (Option Addr × Nat) × (Option Addr × Nat) × Unit)) (fun x => .agg #[.slice x.1.1.1.1 r.1.1.1.length x.1.1.1.2, .slice x.1.1.2.1 r.1.1.2.length x.1.1.2.2, .slice x.1.2.1.1 r.1.2.1.length x.1.2.1.2, .slice x.1.2.2.1 r.1.2.2.length x.1.2.2.2, .slice x.2.1.1 r.2.1.length x.2.1.2, .slice x.2.2.1.1 r.2.2.1.length x.2.2.1.2, .slice x.2.2.2.1.1 r.2.2.2.1.length x.2.2.2.1.2, .int .i64 (r.2.2.2.2)]) (fun x => [imm (.slice x.1.1.1.1 r.1.1.1.length x.1.1.1.2) r.1.1.1, imm (.slice x.1.1.2.1 r.1.1.2.length x.1.1.2.2) r.1.1.2, imm (.slice x.1.2.1.1 r.1.2.1.length x.1.2.1.2) r.1.2.1, imm (.slice x.1.2.2.1 r.1.2.2.length x.1.2.2.2) r.1.2.2, imm (.slice x.2.1.1 r.2.1.length x.2.1.2) r.2.1, imm (.slice x.2.2.1.1 r.2.2.1.length x.2.2.1.2) r.2.2.1, imm (.slice x.2.2.2.1.1 r.2.2.2.1.length x.2.2.2.1.2) r.2.2.2.1]) (fun _ => []) := by
 refine cof (args := [_, _]) func170 ntmps170 fun c => ?_
 unfold p_spec_l22Do at H
 refine bM aR fun X1 => (bM aR.s.s fun X2 => (bM aR.s.s.s.s fun X3 => (bM aR.s.s.s.s.s.s.s fun X4 => (bM aR.s.s.s.s.s.s.s.s.s.s fun X5 => (sr (f1 (cC (t := 121) rfl) fun g6 => (f1 (cC (t := 218) rfl) fun g7 => (f1 (cD ty121) fun g8 => (nl ?_)))))))))
 refine aD (sr (aG (cB fa218_0 rfl rfl) (aI (bI ty3 rfl hs1 rfl) (nl (aQ (sr (aG (cT rfl rfl) (aH rfl (nl (cH H rfl (fun h9 H => ?_) (fun h9 H => ?_)))))))))))
 ·refine sr (aG (cB fa218_3 rfl rfl) (aI (bI ty105 rfl hs1 rfl) (bdo H fun r10 h11 H => (aI (bN (c_spec_NameOk v1.2.2.2.1 x_v1.2.2.2.1 h11) rfl (aC (aL aR.s.s.s.s.s.s.s.s.s.s.s.s) aO)) (nl (cH H rfl (fun h12 H => ?_) (fun h12 H => ?_)))))))
  ·refine sr (aG (cB fa121_0 rfl rfl) (aI (v := .agg #[.slice x_v0.1.1.1.1 v0.1.1.1.length x_v0.1.1.1.2, .slice x_v0.1.1.2.1 v0.1.1.2.length x_v0.1.1.2.2, .slice x_v0.1.2.1.1 v0.1.2.1.length x_v0.1.2.1.2, .slice x_v0.1.2.2.1 v0.1.2.2.length x_v0.1.2.2.2]) (q_ldbP [.slice x_v0.1.1.1.1 v0.1.1.1.length x_v0.1.1.1.2, .slice x_v0.1.1.2.1 v0.1.1.2.length x_v0.1.1.2.2, .slice x_v0.1.2.1.1 v0.1.2.1.length x_v0.1.2.1.2, .slice x_v0.1.2.2.1 v0.1.2.2.length x_v0.1.2.2.2] ty42 rfl hs2 rfl rfl) (aG (cB fa218_3 rfl rfl) (aI (bI ty105 rfl hs1 rfl) (aG (cB fa218_4 rfl rfl) (aI (v := .agg #[.int .i64 (v1.2.2.2.2.1), .int .i64 (v1.2.2.2.2.2)]) (q_ldbP [.int .i64 (v1.2.2.2.2.1), .int .i64 (v1.2.2.2.2.2)] ty57 rfl hs1 rfl rfl) (bdo H fun r13 h14 H => (f1 (e_call (c_spec_l13Add v0.1 x_v0.1 v1.2.2.2.1 x_v1.2.2.2.1 v1.2.2.2.2 h14) rfl (cM (aS aR.s.s.s.s) (cM (aS aR.s.s.s) (cM (aS aR.s.s) (cM aR.s.s.s.s.s.s.s.s (cM aR.s.s.s.s.s.s.s.s.s.s.s.s cN))))) bK) fun x15 => (aF rfl ?_)))))))))
   refine aG (cY rfl rfl) (aG (cY rfl rfl) (f1 (cD ty42) fun g16 => (stb (cs' := [.slice x15.1.1.1.1 r13.1.1.1.length x15.1.1.1.2, .slice x15.1.1.2.1 r13.1.1.2.length x15.1.1.2.2, .slice x15.1.2.1.1 r13.1.2.1.length x15.1.2.1.2, .slice x15.1.2.2.1 r13.1.2.2.length x15.1.2.2.2]) ty42 cX (aH rfl (nl (aP (aI (bJ ty42 rfl aB rfl) (aG (cB fa121_0 rfl rfl) (stb (cs' := [.slice x15.1.1.1.1 r13.1.1.1.length x15.1.1.1.2, .slice x15.1.1.2.1 r13.1.1.2.length x15.1.1.2.2, .slice x15.1.2.1.1 r13.1.2.1.length x15.1.2.1.2, .slice x15.1.2.2.1 r13.1.2.2.length x15.1.2.2.2, .slice x_v0.2.1.1 v0.2.1.length x_v0.2.1.2, .slice x_v0.2.2.1.1 v0.2.2.1.length x_v0.2.2.1.2, .slice x_v0.2.2.2.1.1 v0.2.2.2.1.length x_v0.2.2.2.1.2, .int .i64 (v0.2.2.2.2)]) ty42 up3 (aJ ?_))))))))))
   refine nB (nT (sr (aI (bJ ty121 rfl hs3 rfl) (stb (cs' := [.slice x15.1.1.1.1 r13.1.1.1.length x15.1.1.1.2, .slice x15.1.1.2.1 r13.1.1.2.length x15.1.1.2.2, .slice x15.1.2.1.1 r13.1.2.1.length x15.1.2.1.2, .slice x15.1.2.2.1 r13.1.2.2.length x15.1.2.2.2, .slice x_v0.2.1.1 v0.2.1.length x_v0.2.1.2, .slice x_v0.2.2.1.1 v0.2.2.1.length x_v0.2.2.1.2, .slice x_v0.2.2.2.1.1 v0.2.2.2.1.length x_v0.2.2.2.1.2, .int .i64 (v0.2.2.2.2)]) ty121 up1 (nl (bQ ?_))))))
   obtain rfl := si H
   exact back1 (x15.1, (x_v0.2.1, x_v0.2.2.1, x_v0.2.2.2.1, ())) rfl (ResV.agg ty121 rfl hs1 rfl) rfl (cM aR (cM aR.s (cM aR.s.s (cM aR.s.s.s (cM (aS aR.s.s.s.s.s) (cM aR.s.s.s.s.s.s.s.s.s.s.s.s.s.s (cM (aS aR.s.s.s.s) cN))))))) bK
  ·refine bH (nB (nT (sr (aI (bJ ty121 rfl hs2 rfl) (stb (cs' := [.slice x_v0.1.1.1.1 v0.1.1.1.length x_v0.1.1.1.2, .slice x_v0.1.1.2.1 v0.1.1.2.length x_v0.1.1.2.2, .slice x_v0.1.2.1.1 v0.1.2.1.length x_v0.1.2.1.2, .slice x_v0.1.2.2.1 v0.1.2.2.length x_v0.1.2.2.2, .slice x_v0.2.1.1 v0.2.1.length x_v0.2.1.2, .slice x_v0.2.2.1.1 v0.2.2.1.length x_v0.2.2.1.2, .slice x_v0.2.2.2.1.1 v0.2.2.2.1.length x_v0.2.2.2.1.2, .int .i64 (v0.2.2.2.2)]) ty121 cX (nl (bQ ?_)))))))
   obtain rfl := si H
   exact back1 (x_v0.1, (x_v0.2.1, x_v0.2.2.1, x_v0.2.2.2.1, ())) rfl (ResV.agg ty121 rfl aB rfl) rfl (cM (aS aR.s.s.s.s) (cM (aS aR.s.s.s) (cM (aS aR.s.s) (cM aR.s.s.s.s.s.s.s.s (cM (aS aR.s) (cM aR.s.s.s.s.s.s.s.s.s.s (cM (aS aR) cN))))))) bK
 ·refine sr (aG (cT rfl rfl) (aH rfl (nl (cH H rfl (fun h17 H => ?_) (fun h17 H => ?_)))))
  ·refine sr (aG (cB fa121_0 rfl rfl) (aI (v := .agg #[.slice x_v0.1.1.1.1 v0.1.1.1.length x_v0.1.1.1.2, .slice x_v0.1.1.2.1 v0.1.1.2.length x_v0.1.1.2.2, .slice x_v0.1.2.1.1 v0.1.2.1.length x_v0.1.2.1.2, .slice x_v0.1.2.2.1 v0.1.2.2.length x_v0.1.2.2.2]) (q_ldbP [.slice x_v0.1.1.1.1 v0.1.1.1.length x_v0.1.1.1.2, .slice x_v0.1.1.2.1 v0.1.1.2.length x_v0.1.1.2.2, .slice x_v0.1.2.1.1 v0.1.2.1.length x_v0.1.2.1.2, .slice x_v0.1.2.2.1 v0.1.2.2.length x_v0.1.2.2.2] ty42 rfl hs2 rfl rfl) (bdo H fun r18 h19 H => (f1 (e_call (c_spec_l13Flush v0.1 x_v0.1 h19) rfl (cM (aS aR.s.s.s.s) (cM (aS aR.s.s.s) (cM (aS aR.s.s) (cM aR.s.s.s.s.s.s.s.s cN)))) bK) fun x20 => (aF rfl (aG (cY rfl rfl) (aG (cY rfl rfl) (f1 (cD ty42) fun g21 => (stb (cs' := [.slice x20.1.1.1.1 r18.1.1.1.length x20.1.1.1.2, .slice x20.1.1.2.1 r18.1.1.2.length x20.1.1.2.2, .slice x20.1.2.1.1 r18.1.2.1.length x20.1.2.1.2, .slice x20.1.2.2.1 r18.1.2.2.length x20.1.2.2.2]) ty42 cX ?_)))))))))
   refine aH rfl (nl (aD (dF [(7, .pointer (some ⟨g21, 0, none⟩)), (4, .pointer (some ⟨g8, 0, none⟩)), (3, .pointer (some ⟨g7, 0, none⟩)), (2, .pointer (some ⟨g6, 0, none⟩))] 1 [0, 1, 2, 3, 4, 6, 7, 8, 5, 9, 10] [5, 9, 10] [] mixed (by kernel_rfl) (by decide) dH ⟨rfl, rfl, rfl, rfl, trivial⟩ rfl okNil ?_)))
   refine w_o rfl (fun F => (bJ ty121 rfl (hs3.app F) rfl)) (w_p rfl (cB fa121_1 rfl rfl) ?_)
   refine w_o (v := .agg #[.slice x_v0.2.1.1 v0.2.1.length x_v0.2.1.2, .slice x_v0.2.2.1.1 v0.2.2.1.length x_v0.2.2.1.2, .slice x_v0.2.2.2.1.1 v0.2.2.2.1.length x_v0.2.2.2.1.2, .int .i64 (v0.2.2.2.2)]) rfl (fun F => (q_ldbP [.slice x_v0.2.1.1 v0.2.1.length x_v0.2.1.2, .slice x_v0.2.2.1.1 v0.2.2.1.length x_v0.2.2.1.2, .slice x_v0.2.2.2.1.1 v0.2.2.2.1.length x_v0.2.2.2.1.2, .int .i64 (v0.2.2.2.2)] ty76 rfl (hs3.app F) rfl rfl)) (w_p rfl (cB fa121_0 rfl rfl) ?_)
   refine w_o (v := .agg #[.slice x_v0.1.1.1.1 v0.1.1.1.length x_v0.1.1.1.2, .slice x_v0.1.1.2.1 v0.1.1.2.length x_v0.1.1.2.2, .slice x_v0.1.2.1.1 v0.1.2.1.length x_v0.1.2.1.2, .slice x_v0.1.2.2.1 v0.1.2.2.length x_v0.1.2.2.2]) rfl (fun F => (q_ldbP [.slice x_v0.1.1.1.1 v0.1.1.1.length x_v0.1.1.1.2, .slice x_v0.1.1.2.1 v0.1.1.2.length x_v0.1.1.2.2, .slice x_v0.1.2.1.1 v0.1.2.1.length x_v0.1.2.1.2, .slice x_v0.1.2.2.1 v0.1.2.2.length x_v0.1.2.2.2] ty42 rfl (hs3.app F) rfl rfl)) (w_p rfl (cB fa218_2 rfl rfl) ?_)
   refine w_o rfl (fun F => (bI ty3 rfl (hs2.app F) rfl)) ?_
   refine w_o rfl (fun F => (bJ ty42 rfl (aB.app F) rfl)) (bdo H fun r22 h23 H => (cJ rfl (by decide) rfl cO rfl (n_call (c_spec_l21Flush v0.2 (x_v0.2.1, x_v0.2.2.1, x_v0.2.2.2.1, ()) v0.1 x_v0.1 h23) rfl (cM (aS aR.s.s.s.s.s) (cM aR.s.s.s.s.s.s.s.s.s.s.s.s.s.s (cM (aS aR.s.s.s.s) (cM (aS aR.s.s.s.s.s.s.s.s) (cM (aS aR.s.s.s.s.s.s.s) (cM (aS aR.s.s.s.s.s.s) (cM aR.s.s.s.s.s.s.s.s.s.s.s.s cN))))))) bK) ?_))
   rintro _ _ _ ⟨x24, rfl, rfl, rfl⟩
   refine ⟨(bV rfl rfl (fun F => (bJ ty42 rfl (aB.app F) rfl)) (bV rfl rfl (fun F => (bI ty3 rfl (hs2.app F) rfl)) (aM (by kernel_rfl) (aM (by kernel_rfl) (bV rfl rfl (fun F => (bJ ty121 rfl (hs3.app F) rfl)) bU))))), ?_⟩
   refine bdo H fun r25 h26 H => (cJ rfl (by decide) rfl cO rfl (n_call (c_spec_l22Steps v0 (x_v0.1, (x_v0.2.1, x_v0.2.2.1, x_v0.2.2.2.1, ())) r22 x24 v1.2.2.1 r18.1 x20.1 h26) rfl (cM (aS aR.s.s.s.s.s.s.s.s.s) (cM (aS aR.s.s.s.s.s.s.s.s) (cM (aS aR.s.s.s.s.s.s.s) (cM aR.s.s.s.s.s.s.s.s.s.s.s.s.s (cM (aS aR.s.s.s.s.s.s) (cM aR.s.s.s.s.s.s.s.s.s.s.s.s.s.s.s (cM (aS aR.s.s.s.s.s) (cM aR (cM aR.s (cM aR.s.s (cM aR.s.s.s (cM aR.s.s.s.s cN)))))))))))) bK) ?_)
   rintro _ _ _ ⟨x27, rfl, rfl, rfl⟩
   refine ⟨(aM (by kernel_rfl) (aM (by kernel_rfl) (bV rfl rfl (fun F => (q_ldbP [.slice x_v0.1.1.1.1 v0.1.1.1.length x_v0.1.1.1.2, .slice x_v0.1.1.2.1 v0.1.1.2.length x_v0.1.1.2.2, .slice x_v0.1.2.1.1 v0.1.2.1.length x_v0.1.2.1.2, .slice x_v0.1.2.2.1 v0.1.2.2.length x_v0.1.2.2.2] ty42 rfl (hs3.app F) rfl rfl)) (bV rfl rfl (fun F => (q_ldbP [.slice x_v0.2.1.1 v0.2.1.length x_v0.2.1.2, .slice x_v0.2.2.1.1 v0.2.2.1.length x_v0.2.2.1.2, .slice x_v0.2.2.2.1.1 v0.2.2.2.1.length x_v0.2.2.2.1.2, .int .i64 (v0.2.2.2.2)] ty76 rfl (hs3.app F) rfl rfl)) (aM (by kernel_rfl) bU))))), ?_⟩
   refine cK rfl rfl cO rfl (n_store (cs' := [.slice x27.1.1.1.1 r25.1.1.1.length x27.1.1.1.2, .slice x27.1.1.2.1 r25.1.1.2.length x27.1.1.2.2, .slice x27.1.2.1.1 r25.1.2.1.length x27.1.2.1.2, .slice x27.1.2.2.1 r25.1.2.2.length x27.1.2.2.2, .slice x27.2.1.1 r25.2.1.length x27.2.1.2, .slice x27.2.2.1.1 r25.2.2.1.length x27.2.2.1.2, .slice x27.2.2.2.1.1 r25.2.2.2.1.length x27.2.2.2.1.2, .int .i64 (r25.2.2.2.2)]) ty121 rfl rfl up1 rfl (one_of rfl) (Nat.le_of_ble_eq_true rfl) rfl) ?_
   rintro _ _ _ ⟨rfl, rfl, rfl⟩
   refine ⟨(aM (by kernel_rfl) (aM (by kernel_rfl) (aM (by kernel_rfl) (aM (by kernel_rfl) (aM (by kernel_rfl) bU))))), ?_⟩
   refine cL (nT (bQ (rB (rT (?_)))))
   obtain rfl := si H
   exact back1 (x27.1, (x27.2.1, x27.2.2.1, x27.2.2.2.1, ())) rfl (ResV.agg ty121 rfl hs1 rfl) rfl (cM aR (cM aR.s (cM aR.s.s (cM aR.s.s.s (cM aR.s.s.s.s (cM aR.s.s.s.s.s (cM aR.s.s.s.s.s.s cN))))))) bK
  ·refine sr (aG (cT rfl rfl) (aH rfl (nl (cH H rfl (fun h28 H => ?_) (fun h28 H => ?_)))))
   ·refine sr (aG (cB fa121_0 rfl rfl) (aI (v := .agg #[.slice x_v0.1.1.1.1 v0.1.1.1.length x_v0.1.1.1.2, .slice x_v0.1.1.2.1 v0.1.1.2.length x_v0.1.1.2.2, .slice x_v0.1.2.1.1 v0.1.2.1.length x_v0.1.2.1.2, .slice x_v0.1.2.2.1 v0.1.2.2.length x_v0.1.2.2.2]) (q_ldbP [.slice x_v0.1.1.1.1 v0.1.1.1.length x_v0.1.1.1.2, .slice x_v0.1.1.2.1 v0.1.1.2.length x_v0.1.1.2.2, .slice x_v0.1.2.1.1 v0.1.2.1.length x_v0.1.2.1.2, .slice x_v0.1.2.2.1 v0.1.2.2.length x_v0.1.2.2.2] ty42 rfl hs2 rfl rfl) (aG (cB fa218_1 rfl rfl) (aI (bI ty3 rfl hs1 rfl) (bdo H fun r29 h30 H => (f1 (e_call (c_spec_l13Merge v0.1 x_v0.1 v1.2.1 h30) rfl (cM (aS aR.s.s.s.s) (cM (aS aR.s.s.s) (cM (aS aR.s.s) (cM aR.s.s.s.s.s.s.s.s cN)))) bK) fun x31 => (aF rfl (aG (cY rfl rfl) (aG (cY rfl rfl) ?_)))))))))
    refine f1 (cD ty42) fun g32 => (stb (cs' := [.slice x31.1.1.1.1 r29.1.1.1.length x31.1.1.1.2, .slice x31.1.1.2.1 r29.1.1.2.length x31.1.1.2.2, .slice x31.1.2.1.1 r29.1.2.1.length x31.1.2.1.2, .slice x31.1.2.2.1 r29.1.2.2.length x31.1.2.2.2]) ty42 cX (aH rfl (nl (aD (dF [(9, .pointer (some ⟨g32, 0, none⟩)), (4, .pointer (some ⟨g8, 0, none⟩)), (3, .pointer (some ⟨g7, 0, none⟩)), (2, .pointer (some ⟨g6, 0, none⟩))] 1 [0, 1, 2, 3, 4, 6, 7, 8, 5, 9, 10] [5, 9, 10] [] mixed (by kernel_rfl) (by decide) dH ⟨rfl, rfl, rfl, rfl, trivial⟩ rfl okNil ?_)))))
    refine w_o rfl (fun F => (bJ ty121 rfl (hs3.app F) rfl)) (w_p rfl (cB fa121_1 rfl rfl) ?_)
    refine w_o (v := .agg #[.slice x_v0.2.1.1 v0.2.1.length x_v0.2.1.2, .slice x_v0.2.2.1.1 v0.2.2.1.length x_v0.2.2.1.2, .slice x_v0.2.2.2.1.1 v0.2.2.2.1.length x_v0.2.2.2.1.2, .int .i64 (v0.2.2.2.2)]) rfl (fun F => (q_ldbP [.slice x_v0.2.1.1 v0.2.1.length x_v0.2.1.2, .slice x_v0.2.2.1.1 v0.2.2.1.length x_v0.2.2.1.2, .slice x_v0.2.2.2.1.1 v0.2.2.2.1.length x_v0.2.2.2.1.2, .int .i64 (v0.2.2.2.2)] ty76 rfl (hs3.app F) rfl rfl)) (w_p rfl (cB fa218_1 rfl rfl) ?_)
    refine w_o rfl (fun F => (bI ty3 rfl (hs2.app F) rfl)) (w_p rfl (cB fa218_2 rfl rfl) ?_)
    refine w_o rfl (fun F => (bI ty3 rfl (hs2.app F) rfl)) ?_
    refine w_o rfl (fun F => (bJ ty42 rfl (aB.app F) rfl)) (bdo H fun r33 h34 H => (cJ rfl (by decide) rfl cO rfl (n_call (c_spec_l21Merge v0.2 (x_v0.2.1, x_v0.2.2.1, x_v0.2.2.2.1, ()) v1.2.1 h34) rfl (cM (aS aR.s.s.s.s.s) (cM aR.s.s.s.s.s.s.s.s.s.s.s.s.s.s (cM (aS aR.s.s.s.s) cN))) bK) ?_))
    rintro _ _ _ ⟨x35, rfl, rfl, rfl⟩
    refine ⟨(bV rfl rfl (fun F => (bJ ty42 rfl (aB.app F) rfl)) (bV rfl rfl (fun F => (bI ty3 rfl (hs2.app F) rfl)) (aM (by kernel_rfl) (aM (by kernel_rfl) (bV rfl rfl (fun F => (bJ ty121 rfl (hs3.app F) rfl)) bU))))), ?_⟩
    refine bdo H fun r36 h37 H => (cJ rfl (by decide) rfl cO rfl (n_call (c_spec_l22Steps v0 (x_v0.1, (x_v0.2.1, x_v0.2.2.1, x_v0.2.2.2.1, ())) r33 x35 v1.2.2.1 r29.1 x31.1 h37) rfl (cM (aS aR.s.s.s.s.s.s.s.s.s) (cM (aS aR.s.s.s.s.s.s.s.s) (cM (aS aR.s.s.s.s.s.s.s) (cM aR.s.s.s.s.s.s.s.s.s.s.s.s.s (cM (aS aR.s.s.s.s.s.s) (cM aR.s.s.s.s.s.s.s.s.s.s.s.s.s.s.s (cM (aS aR.s.s.s.s.s) (cM aR (cM aR.s (cM aR.s.s (cM aR.s.s.s (cM aR.s.s.s.s cN)))))))))))) bK) ?_)
    rintro _ _ _ ⟨x38, rfl, rfl, rfl⟩
    refine ⟨(aM (by kernel_rfl) (aM (by kernel_rfl) (bV rfl rfl (fun F => (bI ty3 rfl (hs2.app F) rfl)) (bV rfl rfl (fun F => (q_ldbP [.slice x_v0.2.1.1 v0.2.1.length x_v0.2.1.2, .slice x_v0.2.2.1.1 v0.2.2.1.length x_v0.2.2.1.2, .slice x_v0.2.2.2.1.1 v0.2.2.2.1.length x_v0.2.2.2.1.2, .int .i64 (v0.2.2.2.2)] ty76 rfl (hs3.app F) rfl rfl)) (aM (by kernel_rfl) bU))))), ?_⟩
    refine cK rfl rfl cO rfl (n_store (cs' := [.slice x38.1.1.1.1 r36.1.1.1.length x38.1.1.1.2, .slice x38.1.1.2.1 r36.1.1.2.length x38.1.1.2.2, .slice x38.1.2.1.1 r36.1.2.1.length x38.1.2.1.2, .slice x38.1.2.2.1 r36.1.2.2.length x38.1.2.2.2, .slice x38.2.1.1 r36.2.1.length x38.2.1.2, .slice x38.2.2.1.1 r36.2.2.1.length x38.2.2.1.2, .slice x38.2.2.2.1.1 r36.2.2.2.1.length x38.2.2.2.1.2, .int .i64 (r36.2.2.2.2)]) ty121 rfl rfl up1 rfl (one_of rfl) (Nat.le_of_ble_eq_true rfl) rfl) ?_
    rintro _ _ _ ⟨rfl, rfl, rfl⟩
    refine ⟨(aM (by kernel_rfl) (aM (by kernel_rfl) (aM (by kernel_rfl) (aM (by kernel_rfl) (aM (by kernel_rfl) bU))))), ?_⟩
    refine cL (nT (bQ (rB (rT (?_)))))
    obtain rfl := si H
    exact back1 (x38.1, (x38.2.1, x38.2.2.1, x38.2.2.2.1, ())) rfl (ResV.agg ty121 rfl hs1 rfl) rfl (cM aR (cM aR.s (cM aR.s.s (cM aR.s.s.s (cM aR.s.s.s.s (cM aR.s.s.s.s.s (cM aR.s.s.s.s.s.s cN))))))) bK
   ·refine sr (aG (cT rfl rfl) (aH rfl (nl (cH H rfl (fun h39 H => ?_) (fun h39 H => ?_)))))
    ·refine sr (aI (bJ ty121 rfl hs2 rfl) (bdo H fun r40 h41 H => (f1 (e_call (c_spec_l22Fall v0 (x_v0.1, (x_v0.2.1, x_v0.2.2.1, x_v0.2.2.2.1, ())) h41) rfl (cM (aS aR.s.s.s.s) (cM (aS aR.s.s.s) (cM (aS aR.s.s) (cM aR.s.s.s.s.s.s.s.s (cM (aS aR.s) (cM aR.s.s.s.s.s.s.s.s.s.s (cM (aS aR) cN))))))) bK) fun x42 => (stb (cs' := [.slice x42.1.1.1.1 r40.1.1.1.length x42.1.1.1.2, .slice x42.1.1.2.1 r40.1.1.2.length x42.1.1.2.2, .slice x42.1.2.1.1 r40.1.2.1.length x42.1.2.1.2, .slice x42.1.2.2.1 r40.1.2.2.length x42.1.2.2.2, .slice x42.2.1.1 r40.2.1.length x42.2.1.2, .slice x42.2.2.1.1 r40.2.2.1.length x42.2.2.1.2, .slice x42.2.2.2.1.1 r40.2.2.2.1.length x42.2.2.2.1.2, .int .i64 (r40.2.2.2.2)]) ty121 cX (nl (bQ (rB (rT (?_)))))))))
     obtain rfl := si H
     exact back1 (x42.1, (x42.2.1, x42.2.2.1, x42.2.2.2.1, ())) rfl (ResV.agg ty121 rfl aB rfl) rfl (cM aR (cM aR.s (cM aR.s.s (cM aR.s.s.s (cM aR.s.s.s.s (cM aR.s.s.s.s.s (cM aR.s.s.s.s.s.s cN))))))) bK
    ·refine bH (nB (nT (sr (aI (bJ ty121 rfl hs2 rfl) (stb (cs' := [.slice x_v0.1.1.1.1 v0.1.1.1.length x_v0.1.1.1.2, .slice x_v0.1.1.2.1 v0.1.1.2.length x_v0.1.1.2.2, .slice x_v0.1.2.1.1 v0.1.2.1.length x_v0.1.2.1.2, .slice x_v0.1.2.2.1 v0.1.2.2.length x_v0.1.2.2.2, .slice x_v0.2.1.1 v0.2.1.length x_v0.2.1.2, .slice x_v0.2.2.1.1 v0.2.2.1.length x_v0.2.2.1.2, .slice x_v0.2.2.2.1.1 v0.2.2.2.1.length x_v0.2.2.2.1.2, .int .i64 (v0.2.2.2.2)]) ty121 cX (nl (bQ ?_)))))))
     obtain rfl := si H
     exact back1 (x_v0.1, (x_v0.2.1, x_v0.2.2.1, x_v0.2.2.2.1, ())) rfl (ResV.agg ty121 rfl aB rfl) rfl (cM (aS aR.s.s.s.s) (cM (aS aR.s.s.s) (cM (aS aR.s.s) (cM aR.s.s.s.s.s.s.s.s (cM (aS aR.s) (cM aR.s.s.s.s.s.s.s.s.s.s (cM (aS aR) cN))))))) bK
noncomputable def p_spec_l22Copy (v0 : World) : Option (World) := bd (p_spec_l13Copy v0.1) fun r8 => bd (p_spec_l21Copy v0.2) fun r11 => some (r8, r11)
theorem c_spec_l22Copy {r : World} (v0 : World) (x_v0 : (((Option Addr × Nat) × (Option Addr × Nat)) × (Option Addr × Nat) × (Option Addr × Nat)) × ((Option Addr × Nat) × (Option Addr × Nat) × (Option Addr × Nat) × Unit)) (H : p_spec_l22Copy v0 = some r) : Fn' prog 171 #[.agg #[.slice x_v0.1.1.1.1 v0.1.1.1.length x_v0.1.1.1.2, .slice x_v0.1.1.2.1 v0.1.1.2.length x_v0.1.1.2.2, .slice x_v0.1.2.1.1 v0.1.2.1.length x_v0.1.2.1.2, .slice x_v0.1.2.2.1 v0.1.2.2.length x_v0.1.2.2.2, .slice x_v0.2.1.1 v0.2.1.length x_v0.2.1.2, .slice x_v0.2.2.1.1 v0.2.2.1.length x_v0.2.2.1.2, .slice x_v0.2.2.2.1.1 v0.2.2.2.1.length x_v0.2.2.2.1.2, .int .i64 (v0.2.2.2.2)]] [imm (.slice x_v0.1.1.1.1 v0.1.1.1.length x_v0.1.1.1.2) v0.1.1.1, imm (.slice x_v0.1.1.2.1 v0.1.1.2.length x_v0.1.1.2.2) v0.1.1.2, imm (.slice x_v0.1.2.1.1 v0.1.2.1.length x_v0.1.2.1.2) v0.1.2.1, imm (.slice x_v0.1.2.2.1 v0.1.2.2.length x_v0.1.2.2.2) v0.1.2.2, imm (.slice x_v0.2.1.1 v0.2.1.length x_v0.2.1.2) v0.2.1, imm (.slice x_v0.2.2.1.1 v0.2.2.1.length x_v0.2.2.1.2) v0.2.2.1, imm (.slice x_v0.2.2.2.1.1 v0.2.2.2.1.length x_v0.2.2.2.1.2) v0.2.2.2.1] [] (ι := (((Option Addr × Nat) × (Option Addr × Nat)) × (Option Addr × Nat) × (Option Addr × Nat)) × ((Option Addr × Nat) × (Option Addr × Nat) × (Option Addr × Nat) × Unit)) (fun x => .agg #[.slice x.1.1.1.1 r.1.1.1.length x.1.1.1.2, .slice x.1.1.2.1 r.1.1.2.length x.1.1.2.2, .slice x.1.2.1.1 r.1.2.1.length x.1.2.1.2, .slice x.1.2.2.1 r.1.2.2.length x.1.2.2.2, .slice x.2.1.1 r.2.1.length x.2.1.2, .slice x.2.2.1.1 r.2.2.1.length x.2.2.1.2, .slice x.2.2.2.1.1 r.2.2.2.1.length x.2.2.2.1.2, .int .i64 (r.2.2.2.2)]) (fun _ => []) (fun x => [tree (.slice x.1.1.1.1 r.1.1.1.length x.1.1.1.2) r.1.1.1, tree (.slice x.1.1.2.1 r.1.1.2.length x.1.1.2.2) r.1.1.2, tree (.slice x.1.2.1.1 r.1.2.1.length x.1.2.1.2) r.1.2.1, tree (.slice x.1.2.2.1 r.1.2.2.length x.1.2.2.2) r.1.2.2, tree (.slice x.2.1.1 r.2.1.length x.2.1.2) r.2.1, tree (.slice x.2.2.1.1 r.2.2.1.length x.2.2.1.2) r.2.2.1, tree (.slice x.2.2.2.1.1 r.2.2.2.1.length x.2.2.2.1.2) r.2.2.2.1]) := by
 refine cof (args := [_]) func171 ntmps171 fun c => ?_
 unfold p_spec_l22Copy at H
 refine bM aR fun X1 => (bM aR.s.s fun X2 => (bM aR.s.s.s.s fun X3 => (bM aR.s.s.s.s.s.s.s fun X4 => (bM aR.s.s.s.s.s.s.s.s.s.s fun X5 => (sr (f1 (cC (t := 121) rfl) fun g6 => (f1 (cD ty121) fun g7 => (nl (aD ?_)))))))))
 refine dF [(2, .pointer (some ⟨g7, 0, none⟩)), (1, .pointer (some ⟨g6, 0, none⟩))] 1 [0, 1, 3, 4, 2, 5, 6, 7] [2, 5, 7] [] mixed (by kernel_rfl) (by decide) dH ⟨rfl, rfl, trivial⟩ rfl okNil (w_p rfl (cB fa121_0 rfl rfl) ?_)
 refine w_o (v := .agg #[.slice x_v0.1.1.1.1 v0.1.1.1.length x_v0.1.1.1.2, .slice x_v0.1.1.2.1 v0.1.1.2.length x_v0.1.1.2.2, .slice x_v0.1.2.1.1 v0.1.2.1.length x_v0.1.2.1.2, .slice x_v0.1.2.2.1 v0.1.2.2.length x_v0.1.2.2.2]) rfl (fun F => (q_ldbP [.slice x_v0.1.1.1.1 v0.1.1.1.length x_v0.1.1.1.2, .slice x_v0.1.1.2.1 v0.1.1.2.length x_v0.1.1.2.2, .slice x_v0.1.2.1.1 v0.1.2.1.length x_v0.1.2.1.2, .slice x_v0.1.2.2.1 v0.1.2.2.length x_v0.1.2.2.2] ty42 rfl (hs1.app F) rfl rfl)) (w_p rfl (cB fa121_1 rfl rfl) ?_)
 refine w_o (v := .agg #[.slice x_v0.2.1.1 v0.2.1.length x_v0.2.1.2, .slice x_v0.2.2.1.1 v0.2.2.1.length x_v0.2.2.1.2, .slice x_v0.2.2.2.1.1 v0.2.2.2.1.length x_v0.2.2.2.1.2, .int .i64 (v0.2.2.2.2)]) rfl (fun F => (q_ldbP [.slice x_v0.2.1.1 v0.2.1.length x_v0.2.1.2, .slice x_v0.2.2.1.1 v0.2.2.1.length x_v0.2.2.1.2, .slice x_v0.2.2.2.1.1 v0.2.2.2.1.length x_v0.2.2.2.1.2, .int .i64 (v0.2.2.2.2)] ty76 rfl (hs1.app F) rfl rfl)) (bdo H fun r8 h9 H => (cJ rfl (by decide) rfl cO rfl (cE (c_spec_l13Copy v0.1 x_v0.1 h9) (fun _ => (bF (bF (bF (bF bG))))) rfl (aC (aL (aS aR.s.s.s.s)) (aC (aL (aS aR.s.s.s)) (aC (aL (aS aR.s.s)) (aC (aL aR.s.s.s.s.s.s.s.s) aO))))) ?_))
 rintro _ _ _ ⟨x10, rfl, rfl, rfl⟩
 refine ⟨(bV rfl rfl (fun F => (q_ldbP [.slice x_v0.2.1.1 v0.2.1.length x_v0.2.1.2, .slice x_v0.2.2.1.1 v0.2.2.1.length x_v0.2.2.1.2, .slice x_v0.2.2.2.1.1 v0.2.2.2.1.length x_v0.2.2.2.1.2, .int .i64 (v0.2.2.2.2)] ty76 rfl (hs5.app F) rfl rfl)) (aM (by kernel_rfl) bU)), ?_⟩
 refine bdo H fun r11 h12 H => (cJ rfl (by decide) rfl cO rfl (cE (c_spec_l21Copy v0.2 (x_v0.2.1, x_v0.2.2.1, x_v0.2.2.2.1, ()) h12) (fun _ => (bF (bF (bF bG)))) rfl (aC (aL (aS aR.s)) (aC (aL aR.s.s.s.s.s.s.s.s.s.s) (aC (aL (aS aR)) aO)))) ?_)
 rintro _ _ _ ⟨x13, rfl, rfl, rfl⟩
 refine ⟨(aM (by kernel_rfl) (bV rfl rfl (fun F => (q_ldbP [.slice x_v0.1.1.1.1 v0.1.1.1.length x_v0.1.1.1.2, .slice x_v0.1.1.2.1 v0.1.1.2.length x_v0.1.1.2.2, .slice x_v0.1.2.1.1 v0.1.2.1.length x_v0.1.2.1.2, .slice x_v0.1.2.2.1 v0.1.2.2.length x_v0.1.2.2.2] ty42 rfl ((hs5t hs3).app F) rfl rfl)) bU)), ?_⟩
 refine w_p (v := .agg #[.slice x10.1.1.1 r8.1.1.length x10.1.1.2, .slice x10.1.2.1 r8.1.2.length x10.1.2.2, .slice x10.2.1.1 r8.2.1.length x10.2.1.2, .slice x10.2.2.1 r8.2.2.length x10.2.2.2, .slice x13.1.1 r11.1.length x13.1.2, .slice x13.2.1.1 r11.2.1.length x13.2.1.2, .slice x13.2.2.1.1 r11.2.2.1.length x13.2.2.1.2, .int .i64 (r11.2.2.2)]) rfl (p_buildS (vs := [(0, .agg #[.slice x10.1.1.1 r8.1.1.length x10.1.1.2, .slice x10.1.2.1 r8.1.2.length x10.1.2.2, .slice x10.2.1.1 r8.2.1.length x10.2.1.2, .slice x10.2.2.1 r8.2.2.length x10.2.2.2]), (1, .agg #[.slice x13.1.1 r11.1.length x13.1.2, .slice x13.2.1.1 r11.2.1.length x13.2.1.2, .slice x13.2.2.1.1 r11.2.2.1.length x13.2.2.1.2, .int .i64 (r11.2.2.2)])]) (cs := #[.slice x10.1.1.1 r8.1.1.length x10.1.1.2, .slice x10.1.2.1 r8.1.2.length x10.1.2.2, .slice x10.2.1.1 r8.2.1.length x10.2.1.2, .slice x10.2.2.1 r8.2.2.length x10.2.2.2, .slice x13.1.1 r11.1.length x13.1.2, .slice x13.2.1.1 r11.2.1.length x13.2.1.2, .slice x13.2.2.1.1 r11.2.2.1.length x13.2.2.1.2, .int .i64 (r11.2.2.2)]) ty121 pl121 rfl (by kernel_rfl)) (cK rfl rfl cO rfl (n_store (cs' := [.slice x10.1.1.1 r8.1.1.length x10.1.1.2, .slice x10.1.2.1 r8.1.2.length x10.1.2.2, .slice x10.2.1.1 r8.2.1.length x10.2.1.2, .slice x10.2.2.1 r8.2.2.length x10.2.2.2, .slice x13.1.1 r11.1.length x13.1.2, .slice x13.2.1.1 r11.2.1.length x13.2.1.2, .slice x13.2.2.1.1 r11.2.2.1.length x13.2.2.1.2, .int .i64 (r11.2.2.2)]) ty121 rfl rfl (up5t up2) rfl (one_of rfl) (Nat.le_of_ble_eq_true rfl) rfl) ?_)
 rintro _ _ _ ⟨rfl, rfl, rfl⟩
 refine ⟨(aM (by kernel_rfl) (aM (by kernel_rfl) bU)), ?_⟩
 refine cL (nT (bQ ?_))
 obtain rfl := si H
 exact back1 (x10, (x13.1, x13.2.1, x13.2.2.1, ())) rfl (ResV.agg ty121 rfl (hs5t hs2) rfl) rfl cN (.cons dl3 (.cons dl3 (.cons dl3 (.cons dl3 (.cons aA (.cons aA (.cons aA .nil)))))))
noncomputable def p_spec_l72Play_b0 (v0 : L6Rd) (Q15 : Int × (List (List Tag)) × (List Post) × (List Part) × (List Sample) × (List File) × (List Int) × (List (List Tag)) × Int × (List Event) × Int) : Option ((Int × (List (List Tag)) × (List Post) × (List Part) × (List Sample) × (List File) × (List Int) × (List (List Tag)) × Int × (List Event) × Int) ⊕ ((List (List Tag)) × (List Post) × (List Part) × (List Sample) × (List File) × (List Int) × (List (List Tag)) × Int × (List Event) × Int)) := cond (decide (0 < Q15.2.2.2.2.2.2.2.2.2.2)) (bd (p_spec_l72Event (v0.1, Q15.1) (((Q15.2.1, Q15.2.2.1), Q15.2.2.2.1, Q15.2.2.2.2.1), (Q15.2.2.2.2.2.1, Q15.2.2.2.2.2.2.1, Q15.2.2.2.2.2.2.2.1, Q15.2.2.2.2.2.2.2.2.1))) fun r24 => gd (room (Q15.2.2.2.2.2.2.2.2.2.1.length + 1)) <| bd (p_spec_l22Do (((Q15.2.1, Q15.2.2.1), Q15.2.2.2.1, Q15.2.2.2.2.1), (Q15.2.2.2.2.2.1, Q15.2.2.2.2.2.2.1, Q15.2.2.2.2.2.2.2.1, Q15.2.2.2.2.2.2.2.2.1)) r24.1) fun r32 => gd (I64 (Q15.2.2.2.2.2.2.2.2.2.2 - 1)) <| some (.inl (r24.2, r32.1.1.1, r32.1.1.2, r32.1.2.1, r32.1.2.2, r32.2.1, r32.2.2.1, r32.2.2.2.1, r32.2.2.2.2, (Q15.2.2.2.2.2.2.2.2.2.1 ++ [r24.1]), Q15.2.2.2.2.2.2.2.2.2.2 - 1))) (some (.inr (Q15.2.1, Q15.2.2.1, Q15.2.2.2.1, Q15.2.2.2.2.1, Q15.2.2.2.2.2.1, Q15.2.2.2.2.2.2.1, Q15.2.2.2.2.2.2.2.1, Q15.2.2.2.2.2.2.2.2.1, Q15.2.2.2.2.2.2.2.2.2.1, Q15.1)))
noncomputable def p_spec_l72Play (v0 : L6Rd) : Option ((List Event) × World × Int) := bd (p_spec_WorldNew) fun r2 => bd (p_spec_l6Rd_pick v0 46) fun r8 => bd (lp (p_spec_l72Play_b0 v0) (r8.2, r2.1.1.1, r2.1.1.2, r2.1.2.1, r2.1.2.2, r2.2.1, r2.2.2.1, r2.2.2.2.1, r2.2.2.2.2, ([] : List Event), r8.1)) fun x11 => bd (p_spec_l22Copy (((x11.1, x11.2.1), x11.2.2.1, x11.2.2.2.1), (x11.2.2.2.2.1, x11.2.2.2.2.2.1, x11.2.2.2.2.2.2.1, x11.2.2.2.2.2.2.2.1))) fun r36 => some (x11.2.2.2.2.2.2.2.2.1, r36, x11.2.2.2.2.2.2.2.2.2)
theorem c_spec_l72Play {r : (List Event) × World × Int} (g_v0 : Nat) (v0 : L6Rd) (x_v0 : (Option Addr × Nat) × Unit) (H : p_spec_l72Play v0 = some r) : Fn' prog 120 #[.pointer (some ⟨g_v0, 0, none⟩)] [imm (.slice x_v0.1.1 v0.1.length x_v0.1.2) v0.1] [box g_v0 169 [.slice x_v0.1.1 v0.1.length x_v0.1.2, .int .i64 (v0.2)]] (ι := (Option Addr × Nat) × ((((Option Addr × Nat) × (Option Addr × Nat)) × (Option Addr × Nat) × (Option Addr × Nat)) × ((Option Addr × Nat) × (Option Addr × Nat) × (Option Addr × Nat) × Unit))) (fun x => .tuple #[.slice x.1.1 r.1.length x.1.2, .agg #[.slice x.2.1.1.1.1 r.2.1.1.1.1.length x.2.1.1.1.2, .slice x.2.1.1.2.1 r.2.1.1.1.2.length x.2.1.1.2.2, .slice x.2.1.2.1.1 r.2.1.1.2.1.length x.2.1.2.1.2, .slice x.2.1.2.2.1 r.2.1.1.2.2.length x.2.1.2.2.2, .slice x.2.2.1.1 r.2.1.2.1.length x.2.2.1.2, .slice x.2.2.2.1.1 r.2.1.2.2.1.length x.2.2.2.1.2, .slice x.2.2.2.2.1.1 r.2.1.2.2.2.1.length x.2.2.2.2.1.2, .int .i64 (r.2.1.2.2.2.2)]]) (fun x => [imm (.slice x.1.1 r.1.length x.1.2) r.1, imm (.slice x.2.1.1.1.1 r.2.1.1.1.1.length x.2.1.1.1.2) r.2.1.1.1.1, imm (.slice x.2.1.1.2.1 r.2.1.1.1.2.length x.2.1.1.2.2) r.2.1.1.1.2, imm (.slice x.2.1.2.1.1 r.2.1.1.2.1.length x.2.1.2.1.2) r.2.1.1.2.1]) (fun x => [orow (.slice x.2.1.2.2.1 r.2.1.1.2.2.length x.2.1.2.2.2) r.2.1.1.2.2, orow (.slice x.2.2.1.1 r.2.1.2.1.length x.2.2.1.2) r.2.1.2.1, orow (.slice x.2.2.2.1.1 r.2.1.2.2.1.length x.2.2.2.1.2) r.2.1.2.2.1, orow (.slice x.2.2.2.2.1.1 r.2.1.2.2.2.1.length x.2.2.2.2.1.2) r.2.1.2.2.2.1, box g_v0 169 [.slice x_v0.1.1 v0.1.length x_v0.1.2, .int .i64 (r.2.2)]]) := by
 refine cof (args := [_]) func120 ntmps120 fun c => ?_
 unfold p_spec_l72Play at H
 refine sr (aH (v := .slice none 0 0) rfl (f1 (cD ty121) fun g1 => (nl (sr (bdo H fun r2 h3 H => (f1 (cF (c_spec_WorldNew h3) (fun _ => (bF (bF (bF (bF (bF (bF (bF bG)))))))) rfl aO) fun x4 => (f1 (cD ty121) fun g5 => (stb (cs' := [.slice x4.1.1.1.1 r2.1.1.1.length x4.1.1.1.2, .slice x4.1.1.2.1 r2.1.1.2.length x4.1.1.2.2, .slice x4.1.2.1.1 r2.1.2.1.length x4.1.2.1.2, .slice x4.1.2.2.1 r2.1.2.2.length x4.1.2.2.2, .slice x4.2.1.1 r2.2.1.length x4.2.1.2, .slice x4.2.2.1.1 r2.2.2.1.length x4.2.2.1.2, .slice x4.2.2.2.1.1 r2.2.2.2.1.length x4.2.2.2.1.2, .int .i64 (r2.2.2.2.2)]) ty121 cX (nl ?_)))))))))
 refine sr (f2 (e_lit0r Event underlying170 ty218) fun a6 c7 => (aH rfl (nl (aD (aD (Tr.freeze (.cons dl2 .nil) (Tr.freeze (.cons dl2 .nil) (Tr.freeze (.cons dl2 .nil) (Tr.freeze (.cons dl2 .nil) (Tr.freeze (.cons dl2 .nil) ?_))))))))))
 refine Tr.freeze (.cons dl2 .nil) (Tr.freeze (.cons dl2 .nil) (aP (aF rfl (bdo H fun r8 h9 H => (f1 (cG (c_spec_l6Rd_pick g_v0 v0 (x_v0.1, ()) 46 h9) (Solo.box bG) (fun _ => (Solo.box bG)) rfl (.cons dl3 .nil) (aC (aL aR.s.s.s.s.s.s.s) aO)) fun u10 => (aH rfl (nl (bdo H fun x11 hx12 H => ?_))))))))
 obtain ⟨n13, hx12⟩ := lp.of hx12
 refine tMidNF (ι := (Option Addr × Nat) × (Option Addr × Nat) × (Option Addr × Nat) × (Option Addr × Nat) × (Option Addr × Nat) × (Option Addr × Nat) × (Option Addr × Nat) × (Option Addr × Nat)) (fun ψ => [(3, .pointer (some ⟨g1, 0, none⟩)), (4, .pointer (some ⟨g5, 0, none⟩)), (5, .slice ψ.2.2.2.2.2.2.2.1 x11.2.2.2.2.2.2.2.2.1.length ψ.2.2.2.2.2.2.2.2)]) (fun ψ => [imm (.slice ψ.1.1 x11.1.length ψ.1.2) x11.1, imm (.slice ψ.2.1.1 x11.2.1.length ψ.2.1.2) x11.2.1, imm (.slice ψ.2.2.1.1 x11.2.2.1.length ψ.2.2.1.2) x11.2.2.1, imm (.slice ψ.2.2.2.1.1 x11.2.2.2.1.length ψ.2.2.2.1.2) x11.2.2.2.1, imm (.slice ψ.2.2.2.2.1.1 x11.2.2.2.2.1.length ψ.2.2.2.2.1.2) x11.2.2.2.2.1, imm (.slice ψ.2.2.2.2.2.1.1 x11.2.2.2.2.2.1.length ψ.2.2.2.2.2.1.2) x11.2.2.2.2.2.1, imm (.slice ψ.2.2.2.2.2.2.1.1 x11.2.2.2.2.2.2.1.length ψ.2.2.2.2.2.2.1.2) x11.2.2.2.2.2.2.1]) (fun ψ => [box g1 121 [.slice none 0 0, .slice none 0 0, .slice none 0 0, .slice none 0 0, .slice none 0 0, .slice none 0 0, .slice none 0 0, .int .i64 (0)], box g5 121 [.slice ψ.1.1 x11.1.length ψ.1.2, .slice ψ.2.1.1 x11.2.1.length ψ.2.1.2, .slice ψ.2.2.1.1 x11.2.2.1.length ψ.2.2.1.2, .slice ψ.2.2.2.1.1 x11.2.2.2.1.length ψ.2.2.2.1.2, .slice ψ.2.2.2.2.1.1 x11.2.2.2.2.1.length ψ.2.2.2.2.1.2, .slice ψ.2.2.2.2.2.1.1 x11.2.2.2.2.2.1.length ψ.2.2.2.2.2.1.2, .slice ψ.2.2.2.2.2.2.1.1 x11.2.2.2.2.2.2.1.length ψ.2.2.2.2.2.2.1.2, .int .i64 (x11.2.2.2.2.2.2.2.1)], row (.slice ψ.2.2.2.2.2.2.2.1 x11.2.2.2.2.2.2.2.2.1.length ψ.2.2.2.2.2.2.2.2) x11.2.2.2.2.2.2.2.2.1, box g_v0 169 [.slice x_v0.1.1 v0.1.length x_v0.1.2, .int .i64 (x11.2.2.2.2.2.2.2.2.2)]]) ?_ ?_
 ·refine aQ (tLoopF (ι := { q : Nat × (Int × (List (List Tag)) × (List Post) × (List Part) × (List Sample) × (List File) × (List Int) × (List (List Tag)) × Int × (List Event) × Int) × ((Option Addr × Nat) × (Option Addr × Nat) × (Option Addr × Nat) × (Option Addr × Nat) × (Option Addr × Nat) × (Option Addr × Nat) × (Option Addr × Nat) × (Option Addr × Nat)) // itr (p_spec_l72Play_b0 v0) q.1 q.2.1 = some x11 }) (fun ζ => [(0, .pointer (some ⟨g_v0, 0, none⟩)), (3, .pointer (some ⟨g1, 0, none⟩)), (4, .pointer (some ⟨g5, 0, none⟩)), (5, .slice ζ.1.2.2.2.2.2.2.2.2.2.1 ζ.1.2.1.2.2.2.2.2.2.2.2.2.1.length ζ.1.2.2.2.2.2.2.2.2.2.2), (6, .int .i64 (ζ.1.2.1.2.2.2.2.2.2.2.2.2.2))]) (fun ζ => [imm (.slice ζ.1.2.2.1.1 ζ.1.2.1.2.1.length ζ.1.2.2.1.2) ζ.1.2.1.2.1, imm (.slice ζ.1.2.2.2.1.1 ζ.1.2.1.2.2.1.length ζ.1.2.2.2.1.2) ζ.1.2.1.2.2.1, imm (.slice ζ.1.2.2.2.2.1.1 ζ.1.2.1.2.2.2.1.length ζ.1.2.2.2.2.1.2) ζ.1.2.1.2.2.2.1, imm (.slice ζ.1.2.2.2.2.2.1.1 ζ.1.2.1.2.2.2.2.1.length ζ.1.2.2.2.2.2.1.2) ζ.1.2.1.2.2.2.2.1, imm (.slice ζ.1.2.2.2.2.2.2.1.1 ζ.1.2.1.2.2.2.2.2.1.length ζ.1.2.2.2.2.2.2.1.2) ζ.1.2.1.2.2.2.2.2.1, imm (.slice ζ.1.2.2.2.2.2.2.2.1.1 ζ.1.2.1.2.2.2.2.2.2.1.length ζ.1.2.2.2.2.2.2.2.1.2) ζ.1.2.1.2.2.2.2.2.2.1, imm (.slice ζ.1.2.2.2.2.2.2.2.2.1.1 ζ.1.2.1.2.2.2.2.2.2.2.1.length ζ.1.2.2.2.2.2.2.2.2.1.2) ζ.1.2.1.2.2.2.2.2.2.2.1]) (fun ζ => [box g_v0 169 [.slice x_v0.1.1 v0.1.length x_v0.1.2, .int .i64 (ζ.1.2.1.1)], box g1 121 [.slice none 0 0, .slice none 0 0, .slice none 0 0, .slice none 0 0, .slice none 0 0, .slice none 0 0, .slice none 0 0, .int .i64 (0)], box g5 121 [.slice ζ.1.2.2.1.1 ζ.1.2.1.2.1.length ζ.1.2.2.1.2, .slice ζ.1.2.2.2.1.1 ζ.1.2.1.2.2.1.length ζ.1.2.2.2.1.2, .slice ζ.1.2.2.2.2.1.1 ζ.1.2.1.2.2.2.1.length ζ.1.2.2.2.2.1.2, .slice ζ.1.2.2.2.2.2.1.1 ζ.1.2.1.2.2.2.2.1.length ζ.1.2.2.2.2.2.1.2, .slice ζ.1.2.2.2.2.2.2.1.1 ζ.1.2.1.2.2.2.2.2.1.length ζ.1.2.2.2.2.2.2.1.2, .slice ζ.1.2.2.2.2.2.2.2.1.1 ζ.1.2.1.2.2.2.2.2.2.1.length ζ.1.2.2.2.2.2.2.2.1.2, .slice ζ.1.2.2.2.2.2.2.2.2.1.1 ζ.1.2.1.2.2.2.2.2.2.2.1.length ζ.1.2.2.2.2.2.2.2.2.1.2, .int .i64 (ζ.1.2.1.2.2.2.2.2.2.2.2.1)], row (.slice ζ.1.2.2.2.2.2.2.2.2.2.1 ζ.1.2.1.2.2.2.2.2.2.2.2.2.1.length ζ.1.2.2.2.2.2.2.2.2.2.2) ζ.1.2.1.2.2.2.2.2.2.2.2.2.1]) (fun ζ => ζ.1.1) ⟨(n13, (r8.2, r2.1.1.1, r2.1.1.2, r2.1.2.1, r2.1.2.2, r2.2.1, r2.2.2.1, r2.2.2.2.1, r2.2.2.2.2, ([] : List Event), r8.1), ((x4.1.1.1.1, x4.1.1.1.2), (x4.1.1.2.1, x4.1.1.2.2), (x4.1.2.1.1, x4.1.2.1.2), (x4.1.2.2.1, x4.1.2.2.2), (x4.2.1.1, x4.2.1.2), (x4.2.2.1.1, x4.2.2.1.2), (x4.2.2.2.1.1, x4.2.2.2.1.2), (a6, c7))), hx12⟩ ⟨rfl, rfl, rfl, rfl, rfl, trivial⟩ (cM aR.s.s.s.s.s.s (cM aR.s.s.s.s.s (cM aR.s.s.s.s (cM aR.s.s.s (cM aR.s.s (cM aR.s (cM aR cN))))))) (.cons aA (.cons dl2 (.cons dl1 (.cons aA .nil)))) ?_)
  rintro ⟨⟨m14, Q15, z16⟩, hk21⟩
  obtain ⟨m22, t18, e, H1, hi19, hb20⟩ := itr.of (n := m14) (s := Q15) hk21
  subst e; unfold p_spec_l72Play_b0 at H1
  show Tr _ _ _ _ _ [(0, .pointer (some ⟨g_v0, 0, none⟩)), (3, .pointer (some ⟨g1, 0, none⟩)), (4, .pointer (some ⟨g5, 0, none⟩)), (5, .slice z16.2.2.2.2.2.2.2.1 Q15.2.2.2.2.2.2.2.2.2.1.length z16.2.2.2.2.2.2.2.2), (6, .int .i64 (Q15.2.2.2.2.2.2.2.2.2.2))] (imm (.slice z16.1.1 Q15.2.1.length z16.1.2) Q15.2.1 :: imm (.slice z16.2.1.1 Q15.2.2.1.length z16.2.1.2) Q15.2.2.1 :: imm (.slice z16.2.2.1.1 Q15.2.2.2.1.length z16.2.2.1.2) Q15.2.2.2.1 :: imm (.slice z16.2.2.2.1.1 Q15.2.2.2.2.1.length z16.2.2.2.1.2) Q15.2.2.2.2.1 :: imm (.slice z16.2.2.2.2.1.1 Q15.2.2.2.2.2.1.length z16.2.2.2.2.1.2) Q15.2.2.2.2.2.1 :: imm (.slice z16.2.2.2.2.2.1.1 Q15.2.2.2.2.2.2.1.length z16.2.2.2.2.2.1.2) Q15.2.2.2.2.2.2.1 :: imm (.slice z16.2.2.2.2.2.2.1.1 Q15.2.2.2.2.2.2.2.1.length z16.2.2.2.2.2.2.1.2) Q15.2.2.2.2.2.2.2.1 :: _) [box g_v0 169 [.slice x_v0.1.1 v0.1.length x_v0.1.2, .int .i64 (Q15.1)], box g1 121 [.slice none 0 0, .slice none 0 0, .slice none 0 0, .slice none 0 0, .slice none 0 0, .slice none 0 0, .slice none 0 0, .int .i64 (0)], box g5 121 [.slice z16.1.1 Q15.2.1.length z16.1.2, .slice z16.2.1.1 Q15.2.2.1.length z16.2.1.2, .slice z16.2.2.1.1 Q15.2.2.2.1.length z16.2.2.1.2, .slice z16.2.2.2.1.1 Q15.2.2.2.2.1.length z16.2.2.2.1.2, .slice z16.2.2.2.2.1.1 Q15.2.2.2.2.2.1.length z16.2.2.2.2.1.2, .slice z16.2.2.2.2.2.1.1 Q15.2.2.2.2.2.2.1.length z16.2.2.2.2.2.1.2, .slice z16.2.2.2.2.2.2.1.1 Q15.2.2.2.2.2.2.2.1.length z16.2.2.2.2.2.2.1.2, .int .i64 (Q15.2.2.2.2.2.2.2.2.1)], row (.slice z16.2.2.2.2.2.2.2.1 Q15.2.2.2.2.2.2.2.2.2.1.length z16.2.2.2.2.2.2.2.2) Q15.2.2.2.2.2.2.2.2.2.1]
  refine aD (sr (aF rfl (aG (cU rfl rfl) (nl (cH H1 rfl (fun h23 H1 => ?_) (fun h23 H1 => ?_))))))
  ·refine bH (nT (aD (aQ (sr (aF rfl (aI (bJ ty121 rfl hs2 rfl) (bdo H1 fun r24 h25 H1 => (f1 (e_call (FnL'.frz (c_spec_l72Event g_v0 (v0.1, Q15.1) (x_v0.1, ()) (((Q15.2.1, Q15.2.2.1), Q15.2.2.2.1, Q15.2.2.2.2.1), (Q15.2.2.2.2.2.1, Q15.2.2.2.2.2.2.1, Q15.2.2.2.2.2.2.2.1, Q15.2.2.2.2.2.2.2.2.1)) (((z16.1, z16.2.1), z16.2.2.1, z16.2.2.2.1), (z16.2.2.2.2.1, z16.2.2.2.2.2.1, z16.2.2.2.2.2.2.1, ())) h25)) rfl (cM aR.s.s.s.s.s.s.s.s.s.s.s.s.s.s (cM aR (cM aR.s (cM aR.s.s (cM aR.s.s.s (cM aR.s.s.s.s (cM aR.s.s.s.s.s (cM aR.s.s.s.s.s.s cN)))))))) (.cons aA .nil)) fun x26 => (f1 (cD ty218) fun g27 => (stb (cs' := [.int .i64 (r24.1.1), .int .i64 (r24.1.2.1), .int .i64 (r24.1.2.2.1), .slice x26.2.2.2.1.1 r24.1.2.2.2.1.length x26.2.2.2.1.2, .int .i64 (r24.1.2.2.2.2.1), .int .i64 (r24.1.2.2.2.2.2)]) ty218 cX ?_))))))))))
   refine nl (sr (aF rfl (aI (bJ ty218 rfl aB rfl) (f1 (e_lit (vs := [(0, .agg #[.int .i64 (r24.1.1), .int .i64 (r24.1.2.1), .int .i64 (r24.1.2.2.1), .slice x26.2.2.2.1.1 r24.1.2.2.2.1.length x26.2.2.2.1.2, .int .i64 (r24.1.2.2.2.2.1), .int .i64 (r24.1.2.2.2.2.2)])]) [.int .i64 (r24.1.1), .int .i64 (r24.1.2.1), .int .i64 (r24.1.2.2.1), .slice x26.2.2.2.1.1 r24.1.2.2.2.1.length x26.2.2.2.1.2, .int .i64 (r24.1.2.2.2.2.1), .int .i64 (r24.1.2.2.2.2.2)] underlying170 ty218 rfl (by decide) (by decide) (by kernel_rfl)) fun g28 => (gdo H1 fun h31 H1 => (f2 (e_app1R (l := Q15.2.2.2.2.2.2.2.2.2.1) (α := Event) r24.1 ((), (), (), x26.2.2.2.1, ((), ())) underlying170 ty218 rfl rfl (h31.b (by decide)) h31.x rfl (.cons dl5 (.cons aA .nil)) (cM aR cN)) fun a29 c30 => (aH rfl (nl (aP (aI (bJ ty121 rfl hs4 rfl) ?_))))))))))
   refine aI (bJ ty218 rfl hs1 rfl) (bdo H1 fun r32 h33 H1 => (f1 (e_call (c_spec_l22Do (((Q15.2.1, Q15.2.2.1), Q15.2.2.2.1, Q15.2.2.2.2.1), (Q15.2.2.2.2.2.1, Q15.2.2.2.2.2.2.1, Q15.2.2.2.2.2.2.2.1, Q15.2.2.2.2.2.2.2.2.1)) (((z16.1, z16.2.1), z16.2.2.1, z16.2.2.2.1), (z16.2.2.2.2.1, z16.2.2.2.2.2.1, z16.2.2.2.2.2.2.1, ())) r24.1 ((), (), (), x26.2.2.2.1, ((), ())) h33) rfl (cM aR.s (cM aR.s.s (cM aR.s.s.s (cM aR.s.s.s.s (cM aR.s.s.s.s.s (cM aR.s.s.s.s.s.s (cM aR.s.s.s.s.s.s.s (cM aR cN)))))))) bK) fun x34 => (stb (cs' := [.slice x34.1.1.1.1 r32.1.1.1.length x34.1.1.1.2, .slice x34.1.1.2.1 r32.1.1.2.length x34.1.1.2.2, .slice x34.1.2.1.1 r32.1.2.1.length x34.1.2.1.2, .slice x34.1.2.2.1 r32.1.2.2.length x34.1.2.2.2, .slice x34.2.1.1 r32.2.1.length x34.2.1.2, .slice x34.2.2.1.1 r32.2.2.1.length x34.2.2.1.2, .slice x34.2.2.2.1.1 r32.2.2.2.1.length x34.2.2.2.1.2, .int .i64 (r32.2.2.2.2)]) ty121 up4 (aJ (nB (nT (aP (aF rfl (gdo H1 fun h35 H1 => (aG (cR rfl rfl h35) ?_))))))))))
   exact aH rfl (aJ (nLF ⟨(m22, (r24.2, r32.1.1.1, r32.1.1.2, r32.1.2.1, r32.1.2.2, r32.2.1, r32.2.2.1, r32.2.2.2.1, r32.2.2.2.2, (Q15.2.2.2.2.2.2.2.2.2.1 ++ [r24.1]), Q15.2.2.2.2.2.2.2.2.2.2 - 1), ((x34.1.1.1.1, x34.1.1.1.2), (x34.1.1.2.1, x34.1.1.2.2), (x34.1.2.1.1, x34.1.2.1.2), (x34.1.2.2.1, x34.1.2.2.2), (x34.2.1.1, x34.2.1.2), (x34.2.2.1.1, x34.2.2.1.2), (x34.2.2.2.1.1, x34.2.2.2.1.2), (a29, c30))), hi19 _ (sm H1)⟩ (Nat.lt_succ_self _) ⟨rfl, rfl, rfl, rfl, rfl, trivial⟩ (cM aR (cM aR.s (cM aR.s.s (cM aR.s.s.s (cM aR.s.s.s.s (cM aR.s.s.s.s.s (cM aR.s.s.s.s.s.s cN))))))) bT.s.s.s.s.s.s.s.s.s.s.s.s.s.s.s (.cons dl2 (.cons dl2 (.cons dl2 (.cons aA .nil))))))
  ·refine cZ (xT (xT (xE (?_))))
   obtain rfl := hb20 _ (sm H1)
   exact nMF ((z16.1.1, z16.1.2), (z16.2.1.1, z16.2.1.2), (z16.2.2.1.1, z16.2.2.1.2), (z16.2.2.2.1.1, z16.2.2.2.1.2), (z16.2.2.2.2.1.1, z16.2.2.2.2.1.2), (z16.2.2.2.2.2.1.1, z16.2.2.2.2.2.1.2), (z16.2.2.2.2.2.2.1.1, z16.2.2.2.2.2.2.1.2), (z16.2.2.2.2.2.2.2.1, z16.2.2.2.2.2.2.2.2)) ⟨rfl, rfl, rfl, trivial⟩ (cM aR (cM aR.s (cM aR.s.s (cM aR.s.s.s (cM aR.s.s.s.s (cM aR.s.s.s.s.s (cM aR.s.s.s.s.s.s cN))))))) bT.s.s.s.s.s.s.s (.cons dl1 (.cons dl1 (.cons dl1 (.cons aA .nil))))
 ·intro y17
  show At _ _ [(3, .pointer (some ⟨g1, 0, none⟩)), (4, .pointer (some ⟨g5, 0, none⟩)), (5, .slice y17.2.2.2.2.2.2.2.1 x11.2.2.2.2.2.2.2.2.1.length y17.2.2.2.2.2.2.2.2)] (imm (.slice y17.1.1 x11.1.length y17.1.2) x11.1 :: imm (.slice y17.2.1.1 x11.2.1.length y17.2.1.2) x11.2.1 :: imm (.slice y17.2.2.1.1 x11.2.2.1.length y17.2.2.1.2) x11.2.2.1 :: imm (.slice y17.2.2.2.1.1 x11.2.2.2.1.length y17.2.2.2.1.2) x11.2.2.2.1 :: imm (.slice y17.2.2.2.2.1.1 x11.2.2.2.2.1.length y17.2.2.2.2.1.2) x11.2.2.2.2.1 :: imm (.slice y17.2.2.2.2.2.1.1 x11.2.2.2.2.2.1.length y17.2.2.2.2.2.1.2) x11.2.2.2.2.2.1 :: imm (.slice y17.2.2.2.2.2.2.1.1 x11.2.2.2.2.2.2.1.length y17.2.2.2.2.2.2.1.2) x11.2.2.2.2.2.2.1 :: _) [box g1 121 [.slice none 0 0, .slice none 0 0, .slice none 0 0, .slice none 0 0, .slice none 0 0, .slice none 0 0, .slice none 0 0, .int .i64 (0)], box g5 121 [.slice y17.1.1 x11.1.length y17.1.2, .slice y17.2.1.1 x11.2.1.length y17.2.1.2, .slice y17.2.2.1.1 x11.2.2.1.length y17.2.2.1.2, .slice y17.2.2.2.1.1 x11.2.2.2.1.length y17.2.2.2.1.2, .slice y17.2.2.2.2.1.1 x11.2.2.2.2.1.length y17.2.2.2.2.1.2, .slice y17.2.2.2.2.2.1.1 x11.2.2.2.2.2.1.length y17.2.2.2.2.2.1.2, .slice y17.2.2.2.2.2.2.1.1 x11.2.2.2.2.2.2.1.length y17.2.2.2.2.2.2.1.2, .int .i64 (x11.2.2.2.2.2.2.2.1)], row (.slice y17.2.2.2.2.2.2.2.1 x11.2.2.2.2.2.2.2.2.1.length y17.2.2.2.2.2.2.2.2) x11.2.2.2.2.2.2.2.2.1, box g_v0 169 [.slice x_v0.1.1 v0.1.length x_v0.1.2, .int .i64 (x11.2.2.2.2.2.2.2.2.2)]] _
  refine nT (sr (aF rfl (aI (bJ ty121 rfl hs1 rfl) (bdo H fun r36 h37 H => (f1 (cF (c_spec_l22Copy (((x11.1, x11.2.1), x11.2.2.1, x11.2.2.2.1), (x11.2.2.2.2.1, x11.2.2.2.2.2.1, x11.2.2.2.2.2.2.1, x11.2.2.2.2.2.2.2.1)) (((y17.1, y17.2.1), y17.2.2.1, y17.2.2.2.1), (y17.2.2.2.2.1, y17.2.2.2.2.2.1, y17.2.2.2.2.2.2.1, ())) h37) (fun _ => (bF (bF (bF (bF (bF (bF (bF bG)))))))) rfl (aC (aL aR) (aC (aL aR.s) (aC (aL aR.s.s) (aC (aL aR.s.s.s) (aC (aL aR.s.s.s.s) (aC (aL aR.s.s.s.s.s) (aC (aL aR.s.s.s.s.s.s) aO)))))))) fun x38 => (aH rfl (stb (cs' := [.slice x38.1.1.1.1 r36.1.1.1.length x38.1.1.1.2, .slice x38.1.1.2.1 r36.1.1.2.length x38.1.1.2.2, .slice x38.1.2.1.1 r36.1.2.1.length x38.1.2.1.2, .slice x38.1.2.2.1 r36.1.2.2.length x38.1.2.2.2, .slice x38.2.1.1 r36.2.1.length x38.2.1.2, .slice x38.2.2.1.1 r36.2.2.1.length x38.2.2.1.2, .slice x38.2.2.2.1.1 r36.2.2.2.1.length x38.2.2.2.1.2, .int .i64 (r36.2.2.2.2)]) ty121 (up5t up2) (nl (Tr.freezeR (.cons (dl5t dl4) .nil) ?_)))))))))
  refine Tr.freeze (.cons aA .nil) (Tr.freeze (.cons aA .nil) (Tr.freeze (.cons aA .nil) (Tr.treeO (.cons aA .nil) (Tr.treeO (.cons dl1 .nil) (Tr.treeO (.cons dl2 .nil) (Tr.treeO (.cons dl3 .nil) (bQ ?_)))))))
  obtain rfl := si H
  exact back2 (y17.2.2.2.2.2.2.2, (x38.1, (x38.2.1, x38.2.2.1, x38.2.2.2.1, ()))) rfl (ResV.tmp (v := .slice y17.2.2.2.2.2.2.2.1 x11.2.2.2.2.2.2.2.2.1.length y17.2.2.2.2.2.2.2.2) rfl) (ResV.agg ty121 rfl hs4 rfl) rfl (cM aR.s.s.s (cM aR.s.s (cM aR.s (cM aR cN)))) (.cons dl3 (.cons dl2 (.cons dl1 (.cons aA (.cons dl2 .nil)))))
noncomputable def p_spec_l72World (v0 : L6Rd) : Option (World × Int) := bd (p_spec_l72Play v0) fun r2 => bd (p_spec_l6Rd_pick (v0.1, r2.2.2) 40) fun r6 => cond (decide (r6.1 = 0)) (bd (p_spec_l6Rd_pick (v0.1, r6.2) 6) fun r10 => gd (I64 (1 + r10.1)) <| gd (room (r2.2.1.2.2.1.length + 1)) <| some ((r2.2.1.1, (r2.2.1.2.1, (r2.2.1.2.2.1 ++ [1 + r10.1]), r2.2.1.2.2.2.1, r2.2.1.2.2.2.2)), r10.2)) (cond (decide (r6.1 = 1)) (bd (p_spec_l6Rd_pick (v0.1, r6.2) 7) fun r19 => gd (I64 (1 + r19.1)) <| bd (p_spec_l71Row (v0.1, r19.2)) fun r23 => gd (room (r2.2.1.1.2.2.length + 1)) <| some (((r2.2.1.1.1, r2.2.1.1.2.1, (r2.2.1.1.2.2 ++ [((1 + r19.1), r23.1)])), r2.2.1.2), r23.2)) (cond (decide (r6.1 = 2)) (cond (decide (0 < (r2.2.1.2.1.length : Int))) (gd (sl2 1 (r2.2.1.2.1.length : Int) r2.2.1.2.1.length) <| some ((r2.2.1.1, (((r2.2.1.2.1.take (r2.2.1.2.1.length : Int).toNat).drop 1), r2.2.1.2.2.1, r2.2.1.2.2.2.1, r2.2.1.2.2.2.2)), r6.2)) (some (r2.2.1, r6.2))) (cond (decide (r6.1 = 3)) (bd (p_spec_l71Name (v0.1, r6.2)) fun r36 => gd (room (r2.2.1.2.2.2.1.length + 1)) <| some ((r2.2.1.1, (r2.2.1.2.1, r2.2.1.2.2.1, (r2.2.1.2.2.2.1 ++ [r36.1]), r2.2.1.2.2.2.2)), r36.2)) (some (r2.2.1, r6.2)))))
theorem c_spec_l72World {r : World × Int} (g_v0 : Nat) (v0 : L6Rd) (x_v0 : (Option Addr × Nat) × Unit) (H : p_spec_l72World v0 = some r) : Fn' prog 66 #[.pointer (some ⟨g_v0, 0, none⟩)] [imm (.slice x_v0.1.1 v0.1.length x_v0.1.2) v0.1] [box g_v0 169 [.slice x_v0.1.1 v0.1.length x_v0.1.2, .int .i64 (v0.2)]] (ι := (((Option Addr × Nat) × (Option Addr × Nat)) × (Option Addr × Nat) × (Option Addr × Nat)) × ((Option Addr × Nat) × (Option Addr × Nat) × (Option Addr × Nat) × Unit)) (fun x => .agg #[.slice x.1.1.1.1 r.1.1.1.1.length x.1.1.1.2, .slice x.1.1.2.1 r.1.1.1.2.length x.1.1.2.2, .slice x.1.2.1.1 r.1.1.2.1.length x.1.2.1.2, .slice x.1.2.2.1 r.1.1.2.2.length x.1.2.2.2, .slice x.2.1.1 r.1.2.1.length x.2.1.2, .slice x.2.2.1.1 r.1.2.2.1.length x.2.2.1.2, .slice x.2.2.2.1.1 r.1.2.2.2.1.length x.2.2.2.1.2, .int .i64 (r.1.2.2.2.2)]) (fun x => [imm (.slice x.1.1.1.1 r.1.1.1.1.length x.1.1.1.2) r.1.1.1.1, imm (.slice x.1.1.2.1 r.1.1.1.2.length x.1.1.2.2) r.1.1.1.2, imm (.slice x.1.2.1.1 r.1.1.2.1.length x.1.2.1.2) r.1.1.2.1]) (fun x => [orow (.slice x.1.2.2.1 r.1.1.2.2.length x.1.2.2.2) r.1.1.2.2, orow (.slice x.2.1.1 r.1.2.1.length x.2.1.2) r.1.2.1, orow (.slice x.2.2.1.1 r.1.2.2.1.length x.2.2.1.2) r.1.2.2.1, orow (.slice x.2.2.2.1.1 r.1.2.2.2.1.length x.2.2.2.1.2) r.1.2.2.2.1, box g_v0 169 [.slice x_v0.1.1 v0.1.length x_v0.1.2, .int .i64 (r.2)]]) := by
 refine cof (args := [_]) func66 ntmps66 fun c => ?_
 unfold p_spec_l72World at H
 refine sr (f1 (cD ty121) fun g1 => (nl (sr (aF rfl (bdo H fun r2 h3 H => (f1 (e_call (c_spec_l72Play g_v0 v0 (x_v0.1, ()) h3) rfl (cM aR cN) (.cons dl1 .nil)) fun x4 => (aF rfl (aG (cY rfl rfl) (aG (cY rfl rfl) ?_)))))))))
 refine f1 (cD ty121) fun g5 => (aH rfl (stb (cs' := [.slice x4.2.1.1.1.1 r2.2.1.1.1.1.length x4.2.1.1.1.2, .slice x4.2.1.1.2.1 r2.2.1.1.1.2.length x4.2.1.1.2.2, .slice x4.2.1.2.1.1 r2.2.1.1.2.1.length x4.2.1.2.1.2, .slice x4.2.1.2.2.1 r2.2.1.1.2.2.length x4.2.1.2.2.2, .slice x4.2.2.1.1 r2.2.1.2.1.length x4.2.2.1.2, .slice x4.2.2.2.1.1 r2.2.1.2.2.1.length x4.2.2.2.1.2, .slice x4.2.2.2.2.1.1 r2.2.1.2.2.2.1.length x4.2.2.2.2.1.2, .int .i64 (r2.2.1.2.2.2.2)]) ty121 cX (nl (aD (sr (aF rfl (bdo H fun r6 h7 H => (f1 (cG (c_spec_l6Rd_pick g_v0 (v0.1, r2.2.2) (x_v0.1, ()) 40 h7) (Solo.box bG) (fun _ => (Solo.box bG)) rfl (.cons dl5 .nil) (aC (aL aR.s.s.s.s) aO)) fun u8 => (nl (aQ ?_))))))))))
 refine sr (aG (cT rfl rfl) (aH rfl (nl (cH H rfl (fun h9 H => ?_) (fun h9 H => ?_)))))
 ·refine dF [(4, .pointer (some ⟨g5, 0, none⟩)), (2, .pointer (some ⟨g1, 0, none⟩)), (0, .pointer (some ⟨g_v0, 0, none⟩))] 2 [0, 1, 2, 3, 4, 5, 6, 7, 8, 9, 10] [4, 6, 7, 10] [] mixed (by kernel_rfl) (by decide) dH ⟨rfl, rfl, rfl, trivial⟩ rfl okNil (w_p rfl (cB fa121_1 rfl rfl) (w_p rfl (cB fa76_1 rfl rfl) ?_))
  refine w_o rfl (fun F => (bI ty69 rfl (hs1.app F) rfl)) (w_p rfl (aE rfl) (bdo H fun r10 h11 H => (cJ rfl (by decide) rfl cO rfl (n_callM (c_spec_l6Rd_pick g_v0 (v0.1, r6.2) (x_v0.1, ()) 6 h11) (Solo.box bG) (fun _ => (Solo.box bG)) rfl (.cons aA .nil) (aC (aL aR.s.s.s.s) aO)) ?_)))
  rintro _ _ _ ⟨u12, rfl, rfl, rfl⟩
  refine ⟨(bV rfl rfl (fun F => (bI ty69 rfl (hs1.app F) rfl)) bU), ?_⟩
  refine gdo H fun h13 H => (w_p rfl (bR rfl rfl h13) (cJ rfl (by decide) rfl cO rfl (n_lit (vs := [(0, .int .i64 (1 + r10.1))]) [.int .i64 (1 + r10.1)] dU ty3 rfl (by decide) (by decide) (by kernel_rfl)) ?_))
  rintro _ _ _ ⟨g14, rfl, rfl, rfl⟩
  refine ⟨(bV rfl rfl (fun F => (bI ty69 rfl (hs2.app F) rfl)) bU), ?_⟩
  refine gdo H fun h17 H => (cJ rfl (by decide) rfl cO rfl (n_app1O (l := r2.2.1.2.2.1) (α := Int) (1 + r10.1) () dU ty3 rfl rfl (h17.b (by decide)) h17.x rfl (.cons dl5 (.cons aA .nil)) cN) ?_)
  rintro _ _ _ ⟨a15, c16, rfl, rfl, rfl⟩
  refine ⟨(aM (by kernel_rfl) bU), ?_⟩
  refine w_p rfl (cB fa121_1 rfl rfl) (w_p rfl (cB fa76_1 rfl rfl) (cK rfl rfl cO rfl (n_store (cs' := [.slice x4.2.1.1.1.1 r2.2.1.1.1.1.length x4.2.1.1.1.2, .slice x4.2.1.1.2.1 r2.2.1.1.1.2.length x4.2.1.1.2.2, .slice x4.2.1.2.1.1 r2.2.1.1.2.1.length x4.2.1.2.1.2, .slice x4.2.1.2.2.1 r2.2.1.1.2.2.length x4.2.1.2.2.2, .slice x4.2.2.1.1 r2.2.1.2.1.length x4.2.2.1.2, .slice a15 ((r2.2.1.2.2.1 ++ [1 + r10.1]).length) c16, .slice x4.2.2.2.2.1.1 r2.2.1.2.2.2.1.length x4.2.2.2.2.1.2, .int .i64 (r2.2.1.2.2.2.2)]) ty69 rfl rfl up2 rfl (by simp [Value.cells, Value.oneCell']) (Nat.le_of_ble_eq_true rfl) rfl) ?_))
  rintro _ _ _ ⟨rfl, rfl, rfl⟩
  refine ⟨(aM (by kernel_rfl) bU), ?_⟩
  refine cL ?_
  show At _ _ _ _ _ _
  refine nB (nT (sr (aI (bJ ty121 rfl hs2 rfl) (g0 (e_store (cs' := [.slice x4.2.1.1.1.1 r2.2.1.1.1.1.length x4.2.1.1.1.2, .slice x4.2.1.1.2.1 r2.2.1.1.1.2.length x4.2.1.1.2.2, .slice x4.2.1.2.1.1 r2.2.1.1.2.1.length x4.2.1.2.1.2, .slice x4.2.1.2.2.1 r2.2.1.1.2.2.length x4.2.1.2.2.2, .slice x4.2.2.1.1 r2.2.1.2.1.length x4.2.2.1.2, .slice a15 ((r2.2.1.2.2.1 ++ [1 + r10.1]).length) c16, .slice x4.2.2.2.2.1.1 r2.2.1.2.2.2.1.length x4.2.2.2.2.1.2, .int .i64 (r2.2.1.2.2.2.2)]) ty121 rfl rfl (up5t up1) rfl (by simp [Value.cells, Value.oneCell']) (Nat.le_of_ble_eq_true rfl) rfl) (nl (bQ ?_))))))
  obtain rfl := si H
  exact back1 (x4.2.1, (x4.2.2.1, (a15, c16), x4.2.2.2.2.1, ())) rfl (ResV.agg ty121 rfl (hs5t hs1) rfl) rfl (cM aR.s (cM aR.s.s (cM aR.s.s.s cN))) (.cons dl3 (.cons dl3 (.cons aA (.cons dl2 (.cons aA .nil)))))
 ·refine sr (aG (cT rfl rfl) (aH rfl (nl (cH H rfl (fun h18 H => ?_) (fun h18 H => ?_)))))
  ·refine dF [(4, .pointer (some ⟨g5, 0, none⟩)), (2, .pointer (some ⟨g1, 0, none⟩)), (0, .pointer (some ⟨g_v0, 0, none⟩))] 3 [0, 1, 2, 3, 6, 4, 5, 7, 8, 9, 10, 11, 12, 13] [4, 7, 9, 10, 13] [] mixed (by kernel_rfl) (by decide) dH ⟨rfl, rfl, rfl, trivial⟩ rfl okNil (w_p rfl (cB fa121_0 rfl rfl) (w_p rfl (cB fa42_2 rfl rfl) ?_))
   refine w_o rfl (fun F => (bI ty40 rfl (hs1.app F) rfl)) (w_p rfl (aE rfl) (w_p rfl (aE rfl) (bdo H fun r19 h20 H => (cJ rfl (by decide) rfl cO rfl (n_callM (c_spec_l6Rd_pick g_v0 (v0.1, r6.2) (x_v0.1, ()) 7 h20) (Solo.box bG) (fun _ => (Solo.box bG)) rfl (.cons aA .nil) (aC (aL aR.s.s.s.s) aO)) ?_))))
   rintro _ _ _ ⟨u21, rfl, rfl, rfl⟩
   refine ⟨(bV rfl rfl (fun F => (bI ty40 rfl (hs1.app F) rfl)) bU), ?_⟩
   refine gdo H fun h22 H => (w_p rfl (bR rfl rfl h22) (bdo H fun r23 h24 H => (cJ rfl (by decide) rfl cO rfl (n_callM (c_spec_l71Row g_v0 (v0.1, r19.2) (x_v0.1, ()) h24) (Solo.box bG) (fun _ => (Solo.box bG)) rfl (.cons aA .nil) (aC (aL aR.s.s.s.s) aO)) ?_)))
   rintro _ _ _ ⟨u25, rfl, rfl, rfl⟩
   refine ⟨(bV rfl rfl (fun F => (bI ty40 rfl (hs1.app F) rfl)) bU), ?_⟩
   refine w_p (v := .agg #[.int .i64 (1 + r19.1), .int .i64 (r23.1.1), .int .i64 (r23.1.2)]) rfl (p_buildS (vs := [(0, .int .i64 (1 + r19.1)), (1, .agg #[.int .i64 (r23.1.1), .int .i64 (r23.1.2)])]) (cs := #[.int .i64 (1 + r19.1), .int .i64 (r23.1.1), .int .i64 (r23.1.2)]) ty59 pl59 rfl rfl) (cJ rfl (by decide) rfl cO rfl (n_lit (vs := [(0, .agg #[.int .i64 (1 + r19.1), .int .i64 (r23.1.1), .int .i64 (r23.1.2)])]) [.int .i64 (1 + r19.1), .int .i64 (r23.1.1), .int .i64 (r23.1.2)] dP ty59 rfl (by decide) (by decide) (by kernel_rfl)) ?_)
   rintro _ _ _ ⟨g26, rfl, rfl, rfl⟩
   refine ⟨(bV rfl rfl (fun F => (bI ty40 rfl (hs2.app F) rfl)) bU), ?_⟩
   refine gdo H fun h29 H => (cJ rfl (by decide) rfl cO rfl (n_app1O (l := r2.2.1.1.2.2) (α := Sample) ((1 + r19.1), r23.1) ((), ((), ())) dP ty59 rfl rfl (h29.b (by decide)) h29.x rfl (.cons dl3 (.cons aA .nil)) cN) ?_)
   rintro _ _ _ ⟨a27, c28, rfl, rfl, rfl⟩
   refine ⟨(aM (by kernel_rfl) bU), ?_⟩
   refine w_p rfl (cB fa121_0 rfl rfl) (w_p rfl (cB fa42_2 rfl rfl) (cK rfl rfl cO rfl (n_store (cs' := [.slice x4.2.1.1.1.1 r2.2.1.1.1.1.length x4.2.1.1.1.2, .slice x4.2.1.1.2.1 r2.2.1.1.1.2.length x4.2.1.1.2.2, .slice x4.2.1.2.1.1 r2.2.1.1.2.1.length x4.2.1.2.1.2, .slice a27 ((r2.2.1.1.2.2 ++ [((1 + r19.1), r23.1)]).length) c28, .slice x4.2.2.1.1 r2.2.1.2.1.length x4.2.2.1.2, .slice x4.2.2.2.1.1 r2.2.1.2.2.1.length x4.2.2.2.1.2, .slice x4.2.2.2.2.1.1 r2.2.1.2.2.2.1.length x4.2.2.2.2.1.2, .int .i64 (r2.2.1.2.2.2.2)]) ty40 rfl rfl up2 rfl (one_of rfl) (Nat.le_of_ble_eq_true rfl) rfl) ?_))
   rintro _ _ _ ⟨rfl, rfl, rfl⟩
   refine ⟨(aM (by kernel_rfl) bU), ?_⟩
   refine cL ?_
   show At _ _ _ _ _ _
   refine nB (nT (sr (aI (bJ ty121 rfl hs2 rfl) (stb (cs' := [.slice x4.2.1.1.1.1 r2.2.1.1.1.1.length x4.2.1.1.1.2, .slice x4.2.1.1.2.1 r2.2.1.1.1.2.length x4.2.1.1.2.2, .slice x4.2.1.2.1.1 r2.2.1.1.2.1.length x4.2.1.2.1.2, .slice a27 ((r2.2.1.1.2.2 ++ [((1 + r19.1), r23.1)]).length) c28, .slice x4.2.2.1.1 r2.2.1.2.1.length x4.2.2.1.2, .slice x4.2.2.2.1.1 r2.2.1.2.2.1.length x4.2.2.2.1.2, .slice x4.2.2.2.2.1.1 r2.2.1.2.2.2.1.length x4.2.2.2.2.1.2, .int .i64 (r2.2.1.2.2.2.2)]) ty121 (up5t up1) (nl (bQ ?_))))))
   obtain rfl := si H
   exact back1 ((x4.2.1.1, x4.2.1.2.1, (a27, c28)), (x4.2.2.1, x4.2.2.2.1, x4.2.2.2.2.1, ())) rfl (ResV.agg ty121 rfl (hs5t hs1) rfl) rfl (cM aR.s (cM aR.s.s (cM aR.s.s.s cN))) (.cons aA (.cons dl2 (.cons dl2 (.cons dl2 (.cons aA .nil)))))
  ·refine sr (aG (cT rfl rfl) (aH rfl (nl (cH H rfl (fun h30 H => ?_) (fun h30 H => ?_)))))
   ·refine sr (aG (cB fa121_1 rfl rfl) (aG (cB fa76_0 rfl rfl) (aI (bI ty74 rfl hs1 rfl) (aG (bS 80 dW rfl) (aG (cU rfl rfl) (nl (cH H rfl (fun h31 H => ?_) (fun h31 H => ?_))))))))
    ·refine aP (aG (cB fa121_1 rfl rfl) (aG (cB fa76_0 rfl rfl) (aI (bI ty74 rfl hs1 rfl) (gdo H fun h32 H => (f2 (e_slO (l := r2.2.1.2.1) (α := File) 1 (r2.2.1.2.1.length : Int) dW ty80 rfl rfl (fun h => nomatch h) rfl (fun _ => rfl) h32 (.cons dl3 .nil) hs3) fun a33 c34 => (aG (cB fa121_1 rfl rfl) (aG (cB fa76_0 rfl rfl) (stb (cs' := [.slice x4.2.1.1.1.1 r2.2.1.1.1.1.length x4.2.1.1.1.2, .slice x4.2.1.1.2.1 r2.2.1.1.1.2.length x4.2.1.1.2.2, .slice x4.2.1.2.1.1 r2.2.1.1.2.1.length x4.2.1.2.1.2, .slice x4.2.1.2.2.1 r2.2.1.1.2.2.length x4.2.1.2.2.2, .slice a33 (((r2.2.1.2.1.take (r2.2.1.2.1.length : Int).toNat).drop 1).length) c34, .slice x4.2.2.2.1.1 r2.2.1.2.2.1.length x4.2.2.2.1.2, .slice x4.2.2.2.2.1.1 r2.2.1.2.2.2.1.length x4.2.2.2.2.1.2, .int .i64 (r2.2.1.2.2.2.2)]) ty74 up2 (aJ ?_)))))))))
     refine nB (nT (sr (aI (bJ ty121 rfl hs2 rfl) (stb (cs' := [.slice x4.2.1.1.1.1 r2.2.1.1.1.1.length x4.2.1.1.1.2, .slice x4.2.1.1.2.1 r2.2.1.1.1.2.length x4.2.1.1.2.2, .slice x4.2.1.2.1.1 r2.2.1.1.2.1.length x4.2.1.2.1.2, .slice x4.2.1.2.2.1 r2.2.1.1.2.2.length x4.2.1.2.2.2, .slice a33 (((r2.2.1.2.1.take (r2.2.1.2.1.length : Int).toNat).drop 1).length) c34, .slice x4.2.2.2.1.1 r2.2.1.2.2.1.length x4.2.2.2.1.2, .slice x4.2.2.2.2.1.1 r2.2.1.2.2.2.1.length x4.2.2.2.2.1.2, .int .i64 (r2.2.1.2.2.2.2)]) ty121 (up5t up1) (nl (bQ ?_))))))
     obtain rfl := si H
     exact back1 (x4.2.1, ((a33, c34), x4.2.2.2.1, x4.2.2.2.2.1, ())) rfl (ResV.agg ty121 rfl (hs5t hs1) rfl) rfl (cM aR.s (cM aR.s.s (cM aR.s.s.s cN))) (.cons dl3 (.cons aA (.cons dl2 (.cons dl2 (.cons aA .nil)))))
    ·refine bH (nB (nT (sr (aI (bJ ty121 rfl hs1 rfl) (stb (cs' := [.slice x4.2.1.1.1.1 r2.2.1.1.1.1.length x4.2.1.1.1.2, .slice x4.2.1.1.2.1 r2.2.1.1.1.2.length x4.2.1.1.2.2, .slice x4.2.1.2.1.1 r2.2.1.1.2.1.length x4.2.1.2.1.2, .slice x4.2.1.2.2.1 r2.2.1.1.2.2.length x4.2.1.2.2.2, .slice x4.2.2.1.1 r2.2.1.2.1.length x4.2.2.1.2, .slice x4.2.2.2.1.1 r2.2.1.2.2.1.length x4.2.2.2.1.2, .slice x4.2.2.2.2.1.1 r2.2.1.2.2.2.1.length x4.2.2.2.2.1.2, .int .i64 (r2.2.1.2.2.2.2)]) ty121 (up5t up1) (nl (bQ ?_)))))))
     obtain rfl := si H
     exact back1 (x4.2.1, (x4.2.2.1, x4.2.2.2.1, x4.2.2.2.2.1, ())) rfl (ResV.agg ty121 rfl (hs5t hs1) rfl) rfl (cM aR.s (cM aR.s.s (cM aR.s.s.s cN))) (.cons dl2 (.cons dl2 (.cons dl2 (.cons dl2 (.cons aA .nil)))))
   ·refine sr (aG (cT rfl rfl) (aH rfl (nl (cH H rfl (fun h35 H => ?_) (fun h35 H => ?_)))))
    ·refine dF [(4, .pointer (some ⟨g5, 0, none⟩)), (2, .pointer (some ⟨g1, 0, none⟩)), (0, .pointer (some ⟨g_v0, 0, none⟩))] 1 [0, 1, 2, 3, 4, 5, 6, 7, 8, 9] [4, 5, 6, 9] [] mixed (by kernel_rfl) (by decide) dH ⟨rfl, rfl, rfl, trivial⟩ rfl okNil (w_p rfl (cB fa121_1 rfl rfl) (w_p rfl (cB fa76_2 rfl rfl) ?_))
     refine w_o rfl (fun F => (bI ty35 rfl (hs1.app F) rfl)) (w_p rfl (aE rfl) (bdo H fun r36 h37 H => (cJ rfl (by decide) rfl cO rfl (n_callM (c_spec_l71Name g_v0 (v0.1, r6.2) (x_v0.1, ()) h37) (Solo.box bG) (fun _ => (bF (Solo.box bG))) rfl (.cons aA .nil) (aC (aL aR.s.s.s.s) aO)) ?_)))
     rintro _ _ _ ⟨x38, rfl, rfl, rfl⟩
     refine ⟨(bV rfl rfl (fun F => (bI ty35 rfl (hs2.app F) rfl)) bU), ?_⟩
     refine cJ rfl (by decide) rfl cO rfl (n_lit (vs := [(0, .slice x38.1 r36.1.length x38.2)]) [.slice x38.1 r36.1.length x38.2] dM ty105 rfl (by decide) (by decide) (by kernel_rfl)) ?_
     rintro _ _ _ ⟨g39, rfl, rfl, rfl⟩
     refine ⟨(bV rfl rfl (fun F => (bI ty35 rfl (hs3.app F) rfl)) bU), ?_⟩
     refine gdo H fun h42 H => (cJ rfl (by decide) rfl cO rfl (n_app1OT (l := r2.2.1.2.2.2.1) (α := (List Tag)) r36.1 x38 dM ty105 rfl rfl (h42.b (by decide)) h42.x rfl (.cons (dl5t dl2) (.cons aA (.cons aA .nil)))) ?_)
     rintro _ _ _ ⟨a40, c41, rfl, rfl, rfl⟩
     refine ⟨(aM (by kernel_rfl) bU), ?_⟩
     refine w_p rfl (cB fa121_1 rfl rfl) (w_p rfl (cB fa76_2 rfl rfl) (cK rfl rfl cO rfl (n_store (cs' := [.slice x4.2.1.1.1.1 r2.2.1.1.1.1.length x4.2.1.1.1.2, .slice x4.2.1.1.2.1 r2.2.1.1.1.2.length x4.2.1.1.2.2, .slice x4.2.1.2.1.1 r2.2.1.1.2.1.length x4.2.1.2.1.2, .slice x4.2.1.2.2.1 r2.2.1.1.2.2.length x4.2.1.2.2.2, .slice x4.2.2.1.1 r2.2.1.2.1.length x4.2.2.1.2, .slice x4.2.2.2.1.1 r2.2.1.2.2.1.length x4.2.2.2.1.2, .slice a40 ((r2.2.1.2.2.2.1 ++ [r36.1]).length) c41, .int .i64 (r2.2.1.2.2.2.2)]) ty35 rfl rfl up2 rfl (by simp [Value.cells, Value.oneCell']) (Nat.le_of_ble_eq_true rfl) rfl) ?_))
     rintro _ _ _ ⟨rfl, rfl, rfl⟩
     refine ⟨(aM (by kernel_rfl) bU), ?_⟩
     refine cL ?_
     show At _ _ _ _ _ _
     refine nB (nT (sr (aI (bJ ty121 rfl hs2 rfl) (g0 (e_store (cs' := [.slice x4.2.1.1.1.1 r2.2.1.1.1.1.length x4.2.1.1.1.2, .slice x4.2.1.1.2.1 r2.2.1.1.1.2.length x4.2.1.1.2.2, .slice x4.2.1.2.1.1 r2.2.1.1.2.1.length x4.2.1.2.1.2, .slice x4.2.1.2.2.1 r2.2.1.1.2.2.length x4.2.1.2.2.2, .slice x4.2.2.1.1 r2.2.1.2.1.length x4.2.2.1.2, .slice x4.2.2.2.1.1 r2.2.1.2.2.1.length x4.2.2.2.1.2, .slice a40 ((r2.2.1.2.2.2.1 ++ [r36.1]).length) c41, .int .i64 (r2.2.1.2.2.2.2)]) ty121 rfl rfl (up5t up1) rfl (by simp [Value.cells, Value.oneCell']) (Nat.le_of_ble_eq_true rfl) rfl) (nl (bQ ?_))))))
     obtain rfl := si H
     exact back1 (x4.2.1, (x4.2.2.1, x4.2.2.2.1, (a40, c41), ())) rfl (ResV.agg ty121 rfl (hs5t hs1) rfl) rfl (cM aR.s (cM aR.s.s (cM aR.s.s.s cN))) (.cons dl3 (.cons dl3 (.cons dl3 (.cons aA (.cons aA .nil)))))
    ·refine bH (nB (nT (sr (aI (bJ ty121 rfl hs1 rfl) (stb (cs' := [.slice x4.2.1.1.1.1 r2.2.1.1.1.1.length x4.2.1.1.1.2, .slice x4.2.1.1.2.1 r2.2.1.1.1.2.length x4.2.1.1.2.2, .slice x4.2.1.2.1.1 r2.2.1.1.2.1.length x4.2.1.2.1.2, .slice x4.2.1.2.2.1 r2.2.1.1.2.2.length x4.2.1.2.2.2, .slice x4.2.2.1.1 r2.2.1.2.1.length x4.2.2.1.2, .slice x4.2.2.2.1.1 r2.2.1.2.2.1.length x4.2.2.2.1.2, .slice x4.2.2.2.2.1.1 r2.2.1.2.2.2.1.length x4.2.2.2.2.1.2, .int .i64 (r2.2.1.2.2.2.2)]) ty121 (up5t up1) (nl (bQ ?_)))))))
     obtain rfl := si H
     exact back1 (x4.2.1, (x4.2.2.1, x4.2.2.2.1, x4.2.2.2.2.1, ())) rfl (ResV.agg ty121 rfl (hs5t hs1) rfl) rfl (cM aR.s (cM aR.s.s (cM aR.s.s.s cN))) (.cons dl2 (.cons dl2 (.cons dl2 (.cons dl2 (.cons aA .nil)))))
noncomputable def p_spec_DrawStoreRows (v0 : (List UInt8)) : Option (Store × Int) := bd (p_spec_l6Open v0) fun r2 => bd (p_spec_l72World r2) fun r5 => bd (p_spec_l6Rd_pick (r2.1, r5.2) (max (r5.1.1.1.1.length : Int) 1)) fun r9 => gd (I64 (1 + r9.1)) <| bd (p_spec_l6Rd_pick (r2.1, r9.2) 24) fun r13 => gd (I64 (r13.1.tdiv 23)) <| gd (I64 ((r13.1.tdiv 23) * 6)) <| gd (I64 ((1 + r9.1) + ((r13.1.tdiv 23) * 6))) <| some (r5.1.1, (1 + r9.1) + ((r13.1.tdiv 23) * 6))
theorem c_spec_DrawStoreRows {r : Store × Int} (v0 : (List UInt8)) (x_v0 : Option Addr × Nat) (H : p_spec_DrawStoreRows v0 = some r) : Fn' prog 24 #[.slice x_v0.1 v0.length x_v0.2] [imm (.slice x_v0.1 v0.length x_v0.2) v0] [] (ι := (((Option Addr × Nat) × (Option Addr × Nat)) × (Option Addr × Nat) × (Option Addr × Nat)) × Unit) (fun x => .tuple #[.agg #[.slice x.1.1.1.1 r.1.1.1.length x.1.1.1.2, .slice x.1.1.2.1 r.1.1.2.length x.1.1.2.2, .slice x.1.2.1.1 r.1.2.1.length x.1.2.1.2, .slice x.1.2.2.1 r.1.2.2.length x.1.2.2.2], .int .i64 (r.2)]) (fun x => [imm (.slice x.1.1.1.1 r.1.1.1.length x.1.1.1.2) r.1.1.1, imm (.slice x.1.1.2.1 r.1.1.2.length x.1.1.2.2) r.1.1.2, imm (.slice x.1.2.1.1 r.1.2.1.length x.1.2.1.2) r.1.2.1, imm (.slice x.1.2.2.1 r.1.2.2.length x.1.2.2.2) r.1.2.2]) (fun _ => []) := by
 refine cof (args := [_]) func24 ntmps24 fun c => ?_
 unfold p_spec_DrawStoreRows at H
 refine sr (f1 (cD ty42) fun g1 => (aH (v := .int .i64 (0)) rfl (nl (sr (aF rfl (bdo H fun r2 h3 H => (f1 (e_call (c_spec_l6Open v0 x_v0 h3) rfl (cM aR cN) bK) fun x4 => (aH rfl (nl (sr (aF rfl ?_)))))))))))
 refine bdo H fun r5 h6 H => (f1 (e_call (c_spec_l72World x4.1 r2 (x4.2.1, ()) h6) rfl (cM aR cN) (.cons aA .nil)) fun x7 => (aG (v := .agg #[.slice x7.1.1.1.1 r5.1.1.1.1.length x7.1.1.1.2, .slice x7.1.1.2.1 r5.1.1.1.2.length x7.1.1.2.2, .slice x7.1.2.1.1 r5.1.1.2.1.length x7.1.2.1.2, .slice x7.1.2.2.1 r5.1.1.2.2.length x7.1.2.2.2]) ((p_fieldA (vs := #[.slice x7.1.1.1.1 r5.1.1.1.1.length x7.1.1.1.2, .slice x7.1.1.2.1 r5.1.1.1.2.length x7.1.1.2.2, .slice x7.1.2.1.1 r5.1.1.2.1.length x7.1.2.1.2, .slice x7.1.2.2.1 r5.1.1.2.2.length x7.1.2.2.2]) underlying121 rfl ty42 rfl rfl)) (f1 (cD ty42) fun g8 => (stb (cs' := [.slice x7.1.1.1.1 r5.1.1.1.1.length x7.1.1.1.2, .slice x7.1.1.2.1 r5.1.1.1.2.length x7.1.1.2.2, .slice x7.1.2.1.1 r5.1.1.2.1.length x7.1.2.1.2, .slice x7.1.2.2.1 r5.1.1.2.2.length x7.1.2.2.2]) ty42 cX (nl (aD (dF [(5, .pointer (some ⟨g8, 0, none⟩)), (4, .pointer (some ⟨x4.1, 0, none⟩)), (2, .pointer (some ⟨g1, 0, none⟩))] 3 [0, 1, 2, 3, 4, 5, 6, 9, 7, 8, 10, 11, 12, 13, 14, 15] [7, 10, 14] [] mixed (by kernel_rfl) (by decide) dH ⟨rfl, rfl, rfl, trivial⟩ rfl okNil ?_)))))))
 refine w_o rfl (fun F => (bJ ty42 rfl (aB.app F) rfl)) (w_p rfl (aE rfl) (w_p rfl (cB fa42_0 rfl rfl) (w_p rfl (cB fa38_0 rfl rfl) ?_)))
 refine w_o rfl (fun F => (bI ty35 rfl (aB.app F) rfl)) (w_p rfl (bS 105 dM rfl) (w_p (v := .int .i64 (max (r5.1.1.1.1.length : Int) 1)) rfl (p_max rfl rfl) (w_p rfl (aE rfl) (bdo H fun r9 h10 H => (cJ rfl (by decide) rfl cO rfl (n_callM (c_spec_l6Rd_pick x4.1 (r2.1, r5.2) (x4.2.1, ()) (max (r5.1.1.1.1.length : Int) 1) h10) (Solo.box bG) (fun _ => (Solo.box bG)) rfl (.cons dl5 .nil) (aC (aL aR.s.s.s) aO)) ?_)))))
 rintro _ _ _ ⟨u11, rfl, rfl, rfl⟩
 refine ⟨(aM (by kernel_rfl) (bV rfl rfl (fun F => (bJ ty42 rfl (hs1.app F) rfl)) bU)), ?_⟩
 refine gdo H fun h12 H => (w_p rfl (bR rfl rfl h12) (bdo H fun r13 h14 H => (cJ rfl (by decide) rfl cO rfl (n_callM (c_spec_l6Rd_pick x4.1 (r2.1, r9.2) (x4.2.1, ()) 24 h14) (Solo.box bG) (fun _ => (Solo.box bG)) rfl (.cons aA .nil) (aC (aL aR.s.s.s) aO)) ?_)))
 rintro _ _ _ ⟨u15, rfl, rfl, rfl⟩
 refine ⟨(bV rfl rfl (fun F => (bI ty35 rfl (hs1.app F) rfl)) (bV rfl rfl (fun F => (bJ ty42 rfl (hs1.app F) rfl)) bU)), ?_⟩
 refine gdo H fun h16 H => (w_p rfl (p_quo rfl rfl (by decide) h16) (gdo H fun h17 H => (w_p rfl (p_mul rfl rfl h17) (gdo H fun h18 H => (w_p rfl (bR rfl rfl h18) (cK rfl rfl cO rfl (n_store (cs' := [.slice x7.1.1.1.1 r5.1.1.1.1.length x7.1.1.1.2, .slice x7.1.1.2.1 r5.1.1.1.2.length x7.1.1.2.2, .slice x7.1.2.1.1 r5.1.1.2.1.length x7.1.2.1.2, .slice x7.1.2.2.1 r5.1.1.2.2.length x7.1.2.2.2]) ty42 rfl rfl (up5t up1) rfl (one_of rfl) (Nat.le_of_ble_eq_true rfl) rfl) ?_))))))
 rintro _ _ _ ⟨rfl, rfl, rfl⟩
 refine ⟨(bV rfl rfl (fun F => (bI ty35 rfl (hs1.app F) rfl)) (aM (by kernel_rfl) bU)), ?_⟩
 refine w_p rfl (p_assign rfl) (cL (nT (Tr.freezeO (.cons dl2 .nil) (bQ ?_))))
 obtain rfl := si H
 exact back2 (x7.1, ()) rfl (ResV.agg ty42 rfl hs5 rfl) (ResV.tmp (v := .int .i64 ((1 + r9.1) + ((r13.1.tdiv 23) * 6))) rfl) rfl (cM aR.s (cM aR.s.s (cM aR.s.s.s (cM aR cN)))) bK
noncomputable def p_impl_StoreRows (v0 : Store) (v1 : Int) : Option ((List Row)) := bd (bd (p_impl_StoreOk v0) fun r7 => cond (!r7) (some (true)) (bd (p_impl_within v1 1 (v0.1.1.length : Int)) fun r10 => some (!r10))) fun b5 => cond (b5) (some ([] : List Row)) (bd (p_impl_Store_rows v0 v1) fun r15 => some r15)
theorem c_impl_StoreRows {r : (List Row)} (v0 : Store) (x_v0 : ((Option Addr × Nat) × (Option Addr × Nat)) × (Option Addr × Nat) × (Option Addr × Nat)) (v1 : Int) (H : p_impl_StoreRows v0 v1 = some r) : Fn' prog 25 #[.agg #[.slice x_v0.1.1.1 v0.1.1.length x_v0.1.1.2, .slice x_v0.1.2.1 v0.1.2.length x_v0.1.2.2, .slice x_v0.2.1.1 v0.2.1.length x_v0.2.1.2, .slice x_v0.2.2.1 v0.2.2.length x_v0.2.2.2], .int .i64 (v1)] [imm (.slice x_v0.1.1.1 v0.1.1.length x_v0.1.1.2) v0.1.1, imm (.slice x_v0.1.2.1 v0.1.2.length x_v0.1.2.2) v0.1.2, imm (.slice x_v0.2.1.1 v0.2.1.length x_v0.2.1.2) v0.2.1, imm (.slice x_v0.2.2.1 v0.2.2.length x_v0.2.2.2) v0.2.2] [] (ι := Option Addr × Nat) (fun x => .slice x.1 r.length x.2) (fun _ => []) (fun x => [tree (.slice x.1 r.length x.2) r]) := by
 refine cof (args := [_, _]) func25 ntmps25 fun c => ?_
 unfold p_impl_StoreRows at H
 refine bM aR fun X1 => (bM aR.s.s fun X2 => (bM aR.s.s.s.s fun X3 => (sr (f1 (cC (t := 42) rfl) fun g4 => (aH (v := .slice none 0 0) rfl (nl (aD (bdo H fun b5 j6 H => (dC [(16, .bool (b5)), (2, .pointer (some ⟨g4, 0, none⟩)), (1, .int .i64 (v1))] ?_ ?_)))))))))
 ·refine dG [(2, .pointer (some ⟨g4, 0, none⟩)), (1, .int .i64 (v1))] ⟨rfl, rfl, trivial⟩ (aZ (bJ ty42 rfl aB rfl) (bdo j6 fun r7 h8 j6 => (aZ (bN (c_impl_StoreOk v0 x_v0 h8) rfl (aC (aL (aS aR.s.s)) (aC (aL (aS aR.s)) (aC (aL (aS aR)) (aC (aL aR.s.s.s.s.s.s) aO))))) (aX (cV rfl) ?_))))
  rcases aK (!r7) with h9 | h9
  ·have j6 := cdT h9 j6
   refine bC (aE rfl) h9 ?_
   iterate 7 refine bE rfl ?_
   refine aX (v := .bool (true)) (bP rfl rfl) ?_
   obtain rfl := si j6
   show At _ _ _ _ _ _
   exact n1 ⟨rfl, rfl, rfl, trivial⟩
  ·have j6 := cdF h9 j6
   refine bC (aE rfl) h9 (aY rfl (aE rfl) (aY rfl (cB fa42_0 rfl rfl) (aY rfl (cB fa38_0 rfl rfl) (bA rfl (bI ty35 rfl aB rfl) (aY rfl (bS 105 dM rfl) (bdo j6 fun r10 h11 j6 => (bA rfl (bN (c_impl_within v1 1 (v0.1.1.length : Int) h11) rfl aO) (aY rfl (cV rfl) (aX (bO rfl rfl) ?_)))))))))
   obtain rfl := si j6
   show At _ _ _ _ _ _
   exact n1 ⟨rfl, rfl, rfl, trivial⟩
 refine cH H rfl (fun h12 H => ?_) (fun h12 H => ?_)
 ·refine sr (f2 (e_lit0 Row dT ty57) fun a13 c14 => (aH rfl (nl (bQ (rT (?_))))))
  obtain rfl := si H
  exact back1 (a13, c14) rfl (ResV.tmp (v := .slice a13 (([] : List Row).length) c14) rfl) rfl cN (.cons aA .nil)
 ·refine bH (nT (sr (aI (bJ ty42 rfl aB rfl) (aF rfl (bdo H fun r15 h16 H => (f1 (cF (c_impl_Store_rows v0 x_v0 v1 h16) (fun _ => (bF bG)) rfl (aC (aL (aS aR.s.s)) (aC (aL (aS aR.s)) (aC (aL (aS aR)) (aC (aL aR.s.s.s.s.s.s) aO))))) fun x17 => (aH rfl (nl (bQ ?_)))))))))
  obtain rfl := si H
  exact back1 x17 rfl (ResV.tmp (v := .slice x17.1 r15.length x17.2) rfl) rfl cN (.cons aA .nil)
noncomputable def p_spec_StoreRows (v0 : Store) (v1 : Int) : Option ((List Row)) := bd (bd (p_spec_StoreOk v0) fun r7 => cond (!r7) (some (true)) (bd (p_spec_l6In v1 1 (v0.1.1.length : Int)) fun r10 => some (!r10))) fun b5 => cond (b5) (some ([] : List Row)) (bd (p_spec_l13Rows v0 v1) fun r15 => some r15)
theorem c_spec_StoreRows {r : (List Row)} (v0 : Store) (x_v0 : ((Option Addr × Nat) × (Option Addr × Nat)) × (Option Addr × Nat) × (Option Addr × Nat)) (v1 : Int) (H : p_spec_StoreRows v0 v1 = some r) : Fn' prog 27 #[.agg #[.slice x_v0.1.1.1 v0.1.1.length x_v0.1.1.2, .slice x_v0.1.2.1 v0.1.2.length x_v0.1.2.2, .slice x_v0.2.1.1 v0.2.1.length x_v0.2.1.2, .slice x_v0.2.2.1 v0.2.2.length x_v0.2.2.2], .int .i64 (v1)] [imm (.slice x_v0.1.1.1 v0.1.1.length x_v0.1.1.2) v0.1.1, imm (.slice x_v0.1.2.1 v0.1.2.length x_v0.1.2.2) v0.1.2, imm (.slice x_v0.2.1.1 v0.2.1.length x_v0.2.1.2) v0.2.1, imm (.slice x_v0.2.2.1 v0.2.2.length x_v0.2.2.2) v0.2.2] [] (ι := Option Addr × Nat) (fun x => .slice x.1 r.length x.2) (fun x => [imm (.slice x.1 r.length x.2) r]) (fun _ => []) := by
 refine cof (args := [_, _]) func27 ntmps27 fun c => ?_
 unfold p_spec_StoreRows at H
 refine bM aR fun X1 => (bM aR.s.s fun X2 => (bM aR.s.s.s.s fun X3 => (sr (f1 (cC (t := 42) rfl) fun g4 => (aH (v := .slice none 0 0) rfl (nl (aD (bdo H fun b5 j6 H => (dC [(16, .bool (b5)), (2, .pointer (some ⟨g4, 0, none⟩)), (1, .int .i64 (v1))] ?_ ?_)))))))))
 ·refine dG [(2, .pointer (some ⟨g4, 0, none⟩)), (1, .int .i64 (v1))] ⟨rfl, rfl, trivial⟩ (aZ (bJ ty42 rfl aB rfl) (bdo j6 fun r7 h8 j6 => (aZ (bN (c_spec_StoreOk v0 x_v0 h8) rfl (aC (aL (aS aR.s.s)) (aC (aL (aS aR.s)) (aC (aL (aS aR)) (aC (aL aR.s.s.s.s.s.s) aO))))) (aX (cV rfl) ?_))))
  rcases aK (!r7) with h9 | h9
  ·have j6 := cdT h9 j6
   refine bC (aE rfl) h9 ?_
   iterate 7 refine bE rfl ?_
   refine aX (v := .bool (true)) (bP rfl rfl) ?_
   obtain rfl := si j6
   show At _ _ _ _ _ _
   exact n1 ⟨rfl, rfl, rfl, trivial⟩
  ·have j6 := cdF h9 j6
   refine bC (aE rfl) h9 (aY rfl (aE rfl) (aY rfl (cB fa42_0 rfl rfl) (aY rfl (cB fa38_0 rfl rfl) (bA rfl (bI ty35 rfl aB rfl) (aY rfl (bS 105 dM rfl) (bdo j6 fun r10 h11 j6 => (bA rfl (bN (c_spec_l6In v1 1 (v0.1.1.length : Int) h11) rfl aO) (aY rfl (cV rfl) (aX (bO rfl rfl) ?_)))))))))
   obtain rfl := si j6
   show At _ _ _ _ _ _
   exact n1 ⟨rfl, rfl, rfl, trivial⟩
 refine cH H rfl (fun h12 H => ?_) (fun h12 H => ?_)
 ·refine sr (f2 (e_lit0 Row dT ty57) fun a13 c14 => (aH rfl (nl (Tr.freeze (.cons aA .nil) (bQ (rT (?_)))))))
  obtain rfl := si H
  exact back1 (a13, c14) rfl (ResV.tmp (v := .slice a13 (([] : List Row).length) c14) rfl) rfl (cM aR cN) bK
 ·refine bH (nT (sr (aI (bJ ty42 rfl aB rfl) (aF rfl (bdo H fun r15 h16 H => (f1 (cF (c_spec_l13Rows v0 x_v0 v1 h16) (fun _ => (bF bG)) rfl (aC (aL (aS aR.s.s)) (aC (aL (aS aR.s)) (aC (aL (aS aR)) (aC (aL aR.s.s.s.s.s.s) aO))))) fun x17 => (aH rfl (nl (Tr.freeze (.cons aA .nil) (bQ ?_))))))))))
  obtain rfl := si H
  exact back1 x17 rfl (ResV.tmp (v := .slice x17.1 r15.length x17.2) rfl) rfl (cM aR cN) bK
noncomputable def p_laws_lyRows_b0 (v0 : (List Row)) (v1 : (List Row)) (Q6 : Int) : Option ((Int) ⊕ (Unit ⊕ Bool)) := cond (decide (Q6 < (v0.length : Int))) (gd (ix Q6 v0.length) <| gd (ix Q6 v1.length) <| cond (!decide (nth v0 Q6.toNat = nth v1 Q6.toNat)) (some (.inr (.inr false))) (gd (I64 (Q6 + 1)) <| some (.inl (Q6 + 1)))) (some (.inr (.inl ())))
noncomputable def p_laws_lyRows (v0 : (List Row)) (v1 : (List Row)) : Option (Bool) := cond (!decide ((v0.length : Int) = (v1.length : Int))) (some false) (bd (lp (p_laws_lyRows_b0 v0 v1) 0) <| sw (fun _ => some true) (fun q => some q))
theorem c_laws_lyRows {r : Bool} (v0 : (List Row)) (x_v0 : Option Addr × Nat) (v1 : (List Row)) (x_v1 : Option Addr × Nat) (H : p_laws_lyRows v0 v1 = some r) : Fn' prog 26 #[.slice x_v0.1 v0.length x_v0.2, .slice x_v1.1 v1.length x_v1.2] [imm (.slice x_v0.1 v0.length x_v0.2) v0, imm (.slice x_v1.1 v1.length x_v1.2) v1] [] (ι := Unit) (fun _ => .bool (r)) (fun _ => []) (fun _ => []) := by
 refine cof (args := [_, _]) func26 ntmps26 fun c => ?_
 unfold p_laws_lyRows at H
 refine sr (aH (v := .bool (false)) rfl (nl (aD (sr (aF rfl (aG (bS 57 dT rfl) (aF rfl (aG (bS 57 dT rfl) (aG (cS rfl rfl) (nl (cH H rfl (fun h1 H => ?_) (fun h1 H => ?_))))))))))))
 ·refine sr (aH (v := .bool (false)) rfl (nl (bQ (rT (?_)))))
  obtain rfl := si H
  exact bk
 ·refine bH (nT (aD (sr (aH (v := .int .i64 (0)) rfl (nl (bdo H fun x2 hx3 H => (dB (Λ := Unit) H (fun _ _ => []) (fun _ _ => []) ?_ ?_)))))))
  ·refine aQ (dD hx3 () (fun Q6 _ => [(0, .slice x_v0.1 v0.length x_v0.2), (1, .slice x_v1.1 v1.length x_v1.2), (5, .int .i64 (Q6))]) (fun _ _ => []) bK ?_)
   rintro _ Q6 z7 t9 H1 hi10 hb11
   unfold p_laws_lyRows_b0 at H1
   refine aD (sr (aF rfl (aF rfl (aG (bS 57 dT rfl) (aG (cQ rfl rfl) (nl (cH H1 rfl (fun h14 H1 => ?_) (fun h14 H1 => ?_))))))))
   ·refine bH (nT (aD (aQ (aD (dE [(0, .slice x_v0.1 v0.length x_v0.2), (1, .slice x_v1.1 v1.length x_v1.2), (5, .int .i64 (Q6))] mixed (.inr (by kernel_rfl)) ⟨rfl, rfl, rfl, trivial⟩ rfl (bB rfl (bB rfl (gdo H1 fun h15 H1 => (aZ (bW dT ty57 rfl rfl h15 rfl (aN (aL aR))) (aZ (v := .agg #[.int .i64 ((nth v0 Q6.toNat).1), .int .i64 ((nth v0 Q6.toNat).2)]) (cA (i := Q6.toNat) ty57 rfl (aN (aL aR)) h15.lt) ?_))))))))))
    refine bB rfl (bB rfl (gdo H1 fun h16 H1 => (aZ (bW dT ty57 rfl rfl h16 rfl (aN (aL aR.s))) (aZ (v := .agg #[.int .i64 ((nth v1 Q6.toNat).1), .int .i64 ((nth v1 Q6.toNat).2)]) (cA (i := Q6.toNat) ty57 rfl (aN (aL aR.s)) h16.lt) (aX (v := .bool (!decide (nth v0 Q6.toNat = nth v1 Q6.toNat))) (p_aneq (a := nth v0 Q6.toNat) (b := nth v1 Q6.toNat) ae57 rfl rfl rfl rfl) (nT (cH H1 rfl (fun h17 H1 => ?_) (fun h17 H1 => ?_))))))))
    ·refine sr (aH (v := .bool (false)) rfl (nl (bQ (rB (rT (rT (rB (rT (rT (?_))))))))))
     obtain rfl := hb11 _ (sm H1)
     replace H := sw.r H
     obtain rfl := si H
     exact bk
    ·exact bH (nB (nT (aP (aF rfl (gdo H1 fun h18 H1 => (aG (bR rfl rfl h18) (aH rfl (aJ (nLI () (hi10 _ (sm H1)) bK)))))))))
   ·exact cZ (xT (xT (xE (nMI () (hb11 _ (sm H1)) bK))))
  ·rintro e19 y8 H
   refine nT (sr (aH (v := .bool (true)) rfl (nl ?_)))
   obtain rfl := si H
   exact bQ bk
noncomputable def p_impl_BlockMerge_b0 (v1 : (List Row)) (Q20 : (List Row) × Int) : Option (((List Row) × Int) ⊕ ((List Row))) := cond (decide (Q20.2 < (v1.length : Int))) (gd (ix Q20.2 v1.length) <| bd (p_impl_put Q20.1 (nth v1 Q20.2.toNat)) fun r31 => gd (I64 (Q20.2 + 1)) <| some (.inl (r31, Q20.2 + 1))) (some (.inr Q20.1))
noncomputable def p_impl_BlockMerge (v0 : (List Row)) (v1 : (List Row)) : Option ((List Row) × Bool) := bd (bd (p_impl_BlockOk v0) fun r3 => cond (!r3) (some (true)) (bd (p_impl_BlockOk v1) fun r6 => some (!r6))) fun b1 => cond (b1) (some (([] : List Row), false)) (gd (room (([] : List Row).length + v0.length)) <| bd (lp (p_impl_BlockMerge_b0 v1) ((([] : List Row) ++ v0), 0)) fun x16 => cond (decide (24 < (x16.length : Int))) (some (([] : List Row), false)) (some (x16, true)))
theorem c_impl_BlockMerge {r : (List Row) × Bool} (v0 : (List Row)) (x_v0 : Option Addr × Nat) (v1 : (List Row)) (x_v1 : Option Addr × Nat) (H : p_impl_BlockMerge v0 v1 = some r) : Fn' prog 28 #[.slice x_v0.1 v0.length x_v0.2, .slice x_v1.1 v1.length x_v1.2] [imm (.slice x_v0.1 v0.length x_v0.2) v0, imm (.slice x_v1.1 v1.length x_v1.2) v1] [] (ι := (Option Addr × Nat) × Unit) (fun x => .tuple #[.slice x.1.1 r.1.length x.1.2, .bool (r.2)]) (fun _ => []) (fun x => [tree (.slice x.1.1 r.1.length x.1.2) r.1]) := by
 refine cof (args := [_, _]) func28 ntmps28 fun c => ?_
 unfold p_impl_BlockMerge at H
 refine sr (aH (v := .slice none 0 0) rfl (aH (v := .bool (false)) rfl (nl (aD (bdo H fun b1 j2 H => (dC [(16, .bool (b1)), (0, .slice x_v0.1 v0.length x_v0.2), (1, .slice x_v1.1 v1.length x_v1.2)] ?_ ?_))))))
 ·refine dG [(0, .slice x_v0.1 v0.length x_v0.2), (1, .slice x_v1.1 v1.length x_v1.2)] ⟨rfl, rfl, trivial⟩ (bB rfl (bdo j2 fun r3 h4 j2 => (aZ (bN (c_impl_BlockOk v0 x_v0 h4) rfl (aC (aL aR) aO)) (aX (cV rfl) ?_))))
  rcases aK (!r3) with h5 | h5
  ·have j2 := cdT h5 j2
   refine bC (aE rfl) h5 ?_
   iterate 3 refine bE rfl ?_
   refine aX (v := .bool (true)) (bP rfl rfl) ?_
   obtain rfl := si j2
   show At _ _ _ _ _ _
   exact n1 ⟨rfl, rfl, rfl, trivial⟩
  ·have j2 := cdF h5 j2
   refine bC (aE rfl) h5 (aY rfl (aE rfl) (bdo j2 fun r6 h7 j2 => (bA rfl (bN (c_impl_BlockOk v1 x_v1 h7) rfl (aC (aL aR.s) aO)) (aY rfl (cV rfl) (aX (bO rfl rfl) ?_)))))
   obtain rfl := si j2
   show At _ _ _ _ _ _
   exact n1 ⟨rfl, rfl, rfl, trivial⟩
 refine cH H rfl (fun h8 H => ?_) (fun h8 H => ?_)
 ·refine sr (f2 (e_lit0 Row dT ty57) fun a9 c10 => (aH rfl (aH (v := .bool (false)) rfl (nl (bQ (rT (?_)))))))
  obtain rfl := si H
  exact back2 ((a9, c10), ()) rfl (ResV.tmp (v := .slice a9 (([] : List Row).length) c10) rfl) (ResV.tmp (v := .bool (false)) rfl) rfl cN (.cons aA .nil)
 ·refine bH (nT (sr (f2 (e_lit0 Row dT ty57) fun a11 c12 => (aF rfl (gdo H fun h15 H => (f2 (e_appF (l := ([] : List Row)) (k := v0) (α := Row) dT ty57 rfl rfl (h15.b (by decide)) h15.x (.cons aA .nil) (aL aR)) fun a13 c14 => (aH rfl (nl (aD (sr (aF rfl ?_)))))))))))
  refine aG (bS 57 dT rfl) (aF (v := .int .i64 (0)) rfl (nl (bdo H fun x16 hx17 H => (dA (ι := Option Addr × Nat) (fun ψ => [(6, .slice ψ.1 x16.length ψ.2)]) (fun ψ => [tree (.slice ψ.1 x16.length ψ.2) x16]) ?_ ?_))))
  ·refine aQ (dD hx17 (a13, c14) (fun Q20 z21 => [(6, .slice z21.1 Q20.1.length z21.2), (21, .slice x_v1.1 v1.length x_v1.2), (22, .int .i64 ((v1.length : Int))), (23, .int .i64 (Q20.2))]) (fun Q20 z21 => [tree (.slice z21.1 Q20.1.length z21.2) Q20.1]) (.cons aA .nil) ?_)
   rintro _ Q20 z21 t23 H1 hi24 hb25
   unfold p_impl_BlockMerge_b0 at H1
   refine sr (aG (cQ rfl rfl) (nl (aD (cH H1 rfl (fun h28 H1 => ?_) (fun h28 H1 => ?_)))))
   ·refine bH (nT (aD (aQ (sr (gdo H1 fun h29 H1 => (aI (bW dT ty57 rfl rfl h29 rfl (aN (aL aR.s))) (aI (v := .agg #[.int .i64 ((nth v1 Q20.2.toNat).1), .int .i64 ((nth v1 Q20.2.toNat).2)]) (cA (i := Q20.2.toNat) ty57 rfl (aN (aL aR.s)) h29.lt) (f1 (cD ty57) fun g30 => (stb (cs' := [.int .i64 ((nth v1 Q20.2.toNat).1), .int .i64 ((nth v1 Q20.2.toNat).2)]) ty57 cX (nl ?_))))))))))
    refine aP (aF rfl (aI (bJ ty57 rfl aB rfl) (bdo H1 fun r31 h32 H1 => (f1 (cF (c_impl_put Q20.1 z21 (nth v1 Q20.2.toNat) h32) (fun _ => (bF bG)) rfl (aC (bL hs1) aO)) fun x33 => (aH rfl (aJ (nB (nT (aP (gdo H1 fun h34 H1 => (aG (bR rfl rfl h34) ?_)))))))))))
    exact aF rfl (aJ (nLI (x33.1, x33.2) (hi24 _ (sm H1)) (.cons aA .nil)))
   ·refine cZ (xT (xT (xE (?_))))
    obtain rfl := hb25 _ (sm H1)
    exact nMC (z21.1, z21.2) ⟨rfl, trivial⟩ bT (.cons aA .nil)
  ·intro y22
   show At _ _ [(6, .slice y22.1 x16.length y22.2)] _ [tree (.slice y22.1 x16.length y22.2) x16] _
   refine nT (aD (sr (aF rfl (aG (bS 57 dT rfl) (aG (cU rfl rfl) (nl (cH H rfl (fun h35 H => ?_) (fun h35 H => ?_))))))))
   ·refine sr (f2 (e_lit0 Row dT ty57) fun a36 c37 => (aH rfl (aH (v := .bool (false)) rfl (nl (bQ (rT (?_)))))))
    obtain rfl := si H
    exact back2 ((a36, c37), ()) rfl (ResV.tmp (v := .slice a36 (([] : List Row).length) c37) rfl) (ResV.tmp (v := .bool (false)) rfl) rfl cN (.cons aA .nil)
   ·refine bH (nT (sr (aF rfl (aH rfl (aH (v := .bool (true)) rfl (nl (bQ ?_)))))))
    obtain rfl := si H
    exact back2 (y22, ()) rfl (ResV.tmp (v := .slice y22.1 x16.length y22.2) rfl) (ResV.tmp (v := .bool (true)) rfl) rfl cN (.cons aA .nil)
noncomputable def p_impl_BlockPut (v0 : (List Row)) (v1 : Row) : Option ((List Row) × Bool) := bd (bd (p_impl_BlockOk v0) fun r4 => cond (!r4) (some (true)) (bd (p_impl_rowOk v1) fun r7 => some (!r7))) fun b2 => cond (b2) (some (([] : List Row), false)) (bd (p_impl_put v0 v1) fun r12 => cond (decide (24 < (r12.length : Int))) (gd (room (([] : List Row).length + v0.length)) <| some (([] : List Row) ++ v0, false)) (some (r12, true)))
theorem c_impl_BlockPut {r : (List Row) × Bool} (v0 : (List Row)) (x_v0 : Option Addr × Nat) (v1 : Row) (H : p_impl_BlockPut v0 v1 = some r) : Fn' prog 30 #[.slice x_v0.1 v0.length x_v0.2, .agg #[.int .i64 (v1.1), .int .i64 (v1.2)]] [imm (.slice x_v0.1 v0.length x_v0.2) v0] [] (ι := (Option Addr × Nat) × Unit) (fun x => .tuple #[.slice x.1.1 r.1.length x.1.2, .bool (r.2)]) (fun _ => []) (fun x => [tree (.slice x.1.1 r.1.length x.1.2) r.1]) := by
 refine cof (args := [_, _]) func30 ntmps30 fun c => ?_
 unfold p_impl_BlockPut at H
 refine sr (f1 (cC (t := 57) rfl) fun g1 => (aH (v := .slice none 0 0) rfl (aH (v := .bool (false)) rfl (nl (aD (bdo H fun b2 j3 H => (dC [(14, .bool (b2)), (3, .pointer (some ⟨g1, 0, none⟩)), (0, .slice x_v0.1 v0.length x_v0.2)] ?_ ?_)))))))
 ·refine dG [(3, .pointer (some ⟨g1, 0, none⟩)), (0, .slice x_v0.1 v0.length x_v0.2)] ⟨rfl, rfl, trivial⟩ (bB rfl (bdo j3 fun r4 h5 j3 => (aZ (bN (c_impl_BlockOk v0 x_v0 h5) rfl (aC (aL aR) aO)) (aX (cV rfl) ?_))))
  rcases aK (!r4) with h6 | h6
  ·have j3 := cdT h6 j3
   refine bC (aE rfl) h6 ?_
   iterate 3 refine bE rfl ?_
   refine aX (v := .bool (true)) (bP rfl rfl) ?_
   obtain rfl := si j3
   show At _ _ _ _ _ _
   exact n1 ⟨rfl, rfl, rfl, trivial⟩
  ·have j3 := cdF h6 j3
   refine bC (aE rfl) h6 (bA rfl (bJ ty57 rfl aB rfl) (bdo j3 fun r7 h8 j3 => (bA rfl (bN (c_impl_rowOk v1 h8) rfl aO) (aY rfl (cV rfl) (aX (bO rfl rfl) ?_)))))
   obtain rfl := si j3
   show At _ _ _ _ _ _
   exact n1 ⟨rfl, rfl, rfl, trivial⟩
 refine cH H rfl (fun h9 H => ?_) (fun h9 H => ?_)
 ·refine sr (f2 (e_lit0 Row dT ty57) fun a10 c11 => (aH rfl (aH (v := .bool (false)) rfl (nl (bQ (rT (?_)))))))
  obtain rfl := si H
  exact back2 ((a10, c11), ()) rfl (ResV.tmp (v := .slice a10 (([] : List Row).length) c11) rfl) (ResV.tmp (v := .bool (false)) rfl) rfl cN (.cons aA .nil)
 ·refine bH (nT (sr (aF rfl (aI (bJ ty57 rfl aB rfl) (bdo H fun r12 h13 H => (f1 (cF (c_impl_put v0 x_v0 v1 h13) (fun _ => (bF bG)) rfl (aC (aL aR) aO)) fun x14 => (aH rfl (nl (aD (sr (aF rfl ?_)))))))))))
  refine aG (bS 57 dT rfl) (aG (cU rfl rfl) (nl (cH H rfl (fun h15 H => ?_) (fun h15 H => ?_))))
  ·refine sr (f2 (e_lit0 Row dT ty57) fun a16 c17 => (aF rfl (gdo H fun h20 H => (f2 (e_appF (l := ([] : List Row)) (k := v0) (α := Row) dT ty57 rfl rfl (h20.b (by decide)) h20.x (.cons aA .nil) (aL aR)) fun a18 c19 => (aH rfl (aH (v := .bool (false)) rfl (nl (bQ (rT (?_))))))))))
   obtain rfl := si H
   exact back2 ((a18, c19), ()) rfl (ResV.tmp (v := .slice a18 ((([] : List Row) ++ v0).length) c19) rfl) (ResV.tmp (v := .bool (false)) rfl) rfl cN (.cons aA .nil)
  ·refine bH (nT (sr (aF rfl (aH rfl (aH (v := .bool (true)) rfl (nl (bQ ?_)))))))
   obtain rfl := si H
   exact back2 (x14, ()) rfl (ResV.tmp (v := .slice x14.1 r12.length x14.2) rfl) (ResV.tmp (v := .bool (true)) rfl) rfl cN (.cons aA .nil)
noncomputable def p_laws_FnStoreRows_b0 (r2 : Store × Int) (Q30 : (List Row) × Int) : Option (((List Row) × Int) ⊕ ((List Row) ⊕ Bool)) := cond (decide (Q30.2 < (r2.1.2.1.length : Int))) (gd (ix Q30.2 r2.1.2.1.length) <| bd (p_impl_PartOf (nth r2.1.2.1 Q30.2.toNat) r2.2) fun r41 => bd (p_impl_BlockMerge Q30.1 r41) fun r44 => cond (!r44.2) (some (.inr (.inr false))) (gd (I64 (Q30.2 + 1)) <| some (.inl (r44.1, Q30.2 + 1)))) (some (.inr (.inl Q30.1)))
noncomputable def p_laws_FnStoreRows_b1 (r2 : Store × Int) (Q54 : (List Row) × Int) : Option (((List Row) × Int) ⊕ ((List Row) ⊕ Bool)) := cond (decide (Q54.2 < (r2.1.2.2.length : Int))) (gd (ix Q54.2 r2.1.2.2.length) <| cond (decide (((nth r2.1.2.2 Q54.2.toNat).1) = r2.2)) (bd (p_impl_BlockPut Q54.1 ((nth r2.1.2.2 Q54.2.toNat).2)) fun r65 => cond (!r65.2) (some (.inr (.inr false))) (gd (I64 (Q54.2 + 1)) <| some (.inl (r65.1, Q54.2 + 1)))) (gd (I64 (Q54.2 + 1)) <| some (.inl (Q54.1, Q54.2 + 1)))) (some (.inr (.inl Q54.1)))
noncomputable def p_laws_FnStoreRows (v0 : (List UInt8)) : Option (Bool) := cond (decide (1048576 < (v0.length : Int))) (some true) (bd (p_spec_DrawStoreRows v0) fun r2 => bd (p_impl_StoreRows r2.1 r2.2) fun r6 => bd (p_spec_StoreRows r2.1 r2.2) fun r9 => bd (p_laws_lyRows r6 r9) fun r12 => cond (!r12) (some r12) (bd (p_spec_StoreOk r2.1) fun r16 => cond (!r16) (some r12) (cond (decide (r2.2 < 1)) (some r12) (cond (decide ((r2.1.1.1.length : Int) < r2.2)) (some r12) (bd (lp (p_laws_FnStoreRows_b0 r2) (([] : List Row), 0)) <| sw (fun e49 => bd (lp (p_laws_FnStoreRows_b1 r2) (e49, 0)) <| sw (fun e71 => bd (p_laws_lyRows r6 e71) fun r72 => some r72) (fun q => some q)) (fun q => some q))))))
theorem c_laws_FnStoreRows {r : Bool} (v0 : (List UInt8)) (x_v0 : Option Addr × Nat) (H : p_laws_FnStoreRows v0 = some r) : Fn' prog 5 #[.slice x_v0.1 v0.length x_v0.2] [imm (.slice x_v0.1 v0.length x_v0.2) v0] [] (ι := Unit) (fun _ => .bool (r)) (fun _ => []) (fun _ => []) := by
 refine cof (args := [_]) func5 ntmps5 fun c => ?_
 unfold p_laws_FnStoreRows at H
 refine sr (aH (v := .bool (false)) rfl (nl (aD (sr (aF rfl (aG (bS 5 dS rfl) (aG (cU rfl rfl) (nl (cH H rfl (fun h1 H => ?_) (fun h1 H => ?_))))))))))
 ·refine sr (aH (v := .bool (true)) rfl (nl (bQ (rT (?_)))))
  obtain rfl := si H
  exact bk
 ·refine bH (nT (sr (aF rfl (bdo H fun r2 h3 H => (f1 (e_call (c_spec_DrawStoreRows v0 x_v0 h3) rfl (cM aR cN) bK) fun x4 => (aF rfl (aG (cY rfl rfl) (aG (cY rfl rfl) (f1 (cD ty42) fun g5 => ?_)))))))))
  refine stb (cs' := [.slice x4.1.1.1.1 r2.1.1.1.length x4.1.1.1.2, .slice x4.1.1.2.1 r2.1.1.2.length x4.1.1.2.2, .slice x4.1.2.1.1 r2.1.2.1.length x4.1.2.1.2, .slice x4.1.2.2.1 r2.1.2.2.length x4.1.2.2.2]) ty42 cX (aH rfl (nl (sr (aI (bJ ty42 rfl aB rfl) (aF rfl (bdo H fun r6 h7 H => (f1 (cF (c_impl_StoreRows r2.1 x4.1 r2.2 h7) (fun _ => (bF bG)) rfl (aC (aL aR) (aC (aL aR.s) (aC (aL aR.s.s) (aC (aL aR.s.s.s) aO))))) fun x8 => (aH rfl (nl (aD (sr (aF rfl ?_))))))))))))
  refine aI (bJ ty42 rfl hs1 rfl) (aF rfl (bdo H fun r9 h10 H => (f1 (e_call (c_spec_StoreRows r2.1 x4.1 r2.2 h10) rfl (cM aR (cM aR.s (cM aR.s.s (cM aR.s.s.s cN)))) bK) fun x11 => (bdo H fun r12 h13 H => (aI (bN (c_laws_lyRows r6 x8 r9 x11 h13) rfl (aC (bL aB) (aC (aL aR) aO))) (aG (cV rfl) ?_))))))
  rcases aK (!r12) with h14 | h14
  ·have H := cdT h14 H
   refine Rg.e_ (aE rfl) h14 (Rg.skip rfl (by decide) (Rg.skip rfl (by decide) (Rg.skip rfl (by decide) (aG (v := .bool (true)) (bP rfl rfl) (aF (v := .bool (true)) rfl (Rg.skip rfl (by decide) (Rg.skip rfl (by decide) (aG (v := .bool (true)) (bP rfl rfl) (aF (v := .bool (true)) rfl ?_)))))))))
   refine Rg.skip rfl (by decide) (Rg.skip rfl (by decide) (Rg.skip rfl (by decide) (Rg.skip rfl (by decide) (Rg.skip rfl (by decide) (Rg.skip rfl (by decide) (aG (v := .bool (true)) (bP rfl rfl) (nl (Tr.condT rfl (sr (aF rfl ?_))))))))))
   refine aI (bJ ty42 rfl hs1 rfl) (aF rfl (f1 (e_call (c_spec_StoreRows r2.1 x4.1 r2.2 h10) rfl (cM aR.s (cM aR.s.s (cM aR.s.s.s (cM aR.s.s.s.s cN)))) bK) fun x15 => (aI (bN (c_laws_lyRows r6 x8 r9 x15 h13) rfl (aC (bL aB) (aC (aL aR) aO))) (aH rfl (nl (bQ (rT (?_))))))))
   obtain rfl := si H
   exact bk
  ·have H := cdF h14 H
   refine Rg.e_ (aE rfl) h14 (Rg.g (v := .agg #[.slice x4.1.1.1.1 r2.1.1.1.length x4.1.1.1.2, .slice x4.1.1.2.1 r2.1.1.2.length x4.1.1.2.2, .slice x4.1.2.1.1 r2.1.2.1.length x4.1.2.1.2, .slice x4.1.2.2.1 r2.1.2.2.length x4.1.2.2.2]) rfl (bJ ty42 rfl hs1 rfl) (by decide) (bdo H fun r16 h17 H => (Rg.g (v := .bool (r16)) rfl (bN (c_spec_StoreOk r2.1 x4.1 h17) rfl (aC (aL aR.s) (aC (aL aR.s.s) (aC (aL aR.s.s.s) (aC (aL aR.s.s.s.s) aO))))) (by decide) (Rg.g (v := .bool (!r16)) rfl (Pu.qo (cV rfl)) (by decide) (aG (bO rfl rfl) ?_)))))
   rcases aK (!r16) with h18 | h18
   ·have H := cdT h18 H
    refine Rg.e_ (aE rfl) h18 (Rg.skip rfl (by decide) (Rg.skip rfl (by decide) (aG (v := .bool (true)) (bP rfl rfl) (aF (v := .bool (true)) rfl (Rg.skip rfl (by decide) (Rg.skip rfl (by decide) (Rg.skip rfl (by decide) (Rg.skip rfl (by decide) (Rg.skip rfl (by decide) ?_)))))))))
    refine Rg.skip rfl (by decide) (aG (v := .bool (true)) (bP rfl rfl) (nl (Tr.condT rfl (sr (aF rfl (aI (bJ ty42 rfl hs1 rfl) (aF rfl (f1 (e_call (c_spec_StoreRows r2.1 x4.1 r2.2 h10) rfl (cM aR.s (cM aR.s.s (cM aR.s.s.s (cM aR.s.s.s.s cN)))) bK) fun x19 => (aI (bN (c_laws_lyRows r6 x8 r9 x19 h13) rfl (aC (bL aB) (aC (aL aR) aO))) (aH rfl (nl ?_)))))))))))
    refine bQ (rT (?_))
    obtain rfl := si H
    exact bk
   ·have H := cdF h18 H
    refine Rg.e_ (aE rfl) h18 (Rg.g (v := .int .i64 (r2.2)) rfl (Pu.qo (aE rfl)) (by decide) (Rg.g (v := .bool (decide (r2.2 < 1))) rfl (Pu.qo (cQ rfl rfl)) (by decide) (aG (bO rfl rfl) ?_)))
    rcases aK (decide (r2.2 < 1)) with h20 | h20
    ·have H := cdT h20 H
     refine Rg.e_ (aE rfl) h20 (Rg.skip rfl (by decide) (Rg.skip rfl (by decide) (Rg.skip rfl (by decide) (Rg.skip rfl (by decide) (Rg.skip rfl (by decide) (Rg.skip rfl (by decide) (aG (v := .bool (true)) (bP rfl rfl) (nl (Tr.condT rfl (sr ?_))))))))))
     refine aF rfl (aI (bJ ty42 rfl hs1 rfl) (aF rfl (f1 (e_call (c_spec_StoreRows r2.1 x4.1 r2.2 h10) rfl (cM aR.s (cM aR.s.s (cM aR.s.s.s (cM aR.s.s.s.s cN)))) bK) fun x21 => (aI (bN (c_laws_lyRows r6 x8 r9 x21 h13) rfl (aC (bL aB) (aC (aL aR) aO))) (aH rfl (nl (bQ (rT (?_)))))))))
     obtain rfl := si H
     exact bk
    ·have H := cdF h20 H
     refine Rg.e_ (aE rfl) h20 (Rg.g (v := .int .i64 (r2.2)) rfl (Pu.qo (aE rfl)) (by decide) (Rg.g (v := .pointer (some ⟨g5, 0, none⟩)) rfl (Pu.qo (cB fa42_0 rfl rfl)) (by decide) (Rg.g (v := .pointer (some ⟨g5, 0, none⟩)) rfl (Pu.qo (cB fa38_0 rfl rfl)) (by decide) (Rg.g (v := .slice x4.1.1.1.1 r2.1.1.1.length x4.1.1.1.2) rfl (bI ty35 rfl hs1 rfl) (by decide) (Rg.g (v := .int .i64 ((r2.1.1.1.length : Int))) rfl (Pu.qo (bS 105 dM rfl)) (by decide) (Rg.g (v := .bool (decide ((r2.1.1.1.length : Int) < r2.2))) rfl (Pu.qo (cU rfl rfl)) (by decide) (aG (bO rfl rfl) (nl (cH H rfl (fun h22 H => ?_) (fun h22 H => ?_))))))))))
     ·refine sr (aF rfl (aI (bJ ty42 rfl hs1 rfl) (aF rfl (f1 (e_call (c_spec_StoreRows r2.1 x4.1 r2.2 h10) rfl (cM aR.s (cM aR.s.s (cM aR.s.s.s (cM aR.s.s.s.s cN)))) bK) fun x23 => (aI (bN (c_laws_lyRows r6 x8 r9 x23 h13) rfl (aC (bL aB) (aC (aL aR) aO))) (aH rfl (nl (bQ (rT (?_))))))))))
      obtain rfl := si H
      exact bk
     ·refine bH (nT (sr (f2 (e_lit0 Row dT ty57) fun a24 c25 => (aH rfl (nl (aD (sr (aH (v := .int .i64 (0)) rfl (nl (bdo H fun x26 hx27 H => (dB (Λ := (Option Addr × Nat)) H (fun e49 y32 => [(3, .pointer (some ⟨g5, 0, none⟩)), (4, .int .i64 (r2.2)), (5, .slice x8.1 r6.length x8.2), (6, .slice y32.1 e49.length y32.2)]) (fun e49 y32 => [box g5 42 [.slice x4.1.1.1.1 r2.1.1.1.length x4.1.1.1.2, .slice x4.1.1.2.1 r2.1.1.2.length x4.1.1.2.2, .slice x4.1.2.1.1 r2.1.2.1.length x4.1.2.1.2, .slice x4.1.2.2.1 r2.1.2.2.length x4.1.2.2.2], tree (.slice x8.1 r6.length x8.2) r6, tree (.slice y32.1 e49.length y32.2) e49]) ?_ ?_)))))))))))
      ·refine aQ (dD hx27 (a24, c25) (fun Q30 z31 => [(3, .pointer (some ⟨g5, 0, none⟩)), (4, .int .i64 (r2.2)), (5, .slice x8.1 r6.length x8.2), (6, .slice z31.1 Q30.1.length z31.2), (7, .int .i64 (Q30.2))]) (fun Q30 z31 => [box g5 42 [.slice x4.1.1.1.1 r2.1.1.1.length x4.1.1.1.2, .slice x4.1.1.2.1 r2.1.1.2.length x4.1.1.2.2, .slice x4.1.2.1.1 r2.1.2.1.length x4.1.2.1.2, .slice x4.1.2.2.1 r2.1.2.2.length x4.1.2.2.2], tree (.slice x8.1 r6.length x8.2) r6, tree (.slice z31.1 Q30.1.length z31.2) Q30.1]) (.cons dl2 (.cons dl1 (.cons aA .nil))) ?_)
       rintro _ Q30 z31 t33 H1 hi34 hb35
       unfold p_laws_FnStoreRows_b0 at H1
       refine aD (sr (aF rfl (aG (cB fa42_1 rfl rfl) (aI (bI ty39 rfl aB rfl) (aG (bS 72 dO rfl) (aG (cQ rfl rfl) (nl (cH H1 rfl (fun h38 H1 => ?_) (fun h38 H1 => ?_)))))))))
       ·refine bH (nT (aD (aQ (aD (bM aR.s.s.s fun X39 => (aP (aF rfl (aG (cB fa42_1 rfl rfl) (aI (bI ty39 rfl aB rfl) (aF rfl ?_))))))))))
        refine gdo H1 fun h40 H1 => (aI (bW dO ty72 rfl rfl h40 rfl (aL (aT aR))) (aI (v := .agg #[.slice (((X39 Q30.2.toNat).1).1) (((nth r2.1.2.1 Q30.2.toNat).1).length) (((X39 Q30.2.toNat).1).2.1), .slice (((X39 Q30.2.toNat).2).1) (((nth r2.1.2.1 Q30.2.toNat).2).length) (((X39 Q30.2.toNat).2).2.1)]) (cA (i := Q30.2.toNat) ty72 rfl (aL (aT aR)) h40.lt) (aF rfl (bdo H1 fun r41 h42 H1 => (f1 (cF (c_impl_PartOf (nth r2.1.2.1 Q30.2.toNat) ((((X39 Q30.2.toNat).1).1, ((X39 Q30.2.toNat).1).2.1), (((X39 Q30.2.toNat).2).1, ((X39 Q30.2.toNat).2).2.1)) r2.2 h42) (fun _ => (bF bG)) rfl (aC (aL (aS (aV (aW aR h40.lt)))) (aC (aL (aS (aU (aW aR h40.lt)))) aO))) fun x43 => (bdo H1 fun r44 h45 H1 => (f1 (cF (c_impl_BlockMerge Q30.1 z31 r41 x43 h45) (fun _ => (bF bG)) rfl (aC (bL hs3) (aC (bL aB) aO))) fun x46 => (aF rfl (aG (cY rfl rfl) ?_)))))))))
        refine aG (cY rfl rfl) (aH rfl (aH rfl (nl (aD (sr (aF rfl (aG (cV rfl) (nl (cH H1 rfl (fun h47 H1 => ?_) (fun h47 H1 => ?_))))))))))
        ·refine sr (aH (v := .bool (false)) rfl (nl (bQ (rT (rB (rT (rT (rB (rT (rT (?_)))))))))))
         obtain rfl := hb35 _ (sm H1)
         replace H := sw.r H
         obtain rfl := si H
         exact bk
        ·refine bH (nT (aP (aF rfl (aH rfl (aJ (nB (nT (aP (aF rfl (gdo H1 fun h48 H1 => (aG (bR rfl rfl h48) ?_)))))))))))
         exact aH rfl (aJ (nLI (hf := bT.s) (x46.1.1, x46.1.2) (hi34 _ (sm H1)) (.cons dl2 (.cons dl2 (.cons aA .nil)))))
       ·exact cZ (xT (xT (xE (nMI (z31.1, z31.2) (hb35 _ (sm H1)) (.cons aA (.cons aA (.cons aA .nil)))))))
      ·rintro e49 y32 H
       refine nT (aD (sr (aH (v := .int .i64 (0)) rfl (nl (bdo H fun x50 hx51 H => (dB (Λ := (Option Addr × Nat)) H (fun e71 y56 => [(5, .slice x8.1 r6.length x8.2), (6, .slice y56.1 e71.length y56.2)]) (fun e71 y56 => [tree (.slice x8.1 r6.length x8.2) r6, tree (.slice y56.1 e71.length y56.2) e71]) ?_ ?_))))))
       ·refine aQ (dD hx51 (y32.1, y32.2) (fun Q54 z55 => [(3, .pointer (some ⟨g5, 0, none⟩)), (4, .int .i64 (r2.2)), (5, .slice x8.1 r6.length x8.2), (6, .slice z55.1 Q54.1.length z55.2), (10, .int .i64 (Q54.2))]) (fun Q54 z55 => [box g5 42 [.slice x4.1.1.1.1 r2.1.1.1.length x4.1.1.1.2, .slice x4.1.1.2.1 r2.1.1.2.length x4.1.1.2.2, .slice x4.1.2.1.1 r2.1.2.1.length x4.1.2.1.2, .slice x4.1.2.2.1 r2.1.2.2.length x4.1.2.2.2], tree (.slice x8.1 r6.length x8.2) r6, tree (.slice z55.1 Q54.1.length z55.2) Q54.1]) (.cons aA (.cons aA (.cons aA .nil))) ?_)
        rintro _ Q54 z55 t57 H1 hi58 hb59
        unfold p_laws_FnStoreRows_b1 at H1
        refine aD (sr (aF rfl (aG (cB fa42_2 rfl rfl) (aI (bI ty40 rfl aB rfl) (aG (bS 59 dP rfl) (aG (cQ rfl rfl) (nl (cH H1 rfl (fun h62 H1 => ?_) (fun h62 H1 => ?_)))))))))
        ·refine bH (nT (aD (aQ (sr (aG (cB fa42_2 rfl rfl) (aI (bI ty40 rfl aB rfl) (aF rfl (gdo H1 fun h63 H1 => (aI (bW dP ty59 rfl rfl h63 rfl (aN (aL aR.s.s.s.s))) (aI (bY (j := 0) Q54.2.toNat fa59_0 rfl (aN (aL aR.s.s.s.s)) h63.lt rfl) ?_))))))))))
         refine aI (bZ (i := Q54.2.toNat) (j := 0) ty3 rfl (aN (aL aR.s.s.s.s)) h63.lt rfl) (aF rfl (aG (cT rfl rfl) (nl (cH H1 rfl (fun h64 H1 => ?_) (fun h64 H1 => ?_)))))
         ·refine sr (aF rfl (aG (cB fa42_2 rfl rfl) (aI (bI ty40 rfl aB rfl) (aF rfl (aI (bW dP ty59 rfl rfl h63 rfl (aN (aL aR.s.s.s.s))) (aI (bY (j := 0) Q54.2.toNat fa59_1 rfl (aN (aL aR.s.s.s.s)) h63.lt rfl) (aI (v := .agg #[.int .i64 (((nth r2.1.2.2 Q54.2.toNat).2).1), .int .i64 (((nth r2.1.2.2 Q54.2.toNat).2).2)]) (q_ldeP [.int .i64 (((nth r2.1.2.2 Q54.2.toNat).2).1), .int .i64 (((nth r2.1.2.2 Q54.2.toNat).2).2)] (l := r2.1.2.2) (E := fun i => Flat.enc (nth r2.1.2.2 i)) (oa := x4.1.2.2.1) (i := Q54.2.toNat) (j := 1) ty57 rfl (aN (aL aR.s.s.s.s)) h63.lt rfl rfl) (bdo H1 fun r65 h66 H1 => (f1 (cF (c_impl_BlockPut Q54.1 z55 ((nth r2.1.2.2 Q54.2.toNat).2) h66) (fun _ => (bF bG)) rfl (aC (bL hs2) aO)) fun x67 => ?_)))))))))
          refine aF rfl (aG (cY rfl rfl) (aG (cY rfl rfl) (aH rfl (aH rfl (nl (aD (sr (aF rfl (aG (cV rfl) (nl (cH H1 rfl (fun h68 H1 => ?_) (fun h68 H1 => ?_))))))))))))
          ·refine sr (aH (v := .bool (false)) rfl (nl (bQ (rT (rB (rT (rT (rB (rT (rT (?_)))))))))))
           obtain rfl := hb59 _ (sm H1)
           replace H := sw.r H
           obtain rfl := si H
           exact bk
          ·refine bH (nT (aP (aF rfl (aH rfl (aJ (nB (nT (aP (aF rfl (gdo H1 fun h69 H1 => (aG (bR rfl rfl h69) ?_)))))))))))
           exact aH rfl (aJ (nLI (x67.1.1, x67.1.2) (hi58 _ (sm H1)) (.cons dl1 (.cons dl1 (.cons aA .nil)))))
         ·exact bH (nB (nT (aP (aF rfl (gdo H1 fun h70 H1 => (aG (bR rfl rfl h70) (aH rfl (aJ (nLI (z55.1, z55.2) (hi58 _ (sm H1)) (.cons aA (.cons aA (.cons aA .nil))))))))))))
        ·exact cZ (xT (xT (xE (nMI (z55.1, z55.2) (hb59 _ (sm H1)) (.cons dl1 (.cons dl1 .nil))))))
       ·rintro e71 y56 H
        refine nT (sr (aF rfl (aF rfl (bdo H fun r72 h73 H => (aI (bN (c_laws_lyRows r6 x8 e71 y56 h73) rfl (aC (bL aB) (aC (bL hs1) aO))) (aH rfl (nl ?_)))))))
        obtain rfl := si H
        exact bQ bk
def inn (lo n hi : Int) : Bool := decide (lo ≤ n) && decide (n ≤ hi)
theorem e_impl_within (n lo hi : Int) : p_impl_within n lo hi = some (inn lo n hi) := by
 unfold p_impl_within inn; cases decide (lo ≤ n) <;> rfl
theorem e_spec_l6In (n lo hi : Int) : p_spec_l6In n lo hi = some (inn lo n hi) := by
 unfold p_spec_l6In inn; cases decide (lo ≤ n) <;> rfl
def rowOk (r : Row) : Bool := inn 0 r.1 99 && inn (-99) r.2 99
theorem e_impl_rowOk (r : Row) : p_impl_rowOk r = some (rowOk r) := by
 unfold p_impl_rowOk rowOk; simp only [e_impl_within, bd_some]; cases inn 0 r.1 99 <;> rfl
theorem e_spec_l2Row (r : Row) : p_spec_l2Row r = some (rowOk r) := by
 unfold p_spec_l2Row rowOk; simp only [e_spec_l6In, bd_some]; cases inn 0 r.1 99 <;> rfl
def rowBad (b : List Row) (k : Nat) : Bool := !rowOk (nth b k) || (decide (0 < k) && decide ((nth b k).1 ≤ (nth b (k - 1)).1))
def blockOk (b : List Row) : Bool := allN b.length (rowBad b) && decide ((b.length : Int) ≤ 24)
theorem e_impl_BlockOk (b : List Row) (hb : b.length ≤ maxLen) : p_impl_BlockOk b = some (blockOk b) := by
 have hb' : b.length ≤ 9223372036854775807 := hb
 have hr : ∀ k, k < b.length → p_impl_BlockOk_b0 b (k : Int) = some (if rowBad b k then .inr (.inr false) else .inl ((k + 1 : Nat) : Int)) := fun k hk => by
  unfold p_impl_BlockOk_b0 rowBad
  simp only [dlt hk, cond_true, gd.yes (ixN hk), e_impl_rowOk, bd_some, Int.toNat_natCast, gd.yes (i64S hk hb')]
  cases h1 : rowOk (nth b k) with
  | false => simp
  | true =>
   simp only [Bool.not_true, cond_false, Bool.false_or]
   by_cases h0 : 0 < k
   ·have h0' : (0 : Int) < k := by omega
    have e1 : (k : Int) - 1 = ((k - 1 : Nat) : Int) := by omega
    have hi : I64 ((k - 1 : Nat) : Int) := by unfold I64; omega
    simp only [h0, h0', decide_true, cond_true, e1, gd.yes hi, gd.yes (ixN (show k - 1 < b.length by omega)), Int.toNat_natCast, bd_some, Bool.true_and]
    cases decide ((nth b k).1 ≤ (nth b (k - 1)).1) <;> simp
   ·have h0' : ¬ (0 : Int) < k := by omega
    simp [h0]
 unfold p_impl_BlockOk blockOk
 rcases lp_scan (body := p_impl_BlockOk_b0 b) (fun k => (k : Int)) b.length (rowBad b) (.inl ()) (fun _ => .inr false) (fun k hk _ h => by simp [hr k hk, h]) (fun k hk _ h => by simp [hr k hk, h]) (fun _ => by unfold p_impl_BlockOk_b0; simp) with ⟨h1, h2⟩ | ⟨h1, k, _, _, _, h2⟩
 ·rw [show (lp (p_impl_BlockOk_b0 b) 0) = _ from h2, h1]; simp [sw]
 ·rw [show (lp (p_impl_BlockOk_b0 b) 0) = _ from h2, h1]; simp [sw]
theorem e_spec_BlockOk (b : List Row) (hb : b.length ≤ maxLen) : p_spec_BlockOk b = some (blockOk b) := by
 have hb' : b.length ≤ 9223372036854775807 := hb
 have hr : ∀ k, k < b.length → p_spec_BlockOk_b0 b (k : Int) = some (if rowBad b k then .inr (.inr false) else .inl ((k + 1 : Nat) : Int)) := fun k hk => by
  unfold p_spec_BlockOk_b0 rowBad
  simp only [dlt hk, cond_true, gd.yes (ixN hk), e_spec_l2Row, bd_some, Int.toNat_natCast, gd.yes (i64S hk hb')]
  cases h1 : rowOk (nth b k) with
  | false => simp
  | true =>
   simp only [Bool.not_true, cond_false, Bool.false_or]
   by_cases h0 : 0 < k
   ·have h0' : (0 : Int) < k := by omega
    have e1 : (k : Int) - 1 = ((k - 1 : Nat) : Int) := by omega
    have hi : I64 ((k - 1 : Nat) : Int) := by unfold I64; omega
    simp only [h0, h0', decide_true, cond_true, e1, gd.yes hi, gd.yes (ixN (show k - 1 < b.length by omega)), Int.toNat_natCast, bd_some, Bool.true_and]
    cases decide ((nth b k).1 ≤ (nth b (k - 1)).1) <;> simp
   ·simp [h0]
 unfold p_spec_BlockOk blockOk
 rcases lp_scan (body := p_spec_BlockOk_b0 b) (fun k => (k : Int)) b.length (rowBad b) (.inl ()) (fun _ => .inr false) (fun k hk _ h => by simp [hr k hk, h]) (fun k hk _ h => by simp [hr k hk, h]) (fun _ => by unfold p_spec_BlockOk_b0; simp) with ⟨h1, h2⟩ | ⟨h1, k, _, _, _, h2⟩
 ·rw [show (lp (p_spec_BlockOk_b0 b) 0) = _ from h2, h1]; simp [sw]
 ·rw [show (lp (p_spec_BlockOk_b0 b) 0) = _ from h2, h1]; simp [sw]
def partBad (p : Part) (k : Nat) : Bool := ((!inn 1 (nth p.1 k) 6 || (decide (0 < k) && decide (nth p.1 k ≤ nth p.1 (k - 1)))) || !blockOk (nth p.2 k)) || decide ((nth p.2 k).length = 0)
def partOk (p : Part) : Bool := decide (p.1.length = p.2.length) && allN p.1.length (partBad p)
theorem e_impl_PartOk (p : Part) (hp : Dp.ok p) : p_impl_PartOk p = some (partOk p) := by
 obtain ⟨⟨hp1, _⟩, _, hp2⟩ := hp
 have hp1 : p.1.length ≤ 9223372036854775807 := hp1
 unfold p_impl_PartOk partOk
 by_cases hl : p.1.length = p.2.length
 ·have hr : ∀ k, k < p.1.length → p_impl_PartOk_b0 p (k : Int) = some (if partBad p k then .inr (.inr false) else .inl ((k + 1 : Nat) : Int)) := fun k hk => by
   have hk2 : k < p.2.length := by omega
   unfold p_impl_PartOk_b0 partBad
   simp only [dlt hk, cond_true, gd.yes (ixN hk), gd.yes (ixN hk2), e_impl_within, e_impl_BlockOk _ (hp2 k hk2).1, bd_some, Int.toNat_natCast, gd.yes (i64S hk hp1)]
   cases h1 : inn 1 (nth p.1 k) 6 with
   | false => simp
   | true =>
    by_cases h0 : 0 < k
    ·have h0' : (0 : Int) < k := by omega
     have e1 : (k : Int) - 1 = ((k - 1 : Nat) : Int) := by omega
     have hi : I64 ((k - 1 : Nat) : Int) := by unfold I64; omega
     simp only [h0, h0', decide_true, cond_true, e1, gd.yes hi, gd.yes (ixN (show k - 1 < p.1.length by omega)), Int.toNat_natCast, Bool.true_and, Bool.not_true, cond_false, Bool.false_or]
     cases decide (nth p.1 k ≤ nth p.1 (k - 1)) <;> cases blockOk (nth p.2 k) <;> cases h9 : decide ((nth p.2 k).length = 0) <;> simp_all
    ·simp only [h0, Bool.not_true, cond_false, Bool.false_or, decide_false, Bool.false_and]
     cases blockOk (nth p.2 k) <;> cases h9 : decide ((nth p.2 k).length = 0) <;> simp_all
  rcases lp_scan (body := p_impl_PartOk_b0 p) (fun k => (k : Int)) p.1.length (partBad p) (.inl ()) (fun _ => .inr false) (fun k hk _ h => by simp [hr k hk, h]) (fun k hk _ h => by simp [hr k hk, h]) (fun _ => by unfold p_impl_PartOk_b0; simp) with ⟨h1, h2⟩ | ⟨h1, k, _, _, _, h2⟩
  ·rw [show (lp (p_impl_PartOk_b0 p) 0) = _ from h2, h1]; simp [sw, hl]
  ·rw [show (lp (p_impl_PartOk_b0 p) 0) = _ from h2, h1]; simp [sw, hl]
 ·have : ¬ (p.1.length : Int) = (p.2.length : Int) := by omega
  simp [this, hl]
theorem e_spec_PartOk (p : Part) (hp : Dp.ok p) : p_spec_PartOk p = some (partOk p) := by
 obtain ⟨⟨hp1, _⟩, _, hp2⟩ := hp
 have hp1 : p.1.length ≤ 9223372036854775807 := hp1
 unfold p_spec_PartOk partOk
 by_cases hl : p.1.length = p.2.length
 ·have hr : ∀ k, k < p.1.length → p_spec_PartOk_b0 p (k : Int) = some (if partBad p k then .inr (.inr false) else .inl ((k + 1 : Nat) : Int)) := fun k hk => by
   have hk2 : k < p.2.length := by omega
   unfold p_spec_PartOk_b0 partBad
   simp only [dlt hk, cond_true, gd.yes (ixN hk), gd.yes (ixN hk2), e_spec_l6In, e_spec_BlockOk _ (hp2 k hk2).1, bd_some, Int.toNat_natCast, gd.yes (i64S hk hp1)]
   cases h1 : inn 1 (nth p.1 k) 6 with
   | false => simp
   | true =>
    by_cases h0 : 0 < k
    ·have h0' : (0 : Int) < k := by omega
     have e1 : (k : Int) - 1 = ((k - 1 : Nat) : Int) := by omega
     have hi : I64 ((k - 1 : Nat) : Int) := by unfold I64; omega
     simp only [h0, h0', decide_true, cond_true, e1, gd.yes hi, gd.yes (ixN (show k - 1 < p.1.length by omega)), Int.toNat_natCast, Bool.true_and, Bool.not_true, cond_false, Bool.false_or]
     cases decide (nth p.1 k ≤ nth p.1 (k - 1)) <;> cases blockOk (nth p.2 k) <;> cases h9 : decide ((nth p.2 k).length = 0) <;> simp_all
    ·simp only [h0, Bool.not_true, cond_false, Bool.false_or, decide_false, Bool.false_and]
     cases blockOk (nth p.2 k) <;> cases h9 : decide ((nth p.2 k).length = 0) <;> simp_all
  rcases lp_scan (body := p_spec_PartOk_b0 p) (fun k => (k : Int)) p.1.length (partBad p) (.inl ()) (fun _ => .inr false) (fun k hk _ h => by simp [hr k hk, h]) (fun k hk _ h => by simp [hr k hk, h]) (fun _ => by unfold p_spec_PartOk_b0; simp) with ⟨h1, h2⟩ | ⟨h1, k, _, _, _, h2⟩
  ·rw [show (lp (p_spec_PartOk_b0 p) 0) = _ from h2, h1]; simp [sw, hl]
  ·rw [show (lp (p_spec_PartOk_b0 p) 0) = _ from h2, h1]; simp [sw, hl]
 ·have : ¬ (p.1.length : Int) = (p.2.length : Int) := by omega
  simp [this, hl]
def place (l : List Int) (id : Int) : Int := match (List.range l.length).find? (fun i => decide (nth l i = id)) with | some i => i | none => -1
theorem place_no {l : List Int} {id : Int} (h : allN l.length (fun i => decide (nth l i = id)) = true) : place l id = -1 := by
 unfold place
 rw [List.find?_eq_none.2]
 intro i hi
 have := allN_iff.1 h i (by simpa using hi)
 simpa using this
theorem place_yes {l : List Int} {id : Int} {k : Nat} (hk : k < l.length) (h : decide (nth l k = id) = true) (h2 : ∀ i, i < k → decide (nth l i = id) = false) : place l id = k := by
 unfold place
 have : (List.range l.length).find? (fun i => decide (nth l i = id)) = some k := by
  rw [List.find?_range_eq_some]
  exact ⟨h, by simpa using hk, fun i hi => by simpa using h2 i hi⟩
 rw [this]
theorem e_Index (l : List Int) (id : Int) (ok : l.length ≤ 9223372036854775807) : p_slices_Index_int_int l id = some (place l id) := by
 unfold p_slices_Index_int_int
 rcases lp_scan (body := p_slices_Index_int_int_b0 l id) (fun k => (k : Int)) l.length (fun i => decide (nth l i = id)) (.inl ()) (fun k => .inr (k : Int)) (fun k hk _ h => by
   have h' : ¬ id = nth l k := fun e => by simp [e] at h
   unfold p_slices_Index_int_int_b0; simp [hk, gd.yes (ixN hk), h', gd.yes (i64S hk ok)]) (fun k hk _ h => by
   have h' : id = nth l k := by simp at h; exact h.symm
   unfold p_slices_Index_int_int_b0; simp [hk, gd.yes (ixN hk), h']) (fun _ => by unfold p_slices_Index_int_int_b0; simp) with ⟨h1, h2⟩ | ⟨h1, k, hk, hb, hn, h2⟩
 ·rw [show (lp (p_slices_Index_int_int_b0 l id) 0) = _ from h2, place_no h1]; rfl
 ·rw [show (lp (p_slices_Index_int_int_b0 l id) 0) = _ from h2, place_yes hk hb hn]; rfl
theorem place_lt {l : List Int} {id : Int} : place l id < 0 ∨ ∃ k, k < l.length ∧ place l id = (k : Int) := by
 cases ha : allN l.length (fun i => decide (nth l i = id)) with
 | true => exact .inl (by rw [place_no ha]; decide)
 | false =>
  obtain ⟨k, hk, h1, h2⟩ := first_bad ha
  exact .inr ⟨k, hk, place_yes hk h1 h2⟩
def rowsOf (p : Part) (id : Int) : List Row := if place p.1 id < 0 then [] else nth p.2 (place p.1 id).toNat
theorem partOk_len' {p : Part} (h : partOk p = true) : p.1.length = p.2.length := by
 unfold partOk at h; simp at h; exact h.1
theorem e_l12Of (p : Part) (id : Int) (ok : Dp.ok p) (hl : p.1.length = p.2.length) : p_spec_l12Of p id = some (rowsOf p id) := by
 have hm : p.1.length ≤ 9223372036854775807 := ok.1.1
 unfold p_spec_l12Of rowsOf
 rcases lp_scan (body := p_spec_l12Of_b0 p id) (fun k => (k : Int)) p.1.length (fun i => decide (nth p.1 i = id)) (.inl ()) (fun k => .inr (nth p.2 k)) (fun k hk _ h => by
   have h' : ¬ nth p.1 k = id := by simpa using h
   unfold p_spec_l12Of_b0; simp [hk, gd.yes (ixN hk), h', gd.yes (i64S hk hm)]) (fun k hk _ h => by
   have h' : nth p.1 k = id := by simpa using h
   have hk2 : k < p.2.length := by omega
   unfold p_spec_l12Of_b0; simp [hk, gd.yes (ixN hk), h', gd.yes (ixN hk2)]) (fun _ => by unfold p_spec_l12Of_b0; simp) with ⟨h1, h2⟩ | ⟨h1, k, hk, hb, hn, h2⟩
 ·rw [show (lp (p_spec_l12Of_b0 p id) 0) = _ from h2, place_no h1]; rfl
 ·rw [show (lp (p_spec_l12Of_b0 p id) 0) = _ from h2, place_yes hk hb hn]
  have : ¬ (k : Int) < 0 := by omega
  simp [sw, this]
def partOf (p : Part) (id : Int) : List Row := if partOk p then rowsOf p id else []
theorem e_impl_PartOf (p : Part) (id : Int) (ok : Dp.ok p) (hw : Wt.w p ≤ 1048576) : p_impl_PartOf p id = some (partOf p id) := by
 unfold p_impl_PartOf partOf
 rw [e_Index p.1 id ok.1.1, bd_some, e_impl_PartOk p ok, bd_some]
 cases h : partOk p with
 | false => rfl
 | true =>
  have hl := partOk_len' h
  rcases place_lt (l := p.1) (id := id) with hp | ⟨k, hk, hp⟩
  ·simp [hp, rowsOf]
  ·have h0 : ¬ (k : Int) < 0 := by omega
   have hk2 : k < p.2.length := by omega
   have hr : room (nth p.2 k).length := by
    have : (nth p.2 k).length ≤ 1048576 := Nat.le_trans wL_le (Nat.le_trans (wL_el hk2) (Nat.le_trans wP_2 hw))
    unfold room; omega
   simp [hp, rowsOf, h0, gd.yes (ixN hk2), gd.yes hr]
theorem ok_rows (l : List Row) (h : l.length ≤ 1048576) : Dp.ok l := ⟨Nat.le_trans h (by decide), fun _ _ => ⟨trivial, trivial⟩⟩
theorem tmod_rng {a n : Int} (ha : 0 ≤ a) (hn : 0 < n) : 0 ≤ a.tmod n ∧ a.tmod n < n := ⟨Int.tmod_nonneg n ha, Int.tmod_lt_of_pos a hn⟩
theorem tdiv_rng {a n : Int} (ha : 0 ≤ a) (hn : 0 < n) : 0 ≤ a.tdiv n ∧ a.tdiv n ≤ a := by
 rw [Int.tdiv_eq_ediv_of_nonneg ha]
 exact ⟨Int.ediv_nonneg ha (by omega), Int.ediv_le_self n ha⟩
theorem u8_rng (b : UInt8) : (0 : Int) ≤ (b.toNat : Int) ∧ (b.toNat : Int) ≤ 255 := by have := b.toNat_lt; omega
theorem xr_nn (a b : Int) : 0 ≤ xr a b := by unfold xr; omega
theorem xr_lt {a b : Int} (ha : 0 ≤ a) (ha2 : a < 4611686018427387904) (hb : 0 ≤ b) (hb2 : b < 4611686018427387904) : xr a b < 4611686018427387904 := by
 unfold xr
 have : a.toNat ^^^ b.toNat < 2 ^ 62 := Nat.xor_lt_two_pow (by omega) (by omega)
 omega
theorem d_pick (b : List UInt8) (p n : Int) (hb : b.length ≤ 2000) (h0 : 0 ≤ p) (h1 : p ≤ 1000000) (hn : n ≤ 1000000000) :
  ∃ x, p_spec_l6Rd_pick (b, p) n = some (x, p + 1) ∧ 0 ≤ x ∧ (1 ≤ n → x < n) := by
 unfold p_spec_l6Rd_pick
 have g0 : I64 (p + 1) := by unfold I64; omega
 have ep : p + 1 - 1 = p := by omega
 have gp : I64 p := by unfold I64; omega
 simp only [ep, gd.yes g0, gd.yes gp]
 by_cases hn1 : n < 1
 ·exact ⟨0, by simp [hn1], Int.le_refl _, fun h => by omega⟩
 ·by_cases hb0 : (b.length : Int) = 0
  ·exact ⟨0, by simp [hn1, hb0], Int.le_refl _, fun h => by omega⟩
  ·simp only [hn1, hb0, decide_false, cond_false, bd_some]
   by_cases hp : p < (b.length : Int)
   ·have hx := tmod_rng (u8_rng (nth b p.toNat)).1 (show 0 < n by omega)
    have g1 : ix p b.length := ⟨h0, hp⟩
    have g2 : n ≠ 0 := by omega
    have g3 : I64 (((nth b p.toNat).toNat : Int).tmod n) := by unfold I64; omega
    simp only [hp, decide_true, cond_true, gd.yes g1, gd.yes g2, gd.yes g3]
    exact ⟨_, rfl, hx.1, fun _ => hx.2⟩
   ·simp only [hp, decide_false, cond_false]
    have hL : (0 : Int) < (b.length : Int) := by omega
    have hm := tmod_rng h0 hL
    have hm2 := tmod_rng (show 0 ≤ p * 7 + 3 by omega) hL
    have hq := tdiv_rng h0 hL
    have u1 := u8_rng (nth b (p.tmod (b.length : Int)).toNat)
    have u2 := u8_rng (nth b ((p * 7 + 3).tmod (b.length : Int)).toNat)
    have g1 : (b.length : Int) ≠ 0 := hb0
    have g2 : I64 (p.tmod (b.length : Int)) := by unfold I64; omega
    have g3 : ix (p.tmod (b.length : Int)) b.length := hm
    have g4 : I64 (p * 7) := by unfold I64; omega
    have g5 : I64 (p * 7 + 3) := by unfold I64; omega
    have g6 : I64 ((p * 7 + 3).tmod (b.length : Int)) := by unfold I64; omega
    have g7 : ix ((p * 7 + 3).tmod (b.length : Int)) b.length := hm2
    have g8 : I64 (p * 29) := by unfold I64; omega
    have g9 : I64 (p.tdiv (b.length : Int)) := by unfold I64; omega
    simp only [gd.yes g1, gd.yes g2, gd.yes g3, gd.yes g4, gd.yes g5, gd.yes g6, gd.yes g7, gd.yes g8, gd.yes g9]
    generalize ((nth b (p.tmod (b.length : Int)).toNat).toNat : Int) = y1 at *
    generalize ((nth b ((p * 7 + 3).tmod (b.length : Int)).toNat).toNat : Int) = y2 at *
    generalize p.tdiv (b.length : Int) = q at *
    have k1 : I64 (y1 * 131) := by unfold I64; omega
    have k2 : I64 (y2 * 1117) := by unfold I64; omega
    have k3 : I64 (y1 * 131 + y2 * 1117) := by unfold I64; omega
    have k4 : I64 (y1 * 131 + y2 * 1117 + p * 29) := by unfold I64; omega
    have k5 : I64 (q * 53) := by unfold I64; omega
    have k6 : I64 (y1 * 131 + y2 * 1117 + p * 29 + q * 53) := by unfold I64; omega
    simp only [gd.yes k1, gd.yes k2, gd.yes k3, gd.yes k4, gd.yes k5, gd.yes k6]
    have hx0 : 0 ≤ y1 * 131 + y2 * 1117 + p * 29 + q * 53 := by omega
    have hx1 : y1 * 131 + y2 * 1117 + p * 29 + q * 53 < 1000000000 := by omega
    generalize y1 * 131 + y2 * 1117 + p * 29 + q * 53 = x at *
    have hd := tdiv_rng hx0 (show (0 : Int) < 64 by decide)
    have m1 : I64 (x.tdiv 64) := by unfold I64; omega
    have m2 : nn x := by unfold nn; omega
    have m3 : nn (x.tdiv 64) := by unfold nn; omega
    have hr0 := xr_nn x (x.tdiv 64)
    have hr1 := xr_lt hx0 (by omega) hd.1 (by omega) (b := x.tdiv 64)
    have hz := tmod_rng hr0 (show 0 < n by omega)
    have m4 : n ≠ 0 := by omega
    have m5 : I64 ((xr x (x.tdiv 64)).tmod n) := by unfold I64; omega
    simp only [gd.yes m1, gd.yes m2, gd.yes m3, gd.yes m4, gd.yes m5]
    exact ⟨_, rfl, hz.1, fun _ => hz.2⟩
def l2 (r : Row) : Bool → List Row → List Row
 | put, [] => if put then [] else [r]
 | put, x :: t => (if !put && decide (r.1 ≤ x.1) then [r] else []) ++ ((if x.1 = r.1 then [] else [x]) ++ l2 r (put || decide (r.1 ≤ x.1)) t)
theorem drop_nth {α : Type} [Inhabited α] {l : List α} {k : Nat} (hk : k < l.length) : l.drop k = nth l k :: l.drop (k + 1) := by
 rw [nth_eq l k hk, List.drop_eq_getElem_cons hk]
theorem e_l2Put (b : List Row) (r : Row) (hb : b.length ≤ 1048576) : p_spec_l2Put b r = some (l2 r false b) := by
 unfold p_spec_l2Put
 obtain ⟨e, he, hs1, hs2⟩ := lp.rule (body := p_spec_l2Put_b0 b r) (fun σ => ∃ k : Nat, k ≤ b.length ∧ σ.2.2 = (k : Int) ∧ σ.1.length ≤ 2 * k ∧ σ.1 ++ l2 r σ.2.1 (b.drop k) = l2 r false b) (fun σ => b.length - σ.2.2.toNat)
  (fun e => e.1.length ≤ 2 * b.length ∧ e.1 ++ (if e.2 then [] else [r]) = l2 r false b) (fun σ hI => by
   obtain ⟨k, k1, k2, k3, k4⟩ := hI
   unfold p_spec_l2Put_b0
   rw [k2]
   by_cases hk : k < b.length
   ·left
    rw [drop_nth hk] at k4
    have hi := i64S hk (by omega)
    have r1 : room (σ.1.length + 1) := by unfold room; omega
    have r2 : room ((σ.1 ++ [r]).length + 1) := by simp; unfold room; omega
    simp only [dlt hk, cond_true, gd.yes (ixN hk), Int.toNat_natCast, gd.yes hi, gd.yes r1, gd.yes r2]
    obtain ⟨o, put, i⟩ := σ
    simp only at k2 k3 k4 ⊢
    cases put with
    | true =>
     simp only [l2, Bool.not_true, Bool.false_and, Bool.false_eq_true, if_false, List.nil_append, Bool.true_or] at k4
     simp only [Bool.not_true, cond_false, bd_some]
     by_cases hx : (nth b k).1 = r.1
     ·simp only [hx, if_true, List.nil_append] at k4
      exact ⟨(o, true, ((k + 1 : Nat) : Int)), by simp [hx], ⟨k + 1, hk, rfl, by simp only; omega, k4⟩, by simp only; omega⟩
     ·simp only [hx, if_false] at k4
      exact ⟨(o ++ [nth b k], true, ((k + 1 : Nat) : Int)), by simp [hx], ⟨k + 1, hk, rfl, by simp; omega, by simpa using k4⟩, by simp only; omega⟩
    | false =>
     by_cases hle : r.1 ≤ (nth b k).1
     ·simp only [l2, hle, decide_true, Bool.not_false, Bool.true_and, if_true, Bool.or_true] at k4
      by_cases hx : (nth b k).1 = r.1
      ·simp only [hx, if_true, List.nil_append] at k4
       exact ⟨(o ++ [r], true, ((k + 1 : Nat) : Int)), by simp [hx], ⟨k + 1, hk, rfl, by simp; omega, by simpa using k4⟩, by simp only; omega⟩
      ·simp only [hx, if_false] at k4
       exact ⟨(o ++ [r] ++ [nth b k], true, ((k + 1 : Nat) : Int)), by simp [hx, hle], ⟨k + 1, hk, rfl, by simp; omega, by simpa using k4⟩, by simp only; omega⟩
     ·simp only [l2, hle, decide_false, Bool.not_false, Bool.and_false, Bool.false_eq_true, if_false, List.nil_append, Bool.or_false] at k4
      have hx : ¬ (nth b k).1 = r.1 := by omega
      simp only [hx, if_false] at k4
      exact ⟨(o ++ [nth b k], false, ((k + 1 : Nat) : Int)), by simp [hx, hle], ⟨k + 1, hk, rfl, by simp; omega, by simpa using k4⟩, by simp only; omega⟩
   ·right
    have hk' : k = b.length := by omega
    subst hk'
    refine ⟨(σ.1, σ.2.1), by simp, k3, ?_⟩
    rw [List.drop_length] at k4
    simpa [l2] using k4) (s := (([] : List Row), false, (0 : Int))) ⟨0, Nat.zero_le _, rfl, by simp, by simp⟩
 rw [he, bd_some]
 have r1 : room (e.1.length + 1) := by unfold room; omega
 cases hp : e.2 with
 | true => simp [hp] at hs2; simp [hs2]
 | false => simp [hp] at hs2; simp [gd.yes r1, hs2]
theorem d_l71Row (b : List UInt8) (p : Int) (hb : b.length ≤ 2000) (h0 : 0 ≤ p) (h1 : p + 4 ≤ 1000000) :
  ∃ r p', p_spec_l71Row (b, p) = some (r, p') ∧ p ≤ p' ∧ p' ≤ p + 4 := by
 obtain ⟨x1, e1, a1, b1⟩ := d_pick b p 40 hb h0 (by omega) (by decide)
 obtain ⟨x2, e2, a2, b2⟩ := d_pick b (p + 1) 20 hb (by omega) (by omega) (by decide)
 obtain ⟨x3, e3, a3, b3⟩ := d_pick b (p + 1 + 1) 40 hb (by omega) (by omega) (by decide)
 obtain ⟨x4, e4, a4, b4⟩ := d_pick b (p + 1 + 1 + 1) 3 hb (by omega) (by omega) (by decide)
 have g1 : I64 (x2 - 6) := by have := b2 (by decide); unfold I64; omega
 have b4 := b4 (by decide)
 have g2 : ix x4 ([-1, 99, 100] : List Int).length := ⟨a4, b4⟩
 have g3 : ix x4 ([-99, 99, 100] : List Int).length := ⟨a4, b4⟩
 unfold p_spec_l71Row
 simp only [e1, e2, e3, e4, bd_some, gd.yes g1, gd.yes g2, gd.yes g3]
 cases decide (x3 = 0) with
 | true => exact ⟨_, _, rfl, by omega, by omega⟩
 | false => cases decide (x3 = 1) with
  | true => exact ⟨_, _, rfl, by omega, by omega⟩
  | false => exact ⟨_, _, rfl, by omega, by omega⟩
def mkP (i : Nat) : List (List Row) → Part
 | [] => ([], [])
 | b :: t => if 0 < b.length then (((i + 1 : Nat) : Int) :: (mkP (i + 1) t).1, b :: (mkP (i + 1) t).2) else mkP (i + 1) t
theorem mkP_len : ∀ (l : List (List Row)) (i : Nat), (mkP i l).1.length = (mkP i l).2.length ∧ (mkP i l).1.length ≤ l.length
 | [], i => by simp [mkP]
 | b :: t, i => by
  have := mkP_len t (i + 1)
  unfold mkP
  split <;> simp <;> omega
theorem mkP_mem : ∀ (l : List (List Row)) (i : Nat) (b : List Row), b ∈ (mkP i l).2 → b ∈ l
 | [], i, b, h => by simp [mkP] at h
 | c :: t, i, b, h => by
  unfold mkP at h
  split at h
  ·rcases List.mem_cons.1 h with rfl | h
   ·simp
   ·exact List.mem_cons_of_mem _ (mkP_mem t (i + 1) b h)
  ·exact List.mem_cons_of_mem _ (mkP_mem t (i + 1) b h)
theorem nth_mem {α : Type} [Inhabited α] {l : List α} {k : Nat} (h : k < l.length) : nth l k ∈ l := by rw [nth_eq l k h]; exact List.getElem_mem h
theorem e_l12Make (v : List (List Row)) (hv : v.length ≤ 1048576) (hb : ∀ b ∈ v, b.length ≤ 1048576) : p_spec_l12Make v = some (mkP 0 v) := by
 unfold p_spec_l12Make
 obtain ⟨e, he, hs⟩ := lp.rule (body := p_spec_l12Make_b0 v) (fun σ => ∃ k : Nat, k ≤ v.length ∧ σ.2.2 = (k : Int) ∧ σ.1.length ≤ k ∧ σ.2.1.length ≤ k ∧ σ.1 ++ (mkP k (v.drop k)).1 = (mkP 0 v).1 ∧ σ.2.1 ++ (mkP k (v.drop k)).2 = (mkP 0 v).2) (fun σ => v.length - σ.2.2.toNat)
  (fun e => e = mkP 0 v) (fun σ hI => by
   obtain ⟨k, k1, k2, k3, k4, k5, k6⟩ := hI
   unfold p_spec_l12Make_b0
   rw [k2]
   by_cases hk : k < v.length
   ·left
    rw [drop_nth hk] at k5 k6
    have hi := i64S hk (by omega)
    have r1 : room (σ.1.length + 1) := by unfold room; omega
    have r2 : room (σ.2.1.length + 1) := by unfold room; omega
    have r3 : room (([] : List Row).length + (nth v k).length) := by have := hb _ (nth_mem hk); unfold room; simp; omega
    simp only [dlt hk, cond_true, gd.yes (ixN hk), Int.toNat_natCast, gd.yes hi, gd.yes r1, gd.yes r2, gd.yes r3]
    by_cases hz : 0 < (nth v k).length
    ·have hz' : (0 : Int) < ((nth v k).length : Int) := by omega
     simp only [mkP, hz, if_true] at k5 k6
     simp only [hz', decide_true, cond_true]
     exact ⟨_, rfl, ⟨k + 1, hk, rfl, by simp; omega, by simp; omega, by simpa using k5, by simpa using k6⟩, by simp only; omega⟩
    ·have hz' : ¬ (0 : Int) < ((nth v k).length : Int) := by omega
     simp only [mkP, hz, if_false] at k5 k6
     simp only [hz', decide_false, cond_false]
     exact ⟨_, rfl, ⟨k + 1, hk, rfl, by simp only; omega, by simp only; omega, k5, k6⟩, by simp only; omega⟩
   ·right
    have hk' : k = v.length := by omega
    subst hk'
    rw [List.drop_length] at k5 k6
    refine ⟨(σ.1, σ.2.1), by simp, ?_⟩
    simp [mkP] at k5 k6
    rw [k5, k6]) (s := (([] : List Int), ([] : List (List Row)), (0 : Int))) ⟨0, Nat.zero_le _, rfl, Nat.le_refl _, Nat.le_refl _, by simp, by simp⟩
 rw [he, hs]; rfl
def small (p : Part) : Prop := p.1.length ≤ 10 ∧ p.2.length ≤ 10 ∧ ∀ b ∈ p.2, b.length ≤ 2000
theorem small_ok {p : Part} (h : small p) : Dp.ok p := by
 obtain ⟨h1, h2, h3⟩ := h
 exact ⟨⟨Nat.le_trans h1 (by decide), fun _ _ => trivial⟩, ⟨Nat.le_trans h2 (by decide), fun i hi => ok_rows _ (Nat.le_trans (h3 _ (nth_mem hi)) (by decide))⟩⟩
theorem wRow {b : List Row} : Wt.w b = b.length := by show b.length + sumN b.length (fun i => Wt.w (nth b i)) = _; rw [sumN_zero (f := fun i => Wt.w (nth b i)) fun i _ => rfl]; rfl
theorem sumN_bound {n m : Nat} {f : Nat → Nat} (h : ∀ i, i < n → f i ≤ m) : sumN n f ≤ n * m := by
 induction n with
 | zero => simp [sumN]
 | succ n ih => have := ih fun i hi => h i (by omega); have := h n (by omega); simp only [sumN, Nat.add_mul]; omega
theorem small_w {p : Part} (h : small p) : Wt.w p ≤ 1048576 := by
 obtain ⟨h1, h2, h3⟩ := h
 have a1 : Wt.w p.1 = p.1.length := by show p.1.length + sumN p.1.length (fun i => Wt.w (nth p.1 i)) = _; rw [sumN_zero (f := fun i => Wt.w (nth p.1 i)) fun i _ => rfl]; rfl
 have a2 : sumN p.2.length (fun i => Wt.w (nth p.2 i)) ≤ p.2.length * 2000 := sumN_bound fun i hi => by rw [wRow]; exact h3 _ (nth_mem hi)
 have a3 : p.2.length * 2000 ≤ 10 * 2000 := Nat.mul_le_mul_right _ h2
 show Wt.w p.1 + (p.2.length + sumN p.2.length fun i => Wt.w (nth p.2 i)) ≤ _
 omega
theorem d_l6Open (c : List UInt8) : ∃ b, p_spec_l6Open c = some (b, 0) ∧ b.length ≤ 2000 := by
 unfold p_spec_l6Open
 by_cases h : (2000 : Int) < (c.length : Int)
 ·have g : sl2 0 2000 c.length := by unfold sl2; omega
  simp only [h, decide_true, cond_true, gd.yes g]
  exact ⟨_, rfl, by simp; omega⟩
 ·simp only [h, decide_false, cond_false]
  exact ⟨_, rfl, by omega⟩
theorem e_lyRows (a b : List Row) (ha : a.length ≤ 9223372036854775807) : p_laws_lyRows a b = some (decide (a = b)) := by
 unfold p_laws_lyRows
 by_cases hl : a.length = b.length
 ·have hl2 : (a.length : Int) = (b.length : Int) := by omega
  simp only [hl2, decide_true, Bool.not_true, cond_false]
  refine eq_loop hl (fun k hk => ?_) ?_
  ·have hk2 : k < b.length := by omega
   unfold p_laws_lyRows_b0
   simp only [dlt hk, cond_true, gd.yes (ixN hk), gd.yes (ixN hk2), Int.toNat_natCast, gd.yes (i64S hk ha)]
   by_cases h : nth a k = nth b k <;> simp [h]
  ·unfold p_laws_lyRows_b0; simp
 ·have h2 : ¬ (a.length : Int) = (b.length : Int) := by omega
  have h3 : a ≠ b := fun e => hl (by rw [e])
  simp [h2, h3]
theorem partOk_iff {p : Part} (h : partOk p = true) : p.1.length = p.2.length ∧ (∀ k, k < p.1.length → 1 ≤ nth p.1 k ∧ nth p.1 k ≤ 6) ∧ (∀ k, 0 < k → k < p.1.length → nth p.1 (k - 1) < nth p.1 k) ∧ (∀ k, k < p.2.length → 0 < (nth p.2 k).length ∧ blockOk (nth p.2 k) = true) := by
 unfold partOk at h
 simp only [Bool.and_eq_true, decide_eq_true_eq] at h
 obtain ⟨h1, h2⟩ := h
 have h2 := allN_iff.1 h2
 refine ⟨h1, fun k hk => ?_, fun k h0 hk => ?_, fun k hk => ?_⟩
 ·have := h2 k hk; simp only [partBad, inn, Bool.or_eq_false_iff, Bool.not_eq_false', Bool.and_eq_true, decide_eq_true_eq] at this; exact this.1.1.1
 ·have := h2 k hk; simp [partBad, h0] at this; exact this.1.1.2
 ·have := h2 k (by omega); simp [partBad] at this; exact ⟨List.length_pos_iff.2 this.2, this.1.2⟩
theorem ids_mono {p : Part} (h : ∀ k, 0 < k → k < p.1.length → nth p.1 (k - 1) < nth p.1 k) : ∀ {j k : Nat}, j < k → k < p.1.length → nth p.1 j < nth p.1 k := by
 intro j k hjk hk
 induction k with
 | zero => omega
 | succ k ih =>
  have h1 := h (k + 1) (by omega) hk
  rw [show k + 1 - 1 = k by omega] at h1
  rcases Nat.lt_or_eq_of_le (Nat.le_of_lt_succ hjk) with h' | rfl
  ·have := ih h' (by omega); omega
  ·exact h1
def ins (r : Row) : List Row → List Row
 | [] => [r]
 | x :: t => if x.1 < r.1 then x :: ins r t else if x.1 = r.1 then r :: t else r :: x :: t
theorem ins_len (r : Row) : ∀ l : List Row, l.length ≤ (ins r l).length ∧ (ins r l).length ≤ l.length + 1
 | [] => by simp [ins]
 | x :: t => by
  have := ins_len r t
  unfold ins
  split
  ·simp; omega
  ·split <;> simp
theorem ins_pre (r : Row) : ∀ (p s : List Row), (∀ x ∈ p, x.1 < r.1) → ins r (p ++ s) = p ++ ins r s
 | [], s, _ => rfl
 | x :: p, s, h => by
  have hx := h x (by simp)
  rw [List.cons_append, ins, if_pos hx, ins_pre r p s fun y hy => h y (by simp [hy]), List.cons_append]
def Asc (l : List Row) : Prop := l.Pairwise fun x y => x.1 < y.1
theorem e_put (b : List Row) (r : Row) (hb : b.length ≤ 1048576) : p_impl_put b r = some (ins r b) := by
 unfold p_impl_put
 have r0 : room (([] : List Row).length + b.length) := by unfold room; simp; omega
 simp only [gd.yes r0, List.nil_append]
 have key : ∃ k : Nat, k ≤ b.length ∧ (∀ i, i < k → (nth b i).1 < r.1) ∧ (k < b.length → ¬ (nth b k).1 < r.1) ∧ lp (p_impl_put_b0 b r) 0 = some (k : Int) := by
  rcases lp_scan (body := p_impl_put_b0 b r) (fun k => (k : Int)) b.length (fun k => !decide ((nth b k).1 < r.1)) (b.length : Int) (fun k => (k : Int)) (fun k hk _ h => by
    have h' : (nth b k).1 < r.1 := by simpa using h
    unfold p_impl_put_b0; simp [hk, gd.yes (ixN hk), h', gd.yes (i64S hk (by omega))]) (fun k hk _ h => by
    have h' : ¬ (nth b k).1 < r.1 := by simpa using h
    unfold p_impl_put_b0; simp [hk, gd.yes (ixN hk), h']) (fun _ => by unfold p_impl_put_b0; simp) with ⟨h1, h2⟩ | ⟨h1, k, hk, hb', hn, h2⟩
  ·exact ⟨b.length, Nat.le_refl _, fun i hi => by simpa using allN_iff.1 h1 i hi, fun h => absurd h (Nat.lt_irrefl _), h2⟩
  ·exact ⟨k, Nat.le_of_lt hk, fun i hi => by simpa using hn i hi, fun _ => by simpa using hb', h2⟩
 obtain ⟨k, k1, k2, k3, k4⟩ := key
 rw [k4, bd_some]
 have hpre : ∀ x ∈ b.take k, x.1 < r.1 := fun x hx => by
  obtain ⟨i, hi, rfl⟩ := List.mem_iff_getElem.1 hx
  have hik : i < k := by simp at hi; omega
  have := k2 i hik
  rw [nth_eq b i (by omega)] at this
  simpa using this
 have hins : ins r b = b.take k ++ ins r (b.drop k) := by
  conv => lhs; rw [← List.take_append_drop k b]
  rw [ins_pre r _ _ hpre]
 by_cases hk : k < b.length
 ·have h3 := k3 hk
  rw [drop_nth hk, ins, if_neg h3] at hins
  simp only [dlt hk, cond_true, gd.yes (ixN hk), bd_some, Int.toNat_natCast]
  by_cases he : (nth b k).1 = r.1
  ·rw [if_pos he] at hins
   rw [hins, List.set_eq_take_append_cons_drop, if_pos hk]
   simp [he]
  ·rw [if_neg he] at hins
   have g1 : (0 : Int) ≤ (k : Int) ∧ (k : Int) ≤ (b.length : Int) := by omega
   have g2 : room (b.length + [r].length) := by unfold room; simp; omega
   have g3 : 0 < [r].length := by simp
   unfold p_slices_Insert_Row_Row p_insert
   have e1 : b.take k ++ [r] ++ b.drop k = ins r b := by rw [hins, drop_nth hk]; simp
   simp only [he, decide_false, cond_false, gd.yes g1, gd.yes g2, gd.yes g3, bd_some, Int.toNat_natCast, e1]
   have := ins_len r b
   have g4 : room (([] : List Row).length + (ins r b).length) := by unfold room; simp; omega
   simp only [gd.yes g4]
 ·have hk' : k = b.length := by omega
  subst hk'
  have g1 : (0 : Int) ≤ (b.length : Int) ∧ (b.length : Int) ≤ (b.length : Int) := by omega
  have g2 : room (b.length + [r].length) := by unfold room; simp; omega
  have g3 : 0 < [r].length := by simp
  rw [List.drop_length] at hins
  have e1 : b.take b.length ++ [r] ++ b.drop b.length = ins r b := by rw [hins, List.drop_length]; simp [ins]
  unfold p_slices_Insert_Row_Row p_insert
  simp only [Int.lt_irrefl, decide_false, cond_false, bd_some, gd.yes g1, gd.yes g2, gd.yes g3, Int.toNat_natCast, e1]
  have := ins_len r b
  have g4 : room (([] : List Row).length + (ins r b).length) := by unfold room; simp; omega
  simp only [gd.yes g4]
theorem l2_true (r : Row) : ∀ l : List Row, (∀ x ∈ l, r.1 < x.1) → l2 r true l = l
 | [], _ => rfl
 | x :: t, h => by
  have hx := h x (by simp)
  simp only [l2, Bool.not_true, Bool.false_and, Bool.false_eq_true, if_false, List.nil_append, Bool.true_or]
  rw [if_neg (by omega), l2_true r t fun y hy => h y (by simp [hy])]; rfl
theorem l2_ins (r : Row) : ∀ l : List Row, Asc l → l2 r false l = ins r l
 | [], _ => rfl
 | x :: t, h => by
  unfold Asc at h
  obtain ⟨h1, h2⟩ := List.pairwise_cons.1 h
  simp only [l2, ins, Bool.not_false, Bool.true_and, Bool.false_or]
  by_cases hle : r.1 ≤ x.1
  ·simp only [hle, decide_true, if_true]
   rw [if_neg (show ¬ x.1 < r.1 by omega), l2_true r t fun y hy => by have := h1 y hy; omega]
   by_cases he : x.1 = r.1 <;> simp [he]
  ·simp only [hle, decide_false, Bool.false_eq_true, if_false, List.nil_append]
   rw [if_pos (show x.1 < r.1 by omega), if_neg (show ¬ x.1 = r.1 by omega), l2_ins r t h2]; rfl
theorem ins_mem {r y : Row} : ∀ {l : List Row}, y ∈ ins r l → y = r ∨ y ∈ l
 | [], h => by simp [ins] at h; exact .inl h
 | x :: t, h => by
  unfold ins at h
  split at h
  ·rcases List.mem_cons.1 h with h | h
   ·exact .inr (by simp [h])
   ·exact (ins_mem h).imp id fun h => by simp [h]
  ·split at h
   ·rcases List.mem_cons.1 h with h | h
    ·exact .inl h
    ·exact .inr (by simp [h])
   ·rcases List.mem_cons.1 h with h | h
    ·exact .inl h
    ·exact .inr h
theorem ins_asc (r : Row) : ∀ {l : List Row}, Asc l → Asc (ins r l)
 | [], _ => by simp [ins, Asc]
 | x :: t, h => by
  unfold Asc at h ⊢
  obtain ⟨h1, h2⟩ := List.pairwise_cons.1 h
  unfold ins
  split
  ·rename_i hx
   refine List.pairwise_cons.2 ⟨fun y hy => ?_, ins_asc r h2⟩
   rcases ins_mem hy with rfl | hy
   ·exact hx
   ·exact h1 y hy
  ·split
   ·rename_i hx he
    exact List.pairwise_cons.2 ⟨fun y hy => by have := h1 y hy; omega, h2⟩
   ·rename_i hx he
    refine List.pairwise_cons.2 ⟨fun y hy => ?_, h⟩
    rcases List.mem_cons.1 hy with rfl | hy
    ·omega
    ·have := h1 y hy; omega
def mg (a b : List Row) : List Row := b.foldl (fun o r => ins r o) a
theorem mg_asc {a b : List Row} (ha : Asc a) : Asc (mg a b) := by
 unfold mg
 induction b generalizing a with
 | nil => exact ha
 | cons x b ih => exact ih (ins_asc x ha)
theorem mg_len : ∀ (b a : List Row), a.length ≤ (mg a b).length ∧ (mg a b).length ≤ a.length + b.length
 | [], a => by simp [mg]
 | x :: b, a => by
  have h1 := ins_len x a
  have h2 := mg_len b (ins x a)
  unfold mg at h2 ⊢
  simp only [List.foldl_cons, List.length_cons] at h2 ⊢
  omega
theorem mg_mem {y : Row} : ∀ {b a : List Row}, y ∈ mg a b → y ∈ a ∨ y ∈ b
 | [], a, h => .inl h
 | x :: b, a, h => by
  have h : y ∈ mg (ins x a) b := h
  rcases mg_mem h with h | h
  ·rcases ins_mem h with rfl | h
   ·exact .inr (by simp)
   ·exact .inl h
  ·exact .inr (by simp [h])
theorem nil_asc : Asc [] := List.Pairwise.nil
theorem blockOk_iff {b : List Row} : blockOk b = true ↔ (∀ x ∈ b, rowOk x = true) ∧ Asc b ∧ b.length ≤ 24 := by
 unfold blockOk
 rw [Bool.and_eq_true, allN_iff, decide_eq_true_eq]
 constructor
 ·rintro ⟨h1, h2⟩
  have hp : ∀ k, k < b.length → rowOk (nth b k) = true ∧ (0 < k → (nth b (k - 1)).1 < (nth b k).1) := fun k hk => by
   have := h1 k hk
   simp only [rowBad, Bool.or_eq_false_iff, Bool.not_eq_false', Bool.and_eq_false_iff, decide_eq_false_iff_not] at this
   exact ⟨this.1, fun h0 => by rcases this.2 with h | h <;> omega⟩
  refine ⟨fun x hx => ?_, ?_, by omega⟩
  ·obtain ⟨i, hi, rfl⟩ := List.mem_iff_getElem.1 hx
   rw [← nth_eq b i hi]; exact (hp i hi).1
  ·refine List.pairwise_iff_getElem.2 fun i j hi hj hij => ?_
   rw [← nth_eq b i hi, ← nth_eq b j hj]
   clear hi
   induction j with
   | zero => omega
   | succ j ih =>
    have h3 := (hp (j + 1) hj).2 (by omega)
    rw [show j + 1 - 1 = j by omega] at h3
    rcases Nat.lt_or_eq_of_le (Nat.le_of_lt_succ hij) with h' | rfl
    ·have := ih (by omega) h'; omega
    ·exact h3
 ·rintro ⟨h1, h2, h3⟩
  refine ⟨fun k hk => ?_, by omega⟩
  have r1 : rowOk (nth b k) = true := h1 _ (nth_mem hk)
  simp only [rowBad, r1, Bool.not_true, Bool.false_or, Bool.and_eq_false_iff, decide_eq_false_iff_not]
  rcases Nat.eq_zero_or_pos k with h0 | h0
  ·exact .inl (by omega)
  ·refine .inr ?_
   have := List.pairwise_iff_getElem.1 h2 (k - 1) k (by omega) hk (by omega)
   rw [← nth_eq b (k - 1) (by omega), ← nth_eq b k hk] at this
   omega
theorem foldl_take {α β : Type} [Inhabited α] (f : β → α → β) (s : β) (l : List α) (k : Nat) (hk : k < l.length) : (l.take (k + 1)).foldl f s = f ((l.take k).foldl f s) (nth l k) := by
 rw [nth_eq l k hk, List.take_succ_eq_append_getElem hk, List.foldl_append]; rfl
theorem mg_take (a b : List Row) (k : Nat) (hk : k < b.length) : mg a (b.take (k + 1)) = ins (nth b k) (mg a (b.take k)) := foldl_take _ _ _ _ hk
theorem mg_take_len (a b : List Row) (k : Nat) (hk : k ≤ b.length) : (mg a (b.take k)).length ≤ a.length + b.length := by
 have := (mg_len (b.take k) a).2
 rw [List.length_take] at this; omega
theorem e_impl_BlockMerge (a b : List Row) (ha : a.length ≤ 1048576) (hb : b.length ≤ 1048576) : p_impl_BlockMerge a b = some (if blockOk a = true ∧ blockOk b = true ∧ (mg a b).length ≤ 24 then (mg a b, true) else ([], false)) := by
 have m : (1048576 : Nat) ≤ maxLen := by decide
 unfold p_impl_BlockMerge
 rw [e_impl_BlockOk a (Nat.le_trans ha m), bd_some]
 cases h1 : blockOk a with
 | false => simp
 | true =>
  simp only [Bool.not_true, cond_false, e_impl_BlockOk b (Nat.le_trans hb m), bd_some]
  cases h2 : blockOk b with
  | false => simp
  | true =>
   have la := (blockOk_iff.1 h1).2.2
   have lb := (blockOk_iff.1 h2).2.2
   have g1 : room (([] : List Row).length + a.length) := by unfold room; simp; omega
   simp only [Bool.not_true, cond_false, gd.yes g1, List.nil_append]
   have := lp_for (body := p_impl_BlockMerge_b0 b) (fun k => (mg a (b.take k), (k : Int))) b.length (mg a b) (fun k hk => by
    unfold p_impl_BlockMerge_b0
    have hl := mg_take_len a b k (by omega)
    simp only [dlt hk, cond_true, gd.yes (ixN hk), Int.toNat_natCast, e_put _ (nth b k) (show (mg a (b.take k)).length ≤ 1048576 by omega), bd_some, gd.yes (i64S hk (by omega)), mg_take a b k hk]
    rfl) (by unfold p_impl_BlockMerge_b0; simp)
   have e0 : lp (p_impl_BlockMerge_b0 b) (a, 0) = some (mg a b) := this
   rw [e0, bd_some]
   by_cases hl : (mg a b).length ≤ 24
   ·have : ¬ (24 : Int) < ((mg a b).length : Int) := by omega
    simp [this, hl]
   ·have : (24 : Int) < ((mg a b).length : Int) := by omega
    simp [this, hl]
theorem e_spec_l2Merge (a b : List Row) (ha : a.length ≤ 100) (hb : b.length ≤ 100) (h : Asc a) : p_spec_l2Merge a b = some (mg a b) := by
 unfold p_spec_l2Merge
 have g1 : room (([] : List Row).length + a.length) := by unfold room; simp; omega
 simp only [gd.yes g1, List.nil_append]
 have := lp_for (body := p_spec_l2Merge_b0 b) (fun k => (mg a (b.take k), (k : Int))) b.length (mg a b) (fun k hk => by
  unfold p_spec_l2Merge_b0
  have hl := mg_take_len a b k (by omega)
  simp only [dlt hk, cond_true, gd.yes (ixN hk), Int.toNat_natCast, e_l2Put _ (nth b k) (show (mg a (b.take k)).length ≤ 1048576 by omega), l2_ins _ _ (mg_asc h), bd_some, gd.yes (i64S hk (by omega)), mg_take a b k hk]
  rfl) (by unfold p_spec_l2Merge_b0; simp)
 have e0 : lp (p_spec_l2Merge_b0 b) (a, 0) = some (mg a b) := this
 rw [e0]; rfl
theorem partOk_asc {p : Part} (h : partOk p = true) : p.1.Pairwise (· < ·) := List.pairwise_iff_getElem.2 fun i j hi hj hij => by
 rw [← nth_eq p.1 i hi, ← nth_eq p.1 j hj]; exact ids_mono (partOk_iff h).2.2.1 hij hj
theorem rowsOf_ok {p : Part} (h : partOk p = true) (id : Int) : blockOk (rowsOf p id) = true := by
 unfold rowsOf
 rcases place_lt (l := p.1) (id := id) with hp | ⟨k, hk, hp⟩
 ·rw [if_pos hp]; rfl
 ·rw [hp, if_neg (by omega)]; exact ((partOk_iff h).2.2.2 k (by have := (partOk_iff h).1; omega)).2
def blk (a b : Part) (id : Int) : List Row := mg (rowsOf a id) (rowsOf b id)
def blks (a b : Part) (n : Nat) : List (List Row) := (List.range n).map fun i => blk a b ((i + 1 : Nat) : Int)
def pmP (a b : Part) : Part := mkP 0 (blks a b 6)
theorem blks_len (a b : Part) (n : Nat) : (blks a b n).length = n := by simp [blks]
theorem blks_succ (a b : Part) (n : Nat) : blks a b (n + 1) = blks a b n ++ [blk a b ((n + 1 : Nat) : Int)] := by simp [blks, List.range_succ]
theorem ba_one {x : ByteArray} (h : x.size = 1) : x = ⟨#[sb x 0]⟩ := by
 have : x.data.size = 1 := h
 apply ByteArray.ext
 apply Array.ext
 ·rw [this]; rfl
 ·intro i h1 h2
  have hi : i = 0 := by omega
  subst hi
  simp [sb, this]
theorem sl_one (a b : UInt8) : sless ⟨#[a]⟩ ⟨#[b]⟩ = decide (a < b) := by
 rw [sless_lt]
 have e : ∀ c : UInt8, (⟨#[c]⟩ : ByteArray).toList = [c] := fun c => by simp [ByteArray.toList, ByteArray.toList.loop, ByteArray.size, ByteArray.get!]
 have h2 : ([a] < [b]) ↔ a < b := by rw [List.cons_lt_cons_iff]; simp
 rw [e, e]
 exact decide_eq_decide.2 h2
def tagB (t : Tag) : Bool := decide (t.1.size = 1) && (decide (t.2.size = 1) && (inn 97 ((sb t.1 0).toNat : Int) 100 && inn 112 ((sb t.2 0).toNat : Int) 122))
theorem e_spec_l3Tag (t : Tag) : p_spec_l3Tag t = some (tagB t) := by
 unfold p_spec_l3Tag tagB
 have c1 : decide ((t.1.size : Int) = 1) = decide (t.1.size = 1) := decide_eq_decide.2 (by omega)
 have c2 : decide ((t.2.size : Int) = 1) = decide (t.2.size = 1) := decide_eq_decide.2 (by omega)
 rw [c1, c2]
 by_cases h1 : t.1.size = 1
 ·by_cases h2 : t.2.size = 1
  ·simp only [h1, h2, decide_true, cond_true, gd.yes (show ix 0 1 by unfold ix; omega), e_spec_l6In, bd_some, Bool.true_and]
   cases inn 97 ((sb t.1 0).toNat : Int) 100 <;> simp
  ·simp [h1, h2]
 ·simp [h1]
theorem rng_one {x : ByteArray} (h : x.size = 1) (lo hi : UInt8) : (!sless x ⟨#[lo]⟩ && (sless x ⟨#[hi]⟩ || decide (x = ⟨#[hi]⟩))) = inn (lo.toNat : Int) ((sb x 0).toNat : Int) (hi.toNat : Int) := by
 have hx := ba_one h
 generalize sb x 0 = c at *
 subst hx
 rw [sl_one, sl_one]
 have e1 : (!decide (c < lo)) = decide ((lo.toNat : Int) ≤ (c.toNat : Int)) := by
  by_cases k : c < lo
  ·have : c.toNat < lo.toNat := UInt8.lt_iff_toNat_lt.1 k
   simp [k]; omega
  ·have : ¬ c.toNat < lo.toNat := fun q => k (UInt8.lt_iff_toNat_lt.2 q)
   simp [k]; omega
 have e2 : (decide (c < hi) || decide ((⟨#[c]⟩ : ByteArray) = ⟨#[hi]⟩)) = decide ((c.toNat : Int) ≤ (hi.toNat : Int)) := by
  by_cases k : c < hi
  ·have : c.toNat < hi.toNat := UInt8.lt_iff_toNat_lt.1 k
   simp [k]; omega
  ·have h3 : ¬ c.toNat < hi.toNat := fun q => k (UInt8.lt_iff_toNat_lt.2 q)
   by_cases e : c = hi
   ·subst e; simp
   ·have h4 : c.toNat ≠ hi.toNat := fun q => e (UInt8.toNat_inj.1 q)
    have h5 : (⟨#[c]⟩ : ByteArray) ≠ ⟨#[hi]⟩ := fun q => e (by
     have := congrArg (fun b : ByteArray => b.data.toList) q
     simpa using this)
    simp [k, h5]; omega
 rw [e1, e2]; rfl
theorem e_impl_tagOk (t : Tag) : p_impl_tagOk t = some (tagB t) := by
 unfold p_impl_tagOk tagB
 have c1 : decide ((t.1.size : Int) = 1) = decide (t.1.size = 1) := decide_eq_decide.2 (by omega)
 have c2 : decide ((t.2.size : Int) = 1) = decide (t.2.size = 1) := decide_eq_decide.2 (by omega)
 rw [c1, c2]
 by_cases h1 : t.1.size = 1
 ·have r1 := rng_one h1 97 100
  rw [show ((97 : UInt8).toNat : Int) = 97 from rfl, show ((100 : UInt8).toNat : Int) = 100 from rfl] at r1
  rw [← r1]
  by_cases h2 : t.2.size = 1
  ·have r2 := rng_one h2 112 122
   rw [show ((112 : UInt8).toNat : Int) = 112 from rfl, show ((122 : UInt8).toNat : Int) = 122 from rfl] at r2
   rw [← r2]
   simp only [h1, h2, decide_true, cond_true, Bool.true_and]
   cases (!sless t.1 ⟨#[97]⟩) <;> cases (sless t.1 ⟨#[100]⟩ || decide (t.1 = ⟨#[100]⟩)) <;> cases (!sless t.2 ⟨#[112]⟩) <;> rfl
  ·simp only [h1, h2, decide_true, decide_false, cond_true, cond_false, Bool.true_and, Bool.false_and]
   cases (!sless t.1 ⟨#[97]⟩) <;> cases (sless t.1 ⟨#[100]⟩ || decide (t.1 = ⟨#[100]⟩)) <;> rfl
 ·simp [h1]
def nameBad (n : List Tag) (k : Nat) : Bool := !tagB (nth n k) || (decide (0 < k) && !sless (nth n (k - 1)).1 (nth n k).1)
def nameOk (n : List Tag) : Bool := allN n.length (nameBad n) && inn 1 (n.length : Int) 3
theorem e_impl_NameOk (n : List Tag) (hn : n.length ≤ maxLen) : p_impl_NameOk n = some (nameOk n) := by
 have hn' : n.length ≤ 9223372036854775807 := hn
 have hr : ∀ k, k < n.length → p_impl_NameOk_b0 n (k : Int) = some (if nameBad n k then .inr (.inr false) else .inl ((k + 1 : Nat) : Int)) := fun k hk => by
  unfold p_impl_NameOk_b0 nameBad
  simp only [dlt hk, cond_true, gd.yes (ixN hk), e_impl_tagOk, bd_some, Int.toNat_natCast, gd.yes (i64S hk hn')]
  cases h1 : tagB (nth n k) with
  | false => simp
  | true =>
   simp only [Bool.not_true, cond_false, Bool.false_or]
   by_cases h0 : 0 < k
   ·have h0' : (0 : Int) < k := by omega
    have e1 : (k : Int) - 1 = ((k - 1 : Nat) : Int) := by omega
    have hi : I64 ((k - 1 : Nat) : Int) := by unfold I64; omega
    simp only [h0, h0', decide_true, cond_true, e1, gd.yes hi, gd.yes (ixN (show k - 1 < n.length by omega)), Int.toNat_natCast, bd_some, Bool.true_and]
    cases sless (nth n (k - 1)).1 (nth n k).1 <;> simp
   ·simp [h0]
 unfold p_impl_NameOk nameOk
 rcases lp_scan (body := p_impl_NameOk_b0 n) (fun k => (k : Int)) n.length (nameBad n) (.inl ()) (fun _ => .inr false) (fun k hk _ h => by simp [hr k hk, h]) (fun k hk _ h => by simp [hr k hk, h]) (fun _ => by unfold p_impl_NameOk_b0; simp) with ⟨h1, h2⟩ | ⟨h1, k, _, _, _, h2⟩
 ·rw [show (lp (p_impl_NameOk_b0 n) 0) = _ from h2, h1]; simp [sw, e_impl_within]
 ·rw [show (lp (p_impl_NameOk_b0 n) 0) = _ from h2, h1]; simp [sw]
theorem e_spec_NameOk (n : List Tag) (hn : n.length ≤ maxLen) : p_spec_NameOk n = some (nameOk n) := by
 have hn' : n.length ≤ 9223372036854775807 := hn
 have hr : ∀ k, k < n.length → p_spec_NameOk_b0 n (k : Int) = some (if nameBad n k then .inr (.inr false) else .inl ((k + 1 : Nat) : Int)) := fun k hk => by
  unfold p_spec_NameOk_b0 nameBad
  simp only [dlt hk, cond_true, gd.yes (ixN hk), e_spec_l3Tag, bd_some, Int.toNat_natCast, gd.yes (i64S hk hn')]
  cases h1 : tagB (nth n k) with
  | false => simp
  | true =>
   simp only [Bool.not_true, cond_false, Bool.false_or]
   by_cases h0 : 0 < k
   ·have h0' : (0 : Int) < k := by omega
    have e1 : (k : Int) - 1 = ((k - 1 : Nat) : Int) := by omega
    have hi : I64 ((k - 1 : Nat) : Int) := by unfold I64; omega
    simp only [h0, h0', decide_true, cond_true, e1, gd.yes hi, gd.yes (ixN (show k - 1 < n.length by omega)), Int.toNat_natCast, bd_some, Bool.true_and]
    cases sless (nth n (k - 1)).1 (nth n k).1 <;> simp
   ·simp [h0]
 unfold p_spec_NameOk nameOk
 rcases lp_scan (body := p_spec_NameOk_b0 n) (fun k => (k : Int)) n.length (nameBad n) (.inl ()) (fun _ => .inr false) (fun k hk _ h => by simp [hr k hk, h]) (fun k hk _ h => by simp [hr k hk, h]) (fun _ => by unfold p_spec_NameOk_b0; simp) with ⟨h1, h2⟩ | ⟨h1, k, _, _, _, h2⟩
 ·rw [show (lp (p_spec_NameOk_b0 n) 0) = _ from h2, h1]; simp [sw, e_spec_l6In]
 ·rw [show (lp (p_spec_NameOk_b0 n) 0) = _ from h2, h1]; simp [sw]
theorem allN_mem {α : Type} [Inhabited α] {l : List α} {p : α → Bool} : allN l.length (fun k => p (nth l k)) = true ↔ ∀ x ∈ l, p x = false := by
 rw [allN_iff]
 constructor
 ·intro h x hx
  obtain ⟨i, hi, rfl⟩ := List.mem_iff_getElem.1 hx
  have := h i hi
  rwa [nth_eq l i hi] at this
 ·intro h i hi
  rw [nth_eq l i hi]
  exact h _ (List.getElem_mem hi)
def hasT (n : List Tag) (t : Tag) : Bool := n.any fun x => decide (x = t)
theorem hasT_iff {n : List Tag} {t : Tag} : hasT n t = true ↔ t ∈ n := by simp [hasT]
theorem hasT_no {n : List Tag} {t : Tag} (h : t ∉ n) : hasT n t = false := by
 cases hc : hasT n t with
 | false => rfl
 | true => exact absurd (hasT_iff.1 hc) h
theorem e_spec_l3Has (n : List Tag) (t : Tag) (hn : n.length ≤ maxLen) : p_spec_l3Has n t = some (hasT n t) := by
 have hn' : n.length ≤ 9223372036854775807 := hn
 have hr : ∀ k, k < n.length → p_spec_l3Has_b0 n t (k : Int) = some (if decide (nth n k = t) then .inr (.inr true) else .inl ((k + 1 : Nat) : Int)) := fun k hk => by
  unfold p_spec_l3Has_b0
  simp only [dlt hk, cond_true, gd.yes (ixN hk), Int.toNat_natCast, gd.yes (i64S hk hn')]
  by_cases h : nth n k = t <;> simp [h]
 unfold p_spec_l3Has
 rcases lp_scan (body := p_spec_l3Has_b0 n t) (fun k => (k : Int)) n.length (fun k => decide (nth n k = t)) (.inl ()) (fun _ => .inr true) (fun k hk _ h => by simp [hr k hk, of_decide_eq_false h]) (fun k hk _ h => by simp [hr k hk, of_decide_eq_true h]) (fun _ => by unfold p_spec_l3Has_b0; simp) with ⟨h1, h2⟩ | ⟨h1, k, hk, hb, _, h2⟩
 ·rw [show (lp (p_spec_l3Has_b0 n t) 0) = _ from h2]
  have : t ∉ n := fun ht => by
   have := (allN_mem (l := n) (p := fun x => decide (x = t))).1 h1 t ht
   simp at this
  simp [sw, hasT_no this]
 ·rw [show (lp (p_spec_l3Has_b0 n t) 0) = _ from h2]
  have : t ∈ n := (of_decide_eq_true hb) ▸ nth_mem hk
  simp [sw, hasT_iff.2 this]
theorem e_impl_cloneNames (names : List (List Tag)) (h1 : names.length ≤ 4194304) (h2 : ∀ n ∈ names, n.length ≤ 4194304) : p_impl_cloneNames names = some names := by
 unfold p_impl_cloneNames
 rw [show (([] : List (List Tag)), (0 : Int)) = (names.take 0, ((0 : Nat) : Int)) from rfl, lp_for (fun k => (names.take k, (k : Int))) names.length names (fun k hk => by
  unfold p_impl_cloneNames_b0
  have hl := h2 _ (nth_mem hk)
  simp only [dlt hk, cond_true, gd.yes (ixN hk), Int.toNat_natCast, List.length_nil, List.nil_append, List.length_take]
  rw [gd.yes (by unfold room; omega), gd.yes (by unfold room; omega), gd.yes (by unfold I64; omega), take_succ_nth hk]
  rfl) (by unfold p_impl_cloneNames_b0; simp)]
 rfl
theorem e_spec_l11Names (names : List (List Tag)) (h1 : names.length ≤ 4194304) (h2 : ∀ n ∈ names, n.length ≤ 4194304) : p_spec_l11Names names = some names := by
 unfold p_spec_l11Names
 rw [show (([] : List (List Tag)), (0 : Int)) = (names.take 0, ((0 : Nat) : Int)) from rfl, lp_for (fun k => (names.take k, (k : Int))) names.length names (fun k hk => by
  unfold p_spec_l11Names_b0
  have hl := h2 _ (nth_mem hk)
  simp only [dlt hk, cond_true, gd.yes (ixN hk), Int.toNat_natCast, List.length_nil, List.nil_append, List.length_take]
  rw [gd.yes (by unfold room; omega), gd.yes (by unfold room; omega), gd.yes (by unfold I64; omega), take_succ_nth hk]
  rfl) (by unfold p_spec_l11Names_b0; simp)]
 rfl
def addT : List Post → Tag → Int → List Post
 | [], t, i => [(t, [i])]
 | p :: P, t, i => if p.1 = t then (p.1, p.2 ++ [i]) :: P else p :: addT P t i
def addN (P : List Post) (n : List Tag) (i : Int) : List Post := n.foldl (fun P t => addT P t i) P
def postsF (names : List (List Tag)) : Nat → List Post
 | 0 => []
 | m + 1 => addN (postsF names m) (nth names m) ((m : Int) + 1)
def indexP (names : List (List Tag)) : Index := (names, (postsF names names.length).mergeSort leP)
theorem addT_old (P : List Post) (t : Tag) (i : Int) (h : t ∈ P.map (·.1)) : (addT P t i).map (·.1) = P.map (·.1) := by
 induction P with
 | nil => cases h
 | cons p P ih =>
  unfold addT
  by_cases e : p.1 = t
  ·simp [e]
  ·rw [if_neg e, List.map_cons, List.map_cons, ih]
   rcases List.mem_cons.1 h with h | h
   ·exact absurd h.symm e
   ·exact h
theorem addT_new (P : List Post) (t : Tag) (i : Int) (h : t ∉ P.map (·.1)) : (addT P t i).map (·.1) = P.map (·.1) ++ [t] := by
 induction P with
 | nil => rfl
 | cons p P ih =>
  unfold addT
  have e : p.1 ≠ t := fun e => h (by rw [List.map_cons, e]; exact List.mem_cons_self ..)
  rw [if_neg e, List.map_cons, List.map_cons, ih (fun q => h (by rw [List.map_cons]; exact List.mem_cons_of_mem _ q))]
  rfl
theorem addT_nodup {P : List Post} (h : (P.map (·.1)).Nodup) (t : Tag) (i : Int) : ((addT P t i).map (·.1)).Nodup := by
 by_cases hm : t ∈ P.map (·.1)
 ·rw [addT_old P t i hm]; exact h
 ·rw [addT_new P t i hm, List.nodup_append]
  exact ⟨h, by simp, fun a ha b hb => by simp at hb; subst hb; exact fun e => hm (e ▸ ha)⟩
theorem addN_cons (P : List Post) (t : Tag) (n : List Tag) (i : Int) : addN P (t :: n) i = addN (addT P t i) n i := rfl
theorem postsF_succ (names : List (List Tag)) (m : Nat) : postsF names (m + 1) = addN (postsF names m) (nth names m) ((m : Int) + 1) := rfl
theorem addN_nodup (n : List Tag) (i : Int) : ∀ {P : List Post}, (P.map (·.1)).Nodup → ((addN P n i).map (·.1)).Nodup := by
 unfold addN
 induction n with
 | nil => intro P h; exact h
 | cons t n ih => intro P h; exact ih (addT_nodup h t i)
theorem postsF_nodup (names : List (List Tag)) : ∀ m, ((postsF names m).map (·.1)).Nodup
 | 0 => by simp [postsF]
 | m + 1 => addN_nodup _ _ (postsF_nodup names m)
def bnd (P : List Post) (c : Nat) : Prop := P.length ≤ c ∧ ∀ p ∈ P, p.2.length ≤ c
theorem bnd_addT {P : List Post} {c : Nat} (h : bnd P c) (t : Tag) (i : Int) : bnd (addT P t i) (c + 1) := by
 obtain ⟨h1, h2⟩ := h
 have len : (addT P t i).length ≤ P.length + 1 := by
  clear h1 h2
  induction P with
  | nil => simp [addT]
  | cons p P ih => unfold addT; split <;> simp <;> omega
 refine ⟨by omega, ?_⟩
 clear len h1
 induction P with
 | nil => intro p hp; simp [addT] at hp; subst hp; simp
 | cons q P ih =>
  intro p hp
  unfold addT at hp
  split at hp
  ·rcases List.mem_cons.1 hp with rfl | hp
   ·have := h2 q (List.mem_cons_self ..)
    simp; omega
   ·have := h2 p (List.mem_cons_of_mem _ hp); omega
  ·rcases List.mem_cons.1 hp with rfl | hp
   ·have := h2 p (List.mem_cons_self ..); omega
   ·exact ih (fun r hr => h2 r (List.mem_cons_of_mem _ hr)) p hp
theorem addT_none {P : List Post} {t : Tag} (i : Int) (h : ∀ k, k < P.length → (nth P k).1 ≠ t) : addT P t i = P ++ [(t, [i])] := by
 induction P with
 | nil => rfl
 | cons p P ih =>
  have h0 : p.1 ≠ t := h 0 (by simp)
  unfold addT
  rw [if_neg h0, ih (fun k hk => h (k + 1) (by simp; omega))]; rfl
theorem addT_some {P : List Post} {t : Tag} (i : Int) : ∀ {k : Nat}, k < P.length → (nth P k).1 = t → (∀ j, j < k → (nth P j).1 ≠ t) → addT P t i = P.set k ((nth P k).1, (nth P k).2 ++ [i]) := by
 induction P with
 | nil => intro k hk; simp at hk
 | cons p P ih =>
  intro k hk he hn
  cases k with
  | zero =>
   have he : p.1 = t := he
   unfold addT; rw [if_pos he]; rfl
  | succ k =>
   have h0 : p.1 ≠ t := hn 0 (by omega)
   unfold addT
   rw [if_neg h0, ih (k := k) (by simpa using hk) he (fun j hj => hn (j + 1) (by omega))]
   rfl
theorem e_IndexFunc1 (P : List Post) (t : Tag) (hP : P.length ≤ 4194304) : (∃ k : Nat, k < P.length ∧ (nth P k).1 = t ∧ (∀ j, j < k → (nth P j).1 ≠ t) ∧ p_slices_IndexFunc_Post_Post_indexOf_1 P t = some (k : Int)) ∨ ((∀ k, k < P.length → (nth P k).1 ≠ t) ∧ p_slices_IndexFunc_Post_Post_indexOf_1 P t = some (-1)) := by
 have hr : ∀ k, k < P.length → p_slices_IndexFunc_Post_Post_indexOf_1_b0 P t (k : Int) = some (if decide ((nth P k).1 = t) then .inr (.inr (k : Int)) else .inl ((k + 1 : Nat) : Int)) := fun k hk => by
  unfold p_slices_IndexFunc_Post_Post_indexOf_1_b0 p_impl_indexOf_1
  simp only [dlt hk, cond_true, gd.yes (ixN hk), Int.toNat_natCast, bd_some, gd.yes (i64S hk (by omega))]
  by_cases h : (nth P k).1 = t <;> simp [h]
 unfold p_slices_IndexFunc_Post_Post_indexOf_1
 rcases lp_scan (body := p_slices_IndexFunc_Post_Post_indexOf_1_b0 P t) (fun k => (k : Int)) P.length (fun k => decide ((nth P k).1 = t)) (.inl ()) (fun k => .inr (k : Int)) (fun k hk _ h => by simp [hr k hk, of_decide_eq_false h]) (fun k hk _ h => by rw [hr k hk, if_pos h]) (fun _ => by unfold p_slices_IndexFunc_Post_Post_indexOf_1_b0; simp) with ⟨h1, h2⟩ | ⟨h1, k, hk, hb, hn, h2⟩
 ·exact .inr ⟨fun k hk => of_decide_eq_false (allN_iff.1 h1 k hk), by rw [show (lp (p_slices_IndexFunc_Post_Post_indexOf_1_b0 P t) 0) = _ from h2]; rfl⟩
 ·exact .inl ⟨k, hk, of_decide_eq_true hb, fun j hj => of_decide_eq_false (hn j hj), by rw [show (lp (p_slices_IndexFunc_Post_Post_indexOf_1_b0 P t) 0) = _ from h2]; rfl⟩
theorem e_tags (names : List (List Tag)) (Q : List Post) (m : Nat) (hm : m < 4194304) (c : Nat) (n : List Tag) (hn : n = nth names m) (hc : c + n.length ≤ 4194304) : ∀ (r j : Nat) (P : List Post), j + r = n.length → bnd P (c + j) →
  lp (p_impl_indexOf_b1 names (Q, (m : Int))) (P, (j : Int)) = some (addN P (n.drop j) ((m : Int) + 1)) ∧ bnd (addN P (n.drop j) ((m : Int) + 1)) (c + n.length)
 | 0, j, P, hj, hb => by
  have : n.drop j = [] := List.drop_eq_nil_of_le (by omega)
  rw [this]
  refine ⟨lp.stop ?_, by rw [show c + n.length = c + j by omega]; exact hb⟩
  unfold p_impl_indexOf_b1
  simp only [Int.toNat_natCast, ← hn]
  rw [decide_eq_false (show ¬ ((j : Int) < (n.length : Int)) by omega)]; rfl
 | r + 1, j, P, hj, hb => by
  have hjn : j < n.length := by omega
  have hd : n.drop j = nth n j :: n.drop (j + 1) := by rw [nth_eq n j hjn]; exact List.drop_eq_getElem_cons hjn
  have hP1 := hb.1
  have step : p_impl_indexOf_b1 names (Q, (m : Int)) (P, (j : Int)) = some (.inl (addT P (nth n j) ((m : Int) + 1), ((j + 1 : Nat) : Int))) := by
   unfold p_impl_indexOf_b1
   simp only [Int.toNat_natCast, ← hn, dlt hjn, cond_true, gd.yes (ixN hjn)]
   rcases e_IndexFunc1 P (nth n j) (by omega) with ⟨k, hk, he, hno, hf⟩ | ⟨hno, hf⟩
   ·have hl := hb.2 _ (nth_mem hk)
    rw [hf]
    simp only [bd_some]
    rw [decide_eq_false (show ¬ ((k : Int) < 0) by omega)]
    rw [cond_false, gd.yes (ixN hk)]
    simp only [Int.toNat_natCast]
    rw [gd.yes (by unfold I64; omega), gd.yes (by unfold room; omega), gd.yes (by unfold I64; omega), addT_some _ hk he hno]
    rfl
   ·rw [hf]
    simp only [bd_some]
    rw [decide_eq_true (show ((-1 : Int) < 0) by omega)]
    have e1 : nth (P ++ [(nth n j, ([] : List Int))]) P.length = (nth n j, []) := nth_append_new
    simp only [cond_true, e1, List.nil_append, List.length_nil]
    rw [gd.yes (by unfold room; omega), gd.yes (by unfold ix; simp; omega), gd.yes (by unfold I64; omega), gd.yes (by unfold room; omega), gd.yes (by unfold I64; omega), addT_none _ hno]
    simp
  rw [lp.step step, hd, addN_cons]
  exact e_tags names Q m hm c n hn hc r (j + 1) _ (by omega) (by rw [← Nat.add_assoc]; exact bnd_addT hb _ _)
theorem e_posts (names : List (List Tag)) (hN : names.length ≤ 4194304) (hs : sumN names.length (fun i => (nth names i).length) ≤ 4194304) : ∀ m, m ≤ names.length → bnd (postsF names m) (sumN m fun i => (nth names i).length) ∧ lp (p_impl_indexOf_b0 names) (([] : List Post), (0 : Int)) = lp (p_impl_indexOf_b0 names) (postsF names m, (m : Int))
 | 0, _ => ⟨⟨by simp [postsF], fun p hp => by simp [postsF] at hp⟩, rfl⟩
 | m + 1, hm => by
  obtain ⟨b, e⟩ := e_posts names hN hs m (by omega)
  have hmn : m < names.length := by omega
  have hle : sumN m (fun i => (nth names i).length) + (nth names m).length ≤ sumN names.length (fun i => (nth names i).length) := sumN_lt hmn
  obtain ⟨t1, t2⟩ := e_tags names (postsF names m) m (by omega) _ (nth names m) rfl (by omega) (nth names m).length 0 (postsF names m) (by omega) b
  rw [List.drop_zero] at t1 t2
  refine ⟨t2, ?_⟩
  rw [e, lp.step (s' := (postsF names (m + 1), ((m + 1 : Nat) : Int)))]
  rw [postsF_succ]
  unfold p_impl_indexOf_b0
  rw [show ((0 : Nat) : Int) = 0 from rfl] at t1
  rw [dlt hmn, cond_true, gd.yes (ixN hmn), bd.yes t1]
  rw [gd.yes (by unfold I64; omega), addI]
theorem e_indexOf (names : List (List Tag)) (hN : names.length ≤ 4194304) (hs : sumN names.length (fun i => (nth names i).length) ≤ 4194304) : p_impl_indexOf names = some (indexP names) := by
 have hn : ∀ n ∈ names, n.length ≤ 4194304 := fun n h => by
  obtain ⟨i, hi, rfl⟩ := List.mem_iff_getElem.1 h
  have := sumN_get (f := fun i => (nth names i).length) hi
  simp only [nth_eq names i hi] at this
  omega
 obtain ⟨b, e⟩ := e_posts names hN hs names.length (Nat.le_refl _)
 unfold p_impl_indexOf
 rw [e_impl_cloneNames names hN hn]
 simp only [bd_some]
 rw [e, lp.stop (e := postsF names names.length) (by
  unfold p_impl_indexOf_b0
  rw [decide_eq_false (show ¬ ((names.length : Int) < (names.length : Int)) by omega)]; rfl)]
 simp only [bd_some]
 have hl := b.1
 unfold p_slices_SortFunc_Post_Post_indexOf_2 sortP
 rw [gd.yes (show room (postsF names names.length).length by unfold room; omega), gd.yes (postsF_nodup names _)]
 rfl
def textK (n : List Tag) : Nat → ByteArray
 | 0 => ⟨#[]⟩
 | m + 1 => (((if 0 < m then textK n m ++ ⟨#[44]⟩ else textK n m) ++ (nth n m).1) ++ ⟨#[61]⟩) ++ (nth n m).2
def textN (n : List Tag) : ByteArray := textK n n.length
theorem textK_size (n : List Tag) : ∀ m, (textK n m).size ≤ 2 * m + sumN m fun i => (nth n i).1.size + (nth n i).2.size
 | 0 => Nat.zero_le _
 | m + 1 => by
  have ih := textK_size n m
  show ((((if 0 < m then textK n m ++ ⟨#[44]⟩ else textK n m) ++ (nth n m).1) ++ ⟨#[61]⟩) ++ (nth n m).2).size ≤ 2 * (m + 1) + (sumN m (fun i => (nth n i).1.size + (nth n i).2.size) + ((nth n m).1.size + (nth n m).2.size))
  have e1 : ((⟨#[61]⟩ : ByteArray)).size = 1 := rfl
  have e2 : ((⟨#[44]⟩ : ByteArray)).size = 1 := rfl
  split
  ·simp only [ByteArray.size_append, e1, e2]; omega
  ·simp only [ByteArray.size_append, e1]; omega
theorem textK_pos {n : List Tag} {m : Nat} (h : 0 < m) : textK n (m + 1) = (((textK n m ++ ⟨#[44]⟩) ++ (nth n m).1) ++ ⟨#[61]⟩) ++ (nth n m).2 := by
 show (((if 0 < m then textK n m ++ ⟨#[44]⟩ else textK n m) ++ (nth n m).1) ++ ⟨#[61]⟩) ++ (nth n m).2 = _
 rw [if_pos h]
theorem textK_neg {n : List Tag} {m : Nat} (h : ¬ 0 < m) : textK n (m + 1) = ((textK n m ++ (nth n m).1) ++ ⟨#[61]⟩) ++ (nth n m).2 := by
 show (((if 0 < m then textK n m ++ ⟨#[44]⟩ else textK n m) ++ (nth n m).1) ++ ⟨#[61]⟩) ++ (nth n m).2 = _
 rw [if_neg h]
theorem w_name (n : List Tag) : Wt.w n = n.length + sumN n.length fun i => (nth n i).1.size + (nth n i).2.size := rfl
theorem e_spec_l3Text (n : List Tag) (hw : Wt.w n ≤ 4194304) : p_spec_l3Text n = some (textN n) := by
 rw [w_name] at hw
 unfold p_spec_l3Text textN
 have e44 : ((⟨#[44]⟩ : ByteArray)).size = 1 := rfl
 have e61 : ((⟨#[61]⟩ : ByteArray)).size = 1 := rfl
 rw [show ((⟨#[]⟩ : ByteArray), (0 : Int)) = (textK n 0, ((0 : Nat) : Int)) from rfl, lp_for (fun k => (textK n k, (k : Int))) n.length (textK n n.length) (fun m hm => by
  have h1 := textK_size n m
  have h2 : (sumN m fun i => (nth n i).1.size + (nth n i).2.size) + ((nth n m).1.size + (nth n m).2.size) ≤ sumN n.length fun i => (nth n i).1.size + (nth n i).2.size := sumN_lt (f := fun i => (nth n i).1.size + (nth n i).2.size) hm
  unfold p_spec_l3Text_b0
  rw [dlt hm, cond_true]
  by_cases h0 : 0 < m
  ·rw [decide_eq_true (show (0 : Int) < (m : Int) by omega), cond_true]
   rw [gd.yes (by simp only [room, e44]; omega), gd.yes (ixN hm), gd.yes (by simp only [room, ByteArray.size_append, e44, Int.toNat_natCast]; omega), gd.yes (by simp only [room, ByteArray.size_append, e44, e61, Int.toNat_natCast]; omega), gd.yes (by simp only [room, ByteArray.size_append, e44, e61, Int.toNat_natCast]; omega), gd.yes (by unfold I64; omega), addI]
   rw [textK_pos h0]
   rfl
  ·rw [decide_eq_false (show ¬ (0 : Int) < (m : Int) by omega), cond_false]
   rw [gd.yes (ixN hm), gd.yes (by simp only [room, Int.toNat_natCast]; omega), gd.yes (by simp only [room, ByteArray.size_append, e61, Int.toNat_natCast]; omega), gd.yes (by simp only [room, ByteArray.size_append, e61, Int.toNat_natCast]; omega), gd.yes (by unfold I64; omega), addI]
   rw [textK_neg h0]
   rfl) (by unfold p_spec_l3Text_b0; rw [decide_eq_false (show ¬ ((n.length : Int) < (n.length : Int)) by omega)]; rfl)]
 rfl
def oneB (t : Tag) : Prop := t.1.size = 1 ∧ t.2.size = 1
theorem tagB_one {t : Tag} (h : tagB t = true) : oneB t := by
 unfold tagB at h
 simp only [Bool.and_eq_true, decide_eq_true_eq] at h
 exact ⟨h.1, h.2.1⟩
theorem nameOk_tags {n : List Tag} (h : nameOk n = true) : ∀ t ∈ n, tagB t = true := by
 intro t ht
 unfold nameOk at h
 simp only [Bool.and_eq_true] at h
 obtain ⟨i, hi, rfl⟩ := List.mem_iff_getElem.1 ht
 have := allN_iff.1 h.1 i hi
 unfold nameBad at this
 simp only [Bool.or_eq_false_iff] at this
 rw [← nth_eq n i hi]
 simpa using this.1
theorem nameOk_len {n : List Tag} (h : nameOk n = true) : 1 ≤ n.length ∧ n.length ≤ 3 := by
 unfold nameOk inn at h
 simp only [Bool.and_eq_true, decide_eq_true_eq] at h
 omega
def kb (t : Tag) : UInt8 := sb t.1 0
def vb (t : Tag) : UInt8 := sb t.2 0
def bytesT : List Tag → List UInt8
 | [] => []
 | [t] => [kb t, 61, vb t]
 | t :: u :: r => kb t :: 61 :: vb t :: 44 :: bytesT (u :: r)
theorem bytesT_snoc (l : List Tag) (t : Tag) : bytesT (l ++ [t]) = if l = [] then [kb t, 61, vb t] else bytesT l ++ [44, kb t, 61, vb t] := by
 induction l with
 | nil => rfl
 | cons u l ih =>
  cases l with
  | nil => rfl
  | cons v l =>
   simp only [List.cons_append, bytesT] at ih ⊢
   rw [ih]
   simp
theorem one_bytes {x : ByteArray} (h : x.size = 1) : x.data.toList = [sb x 0] := by
 have := ba_one h
 generalize sb x 0 = c at *
 subst this; rfl
theorem textK_bytes (n : List Tag) (h1 : ∀ t ∈ n, oneB t) : ∀ m, m ≤ n.length → (textK n m).data.toList = bytesT (n.take m)
 | 0, _ => rfl
 | m + 1, hm => by
  have hmn : m < n.length := by omega
  have ih := textK_bytes n h1 m (by omega)
  obtain ⟨o1, o2⟩ := h1 _ (nth_mem hmn)
  rw [take_succ_nth hmn, bytesT_snoc]
  unfold textK
  have e1 := one_bytes o1
  have e2 := one_bytes o2
  by_cases h0 : 0 < m
  ·have hne : n.take m ≠ [] := fun e => by have := congrArg List.length e; rw [List.length_take, List.length_nil] at this; omega
   rw [if_pos h0, if_neg hne]
   simp only [ByteArray.data_append, Array.toList_append, ih, e1, e2]
   simp [kb, vb]
  ·have hm0 : m = 0 := by omega
   subst hm0
   simp only [ByteArray.data_append, Array.toList_append, e1, e2]
   simp [textK, kb, vb]
theorem tag_ext {t u : Tag} (h1 : oneB t) (h2 : oneB u) (hk : kb t = kb u) (hv : vb t = vb u) : t = u := by
 have a1 := ba_one h1.1
 have a2 := ba_one h1.2
 have b1 := ba_one h2.1
 have b2 := ba_one h2.2
 refine Prod.ext ?_ ?_
 ·rw [a1, b1]; unfold kb at hk; rw [hk]
 ·rw [a2, b2]; unfold vb at hv; rw [hv]
theorem bytesT_inj : ∀ {a b : List Tag}, (∀ t ∈ a, oneB t) → (∀ t ∈ b, oneB t) → bytesT a = bytesT b → a = b
 | [], [], _, _, _ => rfl
 | [], [t], _, _, h => by simp [bytesT] at h
 | [], t :: u :: r, _, _, h => by simp [bytesT] at h
 | [t], [], _, _, h => by simp [bytesT] at h
 | t :: u :: r, [], _, _, h => by simp [bytesT] at h
 | [t], [u], ha, hb, h => by
  simp only [bytesT, List.cons.injEq, and_true, true_and] at h
  rw [tag_ext (ha t (by simp)) (hb u (by simp)) h.1 h.2]
 | [t], u :: v :: r, _, _, h => by simp [bytesT] at h
 | t :: u :: r, [v], _, _, h => by simp [bytesT] at h
 | t :: u :: r, v :: w :: q, ha, hb, h => by
  simp only [bytesT, List.cons.injEq, true_and] at h
  rw [tag_ext (ha t (by simp)) (hb v (by simp)) h.1 h.2.1, bytesT_inj (a := u :: r) (b := w :: q) (fun x hx => ha x (List.mem_cons_of_mem _ hx)) (fun x hx => hb x (List.mem_cons_of_mem _ hx)) h.2.2]
theorem textN_inj {a b : List Tag} (ha : ∀ t ∈ a, oneB t) (hb : ∀ t ∈ b, oneB t) (h : textN a = textN b) : a = b := by
 have e1 := textK_bytes a ha a.length (Nat.le_refl _)
 have e2 := textK_bytes b hb b.length (Nat.le_refl _)
 rw [List.take_length] at e1 e2
 refine bytesT_inj ha hb ?_
 rw [← e1, ← e2]
 show (textN a).data.toList = (textN b).data.toList
 rw [h]
theorem text_eq {a b : List Tag} (ha : nameOk a = true) (hb : nameOk b = true) : decide (textN a = textN b) = decide (a = b) := by
 by_cases h : a = b
 ·subst h; simp
 ·have : textN a ≠ textN b := fun e => h (textN_inj (fun t ht => tagB_one (nameOk_tags ha t ht)) (fun t ht => tagB_one (nameOk_tags hb t ht)) e)
  simp [h, this]
def idsN (names : List (List Tag)) (t : Tag) : Nat → List Int
 | 0 => []
 | m + 1 => idsN names t m ++ (if hasT (nth names m) t then [(m : Int) + 1] else [])
theorem idsN_succ (names : List (List Tag)) (t : Tag) (m : Nat) : idsN names t (m + 1) = idsN names t m ++ (if hasT (nth names m) t then [(m : Int) + 1] else []) := rfl
theorem idsN_len (names : List (List Tag)) (t : Tag) : ∀ m, (idsN names t m).length ≤ m
 | 0 => Nat.le_refl _
 | m + 1 => by
  have := idsN_len names t m
  rw [idsN_succ]
  split <;> simp <;> omega
theorem e_spec_l11Ids (names : List (List Tag)) (t : Tag) (h1 : names.length ≤ 4194304) (h2 : ∀ n ∈ names, n.length ≤ 4194304) : p_spec_l11Ids names t = some (idsN names t names.length) := by
 unfold p_spec_l11Ids
 rw [show (([] : List Int), (0 : Int)) = (idsN names t 0, ((0 : Nat) : Int)) from rfl, lp_for (fun k => (idsN names t k, (k : Int))) names.length (idsN names t names.length) (fun m hm => by
  have hl := h2 _ (nth_mem hm)
  have hi := idsN_len names t m
  unfold p_spec_l11Ids_b0
  rw [dlt hm, cond_true, gd.yes (ixN hm)]
  simp only [Int.toNat_natCast]
  rw [bd.yes (e_spec_l3Has (nth names m) t (by unfold maxLen; omega))]
  cases hc : hasT (nth names m) t with
  | true =>
   rw [cond_true, gd.yes (by unfold I64; omega), gd.yes (by unfold room; omega), idsN_succ, if_pos hc, addI]
  | false =>
   rw [cond_false, gd.yes (by unfold I64; omega), addI, idsN_succ, if_neg (by rw [hc]; simp), List.append_nil]) (by
  unfold p_spec_l11Ids_b0; rw [decide_eq_false (show ¬ ((names.length : Int) < (names.length : Int)) by omega)]; rfl)]
 rfl
def idsAt : List Post → Tag → List Int
 | [], _ => []
 | p :: P, t => if p.1 = t then p.2 else idsAt P t
theorem idsAt_addT (P : List Post) (t : Tag) (i : Int) (u : Tag) : idsAt (addT P t i) u = if u = t then idsAt P u ++ [i] else idsAt P u := by
 induction P with
 | nil =>
  unfold addT idsAt
  by_cases h : t = u
  ·subst h; simp
  ·have h' : ¬ u = t := fun e => h e.symm
   simp [h, h', idsAt]
 | cons p P ih =>
  unfold addT
  by_cases hp : p.1 = t
  ·rw [if_pos hp]
   by_cases hu : u = t
   ·subst hu; simp [idsAt, hp]
   ·have : ¬ p.1 = u := fun e => hu (e ▸ hp)
    simp [idsAt, this, hu]
  ·rw [if_neg hp]
   by_cases hu : p.1 = u
   ·have : ¬ u = t := fun e => hp (hu.trans e)
    simp [idsAt, hu, this]
   ·simp only [idsAt, if_neg hu, ih]
theorem idsAt_addN (n : List Tag) (i : Int) (u : Tag) : ∀ {P : List Post}, n.Nodup → idsAt (addN P n i) u = if hasT n u then idsAt P u ++ [i] else idsAt P u := by
 induction n with
 | nil => intro P _; rfl
 | cons t n ih =>
  intro P hn
  rw [List.nodup_cons] at hn
  rw [addN_cons, ih hn.2, idsAt_addT]
  have hc : hasT (t :: n) u = (decide (t = u) || hasT n u) := rfl
  rw [hc]
  by_cases h1 : u = t
  ·subst h1
   rw [hasT_no hn.1]; simp
  ·have h2 : ¬ t = u := fun e => h1 e.symm
   simp [h1, h2]
def dist (names : List (List Tag)) : Prop := ∀ n ∈ names, n.Nodup
theorem idsAt_posts {names : List (List Tag)} (hd : dist names) (u : Tag) : ∀ m, m ≤ names.length → idsAt (postsF names m) u = idsN names u m
 | 0, _ => rfl
 | m + 1, hm => by
  rw [postsF_succ, idsAt_addN _ _ _ (hd _ (nth_mem (show m < names.length by omega))), idsAt_posts hd u m (by omega)]
  rw [idsN_succ]
  cases h : hasT (nth names m) u with
  | true => simp
  | false => simp
theorem idsAt_mem {P : List Post} (hn : (P.map (·.1)).Nodup) {p : Post} (hp : p ∈ P) : idsAt P p.1 = p.2 := by
 induction P with
 | nil => cases hp
 | cons q P ih =>
  rw [List.map_cons, List.nodup_cons] at hn
  rcases List.mem_cons.1 hp with rfl | hp
  ·simp [idsAt]
  ·have : ¬ q.1 = p.1 := fun e => hn.1 (e ▸ List.mem_map_of_mem hp)
   simp only [idsAt, if_neg this]
   exact ih hn.2 hp
theorem idsAt_some {P : List Post} {t : Tag} (h : idsAt P t ≠ []) : ∃ p ∈ P, p.1 = t := by
 induction P with
 | nil => exact absurd rfl h
 | cons q P ih =>
  by_cases e : q.1 = t
  ·exact ⟨q, List.mem_cons_self .., e⟩
  ·simp only [idsAt, if_neg e] at h
   obtain ⟨p, hp, h1⟩ := ih h
   exact ⟨p, List.mem_cons_of_mem _ hp, h1⟩
theorem addT_ne {P : List Post} (h : ∀ p ∈ P, p.2 ≠ []) (t : Tag) (i : Int) : ∀ p ∈ addT P t i, p.2 ≠ [] := by
 induction P with
 | nil => intro p hp; simp [addT] at hp; subst hp; simp
 | cons q P ih =>
  intro p hp
  unfold addT at hp
  split at hp
  ·rcases List.mem_cons.1 hp with rfl | hp
   ·simp
   ·exact h p (List.mem_cons_of_mem _ hp)
  ·rcases List.mem_cons.1 hp with rfl | hp
   ·exact h p (List.mem_cons_self ..)
   ·exact ih (fun r hr => h r (List.mem_cons_of_mem _ hr)) p hp
theorem addN_ne (n : List Tag) (i : Int) : ∀ {P : List Post}, (∀ p ∈ P, p.2 ≠ []) → ∀ p ∈ addN P n i, p.2 ≠ [] := by
 induction n with
 | nil => intro P h; exact h
 | cons t n ih => intro P h; rw [addN_cons]; exact ih (addT_ne h t i)
theorem posts_ne (names : List (List Tag)) : ∀ m, ∀ p ∈ postsF names m, p.2 ≠ []
 | 0 => fun p hp => by cases hp
 | m + 1 => by rw [postsF_succ]; exact addN_ne _ _ (posts_ne names m)
def sumL : List Post → Nat
 | [] => 0
 | p :: P => p.2.length + sumL P
theorem sumL_append (P Q : List Post) : sumL (P ++ Q) = sumL P + sumL Q := by
 induction P with
 | nil => simp [sumL]
 | cons p P ih => simp only [List.cons_append, sumL, ih]; omega
theorem sumL_perm {P Q : List Post} (h : P.Perm Q) : sumL P = sumL Q := by
 induction h with
 | nil => rfl
 | cons x _ ih => simp only [sumL, ih]
 | swap x y l => simp only [sumL]; omega
 | trans _ _ h1 h2 => exact h1.trans h2
theorem sumL_addT (P : List Post) (t : Tag) (i : Int) : sumL (addT P t i) = sumL P + 1 := by
 induction P with
 | nil => rfl
 | cons p P ih =>
  unfold addT
  split
  ·simp only [sumL, List.length_append, List.length_cons, List.length_nil]; omega
  ·simp only [sumL, ih]; omega
theorem sumL_addN (n : List Tag) (i : Int) : ∀ (P : List Post), sumL (addN P n i) = sumL P + n.length := by
 induction n with
 | nil => intro P; rfl
 | cons t n ih => intro P; rw [addN_cons, ih, sumL_addT, List.length_cons]; omega
theorem sumL_posts (names : List (List Tag)) : ∀ m, sumL (postsF names m) = sumN m fun i => (nth names i).length
 | 0 => rfl
 | m + 1 => by
  rw [postsF_succ, sumL_addN, sumL_posts names m]; rfl
structure Canon (names : List (List Tag)) (C : List Post) : Prop where
 ord : C.Pairwise fun x y => ltTag x.1 y.1 = true
 ids : ∀ p ∈ C, p.2 = idsN names p.1 names.length ∧ p.2 ≠ []
 all : ∀ t, idsN names t names.length ≠ [] → ∃ p ∈ C, p.1 = t
theorem canon_posts {names : List (List Tag)} (hd : dist names) : Canon names (indexP names).2 := by
 have hn := postsF_nodup names names.length
 have hp := List.mergeSort_perm (postsF names names.length) leP
 have hs : ((postsF names names.length).mergeSort leP).Pairwise fun x y => leP x y = true := List.pairwise_mergeSort (fun a b c h1 h2 => by
  simp only [leP, Bool.not_eq_true'] at *; exact ltTag_nt h2 h1) (fun a b => by
  simp only [leP, Bool.or_eq_true, Bool.not_eq_true']
  cases h : ltTag b.1 a.1 with
  | false => exact .inl rfl
  | true => exact .inr (ltTag_asym h)) _
 have hn2 : (((postsF names names.length).mergeSort leP).map (·.1)).Nodup := (hp.map _).nodup_iff.2 hn
 refine ⟨?_, fun p hp' => ?_, fun t ht => ?_⟩
 ·show ((postsF names names.length).mergeSort leP).Pairwise _
  have hne : ((postsF names names.length).mergeSort leP).Pairwise fun x y => x.1 ≠ y.1 := by
   unfold List.Nodup at hn2
   rwa [List.pairwise_map] at hn2
  refine (hs.and hne).imp ?_
  intro x y h
  have h1 := h.1
  simp only [leP, Bool.not_eq_true'] at h1
  cases hc : ltTag x.1 y.1 with
  | true => rfl
  | false => exact absurd (ltTag_anti hc h1) h.2
 ·have hm : p ∈ postsF names names.length := hp.mem_iff.1 hp'
  exact ⟨by rw [← idsAt_posts hd p.1 _ (Nat.le_refl _), idsAt_mem hn hm], posts_ne names _ p hm⟩
 ·rw [← idsAt_posts hd t _ (Nat.le_refl _)] at ht
  obtain ⟨p, h1, h2⟩ := idsAt_some ht
  exact ⟨p, hp.mem_iff.2 h1, h2⟩
theorem canon_eq {names : List (List Tag)} {C D : List Post} (hc : Canon names C) (hd : Canon names D) : C = D := by
 have nd : ∀ {E : List Post}, Canon names E → E.Nodup := fun h => h.ord.imp fun {a b} k e => by subst e; rw [ltTag_irr] at k; cases k
 have sub : ∀ {E F : List Post}, Canon names E → Canon names F → ∀ p ∈ E, p ∈ F := fun {E F} hE hF p hp => by
  obtain ⟨e1, e2⟩ := hE.ids p hp
  obtain ⟨q, hq, e3⟩ := hF.all p.1 (e1 ▸ e2)
  have e4 := (hF.ids q hq).1
  have : q = p := Prod.ext e3 (by rw [e4, e3, e1])
  rwa [← this]
 have hperm : C.Perm D := (List.perm_ext_iff_of_nodup (nd hc) (nd hd)).2 fun p => ⟨sub hc hd p, sub hd hc p⟩
 refine List.Perm.eq_of_pairwise (le := fun x y => ltTag x.1 y.1 = true) ?_ hc.ord hd.ord hperm
 intro a b _ _ h1 h2
 have := ltTag_asym h1
 rw [h2] at this; cases this
theorem sub_sum : ∀ {C A : List Post}, A.Nodup → (∀ p ∈ A, p ∈ C) → sumL A ≤ sumL C
 | [], A, _, h => by
  have : A = [] := List.eq_nil_iff_forall_not_mem.2 fun p hp => by cases h p hp
  rw [this]; exact Nat.le_refl _
 | c :: C, A, hn, h => by
  by_cases hc : c ∈ A
  ·obtain ⟨A1, A2, rfl⟩ := List.append_of_mem hc
   have hn' := hn
   rw [List.nodup_append] at hn
   obtain ⟨n1, n2, n3⟩ := hn
   rw [List.nodup_cons] at n2
   have hnd : (A1 ++ A2).Nodup := by
    rw [List.nodup_append]
    exact ⟨n1, n2.2, fun a ha b hb => n3 a ha b (List.mem_cons_of_mem _ hb)⟩
   have ih := sub_sum (C := C) (A := A1 ++ A2) hnd (fun p hp => by
    have hpc : p ≠ c := fun e => by
     subst e
     rcases List.mem_append.1 hp with q | q
     ·exact n3 p q p (List.mem_cons_self ..) rfl
     ·exact n2.1 q
    have hp' : p ∈ A1 ++ c :: A2 := by
     rcases List.mem_append.1 hp with q | q
     ·exact List.mem_append_left _ q
     ·exact List.mem_append_right _ (List.mem_cons_of_mem _ q)
    rcases List.mem_cons.1 (h p hp') with e | q
    ·exact absurd e hpc
    ·exact q)
   rw [sumL_append] at ih ⊢
   simp only [sumL] at ih ⊢
   omega
  ·have ih := sub_sum (C := C) (A := A) hn (fun p hp => by
    rcases List.mem_cons.1 (h p hp) with e | q
    ·exact absurd (e ▸ hp) hc
    ·exact q)
   simp only [sumL]; omega
theorem canon_of_sum {names : List (List Tag)} {C P : List Post} (hc : Canon names C) (ord : P.Pairwise fun x y => ltTag x.1 y.1 = true) (ids : ∀ p ∈ P, p.2 = idsN names p.1 names.length ∧ p.2 ≠ []) (hs : sumL P = sumL C) : P = C := by
 have nd : P.Nodup := ord.imp fun {a b} k e => by subst e; rw [ltTag_irr] at k; cases k
 have sub : ∀ p ∈ P, p ∈ C := fun p hp => by
  obtain ⟨e1, e2⟩ := ids p hp
  obtain ⟨q, hq, e3⟩ := hc.all p.1 (e1 ▸ e2)
  have : q = p := Prod.ext e3 (by rw [(hc.ids q hq).1, e3, e1])
  rwa [← this]
 refine canon_eq ⟨ord, ids, fun t ht => ?_⟩ hc
 obtain ⟨c, h1, h2⟩ := hc.all t ht
 by_cases hm : c ∈ P
 ·exact ⟨c, hm, h2⟩
 ·have := sub_sum (C := C) (A := c :: P) (List.nodup_cons.2 ⟨hm, nd⟩) (fun p hp => by
   rcases List.mem_cons.1 hp with rfl | hp
   ·exact h1
   ·exact sub p hp)
  simp only [sumL] at this
  have h3 : 0 < c.2.length := List.length_pos_iff.2 (hc.ids c h1).2
  omega
theorem nameOk_nodup {n : List Tag} (h : nameOk n = true) : n.Nodup := by
 unfold nameOk at h
 simp only [Bool.and_eq_true] at h
 have hk : ∀ i, i < n.length → nameBad n i = false := allN_iff.1 h.1
 have step : ∀ i, i + 1 < n.length → sless (nth n i).1 (nth n (i + 1)).1 = true := fun i hi => by
  have := hk (i + 1) hi
  unfold nameBad at this
  simp only [Nat.zero_lt_succ, decide_true, Bool.true_and, Nat.add_sub_cancel, Bool.or_eq_false_iff, Bool.not_eq_false'] at this
  exact this.2
 have lt : ∀ d i, i + d + 1 < n.length → sless (nth n i).1 (nth n (i + d + 1)).1 = true := by
  intro d
  induction d with
  | zero => intro i hi; exact step i hi
  | succ d ih => intro i hi; exact sless_trans (ih i (by omega)) (step (i + d + 1) (by omega))
 unfold List.Nodup
 rw [List.pairwise_iff_getElem]
 intro i j hi hj hij e
 obtain ⟨d, rfl⟩ : ∃ d, j = i + d + 1 := ⟨j - i - 1, by omega⟩
 have := lt d i hj
 rw [nth_eq n i hi, nth_eq n _ hj, ← e, sless_irr] at this
 cases this
theorem w_names {names : List (List Tag)} (hw : Wt.w names ≤ 4194304) : names.length ≤ 4194304 ∧ (∀ n ∈ names, n.length ≤ 4194304 ∧ Wt.w n ≤ 4194304) ∧ sumN names.length (fun i => (nth names i).length) ≤ 4194304 := by
 have e : Wt.w names = names.length + sumN names.length fun i => Wt.w (nth names i) := rfl
 rw [e] at hw
 refine ⟨by omega, fun n hn => ?_, ?_⟩
 ·obtain ⟨i, hi, rfl⟩ := List.mem_iff_getElem.1 hn
  have h1 := sumN_get (f := fun i => Wt.w (nth names i)) hi
  simp only [nth_eq names i hi] at h1
  have h2 : names[i].length ≤ Wt.w names[i] := wL_le
  omega
 ·have : sumN names.length (fun i => (nth names i).length) ≤ sumN names.length (fun i => Wt.w (nth names i)) := sumN_mono fun i _ => wL_le
  omega
theorem e_Equal_Tag (a b : List Tag) (ha : a.length ≤ 4194304) : p_slices_Equal_Tag_Tag a b = some (decide (a = b)) := by
 unfold p_slices_Equal_Tag_Tag
 by_cases hl : a.length = b.length
 ·have hl2 : (a.length : Int) = (b.length : Int) := by omega
  rw [decide_eq_true hl2, Bool.not_true, cond_false]
  refine eq_loop hl (fun k hk => ?_) ?_
  ·have hk2 : k < b.length := by omega
   unfold p_slices_Equal_Tag_Tag_b0
   simp only [dlt hk, cond_true, gd.yes (ixN hk), gd.yes (ixN hk2), Int.toNat_natCast, gd.yes (i64S hk (show a.length ≤ 9223372036854775807 by omega))]
   by_cases h : nth a k = nth b k <;> simp [h]
  ·unfold p_slices_Equal_Tag_Tag_b0; simp
 ·have h2 : ¬ (a.length : Int) = (b.length : Int) := by omega
  have h3 : a ≠ b := fun e => hl (by rw [e])
  simp [h2, h3]
end Go.Proofs.YtlkcnfjdhkoelaaGreat
