/- The walks and the plain laws, part 3: each function that the law reaches computes what its plain function tells, and what the plain functions answer. Conditions: lengths that memory can hold. -/
import Derived.Test.YtlkcnfjdhkoelaaGreatA2
namespace Go.Proofs.YtlkcnfjdhkoelaaGreat
open Go Go.Sx Tryz
theorem c_laws_heldRowS {r : Int} (v0 : (List Row)) (x_v0 : Option Addr × Nat) (v1 : Int) (H : p_laws_heldRowS v0 v1 = some r) : Fn' prog 64 #[.slice x_v0.1 v0.length x_v0.2, .int .i64 (v1)] [imm (.slice x_v0.1 v0.length x_v0.2) v0] [] (ι := Unit) (fun _ => .int .i64 (r)) (fun _ => []) (fun _ => []) := by
 refine cof (args := [_, _]) func64 ntmps64 fun c => ?_
 unfold p_laws_heldRowS at H
 refine sr (aH (v := .int .i64 (0)) rfl (nl (aD (sr (aH (v := .int .i64 (0)) rfl (nl (bdo H fun x1 hx2 H => (cY (Λ := Unit) H (fun e20 _ => [(1, .int .i64 (e20))]) (fun _ _ => []) ?_ ?_))))))))
 ·refine aQ (dA hx2 () (fun Q5 _ => [(0, .slice x_v0.1 v0.length x_v0.2), (1, .int .i64 (Q5.1)), (5, .int .i64 (Q5.2))]) (fun _ _ => []) bK ?_)
  rintro _ Q5 z6 t8 H1 hi9 hb10
  unfold p_laws_heldRowS_b0 at H1
  refine aD (sr (aF rfl (aF rfl (aG (bS 57 dS rfl) (aG (cM rfl rfl) (nl (cH H1 rfl (fun h13 H1 => ?_) (fun h13 H1 => ?_))))))))
  ·refine bH (nT (aD (aQ (aD (sr (aF rfl (aF rfl (gdo H1 fun h14 H1 => (aI (bW dS ty57 rfl rfl h14 rfl (aN (aL aR))) (aI (bY (j := 0) Q5.2.toNat fa57_0 rfl (aN (aL aR)) h14.lt rfl) (aI (bZ (i := Q5.2.toNat) (j := 0) ty3 rfl (aN (aL aR)) h14.lt rfl) ?_)))))))))))
   refine aF rfl (aG (cO rfl rfl) (nl (cH H1 rfl (fun h15 H1 => ?_) (fun h15 H1 => ?_))))
   ·refine sr (aH (v := .int .i64 (-1)) rfl (nl (bQ (rT (rB (rT (rT (rB (rT (rT (?_)))))))))))
    obtain rfl := hb10 _ (sm H1)
    replace H := sw.r H
    obtain rfl := si H
    exact bk
   ·refine bH (nT (sr (aF rfl (gdo H1 fun h16 H1 => (aG (bR rfl rfl h16) (aH rfl (nl (aD (sr (aF rfl (aF rfl ?_)))))))))))
    refine aI (bW dS ty57 rfl rfl h14 rfl (aN (aL aR))) (aI (bY (j := 0) Q5.2.toNat fa57_1 rfl (aN (aL aR)) h14.lt rfl) (aI (bZ (i := Q5.2.toNat) (j := 1) ty3 rfl (aN (aL aR)) h14.lt rfl) (aF rfl (aG (cO rfl rfl) (nl (cH H1 rfl (fun h17 H1 => ?_) (fun h17 H1 => ?_)))))))
    ·refine sr (aH (v := .int .i64 (-1)) rfl (nl (bQ (rT (rB (rT (rT (rB (rT (rT (?_)))))))))))
     obtain rfl := hb10 _ (sm H1)
     replace H := sw.r H
     obtain rfl := si H
     exact bk
    ·refine bH (nT (aP (aF rfl (gdo H1 fun h18 H1 => (aG (bR rfl rfl h18) (aH rfl (aJ (nB (nT (aP (aF rfl ?_)))))))))))
     exact gdo H1 fun h19 H1 => (aG (bR rfl rfl h19) (aH rfl (aJ (nLI () (hi9 _ (sm H1)) bK))))
  ·exact cW (xT (xT (xE (nMI () (hb10 _ (sm H1)) bK))))
 ·rintro e20 y7 H
  refine nT (sr (aF rfl (aH rfl (nl ?_))))
  obtain rfl := si H
  exact bQ bk
noncomputable def p_laws_heldHitS_b0 (v0 : (List Hit)) (Q6 : Int × Int) : Option ((Int × Int) ⊕ (Int ⊕ Int)) := cond (decide (Q6.2 < (v0.length : Int))) (gd (ix Q6.2 v0.length) <| bd (p_laws_markText Q6.1) fun r16 => cond (!decide ((nth v0 Q6.2.toNat).1 = r16)) (some (.inr (.inr (-1)))) (gd (I64 (Q6.1 + 1)) <| bd (p_laws_heldRowS ((nth v0 Q6.2.toNat).2) (Q6.1 + 1)) fun r20 => cond (decide (r20 < 0)) (some (.inr (.inr (-1)))) (gd (I64 (Q6.2 + 1)) <| some (.inl (r20, Q6.2 + 1))))) (some (.inr (.inl Q6.1)))
noncomputable def p_laws_heldHitS (v0 : (List Hit)) (v1 : Int) : Option (Int) := bd (lp (p_laws_heldHitS_b0 v0) (v1, 0)) <| sw (fun e24 => some e24) (fun q => some q)
theorem c_laws_heldHitS {r : Int} (v0 : (List Hit)) (x_v0 : Option Addr × Nat) (v1 : Int) (H : p_laws_heldHitS v0 v1 = some r) : Fn' prog 20 #[.slice x_v0.1 v0.length x_v0.2, .int .i64 (v1)] [imm (.slice x_v0.1 v0.length x_v0.2) v0] [] (ι := Unit) (fun _ => .int .i64 (r)) (fun _ => []) (fun _ => []) := by
 refine cof (args := [_, _]) func20 ntmps20 fun c => ?_
 unfold p_laws_heldHitS at H
 refine bM aR fun X1 => (sr (aH (v := .int .i64 (0)) rfl (nl (aD (sr (aH (v := .int .i64 (0)) rfl (nl (bdo H fun x2 hx3 H => (cY (Λ := Unit) H (fun e24 _ => [(1, .int .i64 (e24))]) (fun _ _ => []) ?_ ?_)))))))))
 ·refine aQ (dA hx3 () (fun Q6 _ => [(0, .slice x_v0.1 v0.length x_v0.2), (1, .int .i64 (Q6.1)), (5, .int .i64 (Q6.2))]) (fun _ _ => []) bK ?_)
  rintro _ Q6 z7 t9 H1 hi10 hb11
  unfold p_laws_heldHitS_b0 at H1
  refine aD (sr (aF rfl (aF rfl (aG (bS 107 dM rfl) (aG (cM rfl rfl) (nl (cH H1 rfl (fun h14 H1 => ?_) (fun h14 H1 => ?_))))))))
  ·refine bH (nT (aD (aQ (aD (aD (dB [(0, .slice x_v0.1 v0.length x_v0.2), (1, .int .i64 (Q6.1)), (5, .int .i64 (Q6.2))] mixed (.inr (by kernel_rfl)) ⟨rfl, rfl, rfl, trivial⟩ rfl (bB rfl (bB rfl (gdo H1 fun h15 H1 => (aZ (bW dM ty107 rfl rfl h15 rfl (aL (aT aR))) ?_))))))))))
   refine aZ (bY (j := 0) Q6.2.toNat fa107_0 rfl (aL (aT aR)) h15.lt rfl) (aZ (bZ (i := Q6.2.toNat) (j := 0) ty9 rfl (aL (aT aR)) h15.lt rfl) (bB rfl (bdo H1 fun r16 h17 H1 => (aZ (bN (c_laws_markText Q6.1 h17) rfl aO) (aX (p_sneq rfl rfl) (nT (cH H1 rfl (fun h18 H1 => ?_) (fun h18 H1 => ?_))))))))
   ·refine sr (aH (v := .int .i64 (-1)) rfl (nl (bQ (rT (rB (rT (rT (rB (rT (rT (?_)))))))))))
    obtain rfl := hb11 _ (sm H1)
    replace H := sw.r H
    obtain rfl := si H
    exact bk
   ·refine bH (nT (sr (aF rfl (gdo H1 fun h19 H1 => (aG (bR rfl rfl h19) (aH rfl (nl (sr (aF rfl (aF rfl ?_))))))))))
    refine aI (bW dM ty107 rfl rfl h15 rfl (aL (aT aR))) (aI (bY (j := 0) Q6.2.toNat fa107_1 rfl (aL (aT aR)) h15.lt rfl) (aI (bZ (i := Q6.2.toNat) (j := 1) ty63 rfl (aL (aT aR)) h15.lt rfl) (aF rfl (bdo H1 fun r20 h21 H1 => (aI (bN (c_laws_heldRowS ((nth v0 Q6.2.toNat).2) (((X1 Q6.2.toNat).2).1, ((X1 Q6.2.toNat).2).2.1) (Q6.1 + 1) h21) rfl (aC (aL (aS (aU (aW aR h15.lt)))) aO)) (aH rfl (nl (sr (aF rfl (aG (cM rfl rfl) (nl ?_)))))))))))
    refine cH H1 rfl (fun h22 H1 => ?_) (fun h22 H1 => ?_)
    ·refine sr (aH (v := .int .i64 (-1)) rfl (nl (bQ (rB (rT (rT (rB (rT (rT (?_))))))))))
     obtain rfl := hb11 _ (sm H1)
     replace H := sw.r H
     obtain rfl := si H
     exact bk
    ·exact bH (nB (nT (aP (aF rfl (gdo H1 fun h23 H1 => (aG (bR rfl rfl h23) (aH rfl (aJ (nLI () (hi10 _ (sm H1)) bK)))))))))
  ·exact cW (xT (xT (xE (nMI () (hb11 _ (sm H1)) bK))))
 ·rintro e24 y8 H
  refine nT (sr (aF rfl (aH rfl (nl ?_))))
  obtain rfl := si H
  exact bQ bk
noncomputable def p_laws_FnExactStoreAsk (v0 : Store) (v1 : (List Cond)) (v2 : Int) (v3 : Int) : Option (Bool) := bd (p_laws_szStore v0 1048576) fun r5 => cond (decide (r5 < 0)) (some true) (bd (p_laws_szCondS v1 r5) fun r8 => cond (decide (r8 < 0)) (some true) (bd (p_laws_toStore v0) fun r11 => bd (p_laws_toCondS v1) fun r14 => bd (p_spec_StoreAsk r11 r14 v2 v3) fun r17 => bd (p_impl_StoreAsk r11 r14 v2 v3) fun r23 => bd (p_laws_eqHitS r23 r17) fun r26 => cond (!r26) (some false) (bd (p_laws_eqStore r11 r11) fun r30 => cond (!r30) (some false) (bd (p_laws_eqCondS r14 r14) fun r34 => cond (!r34) (some false) (bd (p_laws_markStore r11 1) fun r37 => bd (p_laws_markCondS r14 r37.1) fun r40 => bd (cond (decide (r40.1 < 0)) (some (true)) (some (!r26))) fun b43 => cond (b43) (some false) (bd (p_laws_markHitS r23 1) fun r47 => bd (p_laws_heldHitS r47.2 1) fun r50 => cond (decide (r50 < 0)) (some false) (cond (!decide (r50 = r47.1)) (some false) (cond (!r26) (some false) (cond (decide (r50 < 0)) (some false) (cond (!decide (r50 = r47.1)) (some false) (some true)))))))))))
theorem c_laws_FnExactStoreAsk {r : Bool} (v0 : Store) (x_v0 : ((Option Addr × Nat) × (Option Addr × Nat)) × (Option Addr × Nat) × (Option Addr × Nat)) (v1 : (List Cond)) (x_v1 : Option Addr × Nat) (v2 : Int) (v3 : Int) (H : p_laws_FnExactStoreAsk v0 v1 v2 v3 = some r) : FnL' True prog 3 #[.agg #[.slice x_v0.1.1.1 v0.1.1.length x_v0.1.1.2, .slice x_v0.1.2.1 v0.1.2.length x_v0.1.2.2, .slice x_v0.2.1.1 v0.2.1.length x_v0.2.1.2, .slice x_v0.2.2.1 v0.2.2.length x_v0.2.2.2], .slice x_v1.1 v1.length x_v1.2, .int .i64 (v2), .int .i64 (v3)] [imm (.slice x_v0.1.1.1 v0.1.1.length x_v0.1.1.2) v0.1.1, imm (.slice x_v0.1.2.1 v0.1.2.length x_v0.1.2.2) v0.1.2, imm (.slice x_v0.2.1.1 v0.2.1.length x_v0.2.1.2) v0.2.1, imm (.slice x_v0.2.2.1 v0.2.2.length x_v0.2.2.2) v0.2.2, imm (.slice x_v1.1 v1.length x_v1.2) v1] [] (ι := Unit) (fun _ => .bool (r)) (fun _ => []) (fun _ => []) := by
 refine calls_ofX (args := [_, _, _, _]) func3 rfl (by kernel_rfl) ntmps3 (by simp) fun c hL => ?_
 unfold p_laws_FnExactStoreAsk at H
 refine bM aR fun X1 => (bM aR.s.s fun X2 => (bM aR.s.s.s.s fun X3 => (sr (f1 (cC (t := 29) rfl) fun g4 => (aH (v := .bool (false)) rfl (nl (sr (aH (v := .int .i64 (1048576)) rfl (nl (sr (aI (bJ ty29 rfl aB rfl) ?_)))))))))))
 refine aF (v := .int .i64 (1048576)) rfl (bdo H fun r5 h6 H => (aI (bN (c_laws_szStore v0 x_v0 1048576 h6) rfl (aC (aL (aS aR.s.s)) (aC (aL (aS aR.s)) (aC (aL (aS aR)) (aC (aL aR.s.s.s.s.s.s) aO))))) (aH rfl (nl (aD (sr (aF rfl (aG (cM rfl rfl) (nl (cH H rfl (fun h7 H => ?_) (fun h7 H => ?_)))))))))))
 ·refine sr (aH (v := .bool (true)) rfl (nl (bQ (rT (?_)))))
  obtain rfl := si H
  exact bk
 ·refine bH (nT (sr (aF rfl (aF rfl (bdo H fun r8 h9 H => (aI (bN (c_laws_szCondS v1 x_v1 r5 h9) rfl (aC (aL aR.s.s.s.s.s.s.s) aO)) (aH rfl (nl (aD (sr (aF rfl ?_)))))))))))
  refine aG (cM rfl rfl) (nl (cH H rfl (fun h10 H => ?_) (fun h10 H => ?_)))
  ·refine sr (aH (v := .bool (true)) rfl (nl (bQ (rT (?_)))))
   obtain rfl := si H
   exact bk
  ·refine bH (nT (sr (aI (bJ ty29 rfl aB rfl) (bdo H fun r11 h12 H => (f1 (e_call (FnL'.frz (FnL'.frz (FnL'.frz (FnL'.frz (c_laws_toStore v0 x_v0 h12))))) rfl (cJ (aS aR.s.s) (cJ (aS aR.s) (cJ (aS aR) (cJ aR.s.s.s.s.s.s cK)))) bK) fun x13 => (aF rfl (bdo H fun r14 h15 H => (f1 (e_call (FnL'.frz (c_laws_toCondS v1 x_v1 h15)) rfl (cJ aR.s.s.s.s.s.s.s.s.s.s.s cK) bK) fun x16 => (aF rfl ?_)))))))))
   refine aF rfl (bdo H fun r17 h18 H => (f1 (e_call (c_spec_StoreAsk r11 x13 r14 x16 v2 v3 h18) rfl (cJ aR.s.s.s.s (cJ aR.s.s.s (cJ aR.s.s (cJ aR.s (cJ aR cK))))) bK) fun x19 => (aH rfl (nl (sr (aI (bJ ty29 rfl aB rfl) (f1 (cE (c_laws_toStore v0 x_v0 h12) (fun _ => (bF (bF (bF (bF bG))))) rfl (aC (aL (aS aR.s.s.s.s.s.s.s.s)) (aC (aL (aS aR.s.s.s.s.s.s.s)) (aC (aL (aS aR.s.s.s.s.s.s)) (aC (aL aR.s.s.s.s.s.s.s.s.s.s.s.s) aO))))) fun x20 => (f1 (cD ty42) fun g21 => (stb (cs' := [.slice x20.1.1.1 r11.1.1.length x20.1.1.2, .slice x20.1.2.1 r11.1.2.length x20.1.2.2, .slice x20.2.1.1 r11.2.1.length x20.2.1.2, .slice x20.2.2.1 r11.2.2.length x20.2.2.2]) ty42 cV (nl ?_))))))))))
   refine sr (aF rfl (f1 (cE (c_laws_toCondS v1 x_v1 h15) (fun _ => (bF bG)) rfl (aC (aL aR.s.s.s.s.s.s.s.s.s.s.s.s.s) aO)) fun x22 => (aH rfl (nl (sr (aI (bJ ty42 rfl hs1 rfl) (aF rfl (aF rfl (aF rfl (bdo H fun r23 h24 H => ?_))))))))))
   refine f1 (cE (c_impl_StoreAsk r11 x20 r14 x22 v2 v3 h24) (fun _ => (bF bG)) rfl (aC (bL hs2) (aC (bL hs3) (aC (bL hs4) (aC (bL hs5) (aC (bL aB) aO))))) hL) fun x25 => (aH rfl (nl (aD (sr (aF rfl (aF rfl (bdo H fun r26 h27 H => (aI (bN (c_laws_eqHitS r23 x25 r17 x19 h27) rfl (aC (bL aB) (aC (aL aR) aO))) (aG (cR rfl) (nl (cH H rfl (fun h28 H => ?_) (fun h28 H => ?_))))))))))))
   ·refine sr (aH (v := .bool (false)) rfl (nl (bQ (rT (?_)))))
    obtain rfl := si H
    exact bk
   ·refine bH (nT (aD (aD (tNwS [(13, .slice x25.1 r23.length x25.2), (12, .slice x22.1 r14.length x22.2), (11, .pointer (some ⟨g21, 0, none⟩)), (10, .slice x19.1 r17.length x19.2), (4, .pointer (some ⟨g4, 0, none⟩)), (1, .slice x_v1.1 v1.length x_v1.2), (2, .int .i64 (v2)), (3, .int .i64 (v3))] 2 [0, 1, 2, 3, 4] [2] [] mixed (by kernel_rfl) (by decide) dD ⟨rfl, rfl, rfl, rfl, rfl, rfl, rfl, rfl, trivial⟩ rfl okNil ?_))))
    refine w_o rfl (fun F => (bJ ty42 rfl (hs2.app F) rfl)) ?_
    refine w_o rfl (fun F => (bJ ty29 rfl ((hs5t hs2).app F) rfl)) (w_ed rfl (by decide) rfl cL rfl (n_callB (c_laws_toStore v0 x_v0 h12) (fun _ => (bF (bF (bF (bF bG))))) rfl (aC (aL (aS aR.s.s.s.s.s.s.s.s)) (aC (aL (aS aR.s.s.s.s.s.s.s)) (aC (aL (aS aR.s.s.s.s.s.s)) (aC (aL aR.s.s.s.s.s.s.s.s.s.s.s.s) aO))))) ?_)
    rintro _ _ _ ⟨x29, rfl, rfl, rfl⟩
    refine ⟨(aM (by kernel_rfl) (bV rfl rfl (fun F => (bJ ty42 rfl ((hs5t hs1).app F) rfl)) bU)), ?_⟩
    refine bdo H fun r30 h31 H => ?_
    refine w_o rfl (fun F => (bN (c_laws_eqStore r11 x20 r11 x29 h31) rfl (aC (bL ((hs5t hs2).app F)) (aC (bL ((hs5t hs3).app F)) (aC (bL ((hs5t hs4).app F)) (aC (bL ((hs5t hs5).app F)) (aC (bL (aB.app F)) (aC (bL (hs1.app F)) (aC (bL (hs2.app F)) (aC (bL (hs3.app F)) aO)))))))))) (w_p rfl (cR rfl) (cI (nT (cH H rfl (fun h32 H => ?_) (fun h32 H => ?_)))))
    ·refine sr (aH (v := .bool (false)) rfl (nl (bQ (rT (?_)))))
     obtain rfl := si H
     exact bk
    ·refine bH (nT (aD (sr (aF rfl (aF rfl (f1 (cE (c_laws_toCondS v1 x_v1 h15) (fun _ => (bF bG)) rfl (aC (aL aR.s.s.s.s.s.s.s.s.s.s.s.s.s) aO)) fun x33 => (bdo H fun r34 h35 H => (aI (bN (c_laws_eqCondS r14 x22 r14 x33 h35) rfl (aC (bL (hs5t hs1)) (aC (bL aB) aO))) (aG (cR rfl) (nl (cH H rfl (fun h36 H => ?_) (fun h36 H => ?_))))))))))))
     ·refine sr (aH (v := .bool (false)) rfl (nl (bQ (rT (?_)))))
      obtain rfl := si H
      exact bk
     ·refine bH (nT (sr (aH (v := .int .i64 (1)) rfl (nl (sr (aI (bJ ty42 rfl (hs5t hs2) rfl) (aF (v := .int .i64 (1)) rfl (bdo H fun r37 h38 H => (f1 (cF (c_laws_markStore r11 x20 1 h38) (bF (bF (bF (bF bG)))) (fun _ => (bF (bF (bF (bF bG))))) rfl (.cons (dl5t dl3) (.cons (dl5t dl3) (.cons (dl5t dl3) (.cons (dl5t dl3) .nil)))) aO) fun u39 => (aH rfl (nl ?_)))))))))))
      refine aD ?_
      refine cT aB fun hn => ?_; rw [hn]
      refine cT hs1 fun hn => ?_; rw [hn]
      refine cT hs2 fun hn => ?_; rw [hn]
      refine cT hs3 fun hn => ?_; rw [hn]
      refine cT hs5 fun hn => ?_; rw [hn]
      refine cT (hs5t hs1) fun hn => ?_; rw [hn]
      refine cT (hs5t hs2) fun hn => ?_; rw [hn]
      refine cT (hs5t hs3) fun hn => ?_; rw [hn]
      refine aP (aF rfl (aF rfl (bdo H fun r40 h41 H => (f1 (cF (c_laws_markCondS r14 x22 r14.length rfl r37.1 h41) (bF bG) (fun _ => (bF bG)) rfl (.cons (dl5t dl5) .nil) aO) fun u42 => (aH rfl (nl (aD ?_)))))))
      refine cT aB fun hn => ?_; rw [hn]
      refine cT hs1 fun hn => ?_; rw [hn]
      refine cT hs2 fun hn => ?_; rw [hn]
      refine cT hs3 fun hn => ?_; rw [hn]
      refine cT hs4 fun hn => ?_; rw [hn]
      refine cT hs5 fun hn => ?_; rw [hn]
      refine cT (hs5t hs1) fun hn => ?_; rw [hn]
      refine cT (hs5t hs2) fun hn => ?_; rw [hn]
      refine cT (hs5t hs3) fun hn => ?_; rw [hn]
      refine cT (hs5t hs4) fun hn => ?_; rw [hn]
      refine bdo H fun b43 j44 H => (cZ [(71, .bool (b43)), (13, .slice x25.1 r23.length x25.2), (10, .slice x19.1 r17.length x19.2), (4, .pointer (some ⟨g4, 0, none⟩)), (1, .slice x_v1.1 v1.length x_v1.2), (2, .int .i64 (v2)), (3, .int .i64 (v3))] ?_ ?_)
      ·refine dC [(14, .int .i64 (r40.1)), (13, .slice x25.1 r23.length x25.2), (10, .slice x19.1 r17.length x19.2), (4, .pointer (some ⟨g4, 0, none⟩)), (1, .slice x_v1.1 v1.length x_v1.2), (2, .int .i64 (v2)), (3, .int .i64 (v3))] ⟨rfl, rfl, rfl, rfl, rfl, rfl, rfl, trivial⟩ (bB rfl (aX (cM rfl rfl) ?_))
       rcases aK (decide (r40.1 < 0)) with h45 | h45
       ·have j44 := cdT h45 j44
        refine bC (aE rfl) h45 ?_
        iterate 4 refine bE rfl ?_
        refine aX (v := .bool (true)) (bP rfl rfl) ?_
        obtain rfl := si j44
        show At _ _ _ _ _ _
        exact n1 ⟨rfl, rfl, rfl, rfl, rfl, rfl, rfl, trivial⟩
       ·have j44 := cdF h45 j44
        refine bC (aE rfl) h45 (aY rfl (aE rfl) (aY rfl (aE rfl) (bA rfl (bN (c_laws_eqHitS r23 x25 r17 x19 h27) rfl (aC (bL (hs5t hs5)) (aC (aL aR) aO))) (aY rfl (cR rfl) (aX (bO rfl rfl) ?_)))))
        obtain rfl := si j44
        show At _ _ _ _ _ _
        exact n1 ⟨rfl, rfl, rfl, rfl, rfl, rfl, rfl, trivial⟩
      refine cH H rfl (fun h46 H => ?_) (fun h46 H => ?_)
      ·refine aD ?_
       refine cT aB fun hn => ?_; rw [hn]
       refine cT hs1 fun hn => ?_; rw [hn]
       refine cT hs2 fun hn => ?_; rw [hn]
       refine cT hs3 fun hn => ?_; rw [hn]
       refine cT hs4 fun hn => ?_; rw [hn]
       refine cT hs5 fun hn => ?_; rw [hn]
       refine cT (hs5t hs1) fun hn => ?_; rw [hn]
       refine cT (hs5t hs2) fun hn => ?_; rw [hn]
       refine cT (hs5t hs3) fun hn => ?_; rw [hn]
       refine cT (hs5t hs4) fun hn => ?_; rw [hn]
       refine aP (aH (v := .bool (false)) rfl (nl ?_))
       refine cT aB fun hn => ?_; rw [hn]
       refine cT hs1 fun hn => ?_; rw [hn]
       refine cT hs2 fun hn => ?_; rw [hn]
       refine cT hs3 fun hn => ?_; rw [hn]
       refine cT hs4 fun hn => ?_; rw [hn]
       refine cT hs5 fun hn => ?_; rw [hn]
       refine cT (hs5t hs1) fun hn => ?_; rw [hn]
       refine cT (hs5t hs2) fun hn => ?_; rw [hn]
       refine cT (hs5t hs3) fun hn => ?_; rw [hn]
       refine cT (hs5t hs4) fun hn => ?_; rw [hn]
       refine bQ (rT (?_))
       refine cU aB fun hn => ?_; rw [hn]
       refine cU hs1 fun hn => ?_; rw [hn]
       refine cU hs2 fun hn => ?_; rw [hn]
       refine cU hs3 fun hn => ?_; rw [hn]
       refine cU hs4 fun hn => ?_; rw [hn]
       refine cU hs5 fun hn => ?_; rw [hn]
       refine cU (hs5t hs1) fun hn => ?_; rw [hn]
       refine cU (hs5t hs2) fun hn => ?_; rw [hn]
       refine cU (hs5t hs3) fun hn => ?_; rw [hn]
       refine cU (hs5t hs4) fun hn => ?_; rw [hn]
       obtain rfl := si H
       exact bk
      ·refine bH (nT (aD ?_))
       refine cT aB fun hn => ?_; rw [hn]
       refine cT hs1 fun hn => ?_; rw [hn]
       refine cT hs2 fun hn => ?_; rw [hn]
       refine cT hs3 fun hn => ?_; rw [hn]
       refine cT hs4 fun hn => ?_; rw [hn]
       refine cT hs5 fun hn => ?_; rw [hn]
       refine cT (hs5t hs1) fun hn => ?_; rw [hn]
       refine cT (hs5t hs2) fun hn => ?_; rw [hn]
       refine cT (hs5t hs3) fun hn => ?_; rw [hn]
       refine cT (hs5t hs4) fun hn => ?_; rw [hn]
       refine aP (aH (v := .int .i64 (1)) rfl (nl (aD ?_)))
       refine cT aB fun hn => ?_; rw [hn]
       refine cT hs1 fun hn => ?_; rw [hn]
       refine cT hs2 fun hn => ?_; rw [hn]
       refine cT hs3 fun hn => ?_; rw [hn]
       refine cT hs4 fun hn => ?_; rw [hn]
       refine cT hs5 fun hn => ?_; rw [hn]
       refine cT (hs5t hs1) fun hn => ?_; rw [hn]
       refine cT (hs5t hs2) fun hn => ?_; rw [hn]
       refine cT (hs5t hs3) fun hn => ?_; rw [hn]
       refine cT (hs5t hs4) fun hn => ?_; rw [hn]
       refine aP (aF rfl (aF (v := .int .i64 (1)) rfl (bdo H fun r47 h48 H => (f1 (cF (c_laws_markHitS r23 x25 r23.length rfl 1 h48) (bF bG) (fun _ => (bF bG)) rfl (.cons (dl5t dl5) .nil) aO) fun u49 => (aH rfl (nl (aD ?_)))))))
       refine cT aB fun hn => ?_; rw [hn]
       refine cT hs1 fun hn => ?_; rw [hn]
       refine cT hs2 fun hn => ?_; rw [hn]
       refine cT hs3 fun hn => ?_; rw [hn]
       refine cT hs4 fun hn => ?_; rw [hn]
       refine cT hs5 fun hn => ?_; rw [hn]
       refine cT (hs5t hs1) fun hn => ?_; rw [hn]
       refine cT (hs5t hs2) fun hn => ?_; rw [hn]
       refine cT (hs5t hs3) fun hn => ?_; rw [hn]
       refine cT (hs5t hs4) fun hn => ?_; rw [hn]
       refine cT (hs5t hs5) fun hn => ?_; rw [hn]
       refine aP (aH (v := .int .i64 (1)) rfl (nl (aD ?_)))
       refine cT hs1 fun hn => ?_; rw [hn]
       refine cT hs2 fun hn => ?_; rw [hn]
       refine cT hs3 fun hn => ?_; rw [hn]
       refine cT hs4 fun hn => ?_; rw [hn]
       refine cT hs5 fun hn => ?_; rw [hn]
       refine cT (hs5t hs1) fun hn => ?_; rw [hn]
       refine cT (hs5t hs2) fun hn => ?_; rw [hn]
       refine cT (hs5t hs3) fun hn => ?_; rw [hn]
       refine cT (hs5t hs4) fun hn => ?_; rw [hn]
       refine cT (hs5t hs5) fun hn => ?_; rw [hn]
       refine aP (aF rfl (aF (v := .int .i64 (1)) rfl (bdo H fun r50 h51 H => (aI (bN (c_laws_heldHitS r47.2 x25 1 h51) rfl (aC (bL aB) aO)) (aH rfl (nl (aD (aD ?_))))))))
       refine cT hs1 fun hn => ?_; rw [hn]
       refine cT hs2 fun hn => ?_; rw [hn]
       refine cT hs3 fun hn => ?_; rw [hn]
       refine cT hs4 fun hn => ?_; rw [hn]
       refine cT hs5 fun hn => ?_; rw [hn]
       refine cT (hs5t hs1) fun hn => ?_; rw [hn]
       refine cT (hs5t hs2) fun hn => ?_; rw [hn]
       refine cT (hs5t hs3) fun hn => ?_; rw [hn]
       refine cT (hs5t hs4) fun hn => ?_; rw [hn]
       refine cT (hs5t hs5) fun hn => ?_; rw [hn]
       refine aP (aF rfl (aG (cM rfl rfl) (nl (cH H rfl (fun h52 H => ?_) (fun h52 H => ?_)))))
       ·refine aD ?_
        refine cT hs1 fun hn => ?_; rw [hn]
        refine cT hs2 fun hn => ?_; rw [hn]
        refine cT hs3 fun hn => ?_; rw [hn]
        refine cT hs4 fun hn => ?_; rw [hn]
        refine cT hs5 fun hn => ?_; rw [hn]
        refine cT (hs5t hs1) fun hn => ?_; rw [hn]
        refine cT (hs5t hs2) fun hn => ?_; rw [hn]
        refine cT (hs5t hs3) fun hn => ?_; rw [hn]
        refine cT (hs5t hs4) fun hn => ?_; rw [hn]
        refine cT (hs5t hs5) fun hn => ?_; rw [hn]
        refine aP (aH (v := .bool (false)) rfl (nl ?_))
        refine cT hs1 fun hn => ?_; rw [hn]
        refine cT hs2 fun hn => ?_; rw [hn]
        refine cT hs3 fun hn => ?_; rw [hn]
        refine cT hs4 fun hn => ?_; rw [hn]
        refine cT hs5 fun hn => ?_; rw [hn]
        refine cT (hs5t hs1) fun hn => ?_; rw [hn]
        refine cT (hs5t hs2) fun hn => ?_; rw [hn]
        refine cT (hs5t hs3) fun hn => ?_; rw [hn]
        refine cT (hs5t hs4) fun hn => ?_; rw [hn]
        refine cT (hs5t hs5) fun hn => ?_; rw [hn]
        refine bQ (rT (?_))
        refine cU hs1 fun hn => ?_; rw [hn]
        refine cU hs2 fun hn => ?_; rw [hn]
        refine cU hs3 fun hn => ?_; rw [hn]
        refine cU hs4 fun hn => ?_; rw [hn]
        refine cU hs5 fun hn => ?_; rw [hn]
        refine cU (hs5t hs1) fun hn => ?_; rw [hn]
        refine cU (hs5t hs2) fun hn => ?_; rw [hn]
        refine cU (hs5t hs3) fun hn => ?_; rw [hn]
        refine cU (hs5t hs4) fun hn => ?_; rw [hn]
        refine cU (hs5t hs5) fun hn => ?_; rw [hn]
        obtain rfl := si H
        exact bk
       ·refine bH (nT (aD (aD ?_)))
        refine cT hs1 fun hn => ?_; rw [hn]
        refine cT hs2 fun hn => ?_; rw [hn]
        refine cT hs3 fun hn => ?_; rw [hn]
        refine cT hs4 fun hn => ?_; rw [hn]
        refine cT hs5 fun hn => ?_; rw [hn]
        refine cT (hs5t hs1) fun hn => ?_; rw [hn]
        refine cT (hs5t hs2) fun hn => ?_; rw [hn]
        refine cT (hs5t hs3) fun hn => ?_; rw [hn]
        refine cT (hs5t hs4) fun hn => ?_; rw [hn]
        refine cT (hs5t hs5) fun hn => ?_; rw [hn]
        refine aP (aF rfl (aF rfl (aG (cO rfl rfl) (nl (cH H rfl (fun h53 H => ?_) (fun h53 H => ?_))))))
        ·refine aD ?_
         refine cT hs1 fun hn => ?_; rw [hn]
         refine cT hs2 fun hn => ?_; rw [hn]
         refine cT hs3 fun hn => ?_; rw [hn]
         refine cT hs4 fun hn => ?_; rw [hn]
         refine cT hs5 fun hn => ?_; rw [hn]
         refine cT (hs5t hs1) fun hn => ?_; rw [hn]
         refine cT (hs5t hs2) fun hn => ?_; rw [hn]
         refine cT (hs5t hs3) fun hn => ?_; rw [hn]
         refine cT (hs5t hs4) fun hn => ?_; rw [hn]
         refine cT (hs5t hs5) fun hn => ?_; rw [hn]
         refine aP (aH (v := .bool (false)) rfl (nl ?_))
         refine cT hs1 fun hn => ?_; rw [hn]
         refine cT hs2 fun hn => ?_; rw [hn]
         refine cT hs3 fun hn => ?_; rw [hn]
         refine cT hs4 fun hn => ?_; rw [hn]
         refine cT hs5 fun hn => ?_; rw [hn]
         refine cT (hs5t hs1) fun hn => ?_; rw [hn]
         refine cT (hs5t hs2) fun hn => ?_; rw [hn]
         refine cT (hs5t hs3) fun hn => ?_; rw [hn]
         refine cT (hs5t hs4) fun hn => ?_; rw [hn]
         refine cT (hs5t hs5) fun hn => ?_; rw [hn]
         refine bQ (rT (?_))
         refine cU hs1 fun hn => ?_; rw [hn]
         refine cU hs2 fun hn => ?_; rw [hn]
         refine cU hs3 fun hn => ?_; rw [hn]
         refine cU hs4 fun hn => ?_; rw [hn]
         refine cU hs5 fun hn => ?_; rw [hn]
         refine cU (hs5t hs1) fun hn => ?_; rw [hn]
         refine cU (hs5t hs2) fun hn => ?_; rw [hn]
         refine cU (hs5t hs3) fun hn => ?_; rw [hn]
         refine cU (hs5t hs4) fun hn => ?_; rw [hn]
         refine cU (hs5t hs5) fun hn => ?_; rw [hn]
         obtain rfl := si H
         exact bk
        ·refine bH (nT (aD ?_))
         refine cT hs1 fun hn => ?_; rw [hn]
         refine cT hs2 fun hn => ?_; rw [hn]
         refine cT hs3 fun hn => ?_; rw [hn]
         refine cT hs4 fun hn => ?_; rw [hn]
         refine cT hs5 fun hn => ?_; rw [hn]
         refine cT (hs5t hs1) fun hn => ?_; rw [hn]
         refine cT (hs5t hs2) fun hn => ?_; rw [hn]
         refine cT (hs5t hs3) fun hn => ?_; rw [hn]
         refine cT (hs5t hs4) fun hn => ?_; rw [hn]
         refine cT (hs5t hs5) fun hn => ?_; rw [hn]
         refine aP (aI (bJ ty29 rfl (hs5t (hs5t hs2)) rfl) (f1 (cE (c_laws_toStore v0 x_v0 h12) (fun _ => (bF (bF (bF (bF bG))))) rfl (aC (aL (aS aR.s.s.s.s.s.s.s.s)) (aC (aL (aS aR.s.s.s.s.s.s.s)) (aC (aL (aS aR.s.s.s.s.s.s)) (aC (aL aR.s.s.s.s.s.s.s.s.s.s.s.s) aO))))) fun x54 => (aF rfl (f1 (cE (c_laws_toCondS v1 x_v1 h15) (fun _ => (bF bG)) rfl (aC (aL aR.s.s.s.s.s.s.s.s.s.s.s.s.s) aO)) fun x55 => (aF rfl (aF rfl (f1 (cE (c_impl_StoreAsk r11 x54 r14 x55 v2 v3 h24) (fun _ => (bF bG)) rfl (aC (bL hs1) (aC (bL hs2) (aC (bL hs3) (aC (bL hs4) (aC (bL aB) aO))))) hL) fun x56 => (aH rfl (nl (aD ?_))))))))))
         refine aD ?_
         refine cT (hs5t hs2) fun hn => ?_; rw [hn]
         refine cT (hs5t hs3) fun hn => ?_; rw [hn]
         refine cT (hs5t hs4) fun hn => ?_; rw [hn]
         refine cT (hs5t hs5) fun hn => ?_; rw [hn]
         refine cT (hs5t (hs5t hs1)) fun hn => ?_; rw [hn]
         refine cT (hs5t (hs5t hs2)) fun hn => ?_; rw [hn]
         refine cT (hs5t (hs5t hs3)) fun hn => ?_; rw [hn]
         refine cT (hs5t (hs5t hs4)) fun hn => ?_; rw [hn]
         refine cT (hs5t (hs5t hs5)) fun hn => ?_; rw [hn]
         refine cT (hs5t (hs5t (hs5t hs1))) fun hn => ?_; rw [hn]
         refine aP (aF rfl (aF rfl (aI (bN (c_laws_eqHitS r23 x56 r17 x19 h27) rfl (aC (bL aB) (aC (aL aR) aO))) (aG (cR rfl) (nl (cH H rfl (fun h57 H => ?_) (fun h57 H => ?_)))))))
         ·refine aD ?_
          refine cT (hs5t hs2) fun hn => ?_; rw [hn]
          refine cT (hs5t hs3) fun hn => ?_; rw [hn]
          refine cT (hs5t hs4) fun hn => ?_; rw [hn]
          refine cT (hs5t hs5) fun hn => ?_; rw [hn]
          refine cT (hs5t (hs5t hs1)) fun hn => ?_; rw [hn]
          refine cT (hs5t (hs5t hs2)) fun hn => ?_; rw [hn]
          refine cT (hs5t (hs5t hs3)) fun hn => ?_; rw [hn]
          refine cT (hs5t (hs5t hs4)) fun hn => ?_; rw [hn]
          refine cT (hs5t (hs5t hs5)) fun hn => ?_; rw [hn]
          refine cT (hs5t (hs5t (hs5t hs1))) fun hn => ?_; rw [hn]
          refine aP (aH (v := .bool (false)) rfl (nl ?_))
          refine cT (hs5t hs2) fun hn => ?_; rw [hn]
          refine cT (hs5t hs3) fun hn => ?_; rw [hn]
          refine cT (hs5t hs4) fun hn => ?_; rw [hn]
          refine cT (hs5t hs5) fun hn => ?_; rw [hn]
          refine cT (hs5t (hs5t hs1)) fun hn => ?_; rw [hn]
          refine cT (hs5t (hs5t hs2)) fun hn => ?_; rw [hn]
          refine cT (hs5t (hs5t hs3)) fun hn => ?_; rw [hn]
          refine cT (hs5t (hs5t hs4)) fun hn => ?_; rw [hn]
          refine cT (hs5t (hs5t hs5)) fun hn => ?_; rw [hn]
          refine cT (hs5t (hs5t (hs5t hs1))) fun hn => ?_; rw [hn]
          refine bQ (rT (?_))
          refine cU (hs5t hs2) fun hn => ?_; rw [hn]
          refine cU (hs5t hs3) fun hn => ?_; rw [hn]
          refine cU (hs5t hs4) fun hn => ?_; rw [hn]
          refine cU (hs5t hs5) fun hn => ?_; rw [hn]
          refine cU (hs5t (hs5t hs1)) fun hn => ?_; rw [hn]
          refine cU (hs5t (hs5t hs2)) fun hn => ?_; rw [hn]
          refine cU (hs5t (hs5t hs3)) fun hn => ?_; rw [hn]
          refine cU (hs5t (hs5t hs4)) fun hn => ?_; rw [hn]
          refine cU (hs5t (hs5t hs5)) fun hn => ?_; rw [hn]
          refine cU (hs5t (hs5t (hs5t hs1))) fun hn => ?_; rw [hn]
          obtain rfl := si H
          exact bk
         ·refine bH (nT (aD ?_))
          refine cT (hs5t hs2) fun hn => ?_; rw [hn]
          refine cT (hs5t hs3) fun hn => ?_; rw [hn]
          refine cT (hs5t hs4) fun hn => ?_; rw [hn]
          refine cT (hs5t hs5) fun hn => ?_; rw [hn]
          refine cT (hs5t (hs5t hs1)) fun hn => ?_; rw [hn]
          refine cT (hs5t (hs5t hs2)) fun hn => ?_; rw [hn]
          refine cT (hs5t (hs5t hs3)) fun hn => ?_; rw [hn]
          refine cT (hs5t (hs5t hs4)) fun hn => ?_; rw [hn]
          refine cT (hs5t (hs5t hs5)) fun hn => ?_; rw [hn]
          refine cT (hs5t (hs5t (hs5t hs1))) fun hn => ?_; rw [hn]
          refine aP (aH (v := .int .i64 (1)) rfl (nl (aD ?_)))
          refine cT (hs5t hs2) fun hn => ?_; rw [hn]
          refine cT (hs5t hs3) fun hn => ?_; rw [hn]
          refine cT (hs5t hs4) fun hn => ?_; rw [hn]
          refine cT (hs5t hs5) fun hn => ?_; rw [hn]
          refine cT (hs5t (hs5t hs1)) fun hn => ?_; rw [hn]
          refine cT (hs5t (hs5t hs2)) fun hn => ?_; rw [hn]
          refine cT (hs5t (hs5t hs3)) fun hn => ?_; rw [hn]
          refine cT (hs5t (hs5t hs4)) fun hn => ?_; rw [hn]
          refine cT (hs5t (hs5t hs5)) fun hn => ?_; rw [hn]
          refine cT (hs5t (hs5t (hs5t hs1))) fun hn => ?_; rw [hn]
          refine aP (aF rfl (aF (v := .int .i64 (1)) rfl (aI (bN (c_laws_heldHitS r47.2 x25 1 h51) rfl (aC (bL (hs5t hs1)) aO)) (aH rfl (nl (aD (aD ?_)))))))
          refine cT (hs5t hs2) fun hn => ?_; rw [hn]
          refine cT (hs5t hs3) fun hn => ?_; rw [hn]
          refine cT (hs5t hs4) fun hn => ?_; rw [hn]
          refine cT (hs5t hs5) fun hn => ?_; rw [hn]
          refine cT (hs5t (hs5t hs1)) fun hn => ?_; rw [hn]
          refine cT (hs5t (hs5t hs2)) fun hn => ?_; rw [hn]
          refine cT (hs5t (hs5t hs3)) fun hn => ?_; rw [hn]
          refine cT (hs5t (hs5t hs4)) fun hn => ?_; rw [hn]
          refine cT (hs5t (hs5t hs5)) fun hn => ?_; rw [hn]
          refine cT (hs5t (hs5t (hs5t hs1))) fun hn => ?_; rw [hn]
          refine aP (aF rfl (aG (cM rfl rfl) (nl (cH H rfl (fun h58 H => ?_) (fun h58 H => ?_)))))
          ·refine aD ?_
           refine cT (hs5t hs2) fun hn => ?_; rw [hn]
           refine cT (hs5t hs3) fun hn => ?_; rw [hn]
           refine cT (hs5t hs4) fun hn => ?_; rw [hn]
           refine cT (hs5t hs5) fun hn => ?_; rw [hn]
           refine cT (hs5t (hs5t hs1)) fun hn => ?_; rw [hn]
           refine cT (hs5t (hs5t hs2)) fun hn => ?_; rw [hn]
           refine cT (hs5t (hs5t hs3)) fun hn => ?_; rw [hn]
           refine cT (hs5t (hs5t hs4)) fun hn => ?_; rw [hn]
           refine cT (hs5t (hs5t hs5)) fun hn => ?_; rw [hn]
           refine cT (hs5t (hs5t (hs5t hs1))) fun hn => ?_; rw [hn]
           refine aP (aH (v := .bool (false)) rfl (nl ?_))
           refine cT (hs5t hs2) fun hn => ?_; rw [hn]
           refine cT (hs5t hs3) fun hn => ?_; rw [hn]
           refine cT (hs5t hs4) fun hn => ?_; rw [hn]
           refine cT (hs5t hs5) fun hn => ?_; rw [hn]
           refine cT (hs5t (hs5t hs1)) fun hn => ?_; rw [hn]
           refine cT (hs5t (hs5t hs2)) fun hn => ?_; rw [hn]
           refine cT (hs5t (hs5t hs3)) fun hn => ?_; rw [hn]
           refine cT (hs5t (hs5t hs4)) fun hn => ?_; rw [hn]
           refine cT (hs5t (hs5t hs5)) fun hn => ?_; rw [hn]
           refine cT (hs5t (hs5t (hs5t hs1))) fun hn => ?_; rw [hn]
           refine bQ (rT (?_))
           refine cU (hs5t hs2) fun hn => ?_; rw [hn]
           refine cU (hs5t hs3) fun hn => ?_; rw [hn]
           refine cU (hs5t hs4) fun hn => ?_; rw [hn]
           refine cU (hs5t hs5) fun hn => ?_; rw [hn]
           refine cU (hs5t (hs5t hs1)) fun hn => ?_; rw [hn]
           refine cU (hs5t (hs5t hs2)) fun hn => ?_; rw [hn]
           refine cU (hs5t (hs5t hs3)) fun hn => ?_; rw [hn]
           refine cU (hs5t (hs5t hs4)) fun hn => ?_; rw [hn]
           refine cU (hs5t (hs5t hs5)) fun hn => ?_; rw [hn]
           refine cU (hs5t (hs5t (hs5t hs1))) fun hn => ?_; rw [hn]
           obtain rfl := si H
           exact bk
          ·refine bH (nT (aD (aD ?_)))
           refine cT (hs5t hs2) fun hn => ?_; rw [hn]
           refine cT (hs5t hs3) fun hn => ?_; rw [hn]
           refine cT (hs5t hs4) fun hn => ?_; rw [hn]
           refine cT (hs5t hs5) fun hn => ?_; rw [hn]
           refine cT (hs5t (hs5t hs1)) fun hn => ?_; rw [hn]
           refine cT (hs5t (hs5t hs2)) fun hn => ?_; rw [hn]
           refine cT (hs5t (hs5t hs3)) fun hn => ?_; rw [hn]
           refine cT (hs5t (hs5t hs4)) fun hn => ?_; rw [hn]
           refine cT (hs5t (hs5t hs5)) fun hn => ?_; rw [hn]
           refine cT (hs5t (hs5t (hs5t hs1))) fun hn => ?_; rw [hn]
           refine aP (aF rfl (aF rfl (aG (cO rfl rfl) (nl (cH H rfl (fun h59 H => ?_) (fun h59 H => ?_))))))
           ·refine aD ?_
            refine cT (hs5t hs2) fun hn => ?_; rw [hn]
            refine cT (hs5t hs3) fun hn => ?_; rw [hn]
            refine cT (hs5t hs4) fun hn => ?_; rw [hn]
            refine cT (hs5t hs5) fun hn => ?_; rw [hn]
            refine cT (hs5t (hs5t hs1)) fun hn => ?_; rw [hn]
            refine cT (hs5t (hs5t hs2)) fun hn => ?_; rw [hn]
            refine cT (hs5t (hs5t hs3)) fun hn => ?_; rw [hn]
            refine cT (hs5t (hs5t hs4)) fun hn => ?_; rw [hn]
            refine cT (hs5t (hs5t hs5)) fun hn => ?_; rw [hn]
            refine cT (hs5t (hs5t (hs5t hs1))) fun hn => ?_; rw [hn]
            refine aP (aH (v := .bool (false)) rfl (nl ?_))
            refine cT (hs5t hs2) fun hn => ?_; rw [hn]
            refine cT (hs5t hs3) fun hn => ?_; rw [hn]
            refine cT (hs5t hs4) fun hn => ?_; rw [hn]
            refine cT (hs5t hs5) fun hn => ?_; rw [hn]
            refine cT (hs5t (hs5t hs1)) fun hn => ?_; rw [hn]
            refine cT (hs5t (hs5t hs2)) fun hn => ?_; rw [hn]
            refine cT (hs5t (hs5t hs3)) fun hn => ?_; rw [hn]
            refine cT (hs5t (hs5t hs4)) fun hn => ?_; rw [hn]
            refine cT (hs5t (hs5t hs5)) fun hn => ?_; rw [hn]
            refine cT (hs5t (hs5t (hs5t hs1))) fun hn => ?_; rw [hn]
            refine bQ (rT (?_))
            refine cU (hs5t hs2) fun hn => ?_; rw [hn]
            refine cU (hs5t hs3) fun hn => ?_; rw [hn]
            refine cU (hs5t hs4) fun hn => ?_; rw [hn]
            refine cU (hs5t hs5) fun hn => ?_; rw [hn]
            refine cU (hs5t (hs5t hs1)) fun hn => ?_; rw [hn]
            refine cU (hs5t (hs5t hs2)) fun hn => ?_; rw [hn]
            refine cU (hs5t (hs5t hs3)) fun hn => ?_; rw [hn]
            refine cU (hs5t (hs5t hs4)) fun hn => ?_; rw [hn]
            refine cU (hs5t (hs5t hs5)) fun hn => ?_; rw [hn]
            refine cU (hs5t (hs5t (hs5t hs1))) fun hn => ?_; rw [hn]
            obtain rfl := si H
            exact bk
           ·refine bH (nT (aD ?_))
            refine cT (hs5t hs2) fun hn => ?_; rw [hn]
            refine cT (hs5t hs3) fun hn => ?_; rw [hn]
            refine cT (hs5t hs4) fun hn => ?_; rw [hn]
            refine cT (hs5t hs5) fun hn => ?_; rw [hn]
            refine cT (hs5t (hs5t hs1)) fun hn => ?_; rw [hn]
            refine cT (hs5t (hs5t hs2)) fun hn => ?_; rw [hn]
            refine cT (hs5t (hs5t hs3)) fun hn => ?_; rw [hn]
            refine cT (hs5t (hs5t hs4)) fun hn => ?_; rw [hn]
            refine cT (hs5t (hs5t hs5)) fun hn => ?_; rw [hn]
            refine cT (hs5t (hs5t (hs5t hs1))) fun hn => ?_; rw [hn]
            refine aP (aH (v := .bool (true)) rfl (nl ?_))
            refine cT (hs5t hs2) fun hn => ?_; rw [hn]
            refine cT (hs5t hs3) fun hn => ?_; rw [hn]
            refine cT (hs5t hs4) fun hn => ?_; rw [hn]
            refine cT (hs5t hs5) fun hn => ?_; rw [hn]
            refine cT (hs5t (hs5t hs1)) fun hn => ?_; rw [hn]
            refine cT (hs5t (hs5t hs2)) fun hn => ?_; rw [hn]
            refine cT (hs5t (hs5t hs3)) fun hn => ?_; rw [hn]
            refine cT (hs5t (hs5t hs4)) fun hn => ?_; rw [hn]
            refine cT (hs5t (hs5t hs5)) fun hn => ?_; rw [hn]
            refine cT (hs5t (hs5t (hs5t hs1))) fun hn => ?_; rw [hn]
            refine bQ ?_
            refine cU (hs5t hs2) fun hn => ?_; rw [hn]
            refine cU (hs5t hs3) fun hn => ?_; rw [hn]
            refine cU (hs5t hs4) fun hn => ?_; rw [hn]
            refine cU (hs5t hs5) fun hn => ?_; rw [hn]
            refine cU (hs5t (hs5t hs1)) fun hn => ?_; rw [hn]
            refine cU (hs5t (hs5t hs2)) fun hn => ?_; rw [hn]
            refine cU (hs5t (hs5t hs3)) fun hn => ?_; rw [hn]
            refine cU (hs5t (hs5t hs4)) fun hn => ?_; rw [hn]
            refine cU (hs5t (hs5t hs5)) fun hn => ?_; rw [hn]
            refine cU (hs5t (hs5t (hs5t hs1))) fun hn => ?_; rw [hn]
            obtain rfl := si H
            exact bk
theorem mt_total (k : Int) (h0 : 0 ≤ k) (hk : k ≤ 1152921504606846976) : ∃ t, p_laws_markText k = some t := by
 unfold p_laws_markText
 by_cases hz : k ≤ 0
 ·simp [hz]
 ·simp only [hz, decide_false, cond_false]
  obtain ⟨e, he, hs⟩ := lp.rule (body := p_laws_markText_b0) (fun σ => 0 ≤ σ.1 ∧ ∃ j, j ≤ 61 ∧ σ.2.size + j ≤ 61 ∧ σ.1 < (2 : Int) ^ j) (fun σ => σ.1.toNat) (fun e => e.size ≤ 61) (fun σ hI => by
   obtain ⟨i0, j, j1, j2, j3⟩ := hI
   unfold p_laws_markText_b0
   by_cases hp : 0 < σ.1
   ·left
    have hj : 0 < j := by
     rcases Nat.eq_zero_or_pos j with rfl | h
     ·simp at j3; omega
     ·exact h
    have hpow : (2 : Int) ^ j = 2 * 2 ^ (j - 1) := by
     rw [show j = (j - 1) + 1 by omega, Int.pow_succ]; simp; omega
    have hbig : (2 : Int) ^ j ≤ 2 ^ 61 := by
     have : (2 : Nat) ^ j ≤ 2 ^ 61 := Nat.pow_le_pow_right (by decide) j1
     have h2 : ((2 ^ j : Nat) : Int) ≤ ((2 ^ 61 : Nat) : Int) := by omega
     simpa using h2
    have hm : 0 ≤ σ.1.tmod 10 ∧ σ.1.tmod 10 < 10 := by
     rw [Int.tmod_eq_emod_of_nonneg i0]; omega
    have hd : σ.1.tdiv 10 = σ.1 / 10 := Int.tdiv_eq_ediv_of_nonneg i0
    have g1 : I64 (σ.1.tmod 10) := by unfold I64; omega
    have g2 : I64 (48 + σ.1.tmod 10) := by unfold I64; omega
    have g3 : I64 (σ.1.tdiv 10) := by rw [hd]; unfold I64; omega
    have g4 : room ((s2 [b8 (48 + σ.1.tmod 10)]).size + σ.2.size) := by
     have : (s2 [b8 (48 + σ.1.tmod 10)]).size = 1 := rfl
     unfold room; omega
    refine ⟨(σ.1.tdiv 10, s2 [b8 (48 + σ.1.tmod 10)] ++ σ.2), by simp only [hp, decide_true, cond_true, gd.yes g1, gd.yes g2, gd.yes g3, gd.yes g4], ⟨by rw [hd]; show 0 ≤ σ.1 / 10; omega, j - 1, by omega, ?_, ?_⟩, ?_⟩
    ·have : (s2 [b8 (48 + σ.1.tmod 10)] ++ σ.2).size = 1 + σ.2.size := by rw [ByteArray.size_append]; rfl
     show (s2 [b8 (48 + σ.1.tmod 10)] ++ σ.2).size + (j - 1) ≤ 61
     omega
    ·show σ.1.tdiv 10 < _
     rw [hd]; omega
    ·show (σ.1.tdiv 10).toNat < σ.1.toNat
     rw [hd]; omega
   ·right
    exact ⟨σ.2, by simp [hp], by omega⟩) (s := (k, (⟨#[]⟩ : ByteArray))) ⟨h0, 61, Nat.le_refl _, Nat.le_refl _, by show k < _; omega⟩
  rw [he, bd_some]
  have : room ((⟨#[109]⟩ : ByteArray).size + e.size) := by
   have h1 : (⟨#[109]⟩ : ByteArray).size = 1 := rfl
   unfold room; omega
  rw [gd.yes this]
  exact ⟨_, rfl⟩
theorem s_Tag (a : Tag) (left : Int) (h0 : 0 ≤ left) (h1 : left ≤ 1048576) (_ : Dp.ok a) (so : So.so a) : p_laws_szTag a left = some (cut left (Wt.w a)) := by
 have hw : Wt.w a = Wt.w a.1 + (Wt.w a.2) := by
  simp only [Wt.w]
  first | done | omega
 rw [hw]; unfold p_laws_szTag
 have z0 : (a.1).size ≤ 9223372036854775807 := so.1
 have b0 : 0 ≤ left := h0; have d0 : left ≤ 1048576 := h1
 refine sz_str (by unfold I64; omega) fun c0 => ?_
 rw [show left - ((a.1).size : Int) = cut left (a.1).size from cut_pos (fun h => c0 (cut_lt.2 h))]
 have z1 : (a.2).size ≤ 9223372036854775807 := so.2
 have b1 : 0 ≤ cut left (a.1).size := (cut_nn c0); have d1 : cut left (a.1).size ≤ 1048576 := (cut_rng h1)
 exact sz_strl (by unfold I64; omega)
theorem s_TagS (a : (List Tag)) (left : Int) (h0 : 0 ≤ left) (h1 : left ≤ 1048576) (ok : Dp.ok a) (so : So.so a) : p_laws_szTagS a left = some (cut left (Wt.w a)) := by
 have hm : a.length ≤ 9223372036854775807 := ok.1
 unfold p_laws_szTagS
 refine sz_str (w2 := sumN a.length fun i => Wt.w (nth a i)) (by unfold I64; omega) fun hc => ?_
 rw [cut_lt] at hc; rw [← cut_pos hc]
 exact sz_loop (l := a) (by omega) (by omega) (fun k hk m m0 m1 => by
  unfold p_laws_szTagS_b0
  simp only [dlt hk, cond_true, gd.yes (ixN hk), Int.toNat_natCast, s_Tag (nth a k) m m0 m1 (ok.2 k hk) (so k hk), bd_some, gd.yes (i64S hk hm)]
  by_cases hc : cut m (Wt.w (nth a k)) < 0 <;> simp [hc]) (fun m => by unfold p_laws_szTagS_b0; simp)
theorem s_TagSS (a : (List (List Tag))) (left : Int) (h0 : 0 ≤ left) (h1 : left ≤ 1048576) (ok : Dp.ok a) (so : So.so a) : p_laws_szTagSS a left = some (cut left (Wt.w a)) := by
 have hm : a.length ≤ 9223372036854775807 := ok.1
 unfold p_laws_szTagSS
 refine sz_str (w2 := sumN a.length fun i => Wt.w (nth a i)) (by unfold I64; omega) fun hc => ?_
 rw [cut_lt] at hc; rw [← cut_pos hc]
 exact sz_loop (l := a) (by omega) (by omega) (fun k hk m m0 m1 => by
  unfold p_laws_szTagSS_b0
  simp only [dlt hk, cond_true, gd.yes (ixN hk), Int.toNat_natCast, s_TagS (nth a k) m m0 m1 (ok.2 k hk) (so k hk), bd_some, gd.yes (i64S hk hm)]
  by_cases hc : cut m (Wt.w (nth a k)) < 0 <;> simp [hc]) (fun m => by unfold p_laws_szTagSS_b0; simp)
theorem s_IntS (a : (List Int)) (left : Int) (h0 : 0 ≤ left) (h1 : left ≤ 1048576) (ok : Dp.ok a) : p_laws_szIntS a left = some (cut left (Wt.w a)) := by
 have hm : a.length ≤ 9223372036854775807 := ok.1
 unfold p_laws_szIntS
 have hw : Wt.w a = a.length := by show a.length + sumN a.length (fun i => Wt.w (nth a i)) = _; rw [sumN_zero (f := fun i => Wt.w (nth a i)) fun i _ => rfl]; rfl
 rw [hw]; exact sz_strl (by unfold I64; omega)
theorem s_Post (a : Post) (left : Int) (h0 : 0 ≤ left) (h1 : left ≤ 1048576) (ok : Dp.ok a) (so : So.so a) : p_laws_szPost a left = some (cut left (Wt.w a)) := by
 have hw : Wt.w a = Wt.w a.1 + (Wt.w a.2) := by
  simp only [Wt.w]
  first | done | omega
 rw [hw]; unfold p_laws_szPost
 refine sz_step (s_Tag a.1 left h0 h1 ok.1 so.1) fun c0 => ?_
 exact sz_last (s_IntS a.2 (cut left (Wt.w a.1)) (cut_nn c0) (cut_rng h1) ok.2)
theorem s_PostS (a : (List Post)) (left : Int) (h0 : 0 ≤ left) (h1 : left ≤ 1048576) (ok : Dp.ok a) (so : So.so a) : p_laws_szPostS a left = some (cut left (Wt.w a)) := by
 have hm : a.length ≤ 9223372036854775807 := ok.1
 unfold p_laws_szPostS
 refine sz_str (w2 := sumN a.length fun i => Wt.w (nth a i)) (by unfold I64; omega) fun hc => ?_
 rw [cut_lt] at hc; rw [← cut_pos hc]
 exact sz_loop (l := a) (by omega) (by omega) (fun k hk m m0 m1 => by
  unfold p_laws_szPostS_b0
  simp only [dlt hk, cond_true, gd.yes (ixN hk), Int.toNat_natCast, s_Post (nth a k) m m0 m1 (ok.2 k hk) (so k hk), bd_some, gd.yes (i64S hk hm)]
  by_cases hc : cut m (Wt.w (nth a k)) < 0 <;> simp [hc]) (fun m => by unfold p_laws_szPostS_b0; simp)
theorem s_Index (a : Index) (left : Int) (h0 : 0 ≤ left) (h1 : left ≤ 1048576) (ok : Dp.ok a) (so : So.so a) : p_laws_szIndex a left = some (cut left (Wt.w a)) := by
 have hw : Wt.w a = Wt.w a.1 + (Wt.w a.2) := by
  simp only [Wt.w]
  first | done | omega
 rw [hw]; unfold p_laws_szIndex
 refine sz_step (s_TagSS a.1 left h0 h1 ok.1 so.1) fun c0 => ?_
 exact sz_last (s_PostS a.2 (cut left (Wt.w a.1)) (cut_nn c0) (cut_rng h1) ok.2 so.2)
theorem s_RowS (a : (List Row)) (left : Int) (h0 : 0 ≤ left) (h1 : left ≤ 1048576) (ok : Dp.ok a) : p_laws_szRowS a left = some (cut left (Wt.w a)) := by
 have hm : a.length ≤ 9223372036854775807 := ok.1
 unfold p_laws_szRowS
 have hw : Wt.w a = a.length := by show a.length + sumN a.length (fun i => Wt.w (nth a i)) = _; rw [sumN_zero (f := fun i => Wt.w (nth a i)) fun i _ => rfl]; rfl
 rw [hw]; exact sz_strl (by unfold I64; omega)
theorem s_RowSS (a : (List (List Row))) (left : Int) (h0 : 0 ≤ left) (h1 : left ≤ 1048576) (ok : Dp.ok a) : p_laws_szRowSS a left = some (cut left (Wt.w a)) := by
 have hm : a.length ≤ 9223372036854775807 := ok.1
 unfold p_laws_szRowSS
 refine sz_str (w2 := sumN a.length fun i => Wt.w (nth a i)) (by unfold I64; omega) fun hc => ?_
 rw [cut_lt] at hc; rw [← cut_pos hc]
 exact sz_loop (l := a) (by omega) (by omega) (fun k hk m m0 m1 => by
  unfold p_laws_szRowSS_b0
  simp only [dlt hk, cond_true, gd.yes (ixN hk), Int.toNat_natCast, s_RowS (nth a k) m m0 m1 (ok.2 k hk), bd_some, gd.yes (i64S hk hm)]
  by_cases hc : cut m (Wt.w (nth a k)) < 0 <;> simp [hc]) (fun m => by unfold p_laws_szRowSS_b0; simp)
theorem s_Part (a : Part) (left : Int) (h0 : 0 ≤ left) (h1 : left ≤ 1048576) (ok : Dp.ok a) : p_laws_szPart a left = some (cut left (Wt.w a)) := by
 have hw : Wt.w a = Wt.w a.1 + (Wt.w a.2) := by
  simp only [Wt.w]
  first | done | omega
 rw [hw]; unfold p_laws_szPart
 refine sz_step (s_IntS a.1 left h0 h1 ok.1) fun c0 => ?_
 exact sz_last (s_RowSS a.2 (cut left (Wt.w a.1)) (cut_nn c0) (cut_rng h1) ok.2)
theorem s_PartS (a : (List Part)) (left : Int) (h0 : 0 ≤ left) (h1 : left ≤ 1048576) (ok : Dp.ok a) : p_laws_szPartS a left = some (cut left (Wt.w a)) := by
 have hm : a.length ≤ 9223372036854775807 := ok.1
 unfold p_laws_szPartS
 refine sz_str (w2 := sumN a.length fun i => Wt.w (nth a i)) (by unfold I64; omega) fun hc => ?_
 rw [cut_lt] at hc; rw [← cut_pos hc]
 exact sz_loop (l := a) (by omega) (by omega) (fun k hk m m0 m1 => by
  unfold p_laws_szPartS_b0
  simp only [dlt hk, cond_true, gd.yes (ixN hk), Int.toNat_natCast, s_Part (nth a k) m m0 m1 (ok.2 k hk), bd_some, gd.yes (i64S hk hm)]
  by_cases hc : cut m (Wt.w (nth a k)) < 0 <;> simp [hc]) (fun m => by unfold p_laws_szPartS_b0; simp)
theorem s_SampleS (a : (List Sample)) (left : Int) (h0 : 0 ≤ left) (h1 : left ≤ 1048576) (ok : Dp.ok a) : p_laws_szSampleS a left = some (cut left (Wt.w a)) := by
 have hm : a.length ≤ 9223372036854775807 := ok.1
 unfold p_laws_szSampleS
 have hw : Wt.w a = a.length := by show a.length + sumN a.length (fun i => Wt.w (nth a i)) = _; rw [sumN_zero (f := fun i => Wt.w (nth a i)) fun i _ => rfl]; rfl
 rw [hw]; exact sz_strl (by unfold I64; omega)
theorem s_Store (a : Store) (left : Int) (h0 : 0 ≤ left) (h1 : left ≤ 1048576) (ok : Dp.ok a) (so : So.so a) : p_laws_szStore a left = some (cut left (Wt.w a)) := by
 have hw : Wt.w a = Wt.w a.1 + (Wt.w a.2.1 + (Wt.w a.2.2)) := by
  simp only [Wt.w]
  first | done | omega
 rw [hw]; unfold p_laws_szStore
 refine sz_step (s_Index a.1 left h0 h1 ok.1 so.1) fun c0 => ?_
 refine sz_step (s_PartS a.2.1 (cut left (Wt.w a.1)) (cut_nn c0) (cut_rng h1) ok.2.1) fun c1 => ?_
 exact sz_last (s_SampleS a.2.2 (cut (cut left (Wt.w a.1)) (Wt.w a.2.1)) (cut_nn c1) (cut_rng (cut_rng h1)) ok.2.2)
theorem s_Cond (a : Cond) (left : Int) (h0 : 0 ≤ left) (h1 : left ≤ 1048576) (ok : Dp.ok a) (so : So.so a) : p_laws_szCond a left = some (cut left (Wt.w a)) := by
 have hw : Wt.w a = Wt.w a.1 := by
  simp only [Wt.w]
  first | done | omega
 rw [hw]; unfold p_laws_szCond
 exact sz_last (s_Tag a.1 left h0 h1 ok.1 so.1)
theorem s_CondS (a : (List Cond)) (left : Int) (h0 : 0 ≤ left) (h1 : left ≤ 1048576) (ok : Dp.ok a) (so : So.so a) : p_laws_szCondS a left = some (cut left (Wt.w a)) := by
 have hm : a.length ≤ 9223372036854775807 := ok.1
 unfold p_laws_szCondS
 refine sz_str (w2 := sumN a.length fun i => Wt.w (nth a i)) (by unfold I64; omega) fun hc => ?_
 rw [cut_lt] at hc; rw [← cut_pos hc]
 exact sz_loop (l := a) (by omega) (by omega) (fun k hk m m0 m1 => by
  unfold p_laws_szCondS_b0
  simp only [dlt hk, cond_true, gd.yes (ixN hk), Int.toNat_natCast, s_Cond (nth a k) m m0 m1 (ok.2 k hk) (so k hk), bd_some, gd.yes (i64S hk hm)]
  by_cases hc : cut m (Wt.w (nth a k)) < 0 <;> simp [hc]) (fun m => by unfold p_laws_szCondS_b0; simp)
theorem t_Tag (a : Tag) (_ : Dp.ok a) (_ : Wt.w a ≤ 1048576) : p_laws_toTag a = some a := by
 unfold p_laws_toTag
 rfl
theorem t_TagS (a : (List Tag)) (ok : Dp.ok a) (hw : Wt.w a ≤ 1048576) : p_laws_toTagS a = some a := by
 have hm : a.length ≤ 1048576 := Nat.le_trans wL_le hw
 unfold p_laws_toTagS
 rw [gd.yes (by unfold many; omega)]
 simp only [Int.toNat_natCast]
 rw [to_loop (l := a) (by simp) (fun k hk r hr => by
  unfold p_laws_toTagS_b0
  have hk2 : k < r.length := by omega
  simp only [dlt hk, cond_true, gd.yes (ixN hk), gd.yes (ixN hk2), Int.toNat_natCast, t_Tag (nth a k) (ok.2 k hk) (Nat.le_trans (wL_el hk) hw), bd_some, gd.yes (i64S hk (by omega))]
  first | done | rfl) (fun r => by unfold p_laws_toTagS_b0; simp)]
 rfl
theorem t_TagSS (a : (List (List Tag))) (ok : Dp.ok a) (hw : Wt.w a ≤ 1048576) : p_laws_toTagSS a = some a := by
 have hm : a.length ≤ 1048576 := Nat.le_trans wL_le hw
 unfold p_laws_toTagSS
 rw [gd.yes (by unfold many; omega)]
 simp only [Int.toNat_natCast]
 rw [to_loop (l := a) (by simp) (fun k hk r hr => by
  unfold p_laws_toTagSS_b0
  have hk2 : k < r.length := by omega
  simp only [dlt hk, cond_true, gd.yes (ixN hk), gd.yes (ixN hk2), Int.toNat_natCast, t_TagS (nth a k) (ok.2 k hk) (Nat.le_trans (wL_el hk) hw), bd_some, gd.yes (i64S hk (by omega))]
  first | done | rfl) (fun r => by unfold p_laws_toTagSS_b0; simp)]
 rfl
theorem t_IntS (a : (List Int)) (_ : Dp.ok a) (hw : Wt.w a ≤ 1048576) : p_laws_toIntS a = some a := by
 have hm : a.length ≤ 1048576 := Nat.le_trans wL_le hw
 unfold p_laws_toIntS
 rw [gd.yes (by unfold many; omega)]
 simp only [Int.toNat_natCast]
 rw [to_loop (l := a) (by simp) (fun k hk r hr => by
  unfold p_laws_toIntS_b0
  have hk2 : k < r.length := by omega
  simp only [dlt hk, cond_true, gd.yes (ixN hk), gd.yes (ixN hk2), Int.toNat_natCast, gd.yes (i64S hk (by omega))]
  first | done | rfl) (fun r => by unfold p_laws_toIntS_b0; simp)]
 rfl
theorem t_Post (a : Post) (ok : Dp.ok a) (hw : Wt.w a ≤ 1048576) : p_laws_toPost a = some a := by
 unfold p_laws_toPost
 simp only [t_Tag a.1 ok.1 (by simp only [Wt.w] at hw ⊢; omega), t_IntS a.2 ok.2 (by simp only [Wt.w] at hw ⊢; omega), bd_some]
theorem t_PostS (a : (List Post)) (ok : Dp.ok a) (hw : Wt.w a ≤ 1048576) : p_laws_toPostS a = some a := by
 have hm : a.length ≤ 1048576 := Nat.le_trans wL_le hw
 unfold p_laws_toPostS
 rw [gd.yes (by unfold many; omega)]
 simp only [Int.toNat_natCast]
 rw [to_loop (l := a) (by simp) (fun k hk r hr => by
  unfold p_laws_toPostS_b0
  have hk2 : k < r.length := by omega
  simp only [dlt hk, cond_true, gd.yes (ixN hk), gd.yes (ixN hk2), Int.toNat_natCast, t_Post (nth a k) (ok.2 k hk) (Nat.le_trans (wL_el hk) hw), bd_some, gd.yes (i64S hk (by omega))]
  first | done | rfl) (fun r => by unfold p_laws_toPostS_b0; simp)]
 rfl
theorem t_Index (a : Index) (ok : Dp.ok a) (hw : Wt.w a ≤ 1048576) : p_laws_toIndex a = some a := by
 unfold p_laws_toIndex
 simp only [t_TagSS a.1 ok.1 (by simp only [Wt.w] at hw ⊢; omega), t_PostS a.2 ok.2 (by simp only [Wt.w] at hw ⊢; omega), bd_some]
theorem t_Row (a : Row) (_ : Dp.ok a) (_ : Wt.w a ≤ 1048576) : p_laws_toRow a = some a := by
 unfold p_laws_toRow
 rfl
theorem t_RowS (a : (List Row)) (ok : Dp.ok a) (hw : Wt.w a ≤ 1048576) : p_laws_toRowS a = some a := by
 have hm : a.length ≤ 1048576 := Nat.le_trans wL_le hw
 unfold p_laws_toRowS
 rw [gd.yes (by unfold many; omega)]
 simp only [Int.toNat_natCast]
 rw [to_loop (l := a) (by simp) (fun k hk r hr => by
  unfold p_laws_toRowS_b0
  have hk2 : k < r.length := by omega
  simp only [dlt hk, cond_true, gd.yes (ixN hk), gd.yes (ixN hk2), Int.toNat_natCast, t_Row (nth a k) (ok.2 k hk) (Nat.le_trans (wL_el hk) hw), bd_some, gd.yes (i64S hk (by omega))]
  first | done | rfl) (fun r => by unfold p_laws_toRowS_b0; simp)]
 rfl
theorem t_RowSS (a : (List (List Row))) (ok : Dp.ok a) (hw : Wt.w a ≤ 1048576) : p_laws_toRowSS a = some a := by
 have hm : a.length ≤ 1048576 := Nat.le_trans wL_le hw
 unfold p_laws_toRowSS
 rw [gd.yes (by unfold many; omega)]
 simp only [Int.toNat_natCast]
 rw [to_loop (l := a) (by simp) (fun k hk r hr => by
  unfold p_laws_toRowSS_b0
  have hk2 : k < r.length := by omega
  simp only [dlt hk, cond_true, gd.yes (ixN hk), gd.yes (ixN hk2), Int.toNat_natCast, t_RowS (nth a k) (ok.2 k hk) (Nat.le_trans (wL_el hk) hw), bd_some, gd.yes (i64S hk (by omega))]
  first | done | rfl) (fun r => by unfold p_laws_toRowSS_b0; simp)]
 rfl
theorem t_Part (a : Part) (ok : Dp.ok a) (hw : Wt.w a ≤ 1048576) : p_laws_toPart a = some a := by
 unfold p_laws_toPart
 simp only [t_IntS a.1 ok.1 (by simp only [Wt.w] at hw ⊢; omega), t_RowSS a.2 ok.2 (by simp only [Wt.w] at hw ⊢; omega), bd_some]
theorem t_PartS (a : (List Part)) (ok : Dp.ok a) (hw : Wt.w a ≤ 1048576) : p_laws_toPartS a = some a := by
 have hm : a.length ≤ 1048576 := Nat.le_trans wL_le hw
 unfold p_laws_toPartS
 rw [gd.yes (by unfold many; omega)]
 simp only [Int.toNat_natCast]
 rw [to_loop (l := a) (by simp) (fun k hk r hr => by
  unfold p_laws_toPartS_b0
  have hk2 : k < r.length := by omega
  simp only [dlt hk, cond_true, gd.yes (ixN hk), gd.yes (ixN hk2), Int.toNat_natCast, t_Part (nth a k) (ok.2 k hk) (Nat.le_trans (wL_el hk) hw), bd_some, gd.yes (i64S hk (by omega))]
  first | done | rfl) (fun r => by unfold p_laws_toPartS_b0; simp)]
 rfl
theorem t_Sample (a : Sample) (ok : Dp.ok a) (hw : Wt.w a ≤ 1048576) : p_laws_toSample a = some a := by
 unfold p_laws_toSample
 simp only [t_Row a.2 ok.2 (by simp only [Wt.w] at hw ⊢; omega), bd_some]
theorem t_SampleS (a : (List Sample)) (ok : Dp.ok a) (hw : Wt.w a ≤ 1048576) : p_laws_toSampleS a = some a := by
 have hm : a.length ≤ 1048576 := Nat.le_trans wL_le hw
 unfold p_laws_toSampleS
 rw [gd.yes (by unfold many; omega)]
 simp only [Int.toNat_natCast]
 rw [to_loop (l := a) (by simp) (fun k hk r hr => by
  unfold p_laws_toSampleS_b0
  have hk2 : k < r.length := by omega
  simp only [dlt hk, cond_true, gd.yes (ixN hk), gd.yes (ixN hk2), Int.toNat_natCast, t_Sample (nth a k) (ok.2 k hk) (Nat.le_trans (wL_el hk) hw), bd_some, gd.yes (i64S hk (by omega))]
  first | done | rfl) (fun r => by unfold p_laws_toSampleS_b0; simp)]
 rfl
theorem t_Store (a : Store) (ok : Dp.ok a) (hw : Wt.w a ≤ 1048576) : p_laws_toStore a = some a := by
 unfold p_laws_toStore
 simp only [t_Index a.1 ok.1 (by simp only [Wt.w] at hw ⊢; omega), t_PartS a.2.1 ok.2.1 (by simp only [Wt.w] at hw ⊢; omega), t_SampleS a.2.2 ok.2.2 (by simp only [Wt.w] at hw ⊢; omega), bd_some]
theorem t_Cond (a : Cond) (ok : Dp.ok a) (hw : Wt.w a ≤ 1048576) : p_laws_toCond a = some a := by
 unfold p_laws_toCond
 simp only [t_Tag a.1 ok.1 (by simp only [Wt.w] at hw ⊢; omega), bd_some]
theorem t_CondS (a : (List Cond)) (ok : Dp.ok a) (hw : Wt.w a ≤ 1048576) : p_laws_toCondS a = some a := by
 have hm : a.length ≤ 1048576 := Nat.le_trans wL_le hw
 unfold p_laws_toCondS
 rw [gd.yes (by unfold many; omega)]
 simp only [Int.toNat_natCast]
 rw [to_loop (l := a) (by simp) (fun k hk r hr => by
  unfold p_laws_toCondS_b0
  have hk2 : k < r.length := by omega
  simp only [dlt hk, cond_true, gd.yes (ixN hk), gd.yes (ixN hk2), Int.toNat_natCast, t_Cond (nth a k) (ok.2 k hk) (Nat.le_trans (wL_el hk) hw), bd_some, gd.yes (i64S hk (by omega))]
  first | done | rfl) (fun r => by unfold p_laws_toCondS_b0; simp)]
 rfl
theorem q_Row (a b : Row) (_ : Dp.ok a) (hb : Dp.ok b) : p_laws_eqRow a b = some (decide (a = b)) := by
 have he : a = b ↔ a.1 = b.1 ∧ a.2 = b.2 := by
  constructor
  ·rintro rfl; simp
  ·rintro ⟨h0, h1⟩; exact Prod.ext h0 (h1)
 unfold p_laws_eqRow
 simp only [he]
 by_cases h0 : a.1 = b.1
 ·by_cases h1 : a.2 = b.2
  ·simp [h0, h1]
  ·simp [h0, h1]
 ·simp [h0]
theorem q_RowS (a b : (List Row)) (ha : Dp.ok a) (hb : Dp.ok b) : p_laws_eqRowS a b = some (decide (a = b)) := by
 have hm : a.length ≤ 9223372036854775807 := ha.1
 unfold p_laws_eqRowS
 by_cases hl : a.length = b.length
 ·have hl2 : (a.length : Int) = (b.length : Int) := by omega
  simp only [hl2, decide_true, Bool.not_true, cond_false]
  refine eq_loop hl (fun k hk => ?_) ?_
  ·have hk2 : k < b.length := by omega
   unfold p_laws_eqRowS_b0
   simp only [dlt hk, cond_true, gd.yes (ixN hk), gd.yes (ixN hk2), Int.toNat_natCast, q_Row (nth a k) (nth b k) (ha.2 k hk) (hb.2 k hk2), bd_some, gd.yes (i64S hk hm)]
   by_cases h : nth a k = nth b k <;> simp [h]
  ·unfold p_laws_eqRowS_b0; simp
 ·have h2 : ¬ (a.length : Int) = (b.length : Int) := by omega
  have h3 : a ≠ b := fun e => hl (by rw [e])
  simp [h2, h3]
theorem q_Hit (a b : Hit) (ha : Dp.ok a) (hb : Dp.ok b) : p_laws_eqHit a b = some (decide (a = b)) := by
 have he : a = b ↔ a.1 = b.1 ∧ a.2 = b.2 := by
  constructor
  ·rintro rfl; simp
  ·rintro ⟨h0, h1⟩; exact Prod.ext h0 (h1)
 unfold p_laws_eqHit
 simp only [q_RowS a.2 b.2 ha.2 hb.2, bd_some, he]
 by_cases h0 : a.1 = b.1
 ·by_cases h1 : a.2 = b.2
  ·simp [h0, h1]
  ·simp [h0, h1]
 ·simp [h0]
theorem q_HitS (a b : (List Hit)) (ha : Dp.ok a) (hb : Dp.ok b) : p_laws_eqHitS a b = some (decide (a = b)) := by
 have hm : a.length ≤ 9223372036854775807 := ha.1
 unfold p_laws_eqHitS
 by_cases hl : a.length = b.length
 ·have hl2 : (a.length : Int) = (b.length : Int) := by omega
  simp only [hl2, decide_true, Bool.not_true, cond_false]
  refine eq_loop hl (fun k hk => ?_) ?_
  ·have hk2 : k < b.length := by omega
   unfold p_laws_eqHitS_b0
   simp only [dlt hk, cond_true, gd.yes (ixN hk), gd.yes (ixN hk2), Int.toNat_natCast, q_Hit (nth a k) (nth b k) (ha.2 k hk) (hb.2 k hk2), bd_some, gd.yes (i64S hk hm)]
   by_cases h : nth a k = nth b k <;> simp [h]
  ·unfold p_laws_eqHitS_b0; simp
 ·have h2 : ¬ (a.length : Int) = (b.length : Int) := by omega
  have h3 : a ≠ b := fun e => hl (by rw [e])
  simp [h2, h3]
theorem q_Tag (a b : Tag) (_ : Dp.ok a) (hb : Dp.ok b) : p_laws_eqTag a b = some (decide (a = b)) := by
 have he : a = b ↔ a.1 = b.1 ∧ a.2 = b.2 := by
  constructor
  ·rintro rfl; simp
  ·rintro ⟨h0, h1⟩; exact Prod.ext h0 (h1)
 unfold p_laws_eqTag
 simp only [he]
 by_cases h0 : a.1 = b.1
 ·by_cases h1 : a.2 = b.2
  ·simp [h0, h1]
  ·simp [h0, h1]
 ·simp [h0]
theorem q_TagS (a b : (List Tag)) (ha : Dp.ok a) (hb : Dp.ok b) : p_laws_eqTagS a b = some (decide (a = b)) := by
 have hm : a.length ≤ 9223372036854775807 := ha.1
 unfold p_laws_eqTagS
 by_cases hl : a.length = b.length
 ·have hl2 : (a.length : Int) = (b.length : Int) := by omega
  simp only [hl2, decide_true, Bool.not_true, cond_false]
  refine eq_loop hl (fun k hk => ?_) ?_
  ·have hk2 : k < b.length := by omega
   unfold p_laws_eqTagS_b0
   simp only [dlt hk, cond_true, gd.yes (ixN hk), gd.yes (ixN hk2), Int.toNat_natCast, q_Tag (nth a k) (nth b k) (ha.2 k hk) (hb.2 k hk2), bd_some, gd.yes (i64S hk hm)]
   by_cases h : nth a k = nth b k <;> simp [h]
  ·unfold p_laws_eqTagS_b0; simp
 ·have h2 : ¬ (a.length : Int) = (b.length : Int) := by omega
  have h3 : a ≠ b := fun e => hl (by rw [e])
  simp [h2, h3]
theorem q_TagSS (a b : (List (List Tag))) (ha : Dp.ok a) (hb : Dp.ok b) : p_laws_eqTagSS a b = some (decide (a = b)) := by
 have hm : a.length ≤ 9223372036854775807 := ha.1
 unfold p_laws_eqTagSS
 by_cases hl : a.length = b.length
 ·have hl2 : (a.length : Int) = (b.length : Int) := by omega
  simp only [hl2, decide_true, Bool.not_true, cond_false]
  refine eq_loop hl (fun k hk => ?_) ?_
  ·have hk2 : k < b.length := by omega
   unfold p_laws_eqTagSS_b0
   simp only [dlt hk, cond_true, gd.yes (ixN hk), gd.yes (ixN hk2), Int.toNat_natCast, q_TagS (nth a k) (nth b k) (ha.2 k hk) (hb.2 k hk2), bd_some, gd.yes (i64S hk hm)]
   by_cases h : nth a k = nth b k <;> simp [h]
  ·unfold p_laws_eqTagSS_b0; simp
 ·have h2 : ¬ (a.length : Int) = (b.length : Int) := by omega
  have h3 : a ≠ b := fun e => hl (by rw [e])
  simp [h2, h3]
theorem q_IntS (a b : (List Int)) (ha : Dp.ok a) (_ : Dp.ok b) : p_laws_eqIntS a b = some (decide (a = b)) := by
 have hm : a.length ≤ 9223372036854775807 := ha.1
 unfold p_laws_eqIntS
 by_cases hl : a.length = b.length
 ·have hl2 : (a.length : Int) = (b.length : Int) := by omega
  simp only [hl2, decide_true, Bool.not_true, cond_false]
  refine eq_loop hl (fun k hk => ?_) ?_
  ·have hk2 : k < b.length := by omega
   unfold p_laws_eqIntS_b0
   simp only [dlt hk, cond_true, gd.yes (ixN hk), gd.yes (ixN hk2), Int.toNat_natCast, gd.yes (i64S hk hm)]
   by_cases h : nth a k = nth b k <;> simp [h]
  ·unfold p_laws_eqIntS_b0; simp
 ·have h2 : ¬ (a.length : Int) = (b.length : Int) := by omega
  have h3 : a ≠ b := fun e => hl (by rw [e])
  simp [h2, h3]
theorem q_Post (a b : Post) (ha : Dp.ok a) (hb : Dp.ok b) : p_laws_eqPost a b = some (decide (a = b)) := by
 have he : a = b ↔ a.1 = b.1 ∧ a.2 = b.2 := by
  constructor
  ·rintro rfl; simp
  ·rintro ⟨h0, h1⟩; exact Prod.ext h0 (h1)
 unfold p_laws_eqPost
 simp only [q_Tag a.1 b.1 ha.1 hb.1, q_IntS a.2 b.2 ha.2 hb.2, bd_some, he]
 by_cases h0 : a.1 = b.1
 ·by_cases h1 : a.2 = b.2
  ·simp [h0, h1]
  ·simp [h0, h1]
 ·simp [h0]
theorem q_PostS (a b : (List Post)) (ha : Dp.ok a) (hb : Dp.ok b) : p_laws_eqPostS a b = some (decide (a = b)) := by
 have hm : a.length ≤ 9223372036854775807 := ha.1
 unfold p_laws_eqPostS
 by_cases hl : a.length = b.length
 ·have hl2 : (a.length : Int) = (b.length : Int) := by omega
  simp only [hl2, decide_true, Bool.not_true, cond_false]
  refine eq_loop hl (fun k hk => ?_) ?_
  ·have hk2 : k < b.length := by omega
   unfold p_laws_eqPostS_b0
   simp only [dlt hk, cond_true, gd.yes (ixN hk), gd.yes (ixN hk2), Int.toNat_natCast, q_Post (nth a k) (nth b k) (ha.2 k hk) (hb.2 k hk2), bd_some, gd.yes (i64S hk hm)]
   by_cases h : nth a k = nth b k <;> simp [h]
  ·unfold p_laws_eqPostS_b0; simp
 ·have h2 : ¬ (a.length : Int) = (b.length : Int) := by omega
  have h3 : a ≠ b := fun e => hl (by rw [e])
  simp [h2, h3]
theorem q_Index (a b : Index) (ha : Dp.ok a) (hb : Dp.ok b) : p_laws_eqIndex a b = some (decide (a = b)) := by
 have he : a = b ↔ a.1 = b.1 ∧ a.2 = b.2 := by
  constructor
  ·rintro rfl; simp
  ·rintro ⟨h0, h1⟩; exact Prod.ext h0 (h1)
 unfold p_laws_eqIndex
 simp only [q_TagSS a.1 b.1 ha.1 hb.1, q_PostS a.2 b.2 ha.2 hb.2, bd_some, he]
 by_cases h0 : a.1 = b.1
 ·by_cases h1 : a.2 = b.2
  ·simp [h0, h1]
  ·simp [h0, h1]
 ·simp [h0]
theorem q_RowSS (a b : (List (List Row))) (ha : Dp.ok a) (hb : Dp.ok b) : p_laws_eqRowSS a b = some (decide (a = b)) := by
 have hm : a.length ≤ 9223372036854775807 := ha.1
 unfold p_laws_eqRowSS
 by_cases hl : a.length = b.length
 ·have hl2 : (a.length : Int) = (b.length : Int) := by omega
  simp only [hl2, decide_true, Bool.not_true, cond_false]
  refine eq_loop hl (fun k hk => ?_) ?_
  ·have hk2 : k < b.length := by omega
   unfold p_laws_eqRowSS_b0
   simp only [dlt hk, cond_true, gd.yes (ixN hk), gd.yes (ixN hk2), Int.toNat_natCast, q_RowS (nth a k) (nth b k) (ha.2 k hk) (hb.2 k hk2), bd_some, gd.yes (i64S hk hm)]
   by_cases h : nth a k = nth b k <;> simp [h]
  ·unfold p_laws_eqRowSS_b0; simp
 ·have h2 : ¬ (a.length : Int) = (b.length : Int) := by omega
  have h3 : a ≠ b := fun e => hl (by rw [e])
  simp [h2, h3]
theorem q_Part (a b : Part) (ha : Dp.ok a) (hb : Dp.ok b) : p_laws_eqPart a b = some (decide (a = b)) := by
 have he : a = b ↔ a.1 = b.1 ∧ a.2 = b.2 := by
  constructor
  ·rintro rfl; simp
  ·rintro ⟨h0, h1⟩; exact Prod.ext h0 (h1)
 unfold p_laws_eqPart
 simp only [q_IntS a.1 b.1 ha.1 hb.1, q_RowSS a.2 b.2 ha.2 hb.2, bd_some, he]
 by_cases h0 : a.1 = b.1
 ·by_cases h1 : a.2 = b.2
  ·simp [h0, h1]
  ·simp [h0, h1]
 ·simp [h0]
theorem q_PartS (a b : (List Part)) (ha : Dp.ok a) (hb : Dp.ok b) : p_laws_eqPartS a b = some (decide (a = b)) := by
 have hm : a.length ≤ 9223372036854775807 := ha.1
 unfold p_laws_eqPartS
 by_cases hl : a.length = b.length
 ·have hl2 : (a.length : Int) = (b.length : Int) := by omega
  simp only [hl2, decide_true, Bool.not_true, cond_false]
  refine eq_loop hl (fun k hk => ?_) ?_
  ·have hk2 : k < b.length := by omega
   unfold p_laws_eqPartS_b0
   simp only [dlt hk, cond_true, gd.yes (ixN hk), gd.yes (ixN hk2), Int.toNat_natCast, q_Part (nth a k) (nth b k) (ha.2 k hk) (hb.2 k hk2), bd_some, gd.yes (i64S hk hm)]
   by_cases h : nth a k = nth b k <;> simp [h]
  ·unfold p_laws_eqPartS_b0; simp
 ·have h2 : ¬ (a.length : Int) = (b.length : Int) := by omega
  have h3 : a ≠ b := fun e => hl (by rw [e])
  simp [h2, h3]
theorem q_Sample (a b : Sample) (ha : Dp.ok a) (hb : Dp.ok b) : p_laws_eqSample a b = some (decide (a = b)) := by
 have he : a = b ↔ a.1 = b.1 ∧ a.2 = b.2 := by
  constructor
  ·rintro rfl; simp
  ·rintro ⟨h0, h1⟩; exact Prod.ext h0 (h1)
 unfold p_laws_eqSample
 simp only [q_Row a.2 b.2 ha.2 hb.2, bd_some, he]
 by_cases h0 : a.1 = b.1
 ·by_cases h1 : a.2 = b.2
  ·simp [h0, h1]
  ·simp [h0, h1]
 ·simp [h0]
theorem q_SampleS (a b : (List Sample)) (ha : Dp.ok a) (hb : Dp.ok b) : p_laws_eqSampleS a b = some (decide (a = b)) := by
 have hm : a.length ≤ 9223372036854775807 := ha.1
 unfold p_laws_eqSampleS
 by_cases hl : a.length = b.length
 ·have hl2 : (a.length : Int) = (b.length : Int) := by omega
  simp only [hl2, decide_true, Bool.not_true, cond_false]
  refine eq_loop hl (fun k hk => ?_) ?_
  ·have hk2 : k < b.length := by omega
   unfold p_laws_eqSampleS_b0
   simp only [dlt hk, cond_true, gd.yes (ixN hk), gd.yes (ixN hk2), Int.toNat_natCast, q_Sample (nth a k) (nth b k) (ha.2 k hk) (hb.2 k hk2), bd_some, gd.yes (i64S hk hm)]
   by_cases h : nth a k = nth b k <;> simp [h]
  ·unfold p_laws_eqSampleS_b0; simp
 ·have h2 : ¬ (a.length : Int) = (b.length : Int) := by omega
  have h3 : a ≠ b := fun e => hl (by rw [e])
  simp [h2, h3]
theorem q_Store (a b : Store) (ha : Dp.ok a) (hb : Dp.ok b) : p_laws_eqStore a b = some (decide (a = b)) := by
 have he : a = b ↔ a.1 = b.1 ∧ a.2.1 = b.2.1 ∧ a.2.2 = b.2.2 := by
  constructor
  ·rintro rfl; simp
  ·rintro ⟨h0, h1, h2⟩; exact Prod.ext h0 (Prod.ext h1 (h2))
 unfold p_laws_eqStore
 simp only [q_Index a.1 b.1 ha.1 hb.1, q_PartS a.2.1 b.2.1 ha.2.1 hb.2.1, q_SampleS a.2.2 b.2.2 ha.2.2 hb.2.2, bd_some, he]
 by_cases h0 : a.1 = b.1
 ·by_cases h1 : a.2.1 = b.2.1
  ·by_cases h2 : a.2.2 = b.2.2
   ·simp [h0, h1, h2]
   ·simp [h0, h1, h2]
  ·simp [h0, h1]
 ·simp [h0]
theorem q_Cond (a b : Cond) (ha : Dp.ok a) (hb : Dp.ok b) : p_laws_eqCond a b = some (decide (a = b)) := by
 have he : a = b ↔ a.1 = b.1 ∧ a.2 = b.2 := by
  constructor
  ·rintro rfl; simp
  ·rintro ⟨h0, h1⟩; exact Prod.ext h0 (h1)
 unfold p_laws_eqCond
 simp only [q_Tag a.1 b.1 ha.1 hb.1, bd_some, he]
 by_cases h0 : a.1 = b.1
 ·by_cases h1 : a.2 = b.2
  ·simp [h0, h1]
  ·simp [h0, h1]
 ·simp [h0]
theorem q_CondS (a b : (List Cond)) (ha : Dp.ok a) (hb : Dp.ok b) : p_laws_eqCondS a b = some (decide (a = b)) := by
 have hm : a.length ≤ 9223372036854775807 := ha.1
 unfold p_laws_eqCondS
 by_cases hl : a.length = b.length
 ·have hl2 : (a.length : Int) = (b.length : Int) := by omega
  simp only [hl2, decide_true, Bool.not_true, cond_false]
  refine eq_loop hl (fun k hk => ?_) ?_
  ·have hk2 : k < b.length := by omega
   unfold p_laws_eqCondS_b0
   simp only [dlt hk, cond_true, gd.yes (ixN hk), gd.yes (ixN hk2), Int.toNat_natCast, q_Cond (nth a k) (nth b k) (ha.2 k hk) (hb.2 k hk2), bd_some, gd.yes (i64S hk hm)]
   by_cases h : nth a k = nth b k <;> simp [h]
  ·unfold p_laws_eqCondS_b0; simp
 ·have h2 : ¬ (a.length : Int) = (b.length : Int) := by omega
  have h3 : a ≠ b := fun e => hl (by rw [e])
  simp [h2, h3]
theorem m_TagS (a : (List Tag)) (k : Int) (h0 : 0 ≤ k) (hB : k + (Ct.ct a : Nat) ≤ 1152921504606846976) (ok : Dp.ok a) : MkR0 p_laws_markTagS a k := by
 have hm : a.length ≤ 9223372036854775807 := ok.1
 obtain ⟨k1, r, e1, e2, e3, e4⟩ := mark_loop0 (l := a) (B := 1152921504606846976) (bm := p_laws_markTagS_b0 a) (fun i hi r hr hn k h0 hB => by
  have hi2 : i < r.length := by omega
  have hc : Ct.ct (nth a i) = 1 + (1) := rfl
  obtain ⟨t0, ht0⟩ := mt_total (k) (by omega) (by omega)
  have g1 : I64 (k + 1) := i64B (by omega) (by omega)
  obtain ⟨t1, ht1⟩ := mt_total (k + 1) (by omega) (by omega)
  have g2 : I64 ((k + 1) + 1) := i64B (by omega) (by omega)
  refine ⟨(t0, t1), (k + 1) + 1, ?_, by omega, by omega⟩
  ·unfold p_laws_markTagS_b0
   simp only [dlt hi, cond_true, Int.toNat_natCast, gd.yes (ixN hi2), ht0, gd.yes g1, ht1, gd.yes g2, bd_some, gd.yes (i64S hi hm)]
   first | done | rfl)
  (fun r k hr => by unfold p_laws_markTagS_b0; simp) h0 hB
 refine ⟨k1, r, ?_, e3, e4⟩
 ·unfold p_laws_markTagS; rw [e1]; rfl
theorem m_TagSS (a : (List (List Tag))) (k : Int) (h0 : 0 ≤ k) (hB : k + (Ct.ct a : Nat) ≤ 1152921504606846976) (ok : Dp.ok a) : MkR0 p_laws_markTagSS a k := by
 have hm : a.length ≤ 9223372036854775807 := ok.1
 obtain ⟨k1, r, e1, e2, e3, e4⟩ := mark_loop0 (l := a) (B := 1152921504606846976) (bm := p_laws_markTagSS_b0 a) (fun i hi r hr hn k h0 hB => by
  have hi2 : i < r.length := by omega
  have hc : Ct.ct (nth a i) = Ct.ct (nth a i) := rfl
  obtain ⟨c1, s1, x1, y1, z1⟩ := m_TagS (nth a i) (k) (by omega) (by omega) (ok.2 i hi)
  refine ⟨s1, c1, ?_, by omega, by omega⟩
  ·unfold p_laws_markTagSS_b0
   simp only [dlt hi, cond_true, Int.toNat_natCast, gd.yes (ixN hi2), hn, x1, bd_some, gd.yes (i64S hi hm)]
   first | done | rfl)
  (fun r k hr => by unfold p_laws_markTagSS_b0; simp) h0 hB
 refine ⟨k1, r, ?_, e3, e4⟩
 ·unfold p_laws_markTagSS; rw [e1]; rfl
theorem m_IntS (a : (List Int)) (k : Int) (h0 : 0 ≤ k) (hB : k + (Ct.ct a : Nat) ≤ 1152921504606846976) (ok : Dp.ok a) : MkR0 p_laws_markIntS a k := by
 have hm : a.length ≤ 9223372036854775807 := ok.1
 obtain ⟨k1, r, e1, e2, e3, e4⟩ := mark_loop0 (l := a) (B := 1152921504606846976) (bm := p_laws_markIntS_b0 a) (fun i hi r hr hn k h0 hB => by
  have hi2 : i < r.length := by omega
  have hc : Ct.ct (nth a i) = 1 := rfl
  have g1 : I64 (k + 1) := i64B (by omega) (by omega)
  refine ⟨k, k + 1, ?_, by omega, by omega⟩
  ·unfold p_laws_markIntS_b0
   simp only [dlt hi, cond_true, Int.toNat_natCast, gd.yes (ixN hi2), gd.yes g1, gd.yes (i64S hi hm)]
   first | done | rfl)
  (fun r k hr => by unfold p_laws_markIntS_b0; simp) h0 hB
 refine ⟨k1, r, ?_, e3, e4⟩
 ·unfold p_laws_markIntS; rw [e1]; rfl
theorem m_PostS (a : (List Post)) (k : Int) (h0 : 0 ≤ k) (hB : k + (Ct.ct a : Nat) ≤ 1152921504606846976) (ok : Dp.ok a) : MkR0 p_laws_markPostS a k := by
 have hm : a.length ≤ 9223372036854775807 := ok.1
 obtain ⟨k1, r, e1, e2, e3, e4⟩ := mark_loop0 (l := a) (B := 1152921504606846976) (bm := p_laws_markPostS_b0 a) (fun i hi r hr hn k h0 hB => by
  have hi2 : i < r.length := by omega
  have hc : Ct.ct (nth a i) = (1 + (1)) + (Ct.ct ((nth a i).2)) := rfl
  obtain ⟨t0, ht0⟩ := mt_total (k) (by omega) (by omega)
  have g1 : I64 (k + 1) := i64B (by omega) (by omega)
  obtain ⟨t1, ht1⟩ := mt_total (k + 1) (by omega) (by omega)
  have g2 : I64 ((k + 1) + 1) := i64B (by omega) (by omega)
  obtain ⟨c1, s1, x1, y1, z1⟩ := m_IntS ((nth a i).2) ((k + 1) + 1) (by omega) (by omega) (ok.2 i hi).2
  refine ⟨((t0, t1), s1), c1, ?_, by omega, by omega⟩
  ·unfold p_laws_markPostS_b0
   simp only [dlt hi, cond_true, Int.toNat_natCast, gd.yes (ixN hi2), hn, ht0, gd.yes g1, ht1, gd.yes g2, x1, bd_some, gd.yes (i64S hi hm)]
   first | done | rfl)
  (fun r k hr => by unfold p_laws_markPostS_b0; simp) h0 hB
 refine ⟨k1, r, ?_, e3, e4⟩
 ·unfold p_laws_markPostS; rw [e1]; rfl
theorem m_Index (a : Index) (k : Int) (h0 : 0 ≤ k) (hB : k + (Ct.ct a : Nat) ≤ 1152921504606846976) (ok : Dp.ok a) : MkR0 p_laws_markIndex a k := by
 have hc : Ct.ct a = Ct.ct a.1 + (Ct.ct a.2) := rfl
 obtain ⟨k1, r1, e1, l1, u1⟩ := m_TagSS a.1 k (by omega) (by omega) ok.1
 obtain ⟨k2, r2, e2, l2, u2⟩ := m_PostS a.2 k1 (by omega) (by omega) ok.2
 refine ⟨k2, (r1, r2), ?_, by omega, by omega⟩
 ·unfold p_laws_markIndex; simp only [e1, e2, bd_some]
theorem m_RowS (a : (List Row)) (k : Int) (h0 : 0 ≤ k) (hB : k + (Ct.ct a : Nat) ≤ 1152921504606846976) (ok : Dp.ok a) : MkR p_laws_markRowS p_laws_heldRowS a k := by
 have hm : a.length ≤ 9223372036854775807 := ok.1
 obtain ⟨k1, r, e1, e2, e3, e4, e5⟩ := mark_loop (l := a) (B := 1152921504606846976) (bm := p_laws_markRowS_b0 a) (bh := fun r => p_laws_heldRowS_b0 r) (fun i hi r hr hn k h0 hB => by
  have hi2 : i < r.length := by omega
  have hc : Ct.ct (nth a i) = 1 + (1) := rfl
  have g1 : I64 (k + 1) := i64B (by omega) (by omega)
  have g2 : I64 ((k + 1) + 1) := i64B (by omega) (by omega)
  refine ⟨(k, k + 1), (k + 1) + 1, ?_, by omega, by omega, fun r' hr' hu => ?_⟩
  ·unfold p_laws_markRowS_b0
   simp only [dlt hi, cond_true, Int.toNat_natCast, gd.yes (ixN hi2), gd.yes g1, gd.yes g2, gd.yes (i64S hi hm)]
   first | done | rfl
  ·have hi3 : i < r'.length := by omega
   unfold p_laws_heldRowS_b0
   simp [hi3, gd.yes (ixN hi3), hu, gd.yes g1, gd.yes g2, gd.yes (i64S hi hm)])
  (fun r k hr => by unfold p_laws_markRowS_b0; simp) (fun r k hr => by unfold p_laws_heldRowS_b0; simp [hr]) h0 hB
 refine ⟨k1, r, ?_, e3, e4, ?_⟩
 ·unfold p_laws_markRowS; rw [e1]; rfl
 ·unfold p_laws_heldRowS; rw [e5]; rfl
theorem m_RowSS (a : (List (List Row))) (k : Int) (h0 : 0 ≤ k) (hB : k + (Ct.ct a : Nat) ≤ 1152921504606846976) (ok : Dp.ok a) : MkR0 p_laws_markRowSS a k := by
 have hm : a.length ≤ 9223372036854775807 := ok.1
 obtain ⟨k1, r, e1, e2, e3, e4⟩ := mark_loop0 (l := a) (B := 1152921504606846976) (bm := p_laws_markRowSS_b0 a) (fun i hi r hr hn k h0 hB => by
  have hi2 : i < r.length := by omega
  have hc : Ct.ct (nth a i) = Ct.ct (nth a i) := rfl
  obtain ⟨c1, s1, x1, y1, z1, w1⟩ := m_RowS (nth a i) (k) (by omega) (by omega) (ok.2 i hi)
  refine ⟨s1, c1, ?_, by omega, by omega⟩
  ·unfold p_laws_markRowSS_b0
   simp only [dlt hi, cond_true, Int.toNat_natCast, gd.yes (ixN hi2), hn, x1, bd_some, gd.yes (i64S hi hm)]
   first | done | rfl)
  (fun r k hr => by unfold p_laws_markRowSS_b0; simp) h0 hB
 refine ⟨k1, r, ?_, e3, e4⟩
 ·unfold p_laws_markRowSS; rw [e1]; rfl
theorem m_PartS (a : (List Part)) (k : Int) (h0 : 0 ≤ k) (hB : k + (Ct.ct a : Nat) ≤ 1152921504606846976) (ok : Dp.ok a) : MkR0 p_laws_markPartS a k := by
 have hm : a.length ≤ 9223372036854775807 := ok.1
 obtain ⟨k1, r, e1, e2, e3, e4⟩ := mark_loop0 (l := a) (B := 1152921504606846976) (bm := p_laws_markPartS_b0 a) (fun i hi r hr hn k h0 hB => by
  have hi2 : i < r.length := by omega
  have hc : Ct.ct (nth a i) = (Ct.ct ((nth a i).1)) + (Ct.ct ((nth a i).2)) := rfl
  obtain ⟨c1, s1, x1, y1, z1⟩ := m_IntS ((nth a i).1) (k) (by omega) (by omega) (ok.2 i hi).1
  obtain ⟨c2, s2, x2, y2, z2⟩ := m_RowSS ((nth a i).2) (c1) (by omega) (by omega) (ok.2 i hi).2
  refine ⟨(s1, s2), c2, ?_, by omega, by omega⟩
  ·unfold p_laws_markPartS_b0
   simp only [dlt hi, cond_true, Int.toNat_natCast, gd.yes (ixN hi2), hn, x1, x2, bd_some, gd.yes (i64S hi hm)]
   first | done | rfl)
  (fun r k hr => by unfold p_laws_markPartS_b0; simp) h0 hB
 refine ⟨k1, r, ?_, e3, e4⟩
 ·unfold p_laws_markPartS; rw [e1]; rfl
theorem m_SampleS (a : (List Sample)) (k : Int) (h0 : 0 ≤ k) (hB : k + (Ct.ct a : Nat) ≤ 1152921504606846976) (ok : Dp.ok a) : MkR0 p_laws_markSampleS a k := by
 have hm : a.length ≤ 9223372036854775807 := ok.1
 obtain ⟨k1, r, e1, e2, e3, e4⟩ := mark_loop0 (l := a) (B := 1152921504606846976) (bm := p_laws_markSampleS_b0 a) (fun i hi r hr hn k h0 hB => by
  have hi2 : i < r.length := by omega
  have hc : Ct.ct (nth a i) = 1 + (1 + (1)) := rfl
  have g1 : I64 (k + 1) := i64B (by omega) (by omega)
  have g2 : I64 ((k + 1) + 1) := i64B (by omega) (by omega)
  have g3 : I64 (((k + 1) + 1) + 1) := i64B (by omega) (by omega)
  refine ⟨(k, (k + 1, (k + 1) + 1)), ((k + 1) + 1) + 1, ?_, by omega, by omega⟩
  ·unfold p_laws_markSampleS_b0
   simp only [dlt hi, cond_true, Int.toNat_natCast, gd.yes (ixN hi2), gd.yes g1, gd.yes g2, gd.yes g3, gd.yes (i64S hi hm)]
   first | done | rfl)
  (fun r k hr => by unfold p_laws_markSampleS_b0; simp) h0 hB
 refine ⟨k1, r, ?_, e3, e4⟩
 ·unfold p_laws_markSampleS; rw [e1]; rfl
theorem m_Store (a : Store) (k : Int) (h0 : 0 ≤ k) (hB : k + (Ct.ct a : Nat) ≤ 1152921504606846976) (ok : Dp.ok a) : MkR0 p_laws_markStore a k := by
 have hc : Ct.ct a = Ct.ct a.1 + (Ct.ct a.2.1 + (Ct.ct a.2.2)) := rfl
 obtain ⟨k1, r1, e1, l1, u1⟩ := m_Index a.1 k (by omega) (by omega) ok.1
 obtain ⟨k2, r2, e2, l2, u2⟩ := m_PartS a.2.1 k1 (by omega) (by omega) ok.2.1
 obtain ⟨k3, r3, e3, l3, u3⟩ := m_SampleS a.2.2 k2 (by omega) (by omega) ok.2.2
 refine ⟨k3, (r1, r2, r3), ?_, by omega, by omega⟩
 ·unfold p_laws_markStore; simp only [e1, e2, e3, bd_some]
theorem m_CondS (a : (List Cond)) (k : Int) (h0 : 0 ≤ k) (hB : k + (Ct.ct a : Nat) ≤ 1152921504606846976) (ok : Dp.ok a) : MkR0 p_laws_markCondS a k := by
 have hm : a.length ≤ 9223372036854775807 := ok.1
 obtain ⟨k1, r, e1, e2, e3, e4⟩ := mark_loop0 (l := a) (B := 1152921504606846976) (bm := p_laws_markCondS_b0 a) (fun i hi r hr hn k h0 hB => by
  have hi2 : i < r.length := by omega
  have hc : Ct.ct (nth a i) = (1 + (1)) + (1) := rfl
  obtain ⟨t0, ht0⟩ := mt_total (k) (by omega) (by omega)
  have g1 : I64 (k + 1) := i64B (by omega) (by omega)
  obtain ⟨t1, ht1⟩ := mt_total (k + 1) (by omega) (by omega)
  have g2 : I64 ((k + 1) + 1) := i64B (by omega) (by omega)
  have b3 : I64 (((k + 1) + 1).tmod 3) := mod3 _
  have g3 : I64 (((k + 1) + 1) + 1) := i64B (by omega) (by omega)
  refine ⟨((t0, t1), decide (((k + 1) + 1).tmod 3 = 0)), ((k + 1) + 1) + 1, ?_, by omega, by omega⟩
  ·unfold p_laws_markCondS_b0
   simp only [dlt hi, cond_true, Int.toNat_natCast, gd.yes (ixN hi2), ht0, gd.yes g1, ht1, gd.yes g2, gd.yes b3, gd.yes g3, bd_some, gd.yes (i64S hi hm)]
   first | done | rfl)
  (fun r k hr => by unfold p_laws_markCondS_b0; simp) h0 hB
 refine ⟨k1, r, ?_, e3, e4⟩
 ·unfold p_laws_markCondS; rw [e1]; rfl
theorem m_HitS (a : (List Hit)) (k : Int) (h0 : 0 ≤ k) (hB : k + (Ct.ct a : Nat) ≤ 1152921504606846976) (ok : Dp.ok a) : MkR p_laws_markHitS p_laws_heldHitS a k := by
 have hm : a.length ≤ 9223372036854775807 := ok.1
 obtain ⟨k1, r, e1, e2, e3, e4, e5⟩ := mark_loop (l := a) (B := 1152921504606846976) (bm := p_laws_markHitS_b0 a) (bh := fun r => p_laws_heldHitS_b0 r) (fun i hi r hr hn k h0 hB => by
  have hi2 : i < r.length := by omega
  have hc : Ct.ct (nth a i) = 1 + (Ct.ct ((nth a i).2)) := rfl
  obtain ⟨t0, ht0⟩ := mt_total (k) (by omega) (by omega)
  have g1 : I64 (k + 1) := i64B (by omega) (by omega)
  obtain ⟨c1, s1, x1, y1, z1, w1⟩ := m_RowS ((nth a i).2) (k + 1) (by omega) (by omega) (ok.2 i hi).2
  have q1 : ¬ c1 < 0 := by omega
  refine ⟨(t0, s1), c1, ?_, by omega, by omega, fun r' hr' hu => ?_⟩
  ·unfold p_laws_markHitS_b0
   simp only [dlt hi, cond_true, Int.toNat_natCast, gd.yes (ixN hi2), hn, ht0, gd.yes g1, x1, bd_some, gd.yes (i64S hi hm)]
   first | done | rfl
  ·have hi3 : i < r'.length := by omega
   unfold p_laws_heldHitS_b0
   simp [hi3, gd.yes (ixN hi3), hu, ht0, gd.yes g1, w1, q1, gd.yes (i64S hi hm)])
  (fun r k hr => by unfold p_laws_markHitS_b0; simp) (fun r k hr => by unfold p_laws_heldHitS_b0; simp [hr]) h0 hB
 refine ⟨k1, r, ?_, e3, e4, ?_⟩
 ·unfold p_laws_markHitS; rw [e1]; rfl
 ·unfold p_laws_heldHitS; rw [e5]; rfl
def inn (lo n hi : Int) : Bool := decide (lo ≤ n) && decide (n ≤ hi)
theorem e_impl_within (n lo hi : Int) : p_impl_within n lo hi = some (inn lo n hi) := by
 unfold p_impl_within inn; cases decide (lo ≤ n) <;> rfl
theorem e_spec_l6In (n lo hi : Int) : p_spec_l6In n lo hi = some (inn lo n hi) := by
 unfold p_spec_l6In inn; cases decide (lo ≤ n) <;> rfl
def rowOk (r : Row) : Bool := inn 0 r.1 99 && inn (-99) r.2 99
theorem e_impl_rowOk (r : Row) : p_impl_rowOk r = some (rowOk r) := by
 unfold p_impl_rowOk rowOk; simp only [e_impl_within, bd_some]; cases inn 0 r.1 99 <;> rfl
theorem e_spec_l2Row (r : Row) : p_spec_l2Row r = some (rowOk r) := by
 unfold p_spec_l2Row rowOk; simp only [e_spec_l6In, bd_some]; cases inn 0 r.1 99 <;> rfl
def rowBad (b : List Row) (k : Nat) : Bool := !rowOk (nth b k) || (decide (0 < k) && decide ((nth b k).1 ≤ (nth b (k - 1)).1))
def blockOk (b : List Row) : Bool := allN b.length (rowBad b) && decide ((b.length : Int) ≤ 24)
theorem e_impl_BlockOk (b : List Row) (hb : b.length ≤ maxLen) : p_impl_BlockOk b = some (blockOk b) := by
 have hb' : b.length ≤ 9223372036854775807 := hb
 have hr : ∀ k, k < b.length → p_impl_BlockOk_b0 b (k : Int) = some (if rowBad b k then .inr (.inr false) else .inl ((k + 1 : Nat) : Int)) := fun k hk => by
  unfold p_impl_BlockOk_b0 rowBad
  simp only [dlt hk, cond_true, gd.yes (ixN hk), e_impl_rowOk, bd_some, Int.toNat_natCast, gd.yes (i64S hk hb')]
  cases h1 : rowOk (nth b k) with
  | false => simp
  | true =>
   simp only [Bool.not_true, cond_false, Bool.false_or]
   by_cases h0 : 0 < k
   ·have h0' : (0 : Int) < k := by omega
    have e1 : (k : Int) - 1 = ((k - 1 : Nat) : Int) := by omega
    have hi : I64 ((k - 1 : Nat) : Int) := by unfold I64; omega
    simp only [h0, h0', decide_true, cond_true, e1, gd.yes hi, gd.yes (ixN (show k - 1 < b.length by omega)), Int.toNat_natCast, bd_some, Bool.true_and]
    cases decide ((nth b k).1 ≤ (nth b (k - 1)).1) <;> simp
   ·have h0' : ¬ (0 : Int) < k := by omega
    simp [h0]
 unfold p_impl_BlockOk blockOk
 rcases lp_scan (body := p_impl_BlockOk_b0 b) (fun k => (k : Int)) b.length (rowBad b) (.inl ()) (fun _ => .inr false) (fun k hk _ h => by simp [hr k hk, h]) (fun k hk _ h => by simp [hr k hk, h]) (fun _ => by unfold p_impl_BlockOk_b0; simp) with ⟨h1, h2⟩ | ⟨h1, k, _, _, _, h2⟩
 ·rw [show (lp (p_impl_BlockOk_b0 b) 0) = _ from h2, h1]; simp [sw]
 ·rw [show (lp (p_impl_BlockOk_b0 b) 0) = _ from h2, h1]; simp [sw]
theorem e_spec_BlockOk (b : List Row) (hb : b.length ≤ maxLen) : p_spec_BlockOk b = some (blockOk b) := by
 have hb' : b.length ≤ 9223372036854775807 := hb
 have hr : ∀ k, k < b.length → p_spec_BlockOk_b0 b (k : Int) = some (if rowBad b k then .inr (.inr false) else .inl ((k + 1 : Nat) : Int)) := fun k hk => by
  unfold p_spec_BlockOk_b0 rowBad
  simp only [dlt hk, cond_true, gd.yes (ixN hk), e_spec_l2Row, bd_some, Int.toNat_natCast, gd.yes (i64S hk hb')]
  cases h1 : rowOk (nth b k) with
  | false => simp
  | true =>
   simp only [Bool.not_true, cond_false, Bool.false_or]
   by_cases h0 : 0 < k
   ·have h0' : (0 : Int) < k := by omega
    have e1 : (k : Int) - 1 = ((k - 1 : Nat) : Int) := by omega
    have hi : I64 ((k - 1 : Nat) : Int) := by unfold I64; omega
    simp only [h0, h0', decide_true, cond_true, e1, gd.yes hi, gd.yes (ixN (show k - 1 < b.length by omega)), Int.toNat_natCast, bd_some, Bool.true_and]
    cases decide ((nth b k).1 ≤ (nth b (k - 1)).1) <;> simp
   ·simp [h0]
 unfold p_spec_BlockOk blockOk
 rcases lp_scan (body := p_spec_BlockOk_b0 b) (fun k => (k : Int)) b.length (rowBad b) (.inl ()) (fun _ => .inr false) (fun k hk _ h => by simp [hr k hk, h]) (fun k hk _ h => by simp [hr k hk, h]) (fun _ => by unfold p_spec_BlockOk_b0; simp) with ⟨h1, h2⟩ | ⟨h1, k, _, _, _, h2⟩
 ·rw [show (lp (p_spec_BlockOk_b0 b) 0) = _ from h2, h1]; simp [sw]
 ·rw [show (lp (p_spec_BlockOk_b0 b) 0) = _ from h2, h1]; simp [sw]
def partBad (p : Part) (k : Nat) : Bool := ((!inn 1 (nth p.1 k) 6 || (decide (0 < k) && decide (nth p.1 k ≤ nth p.1 (k - 1)))) || !blockOk (nth p.2 k)) || decide ((nth p.2 k).length = 0)
def partOk (p : Part) : Bool := decide (p.1.length = p.2.length) && allN p.1.length (partBad p)
theorem e_impl_PartOk (p : Part) (hp : Dp.ok p) : p_impl_PartOk p = some (partOk p) := by
 obtain ⟨⟨hp1, _⟩, _, hp2⟩ := hp
 have hp1 : p.1.length ≤ 9223372036854775807 := hp1
 unfold p_impl_PartOk partOk
 by_cases hl : p.1.length = p.2.length
 ·have hr : ∀ k, k < p.1.length → p_impl_PartOk_b0 p (k : Int) = some (if partBad p k then .inr (.inr false) else .inl ((k + 1 : Nat) : Int)) := fun k hk => by
   have hk2 : k < p.2.length := by omega
   unfold p_impl_PartOk_b0 partBad
   simp only [dlt hk, cond_true, gd.yes (ixN hk), gd.yes (ixN hk2), e_impl_within, e_impl_BlockOk _ (hp2 k hk2).1, bd_some, Int.toNat_natCast, gd.yes (i64S hk hp1)]
   cases h1 : inn 1 (nth p.1 k) 6 with
   | false => simp
   | true =>
    by_cases h0 : 0 < k
    ·have h0' : (0 : Int) < k := by omega
     have e1 : (k : Int) - 1 = ((k - 1 : Nat) : Int) := by omega
     have hi : I64 ((k - 1 : Nat) : Int) := by unfold I64; omega
     simp only [h0, h0', decide_true, cond_true, e1, gd.yes hi, gd.yes (ixN (show k - 1 < p.1.length by omega)), Int.toNat_natCast, Bool.true_and, Bool.not_true, cond_false, Bool.false_or]
     cases decide (nth p.1 k ≤ nth p.1 (k - 1)) <;> cases blockOk (nth p.2 k) <;> cases h9 : decide ((nth p.2 k).length = 0) <;> simp_all
    ·simp only [h0, Bool.not_true, cond_false, Bool.false_or, decide_false, Bool.false_and]
     cases blockOk (nth p.2 k) <;> cases h9 : decide ((nth p.2 k).length = 0) <;> simp_all
  rcases lp_scan (body := p_impl_PartOk_b0 p) (fun k => (k : Int)) p.1.length (partBad p) (.inl ()) (fun _ => .inr false) (fun k hk _ h => by simp [hr k hk, h]) (fun k hk _ h => by simp [hr k hk, h]) (fun _ => by unfold p_impl_PartOk_b0; simp) with ⟨h1, h2⟩ | ⟨h1, k, _, _, _, h2⟩
  ·rw [show (lp (p_impl_PartOk_b0 p) 0) = _ from h2, h1]; simp [sw, hl]
  ·rw [show (lp (p_impl_PartOk_b0 p) 0) = _ from h2, h1]; simp [sw, hl]
 ·have : ¬ (p.1.length : Int) = (p.2.length : Int) := by omega
  simp [this, hl]
theorem e_spec_PartOk (p : Part) (hp : Dp.ok p) : p_spec_PartOk p = some (partOk p) := by
 obtain ⟨⟨hp1, _⟩, _, hp2⟩ := hp
 have hp1 : p.1.length ≤ 9223372036854775807 := hp1
 unfold p_spec_PartOk partOk
 by_cases hl : p.1.length = p.2.length
 ·have hr : ∀ k, k < p.1.length → p_spec_PartOk_b0 p (k : Int) = some (if partBad p k then .inr (.inr false) else .inl ((k + 1 : Nat) : Int)) := fun k hk => by
   have hk2 : k < p.2.length := by omega
   unfold p_spec_PartOk_b0 partBad
   simp only [dlt hk, cond_true, gd.yes (ixN hk), gd.yes (ixN hk2), e_spec_l6In, e_spec_BlockOk _ (hp2 k hk2).1, bd_some, Int.toNat_natCast, gd.yes (i64S hk hp1)]
   cases h1 : inn 1 (nth p.1 k) 6 with
   | false => simp
   | true =>
    by_cases h0 : 0 < k
    ·have h0' : (0 : Int) < k := by omega
     have e1 : (k : Int) - 1 = ((k - 1 : Nat) : Int) := by omega
     have hi : I64 ((k - 1 : Nat) : Int) := by unfold I64; omega
     simp only [h0, h0', decide_true, cond_true, e1, gd.yes hi, gd.yes (ixN (show k - 1 < p.1.length by omega)), Int.toNat_natCast, Bool.true_and, Bool.not_true, cond_false, Bool.false_or]
     cases decide (nth p.1 k ≤ nth p.1 (k - 1)) <;> cases blockOk (nth p.2 k) <;> cases h9 : decide ((nth p.2 k).length = 0) <;> simp_all
    ·simp only [h0, Bool.not_true, cond_false, Bool.false_or, decide_false, Bool.false_and]
     cases blockOk (nth p.2 k) <;> cases h9 : decide ((nth p.2 k).length = 0) <;> simp_all
  rcases lp_scan (body := p_spec_PartOk_b0 p) (fun k => (k : Int)) p.1.length (partBad p) (.inl ()) (fun _ => .inr false) (fun k hk _ h => by simp [hr k hk, h]) (fun k hk _ h => by simp [hr k hk, h]) (fun _ => by unfold p_spec_PartOk_b0; simp) with ⟨h1, h2⟩ | ⟨h1, k, _, _, _, h2⟩
  ·rw [show (lp (p_spec_PartOk_b0 p) 0) = _ from h2, h1]; simp [sw, hl]
  ·rw [show (lp (p_spec_PartOk_b0 p) 0) = _ from h2, h1]; simp [sw, hl]
 ·have : ¬ (p.1.length : Int) = (p.2.length : Int) := by omega
  simp [this, hl]
def place (l : List Int) (id : Int) : Int := match (List.range l.length).find? (fun i => decide (nth l i = id)) with | some i => i | none => -1
theorem place_no {l : List Int} {id : Int} (h : allN l.length (fun i => decide (nth l i = id)) = true) : place l id = -1 := by
 unfold place
 rw [List.find?_eq_none.2]
 intro i hi
 have := allN_iff.1 h i (by simpa using hi)
 simpa using this
theorem place_yes {l : List Int} {id : Int} {k : Nat} (hk : k < l.length) (h : decide (nth l k = id) = true) (h2 : ∀ i, i < k → decide (nth l i = id) = false) : place l id = k := by
 unfold place
 have : (List.range l.length).find? (fun i => decide (nth l i = id)) = some k := by
  rw [List.find?_range_eq_some]
  exact ⟨h, by simpa using hk, fun i hi => by simpa using h2 i hi⟩
 rw [this]
theorem e_Index (l : List Int) (id : Int) (ok : l.length ≤ 9223372036854775807) : p_slices_Index_int_int l id = some (place l id) := by
 unfold p_slices_Index_int_int
 rcases lp_scan (body := p_slices_Index_int_int_b0 l id) (fun k => (k : Int)) l.length (fun i => decide (nth l i = id)) (.inl ()) (fun k => .inr (k : Int)) (fun k hk _ h => by
   have h' : ¬ id = nth l k := fun e => by simp [e] at h
   unfold p_slices_Index_int_int_b0; simp [hk, gd.yes (ixN hk), h', gd.yes (i64S hk ok)]) (fun k hk _ h => by
   have h' : id = nth l k := by simp at h; exact h.symm
   unfold p_slices_Index_int_int_b0; simp [hk, gd.yes (ixN hk), h']) (fun _ => by unfold p_slices_Index_int_int_b0; simp) with ⟨h1, h2⟩ | ⟨h1, k, hk, hb, hn, h2⟩
 ·rw [show (lp (p_slices_Index_int_int_b0 l id) 0) = _ from h2, place_no h1]; rfl
 ·rw [show (lp (p_slices_Index_int_int_b0 l id) 0) = _ from h2, place_yes hk hb hn]; rfl
theorem place_lt {l : List Int} {id : Int} : place l id < 0 ∨ ∃ k, k < l.length ∧ place l id = (k : Int) := by
 cases ha : allN l.length (fun i => decide (nth l i = id)) with
 | true => exact .inl (by rw [place_no ha]; decide)
 | false =>
  obtain ⟨k, hk, h1, h2⟩ := first_bad ha
  exact .inr ⟨k, hk, place_yes hk h1 h2⟩
def rowsOf (p : Part) (id : Int) : List Row := if place p.1 id < 0 then [] else nth p.2 (place p.1 id).toNat
theorem partOk_len' {p : Part} (h : partOk p = true) : p.1.length = p.2.length := by
 unfold partOk at h; simp at h; exact h.1
theorem e_l12Of (p : Part) (id : Int) (ok : Dp.ok p) (hl : p.1.length = p.2.length) : p_spec_l12Of p id = some (rowsOf p id) := by
 have hm : p.1.length ≤ 9223372036854775807 := ok.1.1
 unfold p_spec_l12Of rowsOf
 rcases lp_scan (body := p_spec_l12Of_b0 p id) (fun k => (k : Int)) p.1.length (fun i => decide (nth p.1 i = id)) (.inl ()) (fun k => .inr (nth p.2 k)) (fun k hk _ h => by
   have h' : ¬ nth p.1 k = id := by simpa using h
   unfold p_spec_l12Of_b0; simp [hk, gd.yes (ixN hk), h', gd.yes (i64S hk hm)]) (fun k hk _ h => by
   have h' : nth p.1 k = id := by simpa using h
   have hk2 : k < p.2.length := by omega
   unfold p_spec_l12Of_b0; simp [hk, gd.yes (ixN hk), h', gd.yes (ixN hk2)]) (fun _ => by unfold p_spec_l12Of_b0; simp) with ⟨h1, h2⟩ | ⟨h1, k, hk, hb, hn, h2⟩
 ·rw [show (lp (p_spec_l12Of_b0 p id) 0) = _ from h2, place_no h1]; rfl
 ·rw [show (lp (p_spec_l12Of_b0 p id) 0) = _ from h2, place_yes hk hb hn]
  have : ¬ (k : Int) < 0 := by omega
  simp [sw, this]
def partOf (p : Part) (id : Int) : List Row := if partOk p then rowsOf p id else []
theorem e_impl_PartOf (p : Part) (id : Int) (ok : Dp.ok p) (hw : Wt.w p ≤ 1048576) : p_impl_PartOf p id = some (partOf p id) := by
 unfold p_impl_PartOf partOf
 rw [e_Index p.1 id ok.1.1, bd_some, e_impl_PartOk p ok, bd_some]
 cases h : partOk p with
 | false => rfl
 | true =>
  have hl := partOk_len' h
  rcases place_lt (l := p.1) (id := id) with hp | ⟨k, hk, hp⟩
  ·simp [hp, rowsOf]
  ·have h0 : ¬ (k : Int) < 0 := by omega
   have hk2 : k < p.2.length := by omega
   have hr : room (nth p.2 k).length := by
    have : (nth p.2 k).length ≤ 1048576 := Nat.le_trans wL_le (Nat.le_trans (wL_el hk2) (Nat.le_trans wP_2 hw))
    unfold room; omega
   simp [hp, rowsOf, h0, gd.yes (ixN hk2), gd.yes hr]
theorem ok_rows (l : List Row) (h : l.length ≤ 1048576) : Dp.ok l := ⟨Nat.le_trans h (by decide), fun _ _ => ⟨trivial, trivial⟩⟩
def l2 (r : Row) : Bool → List Row → List Row
 | put, [] => if put then [] else [r]
 | put, x :: t => (if !put && decide (r.1 ≤ x.1) then [r] else []) ++ ((if x.1 = r.1 then [] else [x]) ++ l2 r (put || decide (r.1 ≤ x.1)) t)
theorem drop_nth {α : Type} [Inhabited α] {l : List α} {k : Nat} (hk : k < l.length) : l.drop k = nth l k :: l.drop (k + 1) := by
 rw [nth_eq l k hk, List.drop_eq_getElem_cons hk]
theorem e_l2Put (b : List Row) (r : Row) (hb : b.length ≤ 1048576) : p_spec_l2Put b r = some (l2 r false b) := by
 unfold p_spec_l2Put
 obtain ⟨e, he, hs1, hs2⟩ := lp.rule (body := p_spec_l2Put_b0 b r) (fun σ => ∃ k : Nat, k ≤ b.length ∧ σ.2.2 = (k : Int) ∧ σ.1.length ≤ 2 * k ∧ σ.1 ++ l2 r σ.2.1 (b.drop k) = l2 r false b) (fun σ => b.length - σ.2.2.toNat)
  (fun e => e.1.length ≤ 2 * b.length ∧ e.1 ++ (if e.2 then [] else [r]) = l2 r false b) (fun σ hI => by
   obtain ⟨k, k1, k2, k3, k4⟩ := hI
   unfold p_spec_l2Put_b0
   rw [k2]
   by_cases hk : k < b.length
   ·left
    rw [drop_nth hk] at k4
    have hi := i64S hk (by omega)
    have r1 : room (σ.1.length + 1) := by unfold room; omega
    have r2 : room ((σ.1 ++ [r]).length + 1) := by simp; unfold room; omega
    simp only [dlt hk, cond_true, gd.yes (ixN hk), Int.toNat_natCast, gd.yes hi, gd.yes r1, gd.yes r2]
    obtain ⟨o, put, i⟩ := σ
    simp only at k2 k3 k4 ⊢
    cases put with
    | true =>
     simp only [l2, Bool.not_true, Bool.false_and, Bool.false_eq_true, if_false, List.nil_append, Bool.true_or] at k4
     simp only [Bool.not_true, cond_false, bd_some]
     by_cases hx : (nth b k).1 = r.1
     ·simp only [hx, if_true, List.nil_append] at k4
      exact ⟨(o, true, ((k + 1 : Nat) : Int)), by simp [hx], ⟨k + 1, hk, rfl, by simp only; omega, k4⟩, by simp only; omega⟩
     ·simp only [hx, if_false] at k4
      exact ⟨(o ++ [nth b k], true, ((k + 1 : Nat) : Int)), by simp [hx], ⟨k + 1, hk, rfl, by simp; omega, by simpa using k4⟩, by simp only; omega⟩
    | false =>
     by_cases hle : r.1 ≤ (nth b k).1
     ·simp only [l2, hle, decide_true, Bool.not_false, Bool.true_and, if_true, Bool.or_true] at k4
      by_cases hx : (nth b k).1 = r.1
      ·simp only [hx, if_true, List.nil_append] at k4
       exact ⟨(o ++ [r], true, ((k + 1 : Nat) : Int)), by simp [hx], ⟨k + 1, hk, rfl, by simp; omega, by simpa using k4⟩, by simp only; omega⟩
      ·simp only [hx, if_false] at k4
       exact ⟨(o ++ [r] ++ [nth b k], true, ((k + 1 : Nat) : Int)), by simp [hx, hle], ⟨k + 1, hk, rfl, by simp; omega, by simpa using k4⟩, by simp only; omega⟩
     ·simp only [l2, hle, decide_false, Bool.not_false, Bool.and_false, Bool.false_eq_true, if_false, List.nil_append, Bool.or_false] at k4
      have hx : ¬ (nth b k).1 = r.1 := by omega
      simp only [hx, if_false] at k4
      exact ⟨(o ++ [nth b k], false, ((k + 1 : Nat) : Int)), by simp [hx, hle], ⟨k + 1, hk, rfl, by simp; omega, by simpa using k4⟩, by simp only; omega⟩
   ·right
    have hk' : k = b.length := by omega
    subst hk'
    refine ⟨(σ.1, σ.2.1), by simp, k3, ?_⟩
    rw [List.drop_length] at k4
    simpa [l2] using k4) (s := (([] : List Row), false, (0 : Int))) ⟨0, Nat.zero_le _, rfl, by simp, by simp⟩
 rw [he, bd_some]
 have r1 : room (e.1.length + 1) := by unfold room; omega
 cases hp : e.2 with
 | true => simp [hp] at hs2; simp [hs2]
 | false => simp [hp] at hs2; simp [gd.yes r1, hs2]
theorem nth_mem {α : Type} [Inhabited α] {l : List α} {k : Nat} (h : k < l.length) : nth l k ∈ l := by rw [nth_eq l k h]; exact List.getElem_mem h
theorem wRow {b : List Row} : Wt.w b = b.length := by show b.length + sumN b.length (fun i => Wt.w (nth b i)) = _; rw [sumN_zero (f := fun i => Wt.w (nth b i)) fun i _ => rfl]; rfl
theorem partOk_iff {p : Part} (h : partOk p = true) : p.1.length = p.2.length ∧ (∀ k, k < p.1.length → 1 ≤ nth p.1 k ∧ nth p.1 k ≤ 6) ∧ (∀ k, 0 < k → k < p.1.length → nth p.1 (k - 1) < nth p.1 k) ∧ (∀ k, k < p.2.length → 0 < (nth p.2 k).length ∧ blockOk (nth p.2 k) = true) := by
 unfold partOk at h
 simp only [Bool.and_eq_true, decide_eq_true_eq] at h
 obtain ⟨h1, h2⟩ := h
 have h2 := allN_iff.1 h2
 refine ⟨h1, fun k hk => ?_, fun k h0 hk => ?_, fun k hk => ?_⟩
 ·have := h2 k hk; simp only [partBad, inn, Bool.or_eq_false_iff, Bool.not_eq_false', Bool.and_eq_true, decide_eq_true_eq] at this; exact this.1.1.1
 ·have := h2 k hk; simp [partBad, h0] at this; exact this.1.1.2
 ·have := h2 k (by omega); simp [partBad] at this; exact ⟨List.length_pos_iff.2 this.2, this.1.2⟩
theorem ids_mono {p : Part} (h : ∀ k, 0 < k → k < p.1.length → nth p.1 (k - 1) < nth p.1 k) : ∀ {j k : Nat}, j < k → k < p.1.length → nth p.1 j < nth p.1 k := by
 intro j k hjk hk
 induction k with
 | zero => omega
 | succ k ih =>
  have h1 := h (k + 1) (by omega) hk
  rw [show k + 1 - 1 = k by omega] at h1
  rcases Nat.lt_or_eq_of_le (Nat.le_of_lt_succ hjk) with h' | rfl
  ·have := ih h' (by omega); omega
  ·exact h1
def ins (r : Row) : List Row → List Row
 | [] => [r]
 | x :: t => if x.1 < r.1 then x :: ins r t else if x.1 = r.1 then r :: t else r :: x :: t
theorem ins_len (r : Row) : ∀ l : List Row, l.length ≤ (ins r l).length ∧ (ins r l).length ≤ l.length + 1
 | [] => by simp [ins]
 | x :: t => by
  have := ins_len r t
  unfold ins
  split
  ·simp; omega
  ·split <;> simp
theorem ins_pre (r : Row) : ∀ (p s : List Row), (∀ x ∈ p, x.1 < r.1) → ins r (p ++ s) = p ++ ins r s
 | [], s, _ => rfl
 | x :: p, s, h => by
  have hx := h x (by simp)
  rw [List.cons_append, ins, if_pos hx, ins_pre r p s fun y hy => h y (by simp [hy]), List.cons_append]
def Asc (l : List Row) : Prop := l.Pairwise fun x y => x.1 < y.1
theorem e_put (b : List Row) (r : Row) (hb : b.length ≤ 1048576) : p_impl_put b r = some (ins r b) := by
 unfold p_impl_put
 have r0 : room (([] : List Row).length + b.length) := by unfold room; simp; omega
 simp only [gd.yes r0, List.nil_append]
 have key : ∃ k : Nat, k ≤ b.length ∧ (∀ i, i < k → (nth b i).1 < r.1) ∧ (k < b.length → ¬ (nth b k).1 < r.1) ∧ lp (p_impl_put_b0 b r) 0 = some (k : Int) := by
  rcases lp_scan (body := p_impl_put_b0 b r) (fun k => (k : Int)) b.length (fun k => !decide ((nth b k).1 < r.1)) (b.length : Int) (fun k => (k : Int)) (fun k hk _ h => by
    have h' : (nth b k).1 < r.1 := by simpa using h
    unfold p_impl_put_b0; simp [hk, gd.yes (ixN hk), h', gd.yes (i64S hk (by omega))]) (fun k hk _ h => by
    have h' : ¬ (nth b k).1 < r.1 := by simpa using h
    unfold p_impl_put_b0; simp [hk, gd.yes (ixN hk), h']) (fun _ => by unfold p_impl_put_b0; simp) with ⟨h1, h2⟩ | ⟨h1, k, hk, hb', hn, h2⟩
  ·exact ⟨b.length, Nat.le_refl _, fun i hi => by simpa using allN_iff.1 h1 i hi, fun h => absurd h (Nat.lt_irrefl _), h2⟩
  ·exact ⟨k, Nat.le_of_lt hk, fun i hi => by simpa using hn i hi, fun _ => by simpa using hb', h2⟩
 obtain ⟨k, k1, k2, k3, k4⟩ := key
 rw [k4, bd_some]
 have hpre : ∀ x ∈ b.take k, x.1 < r.1 := fun x hx => by
  obtain ⟨i, hi, rfl⟩ := List.mem_iff_getElem.1 hx
  have hik : i < k := by simp at hi; omega
  have := k2 i hik
  rw [nth_eq b i (by omega)] at this
  simpa using this
 have hins : ins r b = b.take k ++ ins r (b.drop k) := by
  conv => lhs; rw [← List.take_append_drop k b]
  rw [ins_pre r _ _ hpre]
 by_cases hk : k < b.length
 ·have h3 := k3 hk
  rw [drop_nth hk, ins, if_neg h3] at hins
  simp only [dlt hk, cond_true, gd.yes (ixN hk), bd_some, Int.toNat_natCast]
  by_cases he : (nth b k).1 = r.1
  ·rw [if_pos he] at hins
   rw [hins, List.set_eq_take_append_cons_drop, if_pos hk]
   simp [he]
  ·rw [if_neg he] at hins
   have g1 : (0 : Int) ≤ (k : Int) ∧ (k : Int) ≤ (b.length : Int) := by omega
   have g2 : room (b.length + [r].length) := by unfold room; simp; omega
   have g3 : 0 < [r].length := by simp
   unfold p_slices_Insert_Row_Row p_insert
   have e1 : b.take k ++ [r] ++ b.drop k = ins r b := by rw [hins, drop_nth hk]; simp
   simp only [he, decide_false, cond_false, gd.yes g1, gd.yes g2, gd.yes g3, bd_some, Int.toNat_natCast, e1]
   have := ins_len r b
   have g4 : room (([] : List Row).length + (ins r b).length) := by unfold room; simp; omega
   simp only [gd.yes g4]
 ·have hk' : k = b.length := by omega
  subst hk'
  have g1 : (0 : Int) ≤ (b.length : Int) ∧ (b.length : Int) ≤ (b.length : Int) := by omega
  have g2 : room (b.length + [r].length) := by unfold room; simp; omega
  have g3 : 0 < [r].length := by simp
  rw [List.drop_length] at hins
  have e1 : b.take b.length ++ [r] ++ b.drop b.length = ins r b := by rw [hins, List.drop_length]; simp [ins]
  unfold p_slices_Insert_Row_Row p_insert
  simp only [Int.lt_irrefl, decide_false, cond_false, bd_some, gd.yes g1, gd.yes g2, gd.yes g3, Int.toNat_natCast, e1]
  have := ins_len r b
  have g4 : room (([] : List Row).length + (ins r b).length) := by unfold room; simp; omega
  simp only [gd.yes g4]
theorem l2_true (r : Row) : ∀ l : List Row, (∀ x ∈ l, r.1 < x.1) → l2 r true l = l
 | [], _ => rfl
 | x :: t, h => by
  have hx := h x (by simp)
  simp only [l2, Bool.not_true, Bool.false_and, Bool.false_eq_true, if_false, List.nil_append, Bool.true_or]
  rw [if_neg (by omega), l2_true r t fun y hy => h y (by simp [hy])]; rfl
theorem l2_ins (r : Row) : ∀ l : List Row, Asc l → l2 r false l = ins r l
 | [], _ => rfl
 | x :: t, h => by
  unfold Asc at h
  obtain ⟨h1, h2⟩ := List.pairwise_cons.1 h
  simp only [l2, ins, Bool.not_false, Bool.true_and, Bool.false_or]
  by_cases hle : r.1 ≤ x.1
  ·simp only [hle, decide_true, if_true]
   rw [if_neg (show ¬ x.1 < r.1 by omega), l2_true r t fun y hy => by have := h1 y hy; omega]
   by_cases he : x.1 = r.1 <;> simp [he]
  ·simp only [hle, decide_false, Bool.false_eq_true, if_false, List.nil_append]
   rw [if_pos (show x.1 < r.1 by omega), if_neg (show ¬ x.1 = r.1 by omega), l2_ins r t h2]; rfl
theorem ins_mem {r y : Row} : ∀ {l : List Row}, y ∈ ins r l → y = r ∨ y ∈ l
 | [], h => by simp [ins] at h; exact .inl h
 | x :: t, h => by
  unfold ins at h
  split at h
  ·rcases List.mem_cons.1 h with h | h
   ·exact .inr (by simp [h])
   ·exact (ins_mem h).imp id fun h => by simp [h]
  ·split at h
   ·rcases List.mem_cons.1 h with h | h
    ·exact .inl h
    ·exact .inr (by simp [h])
   ·rcases List.mem_cons.1 h with h | h
    ·exact .inl h
    ·exact .inr h
theorem ins_asc (r : Row) : ∀ {l : List Row}, Asc l → Asc (ins r l)
 | [], _ => by simp [ins, Asc]
 | x :: t, h => by
  unfold Asc at h ⊢
  obtain ⟨h1, h2⟩ := List.pairwise_cons.1 h
  unfold ins
  split
  ·rename_i hx
   refine List.pairwise_cons.2 ⟨fun y hy => ?_, ins_asc r h2⟩
   rcases ins_mem hy with rfl | hy
   ·exact hx
   ·exact h1 y hy
  ·split
   ·rename_i hx he
    exact List.pairwise_cons.2 ⟨fun y hy => by have := h1 y hy; omega, h2⟩
   ·rename_i hx he
    refine List.pairwise_cons.2 ⟨fun y hy => ?_, h⟩
    rcases List.mem_cons.1 hy with rfl | hy
    ·omega
    ·have := h1 y hy; omega
def mg (a b : List Row) : List Row := b.foldl (fun o r => ins r o) a
theorem mg_asc {a b : List Row} (ha : Asc a) : Asc (mg a b) := by
 unfold mg
 induction b generalizing a with
 | nil => exact ha
 | cons x b ih => exact ih (ins_asc x ha)
theorem mg_len : ∀ (b a : List Row), a.length ≤ (mg a b).length ∧ (mg a b).length ≤ a.length + b.length
 | [], a => by simp [mg]
 | x :: b, a => by
  have h1 := ins_len x a
  have h2 := mg_len b (ins x a)
  unfold mg at h2 ⊢
  simp only [List.foldl_cons, List.length_cons] at h2 ⊢
  omega
theorem mg_mem {y : Row} : ∀ {b a : List Row}, y ∈ mg a b → y ∈ a ∨ y ∈ b
 | [], a, h => .inl h
 | x :: b, a, h => by
  have h : y ∈ mg (ins x a) b := h
  rcases mg_mem h with h | h
  ·rcases ins_mem h with rfl | h
   ·exact .inr (by simp)
   ·exact .inl h
  ·exact .inr (by simp [h])
theorem nil_asc : Asc [] := List.Pairwise.nil
theorem blockOk_iff {b : List Row} : blockOk b = true ↔ (∀ x ∈ b, rowOk x = true) ∧ Asc b ∧ b.length ≤ 24 := by
 unfold blockOk
 rw [Bool.and_eq_true, allN_iff, decide_eq_true_eq]
 constructor
 ·rintro ⟨h1, h2⟩
  have hp : ∀ k, k < b.length → rowOk (nth b k) = true ∧ (0 < k → (nth b (k - 1)).1 < (nth b k).1) := fun k hk => by
   have := h1 k hk
   simp only [rowBad, Bool.or_eq_false_iff, Bool.not_eq_false', Bool.and_eq_false_iff, decide_eq_false_iff_not] at this
   exact ⟨this.1, fun h0 => by rcases this.2 with h | h <;> omega⟩
  refine ⟨fun x hx => ?_, ?_, by omega⟩
  ·obtain ⟨i, hi, rfl⟩ := List.mem_iff_getElem.1 hx
   rw [← nth_eq b i hi]; exact (hp i hi).1
  ·refine List.pairwise_iff_getElem.2 fun i j hi hj hij => ?_
   rw [← nth_eq b i hi, ← nth_eq b j hj]
   clear hi
   induction j with
   | zero => omega
   | succ j ih =>
    have h3 := (hp (j + 1) hj).2 (by omega)
    rw [show j + 1 - 1 = j by omega] at h3
    rcases Nat.lt_or_eq_of_le (Nat.le_of_lt_succ hij) with h' | rfl
    ·have := ih (by omega) h'; omega
    ·exact h3
 ·rintro ⟨h1, h2, h3⟩
  refine ⟨fun k hk => ?_, by omega⟩
  have r1 : rowOk (nth b k) = true := h1 _ (nth_mem hk)
  simp only [rowBad, r1, Bool.not_true, Bool.false_or, Bool.and_eq_false_iff, decide_eq_false_iff_not]
  rcases Nat.eq_zero_or_pos k with h0 | h0
  ·exact .inl (by omega)
  ·refine .inr ?_
   have := List.pairwise_iff_getElem.1 h2 (k - 1) k (by omega) hk (by omega)
   rw [← nth_eq b (k - 1) (by omega), ← nth_eq b k hk] at this
   omega
theorem foldl_take {α β : Type} [Inhabited α] (f : β → α → β) (s : β) (l : List α) (k : Nat) (hk : k < l.length) : (l.take (k + 1)).foldl f s = f ((l.take k).foldl f s) (nth l k) := by
 rw [nth_eq l k hk, List.take_succ_eq_append_getElem hk, List.foldl_append]; rfl
theorem mg_take (a b : List Row) (k : Nat) (hk : k < b.length) : mg a (b.take (k + 1)) = ins (nth b k) (mg a (b.take k)) := foldl_take _ _ _ _ hk
theorem mg_take_len (a b : List Row) (k : Nat) (hk : k ≤ b.length) : (mg a (b.take k)).length ≤ a.length + b.length := by
 have := (mg_len (b.take k) a).2
 rw [List.length_take] at this; omega
theorem partOk_asc {p : Part} (h : partOk p = true) : p.1.Pairwise (· < ·) := List.pairwise_iff_getElem.2 fun i j hi hj hij => by
 rw [← nth_eq p.1 i hi, ← nth_eq p.1 j hj]; exact ids_mono (partOk_iff h).2.2.1 hij hj
theorem rowsOf_ok {p : Part} (h : partOk p = true) (id : Int) : blockOk (rowsOf p id) = true := by
 unfold rowsOf
 rcases place_lt (l := p.1) (id := id) with hp | ⟨k, hk, hp⟩
 ·rw [if_pos hp]; rfl
 ·rw [hp, if_neg (by omega)]; exact ((partOk_iff h).2.2.2 k (by have := (partOk_iff h).1; omega)).2
theorem ba_one {x : ByteArray} (h : x.size = 1) : x = ⟨#[sb x 0]⟩ := by
 have : x.data.size = 1 := h
 apply ByteArray.ext
 apply Array.ext
 ·rw [this]; rfl
 ·intro i h1 h2
  have hi : i = 0 := by omega
  subst hi
  simp [sb, this]
theorem sl_one (a b : UInt8) : sless ⟨#[a]⟩ ⟨#[b]⟩ = decide (a < b) := by
 rw [sless_lt]
 have e : ∀ c : UInt8, (⟨#[c]⟩ : ByteArray).toList = [c] := fun c => by simp [ByteArray.toList, ByteArray.toList.loop, ByteArray.size, ByteArray.get!]
 have h2 : ([a] < [b]) ↔ a < b := by rw [List.cons_lt_cons_iff]; simp
 rw [e, e]
 exact decide_eq_decide.2 h2
def tagB (t : Tag) : Bool := decide (t.1.size = 1) && (decide (t.2.size = 1) && (inn 97 ((sb t.1 0).toNat : Int) 100 && inn 112 ((sb t.2 0).toNat : Int) 122))
theorem e_spec_l3Tag (t : Tag) : p_spec_l3Tag t = some (tagB t) := by
 unfold p_spec_l3Tag tagB
 have c1 : decide ((t.1.size : Int) = 1) = decide (t.1.size = 1) := decide_eq_decide.2 (by omega)
 have c2 : decide ((t.2.size : Int) = 1) = decide (t.2.size = 1) := decide_eq_decide.2 (by omega)
 rw [c1, c2]
 by_cases h1 : t.1.size = 1
 ·by_cases h2 : t.2.size = 1
  ·simp only [h1, h2, decide_true, cond_true, gd.yes (show ix 0 1 by unfold ix; omega), e_spec_l6In, bd_some, Bool.true_and]
   cases inn 97 ((sb t.1 0).toNat : Int) 100 <;> simp
  ·simp [h1, h2]
 ·simp [h1]
theorem rng_one {x : ByteArray} (h : x.size = 1) (lo hi : UInt8) : (!sless x ⟨#[lo]⟩ && (sless x ⟨#[hi]⟩ || decide (x = ⟨#[hi]⟩))) = inn (lo.toNat : Int) ((sb x 0).toNat : Int) (hi.toNat : Int) := by
 have hx := ba_one h
 generalize sb x 0 = c at *
 subst hx
 rw [sl_one, sl_one]
 have e1 : (!decide (c < lo)) = decide ((lo.toNat : Int) ≤ (c.toNat : Int)) := by
  by_cases k : c < lo
  ·have : c.toNat < lo.toNat := UInt8.lt_iff_toNat_lt.1 k
   simp [k]; omega
  ·have : ¬ c.toNat < lo.toNat := fun q => k (UInt8.lt_iff_toNat_lt.2 q)
   simp [k]; omega
 have e2 : (decide (c < hi) || decide ((⟨#[c]⟩ : ByteArray) = ⟨#[hi]⟩)) = decide ((c.toNat : Int) ≤ (hi.toNat : Int)) := by
  by_cases k : c < hi
  ·have : c.toNat < hi.toNat := UInt8.lt_iff_toNat_lt.1 k
   simp [k]; omega
  ·have h3 : ¬ c.toNat < hi.toNat := fun q => k (UInt8.lt_iff_toNat_lt.2 q)
   by_cases e : c = hi
   ·subst e; simp
   ·have h4 : c.toNat ≠ hi.toNat := fun q => e (UInt8.toNat_inj.1 q)
    have h5 : (⟨#[c]⟩ : ByteArray) ≠ ⟨#[hi]⟩ := fun q => e (by
     have := congrArg (fun b : ByteArray => b.data.toList) q
     simpa using this)
    simp [k, h5]; omega
 rw [e1, e2]; rfl
theorem e_impl_tagOk (t : Tag) : p_impl_tagOk t = some (tagB t) := by
 unfold p_impl_tagOk tagB
 have c1 : decide ((t.1.size : Int) = 1) = decide (t.1.size = 1) := decide_eq_decide.2 (by omega)
 have c2 : decide ((t.2.size : Int) = 1) = decide (t.2.size = 1) := decide_eq_decide.2 (by omega)
 rw [c1, c2]
 by_cases h1 : t.1.size = 1
 ·have r1 := rng_one h1 97 100
  rw [show ((97 : UInt8).toNat : Int) = 97 from rfl, show ((100 : UInt8).toNat : Int) = 100 from rfl] at r1
  rw [← r1]
  by_cases h2 : t.2.size = 1
  ·have r2 := rng_one h2 112 122
   rw [show ((112 : UInt8).toNat : Int) = 112 from rfl, show ((122 : UInt8).toNat : Int) = 122 from rfl] at r2
   rw [← r2]
   simp only [h1, h2, decide_true, cond_true, Bool.true_and]
   cases (!sless t.1 ⟨#[97]⟩) <;> cases (sless t.1 ⟨#[100]⟩ || decide (t.1 = ⟨#[100]⟩)) <;> cases (!sless t.2 ⟨#[112]⟩) <;> rfl
  ·simp only [h1, h2, decide_true, decide_false, cond_true, cond_false, Bool.true_and, Bool.false_and]
   cases (!sless t.1 ⟨#[97]⟩) <;> cases (sless t.1 ⟨#[100]⟩ || decide (t.1 = ⟨#[100]⟩)) <;> rfl
 ·simp [h1]
def nameBad (n : List Tag) (k : Nat) : Bool := !tagB (nth n k) || (decide (0 < k) && !sless (nth n (k - 1)).1 (nth n k).1)
def nameOk (n : List Tag) : Bool := allN n.length (nameBad n) && inn 1 (n.length : Int) 3
theorem e_impl_NameOk (n : List Tag) (hn : n.length ≤ maxLen) : p_impl_NameOk n = some (nameOk n) := by
 have hn' : n.length ≤ 9223372036854775807 := hn
 have hr : ∀ k, k < n.length → p_impl_NameOk_b0 n (k : Int) = some (if nameBad n k then .inr (.inr false) else .inl ((k + 1 : Nat) : Int)) := fun k hk => by
  unfold p_impl_NameOk_b0 nameBad
  simp only [dlt hk, cond_true, gd.yes (ixN hk), e_impl_tagOk, bd_some, Int.toNat_natCast, gd.yes (i64S hk hn')]
  cases h1 : tagB (nth n k) with
  | false => simp
  | true =>
   simp only [Bool.not_true, cond_false, Bool.false_or]
   by_cases h0 : 0 < k
   ·have h0' : (0 : Int) < k := by omega
    have e1 : (k : Int) - 1 = ((k - 1 : Nat) : Int) := by omega
    have hi : I64 ((k - 1 : Nat) : Int) := by unfold I64; omega
    simp only [h0, h0', decide_true, cond_true, e1, gd.yes hi, gd.yes (ixN (show k - 1 < n.length by omega)), Int.toNat_natCast, bd_some, Bool.true_and]
    cases sless (nth n (k - 1)).1 (nth n k).1 <;> simp
   ·simp [h0]
 unfold p_impl_NameOk nameOk
 rcases lp_scan (body := p_impl_NameOk_b0 n) (fun k => (k : Int)) n.length (nameBad n) (.inl ()) (fun _ => .inr false) (fun k hk _ h => by simp [hr k hk, h]) (fun k hk _ h => by simp [hr k hk, h]) (fun _ => by unfold p_impl_NameOk_b0; simp) with ⟨h1, h2⟩ | ⟨h1, k, _, _, _, h2⟩
 ·rw [show (lp (p_impl_NameOk_b0 n) 0) = _ from h2, h1]; simp [sw, e_impl_within]
 ·rw [show (lp (p_impl_NameOk_b0 n) 0) = _ from h2, h1]; simp [sw]
theorem e_spec_NameOk (n : List Tag) (hn : n.length ≤ maxLen) : p_spec_NameOk n = some (nameOk n) := by
 have hn' : n.length ≤ 9223372036854775807 := hn
 have hr : ∀ k, k < n.length → p_spec_NameOk_b0 n (k : Int) = some (if nameBad n k then .inr (.inr false) else .inl ((k + 1 : Nat) : Int)) := fun k hk => by
  unfold p_spec_NameOk_b0 nameBad
  simp only [dlt hk, cond_true, gd.yes (ixN hk), e_spec_l3Tag, bd_some, Int.toNat_natCast, gd.yes (i64S hk hn')]
  cases h1 : tagB (nth n k) with
  | false => simp
  | true =>
   simp only [Bool.not_true, cond_false, Bool.false_or]
   by_cases h0 : 0 < k
   ·have h0' : (0 : Int) < k := by omega
    have e1 : (k : Int) - 1 = ((k - 1 : Nat) : Int) := by omega
    have hi : I64 ((k - 1 : Nat) : Int) := by unfold I64; omega
    simp only [h0, h0', decide_true, cond_true, e1, gd.yes hi, gd.yes (ixN (show k - 1 < n.length by omega)), Int.toNat_natCast, bd_some, Bool.true_and]
    cases sless (nth n (k - 1)).1 (nth n k).1 <;> simp
   ·simp [h0]
 unfold p_spec_NameOk nameOk
 rcases lp_scan (body := p_spec_NameOk_b0 n) (fun k => (k : Int)) n.length (nameBad n) (.inl ()) (fun _ => .inr false) (fun k hk _ h => by simp [hr k hk, h]) (fun k hk _ h => by simp [hr k hk, h]) (fun _ => by unfold p_spec_NameOk_b0; simp) with ⟨h1, h2⟩ | ⟨h1, k, _, _, _, h2⟩
 ·rw [show (lp (p_spec_NameOk_b0 n) 0) = _ from h2, h1]; simp [sw, e_spec_l6In]
 ·rw [show (lp (p_spec_NameOk_b0 n) 0) = _ from h2, h1]; simp [sw]
theorem allN_mem {α : Type} [Inhabited α] {l : List α} {p : α → Bool} : allN l.length (fun k => p (nth l k)) = true ↔ ∀ x ∈ l, p x = false := by
 rw [allN_iff]
 constructor
 ·intro h x hx
  obtain ⟨i, hi, rfl⟩ := List.mem_iff_getElem.1 hx
  have := h i hi
  rwa [nth_eq l i hi] at this
 ·intro h i hi
  rw [nth_eq l i hi]
  exact h _ (List.getElem_mem hi)
def hasT (n : List Tag) (t : Tag) : Bool := n.any fun x => decide (x = t)
theorem hasT_iff {n : List Tag} {t : Tag} : hasT n t = true ↔ t ∈ n := by simp [hasT]
theorem hasT_no {n : List Tag} {t : Tag} (h : t ∉ n) : hasT n t = false := by
 cases hc : hasT n t with
 | false => rfl
 | true => exact absurd (hasT_iff.1 hc) h
theorem e_spec_l3Has (n : List Tag) (t : Tag) (hn : n.length ≤ maxLen) : p_spec_l3Has n t = some (hasT n t) := by
 have hn' : n.length ≤ 9223372036854775807 := hn
 have hr : ∀ k, k < n.length → p_spec_l3Has_b0 n t (k : Int) = some (if decide (nth n k = t) then .inr (.inr true) else .inl ((k + 1 : Nat) : Int)) := fun k hk => by
  unfold p_spec_l3Has_b0
  simp only [dlt hk, cond_true, gd.yes (ixN hk), Int.toNat_natCast, gd.yes (i64S hk hn')]
  by_cases h : nth n k = t <;> simp [h]
 unfold p_spec_l3Has
 rcases lp_scan (body := p_spec_l3Has_b0 n t) (fun k => (k : Int)) n.length (fun k => decide (nth n k = t)) (.inl ()) (fun _ => .inr true) (fun k hk _ h => by simp [hr k hk, of_decide_eq_false h]) (fun k hk _ h => by simp [hr k hk, of_decide_eq_true h]) (fun _ => by unfold p_spec_l3Has_b0; simp) with ⟨h1, h2⟩ | ⟨h1, k, hk, hb, _, h2⟩
 ·rw [show (lp (p_spec_l3Has_b0 n t) 0) = _ from h2]
  have : t ∉ n := fun ht => by
   have := (allN_mem (l := n) (p := fun x => decide (x = t))).1 h1 t ht
   simp at this
  simp [sw, hasT_no this]
 ·rw [show (lp (p_spec_l3Has_b0 n t) 0) = _ from h2]
  have : t ∈ n := (of_decide_eq_true hb) ▸ nth_mem hk
  simp [sw, hasT_iff.2 this]
theorem e_Index_Tag (n : List Tag) (t : Tag) (hn : n.length ≤ maxLen) : ∃ k : Int, p_slices_Index_Tag_Tag n t = some k ∧ (0 ≤ k ↔ t ∈ n) := by
 have hn' : n.length ≤ 9223372036854775807 := hn
 have hr : ∀ k, k < n.length → p_slices_Index_Tag_Tag_b0 n t (k : Int) = some (if decide (t = nth n k) then .inr (.inr (k : Int)) else .inl ((k + 1 : Nat) : Int)) := fun k hk => by
  unfold p_slices_Index_Tag_Tag_b0
  simp only [dlt hk, cond_true, gd.yes (ixN hk), Int.toNat_natCast, gd.yes (i64S hk hn')]
  by_cases h : t = nth n k <;> simp [h]
 unfold p_slices_Index_Tag_Tag
 rcases lp_scan (body := p_slices_Index_Tag_Tag_b0 n t) (fun k => (k : Int)) n.length (fun k => decide (t = nth n k)) (.inl ()) (fun k => .inr (k : Int)) (fun k hk _ h => by simp [hr k hk, of_decide_eq_false h]) (fun k hk _ h => by rw [hr k hk, if_pos h]) (fun _ => by unfold p_slices_Index_Tag_Tag_b0; simp) with ⟨h1, h2⟩ | ⟨h1, k, hk, hb, _, h2⟩
 ·rw [show (lp (p_slices_Index_Tag_Tag_b0 n t) 0) = _ from h2]
  have : t ∉ n := fun ht => by
   have := (allN_mem (l := n) (p := fun x => decide (t = x))).1 h1 t ht
   simp at this
  exact ⟨-1, rfl, by simp [this]⟩
 ·rw [show (lp (p_slices_Index_Tag_Tag_b0 n t) 0) = _ from h2]
  have : t ∈ n := (of_decide_eq_true hb) ▸ nth_mem hk
  exact ⟨(k : Int), rfl, by simp [this]⟩
theorem e_Contains_Tag (n : List Tag) (t : Tag) (hn : n.length ≤ maxLen) : p_slices_Contains_Tag_Tag n t = some (hasT n t) := by
 unfold p_slices_Contains_Tag_Tag
 obtain ⟨k, e, h⟩ := e_Index_Tag n t hn
 simp only [e, bd_some]
 by_cases hm : t ∈ n
 ·rw [hasT_iff.2 hm, decide_eq_true (h.2 hm)]
 ·rw [hasT_no hm, decide_eq_false (fun q => hm (h.1 q))]
def filterOk (f : List Cond) : Bool := allN f.length (fun k => !tagB (nth f k).1) && decide ((f.length : Int) ≤ 3)
theorem e_impl_FilterOk (f : List Cond) (hn : f.length ≤ maxLen) : p_impl_FilterOk f = some (filterOk f) := by
 have hn' : f.length ≤ 9223372036854775807 := hn
 have hr : ∀ k, k < f.length → p_impl_FilterOk_b0 f (k : Int) = some (if (!tagB (nth f k).1) then .inr (.inr false) else .inl ((k + 1 : Nat) : Int)) := fun k hk => by
  unfold p_impl_FilterOk_b0
  simp only [dlt hk, cond_true, gd.yes (ixN hk), e_impl_tagOk, bd_some, Int.toNat_natCast, gd.yes (i64S hk hn')]
  cases tagB (nth f k).1 <;> simp
 unfold p_impl_FilterOk filterOk
 rcases lp_scan (body := p_impl_FilterOk_b0 f) (fun k => (k : Int)) f.length (fun k => !tagB (nth f k).1) (.inl ()) (fun _ => .inr false) (fun k hk _ h => by rw [hr k hk, h]; rfl) (fun k hk _ h => by rw [hr k hk, h]; rfl) (fun _ => by unfold p_impl_FilterOk_b0; simp) with ⟨h1, h2⟩ | ⟨h1, k, _, _, _, h2⟩
 ·rw [show (lp (p_impl_FilterOk_b0 f) 0) = _ from h2, h1]; simp [sw]
 ·rw [show (lp (p_impl_FilterOk_b0 f) 0) = _ from h2, h1]; simp [sw]
theorem e_spec_FilterOk (f : List Cond) (hn : f.length ≤ maxLen) : p_spec_FilterOk f = some (filterOk f) := by
 have hn' : f.length ≤ 9223372036854775807 := hn
 have hr : ∀ k, k < f.length → p_spec_FilterOk_b0 f (k : Int) = some (if (!tagB (nth f k).1) then .inr (.inr false) else .inl ((k + 1 : Nat) : Int)) := fun k hk => by
  unfold p_spec_FilterOk_b0
  simp only [dlt hk, cond_true, gd.yes (ixN hk), e_spec_l3Tag, bd_some, Int.toNat_natCast, gd.yes (i64S hk hn')]
  cases tagB (nth f k).1 <;> simp
 unfold p_spec_FilterOk filterOk
 rcases lp_scan (body := p_spec_FilterOk_b0 f) (fun k => (k : Int)) f.length (fun k => !tagB (nth f k).1) (.inl ()) (fun _ => .inr false) (fun k hk _ h => by rw [hr k hk, h]; rfl) (fun k hk _ h => by rw [hr k hk, h]; rfl) (fun _ => by unfold p_spec_FilterOk_b0; simp) with ⟨h1, h2⟩ | ⟨h1, k, _, _, _, h2⟩
 ·rw [show (lp (p_spec_FilterOk_b0 f) 0) = _ from h2, h1]; simp [sw]
 ·rw [show (lp (p_spec_FilterOk_b0 f) 0) = _ from h2, h1]; simp [sw]
def fitsP (f : List Cond) (n : List Tag) : Bool := allN f.length fun k => decide (hasT n (nth f k).1 = (nth f k).2)
theorem e_spec_l3Fits (f : List Cond) (n : List Tag) (hf : f.length ≤ maxLen) (hn : n.length ≤ maxLen) : p_spec_l3Fits f n = some (fitsP f n) := by
 have hf' : f.length ≤ 9223372036854775807 := hf
 have hr : ∀ k, k < f.length → p_spec_l3Fits_b0 f n (k : Int) = some (if decide (hasT n (nth f k).1 = (nth f k).2) then .inr (.inr false) else .inl ((k + 1 : Nat) : Int)) := fun k hk => by
  unfold p_spec_l3Fits_b0
  simp only [dlt hk, cond_true, gd.yes (ixN hk), e_spec_l3Has n _ hn, bd_some, Int.toNat_natCast, gd.yes (i64S hk hf')]
  by_cases h : hasT n (nth f k).1 = (nth f k).2 <;> simp [h]
 unfold p_spec_l3Fits fitsP
 rcases lp_scan (body := p_spec_l3Fits_b0 f n) (fun k => (k : Int)) f.length (fun k => decide (hasT n (nth f k).1 = (nth f k).2)) (.inl ()) (fun _ => .inr false) (fun k hk _ h => by rw [hr k hk, h]; rfl) (fun k hk _ h => by rw [hr k hk, h]; rfl) (fun _ => by unfold p_spec_l3Fits_b0; simp) with ⟨h1, h2⟩ | ⟨h1, k, _, _, _, h2⟩
 ·rw [show (lp (p_spec_l3Fits_b0 f n) 0) = _ from h2, h1]; simp [sw]
 ·rw [show (lp (p_spec_l3Fits_b0 f n) 0) = _ from h2, h1]; simp [sw]
theorem e_impl_FilterFits (f : List Cond) (n : List Tag) (hf : f.length ≤ maxLen) (hn : n.length ≤ maxLen) : p_impl_FilterFits f n = some (filterOk f && (nameOk n && fitsP f n)) := by
 have hf' : f.length ≤ 9223372036854775807 := hf
 have hr : ∀ k, k < f.length → p_impl_FilterFits_b0 f n (k : Int) = some (if decide (hasT n (nth f k).1 = (nth f k).2) then .inr (.inr false) else .inl ((k + 1 : Nat) : Int)) := fun k hk => by
  unfold p_impl_FilterFits_b0
  simp only [dlt hk, cond_true, gd.yes (ixN hk), e_Contains_Tag n _ hn, bd_some, Int.toNat_natCast, gd.yes (i64S hk hf')]
  by_cases h : hasT n (nth f k).1 = (nth f k).2 <;> simp [h]
 unfold p_impl_FilterFits
 simp only [e_impl_FilterOk f hf, e_impl_NameOk n hn, bd_some]
 cases filterOk f with
 | false => rfl
 | true =>
  cases nameOk n with
  | false => rfl
  | true =>
   simp only [Bool.not_true, cond_false, bd_some, Bool.true_and]
   unfold fitsP
   rcases lp_scan (body := p_impl_FilterFits_b0 f n) (fun k => (k : Int)) f.length (fun k => decide (hasT n (nth f k).1 = (nth f k).2)) (.inl ()) (fun _ => .inr false) (fun k hk _ h => by rw [hr k hk, h]; rfl) (fun k hk _ h => by rw [hr k hk, h]; rfl) (fun _ => by unfold p_impl_FilterFits_b0; simp) with ⟨h1, h2⟩ | ⟨h1, k, _, _, _, h2⟩
   ·rw [show (lp (p_impl_FilterFits_b0 f n) 0) = _ from h2, h1]; simp [sw]
   ·rw [show (lp (p_impl_FilterFits_b0 f n) 0) = _ from h2, h1]; simp [sw]
theorem e_impl_cloneNames (names : List (List Tag)) (h1 : names.length ≤ 4194304) (h2 : ∀ n ∈ names, n.length ≤ 4194304) : p_impl_cloneNames names = some names := by
 unfold p_impl_cloneNames
 rw [show (([] : List (List Tag)), (0 : Int)) = (names.take 0, ((0 : Nat) : Int)) from rfl, lp_for (fun k => (names.take k, (k : Int))) names.length names (fun k hk => by
  unfold p_impl_cloneNames_b0
  have hl := h2 _ (nth_mem hk)
  simp only [dlt hk, cond_true, gd.yes (ixN hk), Int.toNat_natCast, List.length_nil, List.nil_append, List.length_take]
  rw [gd.yes (by unfold room; omega), gd.yes (by unfold room; omega), gd.yes (by unfold I64; omega), take_succ_nth hk]
  rfl) (by unfold p_impl_cloneNames_b0; simp)]
 rfl
def addT : List Post → Tag → Int → List Post
 | [], t, i => [(t, [i])]
 | p :: P, t, i => if p.1 = t then (p.1, p.2 ++ [i]) :: P else p :: addT P t i
def addN (P : List Post) (n : List Tag) (i : Int) : List Post := n.foldl (fun P t => addT P t i) P
def postsF (names : List (List Tag)) : Nat → List Post
 | 0 => []
 | m + 1 => addN (postsF names m) (nth names m) ((m : Int) + 1)
def indexP (names : List (List Tag)) : Index := (names, (postsF names names.length).mergeSort leP)
theorem addT_old (P : List Post) (t : Tag) (i : Int) (h : t ∈ P.map (·.1)) : (addT P t i).map (·.1) = P.map (·.1) := by
 induction P with
 | nil => cases h
 | cons p P ih =>
  unfold addT
  by_cases e : p.1 = t
  ·simp [e]
  ·rw [if_neg e, List.map_cons, List.map_cons, ih]
   rcases List.mem_cons.1 h with h | h
   ·exact absurd h.symm e
   ·exact h
theorem addT_new (P : List Post) (t : Tag) (i : Int) (h : t ∉ P.map (·.1)) : (addT P t i).map (·.1) = P.map (·.1) ++ [t] := by
 induction P with
 | nil => rfl
 | cons p P ih =>
  unfold addT
  have e : p.1 ≠ t := fun e => h (by rw [List.map_cons, e]; exact List.mem_cons_self ..)
  rw [if_neg e, List.map_cons, List.map_cons, ih (fun q => h (by rw [List.map_cons]; exact List.mem_cons_of_mem _ q))]
  rfl
theorem addT_nodup {P : List Post} (h : (P.map (·.1)).Nodup) (t : Tag) (i : Int) : ((addT P t i).map (·.1)).Nodup := by
 by_cases hm : t ∈ P.map (·.1)
 ·rw [addT_old P t i hm]; exact h
 ·rw [addT_new P t i hm, List.nodup_append]
  exact ⟨h, by simp, fun a ha b hb => by simp at hb; subst hb; exact fun e => hm (e ▸ ha)⟩
theorem addN_cons (P : List Post) (t : Tag) (n : List Tag) (i : Int) : addN P (t :: n) i = addN (addT P t i) n i := rfl
theorem postsF_succ (names : List (List Tag)) (m : Nat) : postsF names (m + 1) = addN (postsF names m) (nth names m) ((m : Int) + 1) := rfl
theorem addN_nodup (n : List Tag) (i : Int) : ∀ {P : List Post}, (P.map (·.1)).Nodup → ((addN P n i).map (·.1)).Nodup := by
 unfold addN
 induction n with
 | nil => intro P h; exact h
 | cons t n ih => intro P h; exact ih (addT_nodup h t i)
theorem postsF_nodup (names : List (List Tag)) : ∀ m, ((postsF names m).map (·.1)).Nodup
 | 0 => by simp [postsF]
 | m + 1 => addN_nodup _ _ (postsF_nodup names m)
def bnd (P : List Post) (c : Nat) : Prop := P.length ≤ c ∧ ∀ p ∈ P, p.2.length ≤ c
theorem bnd_addT {P : List Post} {c : Nat} (h : bnd P c) (t : Tag) (i : Int) : bnd (addT P t i) (c + 1) := by
 obtain ⟨h1, h2⟩ := h
 have len : (addT P t i).length ≤ P.length + 1 := by
  clear h1 h2
  induction P with
  | nil => simp [addT]
  | cons p P ih => unfold addT; split <;> simp <;> omega
 refine ⟨by omega, ?_⟩
 clear len h1
 induction P with
 | nil => intro p hp; simp [addT] at hp; subst hp; simp
 | cons q P ih =>
  intro p hp
  unfold addT at hp
  split at hp
  ·rcases List.mem_cons.1 hp with rfl | hp
   ·have := h2 q (List.mem_cons_self ..)
    simp; omega
   ·have := h2 p (List.mem_cons_of_mem _ hp); omega
  ·rcases List.mem_cons.1 hp with rfl | hp
   ·have := h2 p (List.mem_cons_self ..); omega
   ·exact ih (fun r hr => h2 r (List.mem_cons_of_mem _ hr)) p hp
theorem addT_none {P : List Post} {t : Tag} (i : Int) (h : ∀ k, k < P.length → (nth P k).1 ≠ t) : addT P t i = P ++ [(t, [i])] := by
 induction P with
 | nil => rfl
 | cons p P ih =>
  have h0 : p.1 ≠ t := h 0 (by simp)
  unfold addT
  rw [if_neg h0, ih (fun k hk => h (k + 1) (by simp; omega))]; rfl
theorem addT_some {P : List Post} {t : Tag} (i : Int) : ∀ {k : Nat}, k < P.length → (nth P k).1 = t → (∀ j, j < k → (nth P j).1 ≠ t) → addT P t i = P.set k ((nth P k).1, (nth P k).2 ++ [i]) := by
 induction P with
 | nil => intro k hk; simp at hk
 | cons p P ih =>
  intro k hk he hn
  cases k with
  | zero =>
   have he : p.1 = t := he
   unfold addT; rw [if_pos he]; rfl
  | succ k =>
   have h0 : p.1 ≠ t := hn 0 (by omega)
   unfold addT
   rw [if_neg h0, ih (k := k) (by simpa using hk) he (fun j hj => hn (j + 1) (by omega))]
   rfl
theorem e_IndexFunc1 (P : List Post) (t : Tag) (hP : P.length ≤ 4194304) : (∃ k : Nat, k < P.length ∧ (nth P k).1 = t ∧ (∀ j, j < k → (nth P j).1 ≠ t) ∧ p_slices_IndexFunc_Post_Post_indexOf_1 P t = some (k : Int)) ∨ ((∀ k, k < P.length → (nth P k).1 ≠ t) ∧ p_slices_IndexFunc_Post_Post_indexOf_1 P t = some (-1)) := by
 have hr : ∀ k, k < P.length → p_slices_IndexFunc_Post_Post_indexOf_1_b0 P t (k : Int) = some (if decide ((nth P k).1 = t) then .inr (.inr (k : Int)) else .inl ((k + 1 : Nat) : Int)) := fun k hk => by
  unfold p_slices_IndexFunc_Post_Post_indexOf_1_b0 p_impl_indexOf_1
  simp only [dlt hk, cond_true, gd.yes (ixN hk), Int.toNat_natCast, bd_some, gd.yes (i64S hk (by omega))]
  by_cases h : (nth P k).1 = t <;> simp [h]
 unfold p_slices_IndexFunc_Post_Post_indexOf_1
 rcases lp_scan (body := p_slices_IndexFunc_Post_Post_indexOf_1_b0 P t) (fun k => (k : Int)) P.length (fun k => decide ((nth P k).1 = t)) (.inl ()) (fun k => .inr (k : Int)) (fun k hk _ h => by simp [hr k hk, of_decide_eq_false h]) (fun k hk _ h => by rw [hr k hk, if_pos h]) (fun _ => by unfold p_slices_IndexFunc_Post_Post_indexOf_1_b0; simp) with ⟨h1, h2⟩ | ⟨h1, k, hk, hb, hn, h2⟩
 ·exact .inr ⟨fun k hk => of_decide_eq_false (allN_iff.1 h1 k hk), by rw [show (lp (p_slices_IndexFunc_Post_Post_indexOf_1_b0 P t) 0) = _ from h2]; rfl⟩
 ·exact .inl ⟨k, hk, of_decide_eq_true hb, fun j hj => of_decide_eq_false (hn j hj), by rw [show (lp (p_slices_IndexFunc_Post_Post_indexOf_1_b0 P t) 0) = _ from h2]; rfl⟩
theorem e_tags (names : List (List Tag)) (Q : List Post) (m : Nat) (hm : m < 4194304) (c : Nat) (n : List Tag) (hn : n = nth names m) (hc : c + n.length ≤ 4194304) : ∀ (r j : Nat) (P : List Post), j + r = n.length → bnd P (c + j) →
  lp (p_impl_indexOf_b1 names (Q, (m : Int))) (P, (j : Int)) = some (addN P (n.drop j) ((m : Int) + 1)) ∧ bnd (addN P (n.drop j) ((m : Int) + 1)) (c + n.length)
 | 0, j, P, hj, hb => by
  have : n.drop j = [] := List.drop_eq_nil_of_le (by omega)
  rw [this]
  refine ⟨lp.stop ?_, by rw [show c + n.length = c + j by omega]; exact hb⟩
  unfold p_impl_indexOf_b1
  simp only [Int.toNat_natCast, ← hn]
  rw [decide_eq_false (show ¬ ((j : Int) < (n.length : Int)) by omega)]; rfl
 | r + 1, j, P, hj, hb => by
  have hjn : j < n.length := by omega
  have hd : n.drop j = nth n j :: n.drop (j + 1) := by rw [nth_eq n j hjn]; exact List.drop_eq_getElem_cons hjn
  have hP1 := hb.1
  have step : p_impl_indexOf_b1 names (Q, (m : Int)) (P, (j : Int)) = some (.inl (addT P (nth n j) ((m : Int) + 1), ((j + 1 : Nat) : Int))) := by
   unfold p_impl_indexOf_b1
   simp only [Int.toNat_natCast, ← hn, dlt hjn, cond_true, gd.yes (ixN hjn)]
   rcases e_IndexFunc1 P (nth n j) (by omega) with ⟨k, hk, he, hno, hf⟩ | ⟨hno, hf⟩
   ·have hl := hb.2 _ (nth_mem hk)
    rw [hf]
    simp only [bd_some]
    rw [decide_eq_false (show ¬ ((k : Int) < 0) by omega)]
    rw [cond_false, gd.yes (ixN hk)]
    simp only [Int.toNat_natCast]
    rw [gd.yes (by unfold I64; omega), gd.yes (by unfold room; omega), gd.yes (by unfold I64; omega), addT_some _ hk he hno]
    rfl
   ·rw [hf]
    simp only [bd_some]
    rw [decide_eq_true (show ((-1 : Int) < 0) by omega)]
    have e1 : nth (P ++ [(nth n j, ([] : List Int))]) P.length = (nth n j, []) := nth_append_new
    simp only [cond_true, e1, List.nil_append, List.length_nil]
    rw [gd.yes (by unfold room; omega), gd.yes (by unfold ix; simp; omega), gd.yes (by unfold I64; omega), gd.yes (by unfold room; omega), gd.yes (by unfold I64; omega), addT_none _ hno]
    simp
  rw [lp.step step, hd, addN_cons]
  exact e_tags names Q m hm c n hn hc r (j + 1) _ (by omega) (by rw [← Nat.add_assoc]; exact bnd_addT hb _ _)
theorem e_posts (names : List (List Tag)) (hN : names.length ≤ 4194304) (hs : sumN names.length (fun i => (nth names i).length) ≤ 4194304) : ∀ m, m ≤ names.length → bnd (postsF names m) (sumN m fun i => (nth names i).length) ∧ lp (p_impl_indexOf_b0 names) (([] : List Post), (0 : Int)) = lp (p_impl_indexOf_b0 names) (postsF names m, (m : Int))
 | 0, _ => ⟨⟨by simp [postsF], fun p hp => by simp [postsF] at hp⟩, rfl⟩
 | m + 1, hm => by
  obtain ⟨b, e⟩ := e_posts names hN hs m (by omega)
  have hmn : m < names.length := by omega
  have hle : sumN m (fun i => (nth names i).length) + (nth names m).length ≤ sumN names.length (fun i => (nth names i).length) := sumN_lt hmn
  obtain ⟨t1, t2⟩ := e_tags names (postsF names m) m (by omega) _ (nth names m) rfl (by omega) (nth names m).length 0 (postsF names m) (by omega) b
  rw [List.drop_zero] at t1 t2
  refine ⟨t2, ?_⟩
  rw [e, lp.step (s' := (postsF names (m + 1), ((m + 1 : Nat) : Int)))]
  rw [postsF_succ]
  unfold p_impl_indexOf_b0
  rw [show ((0 : Nat) : Int) = 0 from rfl] at t1
  rw [dlt hmn, cond_true, gd.yes (ixN hmn), bd.yes t1]
  rw [gd.yes (by unfold I64; omega), addI]
theorem e_indexOf (names : List (List Tag)) (hN : names.length ≤ 4194304) (hs : sumN names.length (fun i => (nth names i).length) ≤ 4194304) : p_impl_indexOf names = some (indexP names) := by
 have hn : ∀ n ∈ names, n.length ≤ 4194304 := fun n h => by
  obtain ⟨i, hi, rfl⟩ := List.mem_iff_getElem.1 h
  have := sumN_get (f := fun i => (nth names i).length) hi
  simp only [nth_eq names i hi] at this
  omega
 obtain ⟨b, e⟩ := e_posts names hN hs names.length (Nat.le_refl _)
 unfold p_impl_indexOf
 rw [e_impl_cloneNames names hN hn]
 simp only [bd_some]
 rw [e, lp.stop (e := postsF names names.length) (by
  unfold p_impl_indexOf_b0
  rw [decide_eq_false (show ¬ ((names.length : Int) < (names.length : Int)) by omega)]; rfl)]
 simp only [bd_some]
 have hl := b.1
 unfold p_slices_SortFunc_Post_Post_indexOf_2 sortP
 rw [gd.yes (show room (postsF names names.length).length by unfold room; omega), gd.yes (postsF_nodup names _)]
 rfl
def textK (n : List Tag) : Nat → ByteArray
 | 0 => ⟨#[]⟩
 | m + 1 => (((if 0 < m then textK n m ++ ⟨#[44]⟩ else textK n m) ++ (nth n m).1) ++ ⟨#[61]⟩) ++ (nth n m).2
def textN (n : List Tag) : ByteArray := textK n n.length
theorem textK_size (n : List Tag) : ∀ m, (textK n m).size ≤ 2 * m + sumN m fun i => (nth n i).1.size + (nth n i).2.size
 | 0 => Nat.zero_le _
 | m + 1 => by
  have ih := textK_size n m
  show ((((if 0 < m then textK n m ++ ⟨#[44]⟩ else textK n m) ++ (nth n m).1) ++ ⟨#[61]⟩) ++ (nth n m).2).size ≤ 2 * (m + 1) + (sumN m (fun i => (nth n i).1.size + (nth n i).2.size) + ((nth n m).1.size + (nth n m).2.size))
  have e1 : ((⟨#[61]⟩ : ByteArray)).size = 1 := rfl
  have e2 : ((⟨#[44]⟩ : ByteArray)).size = 1 := rfl
  split
  ·simp only [ByteArray.size_append, e1, e2]; omega
  ·simp only [ByteArray.size_append, e1]; omega
theorem textK_pos {n : List Tag} {m : Nat} (h : 0 < m) : textK n (m + 1) = (((textK n m ++ ⟨#[44]⟩) ++ (nth n m).1) ++ ⟨#[61]⟩) ++ (nth n m).2 := by
 show (((if 0 < m then textK n m ++ ⟨#[44]⟩ else textK n m) ++ (nth n m).1) ++ ⟨#[61]⟩) ++ (nth n m).2 = _
 rw [if_pos h]
theorem textK_neg {n : List Tag} {m : Nat} (h : ¬ 0 < m) : textK n (m + 1) = ((textK n m ++ (nth n m).1) ++ ⟨#[61]⟩) ++ (nth n m).2 := by
 show (((if 0 < m then textK n m ++ ⟨#[44]⟩ else textK n m) ++ (nth n m).1) ++ ⟨#[61]⟩) ++ (nth n m).2 = _
 rw [if_neg h]
theorem w_name (n : List Tag) : Wt.w n = n.length + sumN n.length fun i => (nth n i).1.size + (nth n i).2.size := rfl
theorem e_spec_l3Text (n : List Tag) (hw : Wt.w n ≤ 4194304) : p_spec_l3Text n = some (textN n) := by
 rw [w_name] at hw
 unfold p_spec_l3Text textN
 have e44 : ((⟨#[44]⟩ : ByteArray)).size = 1 := rfl
 have e61 : ((⟨#[61]⟩ : ByteArray)).size = 1 := rfl
 rw [show ((⟨#[]⟩ : ByteArray), (0 : Int)) = (textK n 0, ((0 : Nat) : Int)) from rfl, lp_for (fun k => (textK n k, (k : Int))) n.length (textK n n.length) (fun m hm => by
  have h1 := textK_size n m
  have h2 : (sumN m fun i => (nth n i).1.size + (nth n i).2.size) + ((nth n m).1.size + (nth n m).2.size) ≤ sumN n.length fun i => (nth n i).1.size + (nth n i).2.size := sumN_lt (f := fun i => (nth n i).1.size + (nth n i).2.size) hm
  unfold p_spec_l3Text_b0
  rw [dlt hm, cond_true]
  by_cases h0 : 0 < m
  ·rw [decide_eq_true (show (0 : Int) < (m : Int) by omega), cond_true]
   rw [gd.yes (by simp only [room, e44]; omega), gd.yes (ixN hm), gd.yes (by simp only [room, ByteArray.size_append, e44, Int.toNat_natCast]; omega), gd.yes (by simp only [room, ByteArray.size_append, e44, e61, Int.toNat_natCast]; omega), gd.yes (by simp only [room, ByteArray.size_append, e44, e61, Int.toNat_natCast]; omega), gd.yes (by unfold I64; omega), addI]
   rw [textK_pos h0]
   rfl
  ·rw [decide_eq_false (show ¬ (0 : Int) < (m : Int) by omega), cond_false]
   rw [gd.yes (ixN hm), gd.yes (by simp only [room, Int.toNat_natCast]; omega), gd.yes (by simp only [room, ByteArray.size_append, e61, Int.toNat_natCast]; omega), gd.yes (by simp only [room, ByteArray.size_append, e61, Int.toNat_natCast]; omega), gd.yes (by unfold I64; omega), addI]
   rw [textK_neg h0]
   rfl) (by unfold p_spec_l3Text_b0; rw [decide_eq_false (show ¬ ((n.length : Int) < (n.length : Int)) by omega)]; rfl)]
 rfl
def oneB (t : Tag) : Prop := t.1.size = 1 ∧ t.2.size = 1
theorem tagB_one {t : Tag} (h : tagB t = true) : oneB t := by
 unfold tagB at h
 simp only [Bool.and_eq_true, decide_eq_true_eq] at h
 exact ⟨h.1, h.2.1⟩
theorem nameOk_tags {n : List Tag} (h : nameOk n = true) : ∀ t ∈ n, tagB t = true := by
 intro t ht
 unfold nameOk at h
 simp only [Bool.and_eq_true] at h
 obtain ⟨i, hi, rfl⟩ := List.mem_iff_getElem.1 ht
 have := allN_iff.1 h.1 i hi
 unfold nameBad at this
 simp only [Bool.or_eq_false_iff] at this
 rw [← nth_eq n i hi]
 simpa using this.1
def kb (t : Tag) : UInt8 := sb t.1 0
def vb (t : Tag) : UInt8 := sb t.2 0
def bytesT : List Tag → List UInt8
 | [] => []
 | [t] => [kb t, 61, vb t]
 | t :: u :: r => kb t :: 61 :: vb t :: 44 :: bytesT (u :: r)
theorem bytesT_snoc (l : List Tag) (t : Tag) : bytesT (l ++ [t]) = if l = [] then [kb t, 61, vb t] else bytesT l ++ [44, kb t, 61, vb t] := by
 induction l with
 | nil => rfl
 | cons u l ih =>
  cases l with
  | nil => rfl
  | cons v l =>
   simp only [List.cons_append, bytesT] at ih ⊢
   rw [ih]
   simp
theorem one_bytes {x : ByteArray} (h : x.size = 1) : x.data.toList = [sb x 0] := by
 have := ba_one h
 generalize sb x 0 = c at *
 subst this; rfl
theorem textK_bytes (n : List Tag) (h1 : ∀ t ∈ n, oneB t) : ∀ m, m ≤ n.length → (textK n m).data.toList = bytesT (n.take m)
 | 0, _ => rfl
 | m + 1, hm => by
  have hmn : m < n.length := by omega
  have ih := textK_bytes n h1 m (by omega)
  obtain ⟨o1, o2⟩ := h1 _ (nth_mem hmn)
  rw [take_succ_nth hmn, bytesT_snoc]
  unfold textK
  have e1 := one_bytes o1
  have e2 := one_bytes o2
  by_cases h0 : 0 < m
  ·have hne : n.take m ≠ [] := fun e => by have := congrArg List.length e; rw [List.length_take, List.length_nil] at this; omega
   rw [if_pos h0, if_neg hne]
   simp only [ByteArray.data_append, Array.toList_append, ih, e1, e2]
   simp [kb, vb]
  ·have hm0 : m = 0 := by omega
   subst hm0
   simp only [ByteArray.data_append, Array.toList_append, e1, e2]
   simp [textK, kb, vb]
theorem tag_ext {t u : Tag} (h1 : oneB t) (h2 : oneB u) (hk : kb t = kb u) (hv : vb t = vb u) : t = u := by
 have a1 := ba_one h1.1
 have a2 := ba_one h1.2
 have b1 := ba_one h2.1
 have b2 := ba_one h2.2
 refine Prod.ext ?_ ?_
 ·rw [a1, b1]; unfold kb at hk; rw [hk]
 ·rw [a2, b2]; unfold vb at hv; rw [hv]
theorem bytesT_inj : ∀ {a b : List Tag}, (∀ t ∈ a, oneB t) → (∀ t ∈ b, oneB t) → bytesT a = bytesT b → a = b
 | [], [], _, _, _ => rfl
 | [], [t], _, _, h => by simp [bytesT] at h
 | [], t :: u :: r, _, _, h => by simp [bytesT] at h
 | [t], [], _, _, h => by simp [bytesT] at h
 | t :: u :: r, [], _, _, h => by simp [bytesT] at h
 | [t], [u], ha, hb, h => by
  simp only [bytesT, List.cons.injEq, and_true, true_and] at h
  rw [tag_ext (ha t (by simp)) (hb u (by simp)) h.1 h.2]
 | [t], u :: v :: r, _, _, h => by simp [bytesT] at h
 | t :: u :: r, [v], _, _, h => by simp [bytesT] at h
 | t :: u :: r, v :: w :: q, ha, hb, h => by
  simp only [bytesT, List.cons.injEq, true_and] at h
  rw [tag_ext (ha t (by simp)) (hb v (by simp)) h.1 h.2.1, bytesT_inj (a := u :: r) (b := w :: q) (fun x hx => ha x (List.mem_cons_of_mem _ hx)) (fun x hx => hb x (List.mem_cons_of_mem _ hx)) h.2.2]
theorem textN_inj {a b : List Tag} (ha : ∀ t ∈ a, oneB t) (hb : ∀ t ∈ b, oneB t) (h : textN a = textN b) : a = b := by
 have e1 := textK_bytes a ha a.length (Nat.le_refl _)
 have e2 := textK_bytes b hb b.length (Nat.le_refl _)
 rw [List.take_length] at e1 e2
 refine bytesT_inj ha hb ?_
 rw [← e1, ← e2]
 show (textN a).data.toList = (textN b).data.toList
 rw [h]
theorem text_eq {a b : List Tag} (ha : nameOk a = true) (hb : nameOk b = true) : decide (textN a = textN b) = decide (a = b) := by
 by_cases h : a = b
 ·subst h; simp
 ·have : textN a ≠ textN b := fun e => h (textN_inj (fun t ht => tagB_one (nameOk_tags ha t ht)) (fun t ht => tagB_one (nameOk_tags hb t ht)) e)
  simp [h, this]
def idsN (names : List (List Tag)) (t : Tag) : Nat → List Int
 | 0 => []
 | m + 1 => idsN names t m ++ (if hasT (nth names m) t then [(m : Int) + 1] else [])
theorem idsN_succ (names : List (List Tag)) (t : Tag) (m : Nat) : idsN names t (m + 1) = idsN names t m ++ (if hasT (nth names m) t then [(m : Int) + 1] else []) := rfl
theorem idsN_len (names : List (List Tag)) (t : Tag) : ∀ m, (idsN names t m).length ≤ m
 | 0 => Nat.le_refl _
 | m + 1 => by
  have := idsN_len names t m
  rw [idsN_succ]
  split <;> simp <;> omega
theorem e_spec_l11Ids (names : List (List Tag)) (t : Tag) (h1 : names.length ≤ 4194304) (h2 : ∀ n ∈ names, n.length ≤ 4194304) : p_spec_l11Ids names t = some (idsN names t names.length) := by
 unfold p_spec_l11Ids
 rw [show (([] : List Int), (0 : Int)) = (idsN names t 0, ((0 : Nat) : Int)) from rfl, lp_for (fun k => (idsN names t k, (k : Int))) names.length (idsN names t names.length) (fun m hm => by
  have hl := h2 _ (nth_mem hm)
  have hi := idsN_len names t m
  unfold p_spec_l11Ids_b0
  rw [dlt hm, cond_true, gd.yes (ixN hm)]
  simp only [Int.toNat_natCast]
  rw [bd.yes (e_spec_l3Has (nth names m) t (by unfold maxLen; omega))]
  cases hc : hasT (nth names m) t with
  | true =>
   rw [cond_true, gd.yes (by unfold I64; omega), gd.yes (by unfold room; omega), idsN_succ, if_pos hc, addI]
  | false =>
   rw [cond_false, gd.yes (by unfold I64; omega), addI, idsN_succ, if_neg (by rw [hc]; simp), List.append_nil]) (by
  unfold p_spec_l11Ids_b0; rw [decide_eq_false (show ¬ ((names.length : Int) < (names.length : Int)) by omega)]; rfl)]
 rfl
def idsAt : List Post → Tag → List Int
 | [], _ => []
 | p :: P, t => if p.1 = t then p.2 else idsAt P t
theorem idsAt_addT (P : List Post) (t : Tag) (i : Int) (u : Tag) : idsAt (addT P t i) u = if u = t then idsAt P u ++ [i] else idsAt P u := by
 induction P with
 | nil =>
  unfold addT idsAt
  by_cases h : t = u
  ·subst h; simp
  ·have h' : ¬ u = t := fun e => h e.symm
   simp [h, h', idsAt]
 | cons p P ih =>
  unfold addT
  by_cases hp : p.1 = t
  ·rw [if_pos hp]
   by_cases hu : u = t
   ·subst hu; simp [idsAt, hp]
   ·have : ¬ p.1 = u := fun e => hu (e ▸ hp)
    simp [idsAt, this, hu]
  ·rw [if_neg hp]
   by_cases hu : p.1 = u
   ·have : ¬ u = t := fun e => hp (hu.trans e)
    simp [idsAt, hu, this]
   ·simp only [idsAt, if_neg hu, ih]
theorem idsAt_addN (n : List Tag) (i : Int) (u : Tag) : ∀ {P : List Post}, n.Nodup → idsAt (addN P n i) u = if hasT n u then idsAt P u ++ [i] else idsAt P u := by
 induction n with
 | nil => intro P _; rfl
 | cons t n ih =>
  intro P hn
  rw [List.nodup_cons] at hn
  rw [addN_cons, ih hn.2, idsAt_addT]
  have hc : hasT (t :: n) u = (decide (t = u) || hasT n u) := rfl
  rw [hc]
  by_cases h1 : u = t
  ·subst h1
   rw [hasT_no hn.1]; simp
  ·have h2 : ¬ t = u := fun e => h1 e.symm
   simp [h1, h2]
def dist (names : List (List Tag)) : Prop := ∀ n ∈ names, n.Nodup
theorem idsAt_posts {names : List (List Tag)} (hd : dist names) (u : Tag) : ∀ m, m ≤ names.length → idsAt (postsF names m) u = idsN names u m
 | 0, _ => rfl
 | m + 1, hm => by
  rw [postsF_succ, idsAt_addN _ _ _ (hd _ (nth_mem (show m < names.length by omega))), idsAt_posts hd u m (by omega)]
  rw [idsN_succ]
  cases h : hasT (nth names m) u with
  | true => simp
  | false => simp
theorem idsAt_mem {P : List Post} (hn : (P.map (·.1)).Nodup) {p : Post} (hp : p ∈ P) : idsAt P p.1 = p.2 := by
 induction P with
 | nil => cases hp
 | cons q P ih =>
  rw [List.map_cons, List.nodup_cons] at hn
  rcases List.mem_cons.1 hp with rfl | hp
  ·simp [idsAt]
  ·have : ¬ q.1 = p.1 := fun e => hn.1 (e ▸ List.mem_map_of_mem hp)
   simp only [idsAt, if_neg this]
   exact ih hn.2 hp
theorem idsAt_some {P : List Post} {t : Tag} (h : idsAt P t ≠ []) : ∃ p ∈ P, p.1 = t := by
 induction P with
 | nil => exact absurd rfl h
 | cons q P ih =>
  by_cases e : q.1 = t
  ·exact ⟨q, List.mem_cons_self .., e⟩
  ·simp only [idsAt, if_neg e] at h
   obtain ⟨p, hp, h1⟩ := ih h
   exact ⟨p, List.mem_cons_of_mem _ hp, h1⟩
theorem addT_ne {P : List Post} (h : ∀ p ∈ P, p.2 ≠ []) (t : Tag) (i : Int) : ∀ p ∈ addT P t i, p.2 ≠ [] := by
 induction P with
 | nil => intro p hp; simp [addT] at hp; subst hp; simp
 | cons q P ih =>
  intro p hp
  unfold addT at hp
  split at hp
  ·rcases List.mem_cons.1 hp with rfl | hp
   ·simp
   ·exact h p (List.mem_cons_of_mem _ hp)
  ·rcases List.mem_cons.1 hp with rfl | hp
   ·exact h p (List.mem_cons_self ..)
   ·exact ih (fun r hr => h r (List.mem_cons_of_mem _ hr)) p hp
theorem addN_ne (n : List Tag) (i : Int) : ∀ {P : List Post}, (∀ p ∈ P, p.2 ≠ []) → ∀ p ∈ addN P n i, p.2 ≠ [] := by
 induction n with
 | nil => intro P h; exact h
 | cons t n ih => intro P h; rw [addN_cons]; exact ih (addT_ne h t i)
theorem posts_ne (names : List (List Tag)) : ∀ m, ∀ p ∈ postsF names m, p.2 ≠ []
 | 0 => fun p hp => by cases hp
 | m + 1 => by rw [postsF_succ]; exact addN_ne _ _ (posts_ne names m)
def sumL : List Post → Nat
 | [] => 0
 | p :: P => p.2.length + sumL P
theorem sumL_append (P Q : List Post) : sumL (P ++ Q) = sumL P + sumL Q := by
 induction P with
 | nil => simp [sumL]
 | cons p P ih => simp only [List.cons_append, sumL, ih]; omega
theorem sumL_perm {P Q : List Post} (h : P.Perm Q) : sumL P = sumL Q := by
 induction h with
 | nil => rfl
 | cons x _ ih => simp only [sumL, ih]
 | swap x y l => simp only [sumL]; omega
 | trans _ _ h1 h2 => exact h1.trans h2
theorem sumL_addT (P : List Post) (t : Tag) (i : Int) : sumL (addT P t i) = sumL P + 1 := by
 induction P with
 | nil => rfl
 | cons p P ih =>
  unfold addT
  split
  ·simp only [sumL, List.length_append, List.length_cons, List.length_nil]; omega
  ·simp only [sumL, ih]; omega
theorem sumL_addN (n : List Tag) (i : Int) : ∀ (P : List Post), sumL (addN P n i) = sumL P + n.length := by
 induction n with
 | nil => intro P; rfl
 | cons t n ih => intro P; rw [addN_cons, ih, sumL_addT, List.length_cons]; omega
theorem sumL_posts (names : List (List Tag)) : ∀ m, sumL (postsF names m) = sumN m fun i => (nth names i).length
 | 0 => rfl
 | m + 1 => by
  rw [postsF_succ, sumL_addN, sumL_posts names m]; rfl
structure Canon (names : List (List Tag)) (C : List Post) : Prop where
 ord : C.Pairwise fun x y => ltTag x.1 y.1 = true
 ids : ∀ p ∈ C, p.2 = idsN names p.1 names.length ∧ p.2 ≠ []
 all : ∀ t, idsN names t names.length ≠ [] → ∃ p ∈ C, p.1 = t
theorem canon_posts {names : List (List Tag)} (hd : dist names) : Canon names (indexP names).2 := by
 have hn := postsF_nodup names names.length
 have hp := List.mergeSort_perm (postsF names names.length) leP
 have hs : ((postsF names names.length).mergeSort leP).Pairwise fun x y => leP x y = true := List.pairwise_mergeSort (fun a b c h1 h2 => by
  simp only [leP, Bool.not_eq_true'] at *; exact ltTag_nt h2 h1) (fun a b => by
  simp only [leP, Bool.or_eq_true, Bool.not_eq_true']
  cases h : ltTag b.1 a.1 with
  | false => exact .inl rfl
  | true => exact .inr (ltTag_asym h)) _
 have hn2 : (((postsF names names.length).mergeSort leP).map (·.1)).Nodup := (hp.map _).nodup_iff.2 hn
 refine ⟨?_, fun p hp' => ?_, fun t ht => ?_⟩
 ·show ((postsF names names.length).mergeSort leP).Pairwise _
  have hne : ((postsF names names.length).mergeSort leP).Pairwise fun x y => x.1 ≠ y.1 := by
   unfold List.Nodup at hn2
   rwa [List.pairwise_map] at hn2
  refine (hs.and hne).imp ?_
  intro x y h
  have h1 := h.1
  simp only [leP, Bool.not_eq_true'] at h1
  cases hc : ltTag x.1 y.1 with
  | true => rfl
  | false => exact absurd (ltTag_anti hc h1) h.2
 ·have hm : p ∈ postsF names names.length := hp.mem_iff.1 hp'
  exact ⟨by rw [← idsAt_posts hd p.1 _ (Nat.le_refl _), idsAt_mem hn hm], posts_ne names _ p hm⟩
 ·rw [← idsAt_posts hd t _ (Nat.le_refl _)] at ht
  obtain ⟨p, h1, h2⟩ := idsAt_some ht
  exact ⟨p, hp.mem_iff.2 h1, h2⟩
theorem canon_eq {names : List (List Tag)} {C D : List Post} (hc : Canon names C) (hd : Canon names D) : C = D := by
 have nd : ∀ {E : List Post}, Canon names E → E.Nodup := fun h => h.ord.imp fun {a b} k e => by subst e; rw [ltTag_irr] at k; cases k
 have sub : ∀ {E F : List Post}, Canon names E → Canon names F → ∀ p ∈ E, p ∈ F := fun {E F} hE hF p hp => by
  obtain ⟨e1, e2⟩ := hE.ids p hp
  obtain ⟨q, hq, e3⟩ := hF.all p.1 (e1 ▸ e2)
  have e4 := (hF.ids q hq).1
  have : q = p := Prod.ext e3 (by rw [e4, e3, e1])
  rwa [← this]
 have hperm : C.Perm D := (List.perm_ext_iff_of_nodup (nd hc) (nd hd)).2 fun p => ⟨sub hc hd p, sub hd hc p⟩
 refine List.Perm.eq_of_pairwise (le := fun x y => ltTag x.1 y.1 = true) ?_ hc.ord hd.ord hperm
 intro a b _ _ h1 h2
 have := ltTag_asym h1
 rw [h2] at this; cases this
theorem sub_sum : ∀ {C A : List Post}, A.Nodup → (∀ p ∈ A, p ∈ C) → sumL A ≤ sumL C
 | [], A, _, h => by
  have : A = [] := List.eq_nil_iff_forall_not_mem.2 fun p hp => by cases h p hp
  rw [this]; exact Nat.le_refl _
 | c :: C, A, hn, h => by
  by_cases hc : c ∈ A
  ·obtain ⟨A1, A2, rfl⟩ := List.append_of_mem hc
   have hn' := hn
   rw [List.nodup_append] at hn
   obtain ⟨n1, n2, n3⟩ := hn
   rw [List.nodup_cons] at n2
   have hnd : (A1 ++ A2).Nodup := by
    rw [List.nodup_append]
    exact ⟨n1, n2.2, fun a ha b hb => n3 a ha b (List.mem_cons_of_mem _ hb)⟩
   have ih := sub_sum (C := C) (A := A1 ++ A2) hnd (fun p hp => by
    have hpc : p ≠ c := fun e => by
     subst e
     rcases List.mem_append.1 hp with q | q
     ·exact n3 p q p (List.mem_cons_self ..) rfl
     ·exact n2.1 q
    have hp' : p ∈ A1 ++ c :: A2 := by
     rcases List.mem_append.1 hp with q | q
     ·exact List.mem_append_left _ q
     ·exact List.mem_append_right _ (List.mem_cons_of_mem _ q)
    rcases List.mem_cons.1 (h p hp') with e | q
    ·exact absurd e hpc
    ·exact q)
   rw [sumL_append] at ih ⊢
   simp only [sumL] at ih ⊢
   omega
  ·have ih := sub_sum (C := C) (A := A) hn (fun p hp => by
    rcases List.mem_cons.1 (h p hp) with e | q
    ·exact absurd (e ▸ hp) hc
    ·exact q)
   simp only [sumL]; omega
theorem canon_of_sum {names : List (List Tag)} {C P : List Post} (hc : Canon names C) (ord : P.Pairwise fun x y => ltTag x.1 y.1 = true) (ids : ∀ p ∈ P, p.2 = idsN names p.1 names.length ∧ p.2 ≠ []) (hs : sumL P = sumL C) : P = C := by
 have nd : P.Nodup := ord.imp fun {a b} k e => by subst e; rw [ltTag_irr] at k; cases k
 have sub : ∀ p ∈ P, p ∈ C := fun p hp => by
  obtain ⟨e1, e2⟩ := ids p hp
  obtain ⟨q, hq, e3⟩ := hc.all p.1 (e1 ▸ e2)
  have : q = p := Prod.ext e3 (by rw [(hc.ids q hq).1, e3, e1])
  rwa [← this]
 refine canon_eq ⟨ord, ids, fun t ht => ?_⟩ hc
 obtain ⟨c, h1, h2⟩ := hc.all t ht
 by_cases hm : c ∈ P
 ·exact ⟨c, hm, h2⟩
 ·have := sub_sum (C := C) (A := c :: P) (List.nodup_cons.2 ⟨hm, nd⟩) (fun p hp => by
   rcases List.mem_cons.1 hp with rfl | hp
   ·exact h1
   ·exact sub p hp)
  simp only [sumL] at this
  have h3 : 0 < c.2.length := List.length_pos_iff.2 (hc.ids c h1).2
  omega
theorem nameOk_nodup {n : List Tag} (h : nameOk n = true) : n.Nodup := by
 unfold nameOk at h
 simp only [Bool.and_eq_true] at h
 have hk : ∀ i, i < n.length → nameBad n i = false := allN_iff.1 h.1
 have step : ∀ i, i + 1 < n.length → sless (nth n i).1 (nth n (i + 1)).1 = true := fun i hi => by
  have := hk (i + 1) hi
  unfold nameBad at this
  simp only [Nat.zero_lt_succ, decide_true, Bool.true_and, Nat.add_sub_cancel, Bool.or_eq_false_iff, Bool.not_eq_false'] at this
  exact this.2
 have lt : ∀ d i, i + d + 1 < n.length → sless (nth n i).1 (nth n (i + d + 1)).1 = true := by
  intro d
  induction d with
  | zero => intro i hi; exact step i hi
  | succ d ih => intro i hi; exact sless_trans (ih i (by omega)) (step (i + d + 1) (by omega))
 unfold List.Nodup
 rw [List.pairwise_iff_getElem]
 intro i j hi hj hij e
 obtain ⟨d, rfl⟩ : ∃ d, j = i + d + 1 := ⟨j - i - 1, by omega⟩
 have := lt d i hj
 rw [nth_eq n i hi, nth_eq n _ hj, ← e, sless_irr] at this
 cases this
theorem w_names {names : List (List Tag)} (hw : Wt.w names ≤ 4194304) : names.length ≤ 4194304 ∧ (∀ n ∈ names, n.length ≤ 4194304 ∧ Wt.w n ≤ 4194304) ∧ sumN names.length (fun i => (nth names i).length) ≤ 4194304 := by
 have e : Wt.w names = names.length + sumN names.length fun i => Wt.w (nth names i) := rfl
 rw [e] at hw
 refine ⟨by omega, fun n hn => ?_, ?_⟩
 ·obtain ⟨i, hi, rfl⟩ := List.mem_iff_getElem.1 hn
  have h1 := sumN_get (f := fun i => Wt.w (nth names i)) hi
  simp only [nth_eq names i hi] at h1
  have h2 : names[i].length ≤ Wt.w names[i] := wL_le
  omega
 ·have : sumN names.length (fun i => (nth names i).length) ≤ sumN names.length (fun i => Wt.w (nth names i)) := sumN_mono fun i _ => wL_le
  omega
theorem e_Equal_Tag (a b : List Tag) (ha : a.length ≤ 4194304) : p_slices_Equal_Tag_Tag a b = some (decide (a = b)) := by
 unfold p_slices_Equal_Tag_Tag
 by_cases hl : a.length = b.length
 ·have hl2 : (a.length : Int) = (b.length : Int) := by omega
  rw [decide_eq_true hl2, Bool.not_true, cond_false]
  refine eq_loop hl (fun k hk => ?_) ?_
  ·have hk2 : k < b.length := by omega
   unfold p_slices_Equal_Tag_Tag_b0
   simp only [dlt hk, cond_true, gd.yes (ixN hk), gd.yes (ixN hk2), Int.toNat_natCast, gd.yes (i64S hk (show a.length ≤ 9223372036854775807 by omega))]
   by_cases h : nth a k = nth b k <;> simp [h]
  ·unfold p_slices_Equal_Tag_Tag_b0; simp
 ·have h2 : ¬ (a.length : Int) = (b.length : Int) := by omega
  have h3 : a ≠ b := fun e => hl (by rw [e])
  simp [h2, h3]
theorem e_Equal_int (a b : List Int) (ha : a.length ≤ maxLen) : p_slices_Equal_int_int a b = some (decide (a = b)) := by
 have ha : a.length ≤ 9223372036854775807 := ha
 unfold p_slices_Equal_int_int
 by_cases hl : a.length = b.length
 ·have hl2 : (a.length : Int) = (b.length : Int) := by omega
  rw [decide_eq_true hl2, Bool.not_true, cond_false]
  refine eq_loop hl (fun k hk => ?_) ?_
  ·have hk2 : k < b.length := by omega
   unfold p_slices_Equal_int_int_b0
   simp only [dlt hk, cond_true, gd.yes (ixN hk), gd.yes (ixN hk2), Int.toNat_natCast, gd.yes (i64S hk ha)]
   by_cases h : nth a k = nth b k <;> simp [h]
  ·unfold p_slices_Equal_int_int_b0; simp
 ·have h2 : ¬ (a.length : Int) = (b.length : Int) := by omega
  have h3 : a ≠ b := fun e => hl (by rw [e])
  simp [h2, h3]
theorem e_spec_l11Same (a b : List Int) (ha : a.length ≤ maxLen) : p_spec_l11Same a b = some (decide (a = b)) := by
 have ha : a.length ≤ 9223372036854775807 := ha
 unfold p_spec_l11Same
 by_cases hl : a.length = b.length
 ·have hl2 : (a.length : Int) = (b.length : Int) := by omega
  rw [decide_eq_true hl2, Bool.not_true, cond_false]
  refine eq_loop hl (fun k hk => ?_) ?_
  ·have hk2 : k < b.length := by omega
   unfold p_spec_l11Same_b0
   simp only [dlt hk, cond_true, gd.yes (ixN hk), gd.yes (ixN hk2), Int.toNat_natCast, gd.yes (i64S hk ha)]
   by_cases h : nth a k = nth b k <;> simp [h]
  ·unfold p_spec_l11Same_b0; simp
 ·have h2 : ¬ (a.length : Int) = (b.length : Int) := by omega
  have h3 : a ≠ b := fun e => hl (by rw [e])
  simp [h2, h3]
theorem e_spec_l11Less (a b : Tag) : p_spec_l11Less a b = some (ltTag a b) := by
 unfold p_spec_l11Less ltTag
 cases sless a.1 b.1 with
 | true => rfl
 | false => by_cases h : a.1 = b.1 <;> simp [h]
theorem numberOf_none {q : Option (Unit ⊕ Int)} (h : q = some (.inl ())) : (bd (bd q <| sw (fun _ => some (-1 : Int)) fun q => some q) fun r3 => gd (I64 (r3 + 1)) <| some (r3 + 1)) = some 0 := by
 subst h
 have e : (bd (some (.inl ()) : Option (Unit ⊕ Int)) <| sw (fun _ => some (-1 : Int)) fun q => some q) = some (-1) := rfl
 rw [bd.yes e, gd.yes (by unfold I64; omega)]; rfl
theorem numberOf_some {q : Option (Unit ⊕ Int)} {k : Nat} (hk : k ≤ 4194304) (h : q = some (.inr (k : Int))) : (bd (bd q <| sw (fun _ => some (-1 : Int)) fun q => some q) fun r3 => gd (I64 (r3 + 1)) <| some (r3 + 1)) = some ((k : Int) + 1) := by
 subst h
 have e : (bd (some (.inr (k : Int)) : Option (Unit ⊕ Int)) <| sw (fun _ => some (-1 : Int)) fun q => some q) = some (k : Int) := rfl
 rw [bd.yes e, gd.yes (by unfold I64; omega)]
theorem e_numberOf (names : List (List Tag)) (n : List Tag) (h1 : names.length ≤ 4194304) (h2 : ∀ n ∈ names, n.length ≤ 4194304) :
  (∃ k : Nat, k < names.length ∧ nth names k = n ∧ (∀ j, j < k → nth names j ≠ n) ∧ p_impl_numberOf names n = some ((k : Int) + 1)) ∨ ((∀ k, k < names.length → nth names k ≠ n) ∧ p_impl_numberOf names n = some 0) := by
 have hr : ∀ k, k < names.length → p_slices_IndexFunc_Tag_Tag_numberOf_1_b0 names n (k : Int) = some (if decide (nth names k = n) then .inr (.inr (k : Int)) else .inl ((k + 1 : Nat) : Int)) := fun k hk => by
  unfold p_slices_IndexFunc_Tag_Tag_numberOf_1_b0 p_impl_numberOf_1
  rw [dlt hk, cond_true, gd.yes (ixN hk)]
  simp only [Int.toNat_natCast]
  rw [bd.yes (e_Equal_Tag _ n (h2 _ (nth_mem hk))), bd_some, gd.yes (i64S hk (show names.length ≤ 9223372036854775807 by omega)), addI]
  by_cases h : nth names k = n <;> simp [h]
 unfold p_impl_numberOf p_slices_IndexFunc_Tag_Tag_numberOf_1
 rcases lp_scan (body := p_slices_IndexFunc_Tag_Tag_numberOf_1_b0 names n) (fun k => (k : Int)) names.length (fun k => decide (nth names k = n)) (.inl ()) (fun k => .inr (k : Int)) (fun k hk _ h => by rw [hr k hk, h]; rfl) (fun k hk _ h => by rw [hr k hk, if_pos h]) (fun _ => by unfold p_slices_IndexFunc_Tag_Tag_numberOf_1_b0; simp) with ⟨h1, h2⟩ | ⟨h1, k, hk, hb, hn, h2⟩
 ·refine .inr ⟨fun k hk => of_decide_eq_false (allN_iff.1 h1 k hk), ?_⟩
  exact numberOf_none h2
 ·refine .inl ⟨k, hk, of_decide_eq_true hb, fun j hj => of_decide_eq_false (hn j hj), ?_⟩
  exact numberOf_some (by omega) h2
def nmBad (names : List (List Tag)) (k : Nat) : Bool := !nameOk (nth names k) || !allN k (fun j => decide (nth names j = nth names k))
def namesB (names : List (List Tag)) : Bool := allN names.length (nmBad names) && decide ((names.length : Int) ≤ 6)
theorem e_impl_namesOk (names : List (List Tag)) (hw : Wt.w names ≤ 4194304) : p_impl_namesOk names = some (namesB names) := by
 obtain ⟨h1, h2, _⟩ := w_names hw
 have hr : ∀ k, k < names.length → p_impl_namesOk_b0 names (k : Int) = some (if nmBad names k then .inr (.inr false) else .inl ((k + 1 : Nat) : Int)) := fun k hk => by
  have hl := (h2 _ (nth_mem hk)).1
  unfold p_impl_namesOk_b0 nmBad
  rw [dlt hk, cond_true, gd.yes (ixN hk)]
  simp only [Int.toNat_natCast]
  rw [e_impl_NameOk _ (by unfold maxLen; omega), bd_some]
  cases nameOk (nth names k) with
  | false => rfl
  | true =>
   rw [Bool.not_true, cond_false]
   rcases e_numberOf names (nth names k) h1 (fun n hn => (h2 n hn).1) with ⟨j, hj, e1, e2, e3⟩ | ⟨e2, e3⟩
   ·rw [bd.yes e3, gd.yes (by unfold I64; omega), bd_some, gd.yes (by unfold I64; omega), addI]
    by_cases hjk : j = k
    ·subst hjk
     have : allN j (fun i => decide (nth names i = nth names j)) = true := allN_iff.2 fun i hi => decide_eq_false (e2 i hi)
     rw [this]; simp
    ·have hlt : j < k := by
      rcases Nat.lt_trichotomy j k with h | h | h
      ·exact h
      ·exact absurd h hjk
      ·exact absurd rfl (e2 k h)
     have : allN k (fun i => decide (nth names i = nth names k)) = false := allN_no hlt (decide_eq_true e1)
     rw [this, decide_eq_false (show ¬ (((j + 1 : Nat) : Int) = (k : Int) + 1) by omega)]; simp
   ·exact absurd rfl (e2 k hk)
 unfold p_impl_namesOk namesB
 rcases lp_scan (body := p_impl_namesOk_b0 names) (fun k => (k : Int)) names.length (nmBad names) (.inl ()) (fun _ => .inr false) (fun k hk _ h => by rw [hr k hk, h]; rfl) (fun k hk _ h => by rw [hr k hk, h]; rfl) (fun _ => by unfold p_impl_namesOk_b0; simp) with ⟨h1, h2⟩ | ⟨h1, k, _, _, _, h2⟩
 ·rw [show (lp (p_impl_namesOk_b0 names) 0) = _ from h2, h1]; simp [sw]
 ·rw [show (lp (p_impl_namesOk_b0 names) 0) = _ from h2, h1]; simp [sw]
theorem e_eqPost (p q : Post) (hp : p.2.length ≤ maxLen) : p_impl_IndexOk_1 p q = some (decide (p = q)) := by
 unfold p_impl_IndexOk_1
 by_cases h : p.1 = q.1
 ·rw [decide_eq_true h, cond_true, bd.yes (e_Equal_int _ _ hp), bd_some]
  by_cases h2 : p.2 = q.2
  ·have : p = q := Prod.ext h h2
   rw [decide_eq_true h2, decide_eq_true this]
  ·have : p ≠ q := fun e => h2 (by rw [e])
   rw [decide_eq_false h2, decide_eq_false this]
 ·have : p ≠ q := fun e => h (by rw [e])
  rw [decide_eq_false h, cond_false, bd_some, decide_eq_false this]
theorem e_EqualPosts (P Q : List Post) (hP : P.length ≤ maxLen) (hi : ∀ k, k < P.length → (nth P k).2.length ≤ maxLen) : p_slices_EqualFunc_Post_Post_Post_Post_IndexOk_1 P Q = some (decide (P = Q)) := by
 have hP' : P.length ≤ 9223372036854775807 := hP
 unfold p_slices_EqualFunc_Post_Post_Post_Post_IndexOk_1
 by_cases hl : P.length = Q.length
 ·have hl2 : (P.length : Int) = (Q.length : Int) := by omega
  rw [decide_eq_true hl2, Bool.not_true, cond_false]
  refine eq_loop hl (fun k hk => ?_) ?_
  ·have hk2 : k < Q.length := by omega
   unfold p_slices_EqualFunc_Post_Post_Post_Post_IndexOk_1_b0
   rw [dlt hk, cond_true, gd.yes (ixN hk), gd.yes (ixN hk2)]
   simp only [Int.toNat_natCast]
   rw [bd.yes (e_eqPost _ _ (hi k hk)), gd.yes (i64S hk hP'), addI]
   by_cases h : nth P k = nth Q k <;> simp [h]
  ·unfold p_slices_EqualFunc_Post_Post_Post_Post_IndexOk_1_b0; simp
 ·have h2 : ¬ (P.length : Int) = (Q.length : Int) := by omega
  have h3 : P ≠ Q := fun e => hl (by rw [e])
  simp [h2, h3]
def indexB (x : Index) : Bool := namesB x.1 && decide (x.2 = (indexP x.1).2)
def postsW (P : List Post) : Prop := P.length ≤ 4194304 ∧ ∀ k, k < P.length → (nth P k).2.length ≤ 4194304
theorem e_impl_IndexOk (x : Index) (hw : Wt.w x.1 ≤ 4194304) (hp : postsW x.2) : p_impl_IndexOk x = some (indexB x) := by
 obtain ⟨h1, h2, h3⟩ := w_names hw
 unfold p_impl_IndexOk indexB
 rw [bd.yes (e_impl_namesOk x.1 hw)]
 cases namesB x.1 with
 | false => rfl
 | true =>
  have hp1 := hp.1
  rw [cond_true, bd.yes (e_indexOf x.1 h1 h3), bd.yes (e_EqualPosts x.2 _ (by unfold maxLen; omega) (fun k hk => by have := hp.2 k hk; unfold maxLen; omega)), Bool.true_and]
def locBad (names : List (List Tag)) (P : List Post) (k : Nat) : Bool := decide ((nth P k).2.length = 0) || (!decide ((nth P k).2 = idsN names (nth P k).1 names.length) || (decide (0 < k) && !ltTag (nth P (k - 1)).1 (nth P k).1))
theorem nmBad_ok {names : List (List Tag)} {k : Nat} (h : nmBad names k = false) : nameOk (nth names k) = true := by
 unfold nmBad at h
 simp only [Bool.or_eq_false_iff, Bool.not_eq_false'] at h
 exact h.1
theorem e_spec_names (x : Index) (hw : Wt.w x.1 ≤ 4194304) : lp (p_spec_IndexOk_b0 x) (0, 0) = some (if allN x.1.length (nmBad x.1) then .inl ((sumN x.1.length fun i => (nth x.1 i).length : Nat) : Int) else .inr false) := by
 obtain ⟨h1, h2, h3⟩ := w_names hw
 have inner : ∀ k, k < x.1.length → (∀ i, i < k → nmBad x.1 i = false) → nameOk (nth x.1 k) = true → ∀ s : Int, lp (p_spec_IndexOk_b1 x (s, (k : Int))) 0 = some (if allN k (fun j => decide (nth x.1 j = nth x.1 k)) then .inl () else .inr false) := fun k hk hbs hok s => by
  have hr : ∀ j, j < k → p_spec_IndexOk_b1 x (s, (k : Int)) (j : Int) = some (if decide (nth x.1 j = nth x.1 k) then .inr (.inr false) else .inl ((j + 1 : Nat) : Int)) := fun j hj => by
   have hj2 : j < x.1.length := by omega
   unfold p_spec_IndexOk_b1
   rw [decide_eq_true (show ((j : Int) < (k : Int)) by omega), cond_true]
   simp only [Int.toNat_natCast]
   rw [bd.yes (e_spec_l3Text _ (h2 _ (nth_mem hk)).2), gd.yes (ixN hj2), bd.yes (e_spec_l3Text _ (h2 _ (nth_mem hj2)).2), text_eq hok (nmBad_ok (hbs j hj)), gd.yes (by unfold I64; omega), addI]
   by_cases h : nth x.1 j = nth x.1 k
   ·rw [decide_eq_true h, decide_eq_true h.symm]; rfl
   ·rw [decide_eq_false h, decide_eq_false (fun e => h e.symm)]; rfl
  rcases lp_scan (body := p_spec_IndexOk_b1 x (s, (k : Int))) (fun j => (j : Int)) k (fun j => decide (nth x.1 j = nth x.1 k)) (.inl ()) (fun _ => .inr false) (fun j hj _ h => by rw [hr j hj, h]; rfl) (fun j hj _ h => by rw [hr j hj, h]; rfl) (fun _ => by unfold p_spec_IndexOk_b1; rw [decide_eq_false (show ¬ ((k : Int) < (k : Int)) by omega)]; rfl) with ⟨h1, h2⟩ | ⟨h1, _, _, _, _, h2⟩
  ·rw [show (lp (p_spec_IndexOk_b1 x (s, (k : Int))) 0) = _ from h2, h1]; rfl
  ·rw [show (lp (p_spec_IndexOk_b1 x (s, (k : Int))) 0) = _ from h2, h1]; rfl
 have step : ∀ k, k < x.1.length → (∀ i, i < k → nmBad x.1 i = false) → p_spec_IndexOk_b0 x (((sumN k fun i => (nth x.1 i).length : Nat) : Int), (k : Int)) = some (if nmBad x.1 k then .inr (.inr false) else .inl (((sumN (k + 1) fun i => (nth x.1 i).length : Nat) : Int), ((k + 1 : Nat) : Int))) := fun k hk hbs => by
  have hl := (h2 _ (nth_mem hk)).1
  have hs : (sumN k fun i => (nth x.1 i).length) + (nth x.1 k).length ≤ sumN x.1.length fun i => (nth x.1 i).length := sumN_lt (f := fun i => (nth x.1 i).length) hk
  unfold p_spec_IndexOk_b0 nmBad
  rw [dlt hk, cond_true, gd.yes (ixN hk)]
  simp only [Int.toNat_natCast]
  rw [bd.yes (e_spec_NameOk _ (by unfold maxLen; omega))]
  cases hok : nameOk (nth x.1 k) with
  | false => rfl
  | true =>
   rw [Bool.not_true, cond_false, bd.yes (inner k hk hbs hok _)]
   cases allN k (fun j => decide (nth x.1 j = nth x.1 k)) with
   | false => rfl
   | true =>
    show gd (I64 _) (gd (I64 _) (some _)) = _
    rw [gd.yes (by unfold I64; omega), gd.yes (by unfold I64; omega), addI]
    have : ((sumN k fun i => (nth x.1 i).length : Nat) : Int) + ((nth x.1 k).length : Int) = ((sumN (k + 1) fun i => (nth x.1 i).length : Nat) : Int) := by
     show _ = ((((sumN k fun i => (nth x.1 i).length) + (nth x.1 k).length : Nat)) : Int)
     omega
    rw [this]; rfl
 rcases lp_scan (body := p_spec_IndexOk_b0 x) (fun k => (((sumN k fun i => (nth x.1 i).length : Nat) : Int), (k : Int))) x.1.length (nmBad x.1) (.inl ((sumN x.1.length fun i => (nth x.1 i).length : Nat) : Int)) (fun _ => .inr false) (fun k hk hb h => by rw [step k hk hb, h]; rfl) (fun k hk hb h => by rw [step k hk hb, h]; rfl) (fun _ => by unfold p_spec_IndexOk_b0; rw [decide_eq_false (show ¬ ((x.1.length : Int) < (x.1.length : Int)) by omega)]; rfl) with ⟨h1, h2⟩ | ⟨h1, _, _, _, _, h2⟩
 ·rw [show (lp (p_spec_IndexOk_b0 x) (0, 0)) = _ from h2, h1]; rfl
 ·rw [show (lp (p_spec_IndexOk_b0 x) (0, 0)) = _ from h2, h1]; rfl
theorem e_spec_posts (x : Index) (hw : Wt.w x.1 ≤ 4194304) (hp : postsW x.2) (n0 : Nat) (hn0 : n0 ≤ 4194304) : lp (p_spec_IndexOk_b2 x) ((n0 : Int), 0) = some (if allN x.2.length (locBad x.1 x.2) then .inl ((n0 : Int) - ((sumN x.2.length fun i => (nth x.2 i).2.length : Nat) : Int)) else .inr false) := by
 obtain ⟨h1, h2, h3⟩ := w_names hw
 obtain ⟨p1, p2⟩ := hp
 have hs : ∀ k, k ≤ x.2.length → (sumN k fun i => (nth x.2 i).2.length) ≤ k * 4194304 := by
  intro k
  induction k with
  | zero => intro _; exact Nat.le_refl _
  | succ k ih =>
   intro hk
   have := ih (by omega)
   have h4 := p2 k (by omega)
   show (sumN k fun i => (nth x.2 i).2.length) + (nth x.2 k).2.length ≤ _
   omega
 have step : ∀ k, k < x.2.length → p_spec_IndexOk_b2 x ((n0 : Int) - ((sumN k fun i => (nth x.2 i).2.length : Nat) : Int), (k : Int)) = some (if locBad x.1 x.2 k then .inr (.inr false) else .inl ((n0 : Int) - ((sumN (k + 1) fun i => (nth x.2 i).2.length : Nat) : Int), ((k + 1 : Nat) : Int))) := fun k hk => by
  have hl := p2 k hk
  have hsk := hs k (by omega)
  have hkk : k * 4194304 ≤ 4194304 * 4194304 := Nat.mul_le_mul_right _ (by omega)
  have es : ((n0 : Int) - ((sumN k fun i => (nth x.2 i).2.length : Nat) : Int)) - ((nth x.2 k).2.length : Int) = (n0 : Int) - ((sumN (k + 1) fun i => (nth x.2 i).2.length : Nat) : Int) := by
   show _ = (n0 : Int) - ((((sumN k fun i => (nth x.2 i).2.length) + (nth x.2 k).2.length : Nat)) : Int)
   omega
  have fin : (gd (I64 (((n0 : Int) - ((sumN k fun i => (nth x.2 i).2.length : Nat) : Int)) - ((nth x.2 k).2.length : Int))) <| gd (I64 ((k : Int) + 1)) <| (some (.inl (((n0 : Int) - ((sumN k fun i => (nth x.2 i).2.length : Nat) : Int)) - ((nth x.2 k).2.length : Int), (k : Int) + 1)) : Option ((Int × Int) ⊕ (Int ⊕ Bool)))) = some (.inl ((n0 : Int) - ((sumN (k + 1) fun i => (nth x.2 i).2.length : Nat) : Int), ((k + 1 : Nat) : Int))) := by
   rw [gd.yes (by unfold I64; omega), gd.yes (by unfold I64; omega), es, addI]
  unfold p_spec_IndexOk_b2 locBad
  rw [dlt hk, cond_true, gd.yes (ixN hk)]
  simp only [Int.toNat_natCast]
  by_cases hz : (nth x.2 k).2.length = 0
  ·rw [decide_eq_true (show (((nth x.2 k).2.length : Int) = 0) by omega), decide_eq_true hz]; rfl
  ·rw [decide_eq_false (show ¬ (((nth x.2 k).2.length : Int) = 0) by omega), decide_eq_false hz, cond_false, bd.yes (e_spec_l11Ids x.1 _ h1 (fun n hn => (h2 n hn).1)), bd.yes (e_spec_l11Same _ _ (by unfold maxLen; omega))]
   by_cases hi : (nth x.2 k).2 = idsN x.1 (nth x.2 k).1 x.1.length
   ·rw [decide_eq_true hi, Bool.not_true, cond_false]
    by_cases h0 : 0 < k
    ·have e1 : (k : Int) - 1 = ((k - 1 : Nat) : Int) := by omega
     rw [decide_eq_true (show (0 : Int) < (k : Int) by omega), cond_true, gd.yes (by unfold I64; omega), e1, gd.yes (ixN (show k - 1 < x.2.length by omega))]
     simp only [Int.toNat_natCast]
     rw [bd.yes (e_spec_l11Less _ _), decide_eq_true h0]
     cases ltTag (nth x.2 (k - 1)).1 (nth x.2 k).1 with
     | false => rfl
     | true => exact fin
    ·rw [decide_eq_false (show ¬ (0 : Int) < (k : Int) by omega), cond_false, decide_eq_false h0]
     exact fin
   ·rw [decide_eq_false hi]; rfl
 have e0 : ((n0 : Int), (0 : Int)) = ((n0 : Int) - ((sumN 0 fun i => (nth x.2 i).2.length : Nat) : Int), ((0 : Nat) : Int)) := by
  show _ = ((n0 : Int) - ((0 : Nat) : Int), ((0 : Nat) : Int)); simp
 rcases lp_scan (body := p_spec_IndexOk_b2 x) (fun k => ((n0 : Int) - ((sumN k fun i => (nth x.2 i).2.length : Nat) : Int), (k : Int))) x.2.length (locBad x.1 x.2) (.inl ((n0 : Int) - ((sumN x.2.length fun i => (nth x.2 i).2.length : Nat) : Int))) (fun _ => .inr false) (fun k hk hb h => by rw [step k hk, h]; rfl) (fun k hk hb h => by rw [step k hk, h]; rfl) (fun _ => by unfold p_spec_IndexOk_b2; rw [decide_eq_false (show ¬ ((x.2.length : Int) < (x.2.length : Int)) by omega)]; rfl) with ⟨h1, h2⟩ | ⟨h1, _, _, _, _, h2⟩
 ·rw [e0, h2, h1]; rfl
 ·rw [e0, h2, h1]; rfl
theorem sumL_N (P : List Post) : sumL P = sumN P.length fun i => (nth P i).2.length := by
 have : ∀ m, m ≤ P.length → sumL (P.take m) = sumN m fun i => (nth P i).2.length := by
  intro m
  induction m with
  | zero => intro _; rfl
  | succ m ih =>
   intro hm
   rw [take_succ_nth (by omega), sumL_append, ih (by omega)]
   show _ + ((nth P m).2.length + 0) = _
   rfl
 have h := this P.length (Nat.le_refl _)
 rwa [List.take_length] at h
theorem names_dist {names : List (List Tag)} (h : allN names.length (nmBad names) = true) : dist names := fun n hn => by
 obtain ⟨i, hi, rfl⟩ := List.mem_iff_getElem.1 hn
 rw [← nth_eq names i hi]
 exact nameOk_nodup (nmBad_ok (allN_iff.1 h i hi))
theorem e_spec_IndexOk (x : Index) (hw : Wt.w x.1 ≤ 4194304) (hp : postsW x.2) : p_spec_IndexOk x = some (indexB x) := by
 obtain ⟨h1, h2, h3⟩ := w_names hw
 unfold p_spec_IndexOk indexB namesB
 by_cases h6 : 6 < x.1.length
 ·rw [decide_eq_true (show (6 : Int) < (x.1.length : Int) by omega), cond_true, decide_eq_false (show ¬ ((x.1.length : Int) ≤ 6) by omega), Bool.and_false, Bool.false_and]
 ·rw [decide_eq_false (show ¬ (6 : Int) < (x.1.length : Int) by omega), cond_false, decide_eq_true (show ((x.1.length : Int) ≤ 6) by omega), Bool.and_true, bd.yes (e_spec_names x hw)]
  cases hall : allN x.1.length (nmBad x.1) with
  | false => rfl
  | true =>
   have hd := names_dist hall
   have hC := canon_posts hd
   show bd (lp (p_spec_IndexOk_b2 x) ((sumN x.1.length fun i => (nth x.1 i).length : Nat), 0)) _ = _
   rw [bd.yes (e_spec_posts x hw hp _ h3), Bool.true_and]
   have hsC : sumL (indexP x.1).2 = sumN x.1.length fun i => (nth x.1 i).length := by
    rw [← sumL_posts]
    exact sumL_perm (List.mergeSort_perm _ _)
   have hsP := sumL_N x.2
   cases hloc : allN x.2.length (locBad x.1 x.2) with
   | false =>
    have hne : x.2 ≠ (indexP x.1).2 := fun e => by
     have : allN x.2.length (locBad x.1 x.2) = true := allN_iff.2 fun k hk => by
      have hm : nth x.2 k ∈ (indexP x.1).2 := e ▸ nth_mem hk
      obtain ⟨i1, i2⟩ := hC.ids _ hm
      unfold locBad
      rw [decide_eq_false (fun h0 => i2 (List.eq_nil_of_length_eq_zero h0)), decide_eq_true i1]
      by_cases h0 : 0 < k
      ·have ho := hC.ord
       rw [← e, List.pairwise_iff_getElem] at ho
       have := ho (k - 1) k (by omega) hk (by omega)
       rw [← nth_eq x.2 (k - 1) (by omega), ← nth_eq x.2 k hk] at this
       rw [this]; simp
      ·rw [decide_eq_false h0]; rfl
     rw [hloc] at this; cases this
    rw [decide_eq_false hne]; rfl
   | true =>
    have hk := allN_iff.1 hloc
    have adj : ∀ i, i + 1 < x.2.length → ltTag (nth x.2 i).1 (nth x.2 (i + 1)).1 = true := fun i hi => by
     have := hk (i + 1) hi
     unfold locBad at this
     simp only [Nat.zero_lt_succ, decide_true, Bool.true_and, Nat.add_sub_cancel, Bool.or_eq_false_iff, Bool.not_eq_false'] at this
     exact this.2.2
    have lt : ∀ d i, i + d + 1 < x.2.length → ltTag (nth x.2 i).1 (nth x.2 (i + d + 1)).1 = true := by
     intro d
     induction d with
     | zero => intro i hi; exact adj i hi
     | succ d ih => intro i hi; exact ltTag_trans (ih i (by omega)) (adj (i + d + 1) (by omega))
    have ord : x.2.Pairwise fun a b => ltTag a.1 b.1 = true := by
     rw [List.pairwise_iff_getElem]
     intro i j hi hj hij
     obtain ⟨d, rfl⟩ : ∃ d, j = i + d + 1 := ⟨j - i - 1, by omega⟩
     have := lt d i hj
     rwa [nth_eq x.2 i hi, nth_eq x.2 _ hj] at this
    have ids : ∀ p ∈ x.2, p.2 = idsN x.1 p.1 x.1.length ∧ p.2 ≠ [] := fun p hp' => by
     obtain ⟨i, hi, rfl⟩ := List.mem_iff_getElem.1 hp'
     have := hk i hi
     unfold locBad at this
     simp only [Bool.or_eq_false_iff, decide_eq_false_iff_not, Bool.not_eq_false', decide_eq_true_eq] at this
     rw [nth_eq x.2 i hi] at this
     exact ⟨this.2.1, fun e => this.1 (by rw [e]; rfl)⟩
    show some (decide (((sumN x.1.length fun i => (nth x.1 i).length : Nat) : Int) - ((sumN x.2.length fun i => (nth x.2 i).2.length : Nat) : Int) = 0)) = _
    by_cases hE : x.2 = (indexP x.1).2
    ·have : sumL x.2 = sumL (indexP x.1).2 := by rw [← hE]
     rw [decide_eq_true hE, decide_eq_true (by omega)]
    ·have hne : sumL x.2 ≠ sumL (indexP x.1).2 := fun e => hE (canon_of_sum hC ord ids e)
     rw [decide_eq_false hE, decide_eq_false (by omega)]
theorem w_index {x : Index} (hw : Wt.w x ≤ 1048576) : Wt.w x.1 ≤ 4194304 ∧ postsW x.2 := by
 have e : Wt.w x = Wt.w x.1 + Wt.w x.2 := rfl
 have e2 : Wt.w x.2 = x.2.length + sumN x.2.length fun i => Wt.w (nth x.2 i) := rfl
 refine ⟨by omega, by omega, fun k hk => ?_⟩
 have h1 := sumN_get (f := fun i => Wt.w (nth x.2 i)) hk
 have h2 : Wt.w (nth x.2 k) = Wt.w (nth x.2 k).1 + Wt.w (nth x.2 k).2 := rfl
 have h3 : (nth x.2 k).2.length ≤ Wt.w (nth x.2 k).2 := wL_le
 have h4 : Wt.w (nth x.2 k) ≤ sumN x.2.length fun i => Wt.w (nth x.2 i) := h1
 omega
theorem indexB_canon {x : Index} (h : indexB x = true) : Canon x.1 x.2 ∧ allN x.1.length (nmBad x.1) = true ∧ x.1.length ≤ 6 ∧ x.2 = (indexP x.1).2 := by
 unfold indexB namesB at h
 simp only [Bool.and_eq_true, decide_eq_true_eq] at h
 obtain ⟨⟨h1, h2⟩, h3⟩ := h
 exact ⟨by rw [h3]; exact canon_posts (names_dist h1), h1, by omega, h3⟩
def findN (names : List (List Tag)) (f : List Cond) : Nat → List Int
 | 0 => []
 | m + 1 => findN names f m ++ (if fitsP f (nth names m) then [(m : Int) + 1] else [])
theorem findN_succ (names : List (List Tag)) (f : List Cond) (m : Nat) : findN names f (m + 1) = findN names f m ++ (if fitsP f (nth names m) then [(m : Int) + 1] else []) := rfl
theorem findN_len (names : List (List Tag)) (f : List Cond) : ∀ m, (findN names f m).length ≤ m
 | 0 => Nat.le_refl _
 | m + 1 => by
  have := findN_len names f m
  rw [findN_succ, List.length_append]
  split <;> simp <;> omega
def findP (x : Index) (f : List Cond) : List Int := if indexB x && filterOk f then findN x.1 f x.1.length else []
theorem e_spec_l11Find (x : Index) (f : List Cond) (hf : f.length ≤ 4194304) (h1 : x.1.length ≤ 4194304) (h2 : ∀ n ∈ x.1, n.length ≤ 4194304) : p_spec_l11Find x f = some (findN x.1 f x.1.length) := by
 unfold p_spec_l11Find
 rw [show (([] : List Int), (0 : Int)) = (findN x.1 f 0, ((0 : Nat) : Int)) from rfl, lp_for (fun k => (findN x.1 f k, (k : Int))) x.1.length (findN x.1 f x.1.length) (fun m hm => by
  have hl := h2 _ (nth_mem hm)
  have hi := findN_len x.1 f m
  unfold p_spec_l11Find_b0
  rw [dlt hm, cond_true, gd.yes (ixN hm)]
  simp only [Int.toNat_natCast]
  rw [bd.yes (e_spec_l3Fits f (nth x.1 m) (by unfold maxLen; omega) (by unfold maxLen; omega))]
  cases hc : fitsP f (nth x.1 m) with
  | true =>
   rw [cond_true, gd.yes (by unfold I64; omega), gd.yes (by unfold room; omega), findN_succ, if_pos hc, addI]
  | false =>
   rw [cond_false, gd.yes (by unfold I64; omega), addI, findN_succ, if_neg (by rw [hc]; simp), List.append_nil]) (by
  unfold p_spec_l11Find_b0; rw [decide_eq_false (show ¬ ((x.1.length : Int) < (x.1.length : Int)) by omega)]; rfl)]
 rfl
theorem e_findLoop (x : Index) (f : List Cond) (hf : f.length ≤ 4194304) (h1 : x.1.length ≤ 4194304) (h2 : ∀ n ∈ x.1, n.length ≤ 4194304) (hok : ∀ k, k < x.1.length → nameOk (nth x.1 k) = true) : lp (p_impl_IndexFind_b0 x f) (([] : List Int), 0) = some (if filterOk f then findN x.1 f x.1.length else []) := by
 have hlen : ∀ m, (if filterOk f then findN x.1 f m else []).length ≤ m := fun m => by
  split
  ·exact findN_len x.1 f m
  ·exact Nat.zero_le _
 have h0 : (([] : List Int), (0 : Int)) = ((if filterOk f then findN x.1 f 0 else []), ((0 : Nat) : Int)) := by cases filterOk f <;> rfl
 rw [h0, lp_for (fun k => ((if filterOk f then findN x.1 f k else []), (k : Int))) x.1.length (if filterOk f then findN x.1 f x.1.length else []) (fun m hm => by
  have hl := h2 _ (nth_mem hm)
  have hi := hlen m
  unfold p_impl_IndexFind_b0
  rw [dlt hm, cond_true, gd.yes (ixN hm)]
  simp only [Int.toNat_natCast]
  rw [bd.yes (e_impl_FilterFits f (nth x.1 m) (by unfold maxLen; omega) (by unfold maxLen; omega)), hok m hm, Bool.true_and]
  cases hff : filterOk f with
  | false =>
   rw [Bool.false_and, cond_false, gd.yes (by unfold I64; omega), addI]; rfl
  | true =>
   rw [hff] at hi
   simp only [if_true] at hi
   rw [Bool.true_and]
   simp only [if_true]
   cases hc : fitsP f (nth x.1 m) with
   | true =>
    rw [cond_true, gd.yes (by unfold I64; omega), gd.yes (by unfold room; omega), findN_succ, if_pos hc, addI]
   | false =>
    rw [cond_false, gd.yes (by unfold I64; omega), addI, findN_succ, if_neg (by rw [hc]; simp), List.append_nil]) (by
  unfold p_impl_IndexFind_b0; rw [decide_eq_false (show ¬ ((x.1.length : Int) < (x.1.length : Int)) by omega)]; rfl)]
theorem e_impl_IndexFind (x : Index) (f : List Cond) (hw : Wt.w x.1 ≤ 4194304) (hp : postsW x.2) (hf : f.length ≤ 4194304) : p_impl_IndexFind x f = some (findP x f) := by
 obtain ⟨h1, h2, h3⟩ := w_names hw
 unfold p_impl_IndexFind findP
 rw [bd.yes (e_impl_IndexOk x hw hp)]
 cases h : indexB x with
 | false => rfl
 | true =>
  have hC := (indexB_canon h).2.1
  rw [Bool.not_true, cond_false, bd.yes (e_findLoop x f hf h1 (fun n hn => (h2 n hn).1) (fun k hk => nmBad_ok (allN_iff.1 hC k hk))), Bool.true_and]
theorem sumN_c {f : Nat → Nat} {c : Nat} : ∀ {n}, (∀ i, i < n → f i ≤ c) → sumN n f ≤ n * c
 | 0, _ => Nat.zero_le _
 | n + 1, h => by
  have h1 := sumN_c (n := n) fun i hi => h i (by omega)
  have h2 := h n (Nat.lt_succ_self _)
  show sumN n f + f n ≤ _
  rw [Nat.add_mul]; omega
theorem bd_swl {α β γ : Type} {f : α → Option γ} {g : β → Option γ} {e : α} : bd (some (.inl e)) (sw f g) = f e := rfl
theorem bd_swr {α β γ : Type} {f : α → Option γ} {g : β → Option γ} {e : β} : bd (some (.inr e)) (sw f g) = g e := rfl
def insI (id : Int) (o : List Row) (m : Sample) : List Row := if m.1 = id then ins m.2 o else o
def memR (mem : List Sample) (id : Int) (o : List Row) : List Row := mem.foldl (insI id) o
def parR (parts : List Part) (id : Int) : List Row := parts.foldl (fun o p => mg o (partOf p id)) []
def rowsS (s : Store) (id : Int) : List Row := memR s.2.2 id (parR s.2.1 id)
theorem partOf_ok (p : Part) (id : Int) : blockOk (partOf p id) = true := by
 unfold partOf
 cases h : partOk p with
 | true => rw [if_pos rfl]; exact rowsOf_ok h id
 | false => rw [if_neg (by simp)]; rfl
theorem partOf_24 (p : Part) (id : Int) : (partOf p id).length ≤ 24 := (blockOk_iff.1 (partOf_ok p id)).2.2
theorem parF_len (id : Int) : ∀ (l : List Part) (o : List Row), (l.foldl (fun o p => mg o (partOf p id)) o).length ≤ o.length + 24 * l.length
 | [], _ => Nat.le_refl _
 | p :: l, o => by
  have h1 := parF_len id l (mg o (partOf p id))
  have h2 := (mg_len (partOf p id) o).2
  have h3 := partOf_24 p id
  rw [List.foldl_cons, List.length_cons]; omega
theorem parR_len (l : List Part) (id : Int) : (parR l id).length ≤ 24 * l.length := by
 have := parF_len id l []
 rw [List.length_nil] at this
 unfold parR; omega
theorem parF_asc (id : Int) : ∀ (l : List Part) (o : List Row), Asc o → Asc (l.foldl (fun o p => mg o (partOf p id)) o)
 | [], _, h => h
 | _ :: l, _, h => parF_asc id l _ (mg_asc h)
theorem parR_asc (l : List Part) (id : Int) : Asc (parR l id) := parF_asc id l [] nil_asc
theorem insI_len (id : Int) (o : List Row) (m : Sample) : (insI id o m).length ≤ o.length + 1 := by
 unfold insI
 split
 ·exact (ins_len m.2 o).2
 ·omega
theorem insI_asc {id : Int} {o : List Row} (m : Sample) (h : Asc o) : Asc (insI id o m) := by
 unfold insI
 split
 ·exact ins_asc m.2 h
 ·exact h
theorem memR_len (id : Int) : ∀ (l : List Sample) (o : List Row), (memR l id o).length ≤ o.length + l.length
 | [], _ => Nat.le_refl _
 | m :: l, o => by
  have h1 := memR_len id l (insI id o m)
  have h2 := insI_len id o m
  unfold memR at h1 ⊢
  rw [List.foldl_cons, List.length_cons]; omega
theorem memR_asc (id : Int) : ∀ (l : List Sample) (o : List Row), Asc o → Asc (memR l id o)
 | [], _, h => h
 | m :: l, _, h => memR_asc id l _ (insI_asc m h)
theorem memR_take (l : List Sample) (id : Int) (o : List Row) {k : Nat} (hk : k < l.length) : memR (l.take (k + 1)) id o = insI id (memR (l.take k) id o) (nth l k) := foldl_take _ _ _ _ hk
theorem e_rowsIn (r a : List Row) (ha : a.length ≤ 500) (hr : r.length ≤ 100) : lp (p_impl_Store_rows_b1 r) (a, 0) = some (mg a r) := by
 have := lp_for (body := p_impl_Store_rows_b1 r) (fun k => (mg a (r.take k), (k : Int))) r.length (mg a r) (fun k hk => by
  have hl := mg_take_len a r k (by omega)
  unfold p_impl_Store_rows_b1
  rw [dlt hk, cond_true, gd.yes (ixN hk)]
  simp only [Int.toNat_natCast]
  rw [bd.yes (e_put _ (nth r k) (by omega)), gd.yes (i64S hk (by omega)), mg_take a r k hk, addI]) (by
  unfold p_impl_Store_rows_b1
  rw [decide_eq_false (show ¬ ((r.length : Int) < (r.length : Int)) by omega), cond_false, List.take_length])
 exact this
theorem e_impl_rows (s : Store) (id : Int) (hp : s.2.1.length ≤ 6) (hm : s.2.2.length ≤ 30) (hP : ∀ p ∈ s.2.1, Dp.ok p ∧ Wt.w p ≤ 1048576) : p_impl_Store_rows s id = some (rowsS s id) := by
 have h0 : lp (p_impl_Store_rows_b0 s id) (([] : List Row), 0) = some (parR s.2.1 id) :=
  lp_for (body := p_impl_Store_rows_b0 s id) (fun k => ((s.2.1.take k).foldl (fun o p => mg o (partOf p id)) [], (k : Int))) s.2.1.length (parR s.2.1 id) (fun k hk => by
   have hl := parR_len (s.2.1.take k) id
   rw [List.length_take, Nat.min_eq_left (by omega)] at hl
   unfold parR at hl
   obtain ⟨k1, k2⟩ := hP _ (nth_mem hk)
   have h24 := partOf_24 (nth s.2.1 k) id
   unfold p_impl_Store_rows_b0
   rw [dlt hk, cond_true, gd.yes (ixN hk)]
   simp only [Int.toNat_natCast]
   rw [bd.yes (e_impl_PartOf (nth s.2.1 k) id k1 k2), bd.yes (e_rowsIn _ _ (by omega) (by omega)), gd.yes (i64S hk (by omega)), foldl_take _ _ _ _ hk, addI]) (by
   unfold p_impl_Store_rows_b0
   rw [decide_eq_false (show ¬ ((s.2.1.length : Int) < (s.2.1.length : Int)) by omega), cond_false, List.take_length]; rfl)
 have hpl := parR_len s.2.1 id
 have h1 : lp (p_impl_Store_rows_b2 s id) (parR s.2.1 id, 0) = some (rowsS s id) :=
  lp_for (body := p_impl_Store_rows_b2 s id) (fun k => (memR (s.2.2.take k) id (parR s.2.1 id), (k : Int))) s.2.2.length (rowsS s id) (fun k hk => by
   have hl := memR_len id (s.2.2.take k) (parR s.2.1 id)
   rw [List.length_take, Nat.min_eq_left (by omega)] at hl
   unfold p_impl_Store_rows_b2
   rw [dlt hk, cond_true, gd.yes (ixN hk), memR_take _ _ _ hk]
   simp only [Int.toNat_natCast]
   by_cases he : (nth s.2.2 k).1 = id
   ·rw [decide_eq_true he, cond_true, bd.yes (e_put _ _ (by omega)), gd.yes (i64S hk (by omega)), addI]
    unfold insI; rw [if_pos he]
   ·rw [decide_eq_false he, cond_false, gd.yes (i64S hk (by omega)), addI]
    unfold insI; rw [if_neg he]) (by
   unfold p_impl_Store_rows_b2
   rw [decide_eq_false (show ¬ ((s.2.2.length : Int) < (s.2.2.length : Int)) by omega), cond_false, List.take_length]; rfl)
 unfold p_impl_Store_rows
 rw [bd.yes h0, bd.yes h1]
theorem e_l2M (a b : List Row) (hab : a.length + b.length ≤ 100000) (h : Asc a) : p_spec_l2Merge a b = some (mg a b) := by
 unfold p_spec_l2Merge
 have g1 : room (([] : List Row).length + a.length) := by rw [List.length_nil]; unfold room; omega
 rw [gd.yes g1, List.nil_append]
 have : lp (p_spec_l2Merge_b0 b) (a, 0) = some (mg a b) := lp_for (body := p_spec_l2Merge_b0 b) (fun k => (mg a (b.take k), (k : Int))) b.length (mg a b) (fun k hk => by
  unfold p_spec_l2Merge_b0
  have hl := mg_take_len a b k (by omega)
  rw [dlt hk, cond_true, gd.yes (ixN hk)]
  simp only [Int.toNat_natCast]
  rw [bd.yes (e_l2Put _ (nth b k) (by omega)), l2_ins _ _ (mg_asc h), gd.yes (i64S hk (by omega)), mg_take a b k hk, addI]) (by
  unfold p_spec_l2Merge_b0
  rw [decide_eq_false (show ¬ ((b.length : Int) < (b.length : Int)) by omega), cond_false, List.take_length])
 rw [bd.yes this]
theorem partOf_yes {p : Part} (h : partOk p = true) (id : Int) : partOf p id = rowsOf p id := by unfold partOf; rw [if_pos h]
theorem e_spec_rows (s : Store) (id : Int) (hp : s.2.1.length ≤ 6) (hm : s.2.2.length ≤ 30) (hP : ∀ p ∈ s.2.1, Dp.ok p ∧ Wt.w p ≤ 1048576) (hK : ∀ p ∈ s.2.1, partOk p = true) : p_spec_l13Rows s id = some (rowsS s id) := by
 have h0 : lp (p_spec_l13Rows_b0 s id) (([] : List Row), 0) = some (parR s.2.1 id) :=
  lp_for (body := p_spec_l13Rows_b0 s id) (fun k => ((s.2.1.take k).foldl (fun o p => mg o (partOf p id)) [], (k : Int))) s.2.1.length (parR s.2.1 id) (fun k hk => by
   have hl := parR_len (s.2.1.take k) id
   have hasc := parR_asc (s.2.1.take k) id
   rw [List.length_take, Nat.min_eq_left (by omega)] at hl
   unfold parR at hl hasc
   obtain ⟨k1, k2⟩ := hP _ (nth_mem hk)
   have hk3 := hK _ (nth_mem hk)
   have h24 := partOf_24 (nth s.2.1 k) id
   have hlen := partOk_len' hk3
   unfold p_spec_l13Rows_b0
   rw [dlt hk, cond_true, gd.yes (ixN hk)]
   simp only [Int.toNat_natCast]
   rw [bd.yes (e_l12Of (nth s.2.1 k) id k1 hlen), ← partOf_yes hk3 id, bd.yes (e_l2M _ _ (by omega) hasc), gd.yes (i64S hk (by omega)), foldl_take _ _ _ _ hk, addI]) (by
   unfold p_spec_l13Rows_b0
   rw [decide_eq_false (show ¬ ((s.2.1.length : Int) < (s.2.1.length : Int)) by omega), cond_false, List.take_length]; rfl)
 have hpl := parR_len s.2.1 id
 have h1 : lp (p_spec_l13Rows_b1 s id) (parR s.2.1 id, 0) = some (rowsS s id) :=
  lp_for (body := p_spec_l13Rows_b1 s id) (fun k => (memR (s.2.2.take k) id (parR s.2.1 id), (k : Int))) s.2.2.length (rowsS s id) (fun k hk => by
   have hl := memR_len id (s.2.2.take k) (parR s.2.1 id)
   have hasc := memR_asc id (s.2.2.take k) (parR s.2.1 id) (parR_asc _ _)
   rw [List.length_take, Nat.min_eq_left (by omega)] at hl
   unfold p_spec_l13Rows_b1
   rw [dlt hk, cond_true, gd.yes (ixN hk), memR_take _ _ _ hk]
   simp only [Int.toNat_natCast]
   by_cases he : (nth s.2.2 k).1 = id
   ·rw [decide_eq_true he, cond_true, bd.yes (e_l2Put _ _ (by omega)), l2_ins _ _ hasc, gd.yes (i64S hk (by omega)), addI]
    unfold insI; rw [if_pos he]
   ·rw [decide_eq_false he, cond_false, gd.yes (i64S hk (by omega)), addI]
    unfold insI; rw [if_neg he]) (by
   unfold p_spec_l13Rows_b1
   rw [decide_eq_false (show ¬ ((s.2.2.length : Int) < (s.2.2.length : Int)) by omega), cond_false, List.take_length]; rfl)
 unfold p_spec_l13Rows
 rw [bd.yes h0, bd.yes h1]
theorem e_Max (l : List Int) (h : l.Pairwise (· < ·)) (h0 : 0 < l.length) (hl : l.length ≤ 1048576) : p_slices_Max_int_int l = some (nth l (l.length - 1)) := by
 unfold p_slices_Max_int_int
 rw [decide_eq_false (show ¬ ((l.length : Int) < 1) by omega), cond_false, gd.yes (show ix 0 l.length by unfold ix; omega)]
 have : lp (p_slices_Max_int_int_b0 l) (nth l 0, ((0 : Nat) : Int) + 1) = some (nth l (l.length - 1)) := lp_for (body := p_slices_Max_int_int_b0 l) (fun k => (nth l k, (k : Int) + 1)) (l.length - 1) (nth l (l.length - 1)) (fun k hk => by
  have hk1 : k + 1 < l.length := by omega
  have hlt : nth l k < nth l (k + 1) := by
   rw [nth_eq l k (by omega), nth_eq l (k + 1) hk1]
   exact List.pairwise_iff_getElem.1 h k (k + 1) (by omega) hk1 (by omega)
  unfold p_slices_Max_int_int_b0
  rw [decide_eq_true (show (k : Int) + 1 < (l.length : Int) by omega), cond_true, addI, gd.yes (ixN hk1), gd.yes (show I64 (((k + 1 : Nat) : Int) + 1) by unfold I64; omega)]
  simp only [Int.toNat_natCast]
  rw [show max (nth l k) (nth l (k + 1)) = nth l (k + 1) by omega]) (by
  unfold p_slices_Max_int_int_b0
  rw [decide_eq_false (show ¬ (((l.length - 1 : Nat) : Int) + 1 < (l.length : Int)) by omega), cond_false])
 have e1 : ((0 : Nat) : Int) + 1 = 1 := rfl
 rw [e1] at this
 rw [bd.yes this]
def lastId (p : Part) : Int := nth p.1 (p.1.length - 1)
def badP (n : Nat) (p : Part) : Bool := !partOk p || (decide (p.1.length = 0) || decide ((n : Int) < lastId p))
def badM (n : Nat) (m : Sample) : Bool := !inn 1 m.1 (n : Int) || !rowOk m.2
def badR (s : Store) (k : Nat) : Bool := decide (24 < (rowsS s ((k : Int) + 1)).length)
def storeB (s : Store) : Bool := indexB s.1 && (decide (s.2.1.length ≤ 6) && (decide (s.2.2.length ≤ 20) && (allN s.2.1.length (fun k => badP s.1.1.length (nth s.2.1 k)) && (allN s.2.2.length (fun k => badM s.1.1.length (nth s.2.2 k)) && allN s.1.1.length (badR s)))))
structure okS (s : Store) : Prop where
 w1 : Wt.w s.1.1 ≤ 4194304
 w2 : postsW s.1.2
 pl : s.2.1.length ≤ 1048576
 ml : s.2.2.length ≤ 1048576
 p : ∀ p ∈ s.2.1, Dp.ok p ∧ Wt.w p ≤ 1048576
theorem badP_ok {n : Nat} {p : Part} (h : badP n p = false) : partOk p = true ∧ 0 < p.1.length ∧ lastId p ≤ (n : Int) := by
 unfold badP at h
 simp only [Bool.or_eq_false_iff, Bool.not_eq_false', decide_eq_false_iff_not] at h
 exact ⟨h.1, by omega, by omega⟩
theorem e_badP (n : Nat) (p : Part) (_ : Dp.ok p) (hl : p.1.length ≤ 1048576) (h1 : p_impl_PartOk p = some (partOk p)) : (bd (p_impl_PartOk p) fun r29 => cond (!r29) (some (true)) (cond (decide (((p.1).length : Int) = 0)) (some (true)) (bd (p_slices_Max_int_int (p.1)) fun r33 => some (decide ((n : Int) < r33))))) = some (badP n p) := by
 rw [bd.yes h1]
 unfold badP
 cases h : partOk p with
 | false => rfl
 | true =>
  rw [Bool.not_true, cond_false, Bool.false_or]
  by_cases h0 : p.1.length = 0
  ·rw [decide_eq_true (show (p.1.length : Int) = 0 by omega), cond_true, decide_eq_true h0]; rfl
  ·rw [decide_eq_false (show ¬ (p.1.length : Int) = 0 by omega), cond_false, decide_eq_false h0, bd.yes (e_Max p.1 (partOk_asc h) (by omega) hl)]; rfl
theorem e_impl_StoreOk (s : Store) (h : okS s) : p_impl_StoreOk s = some (storeB s) := by
 have hpl := h.pl
 have hml := h.ml
 unfold p_impl_StoreOk storeB
 rw [bd.yes (e_impl_IndexOk s.1 h.w1 h.w2)]
 cases hi : indexB s.1 with
 | false => rfl
 | true =>
  have hn6 := (indexB_canon hi).2.2.1
  rw [Bool.not_true, cond_false]
  by_cases h6 : s.2.1.length ≤ 6
  ·rw [decide_eq_false (show ¬ (6 : Int) < (s.2.1.length : Int) by omega), cond_false, decide_eq_true h6]
   by_cases h20 : s.2.2.length ≤ 20
   ·rw [decide_eq_false (show ¬ (20 : Int) < (s.2.2.length : Int) by omega), bd_some, cond_false, decide_eq_true h20, Bool.true_and, Bool.true_and, Bool.true_and]
    have hr0 : ∀ k, k < s.2.1.length → p_impl_StoreOk_b0 s (k : Int) = some (if badP s.1.1.length (nth s.2.1 k) then .inr (.inr false) else .inl ((k + 1 : Nat) : Int)) := fun k hk => by
     obtain ⟨k1, k2⟩ := h.p _ (nth_mem hk)
     have hl : (nth s.2.1 k).1.length ≤ Wt.w (nth s.2.1 k) := Nat.le_trans wL_le (Nat.le_add_right _ _)
     unfold p_impl_StoreOk_b0
     rw [dlt hk, cond_true, gd.yes (ixN hk)]
     simp only [Int.toNat_natCast]
     rw [bd.yes (e_badP s.1.1.length (nth s.2.1 k) k1 (by omega) (e_impl_PartOk _ k1)), gd.yes (i64S hk (by omega)), addI]
     cases badP s.1.1.length (nth s.2.1 k) <;> rfl
    rcases lp_scan (body := p_impl_StoreOk_b0 s) (fun k => (k : Int)) s.2.1.length (fun k => badP s.1.1.length (nth s.2.1 k)) (.inl ()) (fun _ => .inr false) (fun k hk _ h => by rw [hr0 k hk, h]; rfl) (fun k hk _ h => by rw [hr0 k hk, h]; rfl) (fun _ => by unfold p_impl_StoreOk_b0; rw [decide_eq_false (show ¬ ((s.2.1.length : Int) < (s.2.1.length : Int)) by omega)]; rfl) with ⟨a1, a2⟩ | ⟨a1, _, _, _, _, a2⟩
    ·rw [show (lp (p_impl_StoreOk_b0 s) 0) = _ from a2, bd_swl, a1, Bool.true_and]
     have hr1 : ∀ k, k < s.2.2.length → p_impl_StoreOk_b1 s (k : Int) = some (if badM s.1.1.length (nth s.2.2 k) then .inr (.inr false) else .inl ((k + 1 : Nat) : Int)) := fun k hk => by
      unfold p_impl_StoreOk_b1 badM
      rw [dlt hk, cond_true, gd.yes (ixN hk)]
      simp only [Int.toNat_natCast]
      rw [bd.yes (e_impl_within _ _ _), bd.yes (e_impl_rowOk _), gd.yes (i64S hk (by omega)), addI]
      cases inn 1 (nth s.2.2 k).1 (s.1.1.length : Int) <;> cases rowOk (nth s.2.2 k).2 <;> rfl
     rcases lp_scan (body := p_impl_StoreOk_b1 s) (fun k => (k : Int)) s.2.2.length (fun k => badM s.1.1.length (nth s.2.2 k)) (.inl ()) (fun _ => .inr false) (fun k hk _ h => by rw [hr1 k hk, h]; rfl) (fun k hk _ h => by rw [hr1 k hk, h]; rfl) (fun _ => by unfold p_impl_StoreOk_b1; rw [decide_eq_false (show ¬ ((s.2.2.length : Int) < (s.2.2.length : Int)) by omega)]; rfl) with ⟨b1, b2⟩ | ⟨b1, _, _, _, _, b2⟩
     ·rw [show (lp (p_impl_StoreOk_b1 s) 0) = _ from b2, bd_swl, b1, Bool.true_and]
      have hr2 : ∀ k, k < s.1.1.length → p_impl_StoreOk_b2 s ((k : Int) + 1) = some (if badR s k then .inr (.inr false) else .inl (((k + 1 : Nat) : Int) + 1)) := fun k hk => by
       unfold p_impl_StoreOk_b2 badR
       rw [decide_eq_true (show (k : Int) + 1 ≤ (s.1.1.length : Int) by omega), cond_true, bd.yes (e_impl_rows s _ h6 (by omega) h.p), gd.yes (show I64 ((k : Int) + 1 + 1) by unfold I64; omega)]
       by_cases hr : 24 < (rowsS s ((k : Int) + 1)).length
       ·rw [decide_eq_true (show (24 : Int) < ((rowsS s ((k : Int) + 1)).length : Int) by omega), decide_eq_true hr]; rfl
       ·rw [decide_eq_false (show ¬ (24 : Int) < ((rowsS s ((k : Int) + 1)).length : Int) by omega), decide_eq_false hr]
        have : (k : Int) + 1 + 1 = ((k + 1 : Nat) : Int) + 1 := by omega
        rw [this]; rfl
      rcases lp_scan (body := p_impl_StoreOk_b2 s) (fun k => (k : Int) + 1) s.1.1.length (badR s) (.inl ()) (fun _ => .inr false) (fun k hk _ h => by rw [hr2 k hk, h]; rfl) (fun k hk _ h => by rw [hr2 k hk, h]; rfl) (fun _ => by unfold p_impl_StoreOk_b2; rw [decide_eq_false (show ¬ ((s.1.1.length : Int) + 1 ≤ (s.1.1.length : Int)) by omega)]; rfl) with ⟨c1, c2⟩ | ⟨c1, _, _, _, _, c2⟩
      ·rw [show (lp (p_impl_StoreOk_b2 s) 1) = _ from c2, bd_swl, c1]
      ·rw [show (lp (p_impl_StoreOk_b2 s) 1) = _ from c2, bd_swr, c1]
     ·rw [show (lp (p_impl_StoreOk_b1 s) 0) = _ from b2, bd_swr, b1]; rfl
    ·rw [show (lp (p_impl_StoreOk_b0 s) 0) = _ from a2, bd_swr, a1]; rfl
   ·rw [decide_eq_true (show (20 : Int) < (s.2.2.length : Int) by omega), bd_some, cond_true, decide_eq_false h20]; rfl
  ·rw [decide_eq_true (show (6 : Int) < (s.2.1.length : Int) by omega), cond_true, decide_eq_false h6]; rfl
theorem e_l13Part (n : Nat) (p : Part) (hp : Dp.ok p) (hl : p.1.length ≤ 1048576) : p_spec_l13Part p (n : Int) = some (!badP n p) := by
 unfold p_spec_l13Part badP
 rw [bd.yes (e_spec_PartOk p hp)]
 cases h : partOk p with
 | false => rfl
 | true =>
  rw [cond_true, Bool.not_true, Bool.false_or]
  by_cases h0 : p.1.length = 0
  ·rw [decide_eq_false (show ¬ (0 : Int) < (p.1.length : Int) by omega), cond_false, decide_eq_true h0]; rfl
  ·have e1 : (p.1.length : Int) - 1 = ((p.1.length - 1 : Nat) : Int) := by omega
   rw [decide_eq_true (show (0 : Int) < (p.1.length : Int) by omega), cond_true, decide_eq_false h0, Bool.false_or, gd.yes (show I64 ((p.1.length : Int) - 1) by unfold I64; omega), e1, gd.yes (ixN (show p.1.length - 1 < p.1.length by omega)), bd_some, Int.toNat_natCast]
   by_cases hq : (n : Int) < lastId p
   ·have : ¬ nth p.1 (p.1.length - 1) ≤ (n : Int) := by unfold lastId at hq; omega
    rw [decide_eq_false this, decide_eq_true hq]; rfl
   ·have : nth p.1 (p.1.length - 1) ≤ (n : Int) := by unfold lastId at hq; omega
    rw [decide_eq_true this, decide_eq_false hq]; rfl
theorem e_spec_StoreOk (s : Store) (h : okS s) : p_spec_StoreOk s = some (storeB s) := by
 have hpl := h.pl
 have hml := h.ml
 unfold p_spec_StoreOk storeB
 rw [bd.yes (e_spec_IndexOk s.1 h.w1 h.w2)]
 cases hi : indexB s.1 with
 | false => rfl
 | true =>
  have hn6 := (indexB_canon hi).2.2.1
  rw [Bool.not_true, cond_false]
  by_cases h6 : s.2.1.length ≤ 6
  ·rw [decide_eq_false (show ¬ (6 : Int) < (s.2.1.length : Int) by omega), cond_false, decide_eq_true h6]
   by_cases h20 : s.2.2.length ≤ 20
   ·rw [decide_eq_false (show ¬ (20 : Int) < (s.2.2.length : Int) by omega), bd_some, cond_false, decide_eq_true h20, Bool.true_and, Bool.true_and, Bool.true_and]
    have hr0 : ∀ k, k < s.2.1.length → p_spec_StoreOk_b0 s (k : Int) = some (if badP s.1.1.length (nth s.2.1 k) then .inr (.inr false) else .inl ((k + 1 : Nat) : Int)) := fun k hk => by
     obtain ⟨k1, k2⟩ := h.p _ (nth_mem hk)
     have hl : (nth s.2.1 k).1.length ≤ Wt.w (nth s.2.1 k) := Nat.le_trans wL_le (Nat.le_add_right _ _)
     unfold p_spec_StoreOk_b0
     rw [dlt hk, cond_true, gd.yes (ixN hk)]
     simp only [Int.toNat_natCast]
     rw [bd.yes (e_l13Part s.1.1.length (nth s.2.1 k) k1 (by omega)), gd.yes (i64S hk (by omega)), addI]
     cases badP s.1.1.length (nth s.2.1 k) <;> rfl
    rcases lp_scan (body := p_spec_StoreOk_b0 s) (fun k => (k : Int)) s.2.1.length (fun k => badP s.1.1.length (nth s.2.1 k)) (.inl ()) (fun _ => .inr false) (fun k hk _ h => by rw [hr0 k hk, h]; rfl) (fun k hk _ h => by rw [hr0 k hk, h]; rfl) (fun _ => by unfold p_spec_StoreOk_b0; rw [decide_eq_false (show ¬ ((s.2.1.length : Int) < (s.2.1.length : Int)) by omega)]; rfl) with ⟨a1, a2⟩ | ⟨a1, _, _, _, _, a2⟩
    ·rw [show (lp (p_spec_StoreOk_b0 s) 0) = _ from a2, bd_swl, a1, Bool.true_and]
     have hK : ∀ p ∈ s.2.1, partOk p = true := fun p hp => by
      obtain ⟨i, hi, rfl⟩ := List.mem_iff_getElem.1 hp
      have := allN_iff.1 a1 i hi
      rw [nth_eq _ i hi] at this
      exact (badP_ok this).1
     have hr1 : ∀ k, k < s.2.2.length → p_spec_StoreOk_b1 s (k : Int) = some (if badM s.1.1.length (nth s.2.2 k) then .inr (.inr false) else .inl ((k + 1 : Nat) : Int)) := fun k hk => by
      unfold p_spec_StoreOk_b1 badM
      rw [dlt hk, cond_true, gd.yes (ixN hk)]
      simp only [Int.toNat_natCast]
      rw [bd.yes (e_spec_l6In _ _ _), bd.yes (e_spec_l2Row _), gd.yes (i64S hk (by omega)), addI]
      cases inn 1 (nth s.2.2 k).1 (s.1.1.length : Int) <;> cases rowOk (nth s.2.2 k).2 <;> rfl
     rcases lp_scan (body := p_spec_StoreOk_b1 s) (fun k => (k : Int)) s.2.2.length (fun k => badM s.1.1.length (nth s.2.2 k)) (.inl ()) (fun _ => .inr false) (fun k hk _ h => by rw [hr1 k hk, h]; rfl) (fun k hk _ h => by rw [hr1 k hk, h]; rfl) (fun _ => by unfold p_spec_StoreOk_b1; rw [decide_eq_false (show ¬ ((s.2.2.length : Int) < (s.2.2.length : Int)) by omega)]; rfl) with ⟨b1, b2⟩ | ⟨b1, _, _, _, _, b2⟩
     ·rw [show (lp (p_spec_StoreOk_b1 s) 0) = _ from b2, bd_swl, b1, Bool.true_and]
      have hr2 : ∀ k, k < s.1.1.length → p_spec_StoreOk_b2 s ((k : Int) + 1) = some (if badR s k then .inr (.inr false) else .inl (((k + 1 : Nat) : Int) + 1)) := fun k hk => by
       unfold p_spec_StoreOk_b2 badR
       rw [decide_eq_true (show (k : Int) + 1 ≤ (s.1.1.length : Int) by omega), cond_true, bd.yes (e_spec_rows s _ h6 (by omega) h.p hK), gd.yes (show I64 ((k : Int) + 1 + 1) by unfold I64; omega)]
       by_cases hr : 24 < (rowsS s ((k : Int) + 1)).length
       ·rw [decide_eq_true (show (24 : Int) < ((rowsS s ((k : Int) + 1)).length : Int) by omega), decide_eq_true hr]; rfl
       ·rw [decide_eq_false (show ¬ (24 : Int) < ((rowsS s ((k : Int) + 1)).length : Int) by omega), decide_eq_false hr]
        have : (k : Int) + 1 + 1 = ((k + 1 : Nat) : Int) + 1 := by omega
        rw [this]; rfl
      rcases lp_scan (body := p_spec_StoreOk_b2 s) (fun k => (k : Int) + 1) s.1.1.length (badR s) (.inl ()) (fun _ => .inr false) (fun k hk _ h => by rw [hr2 k hk, h]; rfl) (fun k hk _ h => by rw [hr2 k hk, h]; rfl) (fun _ => by unfold p_spec_StoreOk_b2; rw [decide_eq_false (show ¬ ((s.1.1.length : Int) + 1 ≤ (s.1.1.length : Int)) by omega)]; rfl) with ⟨c1, c2⟩ | ⟨c1, _, _, _, _, c2⟩
      ·rw [show (lp (p_spec_StoreOk_b2 s) 1) = _ from c2, bd_swl, c1]
      ·rw [show (lp (p_spec_StoreOk_b2 s) 1) = _ from c2, bd_swr, c1]
     ·rw [show (lp (p_spec_StoreOk_b1 s) 0) = _ from b2, bd_swr, b1]; rfl
    ·rw [show (lp (p_spec_StoreOk_b0 s) 0) = _ from a2, bd_swr, a1]; rfl
   ·rw [decide_eq_true (show (20 : Int) < (s.2.2.length : Int) by omega), bd_some, cond_true, decide_eq_false h20]; rfl
  ·rw [decide_eq_true (show (6 : Int) < (s.2.1.length : Int) by omega), cond_true, decide_eq_false h6]; rfl
theorem okS_of {s : Store} (ok : Dp.ok s) (hw : Wt.w s ≤ 1048576) : okS s := by
 have e : Wt.w s = Wt.w s.1 + (Wt.w s.2.1 + Wt.w s.2.2) := rfl
 obtain ⟨w1, w2⟩ := w_index (x := s.1) (by omega)
 have l1 : s.2.1.length ≤ Wt.w s.2.1 := wL_le
 have l2 : s.2.2.length ≤ Wt.w s.2.2 := wL_le
 refine ⟨w1, w2, by omega, by omega, fun p hp => ?_⟩
 obtain ⟨i, hi, rfl⟩ := List.mem_iff_getElem.1 hp
 rw [← nth_eq _ i hi]
 have := wL_el (l := s.2.1) hi
 exact ⟨ok.2.1.2 i hi, by omega⟩
structure goodS (s : Store) : Prop where
 i : indexB s.1 = true
 n6 : s.1.1.length ≤ 6
 p6 : s.2.1.length ≤ 6
 m20 : s.2.2.length ≤ 20
 p : ∀ p ∈ s.2.1, partOk p = true ∧ 0 < p.1.length ∧ lastId p ≤ (s.1.1.length : Int)
 m : ∀ m ∈ s.2.2, 1 ≤ m.1 ∧ m.1 ≤ (s.1.1.length : Int) ∧ rowOk m.2 = true
theorem storeB_good {s : Store} (h : storeB s = true) : goodS s := by
 unfold storeB at h
 simp only [Bool.and_eq_true, decide_eq_true_eq] at h
 obtain ⟨h1, h2, h3, h4, h5, _⟩ := h
 refine ⟨h1, (indexB_canon h1).2.2.1, h2, h3, fun p hp => ?_, fun m hm => ?_⟩
 ·obtain ⟨i, hi, rfl⟩ := List.mem_iff_getElem.1 hp
  have := allN_iff.1 h4 i hi
  rw [nth_eq _ i hi] at this
  exact badP_ok this
 ·obtain ⟨i, hi, rfl⟩ := List.mem_iff_getElem.1 hm
  have := allN_iff.1 h5 i hi
  rw [nth_eq _ i hi] at this
  unfold badM inn at this
  simp only [Bool.or_eq_false_iff, Bool.not_eq_false', Bool.and_eq_true, decide_eq_true_eq] at this
  exact ⟨this.1.1, this.1.2, this.2⟩
def tagT (t : Tag) : ByteArray := (t.1 ++ (⟨#[61]⟩ : ByteArray)) ++ t.2
def bl (b : ByteArray) : List UInt8 := b.data.toList
theorem bl_inj {a b : ByteArray} (h : bl a = bl b) : a = b := ByteArray.ext (Array.toList_inj.1 h)
theorem bl_app (a b : ByteArray) : bl (a ++ b) = bl a ++ bl b := by simp [bl]
theorem joinTail_snoc (sep : List UInt8) (r : List (List UInt8)) (y : List UInt8) : Lib.joinTail sep (r ++ [y]) = Lib.joinTail sep r ++ (sep ++ y) := by
 unfold Lib.joinTail
 rw [List.map_append, List.flatten_append]; simp
theorem join_snoc (xs : List (List UInt8)) (y sep : List UInt8) : Lib.join (xs ++ [y]) sep = if xs = [] then y else Lib.join xs sep ++ (sep ++ y) := by
 cases xs with
 | nil => rw [if_pos rfl]; exact Lib.join_one y sep
 | cons x r => rw [if_neg (by simp), List.cons_append, Lib.join_cons, Lib.join_cons, joinTail_snoc, List.append_assoc]
theorem join_text (n : List Tag) : ∀ m, m ≤ n.length → Lib.join (((n.take m).map tagT).map bl) (bl ⟨#[44]⟩) = bl (textK n m)
 | 0, _ => rfl
 | m + 1, hm => by
  have hm' : m < n.length := hm
  rw [take_succ_nth hm', List.map_append, List.map_append, List.map_cons, List.map_nil, List.map_cons, List.map_nil, join_snoc]
  have ih := join_text n m (by omega)
  by_cases h0 : 0 < m
  ·rw [if_neg (by intro h; have := congrArg List.length h; simp only [List.length_map, List.length_take, List.length_nil] at this; omega), ih, textK_pos h0]
   unfold tagT
   simp only [bl_app, List.append_assoc]
  ·have : m = 0 := by omega
   subst this
   rw [if_pos (by simp), textK_neg h0]
   unfold tagT
   show bl _ = bl (((⟨#[]⟩ ++ _) ++ _) ++ _)
   simp only [bl_app]
   rfl
theorem joinS_text (n : List Tag) : joinS (n.map tagT) (⟨#[44]⟩ : ByteArray) = textN n := by
 have h := join_text n n.length (Nat.le_refl _)
 rw [List.take_length] at h
 exact bl_inj h
theorem e_NameText (n : List Tag) (hw : Wt.w n ≤ 4194304) (hok : nameOk n = true) : p_impl_NameText n = some (textN n) := by
 have hw' := hw
 rw [w_name] at hw'
 have hsz := textK_size n n.length
 have e61 : ((⟨#[61]⟩ : ByteArray)).size = 1 := rfl
 unfold p_impl_NameText
 have key : lp (p_impl_NameText_b0 n) (([] : List ByteArray), 0) = some (n.map tagT) := lp_for (body := p_impl_NameText_b0 n) (fun k => ((n.take k).map tagT, (k : Int))) n.length (n.map tagT) (fun k hk => by
  have h2 : (sumN k fun i => (nth n i).1.size + (nth n i).2.size) + ((nth n k).1.size + (nth n k).2.size) ≤ sumN n.length fun i => (nth n i).1.size + (nth n i).2.size := sumN_lt (f := fun i => (nth n i).1.size + (nth n i).2.size) hk
  have hlt : ((n.take k).map tagT).length ≤ k := by rw [List.length_map, List.length_take]; omega
  unfold p_impl_NameText_b0
  rw [dlt hk, cond_true, gd.yes (ixN hk)]
  simp only [Int.toNat_natCast]
  rw [gd.yes (by simp only [room, e61]; omega), gd.yes (by simp only [room, ByteArray.size_append, e61]; omega), gd.yes (by unfold room; omega), gd.yes (by unfold I64; omega), addI, take_succ_nth hk, List.map_append]
  rfl) (by
  unfold p_impl_NameText_b0
  rw [decide_eq_false (show ¬ ((n.length : Int) < (n.length : Int)) by omega), cond_false, List.take_length])
 rw [bd.yes (e_impl_NameOk n (by unfold maxLen; omega)), hok, Bool.not_true, cond_false, bd.yes key]
 unfold p_strings_Join
 rw [joinS_text, List.length_map, gd.yes (by unfold room; omega), gd.yes (by unfold room textN; omega), bd_some]
def cutR (b : List Row) (v2 v3 : Int) : List Row := b.filter fun r => inn v2 r.1 v3
theorem take_filter' {α : Type} [Inhabited α] (p : α → Bool) {l : List α} {k : Nat} (hk : k < l.length) : (l.take (k + 1)).filter p = (l.take k).filter p ++ if p (nth l k) then [nth l k] else [] := by
 rw [take_succ_nth hk, List.filter_append, List.filter_cons, List.filter_nil]
theorem e_BlockCut (b : List Row) (v2 v3 : Int) (h : blockOk b = true) : p_impl_BlockCut b v2 v3 = some (cutR b v2 v3) := by
 obtain ⟨_, _, h24⟩ := blockOk_iff.1 h
 have key : lp (p_impl_BlockCut_b0 b v2 v3) (([] : List Row), 0) = some (cutR b v2 v3) := lp_for (body := p_impl_BlockCut_b0 b v2 v3) (fun k => (cutR (b.take k) v2 v3, (k : Int))) b.length (cutR b v2 v3) (fun k hk => by
  have hlt : (cutR (b.take k) v2 v3).length ≤ k := Nat.le_trans (List.length_filter_le _ _) (by rw [List.length_take]; omega)
  have et : cutR (b.take (k + 1)) v2 v3 = cutR (b.take k) v2 v3 ++ if inn v2 (nth b k).1 v3 then [nth b k] else [] := take_filter' _ hk
  unfold p_impl_BlockCut_b0
  rw [dlt hk, cond_true, gd.yes (ixN hk)]
  simp only [Int.toNat_natCast]
  rw [bd.yes (e_impl_within _ _ _), et]
  cases inn v2 (nth b k).1 v3 with
  | false => rw [cond_false, gd.yes (by unfold I64; omega), addI]; simp
  | true => rw [cond_true, gd.yes (by unfold room; omega), gd.yes (by unfold I64; omega), addI]; rfl) (by
  unfold p_impl_BlockCut_b0
  rw [decide_eq_false (show ¬ ((b.length : Int) < (b.length : Int)) by omega), cond_false, List.take_length])
 unfold p_impl_BlockCut
 rw [bd.yes (e_impl_BlockOk b (by unfold maxLen; omega)), h, Bool.not_true, cond_false, bd.yes key]
theorem e_l2Cut (b : List Row) (v2 v3 : Int) (h : b.length ≤ 1000) : p_spec_l2Cut b v2 v3 = some (cutR b v2 v3) := by
 have key : lp (p_spec_l2Cut_b0 b v2 v3) (([] : List Row), 0) = some (cutR b v2 v3) := lp_for (body := p_spec_l2Cut_b0 b v2 v3) (fun k => (cutR (b.take k) v2 v3, (k : Int))) b.length (cutR b v2 v3) (fun k hk => by
  have hlt : (cutR (b.take k) v2 v3).length ≤ k := Nat.le_trans (List.length_filter_le _ _) (by rw [List.length_take]; omega)
  have et : cutR (b.take (k + 1)) v2 v3 = cutR (b.take k) v2 v3 ++ if inn v2 (nth b k).1 v3 then [nth b k] else [] := take_filter' _ hk
  unfold p_spec_l2Cut_b0
  rw [dlt hk, cond_true, gd.yes (ixN hk)]
  simp only [Int.toNat_natCast]
  rw [bd.yes (e_spec_l6In _ _ _), et]
  cases inn v2 (nth b k).1 v3 with
  | false => rw [cond_false, gd.yes (by unfold I64; omega), addI]; simp
  | true => rw [cond_true, gd.yes (by unfold room; omega), gd.yes (by unfold I64; omega), addI]; rfl) (by
  unfold p_spec_l2Cut_b0
  rw [decide_eq_false (show ¬ ((b.length : Int) < (b.length : Int)) by omega), cond_false, List.take_length])
 unfold p_spec_l2Cut
 rw [bd.yes key]
theorem memR_mem {id : Int} {y : Row} : ∀ {l : List Sample} {o : List Row}, y ∈ memR l id o → y ∈ o ∨ ∃ m ∈ l, m.2 = y
 | [], _, h => .inl h
 | m :: l, o, h => by
  have h : y ∈ memR l id (insI id o m) := h
  rcases memR_mem h with h | ⟨x, hx, e⟩
  ·unfold insI at h
   split at h
   ·rcases ins_mem h with h | h
    ·exact .inr ⟨m, List.mem_cons_self .., h.symm⟩
    ·exact .inl h
   ·exact .inl h
  ·exact .inr ⟨x, List.mem_cons_of_mem _ hx, e⟩
theorem parF_mem {id : Int} {y : Row} : ∀ {l : List Part} {o : List Row}, y ∈ l.foldl (fun o p => mg o (partOf p id)) o → y ∈ o ∨ ∃ p ∈ l, y ∈ partOf p id
 | [], _, h => .inl h
 | p :: l, o, h => by
  have h : y ∈ l.foldl (fun o p => mg o (partOf p id)) (mg o (partOf p id)) := h
  rcases parF_mem h with h | ⟨x, hx, e⟩
  ·rcases mg_mem h with h | h
   ·exact .inl h
   ·exact .inr ⟨p, List.mem_cons_self .., h⟩
  ·exact .inr ⟨x, List.mem_cons_of_mem _ hx, e⟩
theorem rowsS_ok {s : Store} (hb : storeB s = true) {id : Int} (h1 : 1 ≤ id) (h2 : id ≤ (s.1.1.length : Int)) : blockOk (rowsS s id) = true := by
 have hg := storeB_good hb
 refine blockOk_iff.2 ⟨fun y hy => ?_, memR_asc _ _ _ (parR_asc _ _), ?_⟩
 ·rcases memR_mem hy with h | ⟨m, hm, e⟩
  ·rcases parF_mem h with h | ⟨p, _, h⟩
   ·cases h
   ·exact (blockOk_iff.1 (partOf_ok p id)).1 y h
  ·rw [← e]; exact (hg.m m hm).2.2
 ·have h5 : allN s.1.1.length (badR s) = true := by
   unfold storeB at hb
   simp only [Bool.and_eq_true] at hb
   exact hb.2.2.2.2.2
  have := allN_iff.1 h5 (id - 1).toNat (by omega)
  unfold badR at this
  rw [show (((id - 1).toNat : Nat) : Int) + 1 = id by omega] at this
  simpa using this
theorem findN_rng (names : List (List Tag)) (f : List Cond) : ∀ m, ∀ x ∈ findN names f m, 1 ≤ x ∧ x ≤ (m : Int)
 | 0, x, h => nomatch h
 | m + 1, x, h => by
  rw [findN_succ] at h
  rcases List.mem_append.1 h with h | h
  ·have := findN_rng names f m x h; omega
  ·split at h
   ·rw [List.mem_singleton.1 h]; omega
   ·cases h
def hitL (s : Store) (v2 v3 : Int) (id : Int) : List Hit := if 0 < (cutR (rowsS s id) v2 v3).length then [(textN (nth s.1.1 (id - 1).toNat), cutR (rowsS s id) v2 v3)] else []
def askL (s : Store) (v2 v3 : Int) (ids : List Int) : List Hit := ids.flatMap (hitL s v2 v3)
theorem askL_len (s : Store) (v2 v3 : Int) : ∀ ids, (askL s v2 v3 ids).length ≤ ids.length
 | [] => Nat.le_refl _
 | x :: l => by
  have := askL_len s v2 v3 l
  show (hitL s v2 v3 x ++ askL s v2 v3 l).length ≤ l.length + 1
  rw [List.length_append]
  unfold hitL
  split <;> simp <;> omega
theorem askL_succ (s : Store) (v2 v3 : Int) {l : List Int} {k : Nat} (hk : k < l.length) : askL s v2 v3 (l.take (k + 1)) = askL s v2 v3 (l.take k) ++ hitL s v2 v3 (nth l k) := by
 unfold askL
 rw [take_succ_nth hk, List.flatMap_append]; simp
def askP (s : Store) (f : List Cond) (v2 v3 : Int) : List Hit := if storeB s && filterOk f then askL s v2 v3 (findN s.1.1 f s.1.1.length) else []
theorem ask_impl (s : Store) (v2 v3 : Int) (h : okS s) (hb : storeB s = true) (ids : List Int) (hi : ∀ x ∈ ids, 1 ≤ x ∧ x ≤ (s.1.1.length : Int)) (hl : ids.length ≤ 6) : lp (p_impl_StoreAsk_b0 s v2 v3 ids) (([] : List Hit), 0) = some (askL s v2 v3 ids) := by
 have hg := storeB_good hb
 have h6 := hg.p6
 have h20 := hg.m20
 obtain ⟨w1, w2, _⟩ := w_names h.w1
 have hC := (indexB_canon hg.i).2.1
 exact lp_for (body := p_impl_StoreAsk_b0 s v2 v3 ids) (fun k => (askL s v2 v3 (ids.take k), (k : Int))) ids.length (askL s v2 v3 ids) (fun k hk => by
  obtain ⟨i1, i2⟩ := hi _ (nth_mem hk)
  have hbk := rowsS_ok hb i1 i2
  have hlt : (askL s v2 v3 (ids.take k)).length ≤ k := Nat.le_trans (askL_len _ _ _ _) (by rw [List.length_take]; omega)
  have hj : ((nth ids k) - 1).toNat < s.1.1.length := by omega
  have hnm := w2 _ (nth_mem hj)
  unfold p_impl_StoreAsk_b0
  rw [dlt hk, cond_true, gd.yes (ixN hk), askL_succ s v2 v3 hk]
  simp only [Int.toNat_natCast]
  rw [bd.yes (e_impl_rows s _ h6 (by omega) h.p), bd.yes (e_BlockCut _ v2 v3 hbk)]
  unfold hitL
  by_cases hc : 0 < (cutR (rowsS s (nth ids k)) v2 v3).length
  ·rw [decide_eq_true (show (0 : Int) < ((cutR (rowsS s (nth ids k)) v2 v3).length : Int) by omega), cond_true, if_pos hc, gd.yes (show I64 (nth ids k - 1) by unfold I64; omega), gd.yes (show ix (nth ids k - 1) s.1.1.length by unfold ix; omega), bd.yes (e_NameText _ hnm.2 (nmBad_ok (allN_iff.1 hC _ hj))), gd.yes (by unfold room; omega), gd.yes (by unfold I64; omega), addI]
  ·rw [decide_eq_false (show ¬ (0 : Int) < ((cutR (rowsS s (nth ids k)) v2 v3).length : Int) by omega), cond_false, if_neg hc, gd.yes (by unfold I64; omega), addI, List.append_nil]) (by
  unfold p_impl_StoreAsk_b0
  rw [decide_eq_false (show ¬ ((ids.length : Int) < (ids.length : Int)) by omega), cond_false, List.take_length])
theorem ask_spec (s : Store) (v2 v3 : Int) (h : okS s) (hb : storeB s = true) (ids : List Int) (hi : ∀ x ∈ ids, 1 ≤ x ∧ x ≤ (s.1.1.length : Int)) (hl : ids.length ≤ 6) : lp (p_spec_l13Ask_b0 s v2 v3 ids) (([] : List Hit), 0) = some (askL s v2 v3 ids) := by
 have hg := storeB_good hb
 have h6 := hg.p6
 have h20 := hg.m20
 obtain ⟨w1, w2, _⟩ := w_names h.w1
 exact lp_for (body := p_spec_l13Ask_b0 s v2 v3 ids) (fun k => (askL s v2 v3 (ids.take k), (k : Int))) ids.length (askL s v2 v3 ids) (fun k hk => by
  obtain ⟨i1, i2⟩ := hi _ (nth_mem hk)
  have hbk := (blockOk_iff.1 (rowsS_ok hb i1 i2)).2.2
  have hlt : (askL s v2 v3 (ids.take k)).length ≤ k := Nat.le_trans (askL_len _ _ _ _) (by rw [List.length_take]; omega)
  have hj : ((nth ids k) - 1).toNat < s.1.1.length := by omega
  have hnm := w2 _ (nth_mem hj)
  unfold p_spec_l13Ask_b0
  rw [dlt hk, cond_true, gd.yes (ixN hk), askL_succ s v2 v3 hk]
  simp only [Int.toNat_natCast]
  rw [bd.yes (e_spec_rows s _ h6 (by omega) h.p (fun p hp => (hg.p p hp).1)), bd.yes (e_l2Cut _ v2 v3 (by omega))]
  unfold hitL
  by_cases hc : 0 < (cutR (rowsS s (nth ids k)) v2 v3).length
  ·rw [decide_eq_true (show (0 : Int) < ((cutR (rowsS s (nth ids k)) v2 v3).length : Int) by omega), cond_true, if_pos hc, gd.yes (show I64 (nth ids k - 1) by unfold I64; omega), gd.yes (show ix (nth ids k - 1) s.1.1.length by unfold ix; omega), bd.yes (e_spec_l3Text _ hnm.2), gd.yes (by unfold room; omega), gd.yes (by unfold I64; omega), addI]
  ·rw [decide_eq_false (show ¬ (0 : Int) < ((cutR (rowsS s (nth ids k)) v2 v3).length : Int) by omega), cond_false, if_neg hc, gd.yes (by unfold I64; omega), addI, List.append_nil]) (by
  unfold p_spec_l13Ask_b0
  rw [decide_eq_false (show ¬ ((ids.length : Int) < (ids.length : Int)) by omega), cond_false, List.take_length])
theorem e_impl_StoreAsk (s : Store) (f : List Cond) (v2 v3 : Int) (h : okS s) (hf : f.length ≤ 4194304) : p_impl_StoreAsk s f v2 v3 = some (askP s f v2 v3) := by
 unfold p_impl_StoreAsk askP
 rw [bd.yes (e_impl_StoreOk s h)]
 cases hb : storeB s with
 | false => rfl
 | true =>
  have hg := storeB_good hb
  have h6 := hg.n6
  rw [Bool.not_true, cond_false, bd.yes (e_impl_IndexFind s.1 f h.w1 h.w2 hf), Bool.true_and]
  unfold findP
  rw [hg.i, Bool.true_and]
  cases filterOk f with
  | false => rw [if_neg (by decide), bd.yes (ask_impl s v2 v3 h hb [] (fun _ h => nomatch h) (Nat.zero_le _))]; rfl
  | true => rw [if_pos rfl, bd.yes (ask_impl s v2 v3 h hb _ (findN_rng _ _ _) (Nat.le_trans (findN_len _ _ _) h6))]; rfl
theorem e_spec_StoreAsk (s : Store) (f : List Cond) (v2 v3 : Int) (h : okS s) (hf : f.length ≤ 4194304) : p_spec_StoreAsk s f v2 v3 = some (askP s f v2 v3) := by
 unfold p_spec_StoreAsk askP
 rw [bd.yes (e_spec_StoreOk s h)]
 cases hb : storeB s with
 | false => rfl
 | true =>
  have hg := storeB_good hb
  have h6 := hg.n6
  obtain ⟨w1, w2, _⟩ := w_names h.w1
  rw [Bool.not_true, cond_false, bd.yes (e_spec_FilterOk f (by unfold maxLen; omega)), Bool.true_and]
  cases filterOk f with
  | false => rfl
  | true =>
   unfold p_spec_l13Ask
   rw [Bool.not_true, bd_some, cond_false, bd.yes (e_spec_l11Find s.1 f hf w1 (fun n hn => (w2 n hn).1)), bd.yes (ask_spec s v2 v3 h hb _ (findN_rng _ _ _) (Nat.le_trans (findN_len _ _ _) h6))]; rfl
theorem askP_fine {s : Store} (f : List Cond) (v2 v3 : Int) (h : okS s) : Dp.ok (askP s f v2 v3) ∧ Wt.w (askP s f v2 v3) ≤ 100000000 := by
 have key : ∀ ids : List Int, ids.length ≤ 6 → storeB s = true → (∀ x ∈ ids, 1 ≤ x ∧ x ≤ (s.1.1.length : Int)) → Dp.ok (askL s v2 v3 ids) ∧ Wt.w (askL s v2 v3 ids) ≤ 100000000 := fun ids hl hb hi => by
  obtain ⟨w1, w2, _⟩ := w_names h.w1
  have hlen := askL_len s v2 v3 ids
  have hel : ∀ y ∈ askL s v2 v3 ids, y.1.size ≤ 12582912 ∧ y.2.length ≤ 24 := fun y hy => by
   obtain ⟨id, hid, hy⟩ := List.mem_flatMap.1 hy
   obtain ⟨i1, i2⟩ := hi id hid
   have hbk := (blockOk_iff.1 (rowsS_ok hb i1 i2)).2.2
   have hj : (id - 1).toNat < s.1.1.length := by omega
   have hnm := (w2 _ (nth_mem hj)).2
   have hsz := textK_size (nth s.1.1 (id - 1).toNat) (nth s.1.1 (id - 1).toNat).length
   rw [w_name] at hnm
   unfold hitL at hy
   split at hy
   ·rw [List.mem_singleton.1 hy]
    exact ⟨by show (textN _).size ≤ _; unfold textN; omega, Nat.le_trans (List.length_filter_le _ _) hbk⟩
   ·cases hy
  refine ⟨⟨show (askL s v2 v3 ids).length ≤ maxLen by unfold maxLen; omega, fun i hi' => ?_⟩, ?_⟩
  ·have := hel _ (nth_mem hi')
   exact ⟨trivial, ok_rows _ (by omega)⟩
  ·have e : Wt.w (askL s v2 v3 ids) = (askL s v2 v3 ids).length + sumN (askL s v2 v3 ids).length fun i => Wt.w (nth (askL s v2 v3 ids) i) := rfl
   have e3 := sumN_c (f := fun i => Wt.w (nth (askL s v2 v3 ids) i)) (c := 12583000) (n := (askL s v2 v3 ids).length) fun i hi' => by
    obtain ⟨k1, k2⟩ := hel _ (nth_mem hi')
    have e : Wt.w (nth (askL s v2 v3 ids) i) = (nth (askL s v2 v3 ids) i).1.size + Wt.w (nth (askL s v2 v3 ids) i).2 := rfl
    rw [e, wRow]; omega
   have e4 := Nat.mul_le_mul_right 12583000 (Nat.le_trans hlen hl)
   rw [e]
   omega
 unfold askP
 split
 ·rename_i hc
  rw [Bool.and_eq_true] at hc
  have h6 := (storeB_good hc.1).n6
  exact key _ (Nat.le_trans (findN_len _ _ _) h6) hc.1 (findN_rng _ _ _)
 ·exact ⟨⟨Nat.zero_le _, fun i hi => absurd hi (Nat.not_lt_zero _)⟩, Nat.zero_le _⟩
theorem e_FnExactStoreAsk (s : Store) (f : List Cond) (v2 v3 : Int) (ok : Dp.ok s) (okf : Dp.ok f) (_ : Dp.ok v2) (_ : Dp.ok v3) (so : So.so s) (sof : So.so f) : p_laws_FnExactStoreAsk s f v2 v3 = some true := by
 unfold p_laws_FnExactStoreAsk
 rw [s_Store s 1048576 (by omega) (by omega) ok so, bd_some]
 by_cases hc : cut 1048576 (Wt.w s) < 0
 ·simp [hc]
 ·have hw := cut_w hc (by omega)
  have h := okS_of ok hw
  rw [decide_eq_false hc, cond_false, s_CondS f (cut 1048576 (Wt.w s)) (cut_nn hc) (cut_rng (by omega)) okf sof, bd_some]
  by_cases hd : cut (cut 1048576 (Wt.w s)) (Wt.w f) < 0
  ·simp [hd]
  ·have hwf := cut_w hd (cut_rng (by omega))
   have hlf : f.length ≤ Wt.w f := wL_le
   obtain ⟨okr, wr⟩ := askP_fine f v2 v3 h
   rw [decide_eq_false hd, cond_false, bd.yes (t_Store s ok hw), bd.yes (t_CondS f okf hwf), bd.yes (e_spec_StoreAsk s f v2 v3 h (by omega)), bd.yes (e_impl_StoreAsk s f v2 v3 h (by omega))]
   generalize askP s f v2 v3 = r at okr wr
   have c1 := Ct.le s
   have c2 := Ct.le r
   have c3 := Ct.le f
   have n1 : Ct.m Store = 11 := rfl
   have n2 : Ct.m (List Hit) = 3 := rfl
   have n3 : Ct.m (List Cond) = 3 := rfl
   rw [n1] at c1
   rw [n2] at c2
   rw [n3] at c3
   obtain ⟨k1, r1, e1, l1, u1⟩ := m_Store s 1 (by omega) (by omega) ok
   obtain ⟨k2, r2, e2, l2, u2, f2⟩ := m_HitS r 1 (by omega) (by omega) okr
   obtain ⟨k3, r3, e3, l3, u3⟩ := m_CondS f k1 (by omega) (by omega) okf
   have h1 : ¬ k1 < 0 := by omega
   have h2 : ¬ k2 < 0 := by omega
   have h3 : ¬ k3 < 0 := by omega
   simp [q_HitS r r okr okr, q_Store s s ok ok, q_CondS f f okf okf, e1, e2, e3, f2, h2, h3]
end Go.Proofs.YtlkcnfjdhkoelaaGreat
