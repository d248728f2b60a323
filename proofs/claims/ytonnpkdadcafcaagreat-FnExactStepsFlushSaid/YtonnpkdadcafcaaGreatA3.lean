/- The walks and the plain laws, part 3: each function that the law reaches computes what its plain function tells, and what the plain functions answer. Conditions: lengths that memory can hold. -/
import Derived.Test.YtonnpkdadcafcaaGreatA2
namespace Go.Proofs.YtonnpkdadcafcaaGreat
open Go Go.Sx Tryz
theorem c_laws_heldTagS {r : Int} (v0 : (List Tag)) (x_v0 : Option Addr × Nat) (v1 : Int) (H : p_laws_heldTagS v0 v1 = some r) : Fn' prog 129 #[.slice x_v0.1 v0.length x_v0.2, .int .i64 (v1)] [imm (.slice x_v0.1 v0.length x_v0.2) v0] [] (ι := Unit) (fun _ => .int .i64 (r)) (fun _ => []) (fun _ => []) := by
 refine cof (args := [_, _]) func129 ntmps129 fun c => ?_
 unfold p_laws_heldTagS at H
 refine sr (aH (v := .int .i64 (0)) rfl (nl (aD (sr (aH (v := .int .i64 (0)) rfl (nl (bdo H fun x1 hx2 H => (dC (Λ := Unit) H (fun e24 _ => [(1, .int .i64 (e24))]) (fun _ _ => []) ?_ ?_))))))))
 ·refine aQ (dE hx2 () (fun Q5 _ => [(0, .slice x_v0.1 v0.length x_v0.2), (1, .int .i64 (Q5.1)), (5, .int .i64 (Q5.2))]) (fun _ _ => []) bK ?_)
  rintro _ Q5 z6 t8 H1 hi9 hb10
  unfold p_laws_heldTagS_b0 at H1
  refine aD (sr (aF rfl (aF rfl (aG (bS 172 dM rfl) (aG (cQ rfl rfl) (nl (cH H1 rfl (fun h13 H1 => ?_) (fun h13 H1 => ?_))))))))
  ·refine bH (nT (aD (aQ (aD (aD (dF [(0, .slice x_v0.1 v0.length x_v0.2), (1, .int .i64 (Q5.1)), (5, .int .i64 (Q5.2))] mixed (.inr (by kernel_rfl)) ⟨rfl, rfl, rfl, trivial⟩ rfl (bB rfl (bB rfl (gdo H1 fun h14 H1 => (aZ (bW dM ty172 rfl rfl h14 rfl (aN (aL aR))) ?_))))))))))
   refine aZ (bY (j := 0) Q5.2.toNat fa172_0 rfl (aN (aL aR)) h14.lt rfl) (aZ (bZ (i := Q5.2.toNat) (j := 0) ty9 rfl (aN (aL aR)) h14.lt rfl) (bB rfl (bdo H1 fun r15 h16 H1 => (aZ (bN (c_laws_markText Q5.1 h16) rfl aO) (aX (p_sneq rfl rfl) (nT (cH H1 rfl (fun h17 H1 => ?_) (fun h17 H1 => ?_))))))))
   ·refine sr (aH (v := .int .i64 (-1)) rfl (nl (bQ (rT (rB (rT (rT (rB (rT (rT (?_)))))))))))
    obtain rfl := hb10 _ (sm H1)
    replace H := sw.r H
    obtain rfl := si H
    exact bk
   ·refine bH (nT (sr (aF rfl (gdo H1 fun h18 H1 => (aG (bR rfl rfl h18) (aH rfl (nl (aD (aD (dF [(1, .int .i64 (Q5.1 + 1)), (0, .slice x_v0.1 v0.length x_v0.2), (5, .int .i64 (Q5.2))] mixed (.inr (by kernel_rfl)) ⟨rfl, rfl, rfl, trivial⟩ rfl ?_))))))))))
    refine bB rfl (bB rfl (aZ (bW dM ty172 rfl rfl h14 rfl (aN (aL aR))) (aZ (bY (j := 0) Q5.2.toNat fa172_1 rfl (aN (aL aR)) h14.lt rfl) (aZ (bZ (i := Q5.2.toNat) (j := 1) ty9 rfl (aN (aL aR)) h14.lt rfl) (bB rfl (bdo H1 fun r19 h20 H1 => (aZ (bN (c_laws_markText (Q5.1 + 1) h20) rfl aO) (aX (p_sneq rfl rfl) (nT (?_))))))))))
    refine cH H1 rfl (fun h21 H1 => ?_) (fun h21 H1 => ?_)
    ·refine sr (aH (v := .int .i64 (-1)) rfl (nl (bQ (rT (rB (rT (rT (rB (rT (rT (?_)))))))))))
     obtain rfl := hb10 _ (sm H1)
     replace H := sw.r H
     obtain rfl := si H
     exact bk
    ·refine bH (nT (aP (aF rfl (gdo H1 fun h22 H1 => (aG (bR rfl rfl h22) (aH rfl (aJ (nB (nT (aP (aF rfl ?_)))))))))))
     exact gdo H1 fun h23 H1 => (aG (bR rfl rfl h23) (aH rfl (aJ (nLI () (hi9 _ (sm H1)) bK))))
  ·exact dA (xT (xT (xE (nMI () (hb10 _ (sm H1)) bK))))
 ·rintro e24 y7 H
  refine nT (sr (aF rfl (aH rfl (nl ?_))))
  obtain rfl := si H
  exact bQ bk
noncomputable def p_laws_heldTagSS_b0 (v0 : (List (List Tag))) (Q6 : Int × Int) : Option ((Int × Int) ⊕ (Int ⊕ Int)) := cond (decide (Q6.2 < (v0.length : Int))) (gd (ix Q6.2 v0.length) <| bd (p_laws_heldTagS (nth v0 Q6.2.toNat) Q6.1) fun r16 => cond (decide (r16 < 0)) (some (.inr (.inr (-1)))) (gd (I64 (Q6.2 + 1)) <| some (.inl (r16, Q6.2 + 1)))) (some (.inr (.inl Q6.1)))
noncomputable def p_laws_heldTagSS (v0 : (List (List Tag))) (v1 : Int) : Option (Int) := bd (lp (p_laws_heldTagSS_b0 v0) (v1, 0)) <| sw (fun e20 => some e20) (fun q => some q)
theorem c_laws_heldTagSS {r : Int} (v0 : (List (List Tag))) (x_v0 : Option Addr × Nat) (v1 : Int) (H : p_laws_heldTagSS v0 v1 = some r) : Fn' prog 76 #[.slice x_v0.1 v0.length x_v0.2, .int .i64 (v1)] [imm (.slice x_v0.1 v0.length x_v0.2) v0] [] (ι := Unit) (fun _ => .int .i64 (r)) (fun _ => []) (fun _ => []) := by
 refine cof (args := [_, _]) func76 ntmps76 fun c => ?_
 unfold p_laws_heldTagSS at H
 refine bM aR fun X1 => (sr (aH (v := .int .i64 (0)) rfl (nl (aD (sr (aH (v := .int .i64 (0)) rfl (nl (bdo H fun x2 hx3 H => (dC (Λ := Unit) H (fun e20 _ => [(1, .int .i64 (e20))]) (fun _ _ => []) ?_ ?_)))))))))
 ·refine aQ (dE hx3 () (fun Q6 _ => [(0, .slice x_v0.1 v0.length x_v0.2), (1, .int .i64 (Q6.1)), (5, .int .i64 (Q6.2))]) (fun _ _ => []) bK ?_)
  rintro _ Q6 z7 t9 H1 hi10 hb11
  unfold p_laws_heldTagSS_b0 at H1
  refine aD (sr (aF rfl (aF rfl (aG (bS 142 dU rfl) (aG (cQ rfl rfl) (nl (cH H1 rfl (fun h14 H1 => ?_) (fun h14 H1 => ?_))))))))
  ·refine bH (nT (aD (aQ (sr (aF rfl (aF rfl (gdo H1 fun h15 H1 => (aI (bW dU ty142 rfl rfl h15 rfl (aL (aT aR))) (aI (bZ (i := Q6.2.toNat) (j := 0) ty142 rfl (aL (aT aR)) h15.lt rfl) (aF rfl ?_))))))))))
   refine bdo H1 fun r16 h17 H1 => (aI (bN (c_laws_heldTagS (nth v0 Q6.2.toNat) ((X1 Q6.2.toNat).1, (X1 Q6.2.toNat).2.1) Q6.1 h17) rfl (aC (aL (aS (aW aR h15.lt))) aO)) (aH rfl (nl (sr (aF rfl (aG (cQ rfl rfl) (nl (cH H1 rfl (fun h18 H1 => ?_) (fun h18 H1 => ?_)))))))))
   ·refine sr (aH (v := .int .i64 (-1)) rfl (nl (bQ (rB (rT (rT (rB (rT (rT (?_))))))))))
    obtain rfl := hb11 _ (sm H1)
    replace H := sw.r H
    obtain rfl := si H
    exact bk
   ·exact bH (nB (nT (aP (aF rfl (gdo H1 fun h19 H1 => (aG (bR rfl rfl h19) (aH rfl (aJ (nLI () (hi10 _ (sm H1)) bK)))))))))
  ·exact dA (xT (xT (xE (nMI () (hb11 _ (sm H1)) bK))))
 ·rintro e20 y8 H
  refine nT (sr (aF rfl (aH rfl (nl ?_))))
  obtain rfl := si H
  exact bQ bk
noncomputable def p_laws_heldIntS_b0 (v0 : (List Int)) (Q5 : Int × Int) : Option ((Int × Int) ⊕ (Int ⊕ Int)) := cond (decide (Q5.2 < (v0.length : Int))) (gd (ix Q5.2 v0.length) <| cond (!decide ((nth v0 Q5.2.toNat) = Q5.1)) (some (.inr (.inr (-1)))) (gd (I64 (Q5.1 + 1)) <| gd (I64 (Q5.2 + 1)) <| some (.inl (Q5.1 + 1, Q5.2 + 1)))) (some (.inr (.inl Q5.1)))
noncomputable def p_laws_heldIntS (v0 : (List Int)) (v1 : Int) : Option (Int) := bd (lp (p_laws_heldIntS_b0 v0) (v1, 0)) <| sw (fun e18 => some e18) (fun q => some q)
theorem c_laws_heldIntS {r : Int} (v0 : (List Int)) (x_v0 : Option Addr × Nat) (v1 : Int) (H : p_laws_heldIntS v0 v1 = some r) : Fn' prog 75 #[.slice x_v0.1 v0.length x_v0.2, .int .i64 (v1)] [imm (.slice x_v0.1 v0.length x_v0.2) v0] [] (ι := Unit) (fun _ => .int .i64 (r)) (fun _ => []) (fun _ => []) := by
 refine cof (args := [_, _]) func75 ntmps75 fun c => ?_
 unfold p_laws_heldIntS at H
 refine sr (aH (v := .int .i64 (0)) rfl (nl (aD (sr (aH (v := .int .i64 (0)) rfl (nl (bdo H fun x1 hx2 H => (dC (Λ := Unit) H (fun e18 _ => [(1, .int .i64 (e18))]) (fun _ _ => []) ?_ ?_))))))))
 ·refine aQ (dE hx2 () (fun Q5 _ => [(0, .slice x_v0.1 v0.length x_v0.2), (1, .int .i64 (Q5.1)), (5, .int .i64 (Q5.2))]) (fun _ _ => []) bK ?_)
  rintro _ Q5 z6 t8 H1 hi9 hb10
  unfold p_laws_heldIntS_b0 at H1
  refine aD (sr (aF rfl (aF rfl (aG (bS 3 dQ rfl) (aG (cQ rfl rfl) (nl (cH H1 rfl (fun h13 H1 => ?_) (fun h13 H1 => ?_))))))))
  ·refine bH (nT (aD (aQ (aD (sr (aF rfl (aF rfl (gdo H1 fun h14 H1 => (aI (bW dQ ty3 rfl rfl h14 rfl (aN (aL aR))) (aI (bZ (i := Q5.2.toNat) (j := 0) ty3 rfl (aN (aL aR)) h14.lt rfl) (aF rfl ?_)))))))))))
   refine aG (cS rfl rfl) (nl (cH H1 rfl (fun h15 H1 => ?_) (fun h15 H1 => ?_)))
   ·refine sr (aH (v := .int .i64 (-1)) rfl (nl (bQ (rT (rB (rT (rT (rB (rT (rT (?_)))))))))))
    obtain rfl := hb10 _ (sm H1)
    replace H := sw.r H
    obtain rfl := si H
    exact bk
   ·refine bH (nT (aP (aF rfl (gdo H1 fun h16 H1 => (aG (bR rfl rfl h16) (aH rfl (aJ (nB (nT (aP (aF rfl ?_)))))))))))
    exact gdo H1 fun h17 H1 => (aG (bR rfl rfl h17) (aH rfl (aJ (nLI () (hi9 _ (sm H1)) bK))))
  ·exact dA (xT (xT (xE (nMI () (hb10 _ (sm H1)) bK))))
 ·rintro e18 y7 H
  refine nT (sr (aF rfl (aH rfl (nl ?_))))
  obtain rfl := si H
  exact bQ bk
noncomputable def p_laws_heldPostS_b0 (v0 : (List Post)) (Q6 : Int × Int) : Option ((Int × Int) ⊕ (Int ⊕ Int)) := cond (decide (Q6.2 < (v0.length : Int))) (gd (ix Q6.2 v0.length) <| bd (p_laws_markText Q6.1) fun r16 => cond (!decide (((nth v0 Q6.2.toNat).1).1 = r16)) (some (.inr (.inr (-1)))) (gd (I64 (Q6.1 + 1)) <| bd (p_laws_markText (Q6.1 + 1)) fun r20 => cond (!decide (((nth v0 Q6.2.toNat).1).2 = r20)) (some (.inr (.inr (-1)))) (gd (I64 ((Q6.1 + 1) + 1)) <| bd (p_laws_heldIntS ((nth v0 Q6.2.toNat).2) ((Q6.1 + 1) + 1)) fun r24 => cond (decide (r24 < 0)) (some (.inr (.inr (-1)))) (gd (I64 (Q6.2 + 1)) <| some (.inl (r24, Q6.2 + 1)))))) (some (.inr (.inl Q6.1)))
noncomputable def p_laws_heldPostS (v0 : (List Post)) (v1 : Int) : Option (Int) := bd (lp (p_laws_heldPostS_b0 v0) (v1, 0)) <| sw (fun e28 => some e28) (fun q => some q)
noncomputable def p_laws_heldIndex (v0 : Index) (v1 : Int) : Option (Int) := bd (p_laws_heldTagSS v0.1 v1) fun r4 => cond (decide (r4 < 0)) (some (-1)) (bd (p_laws_heldPostS v0.2 r4) fun r7 => cond (decide (r7 < 0)) (some (-1)) (some r7))
noncomputable def p_laws_heldRowS_b0 (v0 : (List Row)) (Q5 : Int × Int) : Option ((Int × Int) ⊕ (Int ⊕ Int)) := cond (decide (Q5.2 < (v0.length : Int))) (gd (ix Q5.2 v0.length) <| cond (!decide (((nth v0 Q5.2.toNat).1) = Q5.1)) (some (.inr (.inr (-1)))) (gd (I64 (Q5.1 + 1)) <| cond (!decide (((nth v0 Q5.2.toNat).2) = (Q5.1 + 1))) (some (.inr (.inr (-1)))) (gd (I64 ((Q5.1 + 1) + 1)) <| gd (I64 (Q5.2 + 1)) <| some (.inl ((Q5.1 + 1) + 1, Q5.2 + 1))))) (some (.inr (.inl Q5.1)))
noncomputable def p_laws_heldRowS (v0 : (List Row)) (v1 : Int) : Option (Int) := bd (lp (p_laws_heldRowS_b0 v0) (v1, 0)) <| sw (fun e20 => some e20) (fun q => some q)
theorem c_laws_heldRowS {r : Int} (v0 : (List Row)) (x_v0 : Option Addr × Nat) (v1 : Int) (H : p_laws_heldRowS v0 v1 = some r) : Fn' prog 144 #[.slice x_v0.1 v0.length x_v0.2, .int .i64 (v1)] [imm (.slice x_v0.1 v0.length x_v0.2) v0] [] (ι := Unit) (fun _ => .int .i64 (r)) (fun _ => []) (fun _ => []) := by
 refine cof (args := [_, _]) func144 ntmps144 fun c => ?_
 unfold p_laws_heldRowS at H
 refine sr (aH (v := .int .i64 (0)) rfl (nl (aD (sr (aH (v := .int .i64 (0)) rfl (nl (bdo H fun x1 hx2 H => (dC (Λ := Unit) H (fun e20 _ => [(1, .int .i64 (e20))]) (fun _ _ => []) ?_ ?_))))))))
 ·refine aQ (dE hx2 () (fun Q5 _ => [(0, .slice x_v0.1 v0.length x_v0.2), (1, .int .i64 (Q5.1)), (5, .int .i64 (Q5.2))]) (fun _ _ => []) bK ?_)
  rintro _ Q5 z6 t8 H1 hi9 hb10
  unfold p_laws_heldRowS_b0 at H1
  refine aD (sr (aF rfl (aF rfl (aG (bS 135 dL rfl) (aG (cQ rfl rfl) (nl (cH H1 rfl (fun h13 H1 => ?_) (fun h13 H1 => ?_))))))))
  ·refine bH (nT (aD (aQ (aD (sr (aF rfl (aF rfl (gdo H1 fun h14 H1 => (aI (bW dL ty135 rfl rfl h14 rfl (aN (aL aR))) (aI (bY (j := 0) Q5.2.toNat fa135_0 rfl (aN (aL aR)) h14.lt rfl) (aI (bZ (i := Q5.2.toNat) (j := 0) ty3 rfl (aN (aL aR)) h14.lt rfl) ?_)))))))))))
   refine aF rfl (aG (cS rfl rfl) (nl (cH H1 rfl (fun h15 H1 => ?_) (fun h15 H1 => ?_))))
   ·refine sr (aH (v := .int .i64 (-1)) rfl (nl (bQ (rT (rB (rT (rT (rB (rT (rT (?_)))))))))))
    obtain rfl := hb10 _ (sm H1)
    replace H := sw.r H
    obtain rfl := si H
    exact bk
   ·refine bH (nT (sr (aF rfl (gdo H1 fun h16 H1 => (aG (bR rfl rfl h16) (aH rfl (nl (aD (sr (aF rfl (aF rfl ?_)))))))))))
    refine aI (bW dL ty135 rfl rfl h14 rfl (aN (aL aR))) (aI (bY (j := 0) Q5.2.toNat fa135_1 rfl (aN (aL aR)) h14.lt rfl) (aI (bZ (i := Q5.2.toNat) (j := 1) ty3 rfl (aN (aL aR)) h14.lt rfl) (aF rfl (aG (cS rfl rfl) (nl (cH H1 rfl (fun h17 H1 => ?_) (fun h17 H1 => ?_)))))))
    ·refine sr (aH (v := .int .i64 (-1)) rfl (nl (bQ (rT (rB (rT (rT (rB (rT (rT (?_)))))))))))
     obtain rfl := hb10 _ (sm H1)
     replace H := sw.r H
     obtain rfl := si H
     exact bk
    ·refine bH (nT (aP (aF rfl (gdo H1 fun h18 H1 => (aG (bR rfl rfl h18) (aH rfl (aJ (nB (nT (aP (aF rfl ?_)))))))))))
     exact gdo H1 fun h19 H1 => (aG (bR rfl rfl h19) (aH rfl (aJ (nLI () (hi9 _ (sm H1)) bK))))
  ·exact dA (xT (xT (xE (nMI () (hb10 _ (sm H1)) bK))))
 ·rintro e20 y7 H
  refine nT (sr (aF rfl (aH rfl (nl ?_))))
  obtain rfl := si H
  exact bQ bk
noncomputable def p_laws_heldRowSS_b0 (v0 : (List (List Row))) (Q6 : Int × Int) : Option ((Int × Int) ⊕ (Int ⊕ Int)) := cond (decide (Q6.2 < (v0.length : Int))) (gd (ix Q6.2 v0.length) <| bd (p_laws_heldRowS (nth v0 Q6.2.toNat) Q6.1) fun r16 => cond (decide (r16 < 0)) (some (.inr (.inr (-1)))) (gd (I64 (Q6.2 + 1)) <| some (.inl (r16, Q6.2 + 1)))) (some (.inr (.inl Q6.1)))
noncomputable def p_laws_heldRowSS (v0 : (List (List Row))) (v1 : Int) : Option (Int) := bd (lp (p_laws_heldRowSS_b0 v0) (v1, 0)) <| sw (fun e20 => some e20) (fun q => some q)
theorem c_laws_heldRowSS {r : Int} (v0 : (List (List Row))) (x_v0 : Option Addr × Nat) (v1 : Int) (H : p_laws_heldRowSS v0 v1 = some r) : Fn' prog 91 #[.slice x_v0.1 v0.length x_v0.2, .int .i64 (v1)] [imm (.slice x_v0.1 v0.length x_v0.2) v0] [] (ι := Unit) (fun _ => .int .i64 (r)) (fun _ => []) (fun _ => []) := by
 refine cof (args := [_, _]) func91 ntmps91 fun c => ?_
 unfold p_laws_heldRowSS at H
 refine bM aR fun X1 => (sr (aH (v := .int .i64 (0)) rfl (nl (aD (sr (aH (v := .int .i64 (0)) rfl (nl (bdo H fun x2 hx3 H => (dC (Λ := Unit) H (fun e20 _ => [(1, .int .i64 (e20))]) (fun _ _ => []) ?_ ?_)))))))))
 ·refine aQ (dE hx3 () (fun Q6 _ => [(0, .slice x_v0.1 v0.length x_v0.2), (1, .int .i64 (Q6.1)), (5, .int .i64 (Q6.2))]) (fun _ _ => []) bK ?_)
  rintro _ Q6 z7 t9 H1 hi10 hb11
  unfold p_laws_heldRowSS_b0 at H1
  refine aD (sr (aF rfl (aF rfl (aG (bS 130 eC rfl) (aG (cQ rfl rfl) (nl (cH H1 rfl (fun h14 H1 => ?_) (fun h14 H1 => ?_))))))))
  ·refine bH (nT (aD (aQ (sr (aF rfl (aF rfl (gdo H1 fun h15 H1 => (aI (bW eC ty130 rfl rfl h15 rfl (aL (aT aR))) (aI (bZ (i := Q6.2.toNat) (j := 0) ty130 rfl (aL (aT aR)) h15.lt rfl) (aF rfl ?_))))))))))
   refine bdo H1 fun r16 h17 H1 => (aI (bN (c_laws_heldRowS (nth v0 Q6.2.toNat) ((X1 Q6.2.toNat).1, (X1 Q6.2.toNat).2.1) Q6.1 h17) rfl (aC (aL (aS (aW aR h15.lt))) aO)) (aH rfl (nl (sr (aF rfl (aG (cQ rfl rfl) (nl (cH H1 rfl (fun h18 H1 => ?_) (fun h18 H1 => ?_)))))))))
   ·refine sr (aH (v := .int .i64 (-1)) rfl (nl (bQ (rB (rT (rT (rB (rT (rT (?_))))))))))
    obtain rfl := hb11 _ (sm H1)
    replace H := sw.r H
    obtain rfl := si H
    exact bk
   ·exact bH (nB (nT (aP (aF rfl (gdo H1 fun h19 H1 => (aG (bR rfl rfl h19) (aH rfl (aJ (nLI () (hi10 _ (sm H1)) bK)))))))))
  ·exact dA (xT (xT (xE (nMI () (hb11 _ (sm H1)) bK))))
 ·rintro e20 y8 H
  refine nT (sr (aF rfl (aH rfl (nl ?_))))
  obtain rfl := si H
  exact bQ bk
noncomputable def p_laws_heldPartS_b0 (v0 : (List Part)) (Q6 : Int × Int) : Option ((Int × Int) ⊕ (Int ⊕ Int)) := cond (decide (Q6.2 < (v0.length : Int))) (gd (ix Q6.2 v0.length) <| bd (p_laws_heldIntS ((nth v0 Q6.2.toNat).1) Q6.1) fun r16 => cond (decide (r16 < 0)) (some (.inr (.inr (-1)))) (bd (p_laws_heldRowSS ((nth v0 Q6.2.toNat).2) r16) fun r19 => cond (decide (r19 < 0)) (some (.inr (.inr (-1)))) (gd (I64 (Q6.2 + 1)) <| some (.inl (r19, Q6.2 + 1))))) (some (.inr (.inl Q6.1)))
noncomputable def p_laws_heldPartS (v0 : (List Part)) (v1 : Int) : Option (Int) := bd (lp (p_laws_heldPartS_b0 v0) (v1, 0)) <| sw (fun e23 => some e23) (fun q => some q)
noncomputable def p_laws_heldSampleS_b0 (v0 : (List Sample)) (Q5 : Int × Int) : Option ((Int × Int) ⊕ (Int ⊕ Int)) := cond (decide (Q5.2 < (v0.length : Int))) (gd (ix Q5.2 v0.length) <| cond (!decide (((nth v0 Q5.2.toNat).1) = Q5.1)) (some (.inr (.inr (-1)))) (gd (I64 (Q5.1 + 1)) <| cond (!decide ((((nth v0 Q5.2.toNat).2).1) = (Q5.1 + 1))) (some (.inr (.inr (-1)))) (gd (I64 ((Q5.1 + 1) + 1)) <| cond (!decide ((((nth v0 Q5.2.toNat).2).2) = ((Q5.1 + 1) + 1))) (some (.inr (.inr (-1)))) (gd (I64 (((Q5.1 + 1) + 1) + 1)) <| gd (I64 (Q5.2 + 1)) <| some (.inl (((Q5.1 + 1) + 1) + 1, Q5.2 + 1)))))) (some (.inr (.inl Q5.1)))
noncomputable def p_laws_heldSampleS (v0 : (List Sample)) (v1 : Int) : Option (Int) := bd (lp (p_laws_heldSampleS_b0 v0) (v1, 0)) <| sw (fun e22 => some e22) (fun q => some q)
noncomputable def p_laws_heldStore (v0 : Store) (v1 : Int) : Option (Int) := bd (p_laws_heldIndex v0.1 v1) fun r5 => cond (decide (r5 < 0)) (some (-1)) (bd (p_laws_heldPartS v0.2.1 r5) fun r8 => cond (decide (r8 < 0)) (some (-1)) (bd (p_laws_heldSampleS v0.2.2 r8) fun r11 => cond (decide (r11 < 0)) (some (-1)) (some r11)))
noncomputable def p_spec_l12Make_b0 (v0 : (List (List Row))) (Q12 : (List Int) × (List (List Row)) × Int) : Option (((List Int) × (List (List Row)) × Int) ⊕ ((List Int) × (List (List Row)))) := cond (decide (Q12.2.2 < (v0.length : Int))) (gd (ix Q12.2.2 v0.length) <| cond (decide (0 < ((nth v0 Q12.2.2.toNat).length : Int))) (gd (I64 (Q12.2.2 + 1)) <| gd (room (Q12.1.length + 1)) <| gd (room (([] : List Row).length + (nth v0 Q12.2.2.toNat).length)) <| gd (room (Q12.2.1.length + 1)) <| some (.inl ((Q12.1 ++ [Q12.2.2 + 1]), (Q12.2.1 ++ [([] : List Row) ++ (nth v0 Q12.2.2.toNat)]), Q12.2.2 + 1))) (gd (I64 (Q12.2.2 + 1)) <| some (.inl (Q12.1, Q12.2.1, Q12.2.2 + 1)))) (some (.inr (Q12.1, Q12.2.1)))
noncomputable def p_spec_l12Make (v0 : (List (List Row))) : Option (Part) := bd (lp (p_spec_l12Make_b0 v0) (([] : List Int), ([] : List (List Row)), 0)) fun x8 => some x8
theorem c_spec_l12Make {r : Part} (v0 : (List (List Row))) (x_v0 : Option Addr × Nat) (H : p_spec_l12Make v0 = some r) : Fn' prog 173 #[.slice x_v0.1 v0.length x_v0.2] [imm (.slice x_v0.1 v0.length x_v0.2) v0] [] (ι := (Option Addr × Nat) × (Option Addr × Nat)) (fun x => .agg #[.slice x.1.1 r.1.length x.1.2, .slice x.2.1 r.2.length x.2.2]) (fun _ => []) (fun x => [tree (.slice x.1.1 r.1.length x.1.2) r.1, tree (.slice x.2.1 r.2.length x.2.2) r.2]) := by
 refine cof (args := [_]) func173 ntmps173 fun c => ?_
 unfold p_spec_l12Make at H
 refine bM aR fun X1 => (sr (f1 (cD ty75) fun g2 => (nl (sr (f2 (e_lit0 Int dQ ty3) fun a3 c4 => (f2 (e_lit0 (List Row) eC ty130) fun a5 c6 => (aG (v := .agg #[.slice a3 (([] : List Int).length) c4, .slice a5 (([] : List (List Row)).length) c6]) (p_buildS (vs := [(0, .slice a3 (([] : List Int).length) c4), (1, .slice a5 (([] : List (List Row)).length) c6)]) (cs := #[.slice a3 (([] : List Int).length) c4, .slice a5 (([] : List (List Row)).length) c6]) ty75 pl75 rfl rfl) (f1 (cD ty75) fun g7 => (stb (cs' := [.slice a3 (([] : List Int).length) c4, .slice a5 (([] : List (List Row)).length) c6]) ty75 cZ ?_)))))))))
 refine nl (aD (sr (aH (v := .int .i64 (0)) rfl (nl (bdo H fun x8 hx9 H => (dB (ι := (Option Addr × Nat) × (Option Addr × Nat)) (fun ψ => [(2, .pointer (some ⟨g2, 0, none⟩)), (3, .pointer (some ⟨g7, 0, none⟩))]) (fun ψ => [box g2 75 [.slice none 0 0, .slice none 0 0], tree (.slice ψ.1.1 x8.1.length ψ.1.2) x8.1, tree (.slice ψ.2.1 x8.2.length ψ.2.2) x8.2, box g7 75 [.slice ψ.1.1 x8.1.length ψ.1.2, .slice ψ.2.1 x8.2.length ψ.2.2]]) ?_ ?_))))))
 ·refine aQ (dE (Λ := ((Option Addr × Nat) × (Option Addr × Nat))) hx9 ((a3, c4), (a5, c6)) (fun Q12 _ => [(0, .slice x_v0.1 v0.length x_v0.2), (2, .pointer (some ⟨g2, 0, none⟩)), (3, .pointer (some ⟨g7, 0, none⟩)), (4, .int .i64 (Q12.2.2))]) (fun Q12 z13 => [box g2 75 [.slice none 0 0, .slice none 0 0], tree (.slice z13.1.1 Q12.1.length z13.1.2) Q12.1, tree (.slice z13.2.1 Q12.2.1.length z13.2.2) Q12.2.1, box g7 75 [.slice z13.1.1 Q12.1.length z13.1.2, .slice z13.2.1 Q12.2.1.length z13.2.2]]) (.cons dl3 (.cons dl2 (.cons dl1 (.cons aA .nil)))) ?_)
  rintro _ Q12 z13 t15 H1 hi16 hb17
  unfold p_spec_l12Make_b0 at H1
  refine aD (sr (aF rfl (aF rfl (aG (bS 130 eC rfl) (aG (cQ rfl rfl) (nl (cH H1 rfl (fun h20 H1 => ?_) (fun h20 H1 => ?_))))))))
  ·refine bH (nT (aD (aQ (sr (aF rfl (aF rfl (gdo H1 fun h21 H1 => (aI (bW eC ty130 rfl rfl h21 rfl (aL (aT aR))) (aI (bZ (i := Q12.2.2.toNat) (j := 0) ty130 rfl (aL (aT aR)) h21.lt rfl) (aG (bS 135 dL rfl) ?_))))))))))
   refine aG (cV rfl rfl) (nl (cH H1 rfl (fun h22 H1 => ?_) (fun h22 H1 => ?_)))
   ·refine sr (aG (cB fa75_0 rfl rfl) (aI (bI ty23 rfl hs3 rfl) (aF rfl (gdo H1 fun h23 H1 => (aG (bR rfl rfl h23) (f1 (e_lit (vs := [(0, .int .i64 (Q12.2.2 + 1))]) [.int .i64 (Q12.2.2 + 1)] dQ ty3 rfl (by decide) (by decide) (by kernel_rfl)) fun g24 => (gdo H1 fun h27 H1 => (f2 (e_app1 (l := Q12.1) (α := Int) (Q12.2.2 + 1) () dQ ty3 rfl rfl (h27.b (by decide)) h27.x rfl (cX _) (.cons dl2 (.cons aA .nil))) fun a25 c26 => (aG (cB fa75_0 rfl rfl) ?_)))))))))
    refine stb (cs' := [.slice a25 ((Q12.1 ++ [Q12.2.2 + 1]).length) c26, .slice z13.2.1 Q12.2.1.length z13.2.2]) ty23 up3 (nl (dG [(0, .slice x_v0.1 v0.length x_v0.2), (2, .pointer (some ⟨g2, 0, none⟩)), (3, .pointer (some ⟨g7, 0, none⟩)), (4, .int .i64 (Q12.2.2))] 2 [0, 1, 3, 4, 5, 6, 2, 7, 8, 9, 10, 11] [2, 7, 8, 9, 11] [] mixed (by kernel_rfl) (by decide) dI ⟨rfl, rfl, rfl, rfl, trivial⟩ rfl okNil (w_p rfl (cB fa75_1 rfl rfl) ?_)))
    refine w_o rfl (fun F => (bI ty73 rfl (hs3.app F) rfl)) (w_p rfl (aE rfl) (w_p rfl (aE rfl) ?_))
    refine w_o rfl (fun F => (bW eC ty130 rfl rfl h21 rfl (aL (aT aR)))) ?_
    refine w_o rfl (fun F => (bZ (i := Q12.2.2.toNat) (j := 0) ty130 rfl (aL (aT aR)) h21.lt rfl)) (cJ rfl (by decide) rfl cN rfl (n_lit0 Row dL ty135) ?_)
    rintro _ _ _ ⟨a28, c29, rfl, rfl, rfl⟩
    refine ⟨(bV rfl rfl (fun F => (bZ (i := Q12.2.2.toNat) (j := 0) ty130 rfl (aL (aT aR)) h21.lt rfl)) (bV rfl rfl (fun F => (bW eC ty130 rfl rfl h21 rfl (aL (aT aR)))) (bV rfl rfl (fun F => (bI ty73 rfl (hs4.app F) rfl)) bU))), ?_⟩
    refine gdo H1 fun h32 H1 => (cJ rfl (by decide) rfl cN rfl (n_appF (l := ([] : List Row)) (k := nth v0 Q12.2.2.toNat) (α := Row) dL ty135 rfl rfl (h32.b (by decide)) h32.x (.cons aA .nil) (aL (aS (aW aR h21.lt)))) ?_)
    rintro _ _ _ ⟨a30, c31, rfl, rfl, rfl⟩
    refine ⟨(aM (by kernel_rfl) (aM (by kernel_rfl) (bV rfl rfl (fun F => (bI ty73 rfl (hs4.app F) rfl)) bU))), ?_⟩
    refine cJ rfl (by decide) rfl cN rfl (n_lit (vs := [(0, .slice a30 ((([] : List Row) ++ (nth v0 Q12.2.2.toNat)).length) c31)]) [.slice a30 ((([] : List Row) ++ (nth v0 Q12.2.2.toNat)).length) c31] eC ty130 rfl (by decide) (by decide) (by kernel_rfl)) ?_
    rintro _ _ _ ⟨g33, rfl, rfl, rfl⟩
    refine ⟨(aM (by kernel_rfl) (bV rfl rfl (fun F => (bW eC ty130 rfl rfl h21 rfl (aL (aT aR)))) (bV rfl rfl (fun F => (bI ty73 rfl (hs5.app F) rfl)) bU))), ?_⟩
    refine gdo H1 fun h36 H1 => (cJ rfl (by decide) rfl cN rfl (n_app1 (l := Q12.2.1) (α := (List Row)) (([] : List Row) ++ (nth v0 Q12.2.2.toNat)) (a30, c31) eC ty130 rfl rfl (h36.b (by decide)) h36.x rfl (cX _) (.cons dl4 (.cons aA (.cons aA .nil)))) ?_)
    rintro _ _ _ ⟨a34, c35, rfl, rfl, rfl⟩
    refine ⟨(aM (by kernel_rfl) (bV rfl rfl (fun F => (bW eC ty130 rfl rfl h21 rfl (aL (aT aR)))) (aM (by kernel_rfl) bU))), ?_⟩
    refine w_p rfl (cB fa75_1 rfl rfl) (w_en rfl rfl cN rfl (n_store (cs' := [.slice a25 ((Q12.1 ++ [Q12.2.2 + 1]).length) c26, .slice a34 ((Q12.2.1 ++ [([] : List Row) ++ (nth v0 Q12.2.2.toNat)]).length) c35]) ty73 rfl rfl up3 rfl (one_of rfl) (Nat.le_of_ble_eq_true rfl) rfl) ?_)
    rintro _ _ _ ⟨rfl, rfl, rfl⟩
    refine ⟨(aM (by kernel_rfl) (aM (by kernel_rfl) (aM (by kernel_rfl) bU))), ?_⟩
    refine cK ?_
    show At _ _ _ _ _ _
    exact nB (nT (aP (aF rfl (aG (bR rfl rfl h23) (aH rfl (aJ (nLI ((a25, c26), (a34, c35)) (hi16 _ (sm H1)) (.cons dl2 (.cons dl1 (.cons aA (.cons aA .nil)))))))))))
   ·exact bH (nB (nT (aP (aF rfl (gdo H1 fun h37 H1 => (aG (bR rfl rfl h37) (aH rfl (aJ (nLI ((z13.1.1, z13.1.2), (z13.2.1, z13.2.2)) (hi16 _ (sm H1)) (.cons aA (.cons aA (.cons aA (.cons aA .nil)))))))))))))
  ·refine dA (xT (xT (xE (?_))))
   obtain rfl := hb17 _ (sm H1)
   exact nMC ((z13.1.1, z13.1.2), (z13.2.1, z13.2.2)) ⟨rfl, rfl, trivial⟩ bT (.cons aA (.cons aA (.cons aA (.cons aA .nil))))
 ·intro y14
  show At _ _ [(2, .pointer (some ⟨g2, 0, none⟩)), (3, .pointer (some ⟨g7, 0, none⟩))] _ [box g2 75 [.slice none 0 0, .slice none 0 0], tree (.slice y14.1.1 x8.1.length y14.1.2) x8.1, tree (.slice y14.2.1 x8.2.length y14.2.2) x8.2, box g7 75 [.slice y14.1.1 x8.1.length y14.1.2, .slice y14.2.1 x8.2.length y14.2.2]] _
  refine nT (sr (aI (bJ ty75 rfl hs3 rfl) (stb (cs' := [.slice y14.1.1 x8.1.length y14.1.2, .slice y14.2.1 x8.2.length y14.2.2]) ty75 cZ (nl (bQ ?_)))))
  obtain rfl := si H
  exact back1 y14 rfl (ResV.agg ty75 rfl aB rfl) rfl cM (.cons dl1 (.cons dl1 .nil))
noncomputable def p_laws_szPost (v0 : Post) (v1 : Int) : Option (Int) := bd (p_laws_szTag v0.1 v1) fun r2 => cond (decide (r2 < 0)) (some (-1)) (bd (p_laws_szIntS v0.2 r2) fun r5 => cond (decide (r5 < 0)) (some (-1)) (some r5))
theorem c_laws_szPost {r : Int} (v0 : Post) (x_v0 : (Unit × Unit) × (Option Addr × Nat)) (v1 : Int) (H : p_laws_szPost v0 v1 = some r) : Fn' prog 174 #[.agg #[.string (v0.1.1), .string (v0.1.2), .slice x_v0.2.1 v0.2.length x_v0.2.2], .int .i64 (v1)] [imm (.slice x_v0.2.1 v0.2.length x_v0.2.2) v0.2] [] (ι := Unit) (fun _ => .int .i64 (r)) (fun _ => []) (fun _ => []) := by
 refine cof (args := [_, _]) func174 ntmps174 fun c => ?_
 unfold p_laws_szPost at H
 refine sr (f1 (cC (t := 204) rfl) fun g1 => (aH (v := .int .i64 (0)) rfl (nl (sr (aG (cB fa204_0 rfl rfl) (aI (v := .agg #[.string (v0.1.1), .string (v0.1.2)]) (q_ldbP [.string (v0.1.1), .string (v0.1.2)] ty180 rfl aB rfl rfl) (aF rfl (bdo H fun r2 h3 H => (aI (bN (c_laws_szTag v0.1 v1 h3) rfl aO) (aH rfl (nl ?_)))))))))))
 refine aD (sr (aF rfl (aG (cQ rfl rfl) (nl (cH H rfl (fun h4 H => ?_) (fun h4 H => ?_))))))
 ·refine sr (aH (v := .int .i64 (-1)) rfl (nl (bQ (rT (?_)))))
  obtain rfl := si H
  exact bk
 ·refine bH (nT (sr (aG (cB fa204_1 rfl rfl) (aI (bI ty23 rfl aB rfl) (aF rfl (bdo H fun r5 h6 H => (aI (bN (c_laws_szIntS v0.2 x_v0.2 r2 h6) rfl (aC (aL aR) aO)) (aH rfl (nl (aD (sr ?_)))))))))))
  refine aF rfl (aG (cQ rfl rfl) (nl (cH H rfl (fun h7 H => ?_) (fun h7 H => ?_))))
  ·refine sr (aH (v := .int .i64 (-1)) rfl (nl (bQ (rT (?_)))))
   obtain rfl := si H
   exact bk
  ·refine bH (nT (sr (aF rfl (aH rfl (nl ?_)))))
   obtain rfl := si H
   exact bQ bk
noncomputable def p_laws_szPostS_b0 (v0 : (List Post)) (Q8 : Int × Int) : Option ((Int × Int) ⊕ (Int ⊕ Int)) := cond (decide (Q8.2 < (v0.length : Int))) (gd (ix Q8.2 v0.length) <| bd (p_laws_szPost (nth v0 Q8.2.toNat) Q8.1) fun r18 => cond (decide (r18 < 0)) (some (.inr (.inr (-1)))) (gd (I64 (Q8.2 + 1)) <| some (.inl (r18, Q8.2 + 1)))) (some (.inr (.inl Q8.1)))
noncomputable def p_laws_szPostS (v0 : (List Post)) (v1 : Int) : Option (Int) := gd (I64 (v1 - (v0.length : Int))) <| cond (decide ((v1 - (v0.length : Int)) < 0)) (some (-1)) (bd (lp (p_laws_szPostS_b0 v0) (v1 - (v0.length : Int), 0)) <| sw (fun e22 => some e22) (fun q => some q))
theorem c_laws_szPostS {r : Int} (v0 : (List Post)) (x_v0 : Option Addr × Nat) (v1 : Int) (H : p_laws_szPostS v0 v1 = some r) : Fn' prog 130 #[.slice x_v0.1 v0.length x_v0.2, .int .i64 (v1)] [imm (.slice x_v0.1 v0.length x_v0.2) v0] [] (ι := Unit) (fun _ => .int .i64 (r)) (fun _ => []) (fun _ => []) := by
 refine cof (args := [_, _]) func130 ntmps130 fun c => ?_
 unfold p_laws_szPostS at H
 refine bM aR fun X1 => (sr (aH (v := .int .i64 (0)) rfl (nl (sr (aF rfl (aF rfl (aG (bS 204 dY rfl) (gdo H fun h2 H => (aG (cR rfl rfl h2) (aH rfl (nl ?_)))))))))))
 refine aD (sr (aF rfl (aG (cQ rfl rfl) (nl (cH H rfl (fun h3 H => ?_) (fun h3 H => ?_))))))
 ·refine sr (aH (v := .int .i64 (-1)) rfl (nl (bQ (rT (?_)))))
  obtain rfl := si H
  exact bk
 ·refine bH (nT (aD (sr (aH (v := .int .i64 (0)) rfl (nl (bdo H fun x4 hx5 H => (dC (Λ := Unit) H (fun e22 _ => [(1, .int .i64 (e22))]) (fun _ _ => []) ?_ ?_)))))))
  ·refine aQ (dE hx5 () (fun Q8 _ => [(0, .slice x_v0.1 v0.length x_v0.2), (1, .int .i64 (Q8.1)), (5, .int .i64 (Q8.2))]) (fun _ _ => []) bK ?_)
   rintro _ Q8 z9 t11 H1 hi12 hb13
   unfold p_laws_szPostS_b0 at H1
   refine aD (sr (aF rfl (aF rfl (aG (bS 204 dY rfl) (aG (cQ rfl rfl) (nl (cH H1 rfl (fun h16 H1 => ?_) (fun h16 H1 => ?_))))))))
   ·refine bH (nT (aD (aQ (sr (aF rfl (aF rfl (gdo H1 fun h17 H1 => (aI (bW dY ty204 rfl rfl h17 rfl (aL (aT aR))) (aI (v := .agg #[.string (((nth v0 Q8.2.toNat).1).1), .string (((nth v0 Q8.2.toNat).1).2), .slice (((X1 Q8.2.toNat).2).1) (((nth v0 Q8.2.toNat).2).length) (((X1 Q8.2.toNat).2).2.1)]) (cA (i := Q8.2.toNat) ty204 rfl (aL (aT aR)) h17.lt) (aF rfl ?_))))))))))
    refine bdo H1 fun r18 h19 H1 => (aI (bN (c_laws_szPost (nth v0 Q8.2.toNat) (((), ()), (((X1 Q8.2.toNat).2).1, ((X1 Q8.2.toNat).2).2.1)) Q8.1 h19) rfl (aC (aL (aS (aU (aW aR h17.lt)))) aO)) (aH rfl (nl (sr (aF rfl (aG (cQ rfl rfl) (nl (cH H1 rfl (fun h20 H1 => ?_) (fun h20 H1 => ?_)))))))))
    ·refine sr (aH (v := .int .i64 (-1)) rfl (nl (bQ (rB (rT (rT (rB (rT (rT (?_))))))))))
     obtain rfl := hb13 _ (sm H1)
     replace H := sw.r H
     obtain rfl := si H
     exact bk
    ·exact bH (nB (nT (aP (aF rfl (gdo H1 fun h21 H1 => (aG (bR rfl rfl h21) (aH rfl (aJ (nLI () (hi12 _ (sm H1)) bK)))))))))
   ·exact dA (xT (xT (xE (nMI () (hb13 _ (sm H1)) bK))))
  ·rintro e22 y10 H
   refine nT (sr (aF rfl (aH rfl (nl ?_))))
   obtain rfl := si H
   exact bQ bk
noncomputable def p_laws_szIndex (v0 : Index) (v1 : Int) : Option (Int) := bd (p_laws_szTagSS v0.1 v1) fun r4 => cond (decide (r4 < 0)) (some (-1)) (bd (p_laws_szPostS v0.2 r4) fun r7 => cond (decide (r7 < 0)) (some (-1)) (some r7))
theorem c_laws_szIndex {r : Int} (v0 : Index) (x_v0 : (Option Addr × Nat) × (Option Addr × Nat)) (v1 : Int) (H : p_laws_szIndex v0 v1 = some r) : Fn' prog 77 #[.agg #[.slice x_v0.1.1 v0.1.length x_v0.1.2, .slice x_v0.2.1 v0.2.length x_v0.2.2], .int .i64 (v1)] [imm (.slice x_v0.1.1 v0.1.length x_v0.1.2) v0.1, imm (.slice x_v0.2.1 v0.2.length x_v0.2.2) v0.2] [] (ι := Unit) (fun _ => .int .i64 (r)) (fun _ => []) (fun _ => []) := by
 refine cof (args := [_, _]) func77 ntmps77 fun c => ?_
 unfold p_laws_szIndex at H
 refine bM aR fun X1 => (bM aR.s.s fun X2 => (sr (f1 (cC (t := 50) rfl) fun g3 => (aH (v := .int .i64 (0)) rfl (nl (sr (aG (cB fa50_0 rfl rfl) (aI (bI ty24 rfl aB rfl) (aF rfl (bdo H fun r4 h5 H => ?_))))))))))
 refine aI (bN (c_laws_szTagSS v0.1 x_v0.1 v1 h5) rfl (aC (aL (aS aR.s)) aO)) (aH rfl (nl (aD (sr (aF rfl (aG (cQ rfl rfl) (nl (cH H rfl (fun h6 H => ?_) (fun h6 H => ?_)))))))))
 ·refine sr (aH (v := .int .i64 (-1)) rfl (nl (bQ (rT (?_)))))
  obtain rfl := si H
  exact bk
 ·refine bH (nT (sr (aG (cB fa50_1 rfl rfl) (aI (bI ty48 rfl aB rfl) (aF rfl (bdo H fun r7 h8 H => (aI (bN (c_laws_szPostS v0.2 x_v0.2 r4 h8) rfl (aC (aL (aS aR)) aO)) (aH rfl (nl (aD (sr ?_)))))))))))
  refine aF rfl (aG (cQ rfl rfl) (nl (cH H rfl (fun h9 H => ?_) (fun h9 H => ?_))))
  ·refine sr (aH (v := .int .i64 (-1)) rfl (nl (bQ (rT (?_)))))
   obtain rfl := si H
   exact bk
  ·refine bH (nT (sr (aF rfl (aH rfl (nl ?_)))))
   obtain rfl := si H
   exact bQ bk
noncomputable def p_laws_szPartS_b0 (v0 : (List Part)) (Q8 : Int × Int) : Option ((Int × Int) ⊕ (Int ⊕ Int)) := cond (decide (Q8.2 < (v0.length : Int))) (gd (ix Q8.2 v0.length) <| bd (p_laws_szPart (nth v0 Q8.2.toNat) Q8.1) fun r18 => cond (decide (r18 < 0)) (some (.inr (.inr (-1)))) (gd (I64 (Q8.2 + 1)) <| some (.inl (r18, Q8.2 + 1)))) (some (.inr (.inl Q8.1)))
noncomputable def p_laws_szPartS (v0 : (List Part)) (v1 : Int) : Option (Int) := gd (I64 (v1 - (v0.length : Int))) <| cond (decide ((v1 - (v0.length : Int)) < 0)) (some (-1)) (bd (lp (p_laws_szPartS_b0 v0) (v1 - (v0.length : Int), 0)) <| sw (fun e22 => some e22) (fun q => some q))
theorem c_laws_szPartS {r : Int} (v0 : (List Part)) (x_v0 : Option Addr × Nat) (v1 : Int) (H : p_laws_szPartS v0 v1 = some r) : Fn' prog 78 #[.slice x_v0.1 v0.length x_v0.2, .int .i64 (v1)] [imm (.slice x_v0.1 v0.length x_v0.2) v0] [] (ι := Unit) (fun _ => .int .i64 (r)) (fun _ => []) (fun _ => []) := by
 refine cof (args := [_, _]) func78 ntmps78 fun c => ?_
 unfold p_laws_szPartS at H
 refine bM aR fun X1 => (sr (aH (v := .int .i64 (0)) rfl (nl (sr (aF rfl (aF rfl (aG (bS 120 eA rfl) (gdo H fun h2 H => (aG (cR rfl rfl h2) (aH rfl (nl ?_)))))))))))
 refine aD (sr (aF rfl (aG (cQ rfl rfl) (nl (cH H rfl (fun h3 H => ?_) (fun h3 H => ?_))))))
 ·refine sr (aH (v := .int .i64 (-1)) rfl (nl (bQ (rT (?_)))))
  obtain rfl := si H
  exact bk
 ·refine bH (nT (aD (sr (aH (v := .int .i64 (0)) rfl (nl (bdo H fun x4 hx5 H => (dC (Λ := Unit) H (fun e22 _ => [(1, .int .i64 (e22))]) (fun _ _ => []) ?_ ?_)))))))
  ·refine aQ (dE hx5 () (fun Q8 _ => [(0, .slice x_v0.1 v0.length x_v0.2), (1, .int .i64 (Q8.1)), (5, .int .i64 (Q8.2))]) (fun _ _ => []) bK ?_)
   rintro _ Q8 z9 t11 H1 hi12 hb13
   unfold p_laws_szPartS_b0 at H1
   refine aD (sr (aF rfl (aF rfl (aG (bS 120 eA rfl) (aG (cQ rfl rfl) (nl (cH H1 rfl (fun h16 H1 => ?_) (fun h16 H1 => ?_))))))))
   ·refine bH (nT (aD (aQ (sr (aF rfl (aF rfl (gdo H1 fun h17 H1 => (aI (bW eA ty120 rfl rfl h17 rfl (aL (aT aR))) (aI (v := .agg #[.slice (((X1 Q8.2.toNat).1).1) (((nth v0 Q8.2.toNat).1).length) (((X1 Q8.2.toNat).1).2.1), .slice (((X1 Q8.2.toNat).2).1) (((nth v0 Q8.2.toNat).2).length) (((X1 Q8.2.toNat).2).2.1)]) (cA (i := Q8.2.toNat) ty120 rfl (aL (aT aR)) h17.lt) (aF rfl ?_))))))))))
    refine bdo H1 fun r18 h19 H1 => (aI (bN (c_laws_szPart (nth v0 Q8.2.toNat) ((((X1 Q8.2.toNat).1).1, ((X1 Q8.2.toNat).1).2.1), (((X1 Q8.2.toNat).2).1, ((X1 Q8.2.toNat).2).2.1)) Q8.1 h19) rfl (aC (aL (aS (aV (aW aR h17.lt)))) (aC (aL (aS (aU (aW aR h17.lt)))) aO))) (aH rfl (nl (sr (aF rfl (aG (cQ rfl rfl) (nl (cH H1 rfl (fun h20 H1 => ?_) (fun h20 H1 => ?_)))))))))
    ·refine sr (aH (v := .int .i64 (-1)) rfl (nl (bQ (rB (rT (rT (rB (rT (rT (?_))))))))))
     obtain rfl := hb13 _ (sm H1)
     replace H := sw.r H
     obtain rfl := si H
     exact bk
    ·exact bH (nB (nT (aP (aF rfl (gdo H1 fun h21 H1 => (aG (bR rfl rfl h21) (aH rfl (aJ (nLI () (hi12 _ (sm H1)) bK)))))))))
   ·exact dA (xT (xT (xE (nMI () (hb13 _ (sm H1)) bK))))
  ·rintro e22 y10 H
   refine nT (sr (aF rfl (aH rfl (nl ?_))))
   obtain rfl := si H
   exact bQ bk
noncomputable def p_laws_szSampleS (v0 : (List Sample)) (v1 : Int) : Option (Int) := gd (I64 (v1 - (v0.length : Int))) <| cond (decide ((v1 - (v0.length : Int)) < 0)) (some (-1)) (some (v1 - (v0.length : Int)))
theorem c_laws_szSampleS {r : Int} (v0 : (List Sample)) (x_v0 : Option Addr × Nat) (v1 : Int) (H : p_laws_szSampleS v0 v1 = some r) : Fn' prog 79 #[.slice x_v0.1 v0.length x_v0.2, .int .i64 (v1)] [imm (.slice x_v0.1 v0.length x_v0.2) v0] [] (ι := Unit) (fun _ => .int .i64 (r)) (fun _ => []) (fun _ => []) := by
 refine cof (args := [_, _]) func79 ntmps79 fun c => ?_
 unfold p_laws_szSampleS at H
 refine sr (aH (v := .int .i64 (0)) rfl (nl (sr (aF rfl (aF rfl (aG (bS 168 underlying52 rfl) (gdo H fun h1 H => (aG (cR rfl rfl h1) (aH rfl (nl (aD (sr ?_))))))))))))
 refine aF rfl (aG (cQ rfl rfl) (nl (cH H rfl (fun h2 H => ?_) (fun h2 H => ?_))))
 ·refine sr (aH (v := .int .i64 (-1)) rfl (nl (bQ (rT (?_)))))
  obtain rfl := si H
  exact bk
 ·refine bH (nT (sr (aF rfl (aH rfl (nl ?_)))))
  obtain rfl := si H
  exact bQ bk
noncomputable def p_laws_szStore (v0 : Store) (v1 : Int) : Option (Int) := bd (p_laws_szIndex v0.1 v1) fun r5 => cond (decide (r5 < 0)) (some (-1)) (bd (p_laws_szPartS v0.2.1 r5) fun r8 => cond (decide (r8 < 0)) (some (-1)) (bd (p_laws_szSampleS v0.2.2 r8) fun r11 => cond (decide (r11 < 0)) (some (-1)) (some r11)))
theorem c_laws_szStore {r : Int} (v0 : Store) (x_v0 : ((Option Addr × Nat) × (Option Addr × Nat)) × (Option Addr × Nat) × (Option Addr × Nat)) (v1 : Int) (H : p_laws_szStore v0 v1 = some r) : Fn' prog 23 #[.agg #[.slice x_v0.1.1.1 v0.1.1.length x_v0.1.1.2, .slice x_v0.1.2.1 v0.1.2.length x_v0.1.2.2, .slice x_v0.2.1.1 v0.2.1.length x_v0.2.1.2, .slice x_v0.2.2.1 v0.2.2.length x_v0.2.2.2], .int .i64 (v1)] [imm (.slice x_v0.1.1.1 v0.1.1.length x_v0.1.1.2) v0.1.1, imm (.slice x_v0.1.2.1 v0.1.2.length x_v0.1.2.2) v0.1.2, imm (.slice x_v0.2.1.1 v0.2.1.length x_v0.2.1.2) v0.2.1, imm (.slice x_v0.2.2.1 v0.2.2.length x_v0.2.2.2) v0.2.2] [] (ι := Unit) (fun _ => .int .i64 (r)) (fun _ => []) (fun _ => []) := by
 refine cof (args := [_, _]) func23 ntmps23 fun c => ?_
 unfold p_laws_szStore at H
 refine bM aR fun X1 => (bM aR.s.s fun X2 => (bM aR.s.s.s.s fun X3 => (sr (f1 (cC (t := 54) rfl) fun g4 => (aH (v := .int .i64 (0)) rfl (nl (sr (aG (cB fa54_0 rfl rfl) (aI (v := .agg #[.slice x_v0.1.1.1 v0.1.1.length x_v0.1.1.2, .slice x_v0.1.2.1 v0.1.2.length x_v0.1.2.2]) (q_ldbP [.slice x_v0.1.1.1 v0.1.1.length x_v0.1.1.2, .slice x_v0.1.2.1 v0.1.2.length x_v0.1.2.2] ty50 rfl aB rfl rfl) (aF rfl ?_))))))))))
 refine bdo H fun r5 h6 H => (aI (bN (c_laws_szIndex v0.1 x_v0.1 v1 h6) rfl (aC (aL (aS aR.s.s)) (aC (aL (aS aR.s)) aO))) (aH rfl (nl (aD (sr (aF rfl (aG (cQ rfl rfl) (nl (cH H rfl (fun h7 H => ?_) (fun h7 H => ?_))))))))))
 ·refine sr (aH (v := .int .i64 (-1)) rfl (nl (bQ (rT (?_)))))
  obtain rfl := si H
  exact bk
 ·refine bH (nT (sr (aG (cB fa54_1 rfl rfl) (aI (bI ty51 rfl aB rfl) (aF rfl (bdo H fun r8 h9 H => (aI (bN (c_laws_szPartS v0.2.1 x_v0.2.1 r5 h9) rfl (aC (aL (aS aR)) aO)) (aH rfl (nl (aD (sr ?_)))))))))))
  refine aF rfl (aG (cQ rfl rfl) (nl (cH H rfl (fun h10 H => ?_) (fun h10 H => ?_))))
  ·refine sr (aH (v := .int .i64 (-1)) rfl (nl (bQ (rT (?_)))))
   obtain rfl := si H
   exact bk
  ·refine bH (nT (sr (aG (cB fa54_2 rfl rfl) (aI (bI ty52 rfl aB rfl) (aF rfl (bdo H fun r11 h12 H => (aI (bN (c_laws_szSampleS v0.2.2 x_v0.2.2 r8 h12) rfl (aC (aL aR.s.s.s.s.s.s) aO)) (aH rfl (nl (aD (sr ?_)))))))))))
   refine aF rfl (aG (cQ rfl rfl) (nl (cH H rfl (fun h13 H => ?_) (fun h13 H => ?_))))
   ·refine sr (aH (v := .int .i64 (-1)) rfl (nl (bQ (rT (?_)))))
    obtain rfl := si H
    exact bk
   ·refine bH (nT (sr (aF rfl (aH rfl (nl ?_)))))
    obtain rfl := si H
    exact bQ bk
noncomputable def p_laws_toPost (v0 : Post) : Option (Post) := bd (p_laws_toTag v0.1) fun r4 => bd (p_laws_toIntS v0.2) fun r6 => some (r4, r6)
theorem c_laws_toPost {r : Post} (v0 : Post) (x_v0 : (Unit × Unit) × (Option Addr × Nat)) (H : p_laws_toPost v0 = some r) : Fn' prog 178 #[.agg #[.string (v0.1.1), .string (v0.1.2), .slice x_v0.2.1 v0.2.length x_v0.2.2]] [imm (.slice x_v0.2.1 v0.2.length x_v0.2.2) v0.2] [] (ι := (Unit × Unit) × (Option Addr × Nat)) (fun x => .agg #[.string (r.1.1), .string (r.1.2), .slice x.2.1 r.2.length x.2.2]) (fun _ => []) (fun x => [tree (.slice x.2.1 r.2.length x.2.2) r.2]) := by
 refine cof (args := [_]) func178 ntmps178 fun c => ?_
 unfold p_laws_toPost at H
 refine sr (f1 (cC (t := 204) rfl) fun g1 => (f1 (cD ty183) fun g2 => (nl (sr (f1 (cD ty183) fun g3 => (nl (sr (aG (cB fa204_0 rfl rfl) (aI (v := .agg #[.string (v0.1.1), .string (v0.1.2)]) (q_ldbP [.string (v0.1.1), .string (v0.1.2)] ty180 rfl hs2 rfl rfl) ?_)))))))))
 refine bdo H fun r4 h5 H => (aI (bN (c_laws_toTag v0.1 h5) rfl aO) (aG (cB fa183_0 rfl rfl) (stb (cs' := [.string (r4.1), .string (r4.2), .slice none 0 0]) ty172 cZ (nl (sr (aG (cB fa204_1 rfl rfl) (aI (bI ty23 rfl hs2 rfl) (bdo H fun r6 h7 H => (f1 (cF (c_laws_toIntS v0.2 x_v0.2 h7) (fun _ => (bF bG)) rfl (aC (aL aR) aO)) fun x8 => ?_)))))))))
 refine aG (cB fa183_1 rfl rfl) (stb (cs' := [.string (r4.1), .string (r4.2), .slice x8.1 r6.length x8.2]) ty23 up1 (nl (sr (aI (bJ ty183 rfl hs1 rfl) (stb (cs' := [.string (r4.1), .string (r4.2), .slice x8.1 r6.length x8.2]) ty183 up2 (nl (bQ ?_)))))))
 obtain rfl := si H
 exact back1 (((), ()), x8) rfl (ResV.agg ty183 rfl hs2 rfl) rfl cM (.cons aA .nil)
noncomputable def p_laws_toPostS_b0 (v0 : (List Post)) (Q9 : (List Post) × Int) : Option (((List Post) × Int) ⊕ ((List Post))) := cond (decide (Q9.2 < (v0.length : Int))) (gd (ix Q9.2 v0.length) <| bd (p_laws_toPost (nth v0 Q9.2.toNat)) fun r19 => gd (ix Q9.2 Q9.1.length) <| gd (I64 (Q9.2 + 1)) <| some (.inl ((Q9.1.set Q9.2.toNat r19), Q9.2 + 1))) (some (.inr Q9.1))
noncomputable def p_laws_toPostS (v0 : (List Post)) : Option ((List Post)) := gd (many (v0.length : Int)) <| bd (lp (p_laws_toPostS_b0 v0) ((List.replicate (v0.length : Int).toNat (Zr.z0 : Post)), 0)) fun x5 => some x5
theorem c_laws_toPostS {r : (List Post)} (v0 : (List Post)) (x_v0 : Option Addr × Nat) (H : p_laws_toPostS v0 = some r) : Fn' prog 136 #[.slice x_v0.1 v0.length x_v0.2] [imm (.slice x_v0.1 v0.length x_v0.2) v0] [] (ι := Option Addr × Nat) (fun x => .slice x.1 r.length x.2) (fun _ => []) (fun x => [tree (.slice x.1 r.length x.2) r]) := by
 refine cof (args := [_]) func136 ntmps136 fun c => ?_
 unfold p_laws_toPostS at H
 refine bM aR fun X1 => (sr (aH (v := .slice none 0 0) rfl (nl (sr (aF rfl (aG (bS 204 dY rfl) (gdo H fun h4 H => (f2 (e_makeR Post dV ty183 rfl rfl rfl h4 (by decide)) fun a2 c3 => (aH rfl (nl (aD (sr ?_))))))))))))
 refine aH (v := .int .i64 (0)) rfl (nl (bdo H fun x5 hx6 H => (dB (ι := Unit) (fun ψ => [(3, .slice a2 x5.length c3)]) (fun ψ => [tree (.slice a2 x5.length c3) x5]) ?_ ?_)))
 ·refine aQ (dE hx6 () (fun Q9 _ => [(0, .slice x_v0.1 v0.length x_v0.2), (3, .slice a2 Q9.1.length c3), (4, .int .i64 (Q9.2))]) (fun Q9 _ => [tree (.slice a2 Q9.1.length c3) Q9.1]) (.cons aA .nil) ?_)
  rintro _ Q9 z10 t12 H1 hi13 hb14
  unfold p_laws_toPostS_b0 at H1
  refine aD (sr (aF rfl (aF rfl (aG (bS 204 dY rfl) (aG (cQ rfl rfl) (nl (cH H1 rfl (fun h17 H1 => ?_) (fun h17 H1 => ?_))))))))
  ·refine bH (nT (aD (aQ (aP (aF rfl (aF rfl (aF rfl (aF rfl (gdo H1 fun h18 H1 => (aI (bW dY ty204 rfl rfl h18 rfl (aL (aT aR))) ?_))))))))))
   refine aI (v := .agg #[.string (((nth v0 Q9.2.toNat).1).1), .string (((nth v0 Q9.2.toNat).1).2), .slice (((X1 Q9.2.toNat).2).1) (((nth v0 Q9.2.toNat).2).length) (((X1 Q9.2.toNat).2).2.1)]) (cA (i := Q9.2.toNat) ty204 rfl (aL (aT aR)) h18.lt) (bdo H1 fun r19 h20 H1 => (f1 (cF (c_laws_toPost (nth v0 Q9.2.toNat) (((), ()), (((X1 Q9.2.toNat).2).1, ((X1 Q9.2.toNat).2).2.1)) h20) (fun _ => (bF bG)) rfl (aC (aL (aS (aU (aW aR h18.lt)))) aO)) fun x21 => (gdo H1 fun h22 H1 => (aI (bX dV ty183 rfl rfl h22 hs1) (g0 (e_setT (l := Q9.1) (α := Post) (oa := a2) Q9.2.toNat r19 (((), ()), x21.2) ty183 rfl rfl rfl h22.lt (cX _) (.cons dl1 (.cons aA .nil))) (aJ (nB (nT (?_)))))))))
   refine cY aB fun hn => ?_; rw [hn]
   exact aP (aF rfl (gdo H1 fun h23 H1 => (aG (bR rfl rfl h23) (aH rfl (aJ (nLI () (hi13 _ (sm H1)) (.cons aA .nil)))))))
  ·refine dA (xT (xT (xE (?_))))
   obtain rfl := hb14 _ (sm H1)
   exact nMC () ⟨rfl, trivial⟩ bT (.cons aA .nil)
 ·intro y11
  show At _ _ [(3, .slice a2 x5.length c3)] _ [tree (.slice a2 x5.length c3) x5] _
  refine nT (sr (aF rfl (aH rfl (nl (bQ ?_)))))
  obtain rfl := si H
  exact back1 (a2, c3) rfl (ResV.tmp (v := .slice a2 x5.length c3) rfl) rfl cM (.cons aA .nil)
noncomputable def p_laws_toIndex (v0 : Index) : Option (Index) := bd (p_laws_toTagSS v0.1) fun r6 => bd (p_laws_toPostS v0.2) fun r9 => some (r6, r9)
theorem c_laws_toIndex {r : Index} (v0 : Index) (x_v0 : (Option Addr × Nat) × (Option Addr × Nat)) (H : p_laws_toIndex v0 = some r) : Fn' prog 82 #[.agg #[.slice x_v0.1.1 v0.1.length x_v0.1.2, .slice x_v0.2.1 v0.2.length x_v0.2.2]] [imm (.slice x_v0.1.1 v0.1.length x_v0.1.2) v0.1, imm (.slice x_v0.2.1 v0.2.length x_v0.2.2) v0.2] [] (ι := (Option Addr × Nat) × (Option Addr × Nat)) (fun x => .agg #[.slice x.1.1 r.1.length x.1.2, .slice x.2.1 r.2.length x.2.2]) (fun _ => []) (fun x => [tree (.slice x.1.1 r.1.length x.1.2) r.1, tree (.slice x.2.1 r.2.length x.2.2) r.2]) := by
 refine cof (args := [_]) func82 ntmps82 fun c => ?_
 unfold p_laws_toIndex at H
 refine bM aR fun X1 => (bM aR.s.s fun X2 => (sr (f1 (cC (t := 50) rfl) fun g3 => (f1 (cD ty38) fun g4 => (nl (sr (f1 (cD ty38) fun g5 => (nl (sr ?_)))))))))
 refine aG (cB fa50_0 rfl rfl) (aI (bI ty24 rfl hs2 rfl) (bdo H fun r6 h7 H => (f1 (cF (c_laws_toTagSS v0.1 x_v0.1 h7) (fun _ => (bF bG)) rfl (aC (aL (aS aR.s)) aO)) fun x8 => (aG (cB fa38_0 rfl rfl) (stb (cs' := [.slice x8.1 r6.length x8.2, .slice none 0 0]) ty30 up1 (nl (sr (aG (cB fa50_1 rfl rfl) (aI (bI ty48 rfl hs3 rfl) ?_)))))))))
 refine bdo H fun r9 h10 H => (f1 (cF (c_laws_toPostS v0.2 x_v0.2 h10) (fun _ => (bF bG)) rfl (aC (aL (aS aR)) aO)) fun x11 => (aG (cB fa38_1 rfl rfl) (stb (cs' := [.slice x8.1 r6.length x8.2, .slice x11.1 r9.length x11.2]) ty36 up2 (nl (sr (aI (bJ ty38 rfl hs2 rfl) (stb (cs' := [.slice x8.1 r6.length x8.2, .slice x11.1 r9.length x11.2]) ty38 up3 (nl (bQ ?_)))))))))
 obtain rfl := si H
 exact back1 (x8, x11) rfl (ResV.agg ty38 rfl hs3 rfl) rfl cM (.cons dl1 (.cons aA .nil))
noncomputable def p_laws_toPartS_b0 (v0 : (List Part)) (Q9 : (List Part) × Int) : Option (((List Part) × Int) ⊕ ((List Part))) := cond (decide (Q9.2 < (v0.length : Int))) (gd (ix Q9.2 v0.length) <| bd (p_laws_toPart (nth v0 Q9.2.toNat)) fun r19 => gd (ix Q9.2 Q9.1.length) <| gd (I64 (Q9.2 + 1)) <| some (.inl ((Q9.1.set Q9.2.toNat r19), Q9.2 + 1))) (some (.inr Q9.1))
noncomputable def p_laws_toPartS (v0 : (List Part)) : Option ((List Part)) := gd (many (v0.length : Int)) <| bd (lp (p_laws_toPartS_b0 v0) ((List.replicate (v0.length : Int).toNat (Zr.z0 : Part)), 0)) fun x5 => some x5
theorem c_laws_toPartS {r : (List Part)} (v0 : (List Part)) (x_v0 : Option Addr × Nat) (H : p_laws_toPartS v0 = some r) : Fn' prog 83 #[.slice x_v0.1 v0.length x_v0.2] [imm (.slice x_v0.1 v0.length x_v0.2) v0] [] (ι := Option Addr × Nat) (fun x => .slice x.1 r.length x.2) (fun _ => []) (fun x => [tree (.slice x.1 r.length x.2) r]) := by
 refine cof (args := [_]) func83 ntmps83 fun c => ?_
 unfold p_laws_toPartS at H
 refine bM aR fun X1 => (sr (aH (v := .slice none 0 0) rfl (nl (sr (aF rfl (aG (bS 120 eA rfl) (gdo H fun h4 H => (f2 (e_makeR Part dW ty75 rfl rfl rfl h4 (by decide)) fun a2 c3 => (aH rfl (nl (aD (sr ?_))))))))))))
 refine aH (v := .int .i64 (0)) rfl (nl (bdo H fun x5 hx6 H => (dB (ι := Unit) (fun ψ => [(3, .slice a2 x5.length c3)]) (fun ψ => [tree (.slice a2 x5.length c3) x5]) ?_ ?_)))
 ·refine aQ (dE hx6 () (fun Q9 _ => [(0, .slice x_v0.1 v0.length x_v0.2), (3, .slice a2 Q9.1.length c3), (4, .int .i64 (Q9.2))]) (fun Q9 _ => [tree (.slice a2 Q9.1.length c3) Q9.1]) (.cons aA .nil) ?_)
  rintro _ Q9 z10 t12 H1 hi13 hb14
  unfold p_laws_toPartS_b0 at H1
  refine aD (sr (aF rfl (aF rfl (aG (bS 120 eA rfl) (aG (cQ rfl rfl) (nl (cH H1 rfl (fun h17 H1 => ?_) (fun h17 H1 => ?_))))))))
  ·refine bH (nT (aD (aQ (aP (aF rfl (aF rfl (aF rfl (aF rfl (gdo H1 fun h18 H1 => (aI (bW eA ty120 rfl rfl h18 rfl (aL (aT aR))) ?_))))))))))
   refine aI (v := .agg #[.slice (((X1 Q9.2.toNat).1).1) (((nth v0 Q9.2.toNat).1).length) (((X1 Q9.2.toNat).1).2.1), .slice (((X1 Q9.2.toNat).2).1) (((nth v0 Q9.2.toNat).2).length) (((X1 Q9.2.toNat).2).2.1)]) (cA (i := Q9.2.toNat) ty120 rfl (aL (aT aR)) h18.lt) (bdo H1 fun r19 h20 H1 => (f1 (cF (c_laws_toPart (nth v0 Q9.2.toNat) ((((X1 Q9.2.toNat).1).1, ((X1 Q9.2.toNat).1).2.1), (((X1 Q9.2.toNat).2).1, ((X1 Q9.2.toNat).2).2.1)) h20) (fun _ => (bF (bF bG))) rfl (aC (aL (aS (aV (aW aR h18.lt)))) (aC (aL (aS (aU (aW aR h18.lt)))) aO))) fun x21 => (gdo H1 fun h22 H1 => (aI (bX dW ty75 rfl rfl h22 hs2) (g0 (e_setT (l := Q9.1) (α := Part) (oa := a2) Q9.2.toNat r19 x21 ty75 rfl rfl rfl h22.lt (cX _) (.cons dl2 (.cons aA (.cons aA .nil)))) (aJ (nB (nT (?_)))))))))
   refine cY aB fun hn => ?_; rw [hn]
   exact aP (aF rfl (gdo H1 fun h23 H1 => (aG (bR rfl rfl h23) (aH rfl (aJ (nLI () (hi13 _ (sm H1)) (.cons aA .nil)))))))
  ·refine dA (xT (xT (xE (?_))))
   obtain rfl := hb14 _ (sm H1)
   exact nMC () ⟨rfl, trivial⟩ bT (.cons aA .nil)
 ·intro y11
  show At _ _ [(3, .slice a2 x5.length c3)] _ [tree (.slice a2 x5.length c3) x5] _
  refine nT (sr (aF rfl (aH rfl (nl (bQ ?_)))))
  obtain rfl := si H
  exact back1 (a2, c3) rfl (ResV.tmp (v := .slice a2 x5.length c3) rfl) rfl cM (.cons aA .nil)
noncomputable def p_laws_toSample (v0 : Sample) : Option (Sample) := bd (p_laws_toRow v0.2) fun r4 => some (v0.1, r4)
theorem c_laws_toSample {r : Sample} (v0 : Sample) (H : p_laws_toSample v0 = some r) : Fn' prog 138 #[.agg #[.int .i64 (v0.1), .int .i64 (v0.2.1), .int .i64 (v0.2.2)]] [] [] (ι := Unit) (fun _ => .agg #[.int .i64 (r.1), .int .i64 (r.2.1), .int .i64 (r.2.2)]) (fun _ => []) (fun _ => []) := by
 refine cof (args := [_]) func138 ntmps138 fun c => ?_
 unfold p_laws_toSample at H
 refine sr (f1 (cC (t := 168) rfl) fun g1 => (f1 (cD ty137) fun g2 => (nl (sr (f1 (cD ty137) fun g3 => (nl (sr (aG (cB fa168_0 rfl rfl) (aI (bI ty3 rfl hs2 rfl) ?_)))))))))
 refine aG (cB fa137_0 rfl rfl) (stb (cs' := [.int .i64 (v0.1), .int .i64 (0), .int .i64 (0)]) ty3 cZ (nl (sr (aG (cB fa168_1 rfl rfl) (aI (v := .agg #[.int .i64 (v0.2.1), .int .i64 (v0.2.2)]) (q_ldbP [.int .i64 (v0.2.1), .int .i64 (v0.2.2)] ty166 rfl hs2 rfl rfl) (bdo H fun r4 h5 H => (aI (bN (c_laws_toRow v0.2 h5) rfl aO) (aG (cB fa137_1 rfl rfl) (stb (cs' := [.int .i64 (v0.1), .int .i64 (r4.1), .int .i64 (r4.2)]) ty135 cZ ?_)))))))))
 refine nl (sr (aI (bJ ty137 rfl aB rfl) (stb (cs' := [.int .i64 (v0.1), .int .i64 (r4.1), .int .i64 (r4.2)]) ty137 up1 (nl (bQ ?_)))))
 obtain rfl := si H
 exact back1 () rfl (ResV.agg ty137 rfl hs1 rfl) rfl cM bK
noncomputable def p_laws_toSampleS_b0 (v0 : (List Sample)) (Q8 : (List Sample) × Int) : Option (((List Sample) × Int) ⊕ ((List Sample))) := cond (decide (Q8.2 < (v0.length : Int))) (gd (ix Q8.2 v0.length) <| bd (p_laws_toSample (nth v0 Q8.2.toNat)) fun r18 => gd (ix Q8.2 Q8.1.length) <| gd (I64 (Q8.2 + 1)) <| some (.inl ((Q8.1.set Q8.2.toNat r18), Q8.2 + 1))) (some (.inr Q8.1))
noncomputable def p_laws_toSampleS (v0 : (List Sample)) : Option ((List Sample)) := gd (many (v0.length : Int)) <| bd (lp (p_laws_toSampleS_b0 v0) ((List.replicate (v0.length : Int).toNat (Zr.z0 : Sample)), 0)) fun x4 => some x4
theorem c_laws_toSampleS {r : (List Sample)} (v0 : (List Sample)) (x_v0 : Option Addr × Nat) (H : p_laws_toSampleS v0 = some r) : Fn' prog 84 #[.slice x_v0.1 v0.length x_v0.2] [imm (.slice x_v0.1 v0.length x_v0.2) v0] [] (ι := Option Addr × Nat) (fun x => .slice x.1 r.length x.2) (fun _ => []) (fun x => [tree (.slice x.1 r.length x.2) r]) := by
 refine cof (args := [_]) func84 ntmps84 fun c => ?_
 unfold p_laws_toSampleS at H
 refine sr (aH (v := .slice none 0 0) rfl (nl (sr (aF rfl (aG (bS 168 underlying52 rfl) (gdo H fun h3 H => (f2 (e_makeR Sample dX ty137 rfl rfl rfl h3 (by decide)) fun a1 c2 => (aH rfl (nl (aD (sr (aH (v := .int .i64 (0)) rfl (nl ?_)))))))))))))
 refine bdo H fun x4 hx5 H => (dB (ι := Unit) (fun ψ => [(3, .slice a1 x4.length c2)]) (fun ψ => [tree (.slice a1 x4.length c2) x4]) ?_ ?_)
 ·refine aQ (dE hx5 () (fun Q8 _ => [(0, .slice x_v0.1 v0.length x_v0.2), (3, .slice a1 Q8.1.length c2), (4, .int .i64 (Q8.2))]) (fun Q8 _ => [tree (.slice a1 Q8.1.length c2) Q8.1]) (.cons aA .nil) ?_)
  rintro _ Q8 z9 t11 H1 hi12 hb13
  unfold p_laws_toSampleS_b0 at H1
  refine aD (sr (aF rfl (aF rfl (aG (bS 168 underlying52 rfl) (aG (cQ rfl rfl) (nl (cH H1 rfl (fun h16 H1 => ?_) (fun h16 H1 => ?_))))))))
  ·refine bH (nT (aD (aQ (aP (aF rfl (aF rfl (aF rfl (aF rfl (gdo H1 fun h17 H1 => (aI (bW underlying52 ty168 rfl rfl h17 rfl (aN (aL aR))) ?_))))))))))
   refine aI (v := .agg #[.int .i64 ((nth v0 Q8.2.toNat).1), .int .i64 (((nth v0 Q8.2.toNat).2).1), .int .i64 (((nth v0 Q8.2.toNat).2).2)]) (cA (i := Q8.2.toNat) ty168 rfl (aN (aL aR)) h17.lt) (bdo H1 fun r18 h19 H1 => (aI (bN (c_laws_toSample (nth v0 Q8.2.toNat) h19) rfl aO) (gdo H1 fun h20 H1 => (aI (bX dX ty137 rfl rfl h20 aB) (g0 (e_setT (l := Q8.1) (α := Sample) (oa := a1) Q8.2.toNat r18 ((), ((), ())) ty137 rfl rfl rfl h20.lt (cX _) (.cons aA .nil)) (aJ (nB (nT (?_)))))))))
   refine cY aB fun hn => ?_; rw [hn]
   exact aP (aF rfl (gdo H1 fun h21 H1 => (aG (bR rfl rfl h21) (aH rfl (aJ (nLI () (hi12 _ (sm H1)) (.cons aA .nil)))))))
  ·refine dA (xT (xT (xE (?_))))
   obtain rfl := hb13 _ (sm H1)
   exact nMC () ⟨rfl, trivial⟩ bT (.cons aA .nil)
 ·intro y10
  show At _ _ [(3, .slice a1 x4.length c2)] _ [tree (.slice a1 x4.length c2) x4] _
  refine nT (sr (aF rfl (aH rfl (nl (bQ ?_)))))
  obtain rfl := si H
  exact back1 (a1, c2) rfl (ResV.tmp (v := .slice a1 x4.length c2) rfl) rfl cM (.cons aA .nil)
noncomputable def p_laws_toStore (v0 : Store) : Option (Store) := bd (p_laws_toIndex v0.1) fun r7 => bd (p_laws_toPartS v0.2.1) fun r10 => bd (p_laws_toSampleS v0.2.2) fun r13 => some (r7, r10, r13)
theorem c_laws_toStore {r : Store} (v0 : Store) (x_v0 : ((Option Addr × Nat) × (Option Addr × Nat)) × (Option Addr × Nat) × (Option Addr × Nat)) (H : p_laws_toStore v0 = some r) : Fn' prog 25 #[.agg #[.slice x_v0.1.1.1 v0.1.1.length x_v0.1.1.2, .slice x_v0.1.2.1 v0.1.2.length x_v0.1.2.2, .slice x_v0.2.1.1 v0.2.1.length x_v0.2.1.2, .slice x_v0.2.2.1 v0.2.2.length x_v0.2.2.2]] [imm (.slice x_v0.1.1.1 v0.1.1.length x_v0.1.1.2) v0.1.1, imm (.slice x_v0.1.2.1 v0.1.2.length x_v0.1.2.2) v0.1.2, imm (.slice x_v0.2.1.1 v0.2.1.length x_v0.2.1.2) v0.2.1, imm (.slice x_v0.2.2.1 v0.2.2.length x_v0.2.2.2) v0.2.2] [] (ι := ((Option Addr × Nat) × (Option Addr × Nat)) × (Option Addr × Nat) × (Option Addr × Nat)) (fun x => .agg #[.slice x.1.1.1 r.1.1.length x.1.1.2, .slice x.1.2.1 r.1.2.length x.1.2.2, .slice x.2.1.1 r.2.1.length x.2.1.2, .slice x.2.2.1 r.2.2.length x.2.2.2]) (fun _ => []) (fun x => [tree (.slice x.1.1.1 r.1.1.length x.1.1.2) r.1.1, tree (.slice x.1.2.1 r.1.2.length x.1.2.2) r.1.2, tree (.slice x.2.1.1 r.2.1.length x.2.1.2) r.2.1, tree (.slice x.2.2.1 r.2.2.length x.2.2.2) r.2.2]) := by
 refine cof (args := [_]) func25 ntmps25 fun c => ?_
 unfold p_laws_toStore at H
 refine bM aR fun X1 => (bM aR.s.s fun X2 => (bM aR.s.s.s.s fun X3 => (sr (f1 (cC (t := 54) rfl) fun g4 => (f1 (cD ty42) fun g5 => (nl (sr (f1 (cD ty42) fun g6 => (nl ?_)))))))))
 refine sr (aG (cB fa54_0 rfl rfl) (aI (v := .agg #[.slice x_v0.1.1.1 v0.1.1.length x_v0.1.1.2, .slice x_v0.1.2.1 v0.1.2.length x_v0.1.2.2]) (q_ldbP [.slice x_v0.1.1.1 v0.1.1.length x_v0.1.1.2, .slice x_v0.1.2.1 v0.1.2.length x_v0.1.2.2] ty50 rfl hs2 rfl rfl) (bdo H fun r7 h8 H => (f1 (cF (c_laws_toIndex v0.1 x_v0.1 h8) (fun _ => (bF (bF bG))) rfl (aC (aL (aS aR.s.s)) (aC (aL (aS aR.s)) aO))) fun x9 => (aG (cB fa42_0 rfl rfl) (stb (cs' := [.slice x9.1.1 r7.1.length x9.1.2, .slice x9.2.1 r7.2.length x9.2.2, .slice none 0 0, .slice none 0 0]) ty38 up2 (nl (sr (aG (cB fa54_1 rfl rfl) ?_)))))))))
 refine aI (bI ty51 rfl hs4 rfl) (bdo H fun r10 h11 H => (f1 (cF (c_laws_toPartS v0.2.1 x_v0.2.1 h11) (fun _ => (bF bG)) rfl (aC (aL (aS aR)) aO)) fun x12 => (aG (cB fa42_1 rfl rfl) (stb (cs' := [.slice x9.1.1 r7.1.length x9.1.2, .slice x9.2.1 r7.2.length x9.2.2, .slice x12.1 r10.length x12.2, .slice none 0 0]) ty39 up3 (nl (sr (aG (cB fa54_2 rfl rfl) (aI (bI ty52 rfl hs5 rfl) (bdo H fun r13 h14 H => ?_)))))))))
 refine f1 (cF (c_laws_toSampleS v0.2.2 x_v0.2.2 h14) (fun _ => (bF bG)) rfl (aC (aL aR.s.s.s.s.s.s) aO)) fun x15 => (aG (cB fa42_2 rfl rfl) (stb (cs' := [.slice x9.1.1 r7.1.length x9.1.2, .slice x9.2.1 r7.2.length x9.2.2, .slice x12.1 r10.length x12.2, .slice x15.1 r13.length x15.2]) ty40 up4 (nl (sr (aI (bJ ty42 rfl hs4 rfl) (stb (cs' := [.slice x9.1.1 r7.1.length x9.1.2, .slice x9.2.1 r7.2.length x9.2.2, .slice x12.1 r10.length x12.2, .slice x15.1 r13.length x15.2]) ty42 up5 (nl (bQ ?_))))))))
 obtain rfl := si H
 exact back1 (x9, x12, x15) rfl (ResV.agg ty42 rfl hs5 rfl) rfl cM (.cons dl2 (.cons dl2 (.cons dl1 (.cons aA .nil))))
noncomputable def p_spec_l1Zig (v0 : Int) : Option (Int) := cond (decide (v0 < 0)) (gd (I64 ((-2) * v0)) <| gd (I64 (((-2) * v0) - 1)) <| some (((-2) * v0) - 1)) (gd (I64 (2 * v0)) <| some (2 * v0))
theorem c_spec_l1Zig {r : Int} (v0 : Int) (H : p_spec_l1Zig v0 = some r) : Fn' prog 194 #[.int .i64 (v0)] [] [] (ι := Unit) (fun _ => .int .i64 (r)) (fun _ => []) (fun _ => []) := by
 refine cof (args := [_]) func194 ntmps194 fun c => ?_
 unfold p_spec_l1Zig at H
 refine sr (aH (v := .int .i64 (0)) rfl (nl (aD (sr (aF rfl (aG (cQ rfl rfl) (nl (cH H rfl (fun h1 H => ?_) (fun h1 H => ?_)))))))))
 ·refine sr (aF rfl (gdo H fun h2 H => (aG (p_mul rfl rfl h2) (gdo H fun h3 H => (aG (cR rfl rfl h3) (aH rfl (nl (bQ (rT (?_))))))))))
  obtain rfl := si H
  exact bk
 ·refine bH (nT (sr (aF rfl (gdo H fun h4 H => (aG (p_mul rfl rfl h4) (aH rfl (nl ?_)))))))
  obtain rfl := si H
  exact bQ bk
noncomputable def p_spec_l1Byte (v0 : Int) : Option (ByteArray) := some (s2 [b8 v0])
theorem c_spec_l1Byte {r : ByteArray} (v0 : Int) (H : p_spec_l1Byte v0 = some r) : Fn' prog 177 #[.int .i64 (v0)] [] [] (ι := Unit) (fun _ => .string (r)) (fun _ => []) (fun _ => []) := by
 refine cof (args := [_]) func177 ntmps177 fun c => ?_
 unfold p_spec_l1Byte at H
 refine sr (aH (v := .string ((⟨#[]⟩ : ByteArray))) rfl (nl (sr (aF rfl (aG (v := .int .u8 ((b8 v0).toNat : Int)) (p_b8 dT dZ rfl) (f1 (e_lit (vs := [(0, .int .u8 ((b8 v0).toNat : Int))]) [.int .u8 ((b8 v0).toNat : Int)] dO ty5 rfl (by decide) (by decide) (by kernel_rfl)) fun g1 => (aI (v := .string (s2 [b8 v0])) (q_b2sL [b8 v0] dO dZ eD rfl aB rfl) (aH rfl (nl ?_)))))))))
 obtain rfl := si H
 exact bQ bk
noncomputable def p_spec_l1Put_b0 (Q5 : Int × ByteArray) : Option ((Int × ByteArray) ⊕ (Int × ByteArray)) := cond (decide (128 ≤ Q5.1)) (gd (I64 (Q5.1.tmod 128)) <| gd (I64 ((Q5.1.tmod 128) + 128)) <| bd (p_spec_l1Byte ((Q5.1.tmod 128) + 128)) fun r16 => gd (room (Q5.2.size + r16.size)) <| gd (I64 (Q5.1.tdiv 128)) <| some (.inl (Q5.1.tdiv 128, Q5.2 ++ r16))) (some (.inr (Q5.1, Q5.2)))
noncomputable def p_spec_l1Put (v0 : Int) : Option (ByteArray) := bd (lp (p_spec_l1Put_b0) (v0, (⟨#[]⟩ : ByteArray))) fun x1 => bd (p_spec_l1Byte x1.1) fun r20 => gd (room (x1.2.size + r20.size)) <| some (x1.2 ++ r20)
theorem c_spec_l1Put {r : ByteArray} (v0 : Int) (H : p_spec_l1Put v0 = some r) : Fn' prog 193 #[.int .i64 (v0)] [] [] (ι := Unit) (fun _ => .string (r)) (fun _ => []) (fun _ => []) := by
 refine cof (args := [_]) func193 ntmps193 fun c => ?_
 unfold p_spec_l1Put at H
 refine sr (aH (v := .string ((⟨#[]⟩ : ByteArray))) rfl (nl (sr (aH (v := .string ((⟨#[]⟩ : ByteArray))) rfl (nl (bdo H fun x1 hx2 H => (tMidC (ι := Unit) (fun ψ => [(0, .int .i64 (x1.1)), (3, .string (x1.2))]) (fun ψ => []) ?_ ?_)))))))
 ·refine aQ (dE hx2 () (fun Q5 _ => [(0, .int .i64 (Q5.1)), (3, .string (Q5.2))]) (fun _ _ => []) bK ?_)
  rintro _ Q5 z6 t8 H1 hi9 hb10
  unfold p_spec_l1Put_b0 at H1
  refine aD (sr (aF rfl (aG (p_geq rfl rfl) (nl (cH H1 rfl (fun h13 H1 => ?_) (fun h13 H1 => ?_))))))
  ·refine bH (nT (aQ (sr (aF rfl (aF rfl (gdo H1 fun h14 H1 => (aG (p_rem rfl rfl (by decide) h14) (gdo H1 fun h15 H1 => (aG (bR rfl rfl h15) ?_)))))))))
   refine bdo H1 fun r16 h17 H1 => (aI (bN (c_spec_l1Byte ((Q5.1.tmod 128) + 128) h17) rfl aO) (gdo H1 fun h18 H1 => (aG (p_cat rfl rfl h18) (aH rfl (nl (aP (aF rfl (gdo H1 fun h19 H1 => (aG (p_quo rfl rfl (by decide) h19) (aH rfl (aJ ?_)))))))))))
   exact nB (nLI () (hi9 _ (sm H1)) bK)
  ·refine dA (xT (xT (xE (?_))))
   obtain rfl := hb10 _ (sm H1)
   exact nMC () ⟨rfl, rfl, trivial⟩ bT bK
 ·intro y7
  show Tr _ _ _ _ _ [(0, .int .i64 (x1.1)), (3, .string (x1.2))] _ []
  refine sr (aF rfl (aF rfl (bdo H fun r20 h21 H => (aI (bN (c_spec_l1Byte x1.1 h21) rfl aO) (gdo H fun h22 H => (aG (p_cat rfl rfl h22) (aH rfl (nl ?_))))))))
  obtain rfl := si H
  exact bQ bk
noncomputable def p_spec_l1Pack_b0 (v0 : (List Int)) (Q5 : ByteArray × Int × Int × Int) : Option ((ByteArray × Int × Int × Int) ⊕ (ByteArray)) := cond (decide (Q5.2.2.2 < (v0.length : Int))) (gd (ix Q5.2.2.2 v0.length) <| gd (I64 ((nth v0 Q5.2.2.2.toNat) - Q5.2.1)) <| cond (decide (Q5.2.2.2 < 2)) (bd (p_spec_l1Zig ((nth v0 Q5.2.2.2.toNat) - Q5.2.1)) fun r17 => bd (p_spec_l1Put r17) fun r19 => gd (room (Q5.1.size + r19.size)) <| gd (I64 (Q5.2.2.2 + 1)) <| some (.inl (Q5.1 ++ r19, nth v0 Q5.2.2.2.toNat, (nth v0 Q5.2.2.2.toNat) - Q5.2.1, Q5.2.2.2 + 1))) (gd (I64 (((nth v0 Q5.2.2.2.toNat) - Q5.2.1) - Q5.2.2.1)) <| bd (p_spec_l1Zig (((nth v0 Q5.2.2.2.toNat) - Q5.2.1) - Q5.2.2.1)) fun r24 => bd (p_spec_l1Put r24) fun r26 => gd (room (Q5.1.size + r26.size)) <| gd (I64 (Q5.2.2.2 + 1)) <| some (.inl (Q5.1 ++ r26, nth v0 Q5.2.2.2.toNat, (nth v0 Q5.2.2.2.toNat) - Q5.2.1, Q5.2.2.2 + 1)))) (some (.inr Q5.1))
noncomputable def p_spec_l1Pack (v0 : (List Int)) : Option (ByteArray) := bd (lp (p_spec_l1Pack_b0 v0) ((⟨#[]⟩ : ByteArray), 0, 0, 0)) fun x1 => some x1
theorem c_spec_l1Pack {r : ByteArray} (v0 : (List Int)) (x_v0 : Option Addr × Nat) (H : p_spec_l1Pack v0 = some r) : Fn' prog 176 #[.slice x_v0.1 v0.length x_v0.2] [imm (.slice x_v0.1 v0.length x_v0.2) v0] [] (ι := Unit) (fun _ => .string (r)) (fun _ => []) (fun _ => []) := by
 refine cof (args := [_]) func176 ntmps176 fun c => ?_
 unfold p_spec_l1Pack at H
 refine sr (aH (v := .string ((⟨#[]⟩ : ByteArray))) rfl (nl (sr (aH (v := .string ((⟨#[]⟩ : ByteArray))) rfl (nl (sr (aH (v := .int .i64 (0)) rfl (nl (sr (aH (v := .int .i64 (0)) rfl (nl (aD (sr (aH (v := .int .i64 (0)) rfl (nl ?_)))))))))))))))
 refine bdo H fun x1 hx2 H => (dB (ι := Unit) (fun ψ => [(3, .string (x1))]) (fun ψ => []) ?_ ?_)
 ·refine aQ (dE hx2 () (fun Q5 _ => [(0, .slice x_v0.1 v0.length x_v0.2), (3, .string (Q5.1)), (4, .int .i64 (Q5.2.1)), (5, .int .i64 (Q5.2.2.1)), (6, .int .i64 (Q5.2.2.2))]) (fun _ _ => []) bK ?_)
  rintro _ Q5 z6 t8 H1 hi9 hb10
  unfold p_spec_l1Pack_b0 at H1
  refine aD (sr (aF rfl (aF rfl (aG (bS 3 dQ rfl) (aG (cQ rfl rfl) (nl (cH H1 rfl (fun h13 H1 => ?_) (fun h13 H1 => ?_))))))))
  ·refine bH (nT (aD (aQ (sr (aF rfl (aF rfl (gdo H1 fun h14 H1 => (aI (bW dQ ty3 rfl rfl h14 rfl (aN (aL aR))) (aI (bZ (i := Q5.2.2.2.toNat) (j := 0) ty3 rfl (aN (aL aR)) h14.lt rfl) (aF rfl ?_))))))))))
   refine gdo H1 fun h15 H1 => (aG (cR rfl rfl h15) (aH rfl (nl (aD (sr (aF rfl (aG (cQ rfl rfl) (nl (cH H1 rfl (fun h16 H1 => ?_) (fun h16 H1 => ?_))))))))))
   ·refine aP (aF rfl (aF rfl (bdo H1 fun r17 h18 H1 => (aI (bN (c_spec_l1Zig ((nth v0 Q5.2.2.2.toNat) - Q5.2.1) h18) rfl aO) (bdo H1 fun r19 h20 H1 => (aI (bN (c_spec_l1Put r17 h20) rfl aO) (gdo H1 fun h21 H1 => (aG (p_cat rfl rfl h21) (aH rfl (nl ?_))))))))))
    refine sr (aF rfl (aH rfl (nl (aP (aF rfl (aF rfl (aI (bW dQ ty3 rfl rfl h14 rfl (aN (aL aR))) (aI (bZ (i := Q5.2.2.2.toNat) (j := 0) ty3 rfl (aN (aL aR)) h14.lt rfl) (aH rfl (aJ (nB (nT (?_)))))))))))))
    exact aP (aF rfl (gdo H1 fun h22 H1 => (aG (bR rfl rfl h22) (aH rfl (aJ (nLI () (hi9 _ (sm H1)) bK))))))
   ·refine aP (aF rfl (aF rfl (aF rfl (gdo H1 fun h23 H1 => (aG (cR rfl rfl h23) (bdo H1 fun r24 h25 H1 => (aI (bN (c_spec_l1Zig (((nth v0 Q5.2.2.2.toNat) - Q5.2.1) - Q5.2.2.1) h25) rfl aO) (bdo H1 fun r26 h27 H1 => (aI (bN (c_spec_l1Put r24 h27) rfl aO) ?_)))))))))
    refine gdo H1 fun h28 H1 => (aG (p_cat rfl rfl h28) (aH rfl (nl (sr (aF rfl (aH rfl (nl (aP (aF rfl (aF rfl (aI (bW dQ ty3 rfl rfl h14 rfl (aN (aL aR))) ?_)))))))))))
    exact aI (bZ (i := Q5.2.2.2.toNat) (j := 0) ty3 rfl (aN (aL aR)) h14.lt rfl) (aH rfl (aJ (nB (nT (aP (aF rfl (gdo H1 fun h29 H1 => (aG (bR rfl rfl h29) (aH rfl (aJ (nLI () (hi9 _ (sm H1)) bK)))))))))))
  ·refine dA (xT (xT (xE (?_))))
   obtain rfl := hb10 _ (sm H1)
   exact nMC () ⟨rfl, trivial⟩ bT bK
 ·intro y7
  show At _ _ [(3, .string (x1))] _ [] _
  refine nT (sr (aF rfl (aH rfl (nl ?_))))
  obtain rfl := si H
  exact bQ bk
noncomputable def p_spec_BlockPack_b0 (v0 : (List Row)) (Q12 : (List Int) × (List Int) × Int) : Option (((List Int) × (List Int) × Int) ⊕ ((List Int) × (List Int))) := cond (decide (Q12.2.2 < (v0.length : Int))) (gd (ix Q12.2.2 v0.length) <| gd (room (Q12.1.length + 1)) <| gd (room (Q12.2.1.length + 1)) <| gd (I64 (Q12.2.2 + 1)) <| some (.inl ((Q12.1 ++ [(nth v0 Q12.2.2.toNat).1]), (Q12.2.1 ++ [(nth v0 Q12.2.2.toNat).2]), Q12.2.2 + 1))) (some (.inr (Q12.1, Q12.2.1)))
noncomputable def p_spec_BlockPack (v0 : (List Row)) : Option (ByteArray) := bd (p_spec_BlockOk v0) fun r1 => cond (!r1) (some (⟨#[]⟩ : ByteArray)) (bd (lp (p_spec_BlockPack_b0 v0) (([] : List Int), ([] : List Int), 0)) fun x8 => bd (p_spec_l1Pack x8.1) fun r31 => bd (p_spec_l1Byte (r31.size : Int)) fun r33 => gd (room (r33.size + r31.size)) <| bd (p_spec_l1Pack x8.2) fun r36 => gd (room ((r33 ++ r31).size + r36.size)) <| some ((r33 ++ r31) ++ r36))
theorem c_spec_BlockPack {r : ByteArray} (v0 : (List Row)) (x_v0 : Option Addr × Nat) (H : p_spec_BlockPack v0 = some r) : Fn' prog 133 #[.slice x_v0.1 v0.length x_v0.2] [imm (.slice x_v0.1 v0.length x_v0.2) v0] [] (ι := Unit) (fun _ => .string (r)) (fun _ => []) (fun _ => []) := by
 refine cof (args := [_]) func133 ntmps133 fun c => ?_
 unfold p_spec_BlockPack at H
 refine sr (aH (v := .string ((⟨#[]⟩ : ByteArray))) rfl (nl (aD (sr (aF rfl (bdo H fun r1 h2 H => (aI (bN (c_spec_BlockOk v0 x_v0 h2) rfl (aC (aL aR) aO)) (aG (cW rfl) (nl (cH H rfl (fun h3 H => ?_) (fun h3 H => ?_)))))))))))
 ·refine sr (aH (v := .string ((⟨#[]⟩ : ByteArray))) rfl (nl (bQ (rT (?_)))))
  obtain rfl := si H
  exact bk
 ·refine bH (nT (sr (f2 (e_lit0 Int dQ ty3) fun a4 c5 => (aH rfl (nl (sr (f2 (e_lit0 Int dQ ty3) fun a6 c7 => (aH rfl (nl (aD (sr (aH (v := .int .i64 (0)) rfl (nl ?_)))))))))))))
  refine bdo H fun x8 hx9 H => (dB (ι := (Option Addr × Nat) × (Option Addr × Nat)) (fun ψ => [(3, .slice ψ.1.1 x8.1.length ψ.1.2), (4, .slice ψ.2.1 x8.2.length ψ.2.2)]) (fun ψ => [tree (.slice ψ.1.1 x8.1.length ψ.1.2) x8.1, tree (.slice ψ.2.1 x8.2.length ψ.2.2) x8.2]) ?_ ?_)
  ·refine aQ (dE (Λ := ((Option Addr × Nat) × (Option Addr × Nat))) hx9 ((a4, c5), (a6, c7)) (fun Q12 z13 => [(0, .slice x_v0.1 v0.length x_v0.2), (3, .slice z13.1.1 Q12.1.length z13.1.2), (4, .slice z13.2.1 Q12.2.1.length z13.2.2), (5, .int .i64 (Q12.2.2))]) (fun Q12 z13 => [tree (.slice z13.1.1 Q12.1.length z13.1.2) Q12.1, tree (.slice z13.2.1 Q12.2.1.length z13.2.2) Q12.2.1]) (.cons dl1 (.cons aA .nil)) ?_)
   rintro _ Q12 z13 t15 H1 hi16 hb17
   unfold p_spec_BlockPack_b0 at H1
   refine aD (sr (aF rfl (aF rfl (aG (bS 135 dL rfl) (aG (cQ rfl rfl) (nl (cH H1 rfl (fun h20 H1 => ?_) (fun h20 H1 => ?_))))))))
   ·refine bH (nT (aD (aQ (sr (aF rfl (aF rfl (aF rfl (gdo H1 fun h21 H1 => (aI (bW dL ty135 rfl rfl h21 rfl (aN (aL aR))) (aI (bY (j := 0) Q12.2.2.toNat fa135_0 rfl (aN (aL aR)) h21.lt rfl) ?_))))))))))
    refine aI (bZ (i := Q12.2.2.toNat) (j := 0) ty3 rfl (aN (aL aR)) h21.lt rfl) (f1 (e_lit (vs := [(0, .int .i64 ((nth v0 Q12.2.2.toNat).1))]) [.int .i64 ((nth v0 Q12.2.2.toNat).1)] dQ ty3 rfl (by decide) (by decide) (by kernel_rfl)) fun g22 => (gdo H1 fun h25 H1 => (f2 (e_app1 (l := Q12.1) (α := Int) ((nth v0 Q12.2.2.toNat).1) () dQ ty3 rfl rfl (h25.b (by decide)) h25.x rfl (cX _) (.cons dl1 (.cons aA .nil))) fun a23 c24 => (aH rfl (nl (aP (aF rfl (aF rfl (aF rfl (aI (bW dL ty135 rfl rfl h21 rfl (aN (aL aR))) ?_))))))))))
    refine aI (bY (j := 0) Q12.2.2.toNat fa135_1 rfl (aN (aL aR)) h21.lt rfl) (aI (bZ (i := Q12.2.2.toNat) (j := 1) ty3 rfl (aN (aL aR)) h21.lt rfl) (f1 (e_lit (vs := [(0, .int .i64 ((nth v0 Q12.2.2.toNat).2))]) [.int .i64 ((nth v0 Q12.2.2.toNat).2)] dQ ty3 rfl (by decide) (by decide) (by kernel_rfl)) fun g26 => (gdo H1 fun h29 H1 => (f2 (e_app1 (l := Q12.2.1) (α := Int) ((nth v0 Q12.2.2.toNat).2) () dQ ty3 rfl rfl (h29.b (by decide)) h29.x rfl (cX _) (.cons dl2 (.cons aA .nil))) fun a27 c28 => (aH rfl (aJ (nB (nT (aP (aF rfl (gdo H1 fun h30 H1 => ?_)))))))))))
    exact aG (bR rfl rfl h30) (aH rfl (aJ (nLI ((a23, c24), (a27, c28)) (hi16 _ (sm H1)) (.cons dl1 (.cons aA .nil)))))
   ·refine dA (xT (xT (xE (?_))))
    obtain rfl := hb17 _ (sm H1)
    exact nMC ((z13.1.1, z13.1.2), (z13.2.1, z13.2.2)) ⟨rfl, rfl, trivial⟩ bT (.cons aA (.cons aA .nil))
  ·intro y14
   show At _ _ [(3, .slice y14.1.1 x8.1.length y14.1.2), (4, .slice y14.2.1 x8.2.length y14.2.2)] _ [tree (.slice y14.1.1 x8.1.length y14.1.2) x8.1, tree (.slice y14.2.1 x8.2.length y14.2.2) x8.2] _
   refine nT (sr (aF rfl (bdo H fun r31 h32 H => (aI (bN (c_spec_l1Pack x8.1 y14.1 h32) rfl (aC (bL aB) aO)) (aH rfl (nl (sr (aF rfl (aG (p_slen eD rfl) (bdo H fun r33 h34 H => ?_))))))))))
   refine aI (bN (c_spec_l1Byte (r31.size : Int) h34) rfl aO) (aF rfl (gdo H fun h35 H => (aG (p_cat rfl rfl h35) (aF rfl (bdo H fun r36 h37 H => (aI (bN (c_spec_l1Pack x8.2 y14.2 h37) rfl (aC (bL hs1) aO)) (gdo H fun h38 H => (aG (p_cat rfl rfl h38) (aH rfl (nl ?_))))))))))
   obtain rfl := si H
   exact bQ bk
noncomputable def p_spec_l21Fits_b0 (v0 : Disk) (v1 : Store) (Q22 : Int) : Option ((Int) ⊕ (Unit ⊕ Bool)) := cond (decide (Q22 < (v0.2.2.1.length : Int))) (gd (ix Q22 v0.2.2.1.length) <| bd (p_spec_l3Text (nth v0.2.2.1 Q22.toNat)) fun r32 => gd (ix Q22 v1.1.1.length) <| bd (p_spec_l3Text (nth v1.1.1 Q22.toNat)) fun r35 => cond (!decide (r32 = r35)) (some (.inr (.inr false))) (gd (I64 (Q22 + 1)) <| some (.inl (Q22 + 1)))) (some (.inr (.inl ())))
noncomputable def p_spec_l21Fits_b2 (v0 : Disk) (v1 : Store) (Q44 : Int) (r54 : Int) (Q62 : Int) : Option ((Int) ⊕ (Unit ⊕ Bool)) := cond (decide (Q62 ≤ 6)) (gd (ix Q44 v1.2.1.length) <| bd (p_spec_l12Of ((nth v0.1 r54.toNat).2) Q62) fun r72 => bd (p_spec_BlockPack r72) fun r75 => bd (p_spec_l12Of (nth v1.2.1 Q44.toNat) Q62) fun r77 => bd (p_spec_BlockPack r77) fun r80 => cond (!decide (r75 = r80)) (some (.inr (.inr false))) (gd (I64 (Q62 + 1)) <| some (.inl (Q62 + 1)))) (some (.inr (.inl ())))
noncomputable def p_spec_l21Fits_b1 (v0 : Disk) (v1 : Store) (Q44 : Int) : Option ((Int) ⊕ (Unit ⊕ Bool)) := cond (decide (Q44 < (v0.2.1.length : Int))) (gd (ix Q44 v0.2.1.length) <| bd (p_spec_l21At v0 (nth v0.2.1 Q44.toNat)) fun r54 => gd (ix r54 v0.1.length) <| bd (lp (p_spec_l21Fits_b2 v0 v1 Q44 r54) 1) <| sw (fun _ => gd (I64 (Q44 + 1)) <| some (.inl (Q44 + 1))) (fun q => some (.inr (.inr q)))) (some (.inr (.inl ())))
noncomputable def p_spec_l21Fits (v0 : Disk) (v1 : Store) : Option (Bool) := bd (bd (p_spec_DiskOk v0) fun r10 => cond (!r10) (some (true)) (bd (p_spec_StoreOk v1) fun r13 => cond (!r13) (some (true)) (cond (!decide ((v1.2.1.length : Int) = (v0.2.1.length : Int))) (some (true)) (some (decide ((v1.1.1.length : Int) < (v0.2.2.1.length : Int))))))) fun b8 => cond (b8) (some false) (bd (lp (p_spec_l21Fits_b0 v0 v1) 0) <| sw (fun _ => bd (lp (p_spec_l21Fits_b1 v0 v1) 0) <| sw (fun _ => some true) (fun q => some q)) (fun q => some q))
theorem c_spec_l21Fits {r : Bool} (v0 : Disk) (x_v0 : (Option Addr × Nat) × (Option Addr × Nat) × (Option Addr × Nat) × Unit) (v1 : Store) (x_v1 : ((Option Addr × Nat) × (Option Addr × Nat)) × (Option Addr × Nat) × (Option Addr × Nat)) (H : p_spec_l21Fits v0 v1 = some r) : Fn' prog 80 #[.agg #[.slice x_v0.1.1 v0.1.length x_v0.1.2, .slice x_v0.2.1.1 v0.2.1.length x_v0.2.1.2, .slice x_v0.2.2.1.1 v0.2.2.1.length x_v0.2.2.1.2, .int .i64 (v0.2.2.2)], .agg #[.slice x_v1.1.1.1 v1.1.1.length x_v1.1.1.2, .slice x_v1.1.2.1 v1.1.2.length x_v1.1.2.2, .slice x_v1.2.1.1 v1.2.1.length x_v1.2.1.2, .slice x_v1.2.2.1 v1.2.2.length x_v1.2.2.2]] [imm (.slice x_v0.1.1 v0.1.length x_v0.1.2) v0.1, imm (.slice x_v0.2.1.1 v0.2.1.length x_v0.2.1.2) v0.2.1, imm (.slice x_v0.2.2.1.1 v0.2.2.1.length x_v0.2.2.1.2) v0.2.2.1, imm (.slice x_v1.1.1.1 v1.1.1.length x_v1.1.1.2) v1.1.1, imm (.slice x_v1.1.2.1 v1.1.2.length x_v1.1.2.2) v1.1.2, imm (.slice x_v1.2.1.1 v1.2.1.length x_v1.2.1.2) v1.2.1, imm (.slice x_v1.2.2.1 v1.2.2.length x_v1.2.2.2) v1.2.2] [] (ι := Unit) (fun _ => .bool (r)) (fun _ => []) (fun _ => []) := by
 refine cof (args := [_, _]) func80 ntmps80 fun c => ?_
 unfold p_spec_l21Fits at H
 refine bM aR fun X1 => (bM aR.s.s.s fun X2 => (bM aR.s.s.s.s.s fun X3 => (bM aR.s.s.s.s.s.s.s fun X4 => (bM aR.s.s.s.s.s.s.s.s.s fun X5 => (sr (f1 (cC (t := 32) rfl) fun g6 => (f1 (cC (t := 42) rfl) fun g7 => (aH (v := .bool (false)) rfl (nl (aD ?_))))))))))
 refine bdo H fun b8 j9 H => (dD [(35, .bool (b8)), (3, .pointer (some ⟨g7, 0, none⟩)), (2, .pointer (some ⟨g6, 0, none⟩))] ?_ ?_)
 ·refine dH [(3, .pointer (some ⟨g7, 0, none⟩)), (2, .pointer (some ⟨g6, 0, none⟩))] ⟨rfl, rfl, trivial⟩ (aZ (bJ ty32 rfl hs1 rfl) (bdo j9 fun r10 h11 j9 => (aZ (bN (c_spec_DiskOk v0 (x_v0.1, x_v0.2.1, x_v0.2.2.1, ()) h11) rfl (aC (aL (aS aR.s.s.s.s)) (aC (aL aR.s.s.s.s.s.s) (aC (aL (aS aR.s.s.s)) aO)))) (aX (cW rfl) ?_))))
  rcases aK (!r10) with h12 | h12
  ·have j9 := cdT h12 j9
   refine bC (aE rfl) h12 ?_
   iterate 3 refine bE rfl ?_
   refine aX (v := .bool (true)) (bP rfl rfl) (bB (v := .bool (true)) rfl ?_)
   iterate 7 refine bE rfl ?_
   refine aX (v := .bool (true)) (bP rfl rfl) (bB (v := .bool (true)) rfl ?_)
   iterate 8 refine bE rfl ?_
   refine aX (v := .bool (true)) (bP rfl rfl) ?_
   obtain rfl := si j9
   show At _ _ _ _ _ _
   exact n1 ⟨rfl, rfl, rfl, trivial⟩
  ·have j9 := cdF h12 j9
   refine bC (aE rfl) h12 (bA rfl (bJ ty42 rfl aB rfl) (bdo j9 fun r13 h14 j9 => (bA rfl (bN (c_spec_StoreOk v1 x_v1 h14) rfl (aC (aL (aS aR.s.s)) (aC (aL (aS aR.s)) (aC (aL (aS aR)) (aC (aL aR.s.s.s.s.s.s.s.s.s.s.s) aO))))) (aY rfl (cW rfl) (aX (bO rfl rfl) ?_)))))
   rcases aK (!r13) with h15 | h15
   ·have j9 := cdT h15 j9
    refine bC (aE rfl) h15 ?_
    iterate 7 refine bE rfl ?_
    refine aX (v := .bool (true)) (bP rfl rfl) (bB (v := .bool (true)) rfl ?_)
    iterate 8 refine bE rfl ?_
    refine aX (v := .bool (true)) (bP rfl rfl) ?_
    obtain rfl := si j9
    show At _ _ _ _ _ _
    exact n1 ⟨rfl, rfl, rfl, trivial⟩
   ·have j9 := cdF h15 j9
    refine bC (aE rfl) h15 (aY rfl (cB fa42_1 rfl rfl) (bA rfl (bI ty39 rfl aB rfl) (aY rfl (bS 75 dW rfl) (aY rfl (cB fa32_1 rfl rfl) (bA rfl (bI ty23 rfl hs1 rfl) (aY rfl (bS 3 dQ rfl) (aY rfl (cS rfl rfl) (aX (bO rfl rfl) ?_))))))))
    rcases aK (!decide ((v1.2.1.length : Int) = (v0.2.1.length : Int))) with h16 | h16
    ·have j9 := cdT h16 j9
     refine bC (aE rfl) h16 ?_
     iterate 8 refine bE rfl ?_
     refine aX (v := .bool (true)) (bP rfl rfl) ?_
     obtain rfl := si j9
     show At _ _ _ _ _ _
     exact n1 ⟨rfl, rfl, rfl, trivial⟩
    ·have j9 := cdF h16 j9
     refine bC (aE rfl) h16 (aY rfl (cB fa42_0 rfl rfl) (aY rfl (cB fa38_0 rfl rfl) (bA rfl (bI ty30 rfl aB rfl) (aY rfl (bS 142 dU rfl) (aY rfl (cB fa32_2 rfl rfl) (bA rfl (bI ty30 rfl hs1 rfl) (aY rfl (bS 142 dU rfl) (aY rfl (cQ rfl rfl) (aX (bO rfl rfl) ?_)))))))))
     obtain rfl := si j9
     show At _ _ _ _ _ _
     exact n1 ⟨rfl, rfl, rfl, trivial⟩
 refine cH H rfl (fun h17 H => ?_) (fun h17 H => ?_)
 ·refine sr (aH (v := .bool (false)) rfl (nl (bQ (rT (?_)))))
  obtain rfl := si H
  exact bk
 ·refine bH (nT (aD (sr (aH (v := .int .i64 (0)) rfl (nl (bdo H fun x18 hx19 H => (dC (Λ := Unit) H (fun _ _ => [(2, .pointer (some ⟨g6, 0, none⟩)), (3, .pointer (some ⟨g7, 0, none⟩))]) (fun _ _ => [box g6 32 [.slice x_v0.1.1 v0.1.length x_v0.1.2, .slice x_v0.2.1.1 v0.2.1.length x_v0.2.1.2, .slice x_v0.2.2.1.1 v0.2.2.1.length x_v0.2.2.1.2, .int .i64 (v0.2.2.2)], box g7 42 [.slice x_v1.1.1.1 v1.1.1.length x_v1.1.1.2, .slice x_v1.1.2.1 v1.1.2.length x_v1.1.2.2, .slice x_v1.2.1.1 v1.2.1.length x_v1.2.1.2, .slice x_v1.2.2.1 v1.2.2.length x_v1.2.2.2]]) ?_ ?_)))))))
  ·refine aQ (dE hx19 () (fun Q22 _ => [(2, .pointer (some ⟨g6, 0, none⟩)), (3, .pointer (some ⟨g7, 0, none⟩)), (5, .int .i64 (Q22))]) (fun _ _ => [box g6 32 [.slice x_v0.1.1 v0.1.length x_v0.1.2, .slice x_v0.2.1.1 v0.2.1.length x_v0.2.1.2, .slice x_v0.2.2.1.1 v0.2.2.1.length x_v0.2.2.1.2, .int .i64 (v0.2.2.2)], box g7 42 [.slice x_v1.1.1.1 v1.1.1.length x_v1.1.1.2, .slice x_v1.1.2.1 v1.1.2.length x_v1.1.2.2, .slice x_v1.2.1.1 v1.2.1.length x_v1.2.1.2, .slice x_v1.2.2.1 v1.2.2.length x_v1.2.2.2]]) (.cons dl1 (.cons aA .nil)) ?_)
   rintro _ Q22 z23 t25 H1 hi26 hb27
   unfold p_spec_l21Fits_b0 at H1
   refine aD (sr (aF rfl (aG (cB fa32_2 rfl rfl) (aI (bI ty30 rfl aB rfl) (aG (bS 142 dU rfl) (aG (cQ rfl rfl) (nl (cH H1 rfl (fun h30 H1 => ?_) (fun h30 H1 => ?_)))))))))
   ·refine bH (nT (aD (aQ (aD (dF [(2, .pointer (some ⟨g6, 0, none⟩)), (3, .pointer (some ⟨g7, 0, none⟩)), (5, .int .i64 (Q22))] mixed (.inr (by kernel_rfl)) ⟨rfl, rfl, rfl, trivial⟩ rfl (aX (cB fa32_2 rfl rfl) (aZ (bI ty30 rfl aB rfl) (bB rfl (gdo H1 fun h31 H1 => (aZ (bW dU ty142 rfl rfl h31 rfl (aL (aT aR.s.s.s))) ?_))))))))))
    refine aZ (bZ (i := Q22.toNat) (j := 0) ty142 rfl (aL (aT aR.s.s.s)) h31.lt rfl) (bdo H1 fun r32 h33 H1 => (aZ (bN (c_spec_l3Text (nth v0.2.2.1 Q22.toNat) ((X2 Q22.toNat).1, (X2 Q22.toNat).2.1) h33) rfl (aC (aL (aS (aW aR.s.s.s h31.lt))) aO)) (aX (cB fa42_0 rfl rfl) (aX (cB fa38_0 rfl rfl) (aZ (bI ty30 rfl hs1 rfl) (bB rfl (gdo H1 fun h34 H1 => (aZ (bW dU ty142 rfl rfl h34 rfl (aL (aT aR.s.s))) (aZ (bZ (i := Q22.toNat) (j := 0) ty142 rfl (aL (aT aR.s.s)) h34.lt rfl) ?_)))))))))
    refine bdo H1 fun r35 h36 H1 => (aZ (bN (c_spec_l3Text (nth v1.1.1 Q22.toNat) ((X3 Q22.toNat).1, (X3 Q22.toNat).2.1) h36) rfl (aC (aL (aS (aW aR.s.s h34.lt))) aO)) (aX (p_sneq rfl rfl) (nT (cH H1 rfl (fun h37 H1 => ?_) (fun h37 H1 => ?_)))))
    ·refine sr (aH (v := .bool (false)) rfl (nl (bQ (rB (rT (rT (rB (rT (rT (?_))))))))))
     obtain rfl := hb27 _ (sm H1)
     replace H := sw.r H
     obtain rfl := si H
     exact bk
    ·exact bH (nB (nT (aP (aF rfl (gdo H1 fun h38 H1 => (aG (bR rfl rfl h38) (aH rfl (aJ (nLI () (hi26 _ (sm H1)) (.cons aA (.cons aA .nil)))))))))))
   ·exact dA (xT (xT (xE (nMI () (hb27 _ (sm H1)) (.cons aA (.cons aA .nil))))))
  ·rintro e39 y24 H
   refine nT (aD (sr (aH (v := .int .i64 (0)) rfl (nl (bdo H fun x40 hx41 H => (dC (Λ := Unit) H (fun _ _ => []) (fun _ _ => []) ?_ ?_))))))
   ·refine aQ (dE hx41 () (fun Q44 _ => [(2, .pointer (some ⟨g6, 0, none⟩)), (3, .pointer (some ⟨g7, 0, none⟩)), (6, .int .i64 (Q44))]) (fun _ _ => [box g6 32 [.slice x_v0.1.1 v0.1.length x_v0.1.2, .slice x_v0.2.1.1 v0.2.1.length x_v0.2.1.2, .slice x_v0.2.2.1.1 v0.2.2.1.length x_v0.2.2.1.2, .int .i64 (v0.2.2.2)], box g7 42 [.slice x_v1.1.1.1 v1.1.1.length x_v1.1.1.2, .slice x_v1.1.2.1 v1.1.2.length x_v1.1.2.2, .slice x_v1.2.1.1 v1.2.1.length x_v1.2.1.2, .slice x_v1.2.2.1 v1.2.2.length x_v1.2.2.2]]) (.cons aA (.cons aA .nil)) ?_)
    rintro _ Q44 z45 t47 H1 hi48 hb49
    unfold p_spec_l21Fits_b1 at H1
    refine aD (sr (aF rfl (aG (cB fa32_1 rfl rfl) (aI (bI ty23 rfl aB rfl) (aG (bS 3 dQ rfl) (aG (cQ rfl rfl) (nl (cH H1 rfl (fun h52 H1 => ?_) (fun h52 H1 => ?_)))))))))
    ·refine bH (nT (aD (aQ (aD (dG [(2, .pointer (some ⟨g6, 0, none⟩)), (3, .pointer (some ⟨g7, 0, none⟩)), (6, .int .i64 (Q44))] 1 [0, 1, 2, 3, 4, 5, 6, 7, 8, 9, 10, 11, 12, 13] [12, 13] [] mixed (by kernel_rfl) (by decide) dI ⟨rfl, rfl, rfl, trivial⟩ rfl okNil (w_p rfl (cB fa32_0 rfl rfl) ?_))))))
     refine w_o rfl (fun F => (bI ty29 rfl (aB.app F) rfl)) ?_
     refine w_o rfl (fun F => (bJ ty32 rfl (aB.app F) rfl)) (w_p rfl (cB fa32_1 rfl rfl) ?_)
     refine w_o rfl (fun F => (bI ty23 rfl (aB.app F) rfl)) (w_p rfl (aE rfl) (gdo H1 fun h53 H1 => ?_))
     refine w_o rfl (fun F => (bW dQ ty3 rfl rfl h53 rfl (aN (aL aR.s.s.s.s.s.s)))) ?_
     refine w_o rfl (fun F => (bZ (i := Q44.toNat) (j := 0) ty3 rfl (aN (aL aR.s.s.s.s.s.s)) h53.lt rfl)) (bdo H1 fun r54 h55 H1 => ?_)
     refine w_o rfl (fun F => (bN (c_spec_l21At v0 (x_v0.1, x_v0.2.1, x_v0.2.2.1, ()) (nth v0.2.1 Q44.toNat) h55) rfl (aC (aL (aS aR.s.s.s.s)) (aC (aL aR.s.s.s.s.s.s) (aC (aL (aS aR.s.s.s)) aO))))) (gdo H1 fun h56 H1 => ?_)
     refine w_o rfl (fun F => (bW dS ty77 rfl rfl h56 rfl (aL (aT aR.s.s.s.s)))) ?_
     refine w_o rfl (fun F => (bY (j := 0) r54.toNat fa77_1 rfl (aL (aT aR.s.s.s.s)) h56.lt rfl)) ?_
     refine w_o (v := .agg #[.slice ((((X1 r54.toNat).2).1).1) ((((nth v0.1 r54.toNat).2).1).length) ((((X1 r54.toNat).2).1).2.1), .slice ((((X1 r54.toNat).2).2).1) ((((nth v0.1 r54.toNat).2).2).length) ((((X1 r54.toNat).2).2).2.1)]) rfl (fun F => (q_ldeP [.slice ((((X1 r54.toNat).2).1).1) ((((nth v0.1 r54.toNat).2).1).length) ((((X1 r54.toNat).2).1).2.1), .slice ((((X1 r54.toNat).2).2).1) ((((nth v0.1 r54.toNat).2).2).length) ((((X1 r54.toNat).2).2).2.1)] (l := v0.1) (E := fun i => Dp.denc (nth v0.1 i) (X1 i)) (oa := x_v0.1.1) (i := r54.toNat) (j := 1) ty75 rfl (aL (aT aR.s.s.s.s)) h56.lt rfl rfl)) (cJ rfl (by decide) rfl cN rfl (n_alloc ty75) ?_)
     rintro _ _ _ ⟨g57, rfl, rfl, rfl⟩
     refine ⟨(bV rfl rfl (fun F => (q_ldeP [.slice ((((X1 r54.toNat).2).1).1) ((((nth v0.1 r54.toNat).2).1).length) ((((X1 r54.toNat).2).1).2.1), .slice ((((X1 r54.toNat).2).2).1) ((((nth v0.1 r54.toNat).2).2).length) ((((X1 r54.toNat).2).2).2.1)] (l := v0.1) (E := fun i => Dp.denc (nth v0.1 i) (X1 i)) (oa := x_v0.1.1) (i := r54.toNat) (j := 1) ty75 rfl (aL (aT aR.s.s.s.s)) h56.lt rfl rfl)) (bV rfl rfl (fun F => (bY (j := 0) r54.toNat fa77_1 rfl (aL (aT aR.s.s.s.s)) h56.lt rfl)) (bV rfl rfl (fun F => (bW dS ty77 rfl rfl h56 rfl (aL (aT aR.s.s.s.s)))) (bV rfl rfl (fun F => (bN (c_spec_l21At v0 (x_v0.1, x_v0.2.1, x_v0.2.2.1, ()) (nth v0.2.1 Q44.toNat) h55) rfl (aC (aL (aS aR.s.s.s.s)) (aC (aL aR.s.s.s.s.s.s) (aC (aL (aS aR.s.s.s)) aO))))) (bV rfl rfl (fun F => (bZ (i := Q44.toNat) (j := 0) ty3 rfl (aN (aL aR.s.s.s.s.s.s)) h53.lt rfl)) (bV rfl rfl (fun F => (bW dQ ty3 rfl rfl h53 rfl (aN (aL aR.s.s.s.s.s.s)))) (bV rfl rfl (fun F => (bI ty23 rfl (hs1.app F) rfl)) (bV rfl rfl (fun F => (bJ ty32 rfl (hs1.app F) rfl)) (bV rfl rfl (fun F => (bI ty29 rfl (hs1.app F) rfl)) bU))))))))), ?_⟩
     refine w_en rfl rfl cN rfl (n_store (cs' := [.slice ((((X1 r54.toNat).2).1).1) ((((nth v0.1 r54.toNat).2).1).length) ((((X1 r54.toNat).2).1).2.1), .slice ((((X1 r54.toNat).2).2).1) ((((nth v0.1 r54.toNat).2).2).length) ((((X1 r54.toNat).2).2).2.1)]) ty75 rfl rfl cZ rfl (one_of rfl) (Nat.le_of_ble_eq_true rfl) rfl) ?_
     rintro _ _ _ ⟨rfl, rfl, rfl⟩
     refine ⟨(aM (by kernel_rfl) (aM (by kernel_rfl) (aM (by kernel_rfl) (aM (by kernel_rfl) (aM (by kernel_rfl) (aM (by kernel_rfl) (aM (by kernel_rfl) (aM (by kernel_rfl) (aM (by kernel_rfl) bU))))))))), ?_⟩
     refine cK (nT (sr (aH (v := .int .i64 (1)) rfl (nl (bdo H1 fun x58 hx59 H1 => (dC (Λ := Unit) H1 (fun _ _ => [(2, .pointer (some ⟨g6, 0, none⟩)), (3, .pointer (some ⟨g7, 0, none⟩)), (6, .int .i64 (Q44))]) (fun _ _ => [box g6 32 [.slice x_v0.1.1 v0.1.length x_v0.1.2, .slice x_v0.2.1.1 v0.2.1.length x_v0.2.1.2, .slice x_v0.2.2.1.1 v0.2.2.1.length x_v0.2.2.1.2, .int .i64 (v0.2.2.2)], box g7 42 [.slice x_v1.1.1.1 v1.1.1.length x_v1.1.1.2, .slice x_v1.1.2.1 v1.1.2.length x_v1.1.2.2, .slice x_v1.2.1.1 v1.2.1.length x_v1.2.1.2, .slice x_v1.2.2.1 v1.2.2.length x_v1.2.2.2]]) ?_ ?_))))))
     ·refine aQ (dE hx59 () (fun Q62 _ => [(2, .pointer (some ⟨g6, 0, none⟩)), (3, .pointer (some ⟨g7, 0, none⟩)), (6, .int .i64 (Q44)), (7, .pointer (some ⟨g57, 0, none⟩)), (8, .int .i64 (Q62))]) (fun _ _ => [box g6 32 [.slice x_v0.1.1 v0.1.length x_v0.1.2, .slice x_v0.2.1.1 v0.2.1.length x_v0.2.1.2, .slice x_v0.2.2.1.1 v0.2.2.1.length x_v0.2.2.1.2, .int .i64 (v0.2.2.2)], box g7 42 [.slice x_v1.1.1.1 v1.1.1.length x_v1.1.1.2, .slice x_v1.1.2.1 v1.1.2.length x_v1.1.2.2, .slice x_v1.2.1.1 v1.2.1.length x_v1.2.1.2, .slice x_v1.2.2.1 v1.2.2.length x_v1.2.2.2], box g57 75 [.slice ((((X1 r54.toNat).2).1).1) ((((nth v0.1 r54.toNat).2).1).length) ((((X1 r54.toNat).2).1).2.1), .slice ((((X1 r54.toNat).2).2).1) ((((nth v0.1 r54.toNat).2).2).length) ((((X1 r54.toNat).2).2).2.1)]]) (.cons dl1 (.cons dl1 (.cons aA .nil))) ?_)
      rintro _ Q62 z63 t65 H2 hi66 hb67
      unfold p_spec_l21Fits_b2 at H2
      refine aD (sr (aF rfl (aG (cU rfl rfl) (nl (cH H2 rfl (fun h70 H2 => ?_) (fun h70 H2 => ?_))))))
      ·refine bH (nT (aD (aQ (aD (dG [(2, .pointer (some ⟨g6, 0, none⟩)), (3, .pointer (some ⟨g7, 0, none⟩)), (6, .int .i64 (Q44)), (7, .pointer (some ⟨g57, 0, none⟩)), (8, .int .i64 (Q62))] 2 [0, 1, 4, 5, 6, 7, 8, 9, 2, 3, 10, 11, 12] [2, 10] [] mixed (by kernel_rfl) (by decide) dI ⟨rfl, rfl, rfl, rfl, rfl, trivial⟩ rfl okNil ?_)))))
       refine w_o rfl (fun F => (bJ ty75 rfl (hs2.app F) rfl)) (w_p rfl (aE rfl) (w_p rfl (cB fa42_1 rfl rfl) ?_))
       refine w_o rfl (fun F => (bI ty39 rfl (hs1.app F) rfl)) (w_p rfl (aE rfl) (gdo H2 fun h71 H2 => ?_))
       refine w_o rfl (fun F => (bW dW ty75 rfl rfl h71 rfl (aL (aT aR)))) ?_
       refine w_o (v := .agg #[.slice (((X5 Q44.toNat).1).1) (((nth v1.2.1 Q44.toNat).1).length) (((X5 Q44.toNat).1).2.1), .slice (((X5 Q44.toNat).2).1) (((nth v1.2.1 Q44.toNat).2).length) (((X5 Q44.toNat).2).2.1)]) rfl (fun F => (cA (i := Q44.toNat) ty75 rfl (aL (aT aR)) h71.lt)) (w_p rfl (aE rfl) (bdo H2 fun r72 h73 H2 => (cJ rfl (by decide) rfl cN rfl (n_call (c_spec_l12Of ((nth v0.1 r54.toNat).2) (((((X1 r54.toNat).2).1).1, (((X1 r54.toNat).2).1).2.1), ((((X1 r54.toNat).2).2).1, (((X1 r54.toNat).2).2).2.1)) Q62 h73) rfl (cL (aS (aV (aU (aW aR.s.s.s.s h56.lt)))) (cL (aS (aU (aU (aW aR.s.s.s.s h56.lt)))) cM)) bK) ?_)))
       rintro _ _ _ ⟨x74, rfl, rfl, rfl⟩
       refine ⟨(bV rfl rfl (fun F => (cA (i := Q44.toNat) ty75 rfl (aL (aT aR.s)) h71.lt)) (bV rfl rfl (fun F => (bW dW ty75 rfl rfl h71 rfl (aL (aT aR.s)))) (bV rfl rfl (fun F => (bI ty39 rfl (hs1.app F) rfl)) (aM (by kernel_rfl) bU)))), ?_⟩
       refine bdo H2 fun r75 h76 H2 => ?_
       refine w_o rfl (fun F => (bN (c_spec_BlockPack r72 x74 h76) rfl (aC (aL aR) aO))) (bdo H2 fun r77 h78 H2 => (cJ rfl (by decide) rfl cN rfl (n_call (c_spec_l12Of (nth v1.2.1 Q44.toNat) ((((X5 Q44.toNat).1).1, ((X5 Q44.toNat).1).2.1), (((X5 Q44.toNat).2).1, ((X5 Q44.toNat).2).2.1)) Q62 h78) rfl (cL (aS (aV (aW aR.s h71.lt))) (cL (aS (aU (aW aR.s h71.lt))) cM)) bK) ?_))
       rintro _ _ _ ⟨x79, rfl, rfl, rfl⟩
       refine ⟨(aM (by kernel_rfl) (aM (by kernel_rfl) (aM (by kernel_rfl) (bV rfl rfl (fun F => (bI ty39 rfl (hs1.app F) rfl)) (bV rfl rfl (fun F => (bJ ty75 rfl (hs2.app F) rfl)) bU))))), ?_⟩
       refine bdo H2 fun r80 h81 H2 => ?_
       refine w_o rfl (fun F => (bN (c_spec_BlockPack r77 x79 h81) rfl (aC (aL aR) aO))) (w_p rfl (p_sneq rfl rfl) (cK (nT (cH H2 rfl (fun h82 H2 => ?_) (fun h82 H2 => ?_)))))
       ·refine sr (aH (v := .bool (false)) rfl (nl (bQ (rB (rT (rT (rB (rT (rB (rT (rT (rB (rT (rT (?_)))))))))))))))
        obtain rfl := hb67 _ (sm H2)
        replace H1 := sw.r H1
        obtain rfl := hb49 _ (sm H1)
        replace H := sw.r H
        obtain rfl := si H
        exact bk
       ·exact bH (nB (nT (aP (aF rfl (gdo H2 fun h83 H2 => (aG (bR rfl rfl h83) (aH rfl (aJ (nLI (hf := bT.s.s) () (hi66 _ (sm H2)) (.cons aA (.cons aA (.cons aA .nil))))))))))))
      ·exact dA (xT (xT (xE (nMI () (hb67 _ (sm H2)) (.cons aA (.cons aA .nil))))))
     ·rintro e84 y64 H1
      exact nB (nT (aP (aF rfl (gdo H1 fun h85 H1 => (aG (bR rfl rfl h85) (aH rfl (aJ (nLI () (hi48 _ (sm H1)) (.cons aA (.cons aA .nil))))))))))
    ·exact dA (xT (xT (xE (nMI () (hb49 _ (sm H1)) bK))))
   ·rintro e86 y46 H
    refine nT (sr (aH (v := .bool (true)) rfl (nl ?_)))
    obtain rfl := si H
    exact bQ bk
noncomputable def p_spec_l13Mem_b0 (v0 : Store) (Q13 : (List (List Row)) × Int) : Option (((List (List Row)) × Int) ⊕ ((List (List Row)))) := cond (decide (Q13.2 < (v0.2.2.length : Int))) (gd (ix Q13.2 v0.2.2.length) <| gd (ix (((nth v0.2.2 Q13.2.toNat).1) - 1) Q13.1.length) <| gd (I64 (((nth v0.2.2 Q13.2.toNat).1) - 1)) <| bd (p_spec_l2Put (nth Q13.1 ((((nth v0.2.2 Q13.2.toNat).1) - 1).toNat)) ((nth v0.2.2 Q13.2.toNat).2)) fun r26 => gd (I64 (Q13.2 + 1)) <| some (.inl ((Q13.1.set ((((nth v0.2.2 Q13.2.toNat).1) - 1).toNat) r26), Q13.2 + 1))) (some (.inr Q13.1))
noncomputable def p_spec_l13Mem (v0 : Store) : Option (Part) := gd (many 6) <| bd (lp (p_spec_l13Mem_b0 v0) ((List.replicate (6 : Int).toNat (Zr.z0 : (List Row))), 0)) fun x9 => bd (p_spec_l12Make x9) fun r30 => some r30
theorem c_spec_l13Mem {r : Part} (v0 : Store) (x_v0 : ((Option Addr × Nat) × (Option Addr × Nat)) × (Option Addr × Nat) × (Option Addr × Nat)) (H : p_spec_l13Mem v0 = some r) : Fn' prog 135 #[.agg #[.slice x_v0.1.1.1 v0.1.1.length x_v0.1.1.2, .slice x_v0.1.2.1 v0.1.2.length x_v0.1.2.2, .slice x_v0.2.1.1 v0.2.1.length x_v0.2.1.2, .slice x_v0.2.2.1 v0.2.2.length x_v0.2.2.2]] [imm (.slice x_v0.1.1.1 v0.1.1.length x_v0.1.1.2) v0.1.1, imm (.slice x_v0.1.2.1 v0.1.2.length x_v0.1.2.2) v0.1.2, imm (.slice x_v0.2.1.1 v0.2.1.length x_v0.2.1.2) v0.2.1, imm (.slice x_v0.2.2.1 v0.2.2.length x_v0.2.2.2) v0.2.2] [] (ι := (Option Addr × Nat) × (Option Addr × Nat)) (fun x => .agg #[.slice x.1.1 r.1.length x.1.2, .slice x.2.1 r.2.length x.2.2]) (fun _ => []) (fun x => [tree (.slice x.1.1 r.1.length x.1.2) r.1, tree (.slice x.2.1 r.2.length x.2.2) r.2]) := by
 refine cof (args := [_]) func135 ntmps135 fun c => ?_
 unfold p_spec_l13Mem at H
 refine bM aR fun X1 => (bM aR.s.s fun X2 => (bM aR.s.s.s.s fun X3 => (sr (f1 (cC (t := 42) rfl) fun g4 => (f1 (cD ty75) fun g5 => (nl (sr (gdo H fun h8 H => (f2 (e_makeR (List Row) eC ty130 rfl rfl rfl h8 (by decide)) fun a6 c7 => ?_)))))))))
 refine aH rfl (nl (aD (sr (aH (v := .int .i64 (0)) rfl (nl (bdo H fun x9 hx10 H => (dB (ι := Unit) (fun ψ => [(2, .pointer (some ⟨g5, 0, none⟩)), (3, .slice a6 x9.length c7)]) (fun ψ => [box g5 75 [.slice none 0 0, .slice none 0 0], tree (.slice a6 x9.length c7) x9]) ?_ ?_)))))))
 ·refine aQ (dE hx10 () (fun Q13 _ => [(1, .pointer (some ⟨g4, 0, none⟩)), (2, .pointer (some ⟨g5, 0, none⟩)), (3, .slice a6 Q13.1.length c7), (4, .int .i64 (Q13.2))]) (fun Q13 _ => [box g4 42 [.slice x_v0.1.1.1 v0.1.1.length x_v0.1.1.2, .slice x_v0.1.2.1 v0.1.2.length x_v0.1.2.2, .slice x_v0.2.1.1 v0.2.1.length x_v0.2.1.2, .slice x_v0.2.2.1 v0.2.2.length x_v0.2.2.2], box g5 75 [.slice none 0 0, .slice none 0 0], tree (.slice a6 Q13.1.length c7) Q13.1]) (.cons dl2 (.cons dl1 (.cons aA .nil))) ?_)
  rintro _ Q13 z14 t16 H1 hi17 hb18
  unfold p_spec_l13Mem_b0 at H1
  refine aD (sr (aF rfl (aG (cB fa42_2 rfl rfl) (aI (bI ty40 rfl aB rfl) (aG (bS 137 dX rfl) (aG (cQ rfl rfl) (nl (cH H1 rfl (fun h21 H1 => ?_) (fun h21 H1 => ?_)))))))))
  ·refine bH (nT (aD (aQ (sr (aG (cB fa42_2 rfl rfl) (aI (bI ty40 rfl aB rfl) (aF rfl (gdo H1 fun h22 H1 => (aI (bW dX ty137 rfl rfl h22 rfl (aN (aL aR.s.s.s.s.s.s))) (aI (bY (j := 0) Q13.2.toNat fa137_0 rfl (aN (aL aR.s.s.s.s.s.s)) h22.lt rfl) ?_))))))))))
   refine aI (bZ (i := Q13.2.toNat) (j := 0) ty3 rfl (aN (aL aR.s.s.s.s.s.s)) h22.lt rfl) (aH rfl (nl (gdo H1 fun h23 H1 => (Tr.zoom (k := (((nth v0.2.2 Q13.2.toNat).1) - 1).toNat) h23.lt (.cons dl2 .nil) fun x24 => ?_))))
   show Tr _ _ _ _ _ _ _ (hole (.slice a6 Q13.1.length c7) Q13.1 ((((nth v0.2.2 Q13.2.toNat).1) - 1).toNat) [.slice x24.1 ((nth Q13.1 ((((nth v0.2.2 Q13.2.toNat).1) - 1).toNat)).length) x24.2] :: tree (.slice x24.1 ((nth Q13.1 ((((nth v0.2.2 Q13.2.toNat).1) - 1).toNat)).length) x24.2) (nth Q13.1 ((((nth v0.2.2 Q13.2.toNat).1) - 1).toNat)) :: _)
   refine dG [(5, .int .i64 ((nth v0.2.2 Q13.2.toNat).1)), (1, .pointer (some ⟨g4, 0, none⟩)), (2, .pointer (some ⟨g5, 0, none⟩)), (3, .slice a6 Q13.1.length c7), (4, .int .i64 (Q13.2))] 1 [0, 1, 2, 3, 4, 5, 6, 7, 8, 9, 10, 11, 12, 13, 14, 15, 16] [14, 16] [] mixed (by kernel_rfl) (by decide) dI ⟨rfl, rfl, rfl, rfl, rfl, trivial⟩ rfl okNil (w_p rfl (aE rfl) (w_p rfl (aE rfl) (gdo H1 fun h25 H1 => (w_p rfl (cR rfl rfl h25) (w_p rfl (aE rfl) (w_p rfl (aE rfl) (w_p rfl (cR rfl rfl h25) ?_)))))))
   refine w_o (v := elp a6 (((((nth v0.2.2 Q13.2.toNat).1) - 1).toNat) * Enc.sz (List Row) + 0)) rfl (fun F => (q_ixH (k := (((nth v0.2.2 Q13.2.toNat).1) - 1).toNat) eC ty130 rfl rfl h23 rfl (aB.app F))) ?_
   refine w_o (v := .slice x24.1 ((nth Q13.1 ((((nth v0.2.2 Q13.2.toNat).1) - 1).toNat)).length) x24.2) rfl (fun F => (q_ldH (i := (((nth v0.2.2 Q13.2.toNat).1) - 1).toNat) (j := 0) ty130 rfl (aB.app F) rfl)) (w_p rfl (cB fa42_2 rfl rfl) ?_)
   refine w_o rfl (fun F => (bI ty40 rfl (hs2.app F) rfl)) (w_p rfl (aE rfl) ?_)
   refine w_o rfl (fun F => (bW dX ty137 rfl rfl h22 rfl (aN (aL aR.s.s.s.s.s.s)))) ?_
   refine w_o rfl (fun F => (bY (j := 0) Q13.2.toNat fa137_1 rfl (aN (aL aR.s.s.s.s.s.s)) h22.lt rfl)) ?_
   refine w_o (v := .agg #[.int .i64 (((nth v0.2.2 Q13.2.toNat).2).1), .int .i64 (((nth v0.2.2 Q13.2.toNat).2).2)]) rfl (fun F => (q_ldeP [.int .i64 (((nth v0.2.2 Q13.2.toNat).2).1), .int .i64 (((nth v0.2.2 Q13.2.toNat).2).2)] (l := v0.2.2) (E := fun i => Flat.enc (nth v0.2.2 i)) (oa := x_v0.2.2.1) (i := Q13.2.toNat) (j := 1) ty135 rfl (aN (aL aR.s.s.s.s.s.s)) h22.lt rfl rfl)) (bdo H1 fun r26 h27 H1 => (cJ rfl (by decide) rfl cN rfl (cE (c_spec_l2Put (nth Q13.1 ((((nth v0.2.2 Q13.2.toNat).1) - 1).toNat)) x24 ((nth v0.2.2 Q13.2.toNat).2) h27) (fun _ => (bF bG)) rfl (aC (bL hs1) aO)) ?_))
   rintro _ _ _ ⟨x28, rfl, rfl, rfl⟩
   refine ⟨(aM (by kernel_rfl) (bV rfl rfl (fun F => (bY (j := 0) Q13.2.toNat fa137_1 rfl (aN (aL aR.s.s.s.s.s.s)) h22.lt rfl)) (bV rfl rfl (fun F => (bW dX ty137 rfl rfl h22 rfl (aN (aL aR.s.s.s.s.s.s)))) (bV rfl rfl (fun F => (bI ty40 rfl (hs3.app F) rfl)) (aM (by kernel_rfl) (bV rfl rfl (fun F => (q_ixH (k := (((nth v0.2.2 Q13.2.toNat).1) - 1).toNat) eC ty130 rfl rfl h23 rfl (hs1.app F))) bU)))))), ?_⟩
   refine w_o (v := elp a6 (((((nth v0.2.2 Q13.2.toNat).1) - 1).toNat) * Enc.sz (List Row) + 0)) rfl (fun F => (q_ixH (k := (((nth v0.2.2 Q13.2.toNat).1) - 1).toNat) eC ty130 rfl rfl h23 rfl (hs1.app F))) (w_en rfl rfl cN rfl (n_stH (v := .slice x28.1 r26.length x28.2) (i := (((nth v0.2.2 Q13.2.toNat).1) - 1).toNat) (j := 0) (cs' := [.slice x28.1 r26.length x28.2]) ty130 rfl rfl (.cons dl1 .nil) rfl (one_of rfl) (Nat.le_of_ble_eq_true rfl) rfl rfl) ?_)
   rintro _ _ _ ⟨rfl, rfl, rfl⟩
   refine ⟨(aM (by kernel_rfl) (aM (by kernel_rfl) (aM (by kernel_rfl) (aM (by kernel_rfl) (aM (by kernel_rfl) (aM (by kernel_rfl) (aM (by kernel_rfl) bU))))))), ?_⟩
   refine cK ?_
   show At _ _ _ _ _ _
   refine nB (nT (aP (aF rfl (gdo H1 fun h29 H1 => (aG (bR rfl rfl h29) (aH rfl (aJ (At.unzoom r26 x28 rfl (.cons aA (.cons aA .nil)) ?_))))))))
   refine At.olen aB fun hn => ?_; rw [hn]
   exact nLI () (hi17 _ (sm H1)) (.cons dl2 (.cons dl2 (.cons aA .nil)))
  ·refine dA (xT (xT (xE (?_))))
   obtain rfl := hb18 _ (sm H1)
   exact nMC () ⟨rfl, rfl, trivial⟩ bT (.cons dl1 (.cons dl1 .nil))
 ·intro y15
  show At _ _ [(2, .pointer (some ⟨g5, 0, none⟩)), (3, .slice a6 x9.length c7)] _ [box g5 75 [.slice none 0 0, .slice none 0 0], tree (.slice a6 x9.length c7) x9] _
  refine nT (sr (aF rfl (bdo H fun r30 h31 H => (f1 (cF (c_spec_l12Make x9 (a6, c7) h31) (fun _ => (bF (bF bG))) rfl (aC (bL hs1) aO)) fun x32 => (stb (cs' := [.slice x32.1.1 r30.1.length x32.1.2, .slice x32.2.1 r30.2.length x32.2.2]) ty75 up2 (nl (bQ ?_)))))))
  obtain rfl := si H
  exact back1 x32 rfl (ResV.agg ty75 rfl hs2 rfl) rfl cM (.cons aA (.cons aA .nil))
noncomputable def p_spec_l21Flush (v0 : Disk) (v1 : Store) : Option ((List Step)) := bd (cond (decide ((v1.2.2.length : Int) = 0)) (some (true)) (cond (decide (6 ≤ (v0.2.1.length : Int))) (some (true)) (cond (decide (999 ≤ v0.2.2.2)) (some (true)) (some (decide (20 ≤ (v0.1.length : Int))))))) fun b8 => cond (b8) (some ([] : List Step)) (gd (room (([] : List Int).length + v0.2.1.length)) <| gd (room ((([] : List Int) ++ v0.2.1).length + 1)) <| bd (p_spec_l13Mem v1) fun r24 => bd (p_spec_l11Names v1.1.1) fun r27 => some ([(1, v0.2.2.2, r24, ([]), ([])), (2, 0, (([]), ([])), ((([] : List Int) ++ v0.2.1) ++ [v0.2.2.2]), r27)] : List Step))
theorem c_spec_l21Flush {r : (List Step)} (v0 : Disk) (x_v0 : (Option Addr × Nat) × (Option Addr × Nat) × (Option Addr × Nat) × Unit) (v1 : Store) (x_v1 : ((Option Addr × Nat) × (Option Addr × Nat)) × (Option Addr × Nat) × (Option Addr × Nat)) (H : p_spec_l21Flush v0 v1 = some r) : Fn' prog 81 #[.agg #[.slice x_v0.1.1 v0.1.length x_v0.1.2, .slice x_v0.2.1.1 v0.2.1.length x_v0.2.1.2, .slice x_v0.2.2.1.1 v0.2.2.1.length x_v0.2.2.1.2, .int .i64 (v0.2.2.2)], .agg #[.slice x_v1.1.1.1 v1.1.1.length x_v1.1.1.2, .slice x_v1.1.2.1 v1.1.2.length x_v1.1.2.2, .slice x_v1.2.1.1 v1.2.1.length x_v1.2.1.2, .slice x_v1.2.2.1 v1.2.2.length x_v1.2.2.2]] [imm (.slice x_v0.1.1 v0.1.length x_v0.1.2) v0.1, imm (.slice x_v0.2.1.1 v0.2.1.length x_v0.2.1.2) v0.2.1, imm (.slice x_v0.2.2.1.1 v0.2.2.1.length x_v0.2.2.1.2) v0.2.2.1, imm (.slice x_v1.1.1.1 v1.1.1.length x_v1.1.1.2) v1.1.1, imm (.slice x_v1.1.2.1 v1.1.2.length x_v1.1.2.2) v1.1.2, imm (.slice x_v1.2.1.1 v1.2.1.length x_v1.2.1.2) v1.2.1, imm (.slice x_v1.2.2.1 v1.2.2.length x_v1.2.2.2) v1.2.2] [] (ι := Option Addr × Nat) (fun x => .slice x.1 r.length x.2) (fun x => [imm (.slice x.1 r.length x.2) r]) (fun _ => []) := by
 refine cof (args := [_, _]) func81 ntmps81 fun c => ?_
 unfold p_spec_l21Flush at H
 refine bM aR fun X1 => (bM aR.s.s.s fun X2 => (bM aR.s.s.s.s.s fun X3 => (bM aR.s.s.s.s.s.s.s fun X4 => (bM aR.s.s.s.s.s.s.s.s.s fun X5 => (sr (f1 (cC (t := 32) rfl) fun g6 => (f1 (cC (t := 42) rfl) fun g7 => (aH (v := .slice none 0 0) rfl (nl (aD ?_))))))))))
 refine bdo H fun b8 j9 H => (dD [(26, .bool (b8)), (3, .pointer (some ⟨g7, 0, none⟩)), (2, .pointer (some ⟨g6, 0, none⟩))] ?_ ?_)
 ·refine dH [(3, .pointer (some ⟨g7, 0, none⟩)), (2, .pointer (some ⟨g6, 0, none⟩))] ⟨rfl, rfl, trivial⟩ (aX (cB fa42_2 rfl rfl) (aZ (bI ty40 rfl aB rfl) (aX (bS 137 dX rfl) (aX (cT rfl rfl) ?_))))
  rcases aK (decide ((v1.2.2.length : Int) = 0)) with h10 | h10
  ·have j9 := cdT h10 j9
   refine bC (aE rfl) h10 ?_
   iterate 4 refine bE rfl ?_
   refine aX (v := .bool (true)) (bP rfl rfl) (bB (v := .bool (true)) rfl ?_)
   iterate 3 refine bE rfl ?_
   refine aX (v := .bool (true)) (bP rfl rfl) (bB (v := .bool (true)) rfl ?_)
   iterate 4 refine bE rfl ?_
   refine aX (v := .bool (true)) (bP rfl rfl) ?_
   obtain rfl := si j9
   show At _ _ _ _ _ _
   exact n1 ⟨rfl, rfl, rfl, trivial⟩
  ·have j9 := cdF h10 j9
   refine bC (aE rfl) h10 (aY rfl (cB fa32_1 rfl rfl) (bA rfl (bI ty23 rfl hs1 rfl) (aY rfl (bS 3 dQ rfl) (aY rfl (p_geq rfl rfl) (aX (bO rfl rfl) ?_)))))
   rcases aK (decide (6 ≤ (v0.2.1.length : Int))) with h11 | h11
   ·have j9 := cdT h11 j9
    refine bC (aE rfl) h11 ?_
    iterate 3 refine bE rfl ?_
    refine aX (v := .bool (true)) (bP rfl rfl) (bB (v := .bool (true)) rfl ?_)
    iterate 4 refine bE rfl ?_
    refine aX (v := .bool (true)) (bP rfl rfl) ?_
    obtain rfl := si j9
    show At _ _ _ _ _ _
    exact n1 ⟨rfl, rfl, rfl, trivial⟩
   ·have j9 := cdF h11 j9
    refine bC (aE rfl) h11 (aY rfl (cB fa32_3 rfl rfl) (bA rfl (bI ty3 rfl hs1 rfl) (aY rfl (p_geq rfl rfl) (aX (bO rfl rfl) ?_))))
    rcases aK (decide (999 ≤ v0.2.2.2)) with h12 | h12
    ·have j9 := cdT h12 j9
     refine bC (aE rfl) h12 ?_
     iterate 4 refine bE rfl ?_
     refine aX (v := .bool (true)) (bP rfl rfl) ?_
     obtain rfl := si j9
     show At _ _ _ _ _ _
     exact n1 ⟨rfl, rfl, rfl, trivial⟩
    ·have j9 := cdF h12 j9
     refine bC (aE rfl) h12 (aY rfl (cB fa32_0 rfl rfl) (bA rfl (bI ty29 rfl hs1 rfl) (aY rfl (bS 77 dS rfl) (aY rfl (p_geq rfl rfl) (aX (bO rfl rfl) ?_)))))
     obtain rfl := si j9
     show At _ _ _ _ _ _
     exact n1 ⟨rfl, rfl, rfl, trivial⟩
 refine cH H rfl (fun h13 H => ?_) (fun h13 H => ?_)
 ·refine sr (f2 (e_lit0 Step eB ty111) fun a14 c15 => (aH rfl (nl (Tr.freeze (.cons aA .nil) (bQ (rT (?_)))))))
  obtain rfl := si H
  exact back1 (a14, c15) rfl (ResV.tmp (v := .slice a14 (([] : List Step).length) c15) rfl) rfl (cL aR cM) bK
 ·refine bH (nT (aD (dG [(3, .pointer (some ⟨g7, 0, none⟩)), (2, .pointer (some ⟨g6, 0, none⟩))] 2 [1, 2, 4, 5, 0, 3, 6, 7, 8] [3, 7] [⟨0, [], fun g => .slice (some ⟨g, 0, none⟩) ([] : List Int).length 0, fun g => tree (.slice (some ⟨g, 0, none⟩) ([] : List Int).length 0) ([] : List Int)⟩, ⟨6, [(33, .int .i64 (v0.2.2.2))], fun g => .slice (some ⟨g, 0, none⟩) 1 1, fun g => box g 3 [.int .i64 (v0.2.2.2)]⟩] mixed (by kernel_rfl) (by decide) (show List.Nodup [0, 6] by decide) ⟨rfl, rfl, trivial⟩ rfl (okCons (FreeA.Ok.of rfl (by decide) (by kernel_rfl) fun c fs os => g_lit0 Int dQ ty3) (okCons (FreeA.Ok.of rfl (by decide) (by kernel_rfl) fun c fs os => e_lit (vs := [(0, .int .i64 (v0.2.2.2))]) [.int .i64 (v0.2.2.2)] dQ ty3 rfl (by decide) (by decide) (by kernel_rfl)) okNil)) (w_p rfl (cB fa32_1 rfl rfl) ?_))))
  refine w_o rfl (fun F => (bI ty23 rfl (hs1.app F) rfl)) (w_p rfl (cB fa32_3 rfl rfl) ?_)
  refine w_o rfl (fun F => (bI ty3 rfl (hs1.app F) rfl)) ?_
  refine w_fr (z := ⟨0, [], fun g => .slice (some ⟨g, 0, none⟩) ([] : List Int).length 0, fun g => tree (.slice (some ⟨g, 0, none⟩) ([] : List Int).length 0) ([] : List Int)⟩) (.head _) rfl rfl (by decide) (cO (.inl rfl) (cO (.inr (.inr ⟨rfl, trivial⟩)) cN)) trivial ?_; intro g16
  refine gdo H fun h19 H => (cJ rfl (by decide) rfl (cO (.inl rfl) (cO (.inr (.inr ⟨rfl, trivial⟩)) cN)) rfl (n_appF (l := ([] : List Int)) (k := v0.2.1) (α := Int) dQ ty3 rfl rfl (h19.b (by decide)) h19.x (.cons aA .nil) (aL aR.s.s.s.s.s.s)) ?_)
  rintro _ _ _ ⟨a17, c18, rfl, rfl, rfl⟩
  refine ⟨(bV rfl rfl (fun F => (bI ty3 rfl (hs2.app F) rfl)) (aM (by kernel_rfl) bU)), ?_⟩
  refine w_fr (z := ⟨6, [(33, .int .i64 (v0.2.2.2))], fun g => .slice (some ⟨g, 0, none⟩) 1 1, fun g => box g 3 [.int .i64 (v0.2.2.2)]⟩) (.tail _ (.head _)) rfl rfl (by decide) (cO (.inl rfl) (cO (.inl rfl) cN)) ⟨rfl, trivial⟩ ?_; intro g20
  refine gdo H fun h23 H => (cJ rfl (by decide) rfl (cO (.inl rfl) (cO (.inl rfl) cN)) rfl (n_app1 (l := (([] : List Int) ++ v0.2.1)) (α := Int) v0.2.2.2 () dQ ty3 rfl rfl (h23.b (by decide)) h23.x rfl (cX _) (.cons dl1 (.cons aA .nil))) ?_)
  rintro _ _ _ ⟨a21, c22, rfl, rfl, rfl⟩
  refine ⟨(aM (by kernel_rfl) (aM (by kernel_rfl) bU)), ?_⟩
  refine w_p rfl (p_assign rfl) (cK (nT (aD (Tr.nilT Int (Tr.nilT (List Tag) (Tr.nilT Int (Tr.nilT (List Row) (dG [(5, .slice a21 (((([] : List Int) ++ v0.2.1) ++ [v0.2.2.2]).length) c22), (3, .pointer (some ⟨g7, 0, none⟩)), (2, .pointer (some ⟨g6, 0, none⟩))] 2 [0, 1, 2, 5, 6, 7, 8, 3, 4, 9, 10, 11, 12] [3, 9, 11] [] mixed (by kernel_rfl) (by decide) dI ⟨rfl, rfl, rfl, trivial⟩ rfl okNil (w_p rfl (cB fa32_3 rfl rfl) ?_)))))))))
  refine w_o rfl (fun F => (bI ty3 rfl ((hs5t hs1).app F) rfl)) ?_
  refine w_o rfl (fun F => (bJ ty42 rfl (hs5.app F) rfl)) (w_p rfl (aE rfl) (w_p rfl (cB fa42_0 rfl rfl) (w_p rfl (cB fa38_0 rfl rfl) ?_)))
  refine w_o rfl (fun F => (bI ty30 rfl (hs5.app F) rfl)) (bdo H fun r24 h25 H => (cJ rfl (by decide) rfl cN rfl (cE (c_spec_l13Mem v1 x_v1 h25) (fun _ => (bF (bF bG))) rfl (aC (aL (aS aR.s.s)) (aC (aL (aS aR.s)) (aC (aL (aS aR)) (aC (aL aR.s.s.s.s.s.s.s.s.s.s.s) aO))))) ?_))
  rintro _ _ _ ⟨x26, rfl, rfl, rfl⟩
  refine ⟨(bV rfl rfl (fun F => (bI ty30 rfl ((hs5t hs2).app F) rfl)) (aM (by kernel_rfl) (bV rfl rfl (fun F => (bI ty3 rfl ((hs5t hs3).app F) rfl)) bU))), ?_⟩
  refine w_p (v := .agg #[.int .i64 (1), .int .i64 (v0.2.2.2), .slice x26.1.1 r24.1.length x26.1.2, .slice x26.2.1 r24.2.length x26.2.2, .slice none 0 0, .slice none 0 0]) rfl (p_buildS (vs := [(0, .int .i64 (1)), (1, .int .i64 (v0.2.2.2)), (2, .agg #[.slice x26.1.1 r24.1.length x26.1.2, .slice x26.2.1 r24.2.length x26.2.2])]) (cs := #[.int .i64 (1), .int .i64 (v0.2.2.2), .slice x26.1.1 r24.1.length x26.1.2, .slice x26.2.1 r24.2.length x26.2.2, .slice none 0 0, .slice none 0 0]) ty111 pl111 rfl (by kernel_rfl)) (bdo H fun r27 h28 H => (cJ rfl (by decide) rfl cN rfl (cE (c_spec_l11Names v1.1.1 x_v1.1.1 h28) (fun _ => (bF bG)) rfl (aC (aL (aS aR.s.s)) aO)) ?_))
  rintro _ _ _ ⟨x29, rfl, rfl, rfl⟩
  refine ⟨(aM (by kernel_rfl) (aM (by kernel_rfl) (bV rfl rfl (fun F => (bI ty3 rfl ((hs5t hs4).app F) rfl)) bU))), ?_⟩
  refine w_p (v := .agg #[.int .i64 (2), .int .i64 (0), .slice none 0 0, .slice none 0 0, .slice a21 (((([] : List Int) ++ v0.2.1) ++ [v0.2.2.2]).length) c22, .slice x29.1 r27.length x29.2]) rfl (p_buildS (vs := [(0, .int .i64 (2)), (3, .slice a21 (((([] : List Int) ++ v0.2.1) ++ [v0.2.2.2]).length) c22), (4, .slice x29.1 r27.length x29.2)]) (cs := #[.int .i64 (2), .int .i64 (0), .slice none 0 0, .slice none 0 0, .slice a21 (((([] : List Int) ++ v0.2.1) ++ [v0.2.2.2]).length) c22, .slice x29.1 r27.length x29.2]) ty111 pl111 rfl (by kernel_rfl)) (cJ rfl (by decide) rfl cN rfl (n_litO (α := Step) (vs := [(0, .agg #[.int .i64 (1), .int .i64 (v0.2.2.2), .slice x26.1.1 r24.1.length x26.1.2, .slice x26.2.1 r24.2.length x26.2.2, .slice none 0 0, .slice none 0 0]), (1, .agg #[.int .i64 (2), .int .i64 (0), .slice none 0 0, .slice none 0 0, .slice a21 (((([] : List Int) ++ v0.2.1) ++ [v0.2.2.2]).length) c22, .slice x29.1 r27.length x29.2])]) ([(1, v0.2.2.2, r24, ([]), ([])), (2, 0, (([]), ([])), ((([] : List Int) ++ v0.2.1) ++ [v0.2.2.2]), r27)] : List Step) [((1, v0.2.2.2, r24, ([]), ([])), ((), (), x26, (none, 0), (none, 0))), ((2, 0, (([]), ([])), ((([] : List Int) ++ v0.2.1) ++ [v0.2.2.2]), r27), ((), (), ((none, 0), (none, 0)), (a21, c22), x29))] rfl rfl eB ty111 rfl (by decide) (by decide) (by kernel_rfl) (.cons dl1 (.cons dl1 (.cons dl2 (.cons dl2 (.cons dl2 (.cons dl1 (.cons dl1 (.cons aA .nil))))))))) ?_)
  rintro _ _ _ ⟨a30, c31, rfl, rfl, rfl⟩
  refine ⟨(bV rfl rfl (fun F => (bI ty30 rfl (hs1.app F) rfl)) (bV rfl rfl (fun F => (bJ ty42 rfl (hs1.app F) rfl)) (aM (by kernel_rfl) bU))), ?_⟩
  refine w_p rfl (p_assign rfl) (cK (nT (Tr.freeze (.cons aA .nil) (bQ ?_))))
  obtain rfl := si H
  exact back1 (a30, c31) rfl (ResV.tmp (v := .slice a30 (([(1, v0.2.2.2, r24, ([]), ([])), (2, 0, (([]), ([])), ((([] : List Int) ++ v0.2.1) ++ [v0.2.2.2]), r27)] : List Step).length) c31) rfl) rfl (cL aR cM) bK
noncomputable def p_spec_StepsFlush (v0 : Disk) (v1 : Store) : Option ((List Step)) := bd (p_spec_l21Fits v0 v1) fun r8 => cond (!r8) (some ([] : List Step)) (bd (p_spec_l21Flush v0 v1) fun r13 => some r13)
theorem c_spec_StepsFlush {r : (List Step)} (v0 : Disk) (x_v0 : (Option Addr × Nat) × (Option Addr × Nat) × (Option Addr × Nat) × Unit) (v1 : Store) (x_v1 : ((Option Addr × Nat) × (Option Addr × Nat)) × (Option Addr × Nat) × (Option Addr × Nat)) (H : p_spec_StepsFlush v0 v1 = some r) : Fn' prog 24 #[.agg #[.slice x_v0.1.1 v0.1.length x_v0.1.2, .slice x_v0.2.1.1 v0.2.1.length x_v0.2.1.2, .slice x_v0.2.2.1.1 v0.2.2.1.length x_v0.2.2.1.2, .int .i64 (v0.2.2.2)], .agg #[.slice x_v1.1.1.1 v1.1.1.length x_v1.1.1.2, .slice x_v1.1.2.1 v1.1.2.length x_v1.1.2.2, .slice x_v1.2.1.1 v1.2.1.length x_v1.2.1.2, .slice x_v1.2.2.1 v1.2.2.length x_v1.2.2.2]] [imm (.slice x_v0.1.1 v0.1.length x_v0.1.2) v0.1, imm (.slice x_v0.2.1.1 v0.2.1.length x_v0.2.1.2) v0.2.1, imm (.slice x_v0.2.2.1.1 v0.2.2.1.length x_v0.2.2.1.2) v0.2.2.1, imm (.slice x_v1.1.1.1 v1.1.1.length x_v1.1.1.2) v1.1.1, imm (.slice x_v1.1.2.1 v1.1.2.length x_v1.1.2.2) v1.1.2, imm (.slice x_v1.2.1.1 v1.2.1.length x_v1.2.1.2) v1.2.1, imm (.slice x_v1.2.2.1 v1.2.2.length x_v1.2.2.2) v1.2.2] [] (ι := Option Addr × Nat) (fun x => .slice x.1 r.length x.2) (fun x => [imm (.slice x.1 r.length x.2) r]) (fun _ => []) := by
 refine cof (args := [_, _]) func24 ntmps24 fun c => ?_
 unfold p_spec_StepsFlush at H
 refine bM aR fun X1 => (bM aR.s.s.s fun X2 => (bM aR.s.s.s.s.s fun X3 => (bM aR.s.s.s.s.s.s.s fun X4 => (bM aR.s.s.s.s.s.s.s.s.s fun X5 => (sr (f1 (cC (t := 32) rfl) fun g6 => (f1 (cC (t := 42) rfl) fun g7 => (aH (v := .slice none 0 0) rfl (nl (aD (sr ?_)))))))))))
 refine aI (bJ ty32 rfl hs1 rfl) (aI (bJ ty42 rfl aB rfl) (bdo H fun r8 h9 H => (aI (bN (c_spec_l21Fits v0 (x_v0.1, x_v0.2.1, x_v0.2.2.1, ()) v1 x_v1 h9) rfl (aC (aL (aS aR.s.s.s.s)) (aC (aL aR.s.s.s.s.s.s) (aC (aL (aS aR.s.s.s)) (aC (aL (aS aR.s.s)) (aC (aL (aS aR.s)) (aC (aL (aS aR)) (aC (aL aR.s.s.s.s.s.s.s.s.s.s.s) aO)))))))) (aG (cW rfl) (nl (cH H rfl (fun h10 H => ?_) (fun h10 H => ?_)))))))
 ·refine sr (f2 (e_lit0 Step eB ty111) fun a11 c12 => (aH rfl (nl (Tr.freeze (.cons aA .nil) (bQ (rT (?_)))))))
  obtain rfl := si H
  exact back1 (a11, c12) rfl (ResV.tmp (v := .slice a11 (([] : List Step).length) c12) rfl) rfl (cL aR cM) bK
 ·refine bH (nT (sr (aI (bJ ty32 rfl hs1 rfl) (aI (bJ ty42 rfl aB rfl) (bdo H fun r13 h14 H => (f1 (e_call (c_spec_l21Flush v0 (x_v0.1, x_v0.2.1, x_v0.2.2.1, ()) v1 x_v1 h14) rfl (cL (aS aR.s.s.s.s) (cL aR.s.s.s.s.s.s (cL (aS aR.s.s.s) (cL (aS aR.s.s) (cL (aS aR.s) (cL (aS aR) (cL aR.s.s.s.s.s.s.s.s.s.s.s cM))))))) bK) fun x15 => (aH rfl (nl (bQ ?_)))))))))
  obtain rfl := si H
  exact back1 x15 rfl (ResV.tmp (v := .slice x15.1 r13.length x15.2) rfl) rfl (cL aR cM) bK
noncomputable def p_slices_Equal_Row_Row_b0 (v0 : (List Row)) (v1 : (List Row)) (Q6 : Int) : Option ((Int) ⊕ (Unit ⊕ Bool)) := cond (decide (Q6 < (v0.length : Int))) (gd (ix Q6 v0.length) <| gd (ix Q6 v1.length) <| cond (!decide (nth v0 Q6.toNat = nth v1 Q6.toNat)) (some (.inr (.inr false))) (gd (I64 (Q6 + 1)) <| some (.inl (Q6 + 1)))) (some (.inr (.inl ())))
noncomputable def p_slices_Equal_Row_Row (v0 : (List Row)) (v1 : (List Row)) : Option (Bool) := cond (!decide ((v0.length : Int) = (v1.length : Int))) (some false) (bd (lp (p_slices_Equal_Row_Row_b0 v0 v1) 0) <| sw (fun _ => some true) (fun q => some q))
theorem c_slices_Equal_Row_Row {r : Bool} (v0 : (List Row)) (x_v0 : Option Addr × Nat) (v1 : (List Row)) (x_v1 : Option Addr × Nat) (H : p_slices_Equal_Row_Row v0 v1 = some r) : Fn' prog 182 #[.slice x_v0.1 v0.length x_v0.2, .slice x_v1.1 v1.length x_v1.2] [imm (.slice x_v0.1 v0.length x_v0.2) v0, imm (.slice x_v1.1 v1.length x_v1.2) v1] [] (ι := Unit) (fun _ => .bool (r)) (fun _ => []) (fun _ => []) := by
 refine cof (args := [_, _]) func182 ntmps182 fun c => ?_
 unfold p_slices_Equal_Row_Row at H
 refine sr (aH (v := .bool (false)) rfl (nl (aD (sr (aF rfl (aG (bS 135 dL rfl) (aF rfl (aG (bS 135 dL rfl) (aG (cS rfl rfl) (nl (cH H rfl (fun h1 H => ?_) (fun h1 H => ?_))))))))))))
 ·refine sr (aH (v := .bool (false)) rfl (nl (bQ (rT (?_)))))
  obtain rfl := si H
  exact bk
 ·refine bH (nT (aD (sr (aF rfl (aG (bS 135 dL rfl) (aF (v := .int .i64 (0)) rfl (nl (bdo H fun x2 hx3 H => (dC (Λ := Unit) H (fun _ _ => []) (fun _ _ => []) ?_ ?_)))))))))
  ·refine aQ (dE hx3 () (fun Q6 _ => [(0, .slice x_v0.1 v0.length x_v0.2), (1, .slice x_v1.1 v1.length x_v1.2), (12, .int .i64 ((v0.length : Int))), (13, .int .i64 (Q6))]) (fun _ _ => []) bK ?_)
   rintro _ Q6 z7 t9 H1 hi10 hb11
   unfold p_slices_Equal_Row_Row_b0 at H1
   refine sr (aG (cQ rfl rfl) (nl (aD (cH H1 rfl (fun h14 H1 => ?_) (fun h14 H1 => ?_)))))
   ·refine bH (nT (aD (aQ (sr (aF rfl (aH rfl (nl (aD (dF [(5, .int .i64 (Q6)), (0, .slice x_v0.1 v0.length x_v0.2), (1, .slice x_v1.1 v1.length x_v1.2), (12, .int .i64 ((v0.length : Int))), (13, .int .i64 (Q6))] mixed (.inr (by kernel_rfl)) ⟨rfl, rfl, rfl, rfl, rfl, trivial⟩ rfl (bB rfl (bB rfl ?_)))))))))))
    refine gdo H1 fun h15 H1 => (aZ (bW dL ty135 rfl rfl h15 rfl (aN (aL aR))) (aZ (v := .agg #[.int .i64 ((nth v0 Q6.toNat).1), .int .i64 ((nth v0 Q6.toNat).2)]) (cA (i := Q6.toNat) ty135 rfl (aN (aL aR)) h15.lt) (bB rfl (bB rfl (gdo H1 fun h16 H1 => (aZ (bW dL ty135 rfl rfl h16 rfl (aN (aL aR.s))) (aZ (v := .agg #[.int .i64 ((nth v1 Q6.toNat).1), .int .i64 ((nth v1 Q6.toNat).2)]) (cA (i := Q6.toNat) ty135 rfl (aN (aL aR.s)) h16.lt) (aX (v := .bool (!decide (nth v0 Q6.toNat = nth v1 Q6.toNat))) (p_aneq (a := nth v0 Q6.toNat) (b := nth v1 Q6.toNat) ae135 rfl rfl rfl rfl) (nT (?_))))))))))
    refine cH H1 rfl (fun h17 H1 => ?_) (fun h17 H1 => ?_)
    ·refine sr (aH (v := .bool (false)) rfl (nl (bQ (rB (rT (rT (rB (rT (rT (?_))))))))))
     obtain rfl := hb11 _ (sm H1)
     replace H := sw.r H
     obtain rfl := si H
     exact bk
    ·exact bH (nB (nT (aP (gdo H1 fun h18 H1 => (aG (bR rfl rfl h18) (aF rfl (aJ (nLI () (hi10 _ (sm H1)) bK))))))))
   ·exact dA (xT (xT (xE (nMI () (hb11 _ (sm H1)) bK))))
  ·rintro e19 y8 H
   refine nT (sr (aH (v := .bool (true)) rfl (nl ?_)))
   obtain rfl := si H
   exact bQ bk
noncomputable def p_slices_EqualFunc_Row_Row_Row_Row_slices_Equal_Row_Row_b0 (v0 : (List (List Row))) (v1 : (List (List Row))) (Q8 : Int) : Option ((Int) ⊕ (Unit ⊕ Bool)) := cond (decide (Q8 < (v0.length : Int))) (gd (ix Q8 v0.length) <| gd (ix Q8 v1.length) <| bd (p_slices_Equal_Row_Row (nth v0 Q8.toNat) (nth v1 Q8.toNat)) fun r19 => cond (!r19) (some (.inr (.inr false))) (gd (I64 (Q8 + 1)) <| some (.inl (Q8 + 1)))) (some (.inr (.inl ())))
noncomputable def p_slices_EqualFunc_Row_Row_Row_Row_slices_Equal_Row_Row (v0 : (List (List Row))) (v1 : (List (List Row))) : Option (Bool) := cond (!decide ((v0.length : Int) = (v1.length : Int))) (some false) (bd (lp (p_slices_EqualFunc_Row_Row_Row_Row_slices_Equal_Row_Row_b0 v0 v1) 0) <| sw (fun _ => some true) (fun q => some q))
theorem c_slices_EqualFunc_Row_Row_Row_Row_slices_Equal_Row_Row {r : Bool} (v0 : (List (List Row))) (x_v0 : Option Addr × Nat) (v1 : (List (List Row))) (x_v1 : Option Addr × Nat) (H : p_slices_EqualFunc_Row_Row_Row_Row_slices_Equal_Row_Row v0 v1 = some r) : Fn' prog 181 #[.slice x_v0.1 v0.length x_v0.2, .slice x_v1.1 v1.length x_v1.2, .func (.func 182) #[] #[]] [imm (.slice x_v0.1 v0.length x_v0.2) v0, imm (.slice x_v1.1 v1.length x_v1.2) v1] [] (ι := Unit) (fun _ => .bool (r)) (fun _ => []) (fun _ => []) := by
 refine cof (args := [_, _, _]) func181 ntmps181 fun c => ?_
 unfold p_slices_EqualFunc_Row_Row_Row_Row_slices_Equal_Row_Row at H
 refine bM aR fun X1 => (bM aR.s.s fun X2 => (sr (aH (v := .bool (false)) rfl (nl (aD (sr (aF rfl (aG (bS 130 eC rfl) (aF rfl (aG (bS 130 eC rfl) (aG (cS rfl rfl) (nl ?_))))))))))))
 refine cH H rfl (fun h3 H => ?_) (fun h3 H => ?_)
 ·refine sr (aH (v := .bool (false)) rfl (nl (bQ (rT (?_)))))
  obtain rfl := si H
  exact bk
 ·refine bH (nT (aD (sr (aF rfl (aG (bS 130 eC rfl) (aF (v := .int .i64 (0)) rfl (nl (bdo H fun x4 hx5 H => (dC (Λ := Unit) H (fun _ _ => []) (fun _ _ => []) ?_ ?_)))))))))
  ·refine aQ (dE hx5 () (fun Q8 _ => [(1, .slice x_v1.1 v1.length x_v1.2), (2, .func (.func 182) #[] #[]), (15, .slice x_v0.1 v0.length x_v0.2), (16, .int .i64 ((v0.length : Int))), (17, .int .i64 (Q8))]) (fun _ _ => []) bK ?_)
   rintro _ Q8 z9 t11 H1 hi12 hb13
   unfold p_slices_EqualFunc_Row_Row_Row_Row_slices_Equal_Row_Row_b0 at H1
   refine sr (aG (cQ rfl rfl) (nl (aD (cH H1 rfl (fun h16 H1 => ?_) (fun h16 H1 => ?_)))))
   ·refine bH (nT (aD (aQ (sr (aF rfl (gdo H1 fun h17 H1 => (aI (bW eC ty130 rfl rfl h17 rfl (aL (aT aR.s))) (aI (bZ (i := Q8.toNat) (j := 0) ty130 rfl (aL (aT aR.s)) h17.lt rfl) (aH rfl (aH rfl (nl ?_)))))))))))
    refine sr (aF rfl (aF rfl (gdo H1 fun h18 H1 => (aI (bW eC ty130 rfl rfl h18 rfl (aL (aT aR))) (aI (bZ (i := Q8.toNat) (j := 0) ty130 rfl (aL (aT aR)) h18.lt rfl) (aH rfl (nl (sr (aF rfl (aF rfl ?_))))))))))
    refine aF rfl (bdo H1 fun r19 h20 H1 => (aI (v := .bool (r19)) (Ex.dyn (caps := []) (vs := [.slice ((X1 Q8.toNat).1) ((nth v0 Q8.toNat).length) ((X1 Q8.toNat).2.1), .slice ((X2 Q8.toNat).1) ((nth v1 Q8.toNat).length) ((X2 Q8.toNat).2.1)]) rfl rfl (bN (c_slices_Equal_Row_Row (nth v0 Q8.toNat) ((X1 Q8.toNat).1, (X1 Q8.toNat).2.1) (nth v1 Q8.toNat) ((X2 Q8.toNat).1, (X2 Q8.toNat).2.1) h20) rfl (aC (aL (aS (aW aR.s h17.lt))) (aC (aL (aS (aW aR h18.lt))) aO)))) (aG (cW rfl) (nl (cH H1 rfl (fun h21 H1 => ?_) (fun h21 H1 => ?_))))))
    ·refine sr (aH (v := .bool (false)) rfl (nl (bQ (rB (rT (rT (rB (rT (rT (?_))))))))))
     obtain rfl := hb13 _ (sm H1)
     replace H := sw.r H
     obtain rfl := si H
     exact bk
    ·exact bH (nB (nT (aP (gdo H1 fun h22 H1 => (aG (bR rfl rfl h22) (aF rfl (aJ (nLI () (hi12 _ (sm H1)) bK))))))))
   ·exact dA (xT (xT (xE (nMI () (hb13 _ (sm H1)) bK))))
  ·rintro e23 y10 H
   refine nT (sr (aH (v := .bool (true)) rfl (nl ?_)))
   obtain rfl := si H
   exact bQ bk
noncomputable def p_impl_samePart (v0 : Part) (v1 : Part) : Option (Bool) := bd (bd (p_slices_Equal_int_int v0.1 v1.1) fun r7 => cond (r7) (bd (p_slices_EqualFunc_Row_Row_Row_Row_slices_Equal_Row_Row v0.2 v1.2) fun r10 => some (r10)) (some (false))) fun b5 => some b5
theorem c_impl_samePart {r : Bool} (v0 : Part) (x_v0 : (Option Addr × Nat) × (Option Addr × Nat)) (v1 : Part) (x_v1 : (Option Addr × Nat) × (Option Addr × Nat)) (H : p_impl_samePart v0 v1 = some r) : Fn' prog 140 #[.agg #[.slice x_v0.1.1 v0.1.length x_v0.1.2, .slice x_v0.2.1 v0.2.length x_v0.2.2], .agg #[.slice x_v1.1.1 v1.1.length x_v1.1.2, .slice x_v1.2.1 v1.2.length x_v1.2.2]] [imm (.slice x_v0.1.1 v0.1.length x_v0.1.2) v0.1, imm (.slice x_v0.2.1 v0.2.length x_v0.2.2) v0.2, imm (.slice x_v1.1.1 v1.1.length x_v1.1.2) v1.1, imm (.slice x_v1.2.1 v1.2.length x_v1.2.2) v1.2] [] (ι := Unit) (fun _ => .bool (r)) (fun _ => []) (fun _ => []) := by
 refine cof (args := [_, _]) func140 ntmps140 fun c => ?_
 unfold p_impl_samePart at H
 refine bM aR.s fun X1 => (bM aR.s.s.s.s fun X2 => (sr (f1 (cC (t := 75) rfl) fun g3 => (f1 (cC (t := 75) rfl) fun g4 => (aH (v := .bool (false)) rfl (nl (bdo H fun b5 j6 H => (dD [(4, .bool (b5))] ?_ ?_))))))))
 ·refine dH [(3, .pointer (some ⟨g4, 0, none⟩)), (2, .pointer (some ⟨g3, 0, none⟩))] ⟨rfl, rfl, trivial⟩ (aX (cB fa75_0 rfl rfl) (aZ (bI ty23 rfl hs1 rfl) (aX (cB fa75_0 rfl rfl) (aZ (bI ty23 rfl aB rfl) (bdo j6 fun r7 h8 j6 => (aZ (bN (c_slices_Equal_int_int v0.1 x_v0.1 v1.1 x_v1.1 h8) rfl (aC (aL aR.s.s) (aC (aL aR.s.s.s.s) aO))) ?_))))))
  rcases aK (r7) with h9 | h9
  ·have j6 := cdT h9 j6
   refine bC (aE rfl) h9 (aY rfl (cB fa75_1 rfl rfl) (bA rfl (bI ty73 rfl hs1 rfl) (aY rfl (cB fa75_1 rfl rfl) (bA rfl (bI ty73 rfl aB rfl) (bdo j6 fun r10 h11 j6 => (bA rfl (bN (c_slices_EqualFunc_Row_Row_Row_Row_slices_Equal_Row_Row v0.2 x_v0.2 v1.2 x_v1.2 h11) rfl (aC (aL (aS aR.s)) (aC (aL (aS aR)) aO))) (aX (bP rfl rfl) (aX (p_assign rfl) ?_))))))))
   obtain rfl := si j6
   show At _ _ _ _ _ _
   exact n1 ⟨rfl, trivial⟩
  ·have j6 := cdF h9 j6
   refine bC (aE rfl) h9 ?_
   iterate 5 refine bE rfl ?_
   refine aX (v := .bool (false)) (bO rfl rfl) (aX (v := .bool (false)) (p_assign rfl) ?_)
   obtain rfl := si j6
   show At _ _ _ _ _ _
   exact n1 ⟨rfl, trivial⟩
 obtain rfl := si H
 exact bQ bk
noncomputable def p_slices_EqualFunc_Part_Part_Part_Part_samePart_b0 (v0 : (List Part)) (v1 : (List Part)) (Q8 : Int) : Option ((Int) ⊕ (Unit ⊕ Bool)) := cond (decide (Q8 < (v0.length : Int))) (gd (ix Q8 v0.length) <| gd (ix Q8 v1.length) <| bd (p_impl_samePart (nth v0 Q8.toNat) (nth v1 Q8.toNat)) fun r21 => cond (!r21) (some (.inr (.inr false))) (gd (I64 (Q8 + 1)) <| some (.inl (Q8 + 1)))) (some (.inr (.inl ())))
noncomputable def p_slices_EqualFunc_Part_Part_Part_Part_samePart (v0 : (List Part)) (v1 : (List Part)) : Option (Bool) := cond (!decide ((v0.length : Int) = (v1.length : Int))) (some false) (bd (lp (p_slices_EqualFunc_Part_Part_Part_Part_samePart_b0 v0 v1) 0) <| sw (fun _ => some true) (fun q => some q))
theorem c_slices_EqualFunc_Part_Part_Part_Part_samePart {r : Bool} (v0 : (List Part)) (x_v0 : Option Addr × Nat) (v1 : (List Part)) (x_v1 : Option Addr × Nat) (H : p_slices_EqualFunc_Part_Part_Part_Part_samePart v0 v1 = some r) : Fn' prog 139 #[.slice x_v0.1 v0.length x_v0.2, .slice x_v1.1 v1.length x_v1.2, .func (.func 140) #[] #[]] [imm (.slice x_v0.1 v0.length x_v0.2) v0, imm (.slice x_v1.1 v1.length x_v1.2) v1] [] (ι := Unit) (fun _ => .bool (r)) (fun _ => []) (fun _ => []) := by
 refine cof (args := [_, _, _]) func139 ntmps139 fun c => ?_
 unfold p_slices_EqualFunc_Part_Part_Part_Part_samePart at H
 refine bM aR fun X1 => (bM aR.s.s fun X2 => (sr (aH (v := .bool (false)) rfl (nl (aD (sr (aF rfl (aG (bS 75 dW rfl) (aF rfl (aG (bS 75 dW rfl) (aG (cS rfl rfl) (nl ?_))))))))))))
 refine cH H rfl (fun h3 H => ?_) (fun h3 H => ?_)
 ·refine sr (aH (v := .bool (false)) rfl (nl (bQ (rT (?_)))))
  obtain rfl := si H
  exact bk
 ·refine bH (nT (aD (sr (aF rfl (aG (bS 75 dW rfl) (aF (v := .int .i64 (0)) rfl (nl (bdo H fun x4 hx5 H => (dC (Λ := Unit) H (fun _ _ => []) (fun _ _ => []) ?_ ?_)))))))))
  ·refine aQ (dE hx5 () (fun Q8 _ => [(1, .slice x_v1.1 v1.length x_v1.2), (2, .func (.func 140) #[] #[]), (15, .slice x_v0.1 v0.length x_v0.2), (16, .int .i64 ((v0.length : Int))), (17, .int .i64 (Q8))]) (fun _ _ => []) bK ?_)
   rintro _ Q8 z9 t11 H1 hi12 hb13
   unfold p_slices_EqualFunc_Part_Part_Part_Part_samePart_b0 at H1
   refine sr (aG (cQ rfl rfl) (nl (aD (cH H1 rfl (fun h16 H1 => ?_) (fun h16 H1 => ?_)))))
   ·refine bH (nT (aD (aQ (sr (aF rfl (gdo H1 fun h17 H1 => (aI (bW dW ty75 rfl rfl h17 rfl (aL (aT aR.s))) (aI (v := .agg #[.slice (((X1 Q8.toNat).1).1) (((nth v0 Q8.toNat).1).length) (((X1 Q8.toNat).1).2.1), .slice (((X1 Q8.toNat).2).1) (((nth v0 Q8.toNat).2).length) (((X1 Q8.toNat).2).2.1)]) (cA (i := Q8.toNat) ty75 rfl (aL (aT aR.s)) h17.lt) (f1 (cD ty75) fun g18 => (aH rfl ?_))))))))))
    refine stb (cs' := [.slice (((X1 Q8.toNat).1).1) (((nth v0 Q8.toNat).1).length) (((X1 Q8.toNat).1).2.1), .slice (((X1 Q8.toNat).2).1) (((nth v0 Q8.toNat).2).length) (((X1 Q8.toNat).2).2.1)]) ty75 cZ (nl (sr (aF rfl (aF rfl (gdo H1 fun h19 H1 => (aI (bW dW ty75 rfl rfl h19 rfl (aL (aT aR))) (aI (v := .agg #[.slice (((X2 Q8.toNat).1).1) (((nth v1 Q8.toNat).1).length) (((X2 Q8.toNat).1).2.1), .slice (((X2 Q8.toNat).2).1) (((nth v1 Q8.toNat).2).length) (((X2 Q8.toNat).2).2.1)]) (cA (i := Q8.toNat) ty75 rfl (aL (aT aR)) h19.lt) (f1 (cD ty75) fun g20 => (stb (cs' := [.slice (((X2 Q8.toNat).1).1) (((nth v1 Q8.toNat).1).length) (((X2 Q8.toNat).1).2.1), .slice (((X2 Q8.toNat).2).1) (((nth v1 Q8.toNat).2).length) (((X2 Q8.toNat).2).2.1)]) ty75 cZ ?_)))))))))
    refine nl (sr (aF rfl (aI (bJ ty75 rfl hs1 rfl) (aI (bJ ty75 rfl aB rfl) (bdo H1 fun r21 h22 H1 => (aI (v := .bool (r21)) (Ex.dyn (caps := []) (vs := [.agg #[.slice (((X1 Q8.toNat).1).1) (((nth v0 Q8.toNat).1).length) (((X1 Q8.toNat).1).2.1), .slice (((X1 Q8.toNat).2).1) (((nth v0 Q8.toNat).2).length) (((X1 Q8.toNat).2).2.1)], .agg #[.slice (((X2 Q8.toNat).1).1) (((nth v1 Q8.toNat).1).length) (((X2 Q8.toNat).1).2.1), .slice (((X2 Q8.toNat).2).1) (((nth v1 Q8.toNat).2).length) (((X2 Q8.toNat).2).2.1)]]) rfl rfl (bN (c_impl_samePart (nth v0 Q8.toNat) ((((X1 Q8.toNat).1).1, ((X1 Q8.toNat).1).2.1), (((X1 Q8.toNat).2).1, ((X1 Q8.toNat).2).2.1)) (nth v1 Q8.toNat) ((((X2 Q8.toNat).1).1, ((X2 Q8.toNat).1).2.1), (((X2 Q8.toNat).2).1, ((X2 Q8.toNat).2).2.1)) h22) rfl (aC (aL (aS (aV (aW aR.s h17.lt)))) (aC (aL (aS (aU (aW aR.s h17.lt)))) (aC (aL (aS (aV (aW aR h19.lt)))) (aC (aL (aS (aU (aW aR h19.lt)))) aO)))))) (aG (cW rfl) (nl (cH H1 rfl (fun h23 H1 => ?_) (fun h23 H1 => ?_))))))))))
    ·refine sr (aH (v := .bool (false)) rfl (nl (bQ (rB (rT (rT (rB (rT (rT (?_))))))))))
     obtain rfl := hb13 _ (sm H1)
     replace H := sw.r H
     obtain rfl := si H
     exact bk
    ·exact bH (nB (nT (aP (gdo H1 fun h24 H1 => (aG (bR rfl rfl h24) (aF rfl (aJ (nLI () (hi12 _ (sm H1)) bK))))))))
   ·exact dA (xT (xT (xE (nMI () (hb13 _ (sm H1)) bK))))
  ·rintro e25 y10 H
   refine nT (sr (aH (v := .bool (true)) rfl (nl ?_)))
   obtain rfl := si H
   exact bQ bk
noncomputable def p_slices_EqualFunc_Tag_Tag_Tag_Tag_slices_Equal_Tag_Tag_b0 (v0 : (List (List Tag))) (v1 : (List (List Tag))) (Q8 : Int) : Option ((Int) ⊕ (Unit ⊕ Bool)) := cond (decide (Q8 < (v0.length : Int))) (gd (ix Q8 v0.length) <| gd (ix Q8 v1.length) <| bd (p_slices_Equal_Tag_Tag (nth v0 Q8.toNat) (nth v1 Q8.toNat)) fun r19 => cond (!r19) (some (.inr (.inr false))) (gd (I64 (Q8 + 1)) <| some (.inl (Q8 + 1)))) (some (.inr (.inl ())))
noncomputable def p_slices_EqualFunc_Tag_Tag_Tag_Tag_slices_Equal_Tag_Tag (v0 : (List (List Tag))) (v1 : (List (List Tag))) : Option (Bool) := cond (!decide ((v0.length : Int) = (v1.length : Int))) (some false) (bd (lp (p_slices_EqualFunc_Tag_Tag_Tag_Tag_slices_Equal_Tag_Tag_b0 v0 v1) 0) <| sw (fun _ => some true) (fun q => some q))
theorem c_slices_EqualFunc_Tag_Tag_Tag_Tag_slices_Equal_Tag_Tag {r : Bool} (v0 : (List (List Tag))) (x_v0 : Option Addr × Nat) (v1 : (List (List Tag))) (x_v1 : Option Addr × Nat) (H : p_slices_EqualFunc_Tag_Tag_Tag_Tag_slices_Equal_Tag_Tag v0 v1 = some r) : Fn' prog 141 #[.slice x_v0.1 v0.length x_v0.2, .slice x_v1.1 v1.length x_v1.2, .func (.func 142) #[] #[]] [imm (.slice x_v0.1 v0.length x_v0.2) v0, imm (.slice x_v1.1 v1.length x_v1.2) v1] [] (ι := Unit) (fun _ => .bool (r)) (fun _ => []) (fun _ => []) := by
 refine cof (args := [_, _, _]) func141 ntmps141 fun c => ?_
 unfold p_slices_EqualFunc_Tag_Tag_Tag_Tag_slices_Equal_Tag_Tag at H
 refine bM aR fun X1 => (bM aR.s.s fun X2 => (sr (aH (v := .bool (false)) rfl (nl (aD (sr (aF rfl (aG (bS 142 dU rfl) (aF rfl (aG (bS 142 dU rfl) (aG (cS rfl rfl) (nl ?_))))))))))))
 refine cH H rfl (fun h3 H => ?_) (fun h3 H => ?_)
 ·refine sr (aH (v := .bool (false)) rfl (nl (bQ (rT (?_)))))
  obtain rfl := si H
  exact bk
 ·refine bH (nT (aD (sr (aF rfl (aG (bS 142 dU rfl) (aF (v := .int .i64 (0)) rfl (nl (bdo H fun x4 hx5 H => (dC (Λ := Unit) H (fun _ _ => []) (fun _ _ => []) ?_ ?_)))))))))
  ·refine aQ (dE hx5 () (fun Q8 _ => [(1, .slice x_v1.1 v1.length x_v1.2), (2, .func (.func 142) #[] #[]), (15, .slice x_v0.1 v0.length x_v0.2), (16, .int .i64 ((v0.length : Int))), (17, .int .i64 (Q8))]) (fun _ _ => []) bK ?_)
   rintro _ Q8 z9 t11 H1 hi12 hb13
   unfold p_slices_EqualFunc_Tag_Tag_Tag_Tag_slices_Equal_Tag_Tag_b0 at H1
   refine sr (aG (cQ rfl rfl) (nl (aD (cH H1 rfl (fun h16 H1 => ?_) (fun h16 H1 => ?_)))))
   ·refine bH (nT (aD (aQ (sr (aF rfl (gdo H1 fun h17 H1 => (aI (bW dU ty142 rfl rfl h17 rfl (aL (aT aR.s))) (aI (bZ (i := Q8.toNat) (j := 0) ty142 rfl (aL (aT aR.s)) h17.lt rfl) (aH rfl (aH rfl (nl ?_)))))))))))
    refine sr (aF rfl (aF rfl (gdo H1 fun h18 H1 => (aI (bW dU ty142 rfl rfl h18 rfl (aL (aT aR))) (aI (bZ (i := Q8.toNat) (j := 0) ty142 rfl (aL (aT aR)) h18.lt rfl) (aH rfl (nl (sr (aF rfl (aF rfl ?_))))))))))
    refine aF rfl (bdo H1 fun r19 h20 H1 => (aI (v := .bool (r19)) (Ex.dyn (caps := []) (vs := [.slice ((X1 Q8.toNat).1) ((nth v0 Q8.toNat).length) ((X1 Q8.toNat).2.1), .slice ((X2 Q8.toNat).1) ((nth v1 Q8.toNat).length) ((X2 Q8.toNat).2.1)]) rfl rfl (bN (c_slices_Equal_Tag_Tag (nth v0 Q8.toNat) ((X1 Q8.toNat).1, (X1 Q8.toNat).2.1) (nth v1 Q8.toNat) ((X2 Q8.toNat).1, (X2 Q8.toNat).2.1) h20) rfl (aC (aL (aS (aW aR.s h17.lt))) (aC (aL (aS (aW aR h18.lt))) aO)))) (aG (cW rfl) (nl (cH H1 rfl (fun h21 H1 => ?_) (fun h21 H1 => ?_))))))
    ·refine sr (aH (v := .bool (false)) rfl (nl (bQ (rB (rT (rT (rB (rT (rT (?_))))))))))
     obtain rfl := hb13 _ (sm H1)
     replace H := sw.r H
     obtain rfl := si H
     exact bk
    ·exact bH (nB (nT (aP (gdo H1 fun h22 H1 => (aG (bR rfl rfl h22) (aF rfl (aJ (nLI () (hi12 _ (sm H1)) bK))))))))
   ·exact dA (xT (xT (xE (nMI () (hb13 _ (sm H1)) bK))))
  ·rintro e23 y10 H
   refine nT (sr (aH (v := .bool (true)) rfl (nl ?_)))
   obtain rfl := si H
   exact bQ bk
noncomputable def p_impl_matches (v0 : Store) (v1 : Disk) : Option (Bool) := bd (p_impl_StoreOk v0) fun r8 => cond (!r8) (some false) (bd (p_impl_DiskOk v1) fun r11 => cond (!r11) (some false) (bd (p_impl_Disk_open v1) fun r14 => bd (p_slices_EqualFunc_Part_Part_Part_Part_samePart v0.2.1 r14.2.1) fun r17 => cond (!r17) (some false) (bd (cond (decide ((v1.2.2.1.length : Int) ≤ (v0.1.1.length : Int))) (gd (sl2 0 (v1.2.2.1.length : Int) v0.1.1.length) <| bd (p_slices_EqualFunc_Tag_Tag_Tag_Tag_slices_Equal_Tag_Tag v1.2.2.1 ((v0.1.1.take (v1.2.2.1.length : Int).toNat).drop 0)) fun r24 => some (r24)) (some (false))) fun b20 => some b20)))
theorem c_impl_matches {r : Bool} (v0 : Store) (x_v0 : ((Option Addr × Nat) × (Option Addr × Nat)) × (Option Addr × Nat) × (Option Addr × Nat)) (v1 : Disk) (x_v1 : (Option Addr × Nat) × (Option Addr × Nat) × (Option Addr × Nat) × Unit) (H : p_impl_matches v0 v1 = some r) : Fn' prog 85 #[.agg #[.slice x_v0.1.1.1 v0.1.1.length x_v0.1.1.2, .slice x_v0.1.2.1 v0.1.2.length x_v0.1.2.2, .slice x_v0.2.1.1 v0.2.1.length x_v0.2.1.2, .slice x_v0.2.2.1 v0.2.2.length x_v0.2.2.2], .agg #[.slice x_v1.1.1 v1.1.length x_v1.1.2, .slice x_v1.2.1.1 v1.2.1.length x_v1.2.1.2, .slice x_v1.2.2.1.1 v1.2.2.1.length x_v1.2.2.1.2, .int .i64 (v1.2.2.2)]] [imm (.slice x_v0.1.1.1 v0.1.1.length x_v0.1.1.2) v0.1.1, imm (.slice x_v0.1.2.1 v0.1.2.length x_v0.1.2.2) v0.1.2, imm (.slice x_v0.2.1.1 v0.2.1.length x_v0.2.1.2) v0.2.1, imm (.slice x_v0.2.2.1 v0.2.2.length x_v0.2.2.2) v0.2.2, imm (.slice x_v1.1.1 v1.1.length x_v1.1.2) v1.1, imm (.slice x_v1.2.1.1 v1.2.1.length x_v1.2.1.2) v1.2.1, imm (.slice x_v1.2.2.1.1 v1.2.2.1.length x_v1.2.2.1.2) v1.2.2.1] [] (ι := Unit) (fun _ => .bool (r)) (fun _ => []) (fun _ => []) := by
 refine cof (args := [_, _]) func85 ntmps85 fun c => ?_
 unfold p_impl_matches at H
 refine bM aR fun X1 => (bM aR.s.s fun X2 => (bM aR.s.s.s.s fun X3 => (bM aR.s.s.s.s.s.s.s fun X4 => (bM aR.s.s.s.s.s.s.s.s.s.s fun X5 => (sr (f1 (cC (t := 42) rfl) fun g6 => (f1 (cC (t := 32) rfl) fun g7 => (aH (v := .bool (false)) rfl (nl (aD ?_))))))))))
 refine aD (bdo H fun r8 h9 H => ?_)
 rcases aK (!r8) with h10 | h10
 ·have H := cdT h10 H
  refine dG [(3, .pointer (some ⟨g7, 0, none⟩)), (2, .pointer (some ⟨g6, 0, none⟩))] 1 [0, 1, 2, 3, 4, 5, 6, 7, 8, 9, 10, 11, 12, 13, 14, 15, 16] [] [] mixed (by kernel_rfl) (by decide) dI ⟨rfl, rfl, trivial⟩ rfl okNil ?_
  refine w_o rfl (fun F => (bJ ty42 rfl (hs1.app F) rfl)) ?_
  refine w_o rfl (fun F => (bN (c_impl_StoreOk v0 x_v0 h9) rfl (aC (aL (aS aR.s.s.s.s)) (aC (aL (aS aR.s.s.s)) (aC (aL (aS aR.s.s)) (aC (aL aR.s.s.s.s.s.s.s.s) aO)))))) (w_p rfl (cW rfl) (w_p (v := .bool (true)) rfl ((cP (v := .bool (!r8)) (aE rfl) (congrArg Value.bool h10))) (cI rfl (by decide) rfl rfl rfl (cI rfl (by decide) rfl rfl rfl (cI rfl (by decide) rfl rfl rfl (w_p (v := .bool (true)) rfl (bP rfl rfl) (w_p (v := .bool (true)) rfl (aE rfl) (cI rfl (by decide) rfl rfl rfl (cI rfl (by decide) rfl rfl rfl ?_)))))))))
  refine cI rfl (by decide) rfl rfl rfl (cI rfl (by decide) rfl rfl rfl (cI rfl (by decide) rfl rfl rfl (cI rfl (by decide) rfl rfl rfl (cI rfl (by decide) rfl rfl rfl (w_p (v := .bool (true)) rfl (bP rfl rfl) (cK (nT (Tr.condT rfl (sr ?_)))))))))
  refine aH (v := .bool (false)) rfl (nl (bQ (rT (?_))))
  obtain rfl := si H
  exact bk
 ·have H := cdF h10 H
  refine bdo H fun r11 h12 H => ?_
  rcases aK (!r11) with h13 | h13
  ·have H := cdT h13 H
   refine dG [(3, .pointer (some ⟨g7, 0, none⟩)), (2, .pointer (some ⟨g6, 0, none⟩))] 1 [0, 1, 2, 3, 4, 5, 6, 7, 8, 9, 10, 11, 12, 13, 14, 15, 16] [] [] mixed (by kernel_rfl) (by decide) dI ⟨rfl, rfl, trivial⟩ rfl okNil ?_
   refine w_o rfl (fun F => (bJ ty42 rfl (hs1.app F) rfl)) ?_
   refine w_o rfl (fun F => (bN (c_impl_StoreOk v0 x_v0 h9) rfl (aC (aL (aS aR.s.s.s.s)) (aC (aL (aS aR.s.s.s)) (aC (aL (aS aR.s.s)) (aC (aL aR.s.s.s.s.s.s.s.s) aO)))))) (w_p rfl (cW rfl) (w_p (v := .bool (false)) rfl ((cP (v := .bool (!r8)) (aE rfl) (congrArg Value.bool h10))) ?_))
   refine w_o rfl (fun F => (bJ ty32 rfl (aB.app F) rfl)) ?_
   refine w_o rfl (fun F => (bN (c_impl_DiskOk v1 (x_v1.1, x_v1.2.1, x_v1.2.2.1, ()) h12) rfl (aC (aL (aS aR.s)) (aC (aL aR.s.s.s.s.s.s.s.s.s.s) (aC (aL (aS aR)) aO))))) (w_p rfl (cW rfl) (w_p rfl (bO rfl rfl) (w_p (v := .bool (true)) rfl ((cP (v := .bool (!r11)) (aE rfl) (congrArg Value.bool h13))) (cI rfl (by decide) rfl rfl rfl (cI rfl (by decide) rfl rfl rfl (cI rfl (by decide) rfl rfl rfl (cI rfl (by decide) rfl rfl rfl (cI rfl (by decide) rfl rfl rfl (cI rfl (by decide) rfl rfl rfl ?_)))))))))
   refine cI rfl (by decide) rfl rfl rfl (w_p (v := .bool (true)) rfl (bP rfl rfl) (cK (nT (Tr.condT rfl (sr (aH (v := .bool (false)) rfl (nl (bQ (rT (?_))))))))))
   obtain rfl := si H
   exact bk
  ·have H := cdF h13 H
   refine dG [(3, .pointer (some ⟨g7, 0, none⟩)), (2, .pointer (some ⟨g6, 0, none⟩))] 3 [0, 1, 2, 3, 4, 5, 6, 7, 8, 9, 10, 11, 12, 13, 14, 15, 16] [12] [] mixed (by kernel_rfl) (by decide) dI ⟨rfl, rfl, trivial⟩ rfl okNil ?_
   refine w_o rfl (fun F => (bJ ty42 rfl (hs1.app F) rfl)) ?_
   refine w_o rfl (fun F => (bN (c_impl_StoreOk v0 x_v0 h9) rfl (aC (aL (aS aR.s.s.s.s)) (aC (aL (aS aR.s.s.s)) (aC (aL (aS aR.s.s)) (aC (aL aR.s.s.s.s.s.s.s.s) aO)))))) (w_p rfl (cW rfl) (w_p (v := .bool (false)) rfl ((cP (v := .bool (!r8)) (aE rfl) (congrArg Value.bool h10))) ?_))
   refine w_o rfl (fun F => (bJ ty32 rfl (aB.app F) rfl)) ?_
   refine w_o rfl (fun F => (bN (c_impl_DiskOk v1 (x_v1.1, x_v1.2.1, x_v1.2.2.1, ()) h12) rfl (aC (aL (aS aR.s)) (aC (aL aR.s.s.s.s.s.s.s.s.s.s) (aC (aL (aS aR)) aO))))) (w_p rfl (cW rfl) (w_p rfl (bO rfl rfl) (w_p (v := .bool (false)) rfl ((cP (v := .bool (!r11)) (aE rfl) (congrArg Value.bool h13))) (w_p rfl (cB fa42_1 rfl rfl) ?_))))
   refine w_o rfl (fun F => (bI ty39 rfl (hs1.app F) rfl)) ?_
   refine w_o rfl (fun F => (bJ ty32 rfl (aB.app F) rfl)) (bdo H fun r14 h15 H => (cJ rfl (by decide) rfl cN rfl (cE (c_impl_Disk_open v1 (x_v1.1, x_v1.2.1, x_v1.2.2.1, ()) h15) (fun _ => (bF (bF (bF (bF bG))))) rfl (aC (aL (aS aR.s)) (aC (aL aR.s.s.s.s.s.s.s.s.s.s) (aC (aL (aS aR)) aO)))) ?_))
   rintro _ _ _ ⟨x16, rfl, rfl, rfl⟩
   refine ⟨(aM (by kernel_rfl) (bV rfl rfl (fun F => (bI ty39 rfl (hs5.app F) rfl)) (aM (by kernel_rfl) (aM (by kernel_rfl) (bV rfl rfl (fun F => (bN (c_impl_StoreOk v0 x_v0 h9) rfl (aC (aL (aS aR.s.s.s.s)) (aC (aL (aS aR.s.s.s)) (aC (aL (aS aR.s.s)) (aC (aL aR.s.s.s.s.s.s.s.s) aO)))))) (bV rfl rfl (fun F => (bJ ty42 rfl (hs5.app F) rfl)) bU)))))), ?_⟩
   refine w_p rfl ((p_field1 underlying42 rfl ty39 rfl rfl)) (bdo H fun r17 h18 H => ?_)
   refine w_o rfl (fun F => (bN (c_slices_EqualFunc_Part_Part_Part_Part_samePart v0.2.1 x_v0.2.1 r14.2.1 x16.2.1 h18) rfl (aC (aL (aS aR.s.s)) (aC (bL (hs2.app F)) aO)))) (w_p rfl (cW rfl) (w_p rfl (bO rfl rfl) (cK (nT (cH H rfl (fun h19 H => ?_) (fun h19 H => ?_))))))
   ·refine sr (aH (v := .bool (false)) rfl (nl (bQ (rT (?_)))))
    obtain rfl := si H
    exact bk
   ·refine bH (nT (sr (aG (cB fa32_2 rfl rfl) (aI (bI ty30 rfl hs4 rfl) (aG (bS 142 dU rfl) (aH rfl (nl (bdo H fun b20 j21 H => (dD [(4, .bool (b20))] ?_ ?_)))))))))
    ·refine dF [(5, .int .i64 ((v1.2.2.1.length : Int))), (3, .pointer (some ⟨g7, 0, none⟩)), (2, .pointer (some ⟨g6, 0, none⟩))] mixed (.inr (by kernel_rfl)) ⟨rfl, rfl, rfl, trivial⟩ rfl (bB rfl (aX (cB fa42_0 rfl rfl) (aX (cB fa38_0 rfl rfl) (aZ (bI ty30 rfl hs5 rfl) (aX (bS 142 dU rfl) (aX (cU rfl rfl) ?_))))))
     rcases aK (decide ((v1.2.2.1.length : Int) ≤ (v0.1.1.length : Int))) with h22 | h22
     ·have j21 := cdT h22 j21
      refine bC (aE rfl) h22 (aY rfl (cB fa32_2 rfl rfl) (bA rfl (bI ty30 rfl hs4 rfl) (aY rfl (cB fa42_0 rfl rfl) (aY rfl (cB fa38_0 rfl rfl) (bA rfl (bI ty30 rfl hs5 rfl) (aY rfl (aE rfl) (gdo j21 fun h23 j21 => (bA (v := .slice (subA x_v0.1.1.1 x_v0.1.1.2 0 (Enc.sz (List Tag))) (((v0.1.1.take (v1.2.2.1.length : Int).toNat).drop 0).length) (x_v0.1.1.2 - 0)) rfl (q_slF (l := v0.1.1) (α := (List Tag)) 0 (v1.2.2.1.length : Int) dU ty142 rfl rfl (fun _ => rfl) rfl (fun h => nomatch h) h23 (aL (aS aR.s.s.s.s))) (bdo j21 fun r24 h25 j21 => ?_)))))))))
      refine bA rfl (bN (c_slices_EqualFunc_Tag_Tag_Tag_Tag_slices_Equal_Tag_Tag v1.2.2.1 x_v1.2.2.1 ((v0.1.1.take (v1.2.2.1.length : Int).toNat).drop 0) (subA x_v0.1.1.1 x_v0.1.1.2 0 (Enc.sz (List Tag)), (x_v0.1.1.2 - 0)) h25) rfl (aC (aL (aS aR)) (aC (aL (Ent.sub (aS aR.s.s.s.s) h23.le h23.lt)) aO))) (aX (bP rfl rfl) (aX (p_assign rfl) ?_))
      obtain rfl := si j21
      show At _ _ _ _ _ _
      exact n1 ⟨rfl, trivial⟩
     ·have j21 := cdF h22 j21
      refine bC (aE rfl) h22 ?_
      iterate 8 refine bE rfl ?_
      refine aX (v := .bool (false)) (bO rfl rfl) (aX (v := .bool (false)) (p_assign rfl) ?_)
      obtain rfl := si j21
      show At _ _ _ _ _ _
      exact n1 ⟨rfl, trivial⟩
    obtain rfl := si H
    exact bQ bk
noncomputable def p_impl_Disk_full (v0 : Disk) : Option (Bool) := bd (cond (decide (v0.2.2.2 = 999)) (some (true)) (some (decide ((v0.1.length : Int) = 20)))) fun b4 => some b4
theorem c_impl_Disk_full {r : Bool} (v0 : Disk) (x_v0 : (Option Addr × Nat) × (Option Addr × Nat) × (Option Addr × Nat) × Unit) (H : p_impl_Disk_full v0 = some r) : Fn' prog 86 #[.agg #[.slice x_v0.1.1 v0.1.length x_v0.1.2, .slice x_v0.2.1.1 v0.2.1.length x_v0.2.1.2, .slice x_v0.2.2.1.1 v0.2.2.1.length x_v0.2.2.1.2, .int .i64 (v0.2.2.2)]] [imm (.slice x_v0.1.1 v0.1.length x_v0.1.2) v0.1, imm (.slice x_v0.2.1.1 v0.2.1.length x_v0.2.1.2) v0.2.1, imm (.slice x_v0.2.2.1.1 v0.2.2.1.length x_v0.2.2.1.2) v0.2.2.1] [] (ι := Unit) (fun _ => .bool (r)) (fun _ => []) (fun _ => []) := by
 refine cof (args := [_]) func86 ntmps86 fun c => ?_
 unfold p_impl_Disk_full at H
 refine bM aR fun X1 => (bM aR.s.s.s fun X2 => (sr (f1 (cC (t := 32) rfl) fun g3 => (aH (v := .bool (false)) rfl (nl (bdo H fun b4 j5 H => (dD [(2, .bool (b4))] ?_ ?_)))))))
 ·refine dH [(1, .pointer (some ⟨g3, 0, none⟩))] ⟨rfl, trivial⟩ (aX (cB fa32_3 rfl rfl) (aZ (bI ty3 rfl aB rfl) (aX (cT rfl rfl) ?_)))
  rcases aK (decide (v0.2.2.2 = 999)) with h6 | h6
  ·have j5 := cdT h6 j5
   refine bC (aE rfl) h6 ?_
   iterate 4 refine bE rfl ?_
   refine aX (v := .bool (true)) (bP rfl rfl) (aX (v := .bool (true)) (p_assign rfl) ?_)
   obtain rfl := si j5
   show At _ _ _ _ _ _
   exact n1 ⟨rfl, trivial⟩
  ·have j5 := cdF h6 j5
   refine bC (aE rfl) h6 (aY rfl (cB fa32_0 rfl rfl) (bA rfl (bI ty29 rfl aB rfl) (aY rfl (bS 77 dS rfl) (aY rfl (cT rfl rfl) (aX (bO rfl rfl) (aX (p_assign rfl) ?_))))))
   obtain rfl := si j5
   show At _ _ _ _ _ _
   exact n1 ⟨rfl, trivial⟩
 obtain rfl := si H
 exact bQ bk
noncomputable def p_impl_Store_flushed_b0 (v0 : Store) (Q15 : (List Int) × (List (List Row)) × Int) : Option (((List Int) × (List (List Row)) × Int) ⊕ ((List Int) × (List (List Row)))) := cond (decide (Q15.2.2 ≤ 6)) (bd (p_impl_Store_rows ((([]), ([])), ([]), v0.2.2) Q15.2.2) fun r24 => cond (decide (0 < (r24.length : Int))) (gd (room (Q15.1.length + 1)) <| gd (room (Q15.2.1.length + 1)) <| gd (I64 (Q15.2.2 + 1)) <| some (.inl ((Q15.1 ++ [Q15.2.2]), (Q15.2.1 ++ [r24]), Q15.2.2 + 1))) (gd (I64 (Q15.2.2 + 1)) <| some (.inl (Q15.1, Q15.2.1, Q15.2.2 + 1)))) (some (.inr (Q15.1, Q15.2.1)))
noncomputable def p_impl_Store_flushed (v0 : Store) : Option (Part) := bd (lp (p_impl_Store_flushed_b0 v0) (([] : List Int), ([] : List (List Row)), 1)) fun x11 => some x11
theorem c_impl_Store_flushed {r : Part} (v0 : Store) (x_v0 : ((Option Addr × Nat) × (Option Addr × Nat)) × (Option Addr × Nat) × (Option Addr × Nat)) (H : p_impl_Store_flushed v0 = some r) : Fn' prog 87 #[.agg #[.slice x_v0.1.1.1 v0.1.1.length x_v0.1.1.2, .slice x_v0.1.2.1 v0.1.2.length x_v0.1.2.2, .slice x_v0.2.1.1 v0.2.1.length x_v0.2.1.2, .slice x_v0.2.2.1 v0.2.2.length x_v0.2.2.2]] [imm (.slice x_v0.1.1.1 v0.1.1.length x_v0.1.1.2) v0.1.1, imm (.slice x_v0.1.2.1 v0.1.2.length x_v0.1.2.2) v0.1.2, imm (.slice x_v0.2.1.1 v0.2.1.length x_v0.2.1.2) v0.2.1, imm (.slice x_v0.2.2.1 v0.2.2.length x_v0.2.2.2) v0.2.2] [] (ι := (Option Addr × Nat) × (Option Addr × Nat)) (fun x => .agg #[.slice x.1.1 r.1.length x.1.2, .slice x.2.1 r.2.length x.2.2]) (fun _ => []) (fun x => [tree (.slice x.1.1 r.1.length x.1.2) r.1, tree (.slice x.2.1 r.2.length x.2.2) r.2]) := by
 refine cof (args := [_]) func87 ntmps87 fun c => ?_
 unfold p_impl_Store_flushed at H
 refine bM aR fun X1 => (bM aR.s.s fun X2 => (bM aR.s.s.s.s fun X3 => (sr (f1 (cC (t := 42) rfl) fun g4 => (f1 (cD ty75) fun g5 => (nl (sr (f2 (e_lit0 Int dQ ty3) fun a6 c7 => (f2 (e_lit0 (List Row) eC ty130) fun a8 c9 => ?_)))))))))
 refine aG (v := .agg #[.slice a6 (([] : List Int).length) c7, .slice a8 (([] : List (List Row)).length) c9]) (p_buildS (vs := [(0, .slice a6 (([] : List Int).length) c7), (1, .slice a8 (([] : List (List Row)).length) c9)]) (cs := #[.slice a6 (([] : List Int).length) c7, .slice a8 (([] : List (List Row)).length) c9]) ty75 pl75 rfl rfl) (f1 (cD ty75) fun g10 => (stb (cs' := [.slice a6 (([] : List Int).length) c7, .slice a8 (([] : List (List Row)).length) c9]) ty75 cZ (nl (aD (sr (aH (v := .int .i64 (1)) rfl (nl (bdo H fun x11 hx12 H => (dB (ι := (Option Addr × Nat) × (Option Addr × Nat)) (fun ψ => [(2, .pointer (some ⟨g5, 0, none⟩)), (3, .pointer (some ⟨g10, 0, none⟩))]) (fun ψ => [box g5 75 [.slice none 0 0, .slice none 0 0], tree (.slice ψ.1.1 x11.1.length ψ.1.2) x11.1, tree (.slice ψ.2.1 x11.2.length ψ.2.2) x11.2, box g10 75 [.slice ψ.1.1 x11.1.length ψ.1.2, .slice ψ.2.1 x11.2.length ψ.2.2]]) ?_ ?_)))))))))
 ·refine aQ (dE (Λ := ((Option Addr × Nat) × (Option Addr × Nat))) hx12 ((a6, c7), (a8, c9)) (fun Q15 _ => [(1, .pointer (some ⟨g4, 0, none⟩)), (2, .pointer (some ⟨g5, 0, none⟩)), (3, .pointer (some ⟨g10, 0, none⟩)), (4, .int .i64 (Q15.2.2))]) (fun Q15 z16 => [box g4 42 [.slice x_v0.1.1.1 v0.1.1.length x_v0.1.1.2, .slice x_v0.1.2.1 v0.1.2.length x_v0.1.2.2, .slice x_v0.2.1.1 v0.2.1.length x_v0.2.1.2, .slice x_v0.2.2.1 v0.2.2.length x_v0.2.2.2], box g5 75 [.slice none 0 0, .slice none 0 0], tree (.slice z16.1.1 Q15.1.length z16.1.2) Q15.1, tree (.slice z16.2.1 Q15.2.1.length z16.2.2) Q15.2.1, box g10 75 [.slice z16.1.1 Q15.1.length z16.1.2, .slice z16.2.1 Q15.2.1.length z16.2.2]]) (.cons dl4 (.cons dl3 (.cons dl2 (.cons dl1 (.cons aA .nil))))) ?_)
  rintro _ Q15 z16 t18 H1 hi19 hb20
  unfold p_impl_Store_flushed_b0 at H1
  refine aD (sr (aF rfl (aG (cU rfl rfl) (nl (cH H1 rfl (fun h23 H1 => ?_) (fun h23 H1 => ?_))))))
  ·refine bH (nT (aD (aQ (sr (aG (cB fa42_2 rfl rfl) (aI (bI ty40 rfl aB rfl) (aG (v := .agg #[.slice none 0 0, .slice none 0 0, .slice none 0 0, .slice x_v0.2.2.1 v0.2.2.length x_v0.2.2.2]) (p_buildS (vs := [(2, .slice x_v0.2.2.1 v0.2.2.length x_v0.2.2.2)]) (cs := #[.slice none 0 0, .slice none 0 0, .slice none 0 0, .slice x_v0.2.2.1 v0.2.2.length x_v0.2.2.2]) ty42 pl42 rfl rfl) (aF rfl (bdo H1 fun r24 h25 H1 => (f1 (cF (c_impl_Store_rows ((([]), ([])), ([]), v0.2.2) (((none, 0), (none, 0)), (none, 0), x_v0.2.2) Q15.2.2 h25) (fun _ => (bF bG)) rfl (aC (aL Ent.nil0) (aC (aL Ent.nil0) (aC (aL Ent.nil0) (aC (aL aR.s.s.s.s.s.s) aO))))) fun x26 => ?_))))))))))
   refine aH rfl (nl (sr (aF rfl (aG (bS 135 dL rfl) (aG (cV rfl rfl) (nl (cH H1 rfl (fun h27 H1 => ?_) (fun h27 H1 => ?_))))))))
   ·refine sr (aG (cB fa75_0 rfl rfl) (aI (bI ty23 rfl hs5 rfl) (aF rfl (f1 (e_lit (vs := [(0, .int .i64 (Q15.2.2))]) [.int .i64 (Q15.2.2)] dQ ty3 rfl (by decide) (by decide) (by kernel_rfl)) fun g28 => (gdo H1 fun h31 H1 => (f2 (e_app1 (l := Q15.1) (α := Int) Q15.2.2 () dQ ty3 rfl rfl (h31.b (by decide)) h31.x rfl (cX _) (.cons dl4 (.cons aA .nil))) fun a29 c30 => (aG (cB fa75_0 rfl rfl) (stb (cs' := [.slice a29 ((Q15.1 ++ [Q15.2.2]).length) c30, .slice z16.2.1 Q15.2.1.length z16.2.2]) ty23 up5 (nl ?_)))))))))
    refine aP (aG (cB fa75_1 rfl rfl) (aI (bI ty73 rfl hs5 rfl) (aF rfl (f1 (e_lit (vs := [(0, .slice x26.1 r24.length x26.2)]) [.slice x26.1 r24.length x26.2] eC ty130 rfl (by decide) (by decide) (by kernel_rfl)) fun g32 => (gdo H1 fun h35 H1 => (f2 (e_app1 (l := Q15.2.1) (α := (List Row)) r24 x26 eC ty130 rfl rfl (h35.b (by decide)) h35.x rfl (cX _) (.cons dl5 (.cons aA (.cons dl1 .nil)))) fun a33 c34 => (aG (cB fa75_1 rfl rfl) (stb (cs' := [.slice a29 ((Q15.1 ++ [Q15.2.2]).length) c30, .slice a33 ((Q15.2.1 ++ [r24]).length) c34]) ty73 up4 (aJ ?_)))))))))
    exact nB (nT (aP (aF rfl (gdo H1 fun h36 H1 => (aG (bR rfl rfl h36) (aH rfl (aJ (nLI ((a29, c30), (a33, c34)) (hi19 _ (sm H1)) (.cons dl2 (.cons dl2 (.cons dl1 (.cons aA (.cons aA .nil)))))))))))))
   ·exact bH (nB (nT (aP (aF rfl (gdo H1 fun h37 H1 => (aG (bR rfl rfl h37) (aH rfl (aJ (nLI ((z16.1.1, z16.1.2), (z16.2.1, z16.2.2)) (hi19 _ (sm H1)) (.cons dl1 (.cons dl1 (.cons dl1 (.cons dl1 (.cons dl1 .nil))))))))))))))
  ·refine dA (xT (xT (xE (?_))))
   obtain rfl := hb20 _ (sm H1)
   exact nMC ((z16.1.1, z16.1.2), (z16.2.1, z16.2.2)) ⟨rfl, rfl, trivial⟩ bT (.cons dl1 (.cons dl1 (.cons dl1 (.cons dl1 .nil))))
 ·intro y17
  show At _ _ [(2, .pointer (some ⟨g5, 0, none⟩)), (3, .pointer (some ⟨g10, 0, none⟩))] _ [box g5 75 [.slice none 0 0, .slice none 0 0], tree (.slice y17.1.1 x11.1.length y17.1.2) x11.1, tree (.slice y17.2.1 x11.2.length y17.2.2) x11.2, box g10 75 [.slice y17.1.1 x11.1.length y17.1.2, .slice y17.2.1 x11.2.length y17.2.2]] _
  refine nT (sr (aI (bJ ty75 rfl hs3 rfl) (stb (cs' := [.slice y17.1.1 x11.1.length y17.1.2, .slice y17.2.1 x11.2.length y17.2.2]) ty75 cZ (nl (bQ ?_)))))
  obtain rfl := si H
  exact back1 y17 rfl (ResV.agg ty75 rfl aB rfl) rfl cM (.cons dl1 (.cons dl1 .nil))
noncomputable def p_impl_StepsFlush (v0 : Disk) (v1 : Store) : Option ((List Step)) := bd (bd (p_impl_matches v1 v0) fun r10 => cond (!r10) (some (true)) (cond (decide ((v1.2.2.length : Int) = 0)) (some (true)) (cond (decide ((v0.2.1.length : Int) = 6)) (some (true)) (bd (p_impl_Disk_full v0) fun r15 => some (r15))))) fun b8 => cond (b8) (some ([] : List Step)) (bd (p_impl_Store_flushed v1) fun r20 => gd (room (([] : List Int).length + v0.2.1.length)) <| gd (room ((([] : List Int) ++ v0.2.1).length + 1)) <| bd (p_impl_cloneNames v1.1.1) fun r31 => some ([(1, v0.2.2.2, r20, ([]), ([])), (2, 0, (([]), ([])), ((([] : List Int) ++ v0.2.1) ++ [v0.2.2.2]), r31)] : List Step))
theorem c_impl_StepsFlush {r : (List Step)} (v0 : Disk) (x_v0 : (Option Addr × Nat) × (Option Addr × Nat) × (Option Addr × Nat) × Unit) (v1 : Store) (x_v1 : ((Option Addr × Nat) × (Option Addr × Nat)) × (Option Addr × Nat) × (Option Addr × Nat)) (H : p_impl_StepsFlush v0 v1 = some r) : Fn' prog 26 #[.agg #[.slice x_v0.1.1 v0.1.length x_v0.1.2, .slice x_v0.2.1.1 v0.2.1.length x_v0.2.1.2, .slice x_v0.2.2.1.1 v0.2.2.1.length x_v0.2.2.1.2, .int .i64 (v0.2.2.2)], .agg #[.slice x_v1.1.1.1 v1.1.1.length x_v1.1.1.2, .slice x_v1.1.2.1 v1.1.2.length x_v1.1.2.2, .slice x_v1.2.1.1 v1.2.1.length x_v1.2.1.2, .slice x_v1.2.2.1 v1.2.2.length x_v1.2.2.2]] [imm (.slice x_v0.1.1 v0.1.length x_v0.1.2) v0.1, imm (.slice x_v0.2.1.1 v0.2.1.length x_v0.2.1.2) v0.2.1, imm (.slice x_v0.2.2.1.1 v0.2.2.1.length x_v0.2.2.1.2) v0.2.2.1, imm (.slice x_v1.1.1.1 v1.1.1.length x_v1.1.1.2) v1.1.1, imm (.slice x_v1.1.2.1 v1.1.2.length x_v1.1.2.2) v1.1.2, imm (.slice x_v1.2.1.1 v1.2.1.length x_v1.2.1.2) v1.2.1, imm (.slice x_v1.2.2.1 v1.2.2.length x_v1.2.2.2) v1.2.2] [] (ι := Option Addr × Nat) (fun x => .slice x.1 r.length x.2) (fun _ => []) (fun x => [tree (.slice x.1 r.length x.2) r]) := by
 refine cof (args := [_, _]) func26 ntmps26 fun c => ?_
 unfold p_impl_StepsFlush at H
 refine bM aR fun X1 => (bM aR.s.s.s fun X2 => (bM aR.s.s.s.s.s fun X3 => (bM aR.s.s.s.s.s.s.s fun X4 => (bM aR.s.s.s.s.s.s.s.s.s fun X5 => (sr (f1 (cC (t := 32) rfl) fun g6 => (f1 (cC (t := 42) rfl) fun g7 => (aH (v := .slice none 0 0) rfl (nl (aD ?_))))))))))
 refine bdo H fun b8 j9 H => (dD [(24, .bool (b8)), (3, .pointer (some ⟨g7, 0, none⟩)), (2, .pointer (some ⟨g6, 0, none⟩))] ?_ ?_)
 ·refine dH [(3, .pointer (some ⟨g7, 0, none⟩)), (2, .pointer (some ⟨g6, 0, none⟩))] ⟨rfl, rfl, trivial⟩ (aZ (bJ ty42 rfl aB rfl) (aZ (bJ ty32 rfl hs1 rfl) (bdo j9 fun r10 h11 j9 => (aZ (bN (c_impl_matches v1 x_v1 v0 (x_v0.1, x_v0.2.1, x_v0.2.2.1, ()) h11) rfl (aC (aL (aS aR.s.s)) (aC (aL (aS aR.s)) (aC (aL (aS aR)) (aC (aL aR.s.s.s.s.s.s.s.s.s.s.s) (aC (aL (aS aR.s.s.s.s)) (aC (aL aR.s.s.s.s.s.s) (aC (aL (aS aR.s.s.s)) aO)))))))) (aX (cW rfl) ?_)))))
  rcases aK (!r10) with h12 | h12
  ·have j9 := cdT h12 j9
   refine bC (aE rfl) h12 ?_
   iterate 4 refine bE rfl ?_
   refine aX (v := .bool (true)) (bP rfl rfl) (bB (v := .bool (true)) rfl ?_)
   iterate 4 refine bE rfl ?_
   refine aX (v := .bool (true)) (bP rfl rfl) (bB (v := .bool (true)) rfl ?_)
   iterate 2 refine bE rfl ?_
   refine aX (v := .bool (true)) (bP rfl rfl) ?_
   obtain rfl := si j9
   show At _ _ _ _ _ _
   exact n1 ⟨rfl, rfl, rfl, trivial⟩
  ·have j9 := cdF h12 j9
   refine bC (aE rfl) h12 (aY rfl (cB fa42_2 rfl rfl) (bA rfl (bI ty40 rfl aB rfl) (aY rfl (bS 137 dX rfl) (aY rfl (cT rfl rfl) (aX (bO rfl rfl) ?_)))))
   rcases aK (decide ((v1.2.2.length : Int) = 0)) with h13 | h13
   ·have j9 := cdT h13 j9
    refine bC (aE rfl) h13 ?_
    iterate 4 refine bE rfl ?_
    refine aX (v := .bool (true)) (bP rfl rfl) (bB (v := .bool (true)) rfl ?_)
    iterate 2 refine bE rfl ?_
    refine aX (v := .bool (true)) (bP rfl rfl) ?_
    obtain rfl := si j9
    show At _ _ _ _ _ _
    exact n1 ⟨rfl, rfl, rfl, trivial⟩
   ·have j9 := cdF h13 j9
    refine bC (aE rfl) h13 (aY rfl (cB fa32_1 rfl rfl) (bA rfl (bI ty23 rfl hs1 rfl) (aY rfl (bS 3 dQ rfl) (aY rfl (cT rfl rfl) (aX (bO rfl rfl) ?_)))))
    rcases aK (decide ((v0.2.1.length : Int) = 6)) with h14 | h14
    ·have j9 := cdT h14 j9
     refine bC (aE rfl) h14 ?_
     iterate 2 refine bE rfl ?_
     refine aX (v := .bool (true)) (bP rfl rfl) ?_
     obtain rfl := si j9
     show At _ _ _ _ _ _
     exact n1 ⟨rfl, rfl, rfl, trivial⟩
    ·have j9 := cdF h14 j9
     refine bC (aE rfl) h14 (bA rfl (bJ ty32 rfl hs1 rfl) (bdo j9 fun r15 h16 j9 => (bA rfl (bN (c_impl_Disk_full v0 (x_v0.1, x_v0.2.1, x_v0.2.2.1, ()) h16) rfl (aC (aL (aS aR.s.s.s.s)) (aC (aL aR.s.s.s.s.s.s) (aC (aL (aS aR.s.s.s)) aO)))) (aX (bO rfl rfl) ?_))))
     obtain rfl := si j9
     show At _ _ _ _ _ _
     exact n1 ⟨rfl, rfl, rfl, trivial⟩
 refine cH H rfl (fun h17 H => ?_) (fun h17 H => ?_)
 ·refine sr (f2 (e_lit0 Step eB ty111) fun a18 c19 => (aH rfl (nl (bQ (rT (?_))))))
  obtain rfl := si H
  exact back1 (a18, c19) rfl (ResV.tmp (v := .slice a18 (([] : List Step).length) c19) rfl) rfl cM (.cons aA .nil)
 ·refine bH (nT (aD (Tr.nilT Int (Tr.nilT (List Tag) (Tr.nilT Int (Tr.nilT (List Row) (dG [(3, .pointer (some ⟨g7, 0, none⟩)), (2, .pointer (some ⟨g6, 0, none⟩))] 4 [0, 1, 2, 6, 7, 9, 10, 13, 14, 15, 3, 4, 5, 8, 11, 12, 16, 17, 18, 19] [3, 8, 12, 16, 18] [⟨5, [], fun g => .slice (some ⟨g, 0, none⟩) ([] : List Int).length 0, fun g => tree (.slice (some ⟨g, 0, none⟩) ([] : List Int).length 0) ([] : List Int)⟩, ⟨11, [(36, .int .i64 (v0.2.2.2))], fun g => .slice (some ⟨g, 0, none⟩) 1 1, fun g => box g 3 [.int .i64 (v0.2.2.2)]⟩] mixed (by kernel_rfl) (by decide) (show List.Nodup [5, 11] by decide) ⟨rfl, rfl, trivial⟩ rfl (okCons (FreeA.Ok.of rfl (by decide) (by kernel_rfl) fun c fs os => g_lit0 Int dQ ty3) (okCons (FreeA.Ok.of rfl (by decide) (by kernel_rfl) fun c fs os => e_lit (vs := [(0, .int .i64 (v0.2.2.2))]) [.int .i64 (v0.2.2.2)] dQ ty3 rfl (by decide) (by decide) (by kernel_rfl)) okNil)) (w_p rfl (cB fa32_3 rfl rfl) ?_))))))))
  refine w_o rfl (fun F => (bI ty3 rfl (hs5.app F) rfl)) ?_
  refine w_o rfl (fun F => (bJ ty42 rfl (hs4.app F) rfl)) (w_p rfl (cB fa32_1 rfl rfl) ?_)
  refine w_o rfl (fun F => (bI ty23 rfl (hs5.app F) rfl)) (w_p rfl (cB fa32_3 rfl rfl) ?_)
  refine w_o rfl (fun F => (bI ty3 rfl (hs5.app F) rfl)) (w_p rfl (cB fa42_0 rfl rfl) (w_p rfl (cB fa38_0 rfl rfl) ?_))
  refine w_o rfl (fun F => (bI ty30 rfl (hs4.app F) rfl)) (bdo H fun r20 h21 H => (cJ rfl (by decide) rfl (cO (.inr (.inr trivial)) (cO (.inr (.inr ⟨rfl, trivial⟩)) cN)) rfl (cE (c_impl_Store_flushed v1 x_v1 h21) (fun _ => (bF (bF bG))) rfl (aC (aL (aS aR.s.s)) (aC (aL (aS aR.s)) (aC (aL (aS aR)) (aC (aL aR.s.s.s.s.s.s.s.s.s.s.s) aO))))) ?_))
  rintro _ _ _ ⟨x22, rfl, rfl, rfl⟩
  refine ⟨(bV rfl rfl (fun F => (bI ty30 rfl ((hs5t hs1).app F) rfl)) (bV rfl rfl (fun F => (bI ty3 rfl ((hs5t hs2).app F) rfl)) (bV rfl rfl (fun F => (bI ty23 rfl ((hs5t hs2).app F) rfl)) (aM (by kernel_rfl) (bV rfl rfl (fun F => (bI ty3 rfl ((hs5t hs2).app F) rfl)) bU))))), ?_⟩
  refine w_p (v := .agg #[.int .i64 (1), .int .i64 (v0.2.2.2), .slice x22.1.1 r20.1.length x22.1.2, .slice x22.2.1 r20.2.length x22.2.2, .slice none 0 0, .slice none 0 0]) rfl (p_buildS (vs := [(0, .int .i64 (1)), (1, .int .i64 (v0.2.2.2)), (2, .agg #[.slice x22.1.1 r20.1.length x22.1.2, .slice x22.2.1 r20.2.length x22.2.2])]) (cs := #[.int .i64 (1), .int .i64 (v0.2.2.2), .slice x22.1.1 r20.1.length x22.1.2, .slice x22.2.1 r20.2.length x22.2.2, .slice none 0 0, .slice none 0 0]) ty111 pl111 rfl (by kernel_rfl)) ?_
  refine w_fr (z := ⟨5, [], fun g => .slice (some ⟨g, 0, none⟩) ([] : List Int).length 0, fun g => tree (.slice (some ⟨g, 0, none⟩) ([] : List Int).length 0) ([] : List Int)⟩) (.head _) rfl rfl (by decide) (cO (.inl rfl) (cO (.inr (.inr ⟨rfl, trivial⟩)) cN)) trivial ?_; intro g23
  refine gdo H fun h26 H => (cJ rfl (by decide) rfl (cO (.inl rfl) (cO (.inr (.inr ⟨rfl, trivial⟩)) cN)) rfl (n_appF (l := ([] : List Int)) (k := v0.2.1) (α := Int) dQ ty3 rfl rfl (h26.b (by decide)) h26.x (.cons aA .nil) (aL aR.s.s.s.s.s.s)) ?_)
  rintro _ _ _ ⟨a24, c25, rfl, rfl, rfl⟩
  refine ⟨(bV rfl rfl (fun F => (bI ty30 rfl ((hs5t hs2).app F) rfl)) (bV rfl rfl (fun F => (bI ty3 rfl ((hs5t hs3).app F) rfl)) (aM (by kernel_rfl) (aM (by kernel_rfl) (bV rfl rfl (fun F => (bI ty3 rfl ((hs5t hs3).app F) rfl)) bU))))), ?_⟩
  refine w_fr (z := ⟨11, [(36, .int .i64 (v0.2.2.2))], fun g => .slice (some ⟨g, 0, none⟩) 1 1, fun g => box g 3 [.int .i64 (v0.2.2.2)]⟩) (.tail _ (.head _)) rfl rfl (by decide) (cO (.inl rfl) (cO (.inl rfl) cN)) ⟨rfl, trivial⟩ ?_; intro g27
  refine gdo H fun h30 H => (cJ rfl (by decide) rfl (cO (.inl rfl) (cO (.inl rfl) cN)) rfl (n_app1 (l := (([] : List Int) ++ v0.2.1)) (α := Int) v0.2.2.2 () dQ ty3 rfl rfl (h30.b (by decide)) h30.x rfl (cX _) (.cons dl1 (.cons aA .nil))) ?_)
  rintro _ _ _ ⟨a28, c29, rfl, rfl, rfl⟩
  refine ⟨(bV rfl rfl (fun F => (bI ty30 rfl ((hs5t hs2).app F) rfl)) (aM (by kernel_rfl) (aM (by kernel_rfl) (aM (by kernel_rfl) (bV rfl rfl (fun F => (bI ty3 rfl ((hs5t hs3).app F) rfl)) bU))))), ?_⟩
  refine bdo H fun r31 h32 H => (cJ rfl (by decide) rfl (cO (.inl rfl) (cO (.inl rfl) cN)) rfl (cE (c_impl_cloneNames v1.1.1 x_v1.1.1 h32) (fun _ => (bF bG)) rfl (aC (aL (aS aR.s.s)) aO)) ?_)
  rintro _ _ _ ⟨x33, rfl, rfl, rfl⟩
  refine ⟨(aM (by kernel_rfl) (aM (by kernel_rfl) (aM (by kernel_rfl) (aM (by kernel_rfl) (bV rfl rfl (fun F => (bI ty3 rfl ((hs5t hs4).app F) rfl)) bU))))), ?_⟩
  refine w_p (v := .agg #[.int .i64 (2), .int .i64 (0), .slice none 0 0, .slice none 0 0, .slice a28 (((([] : List Int) ++ v0.2.1) ++ [v0.2.2.2]).length) c29, .slice x33.1 r31.length x33.2]) rfl (p_buildS (vs := [(0, .int .i64 (2)), (3, .slice a28 (((([] : List Int) ++ v0.2.1) ++ [v0.2.2.2]).length) c29), (4, .slice x33.1 r31.length x33.2)]) (cs := #[.int .i64 (2), .int .i64 (0), .slice none 0 0, .slice none 0 0, .slice a28 (((([] : List Int) ++ v0.2.1) ++ [v0.2.2.2]).length) c29, .slice x33.1 r31.length x33.2]) ty111 pl111 rfl (by kernel_rfl)) (cJ rfl (by decide) rfl (cO (.inl rfl) (cO (.inl rfl) cN)) rfl (n_litO (α := Step) (vs := [(0, .agg #[.int .i64 (1), .int .i64 (v0.2.2.2), .slice x22.1.1 r20.1.length x22.1.2, .slice x22.2.1 r20.2.length x22.2.2, .slice none 0 0, .slice none 0 0]), (1, .agg #[.int .i64 (2), .int .i64 (0), .slice none 0 0, .slice none 0 0, .slice a28 (((([] : List Int) ++ v0.2.1) ++ [v0.2.2.2]).length) c29, .slice x33.1 r31.length x33.2])]) ([(1, v0.2.2.2, r20, ([]), ([])), (2, 0, (([]), ([])), ((([] : List Int) ++ v0.2.1) ++ [v0.2.2.2]), r31)] : List Step) [((1, v0.2.2.2, r20, ([]), ([])), ((), (), x22, (none, 0), (none, 0))), ((2, 0, (([]), ([])), ((([] : List Int) ++ v0.2.1) ++ [v0.2.2.2]), r31), ((), (), ((none, 0), (none, 0)), (a28, c29), x33))] rfl rfl eB ty111 rfl (by decide) (by decide) (by kernel_rfl) (.cons dl2 (.cons dl2 (.cons dl3 (.cons dl3 (.cons dl3 (.cons dl2 (.cons dl1 (.cons aA .nil))))))))) ?_)
  rintro _ _ _ ⟨a34, c35, rfl, rfl, rfl⟩
  refine ⟨(aM (by kernel_rfl) (aM (by kernel_rfl) (aM (by kernel_rfl) (aM (by kernel_rfl) (aM (by kernel_rfl) bU))))), ?_⟩
  refine w_p rfl (p_assign rfl) (cK (nT (bQ ?_)))
  obtain rfl := si H
  exact back1 (a34, c35) rfl (ResV.tmp (v := .slice a34 (([(1, v0.2.2.2, r20, ([]), ([])), (2, 0, (([]), ([])), ((([] : List Int) ++ v0.2.1) ++ [v0.2.2.2]), r31)] : List Step).length) c35) rfl) rfl cM (.cons aA .nil)
noncomputable def p_laws_eqStep (v0 : Step) (v1 : Step) : Option (Bool) := cond (!decide (v0.1 = v1.1)) (some false) (cond (!decide (v0.2.1 = v1.2.1)) (some false) (bd (p_laws_eqPart v0.2.2.1 v1.2.2.1) fun r9 => cond (!r9) (some false) (bd (p_laws_eqIntS v0.2.2.2.1 v1.2.2.2.1) fun r12 => cond (!r12) (some false) (bd (p_laws_eqTagSS v0.2.2.2.2 v1.2.2.2.2) fun r15 => cond (!r15) (some false) (some true)))))
theorem c_laws_eqStep {r : Bool} (v0 : Step) (x_v0 : Unit × Unit × ((Option Addr × Nat) × (Option Addr × Nat)) × (Option Addr × Nat) × (Option Addr × Nat)) (v1 : Step) (x_v1 : Unit × Unit × ((Option Addr × Nat) × (Option Addr × Nat)) × (Option Addr × Nat) × (Option Addr × Nat)) (H : p_laws_eqStep v0 v1 = some r) : Fn' prog 89 #[.agg #[.int .i64 (v0.1), .int .i64 (v0.2.1), .slice x_v0.2.2.1.1.1 v0.2.2.1.1.length x_v0.2.2.1.1.2, .slice x_v0.2.2.1.2.1 v0.2.2.1.2.length x_v0.2.2.1.2.2, .slice x_v0.2.2.2.1.1 v0.2.2.2.1.length x_v0.2.2.2.1.2, .slice x_v0.2.2.2.2.1 v0.2.2.2.2.length x_v0.2.2.2.2.2], .agg #[.int .i64 (v1.1), .int .i64 (v1.2.1), .slice x_v1.2.2.1.1.1 v1.2.2.1.1.length x_v1.2.2.1.1.2, .slice x_v1.2.2.1.2.1 v1.2.2.1.2.length x_v1.2.2.1.2.2, .slice x_v1.2.2.2.1.1 v1.2.2.2.1.length x_v1.2.2.2.1.2, .slice x_v1.2.2.2.2.1 v1.2.2.2.2.length x_v1.2.2.2.2.2]] [imm (.slice x_v0.2.2.1.1.1 v0.2.2.1.1.length x_v0.2.2.1.1.2) v0.2.2.1.1, imm (.slice x_v0.2.2.1.2.1 v0.2.2.1.2.length x_v0.2.2.1.2.2) v0.2.2.1.2, imm (.slice x_v0.2.2.2.1.1 v0.2.2.2.1.length x_v0.2.2.2.1.2) v0.2.2.2.1, imm (.slice x_v0.2.2.2.2.1 v0.2.2.2.2.length x_v0.2.2.2.2.2) v0.2.2.2.2, imm (.slice x_v1.2.2.1.1.1 v1.2.2.1.1.length x_v1.2.2.1.1.2) v1.2.2.1.1, imm (.slice x_v1.2.2.1.2.1 v1.2.2.1.2.length x_v1.2.2.1.2.2) v1.2.2.1.2, imm (.slice x_v1.2.2.2.1.1 v1.2.2.2.1.length x_v1.2.2.2.1.2) v1.2.2.2.1, imm (.slice x_v1.2.2.2.2.1 v1.2.2.2.2.length x_v1.2.2.2.2.2) v1.2.2.2.2] [] (ι := Unit) (fun _ => .bool (r)) (fun _ => []) (fun _ => []) := by
 refine cof (args := [_, _]) func89 ntmps89 fun c => ?_
 unfold p_laws_eqStep at H
 refine bM aR.s fun X1 => (bM aR.s.s.s.s fun X2 => (bM aR.s.s.s.s.s.s.s fun X3 => (bM aR.s.s.s.s.s.s.s.s.s.s fun X4 => (sr (f1 (cC (t := 111) rfl) fun g5 => (f1 (cC (t := 111) rfl) fun g6 => (aH (v := .bool (false)) rfl (nl (aD (sr (aG (cB fa111_0 rfl rfl) ?_)))))))))))
 refine aI (bI ty3 rfl hs1 rfl) (aG (cB fa111_0 rfl rfl) (aI (bI ty3 rfl aB rfl) (aG (cS rfl rfl) (nl (cH H rfl (fun h7 H => ?_) (fun h7 H => ?_))))))
 ·refine sr (aH (v := .bool (false)) rfl (nl (bQ (rT (?_)))))
  obtain rfl := si H
  exact bk
 ·refine bH (nT (aD (sr (aG (cB fa111_1 rfl rfl) (aI (bI ty3 rfl hs1 rfl) (aG (cB fa111_1 rfl rfl) (aI (bI ty3 rfl aB rfl) (aG (cS rfl rfl) (nl (cH H rfl (fun h8 H => ?_) (fun h8 H => ?_)))))))))))
  ·refine sr (aH (v := .bool (false)) rfl (nl (bQ (rT (?_)))))
   obtain rfl := si H
   exact bk
  ·refine bH (nT (aD (sr (aG (cB fa111_2 rfl rfl) (aI (v := .agg #[.slice x_v0.2.2.1.1.1 v0.2.2.1.1.length x_v0.2.2.1.1.2, .slice x_v0.2.2.1.2.1 v0.2.2.1.2.length x_v0.2.2.1.2.2]) (q_ldbP [.slice x_v0.2.2.1.1.1 v0.2.2.1.1.length x_v0.2.2.1.1.2, .slice x_v0.2.2.1.2.1 v0.2.2.1.2.length x_v0.2.2.1.2.2] ty75 rfl hs1 rfl rfl) (aG (cB fa111_2 rfl rfl) (aI (v := .agg #[.slice x_v1.2.2.1.1.1 v1.2.2.1.1.length x_v1.2.2.1.1.2, .slice x_v1.2.2.1.2.1 v1.2.2.1.2.length x_v1.2.2.1.2.2]) (q_ldbP [.slice x_v1.2.2.1.1.1 v1.2.2.1.1.length x_v1.2.2.1.1.2, .slice x_v1.2.2.1.2.1 v1.2.2.1.2.length x_v1.2.2.1.2.2] ty75 rfl aB rfl rfl) (bdo H fun r9 h10 H => (aI (bN (c_laws_eqPart v0.2.2.1 x_v0.2.2.1 v1.2.2.1 x_v1.2.2.1 h10) rfl (aC (aL aR.s.s.s.s) (aC (aL (aS aR.s.s.s)) (aC (aL aR.s.s.s.s.s.s.s.s) (aC (aL (aS aR.s)) aO))))) (aG (cW rfl) (nl ?_)))))))))))
   refine cH H rfl (fun h11 H => ?_) (fun h11 H => ?_)
   ·refine sr (aH (v := .bool (false)) rfl (nl (bQ (rT (?_)))))
    obtain rfl := si H
    exact bk
   ·refine bH (nT (aD (sr (aG (cB fa111_3 rfl rfl) (aI (bI ty23 rfl hs1 rfl) (aG (cB fa111_3 rfl rfl) (aI (bI ty23 rfl aB rfl) (bdo H fun r12 h13 H => (aI (bN (c_laws_eqIntS v0.2.2.2.1 x_v0.2.2.2.1 v1.2.2.2.1 x_v1.2.2.2.1 h13) rfl (aC (aL aR.s.s.s.s.s.s) (aC (aL aR.s.s.s.s.s.s.s.s.s.s) aO))) (aG (cW rfl) (nl ?_)))))))))))
    refine cH H rfl (fun h14 H => ?_) (fun h14 H => ?_)
    ·refine sr (aH (v := .bool (false)) rfl (nl (bQ (rT (?_)))))
     obtain rfl := si H
     exact bk
    ·refine bH (nT (aD (sr (aG (cB fa111_4 rfl rfl) (aI (bI ty30 rfl hs1 rfl) (aG (cB fa111_4 rfl rfl) (aI (bI ty30 rfl aB rfl) (bdo H fun r15 h16 H => (aI (bN (c_laws_eqTagSS v0.2.2.2.2 x_v0.2.2.2.2 v1.2.2.2.2 x_v1.2.2.2.2 h16) rfl (aC (aL (aS aR.s.s)) (aC (aL (aS aR)) aO))) (aG (cW rfl) (nl ?_)))))))))))
     refine cH H rfl (fun h17 H => ?_) (fun h17 H => ?_)
     ·refine sr (aH (v := .bool (false)) rfl (nl (bQ (rT (?_)))))
      obtain rfl := si H
      exact bk
     ·refine bH (nT (sr (aH (v := .bool (true)) rfl (nl ?_))))
      obtain rfl := si H
      exact bQ bk
noncomputable def p_laws_eqStepS_b0 (v0 : (List Step)) (v1 : (List Step)) (Q8 : Int) : Option ((Int) ⊕ (Unit ⊕ Bool)) := cond (decide (Q8 < (v0.length : Int))) (gd (ix Q8 v0.length) <| gd (ix Q8 v1.length) <| bd (p_laws_eqStep (nth v0 Q8.toNat) (nth v1 Q8.toNat)) fun r19 => cond (!r19) (some (.inr (.inr false))) (gd (I64 (Q8 + 1)) <| some (.inl (Q8 + 1)))) (some (.inr (.inl ())))
noncomputable def p_laws_eqStepS (v0 : (List Step)) (v1 : (List Step)) : Option (Bool) := cond (!decide ((v0.length : Int) = (v1.length : Int))) (some false) (bd (lp (p_laws_eqStepS_b0 v0 v1) 0) <| sw (fun _ => some true) (fun q => some q))
theorem c_laws_eqStepS {r : Bool} (v0 : (List Step)) (x_v0 : Option Addr × Nat) (v1 : (List Step)) (x_v1 : Option Addr × Nat) (H : p_laws_eqStepS v0 v1 = some r) : Fn' prog 27 #[.slice x_v0.1 v0.length x_v0.2, .slice x_v1.1 v1.length x_v1.2] [imm (.slice x_v0.1 v0.length x_v0.2) v0, imm (.slice x_v1.1 v1.length x_v1.2) v1] [] (ι := Unit) (fun _ => .bool (r)) (fun _ => []) (fun _ => []) := by
 refine cof (args := [_, _]) func27 ntmps27 fun c => ?_
 unfold p_laws_eqStepS at H
 refine bM aR fun X1 => (bM aR.s.s fun X2 => (sr (aH (v := .bool (false)) rfl (nl (aD (sr (aF rfl (aG (bS 111 eB rfl) (aF rfl (aG (bS 111 eB rfl) (aG (cS rfl rfl) (nl ?_))))))))))))
 refine cH H rfl (fun h3 H => ?_) (fun h3 H => ?_)
 ·refine sr (aH (v := .bool (false)) rfl (nl (bQ (rT (?_)))))
  obtain rfl := si H
  exact bk
 ·refine bH (nT (aD (sr (aH (v := .int .i64 (0)) rfl (nl (bdo H fun x4 hx5 H => (dC (Λ := Unit) H (fun _ _ => []) (fun _ _ => []) ?_ ?_)))))))
  ·refine aQ (dE hx5 () (fun Q8 _ => [(0, .slice x_v0.1 v0.length x_v0.2), (1, .slice x_v1.1 v1.length x_v1.2), (5, .int .i64 (Q8))]) (fun _ _ => []) bK ?_)
   rintro _ Q8 z9 t11 H1 hi12 hb13
   unfold p_laws_eqStepS_b0 at H1
   refine aD (sr (aF rfl (aF rfl (aG (bS 111 eB rfl) (aG (cQ rfl rfl) (nl (cH H1 rfl (fun h16 H1 => ?_) (fun h16 H1 => ?_))))))))
   ·refine bH (nT (aD (aQ (aD (dF [(0, .slice x_v0.1 v0.length x_v0.2), (1, .slice x_v1.1 v1.length x_v1.2), (5, .int .i64 (Q8))] mixed (.inr (by kernel_rfl)) ⟨rfl, rfl, rfl, trivial⟩ rfl (bB rfl (bB rfl (gdo H1 fun h17 H1 => (aZ (bW eB ty111 rfl rfl h17 rfl (aL (aT aR.s))) (aZ (v := .agg #[.int .i64 ((nth v0 Q8.toNat).1), .int .i64 ((nth v0 Q8.toNat).2.1), .slice ((((X1 Q8.toNat).2.2.1).1).1) ((((nth v0 Q8.toNat).2.2.1).1).length) ((((X1 Q8.toNat).2.2.1).1).2.1), .slice ((((X1 Q8.toNat).2.2.1).2).1) ((((nth v0 Q8.toNat).2.2.1).2).length) ((((X1 Q8.toNat).2.2.1).2).2.1), .slice (((X1 Q8.toNat).2.2.2.1).1) (((nth v0 Q8.toNat).2.2.2.1).length) (((X1 Q8.toNat).2.2.2.1).2.1), .slice (((X1 Q8.toNat).2.2.2.2).1) (((nth v0 Q8.toNat).2.2.2.2).length) (((X1 Q8.toNat).2.2.2.2).2.1)]) (cA (i := Q8.toNat) ty111 rfl (aL (aT aR.s)) h17.lt) ?_))))))))))
    refine bB rfl (bB rfl (gdo H1 fun h18 H1 => (aZ (bW eB ty111 rfl rfl h18 rfl (aL (aT aR))) (aZ (v := .agg #[.int .i64 ((nth v1 Q8.toNat).1), .int .i64 ((nth v1 Q8.toNat).2.1), .slice ((((X2 Q8.toNat).2.2.1).1).1) ((((nth v1 Q8.toNat).2.2.1).1).length) ((((X2 Q8.toNat).2.2.1).1).2.1), .slice ((((X2 Q8.toNat).2.2.1).2).1) ((((nth v1 Q8.toNat).2.2.1).2).length) ((((X2 Q8.toNat).2.2.1).2).2.1), .slice (((X2 Q8.toNat).2.2.2.1).1) (((nth v1 Q8.toNat).2.2.2.1).length) (((X2 Q8.toNat).2.2.2.1).2.1), .slice (((X2 Q8.toNat).2.2.2.2).1) (((nth v1 Q8.toNat).2.2.2.2).length) (((X2 Q8.toNat).2.2.2.2).2.1)]) (cA (i := Q8.toNat) ty111 rfl (aL (aT aR)) h18.lt) (bdo H1 fun r19 h20 H1 => (aZ (bN (c_laws_eqStep (nth v0 Q8.toNat) ((), (), (((((X1 Q8.toNat).2.2.1).1).1, (((X1 Q8.toNat).2.2.1).1).2.1), ((((X1 Q8.toNat).2.2.1).2).1, (((X1 Q8.toNat).2.2.1).2).2.1)), (((X1 Q8.toNat).2.2.2.1).1, ((X1 Q8.toNat).2.2.2.1).2.1), (((X1 Q8.toNat).2.2.2.2).1, ((X1 Q8.toNat).2.2.2.2).2.1)) (nth v1 Q8.toNat) ((), (), (((((X2 Q8.toNat).2.2.1).1).1, (((X2 Q8.toNat).2.2.1).1).2.1), ((((X2 Q8.toNat).2.2.1).2).1, (((X2 Q8.toNat).2.2.1).2).2.1)), (((X2 Q8.toNat).2.2.2.1).1, ((X2 Q8.toNat).2.2.2.1).2.1), (((X2 Q8.toNat).2.2.2.2).1, ((X2 Q8.toNat).2.2.2.2).2.1)) h20) rfl (aC (aL (aS (aV (aV (aU (aU (aW aR.s h17.lt))))))) (aC (aL (aS (aU (aV (aU (aU (aW aR.s h17.lt))))))) (aC (aL (aS (aV (aU (aU (aU (aW aR.s h17.lt))))))) (aC (aL (aS (aU (aU (aU (aU (aW aR.s h17.lt))))))) (aC (aL (aS (aV (aV (aU (aU (aW aR h18.lt))))))) (aC (aL (aS (aU (aV (aU (aU (aW aR h18.lt))))))) (aC (aL (aS (aV (aU (aU (aU (aW aR h18.lt))))))) (aC (aL (aS (aU (aU (aU (aU (aW aR h18.lt))))))) aO))))))))) (aX (cW rfl) (nT (cH H1 rfl (fun h21 H1 => ?_) (fun h21 H1 => ?_))))))))))
    ·refine sr (aH (v := .bool (false)) rfl (nl (bQ (rB (rT (rT (rB (rT (rT (?_))))))))))
     obtain rfl := hb13 _ (sm H1)
     replace H := sw.r H
     obtain rfl := si H
     exact bk
    ·exact bH (nB (nT (aP (aF rfl (gdo H1 fun h22 H1 => (aG (bR rfl rfl h22) (aH rfl (aJ (nLI () (hi12 _ (sm H1)) bK)))))))))
   ·exact dA (xT (xT (xE (nMI () (hb13 _ (sm H1)) bK))))
  ·rintro e23 y10 H
   refine nT (sr (aH (v := .bool (true)) rfl (nl ?_)))
   obtain rfl := si H
   exact bQ bk
noncomputable def p_laws_markStepS_b0 (v0 : (List Step)) (Q5 : (List Step) × Int × Int) : Option (((List Step) × Int × Int) ⊕ (Int × (List Step))) := cond (decide (Q5.2.2 < (v0.length : Int))) (gd (ix Q5.2.2 Q5.1.length) <| gd (I64 (Q5.2.1 + 1)) <| gd (I64 ((Q5.2.1 + 1) + 1)) <| bd (p_laws_markIntS (((nth Q5.1 Q5.2.2.toNat).2.2.1).1) ((Q5.2.1 + 1) + 1)) fun r18 => bd (p_laws_markRowSS (((nth Q5.1 Q5.2.2.toNat).2.2.1).2) r18.1) fun r21 => bd (p_laws_markIntS ((nth Q5.1 Q5.2.2.toNat).2.2.2.1) r21.1) fun r24 => bd (p_laws_markTagSS ((nth Q5.1 Q5.2.2.toNat).2.2.2.2) r24.1) fun r27 => gd (I64 (Q5.2.2 + 1)) <| some (.inl ((Q5.1.set Q5.2.2.toNat (Q5.2.1, (Q5.2.1 + 1), (r18.2, r21.2), r24.2, r27.2)), r27.1, Q5.2.2 + 1))) (some (.inr (Q5.2.1, Q5.1)))
noncomputable def p_laws_markStepS (v0 : (List Step)) (v1 : Int) : Option (Int × (List Step)) := bd (lp (p_laws_markStepS_b0 v0) (v0, v1, 0)) fun x1 => some (x1.1, x1.2)
theorem c_laws_markStepS {r : Int × (List Step)} (v0 : (List Step)) (x_v0 : Option Addr × Nat) (n_v0 : Nat) (e_v0 : n_v0 = v0.length) (v1 : Int) (H : p_laws_markStepS v0 v1 = some r) : Fn' prog 28 #[.slice x_v0.1 n_v0 x_v0.2, .int .i64 (v1)] [] [tree (.slice x_v0.1 n_v0 x_v0.2) v0] (ι := Unit) (fun _ => .int .i64 (r.1)) (fun _ => []) (fun _ => [tree (.slice x_v0.1 n_v0 x_v0.2) r.2]) := by
 subst e_v0
 refine cof (args := [_, _]) func28 ntmps28 fun c => ?_
 unfold p_laws_markStepS at H
 refine sr (aH (v := .int .i64 (0)) rfl (nl (aD (sr (aH (v := .int .i64 (0)) rfl (nl (bdo H fun x1 hx2 H => (dB (ι := Unit) (fun ψ => [(1, .int .i64 (x1.1))]) (fun ψ => [tree (.slice x_v0.1 v0.length x_v0.2) x1.2]) ?_ ?_))))))))
 ·refine aQ (dE hx2 () (fun Q5 _ => [(0, .slice x_v0.1 v0.length x_v0.2), (1, .int .i64 (Q5.2.1)), (5, .int .i64 (Q5.2.2))]) (fun Q5 _ => [tree (.slice x_v0.1 v0.length x_v0.2) Q5.1]) (.cons aA .nil) ?_)
  rintro _ Q5 z6 t8 H1 hi9 hb10
  unfold p_laws_markStepS_b0 at H1
  refine aD (sr (aF rfl (aF rfl (aG (bS 111 eB rfl) (aG (cQ rfl rfl) (nl (cH H1 rfl (fun h13 H1 => ?_) (fun h13 H1 => ?_))))))))
  ·refine bH (nT (aD (aQ (aD (gdo H1 fun h14 H1 => (Tr.zoom (k := Q5.2.2.toNat) h14.lt (.cons aA .nil) fun x15 => ?_))))))
   show Tr _ _ _ _ _ _ _ (hole (.slice x_v0.1 v0.length x_v0.2) Q5.1 Q5.2.2.toNat [.int .i64 ((nth Q5.1 Q5.2.2.toNat).1), .int .i64 ((nth Q5.1 Q5.2.2.toNat).2.1), .slice x15.2.2.1.1.1 ((((nth Q5.1 Q5.2.2.toNat).2.2.1).1).length) x15.2.2.1.1.2, .slice x15.2.2.1.2.1 ((((nth Q5.1 Q5.2.2.toNat).2.2.1).2).length) x15.2.2.1.2.2, .slice x15.2.2.2.1.1 (((nth Q5.1 Q5.2.2.toNat).2.2.2.1).length) x15.2.2.2.1.2, .slice x15.2.2.2.2.1 (((nth Q5.1 Q5.2.2.toNat).2.2.2.2).length) x15.2.2.2.2.2] :: tree (.slice x15.2.2.1.1.1 ((((nth Q5.1 Q5.2.2.toNat).2.2.1).1).length) x15.2.2.1.1.2) (((nth Q5.1 Q5.2.2.toNat).2.2.1).1) :: tree (.slice x15.2.2.1.2.1 ((((nth Q5.1 Q5.2.2.toNat).2.2.1).2).length) x15.2.2.1.2.2) (((nth Q5.1 Q5.2.2.toNat).2.2.1).2) :: tree (.slice x15.2.2.2.1.1 (((nth Q5.1 Q5.2.2.toNat).2.2.2.1).length) x15.2.2.2.1.2) ((nth Q5.1 Q5.2.2.toNat).2.2.2.1) :: tree (.slice x15.2.2.2.2.1 (((nth Q5.1 Q5.2.2.toNat).2.2.2.2).length) x15.2.2.2.2.2) ((nth Q5.1 Q5.2.2.toNat).2.2.2.2) :: _)
   refine aP (aF rfl (aF rfl (aF rfl (aI (v := elp x_v0.1 (Q5.2.2.toNat * Enc.sz Step + 0)) (q_ixH (k := Q5.2.2.toNat) eB ty111 rfl rfl h14 rfl aB) (aI (v := elp x_v0.1 (Q5.2.2.toNat * Enc.sz Step + 0)) (q_faH (j := 0) (i := Q5.2.2.toNat) fa111_0 rfl aB rfl) (g0 (e_stH (v := .int .i64 (Q5.2.1)) (i := Q5.2.2.toNat) (j := 0) (cs' := [.int .i64 (Q5.2.1), .int .i64 ((nth Q5.1 Q5.2.2.toNat).2.1), .slice x15.2.2.1.1.1 ((((nth Q5.1 Q5.2.2.toNat).2.2.1).1).length) x15.2.2.1.1.2, .slice x15.2.2.1.2.1 ((((nth Q5.1 Q5.2.2.toNat).2.2.1).2).length) x15.2.2.1.2.2, .slice x15.2.2.2.1.1 (((nth Q5.1 Q5.2.2.toNat).2.2.2.1).length) x15.2.2.2.1.2, .slice x15.2.2.2.2.1 (((nth Q5.1 Q5.2.2.toNat).2.2.2.2).length) x15.2.2.2.2.2]) ty3 rfl rfl (.cons aA .nil) rfl (one_of rfl) (Nat.le_of_ble_eq_true rfl) rfl rfl) (nl (sr (aF rfl ?_)))))))))
   refine gdo H1 fun h16 H1 => (aG (bR rfl rfl h16) (aH rfl (nl (sr (aF rfl (aF rfl (aF rfl (aI (v := elp x_v0.1 (Q5.2.2.toNat * Enc.sz Step + 0)) (q_ixH (k := Q5.2.2.toNat) eB ty111 rfl rfl h14 rfl aB) (aI (v := elp x_v0.1 (Q5.2.2.toNat * Enc.sz Step + 1)) (q_faH (j := 0) (i := Q5.2.2.toNat) fa111_1 rfl aB rfl) (g0 (e_stH (v := .int .i64 (Q5.2.1 + 1)) (i := Q5.2.2.toNat) (j := 1) (cs' := [.int .i64 (Q5.2.1), .int .i64 (Q5.2.1 + 1), .slice x15.2.2.1.1.1 ((((nth Q5.1 Q5.2.2.toNat).2.2.1).1).length) x15.2.2.1.1.2, .slice x15.2.2.1.2.1 ((((nth Q5.1 Q5.2.2.toNat).2.2.1).2).length) x15.2.2.1.2.2, .slice x15.2.2.2.1.1 (((nth Q5.1 Q5.2.2.toNat).2.2.2.1).length) x15.2.2.2.1.2, .slice x15.2.2.2.2.1 (((nth Q5.1 Q5.2.2.toNat).2.2.2.2).length) x15.2.2.2.2.2]) ty3 rfl rfl (.cons aA .nil) rfl (one_of rfl) (Nat.le_of_ble_eq_true rfl) rfl rfl) ?_))))))))))
   refine nl (sr (aF rfl (gdo H1 fun h17 H1 => (aG (bR rfl rfl h17) (aH rfl (nl (sr (aF rfl (aF rfl (aI (v := elp x_v0.1 (Q5.2.2.toNat * Enc.sz Step + 0)) (q_ixH (k := Q5.2.2.toNat) eB ty111 rfl rfl h14 rfl aB) ?_))))))))))
   refine aI (v := elp x_v0.1 (Q5.2.2.toNat * Enc.sz Step + 2)) (q_faH (j := 0) (i := Q5.2.2.toNat) fa111_2 rfl aB rfl) (aI (v := elp x_v0.1 (Q5.2.2.toNat * Enc.sz Step + 2)) (q_faH (j := 2) (i := Q5.2.2.toNat) fa75_0 rfl aB rfl) (aI (v := .slice x15.2.2.1.1.1 ((((nth Q5.1 Q5.2.2.toNat).2.2.1).1).length) x15.2.2.1.1.2) (q_ldH (i := Q5.2.2.toNat) (j := 2) ty23 rfl aB rfl) (aF rfl (bdo H1 fun r18 h19 H1 => (f1 (cG (c_laws_markIntS (((nth Q5.1 Q5.2.2.toNat).2.2.1).1) x15.2.2.1.1 ((((nth Q5.1 Q5.2.2.toNat).2.2.1).1).length) rfl ((Q5.2.1 + 1) + 1) h19) (bF bG) (fun _ => (bF bG)) rfl (.cons dl1 .nil) aO) fun u20 => (aH rfl (nl (aD ?_))))))))
   refine cY aB fun hn => ?_; rw [hn]
   refine aP (aF rfl (aF rfl (aI (v := elp x_v0.1 (Q5.2.2.toNat * Enc.sz Step + 0)) (q_ixH (k := Q5.2.2.toNat) eB ty111 rfl rfl h14 rfl hs1) (aI (v := elp x_v0.1 (Q5.2.2.toNat * Enc.sz Step + 2)) (q_faH (j := 0) (i := Q5.2.2.toNat) fa111_2 rfl hs1 rfl) (aI (v := elp x_v0.1 (Q5.2.2.toNat * Enc.sz Step + 3)) (q_faH (j := 2) (i := Q5.2.2.toNat) fa75_1 rfl hs1 rfl) (aI (v := .slice x15.2.2.1.2.1 ((((nth Q5.1 Q5.2.2.toNat).2.2.1).2).length) x15.2.2.1.2.2) (q_ldH (i := Q5.2.2.toNat) (j := 3) ty73 rfl hs1 rfl) (aF rfl (bdo H1 fun r21 h22 H1 => (f1 (cG (c_laws_markRowSS (((nth Q5.1 Q5.2.2.toNat).2.2.1).2) x15.2.2.1.2 ((((nth Q5.1 Q5.2.2.toNat).2.2.1).2).length) rfl r18.1 h22) (bF bG) (fun _ => (bF bG)) rfl (.cons dl2 .nil) aO) fun u23 => ?_)))))))))
   refine aH rfl (nl (aD ?_))
   refine cY aB fun hn => ?_; rw [hn]
   refine aP (aF rfl (aF rfl (aI (v := elp x_v0.1 (Q5.2.2.toNat * Enc.sz Step + 0)) (q_ixH (k := Q5.2.2.toNat) eB ty111 rfl rfl h14 rfl hs2) (aI (v := elp x_v0.1 (Q5.2.2.toNat * Enc.sz Step + 4)) (q_faH (j := 0) (i := Q5.2.2.toNat) fa111_3 rfl hs2 rfl) (aI (v := .slice x15.2.2.2.1.1 (((nth Q5.1 Q5.2.2.toNat).2.2.2.1).length) x15.2.2.2.1.2) (q_ldH (i := Q5.2.2.toNat) (j := 4) ty23 rfl hs2 rfl) (aF rfl (bdo H1 fun r24 h25 H1 => (f1 (cG (c_laws_markIntS ((nth Q5.1 Q5.2.2.toNat).2.2.2.1) x15.2.2.2.1 (((nth Q5.1 Q5.2.2.toNat).2.2.2.1).length) rfl r21.1 h25) (bF bG) (fun _ => (bF bG)) rfl (.cons dl3 .nil) aO) fun u26 => (aH rfl (nl ?_))))))))))
   refine cY aB fun hn => ?_; rw [hn]
   refine aP (aF rfl (aF rfl (aI (v := elp x_v0.1 (Q5.2.2.toNat * Enc.sz Step + 0)) (q_ixH (k := Q5.2.2.toNat) eB ty111 rfl rfl h14 rfl hs3) (aI (v := elp x_v0.1 (Q5.2.2.toNat * Enc.sz Step + 5)) (q_faH (j := 0) (i := Q5.2.2.toNat) fa111_4 rfl hs3 rfl) (aI (v := .slice x15.2.2.2.2.1 (((nth Q5.1 Q5.2.2.toNat).2.2.2.2).length) x15.2.2.2.2.2) (q_ldH (i := Q5.2.2.toNat) (j := 5) ty30 rfl hs3 rfl) (aF rfl (bdo H1 fun r27 h28 H1 => (f1 (cG (c_laws_markTagSS ((nth Q5.1 Q5.2.2.toNat).2.2.2.2) x15.2.2.2.2 (((nth Q5.1 Q5.2.2.toNat).2.2.2.2).length) rfl r24.1 h28) (bF bG) (fun _ => (bF bG)) rfl (.cons dl4 .nil) aO) fun u29 => (aH rfl (aJ ?_))))))))))
   refine nB (nT (?_))
   refine cY aB fun hn => ?_; rw [hn]
   exact aP (aF rfl (gdo H1 fun h30 H1 => (aG (bR rfl rfl h30) (aH rfl (aJ (At.unzoom (Q5.2.1, (Q5.2.1 + 1), (r18.2, r21.2), r24.2, r27.2) ((), (), x15.2.2.1, x15.2.2.2.1, x15.2.2.2.2) rfl (.cons dl4 (.cons dl3 (.cons dl2 (.cons dl1 (.cons aA .nil))))) (nLI () (hi9 _ (sm H1)) (.cons aA .nil))))))))
  ·refine dA (xT (xT (xE (?_))))
   obtain rfl := hb10 _ (sm H1)
   exact nMC () ⟨rfl, trivial⟩ bT (.cons aA .nil)
 ·intro y7
  show At _ _ [(1, .int .i64 (x1.1))] _ [tree (.slice x_v0.1 v0.length x_v0.2) x1.2] _
  refine nT (sr (aF rfl (aH rfl (nl ?_))))
  obtain rfl := si H
  exact bQ (bk (.cons aA .nil))
noncomputable def p_laws_heldStepS_b0 (v0 : (List Step)) (Q6 : Int × Int) : Option ((Int × Int) ⊕ (Int ⊕ Int)) := cond (decide (Q6.2 < (v0.length : Int))) (gd (ix Q6.2 v0.length) <| cond (!decide (((nth v0 Q6.2.toNat).1) = Q6.1)) (some (.inr (.inr (-1)))) (gd (I64 (Q6.1 + 1)) <| cond (!decide (((nth v0 Q6.2.toNat).2.1) = (Q6.1 + 1))) (some (.inr (.inr (-1)))) (gd (I64 ((Q6.1 + 1) + 1)) <| bd (p_laws_heldIntS (((nth v0 Q6.2.toNat).2.2.1).1) ((Q6.1 + 1) + 1)) fun r20 => cond (decide (r20 < 0)) (some (.inr (.inr (-1)))) (bd (p_laws_heldRowSS (((nth v0 Q6.2.toNat).2.2.1).2) r20) fun r23 => cond (decide (r23 < 0)) (some (.inr (.inr (-1)))) (bd (p_laws_heldIntS ((nth v0 Q6.2.toNat).2.2.2.1) r23) fun r26 => cond (decide (r26 < 0)) (some (.inr (.inr (-1)))) (bd (p_laws_heldTagSS ((nth v0 Q6.2.toNat).2.2.2.2) r26) fun r29 => cond (decide (r29 < 0)) (some (.inr (.inr (-1)))) (gd (I64 (Q6.2 + 1)) <| some (.inl (r29, Q6.2 + 1))))))))) (some (.inr (.inl Q6.1)))
noncomputable def p_laws_heldStepS (v0 : (List Step)) (v1 : Int) : Option (Int) := bd (lp (p_laws_heldStepS_b0 v0) (v1, 0)) <| sw (fun e33 => some e33) (fun q => some q)
theorem c_laws_heldStepS {r : Int} (v0 : (List Step)) (x_v0 : Option Addr × Nat) (v1 : Int) (H : p_laws_heldStepS v0 v1 = some r) : Fn' prog 29 #[.slice x_v0.1 v0.length x_v0.2, .int .i64 (v1)] [imm (.slice x_v0.1 v0.length x_v0.2) v0] [] (ι := Unit) (fun _ => .int .i64 (r)) (fun _ => []) (fun _ => []) := by
 refine cof (args := [_, _]) func29 ntmps29 fun c => ?_
 unfold p_laws_heldStepS at H
 refine bM aR fun X1 => (sr (aH (v := .int .i64 (0)) rfl (nl (aD (sr (aH (v := .int .i64 (0)) rfl (nl (bdo H fun x2 hx3 H => (dC (Λ := Unit) H (fun e33 _ => [(1, .int .i64 (e33))]) (fun _ _ => []) ?_ ?_)))))))))
 ·refine aQ (dE hx3 () (fun Q6 _ => [(0, .slice x_v0.1 v0.length x_v0.2), (1, .int .i64 (Q6.1)), (5, .int .i64 (Q6.2))]) (fun _ _ => []) bK ?_)
  rintro _ Q6 z7 t9 H1 hi10 hb11
  unfold p_laws_heldStepS_b0 at H1
  refine aD (sr (aF rfl (aF rfl (aG (bS 111 eB rfl) (aG (cQ rfl rfl) (nl (cH H1 rfl (fun h14 H1 => ?_) (fun h14 H1 => ?_))))))))
  ·refine bH (nT (aD (aQ (aD (sr (aF rfl (aF rfl (gdo H1 fun h15 H1 => (aI (bW eB ty111 rfl rfl h15 rfl (aL (aT aR))) (aI (bY (j := 0) Q6.2.toNat fa111_0 rfl (aL (aT aR)) h15.lt rfl) (aI (bZ (i := Q6.2.toNat) (j := 0) ty3 rfl (aL (aT aR)) h15.lt rfl) ?_)))))))))))
   refine aF rfl (aG (cS rfl rfl) (nl (cH H1 rfl (fun h16 H1 => ?_) (fun h16 H1 => ?_))))
   ·refine sr (aH (v := .int .i64 (-1)) rfl (nl (bQ (rT (rB (rT (rT (rB (rT (rT (?_)))))))))))
    obtain rfl := hb11 _ (sm H1)
    replace H := sw.r H
    obtain rfl := si H
    exact bk
   ·refine bH (nT (sr (aF rfl (gdo H1 fun h17 H1 => (aG (bR rfl rfl h17) (aH rfl (nl (aD (sr (aF rfl (aF rfl ?_)))))))))))
    refine aI (bW eB ty111 rfl rfl h15 rfl (aL (aT aR))) (aI (bY (j := 0) Q6.2.toNat fa111_1 rfl (aL (aT aR)) h15.lt rfl) (aI (bZ (i := Q6.2.toNat) (j := 1) ty3 rfl (aL (aT aR)) h15.lt rfl) (aF rfl (aG (cS rfl rfl) (nl (cH H1 rfl (fun h18 H1 => ?_) (fun h18 H1 => ?_)))))))
    ·refine sr (aH (v := .int .i64 (-1)) rfl (nl (bQ (rT (rB (rT (rT (rB (rT (rT (?_)))))))))))
     obtain rfl := hb11 _ (sm H1)
     replace H := sw.r H
     obtain rfl := si H
     exact bk
    ·refine bH (nT (sr (aF rfl (gdo H1 fun h19 H1 => (aG (bR rfl rfl h19) (aH rfl (nl (sr (aF rfl (aF rfl ?_))))))))))
     refine aI (bW eB ty111 rfl rfl h15 rfl (aL (aT aR))) (aI (bY (j := 0) Q6.2.toNat fa111_2 rfl (aL (aT aR)) h15.lt rfl) (aI (bY (j := 2) Q6.2.toNat fa75_0 rfl (aL (aT aR)) h15.lt rfl) (aI (bZ (i := Q6.2.toNat) (j := 2) ty23 rfl (aL (aT aR)) h15.lt rfl) (aF rfl (bdo H1 fun r20 h21 H1 => (aI (bN (c_laws_heldIntS (((nth v0 Q6.2.toNat).2.2.1).1) ((((X1 Q6.2.toNat).2.2.1).1).1, (((X1 Q6.2.toNat).2.2.1).1).2.1) ((Q6.1 + 1) + 1) h21) rfl (aC (aL (aS (aV (aV (aU (aU (aW aR h15.lt))))))) aO)) (aH rfl (nl (aD (sr (aF rfl ?_)))))))))))
     refine aG (cQ rfl rfl) (nl (cH H1 rfl (fun h22 H1 => ?_) (fun h22 H1 => ?_)))
     ·refine sr (aH (v := .int .i64 (-1)) rfl (nl (bQ (rT (rB (rT (rT (rB (rT (rT (?_)))))))))))
      obtain rfl := hb11 _ (sm H1)
      replace H := sw.r H
      obtain rfl := si H
      exact bk
     ·refine bH (nT (sr (aF rfl (aF rfl (aI (bW eB ty111 rfl rfl h15 rfl (aL (aT aR))) (aI (bY (j := 0) Q6.2.toNat fa111_2 rfl (aL (aT aR)) h15.lt rfl) (aI (bY (j := 2) Q6.2.toNat fa75_1 rfl (aL (aT aR)) h15.lt rfl) (aI (bZ (i := Q6.2.toNat) (j := 3) ty73 rfl (aL (aT aR)) h15.lt rfl) (aF rfl ?_)))))))))
      refine bdo H1 fun r23 h24 H1 => (aI (bN (c_laws_heldRowSS (((nth v0 Q6.2.toNat).2.2.1).2) ((((X1 Q6.2.toNat).2.2.1).2).1, (((X1 Q6.2.toNat).2.2.1).2).2.1) r20 h24) rfl (aC (aL (aS (aU (aV (aU (aU (aW aR h15.lt))))))) aO)) (aH rfl (nl (aD (sr (aF rfl (aG (cQ rfl rfl) (nl (cH H1 rfl (fun h25 H1 => ?_) (fun h25 H1 => ?_))))))))))
      ·refine sr (aH (v := .int .i64 (-1)) rfl (nl (bQ (rT (rB (rT (rT (rB (rT (rT (?_)))))))))))
       obtain rfl := hb11 _ (sm H1)
       replace H := sw.r H
       obtain rfl := si H
       exact bk
      ·refine bH (nT (sr (aF rfl (aF rfl (aI (bW eB ty111 rfl rfl h15 rfl (aL (aT aR))) (aI (bY (j := 0) Q6.2.toNat fa111_3 rfl (aL (aT aR)) h15.lt rfl) (aI (bZ (i := Q6.2.toNat) (j := 4) ty23 rfl (aL (aT aR)) h15.lt rfl) (aF rfl (bdo H1 fun r26 h27 H1 => ?_)))))))))
       refine aI (bN (c_laws_heldIntS ((nth v0 Q6.2.toNat).2.2.2.1) (((X1 Q6.2.toNat).2.2.2.1).1, ((X1 Q6.2.toNat).2.2.2.1).2.1) r23 h27) rfl (aC (aL (aS (aV (aU (aU (aU (aW aR h15.lt))))))) aO)) (aH rfl (nl (aD (sr (aF rfl (aG (cQ rfl rfl) (nl (cH H1 rfl (fun h28 H1 => ?_) (fun h28 H1 => ?_)))))))))
       ·refine sr (aH (v := .int .i64 (-1)) rfl (nl (bQ (rT (rB (rT (rT (rB (rT (rT (?_)))))))))))
        obtain rfl := hb11 _ (sm H1)
        replace H := sw.r H
        obtain rfl := si H
        exact bk
       ·refine bH (nT (sr (aF rfl (aF rfl (aI (bW eB ty111 rfl rfl h15 rfl (aL (aT aR))) (aI (bY (j := 0) Q6.2.toNat fa111_4 rfl (aL (aT aR)) h15.lt rfl) (aI (bZ (i := Q6.2.toNat) (j := 5) ty30 rfl (aL (aT aR)) h15.lt rfl) (aF rfl (bdo H1 fun r29 h30 H1 => ?_)))))))))
        refine aI (bN (c_laws_heldTagSS ((nth v0 Q6.2.toNat).2.2.2.2) (((X1 Q6.2.toNat).2.2.2.2).1, ((X1 Q6.2.toNat).2.2.2.2).2.1) r26 h30) rfl (aC (aL (aS (aU (aU (aU (aU (aW aR h15.lt))))))) aO)) (aH rfl (nl (sr (aF rfl (aG (cQ rfl rfl) (nl (cH H1 rfl (fun h31 H1 => ?_) (fun h31 H1 => ?_))))))))
        ·refine sr (aH (v := .int .i64 (-1)) rfl (nl (bQ (rB (rT (rT (rB (rT (rT (?_))))))))))
         obtain rfl := hb11 _ (sm H1)
         replace H := sw.r H
         obtain rfl := si H
         exact bk
        ·exact bH (nB (nT (aP (aF rfl (gdo H1 fun h32 H1 => (aG (bR rfl rfl h32) (aH rfl (aJ (nLI () (hi10 _ (sm H1)) bK)))))))))
  ·exact dA (xT (xT (xE (nMI () (hb11 _ (sm H1)) bK))))
 ·rintro e33 y8 H
  refine nT (sr (aF rfl (aH rfl (nl ?_))))
  obtain rfl := si H
  exact bQ bk
noncomputable def p_laws_FnExactStepsFlush (v0 : Disk) (v1 : Store) : Option (Bool) := bd (p_laws_szDisk v0 1048576) fun r8 => cond (decide (r8 < 0)) (some true) (bd (p_laws_szStore v1 r8) fun r11 => cond (decide (r11 < 0)) (some true) (bd (p_laws_toDisk v0) fun r14 => bd (p_laws_toStore v1) fun r17 => bd (p_spec_StepsFlush r14 r17) fun r20 => bd (p_impl_StepsFlush r14 r17) fun r27 => bd (p_laws_eqStepS r27 r20) fun r30 => cond (!r30) (some false) (bd (p_laws_eqDisk r14 r14) fun r34 => cond (!r34) (some false) (bd (p_laws_eqStore r17 r17) fun r38 => cond (!r38) (some false) (bd (p_laws_markDisk r14 1) fun r41 => bd (p_laws_markStore r17 r41.1) fun r44 => bd (cond (decide (r44.1 < 0)) (some (true)) (some (!r30))) fun b47 => cond (b47) (some false) (bd (p_laws_markStepS r27 1) fun r51 => bd (p_laws_heldStepS r51.2 1) fun r54 => cond (decide (r54 < 0)) (some false) (cond (!decide (r54 = r51.1)) (some false) (cond (!r30) (some false) (cond (decide (r54 < 0)) (some false) (cond (!decide (r54 = r51.1)) (some false) (some true)))))))))))
theorem c_laws_FnExactStepsFlush {r : Bool} (v0 : Disk) (x_v0 : (Option Addr × Nat) × (Option Addr × Nat) × (Option Addr × Nat) × Unit) (v1 : Store) (x_v1 : ((Option Addr × Nat) × (Option Addr × Nat)) × (Option Addr × Nat) × (Option Addr × Nat)) (H : p_laws_FnExactStepsFlush v0 v1 = some r) : Fn' prog 6 #[.agg #[.slice x_v0.1.1 v0.1.length x_v0.1.2, .slice x_v0.2.1.1 v0.2.1.length x_v0.2.1.2, .slice x_v0.2.2.1.1 v0.2.2.1.length x_v0.2.2.1.2, .int .i64 (v0.2.2.2)], .agg #[.slice x_v1.1.1.1 v1.1.1.length x_v1.1.1.2, .slice x_v1.1.2.1 v1.1.2.length x_v1.1.2.2, .slice x_v1.2.1.1 v1.2.1.length x_v1.2.1.2, .slice x_v1.2.2.1 v1.2.2.length x_v1.2.2.2]] [imm (.slice x_v0.1.1 v0.1.length x_v0.1.2) v0.1, imm (.slice x_v0.2.1.1 v0.2.1.length x_v0.2.1.2) v0.2.1, imm (.slice x_v0.2.2.1.1 v0.2.2.1.length x_v0.2.2.1.2) v0.2.2.1, imm (.slice x_v1.1.1.1 v1.1.1.length x_v1.1.1.2) v1.1.1, imm (.slice x_v1.1.2.1 v1.1.2.length x_v1.1.2.2) v1.1.2, imm (.slice x_v1.2.1.1 v1.2.1.length x_v1.2.1.2) v1.2.1, imm (.slice x_v1.2.2.1 v1.2.2.length x_v1.2.2.2) v1.2.2] [] (ι := Unit) (fun _ => .bool (r)) (fun _ => []) (fun _ => []) := by
 refine cof (args := [_, _]) func6 ntmps6 fun c => ?_
 unfold p_laws_FnExactStepsFlush at H
 refine bM aR fun X1 => (bM aR.s.s.s fun X2 => (bM aR.s.s.s.s.s fun X3 => (bM aR.s.s.s.s.s.s.s fun X4 => (bM aR.s.s.s.s.s.s.s.s.s fun X5 => (sr (f1 (cC (t := 26) rfl) fun g6 => (f1 (cC (t := 54) rfl) fun g7 => (aH (v := .bool (false)) rfl (nl (sr ?_))))))))))
 refine aH (v := .int .i64 (1048576)) rfl (nl (sr (aI (bJ ty26 rfl hs1 rfl) (aF (v := .int .i64 (1048576)) rfl (bdo H fun r8 h9 H => (aI (bN (c_laws_szDisk v0 (x_v0.1, x_v0.2.1, x_v0.2.2.1, ()) 1048576 h9) rfl (aC (aL (aS aR.s.s.s.s)) (aC (aL aR.s.s.s.s.s.s) (aC (aL (aS aR.s.s.s)) aO)))) (aH rfl (nl (aD (sr (aF rfl (aG (cQ rfl rfl) (nl ?_)))))))))))))
 refine cH H rfl (fun h10 H => ?_) (fun h10 H => ?_)
 ·refine sr (aH (v := .bool (true)) rfl (nl (bQ (rT (?_)))))
  obtain rfl := si H
  exact bk
 ·refine bH (nT (sr (aI (bJ ty54 rfl aB rfl) (aF rfl (bdo H fun r11 h12 H => (aI (bN (c_laws_szStore v1 x_v1 r8 h12) rfl (aC (aL (aS aR.s.s)) (aC (aL (aS aR.s)) (aC (aL (aS aR)) (aC (aL aR.s.s.s.s.s.s.s.s.s.s.s) aO))))) (aH rfl (nl (aD (sr (aF rfl ?_)))))))))))
  refine aG (cQ rfl rfl) (nl (cH H rfl (fun h13 H => ?_) (fun h13 H => ?_)))
  ·refine sr (aH (v := .bool (true)) rfl (nl (bQ (rT (?_)))))
   obtain rfl := si H
   exact bk
  ·refine bH (nT (aD (dG [(3, .pointer (some ⟨g7, 0, none⟩)), (2, .pointer (some ⟨g6, 0, none⟩))] 1 [0, 2, 1, 3, 4, 5] [1, 3, 4] [] mixed (by kernel_rfl) (by decide) dI ⟨rfl, rfl, trivial⟩ rfl okNil ?_)))
   refine w_o rfl (fun F => (bJ ty26 rfl (hs1.app F) rfl)) ?_
   refine w_o rfl (fun F => (bJ ty54 rfl (aB.app F) rfl)) (bdo H fun r14 h15 H => (cJ rfl (by decide) rfl cN rfl (n_call (Fn'.frz (Fn'.frz (Fn'.frz (c_laws_toDisk v0 (x_v0.1, x_v0.2.1, x_v0.2.2.1, ()) h15)))) rfl (cL (aS aR.s.s.s.s) (cL aR.s.s.s.s.s.s (cL (aS aR.s.s.s) cM))) bK) ?_))
   rintro _ _ _ ⟨x16, rfl, rfl, rfl⟩
   refine ⟨(bV rfl rfl (fun F => (bJ ty54 rfl (aB.app F) rfl)) (aM (by kernel_rfl) bU)), ?_⟩
   refine bdo H fun r17 h18 H => (cJ rfl (by decide) rfl cN rfl (n_call (Fn'.frz (Fn'.frz (Fn'.frz (Fn'.frz (c_laws_toStore v1 x_v1 h18))))) rfl (cL (aS aR.s.s.s.s.s) (cL (aS aR.s.s.s.s) (cL (aS aR.s.s.s) (cL aR.s.s.s.s.s.s.s.s.s.s.s.s.s.s cM)))) bK) ?_)
   rintro _ _ _ ⟨x19, rfl, rfl, rfl⟩
   refine ⟨(aM (by kernel_rfl) (bV rfl rfl (fun F => (bJ ty26 rfl (hs1.app F) rfl)) bU)), ?_⟩
   refine bdo H fun r20 h21 H => (cJ rfl (by decide) rfl cN rfl (n_call (c_spec_StepsFlush r14 (x16.1, x16.2.1, x16.2.2.1, ()) r17 x19 h21) rfl (cL aR.s.s.s.s.s.s (cL aR.s.s.s.s.s (cL aR.s.s.s.s (cL aR.s.s.s (cL aR.s.s (cL aR.s (cL aR cM))))))) bK) ?_)
   rintro _ _ _ ⟨x22, rfl, rfl, rfl⟩
   refine ⟨(bV rfl rfl (fun F => (bJ ty54 rfl (aB.app F) rfl)) (bV rfl rfl (fun F => (bJ ty26 rfl (hs1.app F) rfl)) bU)), ?_⟩
   refine w_p rfl (p_assign rfl) (cK (nT (sr (aI (bJ ty26 rfl hs1 rfl) (f1 (cF (c_laws_toDisk v0 (x_v0.1, x_v0.2.1, x_v0.2.2.1, ()) h15) (fun _ => (bF (bF (bF bG)))) rfl (aC (aL (aS aR.s.s.s.s.s.s.s.s.s.s.s.s)) (aC (aL aR.s.s.s.s.s.s.s.s.s.s.s.s.s.s) (aC (aL (aS aR.s.s.s.s.s.s.s.s.s.s.s)) aO)))) fun x23 => (f1 (cD ty32) fun g24 => (stb (cs' := [.slice x23.1.1 r14.1.length x23.1.2, .slice x23.2.1.1 r14.2.1.length x23.2.1.2, .slice x23.2.2.1.1 r14.2.2.1.length x23.2.2.1.2, .int .i64 (r14.2.2.2)]) ty32 cZ (nl (sr ?_)))))))))
   refine aI (bJ ty54 rfl hs4 rfl) (f1 (cF (c_laws_toStore v1 x_v1 h18) (fun _ => (bF (bF (bF (bF bG))))) rfl (aC (aL (aS aR.s.s.s.s.s.s.s.s.s.s)) (aC (aL (aS aR.s.s.s.s.s.s.s.s.s)) (aC (aL (aS aR.s.s.s.s.s.s.s.s)) (aC (aL aR.s.s.s.s.s.s.s.s.s.s.s.s.s.s.s.s.s.s.s) aO))))) fun x25 => (f1 (cD ty42) fun g26 => (stb (cs' := [.slice x25.1.1.1 r17.1.1.length x25.1.1.2, .slice x25.1.2.1 r17.1.2.length x25.1.2.2, .slice x25.2.1.1 r17.2.1.length x25.2.1.2, .slice x25.2.2.1 r17.2.2.length x25.2.2.2]) ty42 cZ (nl (sr (aI (bJ ty32 rfl hs5 rfl) (aI (bJ ty42 rfl aB rfl) (bdo H fun r27 h28 H => (f1 (cF (c_impl_StepsFlush r14 (x23.1, x23.2.1, x23.2.2.1, ()) r17 x25 h28) (fun _ => (bF bG)) rfl (aC (bL (hs5t hs1)) (aC (bL (hs5t hs2)) (aC (bL (hs5t hs3)) (aC (bL hs1) (aC (bL hs2) (aC (bL hs3) (aC (bL hs4) aO)))))))) fun x29 => ?_)))))))))
   refine aH rfl (nl (aD (sr (aF rfl (aF rfl (bdo H fun r30 h31 H => (aI (bN (c_laws_eqStepS r27 x29 r20 x22 h31) rfl (aC (bL aB) (aC (aL aR) aO))) (aG (cW rfl) (nl (cH H rfl (fun h32 H => ?_) (fun h32 H => ?_)))))))))))
   ·refine sr (aH (v := .bool (false)) rfl (nl (bQ (rT (?_)))))
    obtain rfl := si H
    exact bk
   ·refine bH (nT (aD (aD (dG [(9, .slice x29.1 r27.length x29.2), (8, .pointer (some ⟨g26, 0, none⟩)), (7, .pointer (some ⟨g24, 0, none⟩)), (6, .slice x22.1 r20.length x22.2), (3, .pointer (some ⟨g7, 0, none⟩)), (2, .pointer (some ⟨g6, 0, none⟩))] 2 [0, 1, 2, 3, 4] [2] [] mixed (by kernel_rfl) (by decide) dI ⟨rfl, rfl, rfl, rfl, rfl, rfl, trivial⟩ rfl okNil ?_))))
    refine w_o rfl (fun F => (bJ ty32 rfl ((hs5t hs1).app F) rfl)) ?_
    refine w_o rfl (fun F => (bJ ty26 rfl ((hs5t (hs5t hs1)).app F) rfl)) (cJ rfl (by decide) rfl cN rfl (cE (c_laws_toDisk v0 (x_v0.1, x_v0.2.1, x_v0.2.2.1, ()) h15) (fun _ => (bF (bF (bF bG)))) rfl (aC (aL (aS aR.s.s.s.s.s.s.s.s.s.s.s.s)) (aC (aL aR.s.s.s.s.s.s.s.s.s.s.s.s.s.s) (aC (aL (aS aR.s.s.s.s.s.s.s.s.s.s.s)) aO)))) ?_)
    rintro _ _ _ ⟨x33, rfl, rfl, rfl⟩
    refine ⟨(aM (by kernel_rfl) (bV rfl rfl (fun F => (bJ ty32 rfl ((hs5t hs4).app F) rfl)) bU)), ?_⟩
    refine bdo H fun r34 h35 H => ?_
    refine w_o rfl (fun F => (bN (c_laws_eqDisk r14 (x23.1, x23.2.1, x23.2.2.1, ()) r14 (x33.1, x33.2.1, x33.2.2.1, ()) h35) rfl (aC (bL ((hs5t hs5).app F)) (aC (bL ((hs5t (hs5t hs1)).app F)) (aC (bL ((hs5t (hs5t hs2)).app F)) (aC (bL (aB.app F)) (aC (bL (hs1.app F)) (aC (bL (hs2.app F)) aO)))))))) (w_p rfl (cW rfl) (cK (nT (cH H rfl (fun h36 H => ?_) (fun h36 H => ?_)))))
    ·refine sr (aH (v := .bool (false)) rfl (nl (bQ (rT (?_)))))
     obtain rfl := si H
     exact bk
    ·refine bH (nT (aD (aD (dG [(9, .slice x29.1 r27.length x29.2), (8, .pointer (some ⟨g26, 0, none⟩)), (7, .pointer (some ⟨g24, 0, none⟩)), (6, .slice x22.1 r20.length x22.2), (3, .pointer (some ⟨g7, 0, none⟩)), (2, .pointer (some ⟨g6, 0, none⟩))] 2 [0, 1, 2, 3, 4] [2] [] mixed (by kernel_rfl) (by decide) dI ⟨rfl, rfl, rfl, rfl, rfl, rfl, trivial⟩ rfl okNil ?_))))
     refine w_o rfl (fun F => (bJ ty42 rfl (hs4.app F) rfl)) ?_
     refine w_o rfl (fun F => (bJ ty54 rfl ((hs5t (hs5t hs3)).app F) rfl)) (cJ rfl (by decide) rfl cN rfl (cE (c_laws_toStore v1 x_v1 h18) (fun _ => (bF (bF (bF (bF bG))))) rfl (aC (aL (aS aR.s.s.s.s.s.s.s.s.s.s)) (aC (aL (aS aR.s.s.s.s.s.s.s.s.s)) (aC (aL (aS aR.s.s.s.s.s.s.s.s)) (aC (aL aR.s.s.s.s.s.s.s.s.s.s.s.s.s.s.s.s.s.s.s) aO))))) ?_)
     rintro _ _ _ ⟨x37, rfl, rfl, rfl⟩
     refine ⟨(aM (by kernel_rfl) (bV rfl rfl (fun F => (bJ ty42 rfl ((hs5t hs3).app F) rfl)) bU)), ?_⟩
     refine bdo H fun r38 h39 H => ?_
     refine w_o rfl (fun F => (bN (c_laws_eqStore r17 x25 r17 x37 h39) rfl (aC (bL ((hs5t hs4).app F)) (aC (bL ((hs5t hs5).app F)) (aC (bL ((hs5t (hs5t hs1)).app F)) (aC (bL ((hs5t (hs5t hs2)).app F)) (aC (bL (aB.app F)) (aC (bL (hs1.app F)) (aC (bL (hs2.app F)) (aC (bL (hs3.app F)) aO)))))))))) (w_p rfl (cW rfl) (cK (nT (cH H rfl (fun h40 H => ?_) (fun h40 H => ?_)))))
     ·refine sr (aH (v := .bool (false)) rfl (nl (bQ (rT (?_)))))
      obtain rfl := si H
      exact bk
     ·refine bH (nT (sr (aH (v := .int .i64 (1)) rfl (nl (sr (aI (bJ ty32 rfl (hs5t (hs5t hs3)) rfl) (aF (v := .int .i64 (1)) rfl (bdo H fun r41 h42 H => (f1 (cG (c_laws_markDisk r14 (x23.1, x23.2.1, x23.2.2.1, ()) 1 h42) (bF (bF (bF bG))) (fun _ => (bF (bF (bF bG)))) rfl (.cons (dl5t (dl5t dl4)) (.cons (dl5t (dl5t dl4)) (.cons (dl5t (dl5t dl4)) .nil))) aO) fun u43 => (aH rfl (nl ?_)))))))))))
      refine sr (aI (bJ ty42 rfl (hs5t (hs5t hs1)) rfl) (aF rfl (bdo H fun r44 h45 H => (f1 (cG (c_laws_markStore r17 x25 r41.1 h45) (bF (bF (bF (bF bG)))) (fun _ => (bF (bF (bF (bF bG))))) rfl (.cons (dl5t (dl5t dl2)) (.cons (dl5t (dl5t dl2)) (.cons (dl5t (dl5t dl2)) (.cons (dl5t (dl5t dl2)) .nil)))) aO) fun u46 => (aH rfl (nl (aD (bdo H fun b47 j48 H => (dD [(63, .bool (b47)), (9, .slice x29.1 r27.length x29.2), (6, .slice x22.1 r20.length x22.2), (3, .pointer (some ⟨g7, 0, none⟩)), (2, .pointer (some ⟨g6, 0, none⟩))] ?_ ?_)))))))))
      ·refine dH [(10, .int .i64 (r44.1)), (9, .slice x29.1 r27.length x29.2), (6, .slice x22.1 r20.length x22.2), (3, .pointer (some ⟨g7, 0, none⟩)), (2, .pointer (some ⟨g6, 0, none⟩))] ⟨rfl, rfl, rfl, rfl, rfl, trivial⟩ (bB rfl (aX (cQ rfl rfl) ?_))
       rcases aK (decide (r44.1 < 0)) with h49 | h49
       ·have j48 := cdT h49 j48
        refine bC (aE rfl) h49 ?_
        iterate 4 refine bE rfl ?_
        refine aX (v := .bool (true)) (bP rfl rfl) ?_
        obtain rfl := si j48
        show At _ _ _ _ _ _
        exact n1 ⟨rfl, rfl, rfl, rfl, rfl, trivial⟩
       ·have j48 := cdF h49 j48
        refine bC (aE rfl) h49 (aY rfl (aE rfl) (aY rfl (aE rfl) (bA rfl (bN (c_laws_eqStepS r27 x29 r20 x22 h31) rfl (aC (bL (hs5t (hs5t hs4))) (aC (aL aR) aO))) (aY rfl (cW rfl) (aX (bO rfl rfl) ?_)))))
        obtain rfl := si j48
        show At _ _ _ _ _ _
        exact n1 ⟨rfl, rfl, rfl, rfl, rfl, trivial⟩
      refine cH H rfl (fun h50 H => ?_) (fun h50 H => ?_)
      ·refine sr (aH (v := .bool (false)) rfl (nl (bQ (rT (?_)))))
       obtain rfl := si H
       exact bk
      ·refine bH (nT (sr (aH (v := .int .i64 (1)) rfl (nl (sr (aF rfl (aF (v := .int .i64 (1)) rfl (bdo H fun r51 h52 H => (f1 (cG (c_laws_markStepS r27 x29 r27.length rfl 1 h52) (bF bG) (fun _ => (bF bG)) rfl (.cons (dl5t (dl5t dl4)) .nil) aO) fun u53 => (aH rfl (nl ?_)))))))))))
       refine aD ?_
       refine cY aB fun hn => ?_; rw [hn]
       refine cY hs1 fun hn => ?_; rw [hn]
       refine cY hs2 fun hn => ?_; rw [hn]
       refine cY hs3 fun hn => ?_; rw [hn]
       refine cY hs4 fun hn => ?_; rw [hn]
       refine cY hs5 fun hn => ?_; rw [hn]
       refine cY (hs5t hs1) fun hn => ?_; rw [hn]
       refine cY (hs5t hs2) fun hn => ?_; rw [hn]
       refine cY (hs5t hs3) fun hn => ?_; rw [hn]
       refine cY (hs5t hs4) fun hn => ?_; rw [hn]
       refine cY (hs5t hs5) fun hn => ?_; rw [hn]
       refine cY (hs5t (hs5t hs1)) fun hn => ?_; rw [hn]
       refine cY (hs5t (hs5t hs2)) fun hn => ?_; rw [hn]
       refine cY (hs5t (hs5t hs3)) fun hn => ?_; rw [hn]
       refine cY (hs5t (hs5t hs4)) fun hn => ?_; rw [hn]
       refine aP (aH (v := .int .i64 (1)) rfl (nl (aD ?_)))
       refine cY hs1 fun hn => ?_; rw [hn]
       refine cY hs2 fun hn => ?_; rw [hn]
       refine cY hs3 fun hn => ?_; rw [hn]
       refine cY hs4 fun hn => ?_; rw [hn]
       refine cY hs5 fun hn => ?_; rw [hn]
       refine cY (hs5t hs1) fun hn => ?_; rw [hn]
       refine cY (hs5t hs2) fun hn => ?_; rw [hn]
       refine cY (hs5t hs3) fun hn => ?_; rw [hn]
       refine cY (hs5t hs4) fun hn => ?_; rw [hn]
       refine cY (hs5t hs5) fun hn => ?_; rw [hn]
       refine cY (hs5t (hs5t hs1)) fun hn => ?_; rw [hn]
       refine cY (hs5t (hs5t hs2)) fun hn => ?_; rw [hn]
       refine cY (hs5t (hs5t hs3)) fun hn => ?_; rw [hn]
       refine cY (hs5t (hs5t hs4)) fun hn => ?_; rw [hn]
       refine aP (aF rfl (aF (v := .int .i64 (1)) rfl (bdo H fun r54 h55 H => (aI (bN (c_laws_heldStepS r51.2 x29 1 h55) rfl (aC (bL aB) aO)) (aH rfl (nl (aD (sr (aF rfl (aG (cQ rfl rfl) (nl (cH H rfl (fun h56 H => ?_) (fun h56 H => ?_)))))))))))))
       ·refine sr (aH (v := .bool (false)) rfl (nl (bQ (rT (?_)))))
        obtain rfl := si H
        exact bk
       ·refine bH (nT (aD (sr (aF rfl (aF rfl (aG (cS rfl rfl) (nl (cH H rfl (fun h57 H => ?_) (fun h57 H => ?_)))))))))
        ·refine sr (aH (v := .bool (false)) rfl (nl (bQ (rT (?_)))))
         obtain rfl := si H
         exact bk
        ·refine bH (nT (aD (dG [(11, .int .i64 (r51.1)), (9, .slice x29.1 r51.2.length x29.2), (6, .slice x22.1 r20.length x22.2), (3, .pointer (some ⟨g7, 0, none⟩)), (2, .pointer (some ⟨g6, 0, none⟩))] 1 [0, 2, 1, 3, 4, 5] [1, 3, 4] [] mixed (by kernel_rfl) (by decide) dI ⟨rfl, rfl, rfl, rfl, rfl, trivial⟩ rfl okNil ?_)))
         refine w_o rfl (fun F => (bJ ty26 rfl ((hs5t (hs5t (hs5t hs3))).app F) rfl)) ?_
         refine w_o rfl (fun F => (bJ ty54 rfl ((hs5t (hs5t (hs5t hs2))).app F) rfl)) (cJ rfl (by decide) rfl cN rfl (cE (c_laws_toDisk v0 (x_v0.1, x_v0.2.1, x_v0.2.2.1, ()) h15) (fun _ => (bF (bF (bF bG)))) rfl (aC (aL (aS aR.s.s.s.s.s.s.s.s.s.s.s.s)) (aC (aL aR.s.s.s.s.s.s.s.s.s.s.s.s.s.s) (aC (aL (aS aR.s.s.s.s.s.s.s.s.s.s.s)) aO)))) ?_)
         rintro _ _ _ ⟨x58, rfl, rfl, rfl⟩
         refine ⟨(bV rfl rfl (fun F => (bJ ty54 rfl ((hs5t (hs5t (hs5t hs5))).app F) rfl)) (aM (by kernel_rfl) bU)), ?_⟩
         refine cJ rfl (by decide) rfl cN rfl (cE (c_laws_toStore v1 x_v1 h18) (fun _ => (bF (bF (bF (bF bG))))) rfl (aC (aL (aS aR.s.s.s.s.s.s.s.s.s.s)) (aC (aL (aS aR.s.s.s.s.s.s.s.s.s)) (aC (aL (aS aR.s.s.s.s.s.s.s.s)) (aC (aL aR.s.s.s.s.s.s.s.s.s.s.s.s.s.s.s.s.s.s.s) aO))))) ?_
         rintro _ _ _ ⟨x59, rfl, rfl, rfl⟩
         refine ⟨(aM (by kernel_rfl) (bV rfl rfl (fun F => (bJ ty26 rfl ((hs5t (hs5t (hs5t (hs5t hs5)))).app F) rfl)) bU)), ?_⟩
         refine cJ rfl (by decide) rfl cN rfl (cE (c_impl_StepsFlush r14 (x58.1, x58.2.1, x58.2.2.1, ()) r17 x59 h28) (fun _ => (bF bG)) rfl (aC (bL hs4) (aC (bL hs5) (aC (bL (hs5t hs1)) (aC (bL aB) (aC (bL hs1) (aC (bL hs2) (aC (bL hs3) aO)))))))) ?_
         rintro _ _ _ ⟨x60, rfl, rfl, rfl⟩
         refine ⟨(bV rfl rfl (fun F => (bJ ty54 rfl ((hs5t (hs5t (hs5t (hs5t hs5)))).app F) rfl)) (bV rfl rfl (fun F => (bJ ty26 rfl ((hs5t (hs5t (hs5t (hs5t (hs5t hs1))))).app F) rfl)) bU)), ?_⟩
         refine w_p rfl (p_assign rfl) (cK (nT (aD (sr (aF rfl (aF rfl (aI (bN (c_laws_eqStepS r27 x60 r20 x22 h31) rfl (aC (bL aB) (aC (aL aR) aO))) (aG (cW rfl) (nl (cH H rfl (fun h61 H => ?_) (fun h61 H => ?_)))))))))))
         ·refine sr (aH (v := .bool (false)) rfl (nl (bQ (rT (?_)))))
          obtain rfl := si H
          exact bk
         ·refine bH (nT (sr (aH (v := .int .i64 (1)) rfl (nl (sr (aF rfl (aF (v := .int .i64 (1)) rfl (aI (bN (c_laws_heldStepS r51.2 x29 1 h55) rfl (aC (bL (hs5t hs3)) aO)) (aH rfl (nl (aD (sr ?_))))))))))))
          refine aF rfl (aG (cQ rfl rfl) (nl (cH H rfl (fun h62 H => ?_) (fun h62 H => ?_))))
          ·refine sr (aH (v := .bool (false)) rfl (nl (bQ (rT (?_)))))
           obtain rfl := si H
           exact bk
          ·refine bH (nT (aD (sr (aF rfl (aF rfl (aG (cS rfl rfl) (nl (cH H rfl (fun h63 H => ?_) (fun h63 H => ?_)))))))))
           ·refine sr (aH (v := .bool (false)) rfl (nl (bQ (rT (?_)))))
            obtain rfl := si H
            exact bk
           ·refine bH (nT (sr (aH (v := .bool (true)) rfl (nl ?_))))
            obtain rfl := si H
            exact bQ bk
noncomputable def p_laws_heldFileS_b0 (v0 : (List File)) (Q6 : Int × Int) : Option ((Int × Int) ⊕ (Int ⊕ Int)) := cond (decide (Q6.2 < (v0.length : Int))) (gd (ix Q6.2 v0.length) <| cond (!decide (((nth v0 Q6.2.toNat).1) = Q6.1)) (some (.inr (.inr (-1)))) (gd (I64 (Q6.1 + 1)) <| bd (p_laws_heldIntS (((nth v0 Q6.2.toNat).2).1) (Q6.1 + 1)) fun r18 => cond (decide (r18 < 0)) (some (.inr (.inr (-1)))) (bd (p_laws_heldRowSS (((nth v0 Q6.2.toNat).2).2) r18) fun r21 => cond (decide (r21 < 0)) (some (.inr (.inr (-1)))) (gd (I64 (Q6.2 + 1)) <| some (.inl (r21, Q6.2 + 1)))))) (some (.inr (.inl Q6.1)))
noncomputable def p_laws_heldFileS (v0 : (List File)) (v1 : Int) : Option (Int) := bd (lp (p_laws_heldFileS_b0 v0) (v1, 0)) <| sw (fun e25 => some e25) (fun q => some q)
noncomputable def p_laws_heldDisk (v0 : Disk) (v1 : Int) : Option (Int) := bd (p_laws_heldFileS v0.1 v1) fun r4 => cond (decide (r4 < 0)) (some (-1)) (bd (p_laws_heldIntS v0.2.1 r4) fun r7 => cond (decide (r7 < 0)) (some (-1)) (bd (p_laws_heldTagSS v0.2.2.1 r7) fun r10 => cond (decide (r10 < 0)) (some (-1)) (some r10)))
theorem mt_total (k : Int) (h0 : 0 ≤ k) (hk : k ≤ 1152921504606846976) : ∃ t, p_laws_markText k = some t := by
 unfold p_laws_markText
 by_cases hz : k ≤ 0
 ·simp [hz]
 ·simp only [hz, decide_false, cond_false]
  obtain ⟨e, he, hs⟩ := lp.rule (body := p_laws_markText_b0) (fun σ => 0 ≤ σ.1 ∧ ∃ j, j ≤ 61 ∧ σ.2.size + j ≤ 61 ∧ σ.1 < (2 : Int) ^ j) (fun σ => σ.1.toNat) (fun e => e.size ≤ 61) (fun σ hI => by
   obtain ⟨i0, j, j1, j2, j3⟩ := hI
   unfold p_laws_markText_b0
   by_cases hp : 0 < σ.1
   ·left
    have hj : 0 < j := by
     rcases Nat.eq_zero_or_pos j with rfl | h
     ·simp at j3; omega
     ·exact h
    have hpow : (2 : Int) ^ j = 2 * 2 ^ (j - 1) := by
     rw [show j = (j - 1) + 1 by omega, Int.pow_succ]; simp; omega
    have hbig : (2 : Int) ^ j ≤ 2 ^ 61 := by
     have : (2 : Nat) ^ j ≤ 2 ^ 61 := Nat.pow_le_pow_right (by decide) j1
     have h2 : ((2 ^ j : Nat) : Int) ≤ ((2 ^ 61 : Nat) : Int) := by omega
     simpa using h2
    have hm : 0 ≤ σ.1.tmod 10 ∧ σ.1.tmod 10 < 10 := by
     rw [Int.tmod_eq_emod_of_nonneg i0]; omega
    have hd : σ.1.tdiv 10 = σ.1 / 10 := Int.tdiv_eq_ediv_of_nonneg i0
    have g1 : I64 (σ.1.tmod 10) := by unfold I64; omega
    have g2 : I64 (48 + σ.1.tmod 10) := by unfold I64; omega
    have g3 : I64 (σ.1.tdiv 10) := by rw [hd]; unfold I64; omega
    have g4 : room ((s2 [b8 (48 + σ.1.tmod 10)]).size + σ.2.size) := by
     have : (s2 [b8 (48 + σ.1.tmod 10)]).size = 1 := rfl
     unfold room; omega
    refine ⟨(σ.1.tdiv 10, s2 [b8 (48 + σ.1.tmod 10)] ++ σ.2), by simp only [hp, decide_true, cond_true, gd.yes g1, gd.yes g2, gd.yes g3, gd.yes g4], ⟨by rw [hd]; show 0 ≤ σ.1 / 10; omega, j - 1, by omega, ?_, ?_⟩, ?_⟩
    ·have : (s2 [b8 (48 + σ.1.tmod 10)] ++ σ.2).size = 1 + σ.2.size := by rw [ByteArray.size_append]; rfl
     show (s2 [b8 (48 + σ.1.tmod 10)] ++ σ.2).size + (j - 1) ≤ 61
     omega
    ·show σ.1.tdiv 10 < _
     rw [hd]; omega
    ·show (σ.1.tdiv 10).toNat < σ.1.toNat
     rw [hd]; omega
   ·right
    exact ⟨σ.2, by simp [hp], by omega⟩) (s := (k, (⟨#[]⟩ : ByteArray))) ⟨h0, 61, Nat.le_refl _, Nat.le_refl _, by show k < _; omega⟩
  rw [he, bd_some]
  have : room ((⟨#[109]⟩ : ByteArray).size + e.size) := by
   have h1 : (⟨#[109]⟩ : ByteArray).size = 1 := rfl
   unfold room; omega
  rw [gd.yes this]
  exact ⟨_, rfl⟩
theorem s_IntS (a : (List Int)) (left : Int) (h0 : 0 ≤ left) (h1 : left ≤ 1048576) (ok : Dp.ok a) : p_laws_szIntS a left = some (cut left (Wt.w a)) := by
 have hm : a.length ≤ 9223372036854775807 := ok.1
 unfold p_laws_szIntS
 have hw : Wt.w a = a.length := by show a.length + sumN a.length (fun i => Wt.w (nth a i)) = _; rw [sumN_zero (f := fun i => Wt.w (nth a i)) fun i _ => rfl]; rfl
 rw [hw]; exact sz_strl (by unfold I64; omega)
theorem s_RowS (a : (List Row)) (left : Int) (h0 : 0 ≤ left) (h1 : left ≤ 1048576) (ok : Dp.ok a) : p_laws_szRowS a left = some (cut left (Wt.w a)) := by
 have hm : a.length ≤ 9223372036854775807 := ok.1
 unfold p_laws_szRowS
 have hw : Wt.w a = a.length := by show a.length + sumN a.length (fun i => Wt.w (nth a i)) = _; rw [sumN_zero (f := fun i => Wt.w (nth a i)) fun i _ => rfl]; rfl
 rw [hw]; exact sz_strl (by unfold I64; omega)
theorem s_RowSS (a : (List (List Row))) (left : Int) (h0 : 0 ≤ left) (h1 : left ≤ 1048576) (ok : Dp.ok a) : p_laws_szRowSS a left = some (cut left (Wt.w a)) := by
 have hm : a.length ≤ 9223372036854775807 := ok.1
 unfold p_laws_szRowSS
 refine sz_str (w2 := sumN a.length fun i => Wt.w (nth a i)) (by unfold I64; omega) fun hc => ?_
 rw [cut_lt] at hc; rw [← cut_pos hc]
 exact sz_loop (l := a) (by omega) (by omega) (fun k hk m m0 m1 => by
  unfold p_laws_szRowSS_b0
  simp only [dlt hk, cond_true, gd.yes (ixN hk), Int.toNat_natCast, s_RowS (nth a k) m m0 m1 (ok.2 k hk), bd_some, gd.yes (i64S hk hm)]
  by_cases hc : cut m (Wt.w (nth a k)) < 0 <;> simp [hc]) (fun m => by unfold p_laws_szRowSS_b0; simp)
theorem s_Part (a : Part) (left : Int) (h0 : 0 ≤ left) (h1 : left ≤ 1048576) (ok : Dp.ok a) : p_laws_szPart a left = some (cut left (Wt.w a)) := by
 have hw : Wt.w a = Wt.w a.1 + (Wt.w a.2) := by
  simp only [Wt.w]
  first | done | omega
 rw [hw]; unfold p_laws_szPart
 refine sz_step (s_IntS a.1 left h0 h1 ok.1) fun c0 => ?_
 exact sz_last (s_RowSS a.2 (cut left (Wt.w a.1)) (cut_nn c0) (cut_rng h1) ok.2)
theorem s_File (a : File) (left : Int) (h0 : 0 ≤ left) (h1 : left ≤ 1048576) (ok : Dp.ok a) : p_laws_szFile a left = some (cut left (Wt.w a)) := by
 have hw : Wt.w a = Wt.w a.2 := by
  simp only [Wt.w]
  first | done | omega
 rw [hw]; unfold p_laws_szFile
 exact sz_last (s_Part a.2 left h0 h1 ok.2)
theorem s_FileS (a : (List File)) (left : Int) (h0 : 0 ≤ left) (h1 : left ≤ 1048576) (ok : Dp.ok a) : p_laws_szFileS a left = some (cut left (Wt.w a)) := by
 have hm : a.length ≤ 9223372036854775807 := ok.1
 unfold p_laws_szFileS
 refine sz_str (w2 := sumN a.length fun i => Wt.w (nth a i)) (by unfold I64; omega) fun hc => ?_
 rw [cut_lt] at hc; rw [← cut_pos hc]
 exact sz_loop (l := a) (by omega) (by omega) (fun k hk m m0 m1 => by
  unfold p_laws_szFileS_b0
  simp only [dlt hk, cond_true, gd.yes (ixN hk), Int.toNat_natCast, s_File (nth a k) m m0 m1 (ok.2 k hk), bd_some, gd.yes (i64S hk hm)]
  by_cases hc : cut m (Wt.w (nth a k)) < 0 <;> simp [hc]) (fun m => by unfold p_laws_szFileS_b0; simp)
theorem s_Tag (a : Tag) (left : Int) (h0 : 0 ≤ left) (h1 : left ≤ 1048576) (_ : Dp.ok a) (so : So.so a) : p_laws_szTag a left = some (cut left (Wt.w a)) := by
 have hw : Wt.w a = Wt.w a.1 + (Wt.w a.2) := by
  simp only [Wt.w]
  first | done | omega
 rw [hw]; unfold p_laws_szTag
 have z0 : (a.1).size ≤ 9223372036854775807 := so.1
 have b0 : 0 ≤ left := h0; have d0 : left ≤ 1048576 := h1
 refine sz_str (by unfold I64; omega) fun c0 => ?_
 rw [show left - ((a.1).size : Int) = cut left (a.1).size from cut_pos (fun h => c0 (cut_lt.2 h))]
 have z1 : (a.2).size ≤ 9223372036854775807 := so.2
 have b1 : 0 ≤ cut left (a.1).size := (cut_nn c0); have d1 : cut left (a.1).size ≤ 1048576 := (cut_rng h1)
 exact sz_strl (by unfold I64; omega)
theorem s_TagS (a : (List Tag)) (left : Int) (h0 : 0 ≤ left) (h1 : left ≤ 1048576) (ok : Dp.ok a) (so : So.so a) : p_laws_szTagS a left = some (cut left (Wt.w a)) := by
 have hm : a.length ≤ 9223372036854775807 := ok.1
 unfold p_laws_szTagS
 refine sz_str (w2 := sumN a.length fun i => Wt.w (nth a i)) (by unfold I64; omega) fun hc => ?_
 rw [cut_lt] at hc; rw [← cut_pos hc]
 exact sz_loop (l := a) (by omega) (by omega) (fun k hk m m0 m1 => by
  unfold p_laws_szTagS_b0
  simp only [dlt hk, cond_true, gd.yes (ixN hk), Int.toNat_natCast, s_Tag (nth a k) m m0 m1 (ok.2 k hk) (so k hk), bd_some, gd.yes (i64S hk hm)]
  by_cases hc : cut m (Wt.w (nth a k)) < 0 <;> simp [hc]) (fun m => by unfold p_laws_szTagS_b0; simp)
theorem s_TagSS (a : (List (List Tag))) (left : Int) (h0 : 0 ≤ left) (h1 : left ≤ 1048576) (ok : Dp.ok a) (so : So.so a) : p_laws_szTagSS a left = some (cut left (Wt.w a)) := by
 have hm : a.length ≤ 9223372036854775807 := ok.1
 unfold p_laws_szTagSS
 refine sz_str (w2 := sumN a.length fun i => Wt.w (nth a i)) (by unfold I64; omega) fun hc => ?_
 rw [cut_lt] at hc; rw [← cut_pos hc]
 exact sz_loop (l := a) (by omega) (by omega) (fun k hk m m0 m1 => by
  unfold p_laws_szTagSS_b0
  simp only [dlt hk, cond_true, gd.yes (ixN hk), Int.toNat_natCast, s_TagS (nth a k) m m0 m1 (ok.2 k hk) (so k hk), bd_some, gd.yes (i64S hk hm)]
  by_cases hc : cut m (Wt.w (nth a k)) < 0 <;> simp [hc]) (fun m => by unfold p_laws_szTagSS_b0; simp)
theorem s_Disk (a : Disk) (left : Int) (h0 : 0 ≤ left) (h1 : left ≤ 1048576) (ok : Dp.ok a) (so : So.so a) : p_laws_szDisk a left = some (cut left (Wt.w a)) := by
 have hw : Wt.w a = Wt.w a.1 + (Wt.w a.2.1 + (Wt.w a.2.2.1)) := by
  simp only [Wt.w]
  first | done | omega
 rw [hw]; unfold p_laws_szDisk
 refine sz_step (s_FileS a.1 left h0 h1 ok.1) fun c0 => ?_
 refine sz_step (s_IntS a.2.1 (cut left (Wt.w a.1)) (cut_nn c0) (cut_rng h1) ok.2.1) fun c1 => ?_
 exact sz_last (s_TagSS a.2.2.1 (cut (cut left (Wt.w a.1)) (Wt.w a.2.1)) (cut_nn c1) (cut_rng (cut_rng h1)) ok.2.2.1 so.2.2.1)
theorem t_IntS (a : (List Int)) (_ : Dp.ok a) (hw : Wt.w a ≤ 1048576) : p_laws_toIntS a = some a := by
 have hm : a.length ≤ 1048576 := Nat.le_trans wL_le hw
 unfold p_laws_toIntS
 rw [gd.yes (by unfold many; omega)]
 simp only [Int.toNat_natCast]
 rw [to_loop (l := a) (by simp) (fun k hk r hr => by
  unfold p_laws_toIntS_b0
  have hk2 : k < r.length := by omega
  simp only [dlt hk, cond_true, gd.yes (ixN hk), gd.yes (ixN hk2), Int.toNat_natCast, gd.yes (i64S hk (by omega))]
  first | done | rfl) (fun r => by unfold p_laws_toIntS_b0; simp)]
 rfl
theorem t_Row (a : Row) (_ : Dp.ok a) (_ : Wt.w a ≤ 1048576) : p_laws_toRow a = some a := by
 unfold p_laws_toRow
 rfl
theorem t_RowS (a : (List Row)) (ok : Dp.ok a) (hw : Wt.w a ≤ 1048576) : p_laws_toRowS a = some a := by
 have hm : a.length ≤ 1048576 := Nat.le_trans wL_le hw
 unfold p_laws_toRowS
 rw [gd.yes (by unfold many; omega)]
 simp only [Int.toNat_natCast]
 rw [to_loop (l := a) (by simp) (fun k hk r hr => by
  unfold p_laws_toRowS_b0
  have hk2 : k < r.length := by omega
  simp only [dlt hk, cond_true, gd.yes (ixN hk), gd.yes (ixN hk2), Int.toNat_natCast, t_Row (nth a k) (ok.2 k hk) (Nat.le_trans (wL_el hk) hw), bd_some, gd.yes (i64S hk (by omega))]
  first | done | rfl) (fun r => by unfold p_laws_toRowS_b0; simp)]
 rfl
theorem t_RowSS (a : (List (List Row))) (ok : Dp.ok a) (hw : Wt.w a ≤ 1048576) : p_laws_toRowSS a = some a := by
 have hm : a.length ≤ 1048576 := Nat.le_trans wL_le hw
 unfold p_laws_toRowSS
 rw [gd.yes (by unfold many; omega)]
 simp only [Int.toNat_natCast]
 rw [to_loop (l := a) (by simp) (fun k hk r hr => by
  unfold p_laws_toRowSS_b0
  have hk2 : k < r.length := by omega
  simp only [dlt hk, cond_true, gd.yes (ixN hk), gd.yes (ixN hk2), Int.toNat_natCast, t_RowS (nth a k) (ok.2 k hk) (Nat.le_trans (wL_el hk) hw), bd_some, gd.yes (i64S hk (by omega))]
  first | done | rfl) (fun r => by unfold p_laws_toRowSS_b0; simp)]
 rfl
theorem t_Part (a : Part) (ok : Dp.ok a) (hw : Wt.w a ≤ 1048576) : p_laws_toPart a = some a := by
 unfold p_laws_toPart
 simp only [t_IntS a.1 ok.1 (by simp only [Wt.w] at hw ⊢; omega), t_RowSS a.2 ok.2 (by simp only [Wt.w] at hw ⊢; omega), bd_some]
theorem t_File (a : File) (ok : Dp.ok a) (hw : Wt.w a ≤ 1048576) : p_laws_toFile a = some a := by
 unfold p_laws_toFile
 simp only [t_Part a.2 ok.2 (by simp only [Wt.w] at hw ⊢; omega), bd_some]
theorem t_FileS (a : (List File)) (ok : Dp.ok a) (hw : Wt.w a ≤ 1048576) : p_laws_toFileS a = some a := by
 have hm : a.length ≤ 1048576 := Nat.le_trans wL_le hw
 unfold p_laws_toFileS
 rw [gd.yes (by unfold many; omega)]
 simp only [Int.toNat_natCast]
 rw [to_loop (l := a) (by simp) (fun k hk r hr => by
  unfold p_laws_toFileS_b0
  have hk2 : k < r.length := by omega
  simp only [dlt hk, cond_true, gd.yes (ixN hk), gd.yes (ixN hk2), Int.toNat_natCast, t_File (nth a k) (ok.2 k hk) (Nat.le_trans (wL_el hk) hw), bd_some, gd.yes (i64S hk (by omega))]
  first | done | rfl) (fun r => by unfold p_laws_toFileS_b0; simp)]
 rfl
theorem t_Tag (a : Tag) (_ : Dp.ok a) (_ : Wt.w a ≤ 1048576) : p_laws_toTag a = some a := by
 unfold p_laws_toTag
 rfl
theorem t_TagS (a : (List Tag)) (ok : Dp.ok a) (hw : Wt.w a ≤ 1048576) : p_laws_toTagS a = some a := by
 have hm : a.length ≤ 1048576 := Nat.le_trans wL_le hw
 unfold p_laws_toTagS
 rw [gd.yes (by unfold many; omega)]
 simp only [Int.toNat_natCast]
 rw [to_loop (l := a) (by simp) (fun k hk r hr => by
  unfold p_laws_toTagS_b0
  have hk2 : k < r.length := by omega
  simp only [dlt hk, cond_true, gd.yes (ixN hk), gd.yes (ixN hk2), Int.toNat_natCast, t_Tag (nth a k) (ok.2 k hk) (Nat.le_trans (wL_el hk) hw), bd_some, gd.yes (i64S hk (by omega))]
  first | done | rfl) (fun r => by unfold p_laws_toTagS_b0; simp)]
 rfl
theorem t_TagSS (a : (List (List Tag))) (ok : Dp.ok a) (hw : Wt.w a ≤ 1048576) : p_laws_toTagSS a = some a := by
 have hm : a.length ≤ 1048576 := Nat.le_trans wL_le hw
 unfold p_laws_toTagSS
 rw [gd.yes (by unfold many; omega)]
 simp only [Int.toNat_natCast]
 rw [to_loop (l := a) (by simp) (fun k hk r hr => by
  unfold p_laws_toTagSS_b0
  have hk2 : k < r.length := by omega
  simp only [dlt hk, cond_true, gd.yes (ixN hk), gd.yes (ixN hk2), Int.toNat_natCast, t_TagS (nth a k) (ok.2 k hk) (Nat.le_trans (wL_el hk) hw), bd_some, gd.yes (i64S hk (by omega))]
  first | done | rfl) (fun r => by unfold p_laws_toTagSS_b0; simp)]
 rfl
theorem t_Disk (a : Disk) (ok : Dp.ok a) (hw : Wt.w a ≤ 1048576) : p_laws_toDisk a = some a := by
 unfold p_laws_toDisk
 simp only [t_FileS a.1 ok.1 (by simp only [Wt.w] at hw ⊢; omega), t_IntS a.2.1 ok.2.1 (by simp only [Wt.w] at hw ⊢; omega), t_TagSS a.2.2.1 ok.2.2.1 (by simp only [Wt.w] at hw ⊢; omega), bd_some]
theorem q_IntS (a b : (List Int)) (ha : Dp.ok a) (_ : Dp.ok b) : p_laws_eqIntS a b = some (decide (a = b)) := by
 have hm : a.length ≤ 9223372036854775807 := ha.1
 unfold p_laws_eqIntS
 by_cases hl : a.length = b.length
 ·have hl2 : (a.length : Int) = (b.length : Int) := by omega
  simp only [hl2, decide_true, Bool.not_true, cond_false]
  refine eq_loop hl (fun k hk => ?_) ?_
  ·have hk2 : k < b.length := by omega
   unfold p_laws_eqIntS_b0
   simp only [dlt hk, cond_true, gd.yes (ixN hk), gd.yes (ixN hk2), Int.toNat_natCast, gd.yes (i64S hk hm)]
   by_cases h : nth a k = nth b k <;> simp [h]
  ·unfold p_laws_eqIntS_b0; simp
 ·have h2 : ¬ (a.length : Int) = (b.length : Int) := by omega
  have h3 : a ≠ b := fun e => hl (by rw [e])
  simp [h2, h3]
theorem q_Row (a b : Row) (_ : Dp.ok a) (hb : Dp.ok b) : p_laws_eqRow a b = some (decide (a = b)) := by
 have he : a = b ↔ a.1 = b.1 ∧ a.2 = b.2 := by
  constructor
  ·rintro rfl; simp
  ·rintro ⟨h0, h1⟩; exact Prod.ext h0 (h1)
 unfold p_laws_eqRow
 simp only [he]
 by_cases h0 : a.1 = b.1
 ·by_cases h1 : a.2 = b.2
  ·simp [h0, h1]
  ·simp [h0, h1]
 ·simp [h0]
theorem q_RowS (a b : (List Row)) (ha : Dp.ok a) (hb : Dp.ok b) : p_laws_eqRowS a b = some (decide (a = b)) := by
 have hm : a.length ≤ 9223372036854775807 := ha.1
 unfold p_laws_eqRowS
 by_cases hl : a.length = b.length
 ·have hl2 : (a.length : Int) = (b.length : Int) := by omega
  simp only [hl2, decide_true, Bool.not_true, cond_false]
  refine eq_loop hl (fun k hk => ?_) ?_
  ·have hk2 : k < b.length := by omega
   unfold p_laws_eqRowS_b0
   simp only [dlt hk, cond_true, gd.yes (ixN hk), gd.yes (ixN hk2), Int.toNat_natCast, q_Row (nth a k) (nth b k) (ha.2 k hk) (hb.2 k hk2), bd_some, gd.yes (i64S hk hm)]
   by_cases h : nth a k = nth b k <;> simp [h]
  ·unfold p_laws_eqRowS_b0; simp
 ·have h2 : ¬ (a.length : Int) = (b.length : Int) := by omega
  have h3 : a ≠ b := fun e => hl (by rw [e])
  simp [h2, h3]
theorem q_RowSS (a b : (List (List Row))) (ha : Dp.ok a) (hb : Dp.ok b) : p_laws_eqRowSS a b = some (decide (a = b)) := by
 have hm : a.length ≤ 9223372036854775807 := ha.1
 unfold p_laws_eqRowSS
 by_cases hl : a.length = b.length
 ·have hl2 : (a.length : Int) = (b.length : Int) := by omega
  simp only [hl2, decide_true, Bool.not_true, cond_false]
  refine eq_loop hl (fun k hk => ?_) ?_
  ·have hk2 : k < b.length := by omega
   unfold p_laws_eqRowSS_b0
   simp only [dlt hk, cond_true, gd.yes (ixN hk), gd.yes (ixN hk2), Int.toNat_natCast, q_RowS (nth a k) (nth b k) (ha.2 k hk) (hb.2 k hk2), bd_some, gd.yes (i64S hk hm)]
   by_cases h : nth a k = nth b k <;> simp [h]
  ·unfold p_laws_eqRowSS_b0; simp
 ·have h2 : ¬ (a.length : Int) = (b.length : Int) := by omega
  have h3 : a ≠ b := fun e => hl (by rw [e])
  simp [h2, h3]
theorem q_Part (a b : Part) (ha : Dp.ok a) (hb : Dp.ok b) : p_laws_eqPart a b = some (decide (a = b)) := by
 have he : a = b ↔ a.1 = b.1 ∧ a.2 = b.2 := by
  constructor
  ·rintro rfl; simp
  ·rintro ⟨h0, h1⟩; exact Prod.ext h0 (h1)
 unfold p_laws_eqPart
 simp only [q_IntS a.1 b.1 ha.1 hb.1, q_RowSS a.2 b.2 ha.2 hb.2, bd_some, he]
 by_cases h0 : a.1 = b.1
 ·by_cases h1 : a.2 = b.2
  ·simp [h0, h1]
  ·simp [h0, h1]
 ·simp [h0]
theorem q_File (a b : File) (ha : Dp.ok a) (hb : Dp.ok b) : p_laws_eqFile a b = some (decide (a = b)) := by
 have he : a = b ↔ a.1 = b.1 ∧ a.2 = b.2 := by
  constructor
  ·rintro rfl; simp
  ·rintro ⟨h0, h1⟩; exact Prod.ext h0 (h1)
 unfold p_laws_eqFile
 simp only [q_Part a.2 b.2 ha.2 hb.2, bd_some, he]
 by_cases h0 : a.1 = b.1
 ·by_cases h1 : a.2 = b.2
  ·simp [h0, h1]
  ·simp [h0, h1]
 ·simp [h0]
theorem q_FileS (a b : (List File)) (ha : Dp.ok a) (hb : Dp.ok b) : p_laws_eqFileS a b = some (decide (a = b)) := by
 have hm : a.length ≤ 9223372036854775807 := ha.1
 unfold p_laws_eqFileS
 by_cases hl : a.length = b.length
 ·have hl2 : (a.length : Int) = (b.length : Int) := by omega
  simp only [hl2, decide_true, Bool.not_true, cond_false]
  refine eq_loop hl (fun k hk => ?_) ?_
  ·have hk2 : k < b.length := by omega
   unfold p_laws_eqFileS_b0
   simp only [dlt hk, cond_true, gd.yes (ixN hk), gd.yes (ixN hk2), Int.toNat_natCast, q_File (nth a k) (nth b k) (ha.2 k hk) (hb.2 k hk2), bd_some, gd.yes (i64S hk hm)]
   by_cases h : nth a k = nth b k <;> simp [h]
  ·unfold p_laws_eqFileS_b0; simp
 ·have h2 : ¬ (a.length : Int) = (b.length : Int) := by omega
  have h3 : a ≠ b := fun e => hl (by rw [e])
  simp [h2, h3]
theorem q_Tag (a b : Tag) (_ : Dp.ok a) (hb : Dp.ok b) : p_laws_eqTag a b = some (decide (a = b)) := by
 have he : a = b ↔ a.1 = b.1 ∧ a.2 = b.2 := by
  constructor
  ·rintro rfl; simp
  ·rintro ⟨h0, h1⟩; exact Prod.ext h0 (h1)
 unfold p_laws_eqTag
 simp only [he]
 by_cases h0 : a.1 = b.1
 ·by_cases h1 : a.2 = b.2
  ·simp [h0, h1]
  ·simp [h0, h1]
 ·simp [h0]
theorem q_TagS (a b : (List Tag)) (ha : Dp.ok a) (hb : Dp.ok b) : p_laws_eqTagS a b = some (decide (a = b)) := by
 have hm : a.length ≤ 9223372036854775807 := ha.1
 unfold p_laws_eqTagS
 by_cases hl : a.length = b.length
 ·have hl2 : (a.length : Int) = (b.length : Int) := by omega
  simp only [hl2, decide_true, Bool.not_true, cond_false]
  refine eq_loop hl (fun k hk => ?_) ?_
  ·have hk2 : k < b.length := by omega
   unfold p_laws_eqTagS_b0
   simp only [dlt hk, cond_true, gd.yes (ixN hk), gd.yes (ixN hk2), Int.toNat_natCast, q_Tag (nth a k) (nth b k) (ha.2 k hk) (hb.2 k hk2), bd_some, gd.yes (i64S hk hm)]
   by_cases h : nth a k = nth b k <;> simp [h]
  ·unfold p_laws_eqTagS_b0; simp
 ·have h2 : ¬ (a.length : Int) = (b.length : Int) := by omega
  have h3 : a ≠ b := fun e => hl (by rw [e])
  simp [h2, h3]
theorem q_TagSS (a b : (List (List Tag))) (ha : Dp.ok a) (hb : Dp.ok b) : p_laws_eqTagSS a b = some (decide (a = b)) := by
 have hm : a.length ≤ 9223372036854775807 := ha.1
 unfold p_laws_eqTagSS
 by_cases hl : a.length = b.length
 ·have hl2 : (a.length : Int) = (b.length : Int) := by omega
  simp only [hl2, decide_true, Bool.not_true, cond_false]
  refine eq_loop hl (fun k hk => ?_) ?_
  ·have hk2 : k < b.length := by omega
   unfold p_laws_eqTagSS_b0
   simp only [dlt hk, cond_true, gd.yes (ixN hk), gd.yes (ixN hk2), Int.toNat_natCast, q_TagS (nth a k) (nth b k) (ha.2 k hk) (hb.2 k hk2), bd_some, gd.yes (i64S hk hm)]
   by_cases h : nth a k = nth b k <;> simp [h]
  ·unfold p_laws_eqTagSS_b0; simp
 ·have h2 : ¬ (a.length : Int) = (b.length : Int) := by omega
  have h3 : a ≠ b := fun e => hl (by rw [e])
  simp [h2, h3]
theorem q_Disk (a b : Disk) (ha : Dp.ok a) (hb : Dp.ok b) : p_laws_eqDisk a b = some (decide (a = b)) := by
 have he : a = b ↔ a.1 = b.1 ∧ a.2.1 = b.2.1 ∧ a.2.2.1 = b.2.2.1 ∧ a.2.2.2 = b.2.2.2 := by
  constructor
  ·rintro rfl; simp
  ·rintro ⟨h0, h1, h2, h3⟩; exact Prod.ext h0 (Prod.ext h1 (Prod.ext h2 (h3)))
 unfold p_laws_eqDisk
 simp only [q_FileS a.1 b.1 ha.1 hb.1, q_IntS a.2.1 b.2.1 ha.2.1 hb.2.1, q_TagSS a.2.2.1 b.2.2.1 ha.2.2.1 hb.2.2.1, bd_some, he]
 by_cases h0 : a.1 = b.1
 ·by_cases h1 : a.2.1 = b.2.1
  ·by_cases h2 : a.2.2.1 = b.2.2.1
   ·by_cases h3 : a.2.2.2 = b.2.2.2
    ·simp [h0, h1, h2, h3]
    ·simp [h0, h1, h2, h3]
   ·simp [h0, h1, h2]
  ·simp [h0, h1]
 ·simp [h0]
theorem q_Post (a b : Post) (ha : Dp.ok a) (hb : Dp.ok b) : p_laws_eqPost a b = some (decide (a = b)) := by
 have he : a = b ↔ a.1 = b.1 ∧ a.2 = b.2 := by
  constructor
  ·rintro rfl; simp
  ·rintro ⟨h0, h1⟩; exact Prod.ext h0 (h1)
 unfold p_laws_eqPost
 simp only [q_Tag a.1 b.1 ha.1 hb.1, q_IntS a.2 b.2 ha.2 hb.2, bd_some, he]
 by_cases h0 : a.1 = b.1
 ·by_cases h1 : a.2 = b.2
  ·simp [h0, h1]
  ·simp [h0, h1]
 ·simp [h0]
theorem q_PostS (a b : (List Post)) (ha : Dp.ok a) (hb : Dp.ok b) : p_laws_eqPostS a b = some (decide (a = b)) := by
 have hm : a.length ≤ 9223372036854775807 := ha.1
 unfold p_laws_eqPostS
 by_cases hl : a.length = b.length
 ·have hl2 : (a.length : Int) = (b.length : Int) := by omega
  simp only [hl2, decide_true, Bool.not_true, cond_false]
  refine eq_loop hl (fun k hk => ?_) ?_
  ·have hk2 : k < b.length := by omega
   unfold p_laws_eqPostS_b0
   simp only [dlt hk, cond_true, gd.yes (ixN hk), gd.yes (ixN hk2), Int.toNat_natCast, q_Post (nth a k) (nth b k) (ha.2 k hk) (hb.2 k hk2), bd_some, gd.yes (i64S hk hm)]
   by_cases h : nth a k = nth b k <;> simp [h]
  ·unfold p_laws_eqPostS_b0; simp
 ·have h2 : ¬ (a.length : Int) = (b.length : Int) := by omega
  have h3 : a ≠ b := fun e => hl (by rw [e])
  simp [h2, h3]
theorem q_Index (a b : Index) (ha : Dp.ok a) (hb : Dp.ok b) : p_laws_eqIndex a b = some (decide (a = b)) := by
 have he : a = b ↔ a.1 = b.1 ∧ a.2 = b.2 := by
  constructor
  ·rintro rfl; simp
  ·rintro ⟨h0, h1⟩; exact Prod.ext h0 (h1)
 unfold p_laws_eqIndex
 simp only [q_TagSS a.1 b.1 ha.1 hb.1, q_PostS a.2 b.2 ha.2 hb.2, bd_some, he]
 by_cases h0 : a.1 = b.1
 ·by_cases h1 : a.2 = b.2
  ·simp [h0, h1]
  ·simp [h0, h1]
 ·simp [h0]
theorem q_PartS (a b : (List Part)) (ha : Dp.ok a) (hb : Dp.ok b) : p_laws_eqPartS a b = some (decide (a = b)) := by
 have hm : a.length ≤ 9223372036854775807 := ha.1
 unfold p_laws_eqPartS
 by_cases hl : a.length = b.length
 ·have hl2 : (a.length : Int) = (b.length : Int) := by omega
  simp only [hl2, decide_true, Bool.not_true, cond_false]
  refine eq_loop hl (fun k hk => ?_) ?_
  ·have hk2 : k < b.length := by omega
   unfold p_laws_eqPartS_b0
   simp only [dlt hk, cond_true, gd.yes (ixN hk), gd.yes (ixN hk2), Int.toNat_natCast, q_Part (nth a k) (nth b k) (ha.2 k hk) (hb.2 k hk2), bd_some, gd.yes (i64S hk hm)]
   by_cases h : nth a k = nth b k <;> simp [h]
  ·unfold p_laws_eqPartS_b0; simp
 ·have h2 : ¬ (a.length : Int) = (b.length : Int) := by omega
  have h3 : a ≠ b := fun e => hl (by rw [e])
  simp [h2, h3]
theorem q_Sample (a b : Sample) (ha : Dp.ok a) (hb : Dp.ok b) : p_laws_eqSample a b = some (decide (a = b)) := by
 have he : a = b ↔ a.1 = b.1 ∧ a.2 = b.2 := by
  constructor
  ·rintro rfl; simp
  ·rintro ⟨h0, h1⟩; exact Prod.ext h0 (h1)
 unfold p_laws_eqSample
 simp only [q_Row a.2 b.2 ha.2 hb.2, bd_some, he]
 by_cases h0 : a.1 = b.1
 ·by_cases h1 : a.2 = b.2
  ·simp [h0, h1]
  ·simp [h0, h1]
 ·simp [h0]
theorem q_SampleS (a b : (List Sample)) (ha : Dp.ok a) (hb : Dp.ok b) : p_laws_eqSampleS a b = some (decide (a = b)) := by
 have hm : a.length ≤ 9223372036854775807 := ha.1
 unfold p_laws_eqSampleS
 by_cases hl : a.length = b.length
 ·have hl2 : (a.length : Int) = (b.length : Int) := by omega
  simp only [hl2, decide_true, Bool.not_true, cond_false]
  refine eq_loop hl (fun k hk => ?_) ?_
  ·have hk2 : k < b.length := by omega
   unfold p_laws_eqSampleS_b0
   simp only [dlt hk, cond_true, gd.yes (ixN hk), gd.yes (ixN hk2), Int.toNat_natCast, q_Sample (nth a k) (nth b k) (ha.2 k hk) (hb.2 k hk2), bd_some, gd.yes (i64S hk hm)]
   by_cases h : nth a k = nth b k <;> simp [h]
  ·unfold p_laws_eqSampleS_b0; simp
 ·have h2 : ¬ (a.length : Int) = (b.length : Int) := by omega
  have h3 : a ≠ b := fun e => hl (by rw [e])
  simp [h2, h3]
theorem q_Store (a b : Store) (ha : Dp.ok a) (hb : Dp.ok b) : p_laws_eqStore a b = some (decide (a = b)) := by
 have he : a = b ↔ a.1 = b.1 ∧ a.2.1 = b.2.1 ∧ a.2.2 = b.2.2 := by
  constructor
  ·rintro rfl; simp
  ·rintro ⟨h0, h1, h2⟩; exact Prod.ext h0 (Prod.ext h1 (h2))
 unfold p_laws_eqStore
 simp only [q_Index a.1 b.1 ha.1 hb.1, q_PartS a.2.1 b.2.1 ha.2.1 hb.2.1, q_SampleS a.2.2 b.2.2 ha.2.2 hb.2.2, bd_some, he]
 by_cases h0 : a.1 = b.1
 ·by_cases h1 : a.2.1 = b.2.1
  ·by_cases h2 : a.2.2 = b.2.2
   ·simp [h0, h1, h2]
   ·simp [h0, h1, h2]
  ·simp [h0, h1]
 ·simp [h0]
theorem m_IntS (a : (List Int)) (k : Int) (h0 : 0 ≤ k) (hB : k + (Ct.ct a : Nat) ≤ 1152921504606846976) (ok : Dp.ok a) : MkR p_laws_markIntS p_laws_heldIntS a k := by
 have hm : a.length ≤ 9223372036854775807 := ok.1
 obtain ⟨k1, r, e1, e2, e3, e4, e5⟩ := mark_loop (l := a) (B := 1152921504606846976) (bm := p_laws_markIntS_b0 a) (bh := fun r => p_laws_heldIntS_b0 r) (fun i hi r hr hn k h0 hB => by
  have hi2 : i < r.length := by omega
  have hc : Ct.ct (nth a i) = 1 := rfl
  have g1 : I64 (k + 1) := i64B (by omega) (by omega)
  refine ⟨k, k + 1, ?_, by omega, by omega, fun r' hr' hu => ?_⟩
  ·unfold p_laws_markIntS_b0
   simp only [dlt hi, cond_true, Int.toNat_natCast, gd.yes (ixN hi2), gd.yes g1, gd.yes (i64S hi hm)]
   first | done | rfl
  ·have hi3 : i < r'.length := by omega
   unfold p_laws_heldIntS_b0
   simp [hi3, gd.yes (ixN hi3), hu, gd.yes g1, gd.yes (i64S hi hm)])
  (fun r k hr => by unfold p_laws_markIntS_b0; simp) (fun r k hr => by unfold p_laws_heldIntS_b0; simp [hr]) h0 hB
 refine ⟨k1, r, ?_, e3, e4, ?_⟩
 ·unfold p_laws_markIntS; rw [e1]; rfl
 ·unfold p_laws_heldIntS; rw [e5]; rfl
theorem m_RowS (a : (List Row)) (k : Int) (h0 : 0 ≤ k) (hB : k + (Ct.ct a : Nat) ≤ 1152921504606846976) (ok : Dp.ok a) : MkR p_laws_markRowS p_laws_heldRowS a k := by
 have hm : a.length ≤ 9223372036854775807 := ok.1
 obtain ⟨k1, r, e1, e2, e3, e4, e5⟩ := mark_loop (l := a) (B := 1152921504606846976) (bm := p_laws_markRowS_b0 a) (bh := fun r => p_laws_heldRowS_b0 r) (fun i hi r hr hn k h0 hB => by
  have hi2 : i < r.length := by omega
  have hc : Ct.ct (nth a i) = 1 + (1) := rfl
  have g1 : I64 (k + 1) := i64B (by omega) (by omega)
  have g2 : I64 ((k + 1) + 1) := i64B (by omega) (by omega)
  refine ⟨(k, k + 1), (k + 1) + 1, ?_, by omega, by omega, fun r' hr' hu => ?_⟩
  ·unfold p_laws_markRowS_b0
   simp only [dlt hi, cond_true, Int.toNat_natCast, gd.yes (ixN hi2), gd.yes g1, gd.yes g2, gd.yes (i64S hi hm)]
   first | done | rfl
  ·have hi3 : i < r'.length := by omega
   unfold p_laws_heldRowS_b0
   simp [hi3, gd.yes (ixN hi3), hu, gd.yes g1, gd.yes g2, gd.yes (i64S hi hm)])
  (fun r k hr => by unfold p_laws_markRowS_b0; simp) (fun r k hr => by unfold p_laws_heldRowS_b0; simp [hr]) h0 hB
 refine ⟨k1, r, ?_, e3, e4, ?_⟩
 ·unfold p_laws_markRowS; rw [e1]; rfl
 ·unfold p_laws_heldRowS; rw [e5]; rfl
theorem m_RowSS (a : (List (List Row))) (k : Int) (h0 : 0 ≤ k) (hB : k + (Ct.ct a : Nat) ≤ 1152921504606846976) (ok : Dp.ok a) : MkR p_laws_markRowSS p_laws_heldRowSS a k := by
 have hm : a.length ≤ 9223372036854775807 := ok.1
 obtain ⟨k1, r, e1, e2, e3, e4, e5⟩ := mark_loop (l := a) (B := 1152921504606846976) (bm := p_laws_markRowSS_b0 a) (bh := fun r => p_laws_heldRowSS_b0 r) (fun i hi r hr hn k h0 hB => by
  have hi2 : i < r.length := by omega
  have hc : Ct.ct (nth a i) = Ct.ct (nth a i) := rfl
  obtain ⟨c1, s1, x1, y1, z1, w1⟩ := m_RowS (nth a i) (k) (by omega) (by omega) (ok.2 i hi)
  have q1 : ¬ c1 < 0 := by omega
  refine ⟨s1, c1, ?_, by omega, by omega, fun r' hr' hu => ?_⟩
  ·unfold p_laws_markRowSS_b0
   simp only [dlt hi, cond_true, Int.toNat_natCast, gd.yes (ixN hi2), hn, x1, bd_some, gd.yes (i64S hi hm)]
   first | done | rfl
  ·have hi3 : i < r'.length := by omega
   unfold p_laws_heldRowSS_b0
   simp [hi3, gd.yes (ixN hi3), hu, w1, q1, gd.yes (i64S hi hm)])
  (fun r k hr => by unfold p_laws_markRowSS_b0; simp) (fun r k hr => by unfold p_laws_heldRowSS_b0; simp [hr]) h0 hB
 refine ⟨k1, r, ?_, e3, e4, ?_⟩
 ·unfold p_laws_markRowSS; rw [e1]; rfl
 ·unfold p_laws_heldRowSS; rw [e5]; rfl
theorem m_FileS (a : (List File)) (k : Int) (h0 : 0 ≤ k) (hB : k + (Ct.ct a : Nat) ≤ 1152921504606846976) (ok : Dp.ok a) : MkR p_laws_markFileS p_laws_heldFileS a k := by
 have hm : a.length ≤ 9223372036854775807 := ok.1
 obtain ⟨k1, r, e1, e2, e3, e4, e5⟩ := mark_loop (l := a) (B := 1152921504606846976) (bm := p_laws_markFileS_b0 a) (bh := fun r => p_laws_heldFileS_b0 r) (fun i hi r hr hn k h0 hB => by
  have hi2 : i < r.length := by omega
  have hc : Ct.ct (nth a i) = 1 + ((Ct.ct (((nth a i).2).1)) + (Ct.ct (((nth a i).2).2))) := rfl
  have g1 : I64 (k + 1) := i64B (by omega) (by omega)
  obtain ⟨c1, s1, x1, y1, z1, w1⟩ := m_IntS (((nth a i).2).1) (k + 1) (by omega) (by omega) (ok.2 i hi).2.1
  have q1 : ¬ c1 < 0 := by omega
  obtain ⟨c2, s2, x2, y2, z2, w2⟩ := m_RowSS (((nth a i).2).2) (c1) (by omega) (by omega) (ok.2 i hi).2.2
  have q2 : ¬ c2 < 0 := by omega
  refine ⟨(k, (s1, s2)), c2, ?_, by omega, by omega, fun r' hr' hu => ?_⟩
  ·unfold p_laws_markFileS_b0
   simp only [dlt hi, cond_true, Int.toNat_natCast, gd.yes (ixN hi2), hn, gd.yes g1, x1, x2, bd_some, gd.yes (i64S hi hm)]
   first | done | rfl
  ·have hi3 : i < r'.length := by omega
   unfold p_laws_heldFileS_b0
   simp [hi3, gd.yes (ixN hi3), hu, gd.yes g1, w1, q1, w2, q2, gd.yes (i64S hi hm)])
  (fun r k hr => by unfold p_laws_markFileS_b0; simp) (fun r k hr => by unfold p_laws_heldFileS_b0; simp [hr]) h0 hB
 refine ⟨k1, r, ?_, e3, e4, ?_⟩
 ·unfold p_laws_markFileS; rw [e1]; rfl
 ·unfold p_laws_heldFileS; rw [e5]; rfl
theorem m_TagS (a : (List Tag)) (k : Int) (h0 : 0 ≤ k) (hB : k + (Ct.ct a : Nat) ≤ 1152921504606846976) (ok : Dp.ok a) : MkR p_laws_markTagS p_laws_heldTagS a k := by
 have hm : a.length ≤ 9223372036854775807 := ok.1
 obtain ⟨k1, r, e1, e2, e3, e4, e5⟩ := mark_loop (l := a) (B := 1152921504606846976) (bm := p_laws_markTagS_b0 a) (bh := fun r => p_laws_heldTagS_b0 r) (fun i hi r hr hn k h0 hB => by
  have hi2 : i < r.length := by omega
  have hc : Ct.ct (nth a i) = 1 + (1) := rfl
  obtain ⟨t0, ht0⟩ := mt_total (k) (by omega) (by omega)
  have g1 : I64 (k + 1) := i64B (by omega) (by omega)
  obtain ⟨t1, ht1⟩ := mt_total (k + 1) (by omega) (by omega)
  have g2 : I64 ((k + 1) + 1) := i64B (by omega) (by omega)
  refine ⟨(t0, t1), (k + 1) + 1, ?_, by omega, by omega, fun r' hr' hu => ?_⟩
  ·unfold p_laws_markTagS_b0
   simp only [dlt hi, cond_true, Int.toNat_natCast, gd.yes (ixN hi2), ht0, gd.yes g1, ht1, gd.yes g2, bd_some, gd.yes (i64S hi hm)]
   first | done | rfl
  ·have hi3 : i < r'.length := by omega
   unfold p_laws_heldTagS_b0
   simp [hi3, gd.yes (ixN hi3), hu, ht0, gd.yes g1, ht1, gd.yes g2, gd.yes (i64S hi hm)])
  (fun r k hr => by unfold p_laws_markTagS_b0; simp) (fun r k hr => by unfold p_laws_heldTagS_b0; simp [hr]) h0 hB
 refine ⟨k1, r, ?_, e3, e4, ?_⟩
 ·unfold p_laws_markTagS; rw [e1]; rfl
 ·unfold p_laws_heldTagS; rw [e5]; rfl
theorem m_TagSS (a : (List (List Tag))) (k : Int) (h0 : 0 ≤ k) (hB : k + (Ct.ct a : Nat) ≤ 1152921504606846976) (ok : Dp.ok a) : MkR p_laws_markTagSS p_laws_heldTagSS a k := by
 have hm : a.length ≤ 9223372036854775807 := ok.1
 obtain ⟨k1, r, e1, e2, e3, e4, e5⟩ := mark_loop (l := a) (B := 1152921504606846976) (bm := p_laws_markTagSS_b0 a) (bh := fun r => p_laws_heldTagSS_b0 r) (fun i hi r hr hn k h0 hB => by
  have hi2 : i < r.length := by omega
  have hc : Ct.ct (nth a i) = Ct.ct (nth a i) := rfl
  obtain ⟨c1, s1, x1, y1, z1, w1⟩ := m_TagS (nth a i) (k) (by omega) (by omega) (ok.2 i hi)
  have q1 : ¬ c1 < 0 := by omega
  refine ⟨s1, c1, ?_, by omega, by omega, fun r' hr' hu => ?_⟩
  ·unfold p_laws_markTagSS_b0
   simp only [dlt hi, cond_true, Int.toNat_natCast, gd.yes (ixN hi2), hn, x1, bd_some, gd.yes (i64S hi hm)]
   first | done | rfl
  ·have hi3 : i < r'.length := by omega
   unfold p_laws_heldTagSS_b0
   simp [hi3, gd.yes (ixN hi3), hu, w1, q1, gd.yes (i64S hi hm)])
  (fun r k hr => by unfold p_laws_markTagSS_b0; simp) (fun r k hr => by unfold p_laws_heldTagSS_b0; simp [hr]) h0 hB
 refine ⟨k1, r, ?_, e3, e4, ?_⟩
 ·unfold p_laws_markTagSS; rw [e1]; rfl
 ·unfold p_laws_heldTagSS; rw [e5]; rfl
theorem m_Disk (a : Disk) (k : Int) (h0 : 0 ≤ k) (hB : k + (Ct.ct a : Nat) ≤ 1152921504606846976) (ok : Dp.ok a) : MkR p_laws_markDisk p_laws_heldDisk a k := by
 have hc : Ct.ct a = Ct.ct a.1 + (Ct.ct a.2.1 + (Ct.ct a.2.2.1 + (1))) := rfl
 obtain ⟨k1, r1, e1, l1, u1, f1⟩ := m_FileS a.1 k (by omega) (by omega) ok.1
 have q1 : ¬ k1 < 0 := by omega
 obtain ⟨k2, r2, e2, l2, u2, f2⟩ := m_IntS a.2.1 k1 (by omega) (by omega) ok.2.1
 have q2 : ¬ k2 < 0 := by omega
 obtain ⟨k3, r3, e3, l3, u3, f3⟩ := m_TagSS a.2.2.1 k2 (by omega) (by omega) ok.2.2.1
 have q3 : ¬ k3 < 0 := by omega
 refine ⟨k3, (r1, r2, r3, a.2.2.2), ?_, by omega, by omega, ?_⟩
 ·unfold p_laws_markDisk; simp only [e1, e2, e3, bd_some]
 ·unfold p_laws_heldDisk; simp [f1, q1, f2, q2, f3, q3]
theorem m_PostS (a : (List Post)) (k : Int) (h0 : 0 ≤ k) (hB : k + (Ct.ct a : Nat) ≤ 1152921504606846976) (ok : Dp.ok a) : MkR p_laws_markPostS p_laws_heldPostS a k := by
 have hm : a.length ≤ 9223372036854775807 := ok.1
 obtain ⟨k1, r, e1, e2, e3, e4, e5⟩ := mark_loop (l := a) (B := 1152921504606846976) (bm := p_laws_markPostS_b0 a) (bh := fun r => p_laws_heldPostS_b0 r) (fun i hi r hr hn k h0 hB => by
  have hi2 : i < r.length := by omega
  have hc : Ct.ct (nth a i) = (1 + (1)) + (Ct.ct ((nth a i).2)) := rfl
  obtain ⟨t0, ht0⟩ := mt_total (k) (by omega) (by omega)
  have g1 : I64 (k + 1) := i64B (by omega) (by omega)
  obtain ⟨t1, ht1⟩ := mt_total (k + 1) (by omega) (by omega)
  have g2 : I64 ((k + 1) + 1) := i64B (by omega) (by omega)
  obtain ⟨c1, s1, x1, y1, z1, w1⟩ := m_IntS ((nth a i).2) ((k + 1) + 1) (by omega) (by omega) (ok.2 i hi).2
  have q1 : ¬ c1 < 0 := by omega
  refine ⟨((t0, t1), s1), c1, ?_, by omega, by omega, fun r' hr' hu => ?_⟩
  ·unfold p_laws_markPostS_b0
   simp only [dlt hi, cond_true, Int.toNat_natCast, gd.yes (ixN hi2), hn, ht0, gd.yes g1, ht1, gd.yes g2, x1, bd_some, gd.yes (i64S hi hm)]
   first | done | rfl
  ·have hi3 : i < r'.length := by omega
   unfold p_laws_heldPostS_b0
   simp [hi3, gd.yes (ixN hi3), hu, ht0, gd.yes g1, ht1, gd.yes g2, w1, q1, gd.yes (i64S hi hm)])
  (fun r k hr => by unfold p_laws_markPostS_b0; simp) (fun r k hr => by unfold p_laws_heldPostS_b0; simp [hr]) h0 hB
 refine ⟨k1, r, ?_, e3, e4, ?_⟩
 ·unfold p_laws_markPostS; rw [e1]; rfl
 ·unfold p_laws_heldPostS; rw [e5]; rfl
theorem m_Index (a : Index) (k : Int) (h0 : 0 ≤ k) (hB : k + (Ct.ct a : Nat) ≤ 1152921504606846976) (ok : Dp.ok a) : MkR p_laws_markIndex p_laws_heldIndex a k := by
 have hc : Ct.ct a = Ct.ct a.1 + (Ct.ct a.2) := rfl
 obtain ⟨k1, r1, e1, l1, u1, f1⟩ := m_TagSS a.1 k (by omega) (by omega) ok.1
 have q1 : ¬ k1 < 0 := by omega
 obtain ⟨k2, r2, e2, l2, u2, f2⟩ := m_PostS a.2 k1 (by omega) (by omega) ok.2
 have q2 : ¬ k2 < 0 := by omega
 refine ⟨k2, (r1, r2), ?_, by omega, by omega, ?_⟩
 ·unfold p_laws_markIndex; simp only [e1, e2, bd_some]
 ·unfold p_laws_heldIndex; simp [f1, q1, f2, q2]
theorem m_PartS (a : (List Part)) (k : Int) (h0 : 0 ≤ k) (hB : k + (Ct.ct a : Nat) ≤ 1152921504606846976) (ok : Dp.ok a) : MkR p_laws_markPartS p_laws_heldPartS a k := by
 have hm : a.length ≤ 9223372036854775807 := ok.1
 obtain ⟨k1, r, e1, e2, e3, e4, e5⟩ := mark_loop (l := a) (B := 1152921504606846976) (bm := p_laws_markPartS_b0 a) (bh := fun r => p_laws_heldPartS_b0 r) (fun i hi r hr hn k h0 hB => by
  have hi2 : i < r.length := by omega
  have hc : Ct.ct (nth a i) = (Ct.ct ((nth a i).1)) + (Ct.ct ((nth a i).2)) := rfl
  obtain ⟨c1, s1, x1, y1, z1, w1⟩ := m_IntS ((nth a i).1) (k) (by omega) (by omega) (ok.2 i hi).1
  have q1 : ¬ c1 < 0 := by omega
  obtain ⟨c2, s2, x2, y2, z2, w2⟩ := m_RowSS ((nth a i).2) (c1) (by omega) (by omega) (ok.2 i hi).2
  have q2 : ¬ c2 < 0 := by omega
  refine ⟨(s1, s2), c2, ?_, by omega, by omega, fun r' hr' hu => ?_⟩
  ·unfold p_laws_markPartS_b0
   simp only [dlt hi, cond_true, Int.toNat_natCast, gd.yes (ixN hi2), hn, x1, x2, bd_some, gd.yes (i64S hi hm)]
   first | done | rfl
  ·have hi3 : i < r'.length := by omega
   unfold p_laws_heldPartS_b0
   simp [hi3, gd.yes (ixN hi3), hu, w1, q1, w2, q2, gd.yes (i64S hi hm)])
  (fun r k hr => by unfold p_laws_markPartS_b0; simp) (fun r k hr => by unfold p_laws_heldPartS_b0; simp [hr]) h0 hB
 refine ⟨k1, r, ?_, e3, e4, ?_⟩
 ·unfold p_laws_markPartS; rw [e1]; rfl
 ·unfold p_laws_heldPartS; rw [e5]; rfl
theorem m_SampleS (a : (List Sample)) (k : Int) (h0 : 0 ≤ k) (hB : k + (Ct.ct a : Nat) ≤ 1152921504606846976) (ok : Dp.ok a) : MkR p_laws_markSampleS p_laws_heldSampleS a k := by
 have hm : a.length ≤ 9223372036854775807 := ok.1
 obtain ⟨k1, r, e1, e2, e3, e4, e5⟩ := mark_loop (l := a) (B := 1152921504606846976) (bm := p_laws_markSampleS_b0 a) (bh := fun r => p_laws_heldSampleS_b0 r) (fun i hi r hr hn k h0 hB => by
  have hi2 : i < r.length := by omega
  have hc : Ct.ct (nth a i) = 1 + (1 + (1)) := rfl
  have g1 : I64 (k + 1) := i64B (by omega) (by omega)
  have g2 : I64 ((k + 1) + 1) := i64B (by omega) (by omega)
  have g3 : I64 (((k + 1) + 1) + 1) := i64B (by omega) (by omega)
  refine ⟨(k, (k + 1, (k + 1) + 1)), ((k + 1) + 1) + 1, ?_, by omega, by omega, fun r' hr' hu => ?_⟩
  ·unfold p_laws_markSampleS_b0
   simp only [dlt hi, cond_true, Int.toNat_natCast, gd.yes (ixN hi2), gd.yes g1, gd.yes g2, gd.yes g3, gd.yes (i64S hi hm)]
   first | done | rfl
  ·have hi3 : i < r'.length := by omega
   unfold p_laws_heldSampleS_b0
   simp [hi3, gd.yes (ixN hi3), hu, gd.yes g1, gd.yes g2, gd.yes g3, gd.yes (i64S hi hm)])
  (fun r k hr => by unfold p_laws_markSampleS_b0; simp) (fun r k hr => by unfold p_laws_heldSampleS_b0; simp [hr]) h0 hB
 refine ⟨k1, r, ?_, e3, e4, ?_⟩
 ·unfold p_laws_markSampleS; rw [e1]; rfl
 ·unfold p_laws_heldSampleS; rw [e5]; rfl
theorem m_Store (a : Store) (k : Int) (h0 : 0 ≤ k) (hB : k + (Ct.ct a : Nat) ≤ 1152921504606846976) (ok : Dp.ok a) : MkR p_laws_markStore p_laws_heldStore a k := by
 have hc : Ct.ct a = Ct.ct a.1 + (Ct.ct a.2.1 + (Ct.ct a.2.2)) := rfl
 obtain ⟨k1, r1, e1, l1, u1, f1⟩ := m_Index a.1 k (by omega) (by omega) ok.1
 have q1 : ¬ k1 < 0 := by omega
 obtain ⟨k2, r2, e2, l2, u2, f2⟩ := m_PartS a.2.1 k1 (by omega) (by omega) ok.2.1
 have q2 : ¬ k2 < 0 := by omega
 obtain ⟨k3, r3, e3, l3, u3, f3⟩ := m_SampleS a.2.2 k2 (by omega) (by omega) ok.2.2
 have q3 : ¬ k3 < 0 := by omega
 refine ⟨k3, (r1, r2, r3), ?_, by omega, by omega, ?_⟩
 ·unfold p_laws_markStore; simp only [e1, e2, e3, bd_some]
 ·unfold p_laws_heldStore; simp [f1, q1, f2, q2, f3, q3]
theorem s_Post (a : Post) (left : Int) (h0 : 0 ≤ left) (h1 : left ≤ 1048576) (ok : Dp.ok a) (so : So.so a) : p_laws_szPost a left = some (cut left (Wt.w a)) := by
 have hw : Wt.w a = Wt.w a.1 + (Wt.w a.2) := by
  simp only [Wt.w]
  first | done | omega
 rw [hw]; unfold p_laws_szPost
 refine sz_step (s_Tag a.1 left h0 h1 ok.1 so.1) fun c0 => ?_
 exact sz_last (s_IntS a.2 (cut left (Wt.w a.1)) (cut_nn c0) (cut_rng h1) ok.2)
theorem s_PostS (a : (List Post)) (left : Int) (h0 : 0 ≤ left) (h1 : left ≤ 1048576) (ok : Dp.ok a) (so : So.so a) : p_laws_szPostS a left = some (cut left (Wt.w a)) := by
 have hm : a.length ≤ 9223372036854775807 := ok.1
 unfold p_laws_szPostS
 refine sz_str (w2 := sumN a.length fun i => Wt.w (nth a i)) (by unfold I64; omega) fun hc => ?_
 rw [cut_lt] at hc; rw [← cut_pos hc]
 exact sz_loop (l := a) (by omega) (by omega) (fun k hk m m0 m1 => by
  unfold p_laws_szPostS_b0
  simp only [dlt hk, cond_true, gd.yes (ixN hk), Int.toNat_natCast, s_Post (nth a k) m m0 m1 (ok.2 k hk) (so k hk), bd_some, gd.yes (i64S hk hm)]
  by_cases hc : cut m (Wt.w (nth a k)) < 0 <;> simp [hc]) (fun m => by unfold p_laws_szPostS_b0; simp)
end Go.Proofs.YtonnpkdadcafcaaGreat
