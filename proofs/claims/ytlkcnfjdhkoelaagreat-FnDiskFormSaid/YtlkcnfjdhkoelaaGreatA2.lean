/- The walks and the plain laws, part 2: each function that the law reaches computes what its plain function tells, and what the plain functions answer. Conditions: lengths that memory can hold. -/
import Derived.Test.YtlkcnfjdhkoelaaGreatA1
namespace Go.Proofs.YtlkcnfjdhkoelaaGreat
open Go Go.Sx Tryz
theorem c_impl_StoreOk {r : Bool} (v0 : Store) (x_v0 : ((Option Addr × Nat) × (Option Addr × Nat)) × (Option Addr × Nat) × (Option Addr × Nat)) (H : p_impl_StoreOk v0 = some r) : Fn' prog 22 #[.agg #[.slice x_v0.1.1.1 v0.1.1.length x_v0.1.1.2, .slice x_v0.1.2.1 v0.1.2.length x_v0.1.2.2, .slice x_v0.2.1.1 v0.2.1.length x_v0.2.1.2, .slice x_v0.2.2.1 v0.2.2.length x_v0.2.2.2]] [imm (.slice x_v0.1.1.1 v0.1.1.length x_v0.1.1.2) v0.1.1, imm (.slice x_v0.1.2.1 v0.1.2.length x_v0.1.2.2) v0.1.2, imm (.slice x_v0.2.1.1 v0.2.1.length x_v0.2.1.2) v0.2.1, imm (.slice x_v0.2.2.1 v0.2.2.length x_v0.2.2.2) v0.2.2] [] (ι := Unit) (fun _ => .bool (r)) (fun _ => []) (fun _ => []) := by
 refine cof (args := [_]) func22 ntmps22 fun c => ?_
 unfold p_impl_StoreOk at H
 refine bN aS fun X1 => (bN aS.s.s fun X2 => (bN aS.s.s.s.s fun X3 => (sr (f1 (cD (t := 42) rfl) fun g4 => (aH (v := .bool (false)) rfl (nl (aD (bdo H fun b5 j6 H => (dE [(24, .bool (b5)), (1, .pointer (some ⟨g4, 0, none⟩))] ?_ ?_)))))))))
 ·refine dI [(1, .pointer (some ⟨g4, 0, none⟩))] ⟨rfl, trivial⟩ (aY (cC fa42_0 rfl rfl) (bA (v := .agg #[.slice x_v0.1.1.1 v0.1.1.length x_v0.1.1.2, .slice x_v0.1.2.1 v0.1.2.length x_v0.1.2.2]) (q_ldbP [.slice x_v0.1.1.1 v0.1.1.length x_v0.1.1.2, .slice x_v0.1.2.1 v0.1.2.length x_v0.1.2.2] ty38 rfl aB rfl rfl) (bdo j6 fun r7 h8 j6 => (bA (bO (c_impl_IndexOk v0.1 x_v0.1 h8) rfl (aC (aM (aT aS.s.s)) (aC (aM (aT aS.s)) aP))) (aY (cX rfl) ?_)))))
  rcases aL (!r7) with h9 | h9
  ·have j6 := cdT h9 j6
   refine bD (aE rfl) h9 ?_
   iterate 4 refine bF rfl ?_
   refine aY (v := .bool (true)) (bQ rfl rfl) (bC (v := .bool (true)) rfl ?_)
   iterate 4 refine bF rfl ?_
   refine aY (v := .bool (true)) (bQ rfl rfl) ?_
   obtain rfl := si j6
   show At _ _ _ _ _ _
   exact n1 ⟨rfl, rfl, trivial⟩
  ·have j6 := cdF h9 j6
   refine bD (aE rfl) h9 (aZ rfl (cC fa42_1 rfl rfl) (bB rfl (bJ ty39 rfl aB rfl) (aZ rfl (bT 72 dQ rfl) (aZ rfl (cW rfl rfl) (aY (bP rfl rfl) ?_)))))
   rcases aL (decide (6 < (v0.2.1.length : Int))) with h10 | h10
   ·have j6 := cdT h10 j6
    refine bD (aE rfl) h10 ?_
    iterate 4 refine bF rfl ?_
    refine aY (v := .bool (true)) (bQ rfl rfl) ?_
    obtain rfl := si j6
    show At _ _ _ _ _ _
    exact n1 ⟨rfl, rfl, trivial⟩
   ·have j6 := cdF h10 j6
    refine bD (aE rfl) h10 (aZ rfl (cC fa42_2 rfl rfl) (bB rfl (bJ ty40 rfl aB rfl) (aZ rfl (bT 59 dR rfl) (aZ rfl (cW rfl rfl) (aY (bP rfl rfl) ?_)))))
    obtain rfl := si j6
    show At _ _ _ _ _ _
    exact n1 ⟨rfl, rfl, trivial⟩
 refine cH H rfl (fun h11 H => ?_) (fun h11 H => ?_)
 ·refine sr (aH (v := .bool (false)) rfl (nl (bR (rT (?_)))))
  obtain rfl := si H
  exact bk
 ·refine bI (nT (sr (aG (cC fa42_0 rfl rfl) (aG (cC fa38_0 rfl rfl) (aI (bJ ty35 rfl aB rfl) (aG (bT 105 dO rfl) (aH rfl (nl (aD (sr (aG (cC fa42_1 rfl rfl) ?_)))))))))))
  refine aI (bJ ty39 rfl aB rfl) (aG (bT 72 dQ rfl) (aF (v := .int .i64 (0)) rfl (nl (bdo H fun x12 hx13 H => (dD (Λ := Unit) H (fun _ _ => [(1, .pointer (some ⟨g4, 0, none⟩)), (3, .int .i64 ((v0.1.1.length : Int)))]) (fun _ _ => [box g4 42 [.slice x_v0.1.1.1 v0.1.1.length x_v0.1.1.2, .slice x_v0.1.2.1 v0.1.2.length x_v0.1.2.2, .slice x_v0.2.1.1 v0.2.1.length x_v0.2.1.2, .slice x_v0.2.2.1 v0.2.2.length x_v0.2.2.2]]) ?_ ?_)))))
  ·refine aR (dF hx13 () (fun Q16 _ => [(1, .pointer (some ⟨g4, 0, none⟩)), (3, .int .i64 ((v0.1.1.length : Int))), (30, .slice x_v0.2.1.1 v0.2.1.length x_v0.2.1.2), (31, .int .i64 ((v0.2.1.length : Int))), (32, .int .i64 (Q16))]) (fun _ _ => [box g4 42 [.slice x_v0.1.1.1 v0.1.1.length x_v0.1.1.2, .slice x_v0.1.2.1 v0.1.2.length x_v0.1.2.2, .slice x_v0.2.1.1 v0.2.1.length x_v0.2.1.2, .slice x_v0.2.2.1 v0.2.2.length x_v0.2.2.2]]) (.cons aA .nil) ?_)
   rintro _ Q16 z17 t19 H1 hi20 hb21
   unfold p_impl_StoreOk_b0 at H1
   refine sr (aG (cS rfl rfl) (nl (aD (cH H1 rfl (fun h24 H1 => ?_) (fun h24 H1 => ?_)))))
   ·refine bI (nT (aD (aR (sr (gdo H1 fun h25 H1 => (aI (bX dQ ty72 rfl rfl h25 rfl (aM (aU aS))) (aI (v := .agg #[.slice (((X3 Q16.toNat).1).1) (((nth v0.2.1 Q16.toNat).1).length) (((X3 Q16.toNat).1).2.1), .slice (((X3 Q16.toNat).2).1) (((nth v0.2.1 Q16.toNat).2).length) (((X3 Q16.toNat).2).2.1)]) (cB (i := Q16.toNat) ty72 rfl (aM (aU aS)) h25.lt) (f1 (cE ty72) fun g26 => (stb (cs' := [.slice (((X3 Q16.toNat).1).1) (((nth v0.2.1 Q16.toNat).1).length) (((X3 Q16.toNat).1).2.1), .slice (((X3 Q16.toNat).2).1) (((nth v0.2.1 Q16.toNat).2).length) (((X3 Q16.toNat).2).2.1)]) ty72 cZ (nl ?_))))))))))
    refine bdo H1 fun b27 j28 H1 => (dE [(51, .bool (b27)), (1, .pointer (some ⟨g4, 0, none⟩)), (3, .int .i64 ((v0.1.1.length : Int))), (30, .slice x_v0.2.1.1 v0.2.1.length x_v0.2.1.2), (31, .int .i64 ((v0.2.1.length : Int))), (32, .int .i64 (Q16))] ?_ ?_)
    ·refine dI [(5, .pointer (some ⟨g26, 0, none⟩)), (1, .pointer (some ⟨g4, 0, none⟩)), (3, .int .i64 ((v0.1.1.length : Int))), (30, .slice x_v0.2.1.1 v0.2.1.length x_v0.2.1.2), (31, .int .i64 ((v0.2.1.length : Int))), (32, .int .i64 (Q16))] ⟨rfl, rfl, rfl, rfl, rfl, rfl, trivial⟩ (bA (bK ty72 rfl aB rfl) (bdo j28 fun r29 h30 j28 => (bA (bO (c_impl_PartOk (nth v0.2.1 Q16.toNat) ((((X3 Q16.toNat).1).1, ((X3 Q16.toNat).1).2.1), (((X3 Q16.toNat).2).1, ((X3 Q16.toNat).2).2.1)) h30) rfl (aC (aM (aT (aW (aX aS h25.lt)))) (aC (aM (aT (aV (aX aS h25.lt)))) aP))) (aY (cX rfl) ?_))))
     rcases aL (!r29) with h31 | h31
     ·have j28 := cdT h31 j28
      refine bD (aE rfl) h31 ?_
      iterate 4 refine bF rfl ?_
      refine aY (v := .bool (true)) (bQ rfl rfl) (bC (v := .bool (true)) rfl ?_)
      iterate 5 refine bF rfl ?_
      refine aY (v := .bool (true)) (bQ rfl rfl) ?_
      obtain rfl := si j28
      show At _ _ _ _ _ _
      exact n1 ⟨rfl, rfl, rfl, rfl, rfl, rfl, trivial⟩
     ·have j28 := cdF h31 j28
      refine bD (aE rfl) h31 (aZ rfl (cC fa72_0 rfl rfl) (bB rfl (bJ ty69 rfl aB rfl) (aZ rfl (bT 3 dW rfl) (aZ rfl (cV rfl rfl) (aY (bP rfl rfl) ?_)))))
      rcases aL (decide ((((nth v0.2.1 Q16.toNat).1).length : Int) = 0)) with h32 | h32
      ·have j28 := cdT h32 j28
       refine bD (aE rfl) h32 ?_
       iterate 5 refine bF rfl ?_
       refine aY (v := .bool (true)) (bQ rfl rfl) ?_
       obtain rfl := si j28
       show At _ _ _ _ _ _
       exact n1 ⟨rfl, rfl, rfl, rfl, rfl, rfl, trivial⟩
      ·have j28 := cdF h32 j28
       refine bD (aE rfl) h32 (aZ rfl (cC fa72_0 rfl rfl) (bB rfl (bJ ty69 rfl aB rfl) (bdo j28 fun r33 h34 j28 => (bB rfl (bO (c_slices_Max_int_int ((nth v0.2.1 Q16.toNat).1) (((X3 Q16.toNat).1).1, ((X3 Q16.toNat).1).2.1) h34) rfl (aC (aM (aT (aW (aX aS h25.lt)))) aP)) (aZ rfl (aE rfl) (aZ rfl (cW rfl rfl) (aY (bP rfl rfl) ?_)))))))
       obtain rfl := si j28
       show At _ _ _ _ _ _
       exact n1 ⟨rfl, rfl, rfl, rfl, rfl, rfl, trivial⟩
    refine cH H1 rfl (fun h35 H1 => ?_) (fun h35 H1 => ?_)
    ·refine sr (aH (v := .bool (false)) rfl (nl (bR (rB (rT (rT (rB (rT (rT (?_))))))))))
     obtain rfl := hb21 _ (sm H1)
     replace H := sw.r H
     obtain rfl := si H
     exact bk
    ·exact bI (nB (nT (aQ (gdo H1 fun h36 H1 => (aG (bS rfl rfl h36) (aF rfl (aJ (nLI () (hi20 _ (sm H1)) (.cons dl1 .nil)))))))))
   ·exact dB (xT (xT (xE (nMI () (hb21 _ (sm H1)) (.cons aA .nil)))))
  ·rintro e37 y18 H
   refine nT (aD (sr (aG (cC fa42_2 rfl rfl) (aI (bJ ty40 rfl aB rfl) (aG (bT 59 dR rfl) (aF (v := .int .i64 (0)) rfl (nl (bdo H fun x38 hx39 H => (dD (Λ := Unit) H (fun _ _ => [(1, .pointer (some ⟨g4, 0, none⟩)), (3, .int .i64 ((v0.1.1.length : Int)))]) (fun _ _ => [box g4 42 [.slice x_v0.1.1.1 v0.1.1.length x_v0.1.1.2, .slice x_v0.1.2.1 v0.1.2.length x_v0.1.2.2, .slice x_v0.2.1.1 v0.2.1.length x_v0.2.1.2, .slice x_v0.2.2.1 v0.2.2.length x_v0.2.2.2]]) ?_ ?_)))))))))
   ·refine aR (dF hx39 () (fun Q42 _ => [(1, .pointer (some ⟨g4, 0, none⟩)), (3, .int .i64 ((v0.1.1.length : Int))), (54, .slice x_v0.2.2.1 v0.2.2.length x_v0.2.2.2), (55, .int .i64 ((v0.2.2.length : Int))), (56, .int .i64 (Q42))]) (fun _ _ => [box g4 42 [.slice x_v0.1.1.1 v0.1.1.length x_v0.1.1.2, .slice x_v0.1.2.1 v0.1.2.length x_v0.1.2.2, .slice x_v0.2.1.1 v0.2.1.length x_v0.2.1.2, .slice x_v0.2.2.1 v0.2.2.length x_v0.2.2.2]]) (.cons aA .nil) ?_)
    rintro _ Q42 z43 t45 H1 hi46 hb47
    unfold p_impl_StoreOk_b1 at H1
    refine sr (aG (cS rfl rfl) (nl (aD (cH H1 rfl (fun h50 H1 => ?_) (fun h50 H1 => ?_)))))
    ·refine bI (nT (aD (aR (sr (gdo H1 fun h51 H1 => (aI (bX dR ty59 rfl rfl h51 rfl (aO (aM aS.s.s.s.s.s.s))) (aI (v := .agg #[.int .i64 ((nth v0.2.2 Q42.toNat).1), .int .i64 (((nth v0.2.2 Q42.toNat).2).1), .int .i64 (((nth v0.2.2 Q42.toNat).2).2)]) (cB (i := Q42.toNat) ty59 rfl (aO (aM aS.s.s.s.s.s.s)) h51.lt) (f1 (cE ty59) fun g52 => (stb (cs' := [.int .i64 ((nth v0.2.2 Q42.toNat).1), .int .i64 (((nth v0.2.2 Q42.toNat).2).1), .int .i64 (((nth v0.2.2 Q42.toNat).2).2)]) ty59 cZ (nl ?_))))))))))
     refine bdo H1 fun b53 j54 H1 => (dE [(70, .bool (b53)), (1, .pointer (some ⟨g4, 0, none⟩)), (3, .int .i64 ((v0.1.1.length : Int))), (54, .slice x_v0.2.2.1 v0.2.2.length x_v0.2.2.2), (55, .int .i64 ((v0.2.2.length : Int))), (56, .int .i64 (Q42))] ?_ ?_)
     ·refine dI [(7, .pointer (some ⟨g52, 0, none⟩)), (1, .pointer (some ⟨g4, 0, none⟩)), (3, .int .i64 ((v0.1.1.length : Int))), (54, .slice x_v0.2.2.1 v0.2.2.length x_v0.2.2.2), (55, .int .i64 ((v0.2.2.length : Int))), (56, .int .i64 (Q42))] ⟨rfl, rfl, rfl, rfl, rfl, rfl, trivial⟩ (aY (cC fa59_0 rfl rfl) (bA (bJ ty3 rfl aB rfl) (bC rfl (bdo j54 fun r55 h56 j54 => (bA (bO (c_impl_within ((nth v0.2.2 Q42.toNat).1) 1 (v0.1.1.length : Int) h56) rfl aP) (aY (cX rfl) ?_))))))
      rcases aL (!r55) with h57 | h57
      ·have j54 := cdT h57 j54
       refine bD (aE rfl) h57 ?_
       iterate 4 refine bF rfl ?_
       refine aY (v := .bool (true)) (bQ rfl rfl) ?_
       obtain rfl := si j54
       show At _ _ _ _ _ _
       exact n1 ⟨rfl, rfl, rfl, rfl, rfl, rfl, trivial⟩
      ·have j54 := cdF h57 j54
       refine bD (aE rfl) h57 (aZ rfl (cC fa59_1 rfl rfl) (bB (v := .agg #[.int .i64 (((nth v0.2.2 Q42.toNat).2).1), .int .i64 (((nth v0.2.2 Q42.toNat).2).2)]) rfl (q_ldbP [.int .i64 (((nth v0.2.2 Q42.toNat).2).1), .int .i64 (((nth v0.2.2 Q42.toNat).2).2)] ty57 rfl aB rfl rfl) (bdo j54 fun r58 h59 j54 => (bB rfl (bO (c_impl_rowOk ((nth v0.2.2 Q42.toNat).2) h59) rfl aP) (aZ rfl (cX rfl) (aY (bP rfl rfl) ?_))))))
       obtain rfl := si j54
       show At _ _ _ _ _ _
       exact n1 ⟨rfl, rfl, rfl, rfl, rfl, rfl, trivial⟩
     refine cH H1 rfl (fun h60 H1 => ?_) (fun h60 H1 => ?_)
     ·refine sr (aH (v := .bool (false)) rfl (nl (bR (rB (rT (rT (rB (rT (rT (?_))))))))))
      obtain rfl := hb47 _ (sm H1)
      replace H := sw.r H
      obtain rfl := si H
      exact bk
     ·exact bI (nB (nT (aQ (gdo H1 fun h61 H1 => (aG (bS rfl rfl h61) (aF rfl (aJ (nLI () (hi46 _ (sm H1)) (.cons dl1 .nil)))))))))
    ·exact dB (xT (xT (xE (nMI () (hb47 _ (sm H1)) (.cons aA .nil)))))
   ·rintro e62 y44 H
    refine nT (aD (sr (aH (v := .int .i64 (1)) rfl (nl (bdo H fun x63 hx64 H => (dD (Λ := Unit) H (fun _ _ => []) (fun _ _ => []) ?_ ?_))))))
    ·refine aR (dF hx64 () (fun Q67 _ => [(1, .pointer (some ⟨g4, 0, none⟩)), (3, .int .i64 ((v0.1.1.length : Int))), (8, .int .i64 (Q67))]) (fun _ _ => [box g4 42 [.slice x_v0.1.1.1 v0.1.1.length x_v0.1.1.2, .slice x_v0.1.2.1 v0.1.2.length x_v0.1.2.2, .slice x_v0.2.1.1 v0.2.1.length x_v0.2.1.2, .slice x_v0.2.2.1 v0.2.2.length x_v0.2.2.2]]) (.cons aA .nil) ?_)
     rintro _ Q67 z68 t70 H1 hi71 hb72
     unfold p_impl_StoreOk_b2 at H1
     refine aD (sr (aF rfl (aF rfl (aG (p_leq rfl rfl) (nl (cH H1 rfl (fun h75 H1 => ?_) (fun h75 H1 => ?_)))))))
     ·refine bI (nT (aD (aR (sr (aI (bK ty42 rfl aB rfl) (aF rfl (bdo H1 fun r76 h77 H1 => (f1 (cG (c_impl_Store_rows v0 x_v0 Q67 h77) (fun _ => (bG bH)) rfl (aC (aM (aT aS.s.s)) (aC (aM (aT aS.s)) (aC (aM (aT aS)) (aC (aM aS.s.s.s.s.s.s) aP))))) fun x78 => (aG (bT 57 dV rfl) (aG (cW rfl rfl) (nl ?_)))))))))))
      refine cH H1 rfl (fun h79 H1 => ?_) (fun h79 H1 => ?_)
      ·refine sr (aH (v := .bool (false)) rfl (nl (bR (rB (rT (rT (rB (rT (rT (?_))))))))))
       obtain rfl := hb72 _ (sm H1)
       replace H := sw.r H
       obtain rfl := si H
       exact bk
      ·exact bI (nB (nT (aQ (aF rfl (gdo H1 fun h80 H1 => (aG (bS rfl rfl h80) (aH rfl (aJ (nLI () (hi71 _ (sm H1)) (.cons dl1 .nil))))))))))
     ·exact dB (xT (xT (xE (nMI () (hb72 _ (sm H1)) bL))))
    ·rintro e81 y69 H
     refine nT (sr (aH (v := .bool (true)) rfl (nl ?_)))
     obtain rfl := si H
     exact bR bk
noncomputable def p_spec_l6Open (v0 : (List UInt8)) : Option (L6Rd) := cond (decide (2000 < (v0.length : Int))) (gd (sl2 0 2000 v0.length) <| some (((v0.take 2000).drop 0), 0)) (some (v0, 0))
theorem c_spec_l6Open {r : L6Rd} (v0 : (List UInt8)) (x_v0 : Option Addr × Nat) (H : p_spec_l6Open v0 = some r) : Fn' prog 65 #[.slice x_v0.1 v0.length x_v0.2] [imm (.slice x_v0.1 v0.length x_v0.2) v0] [] (ι := Nat × ((Option Addr × Nat) × Unit)) (fun x => .pointer (some ⟨x.1, 0, none⟩)) (fun x => [imm (.slice x.2.1.1 r.1.length x.2.1.2) r.1]) (fun x => [box x.1 169 [.slice x.2.1.1 r.1.length x.2.1.2, .int .i64 (r.2)]]) := by
 refine cof (args := [_]) func65 ntmps65 fun c => ?_
 unfold p_spec_l6Open at H
 refine sr (aH rfl (nl (aD (sr (aF rfl (aG (bT 5 dU rfl) (aG (cW rfl rfl) (nl (cH H rfl (fun h1 H => ?_) (fun h1 H => ?_))))))))))
 ·refine aQ (aF rfl (gdo H fun h2 H => (aI (v := .slice (subA x_v0.1 x_v0.2 0 (Enc.sz UInt8)) (((v0.take 2000).drop 0).length) (x_v0.2 - 0)) (q_slF (l := v0) (α := UInt8) 0 2000 dU ty5 rfl rfl (fun _ => rfl) rfl (fun h => nomatch h) h2 (aM aS)) (aH rfl (nl (sr (aF rfl (aG (v := .agg #[.slice (subA x_v0.1 x_v0.2 0 (Enc.sz UInt8)) (((v0.take 2000).drop 0).length) (x_v0.2 - 0), .int .i64 (0)]) (p_buildS (vs := [(0, .slice (subA x_v0.1 x_v0.2 0 (Enc.sz UInt8)) (((v0.take 2000).drop 0).length) (x_v0.2 - 0))]) (cs := #[.slice (subA x_v0.1 x_v0.2 0 (Enc.sz UInt8)) (((v0.take 2000).drop 0).length) (x_v0.2 - 0), .int .i64 (0)]) ty169 pl169 rfl rfl) (f1 (cD (t := 169) rfl) fun g3 => (aH rfl (nl ?_)))))))))))
  refine bR ?_
  obtain rfl := si H
  exact back1 (g3, ((subA x_v0.1 x_v0.2 0 (Enc.sz UInt8), (x_v0.2 - 0)), ())) rfl (ResV.tmp (v := .pointer (some ⟨g3, 0, none⟩)) rfl) rfl (cN (Ent.sub aS h2.le h2.lt) cO) (.cons aA .nil)
 ·refine bI (nT (sr (aF rfl (aG (v := .agg #[.slice x_v0.1 v0.length x_v0.2, .int .i64 (0)]) (p_buildS (vs := [(0, .slice x_v0.1 v0.length x_v0.2)]) (cs := #[.slice x_v0.1 v0.length x_v0.2, .int .i64 (0)]) ty169 pl169 rfl rfl) (f1 (cD (t := 169) rfl) fun g4 => (aH rfl (nl (bR ?_))))))))
  obtain rfl := si H
  exact back1 (g4, (x_v0, ())) rfl (ResV.tmp (v := .pointer (some ⟨g4, 0, none⟩)) rfl) rfl (cN aS cO) (.cons aA .nil)
noncomputable def p_spec_l11New : Option (Index) := some (([] : List (List Tag)), ([] : List Post))
theorem c_spec_l11New {r : Index}  (H : p_spec_l11New = some r) : Fn' prog 210 #[] [] [] (ι := (Option Addr × Nat) × (Option Addr × Nat)) (fun x => .agg #[.slice x.1.1 r.1.length x.1.2, .slice x.2.1 r.2.length x.2.2]) (fun _ => []) (fun x => [tree (.slice x.1.1 r.1.length x.1.2) r.1, tree (.slice x.2.1 r.2.length x.2.2) r.2]) := by
 refine cof (args := []) func210 ntmps210 fun c => ?_
 unfold p_spec_l11New at H
 refine sr (f1 (cE ty38) fun g1 => (nl (sr (f2 (e_lit0 (List Tag) dO ty105) fun a2 c3 => (f2 (e_lit0 Post dP ty177) fun a4 c5 => (aG (v := .agg #[.slice a2 (([] : List (List Tag)).length) c3, .slice a4 (([] : List Post).length) c5]) (p_buildS (vs := [(0, .slice a2 (([] : List (List Tag)).length) c3), (1, .slice a4 (([] : List Post).length) c5)]) (cs := #[.slice a2 (([] : List (List Tag)).length) c3, .slice a4 (([] : List Post).length) c5]) ty38 pl38 rfl rfl) (stb (cs' := [.slice a2 (([] : List (List Tag)).length) c3, .slice a4 (([] : List Post).length) c5]) ty38 up2 (nl (bR ?_)))))))))
 obtain rfl := si H
 exact back1 ((a2, c3), (a4, c5)) rfl (ResV.agg ty38 rfl hs2 rfl) rfl cO (.cons dl1 (.cons aA .nil))
noncomputable def p_spec_l13New : Option (Store) := bd (p_spec_l11New) fun r2 => some (r2, ([] : List Part), ([] : List Sample))
theorem c_spec_l13New {r : Store}  (H : p_spec_l13New = some r) : Fn' prog 191 #[] [] [] (ι := ((Option Addr × Nat) × (Option Addr × Nat)) × (Option Addr × Nat) × (Option Addr × Nat)) (fun x => .agg #[.slice x.1.1.1 r.1.1.length x.1.1.2, .slice x.1.2.1 r.1.2.length x.1.2.2, .slice x.2.1.1 r.2.1.length x.2.1.2, .slice x.2.2.1 r.2.2.length x.2.2.2]) (fun _ => []) (fun x => [tree (.slice x.1.1.1 r.1.1.length x.1.1.2) r.1.1, tree (.slice x.1.2.1 r.1.2.length x.1.2.2) r.1.2, tree (.slice x.2.1.1 r.2.1.length x.2.1.2) r.2.1, tree (.slice x.2.2.1 r.2.2.length x.2.2.2) r.2.2]) := by
 refine cof (args := []) func191 ntmps191 fun c => ?_
 unfold p_spec_l13New at H
 refine sr (f1 (cE ty42) fun g1 => (nl (sr (bdo H fun r2 h3 H => (f1 (cG (c_spec_l11New h3) (fun _ => (bG (bG bH))) rfl aP) fun x4 => (f2 (e_lit0 Part dQ ty72) fun a5 c6 => (f2 (e_lit0 Sample dR ty59) fun a7 c8 => (aG (v := .agg #[.slice x4.1.1 r2.1.length x4.1.2, .slice x4.2.1 r2.2.length x4.2.2, .slice a5 (([] : List Part).length) c6, .slice a7 (([] : List Sample).length) c8]) (p_buildS (vs := [(0, .agg #[.slice x4.1.1 r2.1.length x4.1.2, .slice x4.2.1 r2.2.length x4.2.2]), (1, .slice a5 (([] : List Part).length) c6), (2, .slice a7 (([] : List Sample).length) c8)]) (cs := #[.slice x4.1.1 r2.1.length x4.1.2, .slice x4.2.1 r2.2.length x4.2.2, .slice a5 (([] : List Part).length) c6, .slice a7 (([] : List Sample).length) c8]) ty42 pl42 rfl rfl) (stb (cs' := [.slice x4.1.1 r2.1.length x4.1.2, .slice x4.2.1 r2.2.length x4.2.2, .slice a5 (([] : List Part).length) c6, .slice a7 (([] : List Sample).length) c8]) ty42 up4 ?_)))))))))
 refine nl (bR ?_)
 obtain rfl := si H
 exact back1 (x4, (a5, c6), (a7, c8)) rfl (ResV.agg ty42 rfl hs4 rfl) rfl cO (.cons dl2 (.cons dl2 (.cons dl1 (.cons aA .nil))))
noncomputable def p_spec_DiskNew : Option (Disk) := some (([] : List File), ([] : List Int), ([] : List (List Tag)), 1)
theorem c_spec_DiskNew {r : Disk}  (H : p_spec_DiskNew = some r) : Fn' prog 192 #[] [] [] (ι := (Option Addr × Nat) × (Option Addr × Nat) × (Option Addr × Nat) × Unit) (fun x => .agg #[.slice x.1.1 r.1.length x.1.2, .slice x.2.1.1 r.2.1.length x.2.1.2, .slice x.2.2.1.1 r.2.2.1.length x.2.2.1.2, .int .i64 (r.2.2.2)]) (fun _ => []) (fun x => [tree (.slice x.1.1 r.1.length x.1.2) r.1, tree (.slice x.2.1.1 r.2.1.length x.2.1.2) r.2.1, tree (.slice x.2.2.1.1 r.2.2.1.length x.2.2.1.2) r.2.2.1]) := by
 refine cof (args := []) func192 ntmps192 fun c => ?_
 unfold p_spec_DiskNew at H
 refine sr (f1 (cE ty76) fun g1 => (nl (sr (f2 (e_lit0 File dY ty80) fun a2 c3 => (f2 (e_lit0 Int dW ty3) fun a4 c5 => (f2 (e_lit0 (List Tag) dO ty105) fun a6 c7 => (aG (v := .agg #[.slice a2 (([] : List File).length) c3, .slice a4 (([] : List Int).length) c5, .slice a6 (([] : List (List Tag)).length) c7, .int .i64 (1)]) (p_buildS (vs := [(0, .slice a2 (([] : List File).length) c3), (1, .slice a4 (([] : List Int).length) c5), (2, .slice a6 (([] : List (List Tag)).length) c7), (3, .int .i64 (1))]) (cs := #[.slice a2 (([] : List File).length) c3, .slice a4 (([] : List Int).length) c5, .slice a6 (([] : List (List Tag)).length) c7, .int .i64 (1)]) ty76 pl76 rfl rfl) (stb (cs' := [.slice a2 (([] : List File).length) c3, .slice a4 (([] : List Int).length) c5, .slice a6 (([] : List (List Tag)).length) c7, .int .i64 (1)]) ty76 up3 (nl ?_)))))))))
 refine bR ?_
 obtain rfl := si H
 exact back1 ((a2, c3), (a4, c5), (a6, c7), ()) rfl (ResV.agg ty76 rfl hs3 rfl) rfl cO (.cons dl2 (.cons dl1 (.cons aA .nil)))
noncomputable def p_spec_WorldNew : Option (World) := bd (p_spec_l13New) fun r2 => bd (p_spec_DiskNew) fun r5 => some (r2, r5)
theorem c_spec_WorldNew {r : World}  (H : p_spec_WorldNew = some r) : Fn' prog 168 #[] [] [] (ι := (((Option Addr × Nat) × (Option Addr × Nat)) × (Option Addr × Nat) × (Option Addr × Nat)) × ((Option Addr × Nat) × (Option Addr × Nat) × (Option Addr × Nat) × Unit)) (fun x => .agg #[.slice x.1.1.1.1 r.1.1.1.length x.1.1.1.2, .slice x.1.1.2.1 r.1.1.2.length x.1.1.2.2, .slice x.1.2.1.1 r.1.2.1.length x.1.2.1.2, .slice x.1.2.2.1 r.1.2.2.length x.1.2.2.2, .slice x.2.1.1 r.2.1.length x.2.1.2, .slice x.2.2.1.1 r.2.2.1.length x.2.2.1.2, .slice x.2.2.2.1.1 r.2.2.2.1.length x.2.2.2.1.2, .int .i64 (r.2.2.2.2)]) (fun _ => []) (fun x => [tree (.slice x.1.1.1.1 r.1.1.1.length x.1.1.1.2) r.1.1.1, tree (.slice x.1.1.2.1 r.1.1.2.length x.1.1.2.2) r.1.1.2, tree (.slice x.1.2.1.1 r.1.2.1.length x.1.2.1.2) r.1.2.1, tree (.slice x.1.2.2.1 r.1.2.2.length x.1.2.2.2) r.1.2.2, tree (.slice x.2.1.1 r.2.1.length x.2.1.2) r.2.1, tree (.slice x.2.2.1.1 r.2.2.1.length x.2.2.1.2) r.2.2.1, tree (.slice x.2.2.2.1.1 r.2.2.2.1.length x.2.2.2.1.2) r.2.2.2.1]) := by
 refine cof (args := []) func168 ntmps168 fun c => ?_
 unfold p_spec_WorldNew at H
 refine sr (f1 (cE ty121) fun g1 => (nl (sr (bdo H fun r2 h3 H => (f1 (cG (c_spec_l13New h3) (fun _ => (bG (bG (bG (bG bH))))) rfl aP) fun x4 => (bdo H fun r5 h6 H => (f1 (cG (c_spec_DiskNew h6) (fun _ => (bG (bG (bG bH)))) rfl aP) fun x7 => (aG (v := .agg #[.slice x4.1.1.1 r2.1.1.length x4.1.1.2, .slice x4.1.2.1 r2.1.2.length x4.1.2.2, .slice x4.2.1.1 r2.2.1.length x4.2.1.2, .slice x4.2.2.1 r2.2.2.length x4.2.2.2, .slice x7.1.1 r5.1.length x7.1.2, .slice x7.2.1.1 r5.2.1.length x7.2.1.2, .slice x7.2.2.1.1 r5.2.2.1.length x7.2.2.1.2, .int .i64 (r5.2.2.2)]) (p_buildS (vs := [(0, .agg #[.slice x4.1.1.1 r2.1.1.length x4.1.1.2, .slice x4.1.2.1 r2.1.2.length x4.1.2.2, .slice x4.2.1.1 r2.2.1.length x4.2.1.2, .slice x4.2.2.1 r2.2.2.length x4.2.2.2]), (1, .agg #[.slice x7.1.1 r5.1.length x7.1.2, .slice x7.2.1.1 r5.2.1.length x7.2.1.2, .slice x7.2.2.1.1 r5.2.2.1.length x7.2.2.1.2, .int .i64 (r5.2.2.2)])]) (cs := #[.slice x4.1.1.1 r2.1.1.length x4.1.1.2, .slice x4.1.2.1 r2.1.2.length x4.1.2.2, .slice x4.2.1.1 r2.2.1.length x4.2.1.2, .slice x4.2.2.1 r2.2.2.length x4.2.2.2, .slice x7.1.1 r5.1.length x7.1.2, .slice x7.2.1.1 r5.2.1.length x7.2.1.2, .slice x7.2.2.1.1 r5.2.2.1.length x7.2.2.1.2, .int .i64 (r5.2.2.2)]) ty121 pl121 rfl (by kernel_rfl)) (stb (cs' := [.slice x4.1.1.1 r2.1.1.length x4.1.1.2, .slice x4.1.2.1 r2.1.2.length x4.1.2.2, .slice x4.2.1.1 r2.2.1.length x4.2.1.2, .slice x4.2.2.1 r2.2.2.length x4.2.2.2, .slice x7.1.1 r5.1.length x7.1.2, .slice x7.2.1.1 r5.2.1.length x7.2.1.2, .slice x7.2.2.1.1 r5.2.2.1.length x7.2.2.1.2, .int .i64 (r5.2.2.2)]) ty121 (up5t up2) ?_)))))))))
 refine nl (bR ?_)
 obtain rfl := si H
 exact back1 (x4, (x7.1, x7.2.1, x7.2.2.1, ())) rfl (ResV.agg ty121 rfl (hs5t hs2) rfl) rfl cO (.cons dl3 (.cons dl3 (.cons dl3 (.cons dl3 (.cons aA (.cons aA (.cons aA .nil)))))))
noncomputable def p_spec_l6Rd_pick (v0 : L6Rd) (v1 : Int) : Option (Int × Int) := gd (I64 (v0.2 + 1)) <| bd (cond (decide (v1 < 1)) (some (true)) (some (decide ((v0.1.length : Int) = 0)))) fun b2 => cond (b2) (some (0, v0.2 + 1)) (gd (I64 ((v0.2 + 1) - 1)) <| cond (decide (((v0.2 + 1) - 1) < (v0.1.length : Int))) (gd (ix ((v0.2 + 1) - 1) v0.1.length) <| gd (v1 ≠ 0) <| gd (I64 (((nth v0.1 (((v0.2 + 1) - 1).toNat)).toNat : Int).tmod v1)) <| some (((nth v0.1 (((v0.2 + 1) - 1).toNat)).toNat : Int).tmod v1, v0.2 + 1)) (gd ((v0.1.length : Int) ≠ 0) <| gd (I64 (((v0.2 + 1) - 1).tmod (v0.1.length : Int))) <| gd (ix (((v0.2 + 1) - 1).tmod (v0.1.length : Int)) v0.1.length) <| gd (I64 (((nth v0.1 ((((v0.2 + 1) - 1).tmod (v0.1.length : Int)).toNat)).toNat : Int) * 131)) <| gd (I64 (((v0.2 + 1) - 1) * 7)) <| gd (I64 ((((v0.2 + 1) - 1) * 7) + 3)) <| gd (I64 (((((v0.2 + 1) - 1) * 7) + 3).tmod (v0.1.length : Int))) <| gd (ix (((((v0.2 + 1) - 1) * 7) + 3).tmod (v0.1.length : Int)) v0.1.length) <| gd (I64 (((nth v0.1 ((((((v0.2 + 1) - 1) * 7) + 3).tmod (v0.1.length : Int)).toNat)).toNat : Int) * 1117)) <| gd (I64 ((((nth v0.1 ((((v0.2 + 1) - 1).tmod (v0.1.length : Int)).toNat)).toNat : Int) * 131) + (((nth v0.1 ((((((v0.2 + 1) - 1) * 7) + 3).tmod (v0.1.length : Int)).toNat)).toNat : Int) * 1117))) <| gd (I64 (((v0.2 + 1) - 1) * 29)) <| gd (I64 (((((nth v0.1 ((((v0.2 + 1) - 1).tmod (v0.1.length : Int)).toNat)).toNat : Int) * 131) + (((nth v0.1 ((((((v0.2 + 1) - 1) * 7) + 3).tmod (v0.1.length : Int)).toNat)).toNat : Int) * 1117)) + (((v0.2 + 1) - 1) * 29))) <| gd (I64 (((v0.2 + 1) - 1).tdiv (v0.1.length : Int))) <| gd (I64 ((((v0.2 + 1) - 1).tdiv (v0.1.length : Int)) * 53)) <| gd (I64 ((((((nth v0.1 ((((v0.2 + 1) - 1).tmod (v0.1.length : Int)).toNat)).toNat : Int) * 131) + (((nth v0.1 ((((((v0.2 + 1) - 1) * 7) + 3).tmod (v0.1.length : Int)).toNat)).toNat : Int) * 1117)) + (((v0.2 + 1) - 1) * 29)) + ((((v0.2 + 1) - 1).tdiv (v0.1.length : Int)) * 53))) <| gd (I64 (((((((nth v0.1 ((((v0.2 + 1) - 1).tmod (v0.1.length : Int)).toNat)).toNat : Int) * 131) + (((nth v0.1 ((((((v0.2 + 1) - 1) * 7) + 3).tmod (v0.1.length : Int)).toNat)).toNat : Int) * 1117)) + (((v0.2 + 1) - 1) * 29)) + ((((v0.2 + 1) - 1).tdiv (v0.1.length : Int)) * 53)).tdiv 64)) <| gd (nn ((((((nth v0.1 ((((v0.2 + 1) - 1).tmod (v0.1.length : Int)).toNat)).toNat : Int) * 131) + (((nth v0.1 ((((((v0.2 + 1) - 1) * 7) + 3).tmod (v0.1.length : Int)).toNat)).toNat : Int) * 1117)) + (((v0.2 + 1) - 1) * 29)) + ((((v0.2 + 1) - 1).tdiv (v0.1.length : Int)) * 53))) <| gd (nn (((((((nth v0.1 ((((v0.2 + 1) - 1).tmod (v0.1.length : Int)).toNat)).toNat : Int) * 131) + (((nth v0.1 ((((((v0.2 + 1) - 1) * 7) + 3).tmod (v0.1.length : Int)).toNat)).toNat : Int) * 1117)) + (((v0.2 + 1) - 1) * 29)) + ((((v0.2 + 1) - 1).tdiv (v0.1.length : Int)) * 53)).tdiv 64)) <| gd (v1 ≠ 0) <| gd (I64 ((xr ((((((nth v0.1 ((((v0.2 + 1) - 1).tmod (v0.1.length : Int)).toNat)).toNat : Int) * 131) + (((nth v0.1 ((((((v0.2 + 1) - 1) * 7) + 3).tmod (v0.1.length : Int)).toNat)).toNat : Int) * 1117)) + (((v0.2 + 1) - 1) * 29)) + ((((v0.2 + 1) - 1).tdiv (v0.1.length : Int)) * 53)) (((((((nth v0.1 ((((v0.2 + 1) - 1).tmod (v0.1.length : Int)).toNat)).toNat : Int) * 131) + (((nth v0.1 ((((((v0.2 + 1) - 1) * 7) + 3).tmod (v0.1.length : Int)).toNat)).toNat : Int) * 1117)) + (((v0.2 + 1) - 1) * 29)) + ((((v0.2 + 1) - 1).tdiv (v0.1.length : Int)) * 53)).tdiv 64)).tmod v1)) <| some ((xr ((((((nth v0.1 ((((v0.2 + 1) - 1).tmod (v0.1.length : Int)).toNat)).toNat : Int) * 131) + (((nth v0.1 ((((((v0.2 + 1) - 1) * 7) + 3).tmod (v0.1.length : Int)).toNat)).toNat : Int) * 1117)) + (((v0.2 + 1) - 1) * 29)) + ((((v0.2 + 1) - 1).tdiv (v0.1.length : Int)) * 53)) (((((((nth v0.1 ((((v0.2 + 1) - 1).tmod (v0.1.length : Int)).toNat)).toNat : Int) * 131) + (((nth v0.1 ((((((v0.2 + 1) - 1) * 7) + 3).tmod (v0.1.length : Int)).toNat)).toNat : Int) * 1117)) + (((v0.2 + 1) - 1) * 29)) + ((((v0.2 + 1) - 1).tdiv (v0.1.length : Int)) * 53)).tdiv 64)).tmod v1, v0.2 + 1)))
theorem c_spec_l6Rd_pick {r : Int × Int} (g_v0 : Nat) (v0 : L6Rd) (x_v0 : (Option Addr × Nat) × Unit) (v1 : Int) (H : p_spec_l6Rd_pick v0 v1 = some r) : Fn' prog 67 #[.pointer (some ⟨g_v0, 0, none⟩), .int .i64 (v1)] [imm (.slice x_v0.1.1 v0.1.length x_v0.1.2) v0.1] [box g_v0 169 [.slice x_v0.1.1 v0.1.length x_v0.1.2, .int .i64 (v0.2)]] (ι := Unit) (fun _ => .int .i64 (r.1)) (fun _ => []) (fun _ => [box g_v0 169 [.slice x_v0.1.1 v0.1.length x_v0.1.2, .int .i64 (r.2)]]) := by
 refine cof (args := [_, _]) func67 ntmps67 fun c => ?_
 unfold p_spec_l6Rd_pick at H
 refine sr (aH (v := .int .i64 (0)) rfl (nl (sr (aF rfl (aF rfl (aG (p_nil rfl) (aG (cC fa169_1 rfl rfl) (aI (bJ ty3 rfl aB rfl) (gdo H fun h1 H => (aG (bS rfl rfl h1) ?_))))))))))
 refine aG (p_nil rfl) (aG (cC fa169_1 rfl rfl) (stb (cs' := [.slice x_v0.1.1 v0.1.length x_v0.1.2, .int .i64 (v0.2 + 1)]) ty3 cZ (nl (aD (bdo H fun b2 j3 H => (dE [(24, .bool (b2)), (0, .pointer (some ⟨g_v0, 0, none⟩)), (1, .int .i64 (v1))] ?_ ?_))))))
 ·refine dI [(0, .pointer (some ⟨g_v0, 0, none⟩)), (1, .int .i64 (v1))] ⟨rfl, rfl, trivial⟩ (bC rfl (aY (cS rfl rfl) ?_))
  rcases aL (decide (v1 < 1)) with h4 | h4
  ·have j3 := cdT h4 j3
   refine bD (aE rfl) h4 ?_
   iterate 6 refine bF rfl ?_
   refine aY (v := .bool (true)) (bQ rfl rfl) ?_
   obtain rfl := si j3
   show At _ _ _ _ _ _
   exact n1 ⟨rfl, rfl, rfl, trivial⟩
  ·have j3 := cdF h4 j3
   refine bD (aE rfl) h4 (aZ rfl (aE rfl) (aZ rfl (p_nil rfl) (aZ rfl (cC fa169_0 rfl rfl) (bB rfl (bJ ty53 rfl aB rfl) (aZ rfl (bT 5 dU rfl) (aZ rfl (cV rfl rfl) (aY (bP rfl rfl) ?_)))))))
   obtain rfl := si j3
   show At _ _ _ _ _ _
   exact n1 ⟨rfl, rfl, rfl, trivial⟩
 refine cH H rfl (fun h5 H => ?_) (fun h5 H => ?_)
 ·refine sr (aH (v := .int .i64 (0)) rfl (nl (bR (rT (?_)))))
  obtain rfl := si H
  exact bk (.cons aA .nil)
 ·refine bI (nT (sr (aF rfl (aG (p_nil rfl) (aG (cC fa169_1 rfl rfl) (aI (bJ ty3 rfl aB rfl) (gdo H fun h6 H => (aG (cT rfl rfl h6) (aH rfl (nl ?_))))))))))
  refine aD (sr (aF rfl (aF rfl (aG (p_nil rfl) (aG (cC fa169_0 rfl rfl) (aI (bJ ty53 rfl aB rfl) (aG (bT 5 dU rfl) (aG (cS rfl rfl) (nl (cH H rfl (fun h7 H => ?_) (fun h7 H => ?_)))))))))))
  ·refine sr (aF rfl (aG (p_nil rfl) (aG (cC fa169_0 rfl rfl) (aI (bJ ty53 rfl aB rfl) (aF rfl (gdo H fun h8 H => (aI (bX dU ty5 rfl rfl h8 rfl (aO (aM aS))) (aI (cA (i := ((v0.2 + 1) - 1).toNat) (j := 0) ty5 rfl (aO (aM aS)) h8.lt rfl) (aG (p_i8 dT dN rfl) ?_)))))))))
   refine aF rfl (gdo H fun h9 H => (gdo H fun h10 H => (aG (p_rem rfl rfl h9 h10) (aH rfl (nl (bR (rT (?_))))))))
   obtain rfl := si H
   exact back1 () rfl (ResV.tmp (v := .int .i64 (((nth v0.1 (((v0.2 + 1) - 1).toNat)).toNat : Int).tmod v1)) rfl) rfl cO (.cons aA .nil)
  ·refine bI (nT (aD (dG [(5, .int .i64 ((v0.2 + 1) - 1)), (0, .pointer (some ⟨g_v0, 0, none⟩)), (1, .int .i64 (v1))] mixed (.inr (by kernel_rfl)) ⟨rfl, rfl, rfl, trivial⟩ rfl (bC rfl (aY (p_nil rfl) (aY (cC fa169_0 rfl rfl) (bA (bJ ty53 rfl aB rfl) (bC rfl (bC rfl (aY (p_nil rfl) ?_))))))))))
   refine aY (cC fa169_0 rfl rfl) (bA (bJ ty53 rfl aB rfl) (aY (bT 5 dU rfl) (gdo H fun h11 H => (gdo H fun h12 H => (aY (p_rem rfl rfl h11 h12) (gdo H fun h13 H => (bA (bX dU ty5 rfl rfl h13 rfl (aO (aM aS))) (bA (cA (i := (((v0.2 + 1) - 1).tmod (v0.1.length : Int)).toNat) (j := 0) ty5 rfl (aO (aM aS)) h13.lt rfl) (aY (p_i8 dT dN rfl) ?_)))))))))
   refine gdo H fun h14 H => (aY (p_mul rfl rfl h14) (bC rfl (aY (p_nil rfl) (aY (cC fa169_0 rfl rfl) (bA (bJ ty53 rfl aB rfl) (bC rfl (gdo H fun h15 H => (aY (p_mul rfl rfl h15) (gdo H fun h16 H => ?_)))))))))
   refine aY (bS rfl rfl h16) (bC rfl (aY (p_nil rfl) (aY (cC fa169_0 rfl rfl) (bA (bJ ty53 rfl aB rfl) (aY (bT 5 dU rfl) (gdo H fun h17 H => (aY (p_rem rfl rfl h11 h17) (gdo H fun h18 H => (bA (bX dU ty5 rfl rfl h18 rfl (aO (aM aS))) ?_)))))))))
   refine bA (cA (i := (((((v0.2 + 1) - 1) * 7) + 3).tmod (v0.1.length : Int)).toNat) (j := 0) ty5 rfl (aO (aM aS)) h18.lt rfl) (aY (p_i8 dT dN rfl) (gdo H fun h19 H => (aY (p_mul rfl rfl h19) (gdo H fun h20 H => (aY (bS rfl rfl h20) (bC rfl (gdo H fun h21 H => (aY (p_mul rfl rfl h21) (gdo H fun h22 H => ?_)))))))))
   refine aY (bS rfl rfl h22) (bC rfl (bC rfl (aY (p_nil rfl) (aY (cC fa169_0 rfl rfl) (bA (bJ ty53 rfl aB rfl) (aY (bT 5 dU rfl) (gdo H fun h23 H => (aY (p_quo rfl rfl h11 h23) (gdo H fun h24 H => ?_)))))))))
   refine aY (p_mul rfl rfl h24) (gdo H fun h25 H => (aY (bS rfl rfl h25) (aY (p_assign rfl) (nT (sr (aF rfl (aF rfl (gdo H fun h26 H => (aG (p_quo rfl rfl (by decide) h26) ?_)))))))))
   refine gdo H fun h27 H => (gdo H fun h28 H => (aG (v := .int .i64 (xr ((((((nth v0.1 ((((v0.2 + 1) - 1).tmod (v0.1.length : Int)).toNat)).toNat : Int) * 131) + (((nth v0.1 ((((((v0.2 + 1) - 1) * 7) + 3).tmod (v0.1.length : Int)).toNat)).toNat : Int) * 1117)) + (((v0.2 + 1) - 1) * 29)) + ((((v0.2 + 1) - 1).tdiv (v0.1.length : Int)) * 53)) (((((((nth v0.1 ((((v0.2 + 1) - 1).tmod (v0.1.length : Int)).toNat)).toNat : Int) * 131) + (((nth v0.1 ((((((v0.2 + 1) - 1) * 7) + 3).tmod (v0.1.length : Int)).toNat)).toNat : Int) * 1117)) + (((v0.2 + 1) - 1) * 29)) + ((((v0.2 + 1) - 1).tdiv (v0.1.length : Int)) * 53)).tdiv 64))) (p_xor rfl rfl h27 h28) (aH rfl (nl (sr (aF rfl (aF rfl (gdo H fun h29 H => (gdo H fun h30 H => (aG (p_rem rfl rfl h29 h30) ?_))))))))))
   refine aH rfl (nl (bR ?_))
   obtain rfl := si H
   exact back1 () rfl (ResV.tmp (v := .int .i64 ((xr ((((((nth v0.1 ((((v0.2 + 1) - 1).tmod (v0.1.length : Int)).toNat)).toNat : Int) * 131) + (((nth v0.1 ((((((v0.2 + 1) - 1) * 7) + 3).tmod (v0.1.length : Int)).toNat)).toNat : Int) * 1117)) + (((v0.2 + 1) - 1) * 29)) + ((((v0.2 + 1) - 1).tdiv (v0.1.length : Int)) * 53)) (((((((nth v0.1 ((((v0.2 + 1) - 1).tmod (v0.1.length : Int)).toNat)).toNat : Int) * 131) + (((nth v0.1 ((((((v0.2 + 1) - 1) * 7) + 3).tmod (v0.1.length : Int)).toNat)).toNat : Int) * 1117)) + (((v0.2 + 1) - 1) * 29)) + ((((v0.2 + 1) - 1).tdiv (v0.1.length : Int)) * 53)).tdiv 64)).tmod v1)) rfl) rfl cO (.cons aA .nil)
noncomputable def p_spec_l6Rd_of (v0 : L6Rd) (v1 : (List ByteArray)) : Option (ByteArray × Int) := bd (p_spec_l6Rd_pick v0 (v1.length : Int)) fun r1 => gd (ix r1.1 v1.length) <| some (nth v1 r1.1.toNat, r1.2)
theorem c_spec_l6Rd_of {r : ByteArray × Int} (g_v0 : Nat) (v0 : L6Rd) (x_v0 : (Option Addr × Nat) × Unit) (v1 : (List ByteArray)) (x_v1 : Option Addr × Nat) (H : p_spec_l6Rd_of v0 v1 = some r) : Fn' prog 172 #[.pointer (some ⟨g_v0, 0, none⟩), .slice x_v1.1 v1.length x_v1.2] [imm (.slice x_v0.1.1 v0.1.length x_v0.1.2) v0.1, imm (.slice x_v1.1 v1.length x_v1.2) v1] [box g_v0 169 [.slice x_v0.1.1 v0.1.length x_v0.1.2, .int .i64 (v0.2)]] (ι := Unit) (fun _ => .string (r.1)) (fun _ => []) (fun _ => [box g_v0 169 [.slice x_v0.1.1 v0.1.length x_v0.1.2, .int .i64 (r.2)]]) := by
 refine cof (args := [_, _]) func172 ntmps172 fun c => ?_
 unfold p_spec_l6Rd_of at H
 refine sr (aH (v := .string ((⟨#[]⟩ : ByteArray))) rfl (nl (sr (aF rfl (aF rfl (aF rfl (aG (bT 9 dL rfl) (bdo H fun r1 h2 H => (f1 (cI (c_spec_l6Rd_pick g_v0 v0 (x_v0.1, ()) (v1.length : Int) h2) (Solo.box bH) (fun _ => (Solo.box bH)) rfl (.cons aA .nil) (aC (aM aS) aP)) fun u3 => (gdo H fun h4 H => ?_))))))))))
 refine aI (bX dL ty9 rfl rfl h4 rfl (aO (aM aS.s))) (aI (cA (i := r1.1.toNat) (j := 0) ty9 rfl (aO (aM aS.s)) h4.lt rfl) (aH rfl (nl ?_)))
 obtain rfl := si H
 exact bR (bk (.cons aA .nil))
noncomputable def p_spec_l71Tag (v0 : L6Rd) : Option (Tag × Int) := bd (p_spec_l6Rd_of v0 ([(⟨#[97]⟩ : ByteArray), (⟨#[98]⟩ : ByteArray), (⟨#[99]⟩ : ByteArray)] : List ByteArray)) fun r4 => bd (p_spec_l6Rd_of (v0.1, r4.2) ([(⟨#[112]⟩ : ByteArray), (⟨#[113]⟩ : ByteArray), (⟨#[122]⟩ : ByteArray)] : List ByteArray)) fun r9 => some ((r4.1, r9.1), r9.2)
theorem c_spec_l71Tag {r : Tag × Int} (g_v0 : Nat) (v0 : L6Rd) (x_v0 : (Option Addr × Nat) × Unit) (H : p_spec_l71Tag v0 = some r) : Fn' prog 173 #[.pointer (some ⟨g_v0, 0, none⟩)] [imm (.slice x_v0.1.1 v0.1.length x_v0.1.2) v0.1] [box g_v0 169 [.slice x_v0.1.1 v0.1.length x_v0.1.2, .int .i64 (v0.2)]] (ι := Unit) (fun _ => .agg #[.string (r.1.1), .string (r.1.2)]) (fun _ => []) (fun _ => [box g_v0 169 [.slice x_v0.1.1 v0.1.length x_v0.1.2, .int .i64 (r.2)]]) := by
 refine cof (args := [_]) func173 ntmps173 fun c => ?_
 unfold p_spec_l71Tag at H
 refine sr (f1 (cE ty97) fun g1 => (nl (sr (aF rfl (f2 (e_litT (α := ByteArray) (vs := [(0, .string ((⟨#[97]⟩ : ByteArray))), (1, .string ((⟨#[98]⟩ : ByteArray))), (2, .string ((⟨#[99]⟩ : ByteArray)))]) [(⟨#[97]⟩ : ByteArray), (⟨#[98]⟩ : ByteArray), (⟨#[99]⟩ : ByteArray)] rfl (fun _ => rfl) (fun _ _ => by repeat constructor) dL ty9 rfl (by decide) (by decide) (by kernel_rfl)) fun a2 c3 => (bdo H fun r4 h5 H => (f1 (cI (c_spec_l6Rd_of g_v0 v0 (x_v0.1, ()) ([(⟨#[97]⟩ : ByteArray), (⟨#[98]⟩ : ByteArray), (⟨#[99]⟩ : ByteArray)] : List ByteArray) (a2, c3) h5) (Solo.box bH) (fun _ => (Solo.box bH)) rfl (.cons dl2 .nil) (aC (aM aS) (aC (bM aB) aP))) fun u6 => (aF rfl (f2 (e_litT (α := ByteArray) (vs := [(0, .string ((⟨#[112]⟩ : ByteArray))), (1, .string ((⟨#[113]⟩ : ByteArray))), (2, .string ((⟨#[122]⟩ : ByteArray)))]) [(⟨#[112]⟩ : ByteArray), (⟨#[113]⟩ : ByteArray), (⟨#[122]⟩ : ByteArray)] rfl (fun _ => rfl) (fun _ _ => by repeat constructor) dL ty9 rfl (by decide) (by decide) (by kernel_rfl)) fun a7 c8 => ?_)))))))))
 refine bdo H fun r9 h10 H => (f1 (cI (c_spec_l6Rd_of g_v0 (v0.1, r4.2) (x_v0.1, ()) ([(⟨#[112]⟩ : ByteArray), (⟨#[113]⟩ : ByteArray), (⟨#[122]⟩ : ByteArray)] : List ByteArray) (a7, c8) h10) (Solo.box bH) (fun _ => (Solo.box bH)) rfl (.cons dl1 .nil) (aC (aM aS) (aC (bM aB) aP))) fun u11 => (aG (v := .agg #[.string (r4.1), .string (r9.1)]) (p_buildS (vs := [(0, .string (r4.1)), (1, .string (r9.1))]) (cs := #[.string (r4.1), .string (r9.1)]) ty97 pl97 rfl rfl) (stb (cs' := [.string (r4.1), .string (r9.1)]) ty97 up3 (nl (bR ?_)))))
 obtain rfl := si H
 exact back1 () rfl (ResV.agg ty97 rfl hs3 rfl) rfl cO (.cons aA .nil)
noncomputable def p_spec_l71Name_b0 (v0 : L6Rd) (Q9 : Int × (List Tag) × Int) : Option ((Int × (List Tag) × Int) ⊕ (Int × (List Tag))) := cond (decide (Q9.2.2 < (([(⟨#[97]⟩ : ByteArray), (⟨#[98]⟩ : ByteArray), (⟨#[99]⟩ : ByteArray)] : List ByteArray).length : Int))) (gd (ix Q9.2.2 ([(⟨#[97]⟩ : ByteArray), (⟨#[98]⟩ : ByteArray), (⟨#[99]⟩ : ByteArray)] : List ByteArray).length) <| bd (p_spec_l6Rd_pick (v0.1, Q9.1) 2) fun r19 => cond (decide (r19.1 = 0)) (bd (p_spec_l6Rd_of (v0.1, r19.2) ([(⟨#[112]⟩ : ByteArray), (⟨#[113]⟩ : ByteArray), (⟨#[122]⟩ : ByteArray)] : List ByteArray)) fun r25 => gd (room (Q9.2.1.length + 1)) <| gd (I64 (Q9.2.2 + 1)) <| some (.inl (r25.2, (Q9.2.1 ++ [((nth ([(⟨#[97]⟩ : ByteArray), (⟨#[98]⟩ : ByteArray), (⟨#[99]⟩ : ByteArray)] : List ByteArray) Q9.2.2.toNat), r25.1)]), Q9.2.2 + 1))) (gd (I64 (Q9.2.2 + 1)) <| some (.inl (r19.2, Q9.2.1, Q9.2.2 + 1)))) (some (.inr (Q9.1, Q9.2.1)))
noncomputable def p_spec_l71Name (v0 : L6Rd) : Option ((List Tag) × Int) := bd (lp (p_spec_l71Name_b0 v0) (v0.2, ([] : List Tag), 0)) fun x5 => cond (decide ((x5.2.length : Int) = 0)) (bd (p_spec_l71Tag (v0.1, x5.1)) fun r35 => gd (room (x5.2.length + 1)) <| bd (p_spec_l6Rd_pick (v0.1, r35.2) 40) fun r42 => cond (decide (r42.1 = 0)) (bd (p_spec_l71Tag (v0.1, r42.2)) fun r46 => gd (room ((x5.2 ++ [r35.1]).length + 1)) <| some ((x5.2 ++ [r35.1]) ++ [r46.1], r46.2)) (cond (decide (r42.1 = 1)) (gd (ix 0 (x5.2 ++ [r35.1]).length) <| bd (p_spec_l6Rd_of (v0.1, r42.2) ([(⟨#[]⟩ : ByteArray), (⟨#[111]⟩ : ByteArray), (⟨#[112, 112]⟩ : ByteArray)] : List ByteArray)) fun r58 => some ((x5.2 ++ [r35.1]).set 0 (((nth (x5.2 ++ [r35.1]) 0).1), r58.1), r58.2)) (some (x5.2 ++ [r35.1], r42.2)))) (bd (p_spec_l6Rd_pick (v0.1, x5.1) 40) fun r61 => cond (decide (r61.1 = 0)) (bd (p_spec_l71Tag (v0.1, r61.2)) fun r65 => gd (room (x5.2.length + 1)) <| some (x5.2 ++ [r65.1], r65.2)) (cond (decide (r61.1 = 1)) (gd (ix 0 x5.2.length) <| bd (p_spec_l6Rd_of (v0.1, r61.2) ([(⟨#[]⟩ : ByteArray), (⟨#[111]⟩ : ByteArray), (⟨#[112, 112]⟩ : ByteArray)] : List ByteArray)) fun r77 => some (x5.2.set 0 (((nth x5.2 0).1), r77.1), r77.2)) (some (x5.2, r61.2))))
theorem c_spec_l71Name {r : (List Tag) × Int} (g_v0 : Nat) (v0 : L6Rd) (x_v0 : (Option Addr × Nat) × Unit) (H : p_spec_l71Name v0 = some r) : Fn' prog 121 #[.pointer (some ⟨g_v0, 0, none⟩)] [imm (.slice x_v0.1.1 v0.1.length x_v0.1.2) v0.1] [box g_v0 169 [.slice x_v0.1.1 v0.1.length x_v0.1.2, .int .i64 (v0.2)]] (ι := Option Addr × Nat) (fun x => .slice x.1 r.1.length x.2) (fun _ => []) (fun x => [tree (.slice x.1 r.1.length x.2) r.1, box g_v0 169 [.slice x_v0.1.1 v0.1.length x_v0.1.2, .int .i64 (r.2)]]) := by
 refine cof (args := [_]) func121 ntmps121 fun c => ?_
 unfold p_spec_l71Name at H
 refine sr (aH (v := .slice none 0 0) rfl (nl (sr (f2 (e_lit0 Tag dK ty97) fun a1 c2 => (aH rfl (nl (aD (sr (f2 (e_litT (α := ByteArray) (vs := [(0, .string ((⟨#[97]⟩ : ByteArray))), (1, .string ((⟨#[98]⟩ : ByteArray))), (2, .string ((⟨#[99]⟩ : ByteArray)))]) [(⟨#[97]⟩ : ByteArray), (⟨#[98]⟩ : ByteArray), (⟨#[99]⟩ : ByteArray)] rfl (fun _ => rfl) (fun _ _ => by repeat constructor) dL ty9 rfl (by decide) (by decide) (by kernel_rfl)) fun a3 c4 => (aG (bT 9 dL rfl) (aF (v := .int .i64 (0)) rfl (nl (bdo H fun x5 hx6 H => ?_)))))))))))))
 refine dC (ι := Option Addr × Nat) (fun ψ => [(0, .pointer (some ⟨g_v0, 0, none⟩)), (3, .slice ψ.1 x5.2.length ψ.2)]) (fun ψ => [box g_v0 169 [.slice x_v0.1.1 v0.1.length x_v0.1.2, .int .i64 (x5.1)], tree (.slice ψ.1 x5.2.length ψ.2) x5.2]) ?_ ?_
 ·refine aR (dF hx6 (a1, c2) (fun Q9 z10 => [(0, .pointer (some ⟨g_v0, 0, none⟩)), (3, .slice z10.1 Q9.2.1.length z10.2), (7, .slice a3 (([(⟨#[97]⟩ : ByteArray), (⟨#[98]⟩ : ByteArray), (⟨#[99]⟩ : ByteArray)] : List ByteArray).length) c4), (8, .int .i64 ((([(⟨#[97]⟩ : ByteArray), (⟨#[98]⟩ : ByteArray), (⟨#[99]⟩ : ByteArray)] : List ByteArray).length : Int))), (9, .int .i64 (Q9.2.2))]) (fun Q9 z10 => [box g_v0 169 [.slice x_v0.1.1 v0.1.length x_v0.1.2, .int .i64 (Q9.1)], tree (.slice z10.1 Q9.2.1.length z10.2) Q9.2.1, tree (.slice a3 (([(⟨#[97]⟩ : ByteArray), (⟨#[98]⟩ : ByteArray), (⟨#[99]⟩ : ByteArray)] : List ByteArray).length) c4) ([(⟨#[97]⟩ : ByteArray), (⟨#[98]⟩ : ByteArray), (⟨#[99]⟩ : ByteArray)] : List ByteArray)]) (.cons dl2 (.cons dl1 (.cons aA .nil))) ?_)
  rintro _ Q9 z10 t12 H1 hi13 hb14
  unfold p_spec_l71Name_b0 at H1
  refine sr (aG (cS rfl rfl) (nl (aD (cH H1 rfl (fun h17 H1 => ?_) (fun h17 H1 => ?_)))))
  ·refine bI (nT (aD (aR (sr (gdo H1 fun h18 H1 => (aI (bY dL ty9 rfl rfl h18 hs2) (aI (cA (i := Q9.2.2.toNat) (j := 0) ty9 rfl (aO (bM hs2)) h18.lt rfl) (aH rfl (nl (sr (aF rfl ?_)))))))))))
   refine bdo H1 fun r19 h20 H1 => (f1 (cI (c_spec_l6Rd_pick g_v0 (v0.1, Q9.1) (x_v0.1, ()) 2 h20) (Solo.box bH) (fun _ => (Solo.box bH)) rfl (.cons aA .nil) (aC (aM aS) aP)) fun u21 => (aG (cV rfl rfl) (nl (cH H1 rfl (fun h22 H1 => ?_) (fun h22 H1 => ?_)))))
   ·refine aQ (aF rfl (aF rfl (aF rfl (f2 (e_litT (α := ByteArray) (vs := [(0, .string ((⟨#[112]⟩ : ByteArray))), (1, .string ((⟨#[113]⟩ : ByteArray))), (2, .string ((⟨#[122]⟩ : ByteArray)))]) [(⟨#[112]⟩ : ByteArray), (⟨#[113]⟩ : ByteArray), (⟨#[122]⟩ : ByteArray)] rfl (fun _ => rfl) (fun _ _ => by repeat constructor) dL ty9 rfl (by decide) (by decide) (by kernel_rfl)) fun a23 c24 => (bdo H1 fun r25 h26 H1 => (f1 (cI (c_spec_l6Rd_of g_v0 (v0.1, r19.2) (x_v0.1, ()) ([(⟨#[112]⟩ : ByteArray), (⟨#[113]⟩ : ByteArray), (⟨#[122]⟩ : ByteArray)] : List ByteArray) (a23, c24) h26) (Solo.box bH) (fun _ => (Solo.box bH)) rfl (.cons dl1 .nil) (aC (aM aS) (aC (bM aB) aP))) fun u27 => (aG (v := .agg #[.string (nth ([(⟨#[97]⟩ : ByteArray), (⟨#[98]⟩ : ByteArray), (⟨#[99]⟩ : ByteArray)] : List ByteArray) Q9.2.2.toNat), .string (r25.1)]) (p_buildS (vs := [(0, .string (nth ([(⟨#[97]⟩ : ByteArray), (⟨#[98]⟩ : ByteArray), (⟨#[99]⟩ : ByteArray)] : List ByteArray) Q9.2.2.toNat)), (1, .string (r25.1))]) (cs := #[.string (nth ([(⟨#[97]⟩ : ByteArray), (⟨#[98]⟩ : ByteArray), (⟨#[99]⟩ : ByteArray)] : List ByteArray) Q9.2.2.toNat), .string (r25.1)]) ty97 pl97 rfl rfl) (f1 (e_lit (vs := [(0, .agg #[.string (nth ([(⟨#[97]⟩ : ByteArray), (⟨#[98]⟩ : ByteArray), (⟨#[99]⟩ : ByteArray)] : List ByteArray) Q9.2.2.toNat), .string (r25.1)])]) [.string (nth ([(⟨#[97]⟩ : ByteArray), (⟨#[98]⟩ : ByteArray), (⟨#[99]⟩ : ByteArray)] : List ByteArray) Q9.2.2.toNat), .string (r25.1)] dK ty97 rfl (by decide) (by decide) (by kernel_rfl)) fun g28 => (gdo H1 fun h31 H1 => ?_)))))))))
    exact f2 (e_app1 (l := Q9.2.1) (α := Tag) ((nth ([(⟨#[97]⟩ : ByteArray), (⟨#[98]⟩ : ByteArray), (⟨#[99]⟩ : ByteArray)] : List ByteArray) Q9.2.2.toNat), r25.1) ((), ()) dK ty97 rfl rfl (h31.b (by decide)) h31.x rfl (cY _) (.cons dl3 (.cons aA .nil))) fun a29 c30 => (aH rfl (aJ (nB (nT (aQ (gdo H1 fun h32 H1 => (aG (bS rfl rfl h32) (aF rfl (aJ (nLI (a29, c30) (hi13 _ (sm H1)) (.cons dl1 (.cons aA (.cons dl1 .nil)))))))))))))
   ·exact bI (nB (nT (aQ (gdo H1 fun h33 H1 => (aG (bS rfl rfl h33) (aF rfl (aJ (nLI (z10.1, z10.2) (hi13 _ (sm H1)) (.cons aA (.cons aA (.cons aA .nil)))))))))))
  ·refine dB (xT (xT (xE (?_))))
   obtain rfl := hb14 _ (sm H1)
   exact nMC (z10.1, z10.2) ⟨rfl, rfl, trivial⟩ bU (.cons aA (.cons aA .nil))
 ·intro y11
  show At _ _ [(0, .pointer (some ⟨g_v0, 0, none⟩)), (3, .slice y11.1 x5.2.length y11.2)] _ [box g_v0 169 [.slice x_v0.1.1 v0.1.length x_v0.1.2, .int .i64 (x5.1)], tree (.slice y11.1 x5.2.length y11.2) x5.2] _
  refine nT (aD (sr (aF rfl (aG (bT 97 dK rfl) (aG (cV rfl rfl) (nl (cH H rfl (fun h34 H => ?_) (fun h34 H => ?_))))))))
  ·refine aQ (aF rfl (aF rfl (bdo H fun r35 h36 H => (f1 (cI (c_spec_l71Tag g_v0 (v0.1, x5.1) (x_v0.1, ()) h36) (Solo.box bH) (fun _ => (Solo.box bH)) rfl (.cons aA .nil) (aC (aM aS) aP)) fun u37 => (f1 (e_lit (vs := [(0, .agg #[.string (r35.1.1), .string (r35.1.2)])]) [.string (r35.1.1), .string (r35.1.2)] dK ty97 rfl (by decide) (by decide) (by kernel_rfl)) fun g38 => (gdo H fun h41 H => (f2 (e_app1 (l := x5.2) (α := Tag) r35.1 ((), ()) dK ty97 rfl rfl (h41.b (by decide)) h41.x rfl (cY _) (.cons dl2 (.cons aA .nil))) fun a39 c40 => (aH rfl (nl (aD (sr ?_)))))))))))
   refine aF rfl (bdo H fun r42 h43 H => (f1 (cI (c_spec_l6Rd_pick g_v0 (v0.1, r35.2) (x_v0.1, ()) 40 h43) (Solo.box bH) (fun _ => (Solo.box bH)) rfl (.cons dl1 .nil) (aC (aM aS) aP)) fun u44 => (nl (aR (sr (aG (cV rfl rfl) (aH rfl (nl (cH H rfl (fun h45 H => ?_) (fun h45 H => ?_))))))))))
   ·refine sr (aF rfl (aF rfl (bdo H fun r46 h47 H => (f1 (cI (c_spec_l71Tag g_v0 (v0.1, r42.2) (x_v0.1, ()) h47) (Solo.box bH) (fun _ => (Solo.box bH)) rfl (.cons aA .nil) (aC (aM aS) aP)) fun u48 => (f1 (e_lit (vs := [(0, .agg #[.string (r46.1.1), .string (r46.1.2)])]) [.string (r46.1.1), .string (r46.1.2)] dK ty97 rfl (by decide) (by decide) (by kernel_rfl)) fun g49 => (gdo H fun h52 H => (f2 (e_app1 (l := (x5.2 ++ [r35.1])) (α := Tag) r46.1 ((), ()) dK ty97 rfl rfl (h52.b (by decide)) h52.x rfl (cY _) (.cons dl2 (.cons aA .nil))) fun a50 c51 => (aH rfl (nl (bR ?_))))))))))
    refine rB (rT (?_))
    obtain rfl := si H
    exact back1 (a50, c51) rfl (ResV.tmp (v := .slice a50 (((x5.2 ++ [r35.1]) ++ [r46.1]).length) c51) rfl) rfl cO (.cons aA (.cons aA .nil))
   ·refine sr (aG (cV rfl rfl) (aH rfl (nl (cH H rfl (fun h53 H => ?_) (fun h53 H => ?_)))))
    ·refine gdo H fun h54 H => (Tr.zoom (k := 0) h54.lt (.cons dl1 .nil) fun x55 => ?_)
     show Tr _ _ _ _ _ _ _ (hole (.slice a39 ((x5.2 ++ [r35.1]).length) c40) (x5.2 ++ [r35.1]) 0 [.string ((nth (x5.2 ++ [r35.1]) 0).1), .string ((nth (x5.2 ++ [r35.1]) 0).2)] :: _)
     refine aQ (aF rfl (aF rfl (f2 (e_litT (α := ByteArray) (vs := [(0, .string ((⟨#[]⟩ : ByteArray))), (1, .string ((⟨#[111]⟩ : ByteArray))), (2, .string ((⟨#[112, 112]⟩ : ByteArray)))]) [(⟨#[]⟩ : ByteArray), (⟨#[111]⟩ : ByteArray), (⟨#[112, 112]⟩ : ByteArray)] rfl (fun _ => rfl) (fun _ _ => by repeat constructor) dL ty9 rfl (by decide) (by decide) (by kernel_rfl)) fun a56 c57 => (bdo H fun r58 h59 H => (f1 (cI (c_spec_l6Rd_of g_v0 (v0.1, r42.2) (x_v0.1, ()) ([(⟨#[]⟩ : ByteArray), (⟨#[111]⟩ : ByteArray), (⟨#[112, 112]⟩ : ByteArray)] : List ByteArray) (a56, c57) h59) (Solo.box bH) (fun _ => (Solo.box bH)) rfl (.cons dl2 .nil) (aC (aM aS) (aC (bM aB) aP))) fun u60 => (aI (v := elp a39 (0 * Enc.sz Tag + 0)) (q_ixH (k := 0) dK ty97 rfl rfl h54 rfl hs2) (aI (v := elp a39 (0 * Enc.sz Tag + 1)) (q_faH (j := 0) (i := 0) fa97_1 rfl hs2 rfl) (g0 (e_stH (v := .string (r58.1)) (i := 0) (j := 1) (cs' := [.string ((nth (x5.2 ++ [r35.1]) 0).1), .string (r58.1)]) ty9 rfl rfl (.cons dl2 .nil) rfl (by simp [Value.cells, Value.oneCell']) (Nat.le_of_ble_eq_true rfl) rfl rfl) (aJ ?_)))))))))
     refine nB (nT (sr (aF rfl (aH rfl (nl (Tr.unzoom (((nth (x5.2 ++ [r35.1]) 0).1), r58.1) ((), ()) rfl (.cons aA .nil) ?_))))))
     refine Tr.olen aB fun hn => ?_; rw [hn]
     refine bR ?_
     obtain rfl := si H
     exact back1 (a39, c40) rfl (ResV.tmp (v := .slice a39 (((x5.2 ++ [r35.1]).set 0 (((nth (x5.2 ++ [r35.1]) 0).1), r58.1)).length) c40) rfl) rfl cO (.cons aA (.cons aA .nil))
    ·refine bI (nB (nT (sr (aF rfl (aH rfl (nl (bR ?_)))))))
     obtain rfl := si H
     exact back1 (a39, c40) rfl (ResV.tmp (v := .slice a39 ((x5.2 ++ [r35.1]).length) c40) rfl) rfl cO (.cons dl1 (.cons aA .nil))
  ·refine bI (nT (aD (sr (aF rfl (bdo H fun r61 h62 H => (f1 (cI (c_spec_l6Rd_pick g_v0 (v0.1, x5.1) (x_v0.1, ()) 40 h62) (Solo.box bH) (fun _ => (Solo.box bH)) rfl (.cons aA .nil) (aC (aM aS) aP)) fun u63 => (nl (aR (sr (aG (cV rfl rfl) ?_))))))))))
   refine aH rfl (nl (cH H rfl (fun h64 H => ?_) (fun h64 H => ?_)))
   ·refine sr (aF rfl (aF rfl (bdo H fun r65 h66 H => (f1 (cI (c_spec_l71Tag g_v0 (v0.1, r61.2) (x_v0.1, ()) h66) (Solo.box bH) (fun _ => (Solo.box bH)) rfl (.cons aA .nil) (aC (aM aS) aP)) fun u67 => (f1 (e_lit (vs := [(0, .agg #[.string (r65.1.1), .string (r65.1.2)])]) [.string (r65.1.1), .string (r65.1.2)] dK ty97 rfl (by decide) (by decide) (by kernel_rfl)) fun g68 => (gdo H fun h71 H => (f2 (e_app1 (l := x5.2) (α := Tag) r65.1 ((), ()) dK ty97 rfl rfl (h71.b (by decide)) h71.x rfl (cY _) (.cons dl2 (.cons aA .nil))) fun a69 c70 => (aH rfl (nl (bR ?_))))))))))
    refine rB (rT (?_))
    obtain rfl := si H
    exact back1 (a69, c70) rfl (ResV.tmp (v := .slice a69 ((x5.2 ++ [r65.1]).length) c70) rfl) rfl cO (.cons aA (.cons aA .nil))
   ·refine sr (aG (cV rfl rfl) (aH rfl (nl (cH H rfl (fun h72 H => ?_) (fun h72 H => ?_)))))
    ·refine gdo H fun h73 H => (Tr.zoom (k := 0) h73.lt (.cons dl1 .nil) fun x74 => ?_)
     show Tr _ _ _ _ _ _ _ (hole (.slice y11.1 x5.2.length y11.2) x5.2 0 [.string ((nth x5.2 0).1), .string ((nth x5.2 0).2)] :: _)
     refine aQ (aF rfl (aF rfl (f2 (e_litT (α := ByteArray) (vs := [(0, .string ((⟨#[]⟩ : ByteArray))), (1, .string ((⟨#[111]⟩ : ByteArray))), (2, .string ((⟨#[112, 112]⟩ : ByteArray)))]) [(⟨#[]⟩ : ByteArray), (⟨#[111]⟩ : ByteArray), (⟨#[112, 112]⟩ : ByteArray)] rfl (fun _ => rfl) (fun _ _ => by repeat constructor) dL ty9 rfl (by decide) (by decide) (by kernel_rfl)) fun a75 c76 => (bdo H fun r77 h78 H => (f1 (cI (c_spec_l6Rd_of g_v0 (v0.1, r61.2) (x_v0.1, ()) ([(⟨#[]⟩ : ByteArray), (⟨#[111]⟩ : ByteArray), (⟨#[112, 112]⟩ : ByteArray)] : List ByteArray) (a75, c76) h78) (Solo.box bH) (fun _ => (Solo.box bH)) rfl (.cons dl2 .nil) (aC (aM aS) (aC (bM aB) aP))) fun u79 => (aI (v := elp y11.1 (0 * Enc.sz Tag + 0)) (q_ixH (k := 0) dK ty97 rfl rfl h73 rfl hs2) (aI (v := elp y11.1 (0 * Enc.sz Tag + 1)) (q_faH (j := 0) (i := 0) fa97_1 rfl hs2 rfl) (g0 (e_stH (v := .string (r77.1)) (i := 0) (j := 1) (cs' := [.string ((nth x5.2 0).1), .string (r77.1)]) ty9 rfl rfl (.cons dl2 .nil) rfl (one_of rfl) (Nat.le_of_ble_eq_true rfl) rfl rfl) (aJ ?_)))))))))
     refine nB (nT (sr (aF rfl (aH rfl (nl (Tr.unzoom (((nth x5.2 0).1), r77.1) ((), ()) rfl (.cons aA .nil) ?_))))))
     refine Tr.olen aB fun hn => ?_; rw [hn]
     refine bR ?_
     obtain rfl := si H
     exact back1 y11 rfl (ResV.tmp (v := .slice y11.1 ((x5.2.set 0 (((nth x5.2 0).1), r77.1)).length) y11.2) rfl) rfl cO (.cons aA (.cons aA .nil))
    ·refine bI (nB (nT (sr (aF rfl (aH rfl (nl (bR ?_)))))))
     obtain rfl := si H
     exact back1 y11 rfl (ResV.tmp (v := .slice y11.1 x5.2.length y11.2) rfl) rfl cO (.cons dl1 (.cons aA .nil))
noncomputable def p_spec_l3Cut_b0 (v0 : ByteArray) (v1 : UInt8) (Q7 : (List ByteArray) × Int) : Option (((List ByteArray) × Int) ⊕ ((List ByteArray))) := cond (decide (Q7.2 < (v0.size : Int))) (gd (ix Q7.2 v0.size) <| cond (decide (((sb v0 Q7.2.toNat).toNat : Int) = (v1.toNat : Int))) (gd (room (Q7.1.length + 1)) <| gd (I64 (Q7.2 + 1)) <| some (.inl ((Q7.1 ++ [(⟨#[]⟩ : ByteArray)]), Q7.2 + 1))) (gd (I64 ((Q7.1.length : Int) - 1)) <| gd (ix ((Q7.1.length : Int) - 1) Q7.1.length) <| gd (room ((nth Q7.1 (((Q7.1.length : Int) - 1).toNat)).size + (s2 [sb v0 Q7.2.toNat]).size)) <| gd (I64 (Q7.2 + 1)) <| some (.inl ((Q7.1.set (((Q7.1.length : Int) - 1).toNat) ((nth Q7.1 (((Q7.1.length : Int) - 1).toNat)) ++ (s2 [sb v0 Q7.2.toNat]))), Q7.2 + 1)))) (some (.inr Q7.1))
noncomputable def p_spec_l3Cut (v0 : ByteArray) (v1 : UInt8) : Option ((List ByteArray)) := bd (lp (p_spec_l3Cut_b0 v0 v1) (([(⟨#[]⟩ : ByteArray)] : List ByteArray), 0)) fun x3 => some x3
theorem c_spec_l3Cut {r : (List ByteArray)} (v0 : ByteArray) (v1 : UInt8) (H : p_spec_l3Cut v0 v1 = some r) : Fn' prog 236 #[.string (v0), .int .u8 (v1.toNat : Int)] [] [] (ι := Option Addr × Nat) (fun x => .slice x.1 r.length x.2) (fun _ => []) (fun x => [tree (.slice x.1 r.length x.2) r]) := by
 refine cof (args := [_, _]) func236 ntmps236 fun c => ?_
 unfold p_spec_l3Cut at H
 refine sr (aH (v := .slice none 0 0) rfl (nl (sr (f2 (e_litT (α := ByteArray) (vs := [(0, .string ((⟨#[]⟩ : ByteArray)))]) [(⟨#[]⟩ : ByteArray)] rfl (fun _ => rfl) (fun _ _ => by repeat constructor) dL ty9 rfl (by decide) (by decide) (by kernel_rfl)) fun a1 c2 => (aH rfl (nl (aD (sr (aH (v := .int .i64 (0)) rfl (nl (bdo H fun x3 hx4 H => (dC (ι := Option Addr × Nat) (fun ψ => [(5, .slice ψ.1 x3.length ψ.2)]) (fun ψ => [tree (.slice ψ.1 x3.length ψ.2) x3]) ?_ ?_))))))))))))
 ·refine aR (dF hx4 (a1, c2) (fun Q7 z8 => [(0, .string (v0)), (1, .int .u8 (v1.toNat : Int)), (5, .slice z8.1 Q7.1.length z8.2), (6, .int .i64 (Q7.2))]) (fun Q7 z8 => [tree (.slice z8.1 Q7.1.length z8.2) Q7.1]) (.cons aA .nil) ?_)
  rintro _ Q7 z8 t10 H1 hi11 hb12
  unfold p_spec_l3Cut_b0 at H1
  refine aD (sr (aF rfl (aF rfl (aG (p_slen dZ rfl) (aG (cS rfl rfl) (nl (cH H1 rfl (fun h15 H1 => ?_) (fun h15 H1 => ?_))))))))
  ·refine bI (nT (aD (aR (sr (aF rfl (aF rfl (gdo H1 fun h16 H1 => (aG (p_six dZ rfl rfl h16) (aF rfl (aG (cV rfl rfl) (nl ?_)))))))))))
   refine cH H1 rfl (fun h17 H1 => ?_) (fun h17 H1 => ?_)
   ·refine aQ (aF rfl (f1 (e_lit (vs := [(0, .string ((⟨#[]⟩ : ByteArray)))]) [.string ((⟨#[]⟩ : ByteArray))] dL ty9 rfl (by decide) (by decide) (by kernel_rfl)) fun g18 => (gdo H1 fun h21 H1 => (f2 (e_app1 (l := Q7.1) (α := ByteArray) (⟨#[]⟩ : ByteArray) () dL ty9 rfl rfl (h21.b (by decide)) h21.x rfl (cY _) (.cons dl1 (.cons aA .nil))) fun a19 c20 => (aH rfl (aJ (nB (nT (aQ (aF rfl (gdo H1 fun h22 H1 => ?_)))))))))))
    exact aG (bS rfl rfl h22) (aH rfl (aJ (nLI (a19, c20) (hi11 _ (sm H1)) (.cons aA .nil))))
   ·refine dH [(0, .string (v0)), (1, .int .u8 (v1.toNat : Int)), (5, .slice z8.1 Q7.1.length z8.2), (6, .int .i64 (Q7.2))] 2 [0, 1, 2, 3, 4, 5, 6, 7, 8, 9, 10, 11, 12, 13, 14, 15, 16, 17] [13, 17] [] mixed (by kernel_rfl) (by decide) dJ ⟨rfl, rfl, rfl, rfl, trivial⟩ rfl okNil (w_p rfl (aE rfl) (w_p rfl (aE rfl) (w_p rfl (bT 9 dL rfl) (gdo H1 fun h23 H1 => (w_p rfl (cT rfl rfl h23) (w_p rfl (aE rfl) (w_p rfl (aE rfl) (w_p rfl (bT 9 dL rfl) (w_p rfl (cT rfl rfl h23) ?_)))))))))
    refine gdo H1 fun h24 H1 => ?_
    refine w_o rfl (fun F => (bY dL ty9 rfl rfl h24 (aB.app F))) ?_
    refine w_o rfl (fun F => (cA (i := ((Q7.1.length : Int) - 1).toNat) (j := 0) ty9 rfl (aO (bM (aB.app F))) h24.lt rfl)) (w_p rfl (aE rfl) (w_p rfl (aE rfl) (w_p rfl (p_six dZ rfl rfl h16) (cK rfl (by decide) rfl cP rfl (n_lit (vs := [(0, .int .u8 ((sb v0 Q7.2.toNat).toNat : Int))]) [.int .u8 ((sb v0 Q7.2.toNat).toNat : Int)] dU ty5 rfl (by decide) (by decide) (by kernel_rfl)) ?_))))
    rintro _ _ _ ⟨g25, rfl, rfl, rfl⟩
    refine ⟨(bW rfl rfl (fun F => (cA (i := ((Q7.1.length : Int) - 1).toNat) (j := 0) ty9 rfl (aO (bM (hs1.app F))) h24.lt rfl)) (bW rfl rfl (fun F => (bY dL ty9 rfl rfl h24 (hs1.app F))) bV)), ?_⟩
    refine w_o (v := .string (s2 [sb v0 Q7.2.toNat])) rfl (fun F => (q_b2sL [sb v0 Q7.2.toNat] dU dT dZ rfl (aB.app F) rfl)) (gdo H1 fun h26 H1 => (w_p rfl (p_cat rfl rfl h26) ?_))
    refine w_o rfl (fun F => (bY dL ty9 rfl rfl h24 (hs1.app F))) (cL rfl rfl cP rfl (n_setT (l := Q7.1) (α := ByteArray) (oa := z8.1) (((Q7.1.length : Int) - 1).toNat) ((nth Q7.1 (((Q7.1.length : Int) - 1).toNat)) ++ (s2 [sb v0 Q7.2.toNat])) () ty9 rfl rfl rfl h24.lt (cY _) (.cons dl1 .nil)) ?_)
    rintro _ _ _ ⟨rfl, rfl, rfl⟩
    refine ⟨(aN (by kernel_rfl) (aN (by kernel_rfl) (aN (by kernel_rfl) (aN (by kernel_rfl) bV)))), ?_⟩
    refine cM ?_
    show At _ _ _ _ _ _
    refine nB (nT (?_))
    obtain ⟨lz, hz⟩ : ∃ lz, lz = (Q7.1.set (((Q7.1.length : Int) - 1).toNat) ((nth Q7.1 (((Q7.1.length : Int) - 1).toNat)) ++ (s2 [sb v0 Q7.2.toNat]))) := ⟨_, rfl⟩; rw [← hz]
    refine Tr.olen aB fun hn => ?_; rw [hn]; subst hz
    exact aQ (aF rfl (gdo H1 fun h27 H1 => (aG (bS rfl rfl h27) (aH rfl (aJ (nLI (z8.1, z8.2) (hi11 _ (sm H1)) (.cons aA .nil)))))))
  ·refine dB (xT (xT (xE (?_))))
   obtain rfl := hb12 _ (sm H1)
   exact nMC (z8.1, z8.2) ⟨rfl, trivial⟩ bU (.cons aA .nil)
 ·intro y9
  show At _ _ [(5, .slice y9.1 x3.length y9.2)] _ [tree (.slice y9.1 x3.length y9.2) x3] _
  refine nT (sr (aF rfl (aH rfl (nl (bR ?_)))))
  obtain rfl := si H
  exact back1 y9 rfl (ResV.tmp (v := .slice y9.1 x3.length y9.2) rfl) rfl cO (.cons aA .nil)
noncomputable def p_spec_l3Cond (v0 : ByteArray) : Option (Cond × Bool) := bd (cond (decide ((v0.size : Int) = 4)) (gd (ix 1 v0.size) <| some (decide (((sb v0 1).toNat : Int) = ((33 : UInt8).toNat : Int)))) (some (false))) fun b3 => bd (cond (b3) (gd (sl2 0 1 v0.size) <| gd (sl2 2 (v0.size : Int) v0.size) <| gd (room ((v0.extract 0 1).size + (v0.extract 2 (v0.size : Int).toNat).size)) <| some ((v0.extract 0 1) ++ (v0.extract 2 (v0.size : Int).toNat), true)) (some (v0, false))) fun x8 => bd (cond (!decide ((x8.1.size : Int) = 3)) (some (true)) (gd (ix 1 x8.1.size) <| some (!decide (((sb x8.1 1).toNat : Int) = ((61 : UInt8).toNat : Int))))) fun b14 => cond (b14) (some ((((⟨#[]⟩), (⟨#[]⟩)), x8.2), false)) (gd (sl2 0 1 x8.1.size) <| gd (sl2 2 (x8.1.size : Int) x8.1.size) <| bd (p_spec_l3Tag ((x8.1.extract 0 1), (x8.1.extract 2 (x8.1.size : Int).toNat))) fun r21 => some ((((x8.1.extract 0 1), (x8.1.extract 2 (x8.1.size : Int).toNat)), x8.2), r21))
theorem c_spec_l3Cond {r : Cond × Bool} (v0 : ByteArray) (H : p_spec_l3Cond v0 = some r) : Fn' prog 237 #[.string (v0)] [] [] (ι := Unit) (fun _ => .tuple #[.agg #[.string (r.1.1.1), .string (r.1.1.2), .bool (r.1.2)], .bool (r.2)]) (fun _ => []) (fun _ => []) := by
 refine cof (args := [_]) func237 ntmps237 fun c => ?_
 unfold p_spec_l3Cond at H
 refine sr (f1 (cE ty99) fun g1 => (aH (v := .bool (false)) rfl (nl (sr (aG (v := .agg #[.string (⟨#[]⟩), .string (⟨#[]⟩), .bool (false)]) (p_buildS (vs := []) (cs := #[.string (⟨#[]⟩), .string (⟨#[]⟩), .bool (false)]) ty99 pl99 rfl rfl) (f1 (cE ty99) fun g2 => (stb (cs' := [.string (⟨#[]⟩), .string (⟨#[]⟩), .bool (false)]) ty99 cZ (nl (aD (bdo H fun b3 j4 H => ?_))))))))))
 refine dE [(13, .bool (b3)), (4, .pointer (some ⟨g2, 0, none⟩)), (2, .pointer (some ⟨g1, 0, none⟩)), (0, .string (v0))] ?_ ?_
 ·refine dI [(4, .pointer (some ⟨g2, 0, none⟩)), (2, .pointer (some ⟨g1, 0, none⟩)), (0, .string (v0))] ⟨rfl, rfl, rfl, trivial⟩ (bC rfl (aY (p_slen dZ rfl) (aY (cV rfl rfl) ?_)))
  rcases aL (decide ((v0.size : Int) = 4)) with h5 | h5
  ·have j4 := cdT h5 j4
   refine bD (aE rfl) h5 (aZ rfl (aE rfl) (gdo j4 fun h6 j4 => (aZ rfl (p_six dZ rfl rfl h6) (aZ rfl (cV rfl rfl) (aY (bQ rfl rfl) ?_)))))
   obtain rfl := si j4
   show At _ _ _ _ _ _
   exact n1 ⟨rfl, rfl, rfl, rfl, trivial⟩
  ·have j4 := cdF h5 j4
   refine bD (aE rfl) h5 ?_
   iterate 3 refine bF rfl ?_
   refine aY (v := .bool (false)) (bP rfl rfl) ?_
   obtain rfl := si j4
   show At _ _ _ _ _ _
   exact n1 ⟨rfl, rfl, rfl, rfl, trivial⟩
 refine bdo H fun x8 hx9 H => (tMidC0 (ι := Unit) (fun ψ => [(0, .string (x8.1)), (2, .pointer (some ⟨g1, 0, none⟩)), (4, .pointer (some ⟨g2, 0, none⟩))]) (fun ψ => [box g1 99 [.string (⟨#[]⟩), .string (⟨#[]⟩), .bool (false)], box g2 99 [.string (⟨#[]⟩), .string (⟨#[]⟩), .bool (x8.2)]]) ?_ ?_)
 ·refine Tr.cond (b := b3) rfl (fun h7 => ?_) (fun h7 => ?_)
  ·replace hx9 := cdT h7 hx9
   refine sr (aG (cC fa99_1 rfl rfl) (stb (cs' := [.string (⟨#[]⟩), .string (⟨#[]⟩), .bool (true)]) ty4 cZ (nl (tNwL [(4, .pointer (some ⟨g2, 0, none⟩)), (2, .pointer (some ⟨g1, 0, none⟩)), (0, .string (v0))] 1 [0, 1, 2, 3, 4] [] [] mixed rfl (by kernel_rfl) (by kernel_rfl) (by decide) dJ ⟨rfl, rfl, rfl, trivial⟩ rfl okNil (w_p rfl (aE rfl) (gdo hx9 fun h11 hx9 => (w_p rfl ((p_ssl 0 1 dZ rfl rfl (fun _ => rfl) rfl (fun h => nomatch h) h11)) (w_p rfl (aE rfl) (gdo hx9 fun h12 hx9 => ?_)))))))))
   refine w_p rfl ((p_ssl 2 (v0.size : Int) dZ rfl rfl (fun h => nomatch h) rfl (fun _ => rfl) h12)) (gdo hx9 fun h13 hx9 => (w_p rfl (p_cat rfl rfl h13) (cM ?_)))
   show Rg _ _ _ _ _ _ _ _ _
   refine aH rfl (aJ ?_)
   replace hx9 := Option.some.inj hx9; subst hx9
   exact nMC () ⟨rfl, rfl, rfl, trivial⟩ bU (.cons dl1 (.cons aA .nil))
  ·replace hx9 := cdF h7 hx9
   refine bI ?_
   replace hx9 := Option.some.inj hx9; subst hx9
   exact nMC () ⟨rfl, rfl, rfl, trivial⟩ bU (.cons dl1 (.cons aA .nil))
 ·intro y10
  show Tr _ _ _ _ _ [(0, .string (x8.1)), (2, .pointer (some ⟨g1, 0, none⟩)), (4, .pointer (some ⟨g2, 0, none⟩))] _ [box g1 99 [.string (⟨#[]⟩), .string (⟨#[]⟩), .bool (false)], box g2 99 [.string (⟨#[]⟩), .string (⟨#[]⟩), .bool (x8.2)]]
  refine aD (bdo H fun b14 j15 H => (dE [(27, .bool (b14)), (0, .string (x8.1)), (2, .pointer (some ⟨g1, 0, none⟩)), (4, .pointer (some ⟨g2, 0, none⟩))] ?_ ?_))
  ·refine dI [(0, .string (x8.1)), (2, .pointer (some ⟨g1, 0, none⟩)), (4, .pointer (some ⟨g2, 0, none⟩))] ⟨rfl, rfl, rfl, trivial⟩ (bC rfl (aY (p_slen dZ rfl) (aY (cU rfl rfl) ?_)))
   rcases aL (!decide ((x8.1.size : Int) = 3)) with h16 | h16
   ·have j15 := cdT h16 j15
    refine bD (aE rfl) h16 ?_
    iterate 3 refine bF rfl ?_
    refine aY (v := .bool (true)) (bQ rfl rfl) ?_
    obtain rfl := si j15
    show At _ _ _ _ _ _
    exact n1 ⟨rfl, rfl, rfl, rfl, trivial⟩
   ·have j15 := cdF h16 j15
    refine bD (aE rfl) h16 (aZ rfl (aE rfl) (gdo j15 fun h17 j15 => (aZ rfl (p_six dZ rfl rfl h17) (aZ rfl (cU rfl rfl) (aY (bP rfl rfl) ?_)))))
    obtain rfl := si j15
    show At _ _ _ _ _ _
    exact n1 ⟨rfl, rfl, rfl, rfl, trivial⟩
  refine cH H rfl (fun h18 H => ?_) (fun h18 H => ?_)
  ·refine sr (aI (bK ty99 rfl hs1 rfl) (stb (cs' := [.string (⟨#[]⟩), .string (⟨#[]⟩), .bool (x8.2)]) ty99 cZ (aH (v := .bool (false)) rfl (nl (bR (rT (?_)))))))
   obtain rfl := si H
   exact back2 () rfl (ResV.agg ty99 rfl aB rfl) (ResV.tmp (v := .bool (false)) rfl) rfl cO bL
  ·refine bI (nT (aD (dH [(0, .string (x8.1)), (2, .pointer (some ⟨g1, 0, none⟩)), (4, .pointer (some ⟨g2, 0, none⟩))] 1 [0, 1, 2, 3, 4, 5, 6] [6] [] mixed (by kernel_rfl) (by decide) dJ ⟨rfl, rfl, rfl, trivial⟩ rfl okNil (w_p rfl (aE rfl) (gdo H fun h19 H => (w_p rfl ((p_ssl 0 1 dZ rfl rfl (fun _ => rfl) rfl (fun h => nomatch h) h19)) (w_p rfl (aE rfl) (gdo H fun h20 H => (w_p rfl ((p_ssl 2 (x8.1.size : Int) dZ rfl rfl (fun h => nomatch h) rfl (fun _ => rfl) h20)) (w_p (v := .agg #[.string (x8.1.extract 0 1), .string (x8.1.extract 2 (x8.1.size : Int).toNat)]) rfl (p_buildS (vs := [(0, .string (x8.1.extract 0 1)), (1, .string (x8.1.extract 2 (x8.1.size : Int).toNat))]) (cs := #[.string (x8.1.extract 0 1), .string (x8.1.extract 2 (x8.1.size : Int).toNat)]) ty97 pl97 rfl rfl) ?_))))))))))
   refine w_p rfl (cC fa99_0 rfl rfl) (cL rfl rfl cP rfl (n_store (cs' := [.string (x8.1.extract 0 1), .string (x8.1.extract 2 (x8.1.size : Int).toNat), .bool (x8.2)]) ty97 rfl rfl up1 rfl (one_of rfl) (Nat.le_of_ble_eq_true rfl) rfl) ?_)
   rintro _ _ _ ⟨rfl, rfl, rfl⟩
   refine ⟨bV, ?_⟩
   refine cM (nT (aD (dH [(2, .pointer (some ⟨g1, 0, none⟩)), (4, .pointer (some ⟨g2, 0, none⟩))] 1 [0, 1, 2, 3, 4, 5] [4] [] mixed (by kernel_rfl) (by decide) dJ ⟨rfl, rfl, trivial⟩ rfl okNil ?_)))
   refine w_o rfl (fun F => (bK ty99 rfl (hs1.app F) rfl)) (w_p rfl (cC fa99_0 rfl rfl) ?_)
   refine w_o (v := .agg #[.string (x8.1.extract 0 1), .string (x8.1.extract 2 (x8.1.size : Int).toNat)]) rfl (fun F => (q_ldbP [.string (x8.1.extract 0 1), .string (x8.1.extract 2 (x8.1.size : Int).toNat)] ty97 rfl (hs1.app F) rfl rfl)) (bdo H fun r21 h22 H => ?_)
   refine w_o rfl (fun F => (bO (c_spec_l3Tag ((x8.1.extract 0 1), (x8.1.extract 2 (x8.1.size : Int).toNat)) h22) rfl aP)) (cL rfl rfl cP rfl (n_store (cs' := [.string (x8.1.extract 0 1), .string (x8.1.extract 2 (x8.1.size : Int).toNat), .bool (x8.2)]) ty99 rfl rfl cZ rfl (one_of rfl) (Nat.le_of_ble_eq_true rfl) rfl) ?_)
   rintro _ _ _ ⟨rfl, rfl, rfl⟩
   refine ⟨(aN (by kernel_rfl) (bW rfl rfl (fun F => (q_ldbP [.string (x8.1.extract 0 1), .string (x8.1.extract 2 (x8.1.size : Int).toNat)] ty97 rfl (hs1.app F) rfl rfl)) (aN (by kernel_rfl) bV))), ?_⟩
   refine w_p rfl (p_assign rfl) (cM (nT (bR ?_)))
   obtain rfl := si H
   exact back2 () rfl (ResV.agg ty99 rfl aB rfl) (ResV.tmp (v := .bool (r21)) rfl) rfl cO bL
noncomputable def p_spec_FilterRead_b0 (r4 : (List ByteArray)) (Q11 : (List Cond) × Int) : Option (((List Cond) × Int) ⊕ ((List Cond) ⊕ ((List Cond) × Bool))) := cond (decide (Q11.2 < (r4.length : Int))) (gd (ix Q11.2 r4.length) <| bd (p_spec_l3Cond (nth r4 Q11.2.toNat)) fun r21 => bd (cond (!r21.2) (some (true)) (some (decide (3 ≤ (Q11.1.length : Int))))) fun b24 => cond (b24) (some (.inr (.inr (([] : List Cond), false)))) (gd (room (Q11.1.length + 1)) <| gd (I64 (Q11.2 + 1)) <| some (.inl ((Q11.1 ++ [r21.1]), Q11.2 + 1)))) (some (.inr (.inl Q11.1)))
noncomputable def p_spec_FilterRead (v0 : ByteArray) : Option ((List Cond) × Bool) := cond (decide (v0 = (⟨#[42]⟩ : ByteArray))) (some (([] : List Cond), true)) (bd (p_spec_l3Cut v0 (44 : UInt8)) fun r4 => bd (lp (p_spec_FilterRead_b0 r4) (([] : List Cond), 0)) <| sw (fun e35 => some (e35, true)) (fun q => some q))
theorem c_spec_FilterRead {r : (List Cond) × Bool} (v0 : ByteArray) (H : p_spec_FilterRead v0 = some r) : Fn' prog 227 #[.string (v0)] [] [] (ι := (Option Addr × Nat) × Unit) (fun x => .tuple #[.slice x.1.1 r.1.length x.1.2, .bool (r.2)]) (fun _ => []) (fun x => [tree (.slice x.1.1 r.1.length x.1.2) r.1]) := by
 refine cof (args := [_]) func227 ntmps227 fun c => ?_
 unfold p_spec_FilterRead at H
 refine sr (aH (v := .slice none 0 0) rfl (aH (v := .bool (false)) rfl (nl (sr (f2 (e_lit0 Cond dS ty99) fun a1 c2 => (aH rfl (nl (aD (sr (aF rfl (aG (p_seql rfl rfl) (nl (cH H rfl (fun h3 H => ?_) (fun h3 H => ?_))))))))))))))
 ·refine sr (aF rfl (aH rfl (aH (v := .bool (true)) rfl (nl (bR (rT (?_)))))))
  obtain rfl := si H
  exact back2 ((a1, c2), ()) rfl (ResV.tmp (v := .slice a1 (([] : List Cond).length) c2) rfl) (ResV.tmp (v := .bool (true)) rfl) rfl cO (.cons aA .nil)
 ·refine bI (nT (sr (aF rfl (bdo H fun r4 h5 H => (f1 (cG (c_spec_l3Cut v0 (44 : UInt8) h5) (fun _ => (bG bH)) rfl aP) fun x6 => (aH rfl (nl (aD (sr (aH (v := .int .i64 (0)) rfl (nl (bdo H fun x7 hx8 H => ?_))))))))))))
  refine dD (Λ := (Option Addr × Nat)) H (fun e35 y13 => [(4, .slice y13.1 e35.length y13.2)]) (fun e35 y13 => [tree (.slice y13.1 e35.length y13.2) e35]) ?_ ?_
  ·refine aR (dF hx8 (a1, c2) (fun Q11 z12 => [(4, .slice z12.1 Q11.1.length z12.2), (5, .slice x6.1 r4.length x6.2), (6, .int .i64 (Q11.2))]) (fun Q11 z12 => [tree (.slice z12.1 Q11.1.length z12.2) Q11.1, tree (.slice x6.1 r4.length x6.2) r4]) (.cons dl1 (.cons aA .nil)) ?_)
   rintro _ Q11 z12 t14 H1 hi15 hb16
   unfold p_spec_FilterRead_b0 at H1
   refine aD (sr (aF rfl (aF rfl (aG (bT 9 dL rfl) (aG (cS rfl rfl) (nl (cH H1 rfl (fun h19 H1 => ?_) (fun h19 H1 => ?_))))))))
   ·refine bI (nT (aD (aR (sr (aF rfl (aF rfl (gdo H1 fun h20 H1 => (aI (bY dL ty9 rfl rfl h20 hs1) (aI (cA (i := Q11.2.toNat) (j := 0) ty9 rfl (aO (bM hs1)) h20.lt rfl) (bdo H1 fun r21 h22 H1 => ?_))))))))))
    refine aI (bO (c_spec_l3Cond (nth r4 Q11.2.toNat) h22) rfl aP) (aF rfl (aG (dA rfl rfl) (aG (dA rfl rfl) (f1 (cE ty99) fun g23 => (stb (cs' := [.string (r21.1.1.1), .string (r21.1.1.2), .bool (r21.1.2)]) ty99 cZ (aH rfl (nl (aD (bdo H1 fun b24 j25 H1 => (dE [(35, .bool (b24)), (7, .pointer (some ⟨g23, 0, none⟩)), (4, .slice z12.1 Q11.1.length z12.2), (5, .slice x6.1 r4.length x6.2), (6, .int .i64 (Q11.2))] ?_ ?_))))))))))
    ·refine dI [(8, .bool (r21.2)), (7, .pointer (some ⟨g23, 0, none⟩)), (4, .slice z12.1 Q11.1.length z12.2), (5, .slice x6.1 r4.length x6.2), (6, .int .i64 (Q11.2))] ⟨rfl, rfl, rfl, rfl, rfl, trivial⟩ (bC rfl (aY (cX rfl) ?_))
     rcases aL (!r21.2) with h26 | h26
     ·have j25 := cdT h26 j25
      refine bD (aE rfl) h26 ?_
      iterate 3 refine bF rfl ?_
      refine aY (v := .bool (true)) (bQ rfl rfl) ?_
      obtain rfl := si j25
      show At _ _ _ _ _ _
      exact n1 ⟨rfl, rfl, rfl, rfl, rfl, trivial⟩
     ·have j25 := cdF h26 j25
      refine bD (aE rfl) h26 (aZ rfl (aE rfl) (aZ rfl (bT 99 dS rfl) (aZ rfl (p_geq rfl rfl) (aY (bP rfl rfl) ?_))))
      obtain rfl := si j25
      show At _ _ _ _ _ _
      exact n1 ⟨rfl, rfl, rfl, rfl, rfl, trivial⟩
    refine cH H1 rfl (fun h27 H1 => ?_) (fun h27 H1 => ?_)
    ·refine sr (f2 (e_lit0 Cond dS ty99) fun a28 c29 => (aH rfl (aH (v := .bool (false)) rfl (nl (bR (rT (rB (rT (rT (rB (rT (rT (?_)))))))))))))
     obtain rfl := hb16 _ (sm H1)
     replace H := sw.r H
     obtain rfl := si H
     exact back2 ((a28, c29), ()) rfl (ResV.tmp (v := .slice a28 (([] : List Cond).length) c29) rfl) (ResV.tmp (v := .bool (false)) rfl) rfl cO (.cons aA .nil)
    ·refine bI (nT (aQ (aF rfl (aI (bK ty99 rfl aB rfl) (f1 (e_lit (vs := [(0, .agg #[.string (r21.1.1.1), .string (r21.1.1.2), .bool (r21.1.2)])]) [.string (r21.1.1.1), .string (r21.1.1.2), .bool (r21.1.2)] dS ty99 rfl (by decide) (by decide) (by kernel_rfl)) fun g30 => (gdo H1 fun h33 H1 => (f2 (e_app1 (l := Q11.1) (α := Cond) r21.1 (((), ()), ()) dS ty99 rfl rfl (h33.b (by decide)) h33.x rfl (cY _) (.cons dl2 (.cons aA .nil))) fun a31 c32 => (aH rfl (aJ (nB (nT (?_))))))))))))
     exact aQ (aF rfl (gdo H1 fun h34 H1 => (aG (bS rfl rfl h34) (aH rfl (aJ (nLI (a31, c32) (hi15 _ (sm H1)) (.cons aA (.cons dl1 .nil))))))))
   ·exact dB (xT (xT (xE (nMI (z12.1, z12.2) (hb16 _ (sm H1)) (.cons aA .nil)))))
  ·rintro e35 y13 H
   refine nT (sr (aF rfl (aH rfl (aH (v := .bool (true)) rfl (nl (bR ?_))))))
   obtain rfl := si H
   exact back2 (y13, ()) rfl (ResV.tmp (v := .slice y13.1 e35.length y13.2) rfl) (ResV.tmp (v := .bool (true)) rfl) rfl cO (.cons aA .nil)
noncomputable def p_spec_NameRead_b0 (r1 : (List Cond) × Bool) (Q10 : (List Tag) × Int) : Option (((List Tag) × Int) ⊕ ((List Tag) ⊕ ((List Tag) × Bool))) := cond (decide (Q10.2 < (r1.1.length : Int))) (gd (ix Q10.2 r1.1.length) <| cond ((nth r1.1 Q10.2.toNat).2) (some (.inr (.inr (([] : List Tag), false)))) (gd (room (Q10.1.length + 1)) <| gd (I64 (Q10.2 + 1)) <| some (.inl ((Q10.1 ++ [(nth r1.1 Q10.2.toNat).1]), Q10.2 + 1)))) (some (.inr (.inl Q10.1)))
noncomputable def p_spec_NameRead (v0 : ByteArray) : Option ((List Tag) × Bool) := bd (p_spec_FilterRead v0) fun r1 => bd (lp (p_spec_NameRead_b0 r1) (([] : List Tag), 0)) <| sw (fun e28 => bd (cond (!r1.2) (some (true)) (bd (p_spec_NameOk e28) fun r32 => some (!r32))) fun b29 => cond (b29) (some (([] : List Tag), false)) (some (e28, true))) (fun q => some q)
theorem c_spec_NameRead {r : (List Tag) × Bool} (v0 : ByteArray) (H : p_spec_NameRead v0 = some r) : Fn' prog 211 #[.string (v0)] [] [] (ι := (Option Addr × Nat) × Unit) (fun x => .tuple #[.slice x.1.1 r.1.length x.1.2, .bool (r.2)]) (fun _ => []) (fun x => [tree (.slice x.1.1 r.1.length x.1.2) r.1]) := by
 refine cof (args := [_]) func211 ntmps211 fun c => ?_
 unfold p_spec_NameRead at H
 refine sr (aH (v := .slice none 0 0) rfl (aH (v := .bool (false)) rfl (nl (sr (aF rfl (bdo H fun r1 h2 H => (f1 (cG (c_spec_FilterRead v0 h2) (fun _ => (bG bH)) rfl aP) fun x3 => (aF rfl (aG (dA rfl rfl) (aG (dA rfl rfl) ?_))))))))))
 refine aH rfl (aH rfl (nl (sr (f2 (e_lit0 Tag dK ty97) fun a4 c5 => (aH rfl (nl (aD (sr (aH (v := .int .i64 (0)) rfl (nl (bdo H fun x6 hx7 H => (dD (Λ := (Option Addr × Nat)) H (fun e28 y12 => [(5, .bool (r1.2)), (6, .slice y12.1 e28.length y12.2)]) (fun e28 y12 => [tree (.slice y12.1 e28.length y12.2) e28]) ?_ ?_))))))))))))
 ·refine aR (dF hx7 (a4, c5) (fun Q10 z11 => [(4, .slice x3.1.1 r1.1.length x3.1.2), (5, .bool (r1.2)), (6, .slice z11.1 Q10.1.length z11.2), (7, .int .i64 (Q10.2))]) (fun Q10 z11 => [tree (.slice x3.1.1 r1.1.length x3.1.2) r1.1, tree (.slice z11.1 Q10.1.length z11.2) Q10.1]) (.cons dl1 (.cons aA .nil)) ?_)
  rintro _ Q10 z11 t13 H1 hi14 hb15
  unfold p_spec_NameRead_b0 at H1
  refine aD (sr (aF rfl (aF rfl (aG (bT 99 dS rfl) (aG (cS rfl rfl) (nl (cH H1 rfl (fun h18 H1 => ?_) (fun h18 H1 => ?_))))))))
  ·refine bI (nT (aD (aR (aD (sr (aF rfl (aF rfl (gdo H1 fun h19 H1 => (aI (bY dS ty99 rfl rfl h19 aB) (aI (bZ (j := 0) Q10.2.toNat fa99_1 rfl (aO (bM aB)) h19.lt rfl) (aI (cA (i := Q10.2.toNat) (j := 2) ty4 rfl (aO (bM aB)) h19.lt rfl) (nl ?_))))))))))))
   refine cH H1 rfl (fun h20 H1 => ?_) (fun h20 H1 => ?_)
   ·refine sr (f2 (e_lit0 Tag dK ty97) fun a21 c22 => (aH rfl (aH (v := .bool (false)) rfl (nl (bR (rT (rB (rT (rT (rB (rT (rT (?_)))))))))))))
    obtain rfl := hb15 _ (sm H1)
    replace H := sw.r H
    obtain rfl := si H
    exact back2 ((a21, c22), ()) rfl (ResV.tmp (v := .slice a21 (([] : List Tag).length) c22) rfl) (ResV.tmp (v := .bool (false)) rfl) rfl cO (.cons aA .nil)
   ·refine bI (nT (aQ (aF rfl (aF rfl (aF rfl (aI (bY dS ty99 rfl rfl h19 aB) (aI (bZ (j := 0) Q10.2.toNat fa99_0 rfl (aO (bM aB)) h19.lt rfl) (aI (v := .agg #[.string (((nth r1.1 Q10.2.toNat).1).1), .string (((nth r1.1 Q10.2.toNat).1).2)]) (q_ldeP [.string (((nth r1.1 Q10.2.toNat).1).1), .string (((nth r1.1 Q10.2.toNat).1).2)] (l := r1.1) (E := fun i => Flat.enc (nth r1.1 i)) (oa := x3.1.1) (i := Q10.2.toNat) (j := 0) ty97 rfl (aO (bM aB)) h19.lt rfl rfl) (f1 (e_lit (vs := [(0, .agg #[.string (((nth r1.1 Q10.2.toNat).1).1), .string (((nth r1.1 Q10.2.toNat).1).2)])]) [.string (((nth r1.1 Q10.2.toNat).1).1), .string (((nth r1.1 Q10.2.toNat).1).2)] dK ty97 rfl (by decide) (by decide) (by kernel_rfl)) fun g23 => ?_)))))))))
    exact gdo H1 fun h26 H1 => (f2 (e_app1 (l := Q10.1) (α := Tag) ((nth r1.1 Q10.2.toNat).1) ((), ()) dK ty97 rfl rfl (h26.b (by decide)) h26.x rfl (cY _) (.cons dl2 (.cons aA .nil))) fun a24 c25 => (aH rfl (aJ (nB (nT (aQ (aF rfl (gdo H1 fun h27 H1 => (aG (bS rfl rfl h27) (aH rfl (aJ (nLI (a24, c25) (hi14 _ (sm H1)) (.cons dl1 (.cons aA .nil))))))))))))))
  ·exact dB (xT (xT (xE (nMI (z11.1, z11.2) (hb15 _ (sm H1)) (.cons dl1 .nil)))))
 ·rintro e28 y12 H
  refine nT (aD (bdo H fun b29 j30 H => (dE [(40, .bool (b29)), (6, .slice y12.1 e28.length y12.2)] ?_ ?_)))
  ·refine dI [(5, .bool (r1.2)), (6, .slice y12.1 e28.length y12.2)] ⟨rfl, rfl, trivial⟩ (bC rfl (aY (cX rfl) ?_))
   rcases aL (!r1.2) with h31 | h31
   ·have j30 := cdT h31 j30
    refine bD (aE rfl) h31 ?_
    iterate 3 refine bF rfl ?_
    refine aY (v := .bool (true)) (bQ rfl rfl) ?_
    obtain rfl := si j30
    show At _ _ _ _ _ _
    exact n1 ⟨rfl, rfl, trivial⟩
   ·have j30 := cdF h31 j30
    refine bD (aE rfl) h31 (aZ rfl (aE rfl) (bdo j30 fun r32 h33 j30 => (bB rfl (bO (c_spec_NameOk e28 y12 h33) rfl (aC (bM aB) aP)) (aZ rfl (cX rfl) (aY (bP rfl rfl) ?_)))))
    obtain rfl := si j30
    show At _ _ _ _ _ _
    exact n1 ⟨rfl, rfl, trivial⟩
  refine cH H rfl (fun h34 H => ?_) (fun h34 H => ?_)
  ·refine sr (f2 (e_lit0 Tag dK ty97) fun a35 c36 => (aH rfl (aH (v := .bool (false)) rfl (nl (bR (rT (?_)))))))
   obtain rfl := si H
   exact back2 ((a35, c36), ()) rfl (ResV.tmp (v := .slice a35 (([] : List Tag).length) c36) rfl) (ResV.tmp (v := .bool (false)) rfl) rfl cO (.cons aA .nil)
  ·refine bI (nT (sr (aF rfl (aH rfl (aH (v := .bool (true)) rfl (nl (bR ?_)))))))
   obtain rfl := si H
   exact back2 (y12, ()) rfl (ResV.tmp (v := .slice y12.1 e28.length y12.2) rfl) (ResV.tmp (v := .bool (true)) rfl) rfl cO (.cons aA .nil)
noncomputable def p_spec_l72Known (v0 : L6Rd) : Option ((List Tag) × Int) := bd (p_spec_l6Rd_pick v0 4) fun r1 => cond (decide (r1.1 = 0)) (bd (p_spec_l71Name (v0.1, r1.2)) fun r5 => some (r5.1, r5.2)) (bd (p_spec_l6Rd_of (v0.1, r1.2) ([(⟨#[97, 61, 112]⟩ : ByteArray), (⟨#[97, 61, 113, 44, 98, 61, 112]⟩ : ByteArray), (⟨#[98, 61, 122, 44, 99, 61, 113]⟩ : ByteArray)] : List ByteArray)) fun r10 => bd (p_spec_NameRead r10.1) fun r13 => some (r13.1, r10.2))
theorem c_spec_l72Known {r : (List Tag) × Int} (g_v0 : Nat) (v0 : L6Rd) (x_v0 : (Option Addr × Nat) × Unit) (H : p_spec_l72Known v0 = some r) : Fn' prog 193 #[.pointer (some ⟨g_v0, 0, none⟩)] [imm (.slice x_v0.1.1 v0.1.length x_v0.1.2) v0.1] [box g_v0 169 [.slice x_v0.1.1 v0.1.length x_v0.1.2, .int .i64 (v0.2)]] (ι := Option Addr × Nat) (fun x => .slice x.1 r.1.length x.2) (fun _ => []) (fun x => [tree (.slice x.1 r.1.length x.2) r.1, box g_v0 169 [.slice x_v0.1.1 v0.1.length x_v0.1.2, .int .i64 (r.2)]]) := by
 refine cof (args := [_]) func193 ntmps193 fun c => ?_
 unfold p_spec_l72Known at H
 refine sr (aH (v := .slice none 0 0) rfl (nl (aD (sr (aF rfl (bdo H fun r1 h2 H => (f1 (cI (c_spec_l6Rd_pick g_v0 v0 (x_v0.1, ()) 4 h2) (Solo.box bH) (fun _ => (Solo.box bH)) rfl (.cons aA .nil) (aC (aM aS) aP)) fun u3 => (aG (cV rfl rfl) (nl (cH H rfl (fun h4 H => ?_) (fun h4 H => ?_)))))))))))
 ·refine sr (aF rfl (bdo H fun r5 h6 H => (f1 (cI (c_spec_l71Name g_v0 (v0.1, r1.2) (x_v0.1, ()) h6) (Solo.box bH) (fun _ => (bG (Solo.box bH))) rfl (.cons aA .nil) (aC (aM aS) aP)) fun x7 => (aH rfl (nl (bR (rT (?_))))))))
  obtain rfl := si H
  exact back1 x7 rfl (ResV.tmp (v := .slice x7.1 r5.1.length x7.2) rfl) rfl cO (.cons aA (.cons aA .nil))
 ·refine bI (nT (sr (aF rfl (f2 (e_litT (α := ByteArray) (vs := [(0, .string ((⟨#[97, 61, 112]⟩ : ByteArray))), (1, .string ((⟨#[97, 61, 113, 44, 98, 61, 112]⟩ : ByteArray))), (2, .string ((⟨#[98, 61, 122, 44, 99, 61, 113]⟩ : ByteArray)))]) [(⟨#[97, 61, 112]⟩ : ByteArray), (⟨#[97, 61, 113, 44, 98, 61, 112]⟩ : ByteArray), (⟨#[98, 61, 122, 44, 99, 61, 113]⟩ : ByteArray)] rfl (fun _ => rfl) (fun _ _ => by repeat constructor) dL ty9 rfl (by decide) (by decide) (by kernel_rfl)) fun a8 c9 => (bdo H fun r10 h11 H => (f1 (cI (c_spec_l6Rd_of g_v0 (v0.1, r1.2) (x_v0.1, ()) ([(⟨#[97, 61, 112]⟩ : ByteArray), (⟨#[97, 61, 113, 44, 98, 61, 112]⟩ : ByteArray), (⟨#[98, 61, 122, 44, 99, 61, 113]⟩ : ByteArray)] : List ByteArray) (a8, c9) h11) (Solo.box bH) (fun _ => (Solo.box bH)) rfl (.cons dl1 .nil) (aC (aM aS) (aC (bM aB) aP))) fun u12 => (bdo H fun r13 h14 H => (f1 (cG (c_spec_NameRead r10.1 h14) (fun _ => (bG bH)) rfl aP) fun x15 => (aF rfl ?_)))))))))
  refine aG (dA rfl rfl) (aG (dA rfl rfl) (aH rfl (aH rfl (nl (sr (aF rfl (aH rfl (nl (bR ?_)))))))))
  obtain rfl := si H
  exact back1 x15.1 rfl (ResV.tmp (v := .slice x15.1.1 r13.1.length x15.1.2) rfl) rfl cO (.cons aA (.cons aA .nil))
noncomputable def p_spec_l71Row (v0 : L6Rd) : Option (Row × Int) := bd (p_spec_l6Rd_pick v0 40) fun r2 => bd (p_spec_l6Rd_pick (v0.1, r2.2) 20) fun r5 => gd (I64 (r5.1 - 6)) <| bd (p_spec_l6Rd_pick (v0.1, r5.2) 40) fun r10 => cond (decide (r10.1 = 0)) (bd (p_spec_l6Rd_pick (v0.1, r10.2) 3) fun r16 => gd (ix r16.1 ([-1, 99, 100] : List Int).length) <| some (((nth ([-1, 99, 100] : List Int) r16.1.toNat), (r5.1 - 6)), r16.2)) (cond (decide (r10.1 = 1)) (bd (p_spec_l6Rd_pick (v0.1, r10.2) 3) fun r23 => gd (ix r23.1 ([-99, 99, 100] : List Int).length) <| some ((r2.1, (nth ([-99, 99, 100] : List Int) r23.1.toNat)), r23.2)) (some ((r2.1, (r5.1 - 6)), r10.2)))
theorem c_spec_l71Row {r : Row × Int} (g_v0 : Nat) (v0 : L6Rd) (x_v0 : (Option Addr × Nat) × Unit) (H : p_spec_l71Row v0 = some r) : Fn' prog 68 #[.pointer (some ⟨g_v0, 0, none⟩)] [imm (.slice x_v0.1.1 v0.1.length x_v0.1.2) v0.1] [box g_v0 169 [.slice x_v0.1.1 v0.1.length x_v0.1.2, .int .i64 (v0.2)]] (ι := Unit) (fun _ => .agg #[.int .i64 (r.1.1), .int .i64 (r.1.2)]) (fun _ => []) (fun _ => [box g_v0 169 [.slice x_v0.1.1 v0.1.length x_v0.1.2, .int .i64 (r.2)]]) := by
 refine cof (args := [_]) func68 ntmps68 fun c => ?_
 unfold p_spec_l71Row at H
 refine sr (f1 (cE ty57) fun g1 => (nl (sr (aF rfl (bdo H fun r2 h3 H => (f1 (cI (c_spec_l6Rd_pick g_v0 v0 (x_v0.1, ()) 40 h3) (Solo.box bH) (fun _ => (Solo.box bH)) rfl (.cons dl1 .nil) (aC (aM aS) aP)) fun u4 => (aF rfl (bdo H fun r5 h6 H => (f1 (cI (c_spec_l6Rd_pick g_v0 (v0.1, r2.2) (x_v0.1, ()) 20 h6) (Solo.box bH) (fun _ => (Solo.box bH)) rfl (.cons aA .nil) (aC (aM aS) aP)) fun u7 => ?_)))))))))
 refine gdo H fun h8 H => (aG (cT rfl rfl h8) (aG (v := .agg #[.int .i64 (r2.1), .int .i64 (r5.1 - 6)]) (p_buildS (vs := [(0, .int .i64 (r2.1)), (1, .int .i64 (r5.1 - 6))]) (cs := #[.int .i64 (r2.1), .int .i64 (r5.1 - 6)]) ty57 pl57 rfl rfl) (f1 (cE ty57) fun g9 => (stb (cs' := [.int .i64 (r2.1), .int .i64 (r5.1 - 6)]) ty57 cZ (nl (aD (sr (aF rfl (bdo H fun r10 h11 H => (f1 (cI (c_spec_l6Rd_pick g_v0 (v0.1, r5.2) (x_v0.1, ()) 40 h11) (Solo.box bH) (fun _ => (Solo.box bH)) rfl (.cons dl1 .nil) (aC (aM aS) aP)) fun u12 => ?_))))))))))
 refine nl (aR (sr (aG (cV rfl rfl) (aH rfl (nl (cH H rfl (fun h13 H => ?_) (fun h13 H => ?_)))))))
 ·refine aQ (f2 (e_litT (α := Int) (vs := [(0, .int .i64 (-1)), (1, .int .i64 (99)), (2, .int .i64 (100))]) [-1, 99, 100] rfl (fun _ => rfl) (fun _ _ => by repeat constructor) dW ty3 rfl (by decide) (by decide) (by kernel_rfl)) fun a14 c15 => (aF rfl (bdo H fun r16 h17 H => (f1 (cI (c_spec_l6Rd_pick g_v0 (v0.1, r10.2) (x_v0.1, ()) 3 h17) (Solo.box bH) (fun _ => (Solo.box bH)) rfl (.cons dl1 .nil) (aC (aM aS) aP)) fun u18 => (gdo H fun h19 H => (aI (bY dW ty3 rfl rfl h19 hs1) (aI (cA (i := r16.1.toNat) (j := 0) ty3 rfl (aO (bM hs1)) h19.lt rfl) (aG (cC fa57_0 rfl rfl) (stb (cs' := [.int .i64 (nth ([-1, 99, 100] : List Int) r16.1.toNat), .int .i64 (r5.1 - 6)]) ty3 up2 ?_)))))))))
  refine aJ (nB (nT (sr (aI (bK ty57 rfl hs2 rfl) (stb (cs' := [.int .i64 (nth ([-1, 99, 100] : List Int) r16.1.toNat), .int .i64 (r5.1 - 6)]) ty57 up3 (nl (bR ?_)))))))
  obtain rfl := si H
  exact back1 () rfl (ResV.agg ty57 rfl hs3 rfl) rfl cO (.cons aA .nil)
 ·refine sr (aG (cV rfl rfl) (aH rfl (nl (cH H rfl (fun h20 H => ?_) (fun h20 H => ?_)))))
  ·refine aQ (f2 (e_litT (α := Int) (vs := [(0, .int .i64 (-99)), (1, .int .i64 (99)), (2, .int .i64 (100))]) [-99, 99, 100] rfl (fun _ => rfl) (fun _ _ => by repeat constructor) dW ty3 rfl (by decide) (by decide) (by kernel_rfl)) fun a21 c22 => (aF rfl (bdo H fun r23 h24 H => (f1 (cI (c_spec_l6Rd_pick g_v0 (v0.1, r10.2) (x_v0.1, ()) 3 h24) (Solo.box bH) (fun _ => (Solo.box bH)) rfl (.cons dl1 .nil) (aC (aM aS) aP)) fun u25 => (gdo H fun h26 H => (aI (bY dW ty3 rfl rfl h26 hs1) (aI (cA (i := r23.1.toNat) (j := 0) ty3 rfl (aO (bM hs1)) h26.lt rfl) (aG (cC fa57_1 rfl rfl) (stb (cs' := [.int .i64 (r2.1), .int .i64 (nth ([-99, 99, 100] : List Int) r23.1.toNat)]) ty3 up2 ?_)))))))))
   refine aJ (nB (nT (sr (aI (bK ty57 rfl hs2 rfl) (stb (cs' := [.int .i64 (r2.1), .int .i64 (nth ([-99, 99, 100] : List Int) r23.1.toNat)]) ty57 up3 (nl (bR ?_)))))))
   obtain rfl := si H
   exact back1 () rfl (ResV.agg ty57 rfl hs3 rfl) rfl cO (.cons aA .nil)
  ·refine bI (nB (nT (sr (aI (bK ty57 rfl hs1 rfl) (stb (cs' := [.int .i64 (r2.1), .int .i64 (r5.1 - 6)]) ty57 up2 (nl (bR ?_)))))))
   obtain rfl := si H
   exact back1 () rfl (ResV.agg ty57 rfl hs2 rfl) rfl cO (.cons aA .nil)
noncomputable def p_spec_l72Event (v0 : L6Rd) (v1 : World) : Option (Event × Int) := bd (p_spec_l6Rd_pick v0 10) fun r8 => cond (decide (r8.1 = 0)) (cond (decide (r8.1 = 0)) (bd (p_spec_l6Rd_pick (v0.1, r8.2) 5) fun r15 => gd (ix r15.1 ([2, 2, 2, 0, 1] : List Int).length) <| some ((2, 0, (nth ([2, 2, 2, 0, 1] : List Int) r15.1.toNat), ([]), (0, 0)), r15.2)) (cond (decide (r8.1 = 2)) (cond (decide (1 < (v1.2.2.1.length : Int))) (gd (I64 ((v1.2.2.1.length : Int) - 1)) <| bd (p_spec_l6Rd_pick (v0.1, r8.2) ((v1.2.2.1.length : Int) - 1)) fun r22 => bd (p_spec_l6Rd_pick (v0.1, r22.2) 6) fun r27 => gd (ix r27.1 ([4, 4, 0, 1, 2, 3] : List Int).length) <| some ((3, r22.1, (nth ([4, 4, 0, 1, 2, 3] : List Int) r27.1.toNat), ([]), (0, 0)), r27.2)) (bd (p_spec_l72Known (v0.1, r8.2)) fun r31 => bd (p_spec_l71Row (v0.1, r31.2)) fun r34 => some ((1, 0, 0, r31.1, r34.1), r34.2))) (cond (decide (r8.1 = 3)) (bd (p_spec_l6Rd_pick (v0.1, r8.2) 4) fun r38 => cond (decide (r38.1 = 0)) (some ((4, 0, 0, ([]), (0, 0)), r38.2)) (bd (p_spec_l72Known (v0.1, r38.2)) fun r42 => bd (p_spec_l71Row (v0.1, r42.2)) fun r45 => some ((1, 0, 0, r42.1, r45.1), r45.2))) (bd (p_spec_l72Known (v0.1, r8.2)) fun r48 => bd (p_spec_l71Row (v0.1, r48.2)) fun r51 => some ((1, 0, 0, r48.1, r51.1), r51.2))))) (cond (decide (r8.1 = 1)) (bd (p_spec_l6Rd_pick (v0.1, r8.2) 5) fun r57 => gd (ix r57.1 ([2, 2, 2, 0, 1] : List Int).length) <| some ((2, 0, (nth ([2, 2, 2, 0, 1] : List Int) r57.1.toNat), ([]), (0, 0)), r57.2)) (cond (decide (r8.1 = 2)) (cond (decide (1 < (v1.2.2.1.length : Int))) (gd (I64 ((v1.2.2.1.length : Int) - 1)) <| bd (p_spec_l6Rd_pick (v0.1, r8.2) ((v1.2.2.1.length : Int) - 1)) fun r64 => bd (p_spec_l6Rd_pick (v0.1, r64.2) 6) fun r69 => gd (ix r69.1 ([4, 4, 0, 1, 2, 3] : List Int).length) <| some ((3, r64.1, (nth ([4, 4, 0, 1, 2, 3] : List Int) r69.1.toNat), ([]), (0, 0)), r69.2)) (bd (p_spec_l72Known (v0.1, r8.2)) fun r73 => bd (p_spec_l71Row (v0.1, r73.2)) fun r76 => some ((1, 0, 0, r73.1, r76.1), r76.2))) (cond (decide (r8.1 = 3)) (bd (p_spec_l6Rd_pick (v0.1, r8.2) 4) fun r80 => cond (decide (r80.1 = 0)) (some ((4, 0, 0, ([]), (0, 0)), r80.2)) (bd (p_spec_l72Known (v0.1, r80.2)) fun r84 => bd (p_spec_l71Row (v0.1, r84.2)) fun r87 => some ((1, 0, 0, r84.1, r87.1), r87.2))) (bd (p_spec_l72Known (v0.1, r8.2)) fun r90 => bd (p_spec_l71Row (v0.1, r90.2)) fun r93 => some ((1, 0, 0, r90.1, r93.1), r93.2)))))
theorem c_spec_l72Event {r : Event × Int} (g_v0 : Nat) (v0 : L6Rd) (x_v0 : (Option Addr × Nat) × Unit) (v1 : World) (x_v1 : (((Option Addr × Nat) × (Option Addr × Nat)) × (Option Addr × Nat) × (Option Addr × Nat)) × ((Option Addr × Nat) × (Option Addr × Nat) × (Option Addr × Nat) × Unit)) (H : p_spec_l72Event v0 v1 = some r) : Fn' prog 169 #[.pointer (some ⟨g_v0, 0, none⟩), .agg #[.slice x_v1.1.1.1.1 v1.1.1.1.length x_v1.1.1.1.2, .slice x_v1.1.1.2.1 v1.1.1.2.length x_v1.1.1.2.2, .slice x_v1.1.2.1.1 v1.1.2.1.length x_v1.1.2.1.2, .slice x_v1.1.2.2.1 v1.1.2.2.length x_v1.1.2.2.2, .slice x_v1.2.1.1 v1.2.1.length x_v1.2.1.2, .slice x_v1.2.2.1.1 v1.2.2.1.length x_v1.2.2.1.2, .slice x_v1.2.2.2.1.1 v1.2.2.2.1.length x_v1.2.2.2.1.2, .int .i64 (v1.2.2.2.2)]] [imm (.slice x_v0.1.1 v0.1.length x_v0.1.2) v0.1, imm (.slice x_v1.1.1.1.1 v1.1.1.1.length x_v1.1.1.1.2) v1.1.1.1, imm (.slice x_v1.1.1.2.1 v1.1.1.2.length x_v1.1.1.2.2) v1.1.1.2, imm (.slice x_v1.1.2.1.1 v1.1.2.1.length x_v1.1.2.1.2) v1.1.2.1, imm (.slice x_v1.1.2.2.1 v1.1.2.2.length x_v1.1.2.2.2) v1.1.2.2, imm (.slice x_v1.2.1.1 v1.2.1.length x_v1.2.1.2) v1.2.1, imm (.slice x_v1.2.2.1.1 v1.2.2.1.length x_v1.2.2.1.2) v1.2.2.1, imm (.slice x_v1.2.2.2.1.1 v1.2.2.2.1.length x_v1.2.2.2.1.2) v1.2.2.2.1] [box g_v0 169 [.slice x_v0.1.1 v0.1.length x_v0.1.2, .int .i64 (v0.2)]] (ι := Unit × Unit × Unit × (Option Addr × Nat) × (Unit × Unit)) (fun x => .agg #[.int .i64 (r.1.1), .int .i64 (r.1.2.1), .int .i64 (r.1.2.2.1), .slice x.2.2.2.1.1 r.1.2.2.2.1.length x.2.2.2.1.2, .int .i64 (r.1.2.2.2.2.1), .int .i64 (r.1.2.2.2.2.2)]) (fun _ => []) (fun x => [tree (.slice x.2.2.2.1.1 r.1.2.2.2.1.length x.2.2.2.1.2) r.1.2.2.2.1, box g_v0 169 [.slice x_v0.1.1 v0.1.length x_v0.1.2, .int .i64 (r.2)]]) := by
 refine cof (args := [_, _]) func169 ntmps169 fun c => ?_
 unfold p_spec_l72Event at H
 refine bN aS.s fun X1 => (bN aS.s.s.s fun X2 => (bN aS.s.s.s.s.s fun X3 => (bN aS.s.s.s.s.s.s.s.s fun X4 => (bN aS.s.s.s.s.s.s.s.s.s.s.s fun X5 => (sr (f1 (cD (t := 121) rfl) fun g6 => (f1 (cE ty218) fun g7 => (nl (aD (sr ?_))))))))))
 refine aF rfl (bdo H fun r8 h9 H => (f1 (cI (c_spec_l6Rd_pick g_v0 v0 (x_v0.1, ()) 10 h9) (Solo.box bH) (fun _ => (Solo.box bH)) rfl (.cons dl2 .nil) (aC (aM aS.s.s.s.s.s) aP)) fun u10 => (nl (aR (aD (sr (aG (cV rfl rfl) (aH rfl (nl (cH H rfl (fun h11 H => ?_) (fun h11 H => ?_)))))))))))
 ·refine bI (nT (cH H rfl (fun h12 H => ?_) (fun h12 H => ?_)))
  ·refine aD (Tr.nilT Tag (aQ (f2 (e_litT (α := Int) (vs := [(0, .int .i64 (2)), (1, .int .i64 (2)), (2, .int .i64 (2)), (3, .int .i64 (0)), (4, .int .i64 (1))]) [2, 2, 2, 0, 1] rfl (fun _ => rfl) (fun _ _ => by repeat constructor) dW ty3 rfl (by decide) (by decide) (by kernel_rfl)) fun a13 c14 => (aF rfl (bdo H fun r15 h16 H => (f1 (cI (c_spec_l6Rd_pick g_v0 (v0.1, r8.2) (x_v0.1, ()) 5 h16) (Solo.box bH) (fun _ => (Solo.box bH)) rfl (.cons dl2 .nil) (aC (aM aS.s.s.s.s.s) aP)) fun u17 => (gdo H fun h18 H => (aI (bY dW ty3 rfl rfl h18 hs1) (aI (cA (i := r15.1.toNat) (j := 0) ty3 rfl (aO (bM hs1)) h18.lt rfl) ?_)))))))))
   refine aG (v := .agg #[.int .i64 (2), .int .i64 (0), .int .i64 (nth ([2, 2, 2, 0, 1] : List Int) r15.1.toNat), .slice none 0 0, .int .i64 (0), .int .i64 (0)]) (p_buildS (vs := [(0, .int .i64 (2)), (2, .int .i64 (nth ([2, 2, 2, 0, 1] : List Int) r15.1.toNat))]) (cs := #[.int .i64 (2), .int .i64 (0), .int .i64 (nth ([2, 2, 2, 0, 1] : List Int) r15.1.toNat), .slice none 0 0, .int .i64 (0), .int .i64 (0)]) ty218 pl218 rfl (by kernel_rfl)) (stb (cs' := [.int .i64 (2), .int .i64 (0), .int .i64 (nth ([2, 2, 2, 0, 1] : List Int) r15.1.toNat), .slice none 0 0, .int .i64 (0), .int .i64 (0)]) ty218 up3 (nl (bR (rB (rT (?_))))))
   obtain rfl := si H
   exact back1 ((), (), (), (none, 0), ((), ())) rfl (ResV.agg ty218 rfl hs3 rfl) rfl cO (.cons dl2 (.cons aA .nil))
  ·refine sr (aG (cV rfl rfl) (aH rfl (nl (cH H rfl (fun h19 H => ?_) (fun h19 H => ?_)))))
   ·refine sr (aG (cC fa121_1 rfl rfl) (aG (cC fa76_1 rfl rfl) (aI (bJ ty69 rfl hs2 rfl) (aG (bT 3 dW rfl) (aG (cW rfl rfl) (nl (cH H rfl (fun h20 H => ?_) (fun h20 H => ?_))))))))
    ·refine aD (Tr.nilT Tag (aQ (aF rfl (aG (cC fa121_1 rfl rfl) (aG (cC fa76_1 rfl rfl) (aI (bJ ty69 rfl hs3 rfl) (aG (bT 3 dW rfl) (gdo H fun h21 H => (aG (cT rfl rfl h21) ?_)))))))))
     refine bdo H fun r22 h23 H => (f1 (cI (c_spec_l6Rd_pick g_v0 (v0.1, r8.2) (x_v0.1, ()) ((v1.2.2.1.length : Int) - 1) h23) (Solo.box bH) (fun _ => (Solo.box bH)) rfl (.cons dl1 .nil) (aC (aM aS.s.s.s.s.s) aP)) fun u24 => (f2 (e_litT (α := Int) (vs := [(0, .int .i64 (4)), (1, .int .i64 (4)), (2, .int .i64 (0)), (3, .int .i64 (1)), (4, .int .i64 (2)), (5, .int .i64 (3))]) [4, 4, 0, 1, 2, 3] rfl (fun _ => rfl) (fun _ _ => by repeat constructor) dW ty3 rfl (by decide) (by decide) (by kernel_rfl)) fun a25 c26 => (aF rfl (bdo H fun r27 h28 H => (f1 (cI (c_spec_l6Rd_pick g_v0 (v0.1, r22.2) (x_v0.1, ()) 6 h28) (Solo.box bH) (fun _ => (Solo.box bH)) rfl (.cons dl1 .nil) (aC (aM aS.s.s.s.s.s) aP)) fun u29 => (gdo H fun h30 H => (aI (bY dW ty3 rfl rfl h30 hs1) (aI (cA (i := r27.1.toNat) (j := 0) ty3 rfl (aO (bM hs1)) h30.lt rfl) (aG (v := .agg #[.int .i64 (3), .int .i64 (r22.1), .int .i64 (nth ([4, 4, 0, 1, 2, 3] : List Int) r27.1.toNat), .slice none 0 0, .int .i64 (0), .int .i64 (0)]) (p_buildS (vs := [(0, .int .i64 (3)), (1, .int .i64 (r22.1)), (2, .int .i64 (nth ([4, 4, 0, 1, 2, 3] : List Int) r27.1.toNat))]) (cs := #[.int .i64 (3), .int .i64 (r22.1), .int .i64 (nth ([4, 4, 0, 1, 2, 3] : List Int) r27.1.toNat), .slice none 0 0, .int .i64 (0), .int .i64 (0)]) ty218 pl218 rfl (by kernel_rfl)) ?_)))))))))
     refine stb (cs' := [.int .i64 (3), .int .i64 (r22.1), .int .i64 (nth ([4, 4, 0, 1, 2, 3] : List Int) r27.1.toNat), .slice none 0 0, .int .i64 (0), .int .i64 (0)]) ty218 up3 (nl (bR (rB (rT (?_)))))
     obtain rfl := si H
     exact back1 ((), (), (), (none, 0), ((), ())) rfl (ResV.agg ty218 rfl hs3 rfl) rfl cO (.cons dl2 (.cons aA .nil))
    ·refine bI (nB (nT (sr (aF rfl (bdo H fun r31 h32 H => (f1 (cI (c_spec_l72Known g_v0 (v0.1, r8.2) (x_v0.1, ()) h32) (Solo.box bH) (fun _ => (bG (Solo.box bH))) rfl (.cons aA .nil) (aC (aM aS.s.s.s.s.s) aP)) fun x33 => (aF rfl (bdo H fun r34 h35 H => (f1 (cI (c_spec_l71Row g_v0 (v0.1, r31.2) (x_v0.1, ()) h35) (Solo.box bH) (fun _ => (Solo.box bH)) rfl (.cons dl1 .nil) (aC (aM aS.s.s.s.s.s) aP)) fun u36 => (aG (v := .agg #[.int .i64 (1), .int .i64 (0), .int .i64 (0), .slice x33.1 r31.1.length x33.2, .int .i64 (r34.1.1), .int .i64 (r34.1.2)]) (p_buildS (vs := [(0, .int .i64 (1)), (3, .slice x33.1 r31.1.length x33.2), (4, .agg #[.int .i64 (r34.1.1), .int .i64 (r34.1.2)])]) (cs := #[.int .i64 (1), .int .i64 (0), .int .i64 (0), .slice x33.1 r31.1.length x33.2, .int .i64 (r34.1.1), .int .i64 (r34.1.2)]) ty218 pl218 rfl (by kernel_rfl)) ?_))))))))))
     refine stb (cs' := [.int .i64 (1), .int .i64 (0), .int .i64 (0), .slice x33.1 r31.1.length x33.2, .int .i64 (r34.1.1), .int .i64 (r34.1.2)]) ty218 up2 (nl (bR ?_))
     obtain rfl := si H
     exact back1 ((), (), (), x33, ((), ())) rfl (ResV.agg ty218 rfl hs2 rfl) rfl cO (.cons dl1 (.cons aA .nil))
   ·refine sr (aG (cV rfl rfl) (aH rfl (nl (cH H rfl (fun h37 H => ?_) (fun h37 H => ?_)))))
    ·refine sr (aF rfl (bdo H fun r38 h39 H => (f1 (cI (c_spec_l6Rd_pick g_v0 (v0.1, r8.2) (x_v0.1, ()) 4 h39) (Solo.box bH) (fun _ => (Solo.box bH)) rfl (.cons aA .nil) (aC (aM aS.s.s.s.s.s) aP)) fun u40 => (aG (cV rfl rfl) (nl (cH H rfl (fun h41 H => ?_) (fun h41 H => ?_)))))))
     ·refine aD (Tr.nilT Tag (aQ (aG (v := .agg #[.int .i64 (4), .int .i64 (0), .int .i64 (0), .slice none 0 0, .int .i64 (0), .int .i64 (0)]) (p_buildS (vs := [(0, .int .i64 (4))]) (cs := #[.int .i64 (4), .int .i64 (0), .int .i64 (0), .slice none 0 0, .int .i64 (0), .int .i64 (0)]) ty218 pl218 rfl (by kernel_rfl)) (stb (cs' := [.int .i64 (4), .int .i64 (0), .int .i64 (0), .slice none 0 0, .int .i64 (0), .int .i64 (0)]) ty218 up2 (nl (bR (rB (rT (?_)))))))))
      obtain rfl := si H
      exact back1 ((), (), (), (none, 0), ((), ())) rfl (ResV.agg ty218 rfl hs2 rfl) rfl cO (.cons aA (.cons aA .nil))
     ·refine bI (nB (nT (sr (aF rfl (bdo H fun r42 h43 H => (f1 (cI (c_spec_l72Known g_v0 (v0.1, r38.2) (x_v0.1, ()) h43) (Solo.box bH) (fun _ => (bG (Solo.box bH))) rfl (.cons aA .nil) (aC (aM aS.s.s.s.s.s) aP)) fun x44 => (aF rfl (bdo H fun r45 h46 H => (f1 (cI (c_spec_l71Row g_v0 (v0.1, r42.2) (x_v0.1, ()) h46) (Solo.box bH) (fun _ => (Solo.box bH)) rfl (.cons dl1 .nil) (aC (aM aS.s.s.s.s.s) aP)) fun u47 => (aG (v := .agg #[.int .i64 (1), .int .i64 (0), .int .i64 (0), .slice x44.1 r42.1.length x44.2, .int .i64 (r45.1.1), .int .i64 (r45.1.2)]) (p_buildS (vs := [(0, .int .i64 (1)), (3, .slice x44.1 r42.1.length x44.2), (4, .agg #[.int .i64 (r45.1.1), .int .i64 (r45.1.2)])]) (cs := #[.int .i64 (1), .int .i64 (0), .int .i64 (0), .slice x44.1 r42.1.length x44.2, .int .i64 (r45.1.1), .int .i64 (r45.1.2)]) ty218 pl218 rfl (by kernel_rfl)) ?_))))))))))
      refine stb (cs' := [.int .i64 (1), .int .i64 (0), .int .i64 (0), .slice x44.1 r42.1.length x44.2, .int .i64 (r45.1.1), .int .i64 (r45.1.2)]) ty218 up2 (nl (bR ?_))
      obtain rfl := si H
      exact back1 ((), (), (), x44, ((), ())) rfl (ResV.agg ty218 rfl hs2 rfl) rfl cO (.cons dl1 (.cons aA .nil))
    ·refine bI (nB (nT (sr (aF rfl (bdo H fun r48 h49 H => (f1 (cI (c_spec_l72Known g_v0 (v0.1, r8.2) (x_v0.1, ()) h49) (Solo.box bH) (fun _ => (bG (Solo.box bH))) rfl (.cons aA .nil) (aC (aM aS.s.s.s.s.s) aP)) fun x50 => (aF rfl (bdo H fun r51 h52 H => (f1 (cI (c_spec_l71Row g_v0 (v0.1, r48.2) (x_v0.1, ()) h52) (Solo.box bH) (fun _ => (Solo.box bH)) rfl (.cons dl1 .nil) (aC (aM aS.s.s.s.s.s) aP)) fun u53 => (aG (v := .agg #[.int .i64 (1), .int .i64 (0), .int .i64 (0), .slice x50.1 r48.1.length x50.2, .int .i64 (r51.1.1), .int .i64 (r51.1.2)]) (p_buildS (vs := [(0, .int .i64 (1)), (3, .slice x50.1 r48.1.length x50.2), (4, .agg #[.int .i64 (r51.1.1), .int .i64 (r51.1.2)])]) (cs := #[.int .i64 (1), .int .i64 (0), .int .i64 (0), .slice x50.1 r48.1.length x50.2, .int .i64 (r51.1.1), .int .i64 (r51.1.2)]) ty218 pl218 rfl (by kernel_rfl)) ?_))))))))))
     refine stb (cs' := [.int .i64 (1), .int .i64 (0), .int .i64 (0), .slice x50.1 r48.1.length x50.2, .int .i64 (r51.1.1), .int .i64 (r51.1.2)]) ty218 up2 (nl (bR ?_))
     obtain rfl := si H
     exact back1 ((), (), (), x50, ((), ())) rfl (ResV.agg ty218 rfl hs2 rfl) rfl cO (.cons dl1 (.cons aA .nil))
 ·refine aQ (aG (cV rfl rfl) (aH rfl (nl (cH H rfl (fun h54 H => ?_) (fun h54 H => ?_)))))
  ·refine aD (Tr.nilT Tag (aQ (f2 (e_litT (α := Int) (vs := [(0, .int .i64 (2)), (1, .int .i64 (2)), (2, .int .i64 (2)), (3, .int .i64 (0)), (4, .int .i64 (1))]) [2, 2, 2, 0, 1] rfl (fun _ => rfl) (fun _ _ => by repeat constructor) dW ty3 rfl (by decide) (by decide) (by kernel_rfl)) fun a55 c56 => (aF rfl (bdo H fun r57 h58 H => (f1 (cI (c_spec_l6Rd_pick g_v0 (v0.1, r8.2) (x_v0.1, ()) 5 h58) (Solo.box bH) (fun _ => (Solo.box bH)) rfl (.cons dl2 .nil) (aC (aM aS.s.s.s.s.s) aP)) fun u59 => (gdo H fun h60 H => (aI (bY dW ty3 rfl rfl h60 hs1) (aI (cA (i := r57.1.toNat) (j := 0) ty3 rfl (aO (bM hs1)) h60.lt rfl) ?_)))))))))
   refine aG (v := .agg #[.int .i64 (2), .int .i64 (0), .int .i64 (nth ([2, 2, 2, 0, 1] : List Int) r57.1.toNat), .slice none 0 0, .int .i64 (0), .int .i64 (0)]) (p_buildS (vs := [(0, .int .i64 (2)), (2, .int .i64 (nth ([2, 2, 2, 0, 1] : List Int) r57.1.toNat))]) (cs := #[.int .i64 (2), .int .i64 (0), .int .i64 (nth ([2, 2, 2, 0, 1] : List Int) r57.1.toNat), .slice none 0 0, .int .i64 (0), .int .i64 (0)]) ty218 pl218 rfl (by kernel_rfl)) (stb (cs' := [.int .i64 (2), .int .i64 (0), .int .i64 (nth ([2, 2, 2, 0, 1] : List Int) r57.1.toNat), .slice none 0 0, .int .i64 (0), .int .i64 (0)]) ty218 up3 (nl (bR (rB (rT (?_))))))
   obtain rfl := si H
   exact back1 ((), (), (), (none, 0), ((), ())) rfl (ResV.agg ty218 rfl hs3 rfl) rfl cO (.cons dl2 (.cons aA .nil))
  ·refine sr (aG (cV rfl rfl) (aH rfl (nl (cH H rfl (fun h61 H => ?_) (fun h61 H => ?_)))))
   ·refine sr (aG (cC fa121_1 rfl rfl) (aG (cC fa76_1 rfl rfl) (aI (bJ ty69 rfl hs2 rfl) (aG (bT 3 dW rfl) (aG (cW rfl rfl) (nl (cH H rfl (fun h62 H => ?_) (fun h62 H => ?_))))))))
    ·refine aD (Tr.nilT Tag (aQ (aF rfl (aG (cC fa121_1 rfl rfl) (aG (cC fa76_1 rfl rfl) (aI (bJ ty69 rfl hs3 rfl) (aG (bT 3 dW rfl) (gdo H fun h63 H => (aG (cT rfl rfl h63) ?_)))))))))
     refine bdo H fun r64 h65 H => (f1 (cI (c_spec_l6Rd_pick g_v0 (v0.1, r8.2) (x_v0.1, ()) ((v1.2.2.1.length : Int) - 1) h65) (Solo.box bH) (fun _ => (Solo.box bH)) rfl (.cons dl1 .nil) (aC (aM aS.s.s.s.s.s) aP)) fun u66 => (f2 (e_litT (α := Int) (vs := [(0, .int .i64 (4)), (1, .int .i64 (4)), (2, .int .i64 (0)), (3, .int .i64 (1)), (4, .int .i64 (2)), (5, .int .i64 (3))]) [4, 4, 0, 1, 2, 3] rfl (fun _ => rfl) (fun _ _ => by repeat constructor) dW ty3 rfl (by decide) (by decide) (by kernel_rfl)) fun a67 c68 => (aF rfl (bdo H fun r69 h70 H => (f1 (cI (c_spec_l6Rd_pick g_v0 (v0.1, r64.2) (x_v0.1, ()) 6 h70) (Solo.box bH) (fun _ => (Solo.box bH)) rfl (.cons dl1 .nil) (aC (aM aS.s.s.s.s.s) aP)) fun u71 => (gdo H fun h72 H => (aI (bY dW ty3 rfl rfl h72 hs1) (aI (cA (i := r69.1.toNat) (j := 0) ty3 rfl (aO (bM hs1)) h72.lt rfl) (aG (v := .agg #[.int .i64 (3), .int .i64 (r64.1), .int .i64 (nth ([4, 4, 0, 1, 2, 3] : List Int) r69.1.toNat), .slice none 0 0, .int .i64 (0), .int .i64 (0)]) (p_buildS (vs := [(0, .int .i64 (3)), (1, .int .i64 (r64.1)), (2, .int .i64 (nth ([4, 4, 0, 1, 2, 3] : List Int) r69.1.toNat))]) (cs := #[.int .i64 (3), .int .i64 (r64.1), .int .i64 (nth ([4, 4, 0, 1, 2, 3] : List Int) r69.1.toNat), .slice none 0 0, .int .i64 (0), .int .i64 (0)]) ty218 pl218 rfl (by kernel_rfl)) ?_)))))))))
     refine stb (cs' := [.int .i64 (3), .int .i64 (r64.1), .int .i64 (nth ([4, 4, 0, 1, 2, 3] : List Int) r69.1.toNat), .slice none 0 0, .int .i64 (0), .int .i64 (0)]) ty218 up3 (nl (bR (rB (rT (?_)))))
     obtain rfl := si H
     exact back1 ((), (), (), (none, 0), ((), ())) rfl (ResV.agg ty218 rfl hs3 rfl) rfl cO (.cons dl2 (.cons aA .nil))
    ·refine bI (nB (nT (sr (aF rfl (bdo H fun r73 h74 H => (f1 (cI (c_spec_l72Known g_v0 (v0.1, r8.2) (x_v0.1, ()) h74) (Solo.box bH) (fun _ => (bG (Solo.box bH))) rfl (.cons aA .nil) (aC (aM aS.s.s.s.s.s) aP)) fun x75 => (aF rfl (bdo H fun r76 h77 H => (f1 (cI (c_spec_l71Row g_v0 (v0.1, r73.2) (x_v0.1, ()) h77) (Solo.box bH) (fun _ => (Solo.box bH)) rfl (.cons dl1 .nil) (aC (aM aS.s.s.s.s.s) aP)) fun u78 => (aG (v := .agg #[.int .i64 (1), .int .i64 (0), .int .i64 (0), .slice x75.1 r73.1.length x75.2, .int .i64 (r76.1.1), .int .i64 (r76.1.2)]) (p_buildS (vs := [(0, .int .i64 (1)), (3, .slice x75.1 r73.1.length x75.2), (4, .agg #[.int .i64 (r76.1.1), .int .i64 (r76.1.2)])]) (cs := #[.int .i64 (1), .int .i64 (0), .int .i64 (0), .slice x75.1 r73.1.length x75.2, .int .i64 (r76.1.1), .int .i64 (r76.1.2)]) ty218 pl218 rfl (by kernel_rfl)) ?_))))))))))
     refine stb (cs' := [.int .i64 (1), .int .i64 (0), .int .i64 (0), .slice x75.1 r73.1.length x75.2, .int .i64 (r76.1.1), .int .i64 (r76.1.2)]) ty218 up2 (nl (bR ?_))
     obtain rfl := si H
     exact back1 ((), (), (), x75, ((), ())) rfl (ResV.agg ty218 rfl hs2 rfl) rfl cO (.cons dl1 (.cons aA .nil))
   ·refine sr (aG (cV rfl rfl) (aH rfl (nl (cH H rfl (fun h79 H => ?_) (fun h79 H => ?_)))))
    ·refine sr (aF rfl (bdo H fun r80 h81 H => (f1 (cI (c_spec_l6Rd_pick g_v0 (v0.1, r8.2) (x_v0.1, ()) 4 h81) (Solo.box bH) (fun _ => (Solo.box bH)) rfl (.cons aA .nil) (aC (aM aS.s.s.s.s.s) aP)) fun u82 => (aG (cV rfl rfl) (nl (cH H rfl (fun h83 H => ?_) (fun h83 H => ?_)))))))
     ·refine aD (Tr.nilT Tag (aQ (aG (v := .agg #[.int .i64 (4), .int .i64 (0), .int .i64 (0), .slice none 0 0, .int .i64 (0), .int .i64 (0)]) (p_buildS (vs := [(0, .int .i64 (4))]) (cs := #[.int .i64 (4), .int .i64 (0), .int .i64 (0), .slice none 0 0, .int .i64 (0), .int .i64 (0)]) ty218 pl218 rfl (by kernel_rfl)) (stb (cs' := [.int .i64 (4), .int .i64 (0), .int .i64 (0), .slice none 0 0, .int .i64 (0), .int .i64 (0)]) ty218 up2 (nl (bR (rB (rT (?_)))))))))
      obtain rfl := si H
      exact back1 ((), (), (), (none, 0), ((), ())) rfl (ResV.agg ty218 rfl hs2 rfl) rfl cO (.cons aA (.cons aA .nil))
     ·refine bI (nB (nT (sr (aF rfl (bdo H fun r84 h85 H => (f1 (cI (c_spec_l72Known g_v0 (v0.1, r80.2) (x_v0.1, ()) h85) (Solo.box bH) (fun _ => (bG (Solo.box bH))) rfl (.cons aA .nil) (aC (aM aS.s.s.s.s.s) aP)) fun x86 => (aF rfl (bdo H fun r87 h88 H => (f1 (cI (c_spec_l71Row g_v0 (v0.1, r84.2) (x_v0.1, ()) h88) (Solo.box bH) (fun _ => (Solo.box bH)) rfl (.cons dl1 .nil) (aC (aM aS.s.s.s.s.s) aP)) fun u89 => (aG (v := .agg #[.int .i64 (1), .int .i64 (0), .int .i64 (0), .slice x86.1 r84.1.length x86.2, .int .i64 (r87.1.1), .int .i64 (r87.1.2)]) (p_buildS (vs := [(0, .int .i64 (1)), (3, .slice x86.1 r84.1.length x86.2), (4, .agg #[.int .i64 (r87.1.1), .int .i64 (r87.1.2)])]) (cs := #[.int .i64 (1), .int .i64 (0), .int .i64 (0), .slice x86.1 r84.1.length x86.2, .int .i64 (r87.1.1), .int .i64 (r87.1.2)]) ty218 pl218 rfl (by kernel_rfl)) ?_))))))))))
      refine stb (cs' := [.int .i64 (1), .int .i64 (0), .int .i64 (0), .slice x86.1 r84.1.length x86.2, .int .i64 (r87.1.1), .int .i64 (r87.1.2)]) ty218 up2 (nl (bR ?_))
      obtain rfl := si H
      exact back1 ((), (), (), x86, ((), ())) rfl (ResV.agg ty218 rfl hs2 rfl) rfl cO (.cons dl1 (.cons aA .nil))
    ·refine bI (nB (nT (sr (aF rfl (bdo H fun r90 h91 H => (f1 (cI (c_spec_l72Known g_v0 (v0.1, r8.2) (x_v0.1, ()) h91) (Solo.box bH) (fun _ => (bG (Solo.box bH))) rfl (.cons aA .nil) (aC (aM aS.s.s.s.s.s) aP)) fun x92 => (aF rfl (bdo H fun r93 h94 H => (f1 (cI (c_spec_l71Row g_v0 (v0.1, r90.2) (x_v0.1, ()) h94) (Solo.box bH) (fun _ => (Solo.box bH)) rfl (.cons dl1 .nil) (aC (aM aS.s.s.s.s.s) aP)) fun u95 => (aG (v := .agg #[.int .i64 (1), .int .i64 (0), .int .i64 (0), .slice x92.1 r90.1.length x92.2, .int .i64 (r93.1.1), .int .i64 (r93.1.2)]) (p_buildS (vs := [(0, .int .i64 (1)), (3, .slice x92.1 r90.1.length x92.2), (4, .agg #[.int .i64 (r93.1.1), .int .i64 (r93.1.2)])]) (cs := #[.int .i64 (1), .int .i64 (0), .int .i64 (0), .slice x92.1 r90.1.length x92.2, .int .i64 (r93.1.1), .int .i64 (r93.1.2)]) ty218 pl218 rfl (by kernel_rfl)) ?_))))))))))
     refine stb (cs' := [.int .i64 (1), .int .i64 (0), .int .i64 (0), .slice x92.1 r90.1.length x92.2, .int .i64 (r93.1.1), .int .i64 (r93.1.2)]) ty218 up2 (nl (bR ?_))
     obtain rfl := si H
     exact back1 ((), (), (), x92, ((), ())) rfl (ResV.agg ty218 rfl hs2 rfl) rfl cO (.cons dl1 (.cons aA .nil))
noncomputable def p_spec_l11At_b0 (v0 : Index) (v1 : (List Tag)) (Q8 : Int) : Option ((Int) ⊕ (Unit ⊕ Int)) := cond (decide (Q8 < (v0.1.length : Int))) (gd (ix Q8 v0.1.length) <| bd (p_spec_l3Text (nth v0.1 Q8.toNat)) fun r18 => bd (p_spec_l3Text v1) fun r20 => cond (decide (r18 = r20)) (gd (I64 (Q8 + 1)) <| some (.inr (.inr (Q8 + 1)))) (gd (I64 (Q8 + 1)) <| some (.inl (Q8 + 1)))) (some (.inr (.inl ())))
noncomputable def p_spec_l11At (v0 : Index) (v1 : (List Tag)) : Option (Int) := bd (lp (p_spec_l11At_b0 v0 v1) 0) <| sw (fun _ => some 0) (fun q => some q)
theorem c_spec_l11At {r : Int} (v0 : Index) (x_v0 : (Option Addr × Nat) × (Option Addr × Nat)) (v1 : (List Tag)) (x_v1 : Option Addr × Nat) (H : p_spec_l11At v0 v1 = some r) : Fn' prog 228 #[.agg #[.slice x_v0.1.1 v0.1.length x_v0.1.2, .slice x_v0.2.1 v0.2.length x_v0.2.2], .slice x_v1.1 v1.length x_v1.2] [imm (.slice x_v0.1.1 v0.1.length x_v0.1.2) v0.1, imm (.slice x_v0.2.1 v0.2.length x_v0.2.2) v0.2, imm (.slice x_v1.1 v1.length x_v1.2) v1] [] (ι := Unit) (fun _ => .int .i64 (r)) (fun _ => []) (fun _ => []) := by
 refine cof (args := [_, _]) func228 ntmps228 fun c => ?_
 unfold p_spec_l11At at H
 refine bN aS fun X1 => (bN aS.s.s fun X2 => (sr (f1 (cD (t := 38) rfl) fun g3 => (aH (v := .int .i64 (0)) rfl (nl (aD (sr (aH (v := .int .i64 (0)) rfl (nl (bdo H fun x4 hx5 H => (dD (Λ := Unit) H (fun _ _ => []) (fun _ _ => []) ?_ ?_)))))))))))
 ·refine aR (dF hx5 () (fun Q8 _ => [(1, .slice x_v1.1 v1.length x_v1.2), (2, .pointer (some ⟨g3, 0, none⟩)), (5, .int .i64 (Q8))]) (fun _ _ => [box g3 38 [.slice x_v0.1.1 v0.1.length x_v0.1.2, .slice x_v0.2.1 v0.2.length x_v0.2.2]]) (.cons aA .nil) ?_)
  rintro _ Q8 z9 t11 H1 hi12 hb13
  unfold p_spec_l11At_b0 at H1
  refine aD (sr (aF rfl (aG (cC fa38_0 rfl rfl) (aI (bJ ty35 rfl aB rfl) (aG (bT 105 dO rfl) (aG (cS rfl rfl) (nl (cH H1 rfl (fun h16 H1 => ?_) (fun h16 H1 => ?_)))))))))
  ·refine bI (nT (aD (aR (sr (aG (cC fa38_0 rfl rfl) (aI (bJ ty35 rfl aB rfl) (aF rfl (gdo H1 fun h17 H1 => (aI (bX dO ty105 rfl rfl h17 rfl (aM (aU aS.s))) (aI (cA (i := Q8.toNat) (j := 0) ty105 rfl (aM (aU aS.s)) h17.lt rfl) ?_))))))))))
   refine bdo H1 fun r18 h19 H1 => (aI (bO (c_spec_l3Text (nth v0.1 Q8.toNat) ((X1 Q8.toNat).1, (X1 Q8.toNat).2.1) h19) rfl (aC (aM (aT (aX aS.s h17.lt))) aP)) (aF rfl (bdo H1 fun r20 h21 H1 => (aI (bO (c_spec_l3Text v1 x_v1 h21) rfl (aC (aM aS.s.s.s.s) aP)) (aG (p_seql rfl rfl) (nl (cH H1 rfl (fun h22 H1 => ?_) (fun h22 H1 => ?_))))))))
   ·refine sr (aF rfl (gdo H1 fun h23 H1 => (aG (bS rfl rfl h23) (aH rfl (nl (bR (rB (rT (rT (rB (rT (rT (?_)))))))))))))
    obtain rfl := hb13 _ (sm H1)
    replace H := sw.r H
    obtain rfl := si H
    exact bk
   ·exact bI (nB (nT (aQ (aF rfl (gdo H1 fun h24 H1 => (aG (bS rfl rfl h24) (aH rfl (aJ (nLI () (hi12 _ (sm H1)) (.cons aA .nil))))))))))
  ·exact dB (xT (xT (xE (nMI () (hb13 _ (sm H1)) bL))))
 ·rintro e25 y10 H
  refine nT (sr (aH (v := .int .i64 (0)) rfl (nl ?_)))
  obtain rfl := si H
  exact bR bk
noncomputable def p_spec_l11Names_b0 (v0 : (List (List Tag))) (Q8 : (List (List Tag)) × Int) : Option (((List (List Tag)) × Int) ⊕ ((List (List Tag)))) := cond (decide (Q8.2 < (v0.length : Int))) (gd (ix Q8.2 v0.length) <| gd (room (([] : List Tag).length + (nth v0 Q8.2.toNat).length)) <| gd (room (Q8.1.length + 1)) <| gd (I64 (Q8.2 + 1)) <| some (.inl ((Q8.1 ++ [([] : List Tag) ++ (nth v0 Q8.2.toNat)]), Q8.2 + 1))) (some (.inr Q8.1))
noncomputable def p_spec_l11Names (v0 : (List (List Tag))) : Option ((List (List Tag))) := bd (lp (p_spec_l11Names_b0 v0) (([] : List (List Tag)), 0)) fun x4 => some x4
theorem c_spec_l11Names {r : (List (List Tag))} (v0 : (List (List Tag))) (x_v0 : Option Addr × Nat) (H : p_spec_l11Names v0 = some r) : Fn' prog 185 #[.slice x_v0.1 v0.length x_v0.2] [imm (.slice x_v0.1 v0.length x_v0.2) v0] [] (ι := Option Addr × Nat) (fun x => .slice x.1 r.length x.2) (fun _ => []) (fun x => [tree (.slice x.1 r.length x.2) r]) := by
 refine cof (args := [_]) func185 ntmps185 fun c => ?_
 unfold p_spec_l11Names at H
 refine bN aS fun X1 => (sr (aH (v := .slice none 0 0) rfl (nl (sr (f2 (e_lit0 (List Tag) dO ty105) fun a2 c3 => (aH rfl (nl (aD (sr (aH (v := .int .i64 (0)) rfl (nl (bdo H fun x4 hx5 H => (dC (ι := Option Addr × Nat) (fun ψ => [(3, .slice ψ.1 x4.length ψ.2)]) (fun ψ => [tree (.slice ψ.1 x4.length ψ.2) x4]) ?_ ?_)))))))))))))
 ·refine aR (dF hx5 (a2, c3) (fun Q8 z9 => [(0, .slice x_v0.1 v0.length x_v0.2), (3, .slice z9.1 Q8.1.length z9.2), (4, .int .i64 (Q8.2))]) (fun Q8 z9 => [tree (.slice z9.1 Q8.1.length z9.2) Q8.1]) (.cons aA .nil) ?_)
  rintro _ Q8 z9 t11 H1 hi12 hb13
  unfold p_spec_l11Names_b0 at H1
  refine aD (sr (aF rfl (aF rfl (aG (bT 105 dO rfl) (aG (cS rfl rfl) (nl (cH H1 rfl (fun h16 H1 => ?_) (fun h16 H1 => ?_))))))))
  ·refine bI (nT (aD (aR (aQ (aF rfl (f2 (e_lit0 Tag dK ty97) fun a17 c18 => (aF rfl (aF rfl (gdo H1 fun h19 H1 => (aI (bX dO ty105 rfl rfl h19 rfl (aM (aU aS))) ?_))))))))))
   refine aI (cA (i := Q8.2.toNat) (j := 0) ty105 rfl (aM (aU aS)) h19.lt rfl) (gdo H1 fun h22 H1 => (f2 (e_appF (l := ([] : List Tag)) (k := nth v0 Q8.2.toNat) (α := Tag) dK ty97 rfl rfl (h22.b (by decide)) h22.x (.cons aA .nil) (aM (aT (aX aS h19.lt)))) fun a20 c21 => (f1 (e_lit (vs := [(0, .slice a20 ((([] : List Tag) ++ (nth v0 Q8.2.toNat)).length) c21)]) [.slice a20 ((([] : List Tag) ++ (nth v0 Q8.2.toNat)).length) c21] dO ty105 rfl (by decide) (by decide) (by kernel_rfl)) fun g23 => (gdo H1 fun h26 H1 => (f2 (e_app1 (l := Q8.1) (α := (List Tag)) (([] : List Tag) ++ (nth v0 Q8.2.toNat)) (a20, c21) dO ty105 rfl rfl (h26.b (by decide)) h26.x rfl (cY _) (.cons dl2 (.cons aA (.cons aA .nil)))) fun a24 c25 => (aH rfl (aJ (nB (nT (aQ (aF rfl ?_)))))))))))
   exact gdo H1 fun h27 H1 => (aG (bS rfl rfl h27) (aH rfl (aJ (nLI (a24, c25) (hi12 _ (sm H1)) (.cons aA .nil)))))
  ·refine dB (xT (xT (xE (?_))))
   obtain rfl := hb13 _ (sm H1)
   exact nMC (z9.1, z9.2) ⟨rfl, trivial⟩ bU (.cons aA .nil)
 ·intro y10
  show At _ _ [(3, .slice y10.1 x4.length y10.2)] _ [tree (.slice y10.1 x4.length y10.2) x4] _
  refine nT (sr (aF rfl (aH rfl (nl (bR ?_)))))
  obtain rfl := si H
  exact back1 y10 rfl (ResV.tmp (v := .slice y10.1 x4.length y10.2) rfl) rfl cO (.cons aA .nil)
noncomputable def p_spec_l11Of_b1 (v0 : (List (List Tag))) (Q9 : (List Post) × Int) (Q22 : (List Post) × Int) : Option (((List Post) × Int) ⊕ ((List Post))) := cond (decide (Q22.2 ≤ 122)) (gd (asc Q9.2) <| gd (asc Q22.2) <| bd (p_spec_l11Ids v0 ((s1 Q9.2), (s1 Q22.2))) fun r34 => cond (decide (0 < (r34.length : Int))) (gd (room (Q22.1.length + 1)) <| gd (I32 (Q22.2 + 1)) <| some (.inl ((Q22.1 ++ [(((s1 Q9.2), (s1 Q22.2)), r34)]), Q22.2 + 1))) (gd (I32 (Q22.2 + 1)) <| some (.inl (Q22.1, Q22.2 + 1)))) (some (.inr Q22.1))
noncomputable def p_spec_l11Of_b0 (v0 : (List (List Tag))) (Q9 : (List Post) × Int) : Option (((List Post) × Int) ⊕ ((List Post))) := cond (decide (Q9.2 ≤ 100)) (bd (lp (p_spec_l11Of_b1 v0 Q9) (Q9.1, 112)) fun x18 => gd (I32 (Q9.2 + 1)) <| some (.inl (x18, Q9.2 + 1))) (some (.inr Q9.1))
noncomputable def p_spec_l11Of (v0 : (List (List Tag))) : Option (Index) := bd (lp (p_spec_l11Of_b0 v0) (([] : List Post), 97)) fun x5 => bd (p_spec_l11Names v0) fun r45 => some (r45, x5)
theorem c_spec_l11Of {r : Index} (v0 : (List (List Tag))) (x_v0 : Option Addr × Nat) (H : p_spec_l11Of v0 = some r) : Fn' prog 141 #[.slice x_v0.1 v0.length x_v0.2] [imm (.slice x_v0.1 v0.length x_v0.2) v0] [] (ι := (Option Addr × Nat) × (Option Addr × Nat)) (fun x => .agg #[.slice x.1.1 r.1.length x.1.2, .slice x.2.1 r.2.length x.2.2]) (fun _ => []) (fun x => [tree (.slice x.1.1 r.1.length x.1.2) r.1, tree (.slice x.2.1 r.2.length x.2.2) r.2]) := by
 refine cof (args := [_]) func141 ntmps141 fun c => ?_
 unfold p_spec_l11Of at H
 refine bN aS fun X1 => (sr (f1 (cE ty38) fun g2 => (nl (sr (f2 (e_lit0 Post dP ty177) fun a3 c4 => (aH rfl (nl (aD (sr (aH (v := .int .i32 (97)) rfl (nl (bdo H fun x5 hx6 H => ?_))))))))))))
 refine dC (ι := Option Addr × Nat) (fun ψ => [(0, .slice x_v0.1 v0.length x_v0.2), (2, .pointer (some ⟨g2, 0, none⟩)), (3, .slice ψ.1 x5.length ψ.2)]) (fun ψ => [box g2 38 [.slice none 0 0, .slice none 0 0], tree (.slice ψ.1 x5.length ψ.2) x5]) ?_ ?_
 ·refine aR (dF hx6 (a3, c4) (fun Q9 z10 => [(0, .slice x_v0.1 v0.length x_v0.2), (2, .pointer (some ⟨g2, 0, none⟩)), (3, .slice z10.1 Q9.1.length z10.2), (4, .int .i32 (Q9.2))]) (fun Q9 z10 => [box g2 38 [.slice none 0 0, .slice none 0 0], tree (.slice z10.1 Q9.1.length z10.2) Q9.1]) (.cons dl1 (.cons aA .nil)) ?_)
  rintro _ Q9 z10 t12 H1 hi13 hb14
  unfold p_spec_l11Of_b0 at H1
  refine aD (sr (aF rfl (aG (p_leq rfl rfl) (nl (cH H1 rfl (fun h17 H1 => ?_) (fun h17 H1 => ?_))))))
  ·refine bI (nT (aD (aR (sr (aH (v := .int .i32 (112)) rfl (nl (bdo H1 fun x18 hx19 H1 => (dC (ι := Option Addr × Nat) (fun ψ => [(0, .slice x_v0.1 v0.length x_v0.2), (2, .pointer (some ⟨g2, 0, none⟩)), (3, .slice ψ.1 x18.length ψ.2), (4, .int .i32 (Q9.2))]) (fun ψ => [box g2 38 [.slice none 0 0, .slice none 0 0], tree (.slice ψ.1 x18.length ψ.2) x18]) ?_ ?_))))))))
   ·refine aR (dF hx19 (z10.1, z10.2) (fun Q22 z23 => [(0, .slice x_v0.1 v0.length x_v0.2), (2, .pointer (some ⟨g2, 0, none⟩)), (3, .slice z23.1 Q22.1.length z23.2), (4, .int .i32 (Q9.2)), (5, .int .i32 (Q22.2))]) (fun Q22 z23 => [box g2 38 [.slice none 0 0, .slice none 0 0], tree (.slice z23.1 Q22.1.length z23.2) Q22.1]) (.cons aA (.cons aA .nil)) ?_)
    rintro _ Q22 z23 t25 H2 hi26 hb27
    unfold p_spec_l11Of_b1 at H2
    refine aD (sr (aF rfl (aG (p_leq rfl rfl) (nl (cH H2 rfl (fun h30 H2 => ?_) (fun h30 H2 => ?_))))))
    ·refine bI (nT (aD (aR (sr (aF rfl (gdo H2 fun h31 H2 => (aG (v := .string (s1 Q9.2)) (p_r2s underlying21 dZ rfl h31) (aF rfl (gdo H2 fun h32 H2 => (aG (v := .string (s1 Q22.2)) (p_r2s underlying21 dZ rfl h32) ?_))))))))))
     refine aG (v := .agg #[.string (s1 Q9.2), .string (s1 Q22.2)]) (p_buildS (vs := [(0, .string (s1 Q9.2)), (1, .string (s1 Q22.2))]) (cs := #[.string (s1 Q9.2), .string (s1 Q22.2)]) ty97 pl97 rfl rfl) (f1 (cE ty97) fun g33 => (stb (cs' := [.string (s1 Q9.2), .string (s1 Q22.2)]) ty97 cZ (nl (sr (aF rfl (aI (bK ty97 rfl aB rfl) (bdo H2 fun r34 h35 H2 => (f1 (cG (c_spec_l11Ids v0 x_v0 ((s1 Q9.2), (s1 Q22.2)) h35) (fun _ => (bG bH)) rfl (aC (aM (aT aS)) aP)) fun x36 => (aH rfl (nl ?_))))))))))
     refine sr (aF rfl (aG (bT 3 dW rfl) (aG (cW rfl rfl) (nl (cH H2 rfl (fun h37 H2 => ?_) (fun h37 H2 => ?_))))))
     ·refine aQ (aF rfl (aI (bK ty97 rfl hs1 rfl) (aF rfl (aG (v := .agg #[.string (s1 Q9.2), .string (s1 Q22.2), .slice x36.1 r34.length x36.2]) (p_buildS (vs := [(0, .agg #[.string (s1 Q9.2), .string (s1 Q22.2)]), (1, .slice x36.1 r34.length x36.2)]) (cs := #[.string (s1 Q9.2), .string (s1 Q22.2), .slice x36.1 r34.length x36.2]) ty177 pl177 rfl rfl) (f1 (e_lit (vs := [(0, .agg #[.string (s1 Q9.2), .string (s1 Q22.2), .slice x36.1 r34.length x36.2])]) [.string (s1 Q9.2), .string (s1 Q22.2), .slice x36.1 r34.length x36.2] dP ty177 rfl (by decide) (by decide) (by kernel_rfl)) fun g38 => (gdo H2 fun h41 H2 => (f2 (e_app1 (l := Q22.1) (α := Post) (((s1 Q9.2), (s1 Q22.2)), r34) (((), ()), x36) dP ty177 rfl rfl (h41.b (by decide)) h41.x rfl (cY _) (.cons dl4 (.cons aA (.cons aA .nil)))) fun a39 c40 => (aH rfl (aJ (nB (nT (?_))))))))))))
      exact aQ (aF rfl (gdo H2 fun h42 H2 => (aG (v := .int .i32 (Q22.2 + 1)) (p_add32 rfl rfl h42) (aH rfl (aJ (nLI (a39, c40) (hi26 _ (sm H2)) (.cons dl2 (.cons aA .nil))))))))
     ·exact bI (nB (nT (aQ (aF rfl (gdo H2 fun h43 H2 => (aG (v := .int .i32 (Q22.2 + 1)) (p_add32 rfl rfl h43) (aH rfl (aJ (nLI (z23.1, z23.2) (hi26 _ (sm H2)) (.cons dl2 (.cons dl2 .nil)))))))))))
    ·refine dB (xT (xT (xE (?_))))
     obtain rfl := hb27 _ (sm H2)
     exact nMC (z23.1, z23.2) ⟨rfl, rfl, rfl, rfl, trivial⟩ bU (.cons aA (.cons aA .nil))
   ·intro y24
    show At _ _ [(0, .slice x_v0.1 v0.length x_v0.2), (2, .pointer (some ⟨g2, 0, none⟩)), (3, .slice y24.1 x18.length y24.2), (4, .int .i32 (Q9.2))] _ [box g2 38 [.slice none 0 0, .slice none 0 0], tree (.slice y24.1 x18.length y24.2) x18] _
    exact nB (nT (aQ (aF rfl (gdo H1 fun h44 H1 => (aG (v := .int .i32 (Q9.2 + 1)) (p_add32 rfl rfl h44) (aH rfl (aJ (nLI (y24.1, y24.2) (hi13 _ (sm H1)) (.cons aA (.cons aA .nil))))))))))
  ·refine dB (xT (xT (xE (?_))))
   obtain rfl := hb14 _ (sm H1)
   exact nMC (z10.1, z10.2) ⟨rfl, rfl, rfl, trivial⟩ bU (.cons aA (.cons aA .nil))
 ·intro y11
  show At _ _ [(0, .slice x_v0.1 v0.length x_v0.2), (2, .pointer (some ⟨g2, 0, none⟩)), (3, .slice y11.1 x5.length y11.2)] _ [box g2 38 [.slice none 0 0, .slice none 0 0], tree (.slice y11.1 x5.length y11.2) x5] _
  refine nT (sr (aF rfl (bdo H fun r45 h46 H => (f1 (cG (c_spec_l11Names v0 x_v0 h46) (fun _ => (bG bH)) rfl (aC (aM (aT aS)) aP)) fun x47 => (aF rfl (aG (v := .agg #[.slice x47.1 r45.length x47.2, .slice y11.1 x5.length y11.2]) (p_buildS (vs := [(0, .slice x47.1 r45.length x47.2), (1, .slice y11.1 x5.length y11.2)]) (cs := #[.slice x47.1 r45.length x47.2, .slice y11.1 x5.length y11.2]) ty38 pl38 rfl rfl) (stb (cs' := [.slice x47.1 r45.length x47.2, .slice y11.1 x5.length y11.2]) ty38 up1 (nl (bR ?_)))))))))
  obtain rfl := si H
  exact back1 (x47, y11) rfl (ResV.agg ty38 rfl hs1 rfl) rfl cO (.cons aA (.cons dl1 .nil))
noncomputable def p_spec_l11Add (v0 : Index) (v1 : (List Tag)) : Option (Index × Int × Bool) := bd (p_spec_l11At v0 v1) fun r5 => cond (decide (0 < r5)) (some (v0, r5, true)) (bd (bd (p_spec_NameOk v1) fun r10 => cond (!r10) (some (true)) (some (decide (6 ≤ (v0.1.length : Int))))) fun b8 => cond (b8) (some (v0, 0, false)) (bd (p_spec_l11Names v0.1) fun r14 => gd (room (([] : List Tag).length + v1.length)) <| gd (room (r14.length + 1)) <| bd (p_spec_l11Of (r14 ++ [([] : List Tag) ++ v1])) fun r26 => some (r26, (r26.1.length : Int), true)))
theorem c_spec_l11Add {r : Index × Int × Bool} (v0 : Index) (x_v0 : (Option Addr × Nat) × (Option Addr × Nat)) (v1 : (List Tag)) (x_v1 : Option Addr × Nat) (H : p_spec_l11Add v0 v1 = some r) : Fn' prog 212 #[.agg #[.slice x_v0.1.1 v0.1.length x_v0.1.2, .slice x_v0.2.1 v0.2.length x_v0.2.2], .slice x_v1.1 v1.length x_v1.2] [imm (.slice x_v0.1.1 v0.1.length x_v0.1.2) v0.1, imm (.slice x_v0.2.1 v0.2.length x_v0.2.2) v0.2, imm (.slice x_v1.1 v1.length x_v1.2) v1] [] (ι := ((Option Addr × Nat) × (Option Addr × Nat)) × Unit × Unit) (fun x => .tuple #[.agg #[.slice x.1.1.1 r.1.1.length x.1.1.2, .slice x.1.2.1 r.1.2.length x.1.2.2], .int .i64 (r.2.1), .bool (r.2.2)]) (fun x => [imm (.slice x.1.1.1 r.1.1.length x.1.1.2) r.1.1, imm (.slice x.1.2.1 r.1.2.length x.1.2.2) r.1.2]) (fun _ => []) := by
 refine cof (args := [_, _]) func212 ntmps212 fun c => ?_
 unfold p_spec_l11Add at H
 refine bN aS fun X1 => (bN aS.s.s fun X2 => (sr (f1 (cD (t := 38) rfl) fun g3 => (f1 (cE ty38) fun g4 => (aH (v := .int .i64 (0)) rfl (aH (v := .bool (false)) rfl (nl (sr (aI (bK ty38 rfl hs1 rfl) (aF rfl ?_))))))))))
 refine bdo H fun r5 h6 H => (aI (bO (c_spec_l11At v0 x_v0 v1 x_v1 h6) rfl (aC (aM (aT aS.s)) (aC (aM (aT aS)) (aC (aM aS.s.s.s.s) aP)))) (aH rfl (nl (aD (sr (aF rfl (aG (cW rfl rfl) (nl (cH H rfl (fun h7 H => ?_) (fun h7 H => ?_))))))))))
 ·refine sr (aI (bK ty38 rfl hs1 rfl) (aF rfl (stb (cs' := [.slice x_v0.1.1 v0.1.length x_v0.1.2, .slice x_v0.2.1 v0.2.length x_v0.2.2]) ty38 cZ (aH rfl (aH (v := .bool (true)) rfl (nl (bR (rT (?_)))))))))
  obtain rfl := si H
  exact back3 (x_v0, (), ()) rfl (ResV.agg ty38 rfl aB rfl) (ResV.tmp (v := .int .i64 (r5)) rfl) (ResV.tmp (v := .bool (true)) rfl) rfl (cN (aT aS.s) (cN (aT aS) cO)) bL
 ·refine bI (nT (aD (bdo H fun b8 j9 H => (dE [(24, .bool (b8)), (4, .pointer (some ⟨g4, 0, none⟩)), (2, .pointer (some ⟨g3, 0, none⟩)), (1, .slice x_v1.1 v1.length x_v1.2)] ?_ ?_))))
  ·refine dI [(4, .pointer (some ⟨g4, 0, none⟩)), (2, .pointer (some ⟨g3, 0, none⟩)), (1, .slice x_v1.1 v1.length x_v1.2)] ⟨rfl, rfl, rfl, trivial⟩ (bC rfl (bdo j9 fun r10 h11 j9 => (bA (bO (c_spec_NameOk v1 x_v1 h11) rfl (aC (aM aS.s.s.s.s) aP)) (aY (cX rfl) ?_))))
   rcases aL (!r10) with h12 | h12
   ·have j9 := cdT h12 j9
    refine bD (aE rfl) h12 ?_
    iterate 4 refine bF rfl ?_
    refine aY (v := .bool (true)) (bQ rfl rfl) ?_
    obtain rfl := si j9
    show At _ _ _ _ _ _
    exact n1 ⟨rfl, rfl, rfl, rfl, trivial⟩
   ·have j9 := cdF h12 j9
    refine bD (aE rfl) h12 (aZ rfl (cC fa38_0 rfl rfl) (bB rfl (bJ ty35 rfl hs1 rfl) (aZ rfl (bT 105 dO rfl) (aZ rfl (p_geq rfl rfl) (aY (bP rfl rfl) ?_)))))
    obtain rfl := si j9
    show At _ _ _ _ _ _
    exact n1 ⟨rfl, rfl, rfl, rfl, trivial⟩
  refine cH H rfl (fun h13 H => ?_) (fun h13 H => ?_)
  ·refine sr (aI (bK ty38 rfl hs1 rfl) (stb (cs' := [.slice x_v0.1.1 v0.1.length x_v0.1.2, .slice x_v0.2.1 v0.2.length x_v0.2.2]) ty38 cZ (aH (v := .int .i64 (0)) rfl (aH (v := .bool (false)) rfl (nl (bR (rT (?_))))))))
   obtain rfl := si H
   exact back3 (x_v0, (), ()) rfl (ResV.agg ty38 rfl aB rfl) (ResV.tmp (v := .int .i64 (0)) rfl) (ResV.tmp (v := .bool (false)) rfl) rfl (cN (aT aS.s) (cN (aT aS) cO)) bL
  ·refine bI (nT (sr (aG (cC fa38_0 rfl rfl) (aI (bJ ty35 rfl hs1 rfl) (bdo H fun r14 h15 H => (f1 (cG (c_spec_l11Names v0.1 x_v0.1 h15) (fun _ => (bG bH)) rfl (aC (aM (aT aS.s)) aP)) fun x16 => (f2 (e_lit0 Tag dK ty97) fun a17 c18 => (aF rfl (gdo H fun h21 H => ?_)))))))))
   refine f2 (e_appF (l := ([] : List Tag)) (k := v1) (α := Tag) dK ty97 rfl rfl (h21.b (by decide)) h21.x (.cons aA .nil) (aM aS.s.s.s.s)) fun a19 c20 => (f1 (e_lit (vs := [(0, .slice a19 ((([] : List Tag) ++ v1).length) c20)]) [.slice a19 ((([] : List Tag) ++ v1).length) c20] dO ty105 rfl (by decide) (by decide) (by kernel_rfl)) fun g22 => (gdo H fun h25 H => (f2 (e_app1 (l := r14) (α := (List Tag)) (([] : List Tag) ++ v1) (a19, c20) dO ty105 rfl rfl (h25.b (by decide)) h25.x rfl (cY _) (.cons dl2 (.cons aA (.cons aA .nil)))) fun a23 c24 => (bdo H fun r26 h27 H => (f1 (cG (c_spec_l11Of (r14 ++ [([] : List Tag) ++ v1]) (a23, c24) h27) (fun _ => (bG (bG bH))) rfl (aC (bM aB) aP)) fun x28 => (f1 (cE ty38) fun g29 => (stb (cs' := [.slice x28.1.1 r26.1.length x28.1.2, .slice x28.2.1 r26.2.length x28.2.2]) ty38 cZ (nl (aD ?_)))))))))
   refine dH [(8, .pointer (some ⟨g29, 0, none⟩)), (4, .pointer (some ⟨g4, 0, none⟩))] 1 [0, 1, 2, 3, 4, 5, 6] [4] [] mixed (by kernel_rfl) (by decide) dJ ⟨rfl, rfl, trivial⟩ rfl okNil ?_
   refine w_o rfl (fun F => (bK ty38 rfl (aB.app F) rfl)) (w_p rfl (cC fa38_0 rfl rfl) ?_)
   refine w_o rfl (fun F => (bJ ty35 rfl (aB.app F) rfl)) (w_p rfl (bT 105 dO rfl) (cL rfl rfl cP rfl (n_store (cs' := [.slice x28.1.1 r26.1.length x28.1.2, .slice x28.2.1 r26.2.length x28.2.2]) ty38 rfl rfl up4 rfl (one_of rfl) (Nat.le_of_ble_eq_true rfl) rfl) ?_))
   rintro _ _ _ ⟨rfl, rfl, rfl⟩
   refine ⟨(bW rfl rfl (fun F => (bJ ty35 rfl (aB.app F) rfl)) (aN (by kernel_rfl) bV)), ?_⟩
   refine w_p rfl (p_assign rfl) (w_p (v := .bool (true)) rfl (p_assign rfl) (cM (nT (Tr.freeze (.cons dl1 .nil) (Tr.freeze (.cons dl1 .nil) (bR ?_))))))
   obtain rfl := si H
   exact back3 (x28, (), ()) rfl (ResV.agg ty38 rfl hs2 rfl) (ResV.tmp (v := .int .i64 ((r26.1.length : Int))) rfl) (ResV.tmp (v := .bool (true)) rfl) rfl (cN aS.s (cN aS cO)) bL
noncomputable def p_spec_l13Add (v0 : Store) (v1 : (List Tag)) (v2 : Row) : Option (Store × Bool) := bd (p_spec_l11Add v0.1 v1) fun r7 => bd (cond (!r7.2.2) (some (true)) (bd (p_spec_l2Row v2) fun r14 => cond (!r14) (some (true)) (some (decide (20 ≤ (v0.2.2.length : Int)))))) fun b11 => cond (b11) (some (v0, false)) (gd (room (([] : List Sample).length + v0.2.2.length)) <| gd (room ((([] : List Sample) ++ v0.2.2).length + 1)) <| bd (p_spec_l13Rows (r7.1, v0.2.1, ((([] : List Sample) ++ v0.2.2) ++ [(r7.2.1, v2)])) r7.2.1) fun r27 => cond (decide (24 < (r27.length : Int))) (some (v0, false)) (some ((r7.1, v0.2.1, ((([] : List Sample) ++ v0.2.2) ++ [(r7.2.1, v2)])), true)))
theorem c_spec_l13Add {r : Store × Bool} (v0 : Store) (x_v0 : ((Option Addr × Nat) × (Option Addr × Nat)) × (Option Addr × Nat) × (Option Addr × Nat)) (v1 : (List Tag)) (x_v1 : Option Addr × Nat) (v2 : Row) (H : p_spec_l13Add v0 v1 v2 = some r) : Fn' prog 194 #[.agg #[.slice x_v0.1.1.1 v0.1.1.length x_v0.1.1.2, .slice x_v0.1.2.1 v0.1.2.length x_v0.1.2.2, .slice x_v0.2.1.1 v0.2.1.length x_v0.2.1.2, .slice x_v0.2.2.1 v0.2.2.length x_v0.2.2.2], .slice x_v1.1 v1.length x_v1.2, .agg #[.int .i64 (v2.1), .int .i64 (v2.2)]] [imm (.slice x_v0.1.1.1 v0.1.1.length x_v0.1.1.2) v0.1.1, imm (.slice x_v0.1.2.1 v0.1.2.length x_v0.1.2.2) v0.1.2, imm (.slice x_v0.2.1.1 v0.2.1.length x_v0.2.1.2) v0.2.1, imm (.slice x_v0.2.2.1 v0.2.2.length x_v0.2.2.2) v0.2.2, imm (.slice x_v1.1 v1.length x_v1.2) v1] [] (ι := (((Option Addr × Nat) × (Option Addr × Nat)) × (Option Addr × Nat) × (Option Addr × Nat)) × Unit) (fun x => .tuple #[.agg #[.slice x.1.1.1.1 r.1.1.1.length x.1.1.1.2, .slice x.1.1.2.1 r.1.1.2.length x.1.1.2.2, .slice x.1.2.1.1 r.1.2.1.length x.1.2.1.2, .slice x.1.2.2.1 r.1.2.2.length x.1.2.2.2], .bool (r.2)]) (fun x => [imm (.slice x.1.1.1.1 r.1.1.1.length x.1.1.1.2) r.1.1.1, imm (.slice x.1.1.2.1 r.1.1.2.length x.1.1.2.2) r.1.1.2, imm (.slice x.1.2.1.1 r.1.2.1.length x.1.2.1.2) r.1.2.1, imm (.slice x.1.2.2.1 r.1.2.2.length x.1.2.2.2) r.1.2.2]) (fun _ => []) := by
 refine cof (args := [_, _, _]) func194 ntmps194 fun c => ?_
 unfold p_spec_l13Add at H
 refine bN aS fun X1 => (bN aS.s.s fun X2 => (bN aS.s.s.s.s fun X3 => (sr (f1 (cD (t := 42) rfl) fun g4 => (f1 (cD (t := 57) rfl) fun g5 => (f1 (cE ty42) fun g6 => (aH (v := .bool (false)) rfl (nl (sr (aG (cC fa42_0 rfl rfl) ?_))))))))))
 refine aI (v := .agg #[.slice x_v0.1.1.1 v0.1.1.length x_v0.1.1.2, .slice x_v0.1.2.1 v0.1.2.length x_v0.1.2.2]) (q_ldbP [.slice x_v0.1.1.1 v0.1.1.length x_v0.1.1.2, .slice x_v0.1.2.1 v0.1.2.length x_v0.1.2.2] ty38 rfl hs2 rfl rfl) (aF rfl (bdo H fun r7 h8 H => (f1 (e_call (c_spec_l11Add v0.1 x_v0.1 v1 x_v1 h8) rfl (cN (aT aS.s.s) (cN (aT aS.s) (cN aS.s.s.s.s.s.s.s cO))) bL) fun x9 => (aF rfl (aG (dA rfl rfl) (aG (dA rfl rfl) (aG (dA rfl rfl) (f1 (cE ty38) fun g10 => (stb (cs' := [.slice x9.1.1.1 r7.1.1.length x9.1.1.2, .slice x9.1.2.1 r7.1.2.length x9.1.2.2]) ty38 cZ ?_)))))))))
 refine aH rfl (aH rfl (nl (aD (bdo H fun b11 j12 H => (dE [(32, .bool (b11)), (9, .int .i64 (r7.2.1)), (8, .pointer (some ⟨g10, 0, none⟩)), (6, .pointer (some ⟨g6, 0, none⟩)), (5, .pointer (some ⟨g5, 0, none⟩)), (3, .pointer (some ⟨g4, 0, none⟩))] ?_ ?_)))))
 ·refine dI [(10, .bool (r7.2.2)), (9, .int .i64 (r7.2.1)), (8, .pointer (some ⟨g10, 0, none⟩)), (6, .pointer (some ⟨g6, 0, none⟩)), (5, .pointer (some ⟨g5, 0, none⟩)), (3, .pointer (some ⟨g4, 0, none⟩))] ⟨rfl, rfl, rfl, rfl, rfl, rfl, trivial⟩ (bC rfl (aY (cX rfl) ?_))
  rcases aL (!r7.2.2) with h13 | h13
  ·have j12 := cdT h13 j12
   refine bD (aE rfl) h13 ?_
   iterate 3 refine bF rfl ?_
   refine aY (v := .bool (true)) (bQ rfl rfl) (bC (v := .bool (true)) rfl ?_)
   iterate 4 refine bF rfl ?_
   refine aY (v := .bool (true)) (bQ rfl rfl) ?_
   obtain rfl := si j12
   show At _ _ _ _ _ _
   exact n1 ⟨rfl, rfl, rfl, rfl, rfl, rfl, trivial⟩
  ·have j12 := cdF h13 j12
   refine bD (aE rfl) h13 (bB rfl (bK ty57 rfl hs2 rfl) (bdo j12 fun r14 h15 j12 => (bB rfl (bO (c_spec_l2Row v2 h15) rfl aP) (aZ rfl (cX rfl) (aY (bP rfl rfl) ?_)))))
   rcases aL (!r14) with h16 | h16
   ·have j12 := cdT h16 j12
    refine bD (aE rfl) h16 ?_
    iterate 4 refine bF rfl ?_
    refine aY (v := .bool (true)) (bQ rfl rfl) ?_
    obtain rfl := si j12
    show At _ _ _ _ _ _
    exact n1 ⟨rfl, rfl, rfl, rfl, rfl, rfl, trivial⟩
   ·have j12 := cdF h16 j12
    refine bD (aE rfl) h16 (aZ rfl (cC fa42_2 rfl rfl) (bB rfl (bJ ty40 rfl hs3 rfl) (aZ rfl (bT 59 dR rfl) (aZ rfl (p_geq rfl rfl) (aY (bP rfl rfl) ?_)))))
    obtain rfl := si j12
    show At _ _ _ _ _ _
    exact n1 ⟨rfl, rfl, rfl, rfl, rfl, rfl, trivial⟩
 refine cH H rfl (fun h17 H => ?_) (fun h17 H => ?_)
 ·refine sr (aI (bK ty42 rfl hs3 rfl) (stb (cs' := [.slice x_v0.1.1.1 v0.1.1.length x_v0.1.1.2, .slice x_v0.1.2.1 v0.1.2.length x_v0.1.2.2, .slice x_v0.2.1.1 v0.2.1.length x_v0.2.1.2, .slice x_v0.2.2.1 v0.2.2.length x_v0.2.2.2]) ty42 up1 (aH (v := .bool (false)) rfl (nl (bR (rT (?_)))))))
  obtain rfl := si H
  exact back2 (x_v0, ()) rfl (ResV.agg ty42 rfl hs1 rfl) (ResV.tmp (v := .bool (false)) rfl) rfl (cN (aT aS.s.s.s.s) (cN (aT aS.s.s.s) (cN (aT aS.s.s) (cN aS.s.s.s.s.s.s.s.s cO)))) bL
 ·refine bI (nT (sr (aI (bK ty42 rfl hs3 rfl) (f1 (cE ty42) fun g18 => (stb (cs' := [.slice x_v0.1.1.1 v0.1.1.length x_v0.1.1.2, .slice x_v0.1.2.1 v0.1.2.length x_v0.1.2.2, .slice x_v0.2.1.1 v0.2.1.length x_v0.2.1.2, .slice x_v0.2.2.1 v0.2.2.length x_v0.2.2.2]) ty42 cZ (nl (sr (aI (bK ty38 rfl hs1 rfl) (aG (cC fa42_0 rfl rfl) ?_)))))))))
  refine stb (cs' := [.slice x9.1.1.1 r7.1.1.length x9.1.1.2, .slice x9.1.2.1 r7.1.2.length x9.1.2.2, .slice x_v0.2.1.1 v0.2.1.length x_v0.2.1.2, .slice x_v0.2.2.1 v0.2.2.length x_v0.2.2.2]) ty38 cZ (nl (aD (dH [(11, .pointer (some ⟨g18, 0, none⟩)), (9, .int .i64 (r7.2.1)), (6, .pointer (some ⟨g6, 0, none⟩)), (5, .pointer (some ⟨g5, 0, none⟩)), (3, .pointer (some ⟨g4, 0, none⟩))] 2 [1, 2, 4, 5, 6, 0, 3, 7, 8, 9, 10] [3, 8, 10] [⟨0, [], fun g => .slice (some ⟨g, 0, none⟩) ([] : List Sample).length 0, fun g => tree (.slice (some ⟨g, 0, none⟩) ([] : List Sample).length 0) ([] : List Sample)⟩, ⟨7, [(43, .agg #[.int .i64 (r7.2.1), .int .i64 (v2.1), .int .i64 (v2.2)])], fun g => .slice (some ⟨g, 0, none⟩) 1 1, fun g => box g 59 [.int .i64 (r7.2.1), .int .i64 (v2.1), .int .i64 (v2.2)]⟩] mixed (by kernel_rfl) (by decide) (show List.Nodup [0, 7] by decide) ⟨rfl, rfl, rfl, rfl, rfl, trivial⟩ rfl (okCons (FreeA.Ok.of rfl (by decide) (by kernel_rfl) fun c fs os => g_lit0 Sample dR ty59) (okCons (FreeA.Ok.of rfl (by decide) (by kernel_rfl) fun c fs os => e_lit (vs := [(0, .agg #[.int .i64 (r7.2.1), .int .i64 (v2.1), .int .i64 (v2.2)])]) [.int .i64 (r7.2.1), .int .i64 (v2.1), .int .i64 (v2.2)] dR ty59 rfl (by decide) (by decide) (by kernel_rfl)) okNil)) (w_p rfl (cC fa42_2 rfl rfl) ?_))))
  refine w_o rfl (fun F => (bJ ty40 rfl (hs4.app F) rfl)) (w_p rfl (aE rfl) ?_)
  refine w_o rfl (fun F => (bK ty57 rfl (hs3.app F) rfl)) (w_p (v := .agg #[.int .i64 (r7.2.1), .int .i64 (v2.1), .int .i64 (v2.2)]) rfl (p_buildS (vs := [(0, .int .i64 (r7.2.1)), (1, .agg #[.int .i64 (v2.1), .int .i64 (v2.2)])]) (cs := #[.int .i64 (r7.2.1), .int .i64 (v2.1), .int .i64 (v2.2)]) ty59 pl59 rfl rfl) ?_)
  refine w_fr (z := ⟨0, [], fun g => .slice (some ⟨g, 0, none⟩) ([] : List Sample).length 0, fun g => tree (.slice (some ⟨g, 0, none⟩) ([] : List Sample).length 0) ([] : List Sample)⟩) (.head _) rfl rfl (by decide) (cQ (.inl rfl) (cQ (.inr (.inr ⟨rfl, trivial⟩)) cP)) trivial ?_; intro g19
  refine gdo H fun h22 H => (cK rfl (by decide) rfl (cQ (.inl rfl) (cQ (.inr (.inr ⟨rfl, trivial⟩)) cP)) rfl (n_appF (l := ([] : List Sample)) (k := v0.2.2) (α := Sample) dR ty59 rfl rfl (h22.b (by decide)) h22.x (.cons aA .nil) (aM aS.s.s.s.s.s.s.s.s)) ?_)
  rintro _ _ _ ⟨a20, c21, rfl, rfl, rfl⟩
  refine ⟨(bW rfl rfl (fun F => (bK ty57 rfl (hs4.app F) rfl)) (aN (by kernel_rfl) bV)), ?_⟩
  refine w_fr (z := ⟨7, [(43, .agg #[.int .i64 (r7.2.1), .int .i64 (v2.1), .int .i64 (v2.2)])], fun g => .slice (some ⟨g, 0, none⟩) 1 1, fun g => box g 59 [.int .i64 (r7.2.1), .int .i64 (v2.1), .int .i64 (v2.2)]⟩) (.tail _ (.head _)) rfl rfl (by decide) (cQ (.inl rfl) (cQ (.inl rfl) cP)) ⟨rfl, trivial⟩ ?_; intro g23
  refine gdo H fun h26 H => (cK rfl (by decide) rfl (cQ (.inl rfl) (cQ (.inl rfl) cP)) rfl (n_app1 (l := (([] : List Sample) ++ v0.2.2)) (α := Sample) (r7.2.1, v2) ((), ((), ())) dR ty59 rfl rfl (h26.b (by decide)) h26.x rfl (cY _) (.cons dl1 (.cons aA .nil))) ?_)
  rintro _ _ _ ⟨a24, c25, rfl, rfl, rfl⟩
  refine ⟨(bW rfl rfl (fun F => (bK ty57 rfl (hs4.app F) rfl)) (aN (by kernel_rfl) bV)), ?_⟩
  refine w_p rfl (cC fa42_2 rfl rfl) (cL rfl rfl (cQ (.inl rfl) (cQ (.inl rfl) cP)) rfl (n_store (cs' := [.slice x9.1.1.1 r7.1.1.length x9.1.1.2, .slice x9.1.2.1 r7.1.2.length x9.1.2.2, .slice x_v0.2.1.1 v0.2.1.length x_v0.2.1.2, .slice a24 (((([] : List Sample) ++ v0.2.2) ++ [(r7.2.1, v2)]).length) c25]) ty40 rfl rfl up1 rfl (one_of rfl) (Nat.le_of_ble_eq_true rfl) rfl) ?_)
  rintro _ _ _ ⟨rfl, rfl, rfl⟩
  refine ⟨(aN (by kernel_rfl) (aN (by kernel_rfl) bV)), ?_⟩
  refine cM (nT (aD (sr (aI (bK ty42 rfl hs1 rfl) (aF rfl (bdo H fun r27 h28 H => (f1 (cG (c_spec_l13Rows (r7.1, v0.2.1, ((([] : List Sample) ++ v0.2.2) ++ [(r7.2.1, v2)])) (x9.1, x_v0.2.1, (a24, c25)) r7.2.1 h28) (fun _ => (bG bH)) rfl (aC (aM aS) (aC (aM aS.s) (aC (aM (aT aS.s.s)) (aC (bM aB) aP))))) fun x29 => (aG (bT 57 dV rfl) (aG (cW rfl rfl) (nl (cH H rfl (fun h30 H => ?_) (fun h30 H => ?_))))))))))))
  ·refine sr (aI (bK ty42 rfl (hs5t hs1) rfl) (stb (cs' := [.slice x_v0.1.1.1 v0.1.1.length x_v0.1.1.2, .slice x_v0.1.2.1 v0.1.2.length x_v0.1.2.2, .slice x_v0.2.1.1 v0.2.1.length x_v0.2.1.2, .slice x_v0.2.2.1 v0.2.2.length x_v0.2.2.2]) ty42 up4 (aH (v := .bool (false)) rfl (nl (bR (rT (?_)))))))
   obtain rfl := si H
   exact back2 (x_v0, ()) rfl (ResV.agg ty42 rfl hs4 rfl) (ResV.tmp (v := .bool (false)) rfl) rfl (cN (aT aS.s.s.s.s) (cN (aT aS.s.s.s) (cN (aT aS.s.s) (cN aS.s.s.s.s.s.s.s.s cO)))) bL
  ·refine bI (nT (sr (aI (bK ty42 rfl hs2 rfl) (stb (cs' := [.slice x9.1.1.1 r7.1.1.length x9.1.1.2, .slice x9.1.2.1 r7.1.2.length x9.1.2.2, .slice x_v0.2.1.1 v0.2.1.length x_v0.2.1.2, .slice a24 (((([] : List Sample) ++ v0.2.2) ++ [(r7.2.1, v2)]).length) c25]) ty42 up4 (aH (v := .bool (true)) rfl (nl (Tr.freeze (.cons dl1 .nil) (bR ?_))))))))
   obtain rfl := si H
   exact back2 ((x9.1, x_v0.2.1, (a24, c25)), ()) rfl (ResV.agg ty42 rfl hs3 rfl) (ResV.tmp (v := .bool (true)) rfl) rfl (cN aS.s (cN aS.s.s (cN (aT aS.s.s.s) (cN aS cO)))) bL
noncomputable def p_spec_l12Make_b0 (v0 : (List (List Row))) (Q12 : (List Int) × (List (List Row)) × Int) : Option (((List Int) × (List (List Row)) × Int) ⊕ ((List Int) × (List (List Row)))) := cond (decide (Q12.2.2 < (v0.length : Int))) (gd (ix Q12.2.2 v0.length) <| cond (decide (0 < ((nth v0 Q12.2.2.toNat).length : Int))) (gd (I64 (Q12.2.2 + 1)) <| gd (room (Q12.1.length + 1)) <| gd (room (([] : List Row).length + (nth v0 Q12.2.2.toNat).length)) <| gd (room (Q12.2.1.length + 1)) <| some (.inl ((Q12.1 ++ [Q12.2.2 + 1]), (Q12.2.1 ++ [([] : List Row) ++ (nth v0 Q12.2.2.toNat)]), Q12.2.2 + 1))) (gd (I64 (Q12.2.2 + 1)) <| some (.inl (Q12.1, Q12.2.1, Q12.2.2 + 1)))) (some (.inr (Q12.1, Q12.2.1)))
noncomputable def p_spec_l12Make (v0 : (List (List Row))) : Option (Part) := bd (lp (p_spec_l12Make_b0 v0) (([] : List Int), ([] : List (List Row)), 0)) fun x8 => some x8
theorem c_spec_l12Make {r : Part} (v0 : (List (List Row))) (x_v0 : Option Addr × Nat) (H : p_spec_l12Make v0 = some r) : Fn' prog 136 #[.slice x_v0.1 v0.length x_v0.2] [imm (.slice x_v0.1 v0.length x_v0.2) v0] [] (ι := (Option Addr × Nat) × (Option Addr × Nat)) (fun x => .agg #[.slice x.1.1 r.1.length x.1.2, .slice x.2.1 r.2.length x.2.2]) (fun _ => []) (fun x => [tree (.slice x.1.1 r.1.length x.1.2) r.1, tree (.slice x.2.1 r.2.length x.2.2) r.2]) := by
 refine cof (args := [_]) func136 ntmps136 fun c => ?_
 unfold p_spec_l12Make at H
 refine bN aS fun X1 => (sr (f1 (cE ty72) fun g2 => (nl (sr (f2 (e_lit0 Int dW ty3) fun a3 c4 => (f2 (e_lit0 (List Row) dX ty63) fun a5 c6 => (aG (v := .agg #[.slice a3 (([] : List Int).length) c4, .slice a5 (([] : List (List Row)).length) c6]) (p_buildS (vs := [(0, .slice a3 (([] : List Int).length) c4), (1, .slice a5 (([] : List (List Row)).length) c6)]) (cs := #[.slice a3 (([] : List Int).length) c4, .slice a5 (([] : List (List Row)).length) c6]) ty72 pl72 rfl rfl) (f1 (cE ty72) fun g7 => (stb (cs' := [.slice a3 (([] : List Int).length) c4, .slice a5 (([] : List (List Row)).length) c6]) ty72 cZ ?_)))))))))
 refine nl (aD (sr (aH (v := .int .i64 (0)) rfl (nl (bdo H fun x8 hx9 H => (dC (ι := (Option Addr × Nat) × (Option Addr × Nat)) (fun ψ => [(2, .pointer (some ⟨g2, 0, none⟩)), (3, .pointer (some ⟨g7, 0, none⟩))]) (fun ψ => [box g2 72 [.slice none 0 0, .slice none 0 0], tree (.slice ψ.1.1 x8.1.length ψ.1.2) x8.1, tree (.slice ψ.2.1 x8.2.length ψ.2.2) x8.2, box g7 72 [.slice ψ.1.1 x8.1.length ψ.1.2, .slice ψ.2.1 x8.2.length ψ.2.2]]) ?_ ?_))))))
 ·refine aR (dF (Λ := ((Option Addr × Nat) × (Option Addr × Nat))) hx9 ((a3, c4), (a5, c6)) (fun Q12 _ => [(0, .slice x_v0.1 v0.length x_v0.2), (2, .pointer (some ⟨g2, 0, none⟩)), (3, .pointer (some ⟨g7, 0, none⟩)), (4, .int .i64 (Q12.2.2))]) (fun Q12 z13 => [box g2 72 [.slice none 0 0, .slice none 0 0], tree (.slice z13.1.1 Q12.1.length z13.1.2) Q12.1, tree (.slice z13.2.1 Q12.2.1.length z13.2.2) Q12.2.1, box g7 72 [.slice z13.1.1 Q12.1.length z13.1.2, .slice z13.2.1 Q12.2.1.length z13.2.2]]) (.cons dl3 (.cons dl2 (.cons dl1 (.cons aA .nil)))) ?_)
  rintro _ Q12 z13 t15 H1 hi16 hb17
  unfold p_spec_l12Make_b0 at H1
  refine aD (sr (aF rfl (aF rfl (aG (bT 63 dX rfl) (aG (cS rfl rfl) (nl (cH H1 rfl (fun h20 H1 => ?_) (fun h20 H1 => ?_))))))))
  ·refine bI (nT (aD (aR (sr (aF rfl (aF rfl (gdo H1 fun h21 H1 => (aI (bX dX ty63 rfl rfl h21 rfl (aM (aU aS))) (aI (cA (i := Q12.2.2.toNat) (j := 0) ty63 rfl (aM (aU aS)) h21.lt rfl) (aG (bT 57 dV rfl) ?_))))))))))
   refine aG (cW rfl rfl) (nl (cH H1 rfl (fun h22 H1 => ?_) (fun h22 H1 => ?_)))
   ·refine sr (aG (cC fa72_0 rfl rfl) (aI (bJ ty69 rfl hs3 rfl) (aF rfl (gdo H1 fun h23 H1 => (aG (bS rfl rfl h23) (f1 (e_lit (vs := [(0, .int .i64 (Q12.2.2 + 1))]) [.int .i64 (Q12.2.2 + 1)] dW ty3 rfl (by decide) (by decide) (by kernel_rfl)) fun g24 => (gdo H1 fun h27 H1 => (f2 (e_app1 (l := Q12.1) (α := Int) (Q12.2.2 + 1) () dW ty3 rfl rfl (h27.b (by decide)) h27.x rfl (cY _) (.cons dl2 (.cons aA .nil))) fun a25 c26 => (aG (cC fa72_0 rfl rfl) ?_)))))))))
    refine stb (cs' := [.slice a25 ((Q12.1 ++ [Q12.2.2 + 1]).length) c26, .slice z13.2.1 Q12.2.1.length z13.2.2]) ty69 up3 (nl (dH [(0, .slice x_v0.1 v0.length x_v0.2), (2, .pointer (some ⟨g2, 0, none⟩)), (3, .pointer (some ⟨g7, 0, none⟩)), (4, .int .i64 (Q12.2.2))] 2 [0, 1, 3, 4, 5, 6, 2, 7, 8, 9, 10, 11] [2, 7, 8, 9, 11] [] mixed (by kernel_rfl) (by decide) dJ ⟨rfl, rfl, rfl, rfl, trivial⟩ rfl okNil (w_p rfl (cC fa72_1 rfl rfl) ?_)))
    refine w_o rfl (fun F => (bJ ty70 rfl (hs3.app F) rfl)) (w_p rfl (aE rfl) (w_p rfl (aE rfl) ?_))
    refine w_o rfl (fun F => (bX dX ty63 rfl rfl h21 rfl (aM (aU aS)))) ?_
    refine w_o rfl (fun F => (cA (i := Q12.2.2.toNat) (j := 0) ty63 rfl (aM (aU aS)) h21.lt rfl)) (cK rfl (by decide) rfl cP rfl (n_lit0 Row dV ty57) ?_)
    rintro _ _ _ ⟨a28, c29, rfl, rfl, rfl⟩
    refine ⟨(bW rfl rfl (fun F => (cA (i := Q12.2.2.toNat) (j := 0) ty63 rfl (aM (aU aS)) h21.lt rfl)) (bW rfl rfl (fun F => (bX dX ty63 rfl rfl h21 rfl (aM (aU aS)))) (bW rfl rfl (fun F => (bJ ty70 rfl (hs4.app F) rfl)) bV))), ?_⟩
    refine gdo H1 fun h32 H1 => (cK rfl (by decide) rfl cP rfl (n_appF (l := ([] : List Row)) (k := nth v0 Q12.2.2.toNat) (α := Row) dV ty57 rfl rfl (h32.b (by decide)) h32.x (.cons aA .nil) (aM (aT (aX aS h21.lt)))) ?_)
    rintro _ _ _ ⟨a30, c31, rfl, rfl, rfl⟩
    refine ⟨(aN (by kernel_rfl) (aN (by kernel_rfl) (bW rfl rfl (fun F => (bJ ty70 rfl (hs4.app F) rfl)) bV))), ?_⟩
    refine cK rfl (by decide) rfl cP rfl (n_lit (vs := [(0, .slice a30 ((([] : List Row) ++ (nth v0 Q12.2.2.toNat)).length) c31)]) [.slice a30 ((([] : List Row) ++ (nth v0 Q12.2.2.toNat)).length) c31] dX ty63 rfl (by decide) (by decide) (by kernel_rfl)) ?_
    rintro _ _ _ ⟨g33, rfl, rfl, rfl⟩
    refine ⟨(aN (by kernel_rfl) (bW rfl rfl (fun F => (bX dX ty63 rfl rfl h21 rfl (aM (aU aS)))) (bW rfl rfl (fun F => (bJ ty70 rfl (hs5.app F) rfl)) bV))), ?_⟩
    refine gdo H1 fun h36 H1 => (cK rfl (by decide) rfl cP rfl (n_app1 (l := Q12.2.1) (α := (List Row)) (([] : List Row) ++ (nth v0 Q12.2.2.toNat)) (a30, c31) dX ty63 rfl rfl (h36.b (by decide)) h36.x rfl (cY _) (.cons dl4 (.cons aA (.cons aA .nil)))) ?_)
    rintro _ _ _ ⟨a34, c35, rfl, rfl, rfl⟩
    refine ⟨(aN (by kernel_rfl) (bW rfl rfl (fun F => (bX dX ty63 rfl rfl h21 rfl (aM (aU aS)))) (aN (by kernel_rfl) bV))), ?_⟩
    refine w_p rfl (cC fa72_1 rfl rfl) (cL rfl rfl cP rfl (n_store (cs' := [.slice a25 ((Q12.1 ++ [Q12.2.2 + 1]).length) c26, .slice a34 ((Q12.2.1 ++ [([] : List Row) ++ (nth v0 Q12.2.2.toNat)]).length) c35]) ty70 rfl rfl up3 rfl (one_of rfl) (Nat.le_of_ble_eq_true rfl) rfl) ?_)
    rintro _ _ _ ⟨rfl, rfl, rfl⟩
    refine ⟨(aN (by kernel_rfl) (aN (by kernel_rfl) (aN (by kernel_rfl) bV))), ?_⟩
    refine cM ?_
    show At _ _ _ _ _ _
    exact nB (nT (aQ (aF rfl (aG (bS rfl rfl h23) (aH rfl (aJ (nLI ((a25, c26), (a34, c35)) (hi16 _ (sm H1)) (.cons dl2 (.cons dl1 (.cons aA (.cons aA .nil)))))))))))
   ·exact bI (nB (nT (aQ (aF rfl (gdo H1 fun h37 H1 => (aG (bS rfl rfl h37) (aH rfl (aJ (nLI ((z13.1.1, z13.1.2), (z13.2.1, z13.2.2)) (hi16 _ (sm H1)) (.cons aA (.cons aA (.cons aA (.cons aA .nil)))))))))))))
  ·refine dB (xT (xT (xE (?_))))
   obtain rfl := hb17 _ (sm H1)
   exact nMC ((z13.1.1, z13.1.2), (z13.2.1, z13.2.2)) ⟨rfl, rfl, trivial⟩ bU (.cons aA (.cons aA (.cons aA (.cons aA .nil))))
 ·intro y14
  show At _ _ [(2, .pointer (some ⟨g2, 0, none⟩)), (3, .pointer (some ⟨g7, 0, none⟩))] _ [box g2 72 [.slice none 0 0, .slice none 0 0], tree (.slice y14.1.1 x8.1.length y14.1.2) x8.1, tree (.slice y14.2.1 x8.2.length y14.2.2) x8.2, box g7 72 [.slice y14.1.1 x8.1.length y14.1.2, .slice y14.2.1 x8.2.length y14.2.2]] _
  refine nT (sr (aI (bK ty72 rfl hs3 rfl) (stb (cs' := [.slice y14.1.1 x8.1.length y14.1.2, .slice y14.2.1 x8.2.length y14.2.2]) ty72 cZ (nl (bR ?_)))))
  obtain rfl := si H
  exact back1 y14 rfl (ResV.agg ty72 rfl aB rfl) rfl cO (.cons dl1 (.cons dl1 .nil))
noncomputable def p_spec_l13Mem_b0 (v0 : Store) (Q13 : (List (List Row)) × Int) : Option (((List (List Row)) × Int) ⊕ ((List (List Row)))) := cond (decide (Q13.2 < (v0.2.2.length : Int))) (gd (ix Q13.2 v0.2.2.length) <| gd (ix (((nth v0.2.2 Q13.2.toNat).1) - 1) Q13.1.length) <| gd (I64 (((nth v0.2.2 Q13.2.toNat).1) - 1)) <| bd (p_spec_l2Put (nth Q13.1 ((((nth v0.2.2 Q13.2.toNat).1) - 1).toNat)) ((nth v0.2.2 Q13.2.toNat).2)) fun r26 => gd (I64 (Q13.2 + 1)) <| some (.inl ((Q13.1.set ((((nth v0.2.2 Q13.2.toNat).1) - 1).toNat) r26), Q13.2 + 1))) (some (.inr Q13.1))
noncomputable def p_spec_l13Mem (v0 : Store) : Option (Part) := gd (many 6) <| bd (lp (p_spec_l13Mem_b0 v0) ((List.replicate (6 : Int).toNat (Zr.z0 : (List Row))), 0)) fun x9 => bd (p_spec_l12Make x9) fun r30 => some r30
theorem c_spec_l13Mem {r : Part} (v0 : Store) (x_v0 : ((Option Addr × Nat) × (Option Addr × Nat)) × (Option Addr × Nat) × (Option Addr × Nat)) (H : p_spec_l13Mem v0 = some r) : Fn' prog 142 #[.agg #[.slice x_v0.1.1.1 v0.1.1.length x_v0.1.1.2, .slice x_v0.1.2.1 v0.1.2.length x_v0.1.2.2, .slice x_v0.2.1.1 v0.2.1.length x_v0.2.1.2, .slice x_v0.2.2.1 v0.2.2.length x_v0.2.2.2]] [imm (.slice x_v0.1.1.1 v0.1.1.length x_v0.1.1.2) v0.1.1, imm (.slice x_v0.1.2.1 v0.1.2.length x_v0.1.2.2) v0.1.2, imm (.slice x_v0.2.1.1 v0.2.1.length x_v0.2.1.2) v0.2.1, imm (.slice x_v0.2.2.1 v0.2.2.length x_v0.2.2.2) v0.2.2] [] (ι := (Option Addr × Nat) × (Option Addr × Nat)) (fun x => .agg #[.slice x.1.1 r.1.length x.1.2, .slice x.2.1 r.2.length x.2.2]) (fun _ => []) (fun x => [tree (.slice x.1.1 r.1.length x.1.2) r.1, tree (.slice x.2.1 r.2.length x.2.2) r.2]) := by
 refine cof (args := [_]) func142 ntmps142 fun c => ?_
 unfold p_spec_l13Mem at H
 refine bN aS fun X1 => (bN aS.s.s fun X2 => (bN aS.s.s.s.s fun X3 => (sr (f1 (cD (t := 42) rfl) fun g4 => (f1 (cE ty72) fun g5 => (nl (sr (gdo H fun h8 H => (f2 (e_makeR (List Row) dX ty63 rfl rfl rfl h8 (by decide)) fun a6 c7 => ?_)))))))))
 refine aH rfl (nl (aD (sr (aH (v := .int .i64 (0)) rfl (nl (bdo H fun x9 hx10 H => (dC (ι := Unit) (fun ψ => [(2, .pointer (some ⟨g5, 0, none⟩)), (3, .slice a6 x9.length c7)]) (fun ψ => [box g5 72 [.slice none 0 0, .slice none 0 0], tree (.slice a6 x9.length c7) x9]) ?_ ?_)))))))
 ·refine aR (dF hx10 () (fun Q13 _ => [(1, .pointer (some ⟨g4, 0, none⟩)), (2, .pointer (some ⟨g5, 0, none⟩)), (3, .slice a6 Q13.1.length c7), (4, .int .i64 (Q13.2))]) (fun Q13 _ => [box g4 42 [.slice x_v0.1.1.1 v0.1.1.length x_v0.1.1.2, .slice x_v0.1.2.1 v0.1.2.length x_v0.1.2.2, .slice x_v0.2.1.1 v0.2.1.length x_v0.2.1.2, .slice x_v0.2.2.1 v0.2.2.length x_v0.2.2.2], box g5 72 [.slice none 0 0, .slice none 0 0], tree (.slice a6 Q13.1.length c7) Q13.1]) (.cons dl2 (.cons dl1 (.cons aA .nil))) ?_)
  rintro _ Q13 z14 t16 H1 hi17 hb18
  unfold p_spec_l13Mem_b0 at H1
  refine aD (sr (aF rfl (aG (cC fa42_2 rfl rfl) (aI (bJ ty40 rfl aB rfl) (aG (bT 59 dR rfl) (aG (cS rfl rfl) (nl (cH H1 rfl (fun h21 H1 => ?_) (fun h21 H1 => ?_)))))))))
  ·refine bI (nT (aD (aR (sr (aG (cC fa42_2 rfl rfl) (aI (bJ ty40 rfl aB rfl) (aF rfl (gdo H1 fun h22 H1 => (aI (bX dR ty59 rfl rfl h22 rfl (aO (aM aS.s.s.s.s.s.s))) (aI (bZ (j := 0) Q13.2.toNat fa59_0 rfl (aO (aM aS.s.s.s.s.s.s)) h22.lt rfl) ?_))))))))))
   refine aI (cA (i := Q13.2.toNat) (j := 0) ty3 rfl (aO (aM aS.s.s.s.s.s.s)) h22.lt rfl) (aH rfl (nl (gdo H1 fun h23 H1 => (Tr.zoom (k := (((nth v0.2.2 Q13.2.toNat).1) - 1).toNat) h23.lt (.cons dl2 .nil) fun x24 => ?_))))
   show Tr _ _ _ _ _ _ _ (hole (.slice a6 Q13.1.length c7) Q13.1 ((((nth v0.2.2 Q13.2.toNat).1) - 1).toNat) [.slice x24.1 ((nth Q13.1 ((((nth v0.2.2 Q13.2.toNat).1) - 1).toNat)).length) x24.2] :: tree (.slice x24.1 ((nth Q13.1 ((((nth v0.2.2 Q13.2.toNat).1) - 1).toNat)).length) x24.2) (nth Q13.1 ((((nth v0.2.2 Q13.2.toNat).1) - 1).toNat)) :: _)
   refine dH [(5, .int .i64 ((nth v0.2.2 Q13.2.toNat).1)), (1, .pointer (some ⟨g4, 0, none⟩)), (2, .pointer (some ⟨g5, 0, none⟩)), (3, .slice a6 Q13.1.length c7), (4, .int .i64 (Q13.2))] 1 [0, 1, 2, 3, 4, 5, 6, 7, 8, 9, 10, 11, 12, 13, 14, 15, 16] [14, 16] [] mixed (by kernel_rfl) (by decide) dJ ⟨rfl, rfl, rfl, rfl, rfl, trivial⟩ rfl okNil (w_p rfl (aE rfl) (w_p rfl (aE rfl) (gdo H1 fun h25 H1 => (w_p rfl (cT rfl rfl h25) (w_p rfl (aE rfl) (w_p rfl (aE rfl) (w_p rfl (cT rfl rfl h25) ?_)))))))
   refine w_o (v := elp a6 (((((nth v0.2.2 Q13.2.toNat).1) - 1).toNat) * Enc.sz (List Row) + 0)) rfl (fun F => (q_ixH (k := (((nth v0.2.2 Q13.2.toNat).1) - 1).toNat) dX ty63 rfl rfl h23 rfl (aB.app F))) ?_
   refine w_o (v := .slice x24.1 ((nth Q13.1 ((((nth v0.2.2 Q13.2.toNat).1) - 1).toNat)).length) x24.2) rfl (fun F => (q_ldH (i := (((nth v0.2.2 Q13.2.toNat).1) - 1).toNat) (j := 0) ty63 rfl (aB.app F) rfl)) (w_p rfl (cC fa42_2 rfl rfl) ?_)
   refine w_o rfl (fun F => (bJ ty40 rfl (hs2.app F) rfl)) (w_p rfl (aE rfl) ?_)
   refine w_o rfl (fun F => (bX dR ty59 rfl rfl h22 rfl (aO (aM aS.s.s.s.s.s.s)))) ?_
   refine w_o rfl (fun F => (bZ (j := 0) Q13.2.toNat fa59_1 rfl (aO (aM aS.s.s.s.s.s.s)) h22.lt rfl)) ?_
   refine w_o (v := .agg #[.int .i64 (((nth v0.2.2 Q13.2.toNat).2).1), .int .i64 (((nth v0.2.2 Q13.2.toNat).2).2)]) rfl (fun F => (q_ldeP [.int .i64 (((nth v0.2.2 Q13.2.toNat).2).1), .int .i64 (((nth v0.2.2 Q13.2.toNat).2).2)] (l := v0.2.2) (E := fun i => Flat.enc (nth v0.2.2 i)) (oa := x_v0.2.2.1) (i := Q13.2.toNat) (j := 1) ty57 rfl (aO (aM aS.s.s.s.s.s.s)) h22.lt rfl rfl)) (bdo H1 fun r26 h27 H1 => (cK rfl (by decide) rfl cP rfl (cF (c_spec_l2Put (nth Q13.1 ((((nth v0.2.2 Q13.2.toNat).1) - 1).toNat)) x24 ((nth v0.2.2 Q13.2.toNat).2) h27) (fun _ => (bG bH)) rfl (aC (bM hs1) aP)) ?_))
   rintro _ _ _ ⟨x28, rfl, rfl, rfl⟩
   refine ⟨(aN (by kernel_rfl) (bW rfl rfl (fun F => (bZ (j := 0) Q13.2.toNat fa59_1 rfl (aO (aM aS.s.s.s.s.s.s)) h22.lt rfl)) (bW rfl rfl (fun F => (bX dR ty59 rfl rfl h22 rfl (aO (aM aS.s.s.s.s.s.s)))) (bW rfl rfl (fun F => (bJ ty40 rfl (hs3.app F) rfl)) (aN (by kernel_rfl) (bW rfl rfl (fun F => (q_ixH (k := (((nth v0.2.2 Q13.2.toNat).1) - 1).toNat) dX ty63 rfl rfl h23 rfl (hs1.app F))) bV)))))), ?_⟩
   refine w_o (v := elp a6 (((((nth v0.2.2 Q13.2.toNat).1) - 1).toNat) * Enc.sz (List Row) + 0)) rfl (fun F => (q_ixH (k := (((nth v0.2.2 Q13.2.toNat).1) - 1).toNat) dX ty63 rfl rfl h23 rfl (hs1.app F))) (cL rfl rfl cP rfl (n_stH (v := .slice x28.1 r26.length x28.2) (i := (((nth v0.2.2 Q13.2.toNat).1) - 1).toNat) (j := 0) (cs' := [.slice x28.1 r26.length x28.2]) ty63 rfl rfl (.cons dl1 .nil) rfl (one_of rfl) (Nat.le_of_ble_eq_true rfl) rfl rfl) ?_)
   rintro _ _ _ ⟨rfl, rfl, rfl⟩
   refine ⟨(aN (by kernel_rfl) (aN (by kernel_rfl) (aN (by kernel_rfl) (aN (by kernel_rfl) (aN (by kernel_rfl) (aN (by kernel_rfl) (aN (by kernel_rfl) bV))))))), ?_⟩
   refine cM ?_
   show At _ _ _ _ _ _
   refine nB (nT (aQ (aF rfl (gdo H1 fun h29 H1 => (aG (bS rfl rfl h29) (aH rfl (aJ (At.unzoom r26 x28 rfl (.cons aA (.cons aA .nil)) ?_))))))))
   refine At.olen aB fun hn => ?_; rw [hn]
   exact nLI () (hi17 _ (sm H1)) (.cons dl2 (.cons dl2 (.cons aA .nil)))
  ·refine dB (xT (xT (xE (?_))))
   obtain rfl := hb18 _ (sm H1)
   exact nMC () ⟨rfl, rfl, trivial⟩ bU (.cons dl1 (.cons dl1 .nil))
 ·intro y15
  show At _ _ [(2, .pointer (some ⟨g5, 0, none⟩)), (3, .slice a6 x9.length c7)] _ [box g5 72 [.slice none 0 0, .slice none 0 0], tree (.slice a6 x9.length c7) x9] _
  refine nT (sr (aF rfl (bdo H fun r30 h31 H => (f1 (cG (c_spec_l12Make x9 (a6, c7) h31) (fun _ => (bG (bG bH))) rfl (aC (bM hs1) aP)) fun x32 => (stb (cs' := [.slice x32.1.1 r30.1.length x32.1.2, .slice x32.2.1 r30.2.length x32.2.2]) ty72 up2 (nl (bR ?_)))))))
  obtain rfl := si H
  exact back1 x32 rfl (ResV.agg ty72 rfl hs2 rfl) rfl cO (.cons aA (.cons aA .nil))
noncomputable def p_spec_l13Flush (v0 : Store) : Option (Store × Bool) := bd (cond (decide ((v0.2.2.length : Int) = 0)) (some (true)) (some (decide (6 ≤ (v0.2.1.length : Int))))) fun b6 => cond (b6) (some (v0, false)) (gd (room (([] : List Part).length + v0.2.1.length)) <| bd (p_spec_l13Mem v0) fun r15 => gd (room ((([] : List Part) ++ v0.2.1).length + 1)) <| some ((v0.1, ((([] : List Part) ++ v0.2.1) ++ [r15]), ([] : List Sample)), true))
theorem c_spec_l13Flush {r : Store × Bool} (v0 : Store) (x_v0 : ((Option Addr × Nat) × (Option Addr × Nat)) × (Option Addr × Nat) × (Option Addr × Nat)) (H : p_spec_l13Flush v0 = some r) : Fn' prog 88 #[.agg #[.slice x_v0.1.1.1 v0.1.1.length x_v0.1.1.2, .slice x_v0.1.2.1 v0.1.2.length x_v0.1.2.2, .slice x_v0.2.1.1 v0.2.1.length x_v0.2.1.2, .slice x_v0.2.2.1 v0.2.2.length x_v0.2.2.2]] [imm (.slice x_v0.1.1.1 v0.1.1.length x_v0.1.1.2) v0.1.1, imm (.slice x_v0.1.2.1 v0.1.2.length x_v0.1.2.2) v0.1.2, imm (.slice x_v0.2.1.1 v0.2.1.length x_v0.2.1.2) v0.2.1, imm (.slice x_v0.2.2.1 v0.2.2.length x_v0.2.2.2) v0.2.2] [] (ι := (((Option Addr × Nat) × (Option Addr × Nat)) × (Option Addr × Nat) × (Option Addr × Nat)) × Unit) (fun x => .tuple #[.agg #[.slice x.1.1.1.1 r.1.1.1.length x.1.1.1.2, .slice x.1.1.2.1 r.1.1.2.length x.1.1.2.2, .slice x.1.2.1.1 r.1.2.1.length x.1.2.1.2, .slice x.1.2.2.1 r.1.2.2.length x.1.2.2.2], .bool (r.2)]) (fun x => [imm (.slice x.1.1.1.1 r.1.1.1.length x.1.1.1.2) r.1.1.1, imm (.slice x.1.1.2.1 r.1.1.2.length x.1.1.2.2) r.1.1.2, imm (.slice x.1.2.1.1 r.1.2.1.length x.1.2.1.2) r.1.2.1, imm (.slice x.1.2.2.1 r.1.2.2.length x.1.2.2.2) r.1.2.2]) (fun _ => []) := by
 refine cof (args := [_]) func88 ntmps88 fun c => ?_
 unfold p_spec_l13Flush at H
 refine bN aS fun X1 => (bN aS.s.s fun X2 => (bN aS.s.s.s.s fun X3 => (sr (f1 (cD (t := 42) rfl) fun g4 => (f1 (cE ty42) fun g5 => (aH (v := .bool (false)) rfl (nl (aD (bdo H fun b6 j7 H => (dE [(13, .bool (b6)), (2, .pointer (some ⟨g5, 0, none⟩)), (1, .pointer (some ⟨g4, 0, none⟩))] ?_ ?_))))))))))
 ·refine dI [(2, .pointer (some ⟨g5, 0, none⟩)), (1, .pointer (some ⟨g4, 0, none⟩))] ⟨rfl, rfl, trivial⟩ (aY (cC fa42_2 rfl rfl) (bA (bJ ty40 rfl hs1 rfl) (aY (bT 59 dR rfl) (aY (cV rfl rfl) ?_))))
  rcases aL (decide ((v0.2.2.length : Int) = 0)) with h8 | h8
  ·have j7 := cdT h8 j7
   refine bD (aE rfl) h8 ?_
   iterate 4 refine bF rfl ?_
   refine aY (v := .bool (true)) (bQ rfl rfl) ?_
   obtain rfl := si j7
   show At _ _ _ _ _ _
   exact n1 ⟨rfl, rfl, rfl, trivial⟩
  ·have j7 := cdF h8 j7
   refine bD (aE rfl) h8 (aZ rfl (cC fa42_1 rfl rfl) (bB rfl (bJ ty39 rfl hs1 rfl) (aZ rfl (bT 72 dQ rfl) (aZ rfl (p_geq rfl rfl) (aY (bP rfl rfl) ?_)))))
   obtain rfl := si j7
   show At _ _ _ _ _ _
   exact n1 ⟨rfl, rfl, rfl, trivial⟩
 refine cH H rfl (fun h9 H => ?_) (fun h9 H => ?_)
 ·refine sr (aI (bK ty42 rfl hs1 rfl) (stb (cs' := [.slice x_v0.1.1.1 v0.1.1.length x_v0.1.1.2, .slice x_v0.1.2.1 v0.1.2.length x_v0.1.2.2, .slice x_v0.2.1.1 v0.2.1.length x_v0.2.1.2, .slice x_v0.2.2.1 v0.2.2.length x_v0.2.2.2]) ty42 cZ (aH (v := .bool (false)) rfl (nl (bR (rT (?_)))))))
  obtain rfl := si H
  exact back2 (x_v0, ()) rfl (ResV.agg ty42 rfl aB rfl) (ResV.tmp (v := .bool (false)) rfl) rfl (cN (aT aS.s.s) (cN (aT aS.s) (cN (aT aS) (cN aS.s.s.s.s.s.s cO)))) bL
 ·refine bI (nT (aD (dH [(2, .pointer (some ⟨g5, 0, none⟩)), (1, .pointer (some ⟨g4, 0, none⟩))] 3 [1, 2, 4, 0, 3, 5, 6, 7, 8, 9] [0, 3, 5, 6, 7, 9] [] mixed (by kernel_rfl) (by decide) dJ ⟨rfl, rfl, trivial⟩ rfl okNil (w_p rfl (cC fa42_1 rfl rfl) ?_))))
  refine w_o rfl (fun F => (bJ ty39 rfl (hs1.app F) rfl)) ?_
  refine w_o rfl (fun F => (bK ty42 rfl (hs1.app F) rfl)) (cK rfl (by decide) rfl cP rfl (n_lit0r Part dQ ty72) ?_)
  rintro _ _ _ ⟨a10, c11, rfl, rfl, rfl⟩
  refine ⟨(bW rfl rfl (fun F => (bK ty42 rfl (hs2.app F) rfl)) (bW rfl rfl (fun F => (bJ ty39 rfl (hs2.app F) rfl)) bV)), ?_⟩
  refine gdo H fun h14 H => (cK rfl (by decide) rfl cP rfl (n_appR (l := ([] : List Part)) (k := v0.2.1) (α := Part) dQ ty72 rfl rfl (h14.b (by decide)) h14.x (.cons aA .nil) (aT aS)) ?_)
  rintro _ _ _ ⟨a12, c13, rfl, rfl, rfl⟩
  refine ⟨(bW rfl rfl (fun F => (bK ty42 rfl (hs2.app F) rfl)) (aN (by kernel_rfl) bV)), ?_⟩
  refine bdo H fun r15 h16 H => (cK rfl (by decide) rfl cP rfl (cF (c_spec_l13Mem v0 x_v0 h16) (fun _ => (bG (bG bH))) rfl (aC (aM (aT aS.s.s)) (aC (aM (aT aS.s)) (aC (aM (aT aS)) (aC (aM aS.s.s.s.s.s.s) aP))))) ?_)
  rintro _ _ _ ⟨x17, rfl, rfl, rfl⟩
  refine ⟨(aN (by kernel_rfl) (aN (by kernel_rfl) bV)), ?_⟩
  refine cK rfl (by decide) rfl cP rfl (n_lit (vs := [(0, .agg #[.slice x17.1.1 r15.1.length x17.1.2, .slice x17.2.1 r15.2.length x17.2.2])]) [.slice x17.1.1 r15.1.length x17.1.2, .slice x17.2.1 r15.2.length x17.2.2] dQ ty72 rfl (by decide) (by decide) (by kernel_rfl)) ?_
  rintro _ _ _ ⟨g18, rfl, rfl, rfl⟩
  refine ⟨(aN (by kernel_rfl) (aN (by kernel_rfl) bV)), ?_⟩
  refine gdo H fun h21 H => (cK rfl (by decide) rfl cP rfl (n_app1RO (l := (([] : List Part) ++ v0.2.1)) (α := Part) r15 x17 dQ ty72 rfl rfl (h21.b (by decide)) h21.x rfl (.cons dl3 (.cons aA (.cons aA (.cons aA .nil))))) ?_)
  rintro _ _ _ ⟨a19, c20, rfl, rfl, rfl⟩
  refine ⟨(aN (by kernel_rfl) (aN (by kernel_rfl) bV)), ?_⟩
  refine w_p rfl (cC fa42_1 rfl rfl) (cL rfl rfl cP rfl (n_store (cs' := [.slice x_v0.1.1.1 v0.1.1.length x_v0.1.1.2, .slice x_v0.1.2.1 v0.1.2.length x_v0.1.2.2, .slice a19 (((([] : List Part) ++ v0.2.1) ++ [r15]).length) c20, .slice x_v0.2.2.1 v0.2.2.length x_v0.2.2.2]) ty39 rfl rfl up2 rfl (one_of rfl) (Nat.le_of_ble_eq_true rfl) rfl) ?_)
  rintro _ _ _ ⟨rfl, rfl, rfl⟩
  refine ⟨(aN (by kernel_rfl) (aN (by kernel_rfl) bV)), ?_⟩
  refine cM (nT (sr (f2 (e_lit0 Sample dR ty59) fun a22 c23 => (aG (cC fa42_2 rfl rfl) (stb (cs' := [.slice x_v0.1.1.1 v0.1.1.length x_v0.1.1.2, .slice x_v0.1.2.1 v0.1.2.length x_v0.1.2.2, .slice a19 (((([] : List Part) ++ v0.2.1) ++ [r15]).length) c20, .slice a22 (([] : List Sample).length) c23]) ty40 up3 (nl (sr (aI (bK ty42 rfl hs3 rfl) (stb (cs' := [.slice x_v0.1.1.1 v0.1.1.length x_v0.1.1.2, .slice x_v0.1.2.1 v0.1.2.length x_v0.1.2.2, .slice a19 (((([] : List Part) ++ v0.2.1) ++ [r15]).length) c20, .slice a22 (([] : List Sample).length) c23]) ty42 up2 ?_)))))))))
  refine aH (v := .bool (true)) rfl (nl (Tr.freezeR (.cons dl1 .nil) (Tr.freeze (.cons aA .nil) (bR ?_))))
  obtain rfl := si H
  exact back2 ((x_v0.1, (a19, c20), (a22, c23)), ()) rfl (ResV.agg ty42 rfl aB rfl) (ResV.tmp (v := .bool (true)) rfl) rfl (cN (aT aS.s.s.s.s) (cN (aT aS.s.s.s) (cN aS.s (cN aS cO)))) bL
noncomputable def p_spec_l21Flush (v0 : Disk) (v1 : Store) : Option ((List Step)) := bd (cond (decide ((v1.2.2.length : Int) = 0)) (some (true)) (cond (decide (6 ≤ (v0.2.1.length : Int))) (some (true)) (cond (decide (999 ≤ v0.2.2.2)) (some (true)) (some (decide (20 ≤ (v0.1.length : Int))))))) fun b8 => cond (b8) (some ([] : List Step)) (gd (room (([] : List Int).length + v0.2.1.length)) <| gd (room ((([] : List Int) ++ v0.2.1).length + 1)) <| bd (p_spec_l13Mem v1) fun r24 => bd (p_spec_l11Names v1.1.1) fun r27 => some ([(1, v0.2.2.2, r24, ([]), ([])), (2, 0, (([]), ([])), ((([] : List Int) ++ v0.2.1) ++ [v0.2.2.2]), r27)] : List Step))
theorem c_spec_l21Flush {r : (List Step)} (v0 : Disk) (x_v0 : (Option Addr × Nat) × (Option Addr × Nat) × (Option Addr × Nat) × Unit) (v1 : Store) (x_v1 : ((Option Addr × Nat) × (Option Addr × Nat)) × (Option Addr × Nat) × (Option Addr × Nat)) (H : p_spec_l21Flush v0 v1 = some r) : Fn' prog 196 #[.agg #[.slice x_v0.1.1 v0.1.length x_v0.1.2, .slice x_v0.2.1.1 v0.2.1.length x_v0.2.1.2, .slice x_v0.2.2.1.1 v0.2.2.1.length x_v0.2.2.1.2, .int .i64 (v0.2.2.2)], .agg #[.slice x_v1.1.1.1 v1.1.1.length x_v1.1.1.2, .slice x_v1.1.2.1 v1.1.2.length x_v1.1.2.2, .slice x_v1.2.1.1 v1.2.1.length x_v1.2.1.2, .slice x_v1.2.2.1 v1.2.2.length x_v1.2.2.2]] [imm (.slice x_v0.1.1 v0.1.length x_v0.1.2) v0.1, imm (.slice x_v0.2.1.1 v0.2.1.length x_v0.2.1.2) v0.2.1, imm (.slice x_v0.2.2.1.1 v0.2.2.1.length x_v0.2.2.1.2) v0.2.2.1, imm (.slice x_v1.1.1.1 v1.1.1.length x_v1.1.1.2) v1.1.1, imm (.slice x_v1.1.2.1 v1.1.2.length x_v1.1.2.2) v1.1.2, imm (.slice x_v1.2.1.1 v1.2.1.length x_v1.2.1.2) v1.2.1, imm (.slice x_v1.2.2.1 v1.2.2.length x_v1.2.2.2) v1.2.2] [] (ι := Option Addr × Nat) (fun x => .slice x.1 r.length x.2) (fun x => [imm (.slice x.1 r.length x.2) r]) (fun _ => []) := by
 refine cof (args := [_, _]) func196 ntmps196 fun c => ?_
 unfold p_spec_l21Flush at H
 refine bN aS fun X1 => (bN aS.s.s.s fun X2 => (bN aS.s.s.s.s.s fun X3 => (bN aS.s.s.s.s.s.s.s fun X4 => (bN aS.s.s.s.s.s.s.s.s.s fun X5 => (sr (f1 (cD (t := 76) rfl) fun g6 => (f1 (cD (t := 42) rfl) fun g7 => (aH (v := .slice none 0 0) rfl (nl (aD ?_))))))))))
 refine bdo H fun b8 j9 H => (dE [(26, .bool (b8)), (3, .pointer (some ⟨g7, 0, none⟩)), (2, .pointer (some ⟨g6, 0, none⟩))] ?_ ?_)
 ·refine dI [(3, .pointer (some ⟨g7, 0, none⟩)), (2, .pointer (some ⟨g6, 0, none⟩))] ⟨rfl, rfl, trivial⟩ (aY (cC fa42_2 rfl rfl) (bA (bJ ty40 rfl aB rfl) (aY (bT 59 dR rfl) (aY (cV rfl rfl) ?_))))
  rcases aL (decide ((v1.2.2.length : Int) = 0)) with h10 | h10
  ·have j9 := cdT h10 j9
   refine bD (aE rfl) h10 ?_
   iterate 4 refine bF rfl ?_
   refine aY (v := .bool (true)) (bQ rfl rfl) (bC (v := .bool (true)) rfl ?_)
   iterate 3 refine bF rfl ?_
   refine aY (v := .bool (true)) (bQ rfl rfl) (bC (v := .bool (true)) rfl ?_)
   iterate 4 refine bF rfl ?_
   refine aY (v := .bool (true)) (bQ rfl rfl) ?_
   obtain rfl := si j9
   show At _ _ _ _ _ _
   exact n1 ⟨rfl, rfl, rfl, trivial⟩
  ·have j9 := cdF h10 j9
   refine bD (aE rfl) h10 (aZ rfl (cC fa76_1 rfl rfl) (bB rfl (bJ ty69 rfl hs1 rfl) (aZ rfl (bT 3 dW rfl) (aZ rfl (p_geq rfl rfl) (aY (bP rfl rfl) ?_)))))
   rcases aL (decide (6 ≤ (v0.2.1.length : Int))) with h11 | h11
   ·have j9 := cdT h11 j9
    refine bD (aE rfl) h11 ?_
    iterate 3 refine bF rfl ?_
    refine aY (v := .bool (true)) (bQ rfl rfl) (bC (v := .bool (true)) rfl ?_)
    iterate 4 refine bF rfl ?_
    refine aY (v := .bool (true)) (bQ rfl rfl) ?_
    obtain rfl := si j9
    show At _ _ _ _ _ _
    exact n1 ⟨rfl, rfl, rfl, trivial⟩
   ·have j9 := cdF h11 j9
    refine bD (aE rfl) h11 (aZ rfl (cC fa76_3 rfl rfl) (bB rfl (bJ ty3 rfl hs1 rfl) (aZ rfl (p_geq rfl rfl) (aY (bP rfl rfl) ?_))))
    rcases aL (decide (999 ≤ v0.2.2.2)) with h12 | h12
    ·have j9 := cdT h12 j9
     refine bD (aE rfl) h12 ?_
     iterate 4 refine bF rfl ?_
     refine aY (v := .bool (true)) (bQ rfl rfl) ?_
     obtain rfl := si j9
     show At _ _ _ _ _ _
     exact n1 ⟨rfl, rfl, rfl, trivial⟩
    ·have j9 := cdF h12 j9
     refine bD (aE rfl) h12 (aZ rfl (cC fa76_0 rfl rfl) (bB rfl (bJ ty74 rfl hs1 rfl) (aZ rfl (bT 80 dY rfl) (aZ rfl (p_geq rfl rfl) (aY (bP rfl rfl) ?_)))))
     obtain rfl := si j9
     show At _ _ _ _ _ _
     exact n1 ⟨rfl, rfl, rfl, trivial⟩
 refine cH H rfl (fun h13 H => ?_) (fun h13 H => ?_)
 ·refine sr (f2 (e_lit0 Step dM ty260) fun a14 c15 => (aH rfl (nl (Tr.freeze (.cons aA .nil) (bR (rT (?_)))))))
  obtain rfl := si H
  exact back1 (a14, c15) rfl (ResV.tmp (v := .slice a14 (([] : List Step).length) c15) rfl) rfl (cN aS cO) bL
 ·refine bI (nT (aD (dH [(3, .pointer (some ⟨g7, 0, none⟩)), (2, .pointer (some ⟨g6, 0, none⟩))] 2 [1, 2, 4, 5, 0, 3, 6, 7, 8] [3, 7] [⟨0, [], fun g => .slice (some ⟨g, 0, none⟩) ([] : List Int).length 0, fun g => tree (.slice (some ⟨g, 0, none⟩) ([] : List Int).length 0) ([] : List Int)⟩, ⟨6, [(33, .int .i64 (v0.2.2.2))], fun g => .slice (some ⟨g, 0, none⟩) 1 1, fun g => box g 3 [.int .i64 (v0.2.2.2)]⟩] mixed (by kernel_rfl) (by decide) (show List.Nodup [0, 6] by decide) ⟨rfl, rfl, trivial⟩ rfl (okCons (FreeA.Ok.of rfl (by decide) (by kernel_rfl) fun c fs os => g_lit0 Int dW ty3) (okCons (FreeA.Ok.of rfl (by decide) (by kernel_rfl) fun c fs os => e_lit (vs := [(0, .int .i64 (v0.2.2.2))]) [.int .i64 (v0.2.2.2)] dW ty3 rfl (by decide) (by decide) (by kernel_rfl)) okNil)) (w_p rfl (cC fa76_1 rfl rfl) ?_))))
  refine w_o rfl (fun F => (bJ ty69 rfl (hs1.app F) rfl)) (w_p rfl (cC fa76_3 rfl rfl) ?_)
  refine w_o rfl (fun F => (bJ ty3 rfl (hs1.app F) rfl)) ?_
  refine w_fr (z := ⟨0, [], fun g => .slice (some ⟨g, 0, none⟩) ([] : List Int).length 0, fun g => tree (.slice (some ⟨g, 0, none⟩) ([] : List Int).length 0) ([] : List Int)⟩) (.head _) rfl rfl (by decide) (cQ (.inl rfl) (cQ (.inr (.inr ⟨rfl, trivial⟩)) cP)) trivial ?_; intro g16
  refine gdo H fun h19 H => (cK rfl (by decide) rfl (cQ (.inl rfl) (cQ (.inr (.inr ⟨rfl, trivial⟩)) cP)) rfl (n_appF (l := ([] : List Int)) (k := v0.2.1) (α := Int) dW ty3 rfl rfl (h19.b (by decide)) h19.x (.cons aA .nil) (aM aS.s.s.s.s.s.s)) ?_)
  rintro _ _ _ ⟨a17, c18, rfl, rfl, rfl⟩
  refine ⟨(bW rfl rfl (fun F => (bJ ty3 rfl (hs2.app F) rfl)) (aN (by kernel_rfl) bV)), ?_⟩
  refine w_fr (z := ⟨6, [(33, .int .i64 (v0.2.2.2))], fun g => .slice (some ⟨g, 0, none⟩) 1 1, fun g => box g 3 [.int .i64 (v0.2.2.2)]⟩) (.tail _ (.head _)) rfl rfl (by decide) (cQ (.inl rfl) (cQ (.inl rfl) cP)) ⟨rfl, trivial⟩ ?_; intro g20
  refine gdo H fun h23 H => (cK rfl (by decide) rfl (cQ (.inl rfl) (cQ (.inl rfl) cP)) rfl (n_app1 (l := (([] : List Int) ++ v0.2.1)) (α := Int) v0.2.2.2 () dW ty3 rfl rfl (h23.b (by decide)) h23.x rfl (cY _) (.cons dl1 (.cons aA .nil))) ?_)
  rintro _ _ _ ⟨a21, c22, rfl, rfl, rfl⟩
  refine ⟨(aN (by kernel_rfl) (aN (by kernel_rfl) bV)), ?_⟩
  refine w_p rfl (p_assign rfl) (cM (nT (aD (Tr.nilT Int (Tr.nilT (List Tag) (Tr.nilT Int (Tr.nilT (List Row) (dH [(5, .slice a21 (((([] : List Int) ++ v0.2.1) ++ [v0.2.2.2]).length) c22), (3, .pointer (some ⟨g7, 0, none⟩)), (2, .pointer (some ⟨g6, 0, none⟩))] 2 [0, 1, 2, 5, 6, 7, 8, 3, 4, 9, 10, 11, 12] [3, 9, 11] [] mixed (by kernel_rfl) (by decide) dJ ⟨rfl, rfl, rfl, trivial⟩ rfl okNil (w_p rfl (cC fa76_3 rfl rfl) ?_)))))))))
  refine w_o rfl (fun F => (bJ ty3 rfl ((hs5t hs1).app F) rfl)) ?_
  refine w_o rfl (fun F => (bK ty42 rfl (hs5.app F) rfl)) (w_p rfl (aE rfl) (w_p rfl (cC fa42_0 rfl rfl) (w_p rfl (cC fa38_0 rfl rfl) ?_)))
  refine w_o rfl (fun F => (bJ ty35 rfl (hs5.app F) rfl)) (bdo H fun r24 h25 H => (cK rfl (by decide) rfl cP rfl (cF (c_spec_l13Mem v1 x_v1 h25) (fun _ => (bG (bG bH))) rfl (aC (aM (aT aS.s.s)) (aC (aM (aT aS.s)) (aC (aM (aT aS)) (aC (aM aS.s.s.s.s.s.s.s.s.s.s.s) aP))))) ?_))
  rintro _ _ _ ⟨x26, rfl, rfl, rfl⟩
  refine ⟨(bW rfl rfl (fun F => (bJ ty35 rfl ((hs5t hs2).app F) rfl)) (aN (by kernel_rfl) (bW rfl rfl (fun F => (bJ ty3 rfl ((hs5t hs3).app F) rfl)) bV))), ?_⟩
  refine w_p (v := .agg #[.int .i64 (1), .int .i64 (v0.2.2.2), .slice x26.1.1 r24.1.length x26.1.2, .slice x26.2.1 r24.2.length x26.2.2, .slice none 0 0, .slice none 0 0]) rfl (p_buildS (vs := [(0, .int .i64 (1)), (1, .int .i64 (v0.2.2.2)), (2, .agg #[.slice x26.1.1 r24.1.length x26.1.2, .slice x26.2.1 r24.2.length x26.2.2])]) (cs := #[.int .i64 (1), .int .i64 (v0.2.2.2), .slice x26.1.1 r24.1.length x26.1.2, .slice x26.2.1 r24.2.length x26.2.2, .slice none 0 0, .slice none 0 0]) ty260 pl260 rfl (by kernel_rfl)) (bdo H fun r27 h28 H => (cK rfl (by decide) rfl cP rfl (cF (c_spec_l11Names v1.1.1 x_v1.1.1 h28) (fun _ => (bG bH)) rfl (aC (aM (aT aS.s.s)) aP)) ?_))
  rintro _ _ _ ⟨x29, rfl, rfl, rfl⟩
  refine ⟨(aN (by kernel_rfl) (aN (by kernel_rfl) (bW rfl rfl (fun F => (bJ ty3 rfl ((hs5t hs4).app F) rfl)) bV))), ?_⟩
  refine w_p (v := .agg #[.int .i64 (2), .int .i64 (0), .slice none 0 0, .slice none 0 0, .slice a21 (((([] : List Int) ++ v0.2.1) ++ [v0.2.2.2]).length) c22, .slice x29.1 r27.length x29.2]) rfl (p_buildS (vs := [(0, .int .i64 (2)), (3, .slice a21 (((([] : List Int) ++ v0.2.1) ++ [v0.2.2.2]).length) c22), (4, .slice x29.1 r27.length x29.2)]) (cs := #[.int .i64 (2), .int .i64 (0), .slice none 0 0, .slice none 0 0, .slice a21 (((([] : List Int) ++ v0.2.1) ++ [v0.2.2.2]).length) c22, .slice x29.1 r27.length x29.2]) ty260 pl260 rfl (by kernel_rfl)) (cK rfl (by decide) rfl cP rfl (n_litO (α := Step) (vs := [(0, .agg #[.int .i64 (1), .int .i64 (v0.2.2.2), .slice x26.1.1 r24.1.length x26.1.2, .slice x26.2.1 r24.2.length x26.2.2, .slice none 0 0, .slice none 0 0]), (1, .agg #[.int .i64 (2), .int .i64 (0), .slice none 0 0, .slice none 0 0, .slice a21 (((([] : List Int) ++ v0.2.1) ++ [v0.2.2.2]).length) c22, .slice x29.1 r27.length x29.2])]) ([(1, v0.2.2.2, r24, ([]), ([])), (2, 0, (([]), ([])), ((([] : List Int) ++ v0.2.1) ++ [v0.2.2.2]), r27)] : List Step) [((1, v0.2.2.2, r24, ([]), ([])), ((), (), x26, (none, 0), (none, 0))), ((2, 0, (([]), ([])), ((([] : List Int) ++ v0.2.1) ++ [v0.2.2.2]), r27), ((), (), ((none, 0), (none, 0)), (a21, c22), x29))] rfl rfl dM ty260 rfl (by decide) (by decide) (by kernel_rfl) (.cons dl1 (.cons dl1 (.cons dl2 (.cons dl2 (.cons dl2 (.cons dl1 (.cons dl1 (.cons aA .nil))))))))) ?_)
  rintro _ _ _ ⟨a30, c31, rfl, rfl, rfl⟩
  refine ⟨(bW rfl rfl (fun F => (bJ ty35 rfl (hs1.app F) rfl)) (bW rfl rfl (fun F => (bK ty42 rfl (hs1.app F) rfl)) (aN (by kernel_rfl) bV))), ?_⟩
  refine w_p rfl (p_assign rfl) (cM (nT (Tr.freeze (.cons aA .nil) (bR ?_))))
  obtain rfl := si H
  exact back1 (a30, c31) rfl (ResV.tmp (v := .slice a30 (([(1, v0.2.2.2, r24, ([]), ([])), (2, 0, (([]), ([])), ((([] : List Int) ++ v0.2.1) ++ [v0.2.2.2]), r27)] : List Step).length) c31) rfl) rfl (cN aS cO) bL
noncomputable def p_spec_l21At_b0 (v0 : Disk) (v1 : Int) (Q8 : Int) : Option ((Int) ⊕ (Unit ⊕ Int)) := cond (decide (Q8 < (v0.1.length : Int))) (gd (ix Q8 v0.1.length) <| cond (decide (((nth v0.1 Q8.toNat).1) = v1)) (some (.inr (.inr Q8))) (gd (I64 (Q8 + 1)) <| some (.inl (Q8 + 1)))) (some (.inr (.inl ())))
noncomputable def p_spec_l21At (v0 : Disk) (v1 : Int) : Option (Int) := bd (lp (p_spec_l21At_b0 v0 v1) 0) <| sw (fun _ => some (-1)) (fun q => some q)
theorem c_spec_l21At {r : Int} (v0 : Disk) (x_v0 : (Option Addr × Nat) × (Option Addr × Nat) × (Option Addr × Nat) × Unit) (v1 : Int) (H : p_spec_l21At v0 v1 = some r) : Fn' prog 86 #[.agg #[.slice x_v0.1.1 v0.1.length x_v0.1.2, .slice x_v0.2.1.1 v0.2.1.length x_v0.2.1.2, .slice x_v0.2.2.1.1 v0.2.2.1.length x_v0.2.2.1.2, .int .i64 (v0.2.2.2)], .int .i64 (v1)] [imm (.slice x_v0.1.1 v0.1.length x_v0.1.2) v0.1, imm (.slice x_v0.2.1.1 v0.2.1.length x_v0.2.1.2) v0.2.1, imm (.slice x_v0.2.2.1.1 v0.2.2.1.length x_v0.2.2.1.2) v0.2.2.1] [] (ι := Unit) (fun _ => .int .i64 (r)) (fun _ => []) (fun _ => []) := by
 refine cof (args := [_, _]) func86 ntmps86 fun c => ?_
 unfold p_spec_l21At at H
 refine bN aS fun X1 => (bN aS.s.s.s fun X2 => (sr (f1 (cD (t := 76) rfl) fun g3 => (aH (v := .int .i64 (0)) rfl (nl (aD (sr (aH (v := .int .i64 (0)) rfl (nl (bdo H fun x4 hx5 H => (dD (Λ := Unit) H (fun _ _ => []) (fun _ _ => []) ?_ ?_)))))))))))
 ·refine aR (dF hx5 () (fun Q8 _ => [(1, .int .i64 (v1)), (2, .pointer (some ⟨g3, 0, none⟩)), (5, .int .i64 (Q8))]) (fun _ _ => [box g3 76 [.slice x_v0.1.1 v0.1.length x_v0.1.2, .slice x_v0.2.1.1 v0.2.1.length x_v0.2.1.2, .slice x_v0.2.2.1.1 v0.2.2.1.length x_v0.2.2.1.2, .int .i64 (v0.2.2.2)]]) (.cons aA .nil) ?_)
  rintro _ Q8 z9 t11 H1 hi12 hb13
  unfold p_spec_l21At_b0 at H1
  refine aD (sr (aF rfl (aG (cC fa76_0 rfl rfl) (aI (bJ ty74 rfl aB rfl) (aG (bT 80 dY rfl) (aG (cS rfl rfl) (nl (cH H1 rfl (fun h16 H1 => ?_) (fun h16 H1 => ?_)))))))))
  ·refine bI (nT (aD (aR (sr (aG (cC fa76_0 rfl rfl) (aI (bJ ty74 rfl aB rfl) (aF rfl (gdo H1 fun h17 H1 => (aI (bX dY ty80 rfl rfl h17 rfl (aM (aU aS.s))) (aI (bZ (j := 0) Q8.toNat fa80_0 rfl (aM (aU aS.s)) h17.lt rfl) ?_))))))))))
   refine aI (cA (i := Q8.toNat) (j := 0) ty3 rfl (aM (aU aS.s)) h17.lt rfl) (aF rfl (aG (cV rfl rfl) (nl (cH H1 rfl (fun h18 H1 => ?_) (fun h18 H1 => ?_)))))
   ·refine sr (aF rfl (aH rfl (nl (bR (rB (rT (rT (rB (rT (rT (?_)))))))))))
    obtain rfl := hb13 _ (sm H1)
    replace H := sw.r H
    obtain rfl := si H
    exact bk
   ·exact bI (nB (nT (aQ (aF rfl (gdo H1 fun h19 H1 => (aG (bS rfl rfl h19) (aH rfl (aJ (nLI () (hi12 _ (sm H1)) (.cons aA .nil))))))))))
  ·exact dB (xT (xT (xE (nMI () (hb13 _ (sm H1)) bL))))
 ·rintro e20 y10 H
  refine nT (sr (aH (v := .int .i64 (-1)) rfl (nl ?_)))
  obtain rfl := si H
  exact bR bk
noncomputable def p_spec_l21Counts_b0 (v0 : Disk) (v1 : Int) (Q8 : Int) : Option ((Int) ⊕ (Unit ⊕ Bool)) := cond (decide (Q8 < (v0.2.1.length : Int))) (gd (ix Q8 v0.2.1.length) <| cond (decide ((nth v0.2.1 Q8.toNat) = v1)) (some (.inr (.inr true))) (gd (I64 (Q8 + 1)) <| some (.inl (Q8 + 1)))) (some (.inr (.inl ())))
noncomputable def p_spec_l21Counts (v0 : Disk) (v1 : Int) : Option (Bool) := bd (lp (p_spec_l21Counts_b0 v0 v1) 0) <| sw (fun _ => some false) (fun q => some q)
theorem c_spec_l21Counts {r : Bool} (v0 : Disk) (x_v0 : (Option Addr × Nat) × (Option Addr × Nat) × (Option Addr × Nat) × Unit) (v1 : Int) (H : p_spec_l21Counts v0 v1 = some r) : Fn' prog 230 #[.agg #[.slice x_v0.1.1 v0.1.length x_v0.1.2, .slice x_v0.2.1.1 v0.2.1.length x_v0.2.1.2, .slice x_v0.2.2.1.1 v0.2.2.1.length x_v0.2.2.1.2, .int .i64 (v0.2.2.2)], .int .i64 (v1)] [imm (.slice x_v0.1.1 v0.1.length x_v0.1.2) v0.1, imm (.slice x_v0.2.1.1 v0.2.1.length x_v0.2.1.2) v0.2.1, imm (.slice x_v0.2.2.1.1 v0.2.2.1.length x_v0.2.2.1.2) v0.2.2.1] [] (ι := Unit) (fun _ => .bool (r)) (fun _ => []) (fun _ => []) := by
 refine cof (args := [_, _]) func230 ntmps230 fun c => ?_
 unfold p_spec_l21Counts at H
 refine bN aS fun X1 => (bN aS.s.s.s fun X2 => (sr (f1 (cD (t := 76) rfl) fun g3 => (aH (v := .bool (false)) rfl (nl (aD (sr (aH (v := .int .i64 (0)) rfl (nl (bdo H fun x4 hx5 H => (dD (Λ := Unit) H (fun _ _ => []) (fun _ _ => []) ?_ ?_)))))))))))
 ·refine aR (dF hx5 () (fun Q8 _ => [(1, .int .i64 (v1)), (2, .pointer (some ⟨g3, 0, none⟩)), (5, .int .i64 (Q8))]) (fun _ _ => [box g3 76 [.slice x_v0.1.1 v0.1.length x_v0.1.2, .slice x_v0.2.1.1 v0.2.1.length x_v0.2.1.2, .slice x_v0.2.2.1.1 v0.2.2.1.length x_v0.2.2.1.2, .int .i64 (v0.2.2.2)]]) (.cons aA .nil) ?_)
  rintro _ Q8 z9 t11 H1 hi12 hb13
  unfold p_spec_l21Counts_b0 at H1
  refine aD (sr (aF rfl (aG (cC fa76_1 rfl rfl) (aI (bJ ty69 rfl aB rfl) (aG (bT 3 dW rfl) (aG (cS rfl rfl) (nl (cH H1 rfl (fun h16 H1 => ?_) (fun h16 H1 => ?_)))))))))
  ·refine bI (nT (aD (aR (sr (aG (cC fa76_1 rfl rfl) (aI (bJ ty69 rfl aB rfl) (aF rfl (gdo H1 fun h17 H1 => (aI (bX dW ty3 rfl rfl h17 rfl (aO (aM aS.s.s.s))) (aI (cA (i := Q8.toNat) (j := 0) ty3 rfl (aO (aM aS.s.s.s)) h17.lt rfl) ?_))))))))))
   refine aF rfl (aG (cV rfl rfl) (nl (cH H1 rfl (fun h18 H1 => ?_) (fun h18 H1 => ?_))))
   ·refine sr (aH (v := .bool (true)) rfl (nl (bR (rB (rT (rT (rB (rT (rT (?_))))))))))
    obtain rfl := hb13 _ (sm H1)
    replace H := sw.r H
    obtain rfl := si H
    exact bk
   ·exact bI (nB (nT (aQ (aF rfl (gdo H1 fun h19 H1 => (aG (bS rfl rfl h19) (aH rfl (aJ (nLI () (hi12 _ (sm H1)) (.cons aA .nil))))))))))
  ·exact dB (xT (xT (xE (nMI () (hb13 _ (sm H1)) bL))))
 ·rintro e20 y10 H
  refine nT (sr (aH (v := .bool (false)) rfl (nl ?_)))
  obtain rfl := si H
  exact bR bk
noncomputable def p_spec_l21Do (v0 : Disk) (v1 : Step) : Option (Disk) := cond (decide (v1.1 = 1)) (gd (room (([] : List File).length + v0.1.length)) <| gd (room ((([] : List File) ++ v0.1).length + 1)) <| some (((([] : List File) ++ v0.1) ++ [(v1.2.1, v1.2.2.1)]), v0.2.1, v0.2.2.1, (wr64 (v1.2.1 + 1)))) (cond (decide (v1.1 = 2)) (gd (room (([] : List Int).length + v1.2.2.2.1.length)) <| bd (p_spec_l11Names v1.2.2.2.2) fun r23 => some (v0.1, (([] : List Int) ++ v1.2.2.2.1), r23, v0.2.2.2)) (cond (decide (v1.1 = 3)) (bd (p_spec_l21At v0 v1.2.1) fun r27 => bd (cond (decide (0 ≤ r27)) (bd (p_spec_l21Counts v0 v1.2.1) fun r32 => some (!r32)) (some (false))) fun b29 => cond (b29) (gd (sl2 0 r27 v0.1.length) <| gd (I64 (r27 + 1)) <| gd (sl2 (r27 + 1) (v0.1.length : Int) v0.1.length) <| gd (room (([] : List File).length + ((v0.1.take r27.toNat).drop 0).length)) <| gd (room ((([] : List File) ++ ((v0.1.take r27.toNat).drop 0)).length + ((v0.1.take (v0.1.length : Int).toNat).drop (r27 + 1).toNat).length)) <| some (((([] : List File) ++ ((v0.1.take r27.toNat).drop 0)) ++ ((v0.1.take (v0.1.length : Int).toNat).drop (r27 + 1).toNat)), v0.2.1, v0.2.2.1, v0.2.2.2)) (some v0)) (some v0)))
theorem c_spec_l21Do {r : Disk} (v0 : Disk) (x_v0 : (Option Addr × Nat) × (Option Addr × Nat) × (Option Addr × Nat) × Unit) (v1 : Step) (x_v1 : Unit × Unit × ((Option Addr × Nat) × (Option Addr × Nat)) × (Option Addr × Nat) × (Option Addr × Nat)) (H : p_spec_l21Do v0 v1 = some r) : Fn' prog 229 #[.agg #[.slice x_v0.1.1 v0.1.length x_v0.1.2, .slice x_v0.2.1.1 v0.2.1.length x_v0.2.1.2, .slice x_v0.2.2.1.1 v0.2.2.1.length x_v0.2.2.1.2, .int .i64 (v0.2.2.2)], .agg #[.int .i64 (v1.1), .int .i64 (v1.2.1), .slice x_v1.2.2.1.1.1 v1.2.2.1.1.length x_v1.2.2.1.1.2, .slice x_v1.2.2.1.2.1 v1.2.2.1.2.length x_v1.2.2.1.2.2, .slice x_v1.2.2.2.1.1 v1.2.2.2.1.length x_v1.2.2.2.1.2, .slice x_v1.2.2.2.2.1 v1.2.2.2.2.length x_v1.2.2.2.2.2]] [imm (.slice x_v0.1.1 v0.1.length x_v0.1.2) v0.1, imm (.slice x_v0.2.1.1 v0.2.1.length x_v0.2.1.2) v0.2.1, imm (.slice x_v0.2.2.1.1 v0.2.2.1.length x_v0.2.2.1.2) v0.2.2.1, imm (.slice x_v1.2.2.1.1.1 v1.2.2.1.1.length x_v1.2.2.1.1.2) v1.2.2.1.1, imm (.slice x_v1.2.2.1.2.1 v1.2.2.1.2.length x_v1.2.2.1.2.2) v1.2.2.1.2, imm (.slice x_v1.2.2.2.1.1 v1.2.2.2.1.length x_v1.2.2.2.1.2) v1.2.2.2.1, imm (.slice x_v1.2.2.2.2.1 v1.2.2.2.2.length x_v1.2.2.2.2.2) v1.2.2.2.2] [] (ι := (Option Addr × Nat) × (Option Addr × Nat) × (Option Addr × Nat) × Unit) (fun x => .agg #[.slice x.1.1 r.1.length x.1.2, .slice x.2.1.1 r.2.1.length x.2.1.2, .slice x.2.2.1.1 r.2.2.1.length x.2.2.1.2, .int .i64 (r.2.2.2)]) (fun x => [imm (.slice x.1.1 r.1.length x.1.2) r.1, imm (.slice x.2.1.1 r.2.1.length x.2.1.2) r.2.1, imm (.slice x.2.2.1.1 r.2.2.1.length x.2.2.1.2) r.2.2.1]) (fun _ => []) := by
 refine cof (args := [_, _]) func229 ntmps229 fun c => ?_
 unfold p_spec_l21Do at H
 refine bN aS fun X1 => (bN aS.s.s.s fun X2 => (bN aS.s.s.s.s.s.s fun X3 => (bN aS.s.s.s.s.s.s.s.s.s fun X4 => (sr (f1 (cD (t := 76) rfl) fun g5 => (f1 (cD (t := 260) rfl) fun g6 => (f1 (cE ty76) fun g7 => (nl (aD (sr ?_))))))))))
 refine aG (cC fa260_0 rfl rfl) (aI (bJ ty3 rfl hs1 rfl) (nl (aR (sr (aG (cV rfl rfl) (aH rfl (nl (cH H rfl (fun h8 H => ?_) (fun h8 H => ?_)))))))))
 ·refine aD (dH [(4, .pointer (some ⟨g7, 0, none⟩)), (3, .pointer (some ⟨g6, 0, none⟩)), (2, .pointer (some ⟨g5, 0, none⟩))] 2 [1, 2, 4, 5, 6, 7, 8, 0, 3, 9, 10, 11, 12] [3, 10, 12] [⟨0, [], fun g => .slice (some ⟨g, 0, none⟩) ([] : List File).length 0, fun g => row (.slice (some ⟨g, 0, none⟩) ([] : List File).length 0) ([] : List File)⟩, ⟨9, [(18, .agg #[.int .i64 (v1.2.1), .slice x_v1.2.2.1.1.1 v1.2.2.1.1.length x_v1.2.2.1.1.2, .slice x_v1.2.2.1.2.1 v1.2.2.1.2.length x_v1.2.2.1.2.2])], fun g => .slice (some ⟨g, 0, none⟩) 1 1, fun g => box g 80 [.int .i64 (v1.2.1), .slice x_v1.2.2.1.1.1 v1.2.2.1.1.length x_v1.2.2.1.1.2, .slice x_v1.2.2.1.2.1 v1.2.2.1.2.length x_v1.2.2.1.2.2]⟩] mixed (by kernel_rfl) (by decide) (show List.Nodup [0, 9] by decide) ⟨rfl, rfl, rfl, trivial⟩ rfl (okCons (FreeA.Ok.of rfl (by decide) (by kernel_rfl) fun c fs os => g_lit0r File dY ty80) (okCons (FreeA.Ok.of rfl (by decide) (by kernel_rfl) fun c fs os => e_lit (vs := [(0, .agg #[.int .i64 (v1.2.1), .slice x_v1.2.2.1.1.1 v1.2.2.1.1.length x_v1.2.2.1.1.2, .slice x_v1.2.2.1.2.1 v1.2.2.1.2.length x_v1.2.2.1.2.2])]) [.int .i64 (v1.2.1), .slice x_v1.2.2.1.1.1 v1.2.2.1.1.length x_v1.2.2.1.1.2, .slice x_v1.2.2.1.2.1 v1.2.2.1.2.length x_v1.2.2.1.2.2] dY ty80 rfl (by decide) (by decide) (by kernel_rfl)) okNil)) (w_p rfl (cC fa76_0 rfl rfl) ?_))
  refine w_o rfl (fun F => (bJ ty74 rfl (hs2.app F) rfl)) (w_p rfl (cC fa260_1 rfl rfl) ?_)
  refine w_o rfl (fun F => (bJ ty3 rfl (hs1.app F) rfl)) (w_p rfl (cC fa260_2 rfl rfl) ?_)
  refine w_o (v := .agg #[.slice x_v1.2.2.1.1.1 v1.2.2.1.1.length x_v1.2.2.1.1.2, .slice x_v1.2.2.1.2.1 v1.2.2.1.2.length x_v1.2.2.1.2.2]) rfl (fun F => (q_ldbP [.slice x_v1.2.2.1.1.1 v1.2.2.1.1.length x_v1.2.2.1.1.2, .slice x_v1.2.2.1.2.1 v1.2.2.1.2.length x_v1.2.2.1.2.2] ty72 rfl (hs1.app F) rfl rfl)) (w_p (v := .agg #[.int .i64 (v1.2.1), .slice x_v1.2.2.1.1.1 v1.2.2.1.1.length x_v1.2.2.1.1.2, .slice x_v1.2.2.1.2.1 v1.2.2.1.2.length x_v1.2.2.1.2.2]) rfl (p_buildS (vs := [(0, .int .i64 (v1.2.1)), (1, .agg #[.slice x_v1.2.2.1.1.1 v1.2.2.1.1.length x_v1.2.2.1.1.2, .slice x_v1.2.2.1.2.1 v1.2.2.1.2.length x_v1.2.2.1.2.2])]) (cs := #[.int .i64 (v1.2.1), .slice x_v1.2.2.1.1.1 v1.2.2.1.1.length x_v1.2.2.1.1.2, .slice x_v1.2.2.1.2.1 v1.2.2.1.2.length x_v1.2.2.1.2.2]) ty80 pl80 rfl rfl) ?_)
  refine w_fr (z := ⟨0, [], fun g => .slice (some ⟨g, 0, none⟩) ([] : List File).length 0, fun g => row (.slice (some ⟨g, 0, none⟩) ([] : List File).length 0) ([] : List File)⟩) (.head _) rfl rfl (by decide) (cQ (.inl rfl) (cQ (.inr (.inr ⟨rfl, trivial⟩)) cP)) trivial ?_; intro g9
  refine gdo H fun h12 H => (cK rfl (by decide) rfl (cQ (.inl rfl) (cQ (.inr (.inr ⟨rfl, trivial⟩)) cP)) rfl (n_appR (l := ([] : List File)) (k := v0.1) (α := File) dY ty80 rfl rfl (h12.b (by decide)) h12.x (.cons aA .nil) (aT aS.s.s.s)) ?_)
  rintro _ _ _ ⟨a10, c11, rfl, rfl, rfl⟩
  refine ⟨(bW rfl rfl (fun F => (q_ldbP [.slice x_v1.2.2.1.1.1 v1.2.2.1.1.length x_v1.2.2.1.1.2, .slice x_v1.2.2.1.2.1 v1.2.2.1.2.length x_v1.2.2.1.2.2] ty72 rfl (hs2.app F) rfl rfl)) (bW rfl rfl (fun F => (bJ ty3 rfl (hs2.app F) rfl)) (aN (by kernel_rfl) bV))), ?_⟩
  refine w_fr (z := ⟨9, [(18, .agg #[.int .i64 (v1.2.1), .slice x_v1.2.2.1.1.1 v1.2.2.1.1.length x_v1.2.2.1.1.2, .slice x_v1.2.2.1.2.1 v1.2.2.1.2.length x_v1.2.2.1.2.2])], fun g => .slice (some ⟨g, 0, none⟩) 1 1, fun g => box g 80 [.int .i64 (v1.2.1), .slice x_v1.2.2.1.1.1 v1.2.2.1.1.length x_v1.2.2.1.1.2, .slice x_v1.2.2.1.2.1 v1.2.2.1.2.length x_v1.2.2.1.2.2]⟩) (.tail _ (.head _)) rfl rfl (by decide) (cQ (.inl rfl) (cQ (.inl rfl) cP)) ⟨rfl, trivial⟩ ?_; intro g13
  refine gdo H fun h16 H => (cK rfl (by decide) rfl (cQ (.inl rfl) (cQ (.inl rfl) cP)) rfl (n_app1R (l := (([] : List File) ++ v0.1)) (α := File) (v1.2.1, v1.2.2.1) ((), x_v1.2.2.1) dY ty80 rfl rfl (h16.b (by decide)) h16.x rfl (.cons dl1 (.cons aA .nil)) (cN aS.s.s.s.s.s.s.s (cN (aT aS.s) cO))) ?_)
  rintro _ _ _ ⟨a14, c15, rfl, rfl, rfl⟩
  refine ⟨(bW rfl rfl (fun F => (q_ldbP [.slice x_v1.2.2.1.1.1 v1.2.2.1.1.length x_v1.2.2.1.1.2, .slice x_v1.2.2.1.2.1 v1.2.2.1.2.length x_v1.2.2.1.2.2] ty72 rfl (hs2.app F) rfl rfl)) (bW rfl rfl (fun F => (bJ ty3 rfl (hs2.app F) rfl)) (aN (by kernel_rfl) bV))), ?_⟩
  refine w_p rfl (cC fa76_0 rfl rfl) (cL rfl rfl (cQ (.inl rfl) (cQ (.inl rfl) cP)) rfl (n_store (cs' := [.slice a14 (((([] : List File) ++ v0.1) ++ [(v1.2.1, v1.2.2.1)]).length) c15, .slice x_v0.2.1.1 v0.2.1.length x_v0.2.1.2, .slice x_v0.2.2.1.1 v0.2.2.1.length x_v0.2.2.1.2, .int .i64 (v0.2.2.2)]) ty74 rfl rfl up3 rfl (one_of rfl) (Nat.le_of_ble_eq_true rfl) rfl) ?_)
  rintro _ _ _ ⟨rfl, rfl, rfl⟩
  refine ⟨(aN (by kernel_rfl) (aN (by kernel_rfl) (aN (by kernel_rfl) bV))), ?_⟩
  refine cM (nT (aQ (aG (cC fa260_1 rfl rfl) (aI (bJ ty3 rfl hs2 rfl) (aG (v := .int .i64 (wr64 (v1.2.1 + 1))) (p_addW rfl rfl) (aG (cC fa76_3 rfl rfl) (stb (cs' := [.slice a14 (((([] : List File) ++ v0.1) ++ [(v1.2.1, v1.2.2.1)]).length) c15, .slice x_v0.2.1.1 v0.2.1.length x_v0.2.1.2, .slice x_v0.2.2.1.1 v0.2.2.1.length x_v0.2.2.1.2, .int .i64 (wr64 (v1.2.1 + 1))]) ty3 up3 (aJ (nB (nT (?_)))))))))))
  refine sr (aI (bK ty76 rfl hs3 rfl) (stb (cs' := [.slice a14 (((([] : List File) ++ v0.1) ++ [(v1.2.1, v1.2.2.1)]).length) c15, .slice x_v0.2.1.1 v0.2.1.length x_v0.2.1.2, .slice x_v0.2.2.1.1 v0.2.2.1.length x_v0.2.2.1.2, .int .i64 (wr64 (v1.2.1 + 1))]) ty76 up1 (nl (Tr.freezeR (.cons aA .nil) (bR ?_)))))
  obtain rfl := si H
  exact back1 ((a14, c15), x_v0.2.1, x_v0.2.2.1, ()) rfl (ResV.agg ty76 rfl aB rfl) rfl (cN aS (cN aS.s.s.s.s.s.s (cN (aT aS.s.s.s) cO))) bL
 ·refine sr (aG (cV rfl rfl) (aH rfl (nl (cH H rfl (fun h17 H => ?_) (fun h17 H => ?_)))))
  ·refine sr (f2 (e_lit0 Int dW ty3) fun a18 c19 => (aG (cC fa260_3 rfl rfl) (aI (bJ ty69 rfl hs2 rfl) (gdo H fun h22 H => (f2 (e_appF (l := ([] : List Int)) (k := v1.2.2.2.1) (α := Int) dW ty3 rfl rfl (h22.b (by decide)) h22.x (.cons aA .nil) (aM aS.s.s.s.s.s.s.s.s.s)) fun a20 c21 => (aG (cC fa76_1 rfl rfl) (stb (cs' := [.slice x_v0.1.1 v0.1.length x_v0.1.2, .slice a20 ((([] : List Int) ++ v1.2.2.2.1).length) c21, .slice x_v0.2.2.1.1 v0.2.2.1.length x_v0.2.2.1.2, .int .i64 (v0.2.2.2)]) ty69 up3 (nl (aQ ?_)))))))))
   refine aG (cC fa260_4 rfl rfl) (aI (bJ ty35 rfl hs2 rfl) (bdo H fun r23 h24 H => (f1 (cG (c_spec_l11Names v1.2.2.2.2 x_v1.2.2.2.2 h24) (fun _ => (bG bH)) rfl (aC (aM (aT aS)) aP)) fun x25 => (aG (cC fa76_2 rfl rfl) (stb (cs' := [.slice x_v0.1.1 v0.1.length x_v0.1.2, .slice a20 ((([] : List Int) ++ v1.2.2.2.1).length) c21, .slice x25.1 r23.length x25.2, .int .i64 (v0.2.2.2)]) ty35 up4 (aJ (nB (nT (sr (aI (bK ty76 rfl hs4 rfl) ?_))))))))))
   refine stb (cs' := [.slice x_v0.1.1 v0.1.length x_v0.1.2, .slice a20 ((([] : List Int) ++ v1.2.2.2.1).length) c21, .slice x25.1 r23.length x25.2, .int .i64 (v0.2.2.2)]) ty76 up2 (nl (Tr.freeze (.cons dl1 .nil) (Tr.freeze (.cons aA .nil) (bR ?_))))
   obtain rfl := si H
   exact back1 (x_v0.1, (a20, c21), x25, ()) rfl (ResV.agg ty76 rfl aB rfl) rfl (cN (aT aS.s.s.s.s.s) (cN aS.s (cN aS cO))) bL
  ·refine sr (aG (cV rfl rfl) (aH rfl (nl (cH H rfl (fun h26 H => ?_) (fun h26 H => ?_)))))
   ·refine sr (aI (bK ty76 rfl hs2 rfl) (aG (cC fa260_1 rfl rfl) (aI (bJ ty3 rfl hs1 rfl) (bdo H fun r27 h28 H => (aI (bO (c_spec_l21At v0 (x_v0.1, x_v0.2.1, x_v0.2.2.1, ()) v1.2.1 h28) rfl (aC (aM (aT aS.s.s.s)) (aC (aM aS.s.s.s.s.s) (aC (aM (aT aS.s.s)) aP)))) (aH rfl (nl (bdo H fun b29 j30 H => (dE [(51, .bool (b29)), (5, .int .i64 (r27)), (4, .pointer (some ⟨g7, 0, none⟩)), (2, .pointer (some ⟨g5, 0, none⟩))] ?_ ?_)))))))))
    ·refine dI [(5, .int .i64 (r27)), (4, .pointer (some ⟨g7, 0, none⟩)), (3, .pointer (some ⟨g6, 0, none⟩)), (2, .pointer (some ⟨g5, 0, none⟩))] ⟨rfl, rfl, rfl, rfl, trivial⟩ (bC rfl (aY (p_geq rfl rfl) ?_))
     rcases aL (decide (0 ≤ r27)) with h31 | h31
     ·have j30 := cdT h31 j30
      refine bD (aE rfl) h31 (bB rfl (bK ty76 rfl hs2 rfl) (aZ rfl (cC fa260_1 rfl rfl) (bB rfl (bJ ty3 rfl hs1 rfl) (bdo j30 fun r32 h33 j30 => (bB rfl (bO (c_spec_l21Counts v0 (x_v0.1, x_v0.2.1, x_v0.2.2.1, ()) v1.2.1 h33) rfl (aC (aM (aT aS.s.s.s)) (aC (aM aS.s.s.s.s.s) (aC (aM (aT aS.s.s)) aP)))) (aZ rfl (cX rfl) (aY (bQ rfl rfl) ?_)))))))
      obtain rfl := si j30
      show At _ _ _ _ _ _
      exact n1 ⟨rfl, rfl, rfl, rfl, trivial⟩
     ·have j30 := cdF h31 j30
      refine bD (aE rfl) h31 ?_
      iterate 5 refine bF rfl ?_
      refine aY (v := .bool (false)) (bP rfl rfl) ?_
      obtain rfl := si j30
      show At _ _ _ _ _ _
      exact n1 ⟨rfl, rfl, rfl, rfl, trivial⟩
    refine cH H rfl (fun h34 H => ?_) (fun h34 H => ?_)
    ·refine dH [(5, .int .i64 (r27)), (4, .pointer (some ⟨g7, 0, none⟩)), (2, .pointer (some ⟨g5, 0, none⟩))] 2 [1, 2, 3, 4, 6, 7, 8, 9, 10, 0, 5, 11, 12, 13] [0, 5, 11, 13] [] mixed (by kernel_rfl) (by decide) dJ ⟨rfl, rfl, rfl, trivial⟩ rfl okNil (w_p rfl (cC fa76_0 rfl rfl) ?_)
     refine w_o rfl (fun F => (bJ ty74 rfl (hs2.app F) rfl)) (w_p rfl (aE rfl) (gdo H fun h35 H => ?_))
     refine w_o (v := .slice (subA x_v0.1.1 x_v0.1.2 0 (Enc.sz File)) (((v0.1.take r27.toNat).drop 0).length) (x_v0.1.2 - 0)) rfl (fun F => (q_slF (l := v0.1) (α := File) 0 r27 dY ty80 rfl rfl (fun _ => rfl) rfl (fun h => nomatch h) h35 (aM (aT aS.s.s.s)))) (w_p rfl (cC fa76_0 rfl rfl) ?_)
     refine w_o rfl (fun F => (bJ ty74 rfl (hs2.app F) rfl)) (w_p rfl (aE rfl) (gdo H fun h36 H => (w_p rfl (bS rfl rfl h36) (gdo H fun h37 H => ?_))))
     refine w_o (v := .slice (subA x_v0.1.1 x_v0.1.2 (r27 + 1).toNat (Enc.sz File)) (((v0.1.take (v0.1.length : Int).toNat).drop (r27 + 1).toNat).length) (x_v0.1.2 - (r27 + 1).toNat)) rfl (fun F => (q_slF (l := v0.1) (α := File) (r27 + 1) (v0.1.length : Int) dY ty80 rfl rfl (fun h => nomatch h) rfl (fun _ => rfl) h37 (aM (aT aS.s.s.s)))) (cK rfl (by decide) rfl cP rfl (n_lit0r File dY ty80) ?_)
     rintro _ _ _ ⟨a38, c39, rfl, rfl, rfl⟩
     refine ⟨(bW rfl rfl (fun F => (q_slF (l := v0.1) (α := File) (r27 + 1) (v0.1.length : Int) dY ty80 rfl rfl (fun h => nomatch h) rfl (fun _ => rfl) h37 (aM (aT aS.s.s.s)))) (bW rfl rfl (fun F => (bJ ty74 rfl (hs3.app F) rfl)) (bW rfl rfl (fun F => (q_slF (l := v0.1) (α := File) 0 r27 dY ty80 rfl rfl (fun _ => rfl) rfl (fun h => nomatch h) h35 (aM (aT aS.s.s.s)))) (bW rfl rfl (fun F => (bJ ty74 rfl (hs3.app F) rfl)) bV)))), ?_⟩
     refine gdo H fun h42 H => (cK rfl (by decide) rfl cP rfl (n_appR (l := ([] : List File)) (k := ((v0.1.take r27.toNat).drop 0)) (α := File) dY ty80 rfl rfl (h42.b (by decide)) h42.x (.cons aA .nil) (Ent.sub (aT aS.s.s.s) h35.le h35.lt)) ?_)
     rintro _ _ _ ⟨a40, c41, rfl, rfl, rfl⟩
     refine ⟨(bW rfl rfl (fun F => (q_slF (l := v0.1) (α := File) (r27 + 1) (v0.1.length : Int) dY ty80 rfl rfl (fun h => nomatch h) rfl (fun _ => rfl) h37 (aM (aT aS.s.s.s)))) (bW rfl rfl (fun F => (bJ ty74 rfl (hs3.app F) rfl)) (aN (by kernel_rfl) (aN (by kernel_rfl) bV)))), ?_⟩
     refine gdo H fun h45 H => (cK rfl (by decide) rfl cP rfl (n_appR (l := (([] : List File) ++ ((v0.1.take r27.toNat).drop 0))) (k := ((v0.1.take (v0.1.length : Int).toNat).drop (r27 + 1).toNat)) (α := File) dY ty80 rfl rfl (h45.b (by decide)) h45.x (.cons aA .nil) (Ent.sub (aT aS.s.s.s) h37.le h37.lt)) ?_)
     rintro _ _ _ ⟨a43, c44, rfl, rfl, rfl⟩
     refine ⟨(aN (by kernel_rfl) (aN (by kernel_rfl) (aN (by kernel_rfl) (bW rfl rfl (fun F => (bJ ty74 rfl (hs3.app F) rfl)) bV)))), ?_⟩
     refine w_p rfl (cC fa76_0 rfl rfl) (cL rfl rfl cP rfl (n_store (cs' := [.slice a43 (((([] : List File) ++ ((v0.1.take r27.toNat).drop 0)) ++ ((v0.1.take (v0.1.length : Int).toNat).drop (r27 + 1).toNat)).length) c44, .slice x_v0.2.1.1 v0.2.1.length x_v0.2.1.2, .slice x_v0.2.2.1.1 v0.2.2.1.length x_v0.2.2.1.2, .int .i64 (v0.2.2.2)]) ty74 rfl rfl up3 rfl (one_of rfl) (Nat.le_of_ble_eq_true rfl) rfl) ?_)
     rintro _ _ _ ⟨rfl, rfl, rfl⟩
     refine ⟨(aN (by kernel_rfl) (aN (by kernel_rfl) (aN (by kernel_rfl) (aN (by kernel_rfl) bV)))), ?_⟩
     refine cM ?_
     show At _ _ _ _ _ _
     refine nB (nT (sr (aI (bK ty76 rfl hs3 rfl) (stb (cs' := [.slice a43 (((([] : List File) ++ ((v0.1.take r27.toNat).drop 0)) ++ ((v0.1.take (v0.1.length : Int).toNat).drop (r27 + 1).toNat)).length) c44, .slice x_v0.2.1.1 v0.2.1.length x_v0.2.1.2, .slice x_v0.2.2.1.1 v0.2.2.1.length x_v0.2.2.1.2, .int .i64 (v0.2.2.2)]) ty76 up1 (nl (Tr.freezeR (.cons aA .nil) (bR ?_)))))))
     obtain rfl := si H
     exact back1 ((a43, c44), x_v0.2.1, x_v0.2.2.1, ()) rfl (ResV.agg ty76 rfl aB rfl) rfl (cN aS (cN aS.s.s.s.s.s.s (cN (aT aS.s.s.s) cO))) bL
    ·refine bI (nB (nT (sr (aI (bK ty76 rfl hs2 rfl) (stb (cs' := [.slice x_v0.1.1 v0.1.length x_v0.1.2, .slice x_v0.2.1.1 v0.2.1.length x_v0.2.1.2, .slice x_v0.2.2.1.1 v0.2.2.1.length x_v0.2.2.1.2, .int .i64 (v0.2.2.2)]) ty76 cZ (nl (bR ?_)))))))
     obtain rfl := si H
     exact back1 (x_v0.1, x_v0.2.1, x_v0.2.2.1, ()) rfl (ResV.agg ty76 rfl aB rfl) rfl (cN (aT aS.s.s.s) (cN aS.s.s.s.s.s (cN (aT aS.s.s) cO))) bL
   ·refine bI (nB (nT (sr (aI (bK ty76 rfl hs2 rfl) (stb (cs' := [.slice x_v0.1.1 v0.1.length x_v0.1.2, .slice x_v0.2.1.1 v0.2.1.length x_v0.2.1.2, .slice x_v0.2.2.1.1 v0.2.2.1.length x_v0.2.2.1.2, .int .i64 (v0.2.2.2)]) ty76 cZ (nl (bR ?_)))))))
    obtain rfl := si H
    exact back1 (x_v0.1, x_v0.2.1, x_v0.2.2.1, ()) rfl (ResV.agg ty76 rfl aB rfl) rfl (cN (aT aS.s.s.s) (cN aS.s.s.s.s.s (cN (aT aS.s.s) cO))) bL
noncomputable def p_spec_l21To_b0 (v1 : (List Step)) (v2 : Int) (Q10 : (List File) × (List Int) × (List (List Tag)) × Int × Int) : Option (((List File) × (List Int) × (List (List Tag)) × Int × Int) ⊕ ((List File) × (List Int) × (List (List Tag)) × Int)) := bd (cond (decide (Q10.2.2.2.2 < (v1.length : Int))) (some (decide (Q10.2.2.2.2 < v2))) (some (false))) fun b18 => cond (b18) (gd (ix Q10.2.2.2.2 v1.length) <| bd (p_spec_l21Do (Q10.1, Q10.2.1, Q10.2.2.1, Q10.2.2.2.1) (nth v1 Q10.2.2.2.2.toNat)) fun r23 => gd (I64 (Q10.2.2.2.2 + 1)) <| some (.inl (r23.1, r23.2.1, r23.2.2.1, r23.2.2.2, Q10.2.2.2.2 + 1))) (some (.inr (Q10.1, Q10.2.1, Q10.2.2.1, Q10.2.2.2.1)))
noncomputable def p_spec_l21To (v0 : Disk) (v1 : (List Step)) (v2 : Int) : Option (Disk) := bd (lp (p_spec_l21To_b0 v1 v2) (v0.1, v0.2.1, v0.2.2.1, v0.2.2.2, 0)) fun x6 => some x6
theorem c_spec_l21To {r : Disk} (v0 : Disk) (x_v0 : (Option Addr × Nat) × (Option Addr × Nat) × (Option Addr × Nat) × Unit) (v1 : (List Step)) (x_v1 : Option Addr × Nat) (v2 : Int) (H : p_spec_l21To v0 v1 v2 = some r) : Fn' prog 213 #[.agg #[.slice x_v0.1.1 v0.1.length x_v0.1.2, .slice x_v0.2.1.1 v0.2.1.length x_v0.2.1.2, .slice x_v0.2.2.1.1 v0.2.2.1.length x_v0.2.2.1.2, .int .i64 (v0.2.2.2)], .slice x_v1.1 v1.length x_v1.2, .int .i64 (v2)] [imm (.slice x_v0.1.1 v0.1.length x_v0.1.2) v0.1, imm (.slice x_v0.2.1.1 v0.2.1.length x_v0.2.1.2) v0.2.1, imm (.slice x_v0.2.2.1.1 v0.2.2.1.length x_v0.2.2.1.2) v0.2.2.1, imm (.slice x_v1.1 v1.length x_v1.2) v1] [] (ι := (Option Addr × Nat) × (Option Addr × Nat) × (Option Addr × Nat) × Unit) (fun x => .agg #[.slice x.1.1 r.1.length x.1.2, .slice x.2.1.1 r.2.1.length x.2.1.2, .slice x.2.2.1.1 r.2.2.1.length x.2.2.1.2, .int .i64 (r.2.2.2)]) (fun x => [imm (.slice x.1.1 r.1.length x.1.2) r.1, imm (.slice x.2.1.1 r.2.1.length x.2.1.2) r.2.1, imm (.slice x.2.2.1.1 r.2.2.1.length x.2.2.1.2) r.2.2.1]) (fun _ => []) := by
 refine cof (args := [_, _, _]) func213 ntmps213 fun c => ?_
 unfold p_spec_l21To at H
 refine bN aS fun X1 => (bN aS.s.s.s fun X2 => (bN aS.s.s.s.s.s fun X3 => (sr (f1 (cD (t := 76) rfl) fun g4 => (f1 (cE ty76) fun g5 => (nl (aD (sr (aH (v := .int .i64 (0)) rfl (nl (bdo H fun x6 hx7 H => ?_)))))))))))
 obtain ⟨n8, hx7⟩ := lp.of hx7
 refine tMidNF (ι := (Option Addr × Nat) × (Option Addr × Nat) × (Option Addr × Nat)) (fun ψ => [(3, .pointer (some ⟨g4, 0, none⟩)), (6, .pointer (some ⟨g5, 0, none⟩))]) (fun ψ => [imm (.slice ψ.1.1 x6.1.length ψ.1.2) x6.1, imm (.slice ψ.2.1.1 x6.2.1.length ψ.2.1.2) x6.2.1, imm (.slice ψ.2.2.1 x6.2.2.1.length ψ.2.2.2) x6.2.2.1]) (fun ψ => [box g4 76 [.slice ψ.1.1 x6.1.length ψ.1.2, .slice ψ.2.1.1 x6.2.1.length ψ.2.1.2, .slice ψ.2.2.1 x6.2.2.1.length ψ.2.2.2, .int .i64 (x6.2.2.2)], box g5 76 [.slice none 0 0, .slice none 0 0, .slice none 0 0, .int .i64 (0)]]) ?_ ?_
 ·refine aR (tLoopF (ι := { q : Nat × ((List File) × (List Int) × (List (List Tag)) × Int × Int) × ((Option Addr × Nat) × (Option Addr × Nat) × (Option Addr × Nat)) // itr (p_spec_l21To_b0 v1 v2) q.1 q.2.1 = some x6 }) (fun ζ => [(1, .slice x_v1.1 v1.length x_v1.2), (2, .int .i64 (v2)), (3, .pointer (some ⟨g4, 0, none⟩)), (6, .pointer (some ⟨g5, 0, none⟩)), (7, .int .i64 (ζ.1.2.1.2.2.2.2))]) (fun ζ => [imm (.slice ζ.1.2.2.1.1 ζ.1.2.1.1.length ζ.1.2.2.1.2) ζ.1.2.1.1, imm (.slice ζ.1.2.2.2.1.1 ζ.1.2.1.2.1.length ζ.1.2.2.2.1.2) ζ.1.2.1.2.1, imm (.slice ζ.1.2.2.2.2.1 ζ.1.2.1.2.2.1.length ζ.1.2.2.2.2.2) ζ.1.2.1.2.2.1]) (fun ζ => [box g4 76 [.slice ζ.1.2.2.1.1 ζ.1.2.1.1.length ζ.1.2.2.1.2, .slice ζ.1.2.2.2.1.1 ζ.1.2.1.2.1.length ζ.1.2.2.2.1.2, .slice ζ.1.2.2.2.2.1 ζ.1.2.1.2.2.1.length ζ.1.2.2.2.2.2, .int .i64 (ζ.1.2.1.2.2.2.1)], box g5 76 [.slice none 0 0, .slice none 0 0, .slice none 0 0, .int .i64 (0)]]) (fun ζ => ζ.1.1) ⟨(n8, (v0.1, v0.2.1, v0.2.2.1, v0.2.2.2, 0), ((x_v0.1.1, x_v0.1.2), (x_v0.2.1.1, x_v0.2.1.2), (x_v0.2.2.1.1, x_v0.2.2.1.2))), hx7⟩ ⟨rfl, rfl, rfl, rfl, rfl, trivial⟩ (cN (aT aS.s.s) (cN aS.s.s.s.s (cN (aT aS.s) cO))) (.cons dl1 (.cons aA .nil)) ?_)
  rintro ⟨⟨m9, Q10, z11⟩, hk16⟩
  obtain ⟨m17, t13, e, H1, hi14, hb15⟩ := itr.of (n := m9) (s := Q10) hk16
  subst e; unfold p_spec_l21To_b0 at H1
  show Tr _ _ _ _ _ [(1, .slice x_v1.1 v1.length x_v1.2), (2, .int .i64 (v2)), (3, .pointer (some ⟨g4, 0, none⟩)), (6, .pointer (some ⟨g5, 0, none⟩)), (7, .int .i64 (Q10.2.2.2.2))] (imm (.slice z11.1.1 Q10.1.length z11.1.2) Q10.1 :: imm (.slice z11.2.1.1 Q10.2.1.length z11.2.1.2) Q10.2.1 :: imm (.slice z11.2.2.1 Q10.2.2.1.length z11.2.2.2) Q10.2.2.1 :: _) [box g4 76 [.slice z11.1.1 Q10.1.length z11.1.2, .slice z11.2.1.1 Q10.2.1.length z11.2.1.2, .slice z11.2.2.1 Q10.2.2.1.length z11.2.2.2, .int .i64 (Q10.2.2.2.1)], box g5 76 [.slice none 0 0, .slice none 0 0, .slice none 0 0, .int .i64 (0)]]
  refine aD (bdo H1 fun b18 j19 H1 => (dE [(16, .bool (b18)), (1, .slice x_v1.1 v1.length x_v1.2), (2, .int .i64 (v2)), (3, .pointer (some ⟨g4, 0, none⟩)), (6, .pointer (some ⟨g5, 0, none⟩)), (7, .int .i64 (Q10.2.2.2.2))] ?_ ?_))
  ·refine dI [(1, .slice x_v1.1 v1.length x_v1.2), (2, .int .i64 (v2)), (3, .pointer (some ⟨g4, 0, none⟩)), (6, .pointer (some ⟨g5, 0, none⟩)), (7, .int .i64 (Q10.2.2.2.2))] ⟨rfl, rfl, rfl, rfl, rfl, trivial⟩ (bC rfl (bC rfl (aY (bT 260 dM rfl) (aY (cS rfl rfl) ?_))))
   rcases aL (decide (Q10.2.2.2.2 < (v1.length : Int))) with h20 | h20
   ·have j19 := cdT h20 j19
    refine bD (aE rfl) h20 (aZ rfl (aE rfl) (aZ rfl (aE rfl) (aZ rfl (cS rfl rfl) (aY (bQ rfl rfl) ?_))))
    obtain rfl := si j19
    show At _ _ _ _ _ _
    exact n1 ⟨rfl, rfl, rfl, rfl, rfl, rfl, trivial⟩
   ·have j19 := cdF h20 j19
    refine bD (aE rfl) h20 ?_
    iterate 3 refine bF rfl ?_
    refine aY (v := .bool (false)) (bP rfl rfl) ?_
    obtain rfl := si j19
    show At _ _ _ _ _ _
    exact n1 ⟨rfl, rfl, rfl, rfl, rfl, rfl, trivial⟩
  refine cH H1 rfl (fun h21 H1 => ?_) (fun h21 H1 => ?_)
  ·refine bI (nT (aD (aR (dH [(1, .slice x_v1.1 v1.length x_v1.2), (2, .int .i64 (v2)), (3, .pointer (some ⟨g4, 0, none⟩)), (6, .pointer (some ⟨g5, 0, none⟩)), (7, .int .i64 (Q10.2.2.2.2))] 1 [0, 1, 2, 3, 4, 5, 6] [5, 6] [] mixed (by kernel_rfl) (by decide) dJ ⟨rfl, rfl, rfl, rfl, rfl, trivial⟩ rfl okNil ?_))))
   refine w_o rfl (fun F => (bK ty76 rfl (aB.app F) rfl)) (w_p rfl (aE rfl) (w_p rfl (aE rfl) (gdo H1 fun h22 H1 => ?_)))
   refine w_o rfl (fun F => (bX dM ty260 rfl rfl h22 rfl (aM (aU aS.s.s.s)))) ?_
   refine w_o (v := .agg #[.int .i64 ((nth v1 Q10.2.2.2.2.toNat).1), .int .i64 ((nth v1 Q10.2.2.2.2.toNat).2.1), .slice ((((X3 Q10.2.2.2.2.toNat).2.2.1).1).1) ((((nth v1 Q10.2.2.2.2.toNat).2.2.1).1).length) ((((X3 Q10.2.2.2.2.toNat).2.2.1).1).2.1), .slice ((((X3 Q10.2.2.2.2.toNat).2.2.1).2).1) ((((nth v1 Q10.2.2.2.2.toNat).2.2.1).2).length) ((((X3 Q10.2.2.2.2.toNat).2.2.1).2).2.1), .slice (((X3 Q10.2.2.2.2.toNat).2.2.2.1).1) (((nth v1 Q10.2.2.2.2.toNat).2.2.2.1).length) (((X3 Q10.2.2.2.2.toNat).2.2.2.1).2.1), .slice (((X3 Q10.2.2.2.2.toNat).2.2.2.2).1) (((nth v1 Q10.2.2.2.2.toNat).2.2.2.2).length) (((X3 Q10.2.2.2.2.toNat).2.2.2.2).2.1)]) rfl (fun F => (cB (i := Q10.2.2.2.2.toNat) ty260 rfl (aM (aU aS.s.s.s)) h22.lt)) (bdo H1 fun r23 h24 H1 => (cK rfl (by decide) rfl cP rfl (n_call (c_spec_l21Do (Q10.1, Q10.2.1, Q10.2.2.1, Q10.2.2.2.1) (z11.1, z11.2.1, z11.2.2, ()) (nth v1 Q10.2.2.2.2.toNat) ((), (), (((((X3 Q10.2.2.2.2.toNat).2.2.1).1).1, (((X3 Q10.2.2.2.2.toNat).2.2.1).1).2.1), ((((X3 Q10.2.2.2.2.toNat).2.2.1).2).1, (((X3 Q10.2.2.2.2.toNat).2.2.1).2).2.1)), (((X3 Q10.2.2.2.2.toNat).2.2.2.1).1, ((X3 Q10.2.2.2.2.toNat).2.2.2.1).2.1), (((X3 Q10.2.2.2.2.toNat).2.2.2.2).1, ((X3 Q10.2.2.2.2.toNat).2.2.2.2).2.1)) h24) rfl (cN aS (cN aS.s (cN aS.s.s (cN (aT (aW (aW (aV (aV (aX aS.s.s.s h22.lt)))))) (cN (aT (aV (aW (aV (aV (aX aS.s.s.s h22.lt)))))) (cN (aT (aW (aV (aV (aV (aX aS.s.s.s h22.lt)))))) (cN (aT (aV (aV (aV (aV (aX aS.s.s.s h22.lt)))))) cO))))))) bL) ?_))
   rintro _ _ _ ⟨x25, rfl, rfl, rfl⟩
   refine ⟨(aN (by kernel_rfl) (bW rfl rfl (fun F => (bX dM ty260 rfl rfl h22 rfl (aM (aU aS.s.s.s.s.s.s)))) (aN (by kernel_rfl) bV))), ?_⟩
   refine cL rfl rfl cP rfl (n_store (cs' := [.slice x25.1.1 r23.1.length x25.1.2, .slice x25.2.1.1 r23.2.1.length x25.2.1.2, .slice x25.2.2.1.1 r23.2.2.1.length x25.2.2.1.2, .int .i64 (r23.2.2.2)]) ty76 rfl rfl cZ rfl (one_of rfl) (Nat.le_of_ble_eq_true rfl) rfl) ?_
   rintro _ _ _ ⟨rfl, rfl, rfl⟩
   refine ⟨(aN (by kernel_rfl) (aN (by kernel_rfl) (aN (by kernel_rfl) bV))), ?_⟩
   refine cM ?_
   show At _ _ _ _ _ _
   exact nB (nT (aQ (aF rfl (gdo H1 fun h26 H1 => (aG (bS rfl rfl h26) (aH rfl (aJ (nLF ⟨(m17, (r23.1, r23.2.1, r23.2.2.1, r23.2.2.2, Q10.2.2.2.2 + 1), ((x25.1.1, x25.1.2), (x25.2.1.1, x25.2.1.2), (x25.2.2.1.1, x25.2.2.1.2))), hi14 _ (sm H1)⟩ (Nat.lt_succ_self _) ⟨rfl, rfl, rfl, rfl, rfl, trivial⟩ (cN aS (cN aS.s (cN aS.s.s cO))) bU.s.s.s.s.s.s (.cons aA (.cons aA .nil))))))))))
  ·refine dB (xT (xT (xE (?_))))
   obtain rfl := hb15 _ (sm H1)
   exact nMF ((z11.1.1, z11.1.2), (z11.2.1.1, z11.2.1.2), (z11.2.2.1, z11.2.2.2)) ⟨rfl, rfl, trivial⟩ (cN aS (cN aS.s (cN aS.s.s cO))) bU.s.s.s (.cons aA (.cons aA .nil))
 ·intro y12
  show At _ _ [(3, .pointer (some ⟨g4, 0, none⟩)), (6, .pointer (some ⟨g5, 0, none⟩))] (imm (.slice y12.1.1 x6.1.length y12.1.2) x6.1 :: imm (.slice y12.2.1.1 x6.2.1.length y12.2.1.2) x6.2.1 :: imm (.slice y12.2.2.1 x6.2.2.1.length y12.2.2.2) x6.2.2.1 :: _) [box g4 76 [.slice y12.1.1 x6.1.length y12.1.2, .slice y12.2.1.1 x6.2.1.length y12.2.1.2, .slice y12.2.2.1 x6.2.2.1.length y12.2.2.2, .int .i64 (x6.2.2.2)], box g5 76 [.slice none 0 0, .slice none 0 0, .slice none 0 0, .int .i64 (0)]] _
  refine nT (sr (aI (bK ty76 rfl aB rfl) (stb (cs' := [.slice y12.1.1 x6.1.length y12.1.2, .slice y12.2.1.1 x6.2.1.length y12.2.1.2, .slice y12.2.2.1 x6.2.2.1.length y12.2.2.2, .int .i64 (x6.2.2.2)]) ty76 up1 (nl (bR ?_)))))
  obtain rfl := si H
  exact back1 (y12.1, y12.2.1, y12.2.2, ()) rfl (ResV.agg ty76 rfl hs1 rfl) rfl (cN aS (cN aS.s (cN aS.s.s cO))) bL
noncomputable def p_spec_l21Tidy_b0 (v0 : Disk) (Q11 : (List File) × Int) : Option (((List File) × Int) ⊕ ((List File))) := cond (decide (Q11.2 < (v0.1.length : Int))) (gd (ix Q11.2 v0.1.length) <| bd (p_spec_l21Counts v0 ((nth v0.1 Q11.2.toNat).1)) fun r21 => cond (r21) (gd (room (Q11.1.length + 1)) <| gd (I64 (Q11.2 + 1)) <| some (.inl ((Q11.1 ++ [nth v0.1 Q11.2.toNat]), Q11.2 + 1))) (gd (I64 (Q11.2 + 1)) <| some (.inl (Q11.1, Q11.2 + 1)))) (some (.inr Q11.1))
noncomputable def p_spec_l21Tidy (v0 : Disk) : Option (Disk) := bd (lp (p_spec_l21Tidy_b0 v0) (([] : List File), 0)) fun x7 => some (x7, v0.2.1, v0.2.2.1, v0.2.2.2)
theorem c_spec_l21Tidy {r : Disk} (v0 : Disk) (x_v0 : (Option Addr × Nat) × (Option Addr × Nat) × (Option Addr × Nat) × Unit) (H : p_spec_l21Tidy v0 = some r) : Fn' prog 215 #[.agg #[.slice x_v0.1.1 v0.1.length x_v0.1.2, .slice x_v0.2.1.1 v0.2.1.length x_v0.2.1.2, .slice x_v0.2.2.1.1 v0.2.2.1.length x_v0.2.2.1.2, .int .i64 (v0.2.2.2)]] [imm (.slice x_v0.1.1 v0.1.length x_v0.1.2) v0.1, imm (.slice x_v0.2.1.1 v0.2.1.length x_v0.2.1.2) v0.2.1, imm (.slice x_v0.2.2.1.1 v0.2.2.1.length x_v0.2.2.1.2) v0.2.2.1] [] (ι := (Option Addr × Nat) × (Option Addr × Nat) × (Option Addr × Nat) × Unit) (fun x => .agg #[.slice x.1.1 r.1.length x.1.2, .slice x.2.1.1 r.2.1.length x.2.1.2, .slice x.2.2.1.1 r.2.2.1.length x.2.2.1.2, .int .i64 (r.2.2.2)]) (fun x => [imm (.slice x.1.1 r.1.length x.1.2) r.1, imm (.slice x.2.1.1 r.2.1.length x.2.1.2) r.2.1, imm (.slice x.2.2.1.1 r.2.2.1.length x.2.2.1.2) r.2.2.1]) (fun _ => []) := by
 refine cof (args := [_]) func215 ntmps215 fun c => ?_
 unfold p_spec_l21Tidy at H
 refine bN aS fun X1 => (bN aS.s.s.s fun X2 => (sr (f1 (cD (t := 76) rfl) fun g3 => (f1 (cE ty76) fun g4 => (nl (sr (f2 (e_lit0r File dY ty80) fun a5 c6 => (aH rfl (nl (aD (sr ?_)))))))))))
 refine aH (v := .int .i64 (0)) rfl (nl (bdo H fun x7 hx8 H => (dC (ι := Option Addr × Nat) (fun ψ => [(1, .pointer (some ⟨g3, 0, none⟩)), (2, .pointer (some ⟨g4, 0, none⟩)), (3, .slice ψ.1 x7.length ψ.2)]) (fun ψ => [box g3 76 [.slice x_v0.1.1 v0.1.length x_v0.1.2, .slice x_v0.2.1.1 v0.2.1.length x_v0.2.1.2, .slice x_v0.2.2.1.1 v0.2.2.1.length x_v0.2.2.1.2, .int .i64 (v0.2.2.2)], box g4 76 [.slice none 0 0, .slice none 0 0, .slice none 0 0, .int .i64 (0)], row (.slice ψ.1 x7.length ψ.2) x7]) ?_ ?_)))
 ·refine aR (dF hx8 (a5, c6) (fun Q11 z12 => [(1, .pointer (some ⟨g3, 0, none⟩)), (2, .pointer (some ⟨g4, 0, none⟩)), (3, .slice z12.1 Q11.1.length z12.2), (4, .int .i64 (Q11.2))]) (fun Q11 z12 => [box g3 76 [.slice x_v0.1.1 v0.1.length x_v0.1.2, .slice x_v0.2.1.1 v0.2.1.length x_v0.2.1.2, .slice x_v0.2.2.1.1 v0.2.2.1.length x_v0.2.2.1.2, .int .i64 (v0.2.2.2)], box g4 76 [.slice none 0 0, .slice none 0 0, .slice none 0 0, .int .i64 (0)], row (.slice z12.1 Q11.1.length z12.2) Q11.1]) (.cons dl2 (.cons dl1 (.cons aA .nil))) ?_)
  rintro _ Q11 z12 t14 H1 hi15 hb16
  unfold p_spec_l21Tidy_b0 at H1
  refine aD (sr (aF rfl (aG (cC fa76_0 rfl rfl) (aI (bJ ty74 rfl aB rfl) (aG (bT 80 dY rfl) (aG (cS rfl rfl) (nl (cH H1 rfl (fun h19 H1 => ?_) (fun h19 H1 => ?_)))))))))
  ·refine bI (nT (aD (aR (aD (dG [(1, .pointer (some ⟨g3, 0, none⟩)), (2, .pointer (some ⟨g4, 0, none⟩)), (3, .slice z12.1 Q11.1.length z12.2), (4, .int .i64 (Q11.2))] mixed (.inr (by kernel_rfl)) ⟨rfl, rfl, rfl, rfl, trivial⟩ rfl (bA (bK ty76 rfl aB rfl) (aY (cC fa76_0 rfl rfl) (bA (bJ ty74 rfl aB rfl) (bC rfl (gdo H1 fun h20 H1 => ?_))))))))))
   refine bA (bX dY ty80 rfl rfl h20 rfl (aM (aU aS.s))) (bA (bZ (j := 0) Q11.2.toNat fa80_0 rfl (aM (aU aS.s)) h20.lt rfl) (bA (cA (i := Q11.2.toNat) (j := 0) ty3 rfl (aM (aU aS.s)) h20.lt rfl) (bdo H1 fun r21 h22 H1 => (bA (bO (c_spec_l21Counts v0 (x_v0.1, x_v0.2.1, x_v0.2.2.1, ()) ((nth v0.1 Q11.2.toNat).1) h22) rfl (aC (aM (aT aS.s)) (aC (aM aS.s.s.s) (aC (aM (aT aS)) aP)))) (nT (cH H1 rfl (fun h23 H1 => ?_) (fun h23 H1 => ?_)))))))
   ·refine aQ (aF rfl (aG (cC fa76_0 rfl rfl) (aI (bJ ty74 rfl aB rfl) (aF rfl (aI (bX dY ty80 rfl rfl h20 rfl (aM (aU aS.s))) (aI (v := .agg #[.int .i64 ((nth v0.1 Q11.2.toNat).1), .slice ((((X1 Q11.2.toNat).2).1).1) ((((nth v0.1 Q11.2.toNat).2).1).length) ((((X1 Q11.2.toNat).2).1).2.1), .slice ((((X1 Q11.2.toNat).2).2).1) ((((nth v0.1 Q11.2.toNat).2).2).length) ((((X1 Q11.2.toNat).2).2).2.1)]) (cB (i := Q11.2.toNat) ty80 rfl (aM (aU aS.s)) h20.lt) (f1 (e_lit (vs := [(0, .agg #[.int .i64 ((nth v0.1 Q11.2.toNat).1), .slice ((((X1 Q11.2.toNat).2).1).1) ((((nth v0.1 Q11.2.toNat).2).1).length) ((((X1 Q11.2.toNat).2).1).2.1), .slice ((((X1 Q11.2.toNat).2).2).1) ((((nth v0.1 Q11.2.toNat).2).2).length) ((((X1 Q11.2.toNat).2).2).2.1)])]) [.int .i64 ((nth v0.1 Q11.2.toNat).1), .slice ((((X1 Q11.2.toNat).2).1).1) ((((nth v0.1 Q11.2.toNat).2).1).length) ((((X1 Q11.2.toNat).2).1).2.1), .slice ((((X1 Q11.2.toNat).2).2).1) ((((nth v0.1 Q11.2.toNat).2).2).length) ((((X1 Q11.2.toNat).2).2).2.1)] dY ty80 rfl (by decide) (by decide) (by kernel_rfl)) fun g24 => (gdo H1 fun h27 H1 => (f2 (e_app1R (l := Q11.1) (α := File) (nth v0.1 Q11.2.toNat) ((), (((((X1 Q11.2.toNat).2).1).1, (((X1 Q11.2.toNat).2).1).2.1), ((((X1 Q11.2.toNat).2).2).1, (((X1 Q11.2.toNat).2).2).2.1))) dY ty80 rfl rfl (h27.b (by decide)) h27.x rfl (.cons dl3 (.cons aA .nil)) (cN (aT (aW (aV (aX aS.s h20.lt)))) (cN (aT (aV (aV (aX aS.s h20.lt)))) cO))) fun a25 c26 => ?_)))))))))
    exact aH rfl (aJ (nB (nT (aQ (aF rfl (gdo H1 fun h28 H1 => (aG (bS rfl rfl h28) (aH rfl (aJ (nLI (a25, c26) (hi15 _ (sm H1)) (.cons dl1 (.cons dl1 (.cons aA .nil)))))))))))))
   ·exact bI (nB (nT (aQ (aF rfl (gdo H1 fun h29 H1 => (aG (bS rfl rfl h29) (aH rfl (aJ (nLI (z12.1, z12.2) (hi15 _ (sm H1)) (.cons aA (.cons aA (.cons aA .nil))))))))))))
  ·refine dB (xT (xT (xE (?_))))
   obtain rfl := hb16 _ (sm H1)
   exact nMC (z12.1, z12.2) ⟨rfl, rfl, rfl, trivial⟩ bU (.cons aA (.cons aA (.cons aA .nil)))
 ·intro y13
  show At _ _ [(1, .pointer (some ⟨g3, 0, none⟩)), (2, .pointer (some ⟨g4, 0, none⟩)), (3, .slice y13.1 x7.length y13.2)] _ [box g3 76 [.slice x_v0.1.1 v0.1.length x_v0.1.2, .slice x_v0.2.1.1 v0.2.1.length x_v0.2.1.2, .slice x_v0.2.2.1.1 v0.2.2.1.length x_v0.2.2.1.2, .int .i64 (v0.2.2.2)], box g4 76 [.slice none 0 0, .slice none 0 0, .slice none 0 0, .int .i64 (0)], row (.slice y13.1 x7.length y13.2) x7] _
  refine nT (sr (aF rfl (aG (cC fa76_0 rfl rfl) (stb (cs' := [.slice y13.1 x7.length y13.2, .slice x_v0.2.1.1 v0.2.1.length x_v0.2.1.2, .slice x_v0.2.2.1.1 v0.2.2.1.length x_v0.2.2.1.2, .int .i64 (v0.2.2.2)]) ty74 cZ (nl (sr (aI (bK ty76 rfl aB rfl) (stb (cs' := [.slice y13.1 x7.length y13.2, .slice x_v0.2.1.1 v0.2.1.length x_v0.2.1.2, .slice x_v0.2.2.1.1 v0.2.2.1.length x_v0.2.2.1.2, .int .i64 (v0.2.2.2)]) ty76 up1 (nl ?_)))))))))
  refine Tr.freezeR (.cons dl2 .nil) (bR ?_)
  obtain rfl := si H
  exact back1 (y13, x_v0.2.1, x_v0.2.2.1, ()) rfl (ResV.agg ty76 rfl hs1 rfl) rfl (cN aS (cN aS.s.s.s.s (cN (aT aS.s) cO))) bL
noncomputable def p_spec_l12Merge_b0 (v0 : Part) (v1 : Part) (Q12 : (List (List Row)) × Int) : Option (((List (List Row)) × Int) ⊕ ((List (List Row)))) := cond (decide (Q12.2 ≤ 6)) (bd (p_spec_l12Of v0 Q12.2) fun r21 => bd (p_spec_l12Of v1 Q12.2) fun r24 => bd (p_spec_l2Merge r21 r24) fun r27 => gd (room (Q12.1.length + 1)) <| gd (I64 (Q12.2 + 1)) <| some (.inl ((Q12.1 ++ [r27]), Q12.2 + 1))) (some (.inr Q12.1))
noncomputable def p_spec_l12Merge (v0 : Part) (v1 : Part) : Option (Part) := bd (lp (p_spec_l12Merge_b0 v0 v1) (([] : List (List Row)), 1)) fun x8 => bd (p_spec_l12Make x8) fun r35 => some r35
theorem c_spec_l12Merge {r : Part} (v0 : Part) (x_v0 : (Option Addr × Nat) × (Option Addr × Nat)) (v1 : Part) (x_v1 : (Option Addr × Nat) × (Option Addr × Nat)) (H : p_spec_l12Merge v0 v1 = some r) : Fn' prog 214 #[.agg #[.slice x_v0.1.1 v0.1.length x_v0.1.2, .slice x_v0.2.1 v0.2.length x_v0.2.2], .agg #[.slice x_v1.1.1 v1.1.length x_v1.1.2, .slice x_v1.2.1 v1.2.length x_v1.2.2]] [imm (.slice x_v0.1.1 v0.1.length x_v0.1.2) v0.1, imm (.slice x_v0.2.1 v0.2.length x_v0.2.2) v0.2, imm (.slice x_v1.1.1 v1.1.length x_v1.1.2) v1.1, imm (.slice x_v1.2.1 v1.2.length x_v1.2.2) v1.2] [] (ι := (Option Addr × Nat) × (Option Addr × Nat)) (fun x => .agg #[.slice x.1.1 r.1.length x.1.2, .slice x.2.1 r.2.length x.2.2]) (fun _ => []) (fun x => [tree (.slice x.1.1 r.1.length x.1.2) r.1, tree (.slice x.2.1 r.2.length x.2.2) r.2]) := by
 refine cof (args := [_, _]) func214 ntmps214 fun c => ?_
 unfold p_spec_l12Merge at H
 refine bN aS.s fun X1 => (bN aS.s.s.s.s fun X2 => (sr (f1 (cD (t := 72) rfl) fun g3 => (f1 (cD (t := 72) rfl) fun g4 => (f1 (cE ty72) fun g5 => (nl (sr (f2 (e_lit0 (List Row) dX ty63) fun a6 c7 => (aH rfl (nl ?_))))))))))
 refine aD (sr (aH (v := .int .i64 (1)) rfl (nl (bdo H fun x8 hx9 H => (dC (ι := Option Addr × Nat) (fun ψ => [(4, .pointer (some ⟨g5, 0, none⟩)), (5, .slice ψ.1 x8.length ψ.2)]) (fun ψ => [box g5 72 [.slice none 0 0, .slice none 0 0], tree (.slice ψ.1 x8.length ψ.2) x8]) ?_ ?_)))))
 ·refine aR (dF hx9 (a6, c7) (fun Q12 z13 => [(2, .pointer (some ⟨g3, 0, none⟩)), (3, .pointer (some ⟨g4, 0, none⟩)), (4, .pointer (some ⟨g5, 0, none⟩)), (5, .slice z13.1 Q12.1.length z13.2), (6, .int .i64 (Q12.2))]) (fun Q12 z13 => [box g3 72 [.slice x_v0.1.1 v0.1.length x_v0.1.2, .slice x_v0.2.1 v0.2.length x_v0.2.2], box g4 72 [.slice x_v1.1.1 v1.1.length x_v1.1.2, .slice x_v1.2.1 v1.2.length x_v1.2.2], box g5 72 [.slice none 0 0, .slice none 0 0], tree (.slice z13.1 Q12.1.length z13.2) Q12.1]) (.cons dl3 (.cons dl2 (.cons dl1 (.cons aA .nil)))) ?_)
  rintro _ Q12 z13 t15 H1 hi16 hb17
  unfold p_spec_l12Merge_b0 at H1
  refine aD (sr (aF rfl (aG (p_leq rfl rfl) (nl (cH H1 rfl (fun h20 H1 => ?_) (fun h20 H1 => ?_))))))
  ·refine bI (nT (aD (aR (tNwL [(2, .pointer (some ⟨g3, 0, none⟩)), (3, .pointer (some ⟨g4, 0, none⟩)), (4, .pointer (some ⟨g5, 0, none⟩)), (5, .slice z13.1 Q12.1.length z13.2), (6, .int .i64 (Q12.2))] 2 [0, 1, 2, 4, 5, 3, 6, 7, 8, 9] [3, 6, 7, 8, 9] [] mixed rfl (by kernel_rfl) (by kernel_rfl) (by decide) dJ ⟨rfl, rfl, rfl, rfl, rfl, trivial⟩ rfl okNil (w_p rfl (aE rfl) ?_)))))
   refine w_o rfl (fun F => (bK ty72 rfl (aB.app F) rfl)) (w_p rfl (aE rfl) ?_)
   refine w_o rfl (fun F => (bK ty72 rfl (hs1.app F) rfl)) (w_p rfl (aE rfl) (bdo H1 fun r21 h22 H1 => (cK rfl (by decide) rfl cP rfl (n_call (c_spec_l12Of v0 x_v0 Q12.2 h22) rfl (cN aS.s.s (cN (aT aS.s) cO)) bL) ?_)))
   rintro _ _ _ ⟨x23, rfl, rfl, rfl⟩
   refine ⟨(bW rfl rfl (fun F => (bK ty72 rfl (hs1.app F) rfl)) (aN (by kernel_rfl) bV)), ?_⟩
   refine bdo H1 fun r24 h25 H1 => (cK rfl (by decide) rfl cP rfl (n_call (c_spec_l12Of v1 x_v1 Q12.2 h25) rfl (cN aS.s.s.s.s.s (cN (aT aS.s) cO)) bL) ?_)
   rintro _ _ _ ⟨x26, rfl, rfl, rfl⟩
   refine ⟨(aN (by kernel_rfl) (aN (by kernel_rfl) bV)), ?_⟩
   refine bdo H1 fun r27 h28 H1 => (cK rfl (by decide) rfl cP rfl (cF (c_spec_l2Merge r21 x23 r24 x26 h28) (fun _ => (bG bH)) rfl (aC (aM aS.s) (aC (aM aS) aP))) ?_)
   rintro _ _ _ ⟨x29, rfl, rfl, rfl⟩
   refine ⟨(aN (by kernel_rfl) (aN (by kernel_rfl) bV)), ?_⟩
   refine cK rfl (by decide) rfl cP rfl (n_lit (vs := [(0, .slice x29.1 r27.length x29.2)]) [.slice x29.1 r27.length x29.2] dX ty63 rfl (by decide) (by decide) (by kernel_rfl)) ?_
   rintro _ _ _ ⟨g30, rfl, rfl, rfl⟩
   refine ⟨(bW rfl rfl (fun F => (bK ty72 rfl (hs3.app F) rfl)) (bW rfl rfl (fun F => (bK ty72 rfl (hs2.app F) rfl)) bV)), ?_⟩
   refine gdo H1 fun h33 H1 => (cK rfl (by decide) rfl cP rfl (n_app1 (l := Q12.1) (α := (List Row)) r27 x29 dX ty63 rfl rfl (h33.b (by decide)) h33.x rfl (cY _) (.cons dl5 (.cons aA (.cons aA .nil)))) ?_)
   rintro _ _ _ ⟨a31, c32, rfl, rfl, rfl⟩
   refine ⟨(bW rfl rfl (fun F => (bK ty72 rfl (hs2.app F) rfl)) (bW rfl rfl (fun F => (bK ty72 rfl (hs1.app F) rfl)) bV)), ?_⟩
   refine cM ?_
   show Rg _ _ _ _ _ _ _ _ _
   exact aH rfl (aJ (nB (nT (aQ (aF rfl (gdo H1 fun h34 H1 => (aG (bS rfl rfl h34) (aH rfl (aJ (nLI (hf := bU.s.s) (a31, c32) (hi16 _ (sm H1)) (.cons dl1 (.cons dl1 (.cons dl1 (.cons aA .nil))))))))))))))
  ·refine dB (xT (xT (xE (?_))))
   obtain rfl := hb17 _ (sm H1)
   exact nMC (z13.1, z13.2) ⟨rfl, rfl, trivial⟩ bU (.cons dl2 (.cons dl2 .nil))
 ·intro y14
  show At _ _ [(4, .pointer (some ⟨g5, 0, none⟩)), (5, .slice y14.1 x8.length y14.2)] _ [box g5 72 [.slice none 0 0, .slice none 0 0], tree (.slice y14.1 x8.length y14.2) x8] _
  refine nT (sr (aF rfl (bdo H fun r35 h36 H => (f1 (cG (c_spec_l12Make x8 y14 h36) (fun _ => (bG (bG bH))) rfl (aC (bM hs1) aP)) fun x37 => (stb (cs' := [.slice x37.1.1 r35.1.length x37.1.2, .slice x37.2.1 r35.2.length x37.2.2]) ty72 up2 (nl (bR ?_)))))))
  obtain rfl := si H
  exact back1 x37 rfl (ResV.agg ty72 rfl hs2 rfl) rfl cO (.cons aA (.cons aA .nil))
noncomputable def p_spec_l21Copy_b0 (v0 : Disk) (Q11 : (List File) × Int) : Option (((List File) × Int) ⊕ ((List File))) := cond (decide (Q11.2 < (v0.1.length : Int))) (gd (ix Q11.2 v0.1.length) <| bd (p_spec_l12Merge ((nth v0.1 Q11.2.toNat).2) (([]), ([]))) fun r21 => gd (room (Q11.1.length + 1)) <| gd (I64 (Q11.2 + 1)) <| some (.inl ((Q11.1 ++ [(((nth v0.1 Q11.2.toNat).1), r21)]), Q11.2 + 1))) (some (.inr Q11.1))
noncomputable def p_spec_l21Copy (v0 : Disk) : Option (Disk) := bd (lp (p_spec_l21Copy_b0 v0) (([] : List File), 0)) fun x7 => gd (room (([] : List Int).length + v0.2.1.length)) <| bd (p_spec_l11Names v0.2.2.1) fun r34 => some (x7, (([] : List Int) ++ v0.2.1), r34, v0.2.2.2)
theorem c_spec_l21Copy {r : Disk} (v0 : Disk) (x_v0 : (Option Addr × Nat) × (Option Addr × Nat) × (Option Addr × Nat) × Unit) (H : p_spec_l21Copy v0 = some r) : Fn' prog 200 #[.agg #[.slice x_v0.1.1 v0.1.length x_v0.1.2, .slice x_v0.2.1.1 v0.2.1.length x_v0.2.1.2, .slice x_v0.2.2.1.1 v0.2.2.1.length x_v0.2.2.1.2, .int .i64 (v0.2.2.2)]] [imm (.slice x_v0.1.1 v0.1.length x_v0.1.2) v0.1, imm (.slice x_v0.2.1.1 v0.2.1.length x_v0.2.1.2) v0.2.1, imm (.slice x_v0.2.2.1.1 v0.2.2.1.length x_v0.2.2.1.2) v0.2.2.1] [] (ι := (Option Addr × Nat) × (Option Addr × Nat) × (Option Addr × Nat) × Unit) (fun x => .agg #[.slice x.1.1 r.1.length x.1.2, .slice x.2.1.1 r.2.1.length x.2.1.2, .slice x.2.2.1.1 r.2.2.1.length x.2.2.1.2, .int .i64 (r.2.2.2)]) (fun _ => []) (fun x => [tree (.slice x.1.1 r.1.length x.1.2) r.1, tree (.slice x.2.1.1 r.2.1.length x.2.1.2) r.2.1, tree (.slice x.2.2.1.1 r.2.2.1.length x.2.2.1.2) r.2.2.1]) := by
 refine cof (args := [_]) func200 ntmps200 fun c => ?_
 unfold p_spec_l21Copy at H
 refine bN aS fun X1 => (bN aS.s.s.s fun X2 => (sr (f1 (cD (t := 76) rfl) fun g3 => (f1 (cE ty76) fun g4 => (nl (sr (f2 (e_lit0 File dY ty80) fun a5 c6 => (aH rfl (nl (aD (sr ?_)))))))))))
 refine aH (v := .int .i64 (0)) rfl (nl (bdo H fun x7 hx8 H => (dC (ι := Option Addr × Nat) (fun ψ => [(1, .pointer (some ⟨g3, 0, none⟩)), (2, .pointer (some ⟨g4, 0, none⟩)), (3, .slice ψ.1 x7.length ψ.2)]) (fun ψ => [box g3 76 [.slice x_v0.1.1 v0.1.length x_v0.1.2, .slice x_v0.2.1.1 v0.2.1.length x_v0.2.1.2, .slice x_v0.2.2.1.1 v0.2.2.1.length x_v0.2.2.1.2, .int .i64 (v0.2.2.2)], box g4 76 [.slice none 0 0, .slice none 0 0, .slice none 0 0, .int .i64 (0)], tree (.slice ψ.1 x7.length ψ.2) x7]) ?_ ?_)))
 ·refine aR (dF hx8 (a5, c6) (fun Q11 z12 => [(1, .pointer (some ⟨g3, 0, none⟩)), (2, .pointer (some ⟨g4, 0, none⟩)), (3, .slice z12.1 Q11.1.length z12.2), (4, .int .i64 (Q11.2))]) (fun Q11 z12 => [box g3 76 [.slice x_v0.1.1 v0.1.length x_v0.1.2, .slice x_v0.2.1.1 v0.2.1.length x_v0.2.1.2, .slice x_v0.2.2.1.1 v0.2.2.1.length x_v0.2.2.1.2, .int .i64 (v0.2.2.2)], box g4 76 [.slice none 0 0, .slice none 0 0, .slice none 0 0, .int .i64 (0)], tree (.slice z12.1 Q11.1.length z12.2) Q11.1]) (.cons dl2 (.cons dl1 (.cons aA .nil))) ?_)
  rintro _ Q11 z12 t14 H1 hi15 hb16
  unfold p_spec_l21Copy_b0 at H1
  refine aD (sr (aF rfl (aG (cC fa76_0 rfl rfl) (aI (bJ ty74 rfl aB rfl) (aG (bT 80 dY rfl) (aG (cS rfl rfl) (nl (cH H1 rfl (fun h19 H1 => ?_) (fun h19 H1 => ?_)))))))))
  ·refine bI (nT (aD (aR (tNwL [(1, .pointer (some ⟨g3, 0, none⟩)), (2, .pointer (some ⟨g4, 0, none⟩)), (3, .slice z12.1 Q11.1.length z12.2), (4, .int .i64 (Q11.2))] 2 [0, 1, 2, 3, 4, 5, 6, 7, 8, 9, 10, 11, 12, 13, 14, 15, 16, 17] [14, 16, 17] [] mixed rfl (by kernel_rfl) (by kernel_rfl) (by decide) dJ ⟨rfl, rfl, rfl, rfl, trivial⟩ rfl okNil (w_p rfl (aE rfl) (w_p rfl (cC fa76_0 rfl rfl) ?_))))))
   refine w_o rfl (fun F => (bJ ty74 rfl (aB.app F) rfl)) (w_p rfl (aE rfl) (gdo H1 fun h20 H1 => ?_))
   refine w_o rfl (fun F => (bX dY ty80 rfl rfl h20 rfl (aM (aU aS.s)))) ?_
   refine w_o rfl (fun F => (bZ (j := 0) Q11.2.toNat fa80_0 rfl (aM (aU aS.s)) h20.lt rfl)) ?_
   refine w_o rfl (fun F => (cA (i := Q11.2.toNat) (j := 0) ty3 rfl (aM (aU aS.s)) h20.lt rfl)) (w_p rfl (cC fa76_0 rfl rfl) ?_)
   refine w_o rfl (fun F => (bJ ty74 rfl (aB.app F) rfl)) (w_p rfl (aE rfl) ?_)
   refine w_o rfl (fun F => (bX dY ty80 rfl rfl h20 rfl (aM (aU aS.s)))) ?_
   refine w_o rfl (fun F => (bZ (j := 0) Q11.2.toNat fa80_1 rfl (aM (aU aS.s)) h20.lt rfl)) ?_
   refine w_o (v := .agg #[.slice ((((X1 Q11.2.toNat).2).1).1) ((((nth v0.1 Q11.2.toNat).2).1).length) ((((X1 Q11.2.toNat).2).1).2.1), .slice ((((X1 Q11.2.toNat).2).2).1) ((((nth v0.1 Q11.2.toNat).2).2).length) ((((X1 Q11.2.toNat).2).2).2.1)]) rfl (fun F => (q_ldeP [.slice ((((X1 Q11.2.toNat).2).1).1) ((((nth v0.1 Q11.2.toNat).2).1).length) ((((X1 Q11.2.toNat).2).1).2.1), .slice ((((X1 Q11.2.toNat).2).2).1) ((((nth v0.1 Q11.2.toNat).2).2).length) ((((X1 Q11.2.toNat).2).2).2.1)] (l := v0.1) (E := fun i => Dp.denc (nth v0.1 i) (X1 i)) (oa := x_v0.1.1) (i := Q11.2.toNat) (j := 1) ty72 rfl (aM (aU aS.s)) h20.lt rfl rfl)) (w_p (v := .agg #[.slice none 0 0, .slice none 0 0]) rfl (p_buildS (vs := []) (cs := #[.slice none 0 0, .slice none 0 0]) ty72 pl72 rfl rfl) (bdo H1 fun r21 h22 H1 => (cK rfl (by decide) rfl cP rfl (cF (c_spec_l12Merge ((nth v0.1 Q11.2.toNat).2) (((((X1 Q11.2.toNat).2).1).1, (((X1 Q11.2.toNat).2).1).2.1), ((((X1 Q11.2.toNat).2).2).1, (((X1 Q11.2.toNat).2).2).2.1)) (([]), ([])) ((none, 0), (none, 0)) h22) (fun _ => (bG (bG bH))) rfl (aC (aM (aT (aW (aV (aX aS.s h20.lt))))) (aC (aM (aT (aV (aV (aX aS.s h20.lt))))) (aC (aM Ent.nil0) (aC (aM Ent.nil0) aP))))) ?_)))
   rintro _ _ _ ⟨x23, rfl, rfl, rfl⟩
   refine ⟨(aN (by kernel_rfl) (aN (by kernel_rfl) (bW rfl rfl (fun F => (bX dY ty80 rfl rfl h20 rfl (aM (aU aS.s)))) (bW rfl rfl (fun F => (bJ ty74 rfl (hs2.app F) rfl)) (bW rfl rfl (fun F => (cA (i := Q11.2.toNat) (j := 0) ty3 rfl (aM (aU aS.s)) h20.lt rfl)) (bW rfl rfl (fun F => (bZ (j := 0) Q11.2.toNat fa80_0 rfl (aM (aU aS.s)) h20.lt rfl)) (bW rfl rfl (fun F => (bX dY ty80 rfl rfl h20 rfl (aM (aU aS.s)))) (bW rfl rfl (fun F => (bJ ty74 rfl (hs2.app F) rfl)) bV)))))))), ?_⟩
   refine w_p (v := .agg #[.int .i64 ((nth v0.1 Q11.2.toNat).1), .slice x23.1.1 r21.1.length x23.1.2, .slice x23.2.1 r21.2.length x23.2.2]) rfl (p_buildS (vs := [(0, .int .i64 ((nth v0.1 Q11.2.toNat).1)), (1, .agg #[.slice x23.1.1 r21.1.length x23.1.2, .slice x23.2.1 r21.2.length x23.2.2])]) (cs := #[.int .i64 ((nth v0.1 Q11.2.toNat).1), .slice x23.1.1 r21.1.length x23.1.2, .slice x23.2.1 r21.2.length x23.2.2]) ty80 pl80 rfl rfl) (cK rfl (by decide) rfl cP rfl (n_lit (vs := [(0, .agg #[.int .i64 ((nth v0.1 Q11.2.toNat).1), .slice x23.1.1 r21.1.length x23.1.2, .slice x23.2.1 r21.2.length x23.2.2])]) [.int .i64 ((nth v0.1 Q11.2.toNat).1), .slice x23.1.1 r21.1.length x23.1.2, .slice x23.2.1 r21.2.length x23.2.2] dY ty80 rfl (by decide) (by decide) (by kernel_rfl)) ?_)
   rintro _ _ _ ⟨g24, rfl, rfl, rfl⟩
   refine ⟨(bW rfl rfl (fun F => (q_ldeP [.slice ((((X1 Q11.2.toNat).2).1).1) ((((nth v0.1 Q11.2.toNat).2).1).length) ((((X1 Q11.2.toNat).2).1).2.1), .slice ((((X1 Q11.2.toNat).2).2).1) ((((nth v0.1 Q11.2.toNat).2).2).length) ((((X1 Q11.2.toNat).2).2).2.1)] (l := v0.1) (E := fun i => Dp.denc (nth v0.1 i) (X1 i)) (oa := x_v0.1.1) (i := Q11.2.toNat) (j := 1) ty72 rfl (aM (aU aS.s)) h20.lt rfl rfl)) (bW rfl rfl (fun F => (bZ (j := 0) Q11.2.toNat fa80_1 rfl (aM (aU aS.s)) h20.lt rfl)) (bW rfl rfl (fun F => (bX dY ty80 rfl rfl h20 rfl (aM (aU aS.s)))) (bW rfl rfl (fun F => (bJ ty74 rfl (hs3.app F) rfl)) (aN (by kernel_rfl) (bW rfl rfl (fun F => (bZ (j := 0) Q11.2.toNat fa80_0 rfl (aM (aU aS.s)) h20.lt rfl)) (bW rfl rfl (fun F => (bX dY ty80 rfl rfl h20 rfl (aM (aU aS.s)))) (bW rfl rfl (fun F => (bJ ty74 rfl (hs3.app F) rfl)) bV)))))))), ?_⟩
   refine gdo H1 fun h27 H1 => (cK rfl (by decide) rfl cP rfl (n_app1 (l := Q11.1) (α := File) (((nth v0.1 Q11.2.toNat).1), r21) ((), x23) dY ty80 rfl rfl (h27.b (by decide)) h27.x rfl (cY _) (.cons dl5 (.cons aA (.cons aA (.cons aA .nil))))) ?_)
   rintro _ _ _ ⟨a25, c26, rfl, rfl, rfl⟩
   refine ⟨(aN (by kernel_rfl) (bW rfl rfl (fun F => (bZ (j := 0) Q11.2.toNat fa80_1 rfl (aM (aU aS.s)) h20.lt rfl)) (bW rfl rfl (fun F => (bX dY ty80 rfl rfl h20 rfl (aM (aU aS.s)))) (bW rfl rfl (fun F => (bJ ty74 rfl (hs1.app F) rfl)) (bW rfl rfl (fun F => (cA (i := Q11.2.toNat) (j := 0) ty3 rfl (aM (aU aS.s)) h20.lt rfl)) (bW rfl rfl (fun F => (bZ (j := 0) Q11.2.toNat fa80_0 rfl (aM (aU aS.s)) h20.lt rfl)) (bW rfl rfl (fun F => (bX dY ty80 rfl rfl h20 rfl (aM (aU aS.s)))) (bW rfl rfl (fun F => (bJ ty74 rfl (hs1.app F) rfl)) bV)))))))), ?_⟩
   refine cM ?_
   show Rg _ _ _ _ _ _ _ _ _
   exact aH rfl (aJ (nB (nT (aQ (aF rfl (gdo H1 fun h28 H1 => (aG (bS rfl rfl h28) (aH rfl (aJ (nLI (a25, c26) (hi15 _ (sm H1)) (.cons dl1 (.cons dl1 (.cons aA .nil)))))))))))))
  ·refine dB (xT (xT (xE (?_))))
   obtain rfl := hb16 _ (sm H1)
   exact nMC (z12.1, z12.2) ⟨rfl, rfl, rfl, trivial⟩ bU (.cons aA (.cons aA (.cons aA .nil)))
 ·intro y13
  show At _ _ [(1, .pointer (some ⟨g3, 0, none⟩)), (2, .pointer (some ⟨g4, 0, none⟩)), (3, .slice y13.1 x7.length y13.2)] _ [box g3 76 [.slice x_v0.1.1 v0.1.length x_v0.1.2, .slice x_v0.2.1.1 v0.2.1.length x_v0.2.1.2, .slice x_v0.2.2.1.1 v0.2.2.1.length x_v0.2.2.1.2, .int .i64 (v0.2.2.2)], box g4 76 [.slice none 0 0, .slice none 0 0, .slice none 0 0, .int .i64 (0)], tree (.slice y13.1 x7.length y13.2) x7] _
  refine nT (aD (dH [(1, .pointer (some ⟨g3, 0, none⟩)), (2, .pointer (some ⟨g4, 0, none⟩)), (3, .slice y13.1 x7.length y13.2)] 2 [0, 2, 3, 5, 6, 8, 9, 1, 4, 7, 10, 11] [1, 4, 7, 11] [] mixed (by kernel_rfl) (by decide) dJ ⟨rfl, rfl, rfl, trivial⟩ rfl okNil (w_p rfl (aE rfl) (w_p rfl (cC fa76_1 rfl rfl) ?_))))
  refine w_o rfl (fun F => (bJ ty69 rfl (aB.app F) rfl)) (w_p rfl (cC fa76_2 rfl rfl) ?_)
  refine w_o rfl (fun F => (bJ ty35 rfl (aB.app F) rfl)) (w_p rfl (cC fa76_3 rfl rfl) ?_)
  refine w_o rfl (fun F => (bJ ty3 rfl (aB.app F) rfl)) (cK rfl (by decide) rfl cP rfl (n_lit0 Int dW ty3) ?_)
  rintro _ _ _ ⟨a29, c30, rfl, rfl, rfl⟩
  refine ⟨(bW rfl rfl (fun F => (bJ ty3 rfl (hs1.app F) rfl)) (bW rfl rfl (fun F => (bJ ty35 rfl (hs1.app F) rfl)) (bW rfl rfl (fun F => (bJ ty69 rfl (hs1.app F) rfl)) bV))), ?_⟩
  refine gdo H fun h33 H => (cK rfl (by decide) rfl cP rfl (n_appF (l := ([] : List Int)) (k := v0.2.1) (α := Int) dW ty3 rfl rfl (h33.b (by decide)) h33.x (.cons aA .nil) (aM aS.s.s.s)) ?_)
  rintro _ _ _ ⟨a31, c32, rfl, rfl, rfl⟩
  refine ⟨(bW rfl rfl (fun F => (bJ ty3 rfl (hs1.app F) rfl)) (bW rfl rfl (fun F => (bJ ty35 rfl (hs1.app F) rfl)) (aN (by kernel_rfl) bV))), ?_⟩
  refine bdo H fun r34 h35 H => (cK rfl (by decide) rfl cP rfl (cF (c_spec_l11Names v0.2.2.1 x_v0.2.2.1 h35) (fun _ => (bG bH)) rfl (aC (aM (aT aS)) aP)) ?_)
  rintro _ _ _ ⟨x36, rfl, rfl, rfl⟩
  refine ⟨(bW rfl rfl (fun F => (bJ ty3 rfl (hs2.app F) rfl)) (aN (by kernel_rfl) (aN (by kernel_rfl) bV))), ?_⟩
  refine w_p (v := .agg #[.slice y13.1 x7.length y13.2, .slice a31 ((([] : List Int) ++ v0.2.1).length) c32, .slice x36.1 r34.length x36.2, .int .i64 (v0.2.2.2)]) rfl (p_buildS (vs := [(0, .slice y13.1 x7.length y13.2), (1, .slice a31 ((([] : List Int) ++ v0.2.1).length) c32), (2, .slice x36.1 r34.length x36.2), (3, .int .i64 (v0.2.2.2))]) (cs := #[.slice y13.1 x7.length y13.2, .slice a31 ((([] : List Int) ++ v0.2.1).length) c32, .slice x36.1 r34.length x36.2, .int .i64 (v0.2.2.2)]) ty76 pl76 rfl rfl) (cL rfl rfl cP rfl (n_store (cs' := [.slice y13.1 x7.length y13.2, .slice a31 ((([] : List Int) ++ v0.2.1).length) c32, .slice x36.1 r34.length x36.2, .int .i64 (v0.2.2.2)]) ty76 rfl rfl up3 rfl (one_of rfl) (Nat.le_of_ble_eq_true rfl) rfl) ?_)
  rintro _ _ _ ⟨rfl, rfl, rfl⟩
  refine ⟨(aN (by kernel_rfl) (aN (by kernel_rfl) (aN (by kernel_rfl) bV))), ?_⟩
  refine cM (nT (bR ?_))
  obtain rfl := si H
  exact back1 (y13, (a31, c32), x36, ()) rfl (ResV.agg ty76 rfl hs3 rfl) rfl cO (.cons dl4 (.cons dl1 (.cons aA .nil)))
noncomputable def p_spec_l21Open_b0 (v0 : Disk) (Q17 : (List Part) × Int) : Option (((List Part) × Int) ⊕ ((List Part))) := cond (decide (Q17.2 < (v0.2.1.length : Int))) (gd (ix Q17.2 v0.2.1.length) <| bd (p_spec_l21At v0 (nth v0.2.1 Q17.2.toNat)) fun r27 => gd (ix r27 v0.1.length) <| gd (room (Q17.1.length + 1)) <| gd (I64 (Q17.2 + 1)) <| some (.inl ((Q17.1 ++ [(nth v0.1 r27.toNat).2]), Q17.2 + 1))) (some (.inr Q17.1))
noncomputable def p_spec_l21Open (v0 : Disk) : Option (Store) := bd (p_spec_l11Of v0.2.2.1) fun r5 => bd (lp (p_spec_l21Open_b0 v0) (([] : List Part), 0)) fun x13 => some (r5, x13, ([] : List Sample))
theorem c_spec_l21Open {r : Store} (v0 : Disk) (x_v0 : (Option Addr × Nat) × (Option Addr × Nat) × (Option Addr × Nat) × Unit) (H : p_spec_l21Open v0 = some r) : Fn' prog 87 #[.agg #[.slice x_v0.1.1 v0.1.length x_v0.1.2, .slice x_v0.2.1.1 v0.2.1.length x_v0.2.1.2, .slice x_v0.2.2.1.1 v0.2.2.1.length x_v0.2.2.1.2, .int .i64 (v0.2.2.2)]] [imm (.slice x_v0.1.1 v0.1.length x_v0.1.2) v0.1, imm (.slice x_v0.2.1.1 v0.2.1.length x_v0.2.1.2) v0.2.1, imm (.slice x_v0.2.2.1.1 v0.2.2.1.length x_v0.2.2.1.2) v0.2.2.1] [] (ι := ((Option Addr × Nat) × (Option Addr × Nat)) × (Option Addr × Nat) × (Option Addr × Nat)) (fun x => .agg #[.slice x.1.1.1 r.1.1.length x.1.1.2, .slice x.1.2.1 r.1.2.length x.1.2.2, .slice x.2.1.1 r.2.1.length x.2.1.2, .slice x.2.2.1 r.2.2.length x.2.2.2]) (fun x => [imm (.slice x.1.1.1 r.1.1.length x.1.1.2) r.1.1, imm (.slice x.1.2.1 r.1.2.length x.1.2.2) r.1.2, imm (.slice x.2.1.1 r.2.1.length x.2.1.2) r.2.1, imm (.slice x.2.2.1 r.2.2.length x.2.2.2) r.2.2]) (fun _ => []) := by
 refine cof (args := [_]) func87 ntmps87 fun c => ?_
 unfold p_spec_l21Open at H
 refine bN aS fun X1 => (bN aS.s.s.s fun X2 => (sr (f1 (cD (t := 76) rfl) fun g3 => (f1 (cE ty42) fun g4 => (nl (sr (aG (cC fa76_2 rfl rfl) (aI (bJ ty35 rfl hs1 rfl) (bdo H fun r5 h6 H => ?_)))))))))
 refine f1 (cG (c_spec_l11Of v0.2.2.1 x_v0.2.2.1 h6) (fun _ => (bG (bG bH))) rfl (aC (aM (aT aS)) aP)) fun x7 => (f2 (e_lit0r Part dQ ty72) fun a8 c9 => (f2 (e_lit0 Sample dR ty59) fun a10 c11 => (aG (v := .agg #[.slice x7.1.1 r5.1.length x7.1.2, .slice x7.2.1 r5.2.length x7.2.2, .slice a8 (([] : List Part).length) c9, .slice a10 (([] : List Sample).length) c11]) (p_buildS (vs := [(0, .agg #[.slice x7.1.1 r5.1.length x7.1.2, .slice x7.2.1 r5.2.length x7.2.2]), (1, .slice a8 (([] : List Part).length) c9), (2, .slice a10 (([] : List Sample).length) c11)]) (cs := #[.slice x7.1.1 r5.1.length x7.1.2, .slice x7.2.1 r5.2.length x7.2.2, .slice a8 (([] : List Part).length) c9, .slice a10 (([] : List Sample).length) c11]) ty42 pl42 rfl rfl) (f1 (cE ty42) fun g12 => (stb (cs' := [.slice x7.1.1 r5.1.length x7.1.2, .slice x7.2.1 r5.2.length x7.2.2, .slice a8 (([] : List Part).length) c9, .slice a10 (([] : List Sample).length) c11]) ty42 cZ (nl (aD (sr (aH (v := .int .i64 (0)) rfl (nl (bdo H fun x13 hx14 H => ?_)))))))))))
 refine dC (ι := Option Addr × Nat) (fun ψ => [(2, .pointer (some ⟨g4, 0, none⟩)), (3, .pointer (some ⟨g12, 0, none⟩))]) (fun ψ => [box g4 42 [.slice none 0 0, .slice none 0 0, .slice none 0 0, .slice none 0 0], tree (.slice x7.1.1 r5.1.length x7.1.2) r5.1, tree (.slice x7.2.1 r5.2.length x7.2.2) r5.2, row (.slice ψ.1 x13.length ψ.2) x13, tree (.slice a10 (([] : List Sample).length) c11) ([] : List Sample), box g12 42 [.slice x7.1.1 r5.1.length x7.1.2, .slice x7.2.1 r5.2.length x7.2.2, .slice ψ.1 x13.length ψ.2, .slice a10 (([] : List Sample).length) c11]]) ?_ ?_
 ·refine aR (dF hx14 (a8, c9) (fun Q17 _ => [(1, .pointer (some ⟨g3, 0, none⟩)), (2, .pointer (some ⟨g4, 0, none⟩)), (3, .pointer (some ⟨g12, 0, none⟩)), (4, .int .i64 (Q17.2))]) (fun Q17 z18 => [box g3 76 [.slice x_v0.1.1 v0.1.length x_v0.1.2, .slice x_v0.2.1.1 v0.2.1.length x_v0.2.1.2, .slice x_v0.2.2.1.1 v0.2.2.1.length x_v0.2.2.1.2, .int .i64 (v0.2.2.2)], box g4 42 [.slice none 0 0, .slice none 0 0, .slice none 0 0, .slice none 0 0], tree (.slice x7.1.1 r5.1.length x7.1.2) r5.1, tree (.slice x7.2.1 r5.2.length x7.2.2) r5.2, row (.slice z18.1 Q17.1.length z18.2) Q17.1, tree (.slice a10 (([] : List Sample).length) c11) ([] : List Sample), box g12 42 [.slice x7.1.1 r5.1.length x7.1.2, .slice x7.2.1 r5.2.length x7.2.2, .slice z18.1 Q17.1.length z18.2, .slice a10 (([] : List Sample).length) c11]]) (.cons (dl5t dl1) (.cons dl5 (.cons dl3 (.cons dl3 (.cons dl2 (.cons dl1 (.cons aA .nil))))))) ?_)
  rintro _ Q17 z18 t20 H1 hi21 hb22
  unfold p_spec_l21Open_b0 at H1
  refine aD (sr (aF rfl (aG (cC fa76_1 rfl rfl) (aI (bJ ty69 rfl aB rfl) (aG (bT 3 dW rfl) (aG (cS rfl rfl) (nl (cH H1 rfl (fun h25 H1 => ?_) (fun h25 H1 => ?_)))))))))
  ·refine bI (nT (aD (aR (dH [(1, .pointer (some ⟨g3, 0, none⟩)), (2, .pointer (some ⟨g4, 0, none⟩)), (3, .pointer (some ⟨g12, 0, none⟩)), (4, .int .i64 (Q17.2))] 1 [0, 1, 2, 3, 4, 5, 6, 7, 8, 9, 10, 11, 12, 13, 14, 15, 16, 17] [14, 15, 17] [] mixed (by kernel_rfl) (by decide) dJ ⟨rfl, rfl, rfl, rfl, trivial⟩ rfl okNil (w_p rfl (cC fa42_1 rfl rfl) ?_)))))
   refine w_o rfl (fun F => (bJ ty39 rfl ((hs5t hs1).app F) rfl)) (w_p rfl (cC fa76_0 rfl rfl) ?_)
   refine w_o rfl (fun F => (bJ ty74 rfl (aB.app F) rfl)) ?_
   refine w_o rfl (fun F => (bK ty76 rfl (aB.app F) rfl)) (w_p rfl (cC fa76_1 rfl rfl) ?_)
   refine w_o rfl (fun F => (bJ ty69 rfl (aB.app F) rfl)) (w_p rfl (aE rfl) (gdo H1 fun h26 H1 => ?_))
   refine w_o rfl (fun F => (bX dW ty3 rfl rfl h26 rfl (aO (aM aS.s.s.s)))) ?_
   refine w_o rfl (fun F => (cA (i := Q17.2.toNat) (j := 0) ty3 rfl (aO (aM aS.s.s.s)) h26.lt rfl)) (bdo H1 fun r27 h28 H1 => ?_)
   refine w_o rfl (fun F => (bO (c_spec_l21At v0 (x_v0.1, x_v0.2.1, x_v0.2.2.1, ()) (nth v0.2.1 Q17.2.toNat) h28) rfl (aC (aM (aT aS.s)) (aC (aM aS.s.s.s) (aC (aM (aT aS)) aP))))) (gdo H1 fun h29 H1 => ?_)
   refine w_o rfl (fun F => (bX dY ty80 rfl rfl h29 rfl (aM (aU aS.s)))) ?_
   refine w_o rfl (fun F => (bZ (j := 0) r27.toNat fa80_1 rfl (aM (aU aS.s)) h29.lt rfl)) ?_
   refine w_o (v := .agg #[.slice ((((X1 r27.toNat).2).1).1) ((((nth v0.1 r27.toNat).2).1).length) ((((X1 r27.toNat).2).1).2.1), .slice ((((X1 r27.toNat).2).2).1) ((((nth v0.1 r27.toNat).2).2).length) ((((X1 r27.toNat).2).2).2.1)]) rfl (fun F => (q_ldeP [.slice ((((X1 r27.toNat).2).1).1) ((((nth v0.1 r27.toNat).2).1).length) ((((X1 r27.toNat).2).1).2.1), .slice ((((X1 r27.toNat).2).2).1) ((((nth v0.1 r27.toNat).2).2).length) ((((X1 r27.toNat).2).2).2.1)] (l := v0.1) (E := fun i => Dp.denc (nth v0.1 i) (X1 i)) (oa := x_v0.1.1) (i := r27.toNat) (j := 1) ty72 rfl (aM (aU aS.s)) h29.lt rfl rfl)) (cK rfl (by decide) rfl cP rfl (n_lit (vs := [(0, .agg #[.slice ((((X1 r27.toNat).2).1).1) ((((nth v0.1 r27.toNat).2).1).length) ((((X1 r27.toNat).2).1).2.1), .slice ((((X1 r27.toNat).2).2).1) ((((nth v0.1 r27.toNat).2).2).length) ((((X1 r27.toNat).2).2).2.1)])]) [.slice ((((X1 r27.toNat).2).1).1) ((((nth v0.1 r27.toNat).2).1).length) ((((X1 r27.toNat).2).1).2.1), .slice ((((X1 r27.toNat).2).2).1) ((((nth v0.1 r27.toNat).2).2).length) ((((X1 r27.toNat).2).2).2.1)] dQ ty72 rfl (by decide) (by decide) (by kernel_rfl)) ?_)
   rintro _ _ _ ⟨g30, rfl, rfl, rfl⟩
   refine ⟨(aN (by kernel_rfl) (bW rfl rfl (fun F => (bZ (j := 0) r27.toNat fa80_1 rfl (aM (aU aS.s)) h29.lt rfl)) (bW rfl rfl (fun F => (bX dY ty80 rfl rfl h29 rfl (aM (aU aS.s)))) (bW rfl rfl (fun F => (bO (c_spec_l21At v0 (x_v0.1, x_v0.2.1, x_v0.2.2.1, ()) (nth v0.2.1 Q17.2.toNat) h28) rfl (aC (aM (aT aS.s)) (aC (aM aS.s.s.s) (aC (aM (aT aS)) aP))))) (bW rfl rfl (fun F => (cA (i := Q17.2.toNat) (j := 0) ty3 rfl (aO (aM aS.s.s.s)) h26.lt rfl)) (bW rfl rfl (fun F => (bX dW ty3 rfl rfl h26 rfl (aO (aM aS.s.s.s)))) (bW rfl rfl (fun F => (bJ ty69 rfl (hs1.app F) rfl)) (bW rfl rfl (fun F => (bK ty76 rfl (hs1.app F) rfl)) (bW rfl rfl (fun F => (bJ ty74 rfl (hs1.app F) rfl)) (bW rfl rfl (fun F => (bJ ty39 rfl ((hs5t hs2).app F) rfl)) bV)))))))))), ?_⟩
   refine gdo H1 fun h33 H1 => (cK rfl (by decide) rfl cP rfl (n_app1R (l := Q17.1) (α := Part) ((nth v0.1 r27.toNat).2) (((((X1 r27.toNat).2).1).1, (((X1 r27.toNat).2).1).2.1), ((((X1 r27.toNat).2).2).1, (((X1 r27.toNat).2).2).2.1)) dQ ty72 rfl rfl (h33.b (by decide)) h33.x rfl (.cons dl5 (.cons aA .nil)) (cN (aT (aW (aV (aX aS.s h29.lt)))) (cN (aT (aV (aV (aX aS.s h29.lt)))) cO))) ?_)
   rintro _ _ _ ⟨a31, c32, rfl, rfl, rfl⟩
   refine ⟨(bW rfl rfl (fun F => (q_ldeP [.slice ((((X1 r27.toNat).2).1).1) ((((nth v0.1 r27.toNat).2).1).length) ((((X1 r27.toNat).2).1).2.1), .slice ((((X1 r27.toNat).2).2).1) ((((nth v0.1 r27.toNat).2).2).length) ((((X1 r27.toNat).2).2).2.1)] (l := v0.1) (E := fun i => Dp.denc (nth v0.1 i) (X1 i)) (oa := x_v0.1.1) (i := r27.toNat) (j := 1) ty72 rfl (aM (aU aS.s)) h29.lt rfl rfl)) (bW rfl rfl (fun F => (bZ (j := 0) r27.toNat fa80_1 rfl (aM (aU aS.s)) h29.lt rfl)) (bW rfl rfl (fun F => (bX dY ty80 rfl rfl h29 rfl (aM (aU aS.s)))) (aN (by kernel_rfl) (bW rfl rfl (fun F => (cA (i := Q17.2.toNat) (j := 0) ty3 rfl (aO (aM aS.s.s.s)) h26.lt rfl)) (bW rfl rfl (fun F => (bX dW ty3 rfl rfl h26 rfl (aO (aM aS.s.s.s)))) (bW rfl rfl (fun F => (bJ ty69 rfl (hs1.app F) rfl)) (bW rfl rfl (fun F => (bK ty76 rfl (hs1.app F) rfl)) (bW rfl rfl (fun F => (bJ ty74 rfl (hs1.app F) rfl)) (aN (by kernel_rfl) bV)))))))))), ?_⟩
   refine w_p rfl (cC fa42_1 rfl rfl) (cL rfl rfl cP rfl (n_store (cs' := [.slice x7.1.1 r5.1.length x7.1.2, .slice x7.2.1 r5.2.length x7.2.2, .slice a31 ((Q17.1 ++ [(nth v0.1 r27.toNat).2]).length) c32, .slice a10 (([] : List Sample).length) c11]) ty39 rfl rfl (up5t up1) rfl (one_of rfl) (Nat.le_of_ble_eq_true rfl) rfl) ?_)
   rintro _ _ _ ⟨rfl, rfl, rfl⟩
   refine ⟨(aN (by kernel_rfl) (aN (by kernel_rfl) (aN (by kernel_rfl) (aN (by kernel_rfl) (aN (by kernel_rfl) (aN (by kernel_rfl) (aN (by kernel_rfl) (aN (by kernel_rfl) (aN (by kernel_rfl) (aN (by kernel_rfl) bV)))))))))), ?_⟩
   refine cM ?_
   show At _ _ _ _ _ _
   exact nB (nT (aQ (aF rfl (gdo H1 fun h34 H1 => (aG (bS rfl rfl h34) (aH rfl (aJ (nLI (a31, c32) (hi21 _ (sm H1)) (.cons dl1 (.cons dl1 (.cons dl1 (.cons dl1 (.cons aA (.cons aA (.cons aA .nil)))))))))))))))
  ·refine dB (xT (xT (xE (?_))))
   obtain rfl := hb22 _ (sm H1)
   exact nMC (z18.1, z18.2) ⟨rfl, rfl, trivial⟩ bU (.cons dl1 (.cons dl1 (.cons dl1 (.cons dl1 (.cons dl1 (.cons dl1 .nil))))))
 ·intro y19
  show At _ _ [(2, .pointer (some ⟨g4, 0, none⟩)), (3, .pointer (some ⟨g12, 0, none⟩))] _ [box g4 42 [.slice none 0 0, .slice none 0 0, .slice none 0 0, .slice none 0 0], tree (.slice x7.1.1 r5.1.length x7.1.2) r5.1, tree (.slice x7.2.1 r5.2.length x7.2.2) r5.2, row (.slice y19.1 x13.length y19.2) x13, tree (.slice a10 (([] : List Sample).length) c11) ([] : List Sample), box g12 42 [.slice x7.1.1 r5.1.length x7.1.2, .slice x7.2.1 r5.2.length x7.2.2, .slice y19.1 x13.length y19.2, .slice a10 (([] : List Sample).length) c11]] _
  refine nT (sr (aI (bK ty42 rfl hs5 rfl) (stb (cs' := [.slice x7.1.1 r5.1.length x7.1.2, .slice x7.2.1 r5.2.length x7.2.2, .slice y19.1 x13.length y19.2, .slice a10 (([] : List Sample).length) c11]) ty42 cZ (nl (Tr.freeze (.cons dl1 .nil) (Tr.freeze (.cons dl1 .nil) (Tr.freezeR (.cons dl1 .nil) (Tr.freeze (.cons dl1 .nil) (bR ?_)))))))))
  obtain rfl := si H
  exact back1 (x7, y19, (a10, c11)) rfl (ResV.agg ty42 rfl aB rfl) rfl (cN aS.s.s.s (cN aS.s.s (cN aS.s (cN aS cO)))) bL
noncomputable def p_spec_l13Copy_b1 (v0 : Store) (Q12 : (List Part) × Int) (Q34 : (List (List Row)) × Int) : Option (((List (List Row)) × Int) ⊕ ((List (List Row)))) := cond (decide (Q34.2 < (((nth v0.2.1 Q12.2.toNat).2).length : Int))) (gd (ix Q34.2 ((nth v0.2.1 Q12.2.toNat).2).length) <| gd (room (([] : List Row).length + (nth ((nth v0.2.1 Q12.2.toNat).2) Q34.2.toNat).length)) <| gd (room (Q34.1.length + 1)) <| gd (I64 (Q34.2 + 1)) <| some (.inl ((Q34.1 ++ [([] : List Row) ++ (nth ((nth v0.2.1 Q12.2.toNat).2) Q34.2.toNat)]), Q34.2 + 1))) (some (.inr Q34.1))
noncomputable def p_spec_l13Copy_b0 (v0 : Store) (Q12 : (List Part) × Int) : Option (((List Part) × Int) ⊕ ((List Part))) := cond (decide (Q12.2 < (v0.2.1.length : Int))) (gd (ix Q12.2 v0.2.1.length) <| gd (room (([] : List Int).length + ((nth v0.2.1 Q12.2.toNat).1).length)) <| bd (lp (p_spec_l13Copy_b1 v0 Q12) (([] : List (List Row)), 0)) fun x30 => gd (room (Q12.1.length + 1)) <| gd (I64 (Q12.2 + 1)) <| some (.inl ((Q12.1 ++ [((([] : List Int) ++ ((nth v0.2.1 Q12.2.toNat).1)), x30)]), Q12.2 + 1))) (some (.inr Q12.1))
noncomputable def p_spec_l13Copy (v0 : Store) : Option (Store) := bd (lp (p_spec_l13Copy_b0 v0) (([] : List Part), 0)) fun x8 => bd (p_spec_l11Of v0.1.1) fun r59 => gd (room (([] : List Sample).length + v0.2.2.length)) <| some (r59, x8, (([] : List Sample) ++ v0.2.2))
end Go.Proofs.YtlkcnfjdhkoelaaGreat
