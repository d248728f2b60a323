/- The walks and the plain laws, part 2: each function that the law reaches computes what its plain function tells, and what the plain functions answer. Conditions: lengths that memory can hold. -/
import Derived.Test.YtcbcmljlomihpaaA1
namespace Go.Proofs.Ytcbcmljlomihpaa
open Go Go.Sx Try
noncomputable def p_laws_lyAmong_b0 (v0 : (List Int)) (v1 : Int) (Q5 : Int) : Option ((Int) ⊕ (Unit ⊕ Bool)) := cond (decide (Q5 < (v0.length : Int))) (gd (ix Q5 v0.length) <| cond (decide ((nth v0 Q5.toNat) = v1)) (some (.inr (.inr true))) (gd (I64 (Q5 + 1)) <| some (.inl (Q5 + 1)))) (some (.inr (.inl ())))
noncomputable def p_laws_lyAmong (v0 : (List Int)) (v1 : Int) : Option (Bool) := bd (lp (p_laws_lyAmong_b0 v0 v1) 0) <| sw (fun _ => some false) (fun q => some q)
theorem c_laws_lyAmong {r : Bool} (v0 : (List Int)) (x_v0 : Option Addr × Nat) (v1 : Int) (H : p_laws_lyAmong v0 v1 = some r) : Fn' prog 9 #[.slice x_v0.1 v0.length x_v0.2, .int .i64 (v1)] [imm (.slice x_v0.1 v0.length x_v0.2) v0] [] (ι := Unit) (fun _ => .bool (r)) (fun _ => []) (fun _ => []) := by
 refine cof (args := [_, _]) func9 ntmps9 fun c => ?_
 unfold p_laws_lyAmong at H
 refine sr (aH (v := .bool (false)) rfl (nl (aD (sr (aH (v := .int .i64 (0)) rfl (nl (bdo H fun x1 hx2 H => (cT (Λ := Unit) H (fun _ _ => []) (fun _ _ => []) ?_ ?_))))))))
 ·refine aQ (cV hx2 () (fun Q5 _ => [(0, .slice x_v0.1 v0.length x_v0.2), (1, .int .i64 (v1)), (5, .int .i64 (Q5))]) (fun _ _ => []) bH ?_)
  rintro _ Q5 z6 t8 H1 hi9 hb10
  unfold p_laws_lyAmong_b0 at H1
  refine aD (sr (aF rfl (aF rfl (aG (bP 3 dE rfl) (aG (cL rfl rfl) (nl (cH H1 rfl (fun h13 H1 => ?_) (fun h13 H1 => ?_))))))))
  ·refine bE (nT (aD (aQ (sr (aF rfl (aF rfl (gdo H1 fun h14 H1 => (aI (bT dE ty3 rfl rfl h14 rfl (aN (aL aR))) (aI (bV (i := Q5.toNat) (j := 0) ty3 rfl (aN (aL aR)) h14.lt rfl) (aF rfl ?_))))))))))
   refine aG (cM rfl rfl) (nl (cH H1 rfl (fun h15 H1 => ?_) (fun h15 H1 => ?_)))
   ·refine sr (aH (v := .bool (true)) rfl (nl (bN (rB (rT (rT (rB (rT (rT (?_))))))))))
    obtain rfl := hb10 _ (sm H1)
    replace H := sw.r H
    obtain rfl := si H
    exact bk
   ·exact bE (nB (nT (aP (aF rfl (gdo H1 fun h16 H1 => (aG (bO rfl rfl h16) (aH rfl (aJ (nLI () (hi9 _ (sm H1)) bH)))))))))
  ·exact cR (xT (xT (xE (nMI () (hb10 _ (sm H1)) bH))))
 ·rintro e17 y7 H
  refine nT (sr (aH (v := .bool (false)) rfl (nl ?_)))
  obtain rfl := si H
  exact bN bk
noncomputable def p_laws_FnFindNone_b0 (r32 : (List Int)) (r37 : (List Int)) (Q44 : Int) : Option ((Int) ⊕ (Unit ⊕ Bool)) := cond (decide (Q44 < (r32.length : Int))) (gd (ix Q44 r32.length) <| bd (p_laws_lyAmong r37 (nth r32 Q44.toNat)) fun r54 => cond (r54) (some (.inr (.inr false))) (gd (I64 (Q44 + 1)) <| some (.inl (Q44 + 1)))) (some (.inr (.inl ())))
noncomputable def p_laws_FnFindNone (v0 : (List UInt8)) (v1 : (List UInt8)) : Option (Bool) := bd (cond (decide (1048576 < (v0.length : Int))) (some (true)) (some (decide (1048576 < (v1.length : Int))))) fun b1 => cond (b1) (some true) (bd (p_spec_DrawIndexFind v0) fun r5 => bd (p_impl_IndexFind r5.1 r5.2) fun r9 => bd (p_spec_IndexFind r5.1 r5.2) fun r12 => bd (p_laws_lyInts r9 r12) fun r15 => cond (!r15) (some r15) (bd (p_spec_IndexOk r5.1) fun r19 => cond (!r19) (some r15) (gd (I64 ((v1.length : Int).tmod 4)) <| gd (I64 ((v1.length : Int).tmod 3)) <| gd (ix ((v1.length : Int).tmod 4) ([(⟨#[97]⟩ : ByteArray), (⟨#[98]⟩ : ByteArray), (⟨#[99]⟩ : ByteArray), (⟨#[100]⟩ : ByteArray)] : List ByteArray).length) <| gd (ix ((v1.length : Int).tmod 3) ([(⟨#[112]⟩ : ByteArray), (⟨#[113]⟩ : ByteArray), (⟨#[122]⟩ : ByteArray)] : List ByteArray).length) <| bd (p_impl_IndexFind r5.1 ([(((nth ([(⟨#[97]⟩ : ByteArray), (⟨#[98]⟩ : ByteArray), (⟨#[99]⟩ : ByteArray), (⟨#[100]⟩ : ByteArray)] : List ByteArray) (((v1.length : Int).tmod 4).toNat)), (nth ([(⟨#[112]⟩ : ByteArray), (⟨#[113]⟩ : ByteArray), (⟨#[122]⟩ : ByteArray)] : List ByteArray) (((v1.length : Int).tmod 3).toNat))), false)] : List Cond)) fun r32 => bd (p_impl_IndexFind r5.1 ([(((nth ([(⟨#[97]⟩ : ByteArray), (⟨#[98]⟩ : ByteArray), (⟨#[99]⟩ : ByteArray), (⟨#[100]⟩ : ByteArray)] : List ByteArray) (((v1.length : Int).tmod 4).toNat)), (nth ([(⟨#[112]⟩ : ByteArray), (⟨#[113]⟩ : ByteArray), (⟨#[122]⟩ : ByteArray)] : List ByteArray) (((v1.length : Int).tmod 3).toNat))), true)] : List Cond)) fun r37 => bd (lp (p_laws_FnFindNone_b0 r32 r37) 0) <| sw (fun _ => bd (p_impl_IndexFind r5.1 ([])) fun r59 => cond (decide ((r59.length : Int) = (r5.1.1.length : Int))) (gd (I64 ((r32.length : Int) + (r37.length : Int))) <| some (decide (((r32.length : Int) + (r37.length : Int)) = (r5.1.1.length : Int)))) (some false)) (fun q => some q))))
theorem c_laws_FnFindNone {r : Bool} (v0 : (List UInt8)) (x_v0 : Option Addr × Nat) (v1 : (List UInt8)) (x_v1 : Option Addr × Nat) (H : p_laws_FnFindNone v0 v1 = some r) : Fn' prog 3 #[.slice x_v0.1 v0.length x_v0.2, .slice x_v1.1 v1.length x_v1.2] [imm (.slice x_v0.1 v0.length x_v0.2) v0, imm (.slice x_v1.1 v1.length x_v1.2) v1] [] (ι := Unit) (fun _ => .bool (r)) (fun _ => []) (fun _ => []) := by
 refine cof (args := [_, _]) func3 ntmps3 fun c => ?_
 unfold p_laws_FnFindNone at H
 refine sr (aH (v := .bool (false)) rfl (nl (aD (bdo H fun b1 j2 H => (cU [(19, .bool (b1)), (0, .slice x_v0.1 v0.length x_v0.2), (1, .slice x_v1.1 v1.length x_v1.2)] ?_ ?_)))))
 ·refine cX [(0, .slice x_v0.1 v0.length x_v0.2), (1, .slice x_v1.1 v1.length x_v1.2)] ⟨rfl, rfl, trivial⟩ (aZ rfl (aV (bP 5 cZ rfl) (aV (cN rfl rfl) ?_)))
  rcases aK (decide (1048576 < (v0.length : Int))) with h3 | h3
  ·have j2 := cdT h3 j2
   refine bA (aE rfl) h3 ?_
   iterate 3 refine bB rfl ?_
   refine aV (v := .bool (true)) (bM rfl rfl) ?_
   obtain rfl := si j2
   show At _ _ _ _ _ _
   exact n1 ⟨rfl, rfl, rfl, trivial⟩
  ·have j2 := cdF h3 j2
   refine bA (aE rfl) h3 (aW rfl (aE rfl) (aW rfl (bP 5 cZ rfl) (aW rfl (cN rfl rfl) (aV (bL rfl rfl) ?_))))
   obtain rfl := si j2
   show At _ _ _ _ _ _
   exact n1 ⟨rfl, rfl, rfl, trivial⟩
 refine cH H rfl (fun h4 H => ?_) (fun h4 H => ?_)
 ·refine sr (aH (v := .bool (true)) rfl (nl (bN (rT (?_)))))
  obtain rfl := si H
  exact bk
 ·refine bE (nT (sr (aF rfl (bdo H fun r5 h6 H => (f1 (e_call (c_spec_DrawIndexFind v0 x_v0 h6) rfl (cF aR cG) bH) fun x7 => (aF rfl (aG (p_extract rfl rfl) (aG (p_extract rfl rfl) (f1 (bZ ty26) fun g8 => ?_)))))))))
  refine stb (cs' := [.slice x7.1.1.1 r5.1.1.length x7.1.1.2, .slice x7.1.2.1 r5.1.2.length x7.1.2.2]) ty26 cQ (aH rfl (nl (sr (aI (bG ty26 rfl aB rfl) (aF rfl (bdo H fun r9 h10 H => (f1 (cA (c_impl_IndexFind r5.1 x7.1 r5.2 x7.2 h10) (fun _ => (bC bD)) rfl (aC (aL aR) (aC (aL aR.s) (aC (aL aR.s.s) aO)))) fun x11 => (aH rfl (nl (aD (sr (aF rfl ?_))))))))))))
  refine aI (bG ty26 rfl hs1 rfl) (aF rfl (bdo H fun r12 h13 H => (f1 (cA (c_spec_IndexFind r5.1 x7.1 r5.2 x7.2 h13) (fun _ => (bC bD)) rfl (aC (aL aR) (aC (aL aR.s) (aC (aL aR.s.s) aO)))) fun x14 => (bdo H fun r15 h16 H => (aI (bK (c_laws_lyInts r9 x11 r12 x14 h16) rfl (aC (bI hs1) (aC (bI aB) aO))) (aG (cO rfl) ?_))))))
  rcases aK (!r15) with h17 | h17
  ·have H := cdT h17 H
   refine Rg.e_ (aE rfl) h17 (Rg.skip rfl (by decide) (Rg.skip rfl (by decide) (Rg.skip rfl (by decide) (aG (v := .bool (true)) (bM rfl rfl) (nl (Tr.condT rfl (sr (aF rfl (aI (bG ty26 rfl hs2 rfl) (aF rfl ?_))))))))))
   refine f1 (cA (c_spec_IndexFind r5.1 x7.1 r5.2 x7.2 h13) (fun _ => (bC bD)) rfl (aC (aL aR) (aC (aL aR.s) (aC (aL aR.s.s) aO)))) fun x18 => (aI (bK (c_laws_lyInts r9 x11 r12 x18 h16) rfl (aC (bI hs2) (aC (bI aB) aO))) (aH rfl (nl (bN (rT (?_))))))
   obtain rfl := si H
   exact bk
  ·have H := cdF h17 H
   refine Rg.e_ (aE rfl) h17 (Rg.g (v := .agg #[.slice x7.1.1.1 r5.1.1.length x7.1.1.2, .slice x7.1.2.1 r5.1.2.length x7.1.2.2]) rfl (bG ty26 rfl hs2 rfl) (by decide) (bdo H fun r19 h20 H => (Rg.g (v := .bool (r19)) rfl (bK (c_spec_IndexOk r5.1 x7.1 h20) rfl (aC (aL aR) (aC (aL aR.s) aO))) (by decide) (Rg.g (v := .bool (!r19)) rfl (Pu.qo (cO rfl)) (by decide) (aG (bL rfl rfl) (nl (cH H rfl (fun h21 H => ?_) (fun h21 H => ?_))))))))
   ·refine sr (aF rfl (aI (bG ty26 rfl hs2 rfl) (aF rfl (f1 (cA (c_spec_IndexFind r5.1 x7.1 r5.2 x7.2 h13) (fun _ => (bC bD)) rfl (aC (aL aR) (aC (aL aR.s) (aC (aL aR.s.s) aO)))) fun x22 => (aI (bK (c_laws_lyInts r9 x11 r12 x22 h16) rfl (aC (bI hs2) (aC (bI aB) aO))) (aH rfl (nl (bN (rT (?_))))))))))
    obtain rfl := si H
    exact bk
   ·refine bE (nT (aD (tNwD [(5, .pointer (some ⟨g8, 0, none⟩)), (1, .slice x_v1.1 v1.length x_v1.2)] 3 [1, 2, 3, 7, 8, 9] [0, 4, 5, 6, 10, 11, 12, 13, 14] [6, 10, 11, 0, 4, 5, 12, 13, 14] [14] [⟨0, [], fun g => .slice (some ⟨g, 0, none⟩) ([(⟨#[97]⟩ : ByteArray), (⟨#[98]⟩ : ByteArray), (⟨#[99]⟩ : ByteArray), (⟨#[100]⟩ : ByteArray)] : List ByteArray).length ([(⟨#[97]⟩ : ByteArray), (⟨#[98]⟩ : ByteArray), (⟨#[99]⟩ : ByteArray), (⟨#[100]⟩ : ByteArray)] : List ByteArray).length, fun g => tree (.slice (some ⟨g, 0, none⟩) ([(⟨#[97]⟩ : ByteArray), (⟨#[98]⟩ : ByteArray), (⟨#[99]⟩ : ByteArray), (⟨#[100]⟩ : ByteArray)] : List ByteArray).length ([(⟨#[97]⟩ : ByteArray), (⟨#[98]⟩ : ByteArray), (⟨#[99]⟩ : ByteArray), (⟨#[100]⟩ : ByteArray)] : List ByteArray).length) ([(⟨#[97]⟩ : ByteArray), (⟨#[98]⟩ : ByteArray), (⟨#[99]⟩ : ByteArray), (⟨#[100]⟩ : ByteArray)] : List ByteArray)⟩, ⟨6, [], fun g => .slice (some ⟨g, 0, none⟩) ([(⟨#[112]⟩ : ByteArray), (⟨#[113]⟩ : ByteArray), (⟨#[122]⟩ : ByteArray)] : List ByteArray).length ([(⟨#[112]⟩ : ByteArray), (⟨#[113]⟩ : ByteArray), (⟨#[122]⟩ : ByteArray)] : List ByteArray).length, fun g => tree (.slice (some ⟨g, 0, none⟩) ([(⟨#[112]⟩ : ByteArray), (⟨#[113]⟩ : ByteArray), (⟨#[122]⟩ : ByteArray)] : List ByteArray).length ([(⟨#[112]⟩ : ByteArray), (⟨#[113]⟩ : ByteArray), (⟨#[122]⟩ : ByteArray)] : List ByteArray).length) ([(⟨#[112]⟩ : ByteArray), (⟨#[113]⟩ : ByteArray), (⟨#[122]⟩ : ByteArray)] : List ByteArray)⟩, ⟨13, [], fun g => .pointer (some ⟨g, 0, none⟩), fun g => box g 36 [.string (⟨#[]⟩), .string (⟨#[]⟩)]⟩] 0 6 mixed (by kernel_rfl) (by kernel_rfl) (by decide) (by decide) (show List.Nodup [0, 6, 13] by decide) (by kernel_rfl) ⟨rfl, rfl, trivial⟩ rfl (okCons (FreeA.Ok.of rfl (by decide) (by kernel_rfl) fun c fs os => g_litT (α := ByteArray) (vs := [(0, .string ((⟨#[97]⟩ : ByteArray))), (1, .string ((⟨#[98]⟩ : ByteArray))), (2, .string ((⟨#[99]⟩ : ByteArray))), (3, .string ((⟨#[100]⟩ : ByteArray)))]) [(⟨#[97]⟩ : ByteArray), (⟨#[98]⟩ : ByteArray), (⟨#[99]⟩ : ByteArray), (⟨#[100]⟩ : ByteArray)] rfl (fun _ => rfl) (fun _ _ => by repeat constructor) dF ty9 rfl (by decide) (by decide) (by kernel_rfl)) (okCons (FreeA.Ok.of rfl (by decide) (by kernel_rfl) fun c fs os => g_litT (α := ByteArray) (vs := [(0, .string ((⟨#[112]⟩ : ByteArray))), (1, .string ((⟨#[113]⟩ : ByteArray))), (2, .string ((⟨#[122]⟩ : ByteArray)))]) [(⟨#[112]⟩ : ByteArray), (⟨#[113]⟩ : ByteArray), (⟨#[122]⟩ : ByteArray)] rfl (fun _ => rfl) (fun _ _ => by repeat constructor) dF ty9 rfl (by decide) (by decide) (by kernel_rfl)) (okCons (FreeA.Ok.of rfl (by decide) (by kernel_rfl) fun c fs os => bZ ty36) okNil))) rfl (wp_pu (v := .slice x_v1.1 v1.length x_v1.2) rfl (by decide) rfl rfl rfl (aE rfl) (wp_pu (v := .int .i64 ((v1.length : Int))) rfl (by decide) rfl rfl rfl (bP 5 cZ rfl) (gdo H fun h23 H => (wp_pu (v := .int .i64 ((v1.length : Int).tmod 4)) rfl (by decide) rfl rfl rfl (p_rem rfl rfl (by decide) h23) (wp_pu (v := .slice x_v1.1 v1.length x_v1.2) rfl (by decide) rfl rfl rfl (aE rfl) (wp_pu (v := .int .i64 ((v1.length : Int))) rfl (by decide) rfl rfl rfl (bP 5 cZ rfl) (gdo H fun h24 H => ?_))))))))))
    refine wp_pu (v := .int .i64 ((v1.length : Int).tmod 3)) rfl (by decide) rfl rfl rfl (p_rem rfl rfl (by decide) h24) (gdo H fun h25 H => (gdo H fun h26 H => (wp_nil ⟨?_, ?_⟩)))
    ·
     refine w_fr (z := ⟨0, [], fun g => .slice (some ⟨g, 0, none⟩) ([(⟨#[97]⟩ : ByteArray), (⟨#[98]⟩ : ByteArray), (⟨#[99]⟩ : ByteArray), (⟨#[100]⟩ : ByteArray)] : List ByteArray).length ([(⟨#[97]⟩ : ByteArray), (⟨#[98]⟩ : ByteArray), (⟨#[99]⟩ : ByteArray), (⟨#[100]⟩ : ByteArray)] : List ByteArray).length, fun g => tree (.slice (some ⟨g, 0, none⟩) ([(⟨#[97]⟩ : ByteArray), (⟨#[98]⟩ : ByteArray), (⟨#[99]⟩ : ByteArray), (⟨#[100]⟩ : ByteArray)] : List ByteArray).length ([(⟨#[97]⟩ : ByteArray), (⟨#[98]⟩ : ByteArray), (⟨#[99]⟩ : ByteArray), (⟨#[100]⟩ : ByteArray)] : List ByteArray).length) ([(⟨#[97]⟩ : ByteArray), (⟨#[98]⟩ : ByteArray), (⟨#[99]⟩ : ByteArray), (⟨#[100]⟩ : ByteArray)] : List ByteArray)⟩) (.head _) rfl rfl (by decide) (cJ (.inl rfl) (cJ (.inr (.inr trivial)) (cJ (.inr (.inr trivial)) cI))) trivial ?_; intro g27
     refine w_o rfl (fun F => (q_ixO' dF ty9 rfl rfl h25 (aB.app F))) ?_
     refine w_o rfl (fun F => (bV (i := ((v1.length : Int).tmod 4).toNat) (j := 0) ty9 rfl (aN (bI (aB.app F))) h25.lt rfl)) ?_
     refine w_fr (z := ⟨6, [], fun g => .slice (some ⟨g, 0, none⟩) ([(⟨#[112]⟩ : ByteArray), (⟨#[113]⟩ : ByteArray), (⟨#[122]⟩ : ByteArray)] : List ByteArray).length ([(⟨#[112]⟩ : ByteArray), (⟨#[113]⟩ : ByteArray), (⟨#[122]⟩ : ByteArray)] : List ByteArray).length, fun g => tree (.slice (some ⟨g, 0, none⟩) ([(⟨#[112]⟩ : ByteArray), (⟨#[113]⟩ : ByteArray), (⟨#[122]⟩ : ByteArray)] : List ByteArray).length ([(⟨#[112]⟩ : ByteArray), (⟨#[113]⟩ : ByteArray), (⟨#[122]⟩ : ByteArray)] : List ByteArray).length) ([(⟨#[112]⟩ : ByteArray), (⟨#[113]⟩ : ByteArray), (⟨#[122]⟩ : ByteArray)] : List ByteArray)⟩) (.tail _ (.head _)) rfl rfl (by decide) (cJ (.inl rfl) (cJ (.inl rfl) (cJ (.inr (.inr trivial)) cI))) trivial ?_; intro g28
     refine w_o rfl (fun F => (q_ixO' dF ty9 rfl rfl h26 (aB.app F))) ?_
     refine w_o rfl (fun F => (bV (i := ((v1.length : Int).tmod 3).toNat) (j := 0) ty9 rfl (aN (bI (aB.app F))) h26.lt rfl)) (w_p (v := .agg #[.string (nth ([(⟨#[97]⟩ : ByteArray), (⟨#[98]⟩ : ByteArray), (⟨#[99]⟩ : ByteArray), (⟨#[100]⟩ : ByteArray)] : List ByteArray) (((v1.length : Int).tmod 4).toNat)), .string (nth ([(⟨#[112]⟩ : ByteArray), (⟨#[113]⟩ : ByteArray), (⟨#[122]⟩ : ByteArray)] : List ByteArray) (((v1.length : Int).tmod 3).toNat))]) rfl (p_buildS (vs := [(0, .string (nth ([(⟨#[97]⟩ : ByteArray), (⟨#[98]⟩ : ByteArray), (⟨#[99]⟩ : ByteArray), (⟨#[100]⟩ : ByteArray)] : List ByteArray) (((v1.length : Int).tmod 4).toNat))), (1, .string (nth ([(⟨#[112]⟩ : ByteArray), (⟨#[113]⟩ : ByteArray), (⟨#[122]⟩ : ByteArray)] : List ByteArray) (((v1.length : Int).tmod 3).toNat)))]) (cs := #[.string (nth ([(⟨#[97]⟩ : ByteArray), (⟨#[98]⟩ : ByteArray), (⟨#[99]⟩ : ByteArray), (⟨#[100]⟩ : ByteArray)] : List ByteArray) (((v1.length : Int).tmod 4).toNat)), .string (nth ([(⟨#[112]⟩ : ByteArray), (⟨#[113]⟩ : ByteArray), (⟨#[122]⟩ : ByteArray)] : List ByteArray) (((v1.length : Int).tmod 3).toNat))]) ty36 pl36 rfl rfl) ?_)
     refine w_fr (z := ⟨13, [], fun g => .pointer (some ⟨g, 0, none⟩), fun g => box g 36 [.string (⟨#[]⟩), .string (⟨#[]⟩)]⟩) (.tail _ (.tail _ (.head _))) rfl rfl (by decide) (cJ (.inl rfl) (cJ (.inl rfl) (cJ (.inl rfl) cI))) trivial ?_; intro g29
     refine w_en rfl rfl (cJ (.inl rfl) (cJ (.inl rfl) (cJ (.inl rfl) cI))) rfl (n_store (cs' := [.string (nth ([(⟨#[97]⟩ : ByteArray), (⟨#[98]⟩ : ByteArray), (⟨#[99]⟩ : ByteArray), (⟨#[100]⟩ : ByteArray)] : List ByteArray) (((v1.length : Int).tmod 4).toNat)), .string (nth ([(⟨#[112]⟩ : ByteArray), (⟨#[113]⟩ : ByteArray), (⟨#[122]⟩ : ByteArray)] : List ByteArray) (((v1.length : Int).tmod 3).toNat))]) ty36 rfl rfl cQ rfl (one_of rfl) (Nat.le_of_ble_eq_true rfl) rfl) ?_
     rintro _ _ _ ⟨rfl, rfl, rfl⟩
     refine ⟨(aM (by kernel_rfl) (aM (by kernel_rfl) (aM (by kernel_rfl) (aM (by kernel_rfl) bR)))), ?_⟩
     refine cE (nT (sr (aI (bG ty26 rfl hs5 rfl) (aI (bG ty36 rfl aB rfl) (aG (v := .agg #[.string (nth ([(⟨#[97]⟩ : ByteArray), (⟨#[98]⟩ : ByteArray), (⟨#[99]⟩ : ByteArray), (⟨#[100]⟩ : ByteArray)] : List ByteArray) (((v1.length : Int).tmod 4).toNat)), .string (nth ([(⟨#[112]⟩ : ByteArray), (⟨#[113]⟩ : ByteArray), (⟨#[122]⟩ : ByteArray)] : List ByteArray) (((v1.length : Int).tmod 3).toNat)), .bool (false)]) (p_buildS (vs := [(0, .agg #[.string (nth ([(⟨#[97]⟩ : ByteArray), (⟨#[98]⟩ : ByteArray), (⟨#[99]⟩ : ByteArray), (⟨#[100]⟩ : ByteArray)] : List ByteArray) (((v1.length : Int).tmod 4).toNat)), .string (nth ([(⟨#[112]⟩ : ByteArray), (⟨#[113]⟩ : ByteArray), (⟨#[122]⟩ : ByteArray)] : List ByteArray) (((v1.length : Int).tmod 3).toNat))])]) (cs := #[.string (nth ([(⟨#[97]⟩ : ByteArray), (⟨#[98]⟩ : ByteArray), (⟨#[99]⟩ : ByteArray), (⟨#[100]⟩ : ByteArray)] : List ByteArray) (((v1.length : Int).tmod 4).toNat)), .string (nth ([(⟨#[112]⟩ : ByteArray), (⟨#[113]⟩ : ByteArray), (⟨#[122]⟩ : ByteArray)] : List ByteArray) (((v1.length : Int).tmod 3).toNat)), .bool (false)]) ty38 pl38 rfl rfl) (f2 (e_litT (α := Cond) (vs := [(0, .agg #[.string (nth ([(⟨#[97]⟩ : ByteArray), (⟨#[98]⟩ : ByteArray), (⟨#[99]⟩ : ByteArray), (⟨#[100]⟩ : ByteArray)] : List ByteArray) (((v1.length : Int).tmod 4).toNat)), .string (nth ([(⟨#[112]⟩ : ByteArray), (⟨#[113]⟩ : ByteArray), (⟨#[122]⟩ : ByteArray)] : List ByteArray) (((v1.length : Int).tmod 3).toNat)), .bool (false)])]) [(((nth ([(⟨#[97]⟩ : ByteArray), (⟨#[98]⟩ : ByteArray), (⟨#[99]⟩ : ByteArray), (⟨#[100]⟩ : ByteArray)] : List ByteArray) (((v1.length : Int).tmod 4).toNat)), (nth ([(⟨#[112]⟩ : ByteArray), (⟨#[113]⟩ : ByteArray), (⟨#[122]⟩ : ByteArray)] : List ByteArray) (((v1.length : Int).tmod 3).toNat))), false)] rfl (fun _ => rfl) (fun _ _ => by repeat constructor) dC ty38 rfl (by decide) (by decide) (by kernel_rfl)) fun a30 c31 => (bdo H fun r32 h33 H => (f1 (cA (c_impl_IndexFind r5.1 x7.1 ([(((nth ([(⟨#[97]⟩ : ByteArray), (⟨#[98]⟩ : ByteArray), (⟨#[99]⟩ : ByteArray), (⟨#[100]⟩ : ByteArray)] : List ByteArray) (((v1.length : Int).tmod 4).toNat)), (nth ([(⟨#[112]⟩ : ByteArray), (⟨#[113]⟩ : ByteArray), (⟨#[122]⟩ : ByteArray)] : List ByteArray) (((v1.length : Int).tmod 3).toNat))), false)] : List Cond) (a30, c31) h33) (fun _ => (bC bD)) rfl (aC (aL aR) (aC (aL aR.s) (aC (bI aB) aO)))) fun x34 => (aH rfl (nl ?_))))))))))
     refine sr (aI (bG ty26 rfl (hs5t hs2) rfl) (aI (bG ty36 rfl hs2 rfl) (aG (v := .agg #[.string (nth ([(⟨#[97]⟩ : ByteArray), (⟨#[98]⟩ : ByteArray), (⟨#[99]⟩ : ByteArray), (⟨#[100]⟩ : ByteArray)] : List ByteArray) (((v1.length : Int).tmod 4).toNat)), .string (nth ([(⟨#[112]⟩ : ByteArray), (⟨#[113]⟩ : ByteArray), (⟨#[122]⟩ : ByteArray)] : List ByteArray) (((v1.length : Int).tmod 3).toNat)), .bool (true)]) (p_buildS (vs := [(0, .agg #[.string (nth ([(⟨#[97]⟩ : ByteArray), (⟨#[98]⟩ : ByteArray), (⟨#[99]⟩ : ByteArray), (⟨#[100]⟩ : ByteArray)] : List ByteArray) (((v1.length : Int).tmod 4).toNat)), .string (nth ([(⟨#[112]⟩ : ByteArray), (⟨#[113]⟩ : ByteArray), (⟨#[122]⟩ : ByteArray)] : List ByteArray) (((v1.length : Int).tmod 3).toNat))]), (1, .bool (true))]) (cs := #[.string (nth ([(⟨#[97]⟩ : ByteArray), (⟨#[98]⟩ : ByteArray), (⟨#[99]⟩ : ByteArray), (⟨#[100]⟩ : ByteArray)] : List ByteArray) (((v1.length : Int).tmod 4).toNat)), .string (nth ([(⟨#[112]⟩ : ByteArray), (⟨#[113]⟩ : ByteArray), (⟨#[122]⟩ : ByteArray)] : List ByteArray) (((v1.length : Int).tmod 3).toNat)), .bool (true)]) ty38 pl38 rfl rfl) (f2 (e_litT (α := Cond) (vs := [(0, .agg #[.string (nth ([(⟨#[97]⟩ : ByteArray), (⟨#[98]⟩ : ByteArray), (⟨#[99]⟩ : ByteArray), (⟨#[100]⟩ : ByteArray)] : List ByteArray) (((v1.length : Int).tmod 4).toNat)), .string (nth ([(⟨#[112]⟩ : ByteArray), (⟨#[113]⟩ : ByteArray), (⟨#[122]⟩ : ByteArray)] : List ByteArray) (((v1.length : Int).tmod 3).toNat)), .bool (true)])]) [(((nth ([(⟨#[97]⟩ : ByteArray), (⟨#[98]⟩ : ByteArray), (⟨#[99]⟩ : ByteArray), (⟨#[100]⟩ : ByteArray)] : List ByteArray) (((v1.length : Int).tmod 4).toNat)), (nth ([(⟨#[112]⟩ : ByteArray), (⟨#[113]⟩ : ByteArray), (⟨#[122]⟩ : ByteArray)] : List ByteArray) (((v1.length : Int).tmod 3).toNat))), true)] rfl (fun _ => rfl) (fun _ _ => by repeat constructor) dC ty38 rfl (by decide) (by decide) (by kernel_rfl)) fun a35 c36 => (bdo H fun r37 h38 H => (f1 (cA (c_impl_IndexFind r5.1 x7.1 ([(((nth ([(⟨#[97]⟩ : ByteArray), (⟨#[98]⟩ : ByteArray), (⟨#[99]⟩ : ByteArray), (⟨#[100]⟩ : ByteArray)] : List ByteArray) (((v1.length : Int).tmod 4).toNat)), (nth ([(⟨#[112]⟩ : ByteArray), (⟨#[113]⟩ : ByteArray), (⟨#[122]⟩ : ByteArray)] : List ByteArray) (((v1.length : Int).tmod 3).toNat))), true)] : List Cond) (a35, c36) h38) (fun _ => (bC bD)) rfl (aC (aL aR) (aC (aL aR.s) (aC (bI aB) aO)))) fun x39 => (aH rfl (nl (aD (sr (aH (v := .int .i64 (0)) rfl (nl ?_))))))))))))
     refine bdo H fun x40 hx41 H => ?_
     obtain ⟨n42, hx41⟩ := lp.of hx41
     refine cT (Λ := Unit) H (fun _ _ => [(5, .pointer (some ⟨g8, 0, none⟩)), (9, .slice x34.1 r32.length x34.2), (10, .slice x39.1 r37.length x39.2)]) (fun _ _ => [box g8 26 [.slice x7.1.1.1 r5.1.1.length x7.1.1.2, .slice x7.1.2.1 r5.1.2.length x7.1.2.2], tree (.slice x34.1 r32.length x34.2) r32, tree (.slice x39.1 r37.length x39.2) r37]) ?_ ?_
     ·refine aQ (tLoopC (ι := { q : Nat × (Int) × Unit // itr (p_laws_FnFindNone_b0 r32 r37) q.1 q.2.1 = some x40 }) (fun ζ => [(5, .pointer (some ⟨g8, 0, none⟩)), (9, .slice x34.1 r32.length x34.2), (10, .slice x39.1 r37.length x39.2), (11, .int .i64 (ζ.1.2.1))]) (fun ζ => [box g8 26 [.slice x7.1.1.1 r5.1.1.length x7.1.1.2, .slice x7.1.2.1 r5.1.2.length x7.1.2.2], tree (.slice x34.1 r32.length x34.2) r32, tree (.slice x39.1 r37.length x39.2) r37]) (fun ζ => ζ.1.1) ⟨(n42, 0, ()), hx41⟩ ⟨rfl, rfl, rfl, rfl, trivial⟩ (.cons (dl5t dl4) (.cons dl2 (.cons aA .nil))) ?_)
      rintro ⟨⟨m43, Q44, z45⟩, hk50⟩
      obtain ⟨m51, t47, e, H1, hi48, hb49⟩ := itr.of (n := m43) (s := Q44) hk50
      subst e; unfold p_laws_FnFindNone_b0 at H1
      show Tr _ _ _ _ _ [(5, .pointer (some ⟨g8, 0, none⟩)), (9, .slice x34.1 r32.length x34.2), (10, .slice x39.1 r37.length x39.2), (11, .int .i64 (Q44))] _ [box g8 26 [.slice x7.1.1.1 r5.1.1.length x7.1.1.2, .slice x7.1.2.1 r5.1.2.length x7.1.2.2], tree (.slice x34.1 r32.length x34.2) r32, tree (.slice x39.1 r37.length x39.2) r37]
      refine aD (sr (aF rfl (aF rfl (aG (bP 3 dE rfl) (aG (cL rfl rfl) (nl (cH H1 rfl (fun h52 H1 => ?_) (fun h52 H1 => ?_))))))))
      ·refine bE (nT (aD (aQ (sr (aF rfl (aF rfl (aF rfl (gdo H1 fun h53 H1 => (aI (q_ixO' dE ty3 rfl rfl h53 hs1) (aI (bV (i := Q44.toNat) (j := 0) ty3 rfl (aN (bI hs1)) h53.lt rfl) ?_))))))))))
       refine bdo H1 fun r54 h55 H1 => (aI (bK (c_laws_lyAmong r37 x39 (nth r32 Q44.toNat) h55) rfl (aC (bI hs2) aO)) (nl (cH H1 rfl (fun h56 H1 => ?_) (fun h56 H1 => ?_))))
       ·refine sr (aH (v := .bool (false)) rfl (nl (bN (rB (rT (rT (rB (rT (rT (?_))))))))))
        obtain rfl := hb49 _ (sm H1)
        replace H := sw.r H
        obtain rfl := si H
        exact bk
       ·exact bE (nB (nT (aP (aF rfl (gdo H1 fun h57 H1 => (aG (bO rfl rfl h57) (aH rfl (aJ (nLC ⟨(m51, Q44 + 1, ()), hi48 _ (sm H1)⟩ (Nat.lt_succ_self _) ⟨rfl, rfl, rfl, rfl, trivial⟩ bQ (.cons aA (.cons aA (.cons aA .nil))))))))))))
      ·exact cR (xT (xT (xE (nMI () (hb49 _ (sm H1)) (.cons aA (.cons aA (.cons aA .nil)))))))
     ·rintro e58 y46 H
      refine nT (aD (tNwS [(5, .pointer (some ⟨g8, 0, none⟩)), (9, .slice x34.1 r32.length x34.2), (10, .slice x39.1 r37.length x39.2)] 2 [0, 3, 4, 5, 1, 2, 6, 7, 8, 9, 10, 11, 12, 13, 14, 15, 16, 17, 18] [1] [] mixed (by kernel_rfl) (by decide) cY ⟨rfl, rfl, rfl, trivial⟩ rfl okNil ?_))
      refine w_o rfl (fun F => (bG ty26 rfl (aB.app F) rfl)) (w_p rfl (bX fa26_0 rfl rfl) ?_)
      refine w_o rfl (fun F => (bF ty23 rfl (aB.app F) rfl)) (w_p rfl (bP 46 dA rfl) (bdo H fun r59 h60 H => (cD rfl (by decide) rfl cI rfl (n_callB (c_impl_IndexFind r5.1 x7.1 ([]) (none, 0) h60) (fun _ => (bC bD)) rfl (aC (aL aR) (aC (aL aR.s) (aC (aL Ent.nil0) aO)))) ?_)))
      rintro _ _ _ ⟨x61, rfl, rfl, rfl⟩
      refine ⟨(bS rfl rfl (fun F => (bF ty23 rfl (hs1.app F) rfl)) (aM (by kernel_rfl) bR)), ?_⟩
      refine w_p rfl (bP 3 dE rfl) (w_p rfl (cM rfl rfl) ?_)
      rcases aK (decide ((r59.length : Int) = (r5.1.1.length : Int))) with h62 | h62
      ·have H := cdT h62 H
       refine w_p (v := .bool (true)) rfl ((cK (v := .bool (decide ((r59.length : Int) = (r5.1.1.length : Int)))) (aE rfl) (congrArg Value.bool h62))) (w_p rfl (aE rfl) (w_p rfl (bP 3 dE rfl) (w_p rfl (aE rfl) (w_p rfl (bP 3 dE rfl) (gdo H fun h63 H => (w_p rfl (bO rfl rfl h63) (w_p rfl (bX fa26_0 rfl rfl) ?_)))))))
       refine w_o rfl (fun F => (bF ty23 rfl (hs1.app F) rfl)) (w_p rfl (bP 46 dA rfl) (w_p rfl (cM rfl rfl) (w_p rfl (bM rfl rfl) (w_p rfl (p_assign rfl) (cE (nT (bN ?_)))))))
       obtain rfl := si H
       exact back1 () rfl (ResV.tmp (v := .bool (decide (((r32.length : Int) + (r37.length : Int)) = (r5.1.1.length : Int)))) rfl) rfl cG bH
      ·have H := cdF h62 H
       refine w_p (v := .bool (false)) rfl ((cK (v := .bool (decide ((r59.length : Int) = (r5.1.1.length : Int)))) (aE rfl) (congrArg Value.bool h62))) (cC rfl (by decide) rfl rfl rfl (cC rfl (by decide) rfl rfl rfl (cC rfl (by decide) rfl rfl rfl (cC rfl (by decide) rfl rfl rfl (cC rfl (by decide) rfl rfl rfl (cC rfl (by decide) rfl rfl rfl (cC rfl (by decide) rfl rfl rfl (cC rfl (by decide) rfl rfl rfl (cC rfl (by decide) rfl rfl rfl ?_)))))))))
       refine w_p (v := .bool (false)) rfl (bL rfl rfl) (w_p (v := .bool (false)) rfl (p_assign rfl) (cE (nT (?_))))
       obtain rfl := si H
       exact bN bk
    ·
     refine w_fr (z := ⟨6, [], fun g => .slice (some ⟨g, 0, none⟩) ([(⟨#[112]⟩ : ByteArray), (⟨#[113]⟩ : ByteArray), (⟨#[122]⟩ : ByteArray)] : List ByteArray).length ([(⟨#[112]⟩ : ByteArray), (⟨#[113]⟩ : ByteArray), (⟨#[122]⟩ : ByteArray)] : List ByteArray).length, fun g => tree (.slice (some ⟨g, 0, none⟩) ([(⟨#[112]⟩ : ByteArray), (⟨#[113]⟩ : ByteArray), (⟨#[122]⟩ : ByteArray)] : List ByteArray).length ([(⟨#[112]⟩ : ByteArray), (⟨#[113]⟩ : ByteArray), (⟨#[122]⟩ : ByteArray)] : List ByteArray).length) ([(⟨#[112]⟩ : ByteArray), (⟨#[113]⟩ : ByteArray), (⟨#[122]⟩ : ByteArray)] : List ByteArray)⟩) (.tail _ (.head _)) rfl rfl (by decide) (cJ (.inr (.inr trivial)) (cJ (.inl rfl) (cJ (.inr (.inr trivial)) cI))) trivial ?_; intro g27
     refine w_o rfl (fun F => (q_ixO' dF ty9 rfl rfl h26 (aB.app F))) ?_
     refine w_o rfl (fun F => (bV (i := ((v1.length : Int).tmod 3).toNat) (j := 0) ty9 rfl (aN (bI (aB.app F))) h26.lt rfl)) ?_
     refine w_fr (z := ⟨0, [], fun g => .slice (some ⟨g, 0, none⟩) ([(⟨#[97]⟩ : ByteArray), (⟨#[98]⟩ : ByteArray), (⟨#[99]⟩ : ByteArray), (⟨#[100]⟩ : ByteArray)] : List ByteArray).length ([(⟨#[97]⟩ : ByteArray), (⟨#[98]⟩ : ByteArray), (⟨#[99]⟩ : ByteArray), (⟨#[100]⟩ : ByteArray)] : List ByteArray).length, fun g => tree (.slice (some ⟨g, 0, none⟩) ([(⟨#[97]⟩ : ByteArray), (⟨#[98]⟩ : ByteArray), (⟨#[99]⟩ : ByteArray), (⟨#[100]⟩ : ByteArray)] : List ByteArray).length ([(⟨#[97]⟩ : ByteArray), (⟨#[98]⟩ : ByteArray), (⟨#[99]⟩ : ByteArray), (⟨#[100]⟩ : ByteArray)] : List ByteArray).length) ([(⟨#[97]⟩ : ByteArray), (⟨#[98]⟩ : ByteArray), (⟨#[99]⟩ : ByteArray), (⟨#[100]⟩ : ByteArray)] : List ByteArray)⟩) (.head _) rfl rfl (by decide) (cJ (.inl rfl) (cJ (.inl rfl) (cJ (.inr (.inr trivial)) cI))) trivial ?_; intro g28
     refine w_o rfl (fun F => (q_ixO' dF ty9 rfl rfl h25 (aB.app F))) ?_
     refine w_o rfl (fun F => (bV (i := ((v1.length : Int).tmod 4).toNat) (j := 0) ty9 rfl (aN (bI (aB.app F))) h25.lt rfl)) (w_p (v := .agg #[.string (nth ([(⟨#[97]⟩ : ByteArray), (⟨#[98]⟩ : ByteArray), (⟨#[99]⟩ : ByteArray), (⟨#[100]⟩ : ByteArray)] : List ByteArray) (((v1.length : Int).tmod 4).toNat)), .string (nth ([(⟨#[112]⟩ : ByteArray), (⟨#[113]⟩ : ByteArray), (⟨#[122]⟩ : ByteArray)] : List ByteArray) (((v1.length : Int).tmod 3).toNat))]) rfl (p_buildS (vs := [(0, .string (nth ([(⟨#[97]⟩ : ByteArray), (⟨#[98]⟩ : ByteArray), (⟨#[99]⟩ : ByteArray), (⟨#[100]⟩ : ByteArray)] : List ByteArray) (((v1.length : Int).tmod 4).toNat))), (1, .string (nth ([(⟨#[112]⟩ : ByteArray), (⟨#[113]⟩ : ByteArray), (⟨#[122]⟩ : ByteArray)] : List ByteArray) (((v1.length : Int).tmod 3).toNat)))]) (cs := #[.string (nth ([(⟨#[97]⟩ : ByteArray), (⟨#[98]⟩ : ByteArray), (⟨#[99]⟩ : ByteArray), (⟨#[100]⟩ : ByteArray)] : List ByteArray) (((v1.length : Int).tmod 4).toNat)), .string (nth ([(⟨#[112]⟩ : ByteArray), (⟨#[113]⟩ : ByteArray), (⟨#[122]⟩ : ByteArray)] : List ByteArray) (((v1.length : Int).tmod 3).toNat))]) ty36 pl36 rfl rfl) ?_)
     refine w_fr (z := ⟨13, [], fun g => .pointer (some ⟨g, 0, none⟩), fun g => box g 36 [.string (⟨#[]⟩), .string (⟨#[]⟩)]⟩) (.tail _ (.tail _ (.head _))) rfl rfl (by decide) (cJ (.inl rfl) (cJ (.inl rfl) (cJ (.inl rfl) cI))) trivial ?_; intro g29
     refine w_en rfl rfl (cJ (.inl rfl) (cJ (.inl rfl) (cJ (.inl rfl) cI))) rfl (n_store (cs' := [.string (nth ([(⟨#[97]⟩ : ByteArray), (⟨#[98]⟩ : ByteArray), (⟨#[99]⟩ : ByteArray), (⟨#[100]⟩ : ByteArray)] : List ByteArray) (((v1.length : Int).tmod 4).toNat)), .string (nth ([(⟨#[112]⟩ : ByteArray), (⟨#[113]⟩ : ByteArray), (⟨#[122]⟩ : ByteArray)] : List ByteArray) (((v1.length : Int).tmod 3).toNat))]) ty36 rfl rfl cQ rfl (one_of rfl) (Nat.le_of_ble_eq_true rfl) rfl) ?_
     rintro _ _ _ ⟨rfl, rfl, rfl⟩
     refine ⟨(aM (by kernel_rfl) (aM (by kernel_rfl) (aM (by kernel_rfl) (aM (by kernel_rfl) bR)))), ?_⟩
     refine cE (nT (sr (aI (bG ty26 rfl hs5 rfl) (aI (bG ty36 rfl aB rfl) (aG (v := .agg #[.string (nth ([(⟨#[97]⟩ : ByteArray), (⟨#[98]⟩ : ByteArray), (⟨#[99]⟩ : ByteArray), (⟨#[100]⟩ : ByteArray)] : List ByteArray) (((v1.length : Int).tmod 4).toNat)), .string (nth ([(⟨#[112]⟩ : ByteArray), (⟨#[113]⟩ : ByteArray), (⟨#[122]⟩ : ByteArray)] : List ByteArray) (((v1.length : Int).tmod 3).toNat)), .bool (false)]) (p_buildS (vs := [(0, .agg #[.string (nth ([(⟨#[97]⟩ : ByteArray), (⟨#[98]⟩ : ByteArray), (⟨#[99]⟩ : ByteArray), (⟨#[100]⟩ : ByteArray)] : List ByteArray) (((v1.length : Int).tmod 4).toNat)), .string (nth ([(⟨#[112]⟩ : ByteArray), (⟨#[113]⟩ : ByteArray), (⟨#[122]⟩ : ByteArray)] : List ByteArray) (((v1.length : Int).tmod 3).toNat))])]) (cs := #[.string (nth ([(⟨#[97]⟩ : ByteArray), (⟨#[98]⟩ : ByteArray), (⟨#[99]⟩ : ByteArray), (⟨#[100]⟩ : ByteArray)] : List ByteArray) (((v1.length : Int).tmod 4).toNat)), .string (nth ([(⟨#[112]⟩ : ByteArray), (⟨#[113]⟩ : ByteArray), (⟨#[122]⟩ : ByteArray)] : List ByteArray) (((v1.length : Int).tmod 3).toNat)), .bool (false)]) ty38 pl38 rfl rfl) (f2 (e_litT (α := Cond) (vs := [(0, .agg #[.string (nth ([(⟨#[97]⟩ : ByteArray), (⟨#[98]⟩ : ByteArray), (⟨#[99]⟩ : ByteArray), (⟨#[100]⟩ : ByteArray)] : List ByteArray) (((v1.length : Int).tmod 4).toNat)), .string (nth ([(⟨#[112]⟩ : ByteArray), (⟨#[113]⟩ : ByteArray), (⟨#[122]⟩ : ByteArray)] : List ByteArray) (((v1.length : Int).tmod 3).toNat)), .bool (false)])]) [(((nth ([(⟨#[97]⟩ : ByteArray), (⟨#[98]⟩ : ByteArray), (⟨#[99]⟩ : ByteArray), (⟨#[100]⟩ : ByteArray)] : List ByteArray) (((v1.length : Int).tmod 4).toNat)), (nth ([(⟨#[112]⟩ : ByteArray), (⟨#[113]⟩ : ByteArray), (⟨#[122]⟩ : ByteArray)] : List ByteArray) (((v1.length : Int).tmod 3).toNat))), false)] rfl (fun _ => rfl) (fun _ _ => by repeat constructor) dC ty38 rfl (by decide) (by decide) (by kernel_rfl)) fun a30 c31 => (bdo H fun r32 h33 H => (f1 (cA (c_impl_IndexFind r5.1 x7.1 ([(((nth ([(⟨#[97]⟩ : ByteArray), (⟨#[98]⟩ : ByteArray), (⟨#[99]⟩ : ByteArray), (⟨#[100]⟩ : ByteArray)] : List ByteArray) (((v1.length : Int).tmod 4).toNat)), (nth ([(⟨#[112]⟩ : ByteArray), (⟨#[113]⟩ : ByteArray), (⟨#[122]⟩ : ByteArray)] : List ByteArray) (((v1.length : Int).tmod 3).toNat))), false)] : List Cond) (a30, c31) h33) (fun _ => (bC bD)) rfl (aC (aL aR) (aC (aL aR.s) (aC (bI aB) aO)))) fun x34 => (aH rfl (nl ?_))))))))))
     refine sr (aI (bG ty26 rfl (hs5t hs2) rfl) (aI (bG ty36 rfl hs2 rfl) (aG (v := .agg #[.string (nth ([(⟨#[97]⟩ : ByteArray), (⟨#[98]⟩ : ByteArray), (⟨#[99]⟩ : ByteArray), (⟨#[100]⟩ : ByteArray)] : List ByteArray) (((v1.length : Int).tmod 4).toNat)), .string (nth ([(⟨#[112]⟩ : ByteArray), (⟨#[113]⟩ : ByteArray), (⟨#[122]⟩ : ByteArray)] : List ByteArray) (((v1.length : Int).tmod 3).toNat)), .bool (true)]) (p_buildS (vs := [(0, .agg #[.string (nth ([(⟨#[97]⟩ : ByteArray), (⟨#[98]⟩ : ByteArray), (⟨#[99]⟩ : ByteArray), (⟨#[100]⟩ : ByteArray)] : List ByteArray) (((v1.length : Int).tmod 4).toNat)), .string (nth ([(⟨#[112]⟩ : ByteArray), (⟨#[113]⟩ : ByteArray), (⟨#[122]⟩ : ByteArray)] : List ByteArray) (((v1.length : Int).tmod 3).toNat))]), (1, .bool (true))]) (cs := #[.string (nth ([(⟨#[97]⟩ : ByteArray), (⟨#[98]⟩ : ByteArray), (⟨#[99]⟩ : ByteArray), (⟨#[100]⟩ : ByteArray)] : List ByteArray) (((v1.length : Int).tmod 4).toNat)), .string (nth ([(⟨#[112]⟩ : ByteArray), (⟨#[113]⟩ : ByteArray), (⟨#[122]⟩ : ByteArray)] : List ByteArray) (((v1.length : Int).tmod 3).toNat)), .bool (true)]) ty38 pl38 rfl rfl) (f2 (e_litT (α := Cond) (vs := [(0, .agg #[.string (nth ([(⟨#[97]⟩ : ByteArray), (⟨#[98]⟩ : ByteArray), (⟨#[99]⟩ : ByteArray), (⟨#[100]⟩ : ByteArray)] : List ByteArray) (((v1.length : Int).tmod 4).toNat)), .string (nth ([(⟨#[112]⟩ : ByteArray), (⟨#[113]⟩ : ByteArray), (⟨#[122]⟩ : ByteArray)] : List ByteArray) (((v1.length : Int).tmod 3).toNat)), .bool (true)])]) [(((nth ([(⟨#[97]⟩ : ByteArray), (⟨#[98]⟩ : ByteArray), (⟨#[99]⟩ : ByteArray), (⟨#[100]⟩ : ByteArray)] : List ByteArray) (((v1.length : Int).tmod 4).toNat)), (nth ([(⟨#[112]⟩ : ByteArray), (⟨#[113]⟩ : ByteArray), (⟨#[122]⟩ : ByteArray)] : List ByteArray) (((v1.length : Int).tmod 3).toNat))), true)] rfl (fun _ => rfl) (fun _ _ => by repeat constructor) dC ty38 rfl (by decide) (by decide) (by kernel_rfl)) fun a35 c36 => (bdo H fun r37 h38 H => (f1 (cA (c_impl_IndexFind r5.1 x7.1 ([(((nth ([(⟨#[97]⟩ : ByteArray), (⟨#[98]⟩ : ByteArray), (⟨#[99]⟩ : ByteArray), (⟨#[100]⟩ : ByteArray)] : List ByteArray) (((v1.length : Int).tmod 4).toNat)), (nth ([(⟨#[112]⟩ : ByteArray), (⟨#[113]⟩ : ByteArray), (⟨#[122]⟩ : ByteArray)] : List ByteArray) (((v1.length : Int).tmod 3).toNat))), true)] : List Cond) (a35, c36) h38) (fun _ => (bC bD)) rfl (aC (aL aR) (aC (aL aR.s) (aC (bI aB) aO)))) fun x39 => (aH rfl (nl (aD (sr (aH (v := .int .i64 (0)) rfl (nl ?_))))))))))))
     refine bdo H fun x40 hx41 H => ?_
     obtain ⟨n42, hx41⟩ := lp.of hx41
     refine cT (Λ := Unit) H (fun _ _ => [(5, .pointer (some ⟨g8, 0, none⟩)), (9, .slice x34.1 r32.length x34.2), (10, .slice x39.1 r37.length x39.2)]) (fun _ _ => [box g8 26 [.slice x7.1.1.1 r5.1.1.length x7.1.1.2, .slice x7.1.2.1 r5.1.2.length x7.1.2.2], tree (.slice x34.1 r32.length x34.2) r32, tree (.slice x39.1 r37.length x39.2) r37]) ?_ ?_
     ·refine aQ (tLoopC (ι := { q : Nat × (Int) × Unit // itr (p_laws_FnFindNone_b0 r32 r37) q.1 q.2.1 = some x40 }) (fun ζ => [(5, .pointer (some ⟨g8, 0, none⟩)), (9, .slice x34.1 r32.length x34.2), (10, .slice x39.1 r37.length x39.2), (11, .int .i64 (ζ.1.2.1))]) (fun ζ => [box g8 26 [.slice x7.1.1.1 r5.1.1.length x7.1.1.2, .slice x7.1.2.1 r5.1.2.length x7.1.2.2], tree (.slice x34.1 r32.length x34.2) r32, tree (.slice x39.1 r37.length x39.2) r37]) (fun ζ => ζ.1.1) ⟨(n42, 0, ()), hx41⟩ ⟨rfl, rfl, rfl, rfl, trivial⟩ (.cons (dl5t dl4) (.cons dl2 (.cons aA .nil))) ?_)
      rintro ⟨⟨m43, Q44, z45⟩, hk50⟩
      obtain ⟨m51, t47, e, H1, hi48, hb49⟩ := itr.of (n := m43) (s := Q44) hk50
      subst e; unfold p_laws_FnFindNone_b0 at H1
      show Tr _ _ _ _ _ [(5, .pointer (some ⟨g8, 0, none⟩)), (9, .slice x34.1 r32.length x34.2), (10, .slice x39.1 r37.length x39.2), (11, .int .i64 (Q44))] _ [box g8 26 [.slice x7.1.1.1 r5.1.1.length x7.1.1.2, .slice x7.1.2.1 r5.1.2.length x7.1.2.2], tree (.slice x34.1 r32.length x34.2) r32, tree (.slice x39.1 r37.length x39.2) r37]
      refine aD (sr (aF rfl (aF rfl (aG (bP 3 dE rfl) (aG (cL rfl rfl) (nl (cH H1 rfl (fun h52 H1 => ?_) (fun h52 H1 => ?_))))))))
      ·refine bE (nT (aD (aQ (sr (aF rfl (aF rfl (aF rfl (gdo H1 fun h53 H1 => (aI (q_ixO' dE ty3 rfl rfl h53 hs1) (aI (bV (i := Q44.toNat) (j := 0) ty3 rfl (aN (bI hs1)) h53.lt rfl) ?_))))))))))
       refine bdo H1 fun r54 h55 H1 => (aI (bK (c_laws_lyAmong r37 x39 (nth r32 Q44.toNat) h55) rfl (aC (bI hs2) aO)) (nl (cH H1 rfl (fun h56 H1 => ?_) (fun h56 H1 => ?_))))
       ·refine sr (aH (v := .bool (false)) rfl (nl (bN (rB (rT (rT (rB (rT (rT (?_))))))))))
        obtain rfl := hb49 _ (sm H1)
        replace H := sw.r H
        obtain rfl := si H
        exact bk
       ·exact bE (nB (nT (aP (aF rfl (gdo H1 fun h57 H1 => (aG (bO rfl rfl h57) (aH rfl (aJ (nLC ⟨(m51, Q44 + 1, ()), hi48 _ (sm H1)⟩ (Nat.lt_succ_self _) ⟨rfl, rfl, rfl, rfl, trivial⟩ bQ (.cons aA (.cons aA (.cons aA .nil))))))))))))
      ·exact cR (xT (xT (xE (nMI () (hb49 _ (sm H1)) (.cons aA (.cons aA (.cons aA .nil)))))))
     ·rintro e58 y46 H
      refine nT (aD (tNwS [(5, .pointer (some ⟨g8, 0, none⟩)), (9, .slice x34.1 r32.length x34.2), (10, .slice x39.1 r37.length x39.2)] 2 [0, 3, 4, 5, 1, 2, 6, 7, 8, 9, 10, 11, 12, 13, 14, 15, 16, 17, 18] [1] [] mixed (by kernel_rfl) (by decide) cY ⟨rfl, rfl, rfl, trivial⟩ rfl okNil ?_))
      refine w_o rfl (fun F => (bG ty26 rfl (aB.app F) rfl)) (w_p rfl (bX fa26_0 rfl rfl) ?_)
      refine w_o rfl (fun F => (bF ty23 rfl (aB.app F) rfl)) (w_p rfl (bP 46 dA rfl) (bdo H fun r59 h60 H => (cD rfl (by decide) rfl cI rfl (n_callB (c_impl_IndexFind r5.1 x7.1 ([]) (none, 0) h60) (fun _ => (bC bD)) rfl (aC (aL aR) (aC (aL aR.s) (aC (aL Ent.nil0) aO)))) ?_)))
      rintro _ _ _ ⟨x61, rfl, rfl, rfl⟩
      refine ⟨(bS rfl rfl (fun F => (bF ty23 rfl (hs1.app F) rfl)) (aM (by kernel_rfl) bR)), ?_⟩
      refine w_p rfl (bP 3 dE rfl) (w_p rfl (cM rfl rfl) ?_)
      rcases aK (decide ((r59.length : Int) = (r5.1.1.length : Int))) with h62 | h62
      ·have H := cdT h62 H
       refine w_p (v := .bool (true)) rfl ((cK (v := .bool (decide ((r59.length : Int) = (r5.1.1.length : Int)))) (aE rfl) (congrArg Value.bool h62))) (w_p rfl (aE rfl) (w_p rfl (bP 3 dE rfl) (w_p rfl (aE rfl) (w_p rfl (bP 3 dE rfl) (gdo H fun h63 H => (w_p rfl (bO rfl rfl h63) (w_p rfl (bX fa26_0 rfl rfl) ?_)))))))
       refine w_o rfl (fun F => (bF ty23 rfl (hs1.app F) rfl)) (w_p rfl (bP 46 dA rfl) (w_p rfl (cM rfl rfl) (w_p rfl (bM rfl rfl) (w_p rfl (p_assign rfl) (cE (nT (bN ?_)))))))
       obtain rfl := si H
       exact back1 () rfl (ResV.tmp (v := .bool (decide (((r32.length : Int) + (r37.length : Int)) = (r5.1.1.length : Int)))) rfl) rfl cG bH
      ·have H := cdF h62 H
       refine w_p (v := .bool (false)) rfl ((cK (v := .bool (decide ((r59.length : Int) = (r5.1.1.length : Int)))) (aE rfl) (congrArg Value.bool h62))) (cC rfl (by decide) rfl rfl rfl (cC rfl (by decide) rfl rfl rfl (cC rfl (by decide) rfl rfl rfl (cC rfl (by decide) rfl rfl rfl (cC rfl (by decide) rfl rfl rfl (cC rfl (by decide) rfl rfl rfl (cC rfl (by decide) rfl rfl rfl (cC rfl (by decide) rfl rfl rfl (cC rfl (by decide) rfl rfl rfl ?_)))))))))
       refine w_p (v := .bool (false)) rfl (bL rfl rfl) (w_p (v := .bool (false)) rfl (p_assign rfl) (cE (nT (?_))))
       obtain rfl := si H
       exact bN bk
def inn (lo n hi : Int) : Bool := decide (lo ≤ n) && decide (n ≤ hi)
theorem e_impl_within (n lo hi : Int) : p_impl_within n lo hi = some (inn lo n hi) := by
 unfold p_impl_within inn; cases decide (lo ≤ n) <;> rfl
theorem e_spec_l6In (n lo hi : Int) : p_spec_l6In n lo hi = some (inn lo n hi) := by
 unfold p_spec_l6In inn; cases decide (lo ≤ n) <;> rfl
theorem tmod_rng {a n : Int} (ha : 0 ≤ a) (hn : 0 < n) : 0 ≤ a.tmod n ∧ a.tmod n < n := ⟨Int.tmod_nonneg n ha, Int.tmod_lt_of_pos a hn⟩
theorem tdiv_rng {a n : Int} (ha : 0 ≤ a) (hn : 0 < n) : 0 ≤ a.tdiv n ∧ a.tdiv n ≤ a := by
 rw [Int.tdiv_eq_ediv_of_nonneg ha]
 exact ⟨Int.ediv_nonneg ha (by omega), Int.ediv_le_self n ha⟩
theorem u8_rng (b : UInt8) : (0 : Int) ≤ (b.toNat : Int) ∧ (b.toNat : Int) ≤ 255 := by have := b.toNat_lt; omega
theorem xr_nn (a b : Int) : 0 ≤ xr a b := by unfold xr; omega
theorem xr_lt {a b : Int} (ha : 0 ≤ a) (ha2 : a < 4611686018427387904) (hb : 0 ≤ b) (hb2 : b < 4611686018427387904) : xr a b < 4611686018427387904 := by
 unfold xr
 have : a.toNat ^^^ b.toNat < 2 ^ 62 := Nat.xor_lt_two_pow (by omega) (by omega)
 omega
theorem d_pick (b : List UInt8) (p n : Int) (hb : b.length ≤ 2000) (h0 : 0 ≤ p) (h1 : p ≤ 1000000) (hn : n ≤ 1000000000) :
  ∃ x, p_spec_l6Rd_pick (b, p) n = some (x, p + 1) ∧ 0 ≤ x ∧ (1 ≤ n → x < n) := by
 unfold p_spec_l6Rd_pick
 have g0 : I64 (p + 1) := by unfold I64; omega
 have ep : p + 1 - 1 = p := by omega
 have gp : I64 p := by unfold I64; omega
 simp only [ep, gd.yes g0, gd.yes gp]
 by_cases hn1 : n < 1
 ·exact ⟨0, by simp [hn1], Int.le_refl _, fun h => by omega⟩
 ·by_cases hb0 : (b.length : Int) = 0
  ·exact ⟨0, by simp [hn1, hb0], Int.le_refl _, fun h => by omega⟩
  ·simp only [hn1, hb0, decide_false, cond_false, bd_some]
   by_cases hp : p < (b.length : Int)
   ·have hx := tmod_rng (u8_rng (nth b p.toNat)).1 (show 0 < n by omega)
    have g1 : ix p b.length := ⟨h0, hp⟩
    have g2 : n ≠ 0 := by omega
    have g3 : I64 (((nth b p.toNat).toNat : Int).tmod n) := by unfold I64; omega
    simp only [hp, decide_true, cond_true, gd.yes g1, gd.yes g2, gd.yes g3]
    exact ⟨_, rfl, hx.1, fun _ => hx.2⟩
   ·simp only [hp, decide_false, cond_false]
    have hL : (0 : Int) < (b.length : Int) := by omega
    have hm := tmod_rng h0 hL
    have hm2 := tmod_rng (show 0 ≤ p * 7 + 3 by omega) hL
    have hq := tdiv_rng h0 hL
    have u1 := u8_rng (nth b (p.tmod (b.length : Int)).toNat)
    have u2 := u8_rng (nth b ((p * 7 + 3).tmod (b.length : Int)).toNat)
    have g1 : (b.length : Int) ≠ 0 := hb0
    have g2 : I64 (p.tmod (b.length : Int)) := by unfold I64; omega
    have g3 : ix (p.tmod (b.length : Int)) b.length := hm
    have g4 : I64 (p * 7) := by unfold I64; omega
    have g5 : I64 (p * 7 + 3) := by unfold I64; omega
    have g6 : I64 ((p * 7 + 3).tmod (b.length : Int)) := by unfold I64; omega
    have g7 : ix ((p * 7 + 3).tmod (b.length : Int)) b.length := hm2
    have g8 : I64 (p * 29) := by unfold I64; omega
    have g9 : I64 (p.tdiv (b.length : Int)) := by unfold I64; omega
    simp only [gd.yes g1, gd.yes g2, gd.yes g3, gd.yes g4, gd.yes g5, gd.yes g6, gd.yes g7, gd.yes g8, gd.yes g9]
    generalize ((nth b (p.tmod (b.length : Int)).toNat).toNat : Int) = y1 at *
    generalize ((nth b ((p * 7 + 3).tmod (b.length : Int)).toNat).toNat : Int) = y2 at *
    generalize p.tdiv (b.length : Int) = q at *
    have k1 : I64 (y1 * 131) := by unfold I64; omega
    have k2 : I64 (y2 * 1117) := by unfold I64; omega
    have k3 : I64 (y1 * 131 + y2 * 1117) := by unfold I64; omega
    have k4 : I64 (y1 * 131 + y2 * 1117 + p * 29) := by unfold I64; omega
    have k5 : I64 (q * 53) := by unfold I64; omega
    have k6 : I64 (y1 * 131 + y2 * 1117 + p * 29 + q * 53) := by unfold I64; omega
    simp only [gd.yes k1, gd.yes k2, gd.yes k3, gd.yes k4, gd.yes k5, gd.yes k6]
    have hx0 : 0 ≤ y1 * 131 + y2 * 1117 + p * 29 + q * 53 := by omega
    have hx1 : y1 * 131 + y2 * 1117 + p * 29 + q * 53 < 1000000000 := by omega
    generalize y1 * 131 + y2 * 1117 + p * 29 + q * 53 = x at *
    have hd := tdiv_rng hx0 (show (0 : Int) < 64 by decide)
    have m1 : I64 (x.tdiv 64) := by unfold I64; omega
    have m2 : nn x := by unfold nn; omega
    have m3 : nn (x.tdiv 64) := by unfold nn; omega
    have hr0 := xr_nn x (x.tdiv 64)
    have hr1 := xr_lt hx0 (by omega) hd.1 (by omega) (b := x.tdiv 64)
    have hz := tmod_rng hr0 (show 0 < n by omega)
    have m4 : n ≠ 0 := by omega
    have m5 : I64 ((xr x (x.tdiv 64)).tmod n) := by unfold I64; omega
    simp only [gd.yes m1, gd.yes m2, gd.yes m3, gd.yes m4, gd.yes m5]
    exact ⟨_, rfl, hz.1, fun _ => hz.2⟩
theorem nth_mem {α : Type} [Inhabited α] {l : List α} {k : Nat} (h : k < l.length) : nth l k ∈ l := by rw [nth_eq l k h]; exact List.getElem_mem h
theorem d_l6Open (c : List UInt8) : ∃ b, p_spec_l6Open c = some (b, 0) ∧ b.length ≤ 2000 := by
 unfold p_spec_l6Open
 by_cases h : (2000 : Int) < (c.length : Int)
 ·have g : sl2 0 2000 c.length := by unfold sl2; omega
  simp only [h, decide_true, cond_true, gd.yes g]
  exact ⟨_, rfl, by simp; omega⟩
 ·simp only [h, decide_false, cond_false]
  exact ⟨_, rfl, by omega⟩
theorem ba_one {x : ByteArray} (h : x.size = 1) : x = ⟨#[sb x 0]⟩ := by
 have : x.data.size = 1 := h
 apply ByteArray.ext
 apply Array.ext
 ·rw [this]; rfl
 ·intro i h1 h2
  have hi : i = 0 := by omega
  subst hi
  simp [sb, this]
theorem sl_one (a b : UInt8) : sless ⟨#[a]⟩ ⟨#[b]⟩ = decide (a < b) := by
 rw [sless_lt]
 have e : ∀ c : UInt8, (⟨#[c]⟩ : ByteArray).toList = [c] := fun c => by simp [ByteArray.toList, ByteArray.toList.loop, ByteArray.size, ByteArray.get!]
 have h2 : ([a] < [b]) ↔ a < b := by rw [List.cons_lt_cons_iff]; simp
 rw [e, e]
 exact decide_eq_decide.2 h2
def tagB (t : Tag) : Bool := decide (t.1.size = 1) && (decide (t.2.size = 1) && (inn 97 ((sb t.1 0).toNat : Int) 100 && inn 112 ((sb t.2 0).toNat : Int) 122))
theorem e_spec_l3Tag (t : Tag) : p_spec_l3Tag t = some (tagB t) := by
 unfold p_spec_l3Tag tagB
 have c1 : decide ((t.1.size : Int) = 1) = decide (t.1.size = 1) := decide_eq_decide.2 (by omega)
 have c2 : decide ((t.2.size : Int) = 1) = decide (t.2.size = 1) := decide_eq_decide.2 (by omega)
 rw [c1, c2]
 by_cases h1 : t.1.size = 1
 ·by_cases h2 : t.2.size = 1
  ·simp only [h1, h2, decide_true, cond_true, gd.yes (show ix 0 1 by unfold ix; omega), e_spec_l6In, bd_some, Bool.true_and]
   cases inn 97 ((sb t.1 0).toNat : Int) 100 <;> simp
  ·simp [h1, h2]
 ·simp [h1]
theorem rng_one {x : ByteArray} (h : x.size = 1) (lo hi : UInt8) : (!sless x ⟨#[lo]⟩ && (sless x ⟨#[hi]⟩ || decide (x = ⟨#[hi]⟩))) = inn (lo.toNat : Int) ((sb x 0).toNat : Int) (hi.toNat : Int) := by
 have hx := ba_one h
 generalize sb x 0 = c at *
 subst hx
 rw [sl_one, sl_one]
 have e1 : (!decide (c < lo)) = decide ((lo.toNat : Int) ≤ (c.toNat : Int)) := by
  by_cases k : c < lo
  ·have : c.toNat < lo.toNat := UInt8.lt_iff_toNat_lt.1 k
   simp [k]; omega
  ·have : ¬ c.toNat < lo.toNat := fun q => k (UInt8.lt_iff_toNat_lt.2 q)
   simp [k]; omega
 have e2 : (decide (c < hi) || decide ((⟨#[c]⟩ : ByteArray) = ⟨#[hi]⟩)) = decide ((c.toNat : Int) ≤ (hi.toNat : Int)) := by
  by_cases k : c < hi
  ·have : c.toNat < hi.toNat := UInt8.lt_iff_toNat_lt.1 k
   simp [k]; omega
  ·have h3 : ¬ c.toNat < hi.toNat := fun q => k (UInt8.lt_iff_toNat_lt.2 q)
   by_cases e : c = hi
   ·subst e; simp
   ·have h4 : c.toNat ≠ hi.toNat := fun q => e (UInt8.toNat_inj.1 q)
    have h5 : (⟨#[c]⟩ : ByteArray) ≠ ⟨#[hi]⟩ := fun q => e (by
     have := congrArg (fun b : ByteArray => b.data.toList) q
     simpa using this)
    simp [k, h5]; omega
 rw [e1, e2]; rfl
theorem e_impl_tagOk (t : Tag) : p_impl_tagOk t = some (tagB t) := by
 unfold p_impl_tagOk tagB
 have c1 : decide ((t.1.size : Int) = 1) = decide (t.1.size = 1) := decide_eq_decide.2 (by omega)
 have c2 : decide ((t.2.size : Int) = 1) = decide (t.2.size = 1) := decide_eq_decide.2 (by omega)
 rw [c1, c2]
 by_cases h1 : t.1.size = 1
 ·have r1 := rng_one h1 97 100
  rw [show ((97 : UInt8).toNat : Int) = 97 from rfl, show ((100 : UInt8).toNat : Int) = 100 from rfl] at r1
  rw [← r1]
  by_cases h2 : t.2.size = 1
  ·have r2 := rng_one h2 112 122
   rw [show ((112 : UInt8).toNat : Int) = 112 from rfl, show ((122 : UInt8).toNat : Int) = 122 from rfl] at r2
   rw [← r2]
   simp only [h1, h2, decide_true, cond_true, Bool.true_and]
   cases (!sless t.1 ⟨#[97]⟩) <;> cases (sless t.1 ⟨#[100]⟩ || decide (t.1 = ⟨#[100]⟩)) <;> cases (!sless t.2 ⟨#[112]⟩) <;> rfl
  ·simp only [h1, h2, decide_true, decide_false, cond_true, cond_false, Bool.true_and, Bool.false_and]
   cases (!sless t.1 ⟨#[97]⟩) <;> cases (sless t.1 ⟨#[100]⟩ || decide (t.1 = ⟨#[100]⟩)) <;> rfl
 ·simp [h1]
def nameBad (n : List Tag) (k : Nat) : Bool := !tagB (nth n k) || (decide (0 < k) && !sless (nth n (k - 1)).1 (nth n k).1)
def nameOk (n : List Tag) : Bool := allN n.length (nameBad n) && inn 1 (n.length : Int) 3
theorem e_impl_NameOk (n : List Tag) (hn : n.length ≤ maxLen) : p_impl_NameOk n = some (nameOk n) := by
 have hn' : n.length ≤ 9223372036854775807 := hn
 have hr : ∀ k, k < n.length → p_impl_NameOk_b0 n (k : Int) = some (if nameBad n k then .inr (.inr false) else .inl ((k + 1 : Nat) : Int)) := fun k hk => by
  unfold p_impl_NameOk_b0 nameBad
  simp only [dlt hk, cond_true, gd.yes (ixN hk), e_impl_tagOk, bd_some, Int.toNat_natCast, gd.yes (i64S hk hn')]
  cases h1 : tagB (nth n k) with
  | false => simp
  | true =>
   simp only [Bool.not_true, cond_false, Bool.false_or]
   by_cases h0 : 0 < k
   ·have h0' : (0 : Int) < k := by omega
    have e1 : (k : Int) - 1 = ((k - 1 : Nat) : Int) := by omega
    have hi : I64 ((k - 1 : Nat) : Int) := by unfold I64; omega
    simp only [h0, h0', decide_true, cond_true, e1, gd.yes hi, gd.yes (ixN (show k - 1 < n.length by omega)), Int.toNat_natCast, bd_some, Bool.true_and]
    cases sless (nth n (k - 1)).1 (nth n k).1 <;> simp
   ·simp [h0]
 unfold p_impl_NameOk nameOk
 rcases lp_scan (body := p_impl_NameOk_b0 n) (fun k => (k : Int)) n.length (nameBad n) (.inl ()) (fun _ => .inr false) (fun k hk _ h => by simp [hr k hk, h]) (fun k hk _ h => by simp [hr k hk, h]) (fun _ => by unfold p_impl_NameOk_b0; simp) with ⟨h1, h2⟩ | ⟨h1, k, _, _, _, h2⟩
 ·rw [show (lp (p_impl_NameOk_b0 n) 0) = _ from h2, h1]; simp [sw, e_impl_within]
 ·rw [show (lp (p_impl_NameOk_b0 n) 0) = _ from h2, h1]; simp [sw]
theorem e_spec_NameOk (n : List Tag) (hn : n.length ≤ maxLen) : p_spec_NameOk n = some (nameOk n) := by
 have hn' : n.length ≤ 9223372036854775807 := hn
 have hr : ∀ k, k < n.length → p_spec_NameOk_b0 n (k : Int) = some (if nameBad n k then .inr (.inr false) else .inl ((k + 1 : Nat) : Int)) := fun k hk => by
  unfold p_spec_NameOk_b0 nameBad
  simp only [dlt hk, cond_true, gd.yes (ixN hk), e_spec_l3Tag, bd_some, Int.toNat_natCast, gd.yes (i64S hk hn')]
  cases h1 : tagB (nth n k) with
  | false => simp
  | true =>
   simp only [Bool.not_true, cond_false, Bool.false_or]
   by_cases h0 : 0 < k
   ·have h0' : (0 : Int) < k := by omega
    have e1 : (k : Int) - 1 = ((k - 1 : Nat) : Int) := by omega
    have hi : I64 ((k - 1 : Nat) : Int) := by unfold I64; omega
    simp only [h0, h0', decide_true, cond_true, e1, gd.yes hi, gd.yes (ixN (show k - 1 < n.length by omega)), Int.toNat_natCast, bd_some, Bool.true_and]
    cases sless (nth n (k - 1)).1 (nth n k).1 <;> simp
   ·simp [h0]
 unfold p_spec_NameOk nameOk
 rcases lp_scan (body := p_spec_NameOk_b0 n) (fun k => (k : Int)) n.length (nameBad n) (.inl ()) (fun _ => .inr false) (fun k hk _ h => by simp [hr k hk, h]) (fun k hk _ h => by simp [hr k hk, h]) (fun _ => by unfold p_spec_NameOk_b0; simp) with ⟨h1, h2⟩ | ⟨h1, k, _, _, _, h2⟩
 ·rw [show (lp (p_spec_NameOk_b0 n) 0) = _ from h2, h1]; simp [sw, e_spec_l6In]
 ·rw [show (lp (p_spec_NameOk_b0 n) 0) = _ from h2, h1]; simp [sw]
theorem allN_mem {α : Type} [Inhabited α] {l : List α} {p : α → Bool} : allN l.length (fun k => p (nth l k)) = true ↔ ∀ x ∈ l, p x = false := by
 rw [allN_iff]
 constructor
 ·intro h x hx
  obtain ⟨i, hi, rfl⟩ := List.mem_iff_getElem.1 hx
  have := h i hi
  rwa [nth_eq l i hi] at this
 ·intro h i hi
  rw [nth_eq l i hi]
  exact h _ (List.getElem_mem hi)
def hasT (n : List Tag) (t : Tag) : Bool := n.any fun x => decide (x = t)
theorem hasT_iff {n : List Tag} {t : Tag} : hasT n t = true ↔ t ∈ n := by simp [hasT]
theorem hasT_no {n : List Tag} {t : Tag} (h : t ∉ n) : hasT n t = false := by
 cases hc : hasT n t with
 | false => rfl
 | true => exact absurd (hasT_iff.1 hc) h
theorem e_spec_l3Has (n : List Tag) (t : Tag) (hn : n.length ≤ maxLen) : p_spec_l3Has n t = some (hasT n t) := by
 have hn' : n.length ≤ 9223372036854775807 := hn
 have hr : ∀ k, k < n.length → p_spec_l3Has_b0 n t (k : Int) = some (if decide (nth n k = t) then .inr (.inr true) else .inl ((k + 1 : Nat) : Int)) := fun k hk => by
  unfold p_spec_l3Has_b0
  simp only [dlt hk, cond_true, gd.yes (ixN hk), Int.toNat_natCast, gd.yes (i64S hk hn')]
  by_cases h : nth n k = t <;> simp [h]
 unfold p_spec_l3Has
 rcases lp_scan (body := p_spec_l3Has_b0 n t) (fun k => (k : Int)) n.length (fun k => decide (nth n k = t)) (.inl ()) (fun _ => .inr true) (fun k hk _ h => by simp [hr k hk, of_decide_eq_false h]) (fun k hk _ h => by simp [hr k hk, of_decide_eq_true h]) (fun _ => by unfold p_spec_l3Has_b0; simp) with ⟨h1, h2⟩ | ⟨h1, k, hk, hb, _, h2⟩
 ·rw [show (lp (p_spec_l3Has_b0 n t) 0) = _ from h2]
  have : t ∉ n := fun ht => by
   have := (allN_mem (l := n) (p := fun x => decide (x = t))).1 h1 t ht
   simp at this
  simp [sw, hasT_no this]
 ·rw [show (lp (p_spec_l3Has_b0 n t) 0) = _ from h2]
  have : t ∈ n := (of_decide_eq_true hb) ▸ nth_mem hk
  simp [sw, hasT_iff.2 this]
theorem e_Index_Tag (n : List Tag) (t : Tag) (hn : n.length ≤ maxLen) : ∃ k : Int, p_slices_Index_Tag_Tag n t = some k ∧ (0 ≤ k ↔ t ∈ n) := by
 have hn' : n.length ≤ 9223372036854775807 := hn
 have hr : ∀ k, k < n.length → p_slices_Index_Tag_Tag_b0 n t (k : Int) = some (if decide (t = nth n k) then .inr (.inr (k : Int)) else .inl ((k + 1 : Nat) : Int)) := fun k hk => by
  unfold p_slices_Index_Tag_Tag_b0
  simp only [dlt hk, cond_true, gd.yes (ixN hk), Int.toNat_natCast, gd.yes (i64S hk hn')]
  by_cases h : t = nth n k <;> simp [h]
 unfold p_slices_Index_Tag_Tag
 rcases lp_scan (body := p_slices_Index_Tag_Tag_b0 n t) (fun k => (k : Int)) n.length (fun k => decide (t = nth n k)) (.inl ()) (fun k => .inr (k : Int)) (fun k hk _ h => by simp [hr k hk, of_decide_eq_false h]) (fun k hk _ h => by rw [hr k hk, if_pos h]) (fun _ => by unfold p_slices_Index_Tag_Tag_b0; simp) with ⟨h1, h2⟩ | ⟨h1, k, hk, hb, _, h2⟩
 ·rw [show (lp (p_slices_Index_Tag_Tag_b0 n t) 0) = _ from h2]
  have : t ∉ n := fun ht => by
   have := (allN_mem (l := n) (p := fun x => decide (t = x))).1 h1 t ht
   simp at this
  exact ⟨-1, rfl, by simp [this]⟩
 ·rw [show (lp (p_slices_Index_Tag_Tag_b0 n t) 0) = _ from h2]
  have : t ∈ n := (of_decide_eq_true hb) ▸ nth_mem hk
  exact ⟨(k : Int), rfl, by simp [this]⟩
theorem e_Contains_Tag (n : List Tag) (t : Tag) (hn : n.length ≤ maxLen) : p_slices_Contains_Tag_Tag n t = some (hasT n t) := by
 unfold p_slices_Contains_Tag_Tag
 obtain ⟨k, e, h⟩ := e_Index_Tag n t hn
 simp only [e, bd_some]
 by_cases hm : t ∈ n
 ·rw [hasT_iff.2 hm, decide_eq_true (h.2 hm)]
 ·rw [hasT_no hm, decide_eq_false (fun q => hm (h.1 q))]
def filterOk (f : List Cond) : Bool := allN f.length (fun k => !tagB (nth f k).1) && decide ((f.length : Int) ≤ 3)
theorem e_impl_FilterOk (f : List Cond) (hn : f.length ≤ maxLen) : p_impl_FilterOk f = some (filterOk f) := by
 have hn' : f.length ≤ 9223372036854775807 := hn
 have hr : ∀ k, k < f.length → p_impl_FilterOk_b0 f (k : Int) = some (if (!tagB (nth f k).1) then .inr (.inr false) else .inl ((k + 1 : Nat) : Int)) := fun k hk => by
  unfold p_impl_FilterOk_b0
  simp only [dlt hk, cond_true, gd.yes (ixN hk), e_impl_tagOk, bd_some, Int.toNat_natCast, gd.yes (i64S hk hn')]
  cases tagB (nth f k).1 <;> simp
 unfold p_impl_FilterOk filterOk
 rcases lp_scan (body := p_impl_FilterOk_b0 f) (fun k => (k : Int)) f.length (fun k => !tagB (nth f k).1) (.inl ()) (fun _ => .inr false) (fun k hk _ h => by rw [hr k hk, h]; rfl) (fun k hk _ h => by rw [hr k hk, h]; rfl) (fun _ => by unfold p_impl_FilterOk_b0; simp) with ⟨h1, h2⟩ | ⟨h1, k, _, _, _, h2⟩
 ·rw [show (lp (p_impl_FilterOk_b0 f) 0) = _ from h2, h1]; simp [sw]
 ·rw [show (lp (p_impl_FilterOk_b0 f) 0) = _ from h2, h1]; simp [sw]
theorem e_spec_FilterOk (f : List Cond) (hn : f.length ≤ maxLen) : p_spec_FilterOk f = some (filterOk f) := by
 have hn' : f.length ≤ 9223372036854775807 := hn
 have hr : ∀ k, k < f.length → p_spec_FilterOk_b0 f (k : Int) = some (if (!tagB (nth f k).1) then .inr (.inr false) else .inl ((k + 1 : Nat) : Int)) := fun k hk => by
  unfold p_spec_FilterOk_b0
  simp only [dlt hk, cond_true, gd.yes (ixN hk), e_spec_l3Tag, bd_some, Int.toNat_natCast, gd.yes (i64S hk hn')]
  cases tagB (nth f k).1 <;> simp
 unfold p_spec_FilterOk filterOk
 rcases lp_scan (body := p_spec_FilterOk_b0 f) (fun k => (k : Int)) f.length (fun k => !tagB (nth f k).1) (.inl ()) (fun _ => .inr false) (fun k hk _ h => by rw [hr k hk, h]; rfl) (fun k hk _ h => by rw [hr k hk, h]; rfl) (fun _ => by unfold p_spec_FilterOk_b0; simp) with ⟨h1, h2⟩ | ⟨h1, k, _, _, _, h2⟩
 ·rw [show (lp (p_spec_FilterOk_b0 f) 0) = _ from h2, h1]; simp [sw]
 ·rw [show (lp (p_spec_FilterOk_b0 f) 0) = _ from h2, h1]; simp [sw]
def fitsP (f : List Cond) (n : List Tag) : Bool := allN f.length fun k => decide (hasT n (nth f k).1 = (nth f k).2)
theorem e_spec_l3Fits (f : List Cond) (n : List Tag) (hf : f.length ≤ maxLen) (hn : n.length ≤ maxLen) : p_spec_l3Fits f n = some (fitsP f n) := by
 have hf' : f.length ≤ 9223372036854775807 := hf
 have hr : ∀ k, k < f.length → p_spec_l3Fits_b0 f n (k : Int) = some (if decide (hasT n (nth f k).1 = (nth f k).2) then .inr (.inr false) else .inl ((k + 1 : Nat) : Int)) := fun k hk => by
  unfold p_spec_l3Fits_b0
  simp only [dlt hk, cond_true, gd.yes (ixN hk), e_spec_l3Has n _ hn, bd_some, Int.toNat_natCast, gd.yes (i64S hk hf')]
  by_cases h : hasT n (nth f k).1 = (nth f k).2 <;> simp [h]
 unfold p_spec_l3Fits fitsP
 rcases lp_scan (body := p_spec_l3Fits_b0 f n) (fun k => (k : Int)) f.length (fun k => decide (hasT n (nth f k).1 = (nth f k).2)) (.inl ()) (fun _ => .inr false) (fun k hk _ h => by rw [hr k hk, h]; rfl) (fun k hk _ h => by rw [hr k hk, h]; rfl) (fun _ => by unfold p_spec_l3Fits_b0; simp) with ⟨h1, h2⟩ | ⟨h1, k, _, _, _, h2⟩
 ·rw [show (lp (p_spec_l3Fits_b0 f n) 0) = _ from h2, h1]; simp [sw]
 ·rw [show (lp (p_spec_l3Fits_b0 f n) 0) = _ from h2, h1]; simp [sw]
theorem e_impl_FilterFits (f : List Cond) (n : List Tag) (hf : f.length ≤ maxLen) (hn : n.length ≤ maxLen) : p_impl_FilterFits f n = some (filterOk f && (nameOk n && fitsP f n)) := by
 have hf' : f.length ≤ 9223372036854775807 := hf
 have hr : ∀ k, k < f.length → p_impl_FilterFits_b0 f n (k : Int) = some (if decide (hasT n (nth f k).1 = (nth f k).2) then .inr (.inr false) else .inl ((k + 1 : Nat) : Int)) := fun k hk => by
  unfold p_impl_FilterFits_b0
  simp only [dlt hk, cond_true, gd.yes (ixN hk), e_Contains_Tag n _ hn, bd_some, Int.toNat_natCast, gd.yes (i64S hk hf')]
  by_cases h : hasT n (nth f k).1 = (nth f k).2 <;> simp [h]
 unfold p_impl_FilterFits
 simp only [e_impl_FilterOk f hf, e_impl_NameOk n hn, bd_some]
 cases filterOk f with
 | false => rfl
 | true =>
  cases nameOk n with
  | false => rfl
  | true =>
   simp only [Bool.not_true, cond_false, bd_some, Bool.true_and]
   unfold fitsP
   rcases lp_scan (body := p_impl_FilterFits_b0 f n) (fun k => (k : Int)) f.length (fun k => decide (hasT n (nth f k).1 = (nth f k).2)) (.inl ()) (fun _ => .inr false) (fun k hk _ h => by rw [hr k hk, h]; rfl) (fun k hk _ h => by rw [hr k hk, h]; rfl) (fun _ => by unfold p_impl_FilterFits_b0; simp) with ⟨h1, h2⟩ | ⟨h1, k, _, _, _, h2⟩
   ·rw [show (lp (p_impl_FilterFits_b0 f n) 0) = _ from h2, h1]; simp [sw]
   ·rw [show (lp (p_impl_FilterFits_b0 f n) 0) = _ from h2, h1]; simp [sw]
theorem e_impl_cloneNames (names : List (List Tag)) (h1 : names.length ≤ 4194304) (h2 : ∀ n ∈ names, n.length ≤ 4194304) : p_impl_cloneNames names = some names := by
 unfold p_impl_cloneNames
 rw [show (([] : List (List Tag)), (0 : Int)) = (names.take 0, ((0 : Nat) : Int)) from rfl, lp_for (fun k => (names.take k, (k : Int))) names.length names (fun k hk => by
  unfold p_impl_cloneNames_b0
  have hl := h2 _ (nth_mem hk)
  simp only [dlt hk, cond_true, gd.yes (ixN hk), Int.toNat_natCast, List.length_nil, List.nil_append, List.length_take]
  rw [gd.yes (by unfold room; omega), gd.yes (by unfold room; omega), gd.yes (by unfold I64; omega), take_succ_nth hk]
  rfl) (by unfold p_impl_cloneNames_b0; simp)]
 rfl
theorem e_spec_l11Names (names : List (List Tag)) (h1 : names.length ≤ 4194304) (h2 : ∀ n ∈ names, n.length ≤ 4194304) : p_spec_l11Names names = some names := by
 unfold p_spec_l11Names
 rw [show (([] : List (List Tag)), (0 : Int)) = (names.take 0, ((0 : Nat) : Int)) from rfl, lp_for (fun k => (names.take k, (k : Int))) names.length names (fun k hk => by
  unfold p_spec_l11Names_b0
  have hl := h2 _ (nth_mem hk)
  simp only [dlt hk, cond_true, gd.yes (ixN hk), Int.toNat_natCast, List.length_nil, List.nil_append, List.length_take]
  rw [gd.yes (by unfold room; omega), gd.yes (by unfold room; omega), gd.yes (by unfold I64; omega), take_succ_nth hk]
  rfl) (by unfold p_spec_l11Names_b0; simp)]
 rfl
def addT : List Post → Tag → Int → List Post
 | [], t, i => [(t, [i])]
 | p :: P, t, i => if p.1 = t then (p.1, p.2 ++ [i]) :: P else p :: addT P t i
def addN (P : List Post) (n : List Tag) (i : Int) : List Post := n.foldl (fun P t => addT P t i) P
def postsF (names : List (List Tag)) : Nat → List Post
 | 0 => []
 | m + 1 => addN (postsF names m) (nth names m) ((m : Int) + 1)
def indexP (names : List (List Tag)) : Index := (names, (postsF names names.length).mergeSort leP)
theorem addT_old (P : List Post) (t : Tag) (i : Int) (h : t ∈ P.map (·.1)) : (addT P t i).map (·.1) = P.map (·.1) := by
 induction P with
 | nil => cases h
 | cons p P ih =>
  unfold addT
  by_cases e : p.1 = t
  ·simp [e]
  ·rw [if_neg e, List.map_cons, List.map_cons, ih]
   rcases List.mem_cons.1 h with h | h
   ·exact absurd h.symm e
   ·exact h
theorem addT_new (P : List Post) (t : Tag) (i : Int) (h : t ∉ P.map (·.1)) : (addT P t i).map (·.1) = P.map (·.1) ++ [t] := by
 induction P with
 | nil => rfl
 | cons p P ih =>
  unfold addT
  have e : p.1 ≠ t := fun e => h (by rw [List.map_cons, e]; exact List.mem_cons_self ..)
  rw [if_neg e, List.map_cons, List.map_cons, ih (fun q => h (by rw [List.map_cons]; exact List.mem_cons_of_mem _ q))]
  rfl
theorem addT_nodup {P : List Post} (h : (P.map (·.1)).Nodup) (t : Tag) (i : Int) : ((addT P t i).map (·.1)).Nodup := by
 by_cases hm : t ∈ P.map (·.1)
 ·rw [addT_old P t i hm]; exact h
 ·rw [addT_new P t i hm, List.nodup_append]
  exact ⟨h, by simp, fun a ha b hb => by simp at hb; subst hb; exact fun e => hm (e ▸ ha)⟩
theorem addN_cons (P : List Post) (t : Tag) (n : List Tag) (i : Int) : addN P (t :: n) i = addN (addT P t i) n i := rfl
theorem postsF_succ (names : List (List Tag)) (m : Nat) : postsF names (m + 1) = addN (postsF names m) (nth names m) ((m : Int) + 1) := rfl
theorem addN_nodup (n : List Tag) (i : Int) : ∀ {P : List Post}, (P.map (·.1)).Nodup → ((addN P n i).map (·.1)).Nodup := by
 unfold addN
 induction n with
 | nil => intro P h; exact h
 | cons t n ih => intro P h; exact ih (addT_nodup h t i)
theorem postsF_nodup (names : List (List Tag)) : ∀ m, ((postsF names m).map (·.1)).Nodup
 | 0 => by simp [postsF]
 | m + 1 => addN_nodup _ _ (postsF_nodup names m)
def bnd (P : List Post) (c : Nat) : Prop := P.length ≤ c ∧ ∀ p ∈ P, p.2.length ≤ c
theorem bnd_addT {P : List Post} {c : Nat} (h : bnd P c) (t : Tag) (i : Int) : bnd (addT P t i) (c + 1) := by
 obtain ⟨h1, h2⟩ := h
 have len : (addT P t i).length ≤ P.length + 1 := by
  clear h1 h2
  induction P with
  | nil => simp [addT]
  | cons p P ih => unfold addT; split <;> simp <;> omega
 refine ⟨by omega, ?_⟩
 clear len h1
 induction P with
 | nil => intro p hp; simp [addT] at hp; subst hp; simp
 | cons q P ih =>
  intro p hp
  unfold addT at hp
  split at hp
  ·rcases List.mem_cons.1 hp with rfl | hp
   ·have := h2 q (List.mem_cons_self ..)
    simp; omega
   ·have := h2 p (List.mem_cons_of_mem _ hp); omega
  ·rcases List.mem_cons.1 hp with rfl | hp
   ·have := h2 p (List.mem_cons_self ..); omega
   ·exact ih (fun r hr => h2 r (List.mem_cons_of_mem _ hr)) p hp
theorem addT_none {P : List Post} {t : Tag} (i : Int) (h : ∀ k, k < P.length → (nth P k).1 ≠ t) : addT P t i = P ++ [(t, [i])] := by
 induction P with
 | nil => rfl
 | cons p P ih =>
  have h0 : p.1 ≠ t := h 0 (by simp)
  unfold addT
  rw [if_neg h0, ih (fun k hk => h (k + 1) (by simp; omega))]; rfl
theorem addT_some {P : List Post} {t : Tag} (i : Int) : ∀ {k : Nat}, k < P.length → (nth P k).1 = t → (∀ j, j < k → (nth P j).1 ≠ t) → addT P t i = P.set k ((nth P k).1, (nth P k).2 ++ [i]) := by
 induction P with
 | nil => intro k hk; simp at hk
 | cons p P ih =>
  intro k hk he hn
  cases k with
  | zero =>
   have he : p.1 = t := he
   unfold addT; rw [if_pos he]; rfl
  | succ k =>
   have h0 : p.1 ≠ t := hn 0 (by omega)
   unfold addT
   rw [if_neg h0, ih (k := k) (by simpa using hk) he (fun j hj => hn (j + 1) (by omega))]
   rfl
theorem e_IndexFunc1 (P : List Post) (t : Tag) (hP : P.length ≤ 4194304) : (∃ k : Nat, k < P.length ∧ (nth P k).1 = t ∧ (∀ j, j < k → (nth P j).1 ≠ t) ∧ p_slices_IndexFunc_Post_Post_indexOf_1 P t = some (k : Int)) ∨ ((∀ k, k < P.length → (nth P k).1 ≠ t) ∧ p_slices_IndexFunc_Post_Post_indexOf_1 P t = some (-1)) := by
 have hr : ∀ k, k < P.length → p_slices_IndexFunc_Post_Post_indexOf_1_b0 P t (k : Int) = some (if decide ((nth P k).1 = t) then .inr (.inr (k : Int)) else .inl ((k + 1 : Nat) : Int)) := fun k hk => by
  unfold p_slices_IndexFunc_Post_Post_indexOf_1_b0 p_impl_indexOf_1
  simp only [dlt hk, cond_true, gd.yes (ixN hk), Int.toNat_natCast, bd_some, gd.yes (i64S hk (by omega))]
  by_cases h : (nth P k).1 = t <;> simp [h]
 unfold p_slices_IndexFunc_Post_Post_indexOf_1
 rcases lp_scan (body := p_slices_IndexFunc_Post_Post_indexOf_1_b0 P t) (fun k => (k : Int)) P.length (fun k => decide ((nth P k).1 = t)) (.inl ()) (fun k => .inr (k : Int)) (fun k hk _ h => by simp [hr k hk, of_decide_eq_false h]) (fun k hk _ h => by rw [hr k hk, if_pos h]) (fun _ => by unfold p_slices_IndexFunc_Post_Post_indexOf_1_b0; simp) with ⟨h1, h2⟩ | ⟨h1, k, hk, hb, hn, h2⟩
 ·exact .inr ⟨fun k hk => of_decide_eq_false (allN_iff.1 h1 k hk), by rw [show (lp (p_slices_IndexFunc_Post_Post_indexOf_1_b0 P t) 0) = _ from h2]; rfl⟩
 ·exact .inl ⟨k, hk, of_decide_eq_true hb, fun j hj => of_decide_eq_false (hn j hj), by rw [show (lp (p_slices_IndexFunc_Post_Post_indexOf_1_b0 P t) 0) = _ from h2]; rfl⟩
theorem e_tags (names : List (List Tag)) (Q : List Post) (m : Nat) (hm : m < 4194304) (c : Nat) (n : List Tag) (hn : n = nth names m) (hc : c + n.length ≤ 4194304) : ∀ (r j : Nat) (P : List Post), j + r = n.length → bnd P (c + j) →
  lp (p_impl_indexOf_b1 names (Q, (m : Int))) (P, (j : Int)) = some (addN P (n.drop j) ((m : Int) + 1)) ∧ bnd (addN P (n.drop j) ((m : Int) + 1)) (c + n.length)
 | 0, j, P, hj, hb => by
  have : n.drop j = [] := List.drop_eq_nil_of_le (by omega)
  rw [this]
  refine ⟨lp.stop ?_, by rw [show c + n.length = c + j by omega]; exact hb⟩
  unfold p_impl_indexOf_b1
  simp only [Int.toNat_natCast, ← hn]
  rw [decide_eq_false (show ¬ ((j : Int) < (n.length : Int)) by omega)]; rfl
 | r + 1, j, P, hj, hb => by
  have hjn : j < n.length := by omega
  have hd : n.drop j = nth n j :: n.drop (j + 1) := by rw [nth_eq n j hjn]; exact List.drop_eq_getElem_cons hjn
  have hP1 := hb.1
  have step : p_impl_indexOf_b1 names (Q, (m : Int)) (P, (j : Int)) = some (.inl (addT P (nth n j) ((m : Int) + 1), ((j + 1 : Nat) : Int))) := by
   unfold p_impl_indexOf_b1
   simp only [Int.toNat_natCast, ← hn, dlt hjn, cond_true, gd.yes (ixN hjn)]
   rcases e_IndexFunc1 P (nth n j) (by omega) with ⟨k, hk, he, hno, hf⟩ | ⟨hno, hf⟩
   ·have hl := hb.2 _ (nth_mem hk)
    rw [hf]
    simp only [bd_some]
    rw [decide_eq_false (show ¬ ((k : Int) < 0) by omega)]
    rw [cond_false, gd.yes (ixN hk)]
    simp only [Int.toNat_natCast]
    rw [gd.yes (by unfold I64; omega), gd.yes (by unfold room; omega), gd.yes (by unfold I64; omega), addT_some _ hk he hno]
    rfl
   ·rw [hf]
    simp only [bd_some]
    rw [decide_eq_true (show ((-1 : Int) < 0) by omega)]
    have e1 : nth (P ++ [(nth n j, ([] : List Int))]) P.length = (nth n j, []) := nth_append_new
    simp only [cond_true, e1, List.nil_append, List.length_nil]
    rw [gd.yes (by unfold room; omega), gd.yes (by unfold ix; simp; omega), gd.yes (by unfold I64; omega), gd.yes (by unfold room; omega), gd.yes (by unfold I64; omega), addT_none _ hno]
    simp
  rw [lp.step step, hd, addN_cons]
  exact e_tags names Q m hm c n hn hc r (j + 1) _ (by omega) (by rw [← Nat.add_assoc]; exact bnd_addT hb _ _)
theorem e_posts (names : List (List Tag)) (hN : names.length ≤ 4194304) (hs : sumN names.length (fun i => (nth names i).length) ≤ 4194304) : ∀ m, m ≤ names.length → bnd (postsF names m) (sumN m fun i => (nth names i).length) ∧ lp (p_impl_indexOf_b0 names) (([] : List Post), (0 : Int)) = lp (p_impl_indexOf_b0 names) (postsF names m, (m : Int))
 | 0, _ => ⟨⟨by simp [postsF], fun p hp => by simp [postsF] at hp⟩, rfl⟩
 | m + 1, hm => by
  obtain ⟨b, e⟩ := e_posts names hN hs m (by omega)
  have hmn : m < names.length := by omega
  have hle : sumN m (fun i => (nth names i).length) + (nth names m).length ≤ sumN names.length (fun i => (nth names i).length) := sumN_lt hmn
  obtain ⟨t1, t2⟩ := e_tags names (postsF names m) m (by omega) _ (nth names m) rfl (by omega) (nth names m).length 0 (postsF names m) (by omega) b
  rw [List.drop_zero] at t1 t2
  refine ⟨t2, ?_⟩
  rw [e, lp.step (s' := (postsF names (m + 1), ((m + 1 : Nat) : Int)))]
  rw [postsF_succ]
  unfold p_impl_indexOf_b0
  rw [show ((0 : Nat) : Int) = 0 from rfl] at t1
  rw [dlt hmn, cond_true, gd.yes (ixN hmn), bd.yes t1]
  rw [gd.yes (by unfold I64; omega), addI]
theorem e_indexOf (names : List (List Tag)) (hN : names.length ≤ 4194304) (hs : sumN names.length (fun i => (nth names i).length) ≤ 4194304) : p_impl_indexOf names = some (indexP names) := by
 have hn : ∀ n ∈ names, n.length ≤ 4194304 := fun n h => by
  obtain ⟨i, hi, rfl⟩ := List.mem_iff_getElem.1 h
  have := sumN_get (f := fun i => (nth names i).length) hi
  simp only [nth_eq names i hi] at this
  omega
 obtain ⟨b, e⟩ := e_posts names hN hs names.length (Nat.le_refl _)
 unfold p_impl_indexOf
 rw [e_impl_cloneNames names hN hn]
 simp only [bd_some]
 rw [e, lp.stop (e := postsF names names.length) (by
  unfold p_impl_indexOf_b0
  rw [decide_eq_false (show ¬ ((names.length : Int) < (names.length : Int)) by omega)]; rfl)]
 simp only [bd_some]
 have hl := b.1
 unfold p_slices_SortFunc_Post_Post_indexOf_2 sortP
 rw [gd.yes (show room (postsF names names.length).length by unfold room; omega), gd.yes (postsF_nodup names _)]
 rfl
def textK (n : List Tag) : Nat → ByteArray
 | 0 => ⟨#[]⟩
 | m + 1 => (((if 0 < m then textK n m ++ ⟨#[44]⟩ else textK n m) ++ (nth n m).1) ++ ⟨#[61]⟩) ++ (nth n m).2
def textN (n : List Tag) : ByteArray := textK n n.length
theorem textK_size (n : List Tag) : ∀ m, (textK n m).size ≤ 2 * m + sumN m fun i => (nth n i).1.size + (nth n i).2.size
 | 0 => Nat.zero_le _
 | m + 1 => by
  have ih := textK_size n m
  show ((((if 0 < m then textK n m ++ ⟨#[44]⟩ else textK n m) ++ (nth n m).1) ++ ⟨#[61]⟩) ++ (nth n m).2).size ≤ 2 * (m + 1) + (sumN m (fun i => (nth n i).1.size + (nth n i).2.size) + ((nth n m).1.size + (nth n m).2.size))
  have e1 : ((⟨#[61]⟩ : ByteArray)).size = 1 := rfl
  have e2 : ((⟨#[44]⟩ : ByteArray)).size = 1 := rfl
  split
  ·simp only [ByteArray.size_append, e1, e2]; omega
  ·simp only [ByteArray.size_append, e1]; omega
theorem textK_pos {n : List Tag} {m : Nat} (h : 0 < m) : textK n (m + 1) = (((textK n m ++ ⟨#[44]⟩) ++ (nth n m).1) ++ ⟨#[61]⟩) ++ (nth n m).2 := by
 show (((if 0 < m then textK n m ++ ⟨#[44]⟩ else textK n m) ++ (nth n m).1) ++ ⟨#[61]⟩) ++ (nth n m).2 = _
 rw [if_pos h]
theorem textK_neg {n : List Tag} {m : Nat} (h : ¬ 0 < m) : textK n (m + 1) = ((textK n m ++ (nth n m).1) ++ ⟨#[61]⟩) ++ (nth n m).2 := by
 show (((if 0 < m then textK n m ++ ⟨#[44]⟩ else textK n m) ++ (nth n m).1) ++ ⟨#[61]⟩) ++ (nth n m).2 = _
 rw [if_neg h]
theorem w_name (n : List Tag) : Wt.w n = n.length + sumN n.length fun i => (nth n i).1.size + (nth n i).2.size := rfl
theorem e_spec_l3Text (n : List Tag) (hw : Wt.w n ≤ 4194304) : p_spec_l3Text n = some (textN n) := by
 rw [w_name] at hw
 unfold p_spec_l3Text textN
 have e44 : ((⟨#[44]⟩ : ByteArray)).size = 1 := rfl
 have e61 : ((⟨#[61]⟩ : ByteArray)).size = 1 := rfl
 rw [show ((⟨#[]⟩ : ByteArray), (0 : Int)) = (textK n 0, ((0 : Nat) : Int)) from rfl, lp_for (fun k => (textK n k, (k : Int))) n.length (textK n n.length) (fun m hm => by
  have h1 := textK_size n m
  have h2 : (sumN m fun i => (nth n i).1.size + (nth n i).2.size) + ((nth n m).1.size + (nth n m).2.size) ≤ sumN n.length fun i => (nth n i).1.size + (nth n i).2.size := sumN_lt (f := fun i => (nth n i).1.size + (nth n i).2.size) hm
  unfold p_spec_l3Text_b0
  rw [dlt hm, cond_true]
  by_cases h0 : 0 < m
  ·rw [decide_eq_true (show (0 : Int) < (m : Int) by omega), cond_true]
   rw [gd.yes (by simp only [room, e44]; omega), gd.yes (ixN hm), gd.yes (by simp only [room, ByteArray.size_append, e44, Int.toNat_natCast]; omega), gd.yes (by simp only [room, ByteArray.size_append, e44, e61, Int.toNat_natCast]; omega), gd.yes (by simp only [room, ByteArray.size_append, e44, e61, Int.toNat_natCast]; omega), gd.yes (by unfold I64; omega), addI]
   rw [textK_pos h0]
   rfl
  ·rw [decide_eq_false (show ¬ (0 : Int) < (m : Int) by omega), cond_false]
   rw [gd.yes (ixN hm), gd.yes (by simp only [room, Int.toNat_natCast]; omega), gd.yes (by simp only [room, ByteArray.size_append, e61, Int.toNat_natCast]; omega), gd.yes (by simp only [room, ByteArray.size_append, e61, Int.toNat_natCast]; omega), gd.yes (by unfold I64; omega), addI]
   rw [textK_neg h0]
   rfl) (by unfold p_spec_l3Text_b0; rw [decide_eq_false (show ¬ ((n.length : Int) < (n.length : Int)) by omega)]; rfl)]
 rfl
def oneB (t : Tag) : Prop := t.1.size = 1 ∧ t.2.size = 1
theorem tagB_one {t : Tag} (h : tagB t = true) : oneB t := by
 unfold tagB at h
 simp only [Bool.and_eq_true, decide_eq_true_eq] at h
 exact ⟨h.1, h.2.1⟩
theorem nameOk_tags {n : List Tag} (h : nameOk n = true) : ∀ t ∈ n, tagB t = true := by
 intro t ht
 unfold nameOk at h
 simp only [Bool.and_eq_true] at h
 obtain ⟨i, hi, rfl⟩ := List.mem_iff_getElem.1 ht
 have := allN_iff.1 h.1 i hi
 unfold nameBad at this
 simp only [Bool.or_eq_false_iff] at this
 rw [← nth_eq n i hi]
 simpa using this.1
theorem nameOk_len {n : List Tag} (h : nameOk n = true) : 1 ≤ n.length ∧ n.length ≤ 3 := by
 unfold nameOk inn at h
 simp only [Bool.and_eq_true, decide_eq_true_eq] at h
 omega
def kb (t : Tag) : UInt8 := sb t.1 0
def vb (t : Tag) : UInt8 := sb t.2 0
def bytesT : List Tag → List UInt8
 | [] => []
 | [t] => [kb t, 61, vb t]
 | t :: u :: r => kb t :: 61 :: vb t :: 44 :: bytesT (u :: r)
theorem bytesT_snoc (l : List Tag) (t : Tag) : bytesT (l ++ [t]) = if l = [] then [kb t, 61, vb t] else bytesT l ++ [44, kb t, 61, vb t] := by
 induction l with
 | nil => rfl
 | cons u l ih =>
  cases l with
  | nil => rfl
  | cons v l =>
   simp only [List.cons_append, bytesT] at ih ⊢
   rw [ih]
   simp
theorem one_bytes {x : ByteArray} (h : x.size = 1) : x.data.toList = [sb x 0] := by
 have := ba_one h
 generalize sb x 0 = c at *
 subst this; rfl
theorem textK_bytes (n : List Tag) (h1 : ∀ t ∈ n, oneB t) : ∀ m, m ≤ n.length → (textK n m).data.toList = bytesT (n.take m)
 | 0, _ => rfl
 | m + 1, hm => by
  have hmn : m < n.length := by omega
  have ih := textK_bytes n h1 m (by omega)
  obtain ⟨o1, o2⟩ := h1 _ (nth_mem hmn)
  rw [take_succ_nth hmn, bytesT_snoc]
  unfold textK
  have e1 := one_bytes o1
  have e2 := one_bytes o2
  by_cases h0 : 0 < m
  ·have hne : n.take m ≠ [] := fun e => by have := congrArg List.length e; rw [List.length_take, List.length_nil] at this; omega
   rw [if_pos h0, if_neg hne]
   simp only [ByteArray.data_append, Array.toList_append, ih, e1, e2]
   simp [kb, vb]
  ·have hm0 : m = 0 := by omega
   subst hm0
   simp only [ByteArray.data_append, Array.toList_append, e1, e2]
   simp [textK, kb, vb]
theorem tag_ext {t u : Tag} (h1 : oneB t) (h2 : oneB u) (hk : kb t = kb u) (hv : vb t = vb u) : t = u := by
 have a1 := ba_one h1.1
 have a2 := ba_one h1.2
 have b1 := ba_one h2.1
 have b2 := ba_one h2.2
 refine Prod.ext ?_ ?_
 ·rw [a1, b1]; unfold kb at hk; rw [hk]
 ·rw [a2, b2]; unfold vb at hv; rw [hv]
theorem bytesT_inj : ∀ {a b : List Tag}, (∀ t ∈ a, oneB t) → (∀ t ∈ b, oneB t) → bytesT a = bytesT b → a = b
 | [], [], _, _, _ => rfl
 | [], [t], _, _, h => by simp [bytesT] at h
 | [], t :: u :: r, _, _, h => by simp [bytesT] at h
 | [t], [], _, _, h => by simp [bytesT] at h
 | t :: u :: r, [], _, _, h => by simp [bytesT] at h
 | [t], [u], ha, hb, h => by
  simp only [bytesT, List.cons.injEq, and_true, true_and] at h
  rw [tag_ext (ha t (by simp)) (hb u (by simp)) h.1 h.2]
 | [t], u :: v :: r, _, _, h => by simp [bytesT] at h
 | t :: u :: r, [v], _, _, h => by simp [bytesT] at h
 | t :: u :: r, v :: w :: q, ha, hb, h => by
  simp only [bytesT, List.cons.injEq, true_and] at h
  rw [tag_ext (ha t (by simp)) (hb v (by simp)) h.1 h.2.1, bytesT_inj (a := u :: r) (b := w :: q) (fun x hx => ha x (List.mem_cons_of_mem _ hx)) (fun x hx => hb x (List.mem_cons_of_mem _ hx)) h.2.2]
theorem textN_inj {a b : List Tag} (ha : ∀ t ∈ a, oneB t) (hb : ∀ t ∈ b, oneB t) (h : textN a = textN b) : a = b := by
 have e1 := textK_bytes a ha a.length (Nat.le_refl _)
 have e2 := textK_bytes b hb b.length (Nat.le_refl _)
 rw [List.take_length] at e1 e2
 refine bytesT_inj ha hb ?_
 rw [← e1, ← e2]
 show (textN a).data.toList = (textN b).data.toList
 rw [h]
theorem text_eq {a b : List Tag} (ha : nameOk a = true) (hb : nameOk b = true) : decide (textN a = textN b) = decide (a = b) := by
 by_cases h : a = b
 ·subst h; simp
 ·have : textN a ≠ textN b := fun e => h (textN_inj (fun t ht => tagB_one (nameOk_tags ha t ht)) (fun t ht => tagB_one (nameOk_tags hb t ht)) e)
  simp [h, this]
def idsN (names : List (List Tag)) (t : Tag) : Nat → List Int
 | 0 => []
 | m + 1 => idsN names t m ++ (if hasT (nth names m) t then [(m : Int) + 1] else [])
theorem idsN_succ (names : List (List Tag)) (t : Tag) (m : Nat) : idsN names t (m + 1) = idsN names t m ++ (if hasT (nth names m) t then [(m : Int) + 1] else []) := rfl
theorem idsN_len (names : List (List Tag)) (t : Tag) : ∀ m, (idsN names t m).length ≤ m
 | 0 => Nat.le_refl _
 | m + 1 => by
  have := idsN_len names t m
  rw [idsN_succ]
  split <;> simp <;> omega
theorem e_spec_l11Ids (names : List (List Tag)) (t : Tag) (h1 : names.length ≤ 4194304) (h2 : ∀ n ∈ names, n.length ≤ 4194304) : p_spec_l11Ids names t = some (idsN names t names.length) := by
 unfold p_spec_l11Ids
 rw [show (([] : List Int), (0 : Int)) = (idsN names t 0, ((0 : Nat) : Int)) from rfl, lp_for (fun k => (idsN names t k, (k : Int))) names.length (idsN names t names.length) (fun m hm => by
  have hl := h2 _ (nth_mem hm)
  have hi := idsN_len names t m
  unfold p_spec_l11Ids_b0
  rw [dlt hm, cond_true, gd.yes (ixN hm)]
  simp only [Int.toNat_natCast]
  rw [bd.yes (e_spec_l3Has (nth names m) t (by unfold maxLen; omega))]
  cases hc : hasT (nth names m) t with
  | true =>
   rw [cond_true, gd.yes (by unfold I64; omega), gd.yes (by unfold room; omega), idsN_succ, if_pos hc, addI]
  | false =>
   rw [cond_false, gd.yes (by unfold I64; omega), addI, idsN_succ, if_neg (by rw [hc]; simp), List.append_nil]) (by
  unfold p_spec_l11Ids_b0; rw [decide_eq_false (show ¬ ((names.length : Int) < (names.length : Int)) by omega)]; rfl)]
 rfl
def idsAt : List Post → Tag → List Int
 | [], _ => []
 | p :: P, t => if p.1 = t then p.2 else idsAt P t
theorem idsAt_addT (P : List Post) (t : Tag) (i : Int) (u : Tag) : idsAt (addT P t i) u = if u = t then idsAt P u ++ [i] else idsAt P u := by
 induction P with
 | nil =>
  unfold addT idsAt
  by_cases h : t = u
  ·subst h; simp
  ·have h' : ¬ u = t := fun e => h e.symm
   simp [h, h', idsAt]
 | cons p P ih =>
  unfold addT
  by_cases hp : p.1 = t
  ·rw [if_pos hp]
   by_cases hu : u = t
   ·subst hu; simp [idsAt, hp]
   ·have : ¬ p.1 = u := fun e => hu (e ▸ hp)
    simp [idsAt, this, hu]
  ·rw [if_neg hp]
   by_cases hu : p.1 = u
   ·have : ¬ u = t := fun e => hp (hu.trans e)
    simp [idsAt, hu, this]
   ·simp only [idsAt, if_neg hu, ih]
theorem idsAt_addN (n : List Tag) (i : Int) (u : Tag) : ∀ {P : List Post}, n.Nodup → idsAt (addN P n i) u = if hasT n u then idsAt P u ++ [i] else idsAt P u := by
 induction n with
 | nil => intro P _; rfl
 | cons t n ih =>
  intro P hn
  rw [List.nodup_cons] at hn
  rw [addN_cons, ih hn.2, idsAt_addT]
  have hc : hasT (t :: n) u = (decide (t = u) || hasT n u) := rfl
  rw [hc]
  by_cases h1 : u = t
  ·subst h1
   rw [hasT_no hn.1]; simp
  ·have h2 : ¬ t = u := fun e => h1 e.symm
   simp [h1, h2]
def dist (names : List (List Tag)) : Prop := ∀ n ∈ names, n.Nodup
theorem idsAt_posts {names : List (List Tag)} (hd : dist names) (u : Tag) : ∀ m, m ≤ names.length → idsAt (postsF names m) u = idsN names u m
 | 0, _ => rfl
 | m + 1, hm => by
  rw [postsF_succ, idsAt_addN _ _ _ (hd _ (nth_mem (show m < names.length by omega))), idsAt_posts hd u m (by omega)]
  rw [idsN_succ]
  cases h : hasT (nth names m) u with
  | true => simp
  | false => simp
theorem idsAt_mem {P : List Post} (hn : (P.map (·.1)).Nodup) {p : Post} (hp : p ∈ P) : idsAt P p.1 = p.2 := by
 induction P with
 | nil => cases hp
 | cons q P ih =>
  rw [List.map_cons, List.nodup_cons] at hn
  rcases List.mem_cons.1 hp with rfl | hp
  ·simp [idsAt]
  ·have : ¬ q.1 = p.1 := fun e => hn.1 (e ▸ List.mem_map_of_mem hp)
   simp only [idsAt, if_neg this]
   exact ih hn.2 hp
theorem idsAt_some {P : List Post} {t : Tag} (h : idsAt P t ≠ []) : ∃ p ∈ P, p.1 = t := by
 induction P with
 | nil => exact absurd rfl h
 | cons q P ih =>
  by_cases e : q.1 = t
  ·exact ⟨q, List.mem_cons_self .., e⟩
  ·simp only [idsAt, if_neg e] at h
   obtain ⟨p, hp, h1⟩ := ih h
   exact ⟨p, List.mem_cons_of_mem _ hp, h1⟩
theorem addT_ne {P : List Post} (h : ∀ p ∈ P, p.2 ≠ []) (t : Tag) (i : Int) : ∀ p ∈ addT P t i, p.2 ≠ [] := by
 induction P with
 | nil => intro p hp; simp [addT] at hp; subst hp; simp
 | cons q P ih =>
  intro p hp
  unfold addT at hp
  split at hp
  ·rcases List.mem_cons.1 hp with rfl | hp
   ·simp
   ·exact h p (List.mem_cons_of_mem _ hp)
  ·rcases List.mem_cons.1 hp with rfl | hp
   ·exact h p (List.mem_cons_self ..)
   ·exact ih (fun r hr => h r (List.mem_cons_of_mem _ hr)) p hp
theorem addN_ne (n : List Tag) (i : Int) : ∀ {P : List Post}, (∀ p ∈ P, p.2 ≠ []) → ∀ p ∈ addN P n i, p.2 ≠ [] := by
 induction n with
 | nil => intro P h; exact h
 | cons t n ih => intro P h; rw [addN_cons]; exact ih (addT_ne h t i)
theorem posts_ne (names : List (List Tag)) : ∀ m, ∀ p ∈ postsF names m, p.2 ≠ []
 | 0 => fun p hp => by cases hp
 | m + 1 => by rw [postsF_succ]; exact addN_ne _ _ (posts_ne names m)
def sumL : List Post → Nat
 | [] => 0
 | p :: P => p.2.length + sumL P
theorem sumL_append (P Q : List Post) : sumL (P ++ Q) = sumL P + sumL Q := by
 induction P with
 | nil => simp [sumL]
 | cons p P ih => simp only [List.cons_append, sumL, ih]; omega
theorem sumL_perm {P Q : List Post} (h : P.Perm Q) : sumL P = sumL Q := by
 induction h with
 | nil => rfl
 | cons x _ ih => simp only [sumL, ih]
 | swap x y l => simp only [sumL]; omega
 | trans _ _ h1 h2 => exact h1.trans h2
theorem sumL_addT (P : List Post) (t : Tag) (i : Int) : sumL (addT P t i) = sumL P + 1 := by
 induction P with
 | nil => rfl
 | cons p P ih =>
  unfold addT
  split
  ·simp only [sumL, List.length_append, List.length_cons, List.length_nil]; omega
  ·simp only [sumL, ih]; omega
theorem sumL_addN (n : List Tag) (i : Int) : ∀ (P : List Post), sumL (addN P n i) = sumL P + n.length := by
 induction n with
 | nil => intro P; rfl
 | cons t n ih => intro P; rw [addN_cons, ih, sumL_addT, List.length_cons]; omega
theorem sumL_posts (names : List (List Tag)) : ∀ m, sumL (postsF names m) = sumN m fun i => (nth names i).length
 | 0 => rfl
 | m + 1 => by
  rw [postsF_succ, sumL_addN, sumL_posts names m]; rfl
structure Canon (names : List (List Tag)) (C : List Post) : Prop where
 ord : C.Pairwise fun x y => ltTag x.1 y.1 = true
 ids : ∀ p ∈ C, p.2 = idsN names p.1 names.length ∧ p.2 ≠ []
 all : ∀ t, idsN names t names.length ≠ [] → ∃ p ∈ C, p.1 = t
theorem canon_posts {names : List (List Tag)} (hd : dist names) : Canon names (indexP names).2 := by
 have hn := postsF_nodup names names.length
 have hp := List.mergeSort_perm (postsF names names.length) leP
 have hs : ((postsF names names.length).mergeSort leP).Pairwise fun x y => leP x y = true := List.pairwise_mergeSort (fun a b c h1 h2 => by
  simp only [leP, Bool.not_eq_true'] at *; exact ltTag_nt h2 h1) (fun a b => by
  simp only [leP, Bool.or_eq_true, Bool.not_eq_true']
  cases h : ltTag b.1 a.1 with
  | false => exact .inl rfl
  | true => exact .inr (ltTag_asym h)) _
 have hn2 : (((postsF names names.length).mergeSort leP).map (·.1)).Nodup := (hp.map _).nodup_iff.2 hn
 refine ⟨?_, fun p hp' => ?_, fun t ht => ?_⟩
 ·show ((postsF names names.length).mergeSort leP).Pairwise _
  have hne : ((postsF names names.length).mergeSort leP).Pairwise fun x y => x.1 ≠ y.1 := by
   unfold List.Nodup at hn2
   rwa [List.pairwise_map] at hn2
  refine (hs.and hne).imp ?_
  intro x y h
  have h1 := h.1
  simp only [leP, Bool.not_eq_true'] at h1
  cases hc : ltTag x.1 y.1 with
  | true => rfl
  | false => exact absurd (ltTag_anti hc h1) h.2
 ·have hm : p ∈ postsF names names.length := hp.mem_iff.1 hp'
  exact ⟨by rw [← idsAt_posts hd p.1 _ (Nat.le_refl _), idsAt_mem hn hm], posts_ne names _ p hm⟩
 ·rw [← idsAt_posts hd t _ (Nat.le_refl _)] at ht
  obtain ⟨p, h1, h2⟩ := idsAt_some ht
  exact ⟨p, hp.mem_iff.2 h1, h2⟩
theorem canon_eq {names : List (List Tag)} {C D : List Post} (hc : Canon names C) (hd : Canon names D) : C = D := by
 have nd : ∀ {E : List Post}, Canon names E → E.Nodup := fun h => h.ord.imp fun {a b} k e => by subst e; rw [ltTag_irr] at k; cases k
 have sub : ∀ {E F : List Post}, Canon names E → Canon names F → ∀ p ∈ E, p ∈ F := fun {E F} hE hF p hp => by
  obtain ⟨e1, e2⟩ := hE.ids p hp
  obtain ⟨q, hq, e3⟩ := hF.all p.1 (e1 ▸ e2)
  have e4 := (hF.ids q hq).1
  have : q = p := Prod.ext e3 (by rw [e4, e3, e1])
  rwa [← this]
 have hperm : C.Perm D := (List.perm_ext_iff_of_nodup (nd hc) (nd hd)).2 fun p => ⟨sub hc hd p, sub hd hc p⟩
 refine List.Perm.eq_of_pairwise (le := fun x y => ltTag x.1 y.1 = true) ?_ hc.ord hd.ord hperm
 intro a b _ _ h1 h2
 have := ltTag_asym h1
 rw [h2] at this; cases this
theorem sub_sum : ∀ {C A : List Post}, A.Nodup → (∀ p ∈ A, p ∈ C) → sumL A ≤ sumL C
 | [], A, _, h => by
  have : A = [] := List.eq_nil_iff_forall_not_mem.2 fun p hp => by cases h p hp
  rw [this]; exact Nat.le_refl _
 | c :: C, A, hn, h => by
  by_cases hc : c ∈ A
  ·obtain ⟨A1, A2, rfl⟩ := List.append_of_mem hc
   have hn' := hn
   rw [List.nodup_append] at hn
   obtain ⟨n1, n2, n3⟩ := hn
   rw [List.nodup_cons] at n2
   have hnd : (A1 ++ A2).Nodup := by
    rw [List.nodup_append]
    exact ⟨n1, n2.2, fun a ha b hb => n3 a ha b (List.mem_cons_of_mem _ hb)⟩
   have ih := sub_sum (C := C) (A := A1 ++ A2) hnd (fun p hp => by
    have hpc : p ≠ c := fun e => by
     subst e
     rcases List.mem_append.1 hp with q | q
     ·exact n3 p q p (List.mem_cons_self ..) rfl
     ·exact n2.1 q
    have hp' : p ∈ A1 ++ c :: A2 := by
     rcases List.mem_append.1 hp with q | q
     ·exact List.mem_append_left _ q
     ·exact List.mem_append_right _ (List.mem_cons_of_mem _ q)
    rcases List.mem_cons.1 (h p hp') with e | q
    ·exact absurd e hpc
    ·exact q)
   rw [sumL_append] at ih ⊢
   simp only [sumL] at ih ⊢
   omega
  ·have ih := sub_sum (C := C) (A := A) hn (fun p hp => by
    rcases List.mem_cons.1 (h p hp) with e | q
    ·exact absurd (e ▸ hp) hc
    ·exact q)
   simp only [sumL]; omega
theorem canon_of_sum {names : List (List Tag)} {C P : List Post} (hc : Canon names C) (ord : P.Pairwise fun x y => ltTag x.1 y.1 = true) (ids : ∀ p ∈ P, p.2 = idsN names p.1 names.length ∧ p.2 ≠ []) (hs : sumL P = sumL C) : P = C := by
 have nd : P.Nodup := ord.imp fun {a b} k e => by subst e; rw [ltTag_irr] at k; cases k
 have sub : ∀ p ∈ P, p ∈ C := fun p hp => by
  obtain ⟨e1, e2⟩ := ids p hp
  obtain ⟨q, hq, e3⟩ := hc.all p.1 (e1 ▸ e2)
  have : q = p := Prod.ext e3 (by rw [(hc.ids q hq).1, e3, e1])
  rwa [← this]
 refine canon_eq ⟨ord, ids, fun t ht => ?_⟩ hc
 obtain ⟨c, h1, h2⟩ := hc.all t ht
 by_cases hm : c ∈ P
 ·exact ⟨c, hm, h2⟩
 ·have := sub_sum (C := C) (A := c :: P) (List.nodup_cons.2 ⟨hm, nd⟩) (fun p hp => by
   rcases List.mem_cons.1 hp with rfl | hp
   ·exact h1
   ·exact sub p hp)
  simp only [sumL] at this
  have h3 : 0 < c.2.length := List.length_pos_iff.2 (hc.ids c h1).2
  omega
theorem nameOk_nodup {n : List Tag} (h : nameOk n = true) : n.Nodup := by
 unfold nameOk at h
 simp only [Bool.and_eq_true] at h
 have hk : ∀ i, i < n.length → nameBad n i = false := allN_iff.1 h.1
 have step : ∀ i, i + 1 < n.length → sless (nth n i).1 (nth n (i + 1)).1 = true := fun i hi => by
  have := hk (i + 1) hi
  unfold nameBad at this
  simp only [Nat.zero_lt_succ, decide_true, Bool.true_and, Nat.add_sub_cancel, Bool.or_eq_false_iff, Bool.not_eq_false'] at this
  exact this.2
 have lt : ∀ d i, i + d + 1 < n.length → sless (nth n i).1 (nth n (i + d + 1)).1 = true := by
  intro d
  induction d with
  | zero => intro i hi; exact step i hi
  | succ d ih => intro i hi; exact sless_trans (ih i (by omega)) (step (i + d + 1) (by omega))
 unfold List.Nodup
 rw [List.pairwise_iff_getElem]
 intro i j hi hj hij e
 obtain ⟨d, rfl⟩ : ∃ d, j = i + d + 1 := ⟨j - i - 1, by omega⟩
 have := lt d i hj
 rw [nth_eq n i hi, nth_eq n _ hj, ← e, sless_irr] at this
 cases this
theorem w_names {names : List (List Tag)} (hw : Wt.w names ≤ 4194304) : names.length ≤ 4194304 ∧ (∀ n ∈ names, n.length ≤ 4194304 ∧ Wt.w n ≤ 4194304) ∧ sumN names.length (fun i => (nth names i).length) ≤ 4194304 := by
 have e : Wt.w names = names.length + sumN names.length fun i => Wt.w (nth names i) := rfl
 rw [e] at hw
 refine ⟨by omega, fun n hn => ?_, ?_⟩
 ·obtain ⟨i, hi, rfl⟩ := List.mem_iff_getElem.1 hn
  have h1 := sumN_get (f := fun i => Wt.w (nth names i)) hi
  simp only [nth_eq names i hi] at h1
  have h2 : names[i].length ≤ Wt.w names[i] := wL_le
  omega
 ·have : sumN names.length (fun i => (nth names i).length) ≤ sumN names.length (fun i => Wt.w (nth names i)) := sumN_mono fun i _ => wL_le
  omega
theorem e_Equal_Tag (a b : List Tag) (ha : a.length ≤ 4194304) : p_slices_Equal_Tag_Tag a b = some (decide (a = b)) := by
 unfold p_slices_Equal_Tag_Tag
 by_cases hl : a.length = b.length
 ·have hl2 : (a.length : Int) = (b.length : Int) := by omega
  rw [decide_eq_true hl2, Bool.not_true, cond_false]
  refine eq_loop hl (fun k hk => ?_) ?_
  ·have hk2 : k < b.length := by omega
   unfold p_slices_Equal_Tag_Tag_b0
   simp only [dlt hk, cond_true, gd.yes (ixN hk), gd.yes (ixN hk2), Int.toNat_natCast, gd.yes (i64S hk (show a.length ≤ 9223372036854775807 by omega))]
   by_cases h : nth a k = nth b k <;> simp [h]
  ·unfold p_slices_Equal_Tag_Tag_b0; simp
 ·have h2 : ¬ (a.length : Int) = (b.length : Int) := by omega
  have h3 : a ≠ b := fun e => hl (by rw [e])
  simp [h2, h3]
theorem e_Equal_int (a b : List Int) (ha : a.length ≤ maxLen) : p_slices_Equal_int_int a b = some (decide (a = b)) := by
 have ha : a.length ≤ 9223372036854775807 := ha
 unfold p_slices_Equal_int_int
 by_cases hl : a.length = b.length
 ·have hl2 : (a.length : Int) = (b.length : Int) := by omega
  rw [decide_eq_true hl2, Bool.not_true, cond_false]
  refine eq_loop hl (fun k hk => ?_) ?_
  ·have hk2 : k < b.length := by omega
   unfold p_slices_Equal_int_int_b0
   simp only [dlt hk, cond_true, gd.yes (ixN hk), gd.yes (ixN hk2), Int.toNat_natCast, gd.yes (i64S hk ha)]
   by_cases h : nth a k = nth b k <;> simp [h]
  ·unfold p_slices_Equal_int_int_b0; simp
 ·have h2 : ¬ (a.length : Int) = (b.length : Int) := by omega
  have h3 : a ≠ b := fun e => hl (by rw [e])
  simp [h2, h3]
theorem e_spec_l11Same (a b : List Int) (ha : a.length ≤ maxLen) : p_spec_l11Same a b = some (decide (a = b)) := by
 have ha : a.length ≤ 9223372036854775807 := ha
 unfold p_spec_l11Same
 by_cases hl : a.length = b.length
 ·have hl2 : (a.length : Int) = (b.length : Int) := by omega
  rw [decide_eq_true hl2, Bool.not_true, cond_false]
  refine eq_loop hl (fun k hk => ?_) ?_
  ·have hk2 : k < b.length := by omega
   unfold p_spec_l11Same_b0
   simp only [dlt hk, cond_true, gd.yes (ixN hk), gd.yes (ixN hk2), Int.toNat_natCast, gd.yes (i64S hk ha)]
   by_cases h : nth a k = nth b k <;> simp [h]
  ·unfold p_spec_l11Same_b0; simp
 ·have h2 : ¬ (a.length : Int) = (b.length : Int) := by omega
  have h3 : a ≠ b := fun e => hl (by rw [e])
  simp [h2, h3]
theorem e_spec_l11Less (a b : Tag) : p_spec_l11Less a b = some (ltTag a b) := by
 unfold p_spec_l11Less ltTag
 cases sless a.1 b.1 with
 | true => rfl
 | false => by_cases h : a.1 = b.1 <;> simp [h]
theorem numberOf_none {q : Option (Unit ⊕ Int)} (h : q = some (.inl ())) : (bd (bd q <| sw (fun _ => some (-1 : Int)) fun q => some q) fun r3 => gd (I64 (r3 + 1)) <| some (r3 + 1)) = some 0 := by
 subst h
 have e : (bd (some (.inl ()) : Option (Unit ⊕ Int)) <| sw (fun _ => some (-1 : Int)) fun q => some q) = some (-1) := rfl
 rw [bd.yes e, gd.yes (by unfold I64; omega)]; rfl
theorem numberOf_some {q : Option (Unit ⊕ Int)} {k : Nat} (hk : k ≤ 4194304) (h : q = some (.inr (k : Int))) : (bd (bd q <| sw (fun _ => some (-1 : Int)) fun q => some q) fun r3 => gd (I64 (r3 + 1)) <| some (r3 + 1)) = some ((k : Int) + 1) := by
 subst h
 have e : (bd (some (.inr (k : Int)) : Option (Unit ⊕ Int)) <| sw (fun _ => some (-1 : Int)) fun q => some q) = some (k : Int) := rfl
 rw [bd.yes e, gd.yes (by unfold I64; omega)]
theorem e_numberOf (names : List (List Tag)) (n : List Tag) (h1 : names.length ≤ 4194304) (h2 : ∀ n ∈ names, n.length ≤ 4194304) :
  (∃ k : Nat, k < names.length ∧ nth names k = n ∧ (∀ j, j < k → nth names j ≠ n) ∧ p_impl_numberOf names n = some ((k : Int) + 1)) ∨ ((∀ k, k < names.length → nth names k ≠ n) ∧ p_impl_numberOf names n = some 0) := by
 have hr : ∀ k, k < names.length → p_slices_IndexFunc_Tag_Tag_numberOf_1_b0 names n (k : Int) = some (if decide (nth names k = n) then .inr (.inr (k : Int)) else .inl ((k + 1 : Nat) : Int)) := fun k hk => by
  unfold p_slices_IndexFunc_Tag_Tag_numberOf_1_b0 p_impl_numberOf_1
  rw [dlt hk, cond_true, gd.yes (ixN hk)]
  simp only [Int.toNat_natCast]
  rw [bd.yes (e_Equal_Tag _ n (h2 _ (nth_mem hk))), bd_some, gd.yes (i64S hk (show names.length ≤ 9223372036854775807 by omega)), addI]
  by_cases h : nth names k = n <;> simp [h]
 unfold p_impl_numberOf p_slices_IndexFunc_Tag_Tag_numberOf_1
 rcases lp_scan (body := p_slices_IndexFunc_Tag_Tag_numberOf_1_b0 names n) (fun k => (k : Int)) names.length (fun k => decide (nth names k = n)) (.inl ()) (fun k => .inr (k : Int)) (fun k hk _ h => by rw [hr k hk, h]; rfl) (fun k hk _ h => by rw [hr k hk, if_pos h]) (fun _ => by unfold p_slices_IndexFunc_Tag_Tag_numberOf_1_b0; simp) with ⟨h1, h2⟩ | ⟨h1, k, hk, hb, hn, h2⟩
 ·refine .inr ⟨fun k hk => of_decide_eq_false (allN_iff.1 h1 k hk), ?_⟩
  exact numberOf_none h2
 ·refine .inl ⟨k, hk, of_decide_eq_true hb, fun j hj => of_decide_eq_false (hn j hj), ?_⟩
  exact numberOf_some (by omega) h2
def nmBad (names : List (List Tag)) (k : Nat) : Bool := !nameOk (nth names k) || !allN k (fun j => decide (nth names j = nth names k))
def namesB (names : List (List Tag)) : Bool := allN names.length (nmBad names) && decide ((names.length : Int) ≤ 6)
theorem e_impl_namesOk (names : List (List Tag)) (hw : Wt.w names ≤ 4194304) : p_impl_namesOk names = some (namesB names) := by
 obtain ⟨h1, h2, _⟩ := w_names hw
 have hr : ∀ k, k < names.length → p_impl_namesOk_b0 names (k : Int) = some (if nmBad names k then .inr (.inr false) else .inl ((k + 1 : Nat) : Int)) := fun k hk => by
  have hl := (h2 _ (nth_mem hk)).1
  unfold p_impl_namesOk_b0 nmBad
  rw [dlt hk, cond_true, gd.yes (ixN hk)]
  simp only [Int.toNat_natCast]
  rw [e_impl_NameOk _ (by unfold maxLen; omega), bd_some]
  cases nameOk (nth names k) with
  | false => rfl
  | true =>
   rw [Bool.not_true, cond_false]
   rcases e_numberOf names (nth names k) h1 (fun n hn => (h2 n hn).1) with ⟨j, hj, e1, e2, e3⟩ | ⟨e2, e3⟩
   ·rw [bd.yes e3, gd.yes (by unfold I64; omega), bd_some, gd.yes (by unfold I64; omega), addI]
    by_cases hjk : j = k
    ·subst hjk
     have : allN j (fun i => decide (nth names i = nth names j)) = true := allN_iff.2 fun i hi => decide_eq_false (e2 i hi)
     rw [this]; simp
    ·have hlt : j < k := by
      rcases Nat.lt_trichotomy j k with h | h | h
      ·exact h
      ·exact absurd h hjk
      ·exact absurd rfl (e2 k h)
     have : allN k (fun i => decide (nth names i = nth names k)) = false := allN_no hlt (decide_eq_true e1)
     rw [this, decide_eq_false (show ¬ (((j + 1 : Nat) : Int) = (k : Int) + 1) by omega)]; simp
   ·exact absurd rfl (e2 k hk)
 unfold p_impl_namesOk namesB
 rcases lp_scan (body := p_impl_namesOk_b0 names) (fun k => (k : Int)) names.length (nmBad names) (.inl ()) (fun _ => .inr false) (fun k hk _ h => by rw [hr k hk, h]; rfl) (fun k hk _ h => by rw [hr k hk, h]; rfl) (fun _ => by unfold p_impl_namesOk_b0; simp) with ⟨h1, h2⟩ | ⟨h1, k, _, _, _, h2⟩
 ·rw [show (lp (p_impl_namesOk_b0 names) 0) = _ from h2, h1]; simp [sw]
 ·rw [show (lp (p_impl_namesOk_b0 names) 0) = _ from h2, h1]; simp [sw]
theorem e_eqPost (p q : Post) (hp : p.2.length ≤ maxLen) : p_impl_IndexOk_1 p q = some (decide (p = q)) := by
 unfold p_impl_IndexOk_1
 by_cases h : p.1 = q.1
 ·rw [decide_eq_true h, cond_true, bd.yes (e_Equal_int _ _ hp), bd_some]
  by_cases h2 : p.2 = q.2
  ·have : p = q := Prod.ext h h2
   rw [decide_eq_true h2, decide_eq_true this]
  ·have : p ≠ q := fun e => h2 (by rw [e])
   rw [decide_eq_false h2, decide_eq_false this]
 ·have : p ≠ q := fun e => h (by rw [e])
  rw [decide_eq_false h, cond_false, bd_some, decide_eq_false this]
theorem e_EqualPosts (P Q : List Post) (hP : P.length ≤ maxLen) (hi : ∀ k, k < P.length → (nth P k).2.length ≤ maxLen) : p_slices_EqualFunc_Post_Post_Post_Post_IndexOk_1 P Q = some (decide (P = Q)) := by
 have hP' : P.length ≤ 9223372036854775807 := hP
 unfold p_slices_EqualFunc_Post_Post_Post_Post_IndexOk_1
 by_cases hl : P.length = Q.length
 ·have hl2 : (P.length : Int) = (Q.length : Int) := by omega
  rw [decide_eq_true hl2, Bool.not_true, cond_false]
  refine eq_loop hl (fun k hk => ?_) ?_
  ·have hk2 : k < Q.length := by omega
   unfold p_slices_EqualFunc_Post_Post_Post_Post_IndexOk_1_b0
   rw [dlt hk, cond_true, gd.yes (ixN hk), gd.yes (ixN hk2)]
   simp only [Int.toNat_natCast]
   rw [bd.yes (e_eqPost _ _ (hi k hk)), gd.yes (i64S hk hP'), addI]
   by_cases h : nth P k = nth Q k <;> simp [h]
  ·unfold p_slices_EqualFunc_Post_Post_Post_Post_IndexOk_1_b0; simp
 ·have h2 : ¬ (P.length : Int) = (Q.length : Int) := by omega
  have h3 : P ≠ Q := fun e => hl (by rw [e])
  simp [h2, h3]
def indexB (x : Index) : Bool := namesB x.1 && decide (x.2 = (indexP x.1).2)
def postsW (P : List Post) : Prop := P.length ≤ 4194304 ∧ ∀ k, k < P.length → (nth P k).2.length ≤ 4194304
theorem e_impl_IndexOk (x : Index) (hw : Wt.w x.1 ≤ 4194304) (hp : postsW x.2) : p_impl_IndexOk x = some (indexB x) := by
 obtain ⟨h1, h2, h3⟩ := w_names hw
 unfold p_impl_IndexOk indexB
 rw [bd.yes (e_impl_namesOk x.1 hw)]
 cases namesB x.1 with
 | false => rfl
 | true =>
  have hp1 := hp.1
  rw [cond_true, bd.yes (e_indexOf x.1 h1 h3), bd.yes (e_EqualPosts x.2 _ (by unfold maxLen; omega) (fun k hk => by have := hp.2 k hk; unfold maxLen; omega)), Bool.true_and]
def locBad (names : List (List Tag)) (P : List Post) (k : Nat) : Bool := decide ((nth P k).2.length = 0) || (!decide ((nth P k).2 = idsN names (nth P k).1 names.length) || (decide (0 < k) && !ltTag (nth P (k - 1)).1 (nth P k).1))
theorem nmBad_ok {names : List (List Tag)} {k : Nat} (h : nmBad names k = false) : nameOk (nth names k) = true := by
 unfold nmBad at h
 simp only [Bool.or_eq_false_iff, Bool.not_eq_false'] at h
 exact h.1
theorem e_spec_names (x : Index) (hw : Wt.w x.1 ≤ 4194304) : lp (p_spec_IndexOk_b0 x) (0, 0) = some (if allN x.1.length (nmBad x.1) then .inl ((sumN x.1.length fun i => (nth x.1 i).length : Nat) : Int) else .inr false) := by
 obtain ⟨h1, h2, h3⟩ := w_names hw
 have inner : ∀ k, k < x.1.length → (∀ i, i < k → nmBad x.1 i = false) → nameOk (nth x.1 k) = true → ∀ s : Int, lp (p_spec_IndexOk_b1 x (s, (k : Int))) 0 = some (if allN k (fun j => decide (nth x.1 j = nth x.1 k)) then .inl () else .inr false) := fun k hk hbs hok s => by
  have hr : ∀ j, j < k → p_spec_IndexOk_b1 x (s, (k : Int)) (j : Int) = some (if decide (nth x.1 j = nth x.1 k) then .inr (.inr false) else .inl ((j + 1 : Nat) : Int)) := fun j hj => by
   have hj2 : j < x.1.length := by omega
   unfold p_spec_IndexOk_b1
   rw [decide_eq_true (show ((j : Int) < (k : Int)) by omega), cond_true]
   simp only [Int.toNat_natCast]
   rw [bd.yes (e_spec_l3Text _ (h2 _ (nth_mem hk)).2), gd.yes (ixN hj2), bd.yes (e_spec_l3Text _ (h2 _ (nth_mem hj2)).2), text_eq hok (nmBad_ok (hbs j hj)), gd.yes (by unfold I64; omega), addI]
   by_cases h : nth x.1 j = nth x.1 k
   ·rw [decide_eq_true h, decide_eq_true h.symm]; rfl
   ·rw [decide_eq_false h, decide_eq_false (fun e => h e.symm)]; rfl
  rcases lp_scan (body := p_spec_IndexOk_b1 x (s, (k : Int))) (fun j => (j : Int)) k (fun j => decide (nth x.1 j = nth x.1 k)) (.inl ()) (fun _ => .inr false) (fun j hj _ h => by rw [hr j hj, h]; rfl) (fun j hj _ h => by rw [hr j hj, h]; rfl) (fun _ => by unfold p_spec_IndexOk_b1; rw [decide_eq_false (show ¬ ((k : Int) < (k : Int)) by omega)]; rfl) with ⟨h1, h2⟩ | ⟨h1, _, _, _, _, h2⟩
  ·rw [show (lp (p_spec_IndexOk_b1 x (s, (k : Int))) 0) = _ from h2, h1]; rfl
  ·rw [show (lp (p_spec_IndexOk_b1 x (s, (k : Int))) 0) = _ from h2, h1]; rfl
 have step : ∀ k, k < x.1.length → (∀ i, i < k → nmBad x.1 i = false) → p_spec_IndexOk_b0 x (((sumN k fun i => (nth x.1 i).length : Nat) : Int), (k : Int)) = some (if nmBad x.1 k then .inr (.inr false) else .inl (((sumN (k + 1) fun i => (nth x.1 i).length : Nat) : Int), ((k + 1 : Nat) : Int))) := fun k hk hbs => by
  have hl := (h2 _ (nth_mem hk)).1
  have hs : (sumN k fun i => (nth x.1 i).length) + (nth x.1 k).length ≤ sumN x.1.length fun i => (nth x.1 i).length := sumN_lt (f := fun i => (nth x.1 i).length) hk
  unfold p_spec_IndexOk_b0 nmBad
  rw [dlt hk, cond_true, gd.yes (ixN hk)]
  simp only [Int.toNat_natCast]
  rw [bd.yes (e_spec_NameOk _ (by unfold maxLen; omega))]
  cases hok : nameOk (nth x.1 k) with
  | false => rfl
  | true =>
   rw [Bool.not_true, cond_false, bd.yes (inner k hk hbs hok _)]
   cases allN k (fun j => decide (nth x.1 j = nth x.1 k)) with
   | false => rfl
   | true =>
    show gd (I64 _) (gd (I64 _) (some _)) = _
    rw [gd.yes (by unfold I64; omega), gd.yes (by unfold I64; omega), addI]
    have : ((sumN k fun i => (nth x.1 i).length : Nat) : Int) + ((nth x.1 k).length : Int) = ((sumN (k + 1) fun i => (nth x.1 i).length : Nat) : Int) := by
     show _ = ((((sumN k fun i => (nth x.1 i).length) + (nth x.1 k).length : Nat)) : Int)
     omega
    rw [this]; rfl
 rcases lp_scan (body := p_spec_IndexOk_b0 x) (fun k => (((sumN k fun i => (nth x.1 i).length : Nat) : Int), (k : Int))) x.1.length (nmBad x.1) (.inl ((sumN x.1.length fun i => (nth x.1 i).length : Nat) : Int)) (fun _ => .inr false) (fun k hk hb h => by rw [step k hk hb, h]; rfl) (fun k hk hb h => by rw [step k hk hb, h]; rfl) (fun _ => by unfold p_spec_IndexOk_b0; rw [decide_eq_false (show ¬ ((x.1.length : Int) < (x.1.length : Int)) by omega)]; rfl) with ⟨h1, h2⟩ | ⟨h1, _, _, _, _, h2⟩
 ·rw [show (lp (p_spec_IndexOk_b0 x) (0, 0)) = _ from h2, h1]; rfl
 ·rw [show (lp (p_spec_IndexOk_b0 x) (0, 0)) = _ from h2, h1]; rfl
theorem e_spec_posts (x : Index) (hw : Wt.w x.1 ≤ 4194304) (hp : postsW x.2) (n0 : Nat) (hn0 : n0 ≤ 4194304) : lp (p_spec_IndexOk_b2 x) ((n0 : Int), 0) = some (if allN x.2.length (locBad x.1 x.2) then .inl ((n0 : Int) - ((sumN x.2.length fun i => (nth x.2 i).2.length : Nat) : Int)) else .inr false) := by
 obtain ⟨h1, h2, h3⟩ := w_names hw
 obtain ⟨p1, p2⟩ := hp
 have hs : ∀ k, k ≤ x.2.length → (sumN k fun i => (nth x.2 i).2.length) ≤ k * 4194304 := by
  intro k
  induction k with
  | zero => intro _; exact Nat.le_refl _
  | succ k ih =>
   intro hk
   have := ih (by omega)
   have h4 := p2 k (by omega)
   show (sumN k fun i => (nth x.2 i).2.length) + (nth x.2 k).2.length ≤ _
   omega
 have step : ∀ k, k < x.2.length → p_spec_IndexOk_b2 x ((n0 : Int) - ((sumN k fun i => (nth x.2 i).2.length : Nat) : Int), (k : Int)) = some (if locBad x.1 x.2 k then .inr (.inr false) else .inl ((n0 : Int) - ((sumN (k + 1) fun i => (nth x.2 i).2.length : Nat) : Int), ((k + 1 : Nat) : Int))) := fun k hk => by
  have hl := p2 k hk
  have hsk := hs k (by omega)
  have hkk : k * 4194304 ≤ 4194304 * 4194304 := Nat.mul_le_mul_right _ (by omega)
  have es : ((n0 : Int) - ((sumN k fun i => (nth x.2 i).2.length : Nat) : Int)) - ((nth x.2 k).2.length : Int) = (n0 : Int) - ((sumN (k + 1) fun i => (nth x.2 i).2.length : Nat) : Int) := by
   show _ = (n0 : Int) - ((((sumN k fun i => (nth x.2 i).2.length) + (nth x.2 k).2.length : Nat)) : Int)
   omega
  have fin : (gd (I64 (((n0 : Int) - ((sumN k fun i => (nth x.2 i).2.length : Nat) : Int)) - ((nth x.2 k).2.length : Int))) <| gd (I64 ((k : Int) + 1)) <| (some (.inl (((n0 : Int) - ((sumN k fun i => (nth x.2 i).2.length : Nat) : Int)) - ((nth x.2 k).2.length : Int), (k : Int) + 1)) : Option ((Int × Int) ⊕ (Int ⊕ Bool)))) = some (.inl ((n0 : Int) - ((sumN (k + 1) fun i => (nth x.2 i).2.length : Nat) : Int), ((k + 1 : Nat) : Int))) := by
   rw [gd.yes (by unfold I64; omega), gd.yes (by unfold I64; omega), es, addI]
  unfold p_spec_IndexOk_b2 locBad
  rw [dlt hk, cond_true, gd.yes (ixN hk)]
  simp only [Int.toNat_natCast]
  by_cases hz : (nth x.2 k).2.length = 0
  ·rw [decide_eq_true (show (((nth x.2 k).2.length : Int) = 0) by omega), decide_eq_true hz]; rfl
  ·rw [decide_eq_false (show ¬ (((nth x.2 k).2.length : Int) = 0) by omega), decide_eq_false hz, cond_false, bd.yes (e_spec_l11Ids x.1 _ h1 (fun n hn => (h2 n hn).1)), bd.yes (e_spec_l11Same _ _ (by unfold maxLen; omega))]
   by_cases hi : (nth x.2 k).2 = idsN x.1 (nth x.2 k).1 x.1.length
   ·rw [decide_eq_true hi, Bool.not_true, cond_false]
    by_cases h0 : 0 < k
    ·have e1 : (k : Int) - 1 = ((k - 1 : Nat) : Int) := by omega
     rw [decide_eq_true (show (0 : Int) < (k : Int) by omega), cond_true, gd.yes (by unfold I64; omega), e1, gd.yes (ixN (show k - 1 < x.2.length by omega))]
     simp only [Int.toNat_natCast]
     rw [bd.yes (e_spec_l11Less _ _), decide_eq_true h0]
     cases ltTag (nth x.2 (k - 1)).1 (nth x.2 k).1 with
     | false => rfl
     | true => exact fin
    ·rw [decide_eq_false (show ¬ (0 : Int) < (k : Int) by omega), cond_false, decide_eq_false h0]
     exact fin
   ·rw [decide_eq_false hi]; rfl
 have e0 : ((n0 : Int), (0 : Int)) = ((n0 : Int) - ((sumN 0 fun i => (nth x.2 i).2.length : Nat) : Int), ((0 : Nat) : Int)) := by
  show _ = ((n0 : Int) - ((0 : Nat) : Int), ((0 : Nat) : Int)); simp
 rcases lp_scan (body := p_spec_IndexOk_b2 x) (fun k => ((n0 : Int) - ((sumN k fun i => (nth x.2 i).2.length : Nat) : Int), (k : Int))) x.2.length (locBad x.1 x.2) (.inl ((n0 : Int) - ((sumN x.2.length fun i => (nth x.2 i).2.length : Nat) : Int))) (fun _ => .inr false) (fun k hk hb h => by rw [step k hk, h]; rfl) (fun k hk hb h => by rw [step k hk, h]; rfl) (fun _ => by unfold p_spec_IndexOk_b2; rw [decide_eq_false (show ¬ ((x.2.length : Int) < (x.2.length : Int)) by omega)]; rfl) with ⟨h1, h2⟩ | ⟨h1, _, _, _, _, h2⟩
 ·rw [e0, h2, h1]; rfl
 ·rw [e0, h2, h1]; rfl
theorem sumL_N (P : List Post) : sumL P = sumN P.length fun i => (nth P i).2.length := by
 have : ∀ m, m ≤ P.length → sumL (P.take m) = sumN m fun i => (nth P i).2.length := by
  intro m
  induction m with
  | zero => intro _; rfl
  | succ m ih =>
   intro hm
   rw [take_succ_nth (by omega), sumL_append, ih (by omega)]
   show _ + ((nth P m).2.length + 0) = _
   rfl
 have h := this P.length (Nat.le_refl _)
 rwa [List.take_length] at h
theorem names_dist {names : List (List Tag)} (h : allN names.length (nmBad names) = true) : dist names := fun n hn => by
 obtain ⟨i, hi, rfl⟩ := List.mem_iff_getElem.1 hn
 rw [← nth_eq names i hi]
 exact nameOk_nodup (nmBad_ok (allN_iff.1 h i hi))
theorem e_spec_IndexOk (x : Index) (hw : Wt.w x.1 ≤ 4194304) (hp : postsW x.2) : p_spec_IndexOk x = some (indexB x) := by
 obtain ⟨h1, h2, h3⟩ := w_names hw
 unfold p_spec_IndexOk indexB namesB
 by_cases h6 : 6 < x.1.length
 ·rw [decide_eq_true (show (6 : Int) < (x.1.length : Int) by omega), cond_true, decide_eq_false (show ¬ ((x.1.length : Int) ≤ 6) by omega), Bool.and_false, Bool.false_and]
 ·rw [decide_eq_false (show ¬ (6 : Int) < (x.1.length : Int) by omega), cond_false, decide_eq_true (show ((x.1.length : Int) ≤ 6) by omega), Bool.and_true, bd.yes (e_spec_names x hw)]
  cases hall : allN x.1.length (nmBad x.1) with
  | false => rfl
  | true =>
   have hd := names_dist hall
   have hC := canon_posts hd
   show bd (lp (p_spec_IndexOk_b2 x) ((sumN x.1.length fun i => (nth x.1 i).length : Nat), 0)) _ = _
   rw [bd.yes (e_spec_posts x hw hp _ h3), Bool.true_and]
   have hsC : sumL (indexP x.1).2 = sumN x.1.length fun i => (nth x.1 i).length := by
    rw [← sumL_posts]
    exact sumL_perm (List.mergeSort_perm _ _)
   have hsP := sumL_N x.2
   cases hloc : allN x.2.length (locBad x.1 x.2) with
   | false =>
    have hne : x.2 ≠ (indexP x.1).2 := fun e => by
     have : allN x.2.length (locBad x.1 x.2) = true := allN_iff.2 fun k hk => by
      have hm : nth x.2 k ∈ (indexP x.1).2 := e ▸ nth_mem hk
      obtain ⟨i1, i2⟩ := hC.ids _ hm
      unfold locBad
      rw [decide_eq_false (fun h0 => i2 (List.eq_nil_of_length_eq_zero h0)), decide_eq_true i1]
      by_cases h0 : 0 < k
      ·have ho := hC.ord
       rw [← e, List.pairwise_iff_getElem] at ho
       have := ho (k - 1) k (by omega) hk (by omega)
       rw [← nth_eq x.2 (k - 1) (by omega), ← nth_eq x.2 k hk] at this
       rw [this]; simp
      ·rw [decide_eq_false h0]; rfl
     rw [hloc] at this; cases this
    rw [decide_eq_false hne]; rfl
   | true =>
    have hk := allN_iff.1 hloc
    have adj : ∀ i, i + 1 < x.2.length → ltTag (nth x.2 i).1 (nth x.2 (i + 1)).1 = true := fun i hi => by
     have := hk (i + 1) hi
     unfold locBad at this
     simp only [Nat.zero_lt_succ, decide_true, Bool.true_and, Nat.add_sub_cancel, Bool.or_eq_false_iff, Bool.not_eq_false'] at this
     exact this.2.2
    have lt : ∀ d i, i + d + 1 < x.2.length → ltTag (nth x.2 i).1 (nth x.2 (i + d + 1)).1 = true := by
     intro d
     induction d with
     | zero => intro i hi; exact adj i hi
     | succ d ih => intro i hi; exact ltTag_trans (ih i (by omega)) (adj (i + d + 1) (by omega))
    have ord : x.2.Pairwise fun a b => ltTag a.1 b.1 = true := by
     rw [List.pairwise_iff_getElem]
     intro i j hi hj hij
     obtain ⟨d, rfl⟩ : ∃ d, j = i + d + 1 := ⟨j - i - 1, by omega⟩
     have := lt d i hj
     rwa [nth_eq x.2 i hi, nth_eq x.2 _ hj] at this
    have ids : ∀ p ∈ x.2, p.2 = idsN x.1 p.1 x.1.length ∧ p.2 ≠ [] := fun p hp' => by
     obtain ⟨i, hi, rfl⟩ := List.mem_iff_getElem.1 hp'
     have := hk i hi
     unfold locBad at this
     simp only [Bool.or_eq_false_iff, decide_eq_false_iff_not, Bool.not_eq_false', decide_eq_true_eq] at this
     rw [nth_eq x.2 i hi] at this
     exact ⟨this.2.1, fun e => this.1 (by rw [e]; rfl)⟩
    show some (decide (((sumN x.1.length fun i => (nth x.1 i).length : Nat) : Int) - ((sumN x.2.length fun i => (nth x.2 i).2.length : Nat) : Int) = 0)) = _
    by_cases hE : x.2 = (indexP x.1).2
    ·have : sumL x.2 = sumL (indexP x.1).2 := by rw [← hE]
     rw [decide_eq_true hE, decide_eq_true (by omega)]
    ·have hne : sumL x.2 ≠ sumL (indexP x.1).2 := fun e => hE (canon_of_sum hC ord ids e)
     rw [decide_eq_false hE, decide_eq_false (by omega)]
theorem indexB_canon {x : Index} (h : indexB x = true) : Canon x.1 x.2 ∧ allN x.1.length (nmBad x.1) = true ∧ x.1.length ≤ 6 ∧ x.2 = (indexP x.1).2 := by
 unfold indexB namesB at h
 simp only [Bool.and_eq_true, decide_eq_true_eq] at h
 obtain ⟨⟨h1, h2⟩, h3⟩ := h
 exact ⟨by rw [h3]; exact canon_posts (names_dist h1), h1, by omega, h3⟩
def findN (names : List (List Tag)) (f : List Cond) : Nat → List Int
 | 0 => []
 | m + 1 => findN names f m ++ (if fitsP f (nth names m) then [(m : Int) + 1] else [])
theorem findN_succ (names : List (List Tag)) (f : List Cond) (m : Nat) : findN names f (m + 1) = findN names f m ++ (if fitsP f (nth names m) then [(m : Int) + 1] else []) := rfl
theorem findN_len (names : List (List Tag)) (f : List Cond) : ∀ m, (findN names f m).length ≤ m
 | 0 => Nat.le_refl _
 | m + 1 => by
  have := findN_len names f m
  rw [findN_succ, List.length_append]
  split <;> simp <;> omega
def findP (x : Index) (f : List Cond) : List Int := if indexB x && filterOk f then findN x.1 f x.1.length else []
theorem findP_len (x : Index) (f : List Cond) : (findP x f).length ≤ 6 := by
 unfold findP
 split
 next h =>
  rw [Bool.and_eq_true] at h
  exact Nat.le_trans (findN_len _ _ _) (indexB_canon h.1).2.2.1
 next => exact Nat.zero_le _
theorem e_spec_l11Find (x : Index) (f : List Cond) (hf : f.length ≤ 4194304) (h1 : x.1.length ≤ 4194304) (h2 : ∀ n ∈ x.1, n.length ≤ 4194304) : p_spec_l11Find x f = some (findN x.1 f x.1.length) := by
 unfold p_spec_l11Find
 rw [show (([] : List Int), (0 : Int)) = (findN x.1 f 0, ((0 : Nat) : Int)) from rfl, lp_for (fun k => (findN x.1 f k, (k : Int))) x.1.length (findN x.1 f x.1.length) (fun m hm => by
  have hl := h2 _ (nth_mem hm)
  have hi := findN_len x.1 f m
  unfold p_spec_l11Find_b0
  rw [dlt hm, cond_true, gd.yes (ixN hm)]
  simp only [Int.toNat_natCast]
  rw [bd.yes (e_spec_l3Fits f (nth x.1 m) (by unfold maxLen; omega) (by unfold maxLen; omega))]
  cases hc : fitsP f (nth x.1 m) with
  | true =>
   rw [cond_true, gd.yes (by unfold I64; omega), gd.yes (by unfold room; omega), findN_succ, if_pos hc, addI]
  | false =>
   rw [cond_false, gd.yes (by unfold I64; omega), addI, findN_succ, if_neg (by rw [hc]; simp), List.append_nil]) (by
  unfold p_spec_l11Find_b0; rw [decide_eq_false (show ¬ ((x.1.length : Int) < (x.1.length : Int)) by omega)]; rfl)]
 rfl
theorem e_findLoop (x : Index) (f : List Cond) (hf : f.length ≤ 4194304) (h1 : x.1.length ≤ 4194304) (h2 : ∀ n ∈ x.1, n.length ≤ 4194304) (hok : ∀ k, k < x.1.length → nameOk (nth x.1 k) = true) : lp (p_impl_IndexFind_b0 x f) (([] : List Int), 0) = some (if filterOk f then findN x.1 f x.1.length else []) := by
 have hlen : ∀ m, (if filterOk f then findN x.1 f m else []).length ≤ m := fun m => by
  split
  ·exact findN_len x.1 f m
  ·exact Nat.zero_le _
 have h0 : (([] : List Int), (0 : Int)) = ((if filterOk f then findN x.1 f 0 else []), ((0 : Nat) : Int)) := by cases filterOk f <;> rfl
 rw [h0, lp_for (fun k => ((if filterOk f then findN x.1 f k else []), (k : Int))) x.1.length (if filterOk f then findN x.1 f x.1.length else []) (fun m hm => by
  have hl := h2 _ (nth_mem hm)
  have hi := hlen m
  unfold p_impl_IndexFind_b0
  rw [dlt hm, cond_true, gd.yes (ixN hm)]
  simp only [Int.toNat_natCast]
  rw [bd.yes (e_impl_FilterFits f (nth x.1 m) (by unfold maxLen; omega) (by unfold maxLen; omega)), hok m hm, Bool.true_and]
  cases hff : filterOk f with
  | false =>
   rw [Bool.false_and, cond_false, gd.yes (by unfold I64; omega), addI]; rfl
  | true =>
   rw [hff] at hi
   simp only [if_true] at hi
   rw [Bool.true_and]
   simp only [if_true]
   cases hc : fitsP f (nth x.1 m) with
   | true =>
    rw [cond_true, gd.yes (by unfold I64; omega), gd.yes (by unfold room; omega), findN_succ, if_pos hc, addI]
   | false =>
    rw [cond_false, gd.yes (by unfold I64; omega), addI, findN_succ, if_neg (by rw [hc]; simp), List.append_nil]) (by
  unfold p_impl_IndexFind_b0; rw [decide_eq_false (show ¬ ((x.1.length : Int) < (x.1.length : Int)) by omega)]; rfl)]
theorem e_impl_IndexFind (x : Index) (f : List Cond) (hw : Wt.w x.1 ≤ 4194304) (hp : postsW x.2) (hf : f.length ≤ 4194304) : p_impl_IndexFind x f = some (findP x f) := by
 obtain ⟨h1, h2, h3⟩ := w_names hw
 unfold p_impl_IndexFind findP
 rw [bd.yes (e_impl_IndexOk x hw hp)]
 cases h : indexB x with
 | false => rfl
 | true =>
  have hC := (indexB_canon h).2.1
  rw [Bool.not_true, cond_false, bd.yes (e_findLoop x f hf h1 (fun n hn => (h2 n hn).1) (fun k hk => nmBad_ok (allN_iff.1 hC k hk))), Bool.true_and]
theorem e_spec_IndexFind (x : Index) (f : List Cond) (hw : Wt.w x.1 ≤ 4194304) (hp : postsW x.2) (hf : f.length ≤ 4194304) : p_spec_IndexFind x f = some (findP x f) := by
 obtain ⟨h1, h2, h3⟩ := w_names hw
 unfold p_spec_IndexFind findP
 rw [bd.yes (e_spec_IndexOk x hw hp)]
 cases h : indexB x with
 | false => rfl
 | true =>
  rw [Bool.not_true, cond_false, bd.yes (e_spec_FilterOk f (by unfold maxLen; omega)), bd_some]
  cases filterOk f with
  | false => rfl
  | true => rw [Bool.not_true, cond_false, bd.yes (e_spec_l11Find x f hf h1 (fun n hn => (h2 n hn).1))]; rfl
def tg (i j : Nat) : Tag := (s1 (97 + (i : Int)), s1 (112 + (j : Int)))
def cell (names : List (List Tag)) (i j : Nat) : List Post := if 0 < (idsN names (tg i j) names.length).length then [(tg i j, idsN names (tg i j) names.length)] else []
def rowE (names : List (List Tag)) (i : Nat) : Nat → List Post
 | 0 => []
 | j + 1 => rowE names i j ++ cell names i j
def allE (names : List (List Tag)) : Nat → List Post
 | 0 => []
 | i + 1 => allE names i ++ rowE names i 11
theorem rowE_succ (names : List (List Tag)) (i j : Nat) : rowE names i (j + 1) = rowE names i j ++ cell names i j := rfl
theorem allE_succ (names : List (List Tag)) (i : Nat) : allE names (i + 1) = allE names i ++ rowE names i 11 := rfl
theorem cell_len (names : List (List Tag)) (i j : Nat) : (cell names i j).length ≤ 1 := by unfold cell; split <;> simp
theorem rowE_len (names : List (List Tag)) (i : Nat) : ∀ j, (rowE names i j).length ≤ j
 | 0 => Nat.le_refl _
 | j + 1 => by
  have := rowE_len names i j
  have := cell_len names i j
  rw [rowE_succ, List.length_append]; omega
theorem allE_len (names : List (List Tag)) : ∀ i, (allE names i).length ≤ 11 * i
 | 0 => Nat.le_refl _
 | i + 1 => by
  have := allE_len names i
  have := rowE_len names i 11
  rw [allE_succ, List.length_append]; omega
theorem cell_mem {names : List (List Tag)} {i j : Nat} {p : Post} (h : p ∈ cell names i j) : p = (tg i j, idsN names (tg i j) names.length) ∧ idsN names (tg i j) names.length ≠ [] := by
 unfold cell at h
 split at h
 next hp => exact ⟨List.mem_singleton.1 h, fun e => by rw [e] at hp; cases hp⟩
 next => cases h
theorem rowE_mem {names : List (List Tag)} {i : Nat} {p : Post} : ∀ {j}, p ∈ rowE names i j → ∃ k, k < j ∧ p ∈ cell names i k
 | 0, h => nomatch h
 | j + 1, h => by
  rcases List.mem_append.1 h with h | h
  ·obtain ⟨k, hk, h⟩ := rowE_mem h
   exact ⟨k, by omega, h⟩
  ·exact ⟨j, Nat.lt_succ_self _, h⟩
theorem allE_mem {names : List (List Tag)} {p : Post} : ∀ {i}, p ∈ allE names i → ∃ k j, k < i ∧ j < 11 ∧ p ∈ cell names k j
 | 0, h => nomatch h
 | i + 1, h => by
  rcases List.mem_append.1 h with h | h
  ·obtain ⟨k, j, hk, hj, h⟩ := allE_mem h
   exact ⟨k, j, by omega, hj, h⟩
  ·obtain ⟨j, hj, h⟩ := rowE_mem h
   exact ⟨i, j, Nat.lt_succ_self _, hj, h⟩
theorem rowE_in {names : List (List Tag)} {i k : Nat} {p : Post} (h : p ∈ cell names i k) : ∀ {j}, k < j → p ∈ rowE names i j
 | 0, hk => absurd hk (Nat.not_lt_zero _)
 | j + 1, hk => by
  rw [rowE_succ, List.mem_append]
  by_cases e : k = j
  ·subst e; exact .inr h
  ·exact .inl (rowE_in h (by omega))
theorem allE_in {names : List (List Tag)} {i j : Nat} {p : Post} (hj : j < 11) (h : p ∈ cell names i j) : ∀ {n}, i < n → p ∈ allE names n
 | 0, hk => absurd hk (Nat.not_lt_zero _)
 | n + 1, hk => by
  rw [allE_succ, List.mem_append]
  by_cases e : i = n
  ·subst e; exact .inr (rowE_in h hj)
  ·exact .inl (allE_in hj h (by omega))
theorem s1_lt {a b : Nat} (h : a < b) (hb : b < 128) : sless (s1 (a : Int)) (s1 (b : Int)) = true := by
 show sless ⟨#[UInt8.ofNat a]⟩ ⟨#[UInt8.ofNat b]⟩ = true
 rw [sl_one, decide_eq_true_eq, UInt8.lt_iff_toNat_lt]
 simp only [UInt8.toNat_ofNat']
 omega
theorem tg_lt {i j i' j' : Nat} (_ : i < 4) (_ : j < 11) (hi' : i' < 4) (hj' : j' < 11) (h : i < i' ∨ (i = i' ∧ j < j')) : ltTag (tg i j) (tg i' j') = true := by
 unfold ltTag tg
 rcases h with h | ⟨rfl, h⟩
 ·have := s1_lt (show 97 + i < 97 + i' by omega) (by omega)
  rw [show ((97 + i : Nat) : Int) = 97 + (i : Int) by omega, show ((97 + i' : Nat) : Int) = 97 + (i' : Int) by omega] at this
  rw [this]; rfl
 ·have := s1_lt (show 112 + j < 112 + j' by omega) (by omega)
  rw [show ((112 + j : Nat) : Int) = 112 + (j : Int) by omega, show ((112 + j' : Nat) : Int) = 112 + (j' : Int) by omega] at this
  rw [this]; simp
theorem rowE_ord {names : List (List Tag)} {i : Nat} (hi : i < 4) : ∀ {j}, j ≤ 11 → (rowE names i j).Pairwise fun x y => ltTag x.1 y.1 = true
 | 0, _ => List.Pairwise.nil
 | j + 1, hj => by
  rw [rowE_succ, List.pairwise_append]
  refine ⟨rowE_ord hi (by omega), ?_, fun p hp q hq => ?_⟩
  ·unfold cell; split <;> simp
  ·obtain ⟨k, hk, hp⟩ := rowE_mem hp
   rw [(cell_mem hp).1, (cell_mem hq).1]
   exact tg_lt hi (by omega) hi (by omega) (.inr ⟨rfl, hk⟩)
theorem allE_ord {names : List (List Tag)} : ∀ {i}, i ≤ 4 → (allE names i).Pairwise fun x y => ltTag x.1 y.1 = true
 | 0, _ => List.Pairwise.nil
 | i + 1, hi => by
  rw [allE_succ, List.pairwise_append]
  refine ⟨allE_ord (by omega), rowE_ord (by omega) (Nat.le_refl _), fun p hp q hq => ?_⟩
  obtain ⟨k, j, hk, hj, hp⟩ := allE_mem hp
  obtain ⟨j', hj', hq⟩ := rowE_mem hq
  rw [(cell_mem hp).1, (cell_mem hq).1]
  exact tg_lt (by omega) hj (by omega) hj' (.inl hk)
theorem tg_of {t : Tag} (h : tagB t = true) : ∃ i j, i < 4 ∧ j < 11 ∧ t = tg i j := by
 unfold tagB at h
 simp only [Bool.and_eq_true, decide_eq_true_eq, inn] at h
 obtain ⟨h1, h2, ⟨h3, h4⟩, h5, h6⟩ := h
 refine ⟨(sb t.1 0).toNat - 97, (sb t.2 0).toNat - 112, by omega, by omega, ?_⟩
 have e1 : t.1 = s1 (97 + (((sb t.1 0).toNat - 97 : Nat) : Int)) := by
  have : (97 + (((sb t.1 0).toNat - 97 : Nat) : Int)).toNat = (sb t.1 0).toNat := by omega
  unfold s1
  rw [this, UInt8.ofNat_toNat]
  exact ba_one h1
 have e2 : t.2 = s1 (112 + (((sb t.2 0).toNat - 112 : Nat) : Int)) := by
  have : (112 + (((sb t.2 0).toNat - 112 : Nat) : Int)).toNat = (sb t.2 0).toNat := by omega
  unfold s1
  rw [this, UInt8.ofNat_toNat]
  exact ba_one h2
 exact Prod.ext e1 e2
theorem idsN_name {names : List (List Tag)} {t : Tag} : ∀ {m}, idsN names t m ≠ [] → ∃ k, k < m ∧ t ∈ nth names k
 | 0, h => absurd rfl h
 | m + 1, h => by
  rw [idsN_succ] at h
  cases hc : hasT (nth names m) t with
  | true => exact ⟨m, Nat.lt_succ_self _, hasT_iff.1 hc⟩
  | false =>
   rw [if_neg (by rw [hc]; simp), List.append_nil] at h
   obtain ⟨k, hk, h⟩ := idsN_name h
   exact ⟨k, by omega, h⟩
def goodN (names : List (List Tag)) : Prop := ∀ k, k < names.length → nameOk (nth names k) = true
theorem goodN_dist {names : List (List Tag)} (h : goodN names) : dist names := fun n hn => by
 obtain ⟨i, hi, rfl⟩ := List.mem_iff_getElem.1 hn
 rw [← nth_eq names i hi]
 exact nameOk_nodup (h i hi)
theorem canon_all {names : List (List Tag)} (h : goodN names) : Canon names (allE names 4) := by
 refine ⟨allE_ord (Nat.le_refl _), fun p hp => ?_, fun t ht => ?_⟩
 ·obtain ⟨i, j, _, _, hp⟩ := allE_mem hp
  obtain ⟨e1, e2⟩ := cell_mem hp
  rw [e1]; exact ⟨rfl, e2⟩
 ·obtain ⟨k, hk, hm⟩ := idsN_name ht
  obtain ⟨i, j, hi, hj, rfl⟩ := tg_of (nameOk_tags (h k hk) t hm)
  refine ⟨(tg i j, idsN names (tg i j) names.length), allE_in hj ?_ hi, rfl⟩
  unfold cell
  rw [if_pos (List.length_pos_iff.2 ht)]
  exact List.mem_singleton.2 rfl
theorem e_rowE (names : List (List Tag)) (i : Nat) (hi : i < 4) (acc : List Post) (ha : acc.length ≤ 44) (h1 : names.length ≤ 4194304) (h2 : ∀ n ∈ names, n.length ≤ 4194304) : lp (p_spec_l11Of_b1 names (acc, 97 + (i : Int))) (acc, 112) = some (acc ++ rowE names i 11) := by
 have h0 : (acc, (112 : Int)) = (acc ++ rowE names i 0, (112 : Int) + ((0 : Nat) : Int)) := by rw [show rowE names i 0 = [] from rfl, List.append_nil]; rfl
 rw [h0, lp_for (body := p_spec_l11Of_b1 names (acc, 97 + (i : Int))) (fun j => (acc ++ rowE names i j, (112 : Int) + (j : Int))) 11 (acc ++ rowE names i 11) (fun j hj => by
  have hr := rowE_len names i j
  have ea : (112 : Int) + (j : Int) + 1 = 112 + ((j + 1 : Nat) : Int) := by omega
  unfold p_spec_l11Of_b1
  rw [decide_eq_true (show (112 : Int) + (j : Int) ≤ 122 by omega), cond_true, gd.yes (show asc (97 + (i : Int)) by unfold asc; omega), gd.yes (show asc (112 + (j : Int)) by unfold asc; omega), rowE_succ]
  show bd (p_spec_l11Ids names (tg i j)) _ = _
  rw [bd.yes (e_spec_l11Ids names (tg i j) h1 h2)]
  unfold cell
  by_cases hz : 0 < (idsN names (tg i j) names.length).length
  ·rw [decide_eq_true (show (0 : Int) < ((idsN names (tg i j) names.length).length : Int) by omega), cond_true, if_pos hz, gd.yes (by rw [List.length_append]; unfold room; omega), gd.yes (by unfold I32; omega), List.append_assoc, ea]; rfl
  ·rw [decide_eq_false (show ¬ (0 : Int) < ((idsN names (tg i j) names.length).length : Int) by omega), cond_false, if_neg hz, gd.yes (by unfold I32; omega), List.append_nil, ea]) (by
  unfold p_spec_l11Of_b1; rw [decide_eq_false (show ¬ ((112 : Int) + ((11 : Nat) : Int) ≤ 122) by omega)]; rfl)]
theorem e_spec_l11Of {names : List (List Tag)} (hg : goodN names) (h1 : names.length ≤ 4194304) (h2 : ∀ n ∈ names, n.length ≤ 4194304) : p_spec_l11Of names = some (indexP names) := by
 unfold p_spec_l11Of
 have h0 : (([] : List Post), (97 : Int)) = (allE names 0, (97 : Int) + ((0 : Nat) : Int)) := rfl
 rw [h0, bd.yes (lp_for (body := p_spec_l11Of_b0 names) (fun i => (allE names i, (97 : Int) + (i : Int))) 4 (allE names 4) (fun i hi => by
  have hl := allE_len names i
  unfold p_spec_l11Of_b0
  rw [decide_eq_true (show (97 : Int) + (i : Int) ≤ 100 by omega), cond_true, bd.yes (e_rowE names i hi _ (by omega) h1 h2), gd.yes (by unfold I32; omega), allE_succ, show (97 : Int) + (i : Int) + 1 = 97 + ((i + 1 : Nat) : Int) by omega]) (by
  unfold p_spec_l11Of_b0; rw [decide_eq_false (show ¬ ((97 : Int) + ((4 : Nat) : Int) ≤ 100) by omega)]; rfl)), bd.yes (e_spec_l11Names names h1 h2)]
 have : allE names 4 = (indexP names).2 := canon_eq (canon_all hg) (canon_posts (goodN_dist hg))
 rw [this]; rfl
theorem good_snoc {names : List (List Tag)} {n : List Tag} (h : goodN names) (hn : nameOk n = true) : goodN (names ++ [n]) := fun k hk => by
 rw [List.length_append, List.length_singleton] at hk
 by_cases e : k < names.length
 ·rw [nth_eq _ _ (by rw [List.length_append]; omega), List.getElem_append_left e, ← nth_eq names k e]; exact h k e
 ·have : k = names.length := by omega
  subst this
  rw [nth_eq _ _ (by simp)]; simpa using hn
theorem goodN_len {names : List (List Tag)} (h : goodN names) : ∀ n ∈ names, n.length ≤ 3 := fun n hn => by
 obtain ⟨i, hi, rfl⟩ := List.mem_iff_getElem.1 hn
 rw [← nth_eq names i hi]
 exact (nameOk_len (h i hi)).2
theorem goodN_sum {names : List (List Tag)} (h : goodN names) : sumN names.length (fun i => (nth names i).length) ≤ names.length * 3 := by
 have : ∀ m, m ≤ names.length → sumN m (fun i => (nth names i).length) ≤ m * 3 := by
  intro m
  induction m with
  | zero => intro _; exact Nat.le_refl _
  | succ m ih =>
   intro hm
   have h1 := ih (by omega)
   have h2 := (nameOk_len (h m (by omega))).2
   show sumN m (fun i => (nth names i).length) + (nth names m).length ≤ _
   omega
 exact this _ (Nat.le_refl _)
theorem sumN_c {f : Nat → Nat} {c : Nat} : ∀ {n}, (∀ i, i < n → f i ≤ c) → sumN n f ≤ n * c
 | 0, _ => Nat.zero_le _
 | n + 1, h => by
  have h1 := sumN_c (n := n) fun i hi => h i (by omega)
  have h2 := h n (Nat.lt_succ_self _)
  show sumN n f + f n ≤ _
  rw [Nat.add_mul]; omega
theorem sumL_ne {P : List Post} (h : ∀ p ∈ P, p.2 ≠ []) : P.length ≤ sumL P := by
 induction P with
 | nil => exact Nat.zero_le _
 | cons p P ih =>
  have h1 := ih fun q hq => h q (List.mem_cons_of_mem _ hq)
  have h2 := List.length_pos_iff.2 (h p (List.mem_cons_self ..))
  show P.length + 1 ≤ p.2.length + sumL P
  omega
theorem d_of (b : List UInt8) (p : Int) (l : List ByteArray) (hb : b.length ≤ 2000) (h0 : 0 ≤ p) (h1 : p ≤ 1000000) (hl : 1 ≤ l.length) (hl2 : l.length ≤ 1000) :
  ∃ x, p_spec_l6Rd_of (b, p) l = some (x, p + 1) ∧ x ∈ l := by
 obtain ⟨x, e, a, k⟩ := d_pick b p (l.length : Int) hb h0 h1 (by omega)
 have k := k (by omega)
 have hx : x.toNat < l.length := by omega
 refine ⟨nth l x.toNat, ?_, nth_mem hx⟩
 unfold p_spec_l6Rd_of
 rw [bd.yes e, gd.yes (show ix x l.length by unfold ix; omega)]
theorem d_l71Tag (b : List UInt8) (p : Int) (hb : b.length ≤ 2000) (h0 : 0 ≤ p) (h1 : p + 2 ≤ 1000000) :
  ∃ t : Tag, p_spec_l71Tag (b, p) = some (t, p + 2) ∧ t.1.size = 1 ∧ t.2.size = 1 := by
 obtain ⟨x, e1, m1⟩ := d_of b p [(⟨#[97]⟩ : ByteArray), (⟨#[98]⟩ : ByteArray), (⟨#[99]⟩ : ByteArray)] hb h0 (by omega) (by decide) (by decide)
 obtain ⟨y, e2, m2⟩ := d_of b (p + 1) [(⟨#[112]⟩ : ByteArray), (⟨#[113]⟩ : ByteArray), (⟨#[122]⟩ : ByteArray)] hb (by omega) (by omega) (by decide) (by decide)
 refine ⟨(x, y), ?_, ?_, ?_⟩
 ·unfold p_spec_l71Tag
  rw [bd.yes e1, bd.yes e2, show p + 1 + 1 = p + 2 by omega]
 ·simp only [List.mem_cons, List.not_mem_nil, or_false] at m1
  rcases m1 with rfl | rfl | rfl <;> rfl
 ·simp only [List.mem_cons, List.not_mem_nil, or_false] at m2
  rcases m2 with rfl | rfl | rfl <;> rfl
def smallN (n : List Tag) : Prop := n.length ≤ 5 ∧ ∀ t ∈ n, t.1.size ≤ 2 ∧ t.2.size ≤ 2
theorem smallN_snoc {n : List Tag} {t : Tag} (h : n.length ≤ 4) (h2 : ∀ t ∈ n, t.1.size ≤ 2 ∧ t.2.size ≤ 2) (ht : t.1.size ≤ 2 ∧ t.2.size ≤ 2) : smallN (n ++ [t]) :=
 ⟨by rw [List.length_append, List.length_singleton]; omega, fun u hu => by
  rcases List.mem_append.1 hu with hu | hu
  ·exact h2 u hu
  ·rw [List.mem_singleton.1 hu]; exact ht⟩
theorem smallN_set {n : List Tag} {t : Tag} {k : Nat} (h : n.length ≤ 5) (h2 : ∀ t ∈ n, t.1.size ≤ 2 ∧ t.2.size ≤ 2) (ht : t.1.size ≤ 2 ∧ t.2.size ≤ 2) : smallN (n.set k t) :=
 ⟨by rw [List.length_set]; exact h, fun u hu => by
  rcases List.mem_or_eq_of_mem_set hu with hu | rfl
  ·exact h2 u hu
  ·exact ht⟩
theorem d_nameLoop (b : List UInt8) (hb : b.length ≤ 2000) (q : Int) (p : Int) (h0 : 0 ≤ p) (h1 : p + 10 ≤ 1000000) :
  ∃ n p', lp (p_spec_l71Name_b0 (b, q)) (p, ([] : List Tag), 0) = some (p', n) ∧ p ≤ p' ∧ p' ≤ p + 6 ∧ n.length ≤ 3 ∧ ∀ t ∈ n, t.1.size ≤ 2 ∧ t.2.size ≤ 2 := by
 have key : ∀ r : Nat, r ≤ 3 → ∀ (k : Nat), k + r = 3 → ∀ (p1 : Int) (n : List Tag), 0 ≤ p1 → p1 + 2 * r ≤ 1000000 → n.length ≤ k → (∀ t ∈ n, t.1.size ≤ 2 ∧ t.2.size ≤ 2) →
   ∃ n' p', lp (p_spec_l71Name_b0 (b, q)) (p1, n, (k : Int)) = some (p', n') ∧ p1 ≤ p' ∧ p' ≤ p1 + 2 * r ∧ n'.length ≤ 3 ∧ ∀ t ∈ n', t.1.size ≤ 2 ∧ t.2.size ≤ 2 := by
  intro r
  induction r with
  | zero =>
   intro _ k hk p1 n q0 q1 hn ht
   refine ⟨n, p1, lp.stop ?_, by omega, by omega, by omega, ht⟩
   unfold p_spec_l71Name_b0
   have : k = 3 := by omega
   subst this; rfl
  | succ r ih =>
   intro hr k hk p1 n q0 q1 hn ht
   obtain ⟨x, e1, a1, b1⟩ := d_pick b p1 2 hb q0 (by omega) (by decide)
   obtain ⟨y, e2, m2⟩ := d_of b (p1 + 1) [(⟨#[112]⟩ : ByteArray), (⟨#[113]⟩ : ByteArray), (⟨#[122]⟩ : ByteArray)] hb (by omega) (by omega) (by decide) (by decide)
   have hk3 : k < ([(⟨#[97]⟩ : ByteArray), (⟨#[98]⟩ : ByteArray), (⟨#[99]⟩ : ByteArray)] : List ByteArray).length := by show k < 3; omega
   have hy : y.size ≤ 2 := by
    simp only [List.mem_cons, List.not_mem_nil, or_false] at m2
    rcases m2 with rfl | rfl | rfl <;> decide
   have hx : (nth ([(⟨#[97]⟩ : ByteArray), (⟨#[98]⟩ : ByteArray), (⟨#[99]⟩ : ByteArray)] : List ByteArray) k).size ≤ 2 := by
    have := nth_mem hk3
    simp only [List.mem_cons, List.not_mem_nil, or_false] at this
    rcases this with h | h | h <;> rw [h] <;> decide
   by_cases hz : x = 0
   ·have step : p_spec_l71Name_b0 (b, q) (p1, n, (k : Int)) = some (.inl (p1 + 1 + 1, n ++ [(nth ([(⟨#[97]⟩ : ByteArray), (⟨#[98]⟩ : ByteArray), (⟨#[99]⟩ : ByteArray)] : List ByteArray) k, y)], ((k + 1 : Nat) : Int))) := by
     unfold p_spec_l71Name_b0
     rw [dlt hk3, cond_true, gd.yes (ixN hk3), bd.yes e1, decide_eq_true hz, cond_true, bd.yes e2, gd.yes (show room (n.length + 1) by unfold room; omega), gd.yes (show I64 ((k : Int) + 1) by unfold I64; omega), addI]
     rfl
    rw [lp.step step]
    obtain ⟨n', p', g1, g2, g3, g4, g5⟩ := ih (by omega) (k + 1) (by omega) (p1 + 1 + 1) (n ++ [(nth ([(⟨#[97]⟩ : ByteArray), (⟨#[98]⟩ : ByteArray), (⟨#[99]⟩ : ByteArray)] : List ByteArray) k, y)]) (by omega) (by omega) (by rw [List.length_append, List.length_singleton]; omega) (fun u hu => by
     rcases List.mem_append.1 hu with hu | hu
     ·exact ht u hu
     ·rw [List.mem_singleton.1 hu]; exact ⟨hx, hy⟩)
    exact ⟨n', p', g1, by omega, by omega, g4, g5⟩
   ·have step : p_spec_l71Name_b0 (b, q) (p1, n, (k : Int)) = some (.inl (p1 + 1, n, ((k + 1 : Nat) : Int))) := by
     unfold p_spec_l71Name_b0
     rw [dlt hk3, cond_true, gd.yes (ixN hk3), bd.yes e1, decide_eq_false hz, cond_false, gd.yes (show I64 ((k : Int) + 1) by unfold I64; omega), addI]
    rw [lp.step step]
    obtain ⟨n', p', g1, g2, g3, g4, g5⟩ := ih (by omega) (k + 1) (by omega) (p1 + 1) n (by omega) (by omega) (by omega) ht
    exact ⟨n', p', g1, by omega, by omega, g4, g5⟩
 obtain ⟨n', p', g1, g2, g3, g4, g5⟩ := key 3 (Nat.le_refl _) 0 rfl p [] h0 (by omega) (Nat.zero_le _) (fun _ h => nomatch h)
 exact ⟨n', p', g1, g2, by omega, g4, g5⟩
theorem d_l71Name (b : List UInt8) (p : Int) (hb : b.length ≤ 2000) (h0 : 0 ≤ p) (h1 : p + 16 ≤ 1000000) :
  ∃ n p', p_spec_l71Name (b, p) = some (n, p') ∧ p ≤ p' ∧ p' ≤ p + 16 ∧ smallN n := by
 obtain ⟨n, p1, e, a1, a2, hl, ht⟩ := d_nameLoop b hb p p h0 (by omega)
 have fin : ∀ (m : List Tag) (q : Int), 1 ≤ m.length → m.length ≤ 4 → (∀ t ∈ m, t.1.size ≤ 2 ∧ t.2.size ≤ 2) → 0 ≤ q → q + 8 ≤ 1000000 → ∃ n p', (bd (p_spec_l6Rd_pick (b, q) 40) fun r42 => cond (decide (r42.1 = 0)) (bd (p_spec_l71Tag (b, r42.2)) fun r46 => gd (room (m.length + 1)) <| some (m ++ [r46.1], r46.2)) (cond (decide (r42.1 = 1)) (gd (ix 0 m.length) <| bd (p_spec_l6Rd_of (b, r42.2) ([(⟨#[]⟩ : ByteArray), (⟨#[111]⟩ : ByteArray), (⟨#[112, 112]⟩ : ByteArray)] : List ByteArray)) fun r58 => some (m.set 0 (((nth m 0).1), r58.1), r58.2)) (some (m, r42.2)))) = some (n, p') ∧ q ≤ p' ∧ p' ≤ q + 8 ∧ smallN n := by
  intro m q m1 m2 mt q0 q1
  obtain ⟨x, e1, _, _⟩ := d_pick b q 40 hb q0 (by omega) (by decide)
  rw [bd.yes e1]
  by_cases hx : x = 0
  ·obtain ⟨t, e2, s1, s2⟩ := d_l71Tag b (q + 1) hb (by omega) (by omega)
   rw [decide_eq_true hx, cond_true, bd.yes e2, gd.yes (by unfold room; omega)]
   exact ⟨m ++ [t], _, rfl, by omega, by omega, smallN_snoc m2 mt ⟨by omega, by omega⟩⟩
  ·rw [decide_eq_false hx, cond_false]
   by_cases hx1 : x = 1
   ·obtain ⟨y, e2, m3⟩ := d_of b (q + 1) [(⟨#[]⟩ : ByteArray), (⟨#[111]⟩ : ByteArray), (⟨#[112, 112]⟩ : ByteArray)] hb (by omega) (by omega) (by decide) (by decide)
    have hy : y.size ≤ 2 := by
     simp only [List.mem_cons, List.not_mem_nil, or_false] at m3
     rcases m3 with rfl | rfl | rfl <;> decide
    rw [decide_eq_true hx1, cond_true, gd.yes (by unfold ix; omega), bd.yes e2]
    exact ⟨_, _, rfl, by omega, by omega, smallN_set (by omega) mt ⟨(mt _ (nth_mem (by omega))).1, hy⟩⟩
   ·rw [decide_eq_false hx1, cond_false]
    exact ⟨_, _, rfl, by omega, by omega, by omega, mt⟩
 unfold p_spec_l71Name
 rw [bd.yes e]
 by_cases hz : n.length = 0
 ·obtain ⟨t, e2, s1, s2⟩ := d_l71Tag b p1 hb (by omega) (by omega)
  rw [decide_eq_true (show (n.length : Int) = 0 by omega), cond_true, bd.yes e2, gd.yes (show room (n.length + 1) by unfold room; omega)]
  obtain ⟨n', p', g1, g2, g3, g4⟩ := fin (n ++ [t]) (p1 + 2) (by rw [List.length_append, List.length_singleton]; omega) (by rw [List.length_append, List.length_singleton]; omega) (smallN_snoc (by omega) ht ⟨by omega, by omega⟩).2 (by omega) (by omega)
  exact ⟨n', p', g1, by omega, by omega, g4⟩
 ·rw [decide_eq_false (show ¬ (n.length : Int) = 0 by omega), cond_false]
  obtain ⟨n', p', g1, g2, g3, g4⟩ := fin n p1 (by omega) (by omega) ht (by omega) (by omega)
  exact ⟨n', p', g1, by omega, by omega, g4⟩
theorem smallN_w {n : List Tag} (h : smallN n) : Wt.w n ≤ 25 := by
 have := sumN_c (f := fun i => (nth n i).1.size + (nth n i).2.size) (c := 4) (n := n.length) fun i hi => by
  have := h.2 _ (nth_mem hi)
  show (nth n i).1.size + (nth n i).2.size ≤ 4
  omega
 have := h.1
 rw [w_name]; omega
theorem smallN_good {n : List Tag} (h : nameOk n = true) : smallN n :=
 ⟨by have := (nameOk_len h).2; omega, fun t ht => by have := tagB_one (nameOk_tags h t ht); rw [this.1, this.2]; exact ⟨by decide, by decide⟩⟩
structure smallX (x : Index) : Prop where
 n : x.1.length ≤ 7
 s : ∀ n ∈ x.1, smallN n
 p : x.2.length ≤ 30
 i : ∀ p ∈ x.2, p.2.length ≤ 7
theorem smallNs_w {names : List (List Tag)} (h : names.length ≤ 7) (h2 : ∀ n ∈ names, smallN n) : Wt.w names ≤ 4194304 := by
 have := sumN_c (f := fun i => Wt.w (nth names i)) (c := 25) (n := names.length) fun i hi => smallN_w (h2 _ (nth_mem hi))
 have e : Wt.w names = names.length + sumN names.length fun i => Wt.w (nth names i) := rfl
 omega
theorem smallX_w {x : Index} (h : smallX x) : Wt.w x.1 ≤ 4194304 ∧ postsW x.2 :=
 ⟨smallNs_w h.n h.s, by have := h.p; omega, fun k hk => by have := h.i _ (nth_mem hk); omega⟩
def drawn (names : List (List Tag)) : Prop := goodN names ∧ names.length ≤ 6
theorem drawn_small {names : List (List Tag)} (h : drawn names) : smallX (indexP names) := by
 have hC := canon_posts (goodN_dist h.1)
 have hl := h.2
 have hs : sumL (indexP names).2 = sumN names.length fun i => (nth names i).length := by
  rw [← sumL_posts]
  exact sumL_perm (List.mergeSort_perm _ _)
 have hs2 := goodN_sum h.1
 have hle := sumL_ne fun p hp => (hC.ids p hp).2
 refine ⟨by show names.length ≤ 7; omega, fun n hn => ?_, by omega, fun p hp => ?_⟩
 ·obtain ⟨i, hi, rfl⟩ := List.mem_iff_getElem.1 (show n ∈ names from hn)
  rw [← nth_eq names i hi]
  exact smallN_good (h.1 i hi)
 ·have := idsN_len names p.1 names.length
  rw [(hC.ids p hp).1]; omega
theorem d_l11At (x : Index) (n : List Tag) (hw : Wt.w x.1 ≤ 4194304) (hn : Wt.w n ≤ 4194304) : ∃ r : Int, p_spec_l11At x n = some r ∧ 0 ≤ r := by
 obtain ⟨h1, h2, h3⟩ := w_names hw
 have hr : ∀ k, k < x.1.length → p_spec_l11At_b0 x n (k : Int) = some (if decide (textN (nth x.1 k) = textN n) then .inr (.inr ((k + 1 : Nat) : Int)) else .inl ((k + 1 : Nat) : Int)) := fun k hk => by
  unfold p_spec_l11At_b0
  rw [dlt hk, cond_true, gd.yes (ixN hk)]
  simp only [Int.toNat_natCast]
  rw [bd.yes (e_spec_l3Text _ (h2 _ (nth_mem hk)).2), bd.yes (e_spec_l3Text n hn), addI]
  cases decide (textN (nth x.1 k) = textN n) with
  | true => rw [cond_true, gd.yes (by unfold I64; omega)]; rfl
  | false => rw [cond_false, gd.yes (by unfold I64; omega)]; rfl
 unfold p_spec_l11At
 rcases lp_scan (body := p_spec_l11At_b0 x n) (fun k => (k : Int)) x.1.length (fun k => decide (textN (nth x.1 k) = textN n)) (.inl ()) (fun k => .inr ((k + 1 : Nat) : Int)) (fun k hk _ h => by rw [hr k hk, h]; rfl) (fun k hk _ h => by rw [hr k hk, if_pos h]) (fun _ => by unfold p_spec_l11At_b0; rw [decide_eq_false (show ¬ ((x.1.length : Int) < (x.1.length : Int)) by omega)]; rfl) with ⟨_, a2⟩ | ⟨_, k, _, _, _, a2⟩
 ·rw [show (lp (p_spec_l11At_b0 x n) 0) = _ from a2]; exact ⟨0, rfl, Int.le_refl _⟩
 ·rw [show (lp (p_spec_l11At_b0 x n) 0) = _ from a2]; exact ⟨_, rfl, by omega⟩
theorem d_l11Add {names : List (List Tag)} (h : drawn names) (n : List Tag) (hn : smallN n) : ∃ names' i ok, p_spec_l11Add (indexP names) n = some (indexP names', i, ok) ∧ drawn names' := by
 have hx := drawn_small h
 obtain ⟨hw, _⟩ := smallX_w hx
 have hwn := smallN_w hn
 have hnl := hn.1
 have h6 := h.2
 have hlen := goodN_len h.1
 obtain ⟨r, e, hr⟩ := d_l11At (indexP names) n hw (by omega)
 have ex : (indexP names).1 = names := rfl
 unfold p_spec_l11Add
 rw [bd.yes e]
 by_cases h0 : 0 < r
 ·rw [decide_eq_true h0, cond_true]
  exact ⟨names, r, true, rfl, h⟩
 ·rw [decide_eq_false h0, cond_false, bd.yes (e_spec_NameOk n (by unfold maxLen; omega))]
  cases hok : nameOk n with
  | false => exact ⟨names, 0, false, rfl, h⟩
  | true =>
   rw [Bool.not_true, cond_false, bd_some, ex]
   by_cases e6 : names.length = 6
   ·rw [decide_eq_true (show (6 : Int) ≤ (names.length : Int) by omega), cond_true]
    exact ⟨names, 0, false, rfl, h⟩
   ·have hgs := good_snoc h.1 hok
    have hls : (names ++ [n]).length ≤ 6 := by rw [List.length_append, List.length_singleton]; omega
    rw [decide_eq_false (show ¬ (6 : Int) ≤ (names.length : Int) by omega), cond_false, bd.yes (e_spec_l11Names names (by omega) (fun m hm => by have := hlen m hm; omega)), gd.yes (by rw [List.length_nil]; unfold room; omega), gd.yes (by unfold room; omega), List.nil_append, bd.yes (e_spec_l11Of hgs (by omega) (fun m hm => by have := goodN_len hgs m hm; omega))]
    exact ⟨names ++ [n], _, _, rfl, hgs, hls⟩
theorem indexP_nil : indexP [] = (([], []) : Index) := by
 unfold indexP
 show (([] : List (List Tag)), ([] : List Post).mergeSort leP) = _
 rw [List.mergeSort_nil]
theorem drawn_nil : drawn [] := ⟨fun _ hk => absurd hk (Nat.not_lt_zero _), Nat.zero_le _⟩
theorem d_indexLoop (b : List UInt8) (hb : b.length ≤ 2000) (q : Int) : ∀ (m : Nat), m ≤ 9 → ∀ (p : Int) (names : List (List Tag)), drawn names → 0 ≤ p → p + 16 * m ≤ 1000000 →
  ∃ p' names', lp (p_spec_l71Index_b0 (b, q)) (p, (indexP names).1, (indexP names).2, (m : Int)) = some (p', (indexP names').1, (indexP names').2) ∧ p ≤ p' ∧ p' ≤ p + 16 * m ∧ drawn names' := by
 intro m
 induction m with
 | zero =>
  intro _ p names h h0 h1
  refine ⟨p, names, lp.stop ?_, by omega, by omega, h⟩
  unfold p_spec_l71Index_b0
  rfl
 | succ m ih =>
  intro hm p names h h0 h1
  obtain ⟨n, p1, e1, a1, a2, hs⟩ := d_l71Name b p hb h0 (by omega)
  obtain ⟨names1, i, ok, e2, h2⟩ := d_l11Add h n hs
  have step : p_spec_l71Index_b0 (b, q) (p, (indexP names).1, (indexP names).2, ((m + 1 : Nat) : Int)) = some (.inl (p1, (indexP names1).1, (indexP names1).2, (m : Int))) := by
   unfold p_spec_l71Index_b0
   rw [decide_eq_true (show (0 : Int) < ((m + 1 : Nat) : Int) by omega), cond_true, bd.yes e1, bd.yes e2, gd.yes (show I64 (((m + 1 : Nat) : Int) - 1) by unfold I64; omega), show ((m + 1 : Nat) : Int) - 1 = (m : Int) by omega]
  rw [lp.step step]
  obtain ⟨p', names', g1, g2, g3, g4⟩ := ih (by omega) p1 names1 h2 (by omega) (by omega)
  exact ⟨p', names', g1, by omega, by omega, g4⟩
theorem d_l71Index (b : List UInt8) (p : Int) (hb : b.length ≤ 2000) (h0 : 0 ≤ p) (h1 : p + 200 ≤ 1000000) :
  ∃ x p', p_spec_l71Index (b, p) = some (x, p') ∧ p ≤ p' ∧ p' ≤ p + 200 ∧ smallX x := by
 obtain ⟨m, e1, a1, b1⟩ := d_pick b p 9 hb h0 (by omega) (by decide)
 have b1 := b1 (by decide)
 obtain ⟨p2, names, e2, a2, b2, hd⟩ := d_indexLoop b hb p m.toNat (by omega) (p + 1) [] drawn_nil (by omega) (by omega)
 rw [indexP_nil, show ((m.toNat : Nat) : Int) = m by omega] at e2
 obtain ⟨k, e3, a3, b3⟩ := d_pick b p2 24 hb (by omega) (by omega) (by decide)
 have hx := drawn_small hd
 have hp := hx.p
 have hn6 : (indexP names).1.length ≤ 6 := hd.2
 unfold p_spec_l71Index
 rw [bd.yes (show p_spec_l11New = some (([], []) : Index) from rfl), bd.yes e1, bd.yes e2, bd.yes e3]
 by_cases hk : k = 0
 ·obtain ⟨n, p4, e4, a4, b4, hs⟩ := d_l71Name b (p2 + 1) hb (by omega) (by omega)
  rw [decide_eq_true hk, cond_true, bd.yes e4, gd.yes (show room ((indexP names).1.length + 1) by unfold room; omega)]
  refine ⟨_, _, rfl, by omega, by omega, ⟨?_, fun u hu => ?_, hp, hx.i⟩⟩
  ·show ((indexP names).1 ++ [n]).length ≤ 7
   rw [List.length_append, List.length_singleton]; omega
  ·rcases List.mem_append.1 (show u ∈ (indexP names).1 ++ [n] from hu) with hu | hu
   ·exact hx.s u hu
   ·rw [List.mem_singleton.1 hu]; exact hs
 ·rw [decide_eq_false hk, cond_false]
  by_cases hk1 : k = 1
  ·rw [decide_eq_true hk1, cond_true]
   by_cases hz : 0 < (indexP names).2.length
   ·obtain ⟨i, e4, a4, b4⟩ := d_pick b (p2 + 1) ((indexP names).2.length : Int) hb (by omega) (by omega) (by omega)
    have b4 := b4 (by omega)
    obtain ⟨j, e5, a5, b5⟩ := d_pick b (p2 + 1 + 1) 3 hb (by omega) (by omega) (by decide)
    have b5 := b5 (by decide)
    rw [decide_eq_true (show (0 : Int) < ((indexP names).2.length : Int) by omega), cond_true, bd.yes e4, bd.yes e5, gd.yes (show I64 (1 + j) by unfold I64; omega), gd.yes (show ix i (indexP names).2.length by unfold ix; omega)]
    refine ⟨_, _, rfl, by omega, by omega, ⟨hx.n, hx.s, ?_, fun u hu => ?_⟩⟩
    ·show ((indexP names).2.set _ _).length ≤ 30
     rw [List.length_set]; exact hp
    ·rcases List.mem_or_eq_of_mem_set (show u ∈ (indexP names).2.set _ _ from hu) with hu | rfl
     ·exact hx.i u hu
     ·show ([1 + j] : List Int).length ≤ 7; simp
   ·rw [decide_eq_false (show ¬ (0 : Int) < ((indexP names).2.length : Int) by omega), cond_false]
    exact ⟨_, _, rfl, by omega, by omega, hx⟩
  ·rw [decide_eq_false hk1, cond_false]
   by_cases hk2 : k = 2
   ·rw [decide_eq_true hk2, cond_true]
    by_cases hz : 0 < (indexP names).2.length
    ·rw [decide_eq_true (show (0 : Int) < ((indexP names).2.length : Int) by omega), cond_true, gd.yes (show sl2 1 ((indexP names).2.length : Int) (indexP names).2.length by unfold sl2; omega)]
     refine ⟨_, _, rfl, by omega, by omega, ⟨hx.n, hx.s, ?_, fun u hu => ?_⟩⟩
     ·show ((((indexP names).2.take _).drop 1)).length ≤ 30
      rw [List.length_drop, List.length_take]; omega
     ·exact hx.i u (List.mem_of_mem_take (List.mem_of_mem_drop (show u ∈ ((indexP names).2.take _).drop 1 from hu)))
    ·rw [decide_eq_false (show ¬ (0 : Int) < ((indexP names).2.length : Int) by omega), cond_false]
     exact ⟨_, _, rfl, by omega, by omega, hx⟩
   ·rw [decide_eq_false hk2, cond_false]
    exact ⟨_, _, rfl, by omega, by omega, hx⟩
theorem e_lyIntsI (a b : List Int) (ha : a.length ≤ 4194304) : p_laws_lyInts a b = some (decide (a = b)) := by
 unfold p_laws_lyInts
 by_cases hl : a.length = b.length
 ·have hl2 : (a.length : Int) = (b.length : Int) := by omega
  rw [decide_eq_true hl2, Bool.not_true, cond_false]
  refine eq_loop hl (fun k hk => ?_) ?_
  ·have hk2 : k < b.length := by omega
   unfold p_laws_lyInts_b0
   simp only [dlt hk, cond_true, gd.yes (ixN hk), gd.yes (ixN hk2), Int.toNat_natCast, gd.yes (i64S hk (show a.length ≤ 9223372036854775807 by omega))]
   by_cases h : nth a k = nth b k <;> simp [h]
  ·unfold p_laws_lyInts_b0; simp
 ·have h2 : ¬ (a.length : Int) = (b.length : Int) := by omega
  have h3 : a ≠ b := fun e => hl (by rw [e])
  simp [h2, h3]
theorem e_lyAmongI (l : List Int) (v : Int) (hl : l.length ≤ 4194304) : p_laws_lyAmong l v = some (decide (v ∈ l)) := by
 have hr : ∀ k, k < l.length → p_laws_lyAmong_b0 l v (k : Int) = some (if decide (nth l k = v) then .inr (.inr true) else .inl ((k + 1 : Nat) : Int)) := fun k hk => by
  unfold p_laws_lyAmong_b0
  simp only [dlt hk, cond_true, gd.yes (ixN hk), Int.toNat_natCast, gd.yes (i64S hk (show l.length ≤ 9223372036854775807 by omega))]
  by_cases h : nth l k = v <;> simp [h]
 unfold p_laws_lyAmong
 rcases lp_scan (body := p_laws_lyAmong_b0 l v) (fun k => (k : Int)) l.length (fun k => decide (nth l k = v)) (.inl ()) (fun _ => .inr true) (fun k hk _ h => by rw [hr k hk, h]; rfl) (fun k hk _ h => by rw [hr k hk, h]; rfl) (fun _ => by unfold p_laws_lyAmong_b0; simp) with ⟨h1, h2⟩ | ⟨h1, k, hk, hb, _, h2⟩
 ·rw [show (lp (p_laws_lyAmong_b0 l v) 0) = _ from h2]
  have : v ∉ l := fun hm => by
   obtain ⟨i, hi, rfl⟩ := List.mem_iff_getElem.1 hm
   have := of_decide_eq_false (allN_iff.1 h1 i hi)
   exact this (nth_eq l i hi)
  rw [decide_eq_false this]; rfl
 ·rw [show (lp (p_laws_lyAmong_b0 l v) 0) = _ from h2]
  have : v ∈ l := by rw [← of_decide_eq_true hb]; exact nth_mem hk
  rw [decide_eq_true this]; rfl
theorem bd_swl {α β γ : Type} {f : α → Option γ} {g : β → Option γ} {e : α} : bd (some (.inl e)) (sw f g) = f e := rfl
theorem filterOk_nil : filterOk [] = true := by unfold filterOk; rfl
theorem filterOk_one {t : Tag} {b : Bool} (h : tagB t = true) : filterOk [(t, b)] = true := by
 unfold filterOk
 show (allN 1 _ && decide ((1 : Int) ≤ 3)) = true
 have : allN 1 (fun k => !tagB (nth [(t, b)] k).1) = true := allN_iff.2 fun k hk => by
  have : k = 0 := by omega
  subst this
  show (!tagB t) = false
  rw [h]; rfl
 rw [this]; rfl
theorem fitsP_one {t : Tag} {b : Bool} {n : List Tag} : fitsP [(t, b)] n = !decide (hasT n t = b) := by
 unfold fitsP
 show allN 1 _ = _
 cases hc : decide (hasT n t = b) with
 | false =>
  refine allN_iff.2 fun k hk => ?_
  have : k = 0 := by omega
  subst this
  exact hc
 | true => exact allN_no (k := 0) (by omega) hc
theorem d_filter0 (b : List UInt8) (hb : b.length ≤ 2000) (q : Int) : ∀ (m : Nat), m ≤ 3 → ∀ (p : Int) (f : List Cond), f.length ≤ 4 → 0 ≤ p → p + 3 * m ≤ 1000000 →
  ∃ p' f', lp (p_spec_l71Filter_b0 (b, q)) (p, f, (m : Int)) = some (p', f') ∧ p ≤ p' ∧ p' ≤ p + 3 * m ∧ f'.length ≤ f.length + m := by
 intro m
 induction m with
 | zero =>
  intro _ p f hf h0 h1
  refine ⟨p, f, lp.stop ?_, by omega, by omega, by omega⟩
  unfold p_spec_l71Filter_b0
  rfl
 | succ m ih =>
  intro hm p f hf h0 h1
  have key : ∀ f : List Cond, f.length ≤ 1000 → ∀ p : Int, 0 ≤ p → p + 3 ≤ 1000000 → ∃ c : Cond, p_spec_l71Filter_b0 (b, q) (p, f, ((m + 1 : Nat) : Int)) = some (.inl (p + 3, f ++ [c], (m : Int))) := by
   intro f hf p h0 h1
   obtain ⟨t, e1, _, _⟩ := d_l71Tag b p hb h0 (by omega)
   obtain ⟨x, e2, _, _⟩ := d_pick b (p + 2) 3 hb (by omega) (by omega) (by decide)
   refine ⟨(t, decide (x = 0)), ?_⟩
   unfold p_spec_l71Filter_b0
   rw [decide_eq_true (show (0 : Int) < ((m + 1 : Nat) : Int) by omega), cond_true, bd.yes e1, bd.yes e2, gd.yes (show room (f.length + 1) by unfold room; omega), gd.yes (show I64 (((m + 1 : Nat) : Int) - 1) by unfold I64; omega), show ((m + 1 : Nat) : Int) - 1 = (m : Int) by omega, show p + 2 + 1 = p + 3 by omega]
  obtain ⟨c, step⟩ := key f (by omega) p h0 (by omega)
  rw [lp.step step]
  by_cases hf3 : f.length ≤ 3
  ·obtain ⟨p', f', g1, g2, g3, g4⟩ := ih (by omega) (p + 3) (f ++ [c]) (by rw [List.length_append, List.length_singleton]; omega) (by omega) (by omega)
   rw [List.length_append, List.length_singleton] at g4
   exact ⟨p', f', g1, by omega, by omega, by omega⟩
  ·have ih2 : ∀ (m : Nat), m ≤ 3 → ∀ (p : Int) (f : List Cond), f.length + m ≤ 100 → 0 ≤ p → p + 3 * m ≤ 1000000 → ∃ p' f', lp (p_spec_l71Filter_b0 (b, q)) (p, f, (m : Int)) = some (p', f') ∧ p ≤ p' ∧ p' ≤ p + 3 * m ∧ f'.length ≤ f.length + m := by
    intro m
    induction m with
    | zero =>
     intro _ p f hf h0 h1
     refine ⟨p, f, lp.stop ?_, by omega, by omega, by omega⟩
     unfold p_spec_l71Filter_b0
     rfl
    | succ m ihm =>
     intro hm p f hf h0 h1
     obtain ⟨t, e1, _, _⟩ := d_l71Tag b p hb h0 (by omega)
     obtain ⟨x, e2, _, _⟩ := d_pick b (p + 2) 3 hb (by omega) (by omega) (by decide)
     have st : p_spec_l71Filter_b0 (b, q) (p, f, ((m + 1 : Nat) : Int)) = some (.inl (p + 3, f ++ [(t, decide (x = 0))], (m : Int))) := by
      unfold p_spec_l71Filter_b0
      rw [decide_eq_true (show (0 : Int) < ((m + 1 : Nat) : Int) by omega), cond_true, bd.yes e1, bd.yes e2, gd.yes (show room (f.length + 1) by unfold room; omega), gd.yes (show I64 (((m + 1 : Nat) : Int) - 1) by unfold I64; omega), show ((m + 1 : Nat) : Int) - 1 = (m : Int) by omega, show p + 2 + 1 = p + 3 by omega]
     rw [lp.step st]
     obtain ⟨p', f', g1, g2, g3, g4⟩ := ihm (by omega) (p + 3) (f ++ [(t, decide (x = 0))]) (by rw [List.length_append, List.length_singleton]; omega) (by omega) (by omega)
     rw [List.length_append, List.length_singleton] at g4
     exact ⟨p', f', g1, by omega, by omega, by omega⟩
   obtain ⟨p', f', g1, g2, g3, g4⟩ := ih2 m (by omega) (p + 3) (f ++ [c]) (by rw [List.length_append, List.length_singleton]; omega) (by omega) (by omega)
   rw [List.length_append, List.length_singleton] at g4
   exact ⟨p', f', g1, by omega, by omega, by omega⟩
theorem d_filter1 (b : List UInt8) (hb : b.length ≤ 2000) (q : Int) : ∀ (r : Nat) (p : Int) (f : List Cond), f.length + r = 4 → 0 ≤ p → p + 2 * r ≤ 1000000 →
  ∃ p' f', lp (p_spec_l71Filter_b1 (b, q)) (p, f) = some (f', p') ∧ p ≤ p' ∧ p' ≤ p + 2 * r ∧ f'.length ≤ 4 := by
 intro r
 induction r with
 | zero =>
  intro p f hf h0 h1
  refine ⟨p, f, lp.stop ?_, by omega, by omega, by omega⟩
  unfold p_spec_l71Filter_b1
  rw [decide_eq_false (show ¬ ((f.length : Int) ≤ 3) by omega)]; rfl
 | succ r ih =>
  intro p f hf h0 h1
  obtain ⟨t, e1, _, _⟩ := d_l71Tag b p hb h0 (by omega)
  have st : p_spec_l71Filter_b1 (b, q) (p, f) = some (.inl (p + 2, f ++ [(t, false)])) := by
   unfold p_spec_l71Filter_b1
   rw [decide_eq_true (show ((f.length : Int) ≤ 3) by omega), cond_true, bd.yes e1, gd.yes (show room (f.length + 1) by unfold room; omega)]
  rw [lp.step st]
  obtain ⟨p', f', g1, g2, g3, g4⟩ := ih (p + 2) (f ++ [(t, false)]) (by rw [List.length_append, List.length_singleton]; omega) (by omega) (by omega)
  exact ⟨p', f', g1, by omega, by omega, g4⟩
theorem d_l71Filter (b : List UInt8) (p : Int) (hb : b.length ≤ 2000) (h0 : 0 ≤ p) (h1 : p + 30 ≤ 1000000) :
  ∃ f p', p_spec_l71Filter (b, p) = some (f, p') ∧ p ≤ p' ∧ p' ≤ p + 30 ∧ f.length ≤ 4 := by
 obtain ⟨m, e1, a1, b1⟩ := d_pick b p 3 hb h0 (by omega) (by decide)
 have b1 := b1 (by decide)
 obtain ⟨p2, f, e2, a2, b2, hf⟩ := d_filter0 b hb p m.toNat (by omega) (p + 1) [] (Nat.zero_le _) (by omega) (by omega)
 rw [show ((m.toNat : Nat) : Int) = m by omega] at e2
 have hf : f.length ≤ 2 := by simp at hf; omega
 obtain ⟨k, e3, a3, b3⟩ := d_pick b p2 30 hb (by omega) (by omega) (by decide)
 unfold p_spec_l71Filter
 rw [bd.yes e1, bd.yes e2, bd.yes e3]
 by_cases hk : k = 0
 ·obtain ⟨p', f', g1, g2, g3, g4⟩ := d_filter1 b hb p (4 - f.length) (p2 + 1) f (by omega) (by omega) (by omega)
  rw [decide_eq_true hk, cond_true, bd.yes g1]
  exact ⟨f', p', rfl, by omega, by omega, g4⟩
 ·rw [decide_eq_false hk, cond_false]
  by_cases hk1 : k = 1
  ·rw [decide_eq_true hk1, cond_true, gd.yes (show room (f.length + 1) by unfold room; omega)]
   refine ⟨_, _, rfl, by omega, by omega, ?_⟩
   show (f ++ [_]).length ≤ 4
   rw [List.length_append, List.length_singleton]; omega
  ·rw [decide_eq_false hk1, cond_false]
   exact ⟨f, _, rfl, by omega, by omega, by omega⟩
theorem d_findLoop (b : List UInt8) (hb : b.length ≤ 2000) (q : Int) : ∀ (r i : Nat), i + r = 4 → ∀ (p : Int) (x : Index) (f : List Cond), smallX x → f.length ≤ 4 → 0 ≤ p → p + 300 * r ≤ 900000 →
  ∃ (x' : Index) (f' : List Cond), lp (p_spec_DrawIndexFind_b0 (b, q)) (p, x.1, x.2, f, (i : Int)) = some (x'.1, x'.2, f') ∧ smallX x' ∧ f'.length ≤ 4 := by
 intro r
 induction r with
 | zero =>
  intro i hi p x f hx hf h0 h1
  refine ⟨x, f, lp.stop ?_, hx, hf⟩
  unfold p_spec_DrawIndexFind_b0
  rw [decide_eq_false (show ¬ ((i : Int) < 4) by omega), cond_false]
 | succ r ih =>
  intro i hi p x f hx hf h0 h1
  obtain ⟨w1, w2⟩ := smallX_w hx
  obtain ⟨k, e1, a1, b1⟩ := d_pick b p 5 hb h0 (by omega) (by decide)
  by_cases hk : 0 < k
  ·by_cases hz : (findP x f).length = 0
   ·obtain ⟨x2, p2, e2, a2, b2, hx2⟩ := d_l71Index b (p + 1) hb (by omega) (by omega)
    obtain ⟨f2, p3, e3, a3, b3, hf2⟩ := d_l71Filter b p2 hb (by omega) (by omega)
    have st : p_spec_DrawIndexFind_b0 (b, q) (p, x.1, x.2, f, (i : Int)) = some (.inl (p3, x2.1, x2.2, f2, ((i + 1 : Nat) : Int))) := by
     unfold p_spec_DrawIndexFind_b0
     rw [decide_eq_true (show ((i : Int) < 4) by omega), cond_true, bd.yes e1, decide_eq_true hk, cond_true, bd.yes (e_spec_IndexFind x f w1 w2 (by omega)), decide_eq_true (show ((findP x f).length : Int) = 0 by omega), cond_true, bd.yes e2, bd.yes e3, gd.yes (show I64 ((i : Int) + 1) by unfold I64; omega), addI]
    rw [lp.step st]
    exact ih (i + 1) (by omega) p3 x2 f2 hx2 hf2 (by omega) (by omega)
   ·refine ⟨x, f, lp.stop ?_, hx, hf⟩
    unfold p_spec_DrawIndexFind_b0
    rw [decide_eq_true (show ((i : Int) < 4) by omega), cond_true, bd.yes e1, decide_eq_true hk, cond_true, bd.yes (e_spec_IndexFind x f w1 w2 (by omega)), decide_eq_false (show ¬ ((findP x f).length : Int) = 0 by omega), cond_false]
  ·refine ⟨x, f, lp.stop ?_, hx, hf⟩
   unfold p_spec_DrawIndexFind_b0
   rw [decide_eq_true (show ((i : Int) < 4) by omega), cond_true, bd.yes e1, decide_eq_false hk, cond_false]
theorem d_DrawIndexFind (c : List UInt8) : ∃ r : Index × List Cond, p_spec_DrawIndexFind c = some r ∧ smallX r.1 ∧ r.2.length ≤ 4 := by
 obtain ⟨b, e0, hb⟩ := d_l6Open c
 obtain ⟨x, p1, e1, a1, b1, hx⟩ := d_l71Index b 0 hb (by decide) (by decide)
 obtain ⟨f, p2, e2, a2, b2, hf⟩ := d_l71Filter b p1 hb (by omega) (by omega)
 obtain ⟨x', f', e3, hx', hf'⟩ := d_findLoop b hb 0 4 0 rfl p2 x f hx hf (by omega) (by omega)
 refine ⟨(x', f'), ?_, hx', hf'⟩
 have e3 : lp (p_spec_DrawIndexFind_b0 (b, 0)) (p2, x.1, x.2, f, 0) = some (x'.1, x'.2, f') := e3
 unfold p_spec_DrawIndexFind
 rw [bd.yes e0, bd.yes e1, bd.yes e2, bd.yes e3]
theorem fn_tag (i j : Nat) (hi : i < 4) (hj : j < 3) : tagB ((nth ([(⟨#[97]⟩ : ByteArray), (⟨#[98]⟩ : ByteArray), (⟨#[99]⟩ : ByteArray), (⟨#[100]⟩ : ByteArray)] : List ByteArray) i), (nth ([(⟨#[112]⟩ : ByteArray), (⟨#[113]⟩ : ByteArray), (⟨#[122]⟩ : ByteArray)] : List ByteArray) j)) = true := by
 match i, hi, j, hj with
 | 0, _, 0, _ => rfl
 | 0, _, 1, _ => rfl
 | 0, _, 2, _ => rfl
 | 1, _, 0, _ => rfl
 | 1, _, 1, _ => rfl
 | 1, _, 2, _ => rfl
 | 2, _, 0, _ => rfl
 | 2, _, 1, _ => rfl
 | 2, _, 2, _ => rfl
 | 3, _, 0, _ => rfl
 | 3, _, 1, _ => rfl
 | 3, _, 2, _ => rfl
theorem findN_ex {names : List (List Tag)} {f : List Cond} {x : Int} : ∀ {m}, x ∈ findN names f m → ∃ k, k < m ∧ x = (k : Int) + 1 ∧ fitsP f (nth names k) = true
 | 0, h => nomatch h
 | m + 1, h => by
  rw [findN_succ] at h
  rcases List.mem_append.1 h with h | h
  ·obtain ⟨k, h1, h2⟩ := findN_ex h
   exact ⟨k, by omega, h2⟩
  ·cases hf : fitsP f (nth names m) with
   | false => rw [hf] at h; cases h
   | true => rw [hf] at h; exact ⟨m, Nat.lt_succ_self m, List.mem_singleton.1 h, hf⟩
theorem findN_two (names : List (List Tag)) (t : Tag) : ∀ m, (findN names [(t, false)] m).length + (findN names [(t, true)] m).length = m
 | 0 => rfl
 | m + 1 => by
  have := findN_two names t m
  rw [findN_succ, findN_succ, fitsP_one, fitsP_one]
  cases hasT (nth names m) t <;> simp <;> omega
theorem findN_all (names : List (List Tag)) : ∀ m, (findN names [] m).length = m
 | 0 => rfl
 | m + 1 => by
  have := findN_all names m
  rw [findN_succ, show fitsP [] (nth names m) = true from rfl]
  simp; omega
theorem e_FnFindNone (c m : List UInt8) (_ : Dp.ok c) (_ : Dp.ok m) : p_laws_FnFindNone c m = some true := by
 unfold p_laws_FnFindNone
 by_cases hc : (1048576 : Int) < (c.length : Int)
 ·rw [decide_eq_true hc]; rfl
 ·by_cases hm : (1048576 : Int) < (m.length : Int)
  ·rw [decide_eq_false hc, cond_false, bd_some, decide_eq_true hm]; rfl
  ·obtain ⟨r, e, hx, hf⟩ := d_DrawIndexFind c
   obtain ⟨w1, w2⟩ := smallX_w hx
   have hn7 := hx.n
   have hl := findP_len r.1 r.2
   rw [decide_eq_false hc, cond_false, bd_some, decide_eq_false hm, cond_false, bd.yes e, bd.yes (e_impl_IndexFind r.1 r.2 w1 w2 (by omega)), bd.yes (e_spec_IndexFind r.1 r.2 w1 w2 (by omega)), bd.yes (e_lyIntsI _ _ (by omega)), decide_eq_true rfl, Bool.not_true, cond_false, bd.yes (e_spec_IndexOk r.1 w1 w2)]
   cases hi : indexB r.1 with
   | false => rfl
   | true =>
    rw [Bool.not_true, cond_false]
    have hj0 : (0 : Int) ≤ (m.length : Int).tmod 4 := Int.tmod_nonneg _ (by omega)
    have hj1 : (m.length : Int).tmod 4 < 4 := Int.tmod_lt_of_pos _ (by omega)
    have hk0 : (0 : Int) ≤ (m.length : Int).tmod 3 := Int.tmod_nonneg _ (by omega)
    have hk1 : (m.length : Int).tmod 3 < 3 := Int.tmod_lt_of_pos _ (by omega)
    have g1 : ix ((m.length : Int).tmod 4) ([(⟨#[97]⟩ : ByteArray), (⟨#[98]⟩ : ByteArray), (⟨#[99]⟩ : ByteArray), (⟨#[100]⟩ : ByteArray)] : List ByteArray).length := ⟨hj0, hj1⟩
    have g2 : ix ((m.length : Int).tmod 3) ([(⟨#[112]⟩ : ByteArray), (⟨#[113]⟩ : ByteArray), (⟨#[122]⟩ : ByteArray)] : List ByteArray).length := ⟨hk0, hk1⟩
    rw [gd.yes (show I64 ((m.length : Int).tmod 4) by unfold I64; omega), gd.yes (show I64 ((m.length : Int).tmod 3) by unfold I64; omega), gd.yes g1, gd.yes g2]
    have htB := fn_tag ((m.length : Int).tmod 4).toNat ((m.length : Int).tmod 3).toNat (by omega) (by omega)
    generalize ((nth ([(⟨#[97]⟩ : ByteArray), (⟨#[98]⟩ : ByteArray), (⟨#[99]⟩ : ByteArray), (⟨#[100]⟩ : ByteArray)] : List ByteArray) ((m.length : Int).tmod 4).toNat), (nth ([(⟨#[112]⟩ : ByteArray), (⟨#[113]⟩ : ByteArray), (⟨#[122]⟩ : ByteArray)] : List ByteArray) ((m.length : Int).tmod 3).toNat)) = t at htB ⊢
    have eF : ∀ f, filterOk f = true → findP r.1 f = findN r.1.1 f r.1.1.length := fun f hf => by unfold findP; rw [hi, hf]; rfl
    rw [bd.yes (e_impl_IndexFind r.1 [(t, false)] w1 w2 (by simp)), bd.yes (e_impl_IndexFind r.1 [(t, true)] w1 w2 (by simp))]
    have hn1 := findP_len r.1 [(t, false)]
    have hn2 := findP_len r.1 [(t, true)]
    have e1 := eF _ (filterOk_one (b := false) htB)
    have e2 := eF _ (filterOk_one (b := true) htB)
    have e3 := eF _ filterOk_nil
    have hlp : lp (p_laws_FnFindNone_b0 (findP r.1 [(t, false)]) (findP r.1 [(t, true)])) 0 = some (.inl ()) :=
     lp_for (body := p_laws_FnFindNone_b0 (findP r.1 [(t, false)]) (findP r.1 [(t, true)])) (fun k => (k : Int)) (findP r.1 [(t, false)]).length (.inl ()) (fun k hk => by
      have hno : ¬ nth (findP r.1 [(t, false)]) k ∈ findP r.1 [(t, true)] := fun h => by
       have h0 := nth_mem hk
       generalize nth (findP r.1 [(t, false)]) k = x at h h0
       rw [e1] at h0; rw [e2] at h
       obtain ⟨a, a1, a2, a3⟩ := findN_ex h0
       obtain ⟨b, b1, b2, b3⟩ := findN_ex h
       have hab : a = b := by omega
       subst hab
       rw [fitsP_one] at a3 b3
       cases hh : hasT (nth r.1.1 a) t <;> rw [hh] at a3 b3 <;> simp at a3 b3
      unfold p_laws_FnFindNone_b0
      rw [dlt hk, cond_true, gd.yes (ixN hk)]
      simp only [Int.toNat_natCast]
      rw [bd.yes (e_lyAmongI _ _ (by omega)), decide_eq_false hno, cond_false, gd.yes (show I64 ((k : Int) + 1) by unfold I64; omega), addI]) (by
      unfold p_laws_FnFindNone_b0; rw [decide_eq_false (show ¬ (((findP r.1 [(t, false)]).length : Int) < ((findP r.1 [(t, false)]).length : Int)) by omega)]; rfl)
    have s2 := findN_two r.1.1 t r.1.1.length
    have s3 := findN_all r.1.1 r.1.1.length
    rw [← e1, ← e2] at s2
    rw [← e3] at s3
    rw [hlp, bd_swl, bd.yes (e_impl_IndexFind r.1 [] w1 w2 (by decide)), decide_eq_true (by omega), cond_true, gd.yes (by unfold I64; omega), decide_eq_true (by omega)]
end Go.Proofs.Ytcbcmljlomihpaa
