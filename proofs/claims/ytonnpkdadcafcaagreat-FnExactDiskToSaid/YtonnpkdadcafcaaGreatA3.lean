/- The walks and the plain laws, part 3: each function that the law reaches computes what its plain function tells, and what the plain functions answer. Conditions: lengths that memory can hold. -/
import Derived.Test.YtonnpkdadcafcaaGreatA2
namespace Go.Proofs.YtonnpkdadcafcaaGreat
open Go Go.Sx Tryz
theorem c_spec_l21Counts {r : Bool} (v0 : Disk) (x_v0 : (Option Addr × Nat) × (Option Addr × Nat) × (Option Addr × Nat) × Unit) (v1 : Int) (H : p_spec_l21Counts v0 v1 = some r) : Fn' prog 126 #[.agg #[.slice x_v0.1.1 v0.1.length x_v0.1.2, .slice x_v0.2.1.1 v0.2.1.length x_v0.2.1.2, .slice x_v0.2.2.1.1 v0.2.2.1.length x_v0.2.2.1.2, .int .i64 (v0.2.2.2)], .int .i64 (v1)] [imm (.slice x_v0.1.1 v0.1.length x_v0.1.2) v0.1, imm (.slice x_v0.2.1.1 v0.2.1.length x_v0.2.1.2) v0.2.1, imm (.slice x_v0.2.2.1.1 v0.2.2.1.length x_v0.2.2.1.2) v0.2.2.1] [] (ι := Unit) (fun _ => .bool (r)) (fun _ => []) (fun _ => []) := by
 refine cof (args := [_, _]) func126 ntmps126 fun c => ?_
 unfold p_spec_l21Counts at H
 refine bM aR fun X1 => (bM aR.s.s.s fun X2 => (sr (f1 (cC (t := 32) rfl) fun g3 => (aH (v := .bool (false)) rfl (nl (aD (sr (aH (v := .int .i64 (0)) rfl (nl (bdo H fun x4 hx5 H => (dC (Λ := Unit) H (fun _ _ => []) (fun _ _ => []) ?_ ?_)))))))))))
 ·refine aQ (dE hx5 () (fun Q8 _ => [(1, .int .i64 (v1)), (2, .pointer (some ⟨g3, 0, none⟩)), (5, .int .i64 (Q8))]) (fun _ _ => [box g3 32 [.slice x_v0.1.1 v0.1.length x_v0.1.2, .slice x_v0.2.1.1 v0.2.1.length x_v0.2.1.2, .slice x_v0.2.2.1.1 v0.2.2.1.length x_v0.2.2.1.2, .int .i64 (v0.2.2.2)]]) (.cons aA .nil) ?_)
  rintro _ Q8 z9 t11 H1 hi12 hb13
  unfold p_spec_l21Counts_b0 at H1
  refine aD (sr (aF rfl (aG (cB fa32_1 rfl rfl) (aI (bI ty23 rfl aB rfl) (aG (bS 3 dP rfl) (aG (cP rfl rfl) (nl (cH H1 rfl (fun h16 H1 => ?_) (fun h16 H1 => ?_)))))))))
  ·refine bH (nT (aD (aQ (sr (aG (cB fa32_1 rfl rfl) (aI (bI ty23 rfl aB rfl) (aF rfl (gdo H1 fun h17 H1 => (aI (bW dP ty3 rfl rfl h17 rfl (aN (aL aR.s.s.s))) (aI (bZ (i := Q8.toNat) (j := 0) ty3 rfl (aN (aL aR.s.s.s)) h17.lt rfl) ?_))))))))))
   refine aF rfl (aG (cS rfl rfl) (nl (cH H1 rfl (fun h18 H1 => ?_) (fun h18 H1 => ?_))))
   ·refine sr (aH (v := .bool (true)) rfl (nl (bQ (rB (rT (rT (rB (rT (rT (?_))))))))))
    obtain rfl := hb13 _ (sm H1)
    replace H := sw.r H
    obtain rfl := si H
    exact bk
   ·exact bH (nB (nT (aP (aF rfl (gdo H1 fun h19 H1 => (aG (bR rfl rfl h19) (aH rfl (aJ (nLI () (hi12 _ (sm H1)) (.cons aA .nil))))))))))
  ·exact dA (xT (xT (xE (nMI () (hb13 _ (sm H1)) bK))))
 ·rintro e20 y10 H
  refine nT (sr (aH (v := .bool (false)) rfl (nl ?_)))
  obtain rfl := si H
  exact bQ bk
noncomputable def p_impl_cloneDisk_b0 (v0 : Disk) (Q18 : (List File) × Int) : Option (((List File) × Int) ⊕ ((List File))) := cond (decide (Q18.2 < (v0.1.length : Int))) (gd (ix Q18.2 v0.1.length) <| bd (p_impl_clonePart ((nth v0.1 Q18.2.toNat).2)) fun r29 => gd (room (Q18.1.length + 1)) <| gd (I64 (Q18.2 + 1)) <| some (.inl ((Q18.1 ++ [(((nth v0.1 Q18.2.toNat).1), r29)]), Q18.2 + 1))) (some (.inr Q18.1))
noncomputable def p_impl_cloneDisk (v0 : Disk) : Option (Disk) := gd (room (([] : List Int).length + v0.2.1.length)) <| bd (p_impl_cloneNames v0.2.2.1) fun r9 => bd (lp (p_impl_cloneDisk_b0 v0) (([] : List File), 0)) fun x14 => some (x14, (([] : List Int) ++ v0.2.1), r9, v0.2.2.2)
theorem c_impl_cloneDisk {r : Disk} (v0 : Disk) (x_v0 : (Option Addr × Nat) × (Option Addr × Nat) × (Option Addr × Nat) × Unit) (H : p_impl_cloneDisk v0 = some r) : Fn' prog 71 #[.agg #[.slice x_v0.1.1 v0.1.length x_v0.1.2, .slice x_v0.2.1.1 v0.2.1.length x_v0.2.1.2, .slice x_v0.2.2.1.1 v0.2.2.1.length x_v0.2.2.1.2, .int .i64 (v0.2.2.2)]] [imm (.slice x_v0.1.1 v0.1.length x_v0.1.2) v0.1, imm (.slice x_v0.2.1.1 v0.2.1.length x_v0.2.1.2) v0.2.1, imm (.slice x_v0.2.2.1.1 v0.2.2.1.length x_v0.2.2.1.2) v0.2.2.1] [] (ι := (Option Addr × Nat) × (Option Addr × Nat) × (Option Addr × Nat) × Unit) (fun x => .agg #[.slice x.1.1 r.1.length x.1.2, .slice x.2.1.1 r.2.1.length x.2.1.2, .slice x.2.2.1.1 r.2.2.1.length x.2.2.1.2, .int .i64 (r.2.2.2)]) (fun _ => []) (fun x => [tree (.slice x.1.1 r.1.length x.1.2) r.1, tree (.slice x.2.1.1 r.2.1.length x.2.1.2) r.2.1, tree (.slice x.2.2.1.1 r.2.2.1.length x.2.2.1.2) r.2.2.1]) := by
 refine cof (args := [_]) func71 ntmps71 fun c => ?_
 unfold p_impl_cloneDisk at H
 refine bM aR fun X1 => (bM aR.s.s.s fun X2 => (sr (f1 (cC (t := 32) rfl) fun g3 => (f1 (cD ty32) fun g4 => (nl (aD (dG [(2, .pointer (some ⟨g4, 0, none⟩)), (1, .pointer (some ⟨g3, 0, none⟩))] 2 [2, 3, 5, 6, 8, 9, 1, 4, 7, 0, 10, 11, 12] [4, 7, 12] [⟨0, [], fun g => .slice (some ⟨g, 0, none⟩) ([] : List File).length 0, fun g => tree (.slice (some ⟨g, 0, none⟩) ([] : List File).length 0) ([] : List File)⟩, ⟨1, [], fun g => .slice (some ⟨g, 0, none⟩) ([] : List Int).length 0, fun g => tree (.slice (some ⟨g, 0, none⟩) ([] : List Int).length 0) ([] : List Int)⟩, ⟨11, [], fun g => .pointer (some ⟨g, 0, none⟩), fun g => box g 32 [.slice none 0 0, .slice none 0 0, .slice none 0 0, .int .i64 (0)]⟩] mixed (by kernel_rfl) (by decide) (show List.Nodup [0, 1, 11] by decide) ⟨rfl, rfl, trivial⟩ rfl (okCons (FreeA.Ok.of rfl (by decide) (by kernel_rfl) fun c fs os => g_lit0 File dR ty77) (okCons (FreeA.Ok.of rfl (by decide) (by kernel_rfl) fun c fs os => g_lit0 Int dP ty3) (okCons (FreeA.Ok.of rfl (by decide) (by kernel_rfl) fun c fs os => cD ty32) okNil))) (w_p rfl (cB fa32_1 rfl rfl) ?_))))))))
 refine w_o rfl (fun F => (bI ty23 rfl (hs1.app F) rfl)) (w_p rfl (cB fa32_2 rfl rfl) ?_)
 refine w_o rfl (fun F => (bI ty30 rfl (hs1.app F) rfl)) (w_p rfl (cB fa32_3 rfl rfl) ?_)
 refine w_o rfl (fun F => (bI ty3 rfl (hs1.app F) rfl)) ?_
 refine w_fr (z := ⟨1, [], fun g => .slice (some ⟨g, 0, none⟩) ([] : List Int).length 0, fun g => tree (.slice (some ⟨g, 0, none⟩) ([] : List Int).length 0) ([] : List Int)⟩) (.tail _ (.head _)) rfl rfl (by decide) (cO (.inr (.inr trivial)) (cO (.inl rfl) (cO (.inr (.inr trivial)) cN))) trivial ?_; intro g5
 refine gdo H fun h8 H => (cJ rfl (by decide) rfl (cO (.inr (.inr trivial)) (cO (.inl rfl) (cO (.inr (.inr trivial)) cN))) rfl (n_appF (l := ([] : List Int)) (k := v0.2.1) (α := Int) dP ty3 rfl rfl (h8.b (by decide)) h8.x (.cons aA .nil) (aL aR.s.s.s)) ?_)
 rintro _ _ _ ⟨a6, c7, rfl, rfl, rfl⟩
 refine ⟨(bV rfl rfl (fun F => (bI ty3 rfl (hs2.app F) rfl)) (bV rfl rfl (fun F => (bI ty30 rfl (hs2.app F) rfl)) (aM (by kernel_rfl) bU))), ?_⟩
 refine bdo H fun r9 h10 H => (cJ rfl (by decide) rfl (cO (.inr (.inr trivial)) (cO (.inl rfl) (cO (.inr (.inr trivial)) cN))) rfl (cE (c_impl_cloneNames v0.2.2.1 x_v0.2.2.1 h10) (fun _ => (bF bG)) rfl (aC (aL (aS aR)) aO)) ?_)
 rintro _ _ _ ⟨x11, rfl, rfl, rfl⟩
 refine ⟨(bV rfl rfl (fun F => (bI ty3 rfl (hs3.app F) rfl)) (aM (by kernel_rfl) (aM (by kernel_rfl) bU))), ?_⟩
 refine w_fr (z := ⟨0, [], fun g => .slice (some ⟨g, 0, none⟩) ([] : List File).length 0, fun g => tree (.slice (some ⟨g, 0, none⟩) ([] : List File).length 0) ([] : List File)⟩) (.head _) rfl rfl (by decide) (cO (.inl rfl) (cO (.inl rfl) (cO (.inr (.inr trivial)) cN))) trivial ?_; intro g12
 refine w_p (v := .agg #[.slice (some ⟨g12, 0, none⟩) (([] : List File).length) 0, .slice a6 ((([] : List Int) ++ v0.2.1).length) c7, .slice x11.1 r9.length x11.2, .int .i64 (v0.2.2.2)]) rfl (p_buildS (vs := [(0, .slice (some ⟨g12, 0, none⟩) (([] : List File).length) 0), (1, .slice a6 ((([] : List Int) ++ v0.2.1).length) c7), (2, .slice x11.1 r9.length x11.2), (3, .int .i64 (v0.2.2.2))]) (cs := #[.slice (some ⟨g12, 0, none⟩) (([] : List File).length) 0, .slice a6 ((([] : List Int) ++ v0.2.1).length) c7, .slice x11.1 r9.length x11.2, .int .i64 (v0.2.2.2)]) ty32 pl32 rfl rfl) ?_
 refine w_fr (z := ⟨11, [], fun g => .pointer (some ⟨g, 0, none⟩), fun g => box g 32 [.slice none 0 0, .slice none 0 0, .slice none 0 0, .int .i64 (0)]⟩) (.tail _ (.tail _ (.head _))) rfl rfl (by decide) (cO (.inl rfl) (cO (.inl rfl) (cO (.inl rfl) cN))) trivial ?_; intro g13
 refine w_en rfl rfl (cO (.inl rfl) (cO (.inl rfl) (cO (.inl rfl) cN))) rfl (n_store (cs' := [.slice (some ⟨g12, 0, none⟩) (([] : List File).length) 0, .slice a6 ((([] : List Int) ++ v0.2.1).length) c7, .slice x11.1 r9.length x11.2, .int .i64 (v0.2.2.2)]) ty32 rfl rfl cZ rfl (one_of rfl) (Nat.le_of_ble_eq_true rfl) rfl) ?_
 rintro _ _ _ ⟨rfl, rfl, rfl⟩
 refine ⟨(aM (by kernel_rfl) (aM (by kernel_rfl) (aM (by kernel_rfl) bU))), ?_⟩
 refine cK (nT (aD (sr (aG (cB fa32_0 rfl rfl) (aI (bI ty29 rfl hs5 rfl) (aG (bS 77 dR rfl) (aF (v := .int .i64 (0)) rfl (nl (bdo H fun x14 hx15 H => (dB (ι := Option Addr × Nat) (fun ψ => [(2, .pointer (some ⟨g4, 0, none⟩)), (3, .pointer (some ⟨g13, 0, none⟩))]) (fun ψ => [box g4 32 [.slice none 0 0, .slice none 0 0, .slice none 0 0, .int .i64 (0)], tree (.slice ψ.1 x14.length ψ.2) x14, tree (.slice a6 ((([] : List Int) ++ v0.2.1).length) c7) (([] : List Int) ++ v0.2.1), tree (.slice x11.1 r9.length x11.2) r9, box g13 32 [.slice ψ.1 x14.length ψ.2, .slice a6 ((([] : List Int) ++ v0.2.1).length) c7, .slice x11.1 r9.length x11.2, .int .i64 (v0.2.2.2)]]) ?_ ?_))))))))))
 ·refine aQ (dE (Λ := (Option Addr × Nat)) hx15 ((some ⟨g12, 0, none⟩), 0) (fun Q18 _ => [(2, .pointer (some ⟨g4, 0, none⟩)), (3, .pointer (some ⟨g13, 0, none⟩)), (18, .slice x_v0.1.1 v0.1.length x_v0.1.2), (19, .int .i64 ((v0.1.length : Int))), (20, .int .i64 (Q18.2))]) (fun Q18 z19 => [box g4 32 [.slice none 0 0, .slice none 0 0, .slice none 0 0, .int .i64 (0)], tree (.slice z19.1 Q18.1.length z19.2) Q18.1, tree (.slice a6 ((([] : List Int) ++ v0.2.1).length) c7) (([] : List Int) ++ v0.2.1), tree (.slice x11.1 r9.length x11.2) r9, box g13 32 [.slice z19.1 Q18.1.length z19.2, .slice a6 ((([] : List Int) ++ v0.2.1).length) c7, .slice x11.1 r9.length x11.2, .int .i64 (v0.2.2.2)]]) (.cons dl4 (.cons dl1 (.cons dl2 (.cons dl1 (.cons aA .nil))))) ?_)
  rintro _ Q18 z19 t21 H1 hi22 hb23
  unfold p_impl_cloneDisk_b0 at H1
  refine sr (aG (cP rfl rfl) (nl (aD (cH H1 rfl (fun h26 H1 => ?_) (fun h26 H1 => ?_)))))
  ·refine bH (nT (aD (aQ (sr (gdo H1 fun h27 H1 => (aI (bW dR ty77 rfl rfl h27 rfl (aL (aT aR.s))) (aI (v := .agg #[.int .i64 ((nth v0.1 Q18.2.toNat).1), .slice ((((X1 Q18.2.toNat).2).1).1) ((((nth v0.1 Q18.2.toNat).2).1).length) ((((X1 Q18.2.toNat).2).1).2.1), .slice ((((X1 Q18.2.toNat).2).2).1) ((((nth v0.1 Q18.2.toNat).2).2).length) ((((X1 Q18.2.toNat).2).2).2.1)]) (cA (i := Q18.2.toNat) ty77 rfl (aL (aT aR.s)) h27.lt) (f1 (cD ty77) fun g28 => (stb (cs' := [.int .i64 ((nth v0.1 Q18.2.toNat).1), .slice ((((X1 Q18.2.toNat).2).1).1) ((((nth v0.1 Q18.2.toNat).2).1).length) ((((X1 Q18.2.toNat).2).1).2.1), .slice ((((X1 Q18.2.toNat).2).2).1) ((((nth v0.1 Q18.2.toNat).2).2).length) ((((X1 Q18.2.toNat).2).2).2.1)]) ty77 cZ (nl ?_))))))))))
   refine dG [(5, .pointer (some ⟨g28, 0, none⟩)), (2, .pointer (some ⟨g4, 0, none⟩)), (3, .pointer (some ⟨g13, 0, none⟩)), (18, .slice x_v0.1.1 v0.1.length x_v0.1.2), (19, .int .i64 ((v0.1.length : Int))), (20, .int .i64 (Q18.2))] 2 [0, 1, 2, 3, 4, 5, 6, 7, 8, 9, 10, 11] [6, 8, 9, 11] [] mixed (by kernel_rfl) (by decide) dI ⟨rfl, rfl, rfl, rfl, rfl, rfl, trivial⟩ rfl okNil (w_p rfl (cB fa32_0 rfl rfl) ?_)
   refine w_o rfl (fun F => (bI ty29 rfl (hs5.app F) rfl)) (w_p rfl (cB fa77_0 rfl rfl) ?_)
   refine w_o rfl (fun F => (bI ty3 rfl (aB.app F) rfl)) (w_p rfl (cB fa77_1 rfl rfl) ?_)
   refine w_o (v := .agg #[.slice ((((X1 Q18.2.toNat).2).1).1) ((((nth v0.1 Q18.2.toNat).2).1).length) ((((X1 Q18.2.toNat).2).1).2.1), .slice ((((X1 Q18.2.toNat).2).2).1) ((((nth v0.1 Q18.2.toNat).2).2).length) ((((X1 Q18.2.toNat).2).2).2.1)]) rfl (fun F => (q_ldbP [.slice ((((X1 Q18.2.toNat).2).1).1) ((((nth v0.1 Q18.2.toNat).2).1).length) ((((X1 Q18.2.toNat).2).1).2.1), .slice ((((X1 Q18.2.toNat).2).2).1) ((((nth v0.1 Q18.2.toNat).2).2).length) ((((X1 Q18.2.toNat).2).2).2.1)] ty75 rfl (aB.app F) rfl rfl)) (bdo H1 fun r29 h30 H1 => (cJ rfl (by decide) rfl cN rfl (cE (c_impl_clonePart ((nth v0.1 Q18.2.toNat).2) (((((X1 Q18.2.toNat).2).1).1, (((X1 Q18.2.toNat).2).1).2.1), ((((X1 Q18.2.toNat).2).2).1, (((X1 Q18.2.toNat).2).2).2.1)) h30) (fun _ => (bF (bF bG))) rfl (aC (aL (aS (aV (aU (aW aR.s h27.lt))))) (aC (aL (aS (aU (aU (aW aR.s h27.lt))))) aO))) ?_))
   rintro _ _ _ ⟨x31, rfl, rfl, rfl⟩
   refine ⟨(aM (by kernel_rfl) (bV rfl rfl (fun F => (bI ty3 rfl (hs2.app F) rfl)) (bV rfl rfl (fun F => (bI ty29 rfl ((hs5t hs2).app F) rfl)) bU))), ?_⟩
   refine w_p (v := .agg #[.int .i64 ((nth v0.1 Q18.2.toNat).1), .slice x31.1.1 r29.1.length x31.1.2, .slice x31.2.1 r29.2.length x31.2.2]) rfl (p_buildS (vs := [(0, .int .i64 ((nth v0.1 Q18.2.toNat).1)), (1, .agg #[.slice x31.1.1 r29.1.length x31.1.2, .slice x31.2.1 r29.2.length x31.2.2])]) (cs := #[.int .i64 ((nth v0.1 Q18.2.toNat).1), .slice x31.1.1 r29.1.length x31.1.2, .slice x31.2.1 r29.2.length x31.2.2]) ty77 pl77 rfl rfl) (cJ rfl (by decide) rfl cN rfl (n_lit (vs := [(0, .agg #[.int .i64 ((nth v0.1 Q18.2.toNat).1), .slice x31.1.1 r29.1.length x31.1.2, .slice x31.2.1 r29.2.length x31.2.2])]) [.int .i64 ((nth v0.1 Q18.2.toNat).1), .slice x31.1.1 r29.1.length x31.1.2, .slice x31.2.1 r29.2.length x31.2.2] dR ty77 rfl (by decide) (by decide) (by kernel_rfl)) ?_)
   rintro _ _ _ ⟨g32, rfl, rfl, rfl⟩
   refine ⟨(bV rfl rfl (fun F => (q_ldbP [.slice ((((X1 Q18.2.toNat).2).1).1) ((((nth v0.1 Q18.2.toNat).2).1).length) ((((X1 Q18.2.toNat).2).1).2.1), .slice ((((X1 Q18.2.toNat).2).2).1) ((((nth v0.1 Q18.2.toNat).2).2).length) ((((X1 Q18.2.toNat).2).2).2.1)] ty75 rfl (hs3.app F) rfl rfl)) (aM (by kernel_rfl) (bV rfl rfl (fun F => (bI ty29 rfl ((hs5t hs3).app F) rfl)) bU))), ?_⟩
   refine gdo H1 fun h35 H1 => (cJ rfl (by decide) rfl cN rfl (n_app1 (l := Q18.1) (α := File) (((nth v0.1 Q18.2.toNat).1), r29) ((), x31) dR ty77 rfl rfl (h35.b (by decide)) h35.x rfl (cW _) (.cons dl5 (.cons aA (.cons aA (.cons aA .nil))))) ?_)
   rintro _ _ _ ⟨a33, c34, rfl, rfl, rfl⟩
   refine ⟨(aM (by kernel_rfl) (bV rfl rfl (fun F => (bI ty3 rfl (hs1.app F) rfl)) (aM (by kernel_rfl) bU))), ?_⟩
   refine w_p rfl (cB fa32_0 rfl rfl) (w_en rfl rfl cN rfl (n_store (cs' := [.slice a33 ((Q18.1 ++ [(((nth v0.1 Q18.2.toNat).1), r29)]).length) c34, .slice a6 ((([] : List Int) ++ v0.2.1).length) c7, .slice x11.1 r9.length x11.2, .int .i64 (v0.2.2.2)]) ty29 rfl rfl up5 rfl (one_of rfl) (Nat.le_of_ble_eq_true rfl) rfl) ?_)
   rintro _ _ _ ⟨rfl, rfl, rfl⟩
   refine ⟨(aM (by kernel_rfl) (aM (by kernel_rfl) (aM (by kernel_rfl) bU))), ?_⟩
   refine cK ?_
   show At _ _ _ _ _ _
   exact nB (nT (aP (gdo H1 fun h36 H1 => (aG (bR rfl rfl h36) (aF rfl (aJ (nLI (a33, c34) (hi22 _ (sm H1)) (.cons dl2 (.cons aA (.cons dl1 (.cons dl1 (.cons dl1 .nil))))))))))))
  ·refine dA (xT (xT (xE (?_))))
   obtain rfl := hb23 _ (sm H1)
   exact nMC (z19.1, z19.2) ⟨rfl, rfl, trivial⟩ bT (.cons aA (.cons aA (.cons aA (.cons aA (.cons aA .nil)))))
 ·intro y20
  show At _ _ [(2, .pointer (some ⟨g4, 0, none⟩)), (3, .pointer (some ⟨g13, 0, none⟩))] _ [box g4 32 [.slice none 0 0, .slice none 0 0, .slice none 0 0, .int .i64 (0)], tree (.slice y20.1 x14.length y20.2) x14, tree (.slice a6 ((([] : List Int) ++ v0.2.1).length) c7) (([] : List Int) ++ v0.2.1), tree (.slice x11.1 r9.length x11.2) r9, box g13 32 [.slice y20.1 x14.length y20.2, .slice a6 ((([] : List Int) ++ v0.2.1).length) c7, .slice x11.1 r9.length x11.2, .int .i64 (v0.2.2.2)]] _
  refine nT (sr (aI (bJ ty32 rfl hs4 rfl) (stb (cs' := [.slice y20.1 x14.length y20.2, .slice a6 ((([] : List Int) ++ v0.2.1).length) c7, .slice x11.1 r9.length x11.2, .int .i64 (v0.2.2.2)]) ty32 cZ (nl (bQ ?_)))))
  obtain rfl := si H
  exact back1 (y20, (a6, c7), x11, ()) rfl (ResV.agg ty32 rfl aB rfl) rfl cM (.cons dl1 (.cons dl1 (.cons dl1 .nil)))
def keepF (k : Disk) (n : Int) : Bool := k.2.1.contains n
theorem d_Contains (l : List Int) (id : Int) (ok : l.length ≤ 9223372036854775807) : p_slices_Contains_int_int l id = some (l.contains id) := by
 unfold p_slices_Contains_int_int p_slices_Index_int_int
 rcases lp_scan (body := p_slices_Index_int_int_b0 l id) (fun k => (k : Int)) l.length (fun i => decide (nth l i = id)) (.inl ()) (fun k => .inr (k : Int)) (fun k hk _ h => by
   have h' : ¬ id = nth l k := fun e => by simp [e] at h
   unfold p_slices_Index_int_int_b0; simp [hk, gd.yes (ixN hk), h', gd.yes (i64S hk ok)]) (fun k hk _ h => by
   have h' : id = nth l k := by simp at h; exact h.symm
   unfold p_slices_Index_int_int_b0; simp [hk, gd.yes (ixN hk), h']) (fun _ => by unfold p_slices_Index_int_int_b0; simp) with ⟨h1, h2⟩ | ⟨h1, k, hk, hb, hn, h2⟩
 ·have hc : l.contains id = false := by
   cases hc : l.contains id with
   | false => rfl
   | true =>
    obtain ⟨i, hi, e⟩ := List.mem_iff_getElem.1 (List.contains_iff_mem.1 hc)
    have := allN_iff.1 h1 i hi
    rw [nth_eq l i hi, e] at this
    simp at this
  rw [show (lp (p_slices_Index_int_int_b0 l id) 0) = _ from h2, hc]; rfl
 ·have hc : l.contains id = true := by
   refine List.contains_iff_mem.2 ?_
   have hb' := of_decide_eq_true hb
   rw [nth_eq l k hk] at hb'
   rw [← hb']; exact List.getElem_mem hk
  rw [show (lp (p_slices_Index_int_int_b0 l id) 0) = _ from h2, hc]
  show some (decide (0 ≤ (k : Int))) = _
  rw [decide_eq_true (Int.natCast_nonneg k)]
noncomputable def p_laws_heldFileS_b0 (v0 : (List File)) (Q6 : Int × Int) : Option ((Int × Int) ⊕ (Int ⊕ Int)) := cond (decide (Q6.2 < (v0.length : Int))) (gd (ix Q6.2 v0.length) <| cond (!decide (((nth v0 Q6.2.toNat).1) = Q6.1)) (some (.inr (.inr (-1)))) (gd (I64 (Q6.1 + 1)) <| bd (p_laws_heldIntS (((nth v0 Q6.2.toNat).2).1) (Q6.1 + 1)) fun r18 => cond (decide (r18 < 0)) (some (.inr (.inr (-1)))) (bd (p_laws_heldRowSS (((nth v0 Q6.2.toNat).2).2) r18) fun r21 => cond (decide (r21 < 0)) (some (.inr (.inr (-1)))) (gd (I64 (Q6.2 + 1)) <| some (.inl (r21, Q6.2 + 1)))))) (some (.inr (.inl Q6.1)))
noncomputable def p_laws_heldFileS (v0 : (List File)) (v1 : Int) : Option (Int) := bd (lp (p_laws_heldFileS_b0 v0) (v1, 0)) <| sw (fun e25 => some e25) (fun q => some q)
theorem c_laws_heldFileS {r : Int} (v0 : (List File)) (x_v0 : Option Addr × Nat) (v1 : Int) (H : p_laws_heldFileS v0 v1 = some r) : Fn' prog 74 #[.slice x_v0.1 v0.length x_v0.2, .int .i64 (v1)] [imm (.slice x_v0.1 v0.length x_v0.2) v0] [] (ι := Unit) (fun _ => .int .i64 (r)) (fun _ => []) (fun _ => []) := by
 refine cof (args := [_, _]) func74 ntmps74 fun c => ?_
 unfold p_laws_heldFileS at H
 refine bM aR fun X1 => (sr (aH (v := .int .i64 (0)) rfl (nl (aD (sr (aH (v := .int .i64 (0)) rfl (nl (bdo H fun x2 hx3 H => (dC (Λ := Unit) H (fun e25 _ => [(1, .int .i64 (e25))]) (fun _ _ => []) ?_ ?_)))))))))
 ·refine aQ (dE hx3 () (fun Q6 _ => [(0, .slice x_v0.1 v0.length x_v0.2), (1, .int .i64 (Q6.1)), (5, .int .i64 (Q6.2))]) (fun _ _ => []) bK ?_)
  rintro _ Q6 z7 t9 H1 hi10 hb11
  unfold p_laws_heldFileS_b0 at H1
  refine aD (sr (aF rfl (aF rfl (aG (bS 77 dR rfl) (aG (cP rfl rfl) (nl (cH H1 rfl (fun h14 H1 => ?_) (fun h14 H1 => ?_))))))))
  ·refine bH (nT (aD (aQ (aD (sr (aF rfl (aF rfl (gdo H1 fun h15 H1 => (aI (bW dR ty77 rfl rfl h15 rfl (aL (aT aR))) (aI (bY (j := 0) Q6.2.toNat fa77_0 rfl (aL (aT aR)) h15.lt rfl) (aI (bZ (i := Q6.2.toNat) (j := 0) ty3 rfl (aL (aT aR)) h15.lt rfl) ?_)))))))))))
   refine aF rfl (aG (cR rfl rfl) (nl (cH H1 rfl (fun h16 H1 => ?_) (fun h16 H1 => ?_))))
   ·refine sr (aH (v := .int .i64 (-1)) rfl (nl (bQ (rT (rB (rT (rT (rB (rT (rT (?_)))))))))))
    obtain rfl := hb11 _ (sm H1)
    replace H := sw.r H
    obtain rfl := si H
    exact bk
   ·refine bH (nT (sr (aF rfl (gdo H1 fun h17 H1 => (aG (bR rfl rfl h17) (aH rfl (nl (sr (aF rfl (aF rfl ?_))))))))))
    refine aI (bW dR ty77 rfl rfl h15 rfl (aL (aT aR))) (aI (bY (j := 0) Q6.2.toNat fa77_1 rfl (aL (aT aR)) h15.lt rfl) (aI (bY (j := 1) Q6.2.toNat fa75_0 rfl (aL (aT aR)) h15.lt rfl) (aI (bZ (i := Q6.2.toNat) (j := 1) ty23 rfl (aL (aT aR)) h15.lt rfl) (aF rfl (bdo H1 fun r18 h19 H1 => (aI (bN (c_laws_heldIntS (((nth v0 Q6.2.toNat).2).1) ((((X1 Q6.2.toNat).2).1).1, (((X1 Q6.2.toNat).2).1).2.1) (Q6.1 + 1) h19) rfl (aC (aL (aS (aV (aU (aW aR h15.lt))))) aO)) (aH rfl (nl (aD (sr (aF rfl ?_)))))))))))
    refine aG (cP rfl rfl) (nl (cH H1 rfl (fun h20 H1 => ?_) (fun h20 H1 => ?_)))
    ·refine sr (aH (v := .int .i64 (-1)) rfl (nl (bQ (rT (rB (rT (rT (rB (rT (rT (?_)))))))))))
     obtain rfl := hb11 _ (sm H1)
     replace H := sw.r H
     obtain rfl := si H
     exact bk
    ·refine bH (nT (sr (aF rfl (aF rfl (aI (bW dR ty77 rfl rfl h15 rfl (aL (aT aR))) (aI (bY (j := 0) Q6.2.toNat fa77_1 rfl (aL (aT aR)) h15.lt rfl) (aI (bY (j := 1) Q6.2.toNat fa75_1 rfl (aL (aT aR)) h15.lt rfl) (aI (bZ (i := Q6.2.toNat) (j := 2) ty73 rfl (aL (aT aR)) h15.lt rfl) (aF rfl ?_)))))))))
     refine bdo H1 fun r21 h22 H1 => (aI (bN (c_laws_heldRowSS (((nth v0 Q6.2.toNat).2).2) ((((X1 Q6.2.toNat).2).2).1, (((X1 Q6.2.toNat).2).2).2.1) r18 h22) rfl (aC (aL (aS (aU (aU (aW aR h15.lt))))) aO)) (aH rfl (nl (sr (aF rfl (aG (cP rfl rfl) (nl (cH H1 rfl (fun h23 H1 => ?_) (fun h23 H1 => ?_)))))))))
     ·refine sr (aH (v := .int .i64 (-1)) rfl (nl (bQ (rB (rT (rT (rB (rT (rT (?_))))))))))
      obtain rfl := hb11 _ (sm H1)
      replace H := sw.r H
      obtain rfl := si H
      exact bk
     ·exact bH (nB (nT (aP (aF rfl (gdo H1 fun h24 H1 => (aG (bR rfl rfl h24) (aH rfl (aJ (nLI () (hi10 _ (sm H1)) bK)))))))))
  ·exact dA (xT (xT (xE (nMI () (hb11 _ (sm H1)) bK))))
 ·rintro e25 y8 H
  refine nT (sr (aF rfl (aH rfl (nl ?_))))
  obtain rfl := si H
  exact bQ bk
noncomputable def p_laws_heldDisk (v0 : Disk) (v1 : Int) : Option (Int) := bd (p_laws_heldFileS v0.1 v1) fun r4 => cond (decide (r4 < 0)) (some (-1)) (bd (p_laws_heldIntS v0.2.1 r4) fun r7 => cond (decide (r7 < 0)) (some (-1)) (bd (p_laws_heldTagSS v0.2.2.1 r7) fun r10 => cond (decide (r10 < 0)) (some (-1)) (some r10)))
theorem c_laws_heldDisk {r : Int} (v0 : Disk) (x_v0 : (Option Addr × Nat) × (Option Addr × Nat) × (Option Addr × Nat) × Unit) (v1 : Int) (H : p_laws_heldDisk v0 v1 = some r) : Fn' prog 22 #[.agg #[.slice x_v0.1.1 v0.1.length x_v0.1.2, .slice x_v0.2.1.1 v0.2.1.length x_v0.2.1.2, .slice x_v0.2.2.1.1 v0.2.2.1.length x_v0.2.2.1.2, .int .i64 (v0.2.2.2)], .int .i64 (v1)] [imm (.slice x_v0.1.1 v0.1.length x_v0.1.2) v0.1, imm (.slice x_v0.2.1.1 v0.2.1.length x_v0.2.1.2) v0.2.1, imm (.slice x_v0.2.2.1.1 v0.2.2.1.length x_v0.2.2.1.2) v0.2.2.1] [] (ι := Unit) (fun _ => .int .i64 (r)) (fun _ => []) (fun _ => []) := by
 refine cof (args := [_, _]) func22 ntmps22 fun c => ?_
 unfold p_laws_heldDisk at H
 refine bM aR fun X1 => (bM aR.s.s.s fun X2 => (sr (f1 (cC (t := 32) rfl) fun g3 => (aH (v := .int .i64 (0)) rfl (nl (sr (aG (cB fa32_0 rfl rfl) (aI (bI ty29 rfl aB rfl) (aF rfl (bdo H fun r4 h5 H => ?_))))))))))
 refine aI (bN (c_laws_heldFileS v0.1 x_v0.1 v1 h5) rfl (aC (aL (aS aR.s)) aO)) (aH rfl (nl (aD (sr (aF rfl (aG (cP rfl rfl) (nl (cH H rfl (fun h6 H => ?_) (fun h6 H => ?_)))))))))
 ·refine sr (aH (v := .int .i64 (-1)) rfl (nl (bQ (rT (?_)))))
  obtain rfl := si H
  exact bk
 ·refine bH (nT (sr (aG (cB fa32_1 rfl rfl) (aI (bI ty23 rfl aB rfl) (aF rfl (bdo H fun r7 h8 H => (aI (bN (c_laws_heldIntS v0.2.1 x_v0.2.1 r4 h8) rfl (aC (aL aR.s.s.s) aO)) (aH rfl (nl (aD (sr ?_)))))))))))
  refine aF rfl (aG (cP rfl rfl) (nl (cH H rfl (fun h9 H => ?_) (fun h9 H => ?_))))
  ·refine sr (aH (v := .int .i64 (-1)) rfl (nl (bQ (rT (?_)))))
   obtain rfl := si H
   exact bk
  ·refine bH (nT (sr (aG (cB fa32_2 rfl rfl) (aI (bI ty30 rfl aB rfl) (aF rfl (bdo H fun r10 h11 H => (aI (bN (c_laws_heldTagSS v0.2.2.1 x_v0.2.2.1 r7 h11) rfl (aC (aL (aS aR)) aO)) (aH rfl (nl (aD (sr ?_)))))))))))
   refine aF rfl (aG (cP rfl rfl) (nl (cH H rfl (fun h12 H => ?_) (fun h12 H => ?_))))
   ·refine sr (aH (v := .int .i64 (-1)) rfl (nl (bQ (rT (?_)))))
    obtain rfl := si H
    exact bk
   ·refine bH (nT (sr (aF rfl (aH rfl (nl ?_)))))
    obtain rfl := si H
    exact bQ bk
noncomputable def p_laws_eqStep (v0 : Step) (v1 : Step) : Option (Bool) := cond (!decide (v0.1 = v1.1)) (some false) (cond (!decide (v0.2.1 = v1.2.1)) (some false) (bd (p_laws_eqPart v0.2.2.1 v1.2.2.1) fun r9 => cond (!r9) (some false) (bd (p_laws_eqIntS v0.2.2.2.1 v1.2.2.2.1) fun r12 => cond (!r12) (some false) (bd (p_laws_eqTagSS v0.2.2.2.2 v1.2.2.2.2) fun r15 => cond (!r15) (some false) (some true)))))
theorem c_laws_eqStep {r : Bool} (v0 : Step) (x_v0 : Unit × Unit × ((Option Addr × Nat) × (Option Addr × Nat)) × (Option Addr × Nat) × (Option Addr × Nat)) (v1 : Step) (x_v1 : Unit × Unit × ((Option Addr × Nat) × (Option Addr × Nat)) × (Option Addr × Nat) × (Option Addr × Nat)) (H : p_laws_eqStep v0 v1 = some r) : Fn' prog 89 #[.agg #[.int .i64 (v0.1), .int .i64 (v0.2.1), .slice x_v0.2.2.1.1.1 v0.2.2.1.1.length x_v0.2.2.1.1.2, .slice x_v0.2.2.1.2.1 v0.2.2.1.2.length x_v0.2.2.1.2.2, .slice x_v0.2.2.2.1.1 v0.2.2.2.1.length x_v0.2.2.2.1.2, .slice x_v0.2.2.2.2.1 v0.2.2.2.2.length x_v0.2.2.2.2.2], .agg #[.int .i64 (v1.1), .int .i64 (v1.2.1), .slice x_v1.2.2.1.1.1 v1.2.2.1.1.length x_v1.2.2.1.1.2, .slice x_v1.2.2.1.2.1 v1.2.2.1.2.length x_v1.2.2.1.2.2, .slice x_v1.2.2.2.1.1 v1.2.2.2.1.length x_v1.2.2.2.1.2, .slice x_v1.2.2.2.2.1 v1.2.2.2.2.length x_v1.2.2.2.2.2]] [imm (.slice x_v0.2.2.1.1.1 v0.2.2.1.1.length x_v0.2.2.1.1.2) v0.2.2.1.1, imm (.slice x_v0.2.2.1.2.1 v0.2.2.1.2.length x_v0.2.2.1.2.2) v0.2.2.1.2, imm (.slice x_v0.2.2.2.1.1 v0.2.2.2.1.length x_v0.2.2.2.1.2) v0.2.2.2.1, imm (.slice x_v0.2.2.2.2.1 v0.2.2.2.2.length x_v0.2.2.2.2.2) v0.2.2.2.2, imm (.slice x_v1.2.2.1.1.1 v1.2.2.1.1.length x_v1.2.2.1.1.2) v1.2.2.1.1, imm (.slice x_v1.2.2.1.2.1 v1.2.2.1.2.length x_v1.2.2.1.2.2) v1.2.2.1.2, imm (.slice x_v1.2.2.2.1.1 v1.2.2.2.1.length x_v1.2.2.2.1.2) v1.2.2.2.1, imm (.slice x_v1.2.2.2.2.1 v1.2.2.2.2.length x_v1.2.2.2.2.2) v1.2.2.2.2] [] (ι := Unit) (fun _ => .bool (r)) (fun _ => []) (fun _ => []) := by
 refine cof (args := [_, _]) func89 ntmps89 fun c => ?_
 unfold p_laws_eqStep at H
 refine bM aR.s fun X1 => (bM aR.s.s.s.s fun X2 => (bM aR.s.s.s.s.s.s.s fun X3 => (bM aR.s.s.s.s.s.s.s.s.s.s fun X4 => (sr (f1 (cC (t := 111) rfl) fun g5 => (f1 (cC (t := 111) rfl) fun g6 => (aH (v := .bool (false)) rfl (nl (aD (sr (aG (cB fa111_0 rfl rfl) ?_)))))))))))
 refine aI (bI ty3 rfl hs1 rfl) (aG (cB fa111_0 rfl rfl) (aI (bI ty3 rfl aB rfl) (aG (cR rfl rfl) (nl (cH H rfl (fun h7 H => ?_) (fun h7 H => ?_))))))
 ·refine sr (aH (v := .bool (false)) rfl (nl (bQ (rT (?_)))))
  obtain rfl := si H
  exact bk
 ·refine bH (nT (aD (sr (aG (cB fa111_1 rfl rfl) (aI (bI ty3 rfl hs1 rfl) (aG (cB fa111_1 rfl rfl) (aI (bI ty3 rfl aB rfl) (aG (cR rfl rfl) (nl (cH H rfl (fun h8 H => ?_) (fun h8 H => ?_)))))))))))
  ·refine sr (aH (v := .bool (false)) rfl (nl (bQ (rT (?_)))))
   obtain rfl := si H
   exact bk
  ·refine bH (nT (aD (sr (aG (cB fa111_2 rfl rfl) (aI (v := .agg #[.slice x_v0.2.2.1.1.1 v0.2.2.1.1.length x_v0.2.2.1.1.2, .slice x_v0.2.2.1.2.1 v0.2.2.1.2.length x_v0.2.2.1.2.2]) (q_ldbP [.slice x_v0.2.2.1.1.1 v0.2.2.1.1.length x_v0.2.2.1.1.2, .slice x_v0.2.2.1.2.1 v0.2.2.1.2.length x_v0.2.2.1.2.2] ty75 rfl hs1 rfl rfl) (aG (cB fa111_2 rfl rfl) (aI (v := .agg #[.slice x_v1.2.2.1.1.1 v1.2.2.1.1.length x_v1.2.2.1.1.2, .slice x_v1.2.2.1.2.1 v1.2.2.1.2.length x_v1.2.2.1.2.2]) (q_ldbP [.slice x_v1.2.2.1.1.1 v1.2.2.1.1.length x_v1.2.2.1.1.2, .slice x_v1.2.2.1.2.1 v1.2.2.1.2.length x_v1.2.2.1.2.2] ty75 rfl aB rfl rfl) (bdo H fun r9 h10 H => (aI (bN (c_laws_eqPart v0.2.2.1 x_v0.2.2.1 v1.2.2.1 x_v1.2.2.1 h10) rfl (aC (aL aR.s.s.s.s) (aC (aL (aS aR.s.s.s)) (aC (aL aR.s.s.s.s.s.s.s.s) (aC (aL (aS aR.s)) aO))))) (aG (cV rfl) (nl ?_)))))))))))
   refine cH H rfl (fun h11 H => ?_) (fun h11 H => ?_)
   ·refine sr (aH (v := .bool (false)) rfl (nl (bQ (rT (?_)))))
    obtain rfl := si H
    exact bk
   ·refine bH (nT (aD (sr (aG (cB fa111_3 rfl rfl) (aI (bI ty23 rfl hs1 rfl) (aG (cB fa111_3 rfl rfl) (aI (bI ty23 rfl aB rfl) (bdo H fun r12 h13 H => (aI (bN (c_laws_eqIntS v0.2.2.2.1 x_v0.2.2.2.1 v1.2.2.2.1 x_v1.2.2.2.1 h13) rfl (aC (aL aR.s.s.s.s.s.s) (aC (aL aR.s.s.s.s.s.s.s.s.s.s) aO))) (aG (cV rfl) (nl ?_)))))))))))
    refine cH H rfl (fun h14 H => ?_) (fun h14 H => ?_)
    ·refine sr (aH (v := .bool (false)) rfl (nl (bQ (rT (?_)))))
     obtain rfl := si H
     exact bk
    ·refine bH (nT (aD (sr (aG (cB fa111_4 rfl rfl) (aI (bI ty30 rfl hs1 rfl) (aG (cB fa111_4 rfl rfl) (aI (bI ty30 rfl aB rfl) (bdo H fun r15 h16 H => (aI (bN (c_laws_eqTagSS v0.2.2.2.2 x_v0.2.2.2.2 v1.2.2.2.2 x_v1.2.2.2.2 h16) rfl (aC (aL (aS aR.s.s)) (aC (aL (aS aR)) aO))) (aG (cV rfl) (nl ?_)))))))))))
     refine cH H rfl (fun h17 H => ?_) (fun h17 H => ?_)
     ·refine sr (aH (v := .bool (false)) rfl (nl (bQ (rT (?_)))))
      obtain rfl := si H
      exact bk
     ·refine bH (nT (sr (aH (v := .bool (true)) rfl (nl ?_))))
      obtain rfl := si H
      exact bQ bk
noncomputable def p_laws_eqStepS_b0 (v0 : (List Step)) (v1 : (List Step)) (Q8 : Int) : Option ((Int) ⊕ (Unit ⊕ Bool)) := cond (decide (Q8 < (v0.length : Int))) (gd (ix Q8 v0.length) <| gd (ix Q8 v1.length) <| bd (p_laws_eqStep (nth v0 Q8.toNat) (nth v1 Q8.toNat)) fun r19 => cond (!r19) (some (.inr (.inr false))) (gd (I64 (Q8 + 1)) <| some (.inl (Q8 + 1)))) (some (.inr (.inl ())))
noncomputable def p_laws_eqStepS (v0 : (List Step)) (v1 : (List Step)) : Option (Bool) := cond (!decide ((v0.length : Int) = (v1.length : Int))) (some false) (bd (lp (p_laws_eqStepS_b0 v0 v1) 0) <| sw (fun _ => some true) (fun q => some q))
theorem c_laws_eqStepS {r : Bool} (v0 : (List Step)) (x_v0 : Option Addr × Nat) (v1 : (List Step)) (x_v1 : Option Addr × Nat) (H : p_laws_eqStepS v0 v1 = some r) : Fn' prog 27 #[.slice x_v0.1 v0.length x_v0.2, .slice x_v1.1 v1.length x_v1.2] [imm (.slice x_v0.1 v0.length x_v0.2) v0, imm (.slice x_v1.1 v1.length x_v1.2) v1] [] (ι := Unit) (fun _ => .bool (r)) (fun _ => []) (fun _ => []) := by
 refine cof (args := [_, _]) func27 ntmps27 fun c => ?_
 unfold p_laws_eqStepS at H
 refine bM aR fun X1 => (bM aR.s.s fun X2 => (sr (aH (v := .bool (false)) rfl (nl (aD (sr (aF rfl (aG (bS 111 dW rfl) (aF rfl (aG (bS 111 dW rfl) (aG (cR rfl rfl) (nl ?_))))))))))))
 refine cH H rfl (fun h3 H => ?_) (fun h3 H => ?_)
 ·refine sr (aH (v := .bool (false)) rfl (nl (bQ (rT (?_)))))
  obtain rfl := si H
  exact bk
 ·refine bH (nT (aD (sr (aH (v := .int .i64 (0)) rfl (nl (bdo H fun x4 hx5 H => (dC (Λ := Unit) H (fun _ _ => []) (fun _ _ => []) ?_ ?_)))))))
  ·refine aQ (dE hx5 () (fun Q8 _ => [(0, .slice x_v0.1 v0.length x_v0.2), (1, .slice x_v1.1 v1.length x_v1.2), (5, .int .i64 (Q8))]) (fun _ _ => []) bK ?_)
   rintro _ Q8 z9 t11 H1 hi12 hb13
   unfold p_laws_eqStepS_b0 at H1
   refine aD (sr (aF rfl (aF rfl (aG (bS 111 dW rfl) (aG (cP rfl rfl) (nl (cH H1 rfl (fun h16 H1 => ?_) (fun h16 H1 => ?_))))))))
   ·refine bH (nT (aD (aQ (aD (dF [(0, .slice x_v0.1 v0.length x_v0.2), (1, .slice x_v1.1 v1.length x_v1.2), (5, .int .i64 (Q8))] mixed (.inr (by kernel_rfl)) ⟨rfl, rfl, rfl, trivial⟩ rfl (bB rfl (bB rfl (gdo H1 fun h17 H1 => (aZ (bW dW ty111 rfl rfl h17 rfl (aL (aT aR.s))) (aZ (v := .agg #[.int .i64 ((nth v0 Q8.toNat).1), .int .i64 ((nth v0 Q8.toNat).2.1), .slice ((((X1 Q8.toNat).2.2.1).1).1) ((((nth v0 Q8.toNat).2.2.1).1).length) ((((X1 Q8.toNat).2.2.1).1).2.1), .slice ((((X1 Q8.toNat).2.2.1).2).1) ((((nth v0 Q8.toNat).2.2.1).2).length) ((((X1 Q8.toNat).2.2.1).2).2.1), .slice (((X1 Q8.toNat).2.2.2.1).1) (((nth v0 Q8.toNat).2.2.2.1).length) (((X1 Q8.toNat).2.2.2.1).2.1), .slice (((X1 Q8.toNat).2.2.2.2).1) (((nth v0 Q8.toNat).2.2.2.2).length) (((X1 Q8.toNat).2.2.2.2).2.1)]) (cA (i := Q8.toNat) ty111 rfl (aL (aT aR.s)) h17.lt) ?_))))))))))
    refine bB rfl (bB rfl (gdo H1 fun h18 H1 => (aZ (bW dW ty111 rfl rfl h18 rfl (aL (aT aR))) (aZ (v := .agg #[.int .i64 ((nth v1 Q8.toNat).1), .int .i64 ((nth v1 Q8.toNat).2.1), .slice ((((X2 Q8.toNat).2.2.1).1).1) ((((nth v1 Q8.toNat).2.2.1).1).length) ((((X2 Q8.toNat).2.2.1).1).2.1), .slice ((((X2 Q8.toNat).2.2.1).2).1) ((((nth v1 Q8.toNat).2.2.1).2).length) ((((X2 Q8.toNat).2.2.1).2).2.1), .slice (((X2 Q8.toNat).2.2.2.1).1) (((nth v1 Q8.toNat).2.2.2.1).length) (((X2 Q8.toNat).2.2.2.1).2.1), .slice (((X2 Q8.toNat).2.2.2.2).1) (((nth v1 Q8.toNat).2.2.2.2).length) (((X2 Q8.toNat).2.2.2.2).2.1)]) (cA (i := Q8.toNat) ty111 rfl (aL (aT aR)) h18.lt) (bdo H1 fun r19 h20 H1 => (aZ (bN (c_laws_eqStep (nth v0 Q8.toNat) ((), (), (((((X1 Q8.toNat).2.2.1).1).1, (((X1 Q8.toNat).2.2.1).1).2.1), ((((X1 Q8.toNat).2.2.1).2).1, (((X1 Q8.toNat).2.2.1).2).2.1)), (((X1 Q8.toNat).2.2.2.1).1, ((X1 Q8.toNat).2.2.2.1).2.1), (((X1 Q8.toNat).2.2.2.2).1, ((X1 Q8.toNat).2.2.2.2).2.1)) (nth v1 Q8.toNat) ((), (), (((((X2 Q8.toNat).2.2.1).1).1, (((X2 Q8.toNat).2.2.1).1).2.1), ((((X2 Q8.toNat).2.2.1).2).1, (((X2 Q8.toNat).2.2.1).2).2.1)), (((X2 Q8.toNat).2.2.2.1).1, ((X2 Q8.toNat).2.2.2.1).2.1), (((X2 Q8.toNat).2.2.2.2).1, ((X2 Q8.toNat).2.2.2.2).2.1)) h20) rfl (aC (aL (aS (aV (aV (aU (aU (aW aR.s h17.lt))))))) (aC (aL (aS (aU (aV (aU (aU (aW aR.s h17.lt))))))) (aC (aL (aS (aV (aU (aU (aU (aW aR.s h17.lt))))))) (aC (aL (aS (aU (aU (aU (aU (aW aR.s h17.lt))))))) (aC (aL (aS (aV (aV (aU (aU (aW aR h18.lt))))))) (aC (aL (aS (aU (aV (aU (aU (aW aR h18.lt))))))) (aC (aL (aS (aV (aU (aU (aU (aW aR h18.lt))))))) (aC (aL (aS (aU (aU (aU (aU (aW aR h18.lt))))))) aO))))))))) (aX (cV rfl) (nT (cH H1 rfl (fun h21 H1 => ?_) (fun h21 H1 => ?_))))))))))
    ·refine sr (aH (v := .bool (false)) rfl (nl (bQ (rB (rT (rT (rB (rT (rT (?_))))))))))
     obtain rfl := hb13 _ (sm H1)
     replace H := sw.r H
     obtain rfl := si H
     exact bk
    ·exact bH (nB (nT (aP (aF rfl (gdo H1 fun h22 H1 => (aG (bR rfl rfl h22) (aH rfl (aJ (nLI () (hi12 _ (sm H1)) bK)))))))))
   ·exact dA (xT (xT (xE (nMI () (hb13 _ (sm H1)) bK))))
  ·rintro e23 y10 H
   refine nT (sr (aH (v := .bool (true)) rfl (nl ?_)))
   obtain rfl := si H
   exact bQ bk
noncomputable def p_laws_markStepS_b0 (v0 : (List Step)) (Q5 : (List Step) × Int × Int) : Option (((List Step) × Int × Int) ⊕ (Int × (List Step))) := cond (decide (Q5.2.2 < (v0.length : Int))) (gd (ix Q5.2.2 Q5.1.length) <| gd (I64 (Q5.2.1 + 1)) <| gd (I64 ((Q5.2.1 + 1) + 1)) <| bd (p_laws_markIntS (((nth Q5.1 Q5.2.2.toNat).2.2.1).1) ((Q5.2.1 + 1) + 1)) fun r18 => bd (p_laws_markRowSS (((nth Q5.1 Q5.2.2.toNat).2.2.1).2) r18.1) fun r21 => bd (p_laws_markIntS ((nth Q5.1 Q5.2.2.toNat).2.2.2.1) r21.1) fun r24 => bd (p_laws_markTagSS ((nth Q5.1 Q5.2.2.toNat).2.2.2.2) r24.1) fun r27 => gd (I64 (Q5.2.2 + 1)) <| some (.inl ((Q5.1.set Q5.2.2.toNat (Q5.2.1, (Q5.2.1 + 1), (r18.2, r21.2), r24.2, r27.2)), r27.1, Q5.2.2 + 1))) (some (.inr (Q5.2.1, Q5.1)))
noncomputable def p_laws_markStepS (v0 : (List Step)) (v1 : Int) : Option (Int × (List Step)) := bd (lp (p_laws_markStepS_b0 v0) (v0, v1, 0)) fun x1 => some (x1.1, x1.2)
theorem c_laws_markStepS {r : Int × (List Step)} (v0 : (List Step)) (x_v0 : Option Addr × Nat) (n_v0 : Nat) (e_v0 : n_v0 = v0.length) (v1 : Int) (H : p_laws_markStepS v0 v1 = some r) : Fn' prog 28 #[.slice x_v0.1 n_v0 x_v0.2, .int .i64 (v1)] [] [tree (.slice x_v0.1 n_v0 x_v0.2) v0] (ι := Unit) (fun _ => .int .i64 (r.1)) (fun _ => []) (fun _ => [tree (.slice x_v0.1 n_v0 x_v0.2) r.2]) := by
 subst e_v0
 refine cof (args := [_, _]) func28 ntmps28 fun c => ?_
 unfold p_laws_markStepS at H
 refine sr (aH (v := .int .i64 (0)) rfl (nl (aD (sr (aH (v := .int .i64 (0)) rfl (nl (bdo H fun x1 hx2 H => (dB (ι := Unit) (fun ψ => [(1, .int .i64 (x1.1))]) (fun ψ => [tree (.slice x_v0.1 v0.length x_v0.2) x1.2]) ?_ ?_))))))))
 ·refine aQ (dE hx2 () (fun Q5 _ => [(0, .slice x_v0.1 v0.length x_v0.2), (1, .int .i64 (Q5.2.1)), (5, .int .i64 (Q5.2.2))]) (fun Q5 _ => [tree (.slice x_v0.1 v0.length x_v0.2) Q5.1]) (.cons aA .nil) ?_)
  rintro _ Q5 z6 t8 H1 hi9 hb10
  unfold p_laws_markStepS_b0 at H1
  refine aD (sr (aF rfl (aF rfl (aG (bS 111 dW rfl) (aG (cP rfl rfl) (nl (cH H1 rfl (fun h13 H1 => ?_) (fun h13 H1 => ?_))))))))
  ·refine bH (nT (aD (aQ (aD (gdo H1 fun h14 H1 => (Tr.zoom (k := Q5.2.2.toNat) h14.lt (.cons aA .nil) fun x15 => ?_))))))
   show Tr _ _ _ _ _ _ _ (hole (.slice x_v0.1 v0.length x_v0.2) Q5.1 Q5.2.2.toNat [.int .i64 ((nth Q5.1 Q5.2.2.toNat).1), .int .i64 ((nth Q5.1 Q5.2.2.toNat).2.1), .slice x15.2.2.1.1.1 ((((nth Q5.1 Q5.2.2.toNat).2.2.1).1).length) x15.2.2.1.1.2, .slice x15.2.2.1.2.1 ((((nth Q5.1 Q5.2.2.toNat).2.2.1).2).length) x15.2.2.1.2.2, .slice x15.2.2.2.1.1 (((nth Q5.1 Q5.2.2.toNat).2.2.2.1).length) x15.2.2.2.1.2, .slice x15.2.2.2.2.1 (((nth Q5.1 Q5.2.2.toNat).2.2.2.2).length) x15.2.2.2.2.2] :: tree (.slice x15.2.2.1.1.1 ((((nth Q5.1 Q5.2.2.toNat).2.2.1).1).length) x15.2.2.1.1.2) (((nth Q5.1 Q5.2.2.toNat).2.2.1).1) :: tree (.slice x15.2.2.1.2.1 ((((nth Q5.1 Q5.2.2.toNat).2.2.1).2).length) x15.2.2.1.2.2) (((nth Q5.1 Q5.2.2.toNat).2.2.1).2) :: tree (.slice x15.2.2.2.1.1 (((nth Q5.1 Q5.2.2.toNat).2.2.2.1).length) x15.2.2.2.1.2) ((nth Q5.1 Q5.2.2.toNat).2.2.2.1) :: tree (.slice x15.2.2.2.2.1 (((nth Q5.1 Q5.2.2.toNat).2.2.2.2).length) x15.2.2.2.2.2) ((nth Q5.1 Q5.2.2.toNat).2.2.2.2) :: _)
   refine aP (aF rfl (aF rfl (aF rfl (aI (v := elp x_v0.1 (Q5.2.2.toNat * Enc.sz Step + 0)) (q_ixH (k := Q5.2.2.toNat) dW ty111 rfl rfl h14 rfl aB) (aI (v := elp x_v0.1 (Q5.2.2.toNat * Enc.sz Step + 0)) (q_faH (j := 0) (i := Q5.2.2.toNat) fa111_0 rfl aB rfl) (g0 (e_stH (v := .int .i64 (Q5.2.1)) (i := Q5.2.2.toNat) (j := 0) (cs' := [.int .i64 (Q5.2.1), .int .i64 ((nth Q5.1 Q5.2.2.toNat).2.1), .slice x15.2.2.1.1.1 ((((nth Q5.1 Q5.2.2.toNat).2.2.1).1).length) x15.2.2.1.1.2, .slice x15.2.2.1.2.1 ((((nth Q5.1 Q5.2.2.toNat).2.2.1).2).length) x15.2.2.1.2.2, .slice x15.2.2.2.1.1 (((nth Q5.1 Q5.2.2.toNat).2.2.2.1).length) x15.2.2.2.1.2, .slice x15.2.2.2.2.1 (((nth Q5.1 Q5.2.2.toNat).2.2.2.2).length) x15.2.2.2.2.2]) ty3 rfl rfl (.cons aA .nil) rfl (one_of rfl) (Nat.le_of_ble_eq_true rfl) rfl rfl) (nl (sr (aF rfl ?_)))))))))
   refine gdo H1 fun h16 H1 => (aG (bR rfl rfl h16) (aH rfl (nl (sr (aF rfl (aF rfl (aF rfl (aI (v := elp x_v0.1 (Q5.2.2.toNat * Enc.sz Step + 0)) (q_ixH (k := Q5.2.2.toNat) dW ty111 rfl rfl h14 rfl aB) (aI (v := elp x_v0.1 (Q5.2.2.toNat * Enc.sz Step + 1)) (q_faH (j := 0) (i := Q5.2.2.toNat) fa111_1 rfl aB rfl) (g0 (e_stH (v := .int .i64 (Q5.2.1 + 1)) (i := Q5.2.2.toNat) (j := 1) (cs' := [.int .i64 (Q5.2.1), .int .i64 (Q5.2.1 + 1), .slice x15.2.2.1.1.1 ((((nth Q5.1 Q5.2.2.toNat).2.2.1).1).length) x15.2.2.1.1.2, .slice x15.2.2.1.2.1 ((((nth Q5.1 Q5.2.2.toNat).2.2.1).2).length) x15.2.2.1.2.2, .slice x15.2.2.2.1.1 (((nth Q5.1 Q5.2.2.toNat).2.2.2.1).length) x15.2.2.2.1.2, .slice x15.2.2.2.2.1 (((nth Q5.1 Q5.2.2.toNat).2.2.2.2).length) x15.2.2.2.2.2]) ty3 rfl rfl (.cons aA .nil) rfl (one_of rfl) (Nat.le_of_ble_eq_true rfl) rfl rfl) ?_))))))))))
   refine nl (sr (aF rfl (gdo H1 fun h17 H1 => (aG (bR rfl rfl h17) (aH rfl (nl (sr (aF rfl (aF rfl (aI (v := elp x_v0.1 (Q5.2.2.toNat * Enc.sz Step + 0)) (q_ixH (k := Q5.2.2.toNat) dW ty111 rfl rfl h14 rfl aB) ?_))))))))))
   refine aI (v := elp x_v0.1 (Q5.2.2.toNat * Enc.sz Step + 2)) (q_faH (j := 0) (i := Q5.2.2.toNat) fa111_2 rfl aB rfl) (aI (v := elp x_v0.1 (Q5.2.2.toNat * Enc.sz Step + 2)) (q_faH (j := 2) (i := Q5.2.2.toNat) fa75_0 rfl aB rfl) (aI (v := .slice x15.2.2.1.1.1 ((((nth Q5.1 Q5.2.2.toNat).2.2.1).1).length) x15.2.2.1.1.2) (q_ldH (i := Q5.2.2.toNat) (j := 2) ty23 rfl aB rfl) (aF rfl (bdo H1 fun r18 h19 H1 => (f1 (cG (c_laws_markIntS (((nth Q5.1 Q5.2.2.toNat).2.2.1).1) x15.2.2.1.1 ((((nth Q5.1 Q5.2.2.toNat).2.2.1).1).length) rfl ((Q5.2.1 + 1) + 1) h19) (bF bG) (fun _ => (bF bG)) rfl (.cons dl1 .nil) aO) fun u20 => (aH rfl (nl (aD ?_))))))))
   refine cX aB fun hn => ?_; rw [hn]
   refine aP (aF rfl (aF rfl (aI (v := elp x_v0.1 (Q5.2.2.toNat * Enc.sz Step + 0)) (q_ixH (k := Q5.2.2.toNat) dW ty111 rfl rfl h14 rfl hs1) (aI (v := elp x_v0.1 (Q5.2.2.toNat * Enc.sz Step + 2)) (q_faH (j := 0) (i := Q5.2.2.toNat) fa111_2 rfl hs1 rfl) (aI (v := elp x_v0.1 (Q5.2.2.toNat * Enc.sz Step + 3)) (q_faH (j := 2) (i := Q5.2.2.toNat) fa75_1 rfl hs1 rfl) (aI (v := .slice x15.2.2.1.2.1 ((((nth Q5.1 Q5.2.2.toNat).2.2.1).2).length) x15.2.2.1.2.2) (q_ldH (i := Q5.2.2.toNat) (j := 3) ty73 rfl hs1 rfl) (aF rfl (bdo H1 fun r21 h22 H1 => (f1 (cG (c_laws_markRowSS (((nth Q5.1 Q5.2.2.toNat).2.2.1).2) x15.2.2.1.2 ((((nth Q5.1 Q5.2.2.toNat).2.2.1).2).length) rfl r18.1 h22) (bF bG) (fun _ => (bF bG)) rfl (.cons dl2 .nil) aO) fun u23 => ?_)))))))))
   refine aH rfl (nl (aD ?_))
   refine cX aB fun hn => ?_; rw [hn]
   refine aP (aF rfl (aF rfl (aI (v := elp x_v0.1 (Q5.2.2.toNat * Enc.sz Step + 0)) (q_ixH (k := Q5.2.2.toNat) dW ty111 rfl rfl h14 rfl hs2) (aI (v := elp x_v0.1 (Q5.2.2.toNat * Enc.sz Step + 4)) (q_faH (j := 0) (i := Q5.2.2.toNat) fa111_3 rfl hs2 rfl) (aI (v := .slice x15.2.2.2.1.1 (((nth Q5.1 Q5.2.2.toNat).2.2.2.1).length) x15.2.2.2.1.2) (q_ldH (i := Q5.2.2.toNat) (j := 4) ty23 rfl hs2 rfl) (aF rfl (bdo H1 fun r24 h25 H1 => (f1 (cG (c_laws_markIntS ((nth Q5.1 Q5.2.2.toNat).2.2.2.1) x15.2.2.2.1 (((nth Q5.1 Q5.2.2.toNat).2.2.2.1).length) rfl r21.1 h25) (bF bG) (fun _ => (bF bG)) rfl (.cons dl3 .nil) aO) fun u26 => (aH rfl (nl ?_))))))))))
   refine cX aB fun hn => ?_; rw [hn]
   refine aP (aF rfl (aF rfl (aI (v := elp x_v0.1 (Q5.2.2.toNat * Enc.sz Step + 0)) (q_ixH (k := Q5.2.2.toNat) dW ty111 rfl rfl h14 rfl hs3) (aI (v := elp x_v0.1 (Q5.2.2.toNat * Enc.sz Step + 5)) (q_faH (j := 0) (i := Q5.2.2.toNat) fa111_4 rfl hs3 rfl) (aI (v := .slice x15.2.2.2.2.1 (((nth Q5.1 Q5.2.2.toNat).2.2.2.2).length) x15.2.2.2.2.2) (q_ldH (i := Q5.2.2.toNat) (j := 5) ty30 rfl hs3 rfl) (aF rfl (bdo H1 fun r27 h28 H1 => (f1 (cG (c_laws_markTagSS ((nth Q5.1 Q5.2.2.toNat).2.2.2.2) x15.2.2.2.2 (((nth Q5.1 Q5.2.2.toNat).2.2.2.2).length) rfl r24.1 h28) (bF bG) (fun _ => (bF bG)) rfl (.cons dl4 .nil) aO) fun u29 => (aH rfl (aJ ?_))))))))))
   refine nB (nT (?_))
   refine cX aB fun hn => ?_; rw [hn]
   exact aP (aF rfl (gdo H1 fun h30 H1 => (aG (bR rfl rfl h30) (aH rfl (aJ (At.unzoom (Q5.2.1, (Q5.2.1 + 1), (r18.2, r21.2), r24.2, r27.2) ((), (), x15.2.2.1, x15.2.2.2.1, x15.2.2.2.2) rfl (.cons dl4 (.cons dl3 (.cons dl2 (.cons dl1 (.cons aA .nil))))) (nLI () (hi9 _ (sm H1)) (.cons aA .nil))))))))
  ·refine dA (xT (xT (xE (?_))))
   obtain rfl := hb10 _ (sm H1)
   exact nMC () ⟨rfl, trivial⟩ bT (.cons aA .nil)
 ·intro y7
  show At _ _ [(1, .int .i64 (x1.1))] _ [tree (.slice x_v0.1 v0.length x_v0.2) x1.2] _
  refine nT (sr (aF rfl (aH rfl (nl ?_))))
  obtain rfl := si H
  exact bQ (bk (.cons aA .nil))
noncomputable def p_laws_heldStepS_b0 (v0 : (List Step)) (Q6 : Int × Int) : Option ((Int × Int) ⊕ (Int ⊕ Int)) := cond (decide (Q6.2 < (v0.length : Int))) (gd (ix Q6.2 v0.length) <| cond (!decide (((nth v0 Q6.2.toNat).1) = Q6.1)) (some (.inr (.inr (-1)))) (gd (I64 (Q6.1 + 1)) <| cond (!decide (((nth v0 Q6.2.toNat).2.1) = (Q6.1 + 1))) (some (.inr (.inr (-1)))) (gd (I64 ((Q6.1 + 1) + 1)) <| bd (p_laws_heldIntS (((nth v0 Q6.2.toNat).2.2.1).1) ((Q6.1 + 1) + 1)) fun r20 => cond (decide (r20 < 0)) (some (.inr (.inr (-1)))) (bd (p_laws_heldRowSS (((nth v0 Q6.2.toNat).2.2.1).2) r20) fun r23 => cond (decide (r23 < 0)) (some (.inr (.inr (-1)))) (bd (p_laws_heldIntS ((nth v0 Q6.2.toNat).2.2.2.1) r23) fun r26 => cond (decide (r26 < 0)) (some (.inr (.inr (-1)))) (bd (p_laws_heldTagSS ((nth v0 Q6.2.toNat).2.2.2.2) r26) fun r29 => cond (decide (r29 < 0)) (some (.inr (.inr (-1)))) (gd (I64 (Q6.2 + 1)) <| some (.inl (r29, Q6.2 + 1))))))))) (some (.inr (.inl Q6.1)))
noncomputable def p_laws_heldStepS (v0 : (List Step)) (v1 : Int) : Option (Int) := bd (lp (p_laws_heldStepS_b0 v0) (v1, 0)) <| sw (fun e33 => some e33) (fun q => some q)
noncomputable def p_laws_szStep (v0 : Step) (v1 : Int) : Option (Int) := bd (p_laws_szPart v0.2.2.1 v1) fun r4 => cond (decide (r4 < 0)) (some (-1)) (bd (p_laws_szIntS v0.2.2.2.1 r4) fun r7 => cond (decide (r7 < 0)) (some (-1)) (bd (p_laws_szTagSS v0.2.2.2.2 r7) fun r10 => cond (decide (r10 < 0)) (some (-1)) (some r10)))
theorem c_laws_szStep {r : Int} (v0 : Step) (x_v0 : Unit × Unit × ((Option Addr × Nat) × (Option Addr × Nat)) × (Option Addr × Nat) × (Option Addr × Nat)) (v1 : Int) (H : p_laws_szStep v0 v1 = some r) : Fn' prog 94 #[.agg #[.int .i64 (v0.1), .int .i64 (v0.2.1), .slice x_v0.2.2.1.1.1 v0.2.2.1.1.length x_v0.2.2.1.1.2, .slice x_v0.2.2.1.2.1 v0.2.2.1.2.length x_v0.2.2.1.2.2, .slice x_v0.2.2.2.1.1 v0.2.2.2.1.length x_v0.2.2.2.1.2, .slice x_v0.2.2.2.2.1 v0.2.2.2.2.length x_v0.2.2.2.2.2], .int .i64 (v1)] [imm (.slice x_v0.2.2.1.1.1 v0.2.2.1.1.length x_v0.2.2.1.1.2) v0.2.2.1.1, imm (.slice x_v0.2.2.1.2.1 v0.2.2.1.2.length x_v0.2.2.1.2.2) v0.2.2.1.2, imm (.slice x_v0.2.2.2.1.1 v0.2.2.2.1.length x_v0.2.2.2.1.2) v0.2.2.2.1, imm (.slice x_v0.2.2.2.2.1 v0.2.2.2.2.length x_v0.2.2.2.2.2) v0.2.2.2.2] [] (ι := Unit) (fun _ => .int .i64 (r)) (fun _ => []) (fun _ => []) := by
 refine cof (args := [_, _]) func94 ntmps94 fun c => ?_
 unfold p_laws_szStep at H
 refine bM aR.s fun X1 => (bM aR.s.s.s.s fun X2 => (sr (f1 (cC (t := 122) rfl) fun g3 => (aH (v := .int .i64 (0)) rfl (nl (sr (aG (cB fa122_2 rfl rfl) (aI (v := .agg #[.slice x_v0.2.2.1.1.1 v0.2.2.1.1.length x_v0.2.2.1.1.2, .slice x_v0.2.2.1.2.1 v0.2.2.1.2.length x_v0.2.2.1.2.2]) (q_ldbP [.slice x_v0.2.2.1.1.1 v0.2.2.1.1.length x_v0.2.2.1.1.2, .slice x_v0.2.2.1.2.1 v0.2.2.1.2.length x_v0.2.2.1.2.2] ty120 rfl aB rfl rfl) (aF rfl (bdo H fun r4 h5 H => ?_))))))))))
 refine aI (bN (c_laws_szPart v0.2.2.1 x_v0.2.2.1 v1 h5) rfl (aC (aL aR.s.s) (aC (aL (aS aR.s)) aO))) (aH rfl (nl (aD (sr (aF rfl (aG (cP rfl rfl) (nl (cH H rfl (fun h6 H => ?_) (fun h6 H => ?_)))))))))
 ·refine sr (aH (v := .int .i64 (-1)) rfl (nl (bQ (rT (?_)))))
  obtain rfl := si H
  exact bk
 ·refine bH (nT (sr (aG (cB fa122_3 rfl rfl) (aI (bI ty23 rfl aB rfl) (aF rfl (bdo H fun r7 h8 H => (aI (bN (c_laws_szIntS v0.2.2.2.1 x_v0.2.2.2.1 r4 h8) rfl (aC (aL aR.s.s.s.s) aO)) (aH rfl (nl (aD (sr ?_)))))))))))
  refine aF rfl (aG (cP rfl rfl) (nl (cH H rfl (fun h9 H => ?_) (fun h9 H => ?_))))
  ·refine sr (aH (v := .int .i64 (-1)) rfl (nl (bQ (rT (?_)))))
   obtain rfl := si H
   exact bk
  ·refine bH (nT (sr (aG (cB fa122_4 rfl rfl) (aI (bI ty24 rfl aB rfl) (aF rfl (bdo H fun r10 h11 H => (aI (bN (c_laws_szTagSS v0.2.2.2.2 x_v0.2.2.2.2 r7 h11) rfl (aC (aL (aS aR)) aO)) (aH rfl (nl (aD (sr ?_)))))))))))
   refine aF rfl (aG (cP rfl rfl) (nl (cH H rfl (fun h12 H => ?_) (fun h12 H => ?_))))
   ·refine sr (aH (v := .int .i64 (-1)) rfl (nl (bQ (rT (?_)))))
    obtain rfl := si H
    exact bk
   ·refine bH (nT (sr (aF rfl (aH rfl (nl ?_)))))
    obtain rfl := si H
    exact bQ bk
noncomputable def p_laws_szStepS_b0 (v0 : (List Step)) (Q8 : Int × Int) : Option ((Int × Int) ⊕ (Int ⊕ Int)) := cond (decide (Q8.2 < (v0.length : Int))) (gd (ix Q8.2 v0.length) <| bd (p_laws_szStep (nth v0 Q8.2.toNat) Q8.1) fun r18 => cond (decide (r18 < 0)) (some (.inr (.inr (-1)))) (gd (I64 (Q8.2 + 1)) <| some (.inl (r18, Q8.2 + 1)))) (some (.inr (.inl Q8.1)))
noncomputable def p_laws_szStepS (v0 : (List Step)) (v1 : Int) : Option (Int) := gd (I64 (v1 - (v0.length : Int))) <| cond (decide ((v1 - (v0.length : Int)) < 0)) (some (-1)) (bd (lp (p_laws_szStepS_b0 v0) (v1 - (v0.length : Int), 0)) <| sw (fun e22 => some e22) (fun q => some q))
theorem c_laws_szStepS {r : Int} (v0 : (List Step)) (x_v0 : Option Addr × Nat) (v1 : Int) (H : p_laws_szStepS v0 v1 = some r) : Fn' prog 32 #[.slice x_v0.1 v0.length x_v0.2, .int .i64 (v1)] [imm (.slice x_v0.1 v0.length x_v0.2) v0] [] (ι := Unit) (fun _ => .int .i64 (r)) (fun _ => []) (fun _ => []) := by
 refine cof (args := [_, _]) func32 ntmps32 fun c => ?_
 unfold p_laws_szStepS at H
 refine bM aR fun X1 => (sr (aH (v := .int .i64 (0)) rfl (nl (sr (aF rfl (aF rfl (aG (bS 122 dX rfl) (gdo H fun h2 H => (aG (cQ rfl rfl h2) (aH rfl (nl ?_)))))))))))
 refine aD (sr (aF rfl (aG (cP rfl rfl) (nl (cH H rfl (fun h3 H => ?_) (fun h3 H => ?_))))))
 ·refine sr (aH (v := .int .i64 (-1)) rfl (nl (bQ (rT (?_)))))
  obtain rfl := si H
  exact bk
 ·refine bH (nT (aD (sr (aH (v := .int .i64 (0)) rfl (nl (bdo H fun x4 hx5 H => (dC (Λ := Unit) H (fun e22 _ => [(1, .int .i64 (e22))]) (fun _ _ => []) ?_ ?_)))))))
  ·refine aQ (dE hx5 () (fun Q8 _ => [(0, .slice x_v0.1 v0.length x_v0.2), (1, .int .i64 (Q8.1)), (5, .int .i64 (Q8.2))]) (fun _ _ => []) bK ?_)
   rintro _ Q8 z9 t11 H1 hi12 hb13
   unfold p_laws_szStepS_b0 at H1
   refine aD (sr (aF rfl (aF rfl (aG (bS 122 dX rfl) (aG (cP rfl rfl) (nl (cH H1 rfl (fun h16 H1 => ?_) (fun h16 H1 => ?_))))))))
   ·refine bH (nT (aD (aQ (sr (aF rfl (aF rfl (gdo H1 fun h17 H1 => (aI (bW dX ty122 rfl rfl h17 rfl (aL (aT aR))) (aI (v := .agg #[.int .i64 ((nth v0 Q8.2.toNat).1), .int .i64 ((nth v0 Q8.2.toNat).2.1), .slice ((((X1 Q8.2.toNat).2.2.1).1).1) ((((nth v0 Q8.2.toNat).2.2.1).1).length) ((((X1 Q8.2.toNat).2.2.1).1).2.1), .slice ((((X1 Q8.2.toNat).2.2.1).2).1) ((((nth v0 Q8.2.toNat).2.2.1).2).length) ((((X1 Q8.2.toNat).2.2.1).2).2.1), .slice (((X1 Q8.2.toNat).2.2.2.1).1) (((nth v0 Q8.2.toNat).2.2.2.1).length) (((X1 Q8.2.toNat).2.2.2.1).2.1), .slice (((X1 Q8.2.toNat).2.2.2.2).1) (((nth v0 Q8.2.toNat).2.2.2.2).length) (((X1 Q8.2.toNat).2.2.2.2).2.1)]) (cA (i := Q8.2.toNat) ty122 rfl (aL (aT aR)) h17.lt) (aF rfl ?_))))))))))
    refine bdo H1 fun r18 h19 H1 => (aI (bN (c_laws_szStep (nth v0 Q8.2.toNat) ((), (), (((((X1 Q8.2.toNat).2.2.1).1).1, (((X1 Q8.2.toNat).2.2.1).1).2.1), ((((X1 Q8.2.toNat).2.2.1).2).1, (((X1 Q8.2.toNat).2.2.1).2).2.1)), (((X1 Q8.2.toNat).2.2.2.1).1, ((X1 Q8.2.toNat).2.2.2.1).2.1), (((X1 Q8.2.toNat).2.2.2.2).1, ((X1 Q8.2.toNat).2.2.2.2).2.1)) Q8.1 h19) rfl (aC (aL (aS (aV (aV (aU (aU (aW aR h17.lt))))))) (aC (aL (aS (aU (aV (aU (aU (aW aR h17.lt))))))) (aC (aL (aS (aV (aU (aU (aU (aW aR h17.lt))))))) (aC (aL (aS (aU (aU (aU (aU (aW aR h17.lt))))))) aO))))) (aH rfl (nl (sr (aF rfl (aG (cP rfl rfl) (nl (cH H1 rfl (fun h20 H1 => ?_) (fun h20 H1 => ?_)))))))))
    ·refine sr (aH (v := .int .i64 (-1)) rfl (nl (bQ (rB (rT (rT (rB (rT (rT (?_))))))))))
     obtain rfl := hb13 _ (sm H1)
     replace H := sw.r H
     obtain rfl := si H
     exact bk
    ·exact bH (nB (nT (aP (aF rfl (gdo H1 fun h21 H1 => (aG (bR rfl rfl h21) (aH rfl (aJ (nLI () (hi12 _ (sm H1)) bK)))))))))
   ·exact dA (xT (xT (xE (nMI () (hb13 _ (sm H1)) bK))))
  ·rintro e22 y10 H
   refine nT (sr (aF rfl (aH rfl (nl ?_))))
   obtain rfl := si H
   exact bQ bk
noncomputable def p_laws_toStep (v0 : Step) : Option (Step) := bd (p_laws_toPart v0.2.2.1) fun r6 => bd (p_laws_toIntS v0.2.2.2.1) fun r9 => bd (p_laws_toTagSS v0.2.2.2.2) fun r12 => some (v0.1, v0.2.1, r6, r9, r12)
theorem c_laws_toStep {r : Step} (v0 : Step) (x_v0 : Unit × Unit × ((Option Addr × Nat) × (Option Addr × Nat)) × (Option Addr × Nat) × (Option Addr × Nat)) (H : p_laws_toStep v0 = some r) : Fn' prog 96 #[.agg #[.int .i64 (v0.1), .int .i64 (v0.2.1), .slice x_v0.2.2.1.1.1 v0.2.2.1.1.length x_v0.2.2.1.1.2, .slice x_v0.2.2.1.2.1 v0.2.2.1.2.length x_v0.2.2.1.2.2, .slice x_v0.2.2.2.1.1 v0.2.2.2.1.length x_v0.2.2.2.1.2, .slice x_v0.2.2.2.2.1 v0.2.2.2.2.length x_v0.2.2.2.2.2]] [imm (.slice x_v0.2.2.1.1.1 v0.2.2.1.1.length x_v0.2.2.1.1.2) v0.2.2.1.1, imm (.slice x_v0.2.2.1.2.1 v0.2.2.1.2.length x_v0.2.2.1.2.2) v0.2.2.1.2, imm (.slice x_v0.2.2.2.1.1 v0.2.2.2.1.length x_v0.2.2.2.1.2) v0.2.2.2.1, imm (.slice x_v0.2.2.2.2.1 v0.2.2.2.2.length x_v0.2.2.2.2.2) v0.2.2.2.2] [] (ι := Unit × Unit × ((Option Addr × Nat) × (Option Addr × Nat)) × (Option Addr × Nat) × (Option Addr × Nat)) (fun x => .agg #[.int .i64 (r.1), .int .i64 (r.2.1), .slice x.2.2.1.1.1 r.2.2.1.1.length x.2.2.1.1.2, .slice x.2.2.1.2.1 r.2.2.1.2.length x.2.2.1.2.2, .slice x.2.2.2.1.1 r.2.2.2.1.length x.2.2.2.1.2, .slice x.2.2.2.2.1 r.2.2.2.2.length x.2.2.2.2.2]) (fun _ => []) (fun x => [tree (.slice x.2.2.1.1.1 r.2.2.1.1.length x.2.2.1.1.2) r.2.2.1.1, tree (.slice x.2.2.1.2.1 r.2.2.1.2.length x.2.2.1.2.2) r.2.2.1.2, tree (.slice x.2.2.2.1.1 r.2.2.2.1.length x.2.2.2.1.2) r.2.2.2.1, tree (.slice x.2.2.2.2.1 r.2.2.2.2.length x.2.2.2.2.2) r.2.2.2.2]) := by
 refine cof (args := [_]) func96 ntmps96 fun c => ?_
 unfold p_laws_toStep at H
 refine bM aR.s fun X1 => (bM aR.s.s.s.s fun X2 => (sr (f1 (cC (t := 122) rfl) fun g3 => (f1 (cD ty111) fun g4 => (nl (sr (f1 (cD ty111) fun g5 => (nl (sr ?_)))))))))
 refine aG (cB fa122_0 rfl rfl) (aI (bI ty3 rfl hs2 rfl) (aG (cB fa111_0 rfl rfl) (stb (cs' := [.int .i64 (v0.1), .int .i64 (0), .slice none 0 0, .slice none 0 0, .slice none 0 0, .slice none 0 0]) ty3 cZ (nl (sr (aG (cB fa122_1 rfl rfl) (aI (bI ty3 rfl hs2 rfl) (aG (cB fa111_1 rfl rfl) (stb (cs' := [.int .i64 (v0.1), .int .i64 (v0.2.1), .slice none 0 0, .slice none 0 0, .slice none 0 0, .slice none 0 0]) ty3 cZ ?_)))))))))
 refine nl (sr (aG (cB fa122_2 rfl rfl) (aI (v := .agg #[.slice x_v0.2.2.1.1.1 v0.2.2.1.1.length x_v0.2.2.1.1.2, .slice x_v0.2.2.1.2.1 v0.2.2.1.2.length x_v0.2.2.1.2.2]) (q_ldbP [.slice x_v0.2.2.1.1.1 v0.2.2.1.1.length x_v0.2.2.1.1.2, .slice x_v0.2.2.1.2.1 v0.2.2.1.2.length x_v0.2.2.1.2.2] ty120 rfl hs2 rfl rfl) (bdo H fun r6 h7 H => (f1 (cF (c_laws_toPart v0.2.2.1 x_v0.2.2.1 h7) (fun _ => (bF (bF bG))) rfl (aC (aL aR.s.s) (aC (aL (aS aR.s)) aO))) fun x8 => (aG (cB fa111_2 rfl rfl) (stb (cs' := [.int .i64 (v0.1), .int .i64 (v0.2.1), .slice x8.1.1 r6.1.length x8.1.2, .slice x8.2.1 r6.2.length x8.2.2, .slice none 0 0, .slice none 0 0]) ty75 up2 (nl (sr ?_)))))))))
 refine aG (cB fa122_3 rfl rfl) (aI (bI ty23 rfl hs4 rfl) (bdo H fun r9 h10 H => (f1 (cF (c_laws_toIntS v0.2.2.2.1 x_v0.2.2.2.1 h10) (fun _ => (bF bG)) rfl (aC (aL aR.s.s.s.s) aO)) fun x11 => (aG (cB fa111_3 rfl rfl) (stb (cs' := [.int .i64 (v0.1), .int .i64 (v0.2.1), .slice x8.1.1 r6.1.length x8.1.2, .slice x8.2.1 r6.2.length x8.2.2, .slice x11.1 r9.length x11.2, .slice none 0 0]) ty23 up3 (nl (sr (aG (cB fa122_4 rfl rfl) (aI (bI ty24 rfl hs5 rfl) ?_)))))))))
 refine bdo H fun r12 h13 H => (f1 (cF (c_laws_toTagSS v0.2.2.2.2 x_v0.2.2.2.2 h13) (fun _ => (bF bG)) rfl (aC (aL (aS aR)) aO)) fun x14 => (aG (cB fa111_4 rfl rfl) (stb (cs' := [.int .i64 (v0.1), .int .i64 (v0.2.1), .slice x8.1.1 r6.1.length x8.1.2, .slice x8.2.1 r6.2.length x8.2.2, .slice x11.1 r9.length x11.2, .slice x14.1 r12.length x14.2]) ty30 up4 (nl (sr (aI (bJ ty111 rfl hs4 rfl) (stb (cs' := [.int .i64 (v0.1), .int .i64 (v0.2.1), .slice x8.1.1 r6.1.length x8.1.2, .slice x8.2.1 r6.2.length x8.2.2, .slice x11.1 r9.length x11.2, .slice x14.1 r12.length x14.2]) ty111 up5 (nl (bQ ?_)))))))))
 obtain rfl := si H
 exact back1 ((), (), x8, x11, x14) rfl (ResV.agg ty111 rfl hs5 rfl) rfl cM (.cons dl2 (.cons dl2 (.cons dl1 (.cons aA .nil))))
noncomputable def p_laws_toStepS_b0 (v0 : (List Step)) (Q9 : (List Step) × Int) : Option (((List Step) × Int) ⊕ ((List Step))) := cond (decide (Q9.2 < (v0.length : Int))) (gd (ix Q9.2 v0.length) <| bd (p_laws_toStep (nth v0 Q9.2.toNat)) fun r19 => gd (ix Q9.2 Q9.1.length) <| gd (I64 (Q9.2 + 1)) <| some (.inl ((Q9.1.set Q9.2.toNat r19), Q9.2 + 1))) (some (.inr Q9.1))
noncomputable def p_laws_toStepS (v0 : (List Step)) : Option ((List Step)) := gd (many (v0.length : Int)) <| bd (lp (p_laws_toStepS_b0 v0) ((List.replicate (v0.length : Int).toNat (Zr.z0 : Step)), 0)) fun x5 => some x5
theorem c_laws_toStepS {r : (List Step)} (v0 : (List Step)) (x_v0 : Option Addr × Nat) (H : p_laws_toStepS v0 = some r) : Fn' prog 34 #[.slice x_v0.1 v0.length x_v0.2] [imm (.slice x_v0.1 v0.length x_v0.2) v0] [] (ι := Option Addr × Nat) (fun x => .slice x.1 r.length x.2) (fun _ => []) (fun x => [tree (.slice x.1 r.length x.2) r]) := by
 refine cof (args := [_]) func34 ntmps34 fun c => ?_
 unfold p_laws_toStepS at H
 refine bM aR fun X1 => (sr (aH (v := .slice none 0 0) rfl (nl (sr (aF rfl (aG (bS 122 dX rfl) (gdo H fun h4 H => (f2 (e_makeR Step dW ty111 rfl rfl rfl h4 (by decide)) fun a2 c3 => (aH rfl (nl (aD (sr ?_))))))))))))
 refine aH (v := .int .i64 (0)) rfl (nl (bdo H fun x5 hx6 H => (dB (ι := Unit) (fun ψ => [(3, .slice a2 x5.length c3)]) (fun ψ => [tree (.slice a2 x5.length c3) x5]) ?_ ?_)))
 ·refine aQ (dE hx6 () (fun Q9 _ => [(0, .slice x_v0.1 v0.length x_v0.2), (3, .slice a2 Q9.1.length c3), (4, .int .i64 (Q9.2))]) (fun Q9 _ => [tree (.slice a2 Q9.1.length c3) Q9.1]) (.cons aA .nil) ?_)
  rintro _ Q9 z10 t12 H1 hi13 hb14
  unfold p_laws_toStepS_b0 at H1
  refine aD (sr (aF rfl (aF rfl (aG (bS 122 dX rfl) (aG (cP rfl rfl) (nl (cH H1 rfl (fun h17 H1 => ?_) (fun h17 H1 => ?_))))))))
  ·refine bH (nT (aD (aQ (aP (aF rfl (aF rfl (aF rfl (aF rfl (gdo H1 fun h18 H1 => (aI (bW dX ty122 rfl rfl h18 rfl (aL (aT aR))) ?_))))))))))
   refine aI (v := .agg #[.int .i64 ((nth v0 Q9.2.toNat).1), .int .i64 ((nth v0 Q9.2.toNat).2.1), .slice ((((X1 Q9.2.toNat).2.2.1).1).1) ((((nth v0 Q9.2.toNat).2.2.1).1).length) ((((X1 Q9.2.toNat).2.2.1).1).2.1), .slice ((((X1 Q9.2.toNat).2.2.1).2).1) ((((nth v0 Q9.2.toNat).2.2.1).2).length) ((((X1 Q9.2.toNat).2.2.1).2).2.1), .slice (((X1 Q9.2.toNat).2.2.2.1).1) (((nth v0 Q9.2.toNat).2.2.2.1).length) (((X1 Q9.2.toNat).2.2.2.1).2.1), .slice (((X1 Q9.2.toNat).2.2.2.2).1) (((nth v0 Q9.2.toNat).2.2.2.2).length) (((X1 Q9.2.toNat).2.2.2.2).2.1)]) (cA (i := Q9.2.toNat) ty122 rfl (aL (aT aR)) h18.lt) (bdo H1 fun r19 h20 H1 => (f1 (cF (c_laws_toStep (nth v0 Q9.2.toNat) ((), (), (((((X1 Q9.2.toNat).2.2.1).1).1, (((X1 Q9.2.toNat).2.2.1).1).2.1), ((((X1 Q9.2.toNat).2.2.1).2).1, (((X1 Q9.2.toNat).2.2.1).2).2.1)), (((X1 Q9.2.toNat).2.2.2.1).1, ((X1 Q9.2.toNat).2.2.2.1).2.1), (((X1 Q9.2.toNat).2.2.2.2).1, ((X1 Q9.2.toNat).2.2.2.2).2.1)) h20) (fun _ => (bF (bF (bF (bF bG))))) rfl (aC (aL (aS (aV (aV (aU (aU (aW aR h18.lt))))))) (aC (aL (aS (aU (aV (aU (aU (aW aR h18.lt))))))) (aC (aL (aS (aV (aU (aU (aU (aW aR h18.lt))))))) (aC (aL (aS (aU (aU (aU (aU (aW aR h18.lt))))))) aO))))) fun x21 => (gdo H1 fun h22 H1 => (aI (bX dW ty111 rfl rfl h22 hs4) (g0 (e_setT (l := Q9.1) (α := Step) (oa := a2) Q9.2.toNat r19 ((), (), x21.2.2.1, x21.2.2.2.1, x21.2.2.2.2) ty111 rfl rfl rfl h22.lt (cW _) (.cons dl4 (.cons aA (.cons aA (.cons aA (.cons aA .nil)))))) (aJ (nB (nT (?_)))))))))
   refine cX aB fun hn => ?_; rw [hn]
   exact aP (aF rfl (gdo H1 fun h23 H1 => (aG (bR rfl rfl h23) (aH rfl (aJ (nLI () (hi13 _ (sm H1)) (.cons aA .nil)))))))
  ·refine dA (xT (xT (xE (?_))))
   obtain rfl := hb14 _ (sm H1)
   exact nMC () ⟨rfl, trivial⟩ bT (.cons aA .nil)
 ·intro y11
  show At _ _ [(3, .slice a2 x5.length c3)] _ [tree (.slice a2 x5.length c3) x5] _
  refine nT (sr (aF rfl (aH rfl (nl (bQ ?_)))))
  obtain rfl := si H
  exact back1 (a2, c3) rfl (ResV.tmp (v := .slice a2 x5.length c3) rfl) rfl cM (.cons aA .nil)
noncomputable def p_spec_l21Do (v0 : Disk) (v1 : Step) : Option (Disk) := cond (decide (v1.1 = 1)) (gd (room (([] : List File).length + v0.1.length)) <| gd (room ((([] : List File) ++ v0.1).length + 1)) <| some (((([] : List File) ++ v0.1) ++ [(v1.2.1, v1.2.2.1)]), v0.2.1, v0.2.2.1, (wr64 (v1.2.1 + 1)))) (cond (decide (v1.1 = 2)) (gd (room (([] : List Int).length + v1.2.2.2.1.length)) <| bd (p_spec_l11Names v1.2.2.2.2) fun r23 => some (v0.1, (([] : List Int) ++ v1.2.2.2.1), r23, v0.2.2.2)) (cond (decide (v1.1 = 3)) (bd (p_spec_l21At v0 v1.2.1) fun r27 => bd (cond (decide (0 ≤ r27)) (bd (p_spec_l21Counts v0 v1.2.1) fun r32 => some (!r32)) (some (false))) fun b29 => cond (b29) (gd (sl2 0 r27 v0.1.length) <| gd (I64 (r27 + 1)) <| gd (sl2 (r27 + 1) (v0.1.length : Int) v0.1.length) <| gd (room (([] : List File).length + ((v0.1.take r27.toNat).drop 0).length)) <| gd (room ((([] : List File) ++ ((v0.1.take r27.toNat).drop 0)).length + ((v0.1.take (v0.1.length : Int).toNat).drop (r27 + 1).toNat).length)) <| some (((([] : List File) ++ ((v0.1.take r27.toNat).drop 0)) ++ ((v0.1.take (v0.1.length : Int).toNat).drop (r27 + 1).toNat)), v0.2.1, v0.2.2.1, v0.2.2.2)) (some v0)) (some v0)))
theorem c_spec_l21Do {r : Disk} (v0 : Disk) (x_v0 : (Option Addr × Nat) × (Option Addr × Nat) × (Option Addr × Nat) × Unit) (v1 : Step) (x_v1 : Unit × Unit × ((Option Addr × Nat) × (Option Addr × Nat)) × (Option Addr × Nat) × (Option Addr × Nat)) (H : p_spec_l21Do v0 v1 = some r) : Fn' prog 147 #[.agg #[.slice x_v0.1.1 v0.1.length x_v0.1.2, .slice x_v0.2.1.1 v0.2.1.length x_v0.2.1.2, .slice x_v0.2.2.1.1 v0.2.2.1.length x_v0.2.2.1.2, .int .i64 (v0.2.2.2)], .agg #[.int .i64 (v1.1), .int .i64 (v1.2.1), .slice x_v1.2.2.1.1.1 v1.2.2.1.1.length x_v1.2.2.1.1.2, .slice x_v1.2.2.1.2.1 v1.2.2.1.2.length x_v1.2.2.1.2.2, .slice x_v1.2.2.2.1.1 v1.2.2.2.1.length x_v1.2.2.2.1.2, .slice x_v1.2.2.2.2.1 v1.2.2.2.2.length x_v1.2.2.2.2.2]] [imm (.slice x_v0.1.1 v0.1.length x_v0.1.2) v0.1, imm (.slice x_v0.2.1.1 v0.2.1.length x_v0.2.1.2) v0.2.1, imm (.slice x_v0.2.2.1.1 v0.2.2.1.length x_v0.2.2.1.2) v0.2.2.1, imm (.slice x_v1.2.2.1.1.1 v1.2.2.1.1.length x_v1.2.2.1.1.2) v1.2.2.1.1, imm (.slice x_v1.2.2.1.2.1 v1.2.2.1.2.length x_v1.2.2.1.2.2) v1.2.2.1.2, imm (.slice x_v1.2.2.2.1.1 v1.2.2.2.1.length x_v1.2.2.2.1.2) v1.2.2.2.1, imm (.slice x_v1.2.2.2.2.1 v1.2.2.2.2.length x_v1.2.2.2.2.2) v1.2.2.2.2] [] (ι := (Option Addr × Nat) × (Option Addr × Nat) × (Option Addr × Nat) × Unit) (fun x => .agg #[.slice x.1.1 r.1.length x.1.2, .slice x.2.1.1 r.2.1.length x.2.1.2, .slice x.2.2.1.1 r.2.2.1.length x.2.2.1.2, .int .i64 (r.2.2.2)]) (fun x => [imm (.slice x.1.1 r.1.length x.1.2) r.1, imm (.slice x.2.1.1 r.2.1.length x.2.1.2) r.2.1, imm (.slice x.2.2.1.1 r.2.2.1.length x.2.2.1.2) r.2.2.1]) (fun _ => []) := by
 refine cof (args := [_, _]) func147 ntmps147 fun c => ?_
 unfold p_spec_l21Do at H
 refine bM aR fun X1 => (bM aR.s.s.s fun X2 => (bM aR.s.s.s.s.s.s fun X3 => (bM aR.s.s.s.s.s.s.s.s.s fun X4 => (sr (f1 (cC (t := 32) rfl) fun g5 => (f1 (cC (t := 111) rfl) fun g6 => (f1 (cD ty32) fun g7 => (nl (aD (sr ?_))))))))))
 refine aG (cB fa111_0 rfl rfl) (aI (bI ty3 rfl hs1 rfl) (nl (aQ (sr (aG (cS rfl rfl) (aH rfl (nl (cH H rfl (fun h8 H => ?_) (fun h8 H => ?_)))))))))
 ·refine aD (dG [(4, .pointer (some ⟨g7, 0, none⟩)), (3, .pointer (some ⟨g6, 0, none⟩)), (2, .pointer (some ⟨g5, 0, none⟩))] 2 [1, 2, 4, 5, 6, 7, 8, 0, 3, 9, 10, 11, 12] [3, 10, 12] [⟨0, [], fun g => .slice (some ⟨g, 0, none⟩) ([] : List File).length 0, fun g => row (.slice (some ⟨g, 0, none⟩) ([] : List File).length 0) ([] : List File)⟩, ⟨9, [(18, .agg #[.int .i64 (v1.2.1), .slice x_v1.2.2.1.1.1 v1.2.2.1.1.length x_v1.2.2.1.1.2, .slice x_v1.2.2.1.2.1 v1.2.2.1.2.length x_v1.2.2.1.2.2])], fun g => .slice (some ⟨g, 0, none⟩) 1 1, fun g => box g 77 [.int .i64 (v1.2.1), .slice x_v1.2.2.1.1.1 v1.2.2.1.1.length x_v1.2.2.1.1.2, .slice x_v1.2.2.1.2.1 v1.2.2.1.2.length x_v1.2.2.1.2.2]⟩] mixed (by kernel_rfl) (by decide) (show List.Nodup [0, 9] by decide) ⟨rfl, rfl, rfl, trivial⟩ rfl (okCons (FreeA.Ok.of rfl (by decide) (by kernel_rfl) fun c fs os => g_lit0r File dR ty77) (okCons (FreeA.Ok.of rfl (by decide) (by kernel_rfl) fun c fs os => e_lit (vs := [(0, .agg #[.int .i64 (v1.2.1), .slice x_v1.2.2.1.1.1 v1.2.2.1.1.length x_v1.2.2.1.1.2, .slice x_v1.2.2.1.2.1 v1.2.2.1.2.length x_v1.2.2.1.2.2])]) [.int .i64 (v1.2.1), .slice x_v1.2.2.1.1.1 v1.2.2.1.1.length x_v1.2.2.1.1.2, .slice x_v1.2.2.1.2.1 v1.2.2.1.2.length x_v1.2.2.1.2.2] dR ty77 rfl (by decide) (by decide) (by kernel_rfl)) okNil)) (w_p rfl (cB fa32_0 rfl rfl) ?_))
  refine w_o rfl (fun F => (bI ty29 rfl (hs2.app F) rfl)) (w_p rfl (cB fa111_1 rfl rfl) ?_)
  refine w_o rfl (fun F => (bI ty3 rfl (hs1.app F) rfl)) (w_p rfl (cB fa111_2 rfl rfl) ?_)
  refine w_o (v := .agg #[.slice x_v1.2.2.1.1.1 v1.2.2.1.1.length x_v1.2.2.1.1.2, .slice x_v1.2.2.1.2.1 v1.2.2.1.2.length x_v1.2.2.1.2.2]) rfl (fun F => (q_ldbP [.slice x_v1.2.2.1.1.1 v1.2.2.1.1.length x_v1.2.2.1.1.2, .slice x_v1.2.2.1.2.1 v1.2.2.1.2.length x_v1.2.2.1.2.2] ty75 rfl (hs1.app F) rfl rfl)) (w_p (v := .agg #[.int .i64 (v1.2.1), .slice x_v1.2.2.1.1.1 v1.2.2.1.1.length x_v1.2.2.1.1.2, .slice x_v1.2.2.1.2.1 v1.2.2.1.2.length x_v1.2.2.1.2.2]) rfl (p_buildS (vs := [(0, .int .i64 (v1.2.1)), (1, .agg #[.slice x_v1.2.2.1.1.1 v1.2.2.1.1.length x_v1.2.2.1.1.2, .slice x_v1.2.2.1.2.1 v1.2.2.1.2.length x_v1.2.2.1.2.2])]) (cs := #[.int .i64 (v1.2.1), .slice x_v1.2.2.1.1.1 v1.2.2.1.1.length x_v1.2.2.1.1.2, .slice x_v1.2.2.1.2.1 v1.2.2.1.2.length x_v1.2.2.1.2.2]) ty77 pl77 rfl rfl) ?_)
  refine w_fr (z := ⟨0, [], fun g => .slice (some ⟨g, 0, none⟩) ([] : List File).length 0, fun g => row (.slice (some ⟨g, 0, none⟩) ([] : List File).length 0) ([] : List File)⟩) (.head _) rfl rfl (by decide) (cO (.inl rfl) (cO (.inr (.inr ⟨rfl, trivial⟩)) cN)) trivial ?_; intro g9
  refine gdo H fun h12 H => (cJ rfl (by decide) rfl (cO (.inl rfl) (cO (.inr (.inr ⟨rfl, trivial⟩)) cN)) rfl (n_appR (l := ([] : List File)) (k := v0.1) (α := File) dR ty77 rfl rfl (h12.b (by decide)) h12.x (.cons aA .nil) (aS aR.s.s.s)) ?_)
  rintro _ _ _ ⟨a10, c11, rfl, rfl, rfl⟩
  refine ⟨(bV rfl rfl (fun F => (q_ldbP [.slice x_v1.2.2.1.1.1 v1.2.2.1.1.length x_v1.2.2.1.1.2, .slice x_v1.2.2.1.2.1 v1.2.2.1.2.length x_v1.2.2.1.2.2] ty75 rfl (hs2.app F) rfl rfl)) (bV rfl rfl (fun F => (bI ty3 rfl (hs2.app F) rfl)) (aM (by kernel_rfl) bU))), ?_⟩
  refine w_fr (z := ⟨9, [(18, .agg #[.int .i64 (v1.2.1), .slice x_v1.2.2.1.1.1 v1.2.2.1.1.length x_v1.2.2.1.1.2, .slice x_v1.2.2.1.2.1 v1.2.2.1.2.length x_v1.2.2.1.2.2])], fun g => .slice (some ⟨g, 0, none⟩) 1 1, fun g => box g 77 [.int .i64 (v1.2.1), .slice x_v1.2.2.1.1.1 v1.2.2.1.1.length x_v1.2.2.1.1.2, .slice x_v1.2.2.1.2.1 v1.2.2.1.2.length x_v1.2.2.1.2.2]⟩) (.tail _ (.head _)) rfl rfl (by decide) (cO (.inl rfl) (cO (.inl rfl) cN)) ⟨rfl, trivial⟩ ?_; intro g13
  refine gdo H fun h16 H => (cJ rfl (by decide) rfl (cO (.inl rfl) (cO (.inl rfl) cN)) rfl (n_app1R (l := (([] : List File) ++ v0.1)) (α := File) (v1.2.1, v1.2.2.1) ((), x_v1.2.2.1) dR ty77 rfl rfl (h16.b (by decide)) h16.x rfl (.cons dl1 (.cons aA .nil)) (cL aR.s.s.s.s.s.s.s (cL (aS aR.s) cM))) ?_)
  rintro _ _ _ ⟨a14, c15, rfl, rfl, rfl⟩
  refine ⟨(bV rfl rfl (fun F => (q_ldbP [.slice x_v1.2.2.1.1.1 v1.2.2.1.1.length x_v1.2.2.1.1.2, .slice x_v1.2.2.1.2.1 v1.2.2.1.2.length x_v1.2.2.1.2.2] ty75 rfl (hs2.app F) rfl rfl)) (bV rfl rfl (fun F => (bI ty3 rfl (hs2.app F) rfl)) (aM (by kernel_rfl) bU))), ?_⟩
  refine w_p rfl (cB fa32_0 rfl rfl) (w_en rfl rfl (cO (.inl rfl) (cO (.inl rfl) cN)) rfl (n_store (cs' := [.slice a14 (((([] : List File) ++ v0.1) ++ [(v1.2.1, v1.2.2.1)]).length) c15, .slice x_v0.2.1.1 v0.2.1.length x_v0.2.1.2, .slice x_v0.2.2.1.1 v0.2.2.1.length x_v0.2.2.1.2, .int .i64 (v0.2.2.2)]) ty29 rfl rfl up3 rfl (one_of rfl) (Nat.le_of_ble_eq_true rfl) rfl) ?_)
  rintro _ _ _ ⟨rfl, rfl, rfl⟩
  refine ⟨(aM (by kernel_rfl) (aM (by kernel_rfl) (aM (by kernel_rfl) bU))), ?_⟩
  refine cK (nT (aP (aG (cB fa111_1 rfl rfl) (aI (bI ty3 rfl hs2 rfl) (aG (v := .int .i64 (wr64 (v1.2.1 + 1))) (p_addW rfl rfl) (aG (cB fa32_3 rfl rfl) (stb (cs' := [.slice a14 (((([] : List File) ++ v0.1) ++ [(v1.2.1, v1.2.2.1)]).length) c15, .slice x_v0.2.1.1 v0.2.1.length x_v0.2.1.2, .slice x_v0.2.2.1.1 v0.2.2.1.length x_v0.2.2.1.2, .int .i64 (wr64 (v1.2.1 + 1))]) ty3 up3 (aJ (nB (nT (?_)))))))))))
  refine sr (aI (bJ ty32 rfl hs3 rfl) (stb (cs' := [.slice a14 (((([] : List File) ++ v0.1) ++ [(v1.2.1, v1.2.2.1)]).length) c15, .slice x_v0.2.1.1 v0.2.1.length x_v0.2.1.2, .slice x_v0.2.2.1.1 v0.2.2.1.length x_v0.2.2.1.2, .int .i64 (wr64 (v1.2.1 + 1))]) ty32 up1 (nl (Tr.freezeR (.cons aA .nil) (bQ ?_)))))
  obtain rfl := si H
  exact back1 ((a14, c15), x_v0.2.1, x_v0.2.2.1, ()) rfl (ResV.agg ty32 rfl aB rfl) rfl (cL aR (cL aR.s.s.s.s.s.s (cL (aS aR.s.s.s) cM))) bK
 ·refine sr (aG (cS rfl rfl) (aH rfl (nl (cH H rfl (fun h17 H => ?_) (fun h17 H => ?_)))))
  ·refine sr (f2 (e_lit0 Int dP ty3) fun a18 c19 => (aG (cB fa111_3 rfl rfl) (aI (bI ty23 rfl hs2 rfl) (gdo H fun h22 H => (f2 (e_appF (l := ([] : List Int)) (k := v1.2.2.2.1) (α := Int) dP ty3 rfl rfl (h22.b (by decide)) h22.x (.cons aA .nil) (aL aR.s.s.s.s.s.s.s.s.s)) fun a20 c21 => (aG (cB fa32_1 rfl rfl) (stb (cs' := [.slice x_v0.1.1 v0.1.length x_v0.1.2, .slice a20 ((([] : List Int) ++ v1.2.2.2.1).length) c21, .slice x_v0.2.2.1.1 v0.2.2.1.length x_v0.2.2.1.2, .int .i64 (v0.2.2.2)]) ty23 up3 (nl (aP ?_)))))))))
   refine aG (cB fa111_4 rfl rfl) (aI (bI ty30 rfl hs2 rfl) (bdo H fun r23 h24 H => (f1 (cF (c_spec_l11Names v1.2.2.2.2 x_v1.2.2.2.2 h24) (fun _ => (bF bG)) rfl (aC (aL (aS aR)) aO)) fun x25 => (aG (cB fa32_2 rfl rfl) (stb (cs' := [.slice x_v0.1.1 v0.1.length x_v0.1.2, .slice a20 ((([] : List Int) ++ v1.2.2.2.1).length) c21, .slice x25.1 r23.length x25.2, .int .i64 (v0.2.2.2)]) ty30 up4 (aJ (nB (nT (sr (aI (bJ ty32 rfl hs4 rfl) ?_))))))))))
   refine stb (cs' := [.slice x_v0.1.1 v0.1.length x_v0.1.2, .slice a20 ((([] : List Int) ++ v1.2.2.2.1).length) c21, .slice x25.1 r23.length x25.2, .int .i64 (v0.2.2.2)]) ty32 up2 (nl (Tr.freeze (.cons dl1 .nil) (Tr.freeze (.cons aA .nil) (bQ ?_))))
   obtain rfl := si H
   exact back1 (x_v0.1, (a20, c21), x25, ()) rfl (ResV.agg ty32 rfl aB rfl) rfl (cL (aS aR.s.s.s.s.s) (cL aR.s (cL aR cM))) bK
  ·refine sr (aG (cS rfl rfl) (aH rfl (nl (cH H rfl (fun h26 H => ?_) (fun h26 H => ?_)))))
   ·refine sr (aI (bJ ty32 rfl hs2 rfl) (aG (cB fa111_1 rfl rfl) (aI (bI ty3 rfl hs1 rfl) (bdo H fun r27 h28 H => (aI (bN (c_spec_l21At v0 (x_v0.1, x_v0.2.1, x_v0.2.2.1, ()) v1.2.1 h28) rfl (aC (aL (aS aR.s.s.s)) (aC (aL aR.s.s.s.s.s) (aC (aL (aS aR.s.s)) aO)))) (aH rfl (nl (bdo H fun b29 j30 H => (dD [(51, .bool (b29)), (5, .int .i64 (r27)), (4, .pointer (some ⟨g7, 0, none⟩)), (2, .pointer (some ⟨g5, 0, none⟩))] ?_ ?_)))))))))
    ·refine dH [(5, .int .i64 (r27)), (4, .pointer (some ⟨g7, 0, none⟩)), (3, .pointer (some ⟨g6, 0, none⟩)), (2, .pointer (some ⟨g5, 0, none⟩))] ⟨rfl, rfl, rfl, rfl, trivial⟩ (bB rfl (aX (p_geq rfl rfl) ?_))
     rcases aK (decide (0 ≤ r27)) with h31 | h31
     ·have j30 := cdT h31 j30
      refine bC (aE rfl) h31 (bA rfl (bJ ty32 rfl hs2 rfl) (aY rfl (cB fa111_1 rfl rfl) (bA rfl (bI ty3 rfl hs1 rfl) (bdo j30 fun r32 h33 j30 => (bA rfl (bN (c_spec_l21Counts v0 (x_v0.1, x_v0.2.1, x_v0.2.2.1, ()) v1.2.1 h33) rfl (aC (aL (aS aR.s.s.s)) (aC (aL aR.s.s.s.s.s) (aC (aL (aS aR.s.s)) aO)))) (aY rfl (cV rfl) (aX (bP rfl rfl) ?_)))))))
      obtain rfl := si j30
      show At _ _ _ _ _ _
      exact n1 ⟨rfl, rfl, rfl, rfl, trivial⟩
     ·have j30 := cdF h31 j30
      refine bC (aE rfl) h31 ?_
      iterate 5 refine bE rfl ?_
      refine aX (v := .bool (false)) (bO rfl rfl) ?_
      obtain rfl := si j30
      show At _ _ _ _ _ _
      exact n1 ⟨rfl, rfl, rfl, rfl, trivial⟩
    refine cH H rfl (fun h34 H => ?_) (fun h34 H => ?_)
    ·refine dG [(5, .int .i64 (r27)), (4, .pointer (some ⟨g7, 0, none⟩)), (2, .pointer (some ⟨g5, 0, none⟩))] 2 [1, 2, 3, 4, 6, 7, 8, 9, 10, 0, 5, 11, 12, 13] [0, 5, 11, 13] [] mixed (by kernel_rfl) (by decide) dI ⟨rfl, rfl, rfl, trivial⟩ rfl okNil (w_p rfl (cB fa32_0 rfl rfl) ?_)
     refine w_o rfl (fun F => (bI ty29 rfl (hs2.app F) rfl)) (w_p rfl (aE rfl) (gdo H fun h35 H => ?_))
     refine w_o (v := .slice (subA x_v0.1.1 x_v0.1.2 0 (Enc.sz File)) (((v0.1.take r27.toNat).drop 0).length) (x_v0.1.2 - 0)) rfl (fun F => (q_slF (l := v0.1) (α := File) 0 r27 dR ty77 rfl rfl (fun _ => rfl) rfl (fun h => nomatch h) h35 (aL (aS aR.s.s.s)))) (w_p rfl (cB fa32_0 rfl rfl) ?_)
     refine w_o rfl (fun F => (bI ty29 rfl (hs2.app F) rfl)) (w_p rfl (aE rfl) (gdo H fun h36 H => (w_p rfl (bR rfl rfl h36) (gdo H fun h37 H => ?_))))
     refine w_o (v := .slice (subA x_v0.1.1 x_v0.1.2 (r27 + 1).toNat (Enc.sz File)) (((v0.1.take (v0.1.length : Int).toNat).drop (r27 + 1).toNat).length) (x_v0.1.2 - (r27 + 1).toNat)) rfl (fun F => (q_slF (l := v0.1) (α := File) (r27 + 1) (v0.1.length : Int) dR ty77 rfl rfl (fun h => nomatch h) rfl (fun _ => rfl) h37 (aL (aS aR.s.s.s)))) (cJ rfl (by decide) rfl cN rfl (n_lit0r File dR ty77) ?_)
     rintro _ _ _ ⟨a38, c39, rfl, rfl, rfl⟩
     refine ⟨(bV rfl rfl (fun F => (q_slF (l := v0.1) (α := File) (r27 + 1) (v0.1.length : Int) dR ty77 rfl rfl (fun h => nomatch h) rfl (fun _ => rfl) h37 (aL (aS aR.s.s.s)))) (bV rfl rfl (fun F => (bI ty29 rfl (hs3.app F) rfl)) (bV rfl rfl (fun F => (q_slF (l := v0.1) (α := File) 0 r27 dR ty77 rfl rfl (fun _ => rfl) rfl (fun h => nomatch h) h35 (aL (aS aR.s.s.s)))) (bV rfl rfl (fun F => (bI ty29 rfl (hs3.app F) rfl)) bU)))), ?_⟩
     refine gdo H fun h42 H => (cJ rfl (by decide) rfl cN rfl (n_appR (l := ([] : List File)) (k := ((v0.1.take r27.toNat).drop 0)) (α := File) dR ty77 rfl rfl (h42.b (by decide)) h42.x (.cons aA .nil) (Ent.sub (aS aR.s.s.s) h35.le h35.lt)) ?_)
     rintro _ _ _ ⟨a40, c41, rfl, rfl, rfl⟩
     refine ⟨(bV rfl rfl (fun F => (q_slF (l := v0.1) (α := File) (r27 + 1) (v0.1.length : Int) dR ty77 rfl rfl (fun h => nomatch h) rfl (fun _ => rfl) h37 (aL (aS aR.s.s.s)))) (bV rfl rfl (fun F => (bI ty29 rfl (hs3.app F) rfl)) (aM (by kernel_rfl) (aM (by kernel_rfl) bU)))), ?_⟩
     refine gdo H fun h45 H => (cJ rfl (by decide) rfl cN rfl (n_appR (l := (([] : List File) ++ ((v0.1.take r27.toNat).drop 0))) (k := ((v0.1.take (v0.1.length : Int).toNat).drop (r27 + 1).toNat)) (α := File) dR ty77 rfl rfl (h45.b (by decide)) h45.x (.cons aA .nil) (Ent.sub (aS aR.s.s.s) h37.le h37.lt)) ?_)
     rintro _ _ _ ⟨a43, c44, rfl, rfl, rfl⟩
     refine ⟨(aM (by kernel_rfl) (aM (by kernel_rfl) (aM (by kernel_rfl) (bV rfl rfl (fun F => (bI ty29 rfl (hs3.app F) rfl)) bU)))), ?_⟩
     refine w_p rfl (cB fa32_0 rfl rfl) (w_en rfl rfl cN rfl (n_store (cs' := [.slice a43 (((([] : List File) ++ ((v0.1.take r27.toNat).drop 0)) ++ ((v0.1.take (v0.1.length : Int).toNat).drop (r27 + 1).toNat)).length) c44, .slice x_v0.2.1.1 v0.2.1.length x_v0.2.1.2, .slice x_v0.2.2.1.1 v0.2.2.1.length x_v0.2.2.1.2, .int .i64 (v0.2.2.2)]) ty29 rfl rfl up3 rfl (one_of rfl) (Nat.le_of_ble_eq_true rfl) rfl) ?_)
     rintro _ _ _ ⟨rfl, rfl, rfl⟩
     refine ⟨(aM (by kernel_rfl) (aM (by kernel_rfl) (aM (by kernel_rfl) (aM (by kernel_rfl) bU)))), ?_⟩
     refine cK ?_
     show At _ _ _ _ _ _
     refine nB (nT (sr (aI (bJ ty32 rfl hs3 rfl) (stb (cs' := [.slice a43 (((([] : List File) ++ ((v0.1.take r27.toNat).drop 0)) ++ ((v0.1.take (v0.1.length : Int).toNat).drop (r27 + 1).toNat)).length) c44, .slice x_v0.2.1.1 v0.2.1.length x_v0.2.1.2, .slice x_v0.2.2.1.1 v0.2.2.1.length x_v0.2.2.1.2, .int .i64 (v0.2.2.2)]) ty32 up1 (nl (Tr.freezeR (.cons aA .nil) (bQ ?_)))))))
     obtain rfl := si H
     exact back1 ((a43, c44), x_v0.2.1, x_v0.2.2.1, ()) rfl (ResV.agg ty32 rfl aB rfl) rfl (cL aR (cL aR.s.s.s.s.s.s (cL (aS aR.s.s.s) cM))) bK
    ·refine bH (nB (nT (sr (aI (bJ ty32 rfl hs2 rfl) (stb (cs' := [.slice x_v0.1.1 v0.1.length x_v0.1.2, .slice x_v0.2.1.1 v0.2.1.length x_v0.2.1.2, .slice x_v0.2.2.1.1 v0.2.2.1.length x_v0.2.2.1.2, .int .i64 (v0.2.2.2)]) ty32 cZ (nl (bQ ?_)))))))
     obtain rfl := si H
     exact back1 (x_v0.1, x_v0.2.1, x_v0.2.2.1, ()) rfl (ResV.agg ty32 rfl aB rfl) rfl (cL (aS aR.s.s.s) (cL aR.s.s.s.s.s (cL (aS aR.s.s) cM))) bK
   ·refine bH (nB (nT (sr (aI (bJ ty32 rfl hs2 rfl) (stb (cs' := [.slice x_v0.1.1 v0.1.length x_v0.1.2, .slice x_v0.2.1.1 v0.2.1.length x_v0.2.1.2, .slice x_v0.2.2.1.1 v0.2.2.1.length x_v0.2.2.1.2, .int .i64 (v0.2.2.2)]) ty32 cZ (nl (bQ ?_)))))))
    obtain rfl := si H
    exact back1 (x_v0.1, x_v0.2.1, x_v0.2.2.1, ()) rfl (ResV.agg ty32 rfl aB rfl) rfl (cL (aS aR.s.s.s) (cL aR.s.s.s.s.s (cL (aS aR.s.s) cM))) bK
noncomputable def p_spec_l21To_b0 (v1 : (List Step)) (v2 : Int) (Q10 : (List File) × (List Int) × (List (List Tag)) × Int × Int) : Option (((List File) × (List Int) × (List (List Tag)) × Int × Int) ⊕ ((List File) × (List Int) × (List (List Tag)) × Int)) := bd (cond (decide (Q10.2.2.2.2 < (v1.length : Int))) (some (decide (Q10.2.2.2.2 < v2))) (some (false))) fun b18 => cond (b18) (gd (ix Q10.2.2.2.2 v1.length) <| bd (p_spec_l21Do (Q10.1, Q10.2.1, Q10.2.2.1, Q10.2.2.2.1) (nth v1 Q10.2.2.2.2.toNat)) fun r23 => gd (I64 (Q10.2.2.2.2 + 1)) <| some (.inl (r23.1, r23.2.1, r23.2.2.1, r23.2.2.2, Q10.2.2.2.2 + 1))) (some (.inr (Q10.1, Q10.2.1, Q10.2.2.1, Q10.2.2.2.1)))
noncomputable def p_spec_l21To (v0 : Disk) (v1 : (List Step)) (v2 : Int) : Option (Disk) := bd (lp (p_spec_l21To_b0 v1 v2) (v0.1, v0.2.1, v0.2.2.1, v0.2.2.2, 0)) fun x6 => some x6
theorem c_spec_l21To {r : Disk} (v0 : Disk) (x_v0 : (Option Addr × Nat) × (Option Addr × Nat) × (Option Addr × Nat) × Unit) (v1 : (List Step)) (x_v1 : Option Addr × Nat) (v2 : Int) (H : p_spec_l21To v0 v1 v2 = some r) : Fn' prog 95 #[.agg #[.slice x_v0.1.1 v0.1.length x_v0.1.2, .slice x_v0.2.1.1 v0.2.1.length x_v0.2.1.2, .slice x_v0.2.2.1.1 v0.2.2.1.length x_v0.2.2.1.2, .int .i64 (v0.2.2.2)], .slice x_v1.1 v1.length x_v1.2, .int .i64 (v2)] [imm (.slice x_v0.1.1 v0.1.length x_v0.1.2) v0.1, imm (.slice x_v0.2.1.1 v0.2.1.length x_v0.2.1.2) v0.2.1, imm (.slice x_v0.2.2.1.1 v0.2.2.1.length x_v0.2.2.1.2) v0.2.2.1, imm (.slice x_v1.1 v1.length x_v1.2) v1] [] (ι := (Option Addr × Nat) × (Option Addr × Nat) × (Option Addr × Nat) × Unit) (fun x => .agg #[.slice x.1.1 r.1.length x.1.2, .slice x.2.1.1 r.2.1.length x.2.1.2, .slice x.2.2.1.1 r.2.2.1.length x.2.2.1.2, .int .i64 (r.2.2.2)]) (fun x => [imm (.slice x.1.1 r.1.length x.1.2) r.1, imm (.slice x.2.1.1 r.2.1.length x.2.1.2) r.2.1, imm (.slice x.2.2.1.1 r.2.2.1.length x.2.2.1.2) r.2.2.1]) (fun _ => []) := by
 refine cof (args := [_, _, _]) func95 ntmps95 fun c => ?_
 unfold p_spec_l21To at H
 refine bM aR fun X1 => (bM aR.s.s.s fun X2 => (bM aR.s.s.s.s.s fun X3 => (sr (f1 (cC (t := 32) rfl) fun g4 => (f1 (cD ty32) fun g5 => (nl (aD (sr (aH (v := .int .i64 (0)) rfl (nl (bdo H fun x6 hx7 H => ?_)))))))))))
 obtain ⟨n8, hx7⟩ := lp.of hx7
 refine tMidNF (ι := (Option Addr × Nat) × (Option Addr × Nat) × (Option Addr × Nat)) (fun ψ => [(3, .pointer (some ⟨g4, 0, none⟩)), (6, .pointer (some ⟨g5, 0, none⟩))]) (fun ψ => [imm (.slice ψ.1.1 x6.1.length ψ.1.2) x6.1, imm (.slice ψ.2.1.1 x6.2.1.length ψ.2.1.2) x6.2.1, imm (.slice ψ.2.2.1 x6.2.2.1.length ψ.2.2.2) x6.2.2.1]) (fun ψ => [box g4 32 [.slice ψ.1.1 x6.1.length ψ.1.2, .slice ψ.2.1.1 x6.2.1.length ψ.2.1.2, .slice ψ.2.2.1 x6.2.2.1.length ψ.2.2.2, .int .i64 (x6.2.2.2)], box g5 32 [.slice none 0 0, .slice none 0 0, .slice none 0 0, .int .i64 (0)]]) ?_ ?_
 ·refine aQ (tLoopF (ι := { q : Nat × ((List File) × (List Int) × (List (List Tag)) × Int × Int) × ((Option Addr × Nat) × (Option Addr × Nat) × (Option Addr × Nat)) // itr (p_spec_l21To_b0 v1 v2) q.1 q.2.1 = some x6 }) (fun ζ => [(1, .slice x_v1.1 v1.length x_v1.2), (2, .int .i64 (v2)), (3, .pointer (some ⟨g4, 0, none⟩)), (6, .pointer (some ⟨g5, 0, none⟩)), (7, .int .i64 (ζ.1.2.1.2.2.2.2))]) (fun ζ => [imm (.slice ζ.1.2.2.1.1 ζ.1.2.1.1.length ζ.1.2.2.1.2) ζ.1.2.1.1, imm (.slice ζ.1.2.2.2.1.1 ζ.1.2.1.2.1.length ζ.1.2.2.2.1.2) ζ.1.2.1.2.1, imm (.slice ζ.1.2.2.2.2.1 ζ.1.2.1.2.2.1.length ζ.1.2.2.2.2.2) ζ.1.2.1.2.2.1]) (fun ζ => [box g4 32 [.slice ζ.1.2.2.1.1 ζ.1.2.1.1.length ζ.1.2.2.1.2, .slice ζ.1.2.2.2.1.1 ζ.1.2.1.2.1.length ζ.1.2.2.2.1.2, .slice ζ.1.2.2.2.2.1 ζ.1.2.1.2.2.1.length ζ.1.2.2.2.2.2, .int .i64 (ζ.1.2.1.2.2.2.1)], box g5 32 [.slice none 0 0, .slice none 0 0, .slice none 0 0, .int .i64 (0)]]) (fun ζ => ζ.1.1) ⟨(n8, (v0.1, v0.2.1, v0.2.2.1, v0.2.2.2, 0), ((x_v0.1.1, x_v0.1.2), (x_v0.2.1.1, x_v0.2.1.2), (x_v0.2.2.1.1, x_v0.2.2.1.2))), hx7⟩ ⟨rfl, rfl, rfl, rfl, rfl, trivial⟩ (cL (aS aR.s.s) (cL aR.s.s.s.s (cL (aS aR.s) cM))) (.cons dl1 (.cons aA .nil)) ?_)
  rintro ⟨⟨m9, Q10, z11⟩, hk16⟩
  obtain ⟨m17, t13, e, H1, hi14, hb15⟩ := itr.of (n := m9) (s := Q10) hk16
  subst e; unfold p_spec_l21To_b0 at H1
  show Tr _ _ _ _ _ [(1, .slice x_v1.1 v1.length x_v1.2), (2, .int .i64 (v2)), (3, .pointer (some ⟨g4, 0, none⟩)), (6, .pointer (some ⟨g5, 0, none⟩)), (7, .int .i64 (Q10.2.2.2.2))] (imm (.slice z11.1.1 Q10.1.length z11.1.2) Q10.1 :: imm (.slice z11.2.1.1 Q10.2.1.length z11.2.1.2) Q10.2.1 :: imm (.slice z11.2.2.1 Q10.2.2.1.length z11.2.2.2) Q10.2.2.1 :: _) [box g4 32 [.slice z11.1.1 Q10.1.length z11.1.2, .slice z11.2.1.1 Q10.2.1.length z11.2.1.2, .slice z11.2.2.1 Q10.2.2.1.length z11.2.2.2, .int .i64 (Q10.2.2.2.1)], box g5 32 [.slice none 0 0, .slice none 0 0, .slice none 0 0, .int .i64 (0)]]
  refine aD (bdo H1 fun b18 j19 H1 => (dD [(16, .bool (b18)), (1, .slice x_v1.1 v1.length x_v1.2), (2, .int .i64 (v2)), (3, .pointer (some ⟨g4, 0, none⟩)), (6, .pointer (some ⟨g5, 0, none⟩)), (7, .int .i64 (Q10.2.2.2.2))] ?_ ?_))
  ·refine dH [(1, .slice x_v1.1 v1.length x_v1.2), (2, .int .i64 (v2)), (3, .pointer (some ⟨g4, 0, none⟩)), (6, .pointer (some ⟨g5, 0, none⟩)), (7, .int .i64 (Q10.2.2.2.2))] ⟨rfl, rfl, rfl, rfl, rfl, trivial⟩ (bB rfl (bB rfl (aX (bS 111 dW rfl) (aX (cP rfl rfl) ?_))))
   rcases aK (decide (Q10.2.2.2.2 < (v1.length : Int))) with h20 | h20
   ·have j19 := cdT h20 j19
    refine bC (aE rfl) h20 (aY rfl (aE rfl) (aY rfl (aE rfl) (aY rfl (cP rfl rfl) (aX (bP rfl rfl) ?_))))
    obtain rfl := si j19
    show At _ _ _ _ _ _
    exact n1 ⟨rfl, rfl, rfl, rfl, rfl, rfl, trivial⟩
   ·have j19 := cdF h20 j19
    refine bC (aE rfl) h20 ?_
    iterate 3 refine bE rfl ?_
    refine aX (v := .bool (false)) (bO rfl rfl) ?_
    obtain rfl := si j19
    show At _ _ _ _ _ _
    exact n1 ⟨rfl, rfl, rfl, rfl, rfl, rfl, trivial⟩
  refine cH H1 rfl (fun h21 H1 => ?_) (fun h21 H1 => ?_)
  ·refine bH (nT (aD (aQ (dG [(1, .slice x_v1.1 v1.length x_v1.2), (2, .int .i64 (v2)), (3, .pointer (some ⟨g4, 0, none⟩)), (6, .pointer (some ⟨g5, 0, none⟩)), (7, .int .i64 (Q10.2.2.2.2))] 1 [0, 1, 2, 3, 4, 5, 6] [5, 6] [] mixed (by kernel_rfl) (by decide) dI ⟨rfl, rfl, rfl, rfl, rfl, trivial⟩ rfl okNil ?_))))
   refine w_o rfl (fun F => (bJ ty32 rfl (aB.app F) rfl)) (w_p rfl (aE rfl) (w_p rfl (aE rfl) (gdo H1 fun h22 H1 => ?_)))
   refine w_o rfl (fun F => (bW dW ty111 rfl rfl h22 rfl (aL (aT aR.s.s.s)))) ?_
   refine w_o (v := .agg #[.int .i64 ((nth v1 Q10.2.2.2.2.toNat).1), .int .i64 ((nth v1 Q10.2.2.2.2.toNat).2.1), .slice ((((X3 Q10.2.2.2.2.toNat).2.2.1).1).1) ((((nth v1 Q10.2.2.2.2.toNat).2.2.1).1).length) ((((X3 Q10.2.2.2.2.toNat).2.2.1).1).2.1), .slice ((((X3 Q10.2.2.2.2.toNat).2.2.1).2).1) ((((nth v1 Q10.2.2.2.2.toNat).2.2.1).2).length) ((((X3 Q10.2.2.2.2.toNat).2.2.1).2).2.1), .slice (((X3 Q10.2.2.2.2.toNat).2.2.2.1).1) (((nth v1 Q10.2.2.2.2.toNat).2.2.2.1).length) (((X3 Q10.2.2.2.2.toNat).2.2.2.1).2.1), .slice (((X3 Q10.2.2.2.2.toNat).2.2.2.2).1) (((nth v1 Q10.2.2.2.2.toNat).2.2.2.2).length) (((X3 Q10.2.2.2.2.toNat).2.2.2.2).2.1)]) rfl (fun F => (cA (i := Q10.2.2.2.2.toNat) ty111 rfl (aL (aT aR.s.s.s)) h22.lt)) (bdo H1 fun r23 h24 H1 => (cJ rfl (by decide) rfl cN rfl (n_call (c_spec_l21Do (Q10.1, Q10.2.1, Q10.2.2.1, Q10.2.2.2.1) (z11.1, z11.2.1, z11.2.2, ()) (nth v1 Q10.2.2.2.2.toNat) ((), (), (((((X3 Q10.2.2.2.2.toNat).2.2.1).1).1, (((X3 Q10.2.2.2.2.toNat).2.2.1).1).2.1), ((((X3 Q10.2.2.2.2.toNat).2.2.1).2).1, (((X3 Q10.2.2.2.2.toNat).2.2.1).2).2.1)), (((X3 Q10.2.2.2.2.toNat).2.2.2.1).1, ((X3 Q10.2.2.2.2.toNat).2.2.2.1).2.1), (((X3 Q10.2.2.2.2.toNat).2.2.2.2).1, ((X3 Q10.2.2.2.2.toNat).2.2.2.2).2.1)) h24) rfl (cL aR (cL aR.s (cL aR.s.s (cL (aS (aV (aV (aU (aU (aW aR.s.s.s h22.lt)))))) (cL (aS (aU (aV (aU (aU (aW aR.s.s.s h22.lt)))))) (cL (aS (aV (aU (aU (aU (aW aR.s.s.s h22.lt)))))) (cL (aS (aU (aU (aU (aU (aW aR.s.s.s h22.lt)))))) cM))))))) bK) ?_))
   rintro _ _ _ ⟨x25, rfl, rfl, rfl⟩
   refine ⟨(aM (by kernel_rfl) (bV rfl rfl (fun F => (bW dW ty111 rfl rfl h22 rfl (aL (aT aR.s.s.s.s.s.s)))) (aM (by kernel_rfl) bU))), ?_⟩
   refine w_en rfl rfl cN rfl (n_store (cs' := [.slice x25.1.1 r23.1.length x25.1.2, .slice x25.2.1.1 r23.2.1.length x25.2.1.2, .slice x25.2.2.1.1 r23.2.2.1.length x25.2.2.1.2, .int .i64 (r23.2.2.2)]) ty32 rfl rfl cZ rfl (one_of rfl) (Nat.le_of_ble_eq_true rfl) rfl) ?_
   rintro _ _ _ ⟨rfl, rfl, rfl⟩
   refine ⟨(aM (by kernel_rfl) (aM (by kernel_rfl) (aM (by kernel_rfl) bU))), ?_⟩
   refine cK ?_
   show At _ _ _ _ _ _
   exact nB (nT (aP (aF rfl (gdo H1 fun h26 H1 => (aG (bR rfl rfl h26) (aH rfl (aJ (nLF ⟨(m17, (r23.1, r23.2.1, r23.2.2.1, r23.2.2.2, Q10.2.2.2.2 + 1), ((x25.1.1, x25.1.2), (x25.2.1.1, x25.2.1.2), (x25.2.2.1.1, x25.2.2.1.2))), hi14 _ (sm H1)⟩ (Nat.lt_succ_self _) ⟨rfl, rfl, rfl, rfl, rfl, trivial⟩ (cL aR (cL aR.s (cL aR.s.s cM))) bT.s.s.s.s.s.s (.cons aA (.cons aA .nil))))))))))
  ·refine dA (xT (xT (xE (?_))))
   obtain rfl := hb15 _ (sm H1)
   exact nMF ((z11.1.1, z11.1.2), (z11.2.1.1, z11.2.1.2), (z11.2.2.1, z11.2.2.2)) ⟨rfl, rfl, trivial⟩ (cL aR (cL aR.s (cL aR.s.s cM))) bT.s.s.s (.cons aA (.cons aA .nil))
 ·intro y12
  show At _ _ [(3, .pointer (some ⟨g4, 0, none⟩)), (6, .pointer (some ⟨g5, 0, none⟩))] (imm (.slice y12.1.1 x6.1.length y12.1.2) x6.1 :: imm (.slice y12.2.1.1 x6.2.1.length y12.2.1.2) x6.2.1 :: imm (.slice y12.2.2.1 x6.2.2.1.length y12.2.2.2) x6.2.2.1 :: _) [box g4 32 [.slice y12.1.1 x6.1.length y12.1.2, .slice y12.2.1.1 x6.2.1.length y12.2.1.2, .slice y12.2.2.1 x6.2.2.1.length y12.2.2.2, .int .i64 (x6.2.2.2)], box g5 32 [.slice none 0 0, .slice none 0 0, .slice none 0 0, .int .i64 (0)]] _
  refine nT (sr (aI (bJ ty32 rfl aB rfl) (stb (cs' := [.slice y12.1.1 x6.1.length y12.1.2, .slice y12.2.1.1 x6.2.1.length y12.2.1.2, .slice y12.2.2.1 x6.2.2.1.length y12.2.2.2, .int .i64 (x6.2.2.2)]) ty32 up1 (nl (bQ ?_)))))
  obtain rfl := si H
  exact back1 (y12.1, y12.2.1, y12.2.2, ()) rfl (ResV.agg ty32 rfl hs1 rfl) rfl (cL aR (cL aR.s (cL aR.s.s cM))) bK
noncomputable def p_spec_DiskTo (v0 : Disk) (v1 : (List Step)) (v2 : Int) : Option (Disk) := bd (bd (p_spec_DiskOk v0) fun r8 => cond (!r8) (some (true)) (some (decide (v2 < 0)))) fun b6 => cond (b6) (some (([]), ([]), ([]), 0)) (bd (p_spec_l21Copy v0) fun r12 => bd (p_spec_l21To r12 v1 v2) fun r15 => bd (p_spec_DiskOk r15) fun r19 => cond (!r19) (some (([]), ([]), ([]), 0)) (bd (p_spec_l21Copy r15) fun r22 => some r22))
theorem c_spec_DiskTo {r : Disk} (v0 : Disk) (x_v0 : (Option Addr × Nat) × (Option Addr × Nat) × (Option Addr × Nat) × Unit) (v1 : (List Step)) (x_v1 : Option Addr × Nat) (v2 : Int) (H : p_spec_DiskTo v0 v1 v2 = some r) : Fn' prog 33 #[.agg #[.slice x_v0.1.1 v0.1.length x_v0.1.2, .slice x_v0.2.1.1 v0.2.1.length x_v0.2.1.2, .slice x_v0.2.2.1.1 v0.2.2.1.length x_v0.2.2.1.2, .int .i64 (v0.2.2.2)], .slice x_v1.1 v1.length x_v1.2, .int .i64 (v2)] [imm (.slice x_v0.1.1 v0.1.length x_v0.1.2) v0.1, imm (.slice x_v0.2.1.1 v0.2.1.length x_v0.2.1.2) v0.2.1, imm (.slice x_v0.2.2.1.1 v0.2.2.1.length x_v0.2.2.1.2) v0.2.2.1, imm (.slice x_v1.1 v1.length x_v1.2) v1] [] (ι := (Option Addr × Nat) × (Option Addr × Nat) × (Option Addr × Nat) × Unit) (fun x => .agg #[.slice x.1.1 r.1.length x.1.2, .slice x.2.1.1 r.2.1.length x.2.1.2, .slice x.2.2.1.1 r.2.2.1.length x.2.2.1.2, .int .i64 (r.2.2.2)]) (fun x => [imm (.slice x.1.1 r.1.length x.1.2) r.1, imm (.slice x.2.1.1 r.2.1.length x.2.1.2) r.2.1, imm (.slice x.2.2.1.1 r.2.2.1.length x.2.2.1.2) r.2.2.1]) (fun _ => []) := by
 refine cof (args := [_, _, _]) func33 ntmps33 fun c => ?_
 unfold p_spec_DiskTo at H
 refine bM aR fun X1 => (bM aR.s.s.s fun X2 => (bM aR.s.s.s.s.s fun X3 => (sr (f1 (cC (t := 32) rfl) fun g4 => (f1 (cD ty32) fun g5 => (nl (aD (bdo H fun b6 j7 H => (dD [(14, .bool (b6)), (6, .pointer (some ⟨g5, 0, none⟩)), (3, .pointer (some ⟨g4, 0, none⟩)), (1, .slice x_v1.1 v1.length x_v1.2), (2, .int .i64 (v2))] ?_ ?_)))))))))
 ·refine dH [(6, .pointer (some ⟨g5, 0, none⟩)), (3, .pointer (some ⟨g4, 0, none⟩)), (1, .slice x_v1.1 v1.length x_v1.2), (2, .int .i64 (v2))] ⟨rfl, rfl, rfl, rfl, trivial⟩ (aZ (bJ ty32 rfl hs1 rfl) (bdo j7 fun r8 h9 j7 => (aZ (bN (c_spec_DiskOk v0 (x_v0.1, x_v0.2.1, x_v0.2.2.1, ()) h9) rfl (aC (aL (aS aR.s.s)) (aC (aL aR.s.s.s.s) (aC (aL (aS aR.s)) aO)))) (aX (cV rfl) ?_))))
  rcases aK (!r8) with h10 | h10
  ·have j7 := cdT h10 j7
   refine bC (aE rfl) h10 ?_
   iterate 2 refine bE rfl ?_
   refine aX (v := .bool (true)) (bP rfl rfl) ?_
   obtain rfl := si j7
   show At _ _ _ _ _ _
   exact n1 ⟨rfl, rfl, rfl, rfl, rfl, trivial⟩
  ·have j7 := cdF h10 j7
   refine bC (aE rfl) h10 (aY rfl (aE rfl) (aY rfl (cP rfl rfl) (aX (bO rfl rfl) ?_)))
   obtain rfl := si j7
   show At _ _ _ _ _ _
   exact n1 ⟨rfl, rfl, rfl, rfl, rfl, trivial⟩
 refine cH H rfl (fun h11 H => ?_) (fun h11 H => ?_)
 ·refine sr (aG (v := .agg #[.slice none 0 0, .slice none 0 0, .slice none 0 0, .int .i64 (0)]) (p_buildS (vs := []) (cs := #[.slice none 0 0, .slice none 0 0, .slice none 0 0, .int .i64 (0)]) ty32 pl32 rfl rfl) (stb (cs' := [.slice none 0 0, .slice none 0 0, .slice none 0 0, .int .i64 (0)]) ty32 cZ (nl (bQ (rT (?_))))))
  obtain rfl := si H
  exact back1 ((none, 0), (none, 0), (none, 0), ()) rfl (ResV.agg ty32 rfl aB rfl) rfl (cL Ent.nil0 (cL Ent.nil0 (cL Ent.nil0 cM))) bK
 ·refine bH (nT (sr (aI (bJ ty32 rfl hs1 rfl) (bdo H fun r12 h13 H => (f1 (e_call (FnL'.frz (FnL'.frz (FnL'.frz (c_spec_l21Copy v0 (x_v0.1, x_v0.2.1, x_v0.2.2.1, ()) h13)))) rfl (cL (aS aR.s.s) (cL aR.s.s.s.s (cL (aS aR.s) cM))) bK) fun x14 => (aF rfl (aF rfl (bdo H fun r15 h16 H => (f1 (e_call (c_spec_l21To r12 (x14.1, x14.2.1, x14.2.2.1, ()) v1 x_v1 v2 h16) rfl (cL aR.s.s (cL aR.s (cL aR (cL (aS aR.s.s.s) cM)))) bK) fun x17 => ?_)))))))))
  refine f1 (cD ty32) fun g18 => (stb (cs' := [.slice x17.1.1 r15.1.length x17.1.2, .slice x17.2.1.1 r15.2.1.length x17.2.1.2, .slice x17.2.2.1.1 r15.2.2.1.length x17.2.2.1.2, .int .i64 (r15.2.2.2)]) ty32 cZ (nl (aD (sr (aI (bJ ty32 rfl aB rfl) (bdo H fun r19 h20 H => (aI (bN (c_spec_DiskOk r15 (x17.1, x17.2.1, x17.2.2.1, ()) h20) rfl (aC (aL aR) (aC (aL aR.s) (aC (aL aR.s.s) aO)))) (aG (cV rfl) (nl (cH H rfl (fun h21 H => ?_) (fun h21 H => ?_)))))))))))
  ·refine sr (aG (v := .agg #[.slice none 0 0, .slice none 0 0, .slice none 0 0, .int .i64 (0)]) (p_buildS (vs := []) (cs := #[.slice none 0 0, .slice none 0 0, .slice none 0 0, .int .i64 (0)]) ty32 pl32 rfl rfl) (stb (cs' := [.slice none 0 0, .slice none 0 0, .slice none 0 0, .int .i64 (0)]) ty32 up1 (nl (bQ (rT (?_))))))
   obtain rfl := si H
   exact back1 ((none, 0), (none, 0), (none, 0), ()) rfl (ResV.agg ty32 rfl hs1 rfl) rfl (cL Ent.nil0 (cL Ent.nil0 (cL Ent.nil0 cM))) bK
  ·refine bH (nT (sr (aI (bJ ty32 rfl aB rfl) (bdo H fun r22 h23 H => (f1 (cF (c_spec_l21Copy r15 (x17.1, x17.2.1, x17.2.2.1, ()) h23) (fun _ => (bF (bF (bF bG)))) rfl (aC (aL aR) (aC (aL aR.s) (aC (aL aR.s.s) aO)))) fun x24 => (stb (cs' := [.slice x24.1.1 r22.1.length x24.1.2, .slice x24.2.1.1 r22.2.1.length x24.2.1.2, .slice x24.2.2.1.1 r22.2.2.1.length x24.2.2.1.2, .int .i64 (r22.2.2.2)]) ty32 up4 (nl (Tr.freeze (.cons aA .nil) (Tr.freeze (.cons aA .nil) ?_)))))))))
   refine Tr.freeze (.cons aA .nil) (bQ ?_)
   obtain rfl := si H
   exact back1 (x24.1, x24.2.1, x24.2.2.1, ()) rfl (ResV.agg ty32 rfl hs1 rfl) rfl (cL aR.s.s (cL aR.s (cL aR cM))) bK
def p_slices_Delete_File_File (v0 : List File) (v1 v2 : Int) : Option (List File) := p_delete v0 v1 v2
theorem c_slices_Delete_File_File {r : (List File)} (v0 : (List File)) (x_v0 : Option Addr × Nat) (v1 v2 : Int) (H : p_slices_Delete_File_File v0 v1 v2 = some r) : Fn' prog 148 #[.slice x_v0.1 v0.length x_v0.2, .int .i64 (v1), .int .i64 (v2)] [] [tree (.slice x_v0.1 v0.length x_v0.2) v0] (ι := Option Addr × Nat) (fun x => .slice x.1 r.length x.2) (fun _ => []) (fun x => [tree (.slice x.1 r.length x.2) r]) := by
 refine cof (args := [_, _, _]) func148 ntmps148 fun c => ?_
 unfold p_slices_Delete_File_File p_delete at H
 obtain ⟨⟨h1, h2, h3⟩, H⟩ := gd.of H
 obtain ⟨oa, cp⟩ := x_v0
 obtain ⟨i, rfl⟩ := Int.eq_ofNat_of_zero_le h1
 obtain ⟨j, rfl⟩ := Int.eq_ofNat_of_zero_le (show 0 ≤ v2 by omega)
 have hij : i < j := Int.ofNat_lt.1 h2
 have hjn : j ≤ v0.length := Int.ofNat_le.1 h3
 have hr : v0.take i ++ v0.drop j = r := Option.some.inj H
 subst hr
 refine Tr.unE (.cons aA .nil) (by omega) fun g bt js q e1 _ b1 b2 eq hq hjs => ?_
 subst e1
 have hqn : q.length = v0.length := by rw [← eq, List.length_map]
 have b1 : v0.length ≤ cp := b1
 have hjs : v0.length * Enc.sz File + js.length = cp * Enc.sz File := hjs
 have hA : (qC (q.take i)).length = i * Enc.sz File := by rw [qC_len (n := Enc.sz File) _ fun p hp => (hq p (List.mem_of_mem_take hp)).1, List.length_take, hqn, Nat.min_eq_left (by omega)]
 have hB : (qC (q.drop j)).length = (v0.length - j) * Enc.sz File := by rw [qC_len (n := Enc.sz File) _ fun p hp => (hq p (List.mem_of_mem_drop hp)).1, List.length_drop, hqn]
 have hM : (qC ((q.drop i).take (j - i))).length = (j - i) * Enc.sz File := by rw [qC_len (n := Enc.sz File) _ fun p hp => (hq p (List.mem_of_mem_drop (List.mem_of_mem_take hp))).1, List.length_take, List.length_drop, hqn, Nat.min_eq_left (by omega)]
 have hqq : q = q.take i ++ ((q.drop i).take (j - i) ++ q.drop j) := del_cut q hij
 have hC : qC q = qC (q.take i) ++ (qC ((q.drop i).take (j - i)) ++ qC (q.drop j)) := by conv => lhs; rw [hqq, qC_app, qC_app]
 have o1 : ∀ v ∈ qC (q.drop j), v.oneCell' = true := fun v hv => by obtain ⟨x, hx, hv⟩ := List.mem_flatMap.1 hv; exact (hq x (List.mem_of_mem_drop hx)).2 v hv
 have m1 : i * Enc.sz File + (j - i) * Enc.sz File = j * Enc.sz File := by rw [← Nat.add_mul]; congr 1; omega
 have m2 : j * Enc.sz File + (v0.length - j) * Enc.sz File = v0.length * Enc.sz File := by rw [← Nat.add_mul]; congr 1; omega
 have m3 := Nat.mul_le_mul_right (Enc.sz File) b1
 have hl0 : (qC q ++ js).length = cp * Enc.sz File := by rw [List.length_append, hC, List.length_append, List.length_append, hA, hM, hB]; omega
 have hnews : qC (q.drop j) = ((qC q ++ js).drop (slO cp j (Enc.sz File))).take ((v0.length - j) * Enc.sz File) := by rw [hC]; exact del_src hA hM hB m1 (slO_or b1 hjn)
 refine sr (aH (v := .slice none 0 0) rfl (aJ (nT (sr (aF rfl (aF rfl (aF rfl (aF rfl (aG (bS 77 dR rfl) (aG (v := .slice (some ⟨g, i * Enc.sz File, none⟩) (j - i) (v0.length - i)) (p_sl3 i j dR (show TyI _ _ _ (Enc.sz File) _ _ from ty77) rfl rfl rfl rfl rfl rfl rfl hij hjn b1) (aJ ?_)))))))))))
 refine nT (aD (sr (aF rfl (aF rfl (aG (cS rfl rfl) (aJ (nT (Tr.cond (b := decide ((i : Int) = (j : Int))) rfl (fun h => absurd (of_decide_eq_true h) (by omega)) (fun _ => (bH (nT (sr ?_))))))))))))
 refine aF rfl (aG (bS 77 dR rfl) (aH rfl (aJ (nT (aD (tNwL [(7, .int .i64 (v0.length : Int)), (2, .int .i64 (j : Int)), (1, .int .i64 (i : Int)), (0, .slice (some ⟨g, 0, none⟩) (v0.length) (cp))] 2 [0, 1, 2, 3, 4, 5, 6] [6] [] mixed rfl (by kernel_rfl) (by kernel_rfl) (by decide) dI ⟨rfl, rfl, rfl, rfl, trivial⟩ rfl okNil (w_p rfl (aE rfl) (w_p rfl (aE rfl) (w_p (v := .slice (some ⟨g, 0, none⟩) (i) (cp)) rfl (p_slHi i dR (show TyI _ _ _ (Enc.sz File) _ _ from ty77) rfl rfl rfl (by omega)) (w_p rfl (aE rfl) ?_))))))))))
 refine w_p rfl (aE rfl) (w_p (v := .slice (some ⟨g, slO cp j (Enc.sz File), none⟩) (v0.length - j) (cp - j)) rfl (p_slLoO j dR (show TyI _ _ _ (Enc.sz File) _ _ from ty77) rfl rfl rfl hjn b1) (cJ rfl (by decide) rfl cN rfl (n_appI (news := qC (q.drop j)) dR (show TyI _ _ _ (Enc.sz File) _ _ from ty77) rfl rfl hnews hB cZ (by omega) (by omega) o1) ?_))
 rintro _ _ _ ⟨rfl, rfl, rfl⟩
 refine ⟨bU, ?_⟩
 refine cK ?_
 show Rg _ _ _ _ _ _ _ _ _
 refine aH rfl (nl ?_)
 have hmid : (qC q ++ js).take (i * Enc.sz File) ++ qC (q.drop j) ++ (qC q ++ js).drop (i * Enc.sz File + (v0.length - j) * Enc.sz File) = qC (q.take i ++ q.drop j) ++ (qC q ++ js).drop (i * Enc.sz File + (v0.length - j) * Enc.sz File) := by rw [qC_app, hC, del_take hA]
 rw [hmid]
 have m4 : (i + (v0.length - j)) * Enc.sz File = i * Enc.sz File + (v0.length - j) * Enc.sz File := Nat.add_mul _ _ _
 have m5 : (v0.length - (i + (v0.length - j))) * Enc.sz File = v0.length * Enc.sz File - (i + (v0.length - j)) * Enc.sz File := Nat.sub_mul _ _ _
 have hl1 : (qC (q.take i ++ q.drop j)).length = (i + (v0.length - j)) * Enc.sz File := by rw [qC_app, List.length_append, hA, hB, m4]
 have m6 := Nat.mul_le_mul_right (Enc.sz File) (show i + (v0.length - j) ≤ v0.length by omega)
 refine sr (aF rfl (aF rfl (aG (bS 77 dR rfl) (aF rfl (aG (v := .slice (some ⟨g, (i + (v0.length - j)) * Enc.sz File, none⟩) (v0.length - (i + (v0.length - j))) (cp - (i + (v0.length - j)))) (p_slLH (i + (v0.length - j)) v0.length dR (show TyI _ _ _ (Enc.sz File) _ _ from ty77) rfl rfl rfl rfl rfl (by omega) b1) ?_)))))
 refine g0 (e_clr dR (show TyI _ _ _ (Enc.sz File) _ _ from ty77) rfl (by omega) (by decide) cZ (by rw [List.length_append, hl1, List.length_drop, hl0]; omega)) ?_
 refine aJ (nT (sr (aF rfl (aH rfl (aJ (nT (bQ ?_)))))))
 rw [List.take_left' hl1]
 have hqr : (q.take i ++ q.drop j).length = i + (v0.length - j) := by rw [List.length_append, List.length_take, List.length_drop, hqn, Nat.min_eq_left (by omega)]
 have hvr : (v0.take i ++ v0.drop j).length = i + (v0.length - j) := by rw [List.length_append, List.length_take, List.length_drop, Nat.min_eq_left (by omega)]
 have hmap : (q.take i ++ q.drop j).map (·.1) = v0.take i ++ v0.drop j := by rw [List.map_append, List.map_take, List.map_drop, eq]
 refine At.mkE (n := i + (v0.length - j)) (cp := cp) (q.take i ++ q.drop j) _ (.cons aA (del_own hij)) hqr.symm (List.append_assoc _ _ _) (by omega) b2 (by simp only [List.length_append, List.length_drop, hl1, Array.length_toList, size_zeroCells, TyI.zn (show TyI _ _ _ (Enc.sz File) _ _ from ty77), List.length_append]; have := hl0; simp only [List.length_append] at this; omega) (fun p hp => (hq p (del_mem hp)).1) ?_
 rw [hmap]
 exact back1 ((some ⟨g, 0, none⟩), cp) rfl (ResV.tmp (v := .slice (some ⟨g, 0, none⟩) (i + (v0.length - j)) (cp)) rfl) (by rw [hvr]) cM (.cons (by rw [hvr]; exact aA) .nil)
noncomputable def p_impl_Disk_step (v0 : Disk) (v1 : Step) : Option (Disk) := cond (decide (v1.1 = 1)) (bd (p_impl_clonePart v1.2.2.1) fun r5 => gd (room (v0.1.length + 1)) <| some ((v0.1 ++ [(v1.2.1, r5)]), v0.2.1, v0.2.2.1, (wr64 (v1.2.1 + 1)))) (cond (decide (v1.1 = 2)) (gd (room (([] : List Int).length + v1.2.2.2.1.length)) <| bd (p_impl_cloneNames v1.2.2.2.2) fun r18 => some (v0.1, (([] : List Int) ++ v1.2.2.2.1), r18, v0.2.2.2)) (cond (decide (v1.1 = 3)) (bd (p_impl_Disk_file v0 v1.2.1) fun r22 => bd (cond (decide (0 ≤ r22)) (bd (p_slices_Contains_int_int v0.2.1 v1.2.1) fun r27 => some (!r27)) (some (false))) fun b24 => cond (b24) (gd (I64 (r22 + 1)) <| bd (p_slices_Delete_File_File v0.1 r22 (r22 + 1)) fun r31 => some (r31, v0.2.1, v0.2.2.1, v0.2.2.2)) (some v0)) (some v0)))
theorem c_impl_Disk_step {r : Disk} (g_v0 : Nat) (v0 : Disk) (x_v0 : (Option Addr × Nat) × (Option Addr × Nat) × (Option Addr × Nat) × Unit) (v1 : Step) (x_v1 : Unit × Unit × ((Option Addr × Nat) × (Option Addr × Nat)) × (Option Addr × Nat) × (Option Addr × Nat)) (H : p_impl_Disk_step v0 v1 = some r) : Fn' prog 97 #[.pointer (some ⟨g_v0, 0, none⟩), .agg #[.int .i64 (v1.1), .int .i64 (v1.2.1), .slice x_v1.2.2.1.1.1 v1.2.2.1.1.length x_v1.2.2.1.1.2, .slice x_v1.2.2.1.2.1 v1.2.2.1.2.length x_v1.2.2.1.2.2, .slice x_v1.2.2.2.1.1 v1.2.2.2.1.length x_v1.2.2.2.1.2, .slice x_v1.2.2.2.2.1 v1.2.2.2.2.length x_v1.2.2.2.2.2]] [imm (.slice x_v1.2.2.1.1.1 v1.2.2.1.1.length x_v1.2.2.1.1.2) v1.2.2.1.1, imm (.slice x_v1.2.2.1.2.1 v1.2.2.1.2.length x_v1.2.2.1.2.2) v1.2.2.1.2, imm (.slice x_v1.2.2.2.1.1 v1.2.2.2.1.length x_v1.2.2.2.1.2) v1.2.2.2.1, imm (.slice x_v1.2.2.2.2.1 v1.2.2.2.2.length x_v1.2.2.2.2.2) v1.2.2.2.2] [box g_v0 32 [.slice x_v0.1.1 v0.1.length x_v0.1.2, .slice x_v0.2.1.1 v0.2.1.length x_v0.2.1.2, .slice x_v0.2.2.1.1 v0.2.2.1.length x_v0.2.2.1.2, .int .i64 (v0.2.2.2)], tree (.slice x_v0.1.1 v0.1.length x_v0.1.2) v0.1, tree (.slice x_v0.2.1.1 v0.2.1.length x_v0.2.1.2) v0.2.1, tree (.slice x_v0.2.2.1.1 v0.2.2.1.length x_v0.2.2.1.2) v0.2.2.1] (ι := (Option Addr × Nat) × (Option Addr × Nat) × (Option Addr × Nat) × Unit) (fun _ => .tuple #[]) (fun _ => []) (fun x => [box g_v0 32 [.slice x.1.1 r.1.length x.1.2, .slice x.2.1.1 r.2.1.length x.2.1.2, .slice x.2.2.1.1 r.2.2.1.length x.2.2.1.2, .int .i64 (r.2.2.2)], tree (.slice x.1.1 r.1.length x.1.2) r.1, tree (.slice x.2.1.1 r.2.1.length x.2.1.2) r.2.1, tree (.slice x.2.2.1.1 r.2.2.1.length x.2.2.1.2) r.2.2.1]) := by
 refine cof (args := [_, _]) func97 ntmps97 fun c => ?_
 unfold p_impl_Disk_step at H
 refine bM aR.s fun X1 => (bM aR.s.s.s.s fun X2 => (sr (f1 (cC (t := 111) rfl) fun g3 => (nl (sr (aG (cB fa111_0 rfl rfl) (aI (bI ty3 rfl aB rfl) (nl (aQ (sr ?_))))))))))
 refine aG (cS rfl rfl) (aH rfl (nl (cH H rfl (fun h4 H => ?_) (fun h4 H => ?_))))
 ·refine aD (dG [(3, .pointer (some ⟨g3, 0, none⟩)), (0, .pointer (some ⟨g_v0, 0, none⟩))] 2 [0, 1, 2, 3, 4, 5, 6, 7, 8, 9, 10, 11, 12, 13, 14, 15] [9, 11, 12, 15] [] mixed (by kernel_rfl) (by decide) dI ⟨rfl, rfl, trivial⟩ rfl okNil (w_p rfl (aE rfl) (w_p rfl (aE rfl) (w_p rfl (p_nil rfl) (w_p rfl (cB fa32_0 rfl rfl) ?_)))))
  refine w_o rfl (fun F => (bI ty29 rfl (hs1.app F) rfl)) (w_p rfl (cB fa111_1 rfl rfl) ?_)
  refine w_o rfl (fun F => (bI ty3 rfl (aB.app F) rfl)) (w_p rfl (cB fa111_2 rfl rfl) ?_)
  refine w_o (v := .agg #[.slice x_v1.2.2.1.1.1 v1.2.2.1.1.length x_v1.2.2.1.1.2, .slice x_v1.2.2.1.2.1 v1.2.2.1.2.length x_v1.2.2.1.2.2]) rfl (fun F => (q_ldbP [.slice x_v1.2.2.1.1.1 v1.2.2.1.1.length x_v1.2.2.1.1.2, .slice x_v1.2.2.1.2.1 v1.2.2.1.2.length x_v1.2.2.1.2.2] ty75 rfl (aB.app F) rfl rfl)) (bdo H fun r5 h6 H => (cJ rfl (by decide) rfl cN rfl (cE (c_impl_clonePart v1.2.2.1 x_v1.2.2.1 h6) (fun _ => (bF (bF bG))) rfl (aC (aL aR.s.s) (aC (aL (aS aR.s)) aO))) ?_))
  rintro _ _ _ ⟨x7, rfl, rfl, rfl⟩
  refine ⟨(aM (by kernel_rfl) (bV rfl rfl (fun F => (bI ty3 rfl (hs2.app F) rfl)) (bV rfl rfl (fun F => (bI ty29 rfl (hs3.app F) rfl)) bU))), ?_⟩
  refine w_p (v := .agg #[.int .i64 (v1.2.1), .slice x7.1.1 r5.1.length x7.1.2, .slice x7.2.1 r5.2.length x7.2.2]) rfl (p_buildS (vs := [(0, .int .i64 (v1.2.1)), (1, .agg #[.slice x7.1.1 r5.1.length x7.1.2, .slice x7.2.1 r5.2.length x7.2.2])]) (cs := #[.int .i64 (v1.2.1), .slice x7.1.1 r5.1.length x7.1.2, .slice x7.2.1 r5.2.length x7.2.2]) ty77 pl77 rfl rfl) (cJ rfl (by decide) rfl cN rfl (n_lit (vs := [(0, .agg #[.int .i64 (v1.2.1), .slice x7.1.1 r5.1.length x7.1.2, .slice x7.2.1 r5.2.length x7.2.2])]) [.int .i64 (v1.2.1), .slice x7.1.1 r5.1.length x7.1.2, .slice x7.2.1 r5.2.length x7.2.2] dR ty77 rfl (by decide) (by decide) (by kernel_rfl)) ?_)
  rintro _ _ _ ⟨g8, rfl, rfl, rfl⟩
  refine ⟨(bV rfl rfl (fun F => (q_ldbP [.slice x_v1.2.2.1.1.1 v1.2.2.1.1.length x_v1.2.2.1.1.2, .slice x_v1.2.2.1.2.1 v1.2.2.1.2.length x_v1.2.2.1.2.2] ty75 rfl (hs3.app F) rfl rfl)) (aM (by kernel_rfl) (bV rfl rfl (fun F => (bI ty29 rfl (hs4.app F) rfl)) bU))), ?_⟩
  refine gdo H fun h11 H => (cJ rfl (by decide) rfl cN rfl (n_app1 (l := v0.1) (α := File) (v1.2.1, r5) ((), x7) dR ty77 rfl rfl (h11.b (by decide)) h11.x rfl (cW _) (.cons dl5 (.cons aA (.cons aA (.cons aA .nil))))) ?_)
  rintro _ _ _ ⟨a9, c10, rfl, rfl, rfl⟩
  refine ⟨(aM (by kernel_rfl) (bV rfl rfl (fun F => (bI ty3 rfl (hs1.app F) rfl)) (aM (by kernel_rfl) bU))), ?_⟩
  refine w_p rfl (p_nil rfl) (w_p rfl (cB fa32_0 rfl rfl) (w_en rfl rfl cN rfl (n_store (cs' := [.slice a9 ((v0.1 ++ [(v1.2.1, r5)]).length) c10, .slice x_v0.2.1.1 v0.2.1.length x_v0.2.1.2, .slice x_v0.2.2.1.1 v0.2.2.1.length x_v0.2.2.1.2, .int .i64 (v0.2.2.2)]) ty29 rfl rfl up2 rfl (one_of rfl) (Nat.le_of_ble_eq_true rfl) rfl) ?_))
  rintro _ _ _ ⟨rfl, rfl, rfl⟩
  refine ⟨(aM (by kernel_rfl) (aM (by kernel_rfl) (aM (by kernel_rfl) bU))), ?_⟩
  refine cK (nT (aP (aF rfl (aG (cB fa111_1 rfl rfl) (aI (bI ty3 rfl hs1 rfl) (aG (v := .int .i64 (wr64 (v1.2.1 + 1))) (p_addW rfl rfl) (aG (p_nil rfl) (aG (cB fa32_3 rfl rfl) (stb (cs' := [.slice a9 ((v0.1 ++ [(v1.2.1, r5)]).length) c10, .slice x_v0.2.1.1 v0.2.1.length x_v0.2.1.2, .slice x_v0.2.2.1.1 v0.2.2.1.length x_v0.2.2.1.2, .int .i64 (wr64 (v1.2.1 + 1))]) ty3 up2 ?_)))))))))
  refine aJ (nB (?_))
  obtain rfl := si H
  exact back0n ((a9, c10), x_v0.2.1, x_v0.2.2.1, ()) rfl  rfl cM (.cons dl2 (.cons aA (.cons dl1 (.cons dl1 .nil))))
 ·refine sr (aG (cS rfl rfl) (aH rfl (nl (cH H rfl (fun h12 H => ?_) (fun h12 H => ?_)))))
  ·refine sr (aF rfl (f2 (e_lit0 Int dP ty3) fun a13 c14 => (aG (cB fa111_3 rfl rfl) (aI (bI ty23 rfl hs1 rfl) (gdo H fun h17 H => (f2 (e_appF (l := ([] : List Int)) (k := v1.2.2.2.1) (α := Int) dP ty3 rfl rfl (h17.b (by decide)) h17.x (.cons aA .nil) (aL aR.s.s.s.s)) fun a15 c16 => (aG (p_nil rfl) (aG (cB fa32_1 rfl rfl) (stb (cs' := [.slice x_v0.1.1 v0.1.length x_v0.1.2, .slice a15 ((([] : List Int) ++ v1.2.2.2.1).length) c16, .slice x_v0.2.2.1.1 v0.2.2.1.length x_v0.2.2.1.2, .int .i64 (v0.2.2.2)]) ty23 up2 ?_)))))))))
   refine nl (aP (aF rfl (aG (cB fa111_4 rfl rfl) (aI (bI ty30 rfl hs1 rfl) (bdo H fun r18 h19 H => (f1 (cF (c_impl_cloneNames v1.2.2.2.2 x_v1.2.2.2.2 h19) (fun _ => (bF bG)) rfl (aC (aL (aS aR)) aO)) fun x20 => (aG (p_nil rfl) (aG (cB fa32_2 rfl rfl) (stb (cs' := [.slice x_v0.1.1 v0.1.length x_v0.1.2, .slice a15 ((([] : List Int) ++ v1.2.2.2.1).length) c16, .slice x20.1 r18.length x20.2, .int .i64 (v0.2.2.2)]) ty30 up3 ?_)))))))))
   refine aJ (nB (?_))
   obtain rfl := si H
   exact back0n (x_v0.1, (a15, c16), x20, ()) rfl  rfl cM (.cons dl3 (.cons dl3 (.cons dl1 (.cons aA .nil))))
  ·refine sr (aG (cS rfl rfl) (aH rfl (nl (cH H rfl (fun h21 H => ?_) (fun h21 H => ?_)))))
   ·refine aD (dF [(3, .pointer (some ⟨g3, 0, none⟩)), (0, .pointer (some ⟨g_v0, 0, none⟩))] mixed (.inr (by kernel_rfl)) ⟨rfl, rfl, trivial⟩ rfl (bB rfl (aX (p_nil rfl) (aZ (bJ ty32 rfl hs1 rfl) (aX (cB fa111_1 rfl rfl) (aZ (bI ty3 rfl aB rfl) (bdo H fun r22 h23 H => (aZ (bN (c_impl_Disk_file v0 (x_v0.1, x_v0.2.1, x_v0.2.2.1, ()) v1.2.1 h23) rfl (aC (bL hs2) (aC (bL hs3) (aC (bL hs4) aO)))) (aX (p_assign rfl) ?_)))))))))
    refine nT (bdo H fun b24 j25 H => (dD [(64, .bool (b24)), (4, .int .i64 (r22)), (0, .pointer (some ⟨g_v0, 0, none⟩))] ?_ ?_))
    ·refine dF [(4, .int .i64 (r22)), (3, .pointer (some ⟨g3, 0, none⟩)), (0, .pointer (some ⟨g_v0, 0, none⟩))] mixed (.inr (by kernel_rfl)) ⟨rfl, rfl, rfl, trivial⟩ rfl (bB rfl (aX (p_geq rfl rfl) ?_))
     rcases aK (decide (0 ≤ r22)) with h26 | h26
     ·have j25 := cdT h26 j25
      refine bC (aE rfl) h26 (aY rfl (aE rfl) (aY rfl (p_nil rfl) (aY rfl (cB fa32_1 rfl rfl) (bA rfl (bI ty23 rfl hs1 rfl) (aY rfl (cB fa111_1 rfl rfl) (bA rfl (bI ty3 rfl aB rfl) (bdo j25 fun r27 h28 j25 => (bA rfl (bN (c_slices_Contains_int_int v0.2.1 x_v0.2.1 v1.2.1 h28) rfl (aC (bL hs3) aO)) (aY rfl (cV rfl) ?_)))))))))
      refine aX (bP rfl rfl) ?_
      obtain rfl := si j25
      show At _ _ _ _ _ _
      exact n1 ⟨rfl, rfl, rfl, trivial⟩
     ·have j25 := cdF h26 j25
      refine bC (aE rfl) h26 ?_
      iterate 8 refine bE rfl ?_
      refine aX (v := .bool (false)) (bO rfl rfl) ?_
      obtain rfl := si j25
      show At _ _ _ _ _ _
      exact n1 ⟨rfl, rfl, rfl, trivial⟩
    refine cH H rfl (fun h29 H => ?_) (fun h29 H => ?_)
    ·refine aP (aF rfl (aF rfl (aG (p_nil rfl) (aG (cB fa32_0 rfl rfl) (aI (bI ty29 rfl hs1 rfl) (aF rfl (aF rfl (gdo H fun h30 H => (aG (bR rfl rfl h30) ?_)))))))))
     refine bdo H fun r31 h32 H => (f1 (cG (c_slices_Delete_File_File v0.1 x_v0.1 r22 (r22 + 1) h32) (bF bG) (fun _ => (bF bG)) rfl (.cons dl2 .nil) aO) fun x33 => (aG (p_nil rfl) (aG (cB fa32_0 rfl rfl) (stb (cs' := [.slice x33.1 r31.length x33.2, .slice x_v0.2.1.1 v0.2.1.length x_v0.2.1.2, .slice x_v0.2.2.1.1 v0.2.2.1.length x_v0.2.2.1.2, .int .i64 (v0.2.2.2)]) ty29 up2 (aJ (nB (?_)))))))
     obtain rfl := si H
     exact back0n (x33, x_v0.2.1, x_v0.2.2.1, ()) rfl  rfl cM (.cons dl2 (.cons aA (.cons dl1 (.cons dl1 .nil))))
    ·refine bH (nB (?_))
     obtain rfl := si H
     exact back0n (x_v0.1, x_v0.2.1, x_v0.2.2.1, ()) rfl  rfl cM (.cons dl1 (.cons dl1 (.cons dl1 (.cons dl1 .nil))))
   ·refine bH (nB (?_))
    obtain rfl := si H
    exact back0n (x_v0.1, x_v0.2.1, x_v0.2.2.1, ()) rfl  rfl cM (.cons dl1 (.cons dl1 (.cons dl1 (.cons dl1 .nil))))
noncomputable def p_impl_DiskTo_b0 (v1 : (List Step)) (v2 : Int) (Q21 : (List File) × (List Int) × (List (List Tag)) × Int × Int) : Option (((List File) × (List Int) × (List (List Tag)) × Int × Int) ⊕ ((List File) × (List Int) × (List (List Tag)) × Int)) := cond (decide (Q21.2.2.2.2 < (((v1.take (min v2 (v1.length : Int)).toNat).drop 0).length : Int))) (gd (ix Q21.2.2.2.2 ((v1.take (min v2 (v1.length : Int)).toNat).drop 0).length) <| bd (p_impl_Disk_step (Q21.1, Q21.2.1, Q21.2.2.1, Q21.2.2.2.1) (nth ((v1.take (min v2 (v1.length : Int)).toNat).drop 0) Q21.2.2.2.2.toNat)) fun r33 => gd (I64 (Q21.2.2.2.2 + 1)) <| some (.inl (r33.1, r33.2.1, r33.2.2.1, r33.2.2.2, Q21.2.2.2.2 + 1))) (some (.inr (Q21.1, Q21.2.1, Q21.2.2.1, Q21.2.2.2.1)))
noncomputable def p_impl_DiskTo (v0 : Disk) (v1 : (List Step)) (v2 : Int) : Option (Disk) := bd (bd (p_impl_DiskOk v0) fun r8 => cond (!r8) (some (true)) (some (decide (v2 < 0)))) fun b6 => cond (b6) (some (([]), ([]), ([]), 0)) (bd (p_impl_cloneDisk v0) fun r12 => gd (sl2 0 (min v2 (v1.length : Int)) v1.length) <| bd (lp (p_impl_DiskTo_b0 v1 v2) (r12.1, r12.2.1, r12.2.2.1, r12.2.2.2, 0)) fun x17 => bd (p_impl_DiskOk x17) fun r37 => cond (!r37) (some (([]), ([]), ([]), 0)) (bd (p_impl_cloneDisk x17) fun r40 => some r40))
theorem c_impl_DiskTo {r : Disk} (v0 : Disk) (x_v0 : (Option Addr × Nat) × (Option Addr × Nat) × (Option Addr × Nat) × Unit) (v1 : (List Step)) (x_v1 : Option Addr × Nat) (v2 : Int) (H : p_impl_DiskTo v0 v1 v2 = some r) : Fn' prog 35 #[.agg #[.slice x_v0.1.1 v0.1.length x_v0.1.2, .slice x_v0.2.1.1 v0.2.1.length x_v0.2.1.2, .slice x_v0.2.2.1.1 v0.2.2.1.length x_v0.2.2.1.2, .int .i64 (v0.2.2.2)], .slice x_v1.1 v1.length x_v1.2, .int .i64 (v2)] [imm (.slice x_v0.1.1 v0.1.length x_v0.1.2) v0.1, imm (.slice x_v0.2.1.1 v0.2.1.length x_v0.2.1.2) v0.2.1, imm (.slice x_v0.2.2.1.1 v0.2.2.1.length x_v0.2.2.1.2) v0.2.2.1, imm (.slice x_v1.1 v1.length x_v1.2) v1] [] (ι := (Option Addr × Nat) × (Option Addr × Nat) × (Option Addr × Nat) × Unit) (fun x => .agg #[.slice x.1.1 r.1.length x.1.2, .slice x.2.1.1 r.2.1.length x.2.1.2, .slice x.2.2.1.1 r.2.2.1.length x.2.2.1.2, .int .i64 (r.2.2.2)]) (fun _ => []) (fun x => [tree (.slice x.1.1 r.1.length x.1.2) r.1, tree (.slice x.2.1.1 r.2.1.length x.2.1.2) r.2.1, tree (.slice x.2.2.1.1 r.2.2.1.length x.2.2.1.2) r.2.2.1]) := by
 refine cof (args := [_, _, _]) func35 ntmps35 fun c => ?_
 unfold p_impl_DiskTo at H
 refine bM aR fun X1 => (bM aR.s.s.s fun X2 => (bM aR.s.s.s.s.s fun X3 => (sr (f1 (cC (t := 32) rfl) fun g4 => (f1 (cD ty32) fun g5 => (nl (aD (bdo H fun b6 j7 H => (dD [(16, .bool (b6)), (6, .pointer (some ⟨g5, 0, none⟩)), (3, .pointer (some ⟨g4, 0, none⟩)), (1, .slice x_v1.1 v1.length x_v1.2), (2, .int .i64 (v2))] ?_ ?_)))))))))
 ·refine dH [(6, .pointer (some ⟨g5, 0, none⟩)), (3, .pointer (some ⟨g4, 0, none⟩)), (1, .slice x_v1.1 v1.length x_v1.2), (2, .int .i64 (v2))] ⟨rfl, rfl, rfl, rfl, trivial⟩ (aZ (bJ ty32 rfl hs1 rfl) (bdo j7 fun r8 h9 j7 => (aZ (bN (c_impl_DiskOk v0 (x_v0.1, x_v0.2.1, x_v0.2.2.1, ()) h9) rfl (aC (aL (aS aR.s.s)) (aC (aL aR.s.s.s.s) (aC (aL (aS aR.s)) aO)))) (aX (cV rfl) ?_))))
  rcases aK (!r8) with h10 | h10
  ·have j7 := cdT h10 j7
   refine bC (aE rfl) h10 ?_
   iterate 2 refine bE rfl ?_
   refine aX (v := .bool (true)) (bP rfl rfl) ?_
   obtain rfl := si j7
   show At _ _ _ _ _ _
   exact n1 ⟨rfl, rfl, rfl, rfl, rfl, trivial⟩
  ·have j7 := cdF h10 j7
   refine bC (aE rfl) h10 (aY rfl (aE rfl) (aY rfl (cP rfl rfl) (aX (bO rfl rfl) ?_)))
   obtain rfl := si j7
   show At _ _ _ _ _ _
   exact n1 ⟨rfl, rfl, rfl, rfl, rfl, trivial⟩
 refine cH H rfl (fun h11 H => ?_) (fun h11 H => ?_)
 ·refine aD (Tr.nilT File (Tr.nilT Int (Tr.nilT (List Tag) (aP (aG (v := .agg #[.slice none 0 0, .slice none 0 0, .slice none 0 0, .int .i64 (0)]) (p_buildS (vs := []) (cs := #[.slice none 0 0, .slice none 0 0, .slice none 0 0, .int .i64 (0)]) ty32 pl32 rfl rfl) (stb (cs' := [.slice none 0 0, .slice none 0 0, .slice none 0 0, .int .i64 (0)]) ty32 up3 (nl (bQ (rT (?_))))))))))
  obtain rfl := si H
  exact back1 ((none, 0), (none, 0), (none, 0), ()) rfl (ResV.agg ty32 rfl hs3 rfl) rfl cM (.cons dl2 (.cons dl1 (.cons aA .nil)))
 ·refine bH (nT (sr (aI (bJ ty32 rfl hs1 rfl) (bdo H fun r12 h13 H => (f1 (cF (c_impl_cloneDisk v0 (x_v0.1, x_v0.2.1, x_v0.2.2.1, ()) h13) (fun _ => (bF (bF (bF bG)))) rfl (aC (aL (aS aR.s.s)) (aC (aL aR.s.s.s.s) (aC (aL (aS aR.s)) aO)))) fun x14 => (f1 (cD ty32) fun g15 => (stb (cs' := [.slice x14.1.1 r12.1.length x14.1.2, .slice x14.2.1.1 r12.2.1.length x14.2.1.2, .slice x14.2.2.1.1 r12.2.2.1.length x14.2.2.1.2, .int .i64 (r12.2.2.2)]) ty32 cZ (nl (aD (sr ?_))))))))))
  refine aF rfl (aF rfl (aF rfl (aG (bS 111 dW rfl) (aG (v := .int .i64 (min v2 (v1.length : Int))) (p_min rfl rfl) (gdo H fun h16 H => (aI (v := .slice (subA x_v1.1 x_v1.2 0 (Enc.sz Step)) (((v1.take (min v2 (v1.length : Int)).toNat).drop 0).length) (x_v1.2 - 0)) (q_slF (l := v1) (α := Step) 0 (min v2 (v1.length : Int)) dW ty111 rfl rfl (fun _ => rfl) rfl (fun h => nomatch h) h16 (aL (aS aR))) (aG (bS 111 dW rfl) (aF (v := .int .i64 (0)) rfl (nl (bdo H fun x17 hx18 H => ?_))))))))))
  refine dB (ι := (Option Addr × Nat) × (Option Addr × Nat) × (Option Addr × Nat)) (fun ψ => [(6, .pointer (some ⟨g5, 0, none⟩)), (7, .pointer (some ⟨g15, 0, none⟩))]) (fun ψ => [box g5 32 [.slice none 0 0, .slice none 0 0, .slice none 0 0, .int .i64 (0)], tree (.slice ψ.1.1 x17.1.length ψ.1.2) x17.1, tree (.slice ψ.2.1.1 x17.2.1.length ψ.2.1.2) x17.2.1, tree (.slice ψ.2.2.1 x17.2.2.1.length ψ.2.2.2) x17.2.2.1, box g15 32 [.slice ψ.1.1 x17.1.length ψ.1.2, .slice ψ.2.1.1 x17.2.1.length ψ.2.1.2, .slice ψ.2.2.1 x17.2.2.1.length ψ.2.2.2, .int .i64 (x17.2.2.2)]]) ?_ ?_
  ·refine aQ (dE (Λ := ((Option Addr × Nat) × (Option Addr × Nat) × (Option Addr × Nat))) hx18 ((x14.1.1, x14.1.2), (x14.2.1.1, x14.2.1.2), (x14.2.2.1.1, x14.2.2.1.2)) (fun Q21 _ => [(6, .pointer (some ⟨g5, 0, none⟩)), (7, .pointer (some ⟨g15, 0, none⟩)), (25, .slice (subA x_v1.1 x_v1.2 0 (Enc.sz Step)) (((v1.take (min v2 (v1.length : Int)).toNat).drop 0).length) (x_v1.2 - 0)), (26, .int .i64 ((((v1.take (min v2 (v1.length : Int)).toNat).drop 0).length : Int))), (27, .int .i64 (Q21.2.2.2.2))]) (fun Q21 z22 => [box g5 32 [.slice none 0 0, .slice none 0 0, .slice none 0 0, .int .i64 (0)], tree (.slice z22.1.1 Q21.1.length z22.1.2) Q21.1, tree (.slice z22.2.1.1 Q21.2.1.length z22.2.1.2) Q21.2.1, tree (.slice z22.2.2.1 Q21.2.2.1.length z22.2.2.2) Q21.2.2.1, box g15 32 [.slice z22.1.1 Q21.1.length z22.1.2, .slice z22.2.1.1 Q21.2.1.length z22.2.1.2, .slice z22.2.2.1 Q21.2.2.1.length z22.2.2.2, .int .i64 (Q21.2.2.2.1)]]) (.cons dl4 (.cons dl1 (.cons dl1 (.cons dl1 (.cons aA .nil))))) ?_)
   rintro _ Q21 z22 t24 H1 hi25 hb26
   unfold p_impl_DiskTo_b0 at H1
   refine sr (aG (cP rfl rfl) (nl (aD (cH H1 rfl (fun h29 H1 => ?_) (fun h29 H1 => ?_)))))
   ·refine bH (nT (aD (aQ (aD (bM (Ent.sub (aS aR) h16.le h16.lt) fun X30 => (aP (gdo H1 fun h31 H1 => (aI (bW dW ty111 rfl rfl h31 rfl (aL (aT aR))) (aI (v := .agg #[.int .i64 ((nth ((v1.take (min v2 (v1.length : Int)).toNat).drop 0) Q21.2.2.2.2.toNat).1), .int .i64 ((nth ((v1.take (min v2 (v1.length : Int)).toNat).drop 0) Q21.2.2.2.2.toNat).2.1), .slice ((((X30 Q21.2.2.2.2.toNat).2.2.1).1).1) ((((nth ((v1.take (min v2 (v1.length : Int)).toNat).drop 0) Q21.2.2.2.2.toNat).2.2.1).1).length) ((((X30 Q21.2.2.2.2.toNat).2.2.1).1).2.1), .slice ((((X30 Q21.2.2.2.2.toNat).2.2.1).2).1) ((((nth ((v1.take (min v2 (v1.length : Int)).toNat).drop 0) Q21.2.2.2.2.toNat).2.2.1).2).length) ((((X30 Q21.2.2.2.2.toNat).2.2.1).2).2.1), .slice (((X30 Q21.2.2.2.2.toNat).2.2.2.1).1) (((nth ((v1.take (min v2 (v1.length : Int)).toNat).drop 0) Q21.2.2.2.2.toNat).2.2.2.1).length) (((X30 Q21.2.2.2.2.toNat).2.2.2.1).2.1), .slice (((X30 Q21.2.2.2.2.toNat).2.2.2.2).1) (((nth ((v1.take (min v2 (v1.length : Int)).toNat).drop 0) Q21.2.2.2.2.toNat).2.2.2.2).length) (((X30 Q21.2.2.2.2.toNat).2.2.2.2).2.1)]) (cA (i := Q21.2.2.2.2.toNat) ty111 rfl (aL (aT aR)) h31.lt) (f1 (cD ty111) fun g32 => ?_))))))))))
    refine stb (cs' := [.int .i64 ((nth ((v1.take (min v2 (v1.length : Int)).toNat).drop 0) Q21.2.2.2.2.toNat).1), .int .i64 ((nth ((v1.take (min v2 (v1.length : Int)).toNat).drop 0) Q21.2.2.2.2.toNat).2.1), .slice ((((X30 Q21.2.2.2.2.toNat).2.2.1).1).1) ((((nth ((v1.take (min v2 (v1.length : Int)).toNat).drop 0) Q21.2.2.2.2.toNat).2.2.1).1).length) ((((X30 Q21.2.2.2.2.toNat).2.2.1).1).2.1), .slice ((((X30 Q21.2.2.2.2.toNat).2.2.1).2).1) ((((nth ((v1.take (min v2 (v1.length : Int)).toNat).drop 0) Q21.2.2.2.2.toNat).2.2.1).2).length) ((((X30 Q21.2.2.2.2.toNat).2.2.1).2).2.1), .slice (((X30 Q21.2.2.2.2.toNat).2.2.2.1).1) (((nth ((v1.take (min v2 (v1.length : Int)).toNat).drop 0) Q21.2.2.2.2.toNat).2.2.2.1).length) (((X30 Q21.2.2.2.2.toNat).2.2.2.1).2.1), .slice (((X30 Q21.2.2.2.2.toNat).2.2.2.2).1) (((nth ((v1.take (min v2 (v1.length : Int)).toNat).drop 0) Q21.2.2.2.2.toNat).2.2.2.2).length) (((X30 Q21.2.2.2.2.toNat).2.2.2.2).2.1)]) ty111 cZ (nl (aP (aI (bJ ty111 rfl aB rfl) (bdo H1 fun r33 h34 H1 => (f1 (cG (c_impl_Disk_step g15 (Q21.1, Q21.2.1, Q21.2.2.1, Q21.2.2.2.1) (z22.1, z22.2.1, z22.2.2, ()) (nth ((v1.take (min v2 (v1.length : Int)).toNat).drop 0) Q21.2.2.2.2.toNat) ((), (), (((((X30 Q21.2.2.2.2.toNat).2.2.1).1).1, (((X30 Q21.2.2.2.2.toNat).2.2.1).1).2.1), ((((X30 Q21.2.2.2.2.toNat).2.2.1).2).1, (((X30 Q21.2.2.2.2.toNat).2.2.1).2).2.1)), (((X30 Q21.2.2.2.2.toNat).2.2.2.1).1, ((X30 Q21.2.2.2.2.toNat).2.2.2.1).2.1), (((X30 Q21.2.2.2.2.toNat).2.2.2.2).1, ((X30 Q21.2.2.2.2.toNat).2.2.2.2).2.1)) h34) (Solo.box (bF (bF (bF bG)))) (fun _ => (Solo.box (bF (bF (bF bG))))) rfl (.cons dl5 (.cons dl2 (.cons dl2 (.cons dl2 .nil)))) (aC (aL (aS (aV (aV (aU (aU (aW aR h31.lt))))))) (aC (aL (aS (aU (aV (aU (aU (aW aR h31.lt))))))) (aC (aL (aS (aV (aU (aU (aU (aW aR h31.lt))))))) (aC (aL (aS (aU (aU (aU (aU (aW aR h31.lt))))))) aO))))) fun x35 => (aJ (nB (nT (aP (gdo H1 fun h36 H1 => ?_))))))))))
    exact aG (bR rfl rfl h36) (aF rfl (aJ (nLI (hf := bT.s) ((x35.1.1, x35.1.2), (x35.2.1.1, x35.2.1.2), (x35.2.2.1.1, x35.2.2.1.2)) (hi25 _ (sm H1)) (.cons dl5 (.cons dl1 (.cons dl1 (.cons dl1 (.cons aA .nil))))))))
   ·refine dA (xT (xT (xE (?_))))
    obtain rfl := hb26 _ (sm H1)
    exact nMC ((z22.1.1, z22.1.2), (z22.2.1.1, z22.2.1.2), (z22.2.2.1, z22.2.2.2)) ⟨rfl, rfl, trivial⟩ bT (.cons aA (.cons aA (.cons aA (.cons aA (.cons aA .nil)))))
  ·intro y23
   show At _ _ [(6, .pointer (some ⟨g5, 0, none⟩)), (7, .pointer (some ⟨g15, 0, none⟩))] _ [box g5 32 [.slice none 0 0, .slice none 0 0, .slice none 0 0, .int .i64 (0)], tree (.slice y23.1.1 x17.1.length y23.1.2) x17.1, tree (.slice y23.2.1.1 x17.2.1.length y23.2.1.2) x17.2.1, tree (.slice y23.2.2.1 x17.2.2.1.length y23.2.2.2) x17.2.2.1, box g15 32 [.slice y23.1.1 x17.1.length y23.1.2, .slice y23.2.1.1 x17.2.1.length y23.2.1.2, .slice y23.2.2.1 x17.2.2.1.length y23.2.2.2, .int .i64 (x17.2.2.2)]] _
   refine nT (aD (sr (aI (bJ ty32 rfl hs4 rfl) (bdo H fun r37 h38 H => (aI (bN (c_impl_DiskOk x17 (y23.1, y23.2.1, y23.2.2, ()) h38) rfl (aC (bL hs1) (aC (bL hs2) (aC (bL hs3) aO)))) (aG (cV rfl) (nl (cH H rfl (fun h39 H => ?_) (fun h39 H => ?_)))))))))
   ·refine aD (Tr.nilT File (Tr.nilT Int (Tr.nilT (List Tag) (aP (aG (v := .agg #[.slice none 0 0, .slice none 0 0, .slice none 0 0, .int .i64 (0)]) (p_buildS (vs := []) (cs := #[.slice none 0 0, .slice none 0 0, .slice none 0 0, .int .i64 (0)]) ty32 pl32 rfl rfl) (stb (cs' := [.slice none 0 0, .slice none 0 0, .slice none 0 0, .int .i64 (0)]) ty32 up3 (nl (bQ (rT (?_))))))))))
    obtain rfl := si H
    exact back1 ((none, 0), (none, 0), (none, 0), ()) rfl (ResV.agg ty32 rfl hs3 rfl) rfl cM (.cons dl2 (.cons dl1 (.cons aA .nil)))
   ·refine bH (nT (sr (aI (bJ ty32 rfl hs4 rfl) (bdo H fun r40 h41 H => (f1 (cF (c_impl_cloneDisk x17 (y23.1, y23.2.1, y23.2.2, ()) h41) (fun _ => (bF (bF (bF bG)))) rfl (aC (bL hs1) (aC (bL hs2) (aC (bL hs3) aO)))) fun x42 => (stb (cs' := [.slice x42.1.1 r40.1.length x42.1.2, .slice x42.2.1.1 r40.2.1.length x42.2.1.2, .slice x42.2.2.1.1 r40.2.2.1.length x42.2.2.1.2, .int .i64 (r40.2.2.2)]) ty32 up3 (nl (bQ ?_))))))))
    obtain rfl := si H
    exact back1 (x42.1, x42.2.1, x42.2.2.1, ()) rfl (ResV.agg ty32 rfl hs3 rfl) rfl cM (.cons aA (.cons aA (.cons aA .nil)))
noncomputable def p_laws_FnExactDiskTo (v0 : Disk) (v1 : (List Step)) (v2 : Int) : Option (Bool) := bd (p_laws_szDisk v0 1048576) fun r5 => cond (decide (r5 < 0)) (some true) (bd (p_laws_szStepS v1 r5) fun r8 => cond (decide (r8 < 0)) (some true) (bd (p_laws_toDisk v0) fun r11 => bd (p_laws_toStepS v1) fun r14 => bd (p_spec_DiskTo r11 r14 v2) fun r17 => bd (p_impl_DiskTo r11 r14 v2) fun r24 => bd (p_laws_eqDisk r24 r17) fun r28 => cond (!r28) (some false) (bd (p_laws_eqDisk r11 r11) fun r32 => cond (!r32) (some false) (bd (p_laws_eqStepS r14 r14) fun r36 => cond (!r36) (some false) (bd (p_laws_markDisk r11 1) fun r39 => bd (p_laws_markStepS r14 r39.1) fun r42 => bd (cond (decide (r42.1 < 0)) (some (true)) (some (!r28))) fun b45 => cond (b45) (some false) (bd (p_laws_markDisk r24 1) fun r49 => bd (p_laws_heldDisk (r49.2.1, r49.2.2.1, r49.2.2.2.1, r24.2.2.2) 1) fun r52 => cond (decide (r52 < 0)) (some false) (cond (!decide (r52 = r49.1)) (some false) (cond (!r28) (some false) (cond (decide (r52 < 0)) (some false) (cond (!decide (r52 = r49.1)) (some false) (some true)))))))))))
theorem c_laws_FnExactDiskTo {r : Bool} (v0 : Disk) (x_v0 : (Option Addr × Nat) × (Option Addr × Nat) × (Option Addr × Nat) × Unit) (v1 : (List Step)) (x_v1 : Option Addr × Nat) (v2 : Int) (H : p_laws_FnExactDiskTo v0 v1 v2 = some r) : Fn' prog 8 #[.agg #[.slice x_v0.1.1 v0.1.length x_v0.1.2, .slice x_v0.2.1.1 v0.2.1.length x_v0.2.1.2, .slice x_v0.2.2.1.1 v0.2.2.1.length x_v0.2.2.1.2, .int .i64 (v0.2.2.2)], .slice x_v1.1 v1.length x_v1.2, .int .i64 (v2)] [imm (.slice x_v0.1.1 v0.1.length x_v0.1.2) v0.1, imm (.slice x_v0.2.1.1 v0.2.1.length x_v0.2.1.2) v0.2.1, imm (.slice x_v0.2.2.1.1 v0.2.2.1.length x_v0.2.2.1.2) v0.2.2.1, imm (.slice x_v1.1 v1.length x_v1.2) v1] [] (ι := Unit) (fun _ => .bool (r)) (fun _ => []) (fun _ => []) := by
 refine cof (args := [_, _, _]) func8 ntmps8 fun c => ?_
 unfold p_laws_FnExactDiskTo at H
 refine bM aR fun X1 => (bM aR.s.s.s fun X2 => (bM aR.s.s.s.s.s fun X3 => (sr (f1 (cC (t := 26) rfl) fun g4 => (aH (v := .bool (false)) rfl (nl (sr (aH (v := .int .i64 (1048576)) rfl (nl (sr (aI (bJ ty26 rfl aB rfl) ?_)))))))))))
 refine aF (v := .int .i64 (1048576)) rfl (bdo H fun r5 h6 H => (aI (bN (c_laws_szDisk v0 (x_v0.1, x_v0.2.1, x_v0.2.2.1, ()) 1048576 h6) rfl (aC (aL (aS aR.s.s)) (aC (aL aR.s.s.s.s) (aC (aL (aS aR.s)) aO)))) (aH rfl (nl (aD (sr (aF rfl (aG (cP rfl rfl) (nl (cH H rfl (fun h7 H => ?_) (fun h7 H => ?_)))))))))))
 ·refine sr (aH (v := .bool (true)) rfl (nl (bQ (rT (?_)))))
  obtain rfl := si H
  exact bk
 ·refine bH (nT (sr (aF rfl (aF rfl (bdo H fun r8 h9 H => (aI (bN (c_laws_szStepS v1 x_v1 r5 h9) rfl (aC (aL (aS aR)) aO)) (aH rfl (nl (aD (sr (aF rfl ?_)))))))))))
  refine aG (cP rfl rfl) (nl (cH H rfl (fun h10 H => ?_) (fun h10 H => ?_)))
  ·refine sr (aH (v := .bool (true)) rfl (nl (bQ (rT (?_)))))
   obtain rfl := si H
   exact bk
  ·refine bH (nT (sr (aI (bJ ty26 rfl aB rfl) (bdo H fun r11 h12 H => (f1 (e_call (FnL'.frz (FnL'.frz (FnL'.frz (c_laws_toDisk v0 (x_v0.1, x_v0.2.1, x_v0.2.2.1, ()) h12)))) rfl (cL (aS aR.s.s) (cL aR.s.s.s.s (cL (aS aR.s) cM))) bK) fun x13 => (aF rfl (bdo H fun r14 h15 H => (f1 (e_call (FnL'.frz (c_laws_toStepS v1 x_v1 h15)) rfl (cL (aS aR.s.s.s) cM) bK) fun x16 => (aF rfl ?_)))))))))
   refine bdo H fun r17 h18 H => (f1 (e_call (c_spec_DiskTo r11 (x13.1, x13.2.1, x13.2.2.1, ()) r14 x16 v2 h18) rfl (cL aR.s.s.s (cL aR.s.s (cL aR.s (cL aR cM)))) bK) fun x19 => (f1 (cD ty32) fun g20 => (stb (cs' := [.slice x19.1.1 r17.1.length x19.1.2, .slice x19.2.1.1 r17.2.1.length x19.2.1.2, .slice x19.2.2.1.1 r17.2.2.1.length x19.2.2.1.2, .int .i64 (r17.2.2.2)]) ty32 cZ (nl (sr (aI (bJ ty26 rfl hs1 rfl) (f1 (cF (c_laws_toDisk v0 (x_v0.1, x_v0.2.1, x_v0.2.2.1, ()) h12) (fun _ => (bF (bF (bF bG)))) rfl (aC (aL (aS aR.s.s.s.s.s.s.s.s.s)) (aC (aL aR.s.s.s.s.s.s.s.s.s.s.s) (aC (aL (aS aR.s.s.s.s.s.s.s.s)) aO)))) fun x21 => (f1 (cD ty32) fun g22 => (stb (cs' := [.slice x21.1.1 r11.1.length x21.1.2, .slice x21.2.1.1 r11.2.1.length x21.2.1.2, .slice x21.2.2.1.1 r11.2.2.1.length x21.2.2.1.2, .int .i64 (r11.2.2.2)]) ty32 cZ ?_)))))))))
   refine nl (sr (aF rfl (f1 (cF (c_laws_toStepS v1 x_v1 h15) (fun _ => (bF bG)) rfl (aC (aL (aS aR.s.s.s.s.s.s.s)) aO)) fun x23 => (aH rfl (nl (sr (aI (bJ ty32 rfl hs1 rfl) (aF rfl (aF rfl (bdo H fun r24 h25 H => ?_))))))))))
   refine f1 (cF (c_impl_DiskTo r11 (x21.1, x21.2.1, x21.2.2.1, ()) r14 x23 v2 h25) (fun _ => (bF (bF (bF bG)))) rfl (aC (bL hs2) (aC (bL hs3) (aC (bL hs4) (aC (bL aB) aO))))) fun x26 => (f1 (cD ty32) fun g27 => (stb (cs' := [.slice x26.1.1 r24.1.length x26.1.2, .slice x26.2.1.1 r24.2.1.length x26.2.1.2, .slice x26.2.2.1.1 r24.2.2.1.length x26.2.2.1.2, .int .i64 (r24.2.2.2)]) ty32 cZ (nl (aD (sr (aI (bJ ty32 rfl aB rfl) (aI (bJ ty32 rfl (hs5t hs4) rfl) (bdo H fun r28 h29 H => (aI (bN (c_laws_eqDisk r24 (x26.1, x26.2.1, x26.2.2.1, ()) r17 (x19.1, x19.2.1, x19.2.2.1, ()) h29) rfl (aC (bL hs1) (aC (bL hs2) (aC (bL hs3) (aC (aL aR) (aC (aL aR.s) (aC (aL aR.s.s) aO))))))) (aG (cV rfl) (nl ?_)))))))))))
   refine cH H rfl (fun h30 H => ?_) (fun h30 H => ?_)
   ·refine sr (aH (v := .bool (false)) rfl (nl (bQ (rT (?_)))))
    obtain rfl := si H
    exact bk
   ·refine bH (nT (aD (aD (dG [(11, .pointer (some ⟨g27, 0, none⟩)), (10, .slice x23.1 r14.length x23.2), (9, .pointer (some ⟨g22, 0, none⟩)), (8, .pointer (some ⟨g20, 0, none⟩)), (3, .pointer (some ⟨g4, 0, none⟩)), (1, .slice x_v1.1 v1.length x_v1.2), (2, .int .i64 (v2))] 2 [0, 1, 2, 3, 4] [2] [] mixed (by kernel_rfl) (by decide) dI ⟨rfl, rfl, rfl, rfl, rfl, rfl, rfl, trivial⟩ rfl okNil ?_))))
    refine w_o rfl (fun F => (bJ ty32 rfl (hs5.app F) rfl)) ?_
    refine w_o rfl (fun F => (bJ ty26 rfl ((hs5t hs5).app F) rfl)) (cJ rfl (by decide) rfl cN rfl (cE (c_laws_toDisk v0 (x_v0.1, x_v0.2.1, x_v0.2.2.1, ()) h12) (fun _ => (bF (bF (bF bG)))) rfl (aC (aL (aS aR.s.s.s.s.s.s.s.s.s)) (aC (aL aR.s.s.s.s.s.s.s.s.s.s.s) (aC (aL (aS aR.s.s.s.s.s.s.s.s)) aO)))) ?_)
    rintro _ _ _ ⟨x31, rfl, rfl, rfl⟩
    refine ⟨(aM (by kernel_rfl) (bV rfl rfl (fun F => (bJ ty32 rfl ((hs5t hs3).app F) rfl)) bU)), ?_⟩
    refine bdo H fun r32 h33 H => ?_
    refine w_o rfl (fun F => (bN (c_laws_eqDisk r11 (x21.1, x21.2.1, x21.2.2.1, ()) r11 (x31.1, x31.2.1, x31.2.2.1, ()) h33) rfl (aC (bL ((hs5t hs4).app F)) (aC (bL ((hs5t hs5).app F)) (aC (bL ((hs5t (hs5t hs1)).app F)) (aC (bL (aB.app F)) (aC (bL (hs1.app F)) (aC (bL (hs2.app F)) aO)))))))) (w_p rfl (cV rfl) (cK (nT (cH H rfl (fun h34 H => ?_) (fun h34 H => ?_)))))
    ·refine sr (aH (v := .bool (false)) rfl (nl (bQ (rT (?_)))))
     obtain rfl := si H
     exact bk
    ·refine bH (nT (aD (sr (aF rfl (aF rfl (f1 (cF (c_laws_toStepS v1 x_v1 h15) (fun _ => (bF bG)) rfl (aC (aL (aS aR.s.s.s.s.s.s.s)) aO)) fun x35 => (bdo H fun r36 h37 H => (aI (bN (c_laws_eqStepS r14 x23 r14 x35 h37) rfl (aC (bL (hs5t hs3)) (aC (bL aB) aO))) (aG (cV rfl) (nl (cH H rfl (fun h38 H => ?_) (fun h38 H => ?_))))))))))))
     ·refine sr (aH (v := .bool (false)) rfl (nl (bQ (rT (?_)))))
      obtain rfl := si H
      exact bk
     ·refine bH (nT (sr (aH (v := .int .i64 (1)) rfl (nl (sr (aI (bJ ty32 rfl (hs5t hs4) rfl) (aF (v := .int .i64 (1)) rfl (bdo H fun r39 h40 H => (f1 (cG (c_laws_markDisk r11 (x21.1, x21.2.1, x21.2.2.1, ()) 1 h40) (bF (bF (bF bG))) (fun _ => (bF (bF (bF bG)))) rfl (.cons (dl5t dl5) (.cons (dl5t dl5) (.cons (dl5t dl5) .nil))) aO) fun u41 => (aH rfl (nl ?_)))))))))))
      refine aD ?_
      refine cX aB fun hn => ?_; rw [hn]
      refine cX hs1 fun hn => ?_; rw [hn]
      refine cX hs2 fun hn => ?_; rw [hn]
      refine cX hs4 fun hn => ?_; rw [hn]
      refine cX hs5 fun hn => ?_; rw [hn]
      refine cX (hs5t hs1) fun hn => ?_; rw [hn]
      refine aP (aF rfl (aF rfl (bdo H fun r42 h43 H => (f1 (cG (c_laws_markStepS r14 x23 r14.length rfl r39.1 h43) (bF bG) (fun _ => (bF bG)) rfl (.cons (dl5t (dl5t dl1)) .nil) aO) fun u44 => (aH rfl (nl (aD ?_)))))))
      refine cX aB fun hn => ?_; rw [hn]
      refine cX hs1 fun hn => ?_; rw [hn]
      refine cX hs2 fun hn => ?_; rw [hn]
      refine cX hs3 fun hn => ?_; rw [hn]
      refine cX hs4 fun hn => ?_; rw [hn]
      refine cX hs5 fun hn => ?_; rw [hn]
      refine cX (hs5t hs1) fun hn => ?_; rw [hn]
      refine cX (hs5t hs2) fun hn => ?_; rw [hn]
      refine bdo H fun b45 j46 H => (dD [(67, .bool (b45)), (11, .pointer (some ⟨g27, 0, none⟩)), (8, .pointer (some ⟨g20, 0, none⟩)), (3, .pointer (some ⟨g4, 0, none⟩)), (1, .slice x_v1.1 v1.length x_v1.2), (2, .int .i64 (v2))] ?_ ?_)
      ·refine dH [(12, .int .i64 (r42.1)), (11, .pointer (some ⟨g27, 0, none⟩)), (8, .pointer (some ⟨g20, 0, none⟩)), (3, .pointer (some ⟨g4, 0, none⟩)), (1, .slice x_v1.1 v1.length x_v1.2), (2, .int .i64 (v2))] ⟨rfl, rfl, rfl, rfl, rfl, rfl, trivial⟩ (bB rfl (aX (cP rfl rfl) ?_))
       rcases aK (decide (r42.1 < 0)) with h47 | h47
       ·have j46 := cdT h47 j46
        refine bC (aE rfl) h47 ?_
        iterate 4 refine bE rfl ?_
        refine aX (v := .bool (true)) (bP rfl rfl) ?_
        obtain rfl := si j46
        show At _ _ _ _ _ _
        exact n1 ⟨rfl, rfl, rfl, rfl, rfl, rfl, trivial⟩
       ·have j46 := cdF h47 j46
        refine bC (aE rfl) h47 (bA rfl (bJ ty32 rfl (hs5t hs3) rfl) (bA rfl (bJ ty32 rfl (hs5t (hs5t hs3)) rfl) (bA rfl (bN (c_laws_eqDisk r24 (x26.1, x26.2.1, x26.2.2.1, ()) r17 (x19.1, x19.2.1, x19.2.2.1, ()) h29) rfl (aC (bL (hs5t hs4)) (aC (bL (hs5t hs5)) (aC (bL (hs5t (hs5t hs1))) (aC (aL aR) (aC (aL aR.s) (aC (aL aR.s.s) aO))))))) (aY rfl (cV rfl) (aX (bO rfl rfl) ?_)))))
        obtain rfl := si j46
        show At _ _ _ _ _ _
        exact n1 ⟨rfl, rfl, rfl, rfl, rfl, rfl, trivial⟩
      refine cH H rfl (fun h48 H => ?_) (fun h48 H => ?_)
      ·refine aD ?_
       refine cX aB fun hn => ?_; rw [hn]
       refine cX hs1 fun hn => ?_; rw [hn]
       refine cX hs2 fun hn => ?_; rw [hn]
       refine cX hs3 fun hn => ?_; rw [hn]
       refine cX hs4 fun hn => ?_; rw [hn]
       refine cX hs5 fun hn => ?_; rw [hn]
       refine cX (hs5t hs1) fun hn => ?_; rw [hn]
       refine cX (hs5t hs2) fun hn => ?_; rw [hn]
       refine aP (aH (v := .bool (false)) rfl (nl ?_))
       refine cX aB fun hn => ?_; rw [hn]
       refine cX hs1 fun hn => ?_; rw [hn]
       refine cX hs2 fun hn => ?_; rw [hn]
       refine cX hs3 fun hn => ?_; rw [hn]
       refine cX hs4 fun hn => ?_; rw [hn]
       refine cX hs5 fun hn => ?_; rw [hn]
       refine cX (hs5t hs1) fun hn => ?_; rw [hn]
       refine cX (hs5t hs2) fun hn => ?_; rw [hn]
       refine bQ (rT (?_))
       refine cY aB fun hn => ?_; rw [hn]
       refine cY hs1 fun hn => ?_; rw [hn]
       refine cY hs2 fun hn => ?_; rw [hn]
       refine cY hs3 fun hn => ?_; rw [hn]
       refine cY hs4 fun hn => ?_; rw [hn]
       refine cY hs5 fun hn => ?_; rw [hn]
       refine cY (hs5t hs1) fun hn => ?_; rw [hn]
       refine cY (hs5t hs2) fun hn => ?_; rw [hn]
       obtain rfl := si H
       exact bk
      ·refine bH (nT (aD ?_))
       refine cX aB fun hn => ?_; rw [hn]
       refine cX hs1 fun hn => ?_; rw [hn]
       refine cX hs2 fun hn => ?_; rw [hn]
       refine cX hs3 fun hn => ?_; rw [hn]
       refine cX hs4 fun hn => ?_; rw [hn]
       refine cX hs5 fun hn => ?_; rw [hn]
       refine cX (hs5t hs1) fun hn => ?_; rw [hn]
       refine cX (hs5t hs2) fun hn => ?_; rw [hn]
       refine aP (aH (v := .int .i64 (1)) rfl (nl (aD ?_)))
       refine cX aB fun hn => ?_; rw [hn]
       refine cX hs1 fun hn => ?_; rw [hn]
       refine cX hs2 fun hn => ?_; rw [hn]
       refine cX hs3 fun hn => ?_; rw [hn]
       refine cX hs4 fun hn => ?_; rw [hn]
       refine cX hs5 fun hn => ?_; rw [hn]
       refine cX (hs5t hs1) fun hn => ?_; rw [hn]
       refine cX (hs5t hs2) fun hn => ?_; rw [hn]
       refine aP (aI (bJ ty32 rfl (hs5t hs3) rfl) (aF (v := .int .i64 (1)) rfl (bdo H fun r49 h50 H => (f1 (cG (c_laws_markDisk r24 (x26.1, x26.2.1, x26.2.2.1, ()) 1 h50) (bF (bF (bF bG))) (fun _ => (bF (bF (bF bG)))) rfl (.cons (dl5t dl4) (.cons (dl5t dl4) (.cons (dl5t dl4) .nil))) aO) fun u51 => (aH rfl (nl (aD ?_)))))))
       refine cX aB fun hn => ?_; rw [hn]
       refine cX hs1 fun hn => ?_; rw [hn]
       refine cX hs2 fun hn => ?_; rw [hn]
       refine cX hs3 fun hn => ?_; rw [hn]
       refine cX hs4 fun hn => ?_; rw [hn]
       refine cX hs5 fun hn => ?_; rw [hn]
       refine cX (hs5t hs1) fun hn => ?_; rw [hn]
       refine cX (hs5t hs2) fun hn => ?_; rw [hn]
       refine cX (hs5t hs3) fun hn => ?_; rw [hn]
       refine cX (hs5t hs4) fun hn => ?_; rw [hn]
       refine cX (hs5t hs5) fun hn => ?_; rw [hn]
       refine aP (aH (v := .int .i64 (1)) rfl (nl (aD ?_)))
       refine cX hs3 fun hn => ?_; rw [hn]
       refine cX hs4 fun hn => ?_; rw [hn]
       refine cX hs5 fun hn => ?_; rw [hn]
       refine cX (hs5t hs1) fun hn => ?_; rw [hn]
       refine cX (hs5t hs2) fun hn => ?_; rw [hn]
       refine cX (hs5t hs3) fun hn => ?_; rw [hn]
       refine cX (hs5t hs4) fun hn => ?_; rw [hn]
       refine cX (hs5t hs5) fun hn => ?_; rw [hn]
       refine aP (aI (bJ ty32 rfl (hs5t (hs5t hs1)) rfl) (aF (v := .int .i64 (1)) rfl (bdo H fun r52 h53 H => (aI (bN (c_laws_heldDisk (r49.2.1, r49.2.2.1, r49.2.2.2.1, r24.2.2.2) (x26.1, x26.2.1, x26.2.2.1, ()) 1 h53) rfl (aC (bL aB) (aC (bL hs1) (aC (bL hs2) aO)))) (aH rfl (nl (aD (aD ?_))))))))
       refine cX hs3 fun hn => ?_; rw [hn]
       refine cX hs4 fun hn => ?_; rw [hn]
       refine cX hs5 fun hn => ?_; rw [hn]
       refine cX (hs5t hs1) fun hn => ?_; rw [hn]
       refine cX (hs5t hs2) fun hn => ?_; rw [hn]
       refine cX (hs5t hs3) fun hn => ?_; rw [hn]
       refine cX (hs5t hs4) fun hn => ?_; rw [hn]
       refine cX (hs5t hs5) fun hn => ?_; rw [hn]
       refine aP (aF rfl (aG (cP rfl rfl) (nl (cH H rfl (fun h54 H => ?_) (fun h54 H => ?_)))))
       ·refine aD ?_
        refine cX hs3 fun hn => ?_; rw [hn]
        refine cX hs4 fun hn => ?_; rw [hn]
        refine cX hs5 fun hn => ?_; rw [hn]
        refine cX (hs5t hs1) fun hn => ?_; rw [hn]
        refine cX (hs5t hs2) fun hn => ?_; rw [hn]
        refine cX (hs5t hs3) fun hn => ?_; rw [hn]
        refine cX (hs5t hs4) fun hn => ?_; rw [hn]
        refine cX (hs5t hs5) fun hn => ?_; rw [hn]
        refine aP (aH (v := .bool (false)) rfl (nl ?_))
        refine cX hs3 fun hn => ?_; rw [hn]
        refine cX hs4 fun hn => ?_; rw [hn]
        refine cX hs5 fun hn => ?_; rw [hn]
        refine cX (hs5t hs1) fun hn => ?_; rw [hn]
        refine cX (hs5t hs2) fun hn => ?_; rw [hn]
        refine cX (hs5t hs3) fun hn => ?_; rw [hn]
        refine cX (hs5t hs4) fun hn => ?_; rw [hn]
        refine cX (hs5t hs5) fun hn => ?_; rw [hn]
        refine bQ (rT (?_))
        refine cY hs3 fun hn => ?_; rw [hn]
        refine cY hs4 fun hn => ?_; rw [hn]
        refine cY hs5 fun hn => ?_; rw [hn]
        refine cY (hs5t hs1) fun hn => ?_; rw [hn]
        refine cY (hs5t hs2) fun hn => ?_; rw [hn]
        refine cY (hs5t hs3) fun hn => ?_; rw [hn]
        refine cY (hs5t hs4) fun hn => ?_; rw [hn]
        refine cY (hs5t hs5) fun hn => ?_; rw [hn]
        obtain rfl := si H
        exact bk
       ·refine bH (nT (aD (aD ?_)))
        refine cX hs3 fun hn => ?_; rw [hn]
        refine cX hs4 fun hn => ?_; rw [hn]
        refine cX hs5 fun hn => ?_; rw [hn]
        refine cX (hs5t hs1) fun hn => ?_; rw [hn]
        refine cX (hs5t hs2) fun hn => ?_; rw [hn]
        refine cX (hs5t hs3) fun hn => ?_; rw [hn]
        refine cX (hs5t hs4) fun hn => ?_; rw [hn]
        refine cX (hs5t hs5) fun hn => ?_; rw [hn]
        refine aP (aF rfl (aF rfl (aG (cR rfl rfl) (nl (cH H rfl (fun h55 H => ?_) (fun h55 H => ?_))))))
        ·refine aD ?_
         refine cX hs3 fun hn => ?_; rw [hn]
         refine cX hs4 fun hn => ?_; rw [hn]
         refine cX hs5 fun hn => ?_; rw [hn]
         refine cX (hs5t hs1) fun hn => ?_; rw [hn]
         refine cX (hs5t hs2) fun hn => ?_; rw [hn]
         refine cX (hs5t hs3) fun hn => ?_; rw [hn]
         refine cX (hs5t hs4) fun hn => ?_; rw [hn]
         refine cX (hs5t hs5) fun hn => ?_; rw [hn]
         refine aP (aH (v := .bool (false)) rfl (nl ?_))
         refine cX hs3 fun hn => ?_; rw [hn]
         refine cX hs4 fun hn => ?_; rw [hn]
         refine cX hs5 fun hn => ?_; rw [hn]
         refine cX (hs5t hs1) fun hn => ?_; rw [hn]
         refine cX (hs5t hs2) fun hn => ?_; rw [hn]
         refine cX (hs5t hs3) fun hn => ?_; rw [hn]
         refine cX (hs5t hs4) fun hn => ?_; rw [hn]
         refine cX (hs5t hs5) fun hn => ?_; rw [hn]
         refine bQ (rT (?_))
         refine cY hs3 fun hn => ?_; rw [hn]
         refine cY hs4 fun hn => ?_; rw [hn]
         refine cY hs5 fun hn => ?_; rw [hn]
         refine cY (hs5t hs1) fun hn => ?_; rw [hn]
         refine cY (hs5t hs2) fun hn => ?_; rw [hn]
         refine cY (hs5t hs3) fun hn => ?_; rw [hn]
         refine cY (hs5t hs4) fun hn => ?_; rw [hn]
         refine cY (hs5t hs5) fun hn => ?_; rw [hn]
         obtain rfl := si H
         exact bk
        ·refine bH (nT (aD ?_))
         refine cX hs3 fun hn => ?_; rw [hn]
         refine cX hs4 fun hn => ?_; rw [hn]
         refine cX hs5 fun hn => ?_; rw [hn]
         refine cX (hs5t hs1) fun hn => ?_; rw [hn]
         refine cX (hs5t hs2) fun hn => ?_; rw [hn]
         refine cX (hs5t hs3) fun hn => ?_; rw [hn]
         refine cX (hs5t hs4) fun hn => ?_; rw [hn]
         refine cX (hs5t hs5) fun hn => ?_; rw [hn]
         refine aP (aI (bJ ty26 rfl (hs5t (hs5t hs4)) rfl) (f1 (cF (c_laws_toDisk v0 (x_v0.1, x_v0.2.1, x_v0.2.2.1, ()) h12) (fun _ => (bF (bF (bF bG)))) rfl (aC (aL (aS aR.s.s.s.s.s.s.s.s.s)) (aC (aL aR.s.s.s.s.s.s.s.s.s.s.s) (aC (aL (aS aR.s.s.s.s.s.s.s.s)) aO)))) fun x56 => (aF rfl (f1 (cF (c_laws_toStepS v1 x_v1 h15) (fun _ => (bF bG)) rfl (aC (aL (aS aR.s.s.s.s.s.s.s)) aO)) fun x57 => (aF rfl (f1 (cF (c_impl_DiskTo r11 (x56.1, x56.2.1, x56.2.2.1, ()) r14 x57 v2 h25) (fun _ => (bF (bF (bF bG)))) rfl (aC (bL hs1) (aC (bL hs2) (aC (bL hs3) (aC (bL aB) aO))))) fun x58 => (f1 (cD ty32) fun g59 => (stb (cs' := [.slice x58.1.1 r24.1.length x58.1.2, .slice x58.2.1.1 r24.2.1.length x58.2.1.2, .slice x58.2.2.1.1 r24.2.2.1.length x58.2.2.1.2, .int .i64 (r24.2.2.2)]) ty32 cZ (nl ?_)))))))))
         refine aD (aD ?_)
         refine cX (hs5t (hs5t hs1)) fun hn => ?_; rw [hn]
         refine cX (hs5t (hs5t hs2)) fun hn => ?_; rw [hn]
         refine cX (hs5t (hs5t hs3)) fun hn => ?_; rw [hn]
         refine cX (hs5t (hs5t hs4)) fun hn => ?_; rw [hn]
         refine cX (hs5t (hs5t hs5)) fun hn => ?_; rw [hn]
         refine cX (hs5t (hs5t (hs5t hs1))) fun hn => ?_; rw [hn]
         refine cX (hs5t (hs5t (hs5t hs2))) fun hn => ?_; rw [hn]
         refine cX (hs5t (hs5t (hs5t hs3))) fun hn => ?_; rw [hn]
         refine aP (aI (bJ ty32 rfl aB rfl) (aI (bJ ty32 rfl (hs5t (hs5t (hs5t (hs5t hs1)))) rfl) (aI (bN (c_laws_eqDisk r24 (x58.1, x58.2.1, x58.2.2.1, ()) r17 (x19.1, x19.2.1, x19.2.2.1, ()) h29) rfl (aC (bL hs1) (aC (bL hs2) (aC (bL hs3) (aC (aL aR) (aC (aL aR.s) (aC (aL aR.s.s) aO))))))) (aG (cV rfl) (nl (cH H rfl (fun h60 H => ?_) (fun h60 H => ?_)))))))
         ·refine aD ?_
          refine cX (hs5t (hs5t hs1)) fun hn => ?_; rw [hn]
          refine cX (hs5t (hs5t hs2)) fun hn => ?_; rw [hn]
          refine cX (hs5t (hs5t hs3)) fun hn => ?_; rw [hn]
          refine cX (hs5t (hs5t hs4)) fun hn => ?_; rw [hn]
          refine cX (hs5t (hs5t hs5)) fun hn => ?_; rw [hn]
          refine cX (hs5t (hs5t (hs5t hs1))) fun hn => ?_; rw [hn]
          refine cX (hs5t (hs5t (hs5t hs2))) fun hn => ?_; rw [hn]
          refine cX (hs5t (hs5t (hs5t hs3))) fun hn => ?_; rw [hn]
          refine aP (aH (v := .bool (false)) rfl (nl ?_))
          refine cX (hs5t (hs5t hs1)) fun hn => ?_; rw [hn]
          refine cX (hs5t (hs5t hs2)) fun hn => ?_; rw [hn]
          refine cX (hs5t (hs5t hs3)) fun hn => ?_; rw [hn]
          refine cX (hs5t (hs5t hs4)) fun hn => ?_; rw [hn]
          refine cX (hs5t (hs5t hs5)) fun hn => ?_; rw [hn]
          refine cX (hs5t (hs5t (hs5t hs1))) fun hn => ?_; rw [hn]
          refine cX (hs5t (hs5t (hs5t hs2))) fun hn => ?_; rw [hn]
          refine cX (hs5t (hs5t (hs5t hs3))) fun hn => ?_; rw [hn]
          refine bQ (rT (?_))
          refine cY (hs5t (hs5t hs1)) fun hn => ?_; rw [hn]
          refine cY (hs5t (hs5t hs2)) fun hn => ?_; rw [hn]
          refine cY (hs5t (hs5t hs3)) fun hn => ?_; rw [hn]
          refine cY (hs5t (hs5t hs4)) fun hn => ?_; rw [hn]
          refine cY (hs5t (hs5t hs5)) fun hn => ?_; rw [hn]
          refine cY (hs5t (hs5t (hs5t hs1))) fun hn => ?_; rw [hn]
          refine cY (hs5t (hs5t (hs5t hs2))) fun hn => ?_; rw [hn]
          refine cY (hs5t (hs5t (hs5t hs3))) fun hn => ?_; rw [hn]
          obtain rfl := si H
          exact bk
         ·refine bH (nT (aD ?_))
          refine cX (hs5t (hs5t hs1)) fun hn => ?_; rw [hn]
          refine cX (hs5t (hs5t hs2)) fun hn => ?_; rw [hn]
          refine cX (hs5t (hs5t hs3)) fun hn => ?_; rw [hn]
          refine cX (hs5t (hs5t hs4)) fun hn => ?_; rw [hn]
          refine cX (hs5t (hs5t hs5)) fun hn => ?_; rw [hn]
          refine cX (hs5t (hs5t (hs5t hs1))) fun hn => ?_; rw [hn]
          refine cX (hs5t (hs5t (hs5t hs2))) fun hn => ?_; rw [hn]
          refine cX (hs5t (hs5t (hs5t hs3))) fun hn => ?_; rw [hn]
          refine aP (aH (v := .int .i64 (1)) rfl (nl (aD ?_)))
          refine cX (hs5t (hs5t hs1)) fun hn => ?_; rw [hn]
          refine cX (hs5t (hs5t hs2)) fun hn => ?_; rw [hn]
          refine cX (hs5t (hs5t hs3)) fun hn => ?_; rw [hn]
          refine cX (hs5t (hs5t hs4)) fun hn => ?_; rw [hn]
          refine cX (hs5t (hs5t hs5)) fun hn => ?_; rw [hn]
          refine cX (hs5t (hs5t (hs5t hs1))) fun hn => ?_; rw [hn]
          refine cX (hs5t (hs5t (hs5t hs2))) fun hn => ?_; rw [hn]
          refine cX (hs5t (hs5t (hs5t hs3))) fun hn => ?_; rw [hn]
          refine aP (aI (bJ ty32 rfl (hs5t (hs5t (hs5t hs4))) rfl) (aF (v := .int .i64 (1)) rfl (aI (bN (c_laws_heldDisk (r49.2.1, r49.2.2.1, r49.2.2.2.1, r24.2.2.2) (x26.1, x26.2.1, x26.2.2.1, ()) 1 h53) rfl (aC (bL (hs5t hs3)) (aC (bL (hs5t hs4)) (aC (bL (hs5t hs5)) aO)))) (aH rfl (nl (aD (aD ?_)))))))
          refine cX (hs5t (hs5t hs1)) fun hn => ?_; rw [hn]
          refine cX (hs5t (hs5t hs2)) fun hn => ?_; rw [hn]
          refine cX (hs5t (hs5t hs3)) fun hn => ?_; rw [hn]
          refine cX (hs5t (hs5t hs4)) fun hn => ?_; rw [hn]
          refine cX (hs5t (hs5t hs5)) fun hn => ?_; rw [hn]
          refine cX (hs5t (hs5t (hs5t hs1))) fun hn => ?_; rw [hn]
          refine cX (hs5t (hs5t (hs5t hs2))) fun hn => ?_; rw [hn]
          refine cX (hs5t (hs5t (hs5t hs3))) fun hn => ?_; rw [hn]
          refine aP (aF rfl (aG (cP rfl rfl) (nl (cH H rfl (fun h61 H => ?_) (fun h61 H => ?_)))))
          ·refine aD ?_
           refine cX (hs5t (hs5t hs1)) fun hn => ?_; rw [hn]
           refine cX (hs5t (hs5t hs2)) fun hn => ?_; rw [hn]
           refine cX (hs5t (hs5t hs3)) fun hn => ?_; rw [hn]
           refine cX (hs5t (hs5t hs4)) fun hn => ?_; rw [hn]
           refine cX (hs5t (hs5t hs5)) fun hn => ?_; rw [hn]
           refine cX (hs5t (hs5t (hs5t hs1))) fun hn => ?_; rw [hn]
           refine cX (hs5t (hs5t (hs5t hs2))) fun hn => ?_; rw [hn]
           refine cX (hs5t (hs5t (hs5t hs3))) fun hn => ?_; rw [hn]
           refine aP (aH (v := .bool (false)) rfl (nl ?_))
           refine cX (hs5t (hs5t hs1)) fun hn => ?_; rw [hn]
           refine cX (hs5t (hs5t hs2)) fun hn => ?_; rw [hn]
           refine cX (hs5t (hs5t hs3)) fun hn => ?_; rw [hn]
           refine cX (hs5t (hs5t hs4)) fun hn => ?_; rw [hn]
           refine cX (hs5t (hs5t hs5)) fun hn => ?_; rw [hn]
           refine cX (hs5t (hs5t (hs5t hs1))) fun hn => ?_; rw [hn]
           refine cX (hs5t (hs5t (hs5t hs2))) fun hn => ?_; rw [hn]
           refine cX (hs5t (hs5t (hs5t hs3))) fun hn => ?_; rw [hn]
           refine bQ (rT (?_))
           refine cY (hs5t (hs5t hs1)) fun hn => ?_; rw [hn]
           refine cY (hs5t (hs5t hs2)) fun hn => ?_; rw [hn]
           refine cY (hs5t (hs5t hs3)) fun hn => ?_; rw [hn]
           refine cY (hs5t (hs5t hs4)) fun hn => ?_; rw [hn]
           refine cY (hs5t (hs5t hs5)) fun hn => ?_; rw [hn]
           refine cY (hs5t (hs5t (hs5t hs1))) fun hn => ?_; rw [hn]
           refine cY (hs5t (hs5t (hs5t hs2))) fun hn => ?_; rw [hn]
           refine cY (hs5t (hs5t (hs5t hs3))) fun hn => ?_; rw [hn]
           obtain rfl := si H
           exact bk
          ·refine bH (nT (aD (aD ?_)))
           refine cX (hs5t (hs5t hs1)) fun hn => ?_; rw [hn]
           refine cX (hs5t (hs5t hs2)) fun hn => ?_; rw [hn]
           refine cX (hs5t (hs5t hs3)) fun hn => ?_; rw [hn]
           refine cX (hs5t (hs5t hs4)) fun hn => ?_; rw [hn]
           refine cX (hs5t (hs5t hs5)) fun hn => ?_; rw [hn]
           refine cX (hs5t (hs5t (hs5t hs1))) fun hn => ?_; rw [hn]
           refine cX (hs5t (hs5t (hs5t hs2))) fun hn => ?_; rw [hn]
           refine cX (hs5t (hs5t (hs5t hs3))) fun hn => ?_; rw [hn]
           refine aP (aF rfl (aF rfl (aG (cR rfl rfl) (nl (cH H rfl (fun h62 H => ?_) (fun h62 H => ?_))))))
           ·refine aD ?_
            refine cX (hs5t (hs5t hs1)) fun hn => ?_; rw [hn]
            refine cX (hs5t (hs5t hs2)) fun hn => ?_; rw [hn]
            refine cX (hs5t (hs5t hs3)) fun hn => ?_; rw [hn]
            refine cX (hs5t (hs5t hs4)) fun hn => ?_; rw [hn]
            refine cX (hs5t (hs5t hs5)) fun hn => ?_; rw [hn]
            refine cX (hs5t (hs5t (hs5t hs1))) fun hn => ?_; rw [hn]
            refine cX (hs5t (hs5t (hs5t hs2))) fun hn => ?_; rw [hn]
            refine cX (hs5t (hs5t (hs5t hs3))) fun hn => ?_; rw [hn]
            refine aP (aH (v := .bool (false)) rfl (nl ?_))
            refine cX (hs5t (hs5t hs1)) fun hn => ?_; rw [hn]
            refine cX (hs5t (hs5t hs2)) fun hn => ?_; rw [hn]
            refine cX (hs5t (hs5t hs3)) fun hn => ?_; rw [hn]
            refine cX (hs5t (hs5t hs4)) fun hn => ?_; rw [hn]
            refine cX (hs5t (hs5t hs5)) fun hn => ?_; rw [hn]
            refine cX (hs5t (hs5t (hs5t hs1))) fun hn => ?_; rw [hn]
            refine cX (hs5t (hs5t (hs5t hs2))) fun hn => ?_; rw [hn]
            refine cX (hs5t (hs5t (hs5t hs3))) fun hn => ?_; rw [hn]
            refine bQ (rT (?_))
            refine cY (hs5t (hs5t hs1)) fun hn => ?_; rw [hn]
            refine cY (hs5t (hs5t hs2)) fun hn => ?_; rw [hn]
            refine cY (hs5t (hs5t hs3)) fun hn => ?_; rw [hn]
            refine cY (hs5t (hs5t hs4)) fun hn => ?_; rw [hn]
            refine cY (hs5t (hs5t hs5)) fun hn => ?_; rw [hn]
            refine cY (hs5t (hs5t (hs5t hs1))) fun hn => ?_; rw [hn]
            refine cY (hs5t (hs5t (hs5t hs2))) fun hn => ?_; rw [hn]
            refine cY (hs5t (hs5t (hs5t hs3))) fun hn => ?_; rw [hn]
            obtain rfl := si H
            exact bk
           ·refine bH (nT (aD ?_))
            refine cX (hs5t (hs5t hs1)) fun hn => ?_; rw [hn]
            refine cX (hs5t (hs5t hs2)) fun hn => ?_; rw [hn]
            refine cX (hs5t (hs5t hs3)) fun hn => ?_; rw [hn]
            refine cX (hs5t (hs5t hs4)) fun hn => ?_; rw [hn]
            refine cX (hs5t (hs5t hs5)) fun hn => ?_; rw [hn]
            refine cX (hs5t (hs5t (hs5t hs1))) fun hn => ?_; rw [hn]
            refine cX (hs5t (hs5t (hs5t hs2))) fun hn => ?_; rw [hn]
            refine cX (hs5t (hs5t (hs5t hs3))) fun hn => ?_; rw [hn]
            refine aP (aH (v := .bool (true)) rfl (nl ?_))
            refine cX (hs5t (hs5t hs1)) fun hn => ?_; rw [hn]
            refine cX (hs5t (hs5t hs2)) fun hn => ?_; rw [hn]
            refine cX (hs5t (hs5t hs3)) fun hn => ?_; rw [hn]
            refine cX (hs5t (hs5t hs4)) fun hn => ?_; rw [hn]
            refine cX (hs5t (hs5t hs5)) fun hn => ?_; rw [hn]
            refine cX (hs5t (hs5t (hs5t hs1))) fun hn => ?_; rw [hn]
            refine cX (hs5t (hs5t (hs5t hs2))) fun hn => ?_; rw [hn]
            refine cX (hs5t (hs5t (hs5t hs3))) fun hn => ?_; rw [hn]
            refine bQ ?_
            refine cY (hs5t (hs5t hs1)) fun hn => ?_; rw [hn]
            refine cY (hs5t (hs5t hs2)) fun hn => ?_; rw [hn]
            refine cY (hs5t (hs5t hs3)) fun hn => ?_; rw [hn]
            refine cY (hs5t (hs5t hs4)) fun hn => ?_; rw [hn]
            refine cY (hs5t (hs5t hs5)) fun hn => ?_; rw [hn]
            refine cY (hs5t (hs5t (hs5t hs1))) fun hn => ?_; rw [hn]
            refine cY (hs5t (hs5t (hs5t hs2))) fun hn => ?_; rw [hn]
            refine cY (hs5t (hs5t (hs5t hs3))) fun hn => ?_; rw [hn]
            obtain rfl := si H
            exact bk
theorem mt_total (k : Int) (h0 : 0 ≤ k) (hk : k ≤ 1152921504606846976) : ∃ t, p_laws_markText k = some t := by
 unfold p_laws_markText
 by_cases hz : k ≤ 0
 ·simp [hz]
 ·simp only [hz, decide_false, cond_false]
  obtain ⟨e, he, hs⟩ := lp.rule (body := p_laws_markText_b0) (fun σ => 0 ≤ σ.1 ∧ ∃ j, j ≤ 61 ∧ σ.2.size + j ≤ 61 ∧ σ.1 < (2 : Int) ^ j) (fun σ => σ.1.toNat) (fun e => e.size ≤ 61) (fun σ hI => by
   obtain ⟨i0, j, j1, j2, j3⟩ := hI
   unfold p_laws_markText_b0
   by_cases hp : 0 < σ.1
   ·left
    have hj : 0 < j := by
     rcases Nat.eq_zero_or_pos j with rfl | h
     ·simp at j3; omega
     ·exact h
    have hpow : (2 : Int) ^ j = 2 * 2 ^ (j - 1) := by
     rw [show j = (j - 1) + 1 by omega, Int.pow_succ]; simp; omega
    have hbig : (2 : Int) ^ j ≤ 2 ^ 61 := by
     have : (2 : Nat) ^ j ≤ 2 ^ 61 := Nat.pow_le_pow_right (by decide) j1
     have h2 : ((2 ^ j : Nat) : Int) ≤ ((2 ^ 61 : Nat) : Int) := by omega
     simpa using h2
    have hm : 0 ≤ σ.1.tmod 10 ∧ σ.1.tmod 10 < 10 := by
     rw [Int.tmod_eq_emod_of_nonneg i0]; omega
    have hd : σ.1.tdiv 10 = σ.1 / 10 := Int.tdiv_eq_ediv_of_nonneg i0
    have g1 : I64 (σ.1.tmod 10) := by unfold I64; omega
    have g2 : I64 (48 + σ.1.tmod 10) := by unfold I64; omega
    have g3 : I64 (σ.1.tdiv 10) := by rw [hd]; unfold I64; omega
    have g4 : room ((s2 [b8 (48 + σ.1.tmod 10)]).size + σ.2.size) := by
     have : (s2 [b8 (48 + σ.1.tmod 10)]).size = 1 := rfl
     unfold room; omega
    refine ⟨(σ.1.tdiv 10, s2 [b8 (48 + σ.1.tmod 10)] ++ σ.2), by simp only [hp, decide_true, cond_true, gd.yes g1, gd.yes g2, gd.yes g3, gd.yes g4], ⟨by rw [hd]; show 0 ≤ σ.1 / 10; omega, j - 1, by omega, ?_, ?_⟩, ?_⟩
    ·have : (s2 [b8 (48 + σ.1.tmod 10)] ++ σ.2).size = 1 + σ.2.size := by rw [ByteArray.size_append]; rfl
     show (s2 [b8 (48 + σ.1.tmod 10)] ++ σ.2).size + (j - 1) ≤ 61
     omega
    ·show σ.1.tdiv 10 < _
     rw [hd]; omega
    ·show (σ.1.tdiv 10).toNat < σ.1.toNat
     rw [hd]; omega
   ·right
    exact ⟨σ.2, by simp [hp], by omega⟩) (s := (k, (⟨#[]⟩ : ByteArray))) ⟨h0, 61, Nat.le_refl _, Nat.le_refl _, by show k < _; omega⟩
  rw [he, bd_some]
  have : room ((⟨#[109]⟩ : ByteArray).size + e.size) := by
   have h1 : (⟨#[109]⟩ : ByteArray).size = 1 := rfl
   unfold room; omega
  rw [gd.yes this]
  exact ⟨_, rfl⟩
theorem s_IntS (a : (List Int)) (left : Int) (h0 : 0 ≤ left) (h1 : left ≤ 1048576) (ok : Dp.ok a) : p_laws_szIntS a left = some (cut left (Wt.w a)) := by
 have hm : a.length ≤ 9223372036854775807 := ok.1
 unfold p_laws_szIntS
 have hw : Wt.w a = a.length := by show a.length + sumN a.length (fun i => Wt.w (nth a i)) = _; rw [sumN_zero (f := fun i => Wt.w (nth a i)) fun i _ => rfl]; rfl
 rw [hw]; exact sz_strl (by unfold I64; omega)
theorem s_RowS (a : (List Row)) (left : Int) (h0 : 0 ≤ left) (h1 : left ≤ 1048576) (ok : Dp.ok a) : p_laws_szRowS a left = some (cut left (Wt.w a)) := by
 have hm : a.length ≤ 9223372036854775807 := ok.1
 unfold p_laws_szRowS
 have hw : Wt.w a = a.length := by show a.length + sumN a.length (fun i => Wt.w (nth a i)) = _; rw [sumN_zero (f := fun i => Wt.w (nth a i)) fun i _ => rfl]; rfl
 rw [hw]; exact sz_strl (by unfold I64; omega)
theorem s_RowSS (a : (List (List Row))) (left : Int) (h0 : 0 ≤ left) (h1 : left ≤ 1048576) (ok : Dp.ok a) : p_laws_szRowSS a left = some (cut left (Wt.w a)) := by
 have hm : a.length ≤ 9223372036854775807 := ok.1
 unfold p_laws_szRowSS
 refine sz_str (w2 := sumN a.length fun i => Wt.w (nth a i)) (by unfold I64; omega) fun hc => ?_
 rw [cut_lt] at hc; rw [← cut_pos hc]
 exact sz_loop (l := a) (by omega) (by omega) (fun k hk m m0 m1 => by
  unfold p_laws_szRowSS_b0
  simp only [dlt hk, cond_true, gd.yes (ixN hk), Int.toNat_natCast, s_RowS (nth a k) m m0 m1 (ok.2 k hk), bd_some, gd.yes (i64S hk hm)]
  by_cases hc : cut m (Wt.w (nth a k)) < 0 <;> simp [hc]) (fun m => by unfold p_laws_szRowSS_b0; simp)
theorem s_Part (a : Part) (left : Int) (h0 : 0 ≤ left) (h1 : left ≤ 1048576) (ok : Dp.ok a) : p_laws_szPart a left = some (cut left (Wt.w a)) := by
 have hw : Wt.w a = Wt.w a.1 + (Wt.w a.2) := by
  simp only [Wt.w]
  first | done | omega
 rw [hw]; unfold p_laws_szPart
 refine sz_step (s_IntS a.1 left h0 h1 ok.1) fun c0 => ?_
 exact sz_last (s_RowSS a.2 (cut left (Wt.w a.1)) (cut_nn c0) (cut_rng h1) ok.2)
theorem s_File (a : File) (left : Int) (h0 : 0 ≤ left) (h1 : left ≤ 1048576) (ok : Dp.ok a) : p_laws_szFile a left = some (cut left (Wt.w a)) := by
 have hw : Wt.w a = Wt.w a.2 := by
  simp only [Wt.w]
  first | done | omega
 rw [hw]; unfold p_laws_szFile
 exact sz_last (s_Part a.2 left h0 h1 ok.2)
theorem s_FileS (a : (List File)) (left : Int) (h0 : 0 ≤ left) (h1 : left ≤ 1048576) (ok : Dp.ok a) : p_laws_szFileS a left = some (cut left (Wt.w a)) := by
 have hm : a.length ≤ 9223372036854775807 := ok.1
 unfold p_laws_szFileS
 refine sz_str (w2 := sumN a.length fun i => Wt.w (nth a i)) (by unfold I64; omega) fun hc => ?_
 rw [cut_lt] at hc; rw [← cut_pos hc]
 exact sz_loop (l := a) (by omega) (by omega) (fun k hk m m0 m1 => by
  unfold p_laws_szFileS_b0
  simp only [dlt hk, cond_true, gd.yes (ixN hk), Int.toNat_natCast, s_File (nth a k) m m0 m1 (ok.2 k hk), bd_some, gd.yes (i64S hk hm)]
  by_cases hc : cut m (Wt.w (nth a k)) < 0 <;> simp [hc]) (fun m => by unfold p_laws_szFileS_b0; simp)
theorem s_Tag (a : Tag) (left : Int) (h0 : 0 ≤ left) (h1 : left ≤ 1048576) (_ : Dp.ok a) (so : So.so a) : p_laws_szTag a left = some (cut left (Wt.w a)) := by
 have hw : Wt.w a = Wt.w a.1 + (Wt.w a.2) := by
  simp only [Wt.w]
  first | done | omega
 rw [hw]; unfold p_laws_szTag
 have z0 : (a.1).size ≤ 9223372036854775807 := so.1
 have b0 : 0 ≤ left := h0; have d0 : left ≤ 1048576 := h1
 refine sz_str (by unfold I64; omega) fun c0 => ?_
 rw [show left - ((a.1).size : Int) = cut left (a.1).size from cut_pos (fun h => c0 (cut_lt.2 h))]
 have z1 : (a.2).size ≤ 9223372036854775807 := so.2
 have b1 : 0 ≤ cut left (a.1).size := (cut_nn c0); have d1 : cut left (a.1).size ≤ 1048576 := (cut_rng h1)
 exact sz_strl (by unfold I64; omega)
theorem s_TagS (a : (List Tag)) (left : Int) (h0 : 0 ≤ left) (h1 : left ≤ 1048576) (ok : Dp.ok a) (so : So.so a) : p_laws_szTagS a left = some (cut left (Wt.w a)) := by
 have hm : a.length ≤ 9223372036854775807 := ok.1
 unfold p_laws_szTagS
 refine sz_str (w2 := sumN a.length fun i => Wt.w (nth a i)) (by unfold I64; omega) fun hc => ?_
 rw [cut_lt] at hc; rw [← cut_pos hc]
 exact sz_loop (l := a) (by omega) (by omega) (fun k hk m m0 m1 => by
  unfold p_laws_szTagS_b0
  simp only [dlt hk, cond_true, gd.yes (ixN hk), Int.toNat_natCast, s_Tag (nth a k) m m0 m1 (ok.2 k hk) (so k hk), bd_some, gd.yes (i64S hk hm)]
  by_cases hc : cut m (Wt.w (nth a k)) < 0 <;> simp [hc]) (fun m => by unfold p_laws_szTagS_b0; simp)
theorem s_TagSS (a : (List (List Tag))) (left : Int) (h0 : 0 ≤ left) (h1 : left ≤ 1048576) (ok : Dp.ok a) (so : So.so a) : p_laws_szTagSS a left = some (cut left (Wt.w a)) := by
 have hm : a.length ≤ 9223372036854775807 := ok.1
 unfold p_laws_szTagSS
 refine sz_str (w2 := sumN a.length fun i => Wt.w (nth a i)) (by unfold I64; omega) fun hc => ?_
 rw [cut_lt] at hc; rw [← cut_pos hc]
 exact sz_loop (l := a) (by omega) (by omega) (fun k hk m m0 m1 => by
  unfold p_laws_szTagSS_b0
  simp only [dlt hk, cond_true, gd.yes (ixN hk), Int.toNat_natCast, s_TagS (nth a k) m m0 m1 (ok.2 k hk) (so k hk), bd_some, gd.yes (i64S hk hm)]
  by_cases hc : cut m (Wt.w (nth a k)) < 0 <;> simp [hc]) (fun m => by unfold p_laws_szTagSS_b0; simp)
theorem s_Disk (a : Disk) (left : Int) (h0 : 0 ≤ left) (h1 : left ≤ 1048576) (ok : Dp.ok a) (so : So.so a) : p_laws_szDisk a left = some (cut left (Wt.w a)) := by
 have hw : Wt.w a = Wt.w a.1 + (Wt.w a.2.1 + (Wt.w a.2.2.1)) := by
  simp only [Wt.w]
  first | done | omega
 rw [hw]; unfold p_laws_szDisk
 refine sz_step (s_FileS a.1 left h0 h1 ok.1) fun c0 => ?_
 refine sz_step (s_IntS a.2.1 (cut left (Wt.w a.1)) (cut_nn c0) (cut_rng h1) ok.2.1) fun c1 => ?_
 exact sz_last (s_TagSS a.2.2.1 (cut (cut left (Wt.w a.1)) (Wt.w a.2.1)) (cut_nn c1) (cut_rng (cut_rng h1)) ok.2.2.1 so.2.2.1)
theorem t_IntS (a : (List Int)) (_ : Dp.ok a) (hw : Wt.w a ≤ 1048576) : p_laws_toIntS a = some a := by
 have hm : a.length ≤ 1048576 := Nat.le_trans wL_le hw
 unfold p_laws_toIntS
 rw [gd.yes (by unfold many; omega)]
 simp only [Int.toNat_natCast]
 rw [to_loop (l := a) (by simp) (fun k hk r hr => by
  unfold p_laws_toIntS_b0
  have hk2 : k < r.length := by omega
  simp only [dlt hk, cond_true, gd.yes (ixN hk), gd.yes (ixN hk2), Int.toNat_natCast, gd.yes (i64S hk (by omega))]
  first | done | rfl) (fun r => by unfold p_laws_toIntS_b0; simp)]
 rfl
theorem t_Row (a : Row) (_ : Dp.ok a) (_ : Wt.w a ≤ 1048576) : p_laws_toRow a = some a := by
 unfold p_laws_toRow
 rfl
theorem t_RowS (a : (List Row)) (ok : Dp.ok a) (hw : Wt.w a ≤ 1048576) : p_laws_toRowS a = some a := by
 have hm : a.length ≤ 1048576 := Nat.le_trans wL_le hw
 unfold p_laws_toRowS
 rw [gd.yes (by unfold many; omega)]
 simp only [Int.toNat_natCast]
 rw [to_loop (l := a) (by simp) (fun k hk r hr => by
  unfold p_laws_toRowS_b0
  have hk2 : k < r.length := by omega
  simp only [dlt hk, cond_true, gd.yes (ixN hk), gd.yes (ixN hk2), Int.toNat_natCast, t_Row (nth a k) (ok.2 k hk) (Nat.le_trans (wL_el hk) hw), bd_some, gd.yes (i64S hk (by omega))]
  first | done | rfl) (fun r => by unfold p_laws_toRowS_b0; simp)]
 rfl
theorem t_RowSS (a : (List (List Row))) (ok : Dp.ok a) (hw : Wt.w a ≤ 1048576) : p_laws_toRowSS a = some a := by
 have hm : a.length ≤ 1048576 := Nat.le_trans wL_le hw
 unfold p_laws_toRowSS
 rw [gd.yes (by unfold many; omega)]
 simp only [Int.toNat_natCast]
 rw [to_loop (l := a) (by simp) (fun k hk r hr => by
  unfold p_laws_toRowSS_b0
  have hk2 : k < r.length := by omega
  simp only [dlt hk, cond_true, gd.yes (ixN hk), gd.yes (ixN hk2), Int.toNat_natCast, t_RowS (nth a k) (ok.2 k hk) (Nat.le_trans (wL_el hk) hw), bd_some, gd.yes (i64S hk (by omega))]
  first | done | rfl) (fun r => by unfold p_laws_toRowSS_b0; simp)]
 rfl
theorem t_Part (a : Part) (ok : Dp.ok a) (hw : Wt.w a ≤ 1048576) : p_laws_toPart a = some a := by
 unfold p_laws_toPart
 simp only [t_IntS a.1 ok.1 (by simp only [Wt.w] at hw ⊢; omega), t_RowSS a.2 ok.2 (by simp only [Wt.w] at hw ⊢; omega), bd_some]
theorem t_File (a : File) (ok : Dp.ok a) (hw : Wt.w a ≤ 1048576) : p_laws_toFile a = some a := by
 unfold p_laws_toFile
 simp only [t_Part a.2 ok.2 (by simp only [Wt.w] at hw ⊢; omega), bd_some]
theorem t_FileS (a : (List File)) (ok : Dp.ok a) (hw : Wt.w a ≤ 1048576) : p_laws_toFileS a = some a := by
 have hm : a.length ≤ 1048576 := Nat.le_trans wL_le hw
 unfold p_laws_toFileS
 rw [gd.yes (by unfold many; omega)]
 simp only [Int.toNat_natCast]
 rw [to_loop (l := a) (by simp) (fun k hk r hr => by
  unfold p_laws_toFileS_b0
  have hk2 : k < r.length := by omega
  simp only [dlt hk, cond_true, gd.yes (ixN hk), gd.yes (ixN hk2), Int.toNat_natCast, t_File (nth a k) (ok.2 k hk) (Nat.le_trans (wL_el hk) hw), bd_some, gd.yes (i64S hk (by omega))]
  first | done | rfl) (fun r => by unfold p_laws_toFileS_b0; simp)]
 rfl
theorem t_Tag (a : Tag) (_ : Dp.ok a) (_ : Wt.w a ≤ 1048576) : p_laws_toTag a = some a := by
 unfold p_laws_toTag
 rfl
theorem t_TagS (a : (List Tag)) (ok : Dp.ok a) (hw : Wt.w a ≤ 1048576) : p_laws_toTagS a = some a := by
 have hm : a.length ≤ 1048576 := Nat.le_trans wL_le hw
 unfold p_laws_toTagS
 rw [gd.yes (by unfold many; omega)]
 simp only [Int.toNat_natCast]
 rw [to_loop (l := a) (by simp) (fun k hk r hr => by
  unfold p_laws_toTagS_b0
  have hk2 : k < r.length := by omega
  simp only [dlt hk, cond_true, gd.yes (ixN hk), gd.yes (ixN hk2), Int.toNat_natCast, t_Tag (nth a k) (ok.2 k hk) (Nat.le_trans (wL_el hk) hw), bd_some, gd.yes (i64S hk (by omega))]
  first | done | rfl) (fun r => by unfold p_laws_toTagS_b0; simp)]
 rfl
theorem t_TagSS (a : (List (List Tag))) (ok : Dp.ok a) (hw : Wt.w a ≤ 1048576) : p_laws_toTagSS a = some a := by
 have hm : a.length ≤ 1048576 := Nat.le_trans wL_le hw
 unfold p_laws_toTagSS
 rw [gd.yes (by unfold many; omega)]
 simp only [Int.toNat_natCast]
 rw [to_loop (l := a) (by simp) (fun k hk r hr => by
  unfold p_laws_toTagSS_b0
  have hk2 : k < r.length := by omega
  simp only [dlt hk, cond_true, gd.yes (ixN hk), gd.yes (ixN hk2), Int.toNat_natCast, t_TagS (nth a k) (ok.2 k hk) (Nat.le_trans (wL_el hk) hw), bd_some, gd.yes (i64S hk (by omega))]
  first | done | rfl) (fun r => by unfold p_laws_toTagSS_b0; simp)]
 rfl
theorem t_Disk (a : Disk) (ok : Dp.ok a) (hw : Wt.w a ≤ 1048576) : p_laws_toDisk a = some a := by
 unfold p_laws_toDisk
 simp only [t_FileS a.1 ok.1 (by simp only [Wt.w] at hw ⊢; omega), t_IntS a.2.1 ok.2.1 (by simp only [Wt.w] at hw ⊢; omega), t_TagSS a.2.2.1 ok.2.2.1 (by simp only [Wt.w] at hw ⊢; omega), bd_some]
theorem q_IntS (a b : (List Int)) (ha : Dp.ok a) (_ : Dp.ok b) : p_laws_eqIntS a b = some (decide (a = b)) := by
 have hm : a.length ≤ 9223372036854775807 := ha.1
 unfold p_laws_eqIntS
 by_cases hl : a.length = b.length
 ·have hl2 : (a.length : Int) = (b.length : Int) := by omega
  simp only [hl2, decide_true, Bool.not_true, cond_false]
  refine eq_loop hl (fun k hk => ?_) ?_
  ·have hk2 : k < b.length := by omega
   unfold p_laws_eqIntS_b0
   simp only [dlt hk, cond_true, gd.yes (ixN hk), gd.yes (ixN hk2), Int.toNat_natCast, gd.yes (i64S hk hm)]
   by_cases h : nth a k = nth b k <;> simp [h]
  ·unfold p_laws_eqIntS_b0; simp
 ·have h2 : ¬ (a.length : Int) = (b.length : Int) := by omega
  have h3 : a ≠ b := fun e => hl (by rw [e])
  simp [h2, h3]
theorem q_Row (a b : Row) (_ : Dp.ok a) (hb : Dp.ok b) : p_laws_eqRow a b = some (decide (a = b)) := by
 have he : a = b ↔ a.1 = b.1 ∧ a.2 = b.2 := by
  constructor
  ·rintro rfl; simp
  ·rintro ⟨h0, h1⟩; exact Prod.ext h0 (h1)
 unfold p_laws_eqRow
 simp only [he]
 by_cases h0 : a.1 = b.1
 ·by_cases h1 : a.2 = b.2
  ·simp [h0, h1]
  ·simp [h0, h1]
 ·simp [h0]
theorem q_RowS (a b : (List Row)) (ha : Dp.ok a) (hb : Dp.ok b) : p_laws_eqRowS a b = some (decide (a = b)) := by
 have hm : a.length ≤ 9223372036854775807 := ha.1
 unfold p_laws_eqRowS
 by_cases hl : a.length = b.length
 ·have hl2 : (a.length : Int) = (b.length : Int) := by omega
  simp only [hl2, decide_true, Bool.not_true, cond_false]
  refine eq_loop hl (fun k hk => ?_) ?_
  ·have hk2 : k < b.length := by omega
   unfold p_laws_eqRowS_b0
   simp only [dlt hk, cond_true, gd.yes (ixN hk), gd.yes (ixN hk2), Int.toNat_natCast, q_Row (nth a k) (nth b k) (ha.2 k hk) (hb.2 k hk2), bd_some, gd.yes (i64S hk hm)]
   by_cases h : nth a k = nth b k <;> simp [h]
  ·unfold p_laws_eqRowS_b0; simp
 ·have h2 : ¬ (a.length : Int) = (b.length : Int) := by omega
  have h3 : a ≠ b := fun e => hl (by rw [e])
  simp [h2, h3]
theorem q_RowSS (a b : (List (List Row))) (ha : Dp.ok a) (hb : Dp.ok b) : p_laws_eqRowSS a b = some (decide (a = b)) := by
 have hm : a.length ≤ 9223372036854775807 := ha.1
 unfold p_laws_eqRowSS
 by_cases hl : a.length = b.length
 ·have hl2 : (a.length : Int) = (b.length : Int) := by omega
  simp only [hl2, decide_true, Bool.not_true, cond_false]
  refine eq_loop hl (fun k hk => ?_) ?_
  ·have hk2 : k < b.length := by omega
   unfold p_laws_eqRowSS_b0
   simp only [dlt hk, cond_true, gd.yes (ixN hk), gd.yes (ixN hk2), Int.toNat_natCast, q_RowS (nth a k) (nth b k) (ha.2 k hk) (hb.2 k hk2), bd_some, gd.yes (i64S hk hm)]
   by_cases h : nth a k = nth b k <;> simp [h]
  ·unfold p_laws_eqRowSS_b0; simp
 ·have h2 : ¬ (a.length : Int) = (b.length : Int) := by omega
  have h3 : a ≠ b := fun e => hl (by rw [e])
  simp [h2, h3]
theorem q_Part (a b : Part) (ha : Dp.ok a) (hb : Dp.ok b) : p_laws_eqPart a b = some (decide (a = b)) := by
 have he : a = b ↔ a.1 = b.1 ∧ a.2 = b.2 := by
  constructor
  ·rintro rfl; simp
  ·rintro ⟨h0, h1⟩; exact Prod.ext h0 (h1)
 unfold p_laws_eqPart
 simp only [q_IntS a.1 b.1 ha.1 hb.1, q_RowSS a.2 b.2 ha.2 hb.2, bd_some, he]
 by_cases h0 : a.1 = b.1
 ·by_cases h1 : a.2 = b.2
  ·simp [h0, h1]
  ·simp [h0, h1]
 ·simp [h0]
theorem q_File (a b : File) (ha : Dp.ok a) (hb : Dp.ok b) : p_laws_eqFile a b = some (decide (a = b)) := by
 have he : a = b ↔ a.1 = b.1 ∧ a.2 = b.2 := by
  constructor
  ·rintro rfl; simp
  ·rintro ⟨h0, h1⟩; exact Prod.ext h0 (h1)
 unfold p_laws_eqFile
 simp only [q_Part a.2 b.2 ha.2 hb.2, bd_some, he]
 by_cases h0 : a.1 = b.1
 ·by_cases h1 : a.2 = b.2
  ·simp [h0, h1]
  ·simp [h0, h1]
 ·simp [h0]
theorem q_FileS (a b : (List File)) (ha : Dp.ok a) (hb : Dp.ok b) : p_laws_eqFileS a b = some (decide (a = b)) := by
 have hm : a.length ≤ 9223372036854775807 := ha.1
 unfold p_laws_eqFileS
 by_cases hl : a.length = b.length
 ·have hl2 : (a.length : Int) = (b.length : Int) := by omega
  simp only [hl2, decide_true, Bool.not_true, cond_false]
  refine eq_loop hl (fun k hk => ?_) ?_
  ·have hk2 : k < b.length := by omega
   unfold p_laws_eqFileS_b0
   simp only [dlt hk, cond_true, gd.yes (ixN hk), gd.yes (ixN hk2), Int.toNat_natCast, q_File (nth a k) (nth b k) (ha.2 k hk) (hb.2 k hk2), bd_some, gd.yes (i64S hk hm)]
   by_cases h : nth a k = nth b k <;> simp [h]
  ·unfold p_laws_eqFileS_b0; simp
 ·have h2 : ¬ (a.length : Int) = (b.length : Int) := by omega
  have h3 : a ≠ b := fun e => hl (by rw [e])
  simp [h2, h3]
theorem q_Tag (a b : Tag) (_ : Dp.ok a) (hb : Dp.ok b) : p_laws_eqTag a b = some (decide (a = b)) := by
 have he : a = b ↔ a.1 = b.1 ∧ a.2 = b.2 := by
  constructor
  ·rintro rfl; simp
  ·rintro ⟨h0, h1⟩; exact Prod.ext h0 (h1)
 unfold p_laws_eqTag
 simp only [he]
 by_cases h0 : a.1 = b.1
 ·by_cases h1 : a.2 = b.2
  ·simp [h0, h1]
  ·simp [h0, h1]
 ·simp [h0]
theorem q_TagS (a b : (List Tag)) (ha : Dp.ok a) (hb : Dp.ok b) : p_laws_eqTagS a b = some (decide (a = b)) := by
 have hm : a.length ≤ 9223372036854775807 := ha.1
 unfold p_laws_eqTagS
 by_cases hl : a.length = b.length
 ·have hl2 : (a.length : Int) = (b.length : Int) := by omega
  simp only [hl2, decide_true, Bool.not_true, cond_false]
  refine eq_loop hl (fun k hk => ?_) ?_
  ·have hk2 : k < b.length := by omega
   unfold p_laws_eqTagS_b0
   simp only [dlt hk, cond_true, gd.yes (ixN hk), gd.yes (ixN hk2), Int.toNat_natCast, q_Tag (nth a k) (nth b k) (ha.2 k hk) (hb.2 k hk2), bd_some, gd.yes (i64S hk hm)]
   by_cases h : nth a k = nth b k <;> simp [h]
  ·unfold p_laws_eqTagS_b0; simp
 ·have h2 : ¬ (a.length : Int) = (b.length : Int) := by omega
  have h3 : a ≠ b := fun e => hl (by rw [e])
  simp [h2, h3]
theorem q_TagSS (a b : (List (List Tag))) (ha : Dp.ok a) (hb : Dp.ok b) : p_laws_eqTagSS a b = some (decide (a = b)) := by
 have hm : a.length ≤ 9223372036854775807 := ha.1
 unfold p_laws_eqTagSS
 by_cases hl : a.length = b.length
 ·have hl2 : (a.length : Int) = (b.length : Int) := by omega
  simp only [hl2, decide_true, Bool.not_true, cond_false]
  refine eq_loop hl (fun k hk => ?_) ?_
  ·have hk2 : k < b.length := by omega
   unfold p_laws_eqTagSS_b0
   simp only [dlt hk, cond_true, gd.yes (ixN hk), gd.yes (ixN hk2), Int.toNat_natCast, q_TagS (nth a k) (nth b k) (ha.2 k hk) (hb.2 k hk2), bd_some, gd.yes (i64S hk hm)]
   by_cases h : nth a k = nth b k <;> simp [h]
  ·unfold p_laws_eqTagSS_b0; simp
 ·have h2 : ¬ (a.length : Int) = (b.length : Int) := by omega
  have h3 : a ≠ b := fun e => hl (by rw [e])
  simp [h2, h3]
theorem q_Disk (a b : Disk) (ha : Dp.ok a) (hb : Dp.ok b) : p_laws_eqDisk a b = some (decide (a = b)) := by
 have he : a = b ↔ a.1 = b.1 ∧ a.2.1 = b.2.1 ∧ a.2.2.1 = b.2.2.1 ∧ a.2.2.2 = b.2.2.2 := by
  constructor
  ·rintro rfl; simp
  ·rintro ⟨h0, h1, h2, h3⟩; exact Prod.ext h0 (Prod.ext h1 (Prod.ext h2 (h3)))
 unfold p_laws_eqDisk
 simp only [q_FileS a.1 b.1 ha.1 hb.1, q_IntS a.2.1 b.2.1 ha.2.1 hb.2.1, q_TagSS a.2.2.1 b.2.2.1 ha.2.2.1 hb.2.2.1, bd_some, he]
 by_cases h0 : a.1 = b.1
 ·by_cases h1 : a.2.1 = b.2.1
  ·by_cases h2 : a.2.2.1 = b.2.2.1
   ·by_cases h3 : a.2.2.2 = b.2.2.2
    ·simp [h0, h1, h2, h3]
    ·simp [h0, h1, h2, h3]
   ·simp [h0, h1, h2]
  ·simp [h0, h1]
 ·simp [h0]
theorem m_IntS (a : (List Int)) (k : Int) (h0 : 0 ≤ k) (hB : k + (Ct.ct a : Nat) ≤ 1152921504606846976) (ok : Dp.ok a) : MkR p_laws_markIntS p_laws_heldIntS a k := by
 have hm : a.length ≤ 9223372036854775807 := ok.1
 obtain ⟨k1, r, e1, e2, e3, e4, e5⟩ := mark_loop (l := a) (B := 1152921504606846976) (bm := p_laws_markIntS_b0 a) (bh := fun r => p_laws_heldIntS_b0 r) (fun i hi r hr hn k h0 hB => by
  have hi2 : i < r.length := by omega
  have hc : Ct.ct (nth a i) = 1 := rfl
  have g1 : I64 (k + 1) := i64B (by omega) (by omega)
  refine ⟨k, k + 1, ?_, by omega, by omega, fun r' hr' hu => ?_⟩
  ·unfold p_laws_markIntS_b0
   simp only [dlt hi, cond_true, Int.toNat_natCast, gd.yes (ixN hi2), gd.yes g1, gd.yes (i64S hi hm)]
   first | done | rfl
  ·have hi3 : i < r'.length := by omega
   unfold p_laws_heldIntS_b0
   simp [hi3, gd.yes (ixN hi3), hu, gd.yes g1, gd.yes (i64S hi hm)])
  (fun r k hr => by unfold p_laws_markIntS_b0; simp) (fun r k hr => by unfold p_laws_heldIntS_b0; simp [hr]) h0 hB
 refine ⟨k1, r, ?_, e3, e4, ?_⟩
 ·unfold p_laws_markIntS; rw [e1]; rfl
 ·unfold p_laws_heldIntS; rw [e5]; rfl
theorem m_RowS (a : (List Row)) (k : Int) (h0 : 0 ≤ k) (hB : k + (Ct.ct a : Nat) ≤ 1152921504606846976) (ok : Dp.ok a) : MkR p_laws_markRowS p_laws_heldRowS a k := by
 have hm : a.length ≤ 9223372036854775807 := ok.1
 obtain ⟨k1, r, e1, e2, e3, e4, e5⟩ := mark_loop (l := a) (B := 1152921504606846976) (bm := p_laws_markRowS_b0 a) (bh := fun r => p_laws_heldRowS_b0 r) (fun i hi r hr hn k h0 hB => by
  have hi2 : i < r.length := by omega
  have hc : Ct.ct (nth a i) = 1 + (1) := rfl
  have g1 : I64 (k + 1) := i64B (by omega) (by omega)
  have g2 : I64 ((k + 1) + 1) := i64B (by omega) (by omega)
  refine ⟨(k, k + 1), (k + 1) + 1, ?_, by omega, by omega, fun r' hr' hu => ?_⟩
  ·unfold p_laws_markRowS_b0
   simp only [dlt hi, cond_true, Int.toNat_natCast, gd.yes (ixN hi2), gd.yes g1, gd.yes g2, gd.yes (i64S hi hm)]
   first | done | rfl
  ·have hi3 : i < r'.length := by omega
   unfold p_laws_heldRowS_b0
   simp [hi3, gd.yes (ixN hi3), hu, gd.yes g1, gd.yes g2, gd.yes (i64S hi hm)])
  (fun r k hr => by unfold p_laws_markRowS_b0; simp) (fun r k hr => by unfold p_laws_heldRowS_b0; simp [hr]) h0 hB
 refine ⟨k1, r, ?_, e3, e4, ?_⟩
 ·unfold p_laws_markRowS; rw [e1]; rfl
 ·unfold p_laws_heldRowS; rw [e5]; rfl
theorem m_RowSS (a : (List (List Row))) (k : Int) (h0 : 0 ≤ k) (hB : k + (Ct.ct a : Nat) ≤ 1152921504606846976) (ok : Dp.ok a) : MkR p_laws_markRowSS p_laws_heldRowSS a k := by
 have hm : a.length ≤ 9223372036854775807 := ok.1
 obtain ⟨k1, r, e1, e2, e3, e4, e5⟩ := mark_loop (l := a) (B := 1152921504606846976) (bm := p_laws_markRowSS_b0 a) (bh := fun r => p_laws_heldRowSS_b0 r) (fun i hi r hr hn k h0 hB => by
  have hi2 : i < r.length := by omega
  have hc : Ct.ct (nth a i) = Ct.ct (nth a i) := rfl
  obtain ⟨c1, s1, x1, y1, z1, w1⟩ := m_RowS (nth a i) (k) (by omega) (by omega) (ok.2 i hi)
  have q1 : ¬ c1 < 0 := by omega
  refine ⟨s1, c1, ?_, by omega, by omega, fun r' hr' hu => ?_⟩
  ·unfold p_laws_markRowSS_b0
   simp only [dlt hi, cond_true, Int.toNat_natCast, gd.yes (ixN hi2), hn, x1, bd_some, gd.yes (i64S hi hm)]
   first | done | rfl
  ·have hi3 : i < r'.length := by omega
   unfold p_laws_heldRowSS_b0
   simp [hi3, gd.yes (ixN hi3), hu, w1, q1, gd.yes (i64S hi hm)])
  (fun r k hr => by unfold p_laws_markRowSS_b0; simp) (fun r k hr => by unfold p_laws_heldRowSS_b0; simp [hr]) h0 hB
 refine ⟨k1, r, ?_, e3, e4, ?_⟩
 ·unfold p_laws_markRowSS; rw [e1]; rfl
 ·unfold p_laws_heldRowSS; rw [e5]; rfl
theorem m_FileS (a : (List File)) (k : Int) (h0 : 0 ≤ k) (hB : k + (Ct.ct a : Nat) ≤ 1152921504606846976) (ok : Dp.ok a) : MkR p_laws_markFileS p_laws_heldFileS a k := by
 have hm : a.length ≤ 9223372036854775807 := ok.1
 obtain ⟨k1, r, e1, e2, e3, e4, e5⟩ := mark_loop (l := a) (B := 1152921504606846976) (bm := p_laws_markFileS_b0 a) (bh := fun r => p_laws_heldFileS_b0 r) (fun i hi r hr hn k h0 hB => by
  have hi2 : i < r.length := by omega
  have hc : Ct.ct (nth a i) = 1 + ((Ct.ct (((nth a i).2).1)) + (Ct.ct (((nth a i).2).2))) := rfl
  have g1 : I64 (k + 1) := i64B (by omega) (by omega)
  obtain ⟨c1, s1, x1, y1, z1, w1⟩ := m_IntS (((nth a i).2).1) (k + 1) (by omega) (by omega) (ok.2 i hi).2.1
  have q1 : ¬ c1 < 0 := by omega
  obtain ⟨c2, s2, x2, y2, z2, w2⟩ := m_RowSS (((nth a i).2).2) (c1) (by omega) (by omega) (ok.2 i hi).2.2
  have q2 : ¬ c2 < 0 := by omega
  refine ⟨(k, (s1, s2)), c2, ?_, by omega, by omega, fun r' hr' hu => ?_⟩
  ·unfold p_laws_markFileS_b0
   simp only [dlt hi, cond_true, Int.toNat_natCast, gd.yes (ixN hi2), hn, gd.yes g1, x1, x2, bd_some, gd.yes (i64S hi hm)]
   first | done | rfl
  ·have hi3 : i < r'.length := by omega
   unfold p_laws_heldFileS_b0
   simp [hi3, gd.yes (ixN hi3), hu, gd.yes g1, w1, q1, w2, q2, gd.yes (i64S hi hm)])
  (fun r k hr => by unfold p_laws_markFileS_b0; simp) (fun r k hr => by unfold p_laws_heldFileS_b0; simp [hr]) h0 hB
 refine ⟨k1, r, ?_, e3, e4, ?_⟩
 ·unfold p_laws_markFileS; rw [e1]; rfl
 ·unfold p_laws_heldFileS; rw [e5]; rfl
theorem m_TagS (a : (List Tag)) (k : Int) (h0 : 0 ≤ k) (hB : k + (Ct.ct a : Nat) ≤ 1152921504606846976) (ok : Dp.ok a) : MkR p_laws_markTagS p_laws_heldTagS a k := by
 have hm : a.length ≤ 9223372036854775807 := ok.1
 obtain ⟨k1, r, e1, e2, e3, e4, e5⟩ := mark_loop (l := a) (B := 1152921504606846976) (bm := p_laws_markTagS_b0 a) (bh := fun r => p_laws_heldTagS_b0 r) (fun i hi r hr hn k h0 hB => by
  have hi2 : i < r.length := by omega
  have hc : Ct.ct (nth a i) = 1 + (1) := rfl
  obtain ⟨t0, ht0⟩ := mt_total (k) (by omega) (by omega)
  have g1 : I64 (k + 1) := i64B (by omega) (by omega)
  obtain ⟨t1, ht1⟩ := mt_total (k + 1) (by omega) (by omega)
  have g2 : I64 ((k + 1) + 1) := i64B (by omega) (by omega)
  refine ⟨(t0, t1), (k + 1) + 1, ?_, by omega, by omega, fun r' hr' hu => ?_⟩
  ·unfold p_laws_markTagS_b0
   simp only [dlt hi, cond_true, Int.toNat_natCast, gd.yes (ixN hi2), ht0, gd.yes g1, ht1, gd.yes g2, bd_some, gd.yes (i64S hi hm)]
   first | done | rfl
  ·have hi3 : i < r'.length := by omega
   unfold p_laws_heldTagS_b0
   simp [hi3, gd.yes (ixN hi3), hu, ht0, gd.yes g1, ht1, gd.yes g2, gd.yes (i64S hi hm)])
  (fun r k hr => by unfold p_laws_markTagS_b0; simp) (fun r k hr => by unfold p_laws_heldTagS_b0; simp [hr]) h0 hB
 refine ⟨k1, r, ?_, e3, e4, ?_⟩
 ·unfold p_laws_markTagS; rw [e1]; rfl
 ·unfold p_laws_heldTagS; rw [e5]; rfl
theorem m_TagSS (a : (List (List Tag))) (k : Int) (h0 : 0 ≤ k) (hB : k + (Ct.ct a : Nat) ≤ 1152921504606846976) (ok : Dp.ok a) : MkR p_laws_markTagSS p_laws_heldTagSS a k := by
 have hm : a.length ≤ 9223372036854775807 := ok.1
 obtain ⟨k1, r, e1, e2, e3, e4, e5⟩ := mark_loop (l := a) (B := 1152921504606846976) (bm := p_laws_markTagSS_b0 a) (bh := fun r => p_laws_heldTagSS_b0 r) (fun i hi r hr hn k h0 hB => by
  have hi2 : i < r.length := by omega
  have hc : Ct.ct (nth a i) = Ct.ct (nth a i) := rfl
  obtain ⟨c1, s1, x1, y1, z1, w1⟩ := m_TagS (nth a i) (k) (by omega) (by omega) (ok.2 i hi)
  have q1 : ¬ c1 < 0 := by omega
  refine ⟨s1, c1, ?_, by omega, by omega, fun r' hr' hu => ?_⟩
  ·unfold p_laws_markTagSS_b0
   simp only [dlt hi, cond_true, Int.toNat_natCast, gd.yes (ixN hi2), hn, x1, bd_some, gd.yes (i64S hi hm)]
   first | done | rfl
  ·have hi3 : i < r'.length := by omega
   unfold p_laws_heldTagSS_b0
   simp [hi3, gd.yes (ixN hi3), hu, w1, q1, gd.yes (i64S hi hm)])
  (fun r k hr => by unfold p_laws_markTagSS_b0; simp) (fun r k hr => by unfold p_laws_heldTagSS_b0; simp [hr]) h0 hB
 refine ⟨k1, r, ?_, e3, e4, ?_⟩
 ·unfold p_laws_markTagSS; rw [e1]; rfl
 ·unfold p_laws_heldTagSS; rw [e5]; rfl
theorem m_Disk (a : Disk) (k : Int) (h0 : 0 ≤ k) (hB : k + (Ct.ct a : Nat) ≤ 1152921504606846976) (ok : Dp.ok a) : MkR p_laws_markDisk p_laws_heldDisk a k := by
 have hc : Ct.ct a = Ct.ct a.1 + (Ct.ct a.2.1 + (Ct.ct a.2.2.1 + (1))) := rfl
 obtain ⟨k1, r1, e1, l1, u1, f1⟩ := m_FileS a.1 k (by omega) (by omega) ok.1
 have q1 : ¬ k1 < 0 := by omega
 obtain ⟨k2, r2, e2, l2, u2, f2⟩ := m_IntS a.2.1 k1 (by omega) (by omega) ok.2.1
 have q2 : ¬ k2 < 0 := by omega
 obtain ⟨k3, r3, e3, l3, u3, f3⟩ := m_TagSS a.2.2.1 k2 (by omega) (by omega) ok.2.2.1
 have q3 : ¬ k3 < 0 := by omega
 refine ⟨k3, (r1, r2, r3, a.2.2.2), ?_, by omega, by omega, ?_⟩
 ·unfold p_laws_markDisk; simp only [e1, e2, e3, bd_some]
 ·unfold p_laws_heldDisk; simp [f1, q1, f2, q2, f3, q3]
theorem q_Step (a b : Step) (ha : Dp.ok a) (hb : Dp.ok b) : p_laws_eqStep a b = some (decide (a = b)) := by
 have he : a = b ↔ a.1 = b.1 ∧ a.2.1 = b.2.1 ∧ a.2.2.1 = b.2.2.1 ∧ a.2.2.2.1 = b.2.2.2.1 ∧ a.2.2.2.2 = b.2.2.2.2 := by
  constructor
  ·rintro rfl; simp
  ·rintro ⟨h0, h1, h2, h3, h4⟩; exact Prod.ext h0 (Prod.ext h1 (Prod.ext h2 (Prod.ext h3 (h4))))
 unfold p_laws_eqStep
 simp only [q_Part a.2.2.1 b.2.2.1 ha.2.2.1 hb.2.2.1, q_IntS a.2.2.2.1 b.2.2.2.1 ha.2.2.2.1 hb.2.2.2.1, q_TagSS a.2.2.2.2 b.2.2.2.2 ha.2.2.2.2 hb.2.2.2.2, bd_some, he]
 by_cases h0 : a.1 = b.1
 ·by_cases h1 : a.2.1 = b.2.1
  ·by_cases h2 : a.2.2.1 = b.2.2.1
   ·by_cases h3 : a.2.2.2.1 = b.2.2.2.1
    ·by_cases h4 : a.2.2.2.2 = b.2.2.2.2
     ·simp [h0, h1, h2, h3, h4]
     ·simp [h0, h1, h2, h3, h4]
    ·simp [h0, h1, h2, h3]
   ·simp [h0, h1, h2]
  ·simp [h0, h1]
 ·simp [h0]
theorem q_StepS (a b : (List Step)) (ha : Dp.ok a) (hb : Dp.ok b) : p_laws_eqStepS a b = some (decide (a = b)) := by
 have hm : a.length ≤ 9223372036854775807 := ha.1
 unfold p_laws_eqStepS
 by_cases hl : a.length = b.length
 ·have hl2 : (a.length : Int) = (b.length : Int) := by omega
  simp only [hl2, decide_true, Bool.not_true, cond_false]
  refine eq_loop hl (fun k hk => ?_) ?_
  ·have hk2 : k < b.length := by omega
   unfold p_laws_eqStepS_b0
   simp only [dlt hk, cond_true, gd.yes (ixN hk), gd.yes (ixN hk2), Int.toNat_natCast, q_Step (nth a k) (nth b k) (ha.2 k hk) (hb.2 k hk2), bd_some, gd.yes (i64S hk hm)]
   by_cases h : nth a k = nth b k <;> simp [h]
  ·unfold p_laws_eqStepS_b0; simp
 ·have h2 : ¬ (a.length : Int) = (b.length : Int) := by omega
  have h3 : a ≠ b := fun e => hl (by rw [e])
  simp [h2, h3]
theorem m_StepS (a : (List Step)) (k : Int) (h0 : 0 ≤ k) (hB : k + (Ct.ct a : Nat) ≤ 1152921504606846976) (ok : Dp.ok a) : MkR p_laws_markStepS p_laws_heldStepS a k := by
 have hm : a.length ≤ 9223372036854775807 := ok.1
 obtain ⟨k1, r, e1, e2, e3, e4, e5⟩ := mark_loop (l := a) (B := 1152921504606846976) (bm := p_laws_markStepS_b0 a) (bh := fun r => p_laws_heldStepS_b0 r) (fun i hi r hr hn k h0 hB => by
  have hi2 : i < r.length := by omega
  have hc : Ct.ct (nth a i) = 1 + (1 + (((Ct.ct (((nth a i).2.2.1).1)) + (Ct.ct (((nth a i).2.2.1).2))) + ((Ct.ct ((nth a i).2.2.2.1)) + (Ct.ct ((nth a i).2.2.2.2))))) := rfl
  have g1 : I64 (k + 1) := i64B (by omega) (by omega)
  have g2 : I64 ((k + 1) + 1) := i64B (by omega) (by omega)
  obtain ⟨c1, s1, x1, y1, z1, w1⟩ := m_IntS (((nth a i).2.2.1).1) ((k + 1) + 1) (by omega) (by omega) (ok.2 i hi).2.2.1.1
  have q1 : ¬ c1 < 0 := by omega
  obtain ⟨c2, s2, x2, y2, z2, w2⟩ := m_RowSS (((nth a i).2.2.1).2) (c1) (by omega) (by omega) (ok.2 i hi).2.2.1.2
  have q2 : ¬ c2 < 0 := by omega
  obtain ⟨c3, s3, x3, y3, z3, w3⟩ := m_IntS ((nth a i).2.2.2.1) (c2) (by omega) (by omega) (ok.2 i hi).2.2.2.1
  have q3 : ¬ c3 < 0 := by omega
  obtain ⟨c4, s4, x4, y4, z4, w4⟩ := m_TagSS ((nth a i).2.2.2.2) (c3) (by omega) (by omega) (ok.2 i hi).2.2.2.2
  have q4 : ¬ c4 < 0 := by omega
  refine ⟨(k, k + 1, (s1, s2), s3, s4), c4, ?_, by omega, by omega, fun r' hr' hu => ?_⟩
  ·unfold p_laws_markStepS_b0
   simp only [dlt hi, cond_true, Int.toNat_natCast, gd.yes (ixN hi2), hn, gd.yes g1, gd.yes g2, x1, x2, x3, x4, bd_some, gd.yes (i64S hi hm)]
   first | done | rfl
  ·have hi3 : i < r'.length := by omega
   unfold p_laws_heldStepS_b0
   simp [hi3, gd.yes (ixN hi3), hu, gd.yes g1, gd.yes g2, w1, q1, w2, q2, w3, q3, w4, q4, gd.yes (i64S hi hm)])
  (fun r k hr => by unfold p_laws_markStepS_b0; simp) (fun r k hr => by unfold p_laws_heldStepS_b0; simp [hr]) h0 hB
 refine ⟨k1, r, ?_, e3, e4, ?_⟩
 ·unfold p_laws_markStepS; rw [e1]; rfl
 ·unfold p_laws_heldStepS; rw [e5]; rfl
theorem s_Step (a : Step) (left : Int) (h0 : 0 ≤ left) (h1 : left ≤ 1048576) (ok : Dp.ok a) (so : So.so a) : p_laws_szStep a left = some (cut left (Wt.w a)) := by
 have hw : Wt.w a = Wt.w a.2.2.1 + (Wt.w a.2.2.2.1 + (Wt.w a.2.2.2.2)) := by
  simp only [Wt.w]
  first | done | omega
 rw [hw]; unfold p_laws_szStep
 refine sz_step (s_Part a.2.2.1 left h0 h1 ok.2.2.1) fun c0 => ?_
 refine sz_step (s_IntS a.2.2.2.1 (cut left (Wt.w a.2.2.1)) (cut_nn c0) (cut_rng h1) ok.2.2.2.1) fun c1 => ?_
 exact sz_last (s_TagSS a.2.2.2.2 (cut (cut left (Wt.w a.2.2.1)) (Wt.w a.2.2.2.1)) (cut_nn c1) (cut_rng (cut_rng h1)) ok.2.2.2.2 so.2.2.2.2)
theorem s_StepS (a : (List Step)) (left : Int) (h0 : 0 ≤ left) (h1 : left ≤ 1048576) (ok : Dp.ok a) (so : So.so a) : p_laws_szStepS a left = some (cut left (Wt.w a)) := by
 have hm : a.length ≤ 9223372036854775807 := ok.1
 unfold p_laws_szStepS
 refine sz_str (w2 := sumN a.length fun i => Wt.w (nth a i)) (by unfold I64; omega) fun hc => ?_
 rw [cut_lt] at hc; rw [← cut_pos hc]
 exact sz_loop (l := a) (by omega) (by omega) (fun k hk m m0 m1 => by
  unfold p_laws_szStepS_b0
  simp only [dlt hk, cond_true, gd.yes (ixN hk), Int.toNat_natCast, s_Step (nth a k) m m0 m1 (ok.2 k hk) (so k hk), bd_some, gd.yes (i64S hk hm)]
  by_cases hc : cut m (Wt.w (nth a k)) < 0 <;> simp [hc]) (fun m => by unfold p_laws_szStepS_b0; simp)
theorem t_Step (a : Step) (ok : Dp.ok a) (hw : Wt.w a ≤ 1048576) : p_laws_toStep a = some a := by
 unfold p_laws_toStep
 simp only [t_Part a.2.2.1 ok.2.2.1 (by simp only [Wt.w] at hw ⊢; omega), t_IntS a.2.2.2.1 ok.2.2.2.1 (by simp only [Wt.w] at hw ⊢; omega), t_TagSS a.2.2.2.2 ok.2.2.2.2 (by simp only [Wt.w] at hw ⊢; omega), bd_some]
theorem t_StepS (a : (List Step)) (ok : Dp.ok a) (hw : Wt.w a ≤ 1048576) : p_laws_toStepS a = some a := by
 have hm : a.length ≤ 1048576 := Nat.le_trans wL_le hw
 unfold p_laws_toStepS
 rw [gd.yes (by unfold many; omega)]
 simp only [Int.toNat_natCast]
 rw [to_loop (l := a) (by simp) (fun k hk r hr => by
  unfold p_laws_toStepS_b0
  have hk2 : k < r.length := by omega
  simp only [dlt hk, cond_true, gd.yes (ixN hk), gd.yes (ixN hk2), Int.toNat_natCast, t_Step (nth a k) (ok.2 k hk) (Nat.le_trans (wL_el hk) hw), bd_some, gd.yes (i64S hk (by omega))]
  first | done | rfl) (fun r => by unfold p_laws_toStepS_b0; simp)]
 rfl
def inn (lo n hi : Int) : Bool := decide (lo ≤ n) && decide (n ≤ hi)
theorem e_impl_within (n lo hi : Int) : p_impl_within n lo hi = some (inn lo n hi) := by
 unfold p_impl_within inn; cases decide (lo ≤ n) <;> rfl
theorem e_spec_l6In (n lo hi : Int) : p_spec_l6In n lo hi = some (inn lo n hi) := by
 unfold p_spec_l6In inn; cases decide (lo ≤ n) <;> rfl
def rowOk (r : Row) : Bool := inn 0 r.1 99 && inn (-99) r.2 99
theorem e_impl_rowOk (r : Row) : p_impl_rowOk r = some (rowOk r) := by
 unfold p_impl_rowOk rowOk; simp only [e_impl_within, bd_some]; cases inn 0 r.1 99 <;> rfl
theorem e_spec_l2Row (r : Row) : p_spec_l2Row r = some (rowOk r) := by
 unfold p_spec_l2Row rowOk; simp only [e_spec_l6In, bd_some]; cases inn 0 r.1 99 <;> rfl
def rowBad (b : List Row) (k : Nat) : Bool := !rowOk (nth b k) || (decide (0 < k) && decide ((nth b k).1 ≤ (nth b (k - 1)).1))
def blockOk (b : List Row) : Bool := allN b.length (rowBad b) && decide ((b.length : Int) ≤ 24)
theorem e_impl_BlockOk (b : List Row) (hb : b.length ≤ maxLen) : p_impl_BlockOk b = some (blockOk b) := by
 have hb' : b.length ≤ 9223372036854775807 := hb
 have hr : ∀ k, k < b.length → p_impl_BlockOk_b0 b (k : Int) = some (if rowBad b k then .inr (.inr false) else .inl ((k + 1 : Nat) : Int)) := fun k hk => by
  unfold p_impl_BlockOk_b0 rowBad
  simp only [dlt hk, cond_true, gd.yes (ixN hk), e_impl_rowOk, bd_some, Int.toNat_natCast, gd.yes (i64S hk hb')]
  cases h1 : rowOk (nth b k) with
  | false => simp
  | true =>
   simp only [Bool.not_true, cond_false, Bool.false_or]
   by_cases h0 : 0 < k
   ·have h0' : (0 : Int) < k := by omega
    have e1 : (k : Int) - 1 = ((k - 1 : Nat) : Int) := by omega
    have hi : I64 ((k - 1 : Nat) : Int) := by unfold I64; omega
    simp only [h0, h0', decide_true, cond_true, e1, gd.yes hi, gd.yes (ixN (show k - 1 < b.length by omega)), Int.toNat_natCast, bd_some, Bool.true_and]
    cases decide ((nth b k).1 ≤ (nth b (k - 1)).1) <;> simp
   ·have h0' : ¬ (0 : Int) < k := by omega
    simp [h0]
 unfold p_impl_BlockOk blockOk
 rcases lp_scan (body := p_impl_BlockOk_b0 b) (fun k => (k : Int)) b.length (rowBad b) (.inl ()) (fun _ => .inr false) (fun k hk _ h => by simp [hr k hk, h]) (fun k hk _ h => by simp [hr k hk, h]) (fun _ => by unfold p_impl_BlockOk_b0; simp) with ⟨h1, h2⟩ | ⟨h1, k, _, _, _, h2⟩
 ·rw [show (lp (p_impl_BlockOk_b0 b) 0) = _ from h2, h1]; simp [sw]
 ·rw [show (lp (p_impl_BlockOk_b0 b) 0) = _ from h2, h1]; simp [sw]
theorem e_spec_BlockOk (b : List Row) (hb : b.length ≤ maxLen) : p_spec_BlockOk b = some (blockOk b) := by
 have hb' : b.length ≤ 9223372036854775807 := hb
 have hr : ∀ k, k < b.length → p_spec_BlockOk_b0 b (k : Int) = some (if rowBad b k then .inr (.inr false) else .inl ((k + 1 : Nat) : Int)) := fun k hk => by
  unfold p_spec_BlockOk_b0 rowBad
  simp only [dlt hk, cond_true, gd.yes (ixN hk), e_spec_l2Row, bd_some, Int.toNat_natCast, gd.yes (i64S hk hb')]
  cases h1 : rowOk (nth b k) with
  | false => simp
  | true =>
   simp only [Bool.not_true, cond_false, Bool.false_or]
   by_cases h0 : 0 < k
   ·have h0' : (0 : Int) < k := by omega
    have e1 : (k : Int) - 1 = ((k - 1 : Nat) : Int) := by omega
    have hi : I64 ((k - 1 : Nat) : Int) := by unfold I64; omega
    simp only [h0, h0', decide_true, cond_true, e1, gd.yes hi, gd.yes (ixN (show k - 1 < b.length by omega)), Int.toNat_natCast, bd_some, Bool.true_and]
    cases decide ((nth b k).1 ≤ (nth b (k - 1)).1) <;> simp
   ·simp [h0]
 unfold p_spec_BlockOk blockOk
 rcases lp_scan (body := p_spec_BlockOk_b0 b) (fun k => (k : Int)) b.length (rowBad b) (.inl ()) (fun _ => .inr false) (fun k hk _ h => by simp [hr k hk, h]) (fun k hk _ h => by simp [hr k hk, h]) (fun _ => by unfold p_spec_BlockOk_b0; simp) with ⟨h1, h2⟩ | ⟨h1, k, _, _, _, h2⟩
 ·rw [show (lp (p_spec_BlockOk_b0 b) 0) = _ from h2, h1]; simp [sw]
 ·rw [show (lp (p_spec_BlockOk_b0 b) 0) = _ from h2, h1]; simp [sw]
def partBad (p : Part) (k : Nat) : Bool := ((!inn 1 (nth p.1 k) 6 || (decide (0 < k) && decide (nth p.1 k ≤ nth p.1 (k - 1)))) || !blockOk (nth p.2 k)) || decide ((nth p.2 k).length = 0)
def partOk (p : Part) : Bool := decide (p.1.length = p.2.length) && allN p.1.length (partBad p)
theorem e_impl_PartOk (p : Part) (hp : Dp.ok p) : p_impl_PartOk p = some (partOk p) := by
 obtain ⟨⟨hp1, _⟩, _, hp2⟩ := hp
 have hp1 : p.1.length ≤ 9223372036854775807 := hp1
 unfold p_impl_PartOk partOk
 by_cases hl : p.1.length = p.2.length
 ·have hr : ∀ k, k < p.1.length → p_impl_PartOk_b0 p (k : Int) = some (if partBad p k then .inr (.inr false) else .inl ((k + 1 : Nat) : Int)) := fun k hk => by
   have hk2 : k < p.2.length := by omega
   unfold p_impl_PartOk_b0 partBad
   simp only [dlt hk, cond_true, gd.yes (ixN hk), gd.yes (ixN hk2), e_impl_within, e_impl_BlockOk _ (hp2 k hk2).1, bd_some, Int.toNat_natCast, gd.yes (i64S hk hp1)]
   cases h1 : inn 1 (nth p.1 k) 6 with
   | false => simp
   | true =>
    by_cases h0 : 0 < k
    ·have h0' : (0 : Int) < k := by omega
     have e1 : (k : Int) - 1 = ((k - 1 : Nat) : Int) := by omega
     have hi : I64 ((k - 1 : Nat) : Int) := by unfold I64; omega
     simp only [h0, h0', decide_true, cond_true, e1, gd.yes hi, gd.yes (ixN (show k - 1 < p.1.length by omega)), Int.toNat_natCast, Bool.true_and, Bool.not_true, cond_false, Bool.false_or]
     cases decide (nth p.1 k ≤ nth p.1 (k - 1)) <;> cases blockOk (nth p.2 k) <;> cases h9 : decide ((nth p.2 k).length = 0) <;> simp_all
    ·simp only [h0, Bool.not_true, cond_false, Bool.false_or, decide_false, Bool.false_and]
     cases blockOk (nth p.2 k) <;> cases h9 : decide ((nth p.2 k).length = 0) <;> simp_all
  rcases lp_scan (body := p_impl_PartOk_b0 p) (fun k => (k : Int)) p.1.length (partBad p) (.inl ()) (fun _ => .inr false) (fun k hk _ h => by simp [hr k hk, h]) (fun k hk _ h => by simp [hr k hk, h]) (fun _ => by unfold p_impl_PartOk_b0; simp) with ⟨h1, h2⟩ | ⟨h1, k, _, _, _, h2⟩
  ·rw [show (lp (p_impl_PartOk_b0 p) 0) = _ from h2, h1]; simp [sw, hl]
  ·rw [show (lp (p_impl_PartOk_b0 p) 0) = _ from h2, h1]; simp [sw, hl]
 ·have : ¬ (p.1.length : Int) = (p.2.length : Int) := by omega
  simp [this, hl]
theorem e_spec_PartOk (p : Part) (hp : Dp.ok p) : p_spec_PartOk p = some (partOk p) := by
 obtain ⟨⟨hp1, _⟩, _, hp2⟩ := hp
 have hp1 : p.1.length ≤ 9223372036854775807 := hp1
 unfold p_spec_PartOk partOk
 by_cases hl : p.1.length = p.2.length
 ·have hr : ∀ k, k < p.1.length → p_spec_PartOk_b0 p (k : Int) = some (if partBad p k then .inr (.inr false) else .inl ((k + 1 : Nat) : Int)) := fun k hk => by
   have hk2 : k < p.2.length := by omega
   unfold p_spec_PartOk_b0 partBad
   simp only [dlt hk, cond_true, gd.yes (ixN hk), gd.yes (ixN hk2), e_spec_l6In, e_spec_BlockOk _ (hp2 k hk2).1, bd_some, Int.toNat_natCast, gd.yes (i64S hk hp1)]
   cases h1 : inn 1 (nth p.1 k) 6 with
   | false => simp
   | true =>
    by_cases h0 : 0 < k
    ·have h0' : (0 : Int) < k := by omega
     have e1 : (k : Int) - 1 = ((k - 1 : Nat) : Int) := by omega
     have hi : I64 ((k - 1 : Nat) : Int) := by unfold I64; omega
     simp only [h0, h0', decide_true, cond_true, e1, gd.yes hi, gd.yes (ixN (show k - 1 < p.1.length by omega)), Int.toNat_natCast, Bool.true_and, Bool.not_true, cond_false, Bool.false_or]
     cases decide (nth p.1 k ≤ nth p.1 (k - 1)) <;> cases blockOk (nth p.2 k) <;> cases h9 : decide ((nth p.2 k).length = 0) <;> simp_all
    ·simp only [h0, Bool.not_true, cond_false, Bool.false_or, decide_false, Bool.false_and]
     cases blockOk (nth p.2 k) <;> cases h9 : decide ((nth p.2 k).length = 0) <;> simp_all
  rcases lp_scan (body := p_spec_PartOk_b0 p) (fun k => (k : Int)) p.1.length (partBad p) (.inl ()) (fun _ => .inr false) (fun k hk _ h => by simp [hr k hk, h]) (fun k hk _ h => by simp [hr k hk, h]) (fun _ => by unfold p_spec_PartOk_b0; simp) with ⟨h1, h2⟩ | ⟨h1, k, _, _, _, h2⟩
  ·rw [show (lp (p_spec_PartOk_b0 p) 0) = _ from h2, h1]; simp [sw, hl]
  ·rw [show (lp (p_spec_PartOk_b0 p) 0) = _ from h2, h1]; simp [sw, hl]
 ·have : ¬ (p.1.length : Int) = (p.2.length : Int) := by omega
  simp [this, hl]
def place (l : List Int) (id : Int) : Int := match (List.range l.length).find? (fun i => decide (nth l i = id)) with | some i => i | none => -1
theorem place_no {l : List Int} {id : Int} (h : allN l.length (fun i => decide (nth l i = id)) = true) : place l id = -1 := by
 unfold place
 rw [List.find?_eq_none.2]
 intro i hi
 have := allN_iff.1 h i (by simpa using hi)
 simpa using this
theorem place_yes {l : List Int} {id : Int} {k : Nat} (hk : k < l.length) (h : decide (nth l k = id) = true) (h2 : ∀ i, i < k → decide (nth l i = id) = false) : place l id = k := by
 unfold place
 have : (List.range l.length).find? (fun i => decide (nth l i = id)) = some k := by
  rw [List.find?_range_eq_some]
  exact ⟨h, by simpa using hk, fun i hi => by simpa using h2 i hi⟩
 rw [this]
theorem e_Index (l : List Int) (id : Int) (ok : l.length ≤ 9223372036854775807) : p_slices_Index_int_int l id = some (place l id) := by
 unfold p_slices_Index_int_int
 rcases lp_scan (body := p_slices_Index_int_int_b0 l id) (fun k => (k : Int)) l.length (fun i => decide (nth l i = id)) (.inl ()) (fun k => .inr (k : Int)) (fun k hk _ h => by
   have h' : ¬ id = nth l k := fun e => by simp [e] at h
   unfold p_slices_Index_int_int_b0; simp [hk, gd.yes (ixN hk), h', gd.yes (i64S hk ok)]) (fun k hk _ h => by
   have h' : id = nth l k := by simp at h; exact h.symm
   unfold p_slices_Index_int_int_b0; simp [hk, gd.yes (ixN hk), h']) (fun _ => by unfold p_slices_Index_int_int_b0; simp) with ⟨h1, h2⟩ | ⟨h1, k, hk, hb, hn, h2⟩
 ·rw [show (lp (p_slices_Index_int_int_b0 l id) 0) = _ from h2, place_no h1]; rfl
 ·rw [show (lp (p_slices_Index_int_int_b0 l id) 0) = _ from h2, place_yes hk hb hn]; rfl
theorem place_lt {l : List Int} {id : Int} : place l id < 0 ∨ ∃ k, k < l.length ∧ place l id = (k : Int) := by
 cases ha : allN l.length (fun i => decide (nth l i = id)) with
 | true => exact .inl (by rw [place_no ha]; decide)
 | false =>
  obtain ⟨k, hk, h1, h2⟩ := first_bad ha
  exact .inr ⟨k, hk, place_yes hk h1 h2⟩
def rowsOf (p : Part) (id : Int) : List Row := if place p.1 id < 0 then [] else nth p.2 (place p.1 id).toNat
theorem partOk_len' {p : Part} (h : partOk p = true) : p.1.length = p.2.length := by
 unfold partOk at h; simp at h; exact h.1
theorem e_l12Of (p : Part) (id : Int) (ok : Dp.ok p) (hl : p.1.length = p.2.length) : p_spec_l12Of p id = some (rowsOf p id) := by
 have hm : p.1.length ≤ 9223372036854775807 := ok.1.1
 unfold p_spec_l12Of rowsOf
 rcases lp_scan (body := p_spec_l12Of_b0 p id) (fun k => (k : Int)) p.1.length (fun i => decide (nth p.1 i = id)) (.inl ()) (fun k => .inr (nth p.2 k)) (fun k hk _ h => by
   have h' : ¬ nth p.1 k = id := by simpa using h
   unfold p_spec_l12Of_b0; simp [hk, gd.yes (ixN hk), h', gd.yes (i64S hk hm)]) (fun k hk _ h => by
   have h' : nth p.1 k = id := by simpa using h
   have hk2 : k < p.2.length := by omega
   unfold p_spec_l12Of_b0; simp [hk, gd.yes (ixN hk), h', gd.yes (ixN hk2)]) (fun _ => by unfold p_spec_l12Of_b0; simp) with ⟨h1, h2⟩ | ⟨h1, k, hk, hb, hn, h2⟩
 ·rw [show (lp (p_spec_l12Of_b0 p id) 0) = _ from h2, place_no h1]; rfl
 ·rw [show (lp (p_spec_l12Of_b0 p id) 0) = _ from h2, place_yes hk hb hn]
  have : ¬ (k : Int) < 0 := by omega
  simp [sw, this]
def partOf (p : Part) (id : Int) : List Row := if partOk p then rowsOf p id else []
theorem e_impl_PartOf (p : Part) (id : Int) (ok : Dp.ok p) (hw : Wt.w p ≤ 1048576) : p_impl_PartOf p id = some (partOf p id) := by
 unfold p_impl_PartOf partOf
 rw [e_Index p.1 id ok.1.1, bd_some, e_impl_PartOk p ok, bd_some]
 cases h : partOk p with
 | false => rfl
 | true =>
  have hl := partOk_len' h
  rcases place_lt (l := p.1) (id := id) with hp | ⟨k, hk, hp⟩
  ·simp [hp, rowsOf]
  ·have h0 : ¬ (k : Int) < 0 := by omega
   have hk2 : k < p.2.length := by omega
   have hr : room (nth p.2 k).length := by
    have : (nth p.2 k).length ≤ 1048576 := Nat.le_trans wL_le (Nat.le_trans (wL_el hk2) (Nat.le_trans wP_2 hw))
    unfold room; omega
   simp [hp, rowsOf, h0, gd.yes (ixN hk2), gd.yes hr]
theorem ok_rows (l : List Row) (h : l.length ≤ 1048576) : Dp.ok l := ⟨Nat.le_trans h (by decide), fun _ _ => ⟨trivial, trivial⟩⟩
def l2 (r : Row) : Bool → List Row → List Row
 | put, [] => if put then [] else [r]
 | put, x :: t => (if !put && decide (r.1 ≤ x.1) then [r] else []) ++ ((if x.1 = r.1 then [] else [x]) ++ l2 r (put || decide (r.1 ≤ x.1)) t)
theorem drop_nth {α : Type} [Inhabited α] {l : List α} {k : Nat} (hk : k < l.length) : l.drop k = nth l k :: l.drop (k + 1) := by
 rw [nth_eq l k hk, List.drop_eq_getElem_cons hk]
theorem e_l2Put (b : List Row) (r : Row) (hb : b.length ≤ 1048576) : p_spec_l2Put b r = some (l2 r false b) := by
 unfold p_spec_l2Put
 obtain ⟨e, he, hs1, hs2⟩ := lp.rule (body := p_spec_l2Put_b0 b r) (fun σ => ∃ k : Nat, k ≤ b.length ∧ σ.2.2 = (k : Int) ∧ σ.1.length ≤ 2 * k ∧ σ.1 ++ l2 r σ.2.1 (b.drop k) = l2 r false b) (fun σ => b.length - σ.2.2.toNat)
  (fun e => e.1.length ≤ 2 * b.length ∧ e.1 ++ (if e.2 then [] else [r]) = l2 r false b) (fun σ hI => by
   obtain ⟨k, k1, k2, k3, k4⟩ := hI
   unfold p_spec_l2Put_b0
   rw [k2]
   by_cases hk : k < b.length
   ·left
    rw [drop_nth hk] at k4
    have hi := i64S hk (by omega)
    have r1 : room (σ.1.length + 1) := by unfold room; omega
    have r2 : room ((σ.1 ++ [r]).length + 1) := by simp; unfold room; omega
    simp only [dlt hk, cond_true, gd.yes (ixN hk), Int.toNat_natCast, gd.yes hi, gd.yes r1, gd.yes r2]
    obtain ⟨o, put, i⟩ := σ
    simp only at k2 k3 k4 ⊢
    cases put with
    | true =>
     simp only [l2, Bool.not_true, Bool.false_and, Bool.false_eq_true, if_false, List.nil_append, Bool.true_or] at k4
     simp only [Bool.not_true, cond_false, bd_some]
     by_cases hx : (nth b k).1 = r.1
     ·simp only [hx, if_true, List.nil_append] at k4
      exact ⟨(o, true, ((k + 1 : Nat) : Int)), by simp [hx], ⟨k + 1, hk, rfl, by simp only; omega, k4⟩, by simp only; omega⟩
     ·simp only [hx, if_false] at k4
      exact ⟨(o ++ [nth b k], true, ((k + 1 : Nat) : Int)), by simp [hx], ⟨k + 1, hk, rfl, by simp; omega, by simpa using k4⟩, by simp only; omega⟩
    | false =>
     by_cases hle : r.1 ≤ (nth b k).1
     ·simp only [l2, hle, decide_true, Bool.not_false, Bool.true_and, if_true, Bool.or_true] at k4
      by_cases hx : (nth b k).1 = r.1
      ·simp only [hx, if_true, List.nil_append] at k4
       exact ⟨(o ++ [r], true, ((k + 1 : Nat) : Int)), by simp [hx], ⟨k + 1, hk, rfl, by simp; omega, by simpa using k4⟩, by simp only; omega⟩
      ·simp only [hx, if_false] at k4
       exact ⟨(o ++ [r] ++ [nth b k], true, ((k + 1 : Nat) : Int)), by simp [hx, hle], ⟨k + 1, hk, rfl, by simp; omega, by simpa using k4⟩, by simp only; omega⟩
     ·simp only [l2, hle, decide_false, Bool.not_false, Bool.and_false, Bool.false_eq_true, if_false, List.nil_append, Bool.or_false] at k4
      have hx : ¬ (nth b k).1 = r.1 := by omega
      simp only [hx, if_false] at k4
      exact ⟨(o ++ [nth b k], false, ((k + 1 : Nat) : Int)), by simp [hx, hle], ⟨k + 1, hk, rfl, by simp; omega, by simpa using k4⟩, by simp only; omega⟩
   ·right
    have hk' : k = b.length := by omega
    subst hk'
    refine ⟨(σ.1, σ.2.1), by simp, k3, ?_⟩
    rw [List.drop_length] at k4
    simpa [l2] using k4) (s := (([] : List Row), false, (0 : Int))) ⟨0, Nat.zero_le _, rfl, by simp, by simp⟩
 rw [he, bd_some]
 have r1 : room (e.1.length + 1) := by unfold room; omega
 cases hp : e.2 with
 | true => simp [hp] at hs2; simp [hs2]
 | false => simp [hp] at hs2; simp [gd.yes r1, hs2]
def mkP (i : Nat) : List (List Row) → Part
 | [] => ([], [])
 | b :: t => if 0 < b.length then (((i + 1 : Nat) : Int) :: (mkP (i + 1) t).1, b :: (mkP (i + 1) t).2) else mkP (i + 1) t
theorem mkP_len : ∀ (l : List (List Row)) (i : Nat), (mkP i l).1.length = (mkP i l).2.length ∧ (mkP i l).1.length ≤ l.length
 | [], i => by simp [mkP]
 | b :: t, i => by
  have := mkP_len t (i + 1)
  unfold mkP
  split <;> simp <;> omega
theorem mkP_mem : ∀ (l : List (List Row)) (i : Nat) (b : List Row), b ∈ (mkP i l).2 → b ∈ l
 | [], i, b, h => by simp [mkP] at h
 | c :: t, i, b, h => by
  unfold mkP at h
  split at h
  ·rcases List.mem_cons.1 h with rfl | h
   ·simp
   ·exact List.mem_cons_of_mem _ (mkP_mem t (i + 1) b h)
  ·exact List.mem_cons_of_mem _ (mkP_mem t (i + 1) b h)
theorem nth_mem {α : Type} [Inhabited α] {l : List α} {k : Nat} (h : k < l.length) : nth l k ∈ l := by rw [nth_eq l k h]; exact List.getElem_mem h
theorem e_l12Make (v : List (List Row)) (hv : v.length ≤ 1048576) (hb : ∀ b ∈ v, b.length ≤ 1048576) : p_spec_l12Make v = some (mkP 0 v) := by
 unfold p_spec_l12Make
 obtain ⟨e, he, hs⟩ := lp.rule (body := p_spec_l12Make_b0 v) (fun σ => ∃ k : Nat, k ≤ v.length ∧ σ.2.2 = (k : Int) ∧ σ.1.length ≤ k ∧ σ.2.1.length ≤ k ∧ σ.1 ++ (mkP k (v.drop k)).1 = (mkP 0 v).1 ∧ σ.2.1 ++ (mkP k (v.drop k)).2 = (mkP 0 v).2) (fun σ => v.length - σ.2.2.toNat)
  (fun e => e = mkP 0 v) (fun σ hI => by
   obtain ⟨k, k1, k2, k3, k4, k5, k6⟩ := hI
   unfold p_spec_l12Make_b0
   rw [k2]
   by_cases hk : k < v.length
   ·left
    rw [drop_nth hk] at k5 k6
    have hi := i64S hk (by omega)
    have r1 : room (σ.1.length + 1) := by unfold room; omega
    have r2 : room (σ.2.1.length + 1) := by unfold room; omega
    have r3 : room (([] : List Row).length + (nth v k).length) := by have := hb _ (nth_mem hk); unfold room; simp; omega
    simp only [dlt hk, cond_true, gd.yes (ixN hk), Int.toNat_natCast, gd.yes hi, gd.yes r1, gd.yes r2, gd.yes r3]
    by_cases hz : 0 < (nth v k).length
    ·have hz' : (0 : Int) < ((nth v k).length : Int) := by omega
     simp only [mkP, hz, if_true] at k5 k6
     simp only [hz', decide_true, cond_true]
     exact ⟨_, rfl, ⟨k + 1, hk, rfl, by simp; omega, by simp; omega, by simpa using k5, by simpa using k6⟩, by simp only; omega⟩
    ·have hz' : ¬ (0 : Int) < ((nth v k).length : Int) := by omega
     simp only [mkP, hz, if_false] at k5 k6
     simp only [hz', decide_false, cond_false]
     exact ⟨_, rfl, ⟨k + 1, hk, rfl, by simp only; omega, by simp only; omega, k5, k6⟩, by simp only; omega⟩
   ·right
    have hk' : k = v.length := by omega
    subst hk'
    rw [List.drop_length] at k5 k6
    refine ⟨(σ.1, σ.2.1), by simp, ?_⟩
    simp [mkP] at k5 k6
    rw [k5, k6]) (s := (([] : List Int), ([] : List (List Row)), (0 : Int))) ⟨0, Nat.zero_le _, rfl, Nat.le_refl _, Nat.le_refl _, by simp, by simp⟩
 rw [he, hs]; rfl
def small (p : Part) : Prop := p.1.length ≤ 10 ∧ p.2.length ≤ 10 ∧ ∀ b ∈ p.2, b.length ≤ 2000
theorem small_ok {p : Part} (h : small p) : Dp.ok p := by
 obtain ⟨h1, h2, h3⟩ := h
 exact ⟨⟨Nat.le_trans h1 (by decide), fun _ _ => trivial⟩, ⟨Nat.le_trans h2 (by decide), fun i hi => ok_rows _ (Nat.le_trans (h3 _ (nth_mem hi)) (by decide))⟩⟩
theorem wRow {b : List Row} : Wt.w b = b.length := by show b.length + sumN b.length (fun i => Wt.w (nth b i)) = _; rw [sumN_zero (f := fun i => Wt.w (nth b i)) fun i _ => rfl]; rfl
theorem sumN_bound {n m : Nat} {f : Nat → Nat} (h : ∀ i, i < n → f i ≤ m) : sumN n f ≤ n * m := by
 induction n with
 | zero => simp [sumN]
 | succ n ih => have := ih fun i hi => h i (by omega); have := h n (by omega); simp only [sumN, Nat.add_mul]; omega
theorem small_w {p : Part} (h : small p) : Wt.w p ≤ 1048576 := by
 obtain ⟨h1, h2, h3⟩ := h
 have a1 : Wt.w p.1 = p.1.length := by show p.1.length + sumN p.1.length (fun i => Wt.w (nth p.1 i)) = _; rw [sumN_zero (f := fun i => Wt.w (nth p.1 i)) fun i _ => rfl]; rfl
 have a2 : sumN p.2.length (fun i => Wt.w (nth p.2 i)) ≤ p.2.length * 2000 := sumN_bound fun i hi => by rw [wRow]; exact h3 _ (nth_mem hi)
 have a3 : p.2.length * 2000 ≤ 10 * 2000 := Nat.mul_le_mul_right _ h2
 show Wt.w p.1 + (p.2.length + sumN p.2.length fun i => Wt.w (nth p.2 i)) ≤ _
 omega
theorem partOk_iff {p : Part} (h : partOk p = true) : p.1.length = p.2.length ∧ (∀ k, k < p.1.length → 1 ≤ nth p.1 k ∧ nth p.1 k ≤ 6) ∧ (∀ k, 0 < k → k < p.1.length → nth p.1 (k - 1) < nth p.1 k) ∧ (∀ k, k < p.2.length → 0 < (nth p.2 k).length ∧ blockOk (nth p.2 k) = true) := by
 unfold partOk at h
 simp only [Bool.and_eq_true, decide_eq_true_eq] at h
 obtain ⟨h1, h2⟩ := h
 have h2 := allN_iff.1 h2
 refine ⟨h1, fun k hk => ?_, fun k h0 hk => ?_, fun k hk => ?_⟩
 ·have := h2 k hk; simp only [partBad, inn, Bool.or_eq_false_iff, Bool.not_eq_false', Bool.and_eq_true, decide_eq_true_eq] at this; exact this.1.1.1
 ·have := h2 k hk; simp [partBad, h0] at this; exact this.1.1.2
 ·have := h2 k (by omega); simp [partBad] at this; exact ⟨List.length_pos_iff.2 this.2, this.1.2⟩
theorem ids_mono {p : Part} (h : ∀ k, 0 < k → k < p.1.length → nth p.1 (k - 1) < nth p.1 k) : ∀ {j k : Nat}, j < k → k < p.1.length → nth p.1 j < nth p.1 k := by
 intro j k hjk hk
 induction k with
 | zero => omega
 | succ k ih =>
  have h1 := h (k + 1) (by omega) hk
  rw [show k + 1 - 1 = k by omega] at h1
  rcases Nat.lt_or_eq_of_le (Nat.le_of_lt_succ hjk) with h' | rfl
  ·have := ih h' (by omega); omega
  ·exact h1
theorem rowsOf_pos {p : Part} (h : partOk p = true) (id : Int) : (0 ≤ place p.1 id) ↔ 0 < (rowsOf p id).length := by
 obtain ⟨h1, h2, h3, h4⟩ := partOk_iff h
 unfold rowsOf
 rcases place_lt (l := p.1) (id := id) with hp | ⟨k, hk, hp⟩
 ·rw [if_pos hp]; simp; omega
 ·rw [hp, if_neg (by omega)]
  have := (h4 k (by omega)).1
  simp; omega
def ins (r : Row) : List Row → List Row
 | [] => [r]
 | x :: t => if x.1 < r.1 then x :: ins r t else if x.1 = r.1 then r :: t else r :: x :: t
theorem ins_len (r : Row) : ∀ l : List Row, l.length ≤ (ins r l).length ∧ (ins r l).length ≤ l.length + 1
 | [] => by simp [ins]
 | x :: t => by
  have := ins_len r t
  unfold ins
  split
  ·simp; omega
  ·split <;> simp
theorem ins_pre (r : Row) : ∀ (p s : List Row), (∀ x ∈ p, x.1 < r.1) → ins r (p ++ s) = p ++ ins r s
 | [], s, _ => rfl
 | x :: p, s, h => by
  have hx := h x (by simp)
  rw [List.cons_append, ins, if_pos hx, ins_pre r p s fun y hy => h y (by simp [hy]), List.cons_append]
def Asc (l : List Row) : Prop := l.Pairwise fun x y => x.1 < y.1
theorem e_put (b : List Row) (r : Row) (hb : b.length ≤ 1048576) : p_impl_put b r = some (ins r b) := by
 unfold p_impl_put
 have r0 : room (([] : List Row).length + b.length) := by unfold room; simp; omega
 simp only [gd.yes r0, List.nil_append]
 have key : ∃ k : Nat, k ≤ b.length ∧ (∀ i, i < k → (nth b i).1 < r.1) ∧ (k < b.length → ¬ (nth b k).1 < r.1) ∧ lp (p_impl_put_b0 b r) 0 = some (k : Int) := by
  rcases lp_scan (body := p_impl_put_b0 b r) (fun k => (k : Int)) b.length (fun k => !decide ((nth b k).1 < r.1)) (b.length : Int) (fun k => (k : Int)) (fun k hk _ h => by
    have h' : (nth b k).1 < r.1 := by simpa using h
    unfold p_impl_put_b0; simp [hk, gd.yes (ixN hk), h', gd.yes (i64S hk (by omega))]) (fun k hk _ h => by
    have h' : ¬ (nth b k).1 < r.1 := by simpa using h
    unfold p_impl_put_b0; simp [hk, gd.yes (ixN hk), h']) (fun _ => by unfold p_impl_put_b0; simp) with ⟨h1, h2⟩ | ⟨h1, k, hk, hb', hn, h2⟩
  ·exact ⟨b.length, Nat.le_refl _, fun i hi => by simpa using allN_iff.1 h1 i hi, fun h => absurd h (Nat.lt_irrefl _), h2⟩
  ·exact ⟨k, Nat.le_of_lt hk, fun i hi => by simpa using hn i hi, fun _ => by simpa using hb', h2⟩
 obtain ⟨k, k1, k2, k3, k4⟩ := key
 rw [k4, bd_some]
 have hpre : ∀ x ∈ b.take k, x.1 < r.1 := fun x hx => by
  obtain ⟨i, hi, rfl⟩ := List.mem_iff_getElem.1 hx
  have hik : i < k := by simp at hi; omega
  have := k2 i hik
  rw [nth_eq b i (by omega)] at this
  simpa using this
 have hins : ins r b = b.take k ++ ins r (b.drop k) := by
  conv => lhs; rw [← List.take_append_drop k b]
  rw [ins_pre r _ _ hpre]
 by_cases hk : k < b.length
 ·have h3 := k3 hk
  rw [drop_nth hk, ins, if_neg h3] at hins
  simp only [dlt hk, cond_true, gd.yes (ixN hk), bd_some, Int.toNat_natCast]
  by_cases he : (nth b k).1 = r.1
  ·rw [if_pos he] at hins
   rw [hins, List.set_eq_take_append_cons_drop, if_pos hk]
   simp [he]
  ·rw [if_neg he] at hins
   have g1 : (0 : Int) ≤ (k : Int) ∧ (k : Int) ≤ (b.length : Int) := by omega
   have g2 : room (b.length + [r].length) := by unfold room; simp; omega
   have g3 : 0 < [r].length := by simp
   unfold p_slices_Insert_Row_Row p_insert
   have e1 : b.take k ++ [r] ++ b.drop k = ins r b := by rw [hins, drop_nth hk]; simp
   simp only [he, decide_false, cond_false, gd.yes g1, gd.yes g2, gd.yes g3, bd_some, Int.toNat_natCast, e1]
   have := ins_len r b
   have g4 : room (([] : List Row).length + (ins r b).length) := by unfold room; simp; omega
   simp only [gd.yes g4]
 ·have hk' : k = b.length := by omega
  subst hk'
  have g1 : (0 : Int) ≤ (b.length : Int) ∧ (b.length : Int) ≤ (b.length : Int) := by omega
  have g2 : room (b.length + [r].length) := by unfold room; simp; omega
  have g3 : 0 < [r].length := by simp
  rw [List.drop_length] at hins
  have e1 : b.take b.length ++ [r] ++ b.drop b.length = ins r b := by rw [hins, List.drop_length]; simp [ins]
  unfold p_slices_Insert_Row_Row p_insert
  simp only [Int.lt_irrefl, decide_false, cond_false, bd_some, gd.yes g1, gd.yes g2, gd.yes g3, Int.toNat_natCast, e1]
  have := ins_len r b
  have g4 : room (([] : List Row).length + (ins r b).length) := by unfold room; simp; omega
  simp only [gd.yes g4]
theorem l2_true (r : Row) : ∀ l : List Row, (∀ x ∈ l, r.1 < x.1) → l2 r true l = l
 | [], _ => rfl
 | x :: t, h => by
  have hx := h x (by simp)
  simp only [l2, Bool.not_true, Bool.false_and, Bool.false_eq_true, if_false, List.nil_append, Bool.true_or]
  rw [if_neg (by omega), l2_true r t fun y hy => h y (by simp [hy])]; rfl
theorem l2_ins (r : Row) : ∀ l : List Row, Asc l → l2 r false l = ins r l
 | [], _ => rfl
 | x :: t, h => by
  unfold Asc at h
  obtain ⟨h1, h2⟩ := List.pairwise_cons.1 h
  simp only [l2, ins, Bool.not_false, Bool.true_and, Bool.false_or]
  by_cases hle : r.1 ≤ x.1
  ·simp only [hle, decide_true, if_true]
   rw [if_neg (show ¬ x.1 < r.1 by omega), l2_true r t fun y hy => by have := h1 y hy; omega]
   by_cases he : x.1 = r.1 <;> simp [he]
  ·simp only [hle, decide_false, Bool.false_eq_true, if_false, List.nil_append]
   rw [if_pos (show x.1 < r.1 by omega), if_neg (show ¬ x.1 = r.1 by omega), l2_ins r t h2]; rfl
theorem ins_mem {r y : Row} : ∀ {l : List Row}, y ∈ ins r l → y = r ∨ y ∈ l
 | [], h => by simp [ins] at h; exact .inl h
 | x :: t, h => by
  unfold ins at h
  split at h
  ·rcases List.mem_cons.1 h with h | h
   ·exact .inr (by simp [h])
   ·exact (ins_mem h).imp id fun h => by simp [h]
  ·split at h
   ·rcases List.mem_cons.1 h with h | h
    ·exact .inl h
    ·exact .inr (by simp [h])
   ·rcases List.mem_cons.1 h with h | h
    ·exact .inl h
    ·exact .inr h
theorem ins_asc (r : Row) : ∀ {l : List Row}, Asc l → Asc (ins r l)
 | [], _ => by simp [ins, Asc]
 | x :: t, h => by
  unfold Asc at h ⊢
  obtain ⟨h1, h2⟩ := List.pairwise_cons.1 h
  unfold ins
  split
  ·rename_i hx
   refine List.pairwise_cons.2 ⟨fun y hy => ?_, ins_asc r h2⟩
   rcases ins_mem hy with rfl | hy
   ·exact hx
   ·exact h1 y hy
  ·split
   ·rename_i hx he
    exact List.pairwise_cons.2 ⟨fun y hy => by have := h1 y hy; omega, h2⟩
   ·rename_i hx he
    refine List.pairwise_cons.2 ⟨fun y hy => ?_, h⟩
    rcases List.mem_cons.1 hy with rfl | hy
    ·omega
    ·have := h1 y hy; omega
def mg (a b : List Row) : List Row := b.foldl (fun o r => ins r o) a
theorem mg_asc {a b : List Row} (ha : Asc a) : Asc (mg a b) := by
 unfold mg
 induction b generalizing a with
 | nil => exact ha
 | cons x b ih => exact ih (ins_asc x ha)
theorem mg_len : ∀ (b a : List Row), a.length ≤ (mg a b).length ∧ (mg a b).length ≤ a.length + b.length
 | [], a => by simp [mg]
 | x :: b, a => by
  have h1 := ins_len x a
  have h2 := mg_len b (ins x a)
  unfold mg at h2 ⊢
  simp only [List.foldl_cons, List.length_cons] at h2 ⊢
  omega
theorem mg_mem {y : Row} : ∀ {b a : List Row}, y ∈ mg a b → y ∈ a ∨ y ∈ b
 | [], a, h => .inl h
 | x :: b, a, h => by
  have h : y ∈ mg (ins x a) b := h
  rcases mg_mem h with h | h
  ·rcases ins_mem h with rfl | h
   ·exact .inr (by simp)
   ·exact .inl h
  ·exact .inr (by simp [h])
theorem mg_nil (a : List Row) : mg a [] = a := rfl
theorem nil_asc : Asc [] := List.Pairwise.nil
theorem blockOk_iff {b : List Row} : blockOk b = true ↔ (∀ x ∈ b, rowOk x = true) ∧ Asc b ∧ b.length ≤ 24 := by
 unfold blockOk
 rw [Bool.and_eq_true, allN_iff, decide_eq_true_eq]
 constructor
 ·rintro ⟨h1, h2⟩
  have hp : ∀ k, k < b.length → rowOk (nth b k) = true ∧ (0 < k → (nth b (k - 1)).1 < (nth b k).1) := fun k hk => by
   have := h1 k hk
   simp only [rowBad, Bool.or_eq_false_iff, Bool.not_eq_false', Bool.and_eq_false_iff, decide_eq_false_iff_not] at this
   exact ⟨this.1, fun h0 => by rcases this.2 with h | h <;> omega⟩
  refine ⟨fun x hx => ?_, ?_, by omega⟩
  ·obtain ⟨i, hi, rfl⟩ := List.mem_iff_getElem.1 hx
   rw [← nth_eq b i hi]; exact (hp i hi).1
  ·refine List.pairwise_iff_getElem.2 fun i j hi hj hij => ?_
   rw [← nth_eq b i hi, ← nth_eq b j hj]
   clear hi
   induction j with
   | zero => omega
   | succ j ih =>
    have h3 := (hp (j + 1) hj).2 (by omega)
    rw [show j + 1 - 1 = j by omega] at h3
    rcases Nat.lt_or_eq_of_le (Nat.le_of_lt_succ hij) with h' | rfl
    ·have := ih (by omega) h'; omega
    ·exact h3
 ·rintro ⟨h1, h2, h3⟩
  refine ⟨fun k hk => ?_, by omega⟩
  have r1 : rowOk (nth b k) = true := h1 _ (nth_mem hk)
  simp only [rowBad, r1, Bool.not_true, Bool.false_or, Bool.and_eq_false_iff, decide_eq_false_iff_not]
  rcases Nat.eq_zero_or_pos k with h0 | h0
  ·exact .inl (by omega)
  ·refine .inr ?_
   have := List.pairwise_iff_getElem.1 h2 (k - 1) k (by omega) hk (by omega)
   rw [← nth_eq b (k - 1) (by omega), ← nth_eq b k hk] at this
   omega
theorem mg_ok {a b : List Row} (ha : blockOk a = true) (hb : blockOk b = true) : blockOk (mg a b) = decide ((mg a b).length ≤ 24) := by
 obtain ⟨a1, a2, a3⟩ := blockOk_iff.1 ha
 obtain ⟨b1, b2, b3⟩ := blockOk_iff.1 hb
 cases h : blockOk (mg a b) with
 | true => simp [(blockOk_iff.1 h).2.2]
 | false =>
  symm
  rw [decide_eq_false_iff_not]
  intro hl
  have : blockOk (mg a b) = true := blockOk_iff.2 ⟨fun x hx => (mg_mem hx).elim (a1 x) (b1 x), mg_asc a2, hl⟩
  rw [h] at this; cases this
theorem foldl_take {α β : Type} [Inhabited α] (f : β → α → β) (s : β) (l : List α) (k : Nat) (hk : k < l.length) : (l.take (k + 1)).foldl f s = f ((l.take k).foldl f s) (nth l k) := by
 rw [nth_eq l k hk, List.take_succ_eq_append_getElem hk, List.foldl_append]; rfl
theorem mg_take (a b : List Row) (k : Nat) (hk : k < b.length) : mg a (b.take (k + 1)) = ins (nth b k) (mg a (b.take k)) := foldl_take _ _ _ _ hk
theorem mg_take_len (a b : List Row) (k : Nat) (hk : k ≤ b.length) : (mg a (b.take k)).length ≤ a.length + b.length := by
 have := (mg_len (b.take k) a).2
 rw [List.length_take] at this; omega
theorem e_spec_l2Merge (a b : List Row) (ha : a.length ≤ 100) (hb : b.length ≤ 100) (h : Asc a) : p_spec_l2Merge a b = some (mg a b) := by
 unfold p_spec_l2Merge
 have g1 : room (([] : List Row).length + a.length) := by unfold room; simp; omega
 simp only [gd.yes g1, List.nil_append]
 have := lp_for (body := p_spec_l2Merge_b0 b) (fun k => (mg a (b.take k), (k : Int))) b.length (mg a b) (fun k hk => by
  unfold p_spec_l2Merge_b0
  have hl := mg_take_len a b k (by omega)
  simp only [dlt hk, cond_true, gd.yes (ixN hk), Int.toNat_natCast, e_l2Put _ (nth b k) (show (mg a (b.take k)).length ≤ 1048576 by omega), l2_ins _ _ (mg_asc h), bd_some, gd.yes (i64S hk (by omega)), mg_take a b k hk]
  rfl) (by unfold p_spec_l2Merge_b0; simp)
 have e0 : lp (p_spec_l2Merge_b0 b) (a, 0) = some (mg a b) := this
 rw [e0]; rfl
theorem partOk_of {p : Part} (h1 : p.1.length = p.2.length) (h2 : ∀ x ∈ p.1, 1 ≤ x ∧ x ≤ 6) (h3 : p.1.Pairwise (· < ·)) (h4 : ∀ b ∈ p.2, 0 < b.length ∧ blockOk b = true) : partOk p = true := by
 unfold partOk
 rw [Bool.and_eq_true, decide_eq_true_eq, allN_iff]
 refine ⟨h1, fun k hk => ?_⟩
 have a1 := h2 _ (nth_mem hk)
 have a2 := h4 _ (nth_mem (show k < p.2.length by omega))
 have a3 : 0 < k → nth p.1 (k - 1) < nth p.1 k := fun h0 => by
  have := List.pairwise_iff_getElem.1 h3 (k - 1) k (by omega) hk (by omega)
  rwa [← nth_eq p.1 (k - 1) (by omega), ← nth_eq p.1 k hk] at this
 have a4 : inn 1 (nth p.1 k) 6 = true := by unfold inn; simp; omega
 have a5 : ¬ (nth p.2 k).length = 0 := by omega
 simp only [partBad, a4, a2.2, Bool.not_true, Bool.false_or, Bool.or_false]
 rw [decide_eq_false a5, Bool.or_false, Bool.and_eq_false_iff, decide_eq_false_iff_not, decide_eq_false_iff_not]
 rcases Nat.eq_zero_or_pos k with h0 | h0
 ·exact .inl (by omega)
 ·exact .inr (by have := a3 h0; omega)
theorem mkP_rng : ∀ (l : List (List Row)) (i : Nat), ∀ x ∈ (mkP i l).1, ∃ j, j < l.length ∧ x = ((i + j + 1 : Nat) : Int) ∧ 0 < (nth l j).length
 | [], i, x, h => by simp [mkP] at h
 | b :: t, i, x, h => by
  unfold mkP at h
  have step : x ∈ (mkP (i + 1) t).1 → ∃ j, j < (b :: t).length ∧ x = ((i + j + 1 : Nat) : Int) ∧ 0 < (nth (b :: t) j).length := fun h => by
   obtain ⟨j, h1, h2, h3⟩ := mkP_rng t (i + 1) x h
   exact ⟨j + 1, by simpa using h1, by rw [h2]; omega, h3⟩
  split at h
  ·rename_i hb
   rcases List.mem_cons.1 h with rfl | h
   ·exact ⟨0, by simp, rfl, hb⟩
   ·exact step h
  ·exact step h
theorem mkP_asc : ∀ (l : List (List Row)) (i : Nat), (mkP i l).1.Pairwise (· < ·)
 | [], i => by simp [mkP]
 | b :: t, i => by
  unfold mkP
  split
  ·refine List.pairwise_cons.2 ⟨fun x hx => ?_, mkP_asc t (i + 1)⟩
   obtain ⟨j, _, h, _⟩ := mkP_rng t (i + 1) x hx
   omega
  ·exact mkP_asc t (i + 1)
theorem mkP_pos : ∀ (l : List (List Row)) (i : Nat), ∀ b ∈ (mkP i l).2, 0 < b.length
 | [], i, x, h => by simp [mkP] at h
 | b :: t, i, x, h => by
  unfold mkP at h
  split at h
  ·rename_i hb
   rcases List.mem_cons.1 h with rfl | h
   ·exact hb
   ·exact mkP_pos t (i + 1) x h
  ·exact mkP_pos t (i + 1) x h
theorem mkP_has : ∀ (l : List (List Row)) (i j : Nat), j < l.length → 0 < (nth l j).length → ∃ k, k < (mkP i l).1.length ∧ nth (mkP i l).1 k = ((i + j + 1 : Nat) : Int) ∧ nth (mkP i l).2 k = nth l j
 | [], i, j, h, _ => by simp at h
 | b :: t, i, 0, h, hp => by
  have hb : 0 < b.length := hp
  unfold mkP
  rw [if_pos hb]
  exact ⟨0, by simp, rfl, rfl⟩
 | b :: t, i, j + 1, h, hp => by
  obtain ⟨k, h1, h2, h3⟩ := mkP_has t (i + 1) j (by simpa using h) hp
  unfold mkP
  split
  ·exact ⟨k + 1, by simpa using h1, by rw [show nth (_ :: (mkP (i + 1) t).1) (k + 1) = nth (mkP (i + 1) t).1 k from rfl, h2]; omega, h3⟩
  ·exact ⟨k, h1, by rw [h2]; omega, h3⟩
theorem rowsOf_at {p : Part} (hp : p.1.Pairwise (· < ·)) {k : Nat} (hk : k < p.1.length) : rowsOf p (nth p.1 k) = nth p.2 k := by
 unfold rowsOf
 rw [place_yes hk (by simp) fun i hi => by
  have := List.pairwise_iff_getElem.1 hp i k (by omega) hk hi
  rw [← nth_eq p.1 i (by omega), ← nth_eq p.1 k hk] at this
  simp; omega]
 rw [if_neg (by omega)]; rfl
theorem rowsOf_no {p : Part} {id : Int} (h : ∀ x ∈ p.1, x ≠ id) : rowsOf p id = [] := by
 unfold rowsOf
 rw [place_no (allN_iff.2 fun i hi => by simpa using h _ (nth_mem hi)), if_pos (by decide)]
theorem partOk_asc {p : Part} (h : partOk p = true) : p.1.Pairwise (· < ·) := List.pairwise_iff_getElem.2 fun i j hi hj hij => by
 rw [← nth_eq p.1 i hi, ← nth_eq p.1 j hj]; exact ids_mono (partOk_iff h).2.2.1 hij hj
theorem partOk_rng {p : Part} (h : partOk p = true) : ∀ x ∈ p.1, 1 ≤ x ∧ x ≤ 6 := fun x hx => by
 obtain ⟨i, hi, rfl⟩ := List.mem_iff_getElem.1 hx
 rw [← nth_eq p.1 i hi]; exact (partOk_iff h).2.1 i hi
theorem rowsOf_ok {p : Part} (h : partOk p = true) (id : Int) : blockOk (rowsOf p id) = true := by
 unfold rowsOf
 rcases place_lt (l := p.1) (id := id) with hp | ⟨k, hk, hp⟩
 ·rw [if_pos hp]; rfl
 ·rw [hp, if_neg (by omega)]; exact ((partOk_iff h).2.2.2 k (by have := (partOk_iff h).1; omega)).2
theorem rowsOf_out {p : Part} (h : partOk p = true) {id : Int} (hi : ¬ (1 ≤ id ∧ id ≤ 6)) : rowsOf p id = [] := rowsOf_no fun x hx e => hi (e ▸ partOk_rng h x hx)
theorem rowsOf_in {p : Part} (h : partOk p = true) {id : Int} : 0 < (rowsOf p id).length ↔ id ∈ p.1 := by
 rw [← rowsOf_pos h]
 constructor
 ·intro h0
  rcases place_lt (l := p.1) (id := id) with hp | ⟨k, hk, hp⟩
  ·omega
  ·refine Classical.byContradiction fun hn => ?_
   rw [place_no (allN_iff.2 fun i hi => by simp; exact fun e => hn (e ▸ nth_mem hi))] at h0
   omega
 ·intro hm
  obtain ⟨k, hk, rfl⟩ := List.mem_iff_getElem.1 hm
  rcases place_lt (l := p.1) (id := p.1[k]) with hp | ⟨k, hk, hp⟩
  ·exfalso
   have := rowsOf_at (partOk_asc h) hk
   unfold rowsOf at this
   rw [nth_eq p.1 k hk, if_pos hp] at this
   have h5 := ((partOk_iff h).2.2.2 k (by have := (partOk_iff h).1; omega)).1
   rw [← this] at h5
   simp at h5
  ·omega
theorem asc_ids : ∀ {a b : List Int}, a.Pairwise (· < ·) → b.Pairwise (· < ·) → (∀ x, x ∈ a ↔ x ∈ b) → a = b
 | [], [], _, _, _ => rfl
 | [], y :: b, _, _, h => by have := (h y).2 (by simp); simp at this
 | x :: a, [], _, _, h => by have := (h x).1 (by simp); simp at this
 | x :: a, y :: b, ha, hb, h => by
  obtain ⟨a1, a2⟩ := List.pairwise_cons.1 ha
  obtain ⟨b1, b2⟩ := List.pairwise_cons.1 hb
  have hxy : x = y := by
   rcases List.mem_cons.1 ((h x).1 (by simp)) with e | hx
   ·exact e
   ·rcases List.mem_cons.1 ((h y).2 (by simp)) with e | hy
    ·exact e.symm
    ·have h1 := b1 _ hx; have h2 := a1 _ hy; omega
  subst hxy
  congr 1
  refine asc_ids a2 b2 fun z => ?_
  have := h z
  simp only [List.mem_cons] at this
  constructor
  ·intro hz
   rcases this.1 (.inr hz) with e | hz'
   ·have := a1 z hz; omega
   ·exact hz'
  ·intro hz
   rcases this.2 (.inr hz) with e | hz'
   ·have := b1 z hz; omega
   ·exact hz'
theorem list_nth {α : Type} [Inhabited α] {a b : List α} (h : a.length = b.length) (k : ∀ i, i < a.length → nth a i = nth b i) : a = b := List.ext_getElem h fun i h1 h2 => by
 rw [← nth_eq a i h1, ← nth_eq b i h2]; exact k i h1
theorem part_ext {p q : Part} (hp : partOk p = true) (hq : partOk q = true) (h : ∀ id, rowsOf p id = rowsOf q id) : p = q := by
 have e1 : p.1 = q.1 := asc_ids (partOk_asc hp) (partOk_asc hq) fun x => by rw [← rowsOf_in hp, ← rowsOf_in hq, h]
 have l1 := (partOk_iff hp).1
 have l2 := (partOk_iff hq).1
 have l3 := congrArg List.length e1
 refine Prod.ext e1 (list_nth (by omega) fun i hi => ?_)
 have h1 := rowsOf_at (partOk_asc hp) (k := i) (by omega)
 have h2 := rowsOf_at (partOk_asc hq) (k := i) (by omega)
 rw [← h1, ← h2, ← e1]; exact h _
theorem partOk_small {p : Part} (h : partOk p = true) : small p := by
 obtain ⟨h1, h2, h3, h4⟩ := partOk_iff h
 have hk : ∀ k : Nat, k < p.1.length → ((k : Nat) : Int) + 1 ≤ nth p.1 k := fun k => by
  induction k with
  | zero => intro hk; have := (h2 0 hk).1; omega
  | succ k ih =>
   intro hk
   have := h3 (k + 1) (by omega) hk
   rw [show k + 1 - 1 = k by omega] at this
   have := ih (by omega); omega
 have hl : p.1.length ≤ 10 := by
  rcases Nat.lt_or_ge p.1.length 7 with h' | h'
  ·omega
  ·have := hk 6 (by omega); have := (h2 6 (by omega)).2; omega
 refine ⟨hl, by omega, fun b hb => ?_⟩
 obtain ⟨i, hi, rfl⟩ := List.mem_iff_getElem.1 hb
 have := (blockOk_iff.1 (h4 i hi).2).2.2
 rw [nth_eq p.2 i hi] at this; omega
def blk (a b : Part) (id : Int) : List Row := mg (rowsOf a id) (rowsOf b id)
def blks (a b : Part) (n : Nat) : List (List Row) := (List.range n).map fun i => blk a b ((i + 1 : Nat) : Int)
def pmP (a b : Part) : Part := mkP 0 (blks a b 6)
def pmOk (a b : Part) : Bool := partOk a && partOk b && allN 6 fun i => decide (24 < (blk a b ((i + 1 : Nat) : Int)).length)
def pm (a b : Part) : Part × Bool := if pmOk a b = true then (pmP a b, true) else (([], []), false)
theorem blks_len (a b : Part) (n : Nat) : (blks a b n).length = n := by simp [blks]
theorem blks_nth (a b : Part) {n i : Nat} (h : i < n) : nth (blks a b n) i = blk a b ((i + 1 : Nat) : Int) := by
 rw [nth_eq _ i (by rw [blks_len]; exact h)]; simp [blks]
theorem blks_succ (a b : Part) (n : Nat) : blks a b (n + 1) = blks a b n ++ [blk a b ((n + 1 : Nat) : Int)] := by simp [blks, List.range_succ]
theorem blk_out {a b : Part} (ha : partOk a = true) (hb : partOk b = true) {id : Int} (h : ¬ (1 ≤ id ∧ id ≤ 6)) : blk a b id = [] := by
 unfold blk; rw [rowsOf_out ha h, rowsOf_out hb h]; rfl
theorem pmOk_iff {a b : Part} : pmOk a b = true ↔ partOk a = true ∧ partOk b = true ∧ ∀ id, (blk a b id).length ≤ 24 := by
 unfold pmOk
 rw [Bool.and_eq_true, Bool.and_eq_true, allN_iff]
 constructor
 ·rintro ⟨⟨h1, h2⟩, h3⟩
  refine ⟨h1, h2, fun id => ?_⟩
  by_cases hi : 1 ≤ id ∧ id ≤ 6
  ·have := h3 (id - 1).toNat (by omega)
   rw [show (((id - 1).toNat + 1 : Nat) : Int) = id by omega] at this
   simpa using this
  ·rw [blk_out h1 h2 hi]; simp
 ·rintro ⟨h1, h2, h3⟩
  exact ⟨⟨h1, h2⟩, fun i hi => by simpa using h3 _⟩
theorem blk_ok {a b : Part} (ha : partOk a = true) (hb : partOk b = true) (id : Int) : blockOk (blk a b id) = decide ((blk a b id).length ≤ 24) := mg_ok (rowsOf_ok ha id) (rowsOf_ok hb id)
theorem blk_len {a b : Part} (ha : partOk a = true) (hb : partOk b = true) (id : Int) : (blk a b id).length ≤ 48 := by
 have h1 := (blockOk_iff.1 (rowsOf_ok ha id)).2.2
 have h2 := (blockOk_iff.1 (rowsOf_ok hb id)).2.2
 have := (mg_len (rowsOf b id) (rowsOf a id)).2
 unfold blk; omega
theorem pmP_rows {a b : Part} (ha : partOk a = true) (hb : partOk b = true) (id : Int) : rowsOf (pmP a b) id = blk a b id := by
 by_cases hi : 1 ≤ id ∧ id ≤ 6
 ·obtain ⟨j, hj, rfl⟩ : ∃ j : Nat, j < 6 ∧ id = ((j + 1 : Nat) : Int) := ⟨(id - 1).toNat, by omega, by omega⟩
  by_cases hp : 0 < (blk a b ((j + 1 : Nat) : Int)).length
  ·obtain ⟨k, h1, h2, h3⟩ := mkP_has (blks a b 6) 0 j (by rw [blks_len]; exact hj) (by rw [blks_nth a b hj]; exact hp)
   have := rowsOf_at (p := pmP a b) (mkP_asc _ _) h1
   have e : nth (pmP a b).1 k = ((j + 1 : Nat) : Int) := by rw [show nth (pmP a b).1 k = _ from h2]; omega
   rw [e] at this
   rw [this, show nth (pmP a b).2 k = _ from h3, blks_nth a b hj]
  ·rw [rowsOf_no fun x hx e => ?_]
   ·exact (List.length_eq_zero_iff.1 (by omega)).symm
   ·obtain ⟨j', g1, g2, g3⟩ := mkP_rng (blks a b 6) 0 x hx
    rw [blks_len] at g1
    have : j' = j := by omega
    subst this
    rw [blks_nth a b g1] at g3
    exact hp g3
 ·rw [blk_out ha hb hi]
  refine rowsOf_no fun x hx e => hi ?_
  obtain ⟨j', g1, g2, g3⟩ := mkP_rng (blks a b 6) 0 x hx
  rw [blks_len] at g1
  omega
theorem pmP_ok {a b : Part} (ha : partOk a = true) (hb : partOk b = true) : partOk (pmP a b) = allN 6 fun i => decide (24 < (blk a b ((i + 1 : Nat) : Int)).length) := by
 cases h : allN 6 fun i => decide (24 < (blk a b ((i + 1 : Nat) : Int)).length) with
 | true =>
  have h := allN_iff.1 h
  refine partOk_of (mkP_len _ _).1 (fun x hx => ?_) (mkP_asc _ _) fun y hy => ⟨mkP_pos _ _ y hy, ?_⟩
  ·obtain ⟨j', g1, g2, g3⟩ := mkP_rng (blks a b 6) 0 x hx
   rw [blks_len] at g1; omega
  ·have := mkP_mem _ _ y hy
   obtain ⟨i, hi, rfl⟩ := List.mem_map.1 this
   rw [blk_ok ha hb]
   have := h i (List.mem_range.1 hi)
   simpa using this
 | false =>
  obtain ⟨j, hj, h1, _⟩ := first_bad h
  have h1 : 24 < (blk a b ((j + 1 : Nat) : Int)).length := by simpa using h1
  cases h2 : partOk (pmP a b) with
  | false => rfl
  | true =>
   have := (blockOk_iff.1 (rowsOf_ok h2 ((j + 1 : Nat) : Int))).2.2
   rw [pmP_rows ha hb] at this
   omega
theorem pm_part {a b : Part} (h : pmOk a b = true) : partOk (pmP a b) = true := by
 obtain ⟨h1, h2, h3⟩ := pmOk_iff.1 h
 rw [pmP_ok h1 h2]
 exact allN_iff.2 fun i _ => by simpa using h3 _
theorem pm_true {a b : Part} (h : pmOk a b = true) : pm a b = (pmP a b, true) := by unfold pm; rw [if_pos h]
theorem pmP_eq {a b : Part} (ha : partOk a = true) (hb : partOk b = true) (id : Int) : rowsOf (pmP a b) id = mg (rowsOf a id) (rowsOf b id) := pmP_rows ha hb id
theorem rowsOf_z (id : Int) : rowsOf (([] : List Int), ([] : List (List Row))) id = [] := rowsOf_no (by simp)
theorem rowsOf_24 {p : Part} (h : partOk p = true) (id : Int) : (rowsOf p id).length ≤ 24 := (blockOk_iff.1 (rowsOf_ok h id)).2.2
theorem pm_none {a : Part} (ha : partOk a = true) : pm a ([], []) = (a, true) := by
 have hz : partOk (([] : List Int), ([] : List (List Row))) = true := rfl
 have hk : pmOk a ([], []) = true := pmOk_iff.2 ⟨ha, hz, fun id => by unfold blk; rw [rowsOf_z, mg_nil]; exact rowsOf_24 ha id⟩
 rw [pm_true hk, part_ext (pm_part hk) ha fun id => by rw [pmP_eq ha hz, rowsOf_z, mg_nil]]
theorem ba_one {x : ByteArray} (h : x.size = 1) : x = ⟨#[sb x 0]⟩ := by
 have : x.data.size = 1 := h
 apply ByteArray.ext
 apply Array.ext
 ·rw [this]; rfl
 ·intro i h1 h2
  have hi : i = 0 := by omega
  subst hi
  simp [sb, this]
theorem sl_one (a b : UInt8) : sless ⟨#[a]⟩ ⟨#[b]⟩ = decide (a < b) := by
 rw [sless_lt]
 have e : ∀ c : UInt8, (⟨#[c]⟩ : ByteArray).toList = [c] := fun c => by simp [ByteArray.toList, ByteArray.toList.loop, ByteArray.size, ByteArray.get!]
 have h2 : ([a] < [b]) ↔ a < b := by rw [List.cons_lt_cons_iff]; simp
 rw [e, e]
 exact decide_eq_decide.2 h2
def tagB (t : Tag) : Bool := decide (t.1.size = 1) && (decide (t.2.size = 1) && (inn 97 ((sb t.1 0).toNat : Int) 100 && inn 112 ((sb t.2 0).toNat : Int) 122))
theorem e_spec_l3Tag (t : Tag) : p_spec_l3Tag t = some (tagB t) := by
 unfold p_spec_l3Tag tagB
 have c1 : decide ((t.1.size : Int) = 1) = decide (t.1.size = 1) := decide_eq_decide.2 (by omega)
 have c2 : decide ((t.2.size : Int) = 1) = decide (t.2.size = 1) := decide_eq_decide.2 (by omega)
 rw [c1, c2]
 by_cases h1 : t.1.size = 1
 ·by_cases h2 : t.2.size = 1
  ·simp only [h1, h2, decide_true, cond_true, gd.yes (show ix 0 1 by unfold ix; omega), e_spec_l6In, bd_some, Bool.true_and]
   cases inn 97 ((sb t.1 0).toNat : Int) 100 <;> simp
  ·simp [h1, h2]
 ·simp [h1]
theorem rng_one {x : ByteArray} (h : x.size = 1) (lo hi : UInt8) : (!sless x ⟨#[lo]⟩ && (sless x ⟨#[hi]⟩ || decide (x = ⟨#[hi]⟩))) = inn (lo.toNat : Int) ((sb x 0).toNat : Int) (hi.toNat : Int) := by
 have hx := ba_one h
 generalize sb x 0 = c at *
 subst hx
 rw [sl_one, sl_one]
 have e1 : (!decide (c < lo)) = decide ((lo.toNat : Int) ≤ (c.toNat : Int)) := by
  by_cases k : c < lo
  ·have : c.toNat < lo.toNat := UInt8.lt_iff_toNat_lt.1 k
   simp [k]; omega
  ·have : ¬ c.toNat < lo.toNat := fun q => k (UInt8.lt_iff_toNat_lt.2 q)
   simp [k]; omega
 have e2 : (decide (c < hi) || decide ((⟨#[c]⟩ : ByteArray) = ⟨#[hi]⟩)) = decide ((c.toNat : Int) ≤ (hi.toNat : Int)) := by
  by_cases k : c < hi
  ·have : c.toNat < hi.toNat := UInt8.lt_iff_toNat_lt.1 k
   simp [k]; omega
  ·have h3 : ¬ c.toNat < hi.toNat := fun q => k (UInt8.lt_iff_toNat_lt.2 q)
   by_cases e : c = hi
   ·subst e; simp
   ·have h4 : c.toNat ≠ hi.toNat := fun q => e (UInt8.toNat_inj.1 q)
    have h5 : (⟨#[c]⟩ : ByteArray) ≠ ⟨#[hi]⟩ := fun q => e (by
     have := congrArg (fun b : ByteArray => b.data.toList) q
     simpa using this)
    simp [k, h5]; omega
 rw [e1, e2]; rfl
theorem e_impl_tagOk (t : Tag) : p_impl_tagOk t = some (tagB t) := by
 unfold p_impl_tagOk tagB
 have c1 : decide ((t.1.size : Int) = 1) = decide (t.1.size = 1) := decide_eq_decide.2 (by omega)
 have c2 : decide ((t.2.size : Int) = 1) = decide (t.2.size = 1) := decide_eq_decide.2 (by omega)
 rw [c1, c2]
 by_cases h1 : t.1.size = 1
 ·have r1 := rng_one h1 97 100
  rw [show ((97 : UInt8).toNat : Int) = 97 from rfl, show ((100 : UInt8).toNat : Int) = 100 from rfl] at r1
  rw [← r1]
  by_cases h2 : t.2.size = 1
  ·have r2 := rng_one h2 112 122
   rw [show ((112 : UInt8).toNat : Int) = 112 from rfl, show ((122 : UInt8).toNat : Int) = 122 from rfl] at r2
   rw [← r2]
   simp only [h1, h2, decide_true, cond_true, Bool.true_and]
   cases (!sless t.1 ⟨#[97]⟩) <;> cases (sless t.1 ⟨#[100]⟩ || decide (t.1 = ⟨#[100]⟩)) <;> cases (!sless t.2 ⟨#[112]⟩) <;> rfl
  ·simp only [h1, h2, decide_true, decide_false, cond_true, cond_false, Bool.true_and, Bool.false_and]
   cases (!sless t.1 ⟨#[97]⟩) <;> cases (sless t.1 ⟨#[100]⟩ || decide (t.1 = ⟨#[100]⟩)) <;> rfl
 ·simp [h1]
def nameBad (n : List Tag) (k : Nat) : Bool := !tagB (nth n k) || (decide (0 < k) && !sless (nth n (k - 1)).1 (nth n k).1)
def nameOk (n : List Tag) : Bool := allN n.length (nameBad n) && inn 1 (n.length : Int) 3
theorem e_impl_NameOk (n : List Tag) (hn : n.length ≤ maxLen) : p_impl_NameOk n = some (nameOk n) := by
 have hn' : n.length ≤ 9223372036854775807 := hn
 have hr : ∀ k, k < n.length → p_impl_NameOk_b0 n (k : Int) = some (if nameBad n k then .inr (.inr false) else .inl ((k + 1 : Nat) : Int)) := fun k hk => by
  unfold p_impl_NameOk_b0 nameBad
  simp only [dlt hk, cond_true, gd.yes (ixN hk), e_impl_tagOk, bd_some, Int.toNat_natCast, gd.yes (i64S hk hn')]
  cases h1 : tagB (nth n k) with
  | false => simp
  | true =>
   simp only [Bool.not_true, cond_false, Bool.false_or]
   by_cases h0 : 0 < k
   ·have h0' : (0 : Int) < k := by omega
    have e1 : (k : Int) - 1 = ((k - 1 : Nat) : Int) := by omega
    have hi : I64 ((k - 1 : Nat) : Int) := by unfold I64; omega
    simp only [h0, h0', decide_true, cond_true, e1, gd.yes hi, gd.yes (ixN (show k - 1 < n.length by omega)), Int.toNat_natCast, bd_some, Bool.true_and]
    cases sless (nth n (k - 1)).1 (nth n k).1 <;> simp
   ·simp [h0]
 unfold p_impl_NameOk nameOk
 rcases lp_scan (body := p_impl_NameOk_b0 n) (fun k => (k : Int)) n.length (nameBad n) (.inl ()) (fun _ => .inr false) (fun k hk _ h => by simp [hr k hk, h]) (fun k hk _ h => by simp [hr k hk, h]) (fun _ => by unfold p_impl_NameOk_b0; simp) with ⟨h1, h2⟩ | ⟨h1, k, _, _, _, h2⟩
 ·rw [show (lp (p_impl_NameOk_b0 n) 0) = _ from h2, h1]; simp [sw, e_impl_within]
 ·rw [show (lp (p_impl_NameOk_b0 n) 0) = _ from h2, h1]; simp [sw]
theorem e_spec_NameOk (n : List Tag) (hn : n.length ≤ maxLen) : p_spec_NameOk n = some (nameOk n) := by
 have hn' : n.length ≤ 9223372036854775807 := hn
 have hr : ∀ k, k < n.length → p_spec_NameOk_b0 n (k : Int) = some (if nameBad n k then .inr (.inr false) else .inl ((k + 1 : Nat) : Int)) := fun k hk => by
  unfold p_spec_NameOk_b0 nameBad
  simp only [dlt hk, cond_true, gd.yes (ixN hk), e_spec_l3Tag, bd_some, Int.toNat_natCast, gd.yes (i64S hk hn')]
  cases h1 : tagB (nth n k) with
  | false => simp
  | true =>
   simp only [Bool.not_true, cond_false, Bool.false_or]
   by_cases h0 : 0 < k
   ·have h0' : (0 : Int) < k := by omega
    have e1 : (k : Int) - 1 = ((k - 1 : Nat) : Int) := by omega
    have hi : I64 ((k - 1 : Nat) : Int) := by unfold I64; omega
    simp only [h0, h0', decide_true, cond_true, e1, gd.yes hi, gd.yes (ixN (show k - 1 < n.length by omega)), Int.toNat_natCast, bd_some, Bool.true_and]
    cases sless (nth n (k - 1)).1 (nth n k).1 <;> simp
   ·simp [h0]
 unfold p_spec_NameOk nameOk
 rcases lp_scan (body := p_spec_NameOk_b0 n) (fun k => (k : Int)) n.length (nameBad n) (.inl ()) (fun _ => .inr false) (fun k hk _ h => by simp [hr k hk, h]) (fun k hk _ h => by simp [hr k hk, h]) (fun _ => by unfold p_spec_NameOk_b0; simp) with ⟨h1, h2⟩ | ⟨h1, k, _, _, _, h2⟩
 ·rw [show (lp (p_spec_NameOk_b0 n) 0) = _ from h2, h1]; simp [sw, e_spec_l6In]
 ·rw [show (lp (p_spec_NameOk_b0 n) 0) = _ from h2, h1]; simp [sw]
theorem allN_mem {α : Type} [Inhabited α] {l : List α} {p : α → Bool} : allN l.length (fun k => p (nth l k)) = true ↔ ∀ x ∈ l, p x = false := by
 rw [allN_iff]
 constructor
 ·intro h x hx
  obtain ⟨i, hi, rfl⟩ := List.mem_iff_getElem.1 hx
  have := h i hi
  rwa [nth_eq l i hi] at this
 ·intro h i hi
  rw [nth_eq l i hi]
  exact h _ (List.getElem_mem hi)
def hasT (n : List Tag) (t : Tag) : Bool := n.any fun x => decide (x = t)
theorem hasT_iff {n : List Tag} {t : Tag} : hasT n t = true ↔ t ∈ n := by simp [hasT]
theorem hasT_no {n : List Tag} {t : Tag} (h : t ∉ n) : hasT n t = false := by
 cases hc : hasT n t with
 | false => rfl
 | true => exact absurd (hasT_iff.1 hc) h
theorem e_spec_l3Has (n : List Tag) (t : Tag) (hn : n.length ≤ maxLen) : p_spec_l3Has n t = some (hasT n t) := by
 have hn' : n.length ≤ 9223372036854775807 := hn
 have hr : ∀ k, k < n.length → p_spec_l3Has_b0 n t (k : Int) = some (if decide (nth n k = t) then .inr (.inr true) else .inl ((k + 1 : Nat) : Int)) := fun k hk => by
  unfold p_spec_l3Has_b0
  simp only [dlt hk, cond_true, gd.yes (ixN hk), Int.toNat_natCast, gd.yes (i64S hk hn')]
  by_cases h : nth n k = t <;> simp [h]
 unfold p_spec_l3Has
 rcases lp_scan (body := p_spec_l3Has_b0 n t) (fun k => (k : Int)) n.length (fun k => decide (nth n k = t)) (.inl ()) (fun _ => .inr true) (fun k hk _ h => by simp [hr k hk, of_decide_eq_false h]) (fun k hk _ h => by simp [hr k hk, of_decide_eq_true h]) (fun _ => by unfold p_spec_l3Has_b0; simp) with ⟨h1, h2⟩ | ⟨h1, k, hk, hb, _, h2⟩
 ·rw [show (lp (p_spec_l3Has_b0 n t) 0) = _ from h2]
  have : t ∉ n := fun ht => by
   have := (allN_mem (l := n) (p := fun x => decide (x = t))).1 h1 t ht
   simp at this
  simp [sw, hasT_no this]
 ·rw [show (lp (p_spec_l3Has_b0 n t) 0) = _ from h2]
  have : t ∈ n := (of_decide_eq_true hb) ▸ nth_mem hk
  simp [sw, hasT_iff.2 this]
theorem e_impl_cloneNames (names : List (List Tag)) (h1 : names.length ≤ 4194304) (h2 : ∀ n ∈ names, n.length ≤ 4194304) : p_impl_cloneNames names = some names := by
 unfold p_impl_cloneNames
 rw [show (([] : List (List Tag)), (0 : Int)) = (names.take 0, ((0 : Nat) : Int)) from rfl, lp_for (fun k => (names.take k, (k : Int))) names.length names (fun k hk => by
  unfold p_impl_cloneNames_b0
  have hl := h2 _ (nth_mem hk)
  simp only [dlt hk, cond_true, gd.yes (ixN hk), Int.toNat_natCast, List.length_nil, List.nil_append, List.length_take]
  rw [gd.yes (by unfold room; omega), gd.yes (by unfold room; omega), gd.yes (by unfold I64; omega), take_succ_nth hk]
  rfl) (by unfold p_impl_cloneNames_b0; simp)]
 rfl
theorem e_spec_l11Names (names : List (List Tag)) (h1 : names.length ≤ 4194304) (h2 : ∀ n ∈ names, n.length ≤ 4194304) : p_spec_l11Names names = some names := by
 unfold p_spec_l11Names
 rw [show (([] : List (List Tag)), (0 : Int)) = (names.take 0, ((0 : Nat) : Int)) from rfl, lp_for (fun k => (names.take k, (k : Int))) names.length names (fun k hk => by
  unfold p_spec_l11Names_b0
  have hl := h2 _ (nth_mem hk)
  simp only [dlt hk, cond_true, gd.yes (ixN hk), Int.toNat_natCast, List.length_nil, List.nil_append, List.length_take]
  rw [gd.yes (by unfold room; omega), gd.yes (by unfold room; omega), gd.yes (by unfold I64; omega), take_succ_nth hk]
  rfl) (by unfold p_spec_l11Names_b0; simp)]
 rfl
def addT : List Post → Tag → Int → List Post
 | [], t, i => [(t, [i])]
 | p :: P, t, i => if p.1 = t then (p.1, p.2 ++ [i]) :: P else p :: addT P t i
def addN (P : List Post) (n : List Tag) (i : Int) : List Post := n.foldl (fun P t => addT P t i) P
def postsF (names : List (List Tag)) : Nat → List Post
 | 0 => []
 | m + 1 => addN (postsF names m) (nth names m) ((m : Int) + 1)
end Go.Proofs.YtonnpkdadcafcaaGreat
