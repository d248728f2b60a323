/- The walks and the plain laws, part 3: each function that the law reaches computes what its plain function tells, and what the plain functions answer. Conditions: lengths that memory can hold. -/
import Derived.Test.YtonnpkdadcafcaaGreatA2
namespace Go.Proofs.YtonnpkdadcafcaaGreat
open Go Go.Sx Tryz
theorem c_spec_l21Tidy {r : Disk} (v0 : Disk) (x_v0 : (Option Addr × Nat) × (Option Addr × Nat) × (Option Addr × Nat) × Unit) (H : p_spec_l21Tidy v0 = some r) : Fn' prog 69 #[.agg #[.slice x_v0.1.1 v0.1.length x_v0.1.2, .slice x_v0.2.1.1 v0.2.1.length x_v0.2.1.2, .slice x_v0.2.2.1.1 v0.2.2.1.length x_v0.2.2.1.2, .int .i64 (v0.2.2.2)]] [imm (.slice x_v0.1.1 v0.1.length x_v0.1.2) v0.1, imm (.slice x_v0.2.1.1 v0.2.1.length x_v0.2.1.2) v0.2.1, imm (.slice x_v0.2.2.1.1 v0.2.2.1.length x_v0.2.2.1.2) v0.2.2.1] [] (ι := (Option Addr × Nat) × (Option Addr × Nat) × (Option Addr × Nat) × Unit) (fun x => .agg #[.slice x.1.1 r.1.length x.1.2, .slice x.2.1.1 r.2.1.length x.2.1.2, .slice x.2.2.1.1 r.2.2.1.length x.2.2.1.2, .int .i64 (r.2.2.2)]) (fun x => [imm (.slice x.1.1 r.1.length x.1.2) r.1, imm (.slice x.2.1.1 r.2.1.length x.2.1.2) r.2.1, imm (.slice x.2.2.1.1 r.2.2.1.length x.2.2.1.2) r.2.2.1]) (fun _ => []) := by
 refine cof (args := [_]) func69 ntmps69 fun c => ?_
 unfold p_spec_l21Tidy at H
 refine bM aR fun X1 => (bM aR.s.s.s fun X2 => (sr (f1 (cC (t := 32) rfl) fun g3 => (f1 (cD ty32) fun g4 => (nl (sr (f2 (e_lit0r File dQ ty77) fun a5 c6 => (aH rfl (nl (aD (sr ?_)))))))))))
 refine aH (v := .int .i64 (0)) rfl (nl (bdo H fun x7 hx8 H => (dB (ι := Option Addr × Nat) (fun ψ => [(1, .pointer (some ⟨g3, 0, none⟩)), (2, .pointer (some ⟨g4, 0, none⟩)), (3, .slice ψ.1 x7.length ψ.2)]) (fun ψ => [box g3 32 [.slice x_v0.1.1 v0.1.length x_v0.1.2, .slice x_v0.2.1.1 v0.2.1.length x_v0.2.1.2, .slice x_v0.2.2.1.1 v0.2.2.1.length x_v0.2.2.1.2, .int .i64 (v0.2.2.2)], box g4 32 [.slice none 0 0, .slice none 0 0, .slice none 0 0, .int .i64 (0)], row (.slice ψ.1 x7.length ψ.2) x7]) ?_ ?_)))
 ·refine aQ (dE hx8 (a5, c6) (fun Q11 z12 => [(1, .pointer (some ⟨g3, 0, none⟩)), (2, .pointer (some ⟨g4, 0, none⟩)), (3, .slice z12.1 Q11.1.length z12.2), (4, .int .i64 (Q11.2))]) (fun Q11 z12 => [box g3 32 [.slice x_v0.1.1 v0.1.length x_v0.1.2, .slice x_v0.2.1.1 v0.2.1.length x_v0.2.1.2, .slice x_v0.2.2.1.1 v0.2.2.1.length x_v0.2.2.1.2, .int .i64 (v0.2.2.2)], box g4 32 [.slice none 0 0, .slice none 0 0, .slice none 0 0, .int .i64 (0)], row (.slice z12.1 Q11.1.length z12.2) Q11.1]) (.cons dl2 (.cons dl1 (.cons aA .nil))) ?_)
  rintro _ Q11 z12 t14 H1 hi15 hb16
  unfold p_spec_l21Tidy_b0 at H1
  refine aD (sr (aF rfl (aG (cB fa32_0 rfl rfl) (aI (bI ty29 rfl aB rfl) (aG (bS 77 dQ rfl) (aG (cP rfl rfl) (nl (cH H1 rfl (fun h19 H1 => ?_) (fun h19 H1 => ?_)))))))))
  ·refine bH (nT (aD (aQ (aD (dF [(1, .pointer (some ⟨g3, 0, none⟩)), (2, .pointer (some ⟨g4, 0, none⟩)), (3, .slice z12.1 Q11.1.length z12.2), (4, .int .i64 (Q11.2))] mixed (.inr (by kernel_rfl)) ⟨rfl, rfl, rfl, rfl, trivial⟩ rfl (aZ (bJ ty32 rfl aB rfl) (aX (cB fa32_0 rfl rfl) (aZ (bI ty29 rfl aB rfl) (bB rfl (gdo H1 fun h20 H1 => ?_))))))))))
   refine aZ (bW dQ ty77 rfl rfl h20 rfl (aL (aT aR.s))) (aZ (bY (j := 0) Q11.2.toNat fa77_0 rfl (aL (aT aR.s)) h20.lt rfl) (aZ (bZ (i := Q11.2.toNat) (j := 0) ty3 rfl (aL (aT aR.s)) h20.lt rfl) (bdo H1 fun r21 h22 H1 => (aZ (bN (c_spec_l21Counts v0 (x_v0.1, x_v0.2.1, x_v0.2.2.1, ()) ((nth v0.1 Q11.2.toNat).1) h22) rfl (aC (aL (aS aR.s)) (aC (aL aR.s.s.s) (aC (aL (aS aR)) aO)))) (nT (cH H1 rfl (fun h23 H1 => ?_) (fun h23 H1 => ?_)))))))
   ·refine aP (aF rfl (aG (cB fa32_0 rfl rfl) (aI (bI ty29 rfl aB rfl) (aF rfl (aI (bW dQ ty77 rfl rfl h20 rfl (aL (aT aR.s))) (aI (v := .agg #[.int .i64 ((nth v0.1 Q11.2.toNat).1), .slice ((((X1 Q11.2.toNat).2).1).1) ((((nth v0.1 Q11.2.toNat).2).1).length) ((((X1 Q11.2.toNat).2).1).2.1), .slice ((((X1 Q11.2.toNat).2).2).1) ((((nth v0.1 Q11.2.toNat).2).2).length) ((((X1 Q11.2.toNat).2).2).2.1)]) (cA (i := Q11.2.toNat) ty77 rfl (aL (aT aR.s)) h20.lt) (f1 (e_lit (vs := [(0, .agg #[.int .i64 ((nth v0.1 Q11.2.toNat).1), .slice ((((X1 Q11.2.toNat).2).1).1) ((((nth v0.1 Q11.2.toNat).2).1).length) ((((X1 Q11.2.toNat).2).1).2.1), .slice ((((X1 Q11.2.toNat).2).2).1) ((((nth v0.1 Q11.2.toNat).2).2).length) ((((X1 Q11.2.toNat).2).2).2.1)])]) [.int .i64 ((nth v0.1 Q11.2.toNat).1), .slice ((((X1 Q11.2.toNat).2).1).1) ((((nth v0.1 Q11.2.toNat).2).1).length) ((((X1 Q11.2.toNat).2).1).2.1), .slice ((((X1 Q11.2.toNat).2).2).1) ((((nth v0.1 Q11.2.toNat).2).2).length) ((((X1 Q11.2.toNat).2).2).2.1)] dQ ty77 rfl (by decide) (by decide) (by kernel_rfl)) fun g24 => (gdo H1 fun h27 H1 => (f2 (e_app1R (l := Q11.1) (α := File) (nth v0.1 Q11.2.toNat) ((), (((((X1 Q11.2.toNat).2).1).1, (((X1 Q11.2.toNat).2).1).2.1), ((((X1 Q11.2.toNat).2).2).1, (((X1 Q11.2.toNat).2).2).2.1))) dQ ty77 rfl rfl (h27.b (by decide)) h27.x rfl (.cons dl3 (.cons aA .nil)) (cL (aS (aV (aU (aW aR.s h20.lt)))) (cL (aS (aU (aU (aW aR.s h20.lt)))) cM))) fun a25 c26 => ?_)))))))))
    exact aH rfl (aJ (nB (nT (aP (aF rfl (gdo H1 fun h28 H1 => (aG (bR rfl rfl h28) (aH rfl (aJ (nLI (a25, c26) (hi15 _ (sm H1)) (.cons dl1 (.cons dl1 (.cons aA .nil)))))))))))))
   ·exact bH (nB (nT (aP (aF rfl (gdo H1 fun h29 H1 => (aG (bR rfl rfl h29) (aH rfl (aJ (nLI (z12.1, z12.2) (hi15 _ (sm H1)) (.cons aA (.cons aA (.cons aA .nil))))))))))))
  ·refine dA (xT (xT (xE (?_))))
   obtain rfl := hb16 _ (sm H1)
   exact nMC (z12.1, z12.2) ⟨rfl, rfl, rfl, trivial⟩ bT (.cons aA (.cons aA (.cons aA .nil)))
 ·intro y13
  show At _ _ [(1, .pointer (some ⟨g3, 0, none⟩)), (2, .pointer (some ⟨g4, 0, none⟩)), (3, .slice y13.1 x7.length y13.2)] _ [box g3 32 [.slice x_v0.1.1 v0.1.length x_v0.1.2, .slice x_v0.2.1.1 v0.2.1.length x_v0.2.1.2, .slice x_v0.2.2.1.1 v0.2.2.1.length x_v0.2.2.1.2, .int .i64 (v0.2.2.2)], box g4 32 [.slice none 0 0, .slice none 0 0, .slice none 0 0, .int .i64 (0)], row (.slice y13.1 x7.length y13.2) x7] _
  refine nT (sr (aF rfl (aG (cB fa32_0 rfl rfl) (stb (cs' := [.slice y13.1 x7.length y13.2, .slice x_v0.2.1.1 v0.2.1.length x_v0.2.1.2, .slice x_v0.2.2.1.1 v0.2.2.1.length x_v0.2.2.1.2, .int .i64 (v0.2.2.2)]) ty29 cZ (nl (sr (aI (bJ ty32 rfl aB rfl) (stb (cs' := [.slice y13.1 x7.length y13.2, .slice x_v0.2.1.1 v0.2.1.length x_v0.2.1.2, .slice x_v0.2.2.1.1 v0.2.2.1.length x_v0.2.2.1.2, .int .i64 (v0.2.2.2)]) ty32 up1 (nl ?_)))))))))
  refine Tr.freezeR (.cons dl2 .nil) (bQ ?_)
  obtain rfl := si H
  exact back1 (y13, x_v0.2.1, x_v0.2.2.1, ()) rfl (ResV.agg ty32 rfl hs1 rfl) rfl (cL aR (cL aR.s.s.s.s (cL (aS aR.s) cM))) bK
noncomputable def p_spec_DiskTidy (v0 : Disk) : Option (Disk) := bd (p_spec_DiskOk v0) fun r5 => cond (!r5) (some (([]), ([]), ([]), 0)) (bd (p_spec_l21Copy v0) fun r8 => bd (p_spec_l21Tidy r8) fun r11 => some r11)
theorem c_spec_DiskTidy {r : Disk} (v0 : Disk) (x_v0 : (Option Addr × Nat) × (Option Addr × Nat) × (Option Addr × Nat) × Unit) (H : p_spec_DiskTidy v0 = some r) : Fn' prog 20 #[.agg #[.slice x_v0.1.1 v0.1.length x_v0.1.2, .slice x_v0.2.1.1 v0.2.1.length x_v0.2.1.2, .slice x_v0.2.2.1.1 v0.2.2.1.length x_v0.2.2.1.2, .int .i64 (v0.2.2.2)]] [imm (.slice x_v0.1.1 v0.1.length x_v0.1.2) v0.1, imm (.slice x_v0.2.1.1 v0.2.1.length x_v0.2.1.2) v0.2.1, imm (.slice x_v0.2.2.1.1 v0.2.2.1.length x_v0.2.2.1.2) v0.2.2.1] [] (ι := (Option Addr × Nat) × (Option Addr × Nat) × (Option Addr × Nat) × Unit) (fun x => .agg #[.slice x.1.1 r.1.length x.1.2, .slice x.2.1.1 r.2.1.length x.2.1.2, .slice x.2.2.1.1 r.2.2.1.length x.2.2.1.2, .int .i64 (r.2.2.2)]) (fun x => [imm (.slice x.1.1 r.1.length x.1.2) r.1, imm (.slice x.2.1.1 r.2.1.length x.2.1.2) r.2.1, imm (.slice x.2.2.1.1 r.2.2.1.length x.2.2.1.2) r.2.2.1]) (fun _ => []) := by
 refine cof (args := [_]) func20 ntmps20 fun c => ?_
 unfold p_spec_DiskTidy at H
 refine bM aR fun X1 => (bM aR.s.s.s fun X2 => (sr (f1 (cC (t := 32) rfl) fun g3 => (f1 (cD ty32) fun g4 => (nl (aD (sr (aI (bJ ty32 rfl hs1 rfl) (bdo H fun r5 h6 H => (aI (bN (c_spec_DiskOk v0 (x_v0.1, x_v0.2.1, x_v0.2.2.1, ()) h6) rfl (aC (aL (aS aR.s)) (aC (aL aR.s.s.s) (aC (aL (aS aR)) aO)))) ?_))))))))))
 refine aG (cV rfl) (nl (cH H rfl (fun h7 H => ?_) (fun h7 H => ?_)))
 ·refine sr (aG (v := .agg #[.slice none 0 0, .slice none 0 0, .slice none 0 0, .int .i64 (0)]) (p_buildS (vs := []) (cs := #[.slice none 0 0, .slice none 0 0, .slice none 0 0, .int .i64 (0)]) ty32 pl32 rfl rfl) (stb (cs' := [.slice none 0 0, .slice none 0 0, .slice none 0 0, .int .i64 (0)]) ty32 cZ (nl (bQ (rT (?_))))))
  obtain rfl := si H
  exact back1 ((none, 0), (none, 0), (none, 0), ()) rfl (ResV.agg ty32 rfl aB rfl) rfl (cL Ent.nil0 (cL Ent.nil0 (cL Ent.nil0 cM))) bK
 ·refine bH (nT (sr (aI (bJ ty32 rfl hs1 rfl) (bdo H fun r8 h9 H => (f1 (e_call (FnL'.frz (FnL'.frz (FnL'.frz (c_spec_l21Copy v0 (x_v0.1, x_v0.2.1, x_v0.2.2.1, ()) h9)))) rfl (cL (aS aR.s) (cL aR.s.s.s (cL (aS aR) cM))) bK) fun x10 => (bdo H fun r11 h12 H => (f1 (e_call (c_spec_l21Tidy r8 (x10.1, x10.2.1, x10.2.2.1, ()) h12) rfl (cL aR.s.s (cL aR.s (cL aR cM))) bK) fun x13 => (stb (cs' := [.slice x13.1.1 r11.1.length x13.1.2, .slice x13.2.1.1 r11.2.1.length x13.2.1.2, .slice x13.2.2.1.1 r11.2.2.1.length x13.2.2.1.2, .int .i64 (r11.2.2.2)]) ty32 cZ (nl ?_)))))))))
  refine bQ ?_
  obtain rfl := si H
  exact back1 (x13.1, x13.2.1, x13.2.2.1, ()) rfl (ResV.agg ty32 rfl aB rfl) rfl (cL aR (cL aR.s (cL aR.s.s cM))) bK
noncomputable def p_impl_cloneDisk_b0 (v0 : Disk) (Q18 : (List File) × Int) : Option (((List File) × Int) ⊕ ((List File))) := cond (decide (Q18.2 < (v0.1.length : Int))) (gd (ix Q18.2 v0.1.length) <| bd (p_impl_clonePart ((nth v0.1 Q18.2.toNat).2)) fun r29 => gd (room (Q18.1.length + 1)) <| gd (I64 (Q18.2 + 1)) <| some (.inl ((Q18.1 ++ [(((nth v0.1 Q18.2.toNat).1), r29)]), Q18.2 + 1))) (some (.inr Q18.1))
noncomputable def p_impl_cloneDisk (v0 : Disk) : Option (Disk) := gd (room (([] : List Int).length + v0.2.1.length)) <| bd (p_impl_cloneNames v0.2.2.1) fun r9 => bd (lp (p_impl_cloneDisk_b0 v0) (([] : List File), 0)) fun x14 => some (x14, (([] : List Int) ++ v0.2.1), r9, v0.2.2.2)
theorem c_impl_cloneDisk {r : Disk} (v0 : Disk) (x_v0 : (Option Addr × Nat) × (Option Addr × Nat) × (Option Addr × Nat) × Unit) (H : p_impl_cloneDisk v0 = some r) : Fn' prog 71 #[.agg #[.slice x_v0.1.1 v0.1.length x_v0.1.2, .slice x_v0.2.1.1 v0.2.1.length x_v0.2.1.2, .slice x_v0.2.2.1.1 v0.2.2.1.length x_v0.2.2.1.2, .int .i64 (v0.2.2.2)]] [imm (.slice x_v0.1.1 v0.1.length x_v0.1.2) v0.1, imm (.slice x_v0.2.1.1 v0.2.1.length x_v0.2.1.2) v0.2.1, imm (.slice x_v0.2.2.1.1 v0.2.2.1.length x_v0.2.2.1.2) v0.2.2.1] [] (ι := (Option Addr × Nat) × (Option Addr × Nat) × (Option Addr × Nat) × Unit) (fun x => .agg #[.slice x.1.1 r.1.length x.1.2, .slice x.2.1.1 r.2.1.length x.2.1.2, .slice x.2.2.1.1 r.2.2.1.length x.2.2.1.2, .int .i64 (r.2.2.2)]) (fun _ => []) (fun x => [tree (.slice x.1.1 r.1.length x.1.2) r.1, tree (.slice x.2.1.1 r.2.1.length x.2.1.2) r.2.1, tree (.slice x.2.2.1.1 r.2.2.1.length x.2.2.1.2) r.2.2.1]) := by
 refine cof (args := [_]) func71 ntmps71 fun c => ?_
 unfold p_impl_cloneDisk at H
 refine bM aR fun X1 => (bM aR.s.s.s fun X2 => (sr (f1 (cC (t := 32) rfl) fun g3 => (f1 (cD ty32) fun g4 => (nl (aD (tNwS [(2, .pointer (some ⟨g4, 0, none⟩)), (1, .pointer (some ⟨g3, 0, none⟩))] 2 [2, 3, 5, 6, 8, 9, 1, 4, 7, 0, 10, 11, 12] [4, 7, 12] [⟨0, [], fun g => .slice (some ⟨g, 0, none⟩) ([] : List File).length 0, fun g => tree (.slice (some ⟨g, 0, none⟩) ([] : List File).length 0) ([] : List File)⟩, ⟨1, [], fun g => .slice (some ⟨g, 0, none⟩) ([] : List Int).length 0, fun g => tree (.slice (some ⟨g, 0, none⟩) ([] : List Int).length 0) ([] : List Int)⟩, ⟨11, [], fun g => .pointer (some ⟨g, 0, none⟩), fun g => box g 32 [.slice none 0 0, .slice none 0 0, .slice none 0 0, .int .i64 (0)]⟩] mixed (by kernel_rfl) (by decide) (show List.Nodup [0, 1, 11] by decide) ⟨rfl, rfl, trivial⟩ rfl (okCons (FreeA.Ok.of rfl (by decide) (by kernel_rfl) fun c fs os => g_lit0 File dQ ty77) (okCons (FreeA.Ok.of rfl (by decide) (by kernel_rfl) fun c fs os => g_lit0 Int dO ty3) (okCons (FreeA.Ok.of rfl (by decide) (by kernel_rfl) fun c fs os => cD ty32) okNil))) (w_p rfl (cB fa32_1 rfl rfl) ?_))))))))
 refine w_o rfl (fun F => (bI ty23 rfl (hs1.app F) rfl)) (w_p rfl (cB fa32_2 rfl rfl) ?_)
 refine w_o rfl (fun F => (bI ty30 rfl (hs1.app F) rfl)) (w_p rfl (cB fa32_3 rfl rfl) ?_)
 refine w_o rfl (fun F => (bI ty3 rfl (hs1.app F) rfl)) ?_
 refine w_fr (z := ⟨1, [], fun g => .slice (some ⟨g, 0, none⟩) ([] : List Int).length 0, fun g => tree (.slice (some ⟨g, 0, none⟩) ([] : List Int).length 0) ([] : List Int)⟩) (.tail _ (.head _)) rfl rfl (by decide) (cO (.inr (.inr trivial)) (cO (.inl rfl) (cO (.inr (.inr trivial)) cN))) trivial ?_; intro g5
 refine gdo H fun h8 H => (cJ rfl (by decide) rfl (cO (.inr (.inr trivial)) (cO (.inl rfl) (cO (.inr (.inr trivial)) cN))) rfl (n_appF (l := ([] : List Int)) (k := v0.2.1) (α := Int) dO ty3 rfl rfl (h8.b (by decide)) h8.x (.cons aA .nil) (aL aR.s.s.s)) ?_)
 rintro _ _ _ ⟨a6, c7, rfl, rfl, rfl⟩
 refine ⟨(bV rfl rfl (fun F => (bI ty3 rfl (hs2.app F) rfl)) (bV rfl rfl (fun F => (bI ty30 rfl (hs2.app F) rfl)) (aM (by kernel_rfl) bU))), ?_⟩
 refine bdo H fun r9 h10 H => (cJ rfl (by decide) rfl (cO (.inr (.inr trivial)) (cO (.inl rfl) (cO (.inr (.inr trivial)) cN))) rfl (cE (c_impl_cloneNames v0.2.2.1 x_v0.2.2.1 h10) (fun _ => (bF bG)) rfl (aC (aL (aS aR)) aO)) ?_)
 rintro _ _ _ ⟨x11, rfl, rfl, rfl⟩
 refine ⟨(bV rfl rfl (fun F => (bI ty3 rfl (hs3.app F) rfl)) (aM (by kernel_rfl) (aM (by kernel_rfl) bU))), ?_⟩
 refine w_fr (z := ⟨0, [], fun g => .slice (some ⟨g, 0, none⟩) ([] : List File).length 0, fun g => tree (.slice (some ⟨g, 0, none⟩) ([] : List File).length 0) ([] : List File)⟩) (.head _) rfl rfl (by decide) (cO (.inl rfl) (cO (.inl rfl) (cO (.inr (.inr trivial)) cN))) trivial ?_; intro g12
 refine w_p (v := .agg #[.slice (some ⟨g12, 0, none⟩) (([] : List File).length) 0, .slice a6 ((([] : List Int) ++ v0.2.1).length) c7, .slice x11.1 r9.length x11.2, .int .i64 (v0.2.2.2)]) rfl (p_buildS (vs := [(0, .slice (some ⟨g12, 0, none⟩) (([] : List File).length) 0), (1, .slice a6 ((([] : List Int) ++ v0.2.1).length) c7), (2, .slice x11.1 r9.length x11.2), (3, .int .i64 (v0.2.2.2))]) (cs := #[.slice (some ⟨g12, 0, none⟩) (([] : List File).length) 0, .slice a6 ((([] : List Int) ++ v0.2.1).length) c7, .slice x11.1 r9.length x11.2, .int .i64 (v0.2.2.2)]) ty32 pl32 rfl rfl) ?_
 refine w_fr (z := ⟨11, [], fun g => .pointer (some ⟨g, 0, none⟩), fun g => box g 32 [.slice none 0 0, .slice none 0 0, .slice none 0 0, .int .i64 (0)]⟩) (.tail _ (.tail _ (.head _))) rfl rfl (by decide) (cO (.inl rfl) (cO (.inl rfl) (cO (.inl rfl) cN))) trivial ?_; intro g13
 refine w_en rfl rfl (cO (.inl rfl) (cO (.inl rfl) (cO (.inl rfl) cN))) rfl (n_store (cs' := [.slice (some ⟨g12, 0, none⟩) (([] : List File).length) 0, .slice a6 ((([] : List Int) ++ v0.2.1).length) c7, .slice x11.1 r9.length x11.2, .int .i64 (v0.2.2.2)]) ty32 rfl rfl cZ rfl (one_of rfl) (Nat.le_of_ble_eq_true rfl) rfl) ?_
 rintro _ _ _ ⟨rfl, rfl, rfl⟩
 refine ⟨(aM (by kernel_rfl) (aM (by kernel_rfl) (aM (by kernel_rfl) bU))), ?_⟩
 refine cK (nT (aD (sr (aG (cB fa32_0 rfl rfl) (aI (bI ty29 rfl hs5 rfl) (aG (bS 77 dQ rfl) (aF (v := .int .i64 (0)) rfl (nl (bdo H fun x14 hx15 H => (dB (ι := Option Addr × Nat) (fun ψ => [(2, .pointer (some ⟨g4, 0, none⟩)), (3, .pointer (some ⟨g13, 0, none⟩))]) (fun ψ => [box g4 32 [.slice none 0 0, .slice none 0 0, .slice none 0 0, .int .i64 (0)], tree (.slice ψ.1 x14.length ψ.2) x14, tree (.slice a6 ((([] : List Int) ++ v0.2.1).length) c7) (([] : List Int) ++ v0.2.1), tree (.slice x11.1 r9.length x11.2) r9, box g13 32 [.slice ψ.1 x14.length ψ.2, .slice a6 ((([] : List Int) ++ v0.2.1).length) c7, .slice x11.1 r9.length x11.2, .int .i64 (v0.2.2.2)]]) ?_ ?_))))))))))
 ·refine aQ (dE (Λ := (Option Addr × Nat)) hx15 ((some ⟨g12, 0, none⟩), 0) (fun Q18 _ => [(2, .pointer (some ⟨g4, 0, none⟩)), (3, .pointer (some ⟨g13, 0, none⟩)), (18, .slice x_v0.1.1 v0.1.length x_v0.1.2), (19, .int .i64 ((v0.1.length : Int))), (20, .int .i64 (Q18.2))]) (fun Q18 z19 => [box g4 32 [.slice none 0 0, .slice none 0 0, .slice none 0 0, .int .i64 (0)], tree (.slice z19.1 Q18.1.length z19.2) Q18.1, tree (.slice a6 ((([] : List Int) ++ v0.2.1).length) c7) (([] : List Int) ++ v0.2.1), tree (.slice x11.1 r9.length x11.2) r9, box g13 32 [.slice z19.1 Q18.1.length z19.2, .slice a6 ((([] : List Int) ++ v0.2.1).length) c7, .slice x11.1 r9.length x11.2, .int .i64 (v0.2.2.2)]]) (.cons dl4 (.cons dl1 (.cons dl2 (.cons dl1 (.cons aA .nil))))) ?_)
  rintro _ Q18 z19 t21 H1 hi22 hb23
  unfold p_impl_cloneDisk_b0 at H1
  refine sr (aG (cP rfl rfl) (nl (aD (cH H1 rfl (fun h26 H1 => ?_) (fun h26 H1 => ?_)))))
  ·refine bH (nT (aD (aQ (sr (gdo H1 fun h27 H1 => (aI (bW dQ ty77 rfl rfl h27 rfl (aL (aT aR.s))) (aI (v := .agg #[.int .i64 ((nth v0.1 Q18.2.toNat).1), .slice ((((X1 Q18.2.toNat).2).1).1) ((((nth v0.1 Q18.2.toNat).2).1).length) ((((X1 Q18.2.toNat).2).1).2.1), .slice ((((X1 Q18.2.toNat).2).2).1) ((((nth v0.1 Q18.2.toNat).2).2).length) ((((X1 Q18.2.toNat).2).2).2.1)]) (cA (i := Q18.2.toNat) ty77 rfl (aL (aT aR.s)) h27.lt) (f1 (cD ty77) fun g28 => (stb (cs' := [.int .i64 ((nth v0.1 Q18.2.toNat).1), .slice ((((X1 Q18.2.toNat).2).1).1) ((((nth v0.1 Q18.2.toNat).2).1).length) ((((X1 Q18.2.toNat).2).1).2.1), .slice ((((X1 Q18.2.toNat).2).2).1) ((((nth v0.1 Q18.2.toNat).2).2).length) ((((X1 Q18.2.toNat).2).2).2.1)]) ty77 cZ (nl ?_))))))))))
   refine tNwS [(5, .pointer (some ⟨g28, 0, none⟩)), (2, .pointer (some ⟨g4, 0, none⟩)), (3, .pointer (some ⟨g13, 0, none⟩)), (18, .slice x_v0.1.1 v0.1.length x_v0.1.2), (19, .int .i64 ((v0.1.length : Int))), (20, .int .i64 (Q18.2))] 2 [0, 1, 2, 3, 4, 5, 6, 7, 8, 9, 10, 11] [6, 8, 9, 11] [] mixed (by kernel_rfl) (by decide) dH ⟨rfl, rfl, rfl, rfl, rfl, rfl, trivial⟩ rfl okNil (w_p rfl (cB fa32_0 rfl rfl) ?_)
   refine w_o rfl (fun F => (bI ty29 rfl (hs5.app F) rfl)) (w_p rfl (cB fa77_0 rfl rfl) ?_)
   refine w_o rfl (fun F => (bI ty3 rfl (aB.app F) rfl)) (w_p rfl (cB fa77_1 rfl rfl) ?_)
   refine w_o (v := .agg #[.slice ((((X1 Q18.2.toNat).2).1).1) ((((nth v0.1 Q18.2.toNat).2).1).length) ((((X1 Q18.2.toNat).2).1).2.1), .slice ((((X1 Q18.2.toNat).2).2).1) ((((nth v0.1 Q18.2.toNat).2).2).length) ((((X1 Q18.2.toNat).2).2).2.1)]) rfl (fun F => (q_ldbP [.slice ((((X1 Q18.2.toNat).2).1).1) ((((nth v0.1 Q18.2.toNat).2).1).length) ((((X1 Q18.2.toNat).2).1).2.1), .slice ((((X1 Q18.2.toNat).2).2).1) ((((nth v0.1 Q18.2.toNat).2).2).length) ((((X1 Q18.2.toNat).2).2).2.1)] ty75 rfl (aB.app F) rfl rfl)) (bdo H1 fun r29 h30 H1 => (cJ rfl (by decide) rfl cN rfl (cE (c_impl_clonePart ((nth v0.1 Q18.2.toNat).2) (((((X1 Q18.2.toNat).2).1).1, (((X1 Q18.2.toNat).2).1).2.1), ((((X1 Q18.2.toNat).2).2).1, (((X1 Q18.2.toNat).2).2).2.1)) h30) (fun _ => (bF (bF bG))) rfl (aC (aL (aS (aV (aU (aW aR.s h27.lt))))) (aC (aL (aS (aU (aU (aW aR.s h27.lt))))) aO))) ?_))
   rintro _ _ _ ⟨x31, rfl, rfl, rfl⟩
   refine ⟨(aM (by kernel_rfl) (bV rfl rfl (fun F => (bI ty3 rfl (hs2.app F) rfl)) (bV rfl rfl (fun F => (bI ty29 rfl ((hs5t hs2).app F) rfl)) bU))), ?_⟩
   refine w_p (v := .agg #[.int .i64 ((nth v0.1 Q18.2.toNat).1), .slice x31.1.1 r29.1.length x31.1.2, .slice x31.2.1 r29.2.length x31.2.2]) rfl (p_buildS (vs := [(0, .int .i64 ((nth v0.1 Q18.2.toNat).1)), (1, .agg #[.slice x31.1.1 r29.1.length x31.1.2, .slice x31.2.1 r29.2.length x31.2.2])]) (cs := #[.int .i64 ((nth v0.1 Q18.2.toNat).1), .slice x31.1.1 r29.1.length x31.1.2, .slice x31.2.1 r29.2.length x31.2.2]) ty77 pl77 rfl rfl) (cJ rfl (by decide) rfl cN rfl (n_lit (vs := [(0, .agg #[.int .i64 ((nth v0.1 Q18.2.toNat).1), .slice x31.1.1 r29.1.length x31.1.2, .slice x31.2.1 r29.2.length x31.2.2])]) [.int .i64 ((nth v0.1 Q18.2.toNat).1), .slice x31.1.1 r29.1.length x31.1.2, .slice x31.2.1 r29.2.length x31.2.2] dQ ty77 rfl (by decide) (by decide) (by kernel_rfl)) ?_)
   rintro _ _ _ ⟨g32, rfl, rfl, rfl⟩
   refine ⟨(bV rfl rfl (fun F => (q_ldbP [.slice ((((X1 Q18.2.toNat).2).1).1) ((((nth v0.1 Q18.2.toNat).2).1).length) ((((X1 Q18.2.toNat).2).1).2.1), .slice ((((X1 Q18.2.toNat).2).2).1) ((((nth v0.1 Q18.2.toNat).2).2).length) ((((X1 Q18.2.toNat).2).2).2.1)] ty75 rfl (hs3.app F) rfl rfl)) (aM (by kernel_rfl) (bV rfl rfl (fun F => (bI ty29 rfl ((hs5t hs3).app F) rfl)) bU))), ?_⟩
   refine gdo H1 fun h35 H1 => (cJ rfl (by decide) rfl cN rfl (n_app1 (l := Q18.1) (α := File) (((nth v0.1 Q18.2.toNat).1), r29) ((), x31) dQ ty77 rfl rfl (h35.b (by decide)) h35.x rfl (cW _) (.cons dl5 (.cons aA (.cons aA (.cons aA .nil))))) ?_)
   rintro _ _ _ ⟨a33, c34, rfl, rfl, rfl⟩
   refine ⟨(aM (by kernel_rfl) (bV rfl rfl (fun F => (bI ty3 rfl (hs1.app F) rfl)) (aM (by kernel_rfl) bU))), ?_⟩
   refine w_p rfl (cB fa32_0 rfl rfl) (w_en rfl rfl cN rfl (n_store (cs' := [.slice a33 ((Q18.1 ++ [(((nth v0.1 Q18.2.toNat).1), r29)]).length) c34, .slice a6 ((([] : List Int) ++ v0.2.1).length) c7, .slice x11.1 r9.length x11.2, .int .i64 (v0.2.2.2)]) ty29 rfl rfl up5 rfl (one_of rfl) (Nat.le_of_ble_eq_true rfl) rfl) ?_)
   rintro _ _ _ ⟨rfl, rfl, rfl⟩
   refine ⟨(aM (by kernel_rfl) (aM (by kernel_rfl) (aM (by kernel_rfl) bU))), ?_⟩
   refine cK ?_
   show At _ _ _ _ _ _
   exact nB (nT (aP (gdo H1 fun h36 H1 => (aG (bR rfl rfl h36) (aF rfl (aJ (nLI (a33, c34) (hi22 _ (sm H1)) (.cons dl2 (.cons aA (.cons dl1 (.cons dl1 (.cons dl1 .nil))))))))))))
  ·refine dA (xT (xT (xE (?_))))
   obtain rfl := hb23 _ (sm H1)
   exact nMC (z19.1, z19.2) ⟨rfl, rfl, trivial⟩ bT (.cons aA (.cons aA (.cons aA (.cons aA (.cons aA .nil)))))
 ·intro y20
  show At _ _ [(2, .pointer (some ⟨g4, 0, none⟩)), (3, .pointer (some ⟨g13, 0, none⟩))] _ [box g4 32 [.slice none 0 0, .slice none 0 0, .slice none 0 0, .int .i64 (0)], tree (.slice y20.1 x14.length y20.2) x14, tree (.slice a6 ((([] : List Int) ++ v0.2.1).length) c7) (([] : List Int) ++ v0.2.1), tree (.slice x11.1 r9.length x11.2) r9, box g13 32 [.slice y20.1 x14.length y20.2, .slice a6 ((([] : List Int) ++ v0.2.1).length) c7, .slice x11.1 r9.length x11.2, .int .i64 (v0.2.2.2)]] _
  refine nT (sr (aI (bJ ty32 rfl hs4 rfl) (stb (cs' := [.slice y20.1 x14.length y20.2, .slice a6 ((([] : List Int) ++ v0.2.1).length) c7, .slice x11.1 r9.length x11.2, .int .i64 (v0.2.2.2)]) ty32 cZ (nl (bQ ?_)))))
  obtain rfl := si H
  exact back1 (y20, (a6, c7), x11, ()) rfl (ResV.agg ty32 rfl aB rfl) rfl cM (.cons dl1 (.cons dl1 (.cons dl1 .nil)))
noncomputable def p_impl_DiskTidy_1F (v0 : FileH) (k0 : Disk) : Option (Bool) := bd (p_slices_Contains_int_int k0.2.1 v0.1) fun r4 => some (!r4)
theorem c_impl_DiskTidy_1F {r : Bool} (v0 : FileH) (g_k0 : Nat) (k0 : Disk) (x_k0 : (Option Addr × Nat) × (Option Addr × Nat) × (Option Addr × Nat) × Unit) (H : p_impl_DiskTidy_1F v0 k0 = some r) : Fn' prog 73 #[.agg #[.int .i64 (v0.1), v0.2.1.1, v0.2.2.1], .pointer (some ⟨g_k0, 0, none⟩)] [imm (.slice x_k0.1.1 k0.1.length x_k0.1.2) k0.1, imm (.slice x_k0.2.1.1 k0.2.1.length x_k0.2.1.2) k0.2.1, imm (.slice x_k0.2.2.1.1 k0.2.2.1.length x_k0.2.2.1.2) k0.2.2.1] [box g_k0 32 [.slice x_k0.1.1 k0.1.length x_k0.1.2, .slice x_k0.2.1.1 k0.2.1.length x_k0.2.1.2, .slice x_k0.2.2.1.1 k0.2.2.1.length x_k0.2.2.1.2, .int .i64 (k0.2.2.2)]] (ι := Unit) (fun _ => .bool (r)) (fun _ => []) (fun _ => [box g_k0 32 [.slice x_k0.1.1 k0.1.length x_k0.1.2, .slice x_k0.2.1.1 k0.2.1.length x_k0.2.1.2, .slice x_k0.2.2.1.1 k0.2.2.1.length x_k0.2.2.1.2, .int .i64 (k0.2.2.2)]]) := by
 refine cof (args := [_, _]) func73 ntmps73 fun c => ?_
 unfold p_impl_DiskTidy_1F at H
 refine bM aR fun X1 => (bM aR.s.s.s fun X2 => (sr (f1 (cC (t := 77) rfl) fun g3 => (aH (v := .bool (false)) rfl (nl (sr (aG (cB fa32_1 rfl rfl) (aI (bI ty23 rfl hs1 rfl) (aG (cB fa77_0 rfl rfl) (aI (bI ty3 rfl aB rfl) ?_))))))))))
 refine bdo H fun r4 h5 H => (aI (bN (c_slices_Contains_int_int k0.2.1 x_k0.2.1 v0.1 h5) rfl (aC (aL aR.s.s.s) aO)) (aG (cV rfl) (aH rfl (nl ?_))))
 obtain rfl := si H
 exact bQ (bk (.cons dl1 .nil))
noncomputable def p_slices_IndexFunc_File_File_DiskTidy_1F_b0 (v0 : (List FileH)) (v1_0 : Disk) (Q7 : Int) : Option ((Int) ⊕ (Unit ⊕ Int)) := cond (decide (Q7 < (v0.length : Int))) (gd (ix Q7 v0.length) <| bd (p_impl_DiskTidy_1F (nth v0 Q7.toNat) v1_0) fun r17 => cond (r17) (some (.inr (.inr Q7))) (gd (I64 (Q7 + 1)) <| some (.inl (Q7 + 1)))) (some (.inr (.inl ())))
noncomputable def p_slices_IndexFunc_File_File_DiskTidy_1F (v0 : (List FileH)) (v1_0 : Disk) : Option (Int) := bd (lp (p_slices_IndexFunc_File_File_DiskTidy_1F_b0 v0 v1_0) 0) <| sw (fun _ => some (-1)) (fun q => some q)
theorem c_slices_IndexFunc_File_File_DiskTidy_1F {r : Int} (v0 : (List FileH)) (x_v0 : Option Addr × Nat) (g_v1_0 : Nat) (v1_0 : Disk) (x_v1_0 : (Option Addr × Nat) × (Option Addr × Nat) × (Option Addr × Nat) × Unit) (H : p_slices_IndexFunc_File_File_DiskTidy_1F v0 v1_0 = some r) : Fn' prog 109 #[.slice x_v0.1 v0.length x_v0.2, .func (.func 73) #[] #[.pointer (some ⟨g_v1_0, 0, none⟩)]] [imm (.slice x_v0.1 v0.length x_v0.2) v0, imm (.slice x_v1_0.1.1 v1_0.1.length x_v1_0.1.2) v1_0.1, imm (.slice x_v1_0.2.1.1 v1_0.2.1.length x_v1_0.2.1.2) v1_0.2.1, imm (.slice x_v1_0.2.2.1.1 v1_0.2.2.1.length x_v1_0.2.2.1.2) v1_0.2.2.1] [box g_v1_0 32 [.slice x_v1_0.1.1 v1_0.1.length x_v1_0.1.2, .slice x_v1_0.2.1.1 v1_0.2.1.length x_v1_0.2.1.2, .slice x_v1_0.2.2.1.1 v1_0.2.2.1.length x_v1_0.2.2.1.2, .int .i64 (v1_0.2.2.2)]] (ι := Unit) (fun _ => .int .i64 (r)) (fun _ => []) (fun _ => [box g_v1_0 32 [.slice x_v1_0.1.1 v1_0.1.length x_v1_0.1.2, .slice x_v1_0.2.1.1 v1_0.2.1.length x_v1_0.2.1.2, .slice x_v1_0.2.2.1.1 v1_0.2.2.1.length x_v1_0.2.2.1.2, .int .i64 (v1_0.2.2.2)]]) := by
 refine cof (args := [_, _]) func109 ntmps109 fun c => ?_
 unfold p_slices_IndexFunc_File_File_DiskTidy_1F at H
 refine bM aR.s fun X1 => (bM aR.s.s.s.s fun X2 => (sr (aH (v := .int .i64 (0)) rfl (nl (aD (sr (aF rfl (aG (bS 77 dQ rfl) (aF (v := .int .i64 (0)) rfl (nl (bdo H fun x3 hx4 H => (dC (Λ := Unit) H (fun _ _ => []) (fun _ _ => [box g_v1_0 32 [.slice x_v1_0.1.1 v1_0.1.length x_v1_0.1.2, .slice x_v1_0.2.1.1 v1_0.2.1.length x_v1_0.2.1.2, .slice x_v1_0.2.2.1.1 v1_0.2.2.1.length x_v1_0.2.2.1.2, .int .i64 (v1_0.2.2.2)]]) ?_ ?_))))))))))))
 ·refine aQ (dE hx4 () (fun Q7 _ => [(0, .slice x_v0.1 v0.length x_v0.2), (1, .func (.func 73) #[] #[.pointer (some ⟨g_v1_0, 0, none⟩)]), (7, .int .i64 ((v0.length : Int))), (8, .int .i64 (Q7))]) (fun _ _ => [box g_v1_0 32 [.slice x_v1_0.1.1 v1_0.1.length x_v1_0.1.2, .slice x_v1_0.2.1.1 v1_0.2.1.length x_v1_0.2.1.2, .slice x_v1_0.2.2.1.1 v1_0.2.2.1.length x_v1_0.2.2.1.2, .int .i64 (v1_0.2.2.2)]]) (.cons aA .nil) ?_)
  rintro _ Q7 z8 t10 H1 hi11 hb12
  unfold p_slices_IndexFunc_File_File_DiskTidy_1F_b0 at H1
  refine sr (aG (cP rfl rfl) (nl (aD (cH H1 rfl (fun h15 H1 => ?_) (fun h15 H1 => ?_)))))
  ·refine bH (nT (aD (aQ (sr (aF rfl (aH rfl (nl (sr (aF rfl (aF rfl (aF rfl ?_)))))))))))
   refine gdo H1 fun h16 H1 => (aI (bW dQ ty77 rfl rfl h16 rfl (aN (aL aR.s.s))) (aI (v := .agg #[.int .i64 ((nth v0 Q7.toNat).1), (((nth v0 Q7.toNat).2).1).1, (((nth v0 Q7.toNat).2).2).1]) (cA (i := Q7.toNat) ty77 rfl (aN (aL aR.s.s)) h16.lt) (bdo H1 fun r17 h18 H1 => (aI (v := .bool (r17)) (Ex.dyn (caps := [.pointer (some ⟨g_v1_0, 0, none⟩)]) (vs := [.agg #[.int .i64 ((nth v0 Q7.toNat).1), (((nth v0 Q7.toNat).2).1).1, (((nth v0 Q7.toNat).2).2).1]]) rfl rfl (q_callC (c_impl_DiskTidy_1F (nth v0 Q7.toNat) g_v1_0 v1_0 (x_v1_0.1, x_v1_0.2.1, x_v1_0.2.2.1, ()) h18) (Solo.box bG) rfl (.cons aA .nil) (aC (aL (aS aR.s)) (aC (aL aR.s.s.s.s) (aC (aL (aS aR)) aO))))) (nl (cH H1 rfl (fun h19 H1 => ?_) (fun h19 H1 => ?_)))))))
   ·refine sr (aF rfl (aH rfl (nl (bQ (rB (rT (rT (rB (rT (rT (?_)))))))))))
    obtain rfl := hb12 _ (sm H1)
    replace H := sw.r H
    obtain rfl := si H
    exact bk (.cons aA .nil)
   ·exact bH (nB (nT (aP (gdo H1 fun h20 H1 => (aG (bR rfl rfl h20) (aF rfl (aJ (nLI () (hi11 _ (sm H1)) (.cons aA .nil)))))))))
  ·exact dA (xT (xT (xE (nMI () (hb12 _ (sm H1)) (.cons aA .nil)))))
 ·rintro e21 y9 H
  refine nT (sr (aH (v := .int .i64 (-1)) rfl (nl ?_)))
  obtain rfl := si H
  exact bQ (bk (.cons aA .nil))
noncomputable def p_slices_DeleteFunc_File_File_DiskTidy_1F_b0 (v1_0 : Disk) (Q11 : (List FileH) × Int × Int) : Option (((List FileH) × Int × Int) ⊕ ((List FileH) × Int)) := cond (decide (Q11.2.2 < (Q11.1.length : Int))) (gd (ix Q11.2.2 Q11.1.length) <| bd (p_impl_DiskTidy_1F (nth Q11.1 Q11.2.2.toNat) v1_0) fun r22 => cond (!r22) (gd (ix Q11.2.1 Q11.1.length) <| gd (I64 (Q11.2.1 + 1)) <| gd (I64 (Q11.2.2 + 1)) <| some (.inl ((Q11.1.set Q11.2.1.toNat (nth Q11.1 Q11.2.2.toNat)), Q11.2.1 + 1, Q11.2.2 + 1))) (gd (I64 (Q11.2.2 + 1)) <| some (.inl (Q11.1, Q11.2.1, Q11.2.2 + 1)))) (some (.inr (Q11.1, Q11.2.1)))
noncomputable def p_slices_DeleteFunc_File_File_DiskTidy_1F (v0 : (List FileH)) (v1_0 : Disk) : Option ((List FileH)) := bd (p_slices_IndexFunc_File_File_DiskTidy_1F v0 v1_0) fun r3 => cond (decide (r3 = (-1))) (some v0) (gd (I64 (r3 + 1)) <| bd (lp (p_slices_DeleteFunc_File_File_DiskTidy_1F_b0 v1_0) (v0, r3, r3 + 1)) fun x7 => gd (sl2 x7.2 (x7.1.length : Int) x7.1.length) <| some (x7.1.take x7.2.toNat))
theorem c_slices_DeleteFunc_File_File_DiskTidy_1F {r : (List FileH)} (v0 : (List FileH)) (x_v0 : Option Addr × Nat) (g_v1_0 : Nat) (v1_0 : Disk) (x_v1_0 : (Option Addr × Nat) × (Option Addr × Nat) × (Option Addr × Nat) × Unit) (H : p_slices_DeleteFunc_File_File_DiskTidy_1F v0 v1_0 = some r) : Fn' prog 72 #[.slice x_v0.1 v0.length x_v0.2, .func (.func 73) #[] #[.pointer (some ⟨g_v1_0, 0, none⟩)]] [imm (.slice x_v1_0.1.1 v1_0.1.length x_v1_0.1.2) v1_0.1, imm (.slice x_v1_0.2.1.1 v1_0.2.1.length x_v1_0.2.1.2) v1_0.2.1, imm (.slice x_v1_0.2.2.1.1 v1_0.2.2.1.length x_v1_0.2.2.1.2) v1_0.2.2.1] [tree (.slice x_v0.1 v0.length x_v0.2) v0, box g_v1_0 32 [.slice x_v1_0.1.1 v1_0.1.length x_v1_0.1.2, .slice x_v1_0.2.1.1 v1_0.2.1.length x_v1_0.2.1.2, .slice x_v1_0.2.2.1.1 v1_0.2.2.1.length x_v1_0.2.2.1.2, .int .i64 (v1_0.2.2.2)]] (ι := Option Addr × Nat) (fun x => .slice x.1 r.length x.2) (fun _ => []) (fun x => [tree (.slice x.1 r.length x.2) r, box g_v1_0 32 [.slice x_v1_0.1.1 v1_0.1.length x_v1_0.1.2, .slice x_v1_0.2.1.1 v1_0.2.1.length x_v1_0.2.1.2, .slice x_v1_0.2.2.1.1 v1_0.2.2.1.length x_v1_0.2.2.1.2, .int .i64 (v1_0.2.2.2)]]) := by
 refine cof (args := [_, _]) func72 ntmps72 fun c => ?_
 unfold p_slices_DeleteFunc_File_File_DiskTidy_1F at H
 refine bM aR fun X1 => (bM aR.s.s.s fun X2 => (sr (aH (v := .slice none 0 0) rfl (nl (sr (aF rfl (aF rfl (bdo H fun r3 h4 H => (aI (q_callC (c_slices_IndexFunc_File_File_DiskTidy_1F v0 x_v0 g_v1_0 v1_0 (x_v1_0.1, x_v1_0.2.1, x_v1_0.2.2.1, ()) h4) (Solo.box bG) rfl (.cons dl1 .nil) (aC (bL aB) (aC (aL (aS aR.s)) (aC (aL aR.s.s.s) (aC (aL (aS aR)) aO))))) (aH rfl (nl ?_)))))))))))
 refine aD (sr (aF rfl (aG (cS rfl rfl) (nl (cH H rfl (fun h5 H => ?_) (fun h5 H => ?_))))))
 ·refine sr (aF rfl (aH rfl (nl (bQ (rT (?_))))))
  obtain rfl := si H
  exact back1 x_v0 rfl (ResV.tmp (v := .slice x_v0.1 v0.length x_v0.2) rfl) rfl cM (.cons aA (.cons aA .nil))
 ·refine bH (nT (aD (sr (aF rfl (gdo H fun h6 H => (aG (bR rfl rfl h6) (aH rfl (nl (bdo H fun x7 hx8 H => (dB (ι := Unit) (fun ψ => [(0, .slice x_v0.1 x7.1.length x_v0.2), (5, .int .i64 (x7.2))]) (fun ψ => [tree (.slice x_v0.1 x7.1.length x_v0.2) x7.1, box g_v1_0 32 [.slice x_v1_0.1.1 v1_0.1.length x_v1_0.1.2, .slice x_v1_0.2.1.1 v1_0.2.1.length x_v1_0.2.1.2, .slice x_v1_0.2.2.1.1 v1_0.2.2.1.length x_v1_0.2.2.1.2, .int .i64 (v1_0.2.2.2)]]) ?_ ?_))))))))))
  ·refine aQ (dE hx8 () (fun Q11 _ => [(0, .slice x_v0.1 Q11.1.length x_v0.2), (1, .func (.func 73) #[] #[.pointer (some ⟨g_v1_0, 0, none⟩)]), (5, .int .i64 (Q11.2.1)), (6, .int .i64 (Q11.2.2))]) (fun Q11 _ => [tree (.slice x_v0.1 Q11.1.length x_v0.2) Q11.1, box g_v1_0 32 [.slice x_v1_0.1.1 v1_0.1.length x_v1_0.1.2, .slice x_v1_0.2.1.1 v1_0.2.1.length x_v1_0.2.1.2, .slice x_v1_0.2.2.1.1 v1_0.2.2.1.length x_v1_0.2.2.1.2, .int .i64 (v1_0.2.2.2)]]) (.cons aA (.cons aA .nil)) ?_)
   rintro _ Q11 z12 t14 H1 hi15 hb16
   unfold p_slices_DeleteFunc_File_File_DiskTidy_1F_b0 at H1
   refine aD (sr (aF rfl (aF rfl (aG (bS 77 dQ rfl) (aG (cP rfl rfl) (nl (cH H1 rfl (fun h19 H1 => ?_) (fun h19 H1 => ?_))))))))
   ·refine bH (nT (aD (aQ (sr (aF rfl (aF rfl (gdo H1 fun h20 H1 => (aI (bX dQ ty77 rfl rfl h20 aB) (aI (v := .agg #[.int .i64 ((nth Q11.1 Q11.2.2.toNat).1), (((nth Q11.1 Q11.2.2.toNat).2).1).1, (((nth Q11.1 Q11.2.2.toNat).2).2).1]) (cA (i := Q11.2.2.toNat) ty77 rfl (aN (bL aB)) h20.lt) (f1 (cD ty77) fun g21 => ?_))))))))))
    refine g0 (e_store (cs' := [.int .i64 ((nth Q11.1 Q11.2.2.toNat).1), (((nth Q11.1 Q11.2.2.toNat).2).1).1, (((nth Q11.1 Q11.2.2.toNat).2).2).1]) ty77 rfl rfl cZ rfl (fun u hu => by simp [Value.cells] at hu; rcases hu with rfl | rfl | rfl; rfl; exact HV_one _; exact HV_one _) (Nat.le_of_ble_eq_true rfl) rfl) ?_
    refine nl (sr (aF rfl (aI (bJ ty77 rfl aB rfl) (bdo H1 fun r22 h23 H1 => (aI (v := .bool (r22)) (Ex.dyn (caps := [.pointer (some ⟨g_v1_0, 0, none⟩)]) (vs := [.agg #[.int .i64 ((nth Q11.1 Q11.2.2.toNat).1), (((nth Q11.1 Q11.2.2.toNat).2).1).1, (((nth Q11.1 Q11.2.2.toNat).2).2).1]]) rfl rfl (q_callC (c_impl_DiskTidy_1F (nth Q11.1 Q11.2.2.toNat) g_v1_0 v1_0 (x_v1_0.1, x_v1_0.2.1, x_v1_0.2.2.1, ()) h23) (Solo.box bG) rfl (.cons dl2 .nil) (aC (aL (aS aR.s)) (aC (aL aR.s.s.s) (aC (aL (aS aR)) aO))))) (aG (cV rfl) (nl (cH H1 rfl (fun h24 H1 => ?_) (fun h24 H1 => ?_)))))))))
    ·refine sr (aF rfl (aF rfl (aI (bJ ty77 rfl aB rfl) (gdo H1 fun h25 H1 => (aI (bX dQ ty77 rfl rfl h25 hs1) (g0 (e_setT (l := Q11.1) (α := FileH) (oa := x_v0.1) Q11.2.1.toNat (nth Q11.1 Q11.2.2.toNat) ((), ((), ())) ty77 rfl rfl rfl h25.lt (cW _) (.cons dl1 .nil)) (nl ?_)))))))
     refine cX aB fun hn => ?_; rw [hn]
     refine aP (aF rfl (gdo H1 fun h26 H1 => (aG (bR rfl rfl h26) (aH rfl (aJ (nB (nT (aP (aF rfl (gdo H1 fun h27 H1 => (aG (bR rfl rfl h27) ?_)))))))))))
     exact aH rfl (aJ (nLI () (hi15 _ (sm H1)) (.cons aA (.cons dl1 .nil))))
    ·exact bH (nB (nT (aP (aF rfl (gdo H1 fun h28 H1 => (aG (bR rfl rfl h28) (aH rfl (aJ (nLI () (hi15 _ (sm H1)) (.cons dl1 (.cons dl1 .nil)))))))))))
   ·refine dA (xT (xT (xE (?_))))
    obtain rfl := hb16 _ (sm H1)
    exact nMC () ⟨rfl, rfl, trivial⟩ bT (.cons aA (.cons aA .nil))
  ·intro y13
   show At _ _ [(0, .slice x_v0.1 x7.1.length x_v0.2), (5, .int .i64 (x7.2))] _ [tree (.slice x_v0.1 x7.1.length x_v0.2) x7.1, box g_v1_0 32 [.slice x_v1_0.1.1 v1_0.1.length x_v1_0.1.2, .slice x_v1_0.2.1.1 v1_0.2.1.length x_v1_0.2.1.2, .slice x_v1_0.2.2.1.1 v1_0.2.2.1.length x_v1_0.2.2.1.2, .int .i64 (v1_0.2.2.2)]] _
   refine nT (sr (aF rfl (aF rfl (gdo H fun h29 H => (aI (v := .slice (subA x_v0.1 x_v0.2 x7.2.toNat (Enc.sz FileH)) (x7.1.length - x7.2.toNat) (x_v0.2 - x7.2.toNat)) (q_subT (l := x7.1) (α := FileH) (i := x7.2) dQ ty77 rfl rfl h29 aB) (g0 (e_clrT (l := x7.1) (α := FileH) (oa := x_v0.1) x7.2 dQ ty77 rfl h29 (by decide) (.cons aA .nil)) (nl (sr (aF rfl ?_)))))))))
   refine aF rfl (aI (v := .slice x_v0.1 ((x7.1.take x7.2.toNat).length) x_v0.2) (q_cutT (l := x7.1) (α := FileH) (i := x7.2) dQ ty77 rfl rfl h29 aB) (aH rfl (nl (bQ ?_))))
   obtain rfl := si H
   exact back1 x_v0 rfl (ResV.tmp (v := .slice x_v0.1 ((x7.1.take x7.2.toNat).length) x_v0.2) rfl) rfl cM (.cons aA (.cons aA .nil))
def keepF (k : Disk) (n : Int) : Bool := k.2.1.contains n
theorem d_Contains (l : List Int) (id : Int) (ok : l.length ≤ 9223372036854775807) : p_slices_Contains_int_int l id = some (l.contains id) := by
 unfold p_slices_Contains_int_int p_slices_Index_int_int
 rcases lp_scan (body := p_slices_Index_int_int_b0 l id) (fun k => (k : Int)) l.length (fun i => decide (nth l i = id)) (.inl ()) (fun k => .inr (k : Int)) (fun k hk _ h => by
   have h' : ¬ id = nth l k := fun e => by simp [e] at h
   unfold p_slices_Index_int_int_b0; simp [hk, gd.yes (ixN hk), h', gd.yes (i64S hk ok)]) (fun k hk _ h => by
   have h' : id = nth l k := by simp at h; exact h.symm
   unfold p_slices_Index_int_int_b0; simp [hk, gd.yes (ixN hk), h']) (fun _ => by unfold p_slices_Index_int_int_b0; simp) with ⟨h1, h2⟩ | ⟨h1, k, hk, hb, hn, h2⟩
 ·have hc : l.contains id = false := by
   cases hc : l.contains id with
   | false => rfl
   | true =>
    obtain ⟨i, hi, e⟩ := List.mem_iff_getElem.1 (List.contains_iff_mem.1 hc)
    have := allN_iff.1 h1 i hi
    rw [nth_eq l i hi, e] at this
    simp at this
  rw [show (lp (p_slices_Index_int_int_b0 l id) 0) = _ from h2, hc]; rfl
 ·have hc : l.contains id = true := by
   refine List.contains_iff_mem.2 ?_
   have hb' := of_decide_eq_true hb
   rw [nth_eq l k hk] at hb'
   rw [← hb']; exact List.getElem_mem hk
  rw [show (lp (p_slices_Index_int_int_b0 l id) 0) = _ from h2, hc]
  show some (decide (0 ≤ (k : Int))) = _
  rw [decide_eq_true (Int.natCast_nonneg k)]
theorem d_pred (x : FileH) (k : Disk) (h : room k.2.1.length) : p_impl_DiskTidy_1F x k = some (!keepF k x.1) := by
 unfold p_impl_DiskTidy_1F
 rw [bd.yes (d_Contains _ _ h.x)]
 rfl
theorem d_body (k : Disk) (c : List FileH) (i j : Int) : p_slices_DeleteFunc_File_File_DiskTidy_1F_b0 k (c, i, j) = cond (decide (j < (c.length : Int))) (gd (ix j c.length) <| bd (p_impl_DiskTidy_1F (nth c j.toNat) k) fun r22 => cond (!r22) (gd (ix i c.length) <| gd (I64 (i + 1)) <| gd (I64 (j + 1)) <| some (.inl ((c.set i.toNat (nth c j.toNat)), i + 1, j + 1))) (gd (I64 (j + 1)) <| some (.inl (c, i, j + 1)))) (some (.inr (c, i))) := rfl
theorem d_DeleteFunc (l : List FileH) (k : Disk) (h1 : room l.length) (h2 : room k.2.1.length) : p_slices_DeleteFunc_File_File_DiskTidy_1F l k = some (l.filter fun y => keepF k y.1) := by
 have hl := h1.x
 have hl2 : l.length ≤ 1073741824 := h1
 unfold p_slices_DeleteFunc_File_File_DiskTidy_1F p_slices_IndexFunc_File_File_DiskTidy_1F
 rcases lp_scan (body := p_slices_IndexFunc_File_File_DiskTidy_1F_b0 l k) (fun k => (k : Int)) l.length (fun i => !keepF k (nth l i).1) (.inl ()) (fun k => .inr (k : Int)) (fun i hi _ h => by
   unfold p_slices_IndexFunc_File_File_DiskTidy_1F_b0
   rw [decide_eq_true (by omega), cond_true, gd.yes (ixN hi), bd.yes (d_pred _ _ h2), Int.toNat_natCast, h, cond_false, gd.yes (i64S hi hl)]; rfl) (fun i hi _ h => by
   unfold p_slices_IndexFunc_File_File_DiskTidy_1F_b0
   rw [decide_eq_true (by omega), cond_true, gd.yes (ixN hi), bd.yes (d_pred _ _ h2), Int.toNat_natCast, h, cond_true]) (fun _ => by unfold p_slices_IndexFunc_File_File_DiskTidy_1F_b0; simp) with ⟨g1, g2⟩ | ⟨g1, i, hi, hb, hn, g2⟩
 ·rw [show (lp (p_slices_IndexFunc_File_File_DiskTidy_1F_b0 l k) 0) = _ from g2]
  show some l = _
  refine congrArg some (List.filter_eq_self.2 fun a ha => ?_).symm
  obtain ⟨i, hi, rfl⟩ := List.mem_iff_getElem.1 ha
  have := allN_iff.1 g1 i hi
  rw [nth_eq l i hi] at this
  simpa using this
 ·rw [show (lp (p_slices_IndexFunc_File_File_DiskTidy_1F_b0 l k) 0) = _ from g2]
  obtain ⟨M', e1, e2⟩ := del_whole (keep := fun y : FileH => keepF k y.1) (n := l.length) (body := p_slices_DeleteFunc_File_File_DiskTidy_1F_b0 k) (l := l) (r := l.filter fun y => keepF k y.1) rfl (fun c i j hc hj => by
    rw [d_body, hc, decide_eq_false hj]; rfl) (fun c i j hc hi hj hk => by
    rw [d_body, hc, decide_eq_true (show (j : Int) < (l.length : Int) by omega), cond_true, gd.yes (ixN hj), bd.yes (d_pred _ _ h2), Int.toNat_natCast, hk, Bool.not_true, Bool.not_false, cond_true, gd.yes (ixN hi), gd.yes (i64S hi hl), gd.yes (i64S hj hl), Int.toNat_natCast]; rfl) (fun c i j hc hj hk => by
    rw [d_body, hc, decide_eq_true (show (j : Int) < (l.length : Int) by omega), cond_true, gd.yes (ixN hj), bd.yes (d_pred _ _ h2), Int.toNat_natCast, hk, Bool.not_false, Bool.not_true, cond_false, gd.yes (i64S hj hl)]; rfl) hi (fun t ht => by have := hn t ht; simpa using this) (by simpa using hb) rfl
  show (bd (some (i : Int)) fun r3 => cond (decide (r3 = (-1))) (some l) (gd (I64 (r3 + 1)) <| bd (lp (p_slices_DeleteFunc_File_File_DiskTidy_1F_b0 k) (l, r3, r3 + 1)) fun x7 => gd (sl2 x7.2 (x7.1.length : Int) x7.1.length) <| some (x7.1.take x7.2.toNat))) = _
  rw [bd_some, decide_eq_false (show ¬ (i : Int) = -1 by omega), cond_false, gd.yes (i64S hi hl), bd.yes e2, gd.yes (show sl2 ((l.filter fun y => keepF k y.1).length : Int) (((l.filter fun y => keepF k y.1) ++ M').length : Int) ((l.filter fun y => keepF k y.1) ++ M').length by
   unfold sl2; rw [List.length_append]; omega), Int.toNat_natCast, List.take_left]
def delF (l : List File) (k : Disk) : Option (List File) := gd (room l.length) <| gd (room k.2.1.length) <| some (l.filter fun y => keepF k y.1)
noncomputable def p_slices_DeleteFunc_File_File_DiskTidy_1 (v0 : List File) (v1_0 : Disk) : Option (List File) := delF v0 v1_0
theorem c_slices_DeleteFunc_File_File_DiskTidy_1 {r : (List File)} (v0 : (List File)) (x_v0 : Option Addr × Nat) (g_v1_0 : Nat) (v1_0 : Disk) (x_v1_0 : (Option Addr × Nat) × (Option Addr × Nat) × (Option Addr × Nat) × Unit) (H : p_slices_DeleteFunc_File_File_DiskTidy_1 v0 v1_0 = some r) : Fn' prog 72 #[.slice x_v0.1 v0.length x_v0.2, .func (.func 73) #[] #[.pointer (some ⟨g_v1_0, 0, none⟩)]] [imm (.slice x_v1_0.1.1 v1_0.1.length x_v1_0.1.2) v1_0.1, imm (.slice x_v1_0.2.1.1 v1_0.2.1.length x_v1_0.2.1.2) v1_0.2.1, imm (.slice x_v1_0.2.2.1.1 v1_0.2.2.1.length x_v1_0.2.2.1.2) v1_0.2.2.1] [tree (.slice x_v0.1 v0.length x_v0.2) v0, box g_v1_0 32 [.slice x_v1_0.1.1 v1_0.1.length x_v1_0.1.2, .slice x_v1_0.2.1.1 v1_0.2.1.length x_v1_0.2.1.2, .slice x_v1_0.2.2.1.1 v1_0.2.2.1.length x_v1_0.2.2.1.2, .int .i64 (v1_0.2.2.2)]] (ι := Option Addr × Nat) (fun x => .slice x.1 r.length x.2) (fun _ => []) (fun x => [tree (.slice x.1 r.length x.2) r, box g_v1_0 32 [.slice x_v1_0.1.1 v1_0.1.length x_v1_0.1.2, .slice x_v1_0.2.1.1 v1_0.2.1.length x_v1_0.2.1.2, .slice x_v1_0.2.2.1.1 v1_0.2.2.1.length x_v1_0.2.2.1.2, .int .i64 (v1_0.2.2.2)]]) := by
 unfold p_slices_DeleteFunc_File_File_DiskTidy_1 delF at H
 refine gdo H fun h1 H => (gdo H fun h2 H => ?_)
 have hr := Option.some.inj H
 subst hr
 refine FnL'.delR (keepF v1_0) (osK := [box g_v1_0 32 [.slice x_v1_0.1.1 v1_0.1.length x_v1_0.1.2, .slice x_v1_0.2.1.1 v1_0.2.1.length x_v1_0.2.1.2, .slice x_v1_0.2.2.1.1 v1_0.2.2.1.length x_v1_0.2.2.1.2, .int .i64 (v1_0.2.2.2)]]) (rv := fun n (x : Option Addr × Nat) => .slice x.1 n x.2) ⟨_, func72, by kernel_rfl, by kernel_rfl⟩ (Solo.box bG) fun l' hl => ?_
 have hn : l'.length = v0.length := by have := congrArg List.length hl; rwa [List.length_map, List.length_map] at this
 have := c_slices_DeleteFunc_File_File_DiskTidy_1F l' x_v0 g_v1_0 v1_0 x_v1_0 (d_DeleteFunc l' v1_0 (by rw [hn]; exact h1) h2)
 rw [hn] at this
 exact this
noncomputable def p_impl_DiskTidy (v0 : Disk) : Option (Disk) := bd (p_impl_DiskOk v0) fun r5 => cond (!r5) (some (([]), ([]), ([]), 0)) (bd (p_impl_cloneDisk v0) fun r8 => bd (p_slices_DeleteFunc_File_File_DiskTidy_1 r8.1 v0) fun r12 => gd (room (([] : List File).length + r12.length)) <| some ((([] : List File) ++ r12), r8.2.1, r8.2.2.1, r8.2.2.2))
theorem c_impl_DiskTidy {r : Disk} (v0 : Disk) (x_v0 : (Option Addr × Nat) × (Option Addr × Nat) × (Option Addr × Nat) × Unit) (H : p_impl_DiskTidy v0 = some r) : Fn' prog 21 #[.agg #[.slice x_v0.1.1 v0.1.length x_v0.1.2, .slice x_v0.2.1.1 v0.2.1.length x_v0.2.1.2, .slice x_v0.2.2.1.1 v0.2.2.1.length x_v0.2.2.1.2, .int .i64 (v0.2.2.2)]] [imm (.slice x_v0.1.1 v0.1.length x_v0.1.2) v0.1, imm (.slice x_v0.2.1.1 v0.2.1.length x_v0.2.1.2) v0.2.1, imm (.slice x_v0.2.2.1.1 v0.2.2.1.length x_v0.2.2.1.2) v0.2.2.1] [] (ι := (Option Addr × Nat) × (Option Addr × Nat) × (Option Addr × Nat) × Unit) (fun x => .agg #[.slice x.1.1 r.1.length x.1.2, .slice x.2.1.1 r.2.1.length x.2.1.2, .slice x.2.2.1.1 r.2.2.1.length x.2.2.1.2, .int .i64 (r.2.2.2)]) (fun _ => []) (fun x => [tree (.slice x.1.1 r.1.length x.1.2) r.1, tree (.slice x.2.1.1 r.2.1.length x.2.1.2) r.2.1, tree (.slice x.2.2.1.1 r.2.2.1.length x.2.2.1.2) r.2.2.1]) := by
 refine cof (args := [_]) func21 ntmps21 fun c => ?_
 unfold p_impl_DiskTidy at H
 refine bM aR fun X1 => (bM aR.s.s.s fun X2 => (sr (f1 (cC (t := 32) rfl) fun g3 => (f1 (cD ty32) fun g4 => (nl (aD (sr (aI (bJ ty32 rfl hs1 rfl) (bdo H fun r5 h6 H => (aI (bN (c_impl_DiskOk v0 (x_v0.1, x_v0.2.1, x_v0.2.2.1, ()) h6) rfl (aC (aL (aS aR.s)) (aC (aL aR.s.s.s) (aC (aL (aS aR)) aO)))) ?_))))))))))
 refine aG (cV rfl) (nl (cH H rfl (fun h7 H => ?_) (fun h7 H => ?_)))
 ·refine aD (Tr.nilT File (Tr.nilT Int (Tr.nilT (List Tag) (aP (aG (v := .agg #[.slice none 0 0, .slice none 0 0, .slice none 0 0, .int .i64 (0)]) (p_buildS (vs := []) (cs := #[.slice none 0 0, .slice none 0 0, .slice none 0 0, .int .i64 (0)]) ty32 pl32 rfl rfl) (stb (cs' := [.slice none 0 0, .slice none 0 0, .slice none 0 0, .int .i64 (0)]) ty32 up3 (nl (bQ (rT (?_))))))))))
  obtain rfl := si H
  exact back1 ((none, 0), (none, 0), (none, 0), ()) rfl (ResV.agg ty32 rfl hs3 rfl) rfl cM (.cons dl2 (.cons dl1 (.cons aA .nil)))
 ·refine bH (nT (sr (aI (bJ ty32 rfl hs1 rfl) (bdo H fun r8 h9 H => (f1 (cF (c_impl_cloneDisk v0 (x_v0.1, x_v0.2.1, x_v0.2.2.1, ()) h9) (fun _ => (bF (bF (bF bG)))) rfl (aC (aL (aS aR.s)) (aC (aL aR.s.s.s) (aC (aL (aS aR)) aO)))) fun x10 => (f1 (cD ty32) fun g11 => (stb (cs' := [.slice x10.1.1 r8.1.length x10.1.2, .slice x10.2.1.1 r8.2.1.length x10.2.1.2, .slice x10.2.2.1.1 r8.2.2.1.length x10.2.2.1.2, .int .i64 (r8.2.2.2)]) ty32 cZ (nl (sr ?_)))))))))
  refine aG (cB fa32_0 rfl rfl) (aI (bI ty29 rfl aB rfl) (aG (v := .func (.func 73) #[] #[.pointer (some ⟨g3, 0, none⟩)]) (p_mkfunc (vs := [.pointer (some ⟨g3, 0, none⟩)]) rfl rfl) (bdo H fun r12 h13 H => (f1 (cG (c_slices_DeleteFunc_File_File_DiskTidy_1 r8.1 x10.1 g3 v0 (x_v0.1, x_v0.2.1, x_v0.2.2.1, ()) h13) (bF (Solo.box bG)) (fun _ => (bF (Solo.box bG))) rfl (.cons dl1 (.cons dl4 .nil)) (aC (aL (aS aR.s)) (aC (aL aR.s.s.s) (aC (aL (aS aR)) aO)))) fun x14 => (aG (cB fa32_0 rfl rfl) (stb (cs' := [.slice x14.1 r12.length x14.2, .slice x10.2.1.1 r8.2.1.length x10.2.1.2, .slice x10.2.2.1.1 r8.2.2.1.length x10.2.2.1.2, .int .i64 (r8.2.2.2)]) ty29 up2 (nl (sr (f2 (e_lit0 File dQ ty77) fun a15 c16 => ?_)))))))))
  refine aG (cB fa32_0 rfl rfl) (aI (bI ty29 rfl hs3 rfl) (gdo H fun h19 H => (f2 (e_appT (l := ([] : List File)) (k := r12) (α := File) dQ ty77 rfl rfl (h19.b (by decide)) h19.x (.cons aA (.cons aA .nil))) fun a17 c18 => (aG (cB fa32_0 rfl rfl) (stb (cs' := [.slice a17 ((([] : List File) ++ r12).length) c18, .slice x10.2.1.1 r8.2.1.length x10.2.1.2, .slice x10.2.2.1.1 r8.2.2.1.length x10.2.2.1.2, .int .i64 (r8.2.2.2)]) ty29 up2 (nl (sr (aI (bJ ty32 rfl hs2 rfl) (stb (cs' := [.slice a17 ((([] : List File) ++ r12).length) c18, .slice x10.2.1.1 r8.2.1.length x10.2.1.2, .slice x10.2.2.1.1 r8.2.2.1.length x10.2.2.1.2, .int .i64 (r8.2.2.2)]) ty32 up5 ?_)))))))))
  refine nl (bQ ?_)
  obtain rfl := si H
  exact back1 ((a17, c18), x10.2.1, x10.2.2.1, ()) rfl (ResV.agg ty32 rfl hs5 rfl) rfl cM (.cons aA (.cons dl2 (.cons dl2 .nil)))
noncomputable def p_laws_heldFileS_b0 (v0 : (List File)) (Q6 : Int × Int) : Option ((Int × Int) ⊕ (Int ⊕ Int)) := cond (decide (Q6.2 < (v0.length : Int))) (gd (ix Q6.2 v0.length) <| cond (!decide (((nth v0 Q6.2.toNat).1) = Q6.1)) (some (.inr (.inr (-1)))) (gd (I64 (Q6.1 + 1)) <| bd (p_laws_heldIntS (((nth v0 Q6.2.toNat).2).1) (Q6.1 + 1)) fun r18 => cond (decide (r18 < 0)) (some (.inr (.inr (-1)))) (bd (p_laws_heldRowSS (((nth v0 Q6.2.toNat).2).2) r18) fun r21 => cond (decide (r21 < 0)) (some (.inr (.inr (-1)))) (gd (I64 (Q6.2 + 1)) <| some (.inl (r21, Q6.2 + 1)))))) (some (.inr (.inl Q6.1)))
noncomputable def p_laws_heldFileS (v0 : (List File)) (v1 : Int) : Option (Int) := bd (lp (p_laws_heldFileS_b0 v0) (v1, 0)) <| sw (fun e25 => some e25) (fun q => some q)
theorem c_laws_heldFileS {r : Int} (v0 : (List File)) (x_v0 : Option Addr × Nat) (v1 : Int) (H : p_laws_heldFileS v0 v1 = some r) : Fn' prog 74 #[.slice x_v0.1 v0.length x_v0.2, .int .i64 (v1)] [imm (.slice x_v0.1 v0.length x_v0.2) v0] [] (ι := Unit) (fun _ => .int .i64 (r)) (fun _ => []) (fun _ => []) := by
 refine cof (args := [_, _]) func74 ntmps74 fun c => ?_
 unfold p_laws_heldFileS at H
 refine bM aR fun X1 => (sr (aH (v := .int .i64 (0)) rfl (nl (aD (sr (aH (v := .int .i64 (0)) rfl (nl (bdo H fun x2 hx3 H => (dC (Λ := Unit) H (fun e25 _ => [(1, .int .i64 (e25))]) (fun _ _ => []) ?_ ?_)))))))))
 ·refine aQ (dE hx3 () (fun Q6 _ => [(0, .slice x_v0.1 v0.length x_v0.2), (1, .int .i64 (Q6.1)), (5, .int .i64 (Q6.2))]) (fun _ _ => []) bK ?_)
  rintro _ Q6 z7 t9 H1 hi10 hb11
  unfold p_laws_heldFileS_b0 at H1
  refine aD (sr (aF rfl (aF rfl (aG (bS 77 dQ rfl) (aG (cP rfl rfl) (nl (cH H1 rfl (fun h14 H1 => ?_) (fun h14 H1 => ?_))))))))
  ·refine bH (nT (aD (aQ (aD (sr (aF rfl (aF rfl (gdo H1 fun h15 H1 => (aI (bW dQ ty77 rfl rfl h15 rfl (aL (aT aR))) (aI (bY (j := 0) Q6.2.toNat fa77_0 rfl (aL (aT aR)) h15.lt rfl) (aI (bZ (i := Q6.2.toNat) (j := 0) ty3 rfl (aL (aT aR)) h15.lt rfl) ?_)))))))))))
   refine aF rfl (aG (cR rfl rfl) (nl (cH H1 rfl (fun h16 H1 => ?_) (fun h16 H1 => ?_))))
   ·refine sr (aH (v := .int .i64 (-1)) rfl (nl (bQ (rT (rB (rT (rT (rB (rT (rT (?_)))))))))))
    obtain rfl := hb11 _ (sm H1)
    replace H := sw.r H
    obtain rfl := si H
    exact bk
   ·refine bH (nT (sr (aF rfl (gdo H1 fun h17 H1 => (aG (bR rfl rfl h17) (aH rfl (nl (sr (aF rfl (aF rfl ?_))))))))))
    refine aI (bW dQ ty77 rfl rfl h15 rfl (aL (aT aR))) (aI (bY (j := 0) Q6.2.toNat fa77_1 rfl (aL (aT aR)) h15.lt rfl) (aI (bY (j := 1) Q6.2.toNat fa75_0 rfl (aL (aT aR)) h15.lt rfl) (aI (bZ (i := Q6.2.toNat) (j := 1) ty23 rfl (aL (aT aR)) h15.lt rfl) (aF rfl (bdo H1 fun r18 h19 H1 => (aI (bN (c_laws_heldIntS (((nth v0 Q6.2.toNat).2).1) ((((X1 Q6.2.toNat).2).1).1, (((X1 Q6.2.toNat).2).1).2.1) (Q6.1 + 1) h19) rfl (aC (aL (aS (aV (aU (aW aR h15.lt))))) aO)) (aH rfl (nl (aD (sr (aF rfl ?_)))))))))))
    refine aG (cP rfl rfl) (nl (cH H1 rfl (fun h20 H1 => ?_) (fun h20 H1 => ?_)))
    ·refine sr (aH (v := .int .i64 (-1)) rfl (nl (bQ (rT (rB (rT (rT (rB (rT (rT (?_)))))))))))
     obtain rfl := hb11 _ (sm H1)
     replace H := sw.r H
     obtain rfl := si H
     exact bk
    ·refine bH (nT (sr (aF rfl (aF rfl (aI (bW dQ ty77 rfl rfl h15 rfl (aL (aT aR))) (aI (bY (j := 0) Q6.2.toNat fa77_1 rfl (aL (aT aR)) h15.lt rfl) (aI (bY (j := 1) Q6.2.toNat fa75_1 rfl (aL (aT aR)) h15.lt rfl) (aI (bZ (i := Q6.2.toNat) (j := 2) ty73 rfl (aL (aT aR)) h15.lt rfl) (aF rfl ?_)))))))))
     refine bdo H1 fun r21 h22 H1 => (aI (bN (c_laws_heldRowSS (((nth v0 Q6.2.toNat).2).2) ((((X1 Q6.2.toNat).2).2).1, (((X1 Q6.2.toNat).2).2).2.1) r18 h22) rfl (aC (aL (aS (aU (aU (aW aR h15.lt))))) aO)) (aH rfl (nl (sr (aF rfl (aG (cP rfl rfl) (nl (cH H1 rfl (fun h23 H1 => ?_) (fun h23 H1 => ?_)))))))))
     ·refine sr (aH (v := .int .i64 (-1)) rfl (nl (bQ (rB (rT (rT (rB (rT (rT (?_))))))))))
      obtain rfl := hb11 _ (sm H1)
      replace H := sw.r H
      obtain rfl := si H
      exact bk
     ·exact bH (nB (nT (aP (aF rfl (gdo H1 fun h24 H1 => (aG (bR rfl rfl h24) (aH rfl (aJ (nLI () (hi10 _ (sm H1)) bK)))))))))
  ·exact dA (xT (xT (xE (nMI () (hb11 _ (sm H1)) bK))))
 ·rintro e25 y8 H
  refine nT (sr (aF rfl (aH rfl (nl ?_))))
  obtain rfl := si H
  exact bQ bk
noncomputable def p_laws_heldDisk (v0 : Disk) (v1 : Int) : Option (Int) := bd (p_laws_heldFileS v0.1 v1) fun r4 => cond (decide (r4 < 0)) (some (-1)) (bd (p_laws_heldIntS v0.2.1 r4) fun r7 => cond (decide (r7 < 0)) (some (-1)) (bd (p_laws_heldTagSS v0.2.2.1 r7) fun r10 => cond (decide (r10 < 0)) (some (-1)) (some r10)))
theorem c_laws_heldDisk {r : Int} (v0 : Disk) (x_v0 : (Option Addr × Nat) × (Option Addr × Nat) × (Option Addr × Nat) × Unit) (v1 : Int) (H : p_laws_heldDisk v0 v1 = some r) : Fn' prog 22 #[.agg #[.slice x_v0.1.1 v0.1.length x_v0.1.2, .slice x_v0.2.1.1 v0.2.1.length x_v0.2.1.2, .slice x_v0.2.2.1.1 v0.2.2.1.length x_v0.2.2.1.2, .int .i64 (v0.2.2.2)], .int .i64 (v1)] [imm (.slice x_v0.1.1 v0.1.length x_v0.1.2) v0.1, imm (.slice x_v0.2.1.1 v0.2.1.length x_v0.2.1.2) v0.2.1, imm (.slice x_v0.2.2.1.1 v0.2.2.1.length x_v0.2.2.1.2) v0.2.2.1] [] (ι := Unit) (fun _ => .int .i64 (r)) (fun _ => []) (fun _ => []) := by
 refine cof (args := [_, _]) func22 ntmps22 fun c => ?_
 unfold p_laws_heldDisk at H
 refine bM aR fun X1 => (bM aR.s.s.s fun X2 => (sr (f1 (cC (t := 32) rfl) fun g3 => (aH (v := .int .i64 (0)) rfl (nl (sr (aG (cB fa32_0 rfl rfl) (aI (bI ty29 rfl aB rfl) (aF rfl (bdo H fun r4 h5 H => ?_))))))))))
 refine aI (bN (c_laws_heldFileS v0.1 x_v0.1 v1 h5) rfl (aC (aL (aS aR.s)) aO)) (aH rfl (nl (aD (sr (aF rfl (aG (cP rfl rfl) (nl (cH H rfl (fun h6 H => ?_) (fun h6 H => ?_)))))))))
 ·refine sr (aH (v := .int .i64 (-1)) rfl (nl (bQ (rT (?_)))))
  obtain rfl := si H
  exact bk
 ·refine bH (nT (sr (aG (cB fa32_1 rfl rfl) (aI (bI ty23 rfl aB rfl) (aF rfl (bdo H fun r7 h8 H => (aI (bN (c_laws_heldIntS v0.2.1 x_v0.2.1 r4 h8) rfl (aC (aL aR.s.s.s) aO)) (aH rfl (nl (aD (sr ?_)))))))))))
  refine aF rfl (aG (cP rfl rfl) (nl (cH H rfl (fun h9 H => ?_) (fun h9 H => ?_))))
  ·refine sr (aH (v := .int .i64 (-1)) rfl (nl (bQ (rT (?_)))))
   obtain rfl := si H
   exact bk
  ·refine bH (nT (sr (aG (cB fa32_2 rfl rfl) (aI (bI ty30 rfl aB rfl) (aF rfl (bdo H fun r10 h11 H => (aI (bN (c_laws_heldTagSS v0.2.2.1 x_v0.2.2.1 r7 h11) rfl (aC (aL (aS aR)) aO)) (aH rfl (nl (aD (sr ?_)))))))))))
   refine aF rfl (aG (cP rfl rfl) (nl (cH H rfl (fun h12 H => ?_) (fun h12 H => ?_))))
   ·refine sr (aH (v := .int .i64 (-1)) rfl (nl (bQ (rT (?_)))))
    obtain rfl := si H
    exact bk
   ·refine bH (nT (sr (aF rfl (aH rfl (nl ?_)))))
    obtain rfl := si H
    exact bQ bk
noncomputable def p_laws_FnExactDiskTidy (v0 : Disk) : Option (Bool) := bd (p_laws_szDisk v0 1048576) fun r4 => cond (decide (r4 < 0)) (some true) (bd (p_laws_toDisk v0) fun r7 => bd (p_spec_DiskTidy r7) fun r10 => bd (p_impl_DiskTidy r7) fun r16 => bd (p_laws_eqDisk r16 r10) fun r20 => cond (!r20) (some false) (bd (p_laws_eqDisk r7 r7) fun r24 => cond (!r24) (some false) (bd (p_laws_markDisk r7 1) fun r27 => bd (cond (decide (r27.1 < 0)) (some (true)) (some (!r20))) fun b30 => cond (b30) (some false) (bd (p_laws_markDisk r16 1) fun r34 => bd (p_laws_heldDisk (r34.2.1, r34.2.2.1, r34.2.2.2.1, r16.2.2.2) 1) fun r37 => cond (decide (r37 < 0)) (some false) (cond (!decide (r37 = r34.1)) (some false) (cond (!r20) (some false) (cond (decide (r37 < 0)) (some false) (cond (!decide (r37 = r34.1)) (some false) (some true)))))))))
theorem c_laws_FnExactDiskTidy {r : Bool} (v0 : Disk) (x_v0 : (Option Addr × Nat) × (Option Addr × Nat) × (Option Addr × Nat) × Unit) (H : p_laws_FnExactDiskTidy v0 = some r) : Fn' prog 5 #[.agg #[.slice x_v0.1.1 v0.1.length x_v0.1.2, .slice x_v0.2.1.1 v0.2.1.length x_v0.2.1.2, .slice x_v0.2.2.1.1 v0.2.2.1.length x_v0.2.2.1.2, .int .i64 (v0.2.2.2)]] [imm (.slice x_v0.1.1 v0.1.length x_v0.1.2) v0.1, imm (.slice x_v0.2.1.1 v0.2.1.length x_v0.2.1.2) v0.2.1, imm (.slice x_v0.2.2.1.1 v0.2.2.1.length x_v0.2.2.1.2) v0.2.2.1] [] (ι := Unit) (fun _ => .bool (r)) (fun _ => []) (fun _ => []) := by
 refine cof (args := [_]) func5 ntmps5 fun c => ?_
 unfold p_laws_FnExactDiskTidy at H
 refine bM aR fun X1 => (bM aR.s.s.s fun X2 => (sr (f1 (cC (t := 26) rfl) fun g3 => (aH (v := .bool (false)) rfl (nl (sr (aH (v := .int .i64 (1048576)) rfl (nl (sr (aI (bJ ty26 rfl aB rfl) (aF (v := .int .i64 (1048576)) rfl ?_)))))))))))
 refine bdo H fun r4 h5 H => (aI (bN (c_laws_szDisk v0 (x_v0.1, x_v0.2.1, x_v0.2.2.1, ()) 1048576 h5) rfl (aC (aL (aS aR.s)) (aC (aL aR.s.s.s) (aC (aL (aS aR)) aO)))) (aH rfl (nl (aD (sr (aF rfl (aG (cP rfl rfl) (nl (cH H rfl (fun h6 H => ?_) (fun h6 H => ?_))))))))))
 ·refine sr (aH (v := .bool (true)) rfl (nl (bQ (rT (?_)))))
  obtain rfl := si H
  exact bk
 ·refine bH (nT (sr (aI (bJ ty26 rfl aB rfl) (bdo H fun r7 h8 H => (f1 (e_call (FnL'.frz (FnL'.frz (FnL'.frz (c_laws_toDisk v0 (x_v0.1, x_v0.2.1, x_v0.2.2.1, ()) h8)))) rfl (cL (aS aR.s) (cL aR.s.s.s (cL (aS aR) cM))) bK) fun x9 => (bdo H fun r10 h11 H => (f1 (e_call (c_spec_DiskTidy r7 (x9.1, x9.2.1, x9.2.2.1, ()) h11) rfl (cL aR.s.s (cL aR.s (cL aR cM))) bK) fun x12 => (f1 (cD ty32) fun g13 => (stb (cs' := [.slice x12.1.1 r10.1.length x12.1.2, .slice x12.2.1.1 r10.2.1.length x12.2.1.2, .slice x12.2.2.1.1 r10.2.2.1.length x12.2.2.1.2, .int .i64 (r10.2.2.2)]) ty32 cZ ?_)))))))))
  refine nl (sr (aI (bJ ty26 rfl hs1 rfl) (f1 (cF (c_laws_toDisk v0 (x_v0.1, x_v0.2.1, x_v0.2.2.1, ()) h8) (fun _ => (bF (bF (bF bG)))) rfl (aC (aL (aS aR.s.s.s.s.s.s.s)) (aC (aL aR.s.s.s.s.s.s.s.s.s) (aC (aL (aS aR.s.s.s.s.s.s)) aO)))) fun x14 => (f1 (cD ty32) fun g15 => (stb (cs' := [.slice x14.1.1 r7.1.length x14.1.2, .slice x14.2.1.1 r7.2.1.length x14.2.1.2, .slice x14.2.2.1.1 r7.2.2.1.length x14.2.2.1.2, .int .i64 (r7.2.2.2)]) ty32 cZ (nl (sr (aI (bJ ty32 rfl aB rfl) (bdo H fun r16 h17 H => ?_)))))))))
  refine f1 (cF (c_impl_DiskTidy r7 (x14.1, x14.2.1, x14.2.2.1, ()) h17) (fun _ => (bF (bF (bF bG)))) rfl (aC (bL hs1) (aC (bL hs2) (aC (bL hs3) aO)))) fun x18 => (f1 (cD ty32) fun g19 => (stb (cs' := [.slice x18.1.1 r16.1.length x18.1.2, .slice x18.2.1.1 r16.2.1.length x18.2.1.2, .slice x18.2.2.1.1 r16.2.2.1.length x18.2.2.1.2, .int .i64 (r16.2.2.2)]) ty32 cZ (nl (aD (sr (aI (bJ ty32 rfl aB rfl) (aI (bJ ty32 rfl (hs5t hs3) rfl) (bdo H fun r20 h21 H => (aI (bN (c_laws_eqDisk r16 (x18.1, x18.2.1, x18.2.2.1, ()) r10 (x12.1, x12.2.1, x12.2.2.1, ()) h21) rfl (aC (bL hs1) (aC (bL hs2) (aC (bL hs3) (aC (aL aR) (aC (aL aR.s) (aC (aL aR.s.s) aO))))))) (aG (cV rfl) (nl ?_)))))))))))
  refine cH H rfl (fun h22 H => ?_) (fun h22 H => ?_)
  ·refine sr (aH (v := .bool (false)) rfl (nl (bQ (rT (?_)))))
   obtain rfl := si H
   exact bk
  ·refine bH (nT (aD (aD (tNwS [(6, .pointer (some ⟨g19, 0, none⟩)), (5, .pointer (some ⟨g15, 0, none⟩)), (4, .pointer (some ⟨g13, 0, none⟩)), (1, .pointer (some ⟨g3, 0, none⟩))] 2 [0, 1, 2, 3, 4] [2] [] mixed (by kernel_rfl) (by decide) dH ⟨rfl, rfl, rfl, rfl, trivial⟩ rfl okNil ?_))))
   refine w_o rfl (fun F => (bJ ty32 rfl (hs4.app F) rfl)) ?_
   refine w_o rfl (fun F => (bJ ty26 rfl ((hs5t hs4).app F) rfl)) (cJ rfl (by decide) rfl cN rfl (cE (c_laws_toDisk v0 (x_v0.1, x_v0.2.1, x_v0.2.2.1, ()) h8) (fun _ => (bF (bF (bF bG)))) rfl (aC (aL (aS aR.s.s.s.s.s.s.s)) (aC (aL aR.s.s.s.s.s.s.s.s.s) (aC (aL (aS aR.s.s.s.s.s.s)) aO)))) ?_)
   rintro _ _ _ ⟨x23, rfl, rfl, rfl⟩
   refine ⟨(aM (by kernel_rfl) (bV rfl rfl (fun F => (bJ ty32 rfl ((hs5t hs2).app F) rfl)) bU)), ?_⟩
   refine bdo H fun r24 h25 H => ?_
   refine w_o rfl (fun F => (bN (c_laws_eqDisk r7 (x14.1, x14.2.1, x14.2.2.1, ()) r7 (x23.1, x23.2.1, x23.2.2.1, ()) h25) rfl (aC (bL ((hs5t hs3).app F)) (aC (bL ((hs5t hs4).app F)) (aC (bL ((hs5t hs5).app F)) (aC (bL (aB.app F)) (aC (bL (hs1.app F)) (aC (bL (hs2.app F)) aO)))))))) (w_p rfl (cV rfl) (cK (nT (cH H rfl (fun h26 H => ?_) (fun h26 H => ?_)))))
   ·refine sr (aH (v := .bool (false)) rfl (nl (bQ (rT (?_)))))
    obtain rfl := si H
    exact bk
   ·refine bH (nT (sr (aH (v := .int .i64 (1)) rfl (nl (sr (aI (bJ ty32 rfl (hs5t hs2) rfl) (aF (v := .int .i64 (1)) rfl (bdo H fun r27 h28 H => (f1 (cG (c_laws_markDisk r7 (x14.1, x14.2.1, x14.2.2.1, ()) 1 h28) (bF (bF (bF bG))) (fun _ => (bF (bF (bF bG)))) rfl (.cons (dl5t dl3) (.cons (dl5t dl3) (.cons (dl5t dl3) .nil))) aO) fun u29 => (aH rfl (nl ?_)))))))))))
    refine aD ?_
    refine cX aB fun hn => ?_; rw [hn]
    refine cX hs1 fun hn => ?_; rw [hn]
    refine cX hs2 fun hn => ?_; rw [hn]
    refine cX hs3 fun hn => ?_; rw [hn]
    refine cX hs4 fun hn => ?_; rw [hn]
    refine cX hs5 fun hn => ?_; rw [hn]
    refine bdo H fun b30 j31 H => (dD [(42, .bool (b30)), (6, .pointer (some ⟨g19, 0, none⟩)), (4, .pointer (some ⟨g13, 0, none⟩)), (1, .pointer (some ⟨g3, 0, none⟩))] ?_ ?_)
    ·refine dG [(7, .int .i64 (r27.1)), (6, .pointer (some ⟨g19, 0, none⟩)), (4, .pointer (some ⟨g13, 0, none⟩)), (1, .pointer (some ⟨g3, 0, none⟩))] ⟨rfl, rfl, rfl, rfl, trivial⟩ (bB rfl (aX (cP rfl rfl) ?_))
     rcases aK (decide (r27.1 < 0)) with h32 | h32
     ·have j31 := cdT h32 j31
      refine bC (aE rfl) h32 ?_
      iterate 4 refine bE rfl ?_
      refine aX (v := .bool (true)) (bP rfl rfl) ?_
      obtain rfl := si j31
      show At _ _ _ _ _ _
      exact n1 ⟨rfl, rfl, rfl, rfl, trivial⟩
     ·have j31 := cdF h32 j31
      refine bC (aE rfl) h32 (bA rfl (bJ ty32 rfl (hs5t hs1) rfl) (bA rfl (bJ ty32 rfl (hs5t (hs5t hs1)) rfl) (bA rfl (bN (c_laws_eqDisk r16 (x18.1, x18.2.1, x18.2.2.1, ()) r10 (x12.1, x12.2.1, x12.2.2.1, ()) h21) rfl (aC (bL (hs5t hs2)) (aC (bL (hs5t hs3)) (aC (bL (hs5t hs4)) (aC (aL aR) (aC (aL aR.s) (aC (aL aR.s.s) aO))))))) (aY rfl (cV rfl) (aX (bO rfl rfl) ?_)))))
      obtain rfl := si j31
      show At _ _ _ _ _ _
      exact n1 ⟨rfl, rfl, rfl, rfl, trivial⟩
    refine cH H rfl (fun h33 H => ?_) (fun h33 H => ?_)
    ·refine aD ?_
     refine cX aB fun hn => ?_; rw [hn]
     refine cX hs1 fun hn => ?_; rw [hn]
     refine cX hs2 fun hn => ?_; rw [hn]
     refine cX hs3 fun hn => ?_; rw [hn]
     refine cX hs4 fun hn => ?_; rw [hn]
     refine cX hs5 fun hn => ?_; rw [hn]
     refine aP (aH (v := .bool (false)) rfl (nl ?_))
     refine cX aB fun hn => ?_; rw [hn]
     refine cX hs1 fun hn => ?_; rw [hn]
     refine cX hs2 fun hn => ?_; rw [hn]
     refine cX hs3 fun hn => ?_; rw [hn]
     refine cX hs4 fun hn => ?_; rw [hn]
     refine cX hs5 fun hn => ?_; rw [hn]
     refine bQ (rT (?_))
     refine cY aB fun hn => ?_; rw [hn]
     refine cY hs1 fun hn => ?_; rw [hn]
     refine cY hs2 fun hn => ?_; rw [hn]
     refine cY hs3 fun hn => ?_; rw [hn]
     refine cY hs4 fun hn => ?_; rw [hn]
     refine cY hs5 fun hn => ?_; rw [hn]
     obtain rfl := si H
     exact bk
    ·refine bH (nT (aD ?_))
     refine cX aB fun hn => ?_; rw [hn]
     refine cX hs1 fun hn => ?_; rw [hn]
     refine cX hs2 fun hn => ?_; rw [hn]
     refine cX hs3 fun hn => ?_; rw [hn]
     refine cX hs4 fun hn => ?_; rw [hn]
     refine cX hs5 fun hn => ?_; rw [hn]
     refine aP (aH (v := .int .i64 (1)) rfl (nl (aD ?_)))
     refine cX aB fun hn => ?_; rw [hn]
     refine cX hs1 fun hn => ?_; rw [hn]
     refine cX hs2 fun hn => ?_; rw [hn]
     refine cX hs3 fun hn => ?_; rw [hn]
     refine cX hs4 fun hn => ?_; rw [hn]
     refine cX hs5 fun hn => ?_; rw [hn]
     refine aP (aI (bJ ty32 rfl (hs5t hs1) rfl) (aF (v := .int .i64 (1)) rfl (bdo H fun r34 h35 H => (f1 (cG (c_laws_markDisk r16 (x18.1, x18.2.1, x18.2.2.1, ()) 1 h35) (bF (bF (bF bG))) (fun _ => (bF (bF (bF bG)))) rfl (.cons (dl5t dl2) (.cons (dl5t dl2) (.cons (dl5t dl2) .nil))) aO) fun u36 => (aH rfl (nl (aD ?_)))))))
     refine cX aB fun hn => ?_; rw [hn]
     refine cX hs1 fun hn => ?_; rw [hn]
     refine cX hs2 fun hn => ?_; rw [hn]
     refine cX hs3 fun hn => ?_; rw [hn]
     refine cX hs4 fun hn => ?_; rw [hn]
     refine cX hs5 fun hn => ?_; rw [hn]
     refine cX (hs5t hs1) fun hn => ?_; rw [hn]
     refine cX (hs5t hs2) fun hn => ?_; rw [hn]
     refine cX (hs5t hs3) fun hn => ?_; rw [hn]
     refine aP (aH (v := .int .i64 (1)) rfl (nl (aD ?_)))
     refine cX hs3 fun hn => ?_; rw [hn]
     refine cX hs4 fun hn => ?_; rw [hn]
     refine cX hs5 fun hn => ?_; rw [hn]
     refine cX (hs5t hs1) fun hn => ?_; rw [hn]
     refine cX (hs5t hs2) fun hn => ?_; rw [hn]
     refine cX (hs5t hs3) fun hn => ?_; rw [hn]
     refine aP (aI (bJ ty32 rfl (hs5t hs4) rfl) (aF (v := .int .i64 (1)) rfl (bdo H fun r37 h38 H => (aI (bN (c_laws_heldDisk (r34.2.1, r34.2.2.1, r34.2.2.2.1, r16.2.2.2) (x18.1, x18.2.1, x18.2.2.1, ()) 1 h38) rfl (aC (bL aB) (aC (bL hs1) (aC (bL hs2) aO)))) (aH rfl (nl (aD (aD ?_))))))))
     refine cX hs3 fun hn => ?_; rw [hn]
     refine cX hs4 fun hn => ?_; rw [hn]
     refine cX hs5 fun hn => ?_; rw [hn]
     refine cX (hs5t hs1) fun hn => ?_; rw [hn]
     refine cX (hs5t hs2) fun hn => ?_; rw [hn]
     refine cX (hs5t hs3) fun hn => ?_; rw [hn]
     refine aP (aF rfl (aG (cP rfl rfl) (nl (cH H rfl (fun h39 H => ?_) (fun h39 H => ?_)))))
     ·refine aD ?_
      refine cX hs3 fun hn => ?_; rw [hn]
      refine cX hs4 fun hn => ?_; rw [hn]
      refine cX hs5 fun hn => ?_; rw [hn]
      refine cX (hs5t hs1) fun hn => ?_; rw [hn]
      refine cX (hs5t hs2) fun hn => ?_; rw [hn]
      refine cX (hs5t hs3) fun hn => ?_; rw [hn]
      refine aP (aH (v := .bool (false)) rfl (nl ?_))
      refine cX hs3 fun hn => ?_; rw [hn]
      refine cX hs4 fun hn => ?_; rw [hn]
      refine cX hs5 fun hn => ?_; rw [hn]
      refine cX (hs5t hs1) fun hn => ?_; rw [hn]
      refine cX (hs5t hs2) fun hn => ?_; rw [hn]
      refine cX (hs5t hs3) fun hn => ?_; rw [hn]
      refine bQ (rT (?_))
      refine cY hs3 fun hn => ?_; rw [hn]
      refine cY hs4 fun hn => ?_; rw [hn]
      refine cY hs5 fun hn => ?_; rw [hn]
      refine cY (hs5t hs1) fun hn => ?_; rw [hn]
      refine cY (hs5t hs2) fun hn => ?_; rw [hn]
      refine cY (hs5t hs3) fun hn => ?_; rw [hn]
      obtain rfl := si H
      exact bk
     ·refine bH (nT (aD (aD ?_)))
      refine cX hs3 fun hn => ?_; rw [hn]
      refine cX hs4 fun hn => ?_; rw [hn]
      refine cX hs5 fun hn => ?_; rw [hn]
      refine cX (hs5t hs1) fun hn => ?_; rw [hn]
      refine cX (hs5t hs2) fun hn => ?_; rw [hn]
      refine cX (hs5t hs3) fun hn => ?_; rw [hn]
      refine aP (aF rfl (aF rfl (aG (cR rfl rfl) (nl (cH H rfl (fun h40 H => ?_) (fun h40 H => ?_))))))
      ·refine aD ?_
       refine cX hs3 fun hn => ?_; rw [hn]
       refine cX hs4 fun hn => ?_; rw [hn]
       refine cX hs5 fun hn => ?_; rw [hn]
       refine cX (hs5t hs1) fun hn => ?_; rw [hn]
       refine cX (hs5t hs2) fun hn => ?_; rw [hn]
       refine cX (hs5t hs3) fun hn => ?_; rw [hn]
       refine aP (aH (v := .bool (false)) rfl (nl ?_))
       refine cX hs3 fun hn => ?_; rw [hn]
       refine cX hs4 fun hn => ?_; rw [hn]
       refine cX hs5 fun hn => ?_; rw [hn]
       refine cX (hs5t hs1) fun hn => ?_; rw [hn]
       refine cX (hs5t hs2) fun hn => ?_; rw [hn]
       refine cX (hs5t hs3) fun hn => ?_; rw [hn]
       refine bQ (rT (?_))
       refine cY hs3 fun hn => ?_; rw [hn]
       refine cY hs4 fun hn => ?_; rw [hn]
       refine cY hs5 fun hn => ?_; rw [hn]
       refine cY (hs5t hs1) fun hn => ?_; rw [hn]
       refine cY (hs5t hs2) fun hn => ?_; rw [hn]
       refine cY (hs5t hs3) fun hn => ?_; rw [hn]
       obtain rfl := si H
       exact bk
      ·refine bH (nT (aD ?_))
       refine cX hs3 fun hn => ?_; rw [hn]
       refine cX hs4 fun hn => ?_; rw [hn]
       refine cX hs5 fun hn => ?_; rw [hn]
       refine cX (hs5t hs1) fun hn => ?_; rw [hn]
       refine cX (hs5t hs2) fun hn => ?_; rw [hn]
       refine cX (hs5t hs3) fun hn => ?_; rw [hn]
       refine aP (aI (bJ ty26 rfl (hs5t (hs5t hs2)) rfl) (f1 (cF (c_laws_toDisk v0 (x_v0.1, x_v0.2.1, x_v0.2.2.1, ()) h8) (fun _ => (bF (bF (bF bG)))) rfl (aC (aL (aS aR.s.s.s.s.s.s.s)) (aC (aL aR.s.s.s.s.s.s.s.s.s) (aC (aL (aS aR.s.s.s.s.s.s)) aO)))) fun x41 => (f1 (cF (c_impl_DiskTidy r7 (x41.1, x41.2.1, x41.2.2.1, ()) h17) (fun _ => (bF (bF (bF bG)))) rfl (aC (bL aB) (aC (bL hs1) (aC (bL hs2) aO)))) fun x42 => (f1 (cD ty32) fun g43 => (stb (cs' := [.slice x42.1.1 r16.1.length x42.1.2, .slice x42.2.1.1 r16.2.1.length x42.2.1.2, .slice x42.2.2.1.1 r16.2.2.1.length x42.2.2.1.2, .int .i64 (r16.2.2.2)]) ty32 cZ (nl (aD (aD ?_))))))))
       refine cX (hs5t hs5) fun hn => ?_; rw [hn]
       refine cX (hs5t (hs5t hs1)) fun hn => ?_; rw [hn]
       refine cX (hs5t (hs5t hs2)) fun hn => ?_; rw [hn]
       refine cX (hs5t (hs5t hs3)) fun hn => ?_; rw [hn]
       refine cX (hs5t (hs5t hs4)) fun hn => ?_; rw [hn]
       refine cX (hs5t (hs5t hs5)) fun hn => ?_; rw [hn]
       refine aP (aI (bJ ty32 rfl aB rfl) (aI (bJ ty32 rfl (hs5t (hs5t (hs5t hs3))) rfl) (aI (bN (c_laws_eqDisk r16 (x42.1, x42.2.1, x42.2.2.1, ()) r10 (x12.1, x12.2.1, x12.2.2.1, ()) h21) rfl (aC (bL hs1) (aC (bL hs2) (aC (bL hs3) (aC (aL aR) (aC (aL aR.s) (aC (aL aR.s.s) aO))))))) (aG (cV rfl) (nl (cH H rfl (fun h44 H => ?_) (fun h44 H => ?_)))))))
       ·refine aD ?_
        refine cX (hs5t hs5) fun hn => ?_; rw [hn]
        refine cX (hs5t (hs5t hs1)) fun hn => ?_; rw [hn]
        refine cX (hs5t (hs5t hs2)) fun hn => ?_; rw [hn]
        refine cX (hs5t (hs5t hs3)) fun hn => ?_; rw [hn]
        refine cX (hs5t (hs5t hs4)) fun hn => ?_; rw [hn]
        refine cX (hs5t (hs5t hs5)) fun hn => ?_; rw [hn]
        refine aP (aH (v := .bool (false)) rfl (nl ?_))
        refine cX (hs5t hs5) fun hn => ?_; rw [hn]
        refine cX (hs5t (hs5t hs1)) fun hn => ?_; rw [hn]
        refine cX (hs5t (hs5t hs2)) fun hn => ?_; rw [hn]
        refine cX (hs5t (hs5t hs3)) fun hn => ?_; rw [hn]
        refine cX (hs5t (hs5t hs4)) fun hn => ?_; rw [hn]
        refine cX (hs5t (hs5t hs5)) fun hn => ?_; rw [hn]
        refine bQ (rT (?_))
        refine cY (hs5t hs5) fun hn => ?_; rw [hn]
        refine cY (hs5t (hs5t hs1)) fun hn => ?_; rw [hn]
        refine cY (hs5t (hs5t hs2)) fun hn => ?_; rw [hn]
        refine cY (hs5t (hs5t hs3)) fun hn => ?_; rw [hn]
        refine cY (hs5t (hs5t hs4)) fun hn => ?_; rw [hn]
        refine cY (hs5t (hs5t hs5)) fun hn => ?_; rw [hn]
        obtain rfl := si H
        exact bk
       ·refine bH (nT (aD ?_))
        refine cX (hs5t hs5) fun hn => ?_; rw [hn]
        refine cX (hs5t (hs5t hs1)) fun hn => ?_; rw [hn]
        refine cX (hs5t (hs5t hs2)) fun hn => ?_; rw [hn]
        refine cX (hs5t (hs5t hs3)) fun hn => ?_; rw [hn]
        refine cX (hs5t (hs5t hs4)) fun hn => ?_; rw [hn]
        refine cX (hs5t (hs5t hs5)) fun hn => ?_; rw [hn]
        refine aP (aH (v := .int .i64 (1)) rfl (nl (aD ?_)))
        refine cX (hs5t hs5) fun hn => ?_; rw [hn]
        refine cX (hs5t (hs5t hs1)) fun hn => ?_; rw [hn]
        refine cX (hs5t (hs5t hs2)) fun hn => ?_; rw [hn]
        refine cX (hs5t (hs5t hs3)) fun hn => ?_; rw [hn]
        refine cX (hs5t (hs5t hs4)) fun hn => ?_; rw [hn]
        refine cX (hs5t (hs5t hs5)) fun hn => ?_; rw [hn]
        refine aP (aI (bJ ty32 rfl (hs5t (hs5t (hs5t hs1))) rfl) (aF (v := .int .i64 (1)) rfl (aI (bN (c_laws_heldDisk (r34.2.1, r34.2.2.1, r34.2.2.2.1, r16.2.2.2) (x18.1, x18.2.1, x18.2.2.1, ()) 1 h38) rfl (aC (bL (hs5t hs2)) (aC (bL (hs5t hs3)) (aC (bL (hs5t hs4)) aO)))) (aH rfl (nl (aD (aD ?_)))))))
        refine cX (hs5t hs5) fun hn => ?_; rw [hn]
        refine cX (hs5t (hs5t hs1)) fun hn => ?_; rw [hn]
        refine cX (hs5t (hs5t hs2)) fun hn => ?_; rw [hn]
        refine cX (hs5t (hs5t hs3)) fun hn => ?_; rw [hn]
        refine cX (hs5t (hs5t hs4)) fun hn => ?_; rw [hn]
        refine cX (hs5t (hs5t hs5)) fun hn => ?_; rw [hn]
        refine aP (aF rfl (aG (cP rfl rfl) (nl (cH H rfl (fun h45 H => ?_) (fun h45 H => ?_)))))
        ·refine aD ?_
         refine cX (hs5t hs5) fun hn => ?_; rw [hn]
         refine cX (hs5t (hs5t hs1)) fun hn => ?_; rw [hn]
         refine cX (hs5t (hs5t hs2)) fun hn => ?_; rw [hn]
         refine cX (hs5t (hs5t hs3)) fun hn => ?_; rw [hn]
         refine cX (hs5t (hs5t hs4)) fun hn => ?_; rw [hn]
         refine cX (hs5t (hs5t hs5)) fun hn => ?_; rw [hn]
         refine aP (aH (v := .bool (false)) rfl (nl ?_))
         refine cX (hs5t hs5) fun hn => ?_; rw [hn]
         refine cX (hs5t (hs5t hs1)) fun hn => ?_; rw [hn]
         refine cX (hs5t (hs5t hs2)) fun hn => ?_; rw [hn]
         refine cX (hs5t (hs5t hs3)) fun hn => ?_; rw [hn]
         refine cX (hs5t (hs5t hs4)) fun hn => ?_; rw [hn]
         refine cX (hs5t (hs5t hs5)) fun hn => ?_; rw [hn]
         refine bQ (rT (?_))
         refine cY (hs5t hs5) fun hn => ?_; rw [hn]
         refine cY (hs5t (hs5t hs1)) fun hn => ?_; rw [hn]
         refine cY (hs5t (hs5t hs2)) fun hn => ?_; rw [hn]
         refine cY (hs5t (hs5t hs3)) fun hn => ?_; rw [hn]
         refine cY (hs5t (hs5t hs4)) fun hn => ?_; rw [hn]
         refine cY (hs5t (hs5t hs5)) fun hn => ?_; rw [hn]
         obtain rfl := si H
         exact bk
        ·refine bH (nT (aD (aD ?_)))
         refine cX (hs5t hs5) fun hn => ?_; rw [hn]
         refine cX (hs5t (hs5t hs1)) fun hn => ?_; rw [hn]
         refine cX (hs5t (hs5t hs2)) fun hn => ?_; rw [hn]
         refine cX (hs5t (hs5t hs3)) fun hn => ?_; rw [hn]
         refine cX (hs5t (hs5t hs4)) fun hn => ?_; rw [hn]
         refine cX (hs5t (hs5t hs5)) fun hn => ?_; rw [hn]
         refine aP (aF rfl (aF rfl (aG (cR rfl rfl) (nl (cH H rfl (fun h46 H => ?_) (fun h46 H => ?_))))))
         ·refine aD ?_
          refine cX (hs5t hs5) fun hn => ?_; rw [hn]
          refine cX (hs5t (hs5t hs1)) fun hn => ?_; rw [hn]
          refine cX (hs5t (hs5t hs2)) fun hn => ?_; rw [hn]
          refine cX (hs5t (hs5t hs3)) fun hn => ?_; rw [hn]
          refine cX (hs5t (hs5t hs4)) fun hn => ?_; rw [hn]
          refine cX (hs5t (hs5t hs5)) fun hn => ?_; rw [hn]
          refine aP (aH (v := .bool (false)) rfl (nl ?_))
          refine cX (hs5t hs5) fun hn => ?_; rw [hn]
          refine cX (hs5t (hs5t hs1)) fun hn => ?_; rw [hn]
          refine cX (hs5t (hs5t hs2)) fun hn => ?_; rw [hn]
          refine cX (hs5t (hs5t hs3)) fun hn => ?_; rw [hn]
          refine cX (hs5t (hs5t hs4)) fun hn => ?_; rw [hn]
          refine cX (hs5t (hs5t hs5)) fun hn => ?_; rw [hn]
          refine bQ (rT (?_))
          refine cY (hs5t hs5) fun hn => ?_; rw [hn]
          refine cY (hs5t (hs5t hs1)) fun hn => ?_; rw [hn]
          refine cY (hs5t (hs5t hs2)) fun hn => ?_; rw [hn]
          refine cY (hs5t (hs5t hs3)) fun hn => ?_; rw [hn]
          refine cY (hs5t (hs5t hs4)) fun hn => ?_; rw [hn]
          refine cY (hs5t (hs5t hs5)) fun hn => ?_; rw [hn]
          obtain rfl := si H
          exact bk
         ·refine bH (nT (aD ?_))
          refine cX (hs5t hs5) fun hn => ?_; rw [hn]
          refine cX (hs5t (hs5t hs1)) fun hn => ?_; rw [hn]
          refine cX (hs5t (hs5t hs2)) fun hn => ?_; rw [hn]
          refine cX (hs5t (hs5t hs3)) fun hn => ?_; rw [hn]
          refine cX (hs5t (hs5t hs4)) fun hn => ?_; rw [hn]
          refine cX (hs5t (hs5t hs5)) fun hn => ?_; rw [hn]
          refine aP (aH (v := .bool (true)) rfl (nl ?_))
          refine cX (hs5t hs5) fun hn => ?_; rw [hn]
          refine cX (hs5t (hs5t hs1)) fun hn => ?_; rw [hn]
          refine cX (hs5t (hs5t hs2)) fun hn => ?_; rw [hn]
          refine cX (hs5t (hs5t hs3)) fun hn => ?_; rw [hn]
          refine cX (hs5t (hs5t hs4)) fun hn => ?_; rw [hn]
          refine cX (hs5t (hs5t hs5)) fun hn => ?_; rw [hn]
          refine bQ ?_
          refine cY (hs5t hs5) fun hn => ?_; rw [hn]
          refine cY (hs5t (hs5t hs1)) fun hn => ?_; rw [hn]
          refine cY (hs5t (hs5t hs2)) fun hn => ?_; rw [hn]
          refine cY (hs5t (hs5t hs3)) fun hn => ?_; rw [hn]
          refine cY (hs5t (hs5t hs4)) fun hn => ?_; rw [hn]
          refine cY (hs5t (hs5t hs5)) fun hn => ?_; rw [hn]
          obtain rfl := si H
          exact bk
theorem mt_total (k : Int) (h0 : 0 ≤ k) (hk : k ≤ 1152921504606846976) : ∃ t, p_laws_markText k = some t := by
 unfold p_laws_markText
 by_cases hz : k ≤ 0
 ·simp [hz]
 ·simp only [hz, decide_false, cond_false]
  obtain ⟨e, he, hs⟩ := lp.rule (body := p_laws_markText_b0) (fun σ => 0 ≤ σ.1 ∧ ∃ j, j ≤ 61 ∧ σ.2.size + j ≤ 61 ∧ σ.1 < (2 : Int) ^ j) (fun σ => σ.1.toNat) (fun e => e.size ≤ 61) (fun σ hI => by
   obtain ⟨i0, j, j1, j2, j3⟩ := hI
   unfold p_laws_markText_b0
   by_cases hp : 0 < σ.1
   ·left
    have hj : 0 < j := by
     rcases Nat.eq_zero_or_pos j with rfl | h
     ·simp at j3; omega
     ·exact h
    have hpow : (2 : Int) ^ j = 2 * 2 ^ (j - 1) := by
     rw [show j = (j - 1) + 1 by omega, Int.pow_succ]; simp; omega
    have hbig : (2 : Int) ^ j ≤ 2 ^ 61 := by
     have : (2 : Nat) ^ j ≤ 2 ^ 61 := Nat.pow_le_pow_right (by decide) j1
     have h2 : ((2 ^ j : Nat) : Int) ≤ ((2 ^ 61 : Nat) : Int) := by omega
     simpa using h2
    have hm : 0 ≤ σ.1.tmod 10 ∧ σ.1.tmod 10 < 10 := by
     rw [Int.tmod_eq_emod_of_nonneg i0]; omega
    have hd : σ.1.tdiv 10 = σ.1 / 10 := Int.tdiv_eq_ediv_of_nonneg i0
    have g1 : I64 (σ.1.tmod 10) := by unfold I64; omega
    have g2 : I64 (48 + σ.1.tmod 10) := by unfold I64; omega
    have g3 : I64 (σ.1.tdiv 10) := by rw [hd]; unfold I64; omega
    have g4 : room ((s2 [b8 (48 + σ.1.tmod 10)]).size + σ.2.size) := by
     have : (s2 [b8 (48 + σ.1.tmod 10)]).size = 1 := rfl
     unfold room; omega
    refine ⟨(σ.1.tdiv 10, s2 [b8 (48 + σ.1.tmod 10)] ++ σ.2), by simp only [hp, decide_true, cond_true, gd.yes g1, gd.yes g2, gd.yes g3, gd.yes g4], ⟨by rw [hd]; show 0 ≤ σ.1 / 10; omega, j - 1, by omega, ?_, ?_⟩, ?_⟩
    ·have : (s2 [b8 (48 + σ.1.tmod 10)] ++ σ.2).size = 1 + σ.2.size := by rw [ByteArray.size_append]; rfl
     show (s2 [b8 (48 + σ.1.tmod 10)] ++ σ.2).size + (j - 1) ≤ 61
     omega
    ·show σ.1.tdiv 10 < _
     rw [hd]; omega
    ·show (σ.1.tdiv 10).toNat < σ.1.toNat
     rw [hd]; omega
   ·right
    exact ⟨σ.2, by simp [hp], by omega⟩) (s := (k, (⟨#[]⟩ : ByteArray))) ⟨h0, 61, Nat.le_refl _, Nat.le_refl _, by show k < _; omega⟩
  rw [he, bd_some]
  have : room ((⟨#[109]⟩ : ByteArray).size + e.size) := by
   have h1 : (⟨#[109]⟩ : ByteArray).size = 1 := rfl
   unfold room; omega
  rw [gd.yes this]
  exact ⟨_, rfl⟩
theorem s_IntS (a : (List Int)) (left : Int) (h0 : 0 ≤ left) (h1 : left ≤ 1048576) (ok : Dp.ok a) : p_laws_szIntS a left = some (cut left (Wt.w a)) := by
 have hm : a.length ≤ 9223372036854775807 := ok.1
 unfold p_laws_szIntS
 have hw : Wt.w a = a.length := by show a.length + sumN a.length (fun i => Wt.w (nth a i)) = _; rw [sumN_zero (f := fun i => Wt.w (nth a i)) fun i _ => rfl]; rfl
 rw [hw]; exact sz_strl (by unfold I64; omega)
theorem s_RowS (a : (List Row)) (left : Int) (h0 : 0 ≤ left) (h1 : left ≤ 1048576) (ok : Dp.ok a) : p_laws_szRowS a left = some (cut left (Wt.w a)) := by
 have hm : a.length ≤ 9223372036854775807 := ok.1
 unfold p_laws_szRowS
 have hw : Wt.w a = a.length := by show a.length + sumN a.length (fun i => Wt.w (nth a i)) = _; rw [sumN_zero (f := fun i => Wt.w (nth a i)) fun i _ => rfl]; rfl
 rw [hw]; exact sz_strl (by unfold I64; omega)
theorem s_RowSS (a : (List (List Row))) (left : Int) (h0 : 0 ≤ left) (h1 : left ≤ 1048576) (ok : Dp.ok a) : p_laws_szRowSS a left = some (cut left (Wt.w a)) := by
 have hm : a.length ≤ 9223372036854775807 := ok.1
 unfold p_laws_szRowSS
 refine sz_str (w2 := sumN a.length fun i => Wt.w (nth a i)) (by unfold I64; omega) fun hc => ?_
 rw [cut_lt] at hc; rw [← cut_pos hc]
 exact sz_loop (l := a) (by omega) (by omega) (fun k hk m m0 m1 => by
  unfold p_laws_szRowSS_b0
  simp only [dlt hk, cond_true, gd.yes (ixN hk), Int.toNat_natCast, s_RowS (nth a k) m m0 m1 (ok.2 k hk), bd_some, gd.yes (i64S hk hm)]
  by_cases hc : cut m (Wt.w (nth a k)) < 0 <;> simp [hc]) (fun m => by unfold p_laws_szRowSS_b0; simp)
theorem s_Part (a : Part) (left : Int) (h0 : 0 ≤ left) (h1 : left ≤ 1048576) (ok : Dp.ok a) : p_laws_szPart a left = some (cut left (Wt.w a)) := by
 have hw : Wt.w a = Wt.w a.1 + (Wt.w a.2) := by
  simp only [Wt.w]
  first | done | omega
 rw [hw]; unfold p_laws_szPart
 refine sz_step (s_IntS a.1 left h0 h1 ok.1) fun c0 => ?_
 exact sz_last (s_RowSS a.2 (cut left (Wt.w a.1)) (cut_nn c0) (cut_rng h1) ok.2)
theorem s_File (a : File) (left : Int) (h0 : 0 ≤ left) (h1 : left ≤ 1048576) (ok : Dp.ok a) : p_laws_szFile a left = some (cut left (Wt.w a)) := by
 have hw : Wt.w a = Wt.w a.2 := by
  simp only [Wt.w]
  first | done | omega
 rw [hw]; unfold p_laws_szFile
 exact sz_last (s_Part a.2 left h0 h1 ok.2)
theorem s_FileS (a : (List File)) (left : Int) (h0 : 0 ≤ left) (h1 : left ≤ 1048576) (ok : Dp.ok a) : p_laws_szFileS a left = some (cut left (Wt.w a)) := by
 have hm : a.length ≤ 9223372036854775807 := ok.1
 unfold p_laws_szFileS
 refine sz_str (w2 := sumN a.length fun i => Wt.w (nth a i)) (by unfold I64; omega) fun hc => ?_
 rw [cut_lt] at hc; rw [← cut_pos hc]
 exact sz_loop (l := a) (by omega) (by omega) (fun k hk m m0 m1 => by
  unfold p_laws_szFileS_b0
  simp only [dlt hk, cond_true, gd.yes (ixN hk), Int.toNat_natCast, s_File (nth a k) m m0 m1 (ok.2 k hk), bd_some, gd.yes (i64S hk hm)]
  by_cases hc : cut m (Wt.w (nth a k)) < 0 <;> simp [hc]) (fun m => by unfold p_laws_szFileS_b0; simp)
theorem s_Tag (a : Tag) (left : Int) (h0 : 0 ≤ left) (h1 : left ≤ 1048576) (_ : Dp.ok a) (so : So.so a) : p_laws_szTag a left = some (cut left (Wt.w a)) := by
 have hw : Wt.w a = Wt.w a.1 + (Wt.w a.2) := by
  simp only [Wt.w]
  first | done | omega
 rw [hw]; unfold p_laws_szTag
 have z0 : (a.1).size ≤ 9223372036854775807 := so.1
 have b0 : 0 ≤ left := h0; have d0 : left ≤ 1048576 := h1
 refine sz_str (by unfold I64; omega) fun c0 => ?_
 rw [show left - ((a.1).size : Int) = cut left (a.1).size from cut_pos (fun h => c0 (cut_lt.2 h))]
 have z1 : (a.2).size ≤ 9223372036854775807 := so.2
 have b1 : 0 ≤ cut left (a.1).size := (cut_nn c0); have d1 : cut left (a.1).size ≤ 1048576 := (cut_rng h1)
 exact sz_strl (by unfold I64; omega)
theorem s_TagS (a : (List Tag)) (left : Int) (h0 : 0 ≤ left) (h1 : left ≤ 1048576) (ok : Dp.ok a) (so : So.so a) : p_laws_szTagS a left = some (cut left (Wt.w a)) := by
 have hm : a.length ≤ 9223372036854775807 := ok.1
 unfold p_laws_szTagS
 refine sz_str (w2 := sumN a.length fun i => Wt.w (nth a i)) (by unfold I64; omega) fun hc => ?_
 rw [cut_lt] at hc; rw [← cut_pos hc]
 exact sz_loop (l := a) (by omega) (by omega) (fun k hk m m0 m1 => by
  unfold p_laws_szTagS_b0
  simp only [dlt hk, cond_true, gd.yes (ixN hk), Int.toNat_natCast, s_Tag (nth a k) m m0 m1 (ok.2 k hk) (so k hk), bd_some, gd.yes (i64S hk hm)]
  by_cases hc : cut m (Wt.w (nth a k)) < 0 <;> simp [hc]) (fun m => by unfold p_laws_szTagS_b0; simp)
theorem s_TagSS (a : (List (List Tag))) (left : Int) (h0 : 0 ≤ left) (h1 : left ≤ 1048576) (ok : Dp.ok a) (so : So.so a) : p_laws_szTagSS a left = some (cut left (Wt.w a)) := by
 have hm : a.length ≤ 9223372036854775807 := ok.1
 unfold p_laws_szTagSS
 refine sz_str (w2 := sumN a.length fun i => Wt.w (nth a i)) (by unfold I64; omega) fun hc => ?_
 rw [cut_lt] at hc; rw [← cut_pos hc]
 exact sz_loop (l := a) (by omega) (by omega) (fun k hk m m0 m1 => by
  unfold p_laws_szTagSS_b0
  simp only [dlt hk, cond_true, gd.yes (ixN hk), Int.toNat_natCast, s_TagS (nth a k) m m0 m1 (ok.2 k hk) (so k hk), bd_some, gd.yes (i64S hk hm)]
  by_cases hc : cut m (Wt.w (nth a k)) < 0 <;> simp [hc]) (fun m => by unfold p_laws_szTagSS_b0; simp)
theorem s_Disk (a : Disk) (left : Int) (h0 : 0 ≤ left) (h1 : left ≤ 1048576) (ok : Dp.ok a) (so : So.so a) : p_laws_szDisk a left = some (cut left (Wt.w a)) := by
 have hw : Wt.w a = Wt.w a.1 + (Wt.w a.2.1 + (Wt.w a.2.2.1)) := by
  simp only [Wt.w]
  first | done | omega
 rw [hw]; unfold p_laws_szDisk
 refine sz_step (s_FileS a.1 left h0 h1 ok.1) fun c0 => ?_
 refine sz_step (s_IntS a.2.1 (cut left (Wt.w a.1)) (cut_nn c0) (cut_rng h1) ok.2.1) fun c1 => ?_
 exact sz_last (s_TagSS a.2.2.1 (cut (cut left (Wt.w a.1)) (Wt.w a.2.1)) (cut_nn c1) (cut_rng (cut_rng h1)) ok.2.2.1 so.2.2.1)
theorem t_IntS (a : (List Int)) (_ : Dp.ok a) (hw : Wt.w a ≤ 1048576) : p_laws_toIntS a = some a := by
 have hm : a.length ≤ 1048576 := Nat.le_trans wL_le hw
 unfold p_laws_toIntS
 rw [gd.yes (by unfold many; omega)]
 simp only [Int.toNat_natCast]
 rw [to_loop (l := a) (by simp) (fun k hk r hr => by
  unfold p_laws_toIntS_b0
  have hk2 : k < r.length := by omega
  simp only [dlt hk, cond_true, gd.yes (ixN hk), gd.yes (ixN hk2), Int.toNat_natCast, gd.yes (i64S hk (by omega))]
  first | done | rfl) (fun r => by unfold p_laws_toIntS_b0; simp)]
 rfl
theorem t_Row (a : Row) (_ : Dp.ok a) (_ : Wt.w a ≤ 1048576) : p_laws_toRow a = some a := by
 unfold p_laws_toRow
 rfl
theorem t_RowS (a : (List Row)) (ok : Dp.ok a) (hw : Wt.w a ≤ 1048576) : p_laws_toRowS a = some a := by
 have hm : a.length ≤ 1048576 := Nat.le_trans wL_le hw
 unfold p_laws_toRowS
 rw [gd.yes (by unfold many; omega)]
 simp only [Int.toNat_natCast]
 rw [to_loop (l := a) (by simp) (fun k hk r hr => by
  unfold p_laws_toRowS_b0
  have hk2 : k < r.length := by omega
  simp only [dlt hk, cond_true, gd.yes (ixN hk), gd.yes (ixN hk2), Int.toNat_natCast, t_Row (nth a k) (ok.2 k hk) (Nat.le_trans (wL_el hk) hw), bd_some, gd.yes (i64S hk (by omega))]
  first | done | rfl) (fun r => by unfold p_laws_toRowS_b0; simp)]
 rfl
theorem t_RowSS (a : (List (List Row))) (ok : Dp.ok a) (hw : Wt.w a ≤ 1048576) : p_laws_toRowSS a = some a := by
 have hm : a.length ≤ 1048576 := Nat.le_trans wL_le hw
 unfold p_laws_toRowSS
 rw [gd.yes (by unfold many; omega)]
 simp only [Int.toNat_natCast]
 rw [to_loop (l := a) (by simp) (fun k hk r hr => by
  unfold p_laws_toRowSS_b0
  have hk2 : k < r.length := by omega
  simp only [dlt hk, cond_true, gd.yes (ixN hk), gd.yes (ixN hk2), Int.toNat_natCast, t_RowS (nth a k) (ok.2 k hk) (Nat.le_trans (wL_el hk) hw), bd_some, gd.yes (i64S hk (by omega))]
  first | done | rfl) (fun r => by unfold p_laws_toRowSS_b0; simp)]
 rfl
theorem t_Part (a : Part) (ok : Dp.ok a) (hw : Wt.w a ≤ 1048576) : p_laws_toPart a = some a := by
 unfold p_laws_toPart
 simp only [t_IntS a.1 ok.1 (by simp only [Wt.w] at hw ⊢; omega), t_RowSS a.2 ok.2 (by simp only [Wt.w] at hw ⊢; omega), bd_some]
theorem t_File (a : File) (ok : Dp.ok a) (hw : Wt.w a ≤ 1048576) : p_laws_toFile a = some a := by
 unfold p_laws_toFile
 simp only [t_Part a.2 ok.2 (by simp only [Wt.w] at hw ⊢; omega), bd_some]
theorem t_FileS (a : (List File)) (ok : Dp.ok a) (hw : Wt.w a ≤ 1048576) : p_laws_toFileS a = some a := by
 have hm : a.length ≤ 1048576 := Nat.le_trans wL_le hw
 unfold p_laws_toFileS
 rw [gd.yes (by unfold many; omega)]
 simp only [Int.toNat_natCast]
 rw [to_loop (l := a) (by simp) (fun k hk r hr => by
  unfold p_laws_toFileS_b0
  have hk2 : k < r.length := by omega
  simp only [dlt hk, cond_true, gd.yes (ixN hk), gd.yes (ixN hk2), Int.toNat_natCast, t_File (nth a k) (ok.2 k hk) (Nat.le_trans (wL_el hk) hw), bd_some, gd.yes (i64S hk (by omega))]
  first | done | rfl) (fun r => by unfold p_laws_toFileS_b0; simp)]
 rfl
theorem t_Tag (a : Tag) (_ : Dp.ok a) (_ : Wt.w a ≤ 1048576) : p_laws_toTag a = some a := by
 unfold p_laws_toTag
 rfl
theorem t_TagS (a : (List Tag)) (ok : Dp.ok a) (hw : Wt.w a ≤ 1048576) : p_laws_toTagS a = some a := by
 have hm : a.length ≤ 1048576 := Nat.le_trans wL_le hw
 unfold p_laws_toTagS
 rw [gd.yes (by unfold many; omega)]
 simp only [Int.toNat_natCast]
 rw [to_loop (l := a) (by simp) (fun k hk r hr => by
  unfold p_laws_toTagS_b0
  have hk2 : k < r.length := by omega
  simp only [dlt hk, cond_true, gd.yes (ixN hk), gd.yes (ixN hk2), Int.toNat_natCast, t_Tag (nth a k) (ok.2 k hk) (Nat.le_trans (wL_el hk) hw), bd_some, gd.yes (i64S hk (by omega))]
  first | done | rfl) (fun r => by unfold p_laws_toTagS_b0; simp)]
 rfl
theorem t_TagSS (a : (List (List Tag))) (ok : Dp.ok a) (hw : Wt.w a ≤ 1048576) : p_laws_toTagSS a = some a := by
 have hm : a.length ≤ 1048576 := Nat.le_trans wL_le hw
 unfold p_laws_toTagSS
 rw [gd.yes (by unfold many; omega)]
 simp only [Int.toNat_natCast]
 rw [to_loop (l := a) (by simp) (fun k hk r hr => by
  unfold p_laws_toTagSS_b0
  have hk2 : k < r.length := by omega
  simp only [dlt hk, cond_true, gd.yes (ixN hk), gd.yes (ixN hk2), Int.toNat_natCast, t_TagS (nth a k) (ok.2 k hk) (Nat.le_trans (wL_el hk) hw), bd_some, gd.yes (i64S hk (by omega))]
  first | done | rfl) (fun r => by unfold p_laws_toTagSS_b0; simp)]
 rfl
theorem t_Disk (a : Disk) (ok : Dp.ok a) (hw : Wt.w a ≤ 1048576) : p_laws_toDisk a = some a := by
 unfold p_laws_toDisk
 simp only [t_FileS a.1 ok.1 (by simp only [Wt.w] at hw ⊢; omega), t_IntS a.2.1 ok.2.1 (by simp only [Wt.w] at hw ⊢; omega), t_TagSS a.2.2.1 ok.2.2.1 (by simp only [Wt.w] at hw ⊢; omega), bd_some]
theorem q_IntS (a b : (List Int)) (ha : Dp.ok a) (_ : Dp.ok b) : p_laws_eqIntS a b = some (decide (a = b)) := by
 have hm : a.length ≤ 9223372036854775807 := ha.1
 unfold p_laws_eqIntS
 by_cases hl : a.length = b.length
 ·have hl2 : (a.length : Int) = (b.length : Int) := by omega
  simp only [hl2, decide_true, Bool.not_true, cond_false]
  refine eq_loop hl (fun k hk => ?_) ?_
  ·have hk2 : k < b.length := by omega
   unfold p_laws_eqIntS_b0
   simp only [dlt hk, cond_true, gd.yes (ixN hk), gd.yes (ixN hk2), Int.toNat_natCast, gd.yes (i64S hk hm)]
   by_cases h : nth a k = nth b k <;> simp [h]
  ·unfold p_laws_eqIntS_b0; simp
 ·have h2 : ¬ (a.length : Int) = (b.length : Int) := by omega
  have h3 : a ≠ b := fun e => hl (by rw [e])
  simp [h2, h3]
theorem q_Row (a b : Row) (_ : Dp.ok a) (hb : Dp.ok b) : p_laws_eqRow a b = some (decide (a = b)) := by
 have he : a = b ↔ a.1 = b.1 ∧ a.2 = b.2 := by
  constructor
  ·rintro rfl; simp
  ·rintro ⟨h0, h1⟩; exact Prod.ext h0 (h1)
 unfold p_laws_eqRow
 simp only [he]
 by_cases h0 : a.1 = b.1
 ·by_cases h1 : a.2 = b.2
  ·simp [h0, h1]
  ·simp [h0, h1]
 ·simp [h0]
theorem q_RowS (a b : (List Row)) (ha : Dp.ok a) (hb : Dp.ok b) : p_laws_eqRowS a b = some (decide (a = b)) := by
 have hm : a.length ≤ 9223372036854775807 := ha.1
 unfold p_laws_eqRowS
 by_cases hl : a.length = b.length
 ·have hl2 : (a.length : Int) = (b.length : Int) := by omega
  simp only [hl2, decide_true, Bool.not_true, cond_false]
  refine eq_loop hl (fun k hk => ?_) ?_
  ·have hk2 : k < b.length := by omega
   unfold p_laws_eqRowS_b0
   simp only [dlt hk, cond_true, gd.yes (ixN hk), gd.yes (ixN hk2), Int.toNat_natCast, q_Row (nth a k) (nth b k) (ha.2 k hk) (hb.2 k hk2), bd_some, gd.yes (i64S hk hm)]
   by_cases h : nth a k = nth b k <;> simp [h]
  ·unfold p_laws_eqRowS_b0; simp
 ·have h2 : ¬ (a.length : Int) = (b.length : Int) := by omega
  have h3 : a ≠ b := fun e => hl (by rw [e])
  simp [h2, h3]
theorem q_RowSS (a b : (List (List Row))) (ha : Dp.ok a) (hb : Dp.ok b) : p_laws_eqRowSS a b = some (decide (a = b)) := by
 have hm : a.length ≤ 9223372036854775807 := ha.1
 unfold p_laws_eqRowSS
 by_cases hl : a.length = b.length
 ·have hl2 : (a.length : Int) = (b.length : Int) := by omega
  simp only [hl2, decide_true, Bool.not_true, cond_false]
  refine eq_loop hl (fun k hk => ?_) ?_
  ·have hk2 : k < b.length := by omega
   unfold p_laws_eqRowSS_b0
   simp only [dlt hk, cond_true, gd.yes (ixN hk), gd.yes (ixN hk2), Int.toNat_natCast, q_RowS (nth a k) (nth b k) (ha.2 k hk) (hb.2 k hk2), bd_some, gd.yes (i64S hk hm)]
   by_cases h : nth a k = nth b k <;> simp [h]
  ·unfold p_laws_eqRowSS_b0; simp
 ·have h2 : ¬ (a.length : Int) = (b.length : Int) := by omega
  have h3 : a ≠ b := fun e => hl (by rw [e])
  simp [h2, h3]
theorem q_Part (a b : Part) (ha : Dp.ok a) (hb : Dp.ok b) : p_laws_eqPart a b = some (decide (a = b)) := by
 have he : a = b ↔ a.1 = b.1 ∧ a.2 = b.2 := by
  constructor
  ·rintro rfl; simp
  ·rintro ⟨h0, h1⟩; exact Prod.ext h0 (h1)
 unfold p_laws_eqPart
 simp only [q_IntS a.1 b.1 ha.1 hb.1, q_RowSS a.2 b.2 ha.2 hb.2, bd_some, he]
 by_cases h0 : a.1 = b.1
 ·by_cases h1 : a.2 = b.2
  ·simp [h0, h1]
  ·simp [h0, h1]
 ·simp [h0]
theorem q_File (a b : File) (ha : Dp.ok a) (hb : Dp.ok b) : p_laws_eqFile a b = some (decide (a = b)) := by
 have he : a = b ↔ a.1 = b.1 ∧ a.2 = b.2 := by
  constructor
  ·rintro rfl; simp
  ·rintro ⟨h0, h1⟩; exact Prod.ext h0 (h1)
 unfold p_laws_eqFile
 simp only [q_Part a.2 b.2 ha.2 hb.2, bd_some, he]
 by_cases h0 : a.1 = b.1
 ·by_cases h1 : a.2 = b.2
  ·simp [h0, h1]
  ·simp [h0, h1]
 ·simp [h0]
theorem q_FileS (a b : (List File)) (ha : Dp.ok a) (hb : Dp.ok b) : p_laws_eqFileS a b = some (decide (a = b)) := by
 have hm : a.length ≤ 9223372036854775807 := ha.1
 unfold p_laws_eqFileS
 by_cases hl : a.length = b.length
 ·have hl2 : (a.length : Int) = (b.length : Int) := by omega
  simp only [hl2, decide_true, Bool.not_true, cond_false]
  refine eq_loop hl (fun k hk => ?_) ?_
  ·have hk2 : k < b.length := by omega
   unfold p_laws_eqFileS_b0
   simp only [dlt hk, cond_true, gd.yes (ixN hk), gd.yes (ixN hk2), Int.toNat_natCast, q_File (nth a k) (nth b k) (ha.2 k hk) (hb.2 k hk2), bd_some, gd.yes (i64S hk hm)]
   by_cases h : nth a k = nth b k <;> simp [h]
  ·unfold p_laws_eqFileS_b0; simp
 ·have h2 : ¬ (a.length : Int) = (b.length : Int) := by omega
  have h3 : a ≠ b := fun e => hl (by rw [e])
  simp [h2, h3]
theorem q_Tag (a b : Tag) (_ : Dp.ok a) (hb : Dp.ok b) : p_laws_eqTag a b = some (decide (a = b)) := by
 have he : a = b ↔ a.1 = b.1 ∧ a.2 = b.2 := by
  constructor
  ·rintro rfl; simp
  ·rintro ⟨h0, h1⟩; exact Prod.ext h0 (h1)
 unfold p_laws_eqTag
 simp only [he]
 by_cases h0 : a.1 = b.1
 ·by_cases h1 : a.2 = b.2
  ·simp [h0, h1]
  ·simp [h0, h1]
 ·simp [h0]
theorem q_TagS (a b : (List Tag)) (ha : Dp.ok a) (hb : Dp.ok b) : p_laws_eqTagS a b = some (decide (a = b)) := by
 have hm : a.length ≤ 9223372036854775807 := ha.1
 unfold p_laws_eqTagS
 by_cases hl : a.length = b.length
 ·have hl2 : (a.length : Int) = (b.length : Int) := by omega
  simp only [hl2, decide_true, Bool.not_true, cond_false]
  refine eq_loop hl (fun k hk => ?_) ?_
  ·have hk2 : k < b.length := by omega
   unfold p_laws_eqTagS_b0
   simp only [dlt hk, cond_true, gd.yes (ixN hk), gd.yes (ixN hk2), Int.toNat_natCast, q_Tag (nth a k) (nth b k) (ha.2 k hk) (hb.2 k hk2), bd_some, gd.yes (i64S hk hm)]
   by_cases h : nth a k = nth b k <;> simp [h]
  ·unfold p_laws_eqTagS_b0; simp
 ·have h2 : ¬ (a.length : Int) = (b.length : Int) := by omega
  have h3 : a ≠ b := fun e => hl (by rw [e])
  simp [h2, h3]
theorem q_TagSS (a b : (List (List Tag))) (ha : Dp.ok a) (hb : Dp.ok b) : p_laws_eqTagSS a b = some (decide (a = b)) := by
 have hm : a.length ≤ 9223372036854775807 := ha.1
 unfold p_laws_eqTagSS
 by_cases hl : a.length = b.length
 ·have hl2 : (a.length : Int) = (b.length : Int) := by omega
  simp only [hl2, decide_true, Bool.not_true, cond_false]
  refine eq_loop hl (fun k hk => ?_) ?_
  ·have hk2 : k < b.length := by omega
   unfold p_laws_eqTagSS_b0
   simp only [dlt hk, cond_true, gd.yes (ixN hk), gd.yes (ixN hk2), Int.toNat_natCast, q_TagS (nth a k) (nth b k) (ha.2 k hk) (hb.2 k hk2), bd_some, gd.yes (i64S hk hm)]
   by_cases h : nth a k = nth b k <;> simp [h]
  ·unfold p_laws_eqTagSS_b0; simp
 ·have h2 : ¬ (a.length : Int) = (b.length : Int) := by omega
  have h3 : a ≠ b := fun e => hl (by rw [e])
  simp [h2, h3]
theorem q_Disk (a b : Disk) (ha : Dp.ok a) (hb : Dp.ok b) : p_laws_eqDisk a b = some (decide (a = b)) := by
 have he : a = b ↔ a.1 = b.1 ∧ a.2.1 = b.2.1 ∧ a.2.2.1 = b.2.2.1 ∧ a.2.2.2 = b.2.2.2 := by
  constructor
  ·rintro rfl; simp
  ·rintro ⟨h0, h1, h2, h3⟩; exact Prod.ext h0 (Prod.ext h1 (Prod.ext h2 (h3)))
 unfold p_laws_eqDisk
 simp only [q_FileS a.1 b.1 ha.1 hb.1, q_IntS a.2.1 b.2.1 ha.2.1 hb.2.1, q_TagSS a.2.2.1 b.2.2.1 ha.2.2.1 hb.2.2.1, bd_some, he]
 by_cases h0 : a.1 = b.1
 ·by_cases h1 : a.2.1 = b.2.1
  ·by_cases h2 : a.2.2.1 = b.2.2.1
   ·by_cases h3 : a.2.2.2 = b.2.2.2
    ·simp [h0, h1, h2, h3]
    ·simp [h0, h1, h2, h3]
   ·simp [h0, h1, h2]
  ·simp [h0, h1]
 ·simp [h0]
theorem m_IntS (a : (List Int)) (k : Int) (h0 : 0 ≤ k) (hB : k + (Ct.ct a : Nat) ≤ 1152921504606846976) (ok : Dp.ok a) : MkR p_laws_markIntS p_laws_heldIntS a k := by
 have hm : a.length ≤ 9223372036854775807 := ok.1
 obtain ⟨k1, r, e1, e2, e3, e4, e5⟩ := mark_loop (l := a) (B := 1152921504606846976) (bm := p_laws_markIntS_b0 a) (bh := fun r => p_laws_heldIntS_b0 r) (fun i hi r hr hn k h0 hB => by
  have hi2 : i < r.length := by omega
  have hc : Ct.ct (nth a i) = 1 := rfl
  have g1 : I64 (k + 1) := i64B (by omega) (by omega)
  refine ⟨k, k + 1, ?_, by omega, by omega, fun r' hr' hu => ?_⟩
  ·unfold p_laws_markIntS_b0
   simp only [dlt hi, cond_true, Int.toNat_natCast, gd.yes (ixN hi2), gd.yes g1, gd.yes (i64S hi hm)]
   first | done | rfl
  ·have hi3 : i < r'.length := by omega
   unfold p_laws_heldIntS_b0
   simp [hi3, gd.yes (ixN hi3), hu, gd.yes g1, gd.yes (i64S hi hm)])
  (fun r k hr => by unfold p_laws_markIntS_b0; simp) (fun r k hr => by unfold p_laws_heldIntS_b0; simp [hr]) h0 hB
 refine ⟨k1, r, ?_, e3, e4, ?_⟩
 ·unfold p_laws_markIntS; rw [e1]; rfl
 ·unfold p_laws_heldIntS; rw [e5]; rfl
theorem m_RowS (a : (List Row)) (k : Int) (h0 : 0 ≤ k) (hB : k + (Ct.ct a : Nat) ≤ 1152921504606846976) (ok : Dp.ok a) : MkR p_laws_markRowS p_laws_heldRowS a k := by
 have hm : a.length ≤ 9223372036854775807 := ok.1
 obtain ⟨k1, r, e1, e2, e3, e4, e5⟩ := mark_loop (l := a) (B := 1152921504606846976) (bm := p_laws_markRowS_b0 a) (bh := fun r => p_laws_heldRowS_b0 r) (fun i hi r hr hn k h0 hB => by
  have hi2 : i < r.length := by omega
  have hc : Ct.ct (nth a i) = 1 + (1) := rfl
  have g1 : I64 (k + 1) := i64B (by omega) (by omega)
  have g2 : I64 ((k + 1) + 1) := i64B (by omega) (by omega)
  refine ⟨(k, k + 1), (k + 1) + 1, ?_, by omega, by omega, fun r' hr' hu => ?_⟩
  ·unfold p_laws_markRowS_b0
   simp only [dlt hi, cond_true, Int.toNat_natCast, gd.yes (ixN hi2), gd.yes g1, gd.yes g2, gd.yes (i64S hi hm)]
   first | done | rfl
  ·have hi3 : i < r'.length := by omega
   unfold p_laws_heldRowS_b0
   simp [hi3, gd.yes (ixN hi3), hu, gd.yes g1, gd.yes g2, gd.yes (i64S hi hm)])
  (fun r k hr => by unfold p_laws_markRowS_b0; simp) (fun r k hr => by unfold p_laws_heldRowS_b0; simp [hr]) h0 hB
 refine ⟨k1, r, ?_, e3, e4, ?_⟩
 ·unfold p_laws_markRowS; rw [e1]; rfl
 ·unfold p_laws_heldRowS; rw [e5]; rfl
theorem m_RowSS (a : (List (List Row))) (k : Int) (h0 : 0 ≤ k) (hB : k + (Ct.ct a : Nat) ≤ 1152921504606846976) (ok : Dp.ok a) : MkR p_laws_markRowSS p_laws_heldRowSS a k := by
 have hm : a.length ≤ 9223372036854775807 := ok.1
 obtain ⟨k1, r, e1, e2, e3, e4, e5⟩ := mark_loop (l := a) (B := 1152921504606846976) (bm := p_laws_markRowSS_b0 a) (bh := fun r => p_laws_heldRowSS_b0 r) (fun i hi r hr hn k h0 hB => by
  have hi2 : i < r.length := by omega
  have hc : Ct.ct (nth a i) = Ct.ct (nth a i) := rfl
  obtain ⟨c1, s1, x1, y1, z1, w1⟩ := m_RowS (nth a i) (k) (by omega) (by omega) (ok.2 i hi)
  have q1 : ¬ c1 < 0 := by omega
  refine ⟨s1, c1, ?_, by omega, by omega, fun r' hr' hu => ?_⟩
  ·unfold p_laws_markRowSS_b0
   simp only [dlt hi, cond_true, Int.toNat_natCast, gd.yes (ixN hi2), hn, x1, bd_some, gd.yes (i64S hi hm)]
   first | done | rfl
  ·have hi3 : i < r'.length := by omega
   unfold p_laws_heldRowSS_b0
   simp [hi3, gd.yes (ixN hi3), hu, w1, q1, gd.yes (i64S hi hm)])
  (fun r k hr => by unfold p_laws_markRowSS_b0; simp) (fun r k hr => by unfold p_laws_heldRowSS_b0; simp [hr]) h0 hB
 refine ⟨k1, r, ?_, e3, e4, ?_⟩
 ·unfold p_laws_markRowSS; rw [e1]; rfl
 ·unfold p_laws_heldRowSS; rw [e5]; rfl
theorem m_FileS (a : (List File)) (k : Int) (h0 : 0 ≤ k) (hB : k + (Ct.ct a : Nat) ≤ 1152921504606846976) (ok : Dp.ok a) : MkR p_laws_markFileS p_laws_heldFileS a k := by
 have hm : a.length ≤ 9223372036854775807 := ok.1
 obtain ⟨k1, r, e1, e2, e3, e4, e5⟩ := mark_loop (l := a) (B := 1152921504606846976) (bm := p_laws_markFileS_b0 a) (bh := fun r => p_laws_heldFileS_b0 r) (fun i hi r hr hn k h0 hB => by
  have hi2 : i < r.length := by omega
  have hc : Ct.ct (nth a i) = 1 + ((Ct.ct (((nth a i).2).1)) + (Ct.ct (((nth a i).2).2))) := rfl
  have g1 : I64 (k + 1) := i64B (by omega) (by omega)
  obtain ⟨c1, s1, x1, y1, z1, w1⟩ := m_IntS (((nth a i).2).1) (k + 1) (by omega) (by omega) (ok.2 i hi).2.1
  have q1 : ¬ c1 < 0 := by omega
  obtain ⟨c2, s2, x2, y2, z2, w2⟩ := m_RowSS (((nth a i).2).2) (c1) (by omega) (by omega) (ok.2 i hi).2.2
  have q2 : ¬ c2 < 0 := by omega
  refine ⟨(k, (s1, s2)), c2, ?_, by omega, by omega, fun r' hr' hu => ?_⟩
  ·unfold p_laws_markFileS_b0
   simp only [dlt hi, cond_true, Int.toNat_natCast, gd.yes (ixN hi2), hn, gd.yes g1, x1, x2, bd_some, gd.yes (i64S hi hm)]
   first | done | rfl
  ·have hi3 : i < r'.length := by omega
   unfold p_laws_heldFileS_b0
   simp [hi3, gd.yes (ixN hi3), hu, gd.yes g1, w1, q1, w2, q2, gd.yes (i64S hi hm)])
  (fun r k hr => by unfold p_laws_markFileS_b0; simp) (fun r k hr => by unfold p_laws_heldFileS_b0; simp [hr]) h0 hB
 refine ⟨k1, r, ?_, e3, e4, ?_⟩
 ·unfold p_laws_markFileS; rw [e1]; rfl
 ·unfold p_laws_heldFileS; rw [e5]; rfl
theorem m_TagS (a : (List Tag)) (k : Int) (h0 : 0 ≤ k) (hB : k + (Ct.ct a : Nat) ≤ 1152921504606846976) (ok : Dp.ok a) : MkR p_laws_markTagS p_laws_heldTagS a k := by
 have hm : a.length ≤ 9223372036854775807 := ok.1
 obtain ⟨k1, r, e1, e2, e3, e4, e5⟩ := mark_loop (l := a) (B := 1152921504606846976) (bm := p_laws_markTagS_b0 a) (bh := fun r => p_laws_heldTagS_b0 r) (fun i hi r hr hn k h0 hB => by
  have hi2 : i < r.length := by omega
  have hc : Ct.ct (nth a i) = 1 + (1) := rfl
  obtain ⟨t0, ht0⟩ := mt_total (k) (by omega) (by omega)
  have g1 : I64 (k + 1) := i64B (by omega) (by omega)
  obtain ⟨t1, ht1⟩ := mt_total (k + 1) (by omega) (by omega)
  have g2 : I64 ((k + 1) + 1) := i64B (by omega) (by omega)
  refine ⟨(t0, t1), (k + 1) + 1, ?_, by omega, by omega, fun r' hr' hu => ?_⟩
  ·unfold p_laws_markTagS_b0
   simp only [dlt hi, cond_true, Int.toNat_natCast, gd.yes (ixN hi2), ht0, gd.yes g1, ht1, gd.yes g2, bd_some, gd.yes (i64S hi hm)]
   first | done | rfl
  ·have hi3 : i < r'.length := by omega
   unfold p_laws_heldTagS_b0
   simp [hi3, gd.yes (ixN hi3), hu, ht0, gd.yes g1, ht1, gd.yes g2, gd.yes (i64S hi hm)])
  (fun r k hr => by unfold p_laws_markTagS_b0; simp) (fun r k hr => by unfold p_laws_heldTagS_b0; simp [hr]) h0 hB
 refine ⟨k1, r, ?_, e3, e4, ?_⟩
 ·unfold p_laws_markTagS; rw [e1]; rfl
 ·unfold p_laws_heldTagS; rw [e5]; rfl
theorem m_TagSS (a : (List (List Tag))) (k : Int) (h0 : 0 ≤ k) (hB : k + (Ct.ct a : Nat) ≤ 1152921504606846976) (ok : Dp.ok a) : MkR p_laws_markTagSS p_laws_heldTagSS a k := by
 have hm : a.length ≤ 9223372036854775807 := ok.1
 obtain ⟨k1, r, e1, e2, e3, e4, e5⟩ := mark_loop (l := a) (B := 1152921504606846976) (bm := p_laws_markTagSS_b0 a) (bh := fun r => p_laws_heldTagSS_b0 r) (fun i hi r hr hn k h0 hB => by
  have hi2 : i < r.length := by omega
  have hc : Ct.ct (nth a i) = Ct.ct (nth a i) := rfl
  obtain ⟨c1, s1, x1, y1, z1, w1⟩ := m_TagS (nth a i) (k) (by omega) (by omega) (ok.2 i hi)
  have q1 : ¬ c1 < 0 := by omega
  refine ⟨s1, c1, ?_, by omega, by omega, fun r' hr' hu => ?_⟩
  ·unfold p_laws_markTagSS_b0
   simp only [dlt hi, cond_true, Int.toNat_natCast, gd.yes (ixN hi2), hn, x1, bd_some, gd.yes (i64S hi hm)]
   first | done | rfl
  ·have hi3 : i < r'.length := by omega
   unfold p_laws_heldTagSS_b0
   simp [hi3, gd.yes (ixN hi3), hu, w1, q1, gd.yes (i64S hi hm)])
  (fun r k hr => by unfold p_laws_markTagSS_b0; simp) (fun r k hr => by unfold p_laws_heldTagSS_b0; simp [hr]) h0 hB
 refine ⟨k1, r, ?_, e3, e4, ?_⟩
 ·unfold p_laws_markTagSS; rw [e1]; rfl
 ·unfold p_laws_heldTagSS; rw [e5]; rfl
theorem m_Disk (a : Disk) (k : Int) (h0 : 0 ≤ k) (hB : k + (Ct.ct a : Nat) ≤ 1152921504606846976) (ok : Dp.ok a) : MkR p_laws_markDisk p_laws_heldDisk a k := by
 have hc : Ct.ct a = Ct.ct a.1 + (Ct.ct a.2.1 + (Ct.ct a.2.2.1 + (1))) := rfl
 obtain ⟨k1, r1, e1, l1, u1, f1⟩ := m_FileS a.1 k (by omega) (by omega) ok.1
 have q1 : ¬ k1 < 0 := by omega
 obtain ⟨k2, r2, e2, l2, u2, f2⟩ := m_IntS a.2.1 k1 (by omega) (by omega) ok.2.1
 have q2 : ¬ k2 < 0 := by omega
 obtain ⟨k3, r3, e3, l3, u3, f3⟩ := m_TagSS a.2.2.1 k2 (by omega) (by omega) ok.2.2.1
 have q3 : ¬ k3 < 0 := by omega
 refine ⟨k3, (r1, r2, r3, a.2.2.2), ?_, by omega, by omega, ?_⟩
 ·unfold p_laws_markDisk; simp only [e1, e2, e3, bd_some]
 ·unfold p_laws_heldDisk; simp [f1, q1, f2, q2, f3, q3]
def inn (lo n hi : Int) : Bool := decide (lo ≤ n) && decide (n ≤ hi)
theorem e_impl_within (n lo hi : Int) : p_impl_within n lo hi = some (inn lo n hi) := by
 unfold p_impl_within inn; cases decide (lo ≤ n) <;> rfl
theorem e_spec_l6In (n lo hi : Int) : p_spec_l6In n lo hi = some (inn lo n hi) := by
 unfold p_spec_l6In inn; cases decide (lo ≤ n) <;> rfl
def rowOk (r : Row) : Bool := inn 0 r.1 99 && inn (-99) r.2 99
theorem e_impl_rowOk (r : Row) : p_impl_rowOk r = some (rowOk r) := by
 unfold p_impl_rowOk rowOk; simp only [e_impl_within, bd_some]; cases inn 0 r.1 99 <;> rfl
theorem e_spec_l2Row (r : Row) : p_spec_l2Row r = some (rowOk r) := by
 unfold p_spec_l2Row rowOk; simp only [e_spec_l6In, bd_some]; cases inn 0 r.1 99 <;> rfl
def rowBad (b : List Row) (k : Nat) : Bool := !rowOk (nth b k) || (decide (0 < k) && decide ((nth b k).1 ≤ (nth b (k - 1)).1))
def blockOk (b : List Row) : Bool := allN b.length (rowBad b) && decide ((b.length : Int) ≤ 24)
theorem e_impl_BlockOk (b : List Row) (hb : b.length ≤ maxLen) : p_impl_BlockOk b = some (blockOk b) := by
 have hb' : b.length ≤ 9223372036854775807 := hb
 have hr : ∀ k, k < b.length → p_impl_BlockOk_b0 b (k : Int) = some (if rowBad b k then .inr (.inr false) else .inl ((k + 1 : Nat) : Int)) := fun k hk => by
  unfold p_impl_BlockOk_b0 rowBad
  simp only [dlt hk, cond_true, gd.yes (ixN hk), e_impl_rowOk, bd_some, Int.toNat_natCast, gd.yes (i64S hk hb')]
  cases h1 : rowOk (nth b k) with
  | false => simp
  | true =>
   simp only [Bool.not_true, cond_false, Bool.false_or]
   by_cases h0 : 0 < k
   ·have h0' : (0 : Int) < k := by omega
    have e1 : (k : Int) - 1 = ((k - 1 : Nat) : Int) := by omega
    have hi : I64 ((k - 1 : Nat) : Int) := by unfold I64; omega
    simp only [h0, h0', decide_true, cond_true, e1, gd.yes hi, gd.yes (ixN (show k - 1 < b.length by omega)), Int.toNat_natCast, bd_some, Bool.true_and]
    cases decide ((nth b k).1 ≤ (nth b (k - 1)).1) <;> simp
   ·have h0' : ¬ (0 : Int) < k := by omega
    simp [h0]
 unfold p_impl_BlockOk blockOk
 rcases lp_scan (body := p_impl_BlockOk_b0 b) (fun k => (k : Int)) b.length (rowBad b) (.inl ()) (fun _ => .inr false) (fun k hk _ h => by simp [hr k hk, h]) (fun k hk _ h => by simp [hr k hk, h]) (fun _ => by unfold p_impl_BlockOk_b0; simp) with ⟨h1, h2⟩ | ⟨h1, k, _, _, _, h2⟩
 ·rw [show (lp (p_impl_BlockOk_b0 b) 0) = _ from h2, h1]; simp [sw]
 ·rw [show (lp (p_impl_BlockOk_b0 b) 0) = _ from h2, h1]; simp [sw]
theorem e_spec_BlockOk (b : List Row) (hb : b.length ≤ maxLen) : p_spec_BlockOk b = some (blockOk b) := by
 have hb' : b.length ≤ 9223372036854775807 := hb
 have hr : ∀ k, k < b.length → p_spec_BlockOk_b0 b (k : Int) = some (if rowBad b k then .inr (.inr false) else .inl ((k + 1 : Nat) : Int)) := fun k hk => by
  unfold p_spec_BlockOk_b0 rowBad
  simp only [dlt hk, cond_true, gd.yes (ixN hk), e_spec_l2Row, bd_some, Int.toNat_natCast, gd.yes (i64S hk hb')]
  cases h1 : rowOk (nth b k) with
  | false => simp
  | true =>
   simp only [Bool.not_true, cond_false, Bool.false_or]
   by_cases h0 : 0 < k
   ·have h0' : (0 : Int) < k := by omega
    have e1 : (k : Int) - 1 = ((k - 1 : Nat) : Int) := by omega
    have hi : I64 ((k - 1 : Nat) : Int) := by unfold I64; omega
    simp only [h0, h0', decide_true, cond_true, e1, gd.yes hi, gd.yes (ixN (show k - 1 < b.length by omega)), Int.toNat_natCast, bd_some, Bool.true_and]
    cases decide ((nth b k).1 ≤ (nth b (k - 1)).1) <;> simp
   ·simp [h0]
 unfold p_spec_BlockOk blockOk
 rcases lp_scan (body := p_spec_BlockOk_b0 b) (fun k => (k : Int)) b.length (rowBad b) (.inl ()) (fun _ => .inr false) (fun k hk _ h => by simp [hr k hk, h]) (fun k hk _ h => by simp [hr k hk, h]) (fun _ => by unfold p_spec_BlockOk_b0; simp) with ⟨h1, h2⟩ | ⟨h1, k, _, _, _, h2⟩
 ·rw [show (lp (p_spec_BlockOk_b0 b) 0) = _ from h2, h1]; simp [sw]
 ·rw [show (lp (p_spec_BlockOk_b0 b) 0) = _ from h2, h1]; simp [sw]
def partBad (p : Part) (k : Nat) : Bool := ((!inn 1 (nth p.1 k) 6 || (decide (0 < k) && decide (nth p.1 k ≤ nth p.1 (k - 1)))) || !blockOk (nth p.2 k)) || decide ((nth p.2 k).length = 0)
def partOk (p : Part) : Bool := decide (p.1.length = p.2.length) && allN p.1.length (partBad p)
theorem e_impl_PartOk (p : Part) (hp : Dp.ok p) : p_impl_PartOk p = some (partOk p) := by
 obtain ⟨⟨hp1, _⟩, _, hp2⟩ := hp
 have hp1 : p.1.length ≤ 9223372036854775807 := hp1
 unfold p_impl_PartOk partOk
 by_cases hl : p.1.length = p.2.length
 ·have hr : ∀ k, k < p.1.length → p_impl_PartOk_b0 p (k : Int) = some (if partBad p k then .inr (.inr false) else .inl ((k + 1 : Nat) : Int)) := fun k hk => by
   have hk2 : k < p.2.length := by omega
   unfold p_impl_PartOk_b0 partBad
   simp only [dlt hk, cond_true, gd.yes (ixN hk), gd.yes (ixN hk2), e_impl_within, e_impl_BlockOk _ (hp2 k hk2).1, bd_some, Int.toNat_natCast, gd.yes (i64S hk hp1)]
   cases h1 : inn 1 (nth p.1 k) 6 with
   | false => simp
   | true =>
    by_cases h0 : 0 < k
    ·have h0' : (0 : Int) < k := by omega
     have e1 : (k : Int) - 1 = ((k - 1 : Nat) : Int) := by omega
     have hi : I64 ((k - 1 : Nat) : Int) := by unfold I64; omega
     simp only [h0, h0', decide_true, cond_true, e1, gd.yes hi, gd.yes (ixN (show k - 1 < p.1.length by omega)), Int.toNat_natCast, Bool.true_and, Bool.not_true, cond_false, Bool.false_or]
     cases decide (nth p.1 k ≤ nth p.1 (k - 1)) <;> cases blockOk (nth p.2 k) <;> cases h9 : decide ((nth p.2 k).length = 0) <;> simp_all
    ·simp only [h0, Bool.not_true, cond_false, Bool.false_or, decide_false, Bool.false_and]
     cases blockOk (nth p.2 k) <;> cases h9 : decide ((nth p.2 k).length = 0) <;> simp_all
  rcases lp_scan (body := p_impl_PartOk_b0 p) (fun k => (k : Int)) p.1.length (partBad p) (.inl ()) (fun _ => .inr false) (fun k hk _ h => by simp [hr k hk, h]) (fun k hk _ h => by simp [hr k hk, h]) (fun _ => by unfold p_impl_PartOk_b0; simp) with ⟨h1, h2⟩ | ⟨h1, k, _, _, _, h2⟩
  ·rw [show (lp (p_impl_PartOk_b0 p) 0) = _ from h2, h1]; simp [sw, hl]
  ·rw [show (lp (p_impl_PartOk_b0 p) 0) = _ from h2, h1]; simp [sw, hl]
 ·have : ¬ (p.1.length : Int) = (p.2.length : Int) := by omega
  simp [this, hl]
theorem e_spec_PartOk (p : Part) (hp : Dp.ok p) : p_spec_PartOk p = some (partOk p) := by
 obtain ⟨⟨hp1, _⟩, _, hp2⟩ := hp
 have hp1 : p.1.length ≤ 9223372036854775807 := hp1
 unfold p_spec_PartOk partOk
 by_cases hl : p.1.length = p.2.length
 ·have hr : ∀ k, k < p.1.length → p_spec_PartOk_b0 p (k : Int) = some (if partBad p k then .inr (.inr false) else .inl ((k + 1 : Nat) : Int)) := fun k hk => by
   have hk2 : k < p.2.length := by omega
   unfold p_spec_PartOk_b0 partBad
   simp only [dlt hk, cond_true, gd.yes (ixN hk), gd.yes (ixN hk2), e_spec_l6In, e_spec_BlockOk _ (hp2 k hk2).1, bd_some, Int.toNat_natCast, gd.yes (i64S hk hp1)]
   cases h1 : inn 1 (nth p.1 k) 6 with
   | false => simp
   | true =>
    by_cases h0 : 0 < k
    ·have h0' : (0 : Int) < k := by omega
     have e1 : (k : Int) - 1 = ((k - 1 : Nat) : Int) := by omega
     have hi : I64 ((k - 1 : Nat) : Int) := by unfold I64; omega
     simp only [h0, h0', decide_true, cond_true, e1, gd.yes hi, gd.yes (ixN (show k - 1 < p.1.length by omega)), Int.toNat_natCast, Bool.true_and, Bool.not_true, cond_false, Bool.false_or]
     cases decide (nth p.1 k ≤ nth p.1 (k - 1)) <;> cases blockOk (nth p.2 k) <;> cases h9 : decide ((nth p.2 k).length = 0) <;> simp_all
    ·simp only [h0, Bool.not_true, cond_false, Bool.false_or, decide_false, Bool.false_and]
     cases blockOk (nth p.2 k) <;> cases h9 : decide ((nth p.2 k).length = 0) <;> simp_all
  rcases lp_scan (body := p_spec_PartOk_b0 p) (fun k => (k : Int)) p.1.length (partBad p) (.inl ()) (fun _ => .inr false) (fun k hk _ h => by simp [hr k hk, h]) (fun k hk _ h => by simp [hr k hk, h]) (fun _ => by unfold p_spec_PartOk_b0; simp) with ⟨h1, h2⟩ | ⟨h1, k, _, _, _, h2⟩
  ·rw [show (lp (p_spec_PartOk_b0 p) 0) = _ from h2, h1]; simp [sw, hl]
  ·rw [show (lp (p_spec_PartOk_b0 p) 0) = _ from h2, h1]; simp [sw, hl]
 ·have : ¬ (p.1.length : Int) = (p.2.length : Int) := by omega
  simp [this, hl]
def place (l : List Int) (id : Int) : Int := match (List.range l.length).find? (fun i => decide (nth l i = id)) with | some i => i | none => -1
theorem place_no {l : List Int} {id : Int} (h : allN l.length (fun i => decide (nth l i = id)) = true) : place l id = -1 := by
 unfold place
 rw [List.find?_eq_none.2]
 intro i hi
 have := allN_iff.1 h i (by simpa using hi)
 simpa using this
theorem place_yes {l : List Int} {id : Int} {k : Nat} (hk : k < l.length) (h : decide (nth l k = id) = true) (h2 : ∀ i, i < k → decide (nth l i = id) = false) : place l id = k := by
 unfold place
 have : (List.range l.length).find? (fun i => decide (nth l i = id)) = some k := by
  rw [List.find?_range_eq_some]
  exact ⟨h, by simpa using hk, fun i hi => by simpa using h2 i hi⟩
 rw [this]
theorem e_Index (l : List Int) (id : Int) (ok : l.length ≤ 9223372036854775807) : p_slices_Index_int_int l id = some (place l id) := by
 unfold p_slices_Index_int_int
 rcases lp_scan (body := p_slices_Index_int_int_b0 l id) (fun k => (k : Int)) l.length (fun i => decide (nth l i = id)) (.inl ()) (fun k => .inr (k : Int)) (fun k hk _ h => by
   have h' : ¬ id = nth l k := fun e => by simp [e] at h
   unfold p_slices_Index_int_int_b0; simp [hk, gd.yes (ixN hk), h', gd.yes (i64S hk ok)]) (fun k hk _ h => by
   have h' : id = nth l k := by simp at h; exact h.symm
   unfold p_slices_Index_int_int_b0; simp [hk, gd.yes (ixN hk), h']) (fun _ => by unfold p_slices_Index_int_int_b0; simp) with ⟨h1, h2⟩ | ⟨h1, k, hk, hb, hn, h2⟩
 ·rw [show (lp (p_slices_Index_int_int_b0 l id) 0) = _ from h2, place_no h1]; rfl
 ·rw [show (lp (p_slices_Index_int_int_b0 l id) 0) = _ from h2, place_yes hk hb hn]; rfl
theorem place_lt {l : List Int} {id : Int} : place l id < 0 ∨ ∃ k, k < l.length ∧ place l id = (k : Int) := by
 cases ha : allN l.length (fun i => decide (nth l i = id)) with
 | true => exact .inl (by rw [place_no ha]; decide)
 | false =>
  obtain ⟨k, hk, h1, h2⟩ := first_bad ha
  exact .inr ⟨k, hk, place_yes hk h1 h2⟩
def rowsOf (p : Part) (id : Int) : List Row := if place p.1 id < 0 then [] else nth p.2 (place p.1 id).toNat
theorem partOk_len' {p : Part} (h : partOk p = true) : p.1.length = p.2.length := by
 unfold partOk at h; simp at h; exact h.1
theorem e_l12Of (p : Part) (id : Int) (ok : Dp.ok p) (hl : p.1.length = p.2.length) : p_spec_l12Of p id = some (rowsOf p id) := by
 have hm : p.1.length ≤ 9223372036854775807 := ok.1.1
 unfold p_spec_l12Of rowsOf
 rcases lp_scan (body := p_spec_l12Of_b0 p id) (fun k => (k : Int)) p.1.length (fun i => decide (nth p.1 i = id)) (.inl ()) (fun k => .inr (nth p.2 k)) (fun k hk _ h => by
   have h' : ¬ nth p.1 k = id := by simpa using h
   unfold p_spec_l12Of_b0; simp [hk, gd.yes (ixN hk), h', gd.yes (i64S hk hm)]) (fun k hk _ h => by
   have h' : nth p.1 k = id := by simpa using h
   have hk2 : k < p.2.length := by omega
   unfold p_spec_l12Of_b0; simp [hk, gd.yes (ixN hk), h', gd.yes (ixN hk2)]) (fun _ => by unfold p_spec_l12Of_b0; simp) with ⟨h1, h2⟩ | ⟨h1, k, hk, hb, hn, h2⟩
 ·rw [show (lp (p_spec_l12Of_b0 p id) 0) = _ from h2, place_no h1]; rfl
 ·rw [show (lp (p_spec_l12Of_b0 p id) 0) = _ from h2, place_yes hk hb hn]
  have : ¬ (k : Int) < 0 := by omega
  simp [sw, this]
def partOf (p : Part) (id : Int) : List Row := if partOk p then rowsOf p id else []
theorem e_impl_PartOf (p : Part) (id : Int) (ok : Dp.ok p) (hw : Wt.w p ≤ 1048576) : p_impl_PartOf p id = some (partOf p id) := by
 unfold p_impl_PartOf partOf
 rw [e_Index p.1 id ok.1.1, bd_some, e_impl_PartOk p ok, bd_some]
 cases h : partOk p with
 | false => rfl
 | true =>
  have hl := partOk_len' h
  rcases place_lt (l := p.1) (id := id) with hp | ⟨k, hk, hp⟩
  ·simp [hp, rowsOf]
  ·have h0 : ¬ (k : Int) < 0 := by omega
   have hk2 : k < p.2.length := by omega
   have hr : room (nth p.2 k).length := by
    have : (nth p.2 k).length ≤ 1048576 := Nat.le_trans wL_le (Nat.le_trans (wL_el hk2) (Nat.le_trans wP_2 hw))
    unfold room; omega
   simp [hp, rowsOf, h0, gd.yes (ixN hk2), gd.yes hr]
theorem ok_rows (l : List Row) (h : l.length ≤ 1048576) : Dp.ok l := ⟨Nat.le_trans h (by decide), fun _ _ => ⟨trivial, trivial⟩⟩
def l2 (r : Row) : Bool → List Row → List Row
 | put, [] => if put then [] else [r]
 | put, x :: t => (if !put && decide (r.1 ≤ x.1) then [r] else []) ++ ((if x.1 = r.1 then [] else [x]) ++ l2 r (put || decide (r.1 ≤ x.1)) t)
theorem drop_nth {α : Type} [Inhabited α] {l : List α} {k : Nat} (hk : k < l.length) : l.drop k = nth l k :: l.drop (k + 1) := by
 rw [nth_eq l k hk, List.drop_eq_getElem_cons hk]
theorem e_l2Put (b : List Row) (r : Row) (hb : b.length ≤ 1048576) : p_spec_l2Put b r = some (l2 r false b) := by
 unfold p_spec_l2Put
 obtain ⟨e, he, hs1, hs2⟩ := lp.rule (body := p_spec_l2Put_b0 b r) (fun σ => ∃ k : Nat, k ≤ b.length ∧ σ.2.2 = (k : Int) ∧ σ.1.length ≤ 2 * k ∧ σ.1 ++ l2 r σ.2.1 (b.drop k) = l2 r false b) (fun σ => b.length - σ.2.2.toNat)
  (fun e => e.1.length ≤ 2 * b.length ∧ e.1 ++ (if e.2 then [] else [r]) = l2 r false b) (fun σ hI => by
   obtain ⟨k, k1, k2, k3, k4⟩ := hI
   unfold p_spec_l2Put_b0
   rw [k2]
   by_cases hk : k < b.length
   ·left
    rw [drop_nth hk] at k4
    have hi := i64S hk (by omega)
    have r1 : room (σ.1.length + 1) := by unfold room; omega
    have r2 : room ((σ.1 ++ [r]).length + 1) := by simp; unfold room; omega
    simp only [dlt hk, cond_true, gd.yes (ixN hk), Int.toNat_natCast, gd.yes hi, gd.yes r1, gd.yes r2]
    obtain ⟨o, put, i⟩ := σ
    simp only at k2 k3 k4 ⊢
    cases put with
    | true =>
     simp only [l2, Bool.not_true, Bool.false_and, Bool.false_eq_true, if_false, List.nil_append, Bool.true_or] at k4
     simp only [Bool.not_true, cond_false, bd_some]
     by_cases hx : (nth b k).1 = r.1
     ·simp only [hx, if_true, List.nil_append] at k4
      exact ⟨(o, true, ((k + 1 : Nat) : Int)), by simp [hx], ⟨k + 1, hk, rfl, by simp only; omega, k4⟩, by simp only; omega⟩
     ·simp only [hx, if_false] at k4
      exact ⟨(o ++ [nth b k], true, ((k + 1 : Nat) : Int)), by simp [hx], ⟨k + 1, hk, rfl, by simp; omega, by simpa using k4⟩, by simp only; omega⟩
    | false =>
     by_cases hle : r.1 ≤ (nth b k).1
     ·simp only [l2, hle, decide_true, Bool.not_false, Bool.true_and, if_true, Bool.or_true] at k4
      by_cases hx : (nth b k).1 = r.1
      ·simp only [hx, if_true, List.nil_append] at k4
       exact ⟨(o ++ [r], true, ((k + 1 : Nat) : Int)), by simp [hx], ⟨k + 1, hk, rfl, by simp; omega, by simpa using k4⟩, by simp only; omega⟩
      ·simp only [hx, if_false] at k4
       exact ⟨(o ++ [r] ++ [nth b k], true, ((k + 1 : Nat) : Int)), by simp [hx, hle], ⟨k + 1, hk, rfl, by simp; omega, by simpa using k4⟩, by simp only; omega⟩
     ·simp only [l2, hle, decide_false, Bool.not_false, Bool.and_false, Bool.false_eq_true, if_false, List.nil_append, Bool.or_false] at k4
      have hx : ¬ (nth b k).1 = r.1 := by omega
      simp only [hx, if_false] at k4
      exact ⟨(o ++ [nth b k], false, ((k + 1 : Nat) : Int)), by simp [hx, hle], ⟨k + 1, hk, rfl, by simp; omega, by simpa using k4⟩, by simp only; omega⟩
   ·right
    have hk' : k = b.length := by omega
    subst hk'
    refine ⟨(σ.1, σ.2.1), by simp, k3, ?_⟩
    rw [List.drop_length] at k4
    simpa [l2] using k4) (s := (([] : List Row), false, (0 : Int))) ⟨0, Nat.zero_le _, rfl, by simp, by simp⟩
 rw [he, bd_some]
 have r1 : room (e.1.length + 1) := by unfold room; omega
 cases hp : e.2 with
 | true => simp [hp] at hs2; simp [hs2]
 | false => simp [hp] at hs2; simp [gd.yes r1, hs2]
def mkP (i : Nat) : List (List Row) → Part
 | [] => ([], [])
 | b :: t => if 0 < b.length then (((i + 1 : Nat) : Int) :: (mkP (i + 1) t).1, b :: (mkP (i + 1) t).2) else mkP (i + 1) t
theorem mkP_len : ∀ (l : List (List Row)) (i : Nat), (mkP i l).1.length = (mkP i l).2.length ∧ (mkP i l).1.length ≤ l.length
 | [], i => by simp [mkP]
 | b :: t, i => by
  have := mkP_len t (i + 1)
  unfold mkP
  split <;> simp <;> omega
theorem mkP_mem : ∀ (l : List (List Row)) (i : Nat) (b : List Row), b ∈ (mkP i l).2 → b ∈ l
 | [], i, b, h => by simp [mkP] at h
 | c :: t, i, b, h => by
  unfold mkP at h
  split at h
  ·rcases List.mem_cons.1 h with rfl | h
   ·simp
   ·exact List.mem_cons_of_mem _ (mkP_mem t (i + 1) b h)
  ·exact List.mem_cons_of_mem _ (mkP_mem t (i + 1) b h)
theorem nth_mem {α : Type} [Inhabited α] {l : List α} {k : Nat} (h : k < l.length) : nth l k ∈ l := by rw [nth_eq l k h]; exact List.getElem_mem h
theorem e_l12Make (v : List (List Row)) (hv : v.length ≤ 1048576) (hb : ∀ b ∈ v, b.length ≤ 1048576) : p_spec_l12Make v = some (mkP 0 v) := by
 unfold p_spec_l12Make
 obtain ⟨e, he, hs⟩ := lp.rule (body := p_spec_l12Make_b0 v) (fun σ => ∃ k : Nat, k ≤ v.length ∧ σ.2.2 = (k : Int) ∧ σ.1.length ≤ k ∧ σ.2.1.length ≤ k ∧ σ.1 ++ (mkP k (v.drop k)).1 = (mkP 0 v).1 ∧ σ.2.1 ++ (mkP k (v.drop k)).2 = (mkP 0 v).2) (fun σ => v.length - σ.2.2.toNat)
  (fun e => e = mkP 0 v) (fun σ hI => by
   obtain ⟨k, k1, k2, k3, k4, k5, k6⟩ := hI
   unfold p_spec_l12Make_b0
   rw [k2]
   by_cases hk : k < v.length
   ·left
    rw [drop_nth hk] at k5 k6
    have hi := i64S hk (by omega)
    have r1 : room (σ.1.length + 1) := by unfold room; omega
    have r2 : room (σ.2.1.length + 1) := by unfold room; omega
    have r3 : room (([] : List Row).length + (nth v k).length) := by have := hb _ (nth_mem hk); unfold room; simp; omega
    simp only [dlt hk, cond_true, gd.yes (ixN hk), Int.toNat_natCast, gd.yes hi, gd.yes r1, gd.yes r2, gd.yes r3]
    by_cases hz : 0 < (nth v k).length
    ·have hz' : (0 : Int) < ((nth v k).length : Int) := by omega
     simp only [mkP, hz, if_true] at k5 k6
     simp only [hz', decide_true, cond_true]
     exact ⟨_, rfl, ⟨k + 1, hk, rfl, by simp; omega, by simp; omega, by simpa using k5, by simpa using k6⟩, by simp only; omega⟩
    ·have hz' : ¬ (0 : Int) < ((nth v k).length : Int) := by omega
     simp only [mkP, hz, if_false] at k5 k6
     simp only [hz', decide_false, cond_false]
     exact ⟨_, rfl, ⟨k + 1, hk, rfl, by simp only; omega, by simp only; omega, k5, k6⟩, by simp only; omega⟩
   ·right
    have hk' : k = v.length := by omega
    subst hk'
    rw [List.drop_length] at k5 k6
    refine ⟨(σ.1, σ.2.1), by simp, ?_⟩
    simp [mkP] at k5 k6
    rw [k5, k6]) (s := (([] : List Int), ([] : List (List Row)), (0 : Int))) ⟨0, Nat.zero_le _, rfl, Nat.le_refl _, Nat.le_refl _, by simp, by simp⟩
 rw [he, hs]; rfl
def small (p : Part) : Prop := p.1.length ≤ 10 ∧ p.2.length ≤ 10 ∧ ∀ b ∈ p.2, b.length ≤ 2000
theorem small_ok {p : Part} (h : small p) : Dp.ok p := by
 obtain ⟨h1, h2, h3⟩ := h
 exact ⟨⟨Nat.le_trans h1 (by decide), fun _ _ => trivial⟩, ⟨Nat.le_trans h2 (by decide), fun i hi => ok_rows _ (Nat.le_trans (h3 _ (nth_mem hi)) (by decide))⟩⟩
theorem wRow {b : List Row} : Wt.w b = b.length := by show b.length + sumN b.length (fun i => Wt.w (nth b i)) = _; rw [sumN_zero (f := fun i => Wt.w (nth b i)) fun i _ => rfl]; rfl
theorem sumN_bound {n m : Nat} {f : Nat → Nat} (h : ∀ i, i < n → f i ≤ m) : sumN n f ≤ n * m := by
 induction n with
 | zero => simp [sumN]
 | succ n ih => have := ih fun i hi => h i (by omega); have := h n (by omega); simp only [sumN, Nat.add_mul]; omega
theorem small_w {p : Part} (h : small p) : Wt.w p ≤ 1048576 := by
 obtain ⟨h1, h2, h3⟩ := h
 have a1 : Wt.w p.1 = p.1.length := by show p.1.length + sumN p.1.length (fun i => Wt.w (nth p.1 i)) = _; rw [sumN_zero (f := fun i => Wt.w (nth p.1 i)) fun i _ => rfl]; rfl
 have a2 : sumN p.2.length (fun i => Wt.w (nth p.2 i)) ≤ p.2.length * 2000 := sumN_bound fun i hi => by rw [wRow]; exact h3 _ (nth_mem hi)
 have a3 : p.2.length * 2000 ≤ 10 * 2000 := Nat.mul_le_mul_right _ h2
 show Wt.w p.1 + (p.2.length + sumN p.2.length fun i => Wt.w (nth p.2 i)) ≤ _
 omega
theorem partOk_iff {p : Part} (h : partOk p = true) : p.1.length = p.2.length ∧ (∀ k, k < p.1.length → 1 ≤ nth p.1 k ∧ nth p.1 k ≤ 6) ∧ (∀ k, 0 < k → k < p.1.length → nth p.1 (k - 1) < nth p.1 k) ∧ (∀ k, k < p.2.length → 0 < (nth p.2 k).length ∧ blockOk (nth p.2 k) = true) := by
 unfold partOk at h
 simp only [Bool.and_eq_true, decide_eq_true_eq] at h
 obtain ⟨h1, h2⟩ := h
 have h2 := allN_iff.1 h2
 refine ⟨h1, fun k hk => ?_, fun k h0 hk => ?_, fun k hk => ?_⟩
 ·have := h2 k hk; simp only [partBad, inn, Bool.or_eq_false_iff, Bool.not_eq_false', Bool.and_eq_true, decide_eq_true_eq] at this; exact this.1.1.1
 ·have := h2 k hk; simp [partBad, h0] at this; exact this.1.1.2
 ·have := h2 k (by omega); simp [partBad] at this; exact ⟨List.length_pos_iff.2 this.2, this.1.2⟩
theorem ids_mono {p : Part} (h : ∀ k, 0 < k → k < p.1.length → nth p.1 (k - 1) < nth p.1 k) : ∀ {j k : Nat}, j < k → k < p.1.length → nth p.1 j < nth p.1 k := by
 intro j k hjk hk
 induction k with
 | zero => omega
 | succ k ih =>
  have h1 := h (k + 1) (by omega) hk
  rw [show k + 1 - 1 = k by omega] at h1
  rcases Nat.lt_or_eq_of_le (Nat.le_of_lt_succ hjk) with h' | rfl
  ·have := ih h' (by omega); omega
  ·exact h1
theorem rowsOf_pos {p : Part} (h : partOk p = true) (id : Int) : (0 ≤ place p.1 id) ↔ 0 < (rowsOf p id).length := by
 obtain ⟨h1, h2, h3, h4⟩ := partOk_iff h
 unfold rowsOf
 rcases place_lt (l := p.1) (id := id) with hp | ⟨k, hk, hp⟩
 ·rw [if_pos hp]; simp; omega
 ·rw [hp, if_neg (by omega)]
  have := (h4 k (by omega)).1
  simp; omega
def ins (r : Row) : List Row → List Row
 | [] => [r]
 | x :: t => if x.1 < r.1 then x :: ins r t else if x.1 = r.1 then r :: t else r :: x :: t
theorem ins_len (r : Row) : ∀ l : List Row, l.length ≤ (ins r l).length ∧ (ins r l).length ≤ l.length + 1
 | [] => by simp [ins]
 | x :: t => by
  have := ins_len r t
  unfold ins
  split
  ·simp; omega
  ·split <;> simp
theorem ins_pre (r : Row) : ∀ (p s : List Row), (∀ x ∈ p, x.1 < r.1) → ins r (p ++ s) = p ++ ins r s
 | [], s, _ => rfl
 | x :: p, s, h => by
  have hx := h x (by simp)
  rw [List.cons_append, ins, if_pos hx, ins_pre r p s fun y hy => h y (by simp [hy]), List.cons_append]
def Asc (l : List Row) : Prop := l.Pairwise fun x y => x.1 < y.1
theorem e_put (b : List Row) (r : Row) (hb : b.length ≤ 1048576) : p_impl_put b r = some (ins r b) := by
 unfold p_impl_put
 have r0 : room (([] : List Row).length + b.length) := by unfold room; simp; omega
 simp only [gd.yes r0, List.nil_append]
 have key : ∃ k : Nat, k ≤ b.length ∧ (∀ i, i < k → (nth b i).1 < r.1) ∧ (k < b.length → ¬ (nth b k).1 < r.1) ∧ lp (p_impl_put_b0 b r) 0 = some (k : Int) := by
  rcases lp_scan (body := p_impl_put_b0 b r) (fun k => (k : Int)) b.length (fun k => !decide ((nth b k).1 < r.1)) (b.length : Int) (fun k => (k : Int)) (fun k hk _ h => by
    have h' : (nth b k).1 < r.1 := by simpa using h
    unfold p_impl_put_b0; simp [hk, gd.yes (ixN hk), h', gd.yes (i64S hk (by omega))]) (fun k hk _ h => by
    have h' : ¬ (nth b k).1 < r.1 := by simpa using h
    unfold p_impl_put_b0; simp [hk, gd.yes (ixN hk), h']) (fun _ => by unfold p_impl_put_b0; simp) with ⟨h1, h2⟩ | ⟨h1, k, hk, hb', hn, h2⟩
  ·exact ⟨b.length, Nat.le_refl _, fun i hi => by simpa using allN_iff.1 h1 i hi, fun h => absurd h (Nat.lt_irrefl _), h2⟩
  ·exact ⟨k, Nat.le_of_lt hk, fun i hi => by simpa using hn i hi, fun _ => by simpa using hb', h2⟩
 obtain ⟨k, k1, k2, k3, k4⟩ := key
 rw [k4, bd_some]
 have hpre : ∀ x ∈ b.take k, x.1 < r.1 := fun x hx => by
  obtain ⟨i, hi, rfl⟩ := List.mem_iff_getElem.1 hx
  have hik : i < k := by simp at hi; omega
  have := k2 i hik
  rw [nth_eq b i (by omega)] at this
  simpa using this
 have hins : ins r b = b.take k ++ ins r (b.drop k) := by
  conv => lhs; rw [← List.take_append_drop k b]
  rw [ins_pre r _ _ hpre]
 by_cases hk : k < b.length
 ·have h3 := k3 hk
  rw [drop_nth hk, ins, if_neg h3] at hins
  simp only [dlt hk, cond_true, gd.yes (ixN hk), bd_some, Int.toNat_natCast]
  by_cases he : (nth b k).1 = r.1
  ·rw [if_pos he] at hins
   rw [hins, List.set_eq_take_append_cons_drop, if_pos hk]
   simp [he]
  ·rw [if_neg he] at hins
   have g1 : (0 : Int) ≤ (k : Int) ∧ (k : Int) ≤ (b.length : Int) := by omega
   have g2 : room (b.length + [r].length) := by unfold room; simp; omega
   have g3 : 0 < [r].length := by simp
   unfold p_slices_Insert_Row_Row p_insert
   have e1 : b.take k ++ [r] ++ b.drop k = ins r b := by rw [hins, drop_nth hk]; simp
   simp only [he, decide_false, cond_false, gd.yes g1, gd.yes g2, gd.yes g3, bd_some, Int.toNat_natCast, e1]
   have := ins_len r b
   have g4 : room (([] : List Row).length + (ins r b).length) := by unfold room; simp; omega
   simp only [gd.yes g4]
 ·have hk' : k = b.length := by omega
  subst hk'
  have g1 : (0 : Int) ≤ (b.length : Int) ∧ (b.length : Int) ≤ (b.length : Int) := by omega
  have g2 : room (b.length + [r].length) := by unfold room; simp; omega
  have g3 : 0 < [r].length := by simp
  rw [List.drop_length] at hins
  have e1 : b.take b.length ++ [r] ++ b.drop b.length = ins r b := by rw [hins, List.drop_length]; simp [ins]
  unfold p_slices_Insert_Row_Row p_insert
  simp only [Int.lt_irrefl, decide_false, cond_false, bd_some, gd.yes g1, gd.yes g2, gd.yes g3, Int.toNat_natCast, e1]
  have := ins_len r b
  have g4 : room (([] : List Row).length + (ins r b).length) := by unfold room; simp; omega
  simp only [gd.yes g4]
theorem l2_true (r : Row) : ∀ l : List Row, (∀ x ∈ l, r.1 < x.1) → l2 r true l = l
 | [], _ => rfl
 | x :: t, h => by
  have hx := h x (by simp)
  simp only [l2, Bool.not_true, Bool.false_and, Bool.false_eq_true, if_false, List.nil_append, Bool.true_or]
  rw [if_neg (by omega), l2_true r t fun y hy => h y (by simp [hy])]; rfl
theorem l2_ins (r : Row) : ∀ l : List Row, Asc l → l2 r false l = ins r l
 | [], _ => rfl
 | x :: t, h => by
  unfold Asc at h
  obtain ⟨h1, h2⟩ := List.pairwise_cons.1 h
  simp only [l2, ins, Bool.not_false, Bool.true_and, Bool.false_or]
  by_cases hle : r.1 ≤ x.1
  ·simp only [hle, decide_true, if_true]
   rw [if_neg (show ¬ x.1 < r.1 by omega), l2_true r t fun y hy => by have := h1 y hy; omega]
   by_cases he : x.1 = r.1 <;> simp [he]
  ·simp only [hle, decide_false, Bool.false_eq_true, if_false, List.nil_append]
   rw [if_pos (show x.1 < r.1 by omega), if_neg (show ¬ x.1 = r.1 by omega), l2_ins r t h2]; rfl
theorem ins_mem {r y : Row} : ∀ {l : List Row}, y ∈ ins r l → y = r ∨ y ∈ l
 | [], h => by simp [ins] at h; exact .inl h
 | x :: t, h => by
  unfold ins at h
  split at h
  ·rcases List.mem_cons.1 h with h | h
   ·exact .inr (by simp [h])
   ·exact (ins_mem h).imp id fun h => by simp [h]
  ·split at h
   ·rcases List.mem_cons.1 h with h | h
    ·exact .inl h
    ·exact .inr (by simp [h])
   ·rcases List.mem_cons.1 h with h | h
    ·exact .inl h
    ·exact .inr h
theorem ins_asc (r : Row) : ∀ {l : List Row}, Asc l → Asc (ins r l)
 | [], _ => by simp [ins, Asc]
 | x :: t, h => by
  unfold Asc at h ⊢
  obtain ⟨h1, h2⟩ := List.pairwise_cons.1 h
  unfold ins
  split
  ·rename_i hx
   refine List.pairwise_cons.2 ⟨fun y hy => ?_, ins_asc r h2⟩
   rcases ins_mem hy with rfl | hy
   ·exact hx
   ·exact h1 y hy
  ·split
   ·rename_i hx he
    exact List.pairwise_cons.2 ⟨fun y hy => by have := h1 y hy; omega, h2⟩
   ·rename_i hx he
    refine List.pairwise_cons.2 ⟨fun y hy => ?_, h⟩
    rcases List.mem_cons.1 hy with rfl | hy
    ·omega
    ·have := h1 y hy; omega
def mg (a b : List Row) : List Row := b.foldl (fun o r => ins r o) a
theorem mg_asc {a b : List Row} (ha : Asc a) : Asc (mg a b) := by
 unfold mg
 induction b generalizing a with
 | nil => exact ha
 | cons x b ih => exact ih (ins_asc x ha)
theorem mg_len : ∀ (b a : List Row), a.length ≤ (mg a b).length ∧ (mg a b).length ≤ a.length + b.length
 | [], a => by simp [mg]
 | x :: b, a => by
  have h1 := ins_len x a
  have h2 := mg_len b (ins x a)
  unfold mg at h2 ⊢
  simp only [List.foldl_cons, List.length_cons] at h2 ⊢
  omega
theorem mg_mem {y : Row} : ∀ {b a : List Row}, y ∈ mg a b → y ∈ a ∨ y ∈ b
 | [], a, h => .inl h
 | x :: b, a, h => by
  have h : y ∈ mg (ins x a) b := h
  rcases mg_mem h with h | h
  ·rcases ins_mem h with rfl | h
   ·exact .inr (by simp)
   ·exact .inl h
  ·exact .inr (by simp [h])
theorem mg_nil (a : List Row) : mg a [] = a := rfl
theorem nil_asc : Asc [] := List.Pairwise.nil
theorem blockOk_iff {b : List Row} : blockOk b = true ↔ (∀ x ∈ b, rowOk x = true) ∧ Asc b ∧ b.length ≤ 24 := by
 unfold blockOk
 rw [Bool.and_eq_true, allN_iff, decide_eq_true_eq]
 constructor
 ·rintro ⟨h1, h2⟩
  have hp : ∀ k, k < b.length → rowOk (nth b k) = true ∧ (0 < k → (nth b (k - 1)).1 < (nth b k).1) := fun k hk => by
   have := h1 k hk
   simp only [rowBad, Bool.or_eq_false_iff, Bool.not_eq_false', Bool.and_eq_false_iff, decide_eq_false_iff_not] at this
   exact ⟨this.1, fun h0 => by rcases this.2 with h | h <;> omega⟩
  refine ⟨fun x hx => ?_, ?_, by omega⟩
  ·obtain ⟨i, hi, rfl⟩ := List.mem_iff_getElem.1 hx
   rw [← nth_eq b i hi]; exact (hp i hi).1
  ·refine List.pairwise_iff_getElem.2 fun i j hi hj hij => ?_
   rw [← nth_eq b i hi, ← nth_eq b j hj]
   clear hi
   induction j with
   | zero => omega
   | succ j ih =>
    have h3 := (hp (j + 1) hj).2 (by omega)
    rw [show j + 1 - 1 = j by omega] at h3
    rcases Nat.lt_or_eq_of_le (Nat.le_of_lt_succ hij) with h' | rfl
    ·have := ih (by omega) h'; omega
    ·exact h3
 ·rintro ⟨h1, h2, h3⟩
  refine ⟨fun k hk => ?_, by omega⟩
  have r1 : rowOk (nth b k) = true := h1 _ (nth_mem hk)
  simp only [rowBad, r1, Bool.not_true, Bool.false_or, Bool.and_eq_false_iff, decide_eq_false_iff_not]
  rcases Nat.eq_zero_or_pos k with h0 | h0
  ·exact .inl (by omega)
  ·refine .inr ?_
   have := List.pairwise_iff_getElem.1 h2 (k - 1) k (by omega) hk (by omega)
   rw [← nth_eq b (k - 1) (by omega), ← nth_eq b k hk] at this
   omega
theorem mg_ok {a b : List Row} (ha : blockOk a = true) (hb : blockOk b = true) : blockOk (mg a b) = decide ((mg a b).length ≤ 24) := by
 obtain ⟨a1, a2, a3⟩ := blockOk_iff.1 ha
 obtain ⟨b1, b2, b3⟩ := blockOk_iff.1 hb
 cases h : blockOk (mg a b) with
 | true => simp [(blockOk_iff.1 h).2.2]
 | false =>
  symm
  rw [decide_eq_false_iff_not]
  intro hl
  have : blockOk (mg a b) = true := blockOk_iff.2 ⟨fun x hx => (mg_mem hx).elim (a1 x) (b1 x), mg_asc a2, hl⟩
  rw [h] at this; cases this
theorem foldl_take {α β : Type} [Inhabited α] (f : β → α → β) (s : β) (l : List α) (k : Nat) (hk : k < l.length) : (l.take (k + 1)).foldl f s = f ((l.take k).foldl f s) (nth l k) := by
 rw [nth_eq l k hk, List.take_succ_eq_append_getElem hk, List.foldl_append]; rfl
theorem mg_take (a b : List Row) (k : Nat) (hk : k < b.length) : mg a (b.take (k + 1)) = ins (nth b k) (mg a (b.take k)) := foldl_take _ _ _ _ hk
theorem mg_take_len (a b : List Row) (k : Nat) (hk : k ≤ b.length) : (mg a (b.take k)).length ≤ a.length + b.length := by
 have := (mg_len (b.take k) a).2
 rw [List.length_take] at this; omega
theorem e_spec_l2Merge (a b : List Row) (ha : a.length ≤ 100) (hb : b.length ≤ 100) (h : Asc a) : p_spec_l2Merge a b = some (mg a b) := by
 unfold p_spec_l2Merge
 have g1 : room (([] : List Row).length + a.length) := by unfold room; simp; omega
 simp only [gd.yes g1, List.nil_append]
 have := lp_for (body := p_spec_l2Merge_b0 b) (fun k => (mg a (b.take k), (k : Int))) b.length (mg a b) (fun k hk => by
  unfold p_spec_l2Merge_b0
  have hl := mg_take_len a b k (by omega)
  simp only [dlt hk, cond_true, gd.yes (ixN hk), Int.toNat_natCast, e_l2Put _ (nth b k) (show (mg a (b.take k)).length ≤ 1048576 by omega), l2_ins _ _ (mg_asc h), bd_some, gd.yes (i64S hk (by omega)), mg_take a b k hk]
  rfl) (by unfold p_spec_l2Merge_b0; simp)
 have e0 : lp (p_spec_l2Merge_b0 b) (a, 0) = some (mg a b) := this
 rw [e0]; rfl
theorem partOk_of {p : Part} (h1 : p.1.length = p.2.length) (h2 : ∀ x ∈ p.1, 1 ≤ x ∧ x ≤ 6) (h3 : p.1.Pairwise (· < ·)) (h4 : ∀ b ∈ p.2, 0 < b.length ∧ blockOk b = true) : partOk p = true := by
 unfold partOk
 rw [Bool.and_eq_true, decide_eq_true_eq, allN_iff]
 refine ⟨h1, fun k hk => ?_⟩
 have a1 := h2 _ (nth_mem hk)
 have a2 := h4 _ (nth_mem (show k < p.2.length by omega))
 have a3 : 0 < k → nth p.1 (k - 1) < nth p.1 k := fun h0 => by
  have := List.pairwise_iff_getElem.1 h3 (k - 1) k (by omega) hk (by omega)
  rwa [← nth_eq p.1 (k - 1) (by omega), ← nth_eq p.1 k hk] at this
 have a4 : inn 1 (nth p.1 k) 6 = true := by unfold inn; simp; omega
 have a5 : ¬ (nth p.2 k).length = 0 := by omega
 simp only [partBad, a4, a2.2, Bool.not_true, Bool.false_or, Bool.or_false]
 rw [decide_eq_false a5, Bool.or_false, Bool.and_eq_false_iff, decide_eq_false_iff_not, decide_eq_false_iff_not]
 rcases Nat.eq_zero_or_pos k with h0 | h0
 ·exact .inl (by omega)
 ·exact .inr (by have := a3 h0; omega)
theorem mkP_rng : ∀ (l : List (List Row)) (i : Nat), ∀ x ∈ (mkP i l).1, ∃ j, j < l.length ∧ x = ((i + j + 1 : Nat) : Int) ∧ 0 < (nth l j).length
 | [], i, x, h => by simp [mkP] at h
 | b :: t, i, x, h => by
  unfold mkP at h
  have step : x ∈ (mkP (i + 1) t).1 → ∃ j, j < (b :: t).length ∧ x = ((i + j + 1 : Nat) : Int) ∧ 0 < (nth (b :: t) j).length := fun h => by
   obtain ⟨j, h1, h2, h3⟩ := mkP_rng t (i + 1) x h
   exact ⟨j + 1, by simpa using h1, by rw [h2]; omega, h3⟩
  split at h
  ·rename_i hb
   rcases List.mem_cons.1 h with rfl | h
   ·exact ⟨0, by simp, rfl, hb⟩
   ·exact step h
  ·exact step h
theorem mkP_asc : ∀ (l : List (List Row)) (i : Nat), (mkP i l).1.Pairwise (· < ·)
 | [], i => by simp [mkP]
 | b :: t, i => by
  unfold mkP
  split
  ·refine List.pairwise_cons.2 ⟨fun x hx => ?_, mkP_asc t (i + 1)⟩
   obtain ⟨j, _, h, _⟩ := mkP_rng t (i + 1) x hx
   omega
  ·exact mkP_asc t (i + 1)
theorem mkP_pos : ∀ (l : List (List Row)) (i : Nat), ∀ b ∈ (mkP i l).2, 0 < b.length
 | [], i, x, h => by simp [mkP] at h
 | b :: t, i, x, h => by
  unfold mkP at h
  split at h
  ·rename_i hb
   rcases List.mem_cons.1 h with rfl | h
   ·exact hb
   ·exact mkP_pos t (i + 1) x h
  ·exact mkP_pos t (i + 1) x h
theorem mkP_has : ∀ (l : List (List Row)) (i j : Nat), j < l.length → 0 < (nth l j).length → ∃ k, k < (mkP i l).1.length ∧ nth (mkP i l).1 k = ((i + j + 1 : Nat) : Int) ∧ nth (mkP i l).2 k = nth l j
 | [], i, j, h, _ => by simp at h
 | b :: t, i, 0, h, hp => by
  have hb : 0 < b.length := hp
  unfold mkP
  rw [if_pos hb]
  exact ⟨0, by simp, rfl, rfl⟩
 | b :: t, i, j + 1, h, hp => by
  obtain ⟨k, h1, h2, h3⟩ := mkP_has t (i + 1) j (by simpa using h) hp
  unfold mkP
  split
  ·exact ⟨k + 1, by simpa using h1, by rw [show nth (_ :: (mkP (i + 1) t).1) (k + 1) = nth (mkP (i + 1) t).1 k from rfl, h2]; omega, h3⟩
  ·exact ⟨k, h1, by rw [h2]; omega, h3⟩
theorem rowsOf_at {p : Part} (hp : p.1.Pairwise (· < ·)) {k : Nat} (hk : k < p.1.length) : rowsOf p (nth p.1 k) = nth p.2 k := by
 unfold rowsOf
 rw [place_yes hk (by simp) fun i hi => by
  have := List.pairwise_iff_getElem.1 hp i k (by omega) hk hi
  rw [← nth_eq p.1 i (by omega), ← nth_eq p.1 k hk] at this
  simp; omega]
 rw [if_neg (by omega)]; rfl
theorem rowsOf_no {p : Part} {id : Int} (h : ∀ x ∈ p.1, x ≠ id) : rowsOf p id = [] := by
 unfold rowsOf
 rw [place_no (allN_iff.2 fun i hi => by simpa using h _ (nth_mem hi)), if_pos (by decide)]
theorem partOk_asc {p : Part} (h : partOk p = true) : p.1.Pairwise (· < ·) := List.pairwise_iff_getElem.2 fun i j hi hj hij => by
 rw [← nth_eq p.1 i hi, ← nth_eq p.1 j hj]; exact ids_mono (partOk_iff h).2.2.1 hij hj
theorem partOk_rng {p : Part} (h : partOk p = true) : ∀ x ∈ p.1, 1 ≤ x ∧ x ≤ 6 := fun x hx => by
 obtain ⟨i, hi, rfl⟩ := List.mem_iff_getElem.1 hx
 rw [← nth_eq p.1 i hi]; exact (partOk_iff h).2.1 i hi
theorem rowsOf_ok {p : Part} (h : partOk p = true) (id : Int) : blockOk (rowsOf p id) = true := by
 unfold rowsOf
 rcases place_lt (l := p.1) (id := id) with hp | ⟨k, hk, hp⟩
 ·rw [if_pos hp]; rfl
 ·rw [hp, if_neg (by omega)]; exact ((partOk_iff h).2.2.2 k (by have := (partOk_iff h).1; omega)).2
theorem rowsOf_out {p : Part} (h : partOk p = true) {id : Int} (hi : ¬ (1 ≤ id ∧ id ≤ 6)) : rowsOf p id = [] := rowsOf_no fun x hx e => hi (e ▸ partOk_rng h x hx)
theorem rowsOf_in {p : Part} (h : partOk p = true) {id : Int} : 0 < (rowsOf p id).length ↔ id ∈ p.1 := by
 rw [← rowsOf_pos h]
 constructor
 ·intro h0
  rcases place_lt (l := p.1) (id := id) with hp | ⟨k, hk, hp⟩
  ·omega
  ·refine Classical.byContradiction fun hn => ?_
   rw [place_no (allN_iff.2 fun i hi => by simp; exact fun e => hn (e ▸ nth_mem hi))] at h0
   omega
 ·intro hm
  obtain ⟨k, hk, rfl⟩ := List.mem_iff_getElem.1 hm
  rcases place_lt (l := p.1) (id := p.1[k]) with hp | ⟨k, hk, hp⟩
  ·exfalso
   have := rowsOf_at (partOk_asc h) hk
   unfold rowsOf at this
   rw [nth_eq p.1 k hk, if_pos hp] at this
   have h5 := ((partOk_iff h).2.2.2 k (by have := (partOk_iff h).1; omega)).1
   rw [← this] at h5
   simp at h5
  ·omega
theorem asc_ids : ∀ {a b : List Int}, a.Pairwise (· < ·) → b.Pairwise (· < ·) → (∀ x, x ∈ a ↔ x ∈ b) → a = b
 | [], [], _, _, _ => rfl
 | [], y :: b, _, _, h => by have := (h y).2 (by simp); simp at this
 | x :: a, [], _, _, h => by have := (h x).1 (by simp); simp at this
 | x :: a, y :: b, ha, hb, h => by
  obtain ⟨a1, a2⟩ := List.pairwise_cons.1 ha
  obtain ⟨b1, b2⟩ := List.pairwise_cons.1 hb
  have hxy : x = y := by
   rcases List.mem_cons.1 ((h x).1 (by simp)) with e | hx
   ·exact e
   ·rcases List.mem_cons.1 ((h y).2 (by simp)) with e | hy
    ·exact e.symm
    ·have h1 := b1 _ hx; have h2 := a1 _ hy; omega
  subst hxy
  congr 1
  refine asc_ids a2 b2 fun z => ?_
  have := h z
  simp only [List.mem_cons] at this
  constructor
  ·intro hz
   rcases this.1 (.inr hz) with e | hz'
   ·have := a1 z hz; omega
   ·exact hz'
  ·intro hz
   rcases this.2 (.inr hz) with e | hz'
   ·have := b1 z hz; omega
   ·exact hz'
theorem list_nth {α : Type} [Inhabited α] {a b : List α} (h : a.length = b.length) (k : ∀ i, i < a.length → nth a i = nth b i) : a = b := List.ext_getElem h fun i h1 h2 => by
 rw [← nth_eq a i h1, ← nth_eq b i h2]; exact k i h1
theorem part_ext {p q : Part} (hp : partOk p = true) (hq : partOk q = true) (h : ∀ id, rowsOf p id = rowsOf q id) : p = q := by
 have e1 : p.1 = q.1 := asc_ids (partOk_asc hp) (partOk_asc hq) fun x => by rw [← rowsOf_in hp, ← rowsOf_in hq, h]
 have l1 := (partOk_iff hp).1
 have l2 := (partOk_iff hq).1
 have l3 := congrArg List.length e1
 refine Prod.ext e1 (list_nth (by omega) fun i hi => ?_)
 have h1 := rowsOf_at (partOk_asc hp) (k := i) (by omega)
 have h2 := rowsOf_at (partOk_asc hq) (k := i) (by omega)
 rw [← h1, ← h2, ← e1]; exact h _
theorem partOk_small {p : Part} (h : partOk p = true) : small p := by
 obtain ⟨h1, h2, h3, h4⟩ := partOk_iff h
 have hk : ∀ k : Nat, k < p.1.length → ((k : Nat) : Int) + 1 ≤ nth p.1 k := fun k => by
  induction k with
  | zero => intro hk; have := (h2 0 hk).1; omega
  | succ k ih =>
   intro hk
   have := h3 (k + 1) (by omega) hk
   rw [show k + 1 - 1 = k by omega] at this
   have := ih (by omega); omega
 have hl : p.1.length ≤ 10 := by
  rcases Nat.lt_or_ge p.1.length 7 with h' | h'
  ·omega
  ·have := hk 6 (by omega); have := (h2 6 (by omega)).2; omega
 refine ⟨hl, by omega, fun b hb => ?_⟩
 obtain ⟨i, hi, rfl⟩ := List.mem_iff_getElem.1 hb
 have := (blockOk_iff.1 (h4 i hi).2).2.2
 rw [nth_eq p.2 i hi] at this; omega
def blk (a b : Part) (id : Int) : List Row := mg (rowsOf a id) (rowsOf b id)
def blks (a b : Part) (n : Nat) : List (List Row) := (List.range n).map fun i => blk a b ((i + 1 : Nat) : Int)
def pmP (a b : Part) : Part := mkP 0 (blks a b 6)
def pmOk (a b : Part) : Bool := partOk a && partOk b && allN 6 fun i => decide (24 < (blk a b ((i + 1 : Nat) : Int)).length)
def pm (a b : Part) : Part × Bool := if pmOk a b = true then (pmP a b, true) else (([], []), false)
theorem blks_len (a b : Part) (n : Nat) : (blks a b n).length = n := by simp [blks]
theorem blks_nth (a b : Part) {n i : Nat} (h : i < n) : nth (blks a b n) i = blk a b ((i + 1 : Nat) : Int) := by
 rw [nth_eq _ i (by rw [blks_len]; exact h)]; simp [blks]
theorem blks_succ (a b : Part) (n : Nat) : blks a b (n + 1) = blks a b n ++ [blk a b ((n + 1 : Nat) : Int)] := by simp [blks, List.range_succ]
theorem blk_out {a b : Part} (ha : partOk a = true) (hb : partOk b = true) {id : Int} (h : ¬ (1 ≤ id ∧ id ≤ 6)) : blk a b id = [] := by
 unfold blk; rw [rowsOf_out ha h, rowsOf_out hb h]; rfl
theorem pmOk_iff {a b : Part} : pmOk a b = true ↔ partOk a = true ∧ partOk b = true ∧ ∀ id, (blk a b id).length ≤ 24 := by
 unfold pmOk
 rw [Bool.and_eq_true, Bool.and_eq_true, allN_iff]
 constructor
 ·rintro ⟨⟨h1, h2⟩, h3⟩
  refine ⟨h1, h2, fun id => ?_⟩
  by_cases hi : 1 ≤ id ∧ id ≤ 6
  ·have := h3 (id - 1).toNat (by omega)
   rw [show (((id - 1).toNat + 1 : Nat) : Int) = id by omega] at this
   simpa using this
  ·rw [blk_out h1 h2 hi]; simp
 ·rintro ⟨h1, h2, h3⟩
  exact ⟨⟨h1, h2⟩, fun i hi => by simpa using h3 _⟩
theorem blk_ok {a b : Part} (ha : partOk a = true) (hb : partOk b = true) (id : Int) : blockOk (blk a b id) = decide ((blk a b id).length ≤ 24) := mg_ok (rowsOf_ok ha id) (rowsOf_ok hb id)
theorem blk_len {a b : Part} (ha : partOk a = true) (hb : partOk b = true) (id : Int) : (blk a b id).length ≤ 48 := by
 have h1 := (blockOk_iff.1 (rowsOf_ok ha id)).2.2
 have h2 := (blockOk_iff.1 (rowsOf_ok hb id)).2.2
 have := (mg_len (rowsOf b id) (rowsOf a id)).2
 unfold blk; omega
theorem pmP_rows {a b : Part} (ha : partOk a = true) (hb : partOk b = true) (id : Int) : rowsOf (pmP a b) id = blk a b id := by
 by_cases hi : 1 ≤ id ∧ id ≤ 6
 ·obtain ⟨j, hj, rfl⟩ : ∃ j : Nat, j < 6 ∧ id = ((j + 1 : Nat) : Int) := ⟨(id - 1).toNat, by omega, by omega⟩
  by_cases hp : 0 < (blk a b ((j + 1 : Nat) : Int)).length
  ·obtain ⟨k, h1, h2, h3⟩ := mkP_has (blks a b 6) 0 j (by rw [blks_len]; exact hj) (by rw [blks_nth a b hj]; exact hp)
   have := rowsOf_at (p := pmP a b) (mkP_asc _ _) h1
   have e : nth (pmP a b).1 k = ((j + 1 : Nat) : Int) := by rw [show nth (pmP a b).1 k = _ from h2]; omega
   rw [e] at this
   rw [this, show nth (pmP a b).2 k = _ from h3, blks_nth a b hj]
  ·rw [rowsOf_no fun x hx e => ?_]
   ·exact (List.length_eq_zero_iff.1 (by omega)).symm
   ·obtain ⟨j', g1, g2, g3⟩ := mkP_rng (blks a b 6) 0 x hx
    rw [blks_len] at g1
    have : j' = j := by omega
    subst this
    rw [blks_nth a b g1] at g3
    exact hp g3
 ·rw [blk_out ha hb hi]
  refine rowsOf_no fun x hx e => hi ?_
  obtain ⟨j', g1, g2, g3⟩ := mkP_rng (blks a b 6) 0 x hx
  rw [blks_len] at g1
  omega
theorem pmP_ok {a b : Part} (ha : partOk a = true) (hb : partOk b = true) : partOk (pmP a b) = allN 6 fun i => decide (24 < (blk a b ((i + 1 : Nat) : Int)).length) := by
 cases h : allN 6 fun i => decide (24 < (blk a b ((i + 1 : Nat) : Int)).length) with
 | true =>
  have h := allN_iff.1 h
  refine partOk_of (mkP_len _ _).1 (fun x hx => ?_) (mkP_asc _ _) fun y hy => ⟨mkP_pos _ _ y hy, ?_⟩
  ·obtain ⟨j', g1, g2, g3⟩ := mkP_rng (blks a b 6) 0 x hx
   rw [blks_len] at g1; omega
  ·have := mkP_mem _ _ y hy
   obtain ⟨i, hi, rfl⟩ := List.mem_map.1 this
   rw [blk_ok ha hb]
   have := h i (List.mem_range.1 hi)
   simpa using this
 | false =>
  obtain ⟨j, hj, h1, _⟩ := first_bad h
  have h1 : 24 < (blk a b ((j + 1 : Nat) : Int)).length := by simpa using h1
  cases h2 : partOk (pmP a b) with
  | false => rfl
  | true =>
   have := (blockOk_iff.1 (rowsOf_ok h2 ((j + 1 : Nat) : Int))).2.2
   rw [pmP_rows ha hb] at this
   omega
theorem pm_part {a b : Part} (h : pmOk a b = true) : partOk (pmP a b) = true := by
 obtain ⟨h1, h2, h3⟩ := pmOk_iff.1 h
 rw [pmP_ok h1 h2]
 exact allN_iff.2 fun i _ => by simpa using h3 _
theorem pm_true {a b : Part} (h : pmOk a b = true) : pm a b = (pmP a b, true) := by unfold pm; rw [if_pos h]
theorem pmP_eq {a b : Part} (ha : partOk a = true) (hb : partOk b = true) (id : Int) : rowsOf (pmP a b) id = mg (rowsOf a id) (rowsOf b id) := pmP_rows ha hb id
theorem rowsOf_z (id : Int) : rowsOf (([] : List Int), ([] : List (List Row))) id = [] := rowsOf_no (by simp)
theorem rowsOf_24 {p : Part} (h : partOk p = true) (id : Int) : (rowsOf p id).length ≤ 24 := (blockOk_iff.1 (rowsOf_ok h id)).2.2
theorem pm_none {a : Part} (ha : partOk a = true) : pm a ([], []) = (a, true) := by
 have hz : partOk (([] : List Int), ([] : List (List Row))) = true := rfl
 have hk : pmOk a ([], []) = true := pmOk_iff.2 ⟨ha, hz, fun id => by unfold blk; rw [rowsOf_z, mg_nil]; exact rowsOf_24 ha id⟩
 rw [pm_true hk, part_ext (pm_part hk) ha fun id => by rw [pmP_eq ha hz, rowsOf_z, mg_nil]]
theorem ba_one {x : ByteArray} (h : x.size = 1) : x = ⟨#[sb x 0]⟩ := by
 have : x.data.size = 1 := h
 apply ByteArray.ext
 apply Array.ext
 ·rw [this]; rfl
 ·intro i h1 h2
  have hi : i = 0 := by omega
  subst hi
  simp [sb, this]
theorem sl_one (a b : UInt8) : sless ⟨#[a]⟩ ⟨#[b]⟩ = decide (a < b) := by
 rw [sless_lt]
 have e : ∀ c : UInt8, (⟨#[c]⟩ : ByteArray).toList = [c] := fun c => by simp [ByteArray.toList, ByteArray.toList.loop, ByteArray.size, ByteArray.get!]
 have h2 : ([a] < [b]) ↔ a < b := by rw [List.cons_lt_cons_iff]; simp
 rw [e, e]
 exact decide_eq_decide.2 h2
def tagB (t : Tag) : Bool := decide (t.1.size = 1) && (decide (t.2.size = 1) && (inn 97 ((sb t.1 0).toNat : Int) 100 && inn 112 ((sb t.2 0).toNat : Int) 122))
theorem e_spec_l3Tag (t : Tag) : p_spec_l3Tag t = some (tagB t) := by
 unfold p_spec_l3Tag tagB
 have c1 : decide ((t.1.size : Int) = 1) = decide (t.1.size = 1) := decide_eq_decide.2 (by omega)
 have c2 : decide ((t.2.size : Int) = 1) = decide (t.2.size = 1) := decide_eq_decide.2 (by omega)
 rw [c1, c2]
 by_cases h1 : t.1.size = 1
 ·by_cases h2 : t.2.size = 1
  ·simp only [h1, h2, decide_true, cond_true, gd.yes (show ix 0 1 by unfold ix; omega), e_spec_l6In, bd_some, Bool.true_and]
   cases inn 97 ((sb t.1 0).toNat : Int) 100 <;> simp
  ·simp [h1, h2]
 ·simp [h1]
theorem rng_one {x : ByteArray} (h : x.size = 1) (lo hi : UInt8) : (!sless x ⟨#[lo]⟩ && (sless x ⟨#[hi]⟩ || decide (x = ⟨#[hi]⟩))) = inn (lo.toNat : Int) ((sb x 0).toNat : Int) (hi.toNat : Int) := by
 have hx := ba_one h
 generalize sb x 0 = c at *
 subst hx
 rw [sl_one, sl_one]
 have e1 : (!decide (c < lo)) = decide ((lo.toNat : Int) ≤ (c.toNat : Int)) := by
  by_cases k : c < lo
  ·have : c.toNat < lo.toNat := UInt8.lt_iff_toNat_lt.1 k
   simp [k]; omega
  ·have : ¬ c.toNat < lo.toNat := fun q => k (UInt8.lt_iff_toNat_lt.2 q)
   simp [k]; omega
 have e2 : (decide (c < hi) || decide ((⟨#[c]⟩ : ByteArray) = ⟨#[hi]⟩)) = decide ((c.toNat : Int) ≤ (hi.toNat : Int)) := by
  by_cases k : c < hi
  ·have : c.toNat < hi.toNat := UInt8.lt_iff_toNat_lt.1 k
   simp [k]; omega
  ·have h3 : ¬ c.toNat < hi.toNat := fun q => k (UInt8.lt_iff_toNat_lt.2 q)
   by_cases e : c = hi
   ·subst e; simp
   ·have h4 : c.toNat ≠ hi.toNat := fun q => e (UInt8.toNat_inj.1 q)
    have h5 : (⟨#[c]⟩ : ByteArray) ≠ ⟨#[hi]⟩ := fun q => e (by
     have := congrArg (fun b : ByteArray => b.data.toList) q
     simpa using this)
    simp [k, h5]; omega
 rw [e1, e2]; rfl
theorem e_impl_tagOk (t : Tag) : p_impl_tagOk t = some (tagB t) := by
 unfold p_impl_tagOk tagB
 have c1 : decide ((t.1.size : Int) = 1) = decide (t.1.size = 1) := decide_eq_decide.2 (by omega)
 have c2 : decide ((t.2.size : Int) = 1) = decide (t.2.size = 1) := decide_eq_decide.2 (by omega)
 rw [c1, c2]
 by_cases h1 : t.1.size = 1
 ·have r1 := rng_one h1 97 100
  rw [show ((97 : UInt8).toNat : Int) = 97 from rfl, show ((100 : UInt8).toNat : Int) = 100 from rfl] at r1
  rw [← r1]
  by_cases h2 : t.2.size = 1
  ·have r2 := rng_one h2 112 122
   rw [show ((112 : UInt8).toNat : Int) = 112 from rfl, show ((122 : UInt8).toNat : Int) = 122 from rfl] at r2
   rw [← r2]
   simp only [h1, h2, decide_true, cond_true, Bool.true_and]
   cases (!sless t.1 ⟨#[97]⟩) <;> cases (sless t.1 ⟨#[100]⟩ || decide (t.1 = ⟨#[100]⟩)) <;> cases (!sless t.2 ⟨#[112]⟩) <;> rfl
  ·simp only [h1, h2, decide_true, decide_false, cond_true, cond_false, Bool.true_and, Bool.false_and]
   cases (!sless t.1 ⟨#[97]⟩) <;> cases (sless t.1 ⟨#[100]⟩ || decide (t.1 = ⟨#[100]⟩)) <;> rfl
 ·simp [h1]
def nameBad (n : List Tag) (k : Nat) : Bool := !tagB (nth n k) || (decide (0 < k) && !sless (nth n (k - 1)).1 (nth n k).1)
def nameOk (n : List Tag) : Bool := allN n.length (nameBad n) && inn 1 (n.length : Int) 3
theorem e_impl_NameOk (n : List Tag) (hn : n.length ≤ maxLen) : p_impl_NameOk n = some (nameOk n) := by
 have hn' : n.length ≤ 9223372036854775807 := hn
 have hr : ∀ k, k < n.length → p_impl_NameOk_b0 n (k : Int) = some (if nameBad n k then .inr (.inr false) else .inl ((k + 1 : Nat) : Int)) := fun k hk => by
  unfold p_impl_NameOk_b0 nameBad
  simp only [dlt hk, cond_true, gd.yes (ixN hk), e_impl_tagOk, bd_some, Int.toNat_natCast, gd.yes (i64S hk hn')]
  cases h1 : tagB (nth n k) with
  | false => simp
  | true =>
   simp only [Bool.not_true, cond_false, Bool.false_or]
   by_cases h0 : 0 < k
   ·have h0' : (0 : Int) < k := by omega
    have e1 : (k : Int) - 1 = ((k - 1 : Nat) : Int) := by omega
    have hi : I64 ((k - 1 : Nat) : Int) := by unfold I64; omega
    simp only [h0, h0', decide_true, cond_true, e1, gd.yes hi, gd.yes (ixN (show k - 1 < n.length by omega)), Int.toNat_natCast, bd_some, Bool.true_and]
    cases sless (nth n (k - 1)).1 (nth n k).1 <;> simp
   ·simp [h0]
 unfold p_impl_NameOk nameOk
 rcases lp_scan (body := p_impl_NameOk_b0 n) (fun k => (k : Int)) n.length (nameBad n) (.inl ()) (fun _ => .inr false) (fun k hk _ h => by simp [hr k hk, h]) (fun k hk _ h => by simp [hr k hk, h]) (fun _ => by unfold p_impl_NameOk_b0; simp) with ⟨h1, h2⟩ | ⟨h1, k, _, _, _, h2⟩
 ·rw [show (lp (p_impl_NameOk_b0 n) 0) = _ from h2, h1]; simp [sw, e_impl_within]
 ·rw [show (lp (p_impl_NameOk_b0 n) 0) = _ from h2, h1]; simp [sw]
theorem e_spec_NameOk (n : List Tag) (hn : n.length ≤ maxLen) : p_spec_NameOk n = some (nameOk n) := by
 have hn' : n.length ≤ 9223372036854775807 := hn
 have hr : ∀ k, k < n.length → p_spec_NameOk_b0 n (k : Int) = some (if nameBad n k then .inr (.inr false) else .inl ((k + 1 : Nat) : Int)) := fun k hk => by
  unfold p_spec_NameOk_b0 nameBad
  simp only [dlt hk, cond_true, gd.yes (ixN hk), e_spec_l3Tag, bd_some, Int.toNat_natCast, gd.yes (i64S hk hn')]
  cases h1 : tagB (nth n k) with
  | false => simp
  | true =>
   simp only [Bool.not_true, cond_false, Bool.false_or]
   by_cases h0 : 0 < k
   ·have h0' : (0 : Int) < k := by omega
    have e1 : (k : Int) - 1 = ((k - 1 : Nat) : Int) := by omega
    have hi : I64 ((k - 1 : Nat) : Int) := by unfold I64; omega
    simp only [h0, h0', decide_true, cond_true, e1, gd.yes hi, gd.yes (ixN (show k - 1 < n.length by omega)), Int.toNat_natCast, bd_some, Bool.true_and]
    cases sless (nth n (k - 1)).1 (nth n k).1 <;> simp
   ·simp [h0]
 unfold p_spec_NameOk nameOk
 rcases lp_scan (body := p_spec_NameOk_b0 n) (fun k => (k : Int)) n.length (nameBad n) (.inl ()) (fun _ => .inr false) (fun k hk _ h => by simp [hr k hk, h]) (fun k hk _ h => by simp [hr k hk, h]) (fun _ => by unfold p_spec_NameOk_b0; simp) with ⟨h1, h2⟩ | ⟨h1, k, _, _, _, h2⟩
 ·rw [show (lp (p_spec_NameOk_b0 n) 0) = _ from h2, h1]; simp [sw, e_spec_l6In]
 ·rw [show (lp (p_spec_NameOk_b0 n) 0) = _ from h2, h1]; simp [sw]
theorem allN_mem {α : Type} [Inhabited α] {l : List α} {p : α → Bool} : allN l.length (fun k => p (nth l k)) = true ↔ ∀ x ∈ l, p x = false := by
 rw [allN_iff]
 constructor
 ·intro h x hx
  obtain ⟨i, hi, rfl⟩ := List.mem_iff_getElem.1 hx
  have := h i hi
  rwa [nth_eq l i hi] at this
 ·intro h i hi
  rw [nth_eq l i hi]
  exact h _ (List.getElem_mem hi)
def hasT (n : List Tag) (t : Tag) : Bool := n.any fun x => decide (x = t)
theorem hasT_iff {n : List Tag} {t : Tag} : hasT n t = true ↔ t ∈ n := by simp [hasT]
theorem hasT_no {n : List Tag} {t : Tag} (h : t ∉ n) : hasT n t = false := by
 cases hc : hasT n t with
 | false => rfl
 | true => exact absurd (hasT_iff.1 hc) h
theorem e_spec_l3Has (n : List Tag) (t : Tag) (hn : n.length ≤ maxLen) : p_spec_l3Has n t = some (hasT n t) := by
 have hn' : n.length ≤ 9223372036854775807 := hn
 have hr : ∀ k, k < n.length → p_spec_l3Has_b0 n t (k : Int) = some (if decide (nth n k = t) then .inr (.inr true) else .inl ((k + 1 : Nat) : Int)) := fun k hk => by
  unfold p_spec_l3Has_b0
  simp only [dlt hk, cond_true, gd.yes (ixN hk), Int.toNat_natCast, gd.yes (i64S hk hn')]
  by_cases h : nth n k = t <;> simp [h]
 unfold p_spec_l3Has
 rcases lp_scan (body := p_spec_l3Has_b0 n t) (fun k => (k : Int)) n.length (fun k => decide (nth n k = t)) (.inl ()) (fun _ => .inr true) (fun k hk _ h => by simp [hr k hk, of_decide_eq_false h]) (fun k hk _ h => by simp [hr k hk, of_decide_eq_true h]) (fun _ => by unfold p_spec_l3Has_b0; simp) with ⟨h1, h2⟩ | ⟨h1, k, hk, hb, _, h2⟩
 ·rw [show (lp (p_spec_l3Has_b0 n t) 0) = _ from h2]
  have : t ∉ n := fun ht => by
   have := (allN_mem (l := n) (p := fun x => decide (x = t))).1 h1 t ht
   simp at this
  simp [sw, hasT_no this]
 ·rw [show (lp (p_spec_l3Has_b0 n t) 0) = _ from h2]
  have : t ∈ n := (of_decide_eq_true hb) ▸ nth_mem hk
  simp [sw, hasT_iff.2 this]
theorem e_impl_cloneNames (names : List (List Tag)) (h1 : names.length ≤ 4194304) (h2 : ∀ n ∈ names, n.length ≤ 4194304) : p_impl_cloneNames names = some names := by
 unfold p_impl_cloneNames
 rw [show (([] : List (List Tag)), (0 : Int)) = (names.take 0, ((0 : Nat) : Int)) from rfl, lp_for (fun k => (names.take k, (k : Int))) names.length names (fun k hk => by
  unfold p_impl_cloneNames_b0
  have hl := h2 _ (nth_mem hk)
  simp only [dlt hk, cond_true, gd.yes (ixN hk), Int.toNat_natCast, List.length_nil, List.nil_append, List.length_take]
  rw [gd.yes (by unfold room; omega), gd.yes (by unfold room; omega), gd.yes (by unfold I64; omega), take_succ_nth hk]
  rfl) (by unfold p_impl_cloneNames_b0; simp)]
 rfl
theorem e_spec_l11Names (names : List (List Tag)) (h1 : names.length ≤ 4194304) (h2 : ∀ n ∈ names, n.length ≤ 4194304) : p_spec_l11Names names = some names := by
 unfold p_spec_l11Names
 rw [show (([] : List (List Tag)), (0 : Int)) = (names.take 0, ((0 : Nat) : Int)) from rfl, lp_for (fun k => (names.take k, (k : Int))) names.length names (fun k hk => by
  unfold p_spec_l11Names_b0
  have hl := h2 _ (nth_mem hk)
  simp only [dlt hk, cond_true, gd.yes (ixN hk), Int.toNat_natCast, List.length_nil, List.nil_append, List.length_take]
  rw [gd.yes (by unfold room; omega), gd.yes (by unfold room; omega), gd.yes (by unfold I64; omega), take_succ_nth hk]
  rfl) (by unfold p_spec_l11Names_b0; simp)]
 rfl
def addT : List Post → Tag → Int → List Post
 | [], t, i => [(t, [i])]
 | p :: P, t, i => if p.1 = t then (p.1, p.2 ++ [i]) :: P else p :: addT P t i
def addN (P : List Post) (n : List Tag) (i : Int) : List Post := n.foldl (fun P t => addT P t i) P
def postsF (names : List (List Tag)) : Nat → List Post
 | 0 => []
 | m + 1 => addN (postsF names m) (nth names m) ((m : Int) + 1)
def indexP (names : List (List Tag)) : Index := (names, (postsF names names.length).mergeSort leP)
theorem addT_old (P : List Post) (t : Tag) (i : Int) (h : t ∈ P.map (·.1)) : (addT P t i).map (·.1) = P.map (·.1) := by
 induction P with
 | nil => cases h
 | cons p P ih =>
  unfold addT
  by_cases e : p.1 = t
  ·simp [e]
  ·rw [if_neg e, List.map_cons, List.map_cons, ih]
   rcases List.mem_cons.1 h with h | h
   ·exact absurd h.symm e
   ·exact h
theorem addT_new (P : List Post) (t : Tag) (i : Int) (h : t ∉ P.map (·.1)) : (addT P t i).map (·.1) = P.map (·.1) ++ [t] := by
 induction P with
 | nil => rfl
 | cons p P ih =>
  unfold addT
  have e : p.1 ≠ t := fun e => h (by rw [List.map_cons, e]; exact List.mem_cons_self ..)
  rw [if_neg e, List.map_cons, List.map_cons, ih (fun q => h (by rw [List.map_cons]; exact List.mem_cons_of_mem _ q))]
  rfl
theorem addT_nodup {P : List Post} (h : (P.map (·.1)).Nodup) (t : Tag) (i : Int) : ((addT P t i).map (·.1)).Nodup := by
 by_cases hm : t ∈ P.map (·.1)
 ·rw [addT_old P t i hm]; exact h
 ·rw [addT_new P t i hm, List.nodup_append]
  exact ⟨h, by simp, fun a ha b hb => by simp at hb; subst hb; exact fun e => hm (e ▸ ha)⟩
theorem addN_cons (P : List Post) (t : Tag) (n : List Tag) (i : Int) : addN P (t :: n) i = addN (addT P t i) n i := rfl
theorem postsF_succ (names : List (List Tag)) (m : Nat) : postsF names (m + 1) = addN (postsF names m) (nth names m) ((m : Int) + 1) := rfl
theorem addN_nodup (n : List Tag) (i : Int) : ∀ {P : List Post}, (P.map (·.1)).Nodup → ((addN P n i).map (·.1)).Nodup := by
 unfold addN
 induction n with
 | nil => intro P h; exact h
 | cons t n ih => intro P h; exact ih (addT_nodup h t i)
theorem postsF_nodup (names : List (List Tag)) : ∀ m, ((postsF names m).map (·.1)).Nodup
 | 0 => by simp [postsF]
 | m + 1 => addN_nodup _ _ (postsF_nodup names m)
def bnd (P : List Post) (c : Nat) : Prop := P.length ≤ c ∧ ∀ p ∈ P, p.2.length ≤ c
theorem bnd_addT {P : List Post} {c : Nat} (h : bnd P c) (t : Tag) (i : Int) : bnd (addT P t i) (c + 1) := by
 obtain ⟨h1, h2⟩ := h
 have len : (addT P t i).length ≤ P.length + 1 := by
  clear h1 h2
  induction P with
  | nil => simp [addT]
  | cons p P ih => unfold addT; split <;> simp <;> omega
 refine ⟨by omega, ?_⟩
 clear len h1
 induction P with
 | nil => intro p hp; simp [addT] at hp; subst hp; simp
 | cons q P ih =>
  intro p hp
  unfold addT at hp
  split at hp
  ·rcases List.mem_cons.1 hp with rfl | hp
   ·have := h2 q (List.mem_cons_self ..)
    simp; omega
   ·have := h2 p (List.mem_cons_of_mem _ hp); omega
  ·rcases List.mem_cons.1 hp with rfl | hp
   ·have := h2 p (List.mem_cons_self ..); omega
   ·exact ih (fun r hr => h2 r (List.mem_cons_of_mem _ hr)) p hp
theorem addT_none {P : List Post} {t : Tag} (i : Int) (h : ∀ k, k < P.length → (nth P k).1 ≠ t) : addT P t i = P ++ [(t, [i])] := by
 induction P with
 | nil => rfl
 | cons p P ih =>
  have h0 : p.1 ≠ t := h 0 (by simp)
  unfold addT
  rw [if_neg h0, ih (fun k hk => h (k + 1) (by simp; omega))]; rfl
theorem addT_some {P : List Post} {t : Tag} (i : Int) : ∀ {k : Nat}, k < P.length → (nth P k).1 = t → (∀ j, j < k → (nth P j).1 ≠ t) → addT P t i = P.set k ((nth P k).1, (nth P k).2 ++ [i]) := by
 induction P with
 | nil => intro k hk; simp at hk
 | cons p P ih =>
  intro k hk he hn
  cases k with
  | zero =>
   have he : p.1 = t := he
   unfold addT; rw [if_pos he]; rfl
  | succ k =>
   have h0 : p.1 ≠ t := hn 0 (by omega)
   unfold addT
   rw [if_neg h0, ih (k := k) (by simpa using hk) he (fun j hj => hn (j + 1) (by omega))]
   rfl
theorem e_IndexFunc1 (P : List Post) (t : Tag) (hP : P.length ≤ 4194304) : (∃ k : Nat, k < P.length ∧ (nth P k).1 = t ∧ (∀ j, j < k → (nth P j).1 ≠ t) ∧ p_slices_IndexFunc_Post_Post_indexOf_1 P t = some (k : Int)) ∨ ((∀ k, k < P.length → (nth P k).1 ≠ t) ∧ p_slices_IndexFunc_Post_Post_indexOf_1 P t = some (-1)) := by
 have hr : ∀ k, k < P.length → p_slices_IndexFunc_Post_Post_indexOf_1_b0 P t (k : Int) = some (if decide ((nth P k).1 = t) then .inr (.inr (k : Int)) else .inl ((k + 1 : Nat) : Int)) := fun k hk => by
  unfold p_slices_IndexFunc_Post_Post_indexOf_1_b0 p_impl_indexOf_1
  simp only [dlt hk, cond_true, gd.yes (ixN hk), Int.toNat_natCast, bd_some, gd.yes (i64S hk (by omega))]
  by_cases h : (nth P k).1 = t <;> simp [h]
 unfold p_slices_IndexFunc_Post_Post_indexOf_1
 rcases lp_scan (body := p_slices_IndexFunc_Post_Post_indexOf_1_b0 P t) (fun k => (k : Int)) P.length (fun k => decide ((nth P k).1 = t)) (.inl ()) (fun k => .inr (k : Int)) (fun k hk _ h => by simp [hr k hk, of_decide_eq_false h]) (fun k hk _ h => by rw [hr k hk, if_pos h]) (fun _ => by unfold p_slices_IndexFunc_Post_Post_indexOf_1_b0; simp) with ⟨h1, h2⟩ | ⟨h1, k, hk, hb, hn, h2⟩
 ·exact .inr ⟨fun k hk => of_decide_eq_false (allN_iff.1 h1 k hk), by rw [show (lp (p_slices_IndexFunc_Post_Post_indexOf_1_b0 P t) 0) = _ from h2]; rfl⟩
 ·exact .inl ⟨k, hk, of_decide_eq_true hb, fun j hj => of_decide_eq_false (hn j hj), by rw [show (lp (p_slices_IndexFunc_Post_Post_indexOf_1_b0 P t) 0) = _ from h2]; rfl⟩
theorem e_tags (names : List (List Tag)) (Q : List Post) (m : Nat) (hm : m < 4194304) (c : Nat) (n : List Tag) (hn : n = nth names m) (hc : c + n.length ≤ 4194304) : ∀ (r j : Nat) (P : List Post), j + r = n.length → bnd P (c + j) →
  lp (p_impl_indexOf_b1 names (Q, (m : Int))) (P, (j : Int)) = some (addN P (n.drop j) ((m : Int) + 1)) ∧ bnd (addN P (n.drop j) ((m : Int) + 1)) (c + n.length)
 | 0, j, P, hj, hb => by
  have : n.drop j = [] := List.drop_eq_nil_of_le (by omega)
  rw [this]
  refine ⟨lp.stop ?_, by rw [show c + n.length = c + j by omega]; exact hb⟩
  unfold p_impl_indexOf_b1
  simp only [Int.toNat_natCast, ← hn]
  rw [decide_eq_false (show ¬ ((j : Int) < (n.length : Int)) by omega)]; rfl
 | r + 1, j, P, hj, hb => by
  have hjn : j < n.length := by omega
  have hd : n.drop j = nth n j :: n.drop (j + 1) := by rw [nth_eq n j hjn]; exact List.drop_eq_getElem_cons hjn
  have hP1 := hb.1
  have step : p_impl_indexOf_b1 names (Q, (m : Int)) (P, (j : Int)) = some (.inl (addT P (nth n j) ((m : Int) + 1), ((j + 1 : Nat) : Int))) := by
   unfold p_impl_indexOf_b1
   simp only [Int.toNat_natCast, ← hn, dlt hjn, cond_true, gd.yes (ixN hjn)]
   rcases e_IndexFunc1 P (nth n j) (by omega) with ⟨k, hk, he, hno, hf⟩ | ⟨hno, hf⟩
   ·have hl := hb.2 _ (nth_mem hk)
    rw [hf]
    simp only [bd_some]
    rw [decide_eq_false (show ¬ ((k : Int) < 0) by omega)]
    rw [cond_false, gd.yes (ixN hk)]
    simp only [Int.toNat_natCast]
    rw [gd.yes (by unfold I64; omega), gd.yes (by unfold room; omega), gd.yes (by unfold I64; omega), addT_some _ hk he hno]
    rfl
   ·rw [hf]
    simp only [bd_some]
    rw [decide_eq_true (show ((-1 : Int) < 0) by omega)]
    have e1 : nth (P ++ [(nth n j, ([] : List Int))]) P.length = (nth n j, []) := nth_append_new
    simp only [cond_true, e1, List.nil_append, List.length_nil]
    rw [gd.yes (by unfold room; omega), gd.yes (by unfold ix; simp; omega), gd.yes (by unfold I64; omega), gd.yes (by unfold room; omega), gd.yes (by unfold I64; omega), addT_none _ hno]
    simp
  rw [lp.step step, hd, addN_cons]
  exact e_tags names Q m hm c n hn hc r (j + 1) _ (by omega) (by rw [← Nat.add_assoc]; exact bnd_addT hb _ _)
theorem e_posts (names : List (List Tag)) (hN : names.length ≤ 4194304) (hs : sumN names.length (fun i => (nth names i).length) ≤ 4194304) : ∀ m, m ≤ names.length → bnd (postsF names m) (sumN m fun i => (nth names i).length) ∧ lp (p_impl_indexOf_b0 names) (([] : List Post), (0 : Int)) = lp (p_impl_indexOf_b0 names) (postsF names m, (m : Int))
 | 0, _ => ⟨⟨by simp [postsF], fun p hp => by simp [postsF] at hp⟩, rfl⟩
 | m + 1, hm => by
  obtain ⟨b, e⟩ := e_posts names hN hs m (by omega)
  have hmn : m < names.length := by omega
  have hle : sumN m (fun i => (nth names i).length) + (nth names m).length ≤ sumN names.length (fun i => (nth names i).length) := sumN_lt hmn
  obtain ⟨t1, t2⟩ := e_tags names (postsF names m) m (by omega) _ (nth names m) rfl (by omega) (nth names m).length 0 (postsF names m) (by omega) b
  rw [List.drop_zero] at t1 t2
  refine ⟨t2, ?_⟩
  rw [e, lp.step (s' := (postsF names (m + 1), ((m + 1 : Nat) : Int)))]
  rw [postsF_succ]
  unfold p_impl_indexOf_b0
  rw [show ((0 : Nat) : Int) = 0 from rfl] at t1
  rw [dlt hmn, cond_true, gd.yes (ixN hmn), bd.yes t1]
  rw [gd.yes (by unfold I64; omega), addI]
theorem e_indexOf (names : List (List Tag)) (hN : names.length ≤ 4194304) (hs : sumN names.length (fun i => (nth names i).length) ≤ 4194304) : p_impl_indexOf names = some (indexP names) := by
 have hn : ∀ n ∈ names, n.length ≤ 4194304 := fun n h => by
  obtain ⟨i, hi, rfl⟩ := List.mem_iff_getElem.1 h
  have := sumN_get (f := fun i => (nth names i).length) hi
  simp only [nth_eq names i hi] at this
  omega
 obtain ⟨b, e⟩ := e_posts names hN hs names.length (Nat.le_refl _)
 unfold p_impl_indexOf
 rw [e_impl_cloneNames names hN hn]
 simp only [bd_some]
 rw [e, lp.stop (e := postsF names names.length) (by
  unfold p_impl_indexOf_b0
  rw [decide_eq_false (show ¬ ((names.length : Int) < (names.length : Int)) by omega)]; rfl)]
 simp only [bd_some]
 have hl := b.1
 unfold p_slices_SortFunc_Post_Post_indexOf_2 sortP
 rw [gd.yes (show room (postsF names names.length).length by unfold room; omega), gd.yes (postsF_nodup names _)]
 rfl
def textK (n : List Tag) : Nat → ByteArray
 | 0 => ⟨#[]⟩
 | m + 1 => (((if 0 < m then textK n m ++ ⟨#[44]⟩ else textK n m) ++ (nth n m).1) ++ ⟨#[61]⟩) ++ (nth n m).2
def textN (n : List Tag) : ByteArray := textK n n.length
theorem textK_size (n : List Tag) : ∀ m, (textK n m).size ≤ 2 * m + sumN m fun i => (nth n i).1.size + (nth n i).2.size
 | 0 => Nat.zero_le _
 | m + 1 => by
  have ih := textK_size n m
  show ((((if 0 < m then textK n m ++ ⟨#[44]⟩ else textK n m) ++ (nth n m).1) ++ ⟨#[61]⟩) ++ (nth n m).2).size ≤ 2 * (m + 1) + (sumN m (fun i => (nth n i).1.size + (nth n i).2.size) + ((nth n m).1.size + (nth n m).2.size))
  have e1 : ((⟨#[61]⟩ : ByteArray)).size = 1 := rfl
  have e2 : ((⟨#[44]⟩ : ByteArray)).size = 1 := rfl
  split
  ·simp only [ByteArray.size_append, e1, e2]; omega
  ·simp only [ByteArray.size_append, e1]; omega
theorem textK_pos {n : List Tag} {m : Nat} (h : 0 < m) : textK n (m + 1) = (((textK n m ++ ⟨#[44]⟩) ++ (nth n m).1) ++ ⟨#[61]⟩) ++ (nth n m).2 := by
 show (((if 0 < m then textK n m ++ ⟨#[44]⟩ else textK n m) ++ (nth n m).1) ++ ⟨#[61]⟩) ++ (nth n m).2 = _
 rw [if_pos h]
theorem textK_neg {n : List Tag} {m : Nat} (h : ¬ 0 < m) : textK n (m + 1) = ((textK n m ++ (nth n m).1) ++ ⟨#[61]⟩) ++ (nth n m).2 := by
 show (((if 0 < m then textK n m ++ ⟨#[44]⟩ else textK n m) ++ (nth n m).1) ++ ⟨#[61]⟩) ++ (nth n m).2 = _
 rw [if_neg h]
theorem w_name (n : List Tag) : Wt.w n = n.length + sumN n.length fun i => (nth n i).1.size + (nth n i).2.size := rfl
theorem e_spec_l3Text (n : List Tag) (hw : Wt.w n ≤ 4194304) : p_spec_l3Text n = some (textN n) := by
 rw [w_name] at hw
 unfold p_spec_l3Text textN
 have e44 : ((⟨#[44]⟩ : ByteArray)).size = 1 := rfl
 have e61 : ((⟨#[61]⟩ : ByteArray)).size = 1 := rfl
 rw [show ((⟨#[]⟩ : ByteArray), (0 : Int)) = (textK n 0, ((0 : Nat) : Int)) from rfl, lp_for (fun k => (textK n k, (k : Int))) n.length (textK n n.length) (fun m hm => by
  have h1 := textK_size n m
  have h2 : (sumN m fun i => (nth n i).1.size + (nth n i).2.size) + ((nth n m).1.size + (nth n m).2.size) ≤ sumN n.length fun i => (nth n i).1.size + (nth n i).2.size := sumN_lt (f := fun i => (nth n i).1.size + (nth n i).2.size) hm
  unfold p_spec_l3Text_b0
  rw [dlt hm, cond_true]
  by_cases h0 : 0 < m
  ·rw [decide_eq_true (show (0 : Int) < (m : Int) by omega), cond_true]
   rw [gd.yes (by simp only [room, e44]; omega), gd.yes (ixN hm), gd.yes (by simp only [room, ByteArray.size_append, e44, Int.toNat_natCast]; omega), gd.yes (by simp only [room, ByteArray.size_append, e44, e61, Int.toNat_natCast]; omega), gd.yes (by simp only [room, ByteArray.size_append, e44, e61, Int.toNat_natCast]; omega), gd.yes (by unfold I64; omega), addI]
   rw [textK_pos h0]
   rfl
  ·rw [decide_eq_false (show ¬ (0 : Int) < (m : Int) by omega), cond_false]
   rw [gd.yes (ixN hm), gd.yes (by simp only [room, Int.toNat_natCast]; omega), gd.yes (by simp only [room, ByteArray.size_append, e61, Int.toNat_natCast]; omega), gd.yes (by simp only [room, ByteArray.size_append, e61, Int.toNat_natCast]; omega), gd.yes (by unfold I64; omega), addI]
   rw [textK_neg h0]
   rfl) (by unfold p_spec_l3Text_b0; rw [decide_eq_false (show ¬ ((n.length : Int) < (n.length : Int)) by omega)]; rfl)]
 rfl
def oneB (t : Tag) : Prop := t.1.size = 1 ∧ t.2.size = 1
theorem tagB_one {t : Tag} (h : tagB t = true) : oneB t := by
 unfold tagB at h
 simp only [Bool.and_eq_true, decide_eq_true_eq] at h
 exact ⟨h.1, h.2.1⟩
theorem nameOk_tags {n : List Tag} (h : nameOk n = true) : ∀ t ∈ n, tagB t = true := by
 intro t ht
 unfold nameOk at h
 simp only [Bool.and_eq_true] at h
 obtain ⟨i, hi, rfl⟩ := List.mem_iff_getElem.1 ht
 have := allN_iff.1 h.1 i hi
 unfold nameBad at this
 simp only [Bool.or_eq_false_iff] at this
 rw [← nth_eq n i hi]
 simpa using this.1
def kb (t : Tag) : UInt8 := sb t.1 0
def vb (t : Tag) : UInt8 := sb t.2 0
def bytesT : List Tag → List UInt8
 | [] => []
 | [t] => [kb t, 61, vb t]
 | t :: u :: r => kb t :: 61 :: vb t :: 44 :: bytesT (u :: r)
theorem bytesT_snoc (l : List Tag) (t : Tag) : bytesT (l ++ [t]) = if l = [] then [kb t, 61, vb t] else bytesT l ++ [44, kb t, 61, vb t] := by
 induction l with
 | nil => rfl
 | cons u l ih =>
  cases l with
  | nil => rfl
  | cons v l =>
   simp only [List.cons_append, bytesT] at ih ⊢
   rw [ih]
   simp
theorem one_bytes {x : ByteArray} (h : x.size = 1) : x.data.toList = [sb x 0] := by
 have := ba_one h
 generalize sb x 0 = c at *
 subst this; rfl
theorem textK_bytes (n : List Tag) (h1 : ∀ t ∈ n, oneB t) : ∀ m, m ≤ n.length → (textK n m).data.toList = bytesT (n.take m)
 | 0, _ => rfl
 | m + 1, hm => by
  have hmn : m < n.length := by omega
  have ih := textK_bytes n h1 m (by omega)
  obtain ⟨o1, o2⟩ := h1 _ (nth_mem hmn)
  rw [take_succ_nth hmn, bytesT_snoc]
  unfold textK
  have e1 := one_bytes o1
  have e2 := one_bytes o2
  by_cases h0 : 0 < m
  ·have hne : n.take m ≠ [] := fun e => by have := congrArg List.length e; rw [List.length_take, List.length_nil] at this; omega
   rw [if_pos h0, if_neg hne]
   simp only [ByteArray.data_append, Array.toList_append, ih, e1, e2]
   simp [kb, vb]
  ·have hm0 : m = 0 := by omega
   subst hm0
   simp only [ByteArray.data_append, Array.toList_append, e1, e2]
   simp [textK, kb, vb]
theorem tag_ext {t u : Tag} (h1 : oneB t) (h2 : oneB u) (hk : kb t = kb u) (hv : vb t = vb u) : t = u := by
 have a1 := ba_one h1.1
 have a2 := ba_one h1.2
 have b1 := ba_one h2.1
 have b2 := ba_one h2.2
 refine Prod.ext ?_ ?_
 ·rw [a1, b1]; unfold kb at hk; rw [hk]
 ·rw [a2, b2]; unfold vb at hv; rw [hv]
theorem bytesT_inj : ∀ {a b : List Tag}, (∀ t ∈ a, oneB t) → (∀ t ∈ b, oneB t) → bytesT a = bytesT b → a = b
 | [], [], _, _, _ => rfl
 | [], [t], _, _, h => by simp [bytesT] at h
 | [], t :: u :: r, _, _, h => by simp [bytesT] at h
 | [t], [], _, _, h => by simp [bytesT] at h
 | t :: u :: r, [], _, _, h => by simp [bytesT] at h
 | [t], [u], ha, hb, h => by
  simp only [bytesT, List.cons.injEq, and_true, true_and] at h
  rw [tag_ext (ha t (by simp)) (hb u (by simp)) h.1 h.2]
 | [t], u :: v :: r, _, _, h => by simp [bytesT] at h
 | t :: u :: r, [v], _, _, h => by simp [bytesT] at h
 | t :: u :: r, v :: w :: q, ha, hb, h => by
  simp only [bytesT, List.cons.injEq, true_and] at h
  rw [tag_ext (ha t (by simp)) (hb v (by simp)) h.1 h.2.1, bytesT_inj (a := u :: r) (b := w :: q) (fun x hx => ha x (List.mem_cons_of_mem _ hx)) (fun x hx => hb x (List.mem_cons_of_mem _ hx)) h.2.2]
theorem textN_inj {a b : List Tag} (ha : ∀ t ∈ a, oneB t) (hb : ∀ t ∈ b, oneB t) (h : textN a = textN b) : a = b := by
 have e1 := textK_bytes a ha a.length (Nat.le_refl _)
 have e2 := textK_bytes b hb b.length (Nat.le_refl _)
 rw [List.take_length] at e1 e2
 refine bytesT_inj ha hb ?_
 rw [← e1, ← e2]
 show (textN a).data.toList = (textN b).data.toList
 rw [h]
theorem text_eq {a b : List Tag} (ha : nameOk a = true) (hb : nameOk b = true) : decide (textN a = textN b) = decide (a = b) := by
 by_cases h : a = b
 ·subst h; simp
 ·have : textN a ≠ textN b := fun e => h (textN_inj (fun t ht => tagB_one (nameOk_tags ha t ht)) (fun t ht => tagB_one (nameOk_tags hb t ht)) e)
  simp [h, this]
def idsN (names : List (List Tag)) (t : Tag) : Nat → List Int
 | 0 => []
 | m + 1 => idsN names t m ++ (if hasT (nth names m) t then [(m : Int) + 1] else [])
theorem idsN_succ (names : List (List Tag)) (t : Tag) (m : Nat) : idsN names t (m + 1) = idsN names t m ++ (if hasT (nth names m) t then [(m : Int) + 1] else []) := rfl
theorem idsN_len (names : List (List Tag)) (t : Tag) : ∀ m, (idsN names t m).length ≤ m
 | 0 => Nat.le_refl _
 | m + 1 => by
  have := idsN_len names t m
  rw [idsN_succ]
  split <;> simp <;> omega
theorem e_spec_l11Ids (names : List (List Tag)) (t : Tag) (h1 : names.length ≤ 4194304) (h2 : ∀ n ∈ names, n.length ≤ 4194304) : p_spec_l11Ids names t = some (idsN names t names.length) := by
 unfold p_spec_l11Ids
 rw [show (([] : List Int), (0 : Int)) = (idsN names t 0, ((0 : Nat) : Int)) from rfl, lp_for (fun k => (idsN names t k, (k : Int))) names.length (idsN names t names.length) (fun m hm => by
  have hl := h2 _ (nth_mem hm)
  have hi := idsN_len names t m
  unfold p_spec_l11Ids_b0
  rw [dlt hm, cond_true, gd.yes (ixN hm)]
  simp only [Int.toNat_natCast]
  rw [bd.yes (e_spec_l3Has (nth names m) t (by unfold maxLen; omega))]
  cases hc : hasT (nth names m) t with
  | true =>
   rw [cond_true, gd.yes (by unfold I64; omega), gd.yes (by unfold room; omega), idsN_succ, if_pos hc, addI]
  | false =>
   rw [cond_false, gd.yes (by unfold I64; omega), addI, idsN_succ, if_neg (by rw [hc]; simp), List.append_nil]) (by
  unfold p_spec_l11Ids_b0; rw [decide_eq_false (show ¬ ((names.length : Int) < (names.length : Int)) by omega)]; rfl)]
 rfl
def idsAt : List Post → Tag → List Int
 | [], _ => []
 | p :: P, t => if p.1 = t then p.2 else idsAt P t
theorem idsAt_addT (P : List Post) (t : Tag) (i : Int) (u : Tag) : idsAt (addT P t i) u = if u = t then idsAt P u ++ [i] else idsAt P u := by
 induction P with
 | nil =>
  unfold addT idsAt
  by_cases h : t = u
  ·subst h; simp
  ·have h' : ¬ u = t := fun e => h e.symm
   simp [h, h', idsAt]
 | cons p P ih =>
  unfold addT
  by_cases hp : p.1 = t
  ·rw [if_pos hp]
   by_cases hu : u = t
   ·subst hu; simp [idsAt, hp]
   ·have : ¬ p.1 = u := fun e => hu (e ▸ hp)
    simp [idsAt, this, hu]
  ·rw [if_neg hp]
   by_cases hu : p.1 = u
   ·have : ¬ u = t := fun e => hp (hu.trans e)
    simp [idsAt, hu, this]
   ·simp only [idsAt, if_neg hu, ih]
theorem idsAt_addN (n : List Tag) (i : Int) (u : Tag) : ∀ {P : List Post}, n.Nodup → idsAt (addN P n i) u = if hasT n u then idsAt P u ++ [i] else idsAt P u := by
 induction n with
 | nil => intro P _; rfl
 | cons t n ih =>
  intro P hn
  rw [List.nodup_cons] at hn
  rw [addN_cons, ih hn.2, idsAt_addT]
  have hc : hasT (t :: n) u = (decide (t = u) || hasT n u) := rfl
  rw [hc]
  by_cases h1 : u = t
  ·subst h1
   rw [hasT_no hn.1]; simp
  ·have h2 : ¬ t = u := fun e => h1 e.symm
   simp [h1, h2]
def dist (names : List (List Tag)) : Prop := ∀ n ∈ names, n.Nodup
theorem idsAt_posts {names : List (List Tag)} (hd : dist names) (u : Tag) : ∀ m, m ≤ names.length → idsAt (postsF names m) u = idsN names u m
 | 0, _ => rfl
 | m + 1, hm => by
  rw [postsF_succ, idsAt_addN _ _ _ (hd _ (nth_mem (show m < names.length by omega))), idsAt_posts hd u m (by omega)]
  rw [idsN_succ]
  cases h : hasT (nth names m) u with
  | true => simp
  | false => simp
theorem idsAt_mem {P : List Post} (hn : (P.map (·.1)).Nodup) {p : Post} (hp : p ∈ P) : idsAt P p.1 = p.2 := by
 induction P with
 | nil => cases hp
 | cons q P ih =>
  rw [List.map_cons, List.nodup_cons] at hn
  rcases List.mem_cons.1 hp with rfl | hp
  ·simp [idsAt]
  ·have : ¬ q.1 = p.1 := fun e => hn.1 (e ▸ List.mem_map_of_mem hp)
   simp only [idsAt, if_neg this]
   exact ih hn.2 hp
theorem idsAt_some {P : List Post} {t : Tag} (h : idsAt P t ≠ []) : ∃ p ∈ P, p.1 = t := by
 induction P with
 | nil => exact absurd rfl h
 | cons q P ih =>
  by_cases e : q.1 = t
  ·exact ⟨q, List.mem_cons_self .., e⟩
  ·simp only [idsAt, if_neg e] at h
   obtain ⟨p, hp, h1⟩ := ih h
   exact ⟨p, List.mem_cons_of_mem _ hp, h1⟩
theorem addT_ne {P : List Post} (h : ∀ p ∈ P, p.2 ≠ []) (t : Tag) (i : Int) : ∀ p ∈ addT P t i, p.2 ≠ [] := by
 induction P with
 | nil => intro p hp; simp [addT] at hp; subst hp; simp
 | cons q P ih =>
  intro p hp
  unfold addT at hp
  split at hp
  ·rcases List.mem_cons.1 hp with rfl | hp
   ·simp
   ·exact h p (List.mem_cons_of_mem _ hp)
  ·rcases List.mem_cons.1 hp with rfl | hp
   ·exact h p (List.mem_cons_self ..)
   ·exact ih (fun r hr => h r (List.mem_cons_of_mem _ hr)) p hp
theorem addN_ne (n : List Tag) (i : Int) : ∀ {P : List Post}, (∀ p ∈ P, p.2 ≠ []) → ∀ p ∈ addN P n i, p.2 ≠ [] := by
 induction n with
 | nil => intro P h; exact h
 | cons t n ih => intro P h; rw [addN_cons]; exact ih (addT_ne h t i)
theorem posts_ne (names : List (List Tag)) : ∀ m, ∀ p ∈ postsF names m, p.2 ≠ []
 | 0 => fun p hp => by cases hp
 | m + 1 => by rw [postsF_succ]; exact addN_ne _ _ (posts_ne names m)
def sumL : List Post → Nat
 | [] => 0
 | p :: P => p.2.length + sumL P
theorem sumL_append (P Q : List Post) : sumL (P ++ Q) = sumL P + sumL Q := by
 induction P with
 | nil => simp [sumL]
 | cons p P ih => simp only [List.cons_append, sumL, ih]; omega
theorem sumL_perm {P Q : List Post} (h : P.Perm Q) : sumL P = sumL Q := by
 induction h with
 | nil => rfl
 | cons x _ ih => simp only [sumL, ih]
 | swap x y l => simp only [sumL]; omega
 | trans _ _ h1 h2 => exact h1.trans h2
theorem sumL_addT (P : List Post) (t : Tag) (i : Int) : sumL (addT P t i) = sumL P + 1 := by
 induction P with
 | nil => rfl
 | cons p P ih =>
  unfold addT
  split
  ·simp only [sumL, List.length_append, List.length_cons, List.length_nil]; omega
  ·simp only [sumL, ih]; omega
theorem sumL_addN (n : List Tag) (i : Int) : ∀ (P : List Post), sumL (addN P n i) = sumL P + n.length := by
 induction n with
 | nil => intro P; rfl
 | cons t n ih => intro P; rw [addN_cons, ih, sumL_addT, List.length_cons]; omega
theorem sumL_posts (names : List (List Tag)) : ∀ m, sumL (postsF names m) = sumN m fun i => (nth names i).length
 | 0 => rfl
 | m + 1 => by
  rw [postsF_succ, sumL_addN, sumL_posts names m]; rfl
structure Canon (names : List (List Tag)) (C : List Post) : Prop where
 ord : C.Pairwise fun x y => ltTag x.1 y.1 = true
 ids : ∀ p ∈ C, p.2 = idsN names p.1 names.length ∧ p.2 ≠ []
 all : ∀ t, idsN names t names.length ≠ [] → ∃ p ∈ C, p.1 = t
theorem canon_posts {names : List (List Tag)} (hd : dist names) : Canon names (indexP names).2 := by
 have hn := postsF_nodup names names.length
 have hp := List.mergeSort_perm (postsF names names.length) leP
 have hs : ((postsF names names.length).mergeSort leP).Pairwise fun x y => leP x y = true := List.pairwise_mergeSort (fun a b c h1 h2 => by
  simp only [leP, Bool.not_eq_true'] at *; exact ltTag_nt h2 h1) (fun a b => by
  simp only [leP, Bool.or_eq_true, Bool.not_eq_true']
  cases h : ltTag b.1 a.1 with
  | false => exact .inl rfl
  | true => exact .inr (ltTag_asym h)) _
 have hn2 : (((postsF names names.length).mergeSort leP).map (·.1)).Nodup := (hp.map _).nodup_iff.2 hn
 refine ⟨?_, fun p hp' => ?_, fun t ht => ?_⟩
 ·show ((postsF names names.length).mergeSort leP).Pairwise _
  have hne : ((postsF names names.length).mergeSort leP).Pairwise fun x y => x.1 ≠ y.1 := by
   unfold List.Nodup at hn2
   rwa [List.pairwise_map] at hn2
  refine (hs.and hne).imp ?_
  intro x y h
  have h1 := h.1
  simp only [leP, Bool.not_eq_true'] at h1
  cases hc : ltTag x.1 y.1 with
  | true => rfl
  | false => exact absurd (ltTag_anti hc h1) h.2
 ·have hm : p ∈ postsF names names.length := hp.mem_iff.1 hp'
  exact ⟨by rw [← idsAt_posts hd p.1 _ (Nat.le_refl _), idsAt_mem hn hm], posts_ne names _ p hm⟩
 ·rw [← idsAt_posts hd t _ (Nat.le_refl _)] at ht
  obtain ⟨p, h1, h2⟩ := idsAt_some ht
  exact ⟨p, hp.mem_iff.2 h1, h2⟩
theorem canon_eq {names : List (List Tag)} {C D : List Post} (hc : Canon names C) (hd : Canon names D) : C = D := by
 have nd : ∀ {E : List Post}, Canon names E → E.Nodup := fun h => h.ord.imp fun {a b} k e => by subst e; rw [ltTag_irr] at k; cases k
 have sub : ∀ {E F : List Post}, Canon names E → Canon names F → ∀ p ∈ E, p ∈ F := fun {E F} hE hF p hp => by
  obtain ⟨e1, e2⟩ := hE.ids p hp
  obtain ⟨q, hq, e3⟩ := hF.all p.1 (e1 ▸ e2)
  have e4 := (hF.ids q hq).1
  have : q = p := Prod.ext e3 (by rw [e4, e3, e1])
  rwa [← this]
 have hperm : C.Perm D := (List.perm_ext_iff_of_nodup (nd hc) (nd hd)).2 fun p => ⟨sub hc hd p, sub hd hc p⟩
 refine List.Perm.eq_of_pairwise (le := fun x y => ltTag x.1 y.1 = true) ?_ hc.ord hd.ord hperm
 intro a b _ _ h1 h2
 have := ltTag_asym h1
 rw [h2] at this; cases this
theorem sub_sum : ∀ {C A : List Post}, A.Nodup → (∀ p ∈ A, p ∈ C) → sumL A ≤ sumL C
 | [], A, _, h => by
  have : A = [] := List.eq_nil_iff_forall_not_mem.2 fun p hp => by cases h p hp
  rw [this]; exact Nat.le_refl _
 | c :: C, A, hn, h => by
  by_cases hc : c ∈ A
  ·obtain ⟨A1, A2, rfl⟩ := List.append_of_mem hc
   have hn' := hn
   rw [List.nodup_append] at hn
   obtain ⟨n1, n2, n3⟩ := hn
   rw [List.nodup_cons] at n2
   have hnd : (A1 ++ A2).Nodup := by
    rw [List.nodup_append]
    exact ⟨n1, n2.2, fun a ha b hb => n3 a ha b (List.mem_cons_of_mem _ hb)⟩
   have ih := sub_sum (C := C) (A := A1 ++ A2) hnd (fun p hp => by
    have hpc : p ≠ c := fun e => by
     subst e
     rcases List.mem_append.1 hp with q | q
     ·exact n3 p q p (List.mem_cons_self ..) rfl
     ·exact n2.1 q
    have hp' : p ∈ A1 ++ c :: A2 := by
     rcases List.mem_append.1 hp with q | q
     ·exact List.mem_append_left _ q
     ·exact List.mem_append_right _ (List.mem_cons_of_mem _ q)
    rcases List.mem_cons.1 (h p hp') with e | q
    ·exact absurd e hpc
    ·exact q)
   rw [sumL_append] at ih ⊢
   simp only [sumL] at ih ⊢
   omega
  ·have ih := sub_sum (C := C) (A := A) hn (fun p hp => by
    rcases List.mem_cons.1 (h p hp) with e | q
    ·exact absurd (e ▸ hp) hc
    ·exact q)
   simp only [sumL]; omega
theorem canon_of_sum {names : List (List Tag)} {C P : List Post} (hc : Canon names C) (ord : P.Pairwise fun x y => ltTag x.1 y.1 = true) (ids : ∀ p ∈ P, p.2 = idsN names p.1 names.length ∧ p.2 ≠ []) (hs : sumL P = sumL C) : P = C := by
 have nd : P.Nodup := ord.imp fun {a b} k e => by subst e; rw [ltTag_irr] at k; cases k
 have sub : ∀ p ∈ P, p ∈ C := fun p hp => by
  obtain ⟨e1, e2⟩ := ids p hp
  obtain ⟨q, hq, e3⟩ := hc.all p.1 (e1 ▸ e2)
  have : q = p := Prod.ext e3 (by rw [(hc.ids q hq).1, e3, e1])
  rwa [← this]
 refine canon_eq ⟨ord, ids, fun t ht => ?_⟩ hc
 obtain ⟨c, h1, h2⟩ := hc.all t ht
 by_cases hm : c ∈ P
 ·exact ⟨c, hm, h2⟩
 ·have := sub_sum (C := C) (A := c :: P) (List.nodup_cons.2 ⟨hm, nd⟩) (fun p hp => by
   rcases List.mem_cons.1 hp with rfl | hp
   ·exact h1
   ·exact sub p hp)
  simp only [sumL] at this
  have h3 : 0 < c.2.length := List.length_pos_iff.2 (hc.ids c h1).2
  omega
theorem nameOk_nodup {n : List Tag} (h : nameOk n = true) : n.Nodup := by
 unfold nameOk at h
 simp only [Bool.and_eq_true] at h
 have hk : ∀ i, i < n.length → nameBad n i = false := allN_iff.1 h.1
 have step : ∀ i, i + 1 < n.length → sless (nth n i).1 (nth n (i + 1)).1 = true := fun i hi => by
  have := hk (i + 1) hi
  unfold nameBad at this
  simp only [Nat.zero_lt_succ, decide_true, Bool.true_and, Nat.add_sub_cancel, Bool.or_eq_false_iff, Bool.not_eq_false'] at this
  exact this.2
 have lt : ∀ d i, i + d + 1 < n.length → sless (nth n i).1 (nth n (i + d + 1)).1 = true := by
  intro d
  induction d with
  | zero => intro i hi; exact step i hi
  | succ d ih => intro i hi; exact sless_trans (ih i (by omega)) (step (i + d + 1) (by omega))
 unfold List.Nodup
 rw [List.pairwise_iff_getElem]
 intro i j hi hj hij e
 obtain ⟨d, rfl⟩ : ∃ d, j = i + d + 1 := ⟨j - i - 1, by omega⟩
 have := lt d i hj
 rw [nth_eq n i hi, nth_eq n _ hj, ← e, sless_irr] at this
 cases this
theorem w_names {names : List (List Tag)} (hw : Wt.w names ≤ 4194304) : names.length ≤ 4194304 ∧ (∀ n ∈ names, n.length ≤ 4194304 ∧ Wt.w n ≤ 4194304) ∧ sumN names.length (fun i => (nth names i).length) ≤ 4194304 := by
 have e : Wt.w names = names.length + sumN names.length fun i => Wt.w (nth names i) := rfl
 rw [e] at hw
 refine ⟨by omega, fun n hn => ?_, ?_⟩
 ·obtain ⟨i, hi, rfl⟩ := List.mem_iff_getElem.1 hn
  have h1 := sumN_get (f := fun i => Wt.w (nth names i)) hi
  simp only [nth_eq names i hi] at h1
  have h2 : names[i].length ≤ Wt.w names[i] := wL_le
  omega
 ·have : sumN names.length (fun i => (nth names i).length) ≤ sumN names.length (fun i => Wt.w (nth names i)) := sumN_mono fun i _ => wL_le
  omega
theorem e_Equal_Tag (a b : List Tag) (ha : a.length ≤ 4194304) : p_slices_Equal_Tag_Tag a b = some (decide (a = b)) := by
 unfold p_slices_Equal_Tag_Tag
 by_cases hl : a.length = b.length
 ·have hl2 : (a.length : Int) = (b.length : Int) := by omega
  rw [decide_eq_true hl2, Bool.not_true, cond_false]
  refine eq_loop hl (fun k hk => ?_) ?_
  ·have hk2 : k < b.length := by omega
   unfold p_slices_Equal_Tag_Tag_b0
   simp only [dlt hk, cond_true, gd.yes (ixN hk), gd.yes (ixN hk2), Int.toNat_natCast, gd.yes (i64S hk (show a.length ≤ 9223372036854775807 by omega))]
   by_cases h : nth a k = nth b k <;> simp [h]
  ·unfold p_slices_Equal_Tag_Tag_b0; simp
 ·have h2 : ¬ (a.length : Int) = (b.length : Int) := by omega
  have h3 : a ≠ b := fun e => hl (by rw [e])
  simp [h2, h3]
theorem e_Equal_int (a b : List Int) (ha : a.length ≤ maxLen) : p_slices_Equal_int_int a b = some (decide (a = b)) := by
 have ha : a.length ≤ 9223372036854775807 := ha
 unfold p_slices_Equal_int_int
 by_cases hl : a.length = b.length
 ·have hl2 : (a.length : Int) = (b.length : Int) := by omega
  rw [decide_eq_true hl2, Bool.not_true, cond_false]
  refine eq_loop hl (fun k hk => ?_) ?_
  ·have hk2 : k < b.length := by omega
   unfold p_slices_Equal_int_int_b0
   simp only [dlt hk, cond_true, gd.yes (ixN hk), gd.yes (ixN hk2), Int.toNat_natCast, gd.yes (i64S hk ha)]
   by_cases h : nth a k = nth b k <;> simp [h]
  ·unfold p_slices_Equal_int_int_b0; simp
 ·have h2 : ¬ (a.length : Int) = (b.length : Int) := by omega
  have h3 : a ≠ b := fun e => hl (by rw [e])
  simp [h2, h3]
theorem e_spec_l11Same (a b : List Int) (ha : a.length ≤ maxLen) : p_spec_l11Same a b = some (decide (a = b)) := by
 have ha : a.length ≤ 9223372036854775807 := ha
 unfold p_spec_l11Same
 by_cases hl : a.length = b.length
 ·have hl2 : (a.length : Int) = (b.length : Int) := by omega
  rw [decide_eq_true hl2, Bool.not_true, cond_false]
  refine eq_loop hl (fun k hk => ?_) ?_
  ·have hk2 : k < b.length := by omega
   unfold p_spec_l11Same_b0
   simp only [dlt hk, cond_true, gd.yes (ixN hk), gd.yes (ixN hk2), Int.toNat_natCast, gd.yes (i64S hk ha)]
   by_cases h : nth a k = nth b k <;> simp [h]
  ·unfold p_spec_l11Same_b0; simp
 ·have h2 : ¬ (a.length : Int) = (b.length : Int) := by omega
  have h3 : a ≠ b := fun e => hl (by rw [e])
  simp [h2, h3]
theorem e_spec_l11Less (a b : Tag) : p_spec_l11Less a b = some (ltTag a b) := by
 unfold p_spec_l11Less ltTag
 cases sless a.1 b.1 with
 | true => rfl
 | false => by_cases h : a.1 = b.1 <;> simp [h]
theorem numberOf_none {q : Option (Unit ⊕ Int)} (h : q = some (.inl ())) : (bd (bd q <| sw (fun _ => some (-1 : Int)) fun q => some q) fun r3 => gd (I64 (r3 + 1)) <| some (r3 + 1)) = some 0 := by
 subst h
 have e : (bd (some (.inl ()) : Option (Unit ⊕ Int)) <| sw (fun _ => some (-1 : Int)) fun q => some q) = some (-1) := rfl
 rw [bd.yes e, gd.yes (by unfold I64; omega)]; rfl
theorem numberOf_some {q : Option (Unit ⊕ Int)} {k : Nat} (hk : k ≤ 4194304) (h : q = some (.inr (k : Int))) : (bd (bd q <| sw (fun _ => some (-1 : Int)) fun q => some q) fun r3 => gd (I64 (r3 + 1)) <| some (r3 + 1)) = some ((k : Int) + 1) := by
 subst h
 have e : (bd (some (.inr (k : Int)) : Option (Unit ⊕ Int)) <| sw (fun _ => some (-1 : Int)) fun q => some q) = some (k : Int) := rfl
 rw [bd.yes e, gd.yes (by unfold I64; omega)]
theorem e_numberOf (names : List (List Tag)) (n : List Tag) (h1 : names.length ≤ 4194304) (h2 : ∀ n ∈ names, n.length ≤ 4194304) :
  (∃ k : Nat, k < names.length ∧ nth names k = n ∧ (∀ j, j < k → nth names j ≠ n) ∧ p_impl_numberOf names n = some ((k : Int) + 1)) ∨ ((∀ k, k < names.length → nth names k ≠ n) ∧ p_impl_numberOf names n = some 0) := by
 have hr : ∀ k, k < names.length → p_slices_IndexFunc_Tag_Tag_numberOf_1_b0 names n (k : Int) = some (if decide (nth names k = n) then .inr (.inr (k : Int)) else .inl ((k + 1 : Nat) : Int)) := fun k hk => by
  unfold p_slices_IndexFunc_Tag_Tag_numberOf_1_b0 p_impl_numberOf_1
  rw [dlt hk, cond_true, gd.yes (ixN hk)]
  simp only [Int.toNat_natCast]
  rw [bd.yes (e_Equal_Tag _ n (h2 _ (nth_mem hk))), bd_some, gd.yes (i64S hk (show names.length ≤ 9223372036854775807 by omega)), addI]
  by_cases h : nth names k = n <;> simp [h]
 unfold p_impl_numberOf p_slices_IndexFunc_Tag_Tag_numberOf_1
 rcases lp_scan (body := p_slices_IndexFunc_Tag_Tag_numberOf_1_b0 names n) (fun k => (k : Int)) names.length (fun k => decide (nth names k = n)) (.inl ()) (fun k => .inr (k : Int)) (fun k hk _ h => by rw [hr k hk, h]; rfl) (fun k hk _ h => by rw [hr k hk, if_pos h]) (fun _ => by unfold p_slices_IndexFunc_Tag_Tag_numberOf_1_b0; simp) with ⟨h1, h2⟩ | ⟨h1, k, hk, hb, hn, h2⟩
 ·refine .inr ⟨fun k hk => of_decide_eq_false (allN_iff.1 h1 k hk), ?_⟩
  exact numberOf_none h2
 ·refine .inl ⟨k, hk, of_decide_eq_true hb, fun j hj => of_decide_eq_false (hn j hj), ?_⟩
  exact numberOf_some (by omega) h2
def nmBad (names : List (List Tag)) (k : Nat) : Bool := !nameOk (nth names k) || !allN k (fun j => decide (nth names j = nth names k))
def namesB (names : List (List Tag)) : Bool := allN names.length (nmBad names) && decide ((names.length : Int) ≤ 6)
theorem e_impl_namesOk (names : List (List Tag)) (hw : Wt.w names ≤ 4194304) : p_impl_namesOk names = some (namesB names) := by
 obtain ⟨h1, h2, _⟩ := w_names hw
 have hr : ∀ k, k < names.length → p_impl_namesOk_b0 names (k : Int) = some (if nmBad names k then .inr (.inr false) else .inl ((k + 1 : Nat) : Int)) := fun k hk => by
  have hl := (h2 _ (nth_mem hk)).1
  unfold p_impl_namesOk_b0 nmBad
  rw [dlt hk, cond_true, gd.yes (ixN hk)]
  simp only [Int.toNat_natCast]
  rw [e_impl_NameOk _ (by unfold maxLen; omega), bd_some]
  cases nameOk (nth names k) with
  | false => rfl
  | true =>
   rw [Bool.not_true, cond_false]
   rcases e_numberOf names (nth names k) h1 (fun n hn => (h2 n hn).1) with ⟨j, hj, e1, e2, e3⟩ | ⟨e2, e3⟩
   ·rw [bd.yes e3, gd.yes (by unfold I64; omega), bd_some, gd.yes (by unfold I64; omega), addI]
    by_cases hjk : j = k
    ·subst hjk
     have : allN j (fun i => decide (nth names i = nth names j)) = true := allN_iff.2 fun i hi => decide_eq_false (e2 i hi)
     rw [this]; simp
    ·have hlt : j < k := by
      rcases Nat.lt_trichotomy j k with h | h | h
      ·exact h
      ·exact absurd h hjk
      ·exact absurd rfl (e2 k h)
     have : allN k (fun i => decide (nth names i = nth names k)) = false := allN_no hlt (decide_eq_true e1)
     rw [this, decide_eq_false (show ¬ (((j + 1 : Nat) : Int) = (k : Int) + 1) by omega)]; simp
   ·exact absurd rfl (e2 k hk)
 unfold p_impl_namesOk namesB
 rcases lp_scan (body := p_impl_namesOk_b0 names) (fun k => (k : Int)) names.length (nmBad names) (.inl ()) (fun _ => .inr false) (fun k hk _ h => by rw [hr k hk, h]; rfl) (fun k hk _ h => by rw [hr k hk, h]; rfl) (fun _ => by unfold p_impl_namesOk_b0; simp) with ⟨h1, h2⟩ | ⟨h1, k, _, _, _, h2⟩
 ·rw [show (lp (p_impl_namesOk_b0 names) 0) = _ from h2, h1]; simp [sw]
 ·rw [show (lp (p_impl_namesOk_b0 names) 0) = _ from h2, h1]; simp [sw]
theorem e_eqPost (p q : Post) (hp : p.2.length ≤ maxLen) : p_impl_IndexOk_1 p q = some (decide (p = q)) := by
 unfold p_impl_IndexOk_1
 by_cases h : p.1 = q.1
 ·rw [decide_eq_true h, cond_true, bd.yes (e_Equal_int _ _ hp), bd_some]
  by_cases h2 : p.2 = q.2
  ·have : p = q := Prod.ext h h2
   rw [decide_eq_true h2, decide_eq_true this]
  ·have : p ≠ q := fun e => h2 (by rw [e])
   rw [decide_eq_false h2, decide_eq_false this]
 ·have : p ≠ q := fun e => h (by rw [e])
  rw [decide_eq_false h, cond_false, bd_some, decide_eq_false this]
theorem e_EqualPosts (P Q : List Post) (hP : P.length ≤ maxLen) (hi : ∀ k, k < P.length → (nth P k).2.length ≤ maxLen) : p_slices_EqualFunc_Post_Post_Post_Post_IndexOk_1 P Q = some (decide (P = Q)) := by
 have hP' : P.length ≤ 9223372036854775807 := hP
 unfold p_slices_EqualFunc_Post_Post_Post_Post_IndexOk_1
 by_cases hl : P.length = Q.length
 ·have hl2 : (P.length : Int) = (Q.length : Int) := by omega
  rw [decide_eq_true hl2, Bool.not_true, cond_false]
  refine eq_loop hl (fun k hk => ?_) ?_
  ·have hk2 : k < Q.length := by omega
   unfold p_slices_EqualFunc_Post_Post_Post_Post_IndexOk_1_b0
   rw [dlt hk, cond_true, gd.yes (ixN hk), gd.yes (ixN hk2)]
   simp only [Int.toNat_natCast]
   rw [bd.yes (e_eqPost _ _ (hi k hk)), gd.yes (i64S hk hP'), addI]
   by_cases h : nth P k = nth Q k <;> simp [h]
  ·unfold p_slices_EqualFunc_Post_Post_Post_Post_IndexOk_1_b0; simp
 ·have h2 : ¬ (P.length : Int) = (Q.length : Int) := by omega
  have h3 : P ≠ Q := fun e => hl (by rw [e])
  simp [h2, h3]
def indexB (x : Index) : Bool := namesB x.1 && decide (x.2 = (indexP x.1).2)
def postsW (P : List Post) : Prop := P.length ≤ 4194304 ∧ ∀ k, k < P.length → (nth P k).2.length ≤ 4194304
theorem e_impl_IndexOk (x : Index) (hw : Wt.w x.1 ≤ 4194304) (hp : postsW x.2) : p_impl_IndexOk x = some (indexB x) := by
 obtain ⟨h1, h2, h3⟩ := w_names hw
 unfold p_impl_IndexOk indexB
 rw [bd.yes (e_impl_namesOk x.1 hw)]
 cases namesB x.1 with
 | false => rfl
 | true =>
  have hp1 := hp.1
  rw [cond_true, bd.yes (e_indexOf x.1 h1 h3), bd.yes (e_EqualPosts x.2 _ (by unfold maxLen; omega) (fun k hk => by have := hp.2 k hk; unfold maxLen; omega)), Bool.true_and]
def locBad (names : List (List Tag)) (P : List Post) (k : Nat) : Bool := decide ((nth P k).2.length = 0) || (!decide ((nth P k).2 = idsN names (nth P k).1 names.length) || (decide (0 < k) && !ltTag (nth P (k - 1)).1 (nth P k).1))
theorem nmBad_ok {names : List (List Tag)} {k : Nat} (h : nmBad names k = false) : nameOk (nth names k) = true := by
 unfold nmBad at h
 simp only [Bool.or_eq_false_iff, Bool.not_eq_false'] at h
 exact h.1
theorem e_spec_names (x : Index) (hw : Wt.w x.1 ≤ 4194304) : lp (p_spec_IndexOk_b0 x) (0, 0) = some (if allN x.1.length (nmBad x.1) then .inl ((sumN x.1.length fun i => (nth x.1 i).length : Nat) : Int) else .inr false) := by
 obtain ⟨h1, h2, h3⟩ := w_names hw
 have inner : ∀ k, k < x.1.length → (∀ i, i < k → nmBad x.1 i = false) → nameOk (nth x.1 k) = true → ∀ s : Int, lp (p_spec_IndexOk_b1 x (s, (k : Int))) 0 = some (if allN k (fun j => decide (nth x.1 j = nth x.1 k)) then .inl () else .inr false) := fun k hk hbs hok s => by
  have hr : ∀ j, j < k → p_spec_IndexOk_b1 x (s, (k : Int)) (j : Int) = some (if decide (nth x.1 j = nth x.1 k) then .inr (.inr false) else .inl ((j + 1 : Nat) : Int)) := fun j hj => by
   have hj2 : j < x.1.length := by omega
   unfold p_spec_IndexOk_b1
   rw [decide_eq_true (show ((j : Int) < (k : Int)) by omega), cond_true]
   simp only [Int.toNat_natCast]
   rw [bd.yes (e_spec_l3Text _ (h2 _ (nth_mem hk)).2), gd.yes (ixN hj2), bd.yes (e_spec_l3Text _ (h2 _ (nth_mem hj2)).2), text_eq hok (nmBad_ok (hbs j hj)), gd.yes (by unfold I64; omega), addI]
   by_cases h : nth x.1 j = nth x.1 k
   ·rw [decide_eq_true h, decide_eq_true h.symm]; rfl
   ·rw [decide_eq_false h, decide_eq_false (fun e => h e.symm)]; rfl
  rcases lp_scan (body := p_spec_IndexOk_b1 x (s, (k : Int))) (fun j => (j : Int)) k (fun j => decide (nth x.1 j = nth x.1 k)) (.inl ()) (fun _ => .inr false) (fun j hj _ h => by rw [hr j hj, h]; rfl) (fun j hj _ h => by rw [hr j hj, h]; rfl) (fun _ => by unfold p_spec_IndexOk_b1; rw [decide_eq_false (show ¬ ((k : Int) < (k : Int)) by omega)]; rfl) with ⟨h1, h2⟩ | ⟨h1, _, _, _, _, h2⟩
  ·rw [show (lp (p_spec_IndexOk_b1 x (s, (k : Int))) 0) = _ from h2, h1]; rfl
  ·rw [show (lp (p_spec_IndexOk_b1 x (s, (k : Int))) 0) = _ from h2, h1]; rfl
 have step : ∀ k, k < x.1.length → (∀ i, i < k → nmBad x.1 i = false) → p_spec_IndexOk_b0 x (((sumN k fun i => (nth x.1 i).length : Nat) : Int), (k : Int)) = some (if nmBad x.1 k then .inr (.inr false) else .inl (((sumN (k + 1) fun i => (nth x.1 i).length : Nat) : Int), ((k + 1 : Nat) : Int))) := fun k hk hbs => by
  have hl := (h2 _ (nth_mem hk)).1
  have hs : (sumN k fun i => (nth x.1 i).length) + (nth x.1 k).length ≤ sumN x.1.length fun i => (nth x.1 i).length := sumN_lt (f := fun i => (nth x.1 i).length) hk
  unfold p_spec_IndexOk_b0 nmBad
  rw [dlt hk, cond_true, gd.yes (ixN hk)]
  simp only [Int.toNat_natCast]
  rw [bd.yes (e_spec_NameOk _ (by unfold maxLen; omega))]
  cases hok : nameOk (nth x.1 k) with
  | false => rfl
  | true =>
   rw [Bool.not_true, cond_false, bd.yes (inner k hk hbs hok _)]
   cases allN k (fun j => decide (nth x.1 j = nth x.1 k)) with
   | false => rfl
   | true =>
    show gd (I64 _) (gd (I64 _) (some _)) = _
    rw [gd.yes (by unfold I64; omega), gd.yes (by unfold I64; omega), addI]
    have : ((sumN k fun i => (nth x.1 i).length : Nat) : Int) + ((nth x.1 k).length : Int) = ((sumN (k + 1) fun i => (nth x.1 i).length : Nat) : Int) := by
     show _ = ((((sumN k fun i => (nth x.1 i).length) + (nth x.1 k).length : Nat)) : Int)
     omega
    rw [this]; rfl
 rcases lp_scan (body := p_spec_IndexOk_b0 x) (fun k => (((sumN k fun i => (nth x.1 i).length : Nat) : Int), (k : Int))) x.1.length (nmBad x.1) (.inl ((sumN x.1.length fun i => (nth x.1 i).length : Nat) : Int)) (fun _ => .inr false) (fun k hk hb h => by rw [step k hk hb, h]; rfl) (fun k hk hb h => by rw [step k hk hb, h]; rfl) (fun _ => by unfold p_spec_IndexOk_b0; rw [decide_eq_false (show ¬ ((x.1.length : Int) < (x.1.length : Int)) by omega)]; rfl) with ⟨h1, h2⟩ | ⟨h1, _, _, _, _, h2⟩
 ·rw [show (lp (p_spec_IndexOk_b0 x) (0, 0)) = _ from h2, h1]; rfl
 ·rw [show (lp (p_spec_IndexOk_b0 x) (0, 0)) = _ from h2, h1]; rfl
theorem e_spec_posts (x : Index) (hw : Wt.w x.1 ≤ 4194304) (hp : postsW x.2) (n0 : Nat) (hn0 : n0 ≤ 4194304) : lp (p_spec_IndexOk_b2 x) ((n0 : Int), 0) = some (if allN x.2.length (locBad x.1 x.2) then .inl ((n0 : Int) - ((sumN x.2.length fun i => (nth x.2 i).2.length : Nat) : Int)) else .inr false) := by
 obtain ⟨h1, h2, h3⟩ := w_names hw
 obtain ⟨p1, p2⟩ := hp
 have hs : ∀ k, k ≤ x.2.length → (sumN k fun i => (nth x.2 i).2.length) ≤ k * 4194304 := by
  intro k
  induction k with
  | zero => intro _; exact Nat.le_refl _
  | succ k ih =>
   intro hk
   have := ih (by omega)
   have h4 := p2 k (by omega)
   show (sumN k fun i => (nth x.2 i).2.length) + (nth x.2 k).2.length ≤ _
   omega
 have step : ∀ k, k < x.2.length → p_spec_IndexOk_b2 x ((n0 : Int) - ((sumN k fun i => (nth x.2 i).2.length : Nat) : Int), (k : Int)) = some (if locBad x.1 x.2 k then .inr (.inr false) else .inl ((n0 : Int) - ((sumN (k + 1) fun i => (nth x.2 i).2.length : Nat) : Int), ((k + 1 : Nat) : Int))) := fun k hk => by
  have hl := p2 k hk
  have hsk := hs k (by omega)
  have hkk : k * 4194304 ≤ 4194304 * 4194304 := Nat.mul_le_mul_right _ (by omega)
  have es : ((n0 : Int) - ((sumN k fun i => (nth x.2 i).2.length : Nat) : Int)) - ((nth x.2 k).2.length : Int) = (n0 : Int) - ((sumN (k + 1) fun i => (nth x.2 i).2.length : Nat) : Int) := by
   show _ = (n0 : Int) - ((((sumN k fun i => (nth x.2 i).2.length) + (nth x.2 k).2.length : Nat)) : Int)
   omega
  have fin : (gd (I64 (((n0 : Int) - ((sumN k fun i => (nth x.2 i).2.length : Nat) : Int)) - ((nth x.2 k).2.length : Int))) <| gd (I64 ((k : Int) + 1)) <| (some (.inl (((n0 : Int) - ((sumN k fun i => (nth x.2 i).2.length : Nat) : Int)) - ((nth x.2 k).2.length : Int), (k : Int) + 1)) : Option ((Int × Int) ⊕ (Int ⊕ Bool)))) = some (.inl ((n0 : Int) - ((sumN (k + 1) fun i => (nth x.2 i).2.length : Nat) : Int), ((k + 1 : Nat) : Int))) := by
   rw [gd.yes (by unfold I64; omega), gd.yes (by unfold I64; omega), es, addI]
  unfold p_spec_IndexOk_b2 locBad
  rw [dlt hk, cond_true, gd.yes (ixN hk)]
  simp only [Int.toNat_natCast]
  by_cases hz : (nth x.2 k).2.length = 0
  ·rw [decide_eq_true (show (((nth x.2 k).2.length : Int) = 0) by omega), decide_eq_true hz]; rfl
  ·rw [decide_eq_false (show ¬ (((nth x.2 k).2.length : Int) = 0) by omega), decide_eq_false hz, cond_false, bd.yes (e_spec_l11Ids x.1 _ h1 (fun n hn => (h2 n hn).1)), bd.yes (e_spec_l11Same _ _ (by unfold maxLen; omega))]
   by_cases hi : (nth x.2 k).2 = idsN x.1 (nth x.2 k).1 x.1.length
   ·rw [decide_eq_true hi, Bool.not_true, cond_false]
    by_cases h0 : 0 < k
    ·have e1 : (k : Int) - 1 = ((k - 1 : Nat) : Int) := by omega
     rw [decide_eq_true (show (0 : Int) < (k : Int) by omega), cond_true, gd.yes (by unfold I64; omega), e1, gd.yes (ixN (show k - 1 < x.2.length by omega))]
     simp only [Int.toNat_natCast]
     rw [bd.yes (e_spec_l11Less _ _), decide_eq_true h0]
     cases ltTag (nth x.2 (k - 1)).1 (nth x.2 k).1 with
     | false => rfl
     | true => exact fin
    ·rw [decide_eq_false (show ¬ (0 : Int) < (k : Int) by omega), cond_false, decide_eq_false h0]
     exact fin
   ·rw [decide_eq_false hi]; rfl
 have e0 : ((n0 : Int), (0 : Int)) = ((n0 : Int) - ((sumN 0 fun i => (nth x.2 i).2.length : Nat) : Int), ((0 : Nat) : Int)) := by
  show _ = ((n0 : Int) - ((0 : Nat) : Int), ((0 : Nat) : Int)); simp
 rcases lp_scan (body := p_spec_IndexOk_b2 x) (fun k => ((n0 : Int) - ((sumN k fun i => (nth x.2 i).2.length : Nat) : Int), (k : Int))) x.2.length (locBad x.1 x.2) (.inl ((n0 : Int) - ((sumN x.2.length fun i => (nth x.2 i).2.length : Nat) : Int))) (fun _ => .inr false) (fun k hk hb h => by rw [step k hk, h]; rfl) (fun k hk hb h => by rw [step k hk, h]; rfl) (fun _ => by unfold p_spec_IndexOk_b2; rw [decide_eq_false (show ¬ ((x.2.length : Int) < (x.2.length : Int)) by omega)]; rfl) with ⟨h1, h2⟩ | ⟨h1, _, _, _, _, h2⟩
 ·rw [e0, h2, h1]; rfl
 ·rw [e0, h2, h1]; rfl
theorem sumL_N (P : List Post) : sumL P = sumN P.length fun i => (nth P i).2.length := by
 have : ∀ m, m ≤ P.length → sumL (P.take m) = sumN m fun i => (nth P i).2.length := by
  intro m
  induction m with
  | zero => intro _; rfl
  | succ m ih =>
   intro hm
   rw [take_succ_nth (by omega), sumL_append, ih (by omega)]
   show _ + ((nth P m).2.length + 0) = _
   rfl
 have h := this P.length (Nat.le_refl _)
 rwa [List.take_length] at h
theorem names_dist {names : List (List Tag)} (h : allN names.length (nmBad names) = true) : dist names := fun n hn => by
 obtain ⟨i, hi, rfl⟩ := List.mem_iff_getElem.1 hn
 rw [← nth_eq names i hi]
 exact nameOk_nodup (nmBad_ok (allN_iff.1 h i hi))
theorem e_spec_IndexOk (x : Index) (hw : Wt.w x.1 ≤ 4194304) (hp : postsW x.2) : p_spec_IndexOk x = some (indexB x) := by
 obtain ⟨h1, h2, h3⟩ := w_names hw
 unfold p_spec_IndexOk indexB namesB
 by_cases h6 : 6 < x.1.length
 ·rw [decide_eq_true (show (6 : Int) < (x.1.length : Int) by omega), cond_true, decide_eq_false (show ¬ ((x.1.length : Int) ≤ 6) by omega), Bool.and_false, Bool.false_and]
 ·rw [decide_eq_false (show ¬ (6 : Int) < (x.1.length : Int) by omega), cond_false, decide_eq_true (show ((x.1.length : Int) ≤ 6) by omega), Bool.and_true, bd.yes (e_spec_names x hw)]
  cases hall : allN x.1.length (nmBad x.1) with
  | false => rfl
  | true =>
   have hd := names_dist hall
   have hC := canon_posts hd
   show bd (lp (p_spec_IndexOk_b2 x) ((sumN x.1.length fun i => (nth x.1 i).length : Nat), 0)) _ = _
   rw [bd.yes (e_spec_posts x hw hp _ h3), Bool.true_and]
   have hsC : sumL (indexP x.1).2 = sumN x.1.length fun i => (nth x.1 i).length := by
    rw [← sumL_posts]
    exact sumL_perm (List.mergeSort_perm _ _)
   have hsP := sumL_N x.2
   cases hloc : allN x.2.length (locBad x.1 x.2) with
   | false =>
    have hne : x.2 ≠ (indexP x.1).2 := fun e => by
     have : allN x.2.length (locBad x.1 x.2) = true := allN_iff.2 fun k hk => by
      have hm : nth x.2 k ∈ (indexP x.1).2 := e ▸ nth_mem hk
      obtain ⟨i1, i2⟩ := hC.ids _ hm
      unfold locBad
      rw [decide_eq_false (fun h0 => i2 (List.eq_nil_of_length_eq_zero h0)), decide_eq_true i1]
      by_cases h0 : 0 < k
      ·have ho := hC.ord
       rw [← e, List.pairwise_iff_getElem] at ho
       have := ho (k - 1) k (by omega) hk (by omega)
       rw [← nth_eq x.2 (k - 1) (by omega), ← nth_eq x.2 k hk] at this
       rw [this]; simp
      ·rw [decide_eq_false h0]; rfl
     rw [hloc] at this; cases this
    rw [decide_eq_false hne]; rfl
   | true =>
    have hk := allN_iff.1 hloc
    have adj : ∀ i, i + 1 < x.2.length → ltTag (nth x.2 i).1 (nth x.2 (i + 1)).1 = true := fun i hi => by
     have := hk (i + 1) hi
     unfold locBad at this
     simp only [Nat.zero_lt_succ, decide_true, Bool.true_and, Nat.add_sub_cancel, Bool.or_eq_false_iff, Bool.not_eq_false'] at this
     exact this.2.2
    have lt : ∀ d i, i + d + 1 < x.2.length → ltTag (nth x.2 i).1 (nth x.2 (i + d + 1)).1 = true := by
     intro d
     induction d with
     | zero => intro i hi; exact adj i hi
     | succ d ih => intro i hi; exact ltTag_trans (ih i (by omega)) (adj (i + d + 1) (by omega))
    have ord : x.2.Pairwise fun a b => ltTag a.1 b.1 = true := by
     rw [List.pairwise_iff_getElem]
     intro i j hi hj hij
     obtain ⟨d, rfl⟩ : ∃ d, j = i + d + 1 := ⟨j - i - 1, by omega⟩
     have := lt d i hj
     rwa [nth_eq x.2 i hi, nth_eq x.2 _ hj] at this
    have ids : ∀ p ∈ x.2, p.2 = idsN x.1 p.1 x.1.length ∧ p.2 ≠ [] := fun p hp' => by
     obtain ⟨i, hi, rfl⟩ := List.mem_iff_getElem.1 hp'
     have := hk i hi
     unfold locBad at this
     simp only [Bool.or_eq_false_iff, decide_eq_false_iff_not, Bool.not_eq_false', decide_eq_true_eq] at this
     rw [nth_eq x.2 i hi] at this
     exact ⟨this.2.1, fun e => this.1 (by rw [e]; rfl)⟩
    show some (decide (((sumN x.1.length fun i => (nth x.1 i).length : Nat) : Int) - ((sumN x.2.length fun i => (nth x.2 i).2.length : Nat) : Int) = 0)) = _
    by_cases hE : x.2 = (indexP x.1).2
    ·have : sumL x.2 = sumL (indexP x.1).2 := by rw [← hE]
     rw [decide_eq_true hE, decide_eq_true (by omega)]
    ·have hne : sumL x.2 ≠ sumL (indexP x.1).2 := fun e => hE (canon_of_sum hC ord ids e)
     rw [decide_eq_false hE, decide_eq_false (by omega)]
theorem indexB_canon {x : Index} (h : indexB x = true) : Canon x.1 x.2 ∧ allN x.1.length (nmBad x.1) = true ∧ x.1.length ≤ 6 ∧ x.2 = (indexP x.1).2 := by
 unfold indexB namesB at h
 simp only [Bool.and_eq_true, decide_eq_true_eq] at h
 obtain ⟨⟨h1, h2⟩, h3⟩ := h
 exact ⟨by rw [h3]; exact canon_posts (names_dist h1), h1, by omega, h3⟩
def tg (i j : Nat) : Tag := (s1 (97 + (i : Int)), s1 (112 + (j : Int)))
def cell (names : List (List Tag)) (i j : Nat) : List Post := if 0 < (idsN names (tg i j) names.length).length then [(tg i j, idsN names (tg i j) names.length)] else []
def rowE (names : List (List Tag)) (i : Nat) : Nat → List Post
 | 0 => []
 | j + 1 => rowE names i j ++ cell names i j
def allE (names : List (List Tag)) : Nat → List Post
 | 0 => []
 | i + 1 => allE names i ++ rowE names i 11
theorem rowE_succ (names : List (List Tag)) (i j : Nat) : rowE names i (j + 1) = rowE names i j ++ cell names i j := rfl
theorem allE_succ (names : List (List Tag)) (i : Nat) : allE names (i + 1) = allE names i ++ rowE names i 11 := rfl
theorem cell_len (names : List (List Tag)) (i j : Nat) : (cell names i j).length ≤ 1 := by unfold cell; split <;> simp
theorem rowE_len (names : List (List Tag)) (i : Nat) : ∀ j, (rowE names i j).length ≤ j
 | 0 => Nat.le_refl _
 | j + 1 => by
  have := rowE_len names i j
  have := cell_len names i j
  rw [rowE_succ, List.length_append]; omega
theorem allE_len (names : List (List Tag)) : ∀ i, (allE names i).length ≤ 11 * i
 | 0 => Nat.le_refl _
 | i + 1 => by
  have := allE_len names i
  have := rowE_len names i 11
  rw [allE_succ, List.length_append]; omega
theorem cell_mem {names : List (List Tag)} {i j : Nat} {p : Post} (h : p ∈ cell names i j) : p = (tg i j, idsN names (tg i j) names.length) ∧ idsN names (tg i j) names.length ≠ [] := by
 unfold cell at h
 split at h
 next hp => exact ⟨List.mem_singleton.1 h, fun e => by rw [e] at hp; cases hp⟩
 next => cases h
theorem rowE_mem {names : List (List Tag)} {i : Nat} {p : Post} : ∀ {j}, p ∈ rowE names i j → ∃ k, k < j ∧ p ∈ cell names i k
 | 0, h => nomatch h
 | j + 1, h => by
  rcases List.mem_append.1 h with h | h
  ·obtain ⟨k, hk, h⟩ := rowE_mem h
   exact ⟨k, by omega, h⟩
  ·exact ⟨j, Nat.lt_succ_self _, h⟩
theorem allE_mem {names : List (List Tag)} {p : Post} : ∀ {i}, p ∈ allE names i → ∃ k j, k < i ∧ j < 11 ∧ p ∈ cell names k j
 | 0, h => nomatch h
 | i + 1, h => by
  rcases List.mem_append.1 h with h | h
  ·obtain ⟨k, j, hk, hj, h⟩ := allE_mem h
   exact ⟨k, j, by omega, hj, h⟩
  ·obtain ⟨j, hj, h⟩ := rowE_mem h
   exact ⟨i, j, Nat.lt_succ_self _, hj, h⟩
theorem rowE_in {names : List (List Tag)} {i k : Nat} {p : Post} (h : p ∈ cell names i k) : ∀ {j}, k < j → p ∈ rowE names i j
 | 0, hk => absurd hk (Nat.not_lt_zero _)
 | j + 1, hk => by
  rw [rowE_succ, List.mem_append]
  by_cases e : k = j
  ·subst e; exact .inr h
  ·exact .inl (rowE_in h (by omega))
theorem allE_in {names : List (List Tag)} {i j : Nat} {p : Post} (hj : j < 11) (h : p ∈ cell names i j) : ∀ {n}, i < n → p ∈ allE names n
 | 0, hk => absurd hk (Nat.not_lt_zero _)
 | n + 1, hk => by
  rw [allE_succ, List.mem_append]
  by_cases e : i = n
  ·subst e; exact .inr (rowE_in h hj)
  ·exact .inl (allE_in hj h (by omega))
theorem s1_lt {a b : Nat} (h : a < b) (hb : b < 128) : sless (s1 (a : Int)) (s1 (b : Int)) = true := by
 show sless ⟨#[UInt8.ofNat a]⟩ ⟨#[UInt8.ofNat b]⟩ = true
 rw [sl_one, decide_eq_true_eq, UInt8.lt_iff_toNat_lt]
 simp only [UInt8.toNat_ofNat']
 omega
theorem tg_lt {i j i' j' : Nat} (_ : i < 4) (_ : j < 11) (hi' : i' < 4) (hj' : j' < 11) (h : i < i' ∨ (i = i' ∧ j < j')) : ltTag (tg i j) (tg i' j') = true := by
 unfold ltTag tg
 rcases h with h | ⟨rfl, h⟩
 ·have := s1_lt (show 97 + i < 97 + i' by omega) (by omega)
  rw [show ((97 + i : Nat) : Int) = 97 + (i : Int) by omega, show ((97 + i' : Nat) : Int) = 97 + (i' : Int) by omega] at this
  rw [this]; rfl
 ·have := s1_lt (show 112 + j < 112 + j' by omega) (by omega)
  rw [show ((112 + j : Nat) : Int) = 112 + (j : Int) by omega, show ((112 + j' : Nat) : Int) = 112 + (j' : Int) by omega] at this
  rw [this]; simp
theorem rowE_ord {names : List (List Tag)} {i : Nat} (hi : i < 4) : ∀ {j}, j ≤ 11 → (rowE names i j).Pairwise fun x y => ltTag x.1 y.1 = true
 | 0, _ => List.Pairwise.nil
 | j + 1, hj => by
  rw [rowE_succ, List.pairwise_append]
  refine ⟨rowE_ord hi (by omega), ?_, fun p hp q hq => ?_⟩
  ·unfold cell; split <;> simp
  ·obtain ⟨k, hk, hp⟩ := rowE_mem hp
   rw [(cell_mem hp).1, (cell_mem hq).1]
   exact tg_lt hi (by omega) hi (by omega) (.inr ⟨rfl, hk⟩)
theorem allE_ord {names : List (List Tag)} : ∀ {i}, i ≤ 4 → (allE names i).Pairwise fun x y => ltTag x.1 y.1 = true
 | 0, _ => List.Pairwise.nil
 | i + 1, hi => by
  rw [allE_succ, List.pairwise_append]
  refine ⟨allE_ord (by omega), rowE_ord (by omega) (Nat.le_refl _), fun p hp q hq => ?_⟩
  obtain ⟨k, j, hk, hj, hp⟩ := allE_mem hp
  obtain ⟨j', hj', hq⟩ := rowE_mem hq
  rw [(cell_mem hp).1, (cell_mem hq).1]
  exact tg_lt (by omega) hj (by omega) hj' (.inl hk)
theorem tg_of {t : Tag} (h : tagB t = true) : ∃ i j, i < 4 ∧ j < 11 ∧ t = tg i j := by
 unfold tagB at h
 simp only [Bool.and_eq_true, decide_eq_true_eq, inn] at h
 obtain ⟨h1, h2, ⟨h3, h4⟩, h5, h6⟩ := h
 refine ⟨(sb t.1 0).toNat - 97, (sb t.2 0).toNat - 112, by omega, by omega, ?_⟩
 have e1 : t.1 = s1 (97 + (((sb t.1 0).toNat - 97 : Nat) : Int)) := by
  have : (97 + (((sb t.1 0).toNat - 97 : Nat) : Int)).toNat = (sb t.1 0).toNat := by omega
  unfold s1
  rw [this, UInt8.ofNat_toNat]
  exact ba_one h1
 have e2 : t.2 = s1 (112 + (((sb t.2 0).toNat - 112 : Nat) : Int)) := by
  have : (112 + (((sb t.2 0).toNat - 112 : Nat) : Int)).toNat = (sb t.2 0).toNat := by omega
  unfold s1
  rw [this, UInt8.ofNat_toNat]
  exact ba_one h2
 exact Prod.ext e1 e2
theorem idsN_name {names : List (List Tag)} {t : Tag} : ∀ {m}, idsN names t m ≠ [] → ∃ k, k < m ∧ t ∈ nth names k
 | 0, h => absurd rfl h
 | m + 1, h => by
  rw [idsN_succ] at h
  cases hc : hasT (nth names m) t with
  | true => exact ⟨m, Nat.lt_succ_self _, hasT_iff.1 hc⟩
  | false =>
   rw [if_neg (by rw [hc]; simp), List.append_nil] at h
   obtain ⟨k, hk, h⟩ := idsN_name h
   exact ⟨k, by omega, h⟩
def goodN (names : List (List Tag)) : Prop := ∀ k, k < names.length → nameOk (nth names k) = true
theorem goodN_dist {names : List (List Tag)} (h : goodN names) : dist names := fun n hn => by
 obtain ⟨i, hi, rfl⟩ := List.mem_iff_getElem.1 hn
 rw [← nth_eq names i hi]
 exact nameOk_nodup (h i hi)
theorem canon_all {names : List (List Tag)} (h : goodN names) : Canon names (allE names 4) := by
 refine ⟨allE_ord (Nat.le_refl _), fun p hp => ?_, fun t ht => ?_⟩
 ·obtain ⟨i, j, _, _, hp⟩ := allE_mem hp
  obtain ⟨e1, e2⟩ := cell_mem hp
  rw [e1]; exact ⟨rfl, e2⟩
 ·obtain ⟨k, hk, hm⟩ := idsN_name ht
  obtain ⟨i, j, hi, hj, rfl⟩ := tg_of (nameOk_tags (h k hk) t hm)
  refine ⟨(tg i j, idsN names (tg i j) names.length), allE_in hj ?_ hi, rfl⟩
  unfold cell
  rw [if_pos (List.length_pos_iff.2 ht)]
  exact List.mem_singleton.2 rfl
theorem e_rowE (names : List (List Tag)) (i : Nat) (hi : i < 4) (acc : List Post) (ha : acc.length ≤ 44) (h1 : names.length ≤ 4194304) (h2 : ∀ n ∈ names, n.length ≤ 4194304) : lp (p_spec_l11Of_b1 names (acc, 97 + (i : Int))) (acc, 112) = some (acc ++ rowE names i 11) := by
 have h0 : (acc, (112 : Int)) = (acc ++ rowE names i 0, (112 : Int) + ((0 : Nat) : Int)) := by rw [show rowE names i 0 = [] from rfl, List.append_nil]; rfl
 rw [h0, lp_for (body := p_spec_l11Of_b1 names (acc, 97 + (i : Int))) (fun j => (acc ++ rowE names i j, (112 : Int) + (j : Int))) 11 (acc ++ rowE names i 11) (fun j hj => by
  have hr := rowE_len names i j
  have ea : (112 : Int) + (j : Int) + 1 = 112 + ((j + 1 : Nat) : Int) := by omega
  unfold p_spec_l11Of_b1
  rw [decide_eq_true (show (112 : Int) + (j : Int) ≤ 122 by omega), cond_true, gd.yes (show asc (97 + (i : Int)) by unfold asc; omega), gd.yes (show asc (112 + (j : Int)) by unfold asc; omega), rowE_succ]
  show bd (p_spec_l11Ids names (tg i j)) _ = _
  rw [bd.yes (e_spec_l11Ids names (tg i j) h1 h2)]
  unfold cell
  by_cases hz : 0 < (idsN names (tg i j) names.length).length
  ·rw [decide_eq_true (show (0 : Int) < ((idsN names (tg i j) names.length).length : Int) by omega), cond_true, if_pos hz, gd.yes (by rw [List.length_append]; unfold room; omega), gd.yes (by unfold I32; omega), List.append_assoc, ea]; rfl
  ·rw [decide_eq_false (show ¬ (0 : Int) < ((idsN names (tg i j) names.length).length : Int) by omega), cond_false, if_neg hz, gd.yes (by unfold I32; omega), List.append_nil, ea]) (by
  unfold p_spec_l11Of_b1; rw [decide_eq_false (show ¬ ((112 : Int) + ((11 : Nat) : Int) ≤ 122) by omega)]; rfl)]
theorem good_of {x : Index} (h : indexB x = true) : goodN x.1 := fun k hk => nmBad_ok (allN_iff.1 (indexB_canon h).2.1 k hk)
theorem sumN_c {f : Nat → Nat} {c : Nat} : ∀ {n}, (∀ i, i < n → f i ≤ c) → sumN n f ≤ n * c
 | 0, _ => Nat.zero_le _
 | n + 1, h => by
  have h1 := sumN_c (n := n) fun i hi => h i (by omega)
  have h2 := h n (Nat.lt_succ_self _)
  show sumN n f + f n ≤ _
  rw [Nat.add_mul]; omega
theorem indexB_P {names : List (List Tag)} (h : namesB names = true) : indexB (indexP names) = true := by
 unfold indexB
 rw [show (indexP names).1 = names from rfl, h, decide_eq_true rfl]; rfl
theorem bd_swl {α β γ : Type} {f : α → Option γ} {g : β → Option γ} {e : α} : bd (some (.inl e)) (sw f g) = f e := rfl
theorem bd_swr {α β γ : Type} {f : α → Option γ} {g : β → Option γ} {e : β} : bd (some (.inr e)) (sw f g) = g e := rfl
def insI (id : Int) (o : List Row) (m : Sample) : List Row := if m.1 = id then ins m.2 o else o
def memR (mem : List Sample) (id : Int) (o : List Row) : List Row := mem.foldl (insI id) o
def parR (parts : List Part) (id : Int) : List Row := parts.foldl (fun o p => mg o (partOf p id)) []
def rowsS (s : Store) (id : Int) : List Row := memR s.2.2 id (parR s.2.1 id)
theorem partOf_ok (p : Part) (id : Int) : blockOk (partOf p id) = true := by
 unfold partOf
 cases h : partOk p with
 | true => rw [if_pos rfl]; exact rowsOf_ok h id
 | false => rw [if_neg (by simp)]; rfl
theorem partOf_24 (p : Part) (id : Int) : (partOf p id).length ≤ 24 := (blockOk_iff.1 (partOf_ok p id)).2.2
theorem parF_len (id : Int) : ∀ (l : List Part) (o : List Row), (l.foldl (fun o p => mg o (partOf p id)) o).length ≤ o.length + 24 * l.length
 | [], _ => Nat.le_refl _
 | p :: l, o => by
  have h1 := parF_len id l (mg o (partOf p id))
  have h2 := (mg_len (partOf p id) o).2
  have h3 := partOf_24 p id
  rw [List.foldl_cons, List.length_cons]; omega
theorem parR_len (l : List Part) (id : Int) : (parR l id).length ≤ 24 * l.length := by
 have := parF_len id l []
 rw [List.length_nil] at this
 unfold parR; omega
theorem parF_asc (id : Int) : ∀ (l : List Part) (o : List Row), Asc o → Asc (l.foldl (fun o p => mg o (partOf p id)) o)
 | [], _, h => h
 | _ :: l, _, h => parF_asc id l _ (mg_asc h)
theorem parR_asc (l : List Part) (id : Int) : Asc (parR l id) := parF_asc id l [] nil_asc
theorem insI_len (id : Int) (o : List Row) (m : Sample) : (insI id o m).length ≤ o.length + 1 := by
 unfold insI
 split
 ·exact (ins_len m.2 o).2
 ·omega
theorem insI_asc {id : Int} {o : List Row} (m : Sample) (h : Asc o) : Asc (insI id o m) := by
 unfold insI
 split
 ·exact ins_asc m.2 h
 ·exact h
theorem memR_len (id : Int) : ∀ (l : List Sample) (o : List Row), (memR l id o).length ≤ o.length + l.length
 | [], _ => Nat.le_refl _
 | m :: l, o => by
  have h1 := memR_len id l (insI id o m)
  have h2 := insI_len id o m
  unfold memR at h1 ⊢
  rw [List.foldl_cons, List.length_cons]; omega
theorem memR_asc (id : Int) : ∀ (l : List Sample) (o : List Row), Asc o → Asc (memR l id o)
 | [], _, h => h
 | m :: l, _, h => memR_asc id l _ (insI_asc m h)
theorem memR_take (l : List Sample) (id : Int) (o : List Row) {k : Nat} (hk : k < l.length) : memR (l.take (k + 1)) id o = insI id (memR (l.take k) id o) (nth l k) := foldl_take _ _ _ _ hk
theorem e_rowsIn (r a : List Row) (ha : a.length ≤ 500) (hr : r.length ≤ 100) : lp (p_impl_Store_rows_b1 r) (a, 0) = some (mg a r) := by
 have := lp_for (body := p_impl_Store_rows_b1 r) (fun k => (mg a (r.take k), (k : Int))) r.length (mg a r) (fun k hk => by
  have hl := mg_take_len a r k (by omega)
  unfold p_impl_Store_rows_b1
  rw [dlt hk, cond_true, gd.yes (ixN hk)]
  simp only [Int.toNat_natCast]
  rw [bd.yes (e_put _ (nth r k) (by omega)), gd.yes (i64S hk (by omega)), mg_take a r k hk, addI]) (by
  unfold p_impl_Store_rows_b1
  rw [decide_eq_false (show ¬ ((r.length : Int) < (r.length : Int)) by omega), cond_false, List.take_length])
 exact this
theorem e_impl_rows (s : Store) (id : Int) (hp : s.2.1.length ≤ 6) (hm : s.2.2.length ≤ 30) (hP : ∀ p ∈ s.2.1, Dp.ok p ∧ Wt.w p ≤ 1048576) : p_impl_Store_rows s id = some (rowsS s id) := by
 have h0 : lp (p_impl_Store_rows_b0 s id) (([] : List Row), 0) = some (parR s.2.1 id) :=
  lp_for (body := p_impl_Store_rows_b0 s id) (fun k => ((s.2.1.take k).foldl (fun o p => mg o (partOf p id)) [], (k : Int))) s.2.1.length (parR s.2.1 id) (fun k hk => by
   have hl := parR_len (s.2.1.take k) id
   rw [List.length_take, Nat.min_eq_left (by omega)] at hl
   unfold parR at hl
   obtain ⟨k1, k2⟩ := hP _ (nth_mem hk)
   have h24 := partOf_24 (nth s.2.1 k) id
   unfold p_impl_Store_rows_b0
   rw [dlt hk, cond_true, gd.yes (ixN hk)]
   simp only [Int.toNat_natCast]
   rw [bd.yes (e_impl_PartOf (nth s.2.1 k) id k1 k2), bd.yes (e_rowsIn _ _ (by omega) (by omega)), gd.yes (i64S hk (by omega)), foldl_take _ _ _ _ hk, addI]) (by
   unfold p_impl_Store_rows_b0
   rw [decide_eq_false (show ¬ ((s.2.1.length : Int) < (s.2.1.length : Int)) by omega), cond_false, List.take_length]; rfl)
 have hpl := parR_len s.2.1 id
 have h1 : lp (p_impl_Store_rows_b2 s id) (parR s.2.1 id, 0) = some (rowsS s id) :=
  lp_for (body := p_impl_Store_rows_b2 s id) (fun k => (memR (s.2.2.take k) id (parR s.2.1 id), (k : Int))) s.2.2.length (rowsS s id) (fun k hk => by
   have hl := memR_len id (s.2.2.take k) (parR s.2.1 id)
   rw [List.length_take, Nat.min_eq_left (by omega)] at hl
   unfold p_impl_Store_rows_b2
   rw [dlt hk, cond_true, gd.yes (ixN hk), memR_take _ _ _ hk]
   simp only [Int.toNat_natCast]
   by_cases he : (nth s.2.2 k).1 = id
   ·rw [decide_eq_true he, cond_true, bd.yes (e_put _ _ (by omega)), gd.yes (i64S hk (by omega)), addI]
    unfold insI; rw [if_pos he]
   ·rw [decide_eq_false he, cond_false, gd.yes (i64S hk (by omega)), addI]
    unfold insI; rw [if_neg he]) (by
   unfold p_impl_Store_rows_b2
   rw [decide_eq_false (show ¬ ((s.2.2.length : Int) < (s.2.2.length : Int)) by omega), cond_false, List.take_length]; rfl)
 unfold p_impl_Store_rows
 rw [bd.yes h0, bd.yes h1]
theorem e_l2M (a b : List Row) (hab : a.length + b.length ≤ 100000) (h : Asc a) : p_spec_l2Merge a b = some (mg a b) := by
 unfold p_spec_l2Merge
 have g1 : room (([] : List Row).length + a.length) := by rw [List.length_nil]; unfold room; omega
 rw [gd.yes g1, List.nil_append]
 have : lp (p_spec_l2Merge_b0 b) (a, 0) = some (mg a b) := lp_for (body := p_spec_l2Merge_b0 b) (fun k => (mg a (b.take k), (k : Int))) b.length (mg a b) (fun k hk => by
  unfold p_spec_l2Merge_b0
  have hl := mg_take_len a b k (by omega)
  rw [dlt hk, cond_true, gd.yes (ixN hk)]
  simp only [Int.toNat_natCast]
  rw [bd.yes (e_l2Put _ (nth b k) (by omega)), l2_ins _ _ (mg_asc h), gd.yes (i64S hk (by omega)), mg_take a b k hk, addI]) (by
  unfold p_spec_l2Merge_b0
  rw [decide_eq_false (show ¬ ((b.length : Int) < (b.length : Int)) by omega), cond_false, List.take_length])
 rw [bd.yes this]
theorem partOf_yes {p : Part} (h : partOk p = true) (id : Int) : partOf p id = rowsOf p id := by unfold partOf; rw [if_pos h]
theorem e_spec_rows (s : Store) (id : Int) (hp : s.2.1.length ≤ 6) (hm : s.2.2.length ≤ 30) (hP : ∀ p ∈ s.2.1, Dp.ok p ∧ Wt.w p ≤ 1048576) (hK : ∀ p ∈ s.2.1, partOk p = true) : p_spec_l13Rows s id = some (rowsS s id) := by
 have h0 : lp (p_spec_l13Rows_b0 s id) (([] : List Row), 0) = some (parR s.2.1 id) :=
  lp_for (body := p_spec_l13Rows_b0 s id) (fun k => ((s.2.1.take k).foldl (fun o p => mg o (partOf p id)) [], (k : Int))) s.2.1.length (parR s.2.1 id) (fun k hk => by
   have hl := parR_len (s.2.1.take k) id
   have hasc := parR_asc (s.2.1.take k) id
   rw [List.length_take, Nat.min_eq_left (by omega)] at hl
   unfold parR at hl hasc
   obtain ⟨k1, k2⟩ := hP _ (nth_mem hk)
   have hk3 := hK _ (nth_mem hk)
   have h24 := partOf_24 (nth s.2.1 k) id
   have hlen := partOk_len' hk3
   unfold p_spec_l13Rows_b0
   rw [dlt hk, cond_true, gd.yes (ixN hk)]
   simp only [Int.toNat_natCast]
   rw [bd.yes (e_l12Of (nth s.2.1 k) id k1 hlen), ← partOf_yes hk3 id, bd.yes (e_l2M _ _ (by omega) hasc), gd.yes (i64S hk (by omega)), foldl_take _ _ _ _ hk, addI]) (by
   unfold p_spec_l13Rows_b0
   rw [decide_eq_false (show ¬ ((s.2.1.length : Int) < (s.2.1.length : Int)) by omega), cond_false, List.take_length]; rfl)
 have hpl := parR_len s.2.1 id
 have h1 : lp (p_spec_l13Rows_b1 s id) (parR s.2.1 id, 0) = some (rowsS s id) :=
  lp_for (body := p_spec_l13Rows_b1 s id) (fun k => (memR (s.2.2.take k) id (parR s.2.1 id), (k : Int))) s.2.2.length (rowsS s id) (fun k hk => by
   have hl := memR_len id (s.2.2.take k) (parR s.2.1 id)
   have hasc := memR_asc id (s.2.2.take k) (parR s.2.1 id) (parR_asc _ _)
   rw [List.length_take, Nat.min_eq_left (by omega)] at hl
   unfold p_spec_l13Rows_b1
   rw [dlt hk, cond_true, gd.yes (ixN hk), memR_take _ _ _ hk]
   simp only [Int.toNat_natCast]
   by_cases he : (nth s.2.2 k).1 = id
   ·rw [decide_eq_true he, cond_true, bd.yes (e_l2Put _ _ (by omega)), l2_ins _ _ hasc, gd.yes (i64S hk (by omega)), addI]
    unfold insI; rw [if_pos he]
   ·rw [decide_eq_false he, cond_false, gd.yes (i64S hk (by omega)), addI]
    unfold insI; rw [if_neg he]) (by
   unfold p_spec_l13Rows_b1
   rw [decide_eq_false (show ¬ ((s.2.2.length : Int) < (s.2.2.length : Int)) by omega), cond_false, List.take_length]; rfl)
 unfold p_spec_l13Rows
 rw [bd.yes h0, bd.yes h1]
theorem e_Max (l : List Int) (h : l.Pairwise (· < ·)) (h0 : 0 < l.length) (hl : l.length ≤ 1048576) : p_slices_Max_int_int l = some (nth l (l.length - 1)) := by
 unfold p_slices_Max_int_int
 rw [decide_eq_false (show ¬ ((l.length : Int) < 1) by omega), cond_false, gd.yes (show ix 0 l.length by unfold ix; omega)]
 have : lp (p_slices_Max_int_int_b0 l) (nth l 0, ((0 : Nat) : Int) + 1) = some (nth l (l.length - 1)) := lp_for (body := p_slices_Max_int_int_b0 l) (fun k => (nth l k, (k : Int) + 1)) (l.length - 1) (nth l (l.length - 1)) (fun k hk => by
  have hk1 : k + 1 < l.length := by omega
  have hlt : nth l k < nth l (k + 1) := by
   rw [nth_eq l k (by omega), nth_eq l (k + 1) hk1]
   exact List.pairwise_iff_getElem.1 h k (k + 1) (by omega) hk1 (by omega)
  unfold p_slices_Max_int_int_b0
  rw [decide_eq_true (show (k : Int) + 1 < (l.length : Int) by omega), cond_true, addI, gd.yes (ixN hk1), gd.yes (show I64 (((k + 1 : Nat) : Int) + 1) by unfold I64; omega)]
  simp only [Int.toNat_natCast]
  rw [show max (nth l k) (nth l (k + 1)) = nth l (k + 1) by omega]) (by
  unfold p_slices_Max_int_int_b0
  rw [decide_eq_false (show ¬ (((l.length - 1 : Nat) : Int) + 1 < (l.length : Int)) by omega), cond_false])
 have e1 : ((0 : Nat) : Int) + 1 = 1 := rfl
 rw [e1] at this
 rw [bd.yes this]
def lastId (p : Part) : Int := nth p.1 (p.1.length - 1)
def badP (n : Nat) (p : Part) : Bool := !partOk p || (decide (p.1.length = 0) || decide ((n : Int) < lastId p))
def badM (n : Nat) (m : Sample) : Bool := !inn 1 m.1 (n : Int) || !rowOk m.2
def badR (s : Store) (k : Nat) : Bool := decide (24 < (rowsS s ((k : Int) + 1)).length)
def storeB (s : Store) : Bool := indexB s.1 && (decide (s.2.1.length ≤ 6) && (decide (s.2.2.length ≤ 20) && (allN s.2.1.length (fun k => badP s.1.1.length (nth s.2.1 k)) && (allN s.2.2.length (fun k => badM s.1.1.length (nth s.2.2 k)) && allN s.1.1.length (badR s)))))
structure okS (s : Store) : Prop where
 w1 : Wt.w s.1.1 ≤ 4194304
 w2 : postsW s.1.2
 pl : s.2.1.length ≤ 1048576
 ml : s.2.2.length ≤ 1048576
 p : ∀ p ∈ s.2.1, Dp.ok p ∧ Wt.w p ≤ 1048576
theorem badP_ok {n : Nat} {p : Part} (h : badP n p = false) : partOk p = true ∧ 0 < p.1.length ∧ lastId p ≤ (n : Int) := by
 unfold badP at h
 simp only [Bool.or_eq_false_iff, Bool.not_eq_false', decide_eq_false_iff_not] at h
 exact ⟨h.1, by omega, by omega⟩
theorem e_badP (n : Nat) (p : Part) (_ : Dp.ok p) (hl : p.1.length ≤ 1048576) (h1 : p_impl_PartOk p = some (partOk p)) : (bd (p_impl_PartOk p) fun r29 => cond (!r29) (some (true)) (cond (decide (((p.1).length : Int) = 0)) (some (true)) (bd (p_slices_Max_int_int (p.1)) fun r33 => some (decide ((n : Int) < r33))))) = some (badP n p) := by
 rw [bd.yes h1]
 unfold badP
 cases h : partOk p with
 | false => rfl
 | true =>
  rw [Bool.not_true, cond_false, Bool.false_or]
  by_cases h0 : p.1.length = 0
  ·rw [decide_eq_true (show (p.1.length : Int) = 0 by omega), cond_true, decide_eq_true h0]; rfl
  ·rw [decide_eq_false (show ¬ (p.1.length : Int) = 0 by omega), cond_false, decide_eq_false h0, bd.yes (e_Max p.1 (partOk_asc h) (by omega) hl)]; rfl
theorem e_impl_StoreOk (s : Store) (h : okS s) : p_impl_StoreOk s = some (storeB s) := by
 have hpl := h.pl
 have hml := h.ml
 unfold p_impl_StoreOk storeB
 rw [bd.yes (e_impl_IndexOk s.1 h.w1 h.w2)]
 cases hi : indexB s.1 with
 | false => rfl
 | true =>
  have hn6 := (indexB_canon hi).2.2.1
  rw [Bool.not_true, cond_false]
  by_cases h6 : s.2.1.length ≤ 6
  ·rw [decide_eq_false (show ¬ (6 : Int) < (s.2.1.length : Int) by omega), cond_false, decide_eq_true h6]
   by_cases h20 : s.2.2.length ≤ 20
   ·rw [decide_eq_false (show ¬ (20 : Int) < (s.2.2.length : Int) by omega), bd_some, cond_false, decide_eq_true h20, Bool.true_and, Bool.true_and, Bool.true_and]
    have hr0 : ∀ k, k < s.2.1.length → p_impl_StoreOk_b0 s (k : Int) = some (if badP s.1.1.length (nth s.2.1 k) then .inr (.inr false) else .inl ((k + 1 : Nat) : Int)) := fun k hk => by
     obtain ⟨k1, k2⟩ := h.p _ (nth_mem hk)
     have hl : (nth s.2.1 k).1.length ≤ Wt.w (nth s.2.1 k) := Nat.le_trans wL_le (Nat.le_add_right _ _)
     unfold p_impl_StoreOk_b0
     rw [dlt hk, cond_true, gd.yes (ixN hk)]
     simp only [Int.toNat_natCast]
     rw [bd.yes (e_badP s.1.1.length (nth s.2.1 k) k1 (by omega) (e_impl_PartOk _ k1)), gd.yes (i64S hk (by omega)), addI]
     cases badP s.1.1.length (nth s.2.1 k) <;> rfl
    rcases lp_scan (body := p_impl_StoreOk_b0 s) (fun k => (k : Int)) s.2.1.length (fun k => badP s.1.1.length (nth s.2.1 k)) (.inl ()) (fun _ => .inr false) (fun k hk _ h => by rw [hr0 k hk, h]; rfl) (fun k hk _ h => by rw [hr0 k hk, h]; rfl) (fun _ => by unfold p_impl_StoreOk_b0; rw [decide_eq_false (show ¬ ((s.2.1.length : Int) < (s.2.1.length : Int)) by omega)]; rfl) with ⟨a1, a2⟩ | ⟨a1, _, _, _, _, a2⟩
    ·rw [show (lp (p_impl_StoreOk_b0 s) 0) = _ from a2, bd_swl, a1, Bool.true_and]
     have hr1 : ∀ k, k < s.2.2.length → p_impl_StoreOk_b1 s (k : Int) = some (if badM s.1.1.length (nth s.2.2 k) then .inr (.inr false) else .inl ((k + 1 : Nat) : Int)) := fun k hk => by
      unfold p_impl_StoreOk_b1 badM
      rw [dlt hk, cond_true, gd.yes (ixN hk)]
      simp only [Int.toNat_natCast]
      rw [bd.yes (e_impl_within _ _ _), bd.yes (e_impl_rowOk _), gd.yes (i64S hk (by omega)), addI]
      cases inn 1 (nth s.2.2 k).1 (s.1.1.length : Int) <;> cases rowOk (nth s.2.2 k).2 <;> rfl
     rcases lp_scan (body := p_impl_StoreOk_b1 s) (fun k => (k : Int)) s.2.2.length (fun k => badM s.1.1.length (nth s.2.2 k)) (.inl ()) (fun _ => .inr false) (fun k hk _ h => by rw [hr1 k hk, h]; rfl) (fun k hk _ h => by rw [hr1 k hk, h]; rfl) (fun _ => by unfold p_impl_StoreOk_b1; rw [decide_eq_false (show ¬ ((s.2.2.length : Int) < (s.2.2.length : Int)) by omega)]; rfl) with ⟨b1, b2⟩ | ⟨b1, _, _, _, _, b2⟩
     ·rw [show (lp (p_impl_StoreOk_b1 s) 0) = _ from b2, bd_swl, b1, Bool.true_and]
      have hr2 : ∀ k, k < s.1.1.length → p_impl_StoreOk_b2 s ((k : Int) + 1) = some (if badR s k then .inr (.inr false) else .inl (((k + 1 : Nat) : Int) + 1)) := fun k hk => by
       unfold p_impl_StoreOk_b2 badR
       rw [decide_eq_true (show (k : Int) + 1 ≤ (s.1.1.length : Int) by omega), cond_true, bd.yes (e_impl_rows s _ h6 (by omega) h.p), gd.yes (show I64 ((k : Int) + 1 + 1) by unfold I64; omega)]
       by_cases hr : 24 < (rowsS s ((k : Int) + 1)).length
       ·rw [decide_eq_true (show (24 : Int) < ((rowsS s ((k : Int) + 1)).length : Int) by omega), decide_eq_true hr]; rfl
       ·rw [decide_eq_false (show ¬ (24 : Int) < ((rowsS s ((k : Int) + 1)).length : Int) by omega), decide_eq_false hr]
        have : (k : Int) + 1 + 1 = ((k + 1 : Nat) : Int) + 1 := by omega
        rw [this]; rfl
      rcases lp_scan (body := p_impl_StoreOk_b2 s) (fun k => (k : Int) + 1) s.1.1.length (badR s) (.inl ()) (fun _ => .inr false) (fun k hk _ h => by rw [hr2 k hk, h]; rfl) (fun k hk _ h => by rw [hr2 k hk, h]; rfl) (fun _ => by unfold p_impl_StoreOk_b2; rw [decide_eq_false (show ¬ ((s.1.1.length : Int) + 1 ≤ (s.1.1.length : Int)) by omega)]; rfl) with ⟨c1, c2⟩ | ⟨c1, _, _, _, _, c2⟩
      ·rw [show (lp (p_impl_StoreOk_b2 s) 1) = _ from c2, bd_swl, c1]
      ·rw [show (lp (p_impl_StoreOk_b2 s) 1) = _ from c2, bd_swr, c1]
     ·rw [show (lp (p_impl_StoreOk_b1 s) 0) = _ from b2, bd_swr, b1]; rfl
    ·rw [show (lp (p_impl_StoreOk_b0 s) 0) = _ from a2, bd_swr, a1]; rfl
   ·rw [decide_eq_true (show (20 : Int) < (s.2.2.length : Int) by omega), bd_some, cond_true, decide_eq_false h20]; rfl
  ·rw [decide_eq_true (show (6 : Int) < (s.2.1.length : Int) by omega), cond_true, decide_eq_false h6]; rfl
theorem e_l13Part (n : Nat) (p : Part) (hp : Dp.ok p) (hl : p.1.length ≤ 1048576) : p_spec_l13Part p (n : Int) = some (!badP n p) := by
 unfold p_spec_l13Part badP
 rw [bd.yes (e_spec_PartOk p hp)]
 cases h : partOk p with
 | false => rfl
 | true =>
  rw [cond_true, Bool.not_true, Bool.false_or]
  by_cases h0 : p.1.length = 0
  ·rw [decide_eq_false (show ¬ (0 : Int) < (p.1.length : Int) by omega), cond_false, decide_eq_true h0]; rfl
  ·have e1 : (p.1.length : Int) - 1 = ((p.1.length - 1 : Nat) : Int) := by omega
   rw [decide_eq_true (show (0 : Int) < (p.1.length : Int) by omega), cond_true, decide_eq_false h0, Bool.false_or, gd.yes (show I64 ((p.1.length : Int) - 1) by unfold I64; omega), e1, gd.yes (ixN (show p.1.length - 1 < p.1.length by omega)), bd_some, Int.toNat_natCast]
   by_cases hq : (n : Int) < lastId p
   ·have : ¬ nth p.1 (p.1.length - 1) ≤ (n : Int) := by unfold lastId at hq; omega
    rw [decide_eq_false this, decide_eq_true hq]; rfl
   ·have : nth p.1 (p.1.length - 1) ≤ (n : Int) := by unfold lastId at hq; omega
    rw [decide_eq_true this, decide_eq_false hq]; rfl
end Go.Proofs.YtonnpkdadcafcaaGreat
