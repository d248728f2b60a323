/- The walks and the plain laws, part 2: each function that the law reaches computes what its plain function tells, and what the plain functions answer. Conditions: lengths that memory can hold. -/
import Derived.Test.YtonnpkdadcafcaaGreatA1
namespace Go.Proofs.YtonnpkdadcafcaaGreat
open Go Go.Sx Tryz
theorem srBears {f : Nat} {B fn : Func} (h : prog.funcs[f]? = some fn) (hn : (fn.name == "runtime.NumGoroutine") = false) (e : fn = { B with name := fn.name }) : Bears prog f B := ⟨fn.name, hn, h.trans (congrArg some e)⟩
theorem srLays : SlLaysF0.n6 prog srRen := by
 constructor
 ·exact mixed
 ·exact srBears func164 (by kernel_rfl) (by kernel_rfl)
 ·exact srBears func188 (by kernel_rfl) (by kernel_rfl)
 ·exact func189.trans (congrArg some (by kernel_rfl))
 ·exact srBears func201 (by kernel_rfl) (by kernel_rfl)
 ·exact srBears func202 (by kernel_rfl) (by kernel_rfl)
 ·exact srBears func203 (by kernel_rfl) (by kernel_rfl)
 ·exact srBears func204 (by kernel_rfl) (by kernel_rfl)
 ·exact srBears func205 (by kernel_rfl) (by kernel_rfl)
 ·exact srBears func206 (by kernel_rfl) (by kernel_rfl)
 ·exact srBears func207 (by kernel_rfl) (by kernel_rfl)
 ·exact srBears func208 (by kernel_rfl) (by kernel_rfl)
 ·exact func209.trans (congrArg some (by kernel_rfl))
 ·exact func210.trans (congrArg some (by kernel_rfl))
 ·exact srBears func212 (by kernel_rfl) (by kernel_rfl)
 ·exact func213.trans (congrArg some (by kernel_rfl))
 ·exact func214.trans (congrArg some (by kernel_rfl))
 ·exact srBears func215 (by kernel_rfl) (by kernel_rfl)
 ·exact srBears func216 (by kernel_rfl) (by kernel_rfl)
 ·exact srBears func218 (by kernel_rfl) (by kernel_rfl)
 all_goals first | kernel_rfl | (intro _; kernel_rfl)
theorem ltH : ltOf cmH = (ltP : PostH → PostH → Bool) := by
 funext x y
 exact cmH_lt x y
theorem oneH (x : PostH) : ∀ v ∈ Flat.enc x, v.oneCell' = true := fun v hv => by
 have hv : v ∈ [Value.string x.1.1, .string x.1.2, x.2.1] := hv
 simp only [List.mem_cons, List.not_mem_nil, or_false] at hv
 rcases hv with rfl | rfl | rfl
 ·rfl
 ·rfl
 ·exact x.2.2
noncomputable def p_slices_SortFunc_Post_Post_indexOf_2 (v0 : List Post) : Option (List Post) := sortP v0
theorem c_slices_SortFunc_Post_Post_indexOf_2 {r : List Post} (v0 : List Post) (x_v0 : Option Addr × Nat) (n_v0 : Nat) (e_v0 : n_v0 = v0.length) (H : p_slices_SortFunc_Post_Post_indexOf_2 v0 = some r) : Fn' prog 164 #[.slice x_v0.1 n_v0 x_v0.2, .func (.func 165) #[] #[]] [] [tree (.slice x_v0.1 n_v0 x_v0.2) v0] (ι := Unit) (fun _ => .tuple #[]) (fun _ => []) (fun _ => [tree (.slice x_v0.1 n_v0 x_v0.2) r]) := by
 subst e_v0
 have H : sortP v0 = some r := H
 refine Fn'.sortN H ⟨⟨_, func164, by kernel_rfl, by kernel_rfl⟩⟩ fun l' hl => ?_
 have hm : v0.length ≤ 1073741824 := (gd.of H).1
 obtain ⟨r', h1, h2, h3⟩ := Fn'.sortK srLays (fun _ => rfl) (fun _ => by kernel_rfl) (fun _ => by kernel_rfl) oneH cmH (ltH ▸ ltP_swo) (fun x y => c_impl_indexOf_2 x y (e_cmpH x y)) l' (by omega) x_v0 ⟨⟨_, func164, by kernel_rfl, by kernel_rfl⟩⟩
 refine ⟨r', h1, h2.imp fun h => by rw [← ltH]; exact h, ?_⟩
 rw [hl] at h3; exact h3
noncomputable def p_impl_indexOf_b1 (v0 : (List (List Tag))) (Q13 : (List Post) × Int) (Q27 : (List Post) × Int) : Option (((List Post) × Int) ⊕ ((List Post))) := cond (decide (Q27.2 < ((nth v0 Q13.2.toNat).length : Int))) (gd (ix Q27.2 (nth v0 Q13.2.toNat).length) <| bd (p_slices_IndexFunc_Post_Post_indexOf_1 Q27.1 (nth (nth v0 Q13.2.toNat) Q27.2.toNat)) fun r38 => cond (decide (r38 < 0)) (gd (room (Q27.1.length + 1)) <| gd (ix (Q27.1.length : Int) (Q27.1 ++ [((nth (nth v0 Q13.2.toNat) Q27.2.toNat), ([]))]).length) <| gd (I64 (Q13.2 + 1)) <| gd (room (((nth (Q27.1 ++ [((nth (nth v0 Q13.2.toNat) Q27.2.toNat), ([]))]) ((Q27.1.length : Int).toNat)).2).length + 1)) <| gd (I64 (Q27.2 + 1)) <| some (.inl (((Q27.1 ++ [((nth (nth v0 Q13.2.toNat) Q27.2.toNat), ([]))]).set ((Q27.1.length : Int).toNat) (((nth (Q27.1 ++ [((nth (nth v0 Q13.2.toNat) Q27.2.toNat), ([]))]) ((Q27.1.length : Int).toNat)).1), (((nth (Q27.1 ++ [((nth (nth v0 Q13.2.toNat) Q27.2.toNat), ([]))]) ((Q27.1.length : Int).toNat)).2) ++ [Q13.2 + 1]))), Q27.2 + 1))) (gd (ix r38 Q27.1.length) <| gd (I64 (Q13.2 + 1)) <| gd (room (((nth Q27.1 r38.toNat).2).length + 1)) <| gd (I64 (Q27.2 + 1)) <| some (.inl ((Q27.1.set r38.toNat (((nth Q27.1 r38.toNat).1), (((nth Q27.1 r38.toNat).2) ++ [Q13.2 + 1]))), Q27.2 + 1)))) (some (.inr Q27.1))
noncomputable def p_impl_indexOf_b0 (v0 : (List (List Tag))) (Q13 : (List Post) × Int) : Option (((List Post) × Int) ⊕ ((List Post))) := cond (decide (Q13.2 < (v0.length : Int))) (gd (ix Q13.2 v0.length) <| bd (lp (p_impl_indexOf_b1 v0 Q13) (Q13.1, 0)) fun x23 => gd (I64 (Q13.2 + 1)) <| some (.inl (x23, Q13.2 + 1))) (some (.inr Q13.1))
noncomputable def p_impl_indexOf (v0 : (List (List Tag))) : Option (Index) := bd (p_impl_cloneNames v0) fun r3 => bd (lp (p_impl_indexOf_b0 v0) (([] : List Post), 0)) fun x9 => bd (p_slices_SortFunc_Post_Post_indexOf_2 x9) fun r62 => some (r3, r62)
theorem c_impl_indexOf {r : Index} (v0 : (List (List Tag))) (x_v0 : Option Addr × Nat) (H : p_impl_indexOf v0 = some r) : Fn' prog 116 #[.slice x_v0.1 v0.length x_v0.2] [imm (.slice x_v0.1 v0.length x_v0.2) v0] [] (ι := (Option Addr × Nat) × (Option Addr × Nat)) (fun x => .agg #[.slice x.1.1 r.1.length x.1.2, .slice x.2.1 r.2.length x.2.2]) (fun _ => []) (fun x => [tree (.slice x.1.1 r.1.length x.1.2) r.1, tree (.slice x.2.1 r.2.length x.2.2) r.2]) := by
 refine cof (args := [_]) func116 ntmps116 fun c => ?_
 unfold p_impl_indexOf at H
 refine bM aR fun X1 => (sr (f1 (cD ty38) fun g2 => (nl (sr (aF rfl (bdo H fun r3 h4 H => (f1 (cF (c_impl_cloneNames v0 x_v0 h4) (fun _ => (bF bG)) rfl (aC (aL (aS aR)) aO)) fun x5 => (f2 (e_lit0 Post dT ty183) fun a6 c7 => (aG (v := .agg #[.slice x5.1 r3.length x5.2, .slice a6 (([] : List Post).length) c7]) (p_buildS (vs := [(0, .slice x5.1 r3.length x5.2), (1, .slice a6 (([] : List Post).length) c7)]) (cs := #[.slice x5.1 r3.length x5.2, .slice a6 (([] : List Post).length) c7]) ty38 pl38 rfl rfl) ?_)))))))))
 refine f1 (cD ty38) fun g8 => (stb (cs' := [.slice x5.1 r3.length x5.2, .slice a6 (([] : List Post).length) c7]) ty38 cZ (nl (aD (sr (aF rfl (aG (bS 142 dS rfl) (aF (v := .int .i64 (0)) rfl (nl (bdo H fun x9 hx10 H => (dB (ι := Option Addr × Nat) (fun ψ => [(2, .pointer (some ⟨g2, 0, none⟩)), (3, .pointer (some ⟨g8, 0, none⟩))]) (fun ψ => [box g2 38 [.slice none 0 0, .slice none 0 0], tree (.slice x5.1 r3.length x5.2) r3, tree (.slice ψ.1 x9.length ψ.2) x9, box g8 38 [.slice x5.1 r3.length x5.2, .slice ψ.1 x9.length ψ.2]]) ?_ ?_))))))))))
 ·refine aQ (dE hx10 (a6, c7) (fun Q13 _ => [(2, .pointer (some ⟨g2, 0, none⟩)), (3, .pointer (some ⟨g8, 0, none⟩)), (13, .slice x_v0.1 v0.length x_v0.2), (14, .int .i64 ((v0.length : Int))), (15, .int .i64 (Q13.2))]) (fun Q13 z14 => [box g2 38 [.slice none 0 0, .slice none 0 0], tree (.slice x5.1 r3.length x5.2) r3, tree (.slice z14.1 Q13.1.length z14.2) Q13.1, box g8 38 [.slice x5.1 r3.length x5.2, .slice z14.1 Q13.1.length z14.2]]) (.cons dl3 (.cons dl2 (.cons dl1 (.cons aA .nil)))) ?_)
  rintro _ Q13 z14 t16 H1 hi17 hb18
  unfold p_impl_indexOf_b0 at H1
  refine sr (aG (cP rfl rfl) (nl (aD (cH H1 rfl (fun h21 H1 => ?_) (fun h21 H1 => ?_)))))
  ·refine bH (nT (aD (aQ (sr (aF rfl (gdo H1 fun h22 H1 => (aI (bW dS ty142 rfl rfl h22 rfl (aL (aT aR))) (aI (bZ (i := Q13.2.toNat) (j := 0) ty142 rfl (aL (aT aR)) h22.lt rfl) (aH rfl (aH rfl (nl ?_)))))))))))
   refine sr (aF rfl (aG (bS 172 dM rfl) (aF (v := .int .i64 (0)) rfl (nl (bdo H1 fun x23 hx24 H1 => (dB (ι := Option Addr × Nat) (fun ψ => [(2, .pointer (some ⟨g2, 0, none⟩)), (3, .pointer (some ⟨g8, 0, none⟩)), (13, .slice x_v0.1 v0.length x_v0.2), (14, .int .i64 ((v0.length : Int))), (15, .int .i64 (Q13.2))]) (fun ψ => [box g2 38 [.slice none 0 0, .slice none 0 0], tree (.slice x5.1 r3.length x5.2) r3, tree (.slice ψ.1 x23.length ψ.2) x23, box g8 38 [.slice x5.1 r3.length x5.2, .slice ψ.1 x23.length ψ.2]]) ?_ ?_))))))
   ·refine aQ (dE hx24 (z14.1, z14.2) (fun Q27 _ => [(2, .pointer (some ⟨g2, 0, none⟩)), (3, .pointer (some ⟨g8, 0, none⟩)), (4, .int .i64 (Q13.2)), (13, .slice x_v0.1 v0.length x_v0.2), (14, .int .i64 ((v0.length : Int))), (15, .int .i64 (Q13.2)), (20, .slice ((X1 Q13.2.toNat).1) ((nth v0 Q13.2.toNat).length) ((X1 Q13.2.toNat).2.1)), (21, .int .i64 (((nth v0 Q13.2.toNat).length : Int))), (22, .int .i64 (Q27.2))]) (fun Q27 z28 => [box g2 38 [.slice none 0 0, .slice none 0 0], tree (.slice x5.1 r3.length x5.2) r3, tree (.slice z28.1 Q27.1.length z28.2) Q27.1, box g8 38 [.slice x5.1 r3.length x5.2, .slice z28.1 Q27.1.length z28.2]]) (.cons aA (.cons aA (.cons aA (.cons aA .nil)))) ?_)
    rintro _ Q27 z28 t30 H2 hi31 hb32
    unfold p_impl_indexOf_b1 at H2
    refine sr (aG (cP rfl rfl) (nl (aD (cH H2 rfl (fun h35 H2 => ?_) (fun h35 H2 => ?_)))))
    ·refine bH (nT (aD (aQ (sr (gdo H2 fun h36 H2 => (aI (bW dM ty172 rfl rfl h36 rfl (aN (aL (aS (aW aR h22.lt))))) (aI (v := .agg #[.string ((nth (nth v0 Q13.2.toNat) Q27.2.toNat).1), .string ((nth (nth v0 Q13.2.toNat) Q27.2.toNat).2)]) (cA (i := Q27.2.toNat) ty172 rfl (aN (aL (aS (aW aR h22.lt)))) h36.lt) (f1 (cD ty172) fun g37 => (stb (cs' := [.string ((nth (nth v0 Q13.2.toNat) Q27.2.toNat).1), .string ((nth (nth v0 Q13.2.toNat) Q27.2.toNat).2)]) ty172 cZ (nl ?_))))))))))
     refine sr (aG (cB fa38_1 rfl rfl) (aI (bI ty36 rfl hs4 rfl) (aG (v := .func (.func 163) #[] #[.pointer (some ⟨g37, 0, none⟩)]) (p_mkfunc (vs := [.pointer (some ⟨g37, 0, none⟩)]) rfl rfl) (bdo H2 fun r38 h39 H2 => (aI (q_callC (c_slices_IndexFunc_Post_Post_indexOf_1 Q27.1 z28 g37 (nth (nth v0 Q13.2.toNat) Q27.2.toNat) h39) (Solo.box bG) rfl (.cons aA .nil) (aC (bL hs2) aO)) (aH rfl (nl (aD (sr (aF rfl (aG (cP rfl rfl) (nl ?_))))))))))))
     refine cH H2 rfl (fun h40 H2 => ?_) (fun h40 H2 => ?_)
     ·refine sr (aG (cB fa38_1 rfl rfl) (aI (bI ty36 rfl hs4 rfl) (aG (bS 183 dT rfl) (aH rfl (nl (Tr.nilT Int (aP (aG (cB fa38_1 rfl rfl) (aI (bI ty36 rfl hs5 rfl) (aI (bJ ty172 rfl hs1 rfl) ?_))))))))))
      refine aG (v := .agg #[.string ((nth (nth v0 Q13.2.toNat) Q27.2.toNat).1), .string ((nth (nth v0 Q13.2.toNat) Q27.2.toNat).2), .slice none 0 0]) (p_buildS (vs := [(0, .agg #[.string ((nth (nth v0 Q13.2.toNat) Q27.2.toNat).1), .string ((nth (nth v0 Q13.2.toNat) Q27.2.toNat).2)])]) (cs := #[.string ((nth (nth v0 Q13.2.toNat) Q27.2.toNat).1), .string ((nth (nth v0 Q13.2.toNat) Q27.2.toNat).2), .slice none 0 0]) ty183 pl183 rfl rfl) (f1 (e_lit (vs := [(0, .agg #[.string ((nth (nth v0 Q13.2.toNat) Q27.2.toNat).1), .string ((nth (nth v0 Q13.2.toNat) Q27.2.toNat).2), .slice none 0 0])]) [.string ((nth (nth v0 Q13.2.toNat) Q27.2.toNat).1), .string ((nth (nth v0 Q13.2.toNat) Q27.2.toNat).2), .slice none 0 0] dT ty183 rfl (by decide) (by decide) (by kernel_rfl)) fun g41 => (gdo H2 fun h44 H2 => (f2 (e_app1 (l := Q27.1) (α := Post) ((nth (nth v0 Q13.2.toNat) Q27.2.toNat), ([])) (((), ()), (none, 0)) dT ty183 rfl rfl (h44.b (by decide)) h44.x rfl (cW _) (.cons dl5 (.cons aA (.cons aA .nil)))) fun a42 c43 => (aG (cB fa38_1 rfl rfl) (stb (cs' := [.slice x5.1 r3.length x5.2, .slice a42 ((Q27.1 ++ [((nth (nth v0 Q13.2.toNat) Q27.2.toNat), ([]))]).length) c43]) ty36 up4 (nl (gdo H2 fun h45 H2 => (Tr.zoom (k := (Q27.1.length : Int).toNat) h45.lt (.cons aA .nil) fun x46 => ?_))))))))
      show Tr _ _ _ _ _ _ _ (hole (.slice a42 ((Q27.1 ++ [((nth (nth v0 Q13.2.toNat) Q27.2.toNat), ([]))]).length) c43) (Q27.1 ++ [((nth (nth v0 Q13.2.toNat) Q27.2.toNat), ([]))]) ((Q27.1.length : Int).toNat) [.string (((nth (Q27.1 ++ [((nth (nth v0 Q13.2.toNat) Q27.2.toNat), ([]))]) ((Q27.1.length : Int).toNat)).1).1), .string (((nth (Q27.1 ++ [((nth (nth v0 Q13.2.toNat) Q27.2.toNat), ([]))]) ((Q27.1.length : Int).toNat)).1).2), .slice x46.2.1 (((nth (Q27.1 ++ [((nth (nth v0 Q13.2.toNat) Q27.2.toNat), ([]))]) ((Q27.1.length : Int).toNat)).2).length) x46.2.2] :: tree (.slice x46.2.1 (((nth (Q27.1 ++ [((nth (nth v0 Q13.2.toNat) Q27.2.toNat), ([]))]) ((Q27.1.length : Int).toNat)).2).length) x46.2.2) ((nth (Q27.1 ++ [((nth (nth v0 Q13.2.toNat) Q27.2.toNat), ([]))]) ((Q27.1.length : Int).toNat)).2) :: _)
      refine dG [(8, .int .i64 ((Q27.1.length : Int))), (2, .pointer (some ⟨g2, 0, none⟩)), (3, .pointer (some ⟨g8, 0, none⟩)), (4, .int .i64 (Q13.2)), (13, .slice x_v0.1 v0.length x_v0.2), (14, .int .i64 ((v0.length : Int))), (15, .int .i64 (Q13.2)), (20, .slice ((X1 Q13.2.toNat).1) ((nth v0 Q13.2.toNat).length) ((X1 Q13.2.toNat).2.1)), (21, .int .i64 (((nth v0 Q13.2.toNat).length : Int))), (22, .int .i64 (Q27.2))] 1 [0, 1, 2, 3, 4, 5, 6, 7, 8, 9, 10, 11, 12, 13, 14, 15] [11, 12, 15] [] mixed (by kernel_rfl) (by decide) dI ⟨rfl, rfl, rfl, rfl, rfl, rfl, rfl, rfl, rfl, rfl, trivial⟩ rfl okNil (w_p rfl (cB fa38_1 rfl rfl) ?_)
      refine w_o rfl (fun F => (bI ty36 rfl (hs5.app F) rfl)) (w_p rfl (aE rfl) (w_p rfl (cB fa38_1 rfl rfl) ?_))
      refine w_o rfl (fun F => (bI ty36 rfl (hs5.app F) rfl)) (w_p rfl (aE rfl) ?_)
      refine w_o (v := elp a42 (((Q27.1.length : Int).toNat) * Enc.sz Post + 0)) rfl (fun F => (q_ixH (k := (Q27.1.length : Int).toNat) dT ty183 rfl rfl h45 rfl (aB.app F))) ?_
      refine w_o (v := elp a42 (((Q27.1.length : Int).toNat) * Enc.sz Post + 2)) rfl (fun F => (q_faH (j := 0) (i := (Q27.1.length : Int).toNat) fa183_1 rfl (aB.app F) rfl)) ?_
      refine w_o (v := .slice x46.2.1 (((nth (Q27.1 ++ [((nth (nth v0 Q13.2.toNat) Q27.2.toNat), ([]))]) ((Q27.1.length : Int).toNat)).2).length) x46.2.2) rfl (fun F => (q_ldH (i := (Q27.1.length : Int).toNat) (j := 2) ty23 rfl (aB.app F) rfl)) (w_p rfl (aE rfl) (gdo H2 fun h47 H2 => (w_p rfl (bR rfl rfl h47) (cJ rfl (by decide) rfl cN rfl (n_lit (vs := [(0, .int .i64 (Q13.2 + 1))]) [.int .i64 (Q13.2 + 1)] dP ty3 rfl (by decide) (by decide) (by kernel_rfl)) ?_))))
      rintro _ _ _ ⟨g48, rfl, rfl, rfl⟩
      refine ⟨(bV rfl rfl (fun F => (q_ldH (i := (Q27.1.length : Int).toNat) (j := 2) ty23 rfl (hs1.app F) rfl)) (bV rfl rfl (fun F => (q_faH (j := 0) (i := (Q27.1.length : Int).toNat) fa183_1 rfl (hs1.app F) rfl)) (bV rfl rfl (fun F => (q_ixH (k := (Q27.1.length : Int).toNat) dT ty183 rfl rfl h45 rfl (hs1.app F))) (bV rfl rfl (fun F => (bI ty36 rfl ((hs5t hs1).app F) rfl)) (bV rfl rfl (fun F => (bI ty36 rfl ((hs5t hs1).app F) rfl)) bU))))), ?_⟩
      refine gdo H2 fun h51 H2 => (cJ rfl (by decide) rfl cN rfl (n_app1 (l := (nth (Q27.1 ++ [((nth (nth v0 Q13.2.toNat) Q27.2.toNat), ([]))]) ((Q27.1.length : Int).toNat)).2) (α := Int) (Q13.2 + 1) () dP ty3 rfl rfl (h51.b (by decide)) h51.x rfl (cW _) (.cons dl2 (.cons aA .nil))) ?_)
      rintro _ _ _ ⟨a49, c50, rfl, rfl, rfl⟩
      refine ⟨(aM (by kernel_rfl) (bV rfl rfl (fun F => (q_faH (j := 0) (i := (Q27.1.length : Int).toNat) fa183_1 rfl (hs1.app F) rfl)) (bV rfl rfl (fun F => (q_ixH (k := (Q27.1.length : Int).toNat) dT ty183 rfl rfl h45 rfl (hs1.app F))) (bV rfl rfl (fun F => (bI ty36 rfl (hs5.app F) rfl)) (bV rfl rfl (fun F => (bI ty36 rfl (hs5.app F) rfl)) bU))))), ?_⟩
      refine w_o (v := elp a42 (((Q27.1.length : Int).toNat) * Enc.sz Post + 0)) rfl (fun F => (q_ixH (k := (Q27.1.length : Int).toNat) dT ty183 rfl rfl h45 rfl (hs1.app F))) ?_
      refine w_o (v := elp a42 (((Q27.1.length : Int).toNat) * Enc.sz Post + 2)) rfl (fun F => (q_faH (j := 0) (i := (Q27.1.length : Int).toNat) fa183_1 rfl (hs1.app F) rfl)) (w_en rfl rfl cN rfl (n_stH (v := .slice a49 ((((nth (Q27.1 ++ [((nth (nth v0 Q13.2.toNat) Q27.2.toNat), ([]))]) ((Q27.1.length : Int).toNat)).2) ++ [Q13.2 + 1]).length) c50) (i := (Q27.1.length : Int).toNat) (j := 2) (cs' := [.string (((nth (Q27.1 ++ [((nth (nth v0 Q13.2.toNat) Q27.2.toNat), ([]))]) ((Q27.1.length : Int).toNat)).1).1), .string (((nth (Q27.1 ++ [((nth (nth v0 Q13.2.toNat) Q27.2.toNat), ([]))]) ((Q27.1.length : Int).toNat)).1).2), .slice a49 ((((nth (Q27.1 ++ [((nth (nth v0 Q13.2.toNat) Q27.2.toNat), ([]))]) ((Q27.1.length : Int).toNat)).2) ++ [Q13.2 + 1]).length) c50]) ty23 rfl rfl (.cons dl1 .nil) rfl (one_of rfl) (Nat.le_of_ble_eq_true rfl) rfl rfl) ?_)
      rintro _ _ _ ⟨rfl, rfl, rfl⟩
      refine ⟨(aM (by kernel_rfl) (bV rfl rfl (fun F => (q_ixH (k := (Q27.1.length : Int).toNat) dT ty183 rfl rfl h45 rfl (aB.app F))) (aM (by kernel_rfl) (aM (by kernel_rfl) (aM (by kernel_rfl) (aM (by kernel_rfl) (aM (by kernel_rfl) bU))))))), ?_⟩
      refine cK ?_
      show At _ _ _ _ _ _
      refine nB (nT (aP (gdo H2 fun h52 H2 => (aG (bR rfl rfl h52) (aF rfl (aJ (At.unzoom (((nth (Q27.1 ++ [((nth (nth v0 Q13.2.toNat) Q27.2.toNat), ([]))]) ((Q27.1.length : Int).toNat)).1), (((nth (Q27.1 ++ [((nth (nth v0 Q13.2.toNat) Q27.2.toNat), ([]))]) ((Q27.1.length : Int).toNat)).2) ++ [Q13.2 + 1])) (((), ()), (a49, c50)) rfl (.cons aA (.cons aA .nil)) ?_)))))))
      refine cY aB fun hn => ?_; rw [hn]
      exact nLI (a42, c43) (hi31 _ (sm H2)) (.cons dl2 (.cons dl2 (.cons aA (.cons dl1 .nil))))
     ·refine bH (nT (gdo H2 fun h53 H2 => (Tr.zoom (k := r38.toNat) h53.lt (.cons dl3 .nil) fun x54 => ?_)))
      show Tr _ _ _ _ _ _ _ (hole (.slice z28.1 Q27.1.length z28.2) Q27.1 r38.toNat [.string (((nth Q27.1 r38.toNat).1).1), .string (((nth Q27.1 r38.toNat).1).2), .slice x54.2.1 (((nth Q27.1 r38.toNat).2).length) x54.2.2] :: tree (.slice x54.2.1 (((nth Q27.1 r38.toNat).2).length) x54.2.2) ((nth Q27.1 r38.toNat).2) :: _)
      refine dG [(8, .int .i64 (r38)), (2, .pointer (some ⟨g2, 0, none⟩)), (3, .pointer (some ⟨g8, 0, none⟩)), (4, .int .i64 (Q13.2)), (13, .slice x_v0.1 v0.length x_v0.2), (14, .int .i64 ((v0.length : Int))), (15, .int .i64 (Q13.2)), (20, .slice ((X1 Q13.2.toNat).1) ((nth v0 Q13.2.toNat).length) ((X1 Q13.2.toNat).2.1)), (21, .int .i64 (((nth v0 Q13.2.toNat).length : Int))), (22, .int .i64 (Q27.2))] 1 [0, 1, 2, 3, 4, 5, 6, 7, 8, 9, 10, 11, 12, 13, 14, 15] [11, 12, 15] [] mixed (by kernel_rfl) (by decide) dI ⟨rfl, rfl, rfl, rfl, rfl, rfl, rfl, rfl, rfl, rfl, trivial⟩ rfl okNil (w_p rfl (cB fa38_1 rfl rfl) ?_)
      refine w_o rfl (fun F => (bI ty36 rfl (hs5.app F) rfl)) (w_p rfl (aE rfl) (w_p rfl (cB fa38_1 rfl rfl) ?_))
      refine w_o rfl (fun F => (bI ty36 rfl (hs5.app F) rfl)) (w_p rfl (aE rfl) ?_)
      refine w_o (v := elp z28.1 (r38.toNat * Enc.sz Post + 0)) rfl (fun F => (q_ixH (k := r38.toNat) dT ty183 rfl rfl h53 rfl (aB.app F))) ?_
      refine w_o (v := elp z28.1 (r38.toNat * Enc.sz Post + 2)) rfl (fun F => (q_faH (j := 0) (i := r38.toNat) fa183_1 rfl (aB.app F) rfl)) ?_
      refine w_o (v := .slice x54.2.1 (((nth Q27.1 r38.toNat).2).length) x54.2.2) rfl (fun F => (q_ldH (i := r38.toNat) (j := 2) ty23 rfl (aB.app F) rfl)) (w_p rfl (aE rfl) (gdo H2 fun h55 H2 => (w_p rfl (bR rfl rfl h55) (cJ rfl (by decide) rfl cN rfl (n_lit (vs := [(0, .int .i64 (Q13.2 + 1))]) [.int .i64 (Q13.2 + 1)] dP ty3 rfl (by decide) (by decide) (by kernel_rfl)) ?_))))
      rintro _ _ _ ⟨g56, rfl, rfl, rfl⟩
      refine ⟨(bV rfl rfl (fun F => (q_ldH (i := r38.toNat) (j := 2) ty23 rfl (hs1.app F) rfl)) (bV rfl rfl (fun F => (q_faH (j := 0) (i := r38.toNat) fa183_1 rfl (hs1.app F) rfl)) (bV rfl rfl (fun F => (q_ixH (k := r38.toNat) dT ty183 rfl rfl h53 rfl (hs1.app F))) (bV rfl rfl (fun F => (bI ty36 rfl ((hs5t hs1).app F) rfl)) (bV rfl rfl (fun F => (bI ty36 rfl ((hs5t hs1).app F) rfl)) bU))))), ?_⟩
      refine gdo H2 fun h59 H2 => (cJ rfl (by decide) rfl cN rfl (n_app1 (l := (nth Q27.1 r38.toNat).2) (α := Int) (Q13.2 + 1) () dP ty3 rfl rfl (h59.b (by decide)) h59.x rfl (cW _) (.cons dl2 (.cons aA .nil))) ?_)
      rintro _ _ _ ⟨a57, c58, rfl, rfl, rfl⟩
      refine ⟨(aM (by kernel_rfl) (bV rfl rfl (fun F => (q_faH (j := 0) (i := r38.toNat) fa183_1 rfl (hs1.app F) rfl)) (bV rfl rfl (fun F => (q_ixH (k := r38.toNat) dT ty183 rfl rfl h53 rfl (hs1.app F))) (bV rfl rfl (fun F => (bI ty36 rfl (hs5.app F) rfl)) (bV rfl rfl (fun F => (bI ty36 rfl (hs5.app F) rfl)) bU))))), ?_⟩
      refine w_o (v := elp z28.1 (r38.toNat * Enc.sz Post + 0)) rfl (fun F => (q_ixH (k := r38.toNat) dT ty183 rfl rfl h53 rfl (hs1.app F))) ?_
      refine w_o (v := elp z28.1 (r38.toNat * Enc.sz Post + 2)) rfl (fun F => (q_faH (j := 0) (i := r38.toNat) fa183_1 rfl (hs1.app F) rfl)) (w_en rfl rfl cN rfl (n_stH (v := .slice a57 ((((nth Q27.1 r38.toNat).2) ++ [Q13.2 + 1]).length) c58) (i := r38.toNat) (j := 2) (cs' := [.string (((nth Q27.1 r38.toNat).1).1), .string (((nth Q27.1 r38.toNat).1).2), .slice a57 ((((nth Q27.1 r38.toNat).2) ++ [Q13.2 + 1]).length) c58]) ty23 rfl rfl (.cons dl1 .nil) rfl (one_of rfl) (Nat.le_of_ble_eq_true rfl) rfl rfl) ?_)
      rintro _ _ _ ⟨rfl, rfl, rfl⟩
      refine ⟨(aM (by kernel_rfl) (bV rfl rfl (fun F => (q_ixH (k := r38.toNat) dT ty183 rfl rfl h53 rfl (aB.app F))) (aM (by kernel_rfl) (aM (by kernel_rfl) (aM (by kernel_rfl) (aM (by kernel_rfl) (aM (by kernel_rfl) bU))))))), ?_⟩
      refine cK ?_
      show At _ _ _ _ _ _
      refine nB (nT (aP (gdo H2 fun h60 H2 => (aG (bR rfl rfl h60) (aF rfl (aJ (At.unzoom (((nth Q27.1 r38.toNat).1), (((nth Q27.1 r38.toNat).2) ++ [Q13.2 + 1])) (((), ()), (a57, c58)) rfl (.cons aA (.cons aA .nil)) ?_)))))))
      refine cY aB fun hn => ?_; rw [hn]
      exact nLI (z28.1, z28.2) (hi31 _ (sm H2)) (.cons dl2 (.cons dl2 (.cons aA (.cons dl1 .nil))))
    ·refine dA (xT (xT (xE (?_))))
     obtain rfl := hb32 _ (sm H2)
     exact nMC (z28.1, z28.2) ⟨rfl, rfl, rfl, rfl, rfl, trivial⟩ bT (.cons aA (.cons aA (.cons aA (.cons aA .nil))))
   ·intro y29
    show At _ _ [(2, .pointer (some ⟨g2, 0, none⟩)), (3, .pointer (some ⟨g8, 0, none⟩)), (13, .slice x_v0.1 v0.length x_v0.2), (14, .int .i64 ((v0.length : Int))), (15, .int .i64 (Q13.2))] _ [box g2 38 [.slice none 0 0, .slice none 0 0], tree (.slice x5.1 r3.length x5.2) r3, tree (.slice y29.1 x23.length y29.2) x23, box g8 38 [.slice x5.1 r3.length x5.2, .slice y29.1 x23.length y29.2]] _
    exact nB (nT (aP (gdo H1 fun h61 H1 => (aG (bR rfl rfl h61) (aF rfl (aJ (nLI (y29.1, y29.2) (hi17 _ (sm H1)) (.cons aA (.cons aA (.cons aA (.cons aA .nil)))))))))))
  ·refine dA (xT (xT (xE (?_))))
   obtain rfl := hb18 _ (sm H1)
   exact nMC (z14.1, z14.2) ⟨rfl, rfl, trivial⟩ bT (.cons aA (.cons aA (.cons aA (.cons aA .nil))))
 ·intro y15
  show At _ _ [(2, .pointer (some ⟨g2, 0, none⟩)), (3, .pointer (some ⟨g8, 0, none⟩))] _ [box g2 38 [.slice none 0 0, .slice none 0 0], tree (.slice x5.1 r3.length x5.2) r3, tree (.slice y15.1 x9.length y15.2) x9, box g8 38 [.slice x5.1 r3.length x5.2, .slice y15.1 x9.length y15.2]] _
  refine nT (sr (aG (cB fa38_1 rfl rfl) (aI (bI ty36 rfl hs3 rfl) (bdo H fun r62 h63 H => (f1 (cG (c_slices_SortFunc_Post_Post_indexOf_2 x9 y15 x9.length rfl h63) (bF bG) (fun _ => (bF bG)) rfl (.cons dl2 .nil) aO) fun u64 => (nl (aD ?_)))))))
  refine cX aB fun hn => ?_; rw [hn]
  refine aP (aI (bJ ty38 rfl hs3 rfl) (stb (cs' := [.slice x5.1 r3.length x5.2, .slice y15.1 r62.length y15.2]) ty38 up1 (nl (bQ ?_))))
  obtain rfl := si H
  exact back1 (x5, y15) rfl (ResV.agg ty38 rfl hs1 rfl) rfl cM (.cons dl2 (.cons aA .nil))
noncomputable def p_impl_clonePart_b0 (v0 : Part) (Q16 : (List (List Row)) × Int) : Option (((List (List Row)) × Int) ⊕ ((List (List Row)))) := cond (decide (Q16.2 < (v0.2.length : Int))) (gd (ix Q16.2 v0.2.length) <| gd (room (([] : List Row).length + (nth v0.2 Q16.2.toNat).length)) <| gd (room (Q16.1.length + 1)) <| gd (I64 (Q16.2 + 1)) <| some (.inl ((Q16.1 ++ [([] : List Row) ++ (nth v0.2 Q16.2.toNat)]), Q16.2 + 1))) (some (.inr Q16.1))
noncomputable def p_impl_clonePart (v0 : Part) : Option (Part) := gd (room (([] : List Int).length + v0.1.length)) <| bd (lp (p_impl_clonePart_b0 v0) (([] : List (List Row)), 0)) fun x12 => some ((([] : List Int) ++ v0.1), x12)
theorem c_impl_clonePart {r : Part} (v0 : Part) (x_v0 : (Option Addr × Nat) × (Option Addr × Nat)) (H : p_impl_clonePart v0 = some r) : Fn' prog 117 #[.agg #[.slice x_v0.1.1 v0.1.length x_v0.1.2, .slice x_v0.2.1 v0.2.length x_v0.2.2]] [imm (.slice x_v0.1.1 v0.1.length x_v0.1.2) v0.1, imm (.slice x_v0.2.1 v0.2.length x_v0.2.2) v0.2] [] (ι := (Option Addr × Nat) × (Option Addr × Nat)) (fun x => .agg #[.slice x.1.1 r.1.length x.1.2, .slice x.2.1 r.2.length x.2.2]) (fun _ => []) (fun x => [tree (.slice x.1.1 r.1.length x.1.2) r.1, tree (.slice x.2.1 r.2.length x.2.2) r.2]) := by
 refine cof (args := [_]) func117 ntmps117 fun c => ?_
 unfold p_impl_clonePart at H
 refine bM aR.s fun X1 => (sr (f1 (cC (t := 75) rfl) fun g2 => (f1 (cD ty75) fun g3 => (nl (sr (f2 (e_lit0 Int dP ty3) fun a4 c5 => (aG (cB fa75_0 rfl rfl) (aI (bI ty23 rfl hs2 rfl) (gdo H fun h8 H => ?_)))))))))
 refine f2 (e_appF (l := ([] : List Int)) (k := v0.1) (α := Int) dP ty3 rfl rfl (h8.b (by decide)) h8.x (.cons aA .nil) (aL aR.s)) fun a6 c7 => (f2 (e_lit0 (List Row) dY ty130) fun a9 c10 => (aG (v := .agg #[.slice a6 ((([] : List Int) ++ v0.1).length) c7, .slice a9 (([] : List (List Row)).length) c10]) (p_buildS (vs := [(0, .slice a6 ((([] : List Int) ++ v0.1).length) c7), (1, .slice a9 (([] : List (List Row)).length) c10)]) (cs := #[.slice a6 ((([] : List Int) ++ v0.1).length) c7, .slice a9 (([] : List (List Row)).length) c10]) ty75 pl75 rfl rfl) (f1 (cD ty75) fun g11 => (stb (cs' := [.slice a6 ((([] : List Int) ++ v0.1).length) c7, .slice a9 (([] : List (List Row)).length) c10]) ty75 cZ (nl (aD (sr (aG (cB fa75_1 rfl rfl) (aI (bI ty73 rfl hs4 rfl) (aG (bS 130 dY rfl) ?_))))))))))
 refine aF (v := .int .i64 (0)) rfl (nl (bdo H fun x12 hx13 H => (dB (ι := Option Addr × Nat) (fun ψ => [(2, .pointer (some ⟨g3, 0, none⟩)), (3, .pointer (some ⟨g11, 0, none⟩))]) (fun ψ => [box g3 75 [.slice none 0 0, .slice none 0 0], tree (.slice a6 ((([] : List Int) ++ v0.1).length) c7) (([] : List Int) ++ v0.1), tree (.slice ψ.1 x12.length ψ.2) x12, box g11 75 [.slice a6 ((([] : List Int) ++ v0.1).length) c7, .slice ψ.1 x12.length ψ.2]]) ?_ ?_)))
 ·refine aQ (dE hx13 (a9, c10) (fun Q16 _ => [(2, .pointer (some ⟨g3, 0, none⟩)), (3, .pointer (some ⟨g11, 0, none⟩)), (13, .slice x_v0.2.1 v0.2.length x_v0.2.2), (14, .int .i64 ((v0.2.length : Int))), (15, .int .i64 (Q16.2))]) (fun Q16 z17 => [box g3 75 [.slice none 0 0, .slice none 0 0], tree (.slice a6 ((([] : List Int) ++ v0.1).length) c7) (([] : List Int) ++ v0.1), tree (.slice z17.1 Q16.1.length z17.2) Q16.1, box g11 75 [.slice a6 ((([] : List Int) ++ v0.1).length) c7, .slice z17.1 Q16.1.length z17.2]]) (.cons dl3 (.cons dl2 (.cons dl1 (.cons aA .nil)))) ?_)
  rintro _ Q16 z17 t19 H1 hi20 hb21
  unfold p_impl_clonePart_b0 at H1
  refine sr (aG (cP rfl rfl) (nl (aD (cH H1 rfl (fun h24 H1 => ?_) (fun h24 H1 => ?_)))))
  ·refine bH (nT (aD (aQ (sr (gdo H1 fun h25 H1 => (aI (bW dY ty130 rfl rfl h25 rfl (aL (aT aR))) (aI (bZ (i := Q16.2.toNat) (j := 0) ty130 rfl (aL (aT aR)) h25.lt rfl) (aH rfl (nl (dG [(5, .slice ((X1 Q16.2.toNat).1) ((nth v0.2 Q16.2.toNat).length) ((X1 Q16.2.toNat).2.1)), (2, .pointer (some ⟨g3, 0, none⟩)), (3, .pointer (some ⟨g11, 0, none⟩)), (13, .slice x_v0.2.1 v0.2.length x_v0.2.2), (14, .int .i64 ((v0.2.length : Int))), (15, .int .i64 (Q16.2))] 2 [0, 1, 3, 2, 4, 5, 6, 7, 8] [2, 4, 5, 6, 8] [] mixed (by kernel_rfl) (by decide) dI ⟨rfl, rfl, rfl, rfl, rfl, rfl, trivial⟩ rfl okNil (w_p rfl (cB fa75_1 rfl rfl) ?_)))))))))))
   refine w_o rfl (fun F => (bI ty73 rfl (hs3.app F) rfl)) (w_p rfl (aE rfl) (cJ rfl (by decide) rfl cN rfl (n_lit0 Row dL ty135) ?_))
   rintro _ _ _ ⟨a26, c27, rfl, rfl, rfl⟩
   refine ⟨(bV rfl rfl (fun F => (bI ty73 rfl (hs4.app F) rfl)) bU), ?_⟩
   refine gdo H1 fun h30 H1 => (cJ rfl (by decide) rfl cN rfl (n_appF (l := ([] : List Row)) (k := nth v0.2 Q16.2.toNat) (α := Row) dL ty135 rfl rfl (h30.b (by decide)) h30.x (.cons aA .nil) (aL (aS (aW aR h25.lt)))) ?_)
   rintro _ _ _ ⟨a28, c29, rfl, rfl, rfl⟩
   refine ⟨(bV rfl rfl (fun F => (bI ty73 rfl (hs4.app F) rfl)) bU), ?_⟩
   refine cJ rfl (by decide) rfl cN rfl (n_lit (vs := [(0, .slice a28 ((([] : List Row) ++ (nth v0.2 Q16.2.toNat)).length) c29)]) [.slice a28 ((([] : List Row) ++ (nth v0.2 Q16.2.toNat)).length) c29] dY ty130 rfl (by decide) (by decide) (by kernel_rfl)) ?_
   rintro _ _ _ ⟨g31, rfl, rfl, rfl⟩
   refine ⟨(bV rfl rfl (fun F => (bI ty73 rfl (hs5.app F) rfl)) bU), ?_⟩
   refine gdo H1 fun h34 H1 => (cJ rfl (by decide) rfl cN rfl (n_app1 (l := Q16.1) (α := (List Row)) (([] : List Row) ++ (nth v0.2 Q16.2.toNat)) (a28, c29) dY ty130 rfl rfl (h34.b (by decide)) h34.x rfl (cW _) (.cons dl4 (.cons aA (.cons aA .nil)))) ?_)
   rintro _ _ _ ⟨a32, c33, rfl, rfl, rfl⟩
   refine ⟨(aM (by kernel_rfl) bU), ?_⟩
   refine w_p rfl (cB fa75_1 rfl rfl) (w_en rfl rfl cN rfl (n_store (cs' := [.slice a6 ((([] : List Int) ++ v0.1).length) c7, .slice a32 ((Q16.1 ++ [([] : List Row) ++ (nth v0.2 Q16.2.toNat)]).length) c33]) ty73 rfl rfl up3 rfl (one_of rfl) (Nat.le_of_ble_eq_true rfl) rfl) ?_)
   rintro _ _ _ ⟨rfl, rfl, rfl⟩
   refine ⟨(aM (by kernel_rfl) bU), ?_⟩
   refine cK ?_
   show At _ _ _ _ _ _
   exact nB (nT (aP (gdo H1 fun h35 H1 => (aG (bR rfl rfl h35) (aF rfl (aJ (nLI (a32, c33) (hi20 _ (sm H1)) (.cons dl1 (.cons dl1 (.cons aA (.cons aA .nil)))))))))))
  ·refine dA (xT (xT (xE (?_))))
   obtain rfl := hb21 _ (sm H1)
   exact nMC (z17.1, z17.2) ⟨rfl, rfl, trivial⟩ bT (.cons aA (.cons aA (.cons aA (.cons aA .nil))))
 ·intro y18
  show At _ _ [(2, .pointer (some ⟨g3, 0, none⟩)), (3, .pointer (some ⟨g11, 0, none⟩))] _ [box g3 75 [.slice none 0 0, .slice none 0 0], tree (.slice a6 ((([] : List Int) ++ v0.1).length) c7) (([] : List Int) ++ v0.1), tree (.slice y18.1 x12.length y18.2) x12, box g11 75 [.slice a6 ((([] : List Int) ++ v0.1).length) c7, .slice y18.1 x12.length y18.2]] _
  refine nT (sr (aI (bJ ty75 rfl hs3 rfl) (stb (cs' := [.slice a6 ((([] : List Int) ++ v0.1).length) c7, .slice y18.1 x12.length y18.2]) ty75 cZ (nl (bQ ?_)))))
  obtain rfl := si H
  exact back1 ((a6, c7), y18) rfl (ResV.agg ty75 rfl aB rfl) rfl cM (.cons dl1 (.cons dl1 .nil))
noncomputable def p_impl_Disk_open_b0 (v0 : Disk) (Q17 : (List Part) × Int) : Option (((List Part) × Int) ⊕ ((List Part))) := cond (decide (Q17.2 < (v0.2.1.length : Int))) (gd (ix Q17.2 v0.2.1.length) <| bd (p_impl_Disk_file v0 (nth v0.2.1 Q17.2.toNat)) fun r27 => gd (ix r27 v0.1.length) <| bd (p_impl_clonePart ((nth v0.1 r27.toNat).2)) fun r30 => gd (room (Q17.1.length + 1)) <| gd (I64 (Q17.2 + 1)) <| some (.inl ((Q17.1 ++ [r30]), Q17.2 + 1))) (some (.inr Q17.1))
noncomputable def p_impl_Disk_open (v0 : Disk) : Option (Store) := bd (p_impl_indexOf v0.2.2.1) fun r5 => bd (lp (p_impl_Disk_open_b0 v0) (([] : List Part), 0)) fun x13 => some (r5, x13, ([] : List Sample))
theorem c_impl_Disk_open {r : Store} (v0 : Disk) (x_v0 : (Option Addr × Nat) × (Option Addr × Nat) × (Option Addr × Nat) × Unit) (H : p_impl_Disk_open v0 = some r) : Fn' prog 52 #[.agg #[.slice x_v0.1.1 v0.1.length x_v0.1.2, .slice x_v0.2.1.1 v0.2.1.length x_v0.2.1.2, .slice x_v0.2.2.1.1 v0.2.2.1.length x_v0.2.2.1.2, .int .i64 (v0.2.2.2)]] [imm (.slice x_v0.1.1 v0.1.length x_v0.1.2) v0.1, imm (.slice x_v0.2.1.1 v0.2.1.length x_v0.2.1.2) v0.2.1, imm (.slice x_v0.2.2.1.1 v0.2.2.1.length x_v0.2.2.1.2) v0.2.2.1] [] (ι := ((Option Addr × Nat) × (Option Addr × Nat)) × (Option Addr × Nat) × (Option Addr × Nat)) (fun x => .agg #[.slice x.1.1.1 r.1.1.length x.1.1.2, .slice x.1.2.1 r.1.2.length x.1.2.2, .slice x.2.1.1 r.2.1.length x.2.1.2, .slice x.2.2.1 r.2.2.length x.2.2.2]) (fun _ => []) (fun x => [tree (.slice x.1.1.1 r.1.1.length x.1.1.2) r.1.1, tree (.slice x.1.2.1 r.1.2.length x.1.2.2) r.1.2, tree (.slice x.2.1.1 r.2.1.length x.2.1.2) r.2.1, tree (.slice x.2.2.1 r.2.2.length x.2.2.2) r.2.2]) := by
 refine cof (args := [_]) func52 ntmps52 fun c => ?_
 unfold p_impl_Disk_open at H
 refine bM aR fun X1 => (bM aR.s.s.s fun X2 => (sr (f1 (cC (t := 32) rfl) fun g3 => (f1 (cD ty42) fun g4 => (nl (sr (aG (cB fa32_2 rfl rfl) (aI (bI ty30 rfl hs1 rfl) (bdo H fun r5 h6 H => ?_)))))))))
 refine f1 (cF (c_impl_indexOf v0.2.2.1 x_v0.2.2.1 h6) (fun _ => (bF (bF bG))) rfl (aC (aL (aS aR)) aO)) fun x7 => (f2 (e_lit0 Part dU ty75) fun a8 c9 => (f2 (e_lit0 Sample dV ty137) fun a10 c11 => (aG (v := .agg #[.slice x7.1.1 r5.1.length x7.1.2, .slice x7.2.1 r5.2.length x7.2.2, .slice a8 (([] : List Part).length) c9, .slice a10 (([] : List Sample).length) c11]) (p_buildS (vs := [(0, .agg #[.slice x7.1.1 r5.1.length x7.1.2, .slice x7.2.1 r5.2.length x7.2.2]), (1, .slice a8 (([] : List Part).length) c9), (2, .slice a10 (([] : List Sample).length) c11)]) (cs := #[.slice x7.1.1 r5.1.length x7.1.2, .slice x7.2.1 r5.2.length x7.2.2, .slice a8 (([] : List Part).length) c9, .slice a10 (([] : List Sample).length) c11]) ty42 pl42 rfl rfl) (f1 (cD ty42) fun g12 => (stb (cs' := [.slice x7.1.1 r5.1.length x7.1.2, .slice x7.2.1 r5.2.length x7.2.2, .slice a8 (([] : List Part).length) c9, .slice a10 (([] : List Sample).length) c11]) ty42 cZ (nl (aD (sr (aG (cB fa32_1 rfl rfl) (aI (bI ty23 rfl (hs5t hs1) rfl) ?_))))))))))
 refine aG (bS 3 dP rfl) (aF (v := .int .i64 (0)) rfl (nl (bdo H fun x13 hx14 H => (dB (ι := Option Addr × Nat) (fun ψ => [(2, .pointer (some ⟨g4, 0, none⟩)), (3, .pointer (some ⟨g12, 0, none⟩))]) (fun ψ => [box g4 42 [.slice none 0 0, .slice none 0 0, .slice none 0 0, .slice none 0 0], tree (.slice x7.1.1 r5.1.length x7.1.2) r5.1, tree (.slice x7.2.1 r5.2.length x7.2.2) r5.2, tree (.slice ψ.1 x13.length ψ.2) x13, tree (.slice a10 (([] : List Sample).length) c11) ([] : List Sample), box g12 42 [.slice x7.1.1 r5.1.length x7.1.2, .slice x7.2.1 r5.2.length x7.2.2, .slice ψ.1 x13.length ψ.2, .slice a10 (([] : List Sample).length) c11]]) ?_ ?_))))
 ·refine aQ (dE hx14 (a8, c9) (fun Q17 _ => [(1, .pointer (some ⟨g3, 0, none⟩)), (2, .pointer (some ⟨g4, 0, none⟩)), (3, .pointer (some ⟨g12, 0, none⟩)), (13, .slice x_v0.2.1.1 v0.2.1.length x_v0.2.1.2), (14, .int .i64 ((v0.2.1.length : Int))), (15, .int .i64 (Q17.2))]) (fun Q17 z18 => [box g3 32 [.slice x_v0.1.1 v0.1.length x_v0.1.2, .slice x_v0.2.1.1 v0.2.1.length x_v0.2.1.2, .slice x_v0.2.2.1.1 v0.2.2.1.length x_v0.2.2.1.2, .int .i64 (v0.2.2.2)], box g4 42 [.slice none 0 0, .slice none 0 0, .slice none 0 0, .slice none 0 0], tree (.slice x7.1.1 r5.1.length x7.1.2) r5.1, tree (.slice x7.2.1 r5.2.length x7.2.2) r5.2, tree (.slice z18.1 Q17.1.length z18.2) Q17.1, tree (.slice a10 (([] : List Sample).length) c11) ([] : List Sample), box g12 42 [.slice x7.1.1 r5.1.length x7.1.2, .slice x7.2.1 r5.2.length x7.2.2, .slice z18.1 Q17.1.length z18.2, .slice a10 (([] : List Sample).length) c11]]) (.cons (dl5t dl1) (.cons dl5 (.cons dl3 (.cons dl3 (.cons dl2 (.cons dl1 (.cons aA .nil))))))) ?_)
  rintro _ Q17 z18 t20 H1 hi21 hb22
  unfold p_impl_Disk_open_b0 at H1
  refine sr (aG (cP rfl rfl) (nl (aD (cH H1 rfl (fun h25 H1 => ?_) (fun h25 H1 => ?_)))))
  ·refine bH (nT (aD (aQ (sr (gdo H1 fun h26 H1 => (aI (bW dP ty3 rfl rfl h26 rfl (aN (aL aR.s.s.s))) (aI (bZ (i := Q17.2.toNat) (j := 0) ty3 rfl (aN (aL aR.s.s.s)) h26.lt rfl) (aH rfl (nl (dG [(5, .int .i64 (nth v0.2.1 Q17.2.toNat)), (1, .pointer (some ⟨g3, 0, none⟩)), (2, .pointer (some ⟨g4, 0, none⟩)), (3, .pointer (some ⟨g12, 0, none⟩)), (13, .slice x_v0.2.1.1 v0.2.1.length x_v0.2.1.2), (14, .int .i64 ((v0.2.1.length : Int))), (15, .int .i64 (Q17.2))] 1 [0, 1, 2, 3, 4, 5, 6, 7, 8, 9, 10, 11, 12, 13, 14] [10, 11, 12, 14] [] mixed (by kernel_rfl) (by decide) dI ⟨rfl, rfl, rfl, rfl, rfl, rfl, rfl, trivial⟩ rfl okNil (w_p rfl (cB fa42_1 rfl rfl) ?_)))))))))))
   refine w_o rfl (fun F => (bI ty39 rfl ((hs5t hs1).app F) rfl)) (w_p rfl (cB fa32_0 rfl rfl) ?_)
   refine w_o rfl (fun F => (bI ty29 rfl (aB.app F) rfl)) ?_
   refine w_o rfl (fun F => (bJ ty32 rfl (aB.app F) rfl)) (w_p rfl (aE rfl) (bdo H1 fun r27 h28 H1 => ?_))
   refine w_o rfl (fun F => (bN (c_impl_Disk_file v0 (x_v0.1, x_v0.2.1, x_v0.2.2.1, ()) (nth v0.2.1 Q17.2.toNat) h28) rfl (aC (aL (aS aR.s)) (aC (aL aR.s.s.s) (aC (aL (aS aR)) aO))))) (gdo H1 fun h29 H1 => ?_)
   refine w_o rfl (fun F => (bW dR ty77 rfl rfl h29 rfl (aL (aT aR.s)))) ?_
   refine w_o rfl (fun F => (bY (j := 0) r27.toNat fa77_1 rfl (aL (aT aR.s)) h29.lt rfl)) ?_
   refine w_o (v := .agg #[.slice ((((X1 r27.toNat).2).1).1) ((((nth v0.1 r27.toNat).2).1).length) ((((X1 r27.toNat).2).1).2.1), .slice ((((X1 r27.toNat).2).2).1) ((((nth v0.1 r27.toNat).2).2).length) ((((X1 r27.toNat).2).2).2.1)]) rfl (fun F => (q_ldeP [.slice ((((X1 r27.toNat).2).1).1) ((((nth v0.1 r27.toNat).2).1).length) ((((X1 r27.toNat).2).1).2.1), .slice ((((X1 r27.toNat).2).2).1) ((((nth v0.1 r27.toNat).2).2).length) ((((X1 r27.toNat).2).2).2.1)] (l := v0.1) (E := fun i => Dp.denc (nth v0.1 i) (X1 i)) (oa := x_v0.1.1) (i := r27.toNat) (j := 1) ty75 rfl (aL (aT aR.s)) h29.lt rfl rfl)) (bdo H1 fun r30 h31 H1 => (cJ rfl (by decide) rfl cN rfl (cE (c_impl_clonePart ((nth v0.1 r27.toNat).2) (((((X1 r27.toNat).2).1).1, (((X1 r27.toNat).2).1).2.1), ((((X1 r27.toNat).2).2).1, (((X1 r27.toNat).2).2).2.1)) h31) (fun _ => (bF (bF bG))) rfl (aC (aL (aS (aV (aU (aW aR.s h29.lt))))) (aC (aL (aS (aU (aU (aW aR.s h29.lt))))) aO))) ?_))
   rintro _ _ _ ⟨x32, rfl, rfl, rfl⟩
   refine ⟨(aM (by kernel_rfl) (bV rfl rfl (fun F => (bY (j := 0) r27.toNat fa77_1 rfl (aL (aT aR.s)) h29.lt rfl)) (bV rfl rfl (fun F => (bW dR ty77 rfl rfl h29 rfl (aL (aT aR.s)))) (aM (by kernel_rfl) (bV rfl rfl (fun F => (bJ ty32 rfl (hs2.app F) rfl)) (bV rfl rfl (fun F => (bI ty29 rfl (hs2.app F) rfl)) (bV rfl rfl (fun F => (bI ty39 rfl ((hs5t hs3).app F) rfl)) bU))))))), ?_⟩
   refine cJ rfl (by decide) rfl cN rfl (n_lit (vs := [(0, .agg #[.slice x32.1.1 r30.1.length x32.1.2, .slice x32.2.1 r30.2.length x32.2.2])]) [.slice x32.1.1 r30.1.length x32.1.2, .slice x32.2.1 r30.2.length x32.2.2] dU ty75 rfl (by decide) (by decide) (by kernel_rfl)) ?_
   rintro _ _ _ ⟨g33, rfl, rfl, rfl⟩
   refine ⟨(bV rfl rfl (fun F => (q_ldeP [.slice ((((X1 r27.toNat).2).1).1) ((((nth v0.1 r27.toNat).2).1).length) ((((X1 r27.toNat).2).1).2.1), .slice ((((X1 r27.toNat).2).2).1) ((((nth v0.1 r27.toNat).2).2).length) ((((X1 r27.toNat).2).2).2.1)] (l := v0.1) (E := fun i => Dp.denc (nth v0.1 i) (X1 i)) (oa := x_v0.1.1) (i := r27.toNat) (j := 1) ty75 rfl (aL (aT aR.s)) h29.lt rfl rfl)) (bV rfl rfl (fun F => (bY (j := 0) r27.toNat fa77_1 rfl (aL (aT aR.s)) h29.lt rfl)) (bV rfl rfl (fun F => (bW dR ty77 rfl rfl h29 rfl (aL (aT aR.s)))) (bV rfl rfl (fun F => (bN (c_impl_Disk_file v0 (x_v0.1, x_v0.2.1, x_v0.2.2.1, ()) (nth v0.2.1 Q17.2.toNat) h28) rfl (aC (aL (aS aR.s)) (aC (aL aR.s.s.s) (aC (aL (aS aR)) aO))))) (bV rfl rfl (fun F => (bJ ty32 rfl (hs3.app F) rfl)) (bV rfl rfl (fun F => (bI ty29 rfl (hs3.app F) rfl)) (bV rfl rfl (fun F => (bI ty39 rfl ((hs5t hs4).app F) rfl)) bU))))))), ?_⟩
   refine gdo H1 fun h36 H1 => (cJ rfl (by decide) rfl cN rfl (n_app1 (l := Q17.1) (α := Part) r30 x32 dU ty75 rfl rfl (h36.b (by decide)) h36.x rfl (cW _) (.cons (dl5t dl2) (.cons aA (.cons aA (.cons aA .nil))))) ?_)
   rintro _ _ _ ⟨a34, c35, rfl, rfl, rfl⟩
   refine ⟨(bV rfl rfl (fun F => (q_ldeP [.slice ((((X1 r27.toNat).2).1).1) ((((nth v0.1 r27.toNat).2).1).length) ((((X1 r27.toNat).2).1).2.1), .slice ((((X1 r27.toNat).2).2).1) ((((nth v0.1 r27.toNat).2).2).length) ((((X1 r27.toNat).2).2).2.1)] (l := v0.1) (E := fun i => Dp.denc (nth v0.1 i) (X1 i)) (oa := x_v0.1.1) (i := r27.toNat) (j := 1) ty75 rfl (aL (aT aR.s)) h29.lt rfl rfl)) (bV rfl rfl (fun F => (bY (j := 0) r27.toNat fa77_1 rfl (aL (aT aR.s)) h29.lt rfl)) (bV rfl rfl (fun F => (bW dR ty77 rfl rfl h29 rfl (aL (aT aR.s)))) (bV rfl rfl (fun F => (bN (c_impl_Disk_file v0 (x_v0.1, x_v0.2.1, x_v0.2.2.1, ()) (nth v0.2.1 Q17.2.toNat) h28) rfl (aC (aL (aS aR.s)) (aC (aL aR.s.s.s) (aC (aL (aS aR)) aO))))) (bV rfl rfl (fun F => (bJ ty32 rfl (hs1.app F) rfl)) (bV rfl rfl (fun F => (bI ty29 rfl (hs1.app F) rfl)) (aM (by kernel_rfl) bU))))))), ?_⟩
   refine w_p rfl (cB fa42_1 rfl rfl) (w_en rfl rfl cN rfl (n_store (cs' := [.slice x7.1.1 r5.1.length x7.1.2, .slice x7.2.1 r5.2.length x7.2.2, .slice a34 ((Q17.1 ++ [r30]).length) c35, .slice a10 (([] : List Sample).length) c11]) ty39 rfl rfl (up5t up1) rfl (one_of rfl) (Nat.le_of_ble_eq_true rfl) rfl) ?_)
   rintro _ _ _ ⟨rfl, rfl, rfl⟩
   refine ⟨(aM (by kernel_rfl) (aM (by kernel_rfl) (aM (by kernel_rfl) (aM (by kernel_rfl) (aM (by kernel_rfl) (aM (by kernel_rfl) (aM (by kernel_rfl) bU))))))), ?_⟩
   refine cK ?_
   show At _ _ _ _ _ _
   exact nB (nT (aP (gdo H1 fun h37 H1 => (aG (bR rfl rfl h37) (aF rfl (aJ (nLI (a34, c35) (hi21 _ (sm H1)) (.cons dl1 (.cons dl1 (.cons dl1 (.cons dl1 (.cons aA (.cons aA (.cons aA .nil))))))))))))))
  ·refine dA (xT (xT (xE (?_))))
   obtain rfl := hb22 _ (sm H1)
   exact nMC (z18.1, z18.2) ⟨rfl, rfl, trivial⟩ bT (.cons dl1 (.cons dl1 (.cons dl1 (.cons dl1 (.cons dl1 (.cons dl1 .nil))))))
 ·intro y19
  show At _ _ [(2, .pointer (some ⟨g4, 0, none⟩)), (3, .pointer (some ⟨g12, 0, none⟩))] _ [box g4 42 [.slice none 0 0, .slice none 0 0, .slice none 0 0, .slice none 0 0], tree (.slice x7.1.1 r5.1.length x7.1.2) r5.1, tree (.slice x7.2.1 r5.2.length x7.2.2) r5.2, tree (.slice y19.1 x13.length y19.2) x13, tree (.slice a10 (([] : List Sample).length) c11) ([] : List Sample), box g12 42 [.slice x7.1.1 r5.1.length x7.1.2, .slice x7.2.1 r5.2.length x7.2.2, .slice y19.1 x13.length y19.2, .slice a10 (([] : List Sample).length) c11]] _
  refine nT (sr (aI (bJ ty42 rfl hs5 rfl) (stb (cs' := [.slice x7.1.1 r5.1.length x7.1.2, .slice x7.2.1 r5.2.length x7.2.2, .slice y19.1 x13.length y19.2, .slice a10 (([] : List Sample).length) c11]) ty42 cZ (nl (bQ ?_)))))
  obtain rfl := si H
  exact back1 (x7, y19, (a10, c11)) rfl (ResV.agg ty42 rfl aB rfl) rfl cM (.cons dl1 (.cons dl1 (.cons dl1 (.cons dl1 .nil))))
noncomputable def p_impl_tagOk (v0 : Tag) : Option (Bool) := bd (cond (decide ((v0.1.size : Int) = 1)) (cond (!sless v0.1 (⟨#[97]⟩ : ByteArray)) (cond ((sless v0.1 (⟨#[100]⟩ : ByteArray) || decide (v0.1 = (⟨#[100]⟩ : ByteArray)))) (cond (decide ((v0.2.size : Int) = 1)) (cond (!sless v0.2 (⟨#[112]⟩ : ByteArray)) (some ((sless v0.2 (⟨#[122]⟩ : ByteArray) || decide (v0.2 = (⟨#[122]⟩ : ByteArray))))) (some (false))) (some (false))) (some (false))) (some (false))) (some (false))) fun b2 => some b2
theorem c_impl_tagOk {r : Bool} (v0 : Tag) (H : p_impl_tagOk v0 = some r) : Fn' prog 196 #[.agg #[.string (v0.1), .string (v0.2)]] [] [] (ι := Unit) (fun _ => .bool (r)) (fun _ => []) (fun _ => []) := by
 refine cof (args := [_]) func196 ntmps196 fun c => ?_
 unfold p_impl_tagOk at H
 refine sr (f1 (cC (t := 172) rfl) fun g1 => (aH (v := .bool (false)) rfl (nl (bdo H fun b2 j3 H => (dD [(2, .bool (b2))] ?_ ?_)))))
 ·refine dH [(1, .pointer (some ⟨g1, 0, none⟩))] ⟨rfl, trivial⟩ (aX (cB fa172_0 rfl rfl) (aZ (bI ty9 rfl aB rfl) (aX (p_slen dZ rfl) (aX (cS rfl rfl) ?_))))
  rcases aK (decide ((v0.1.size : Int) = 1)) with h4 | h4
  ·have j3 := cdT h4 j3
   refine bC (aE rfl) h4 (aY rfl (cB fa172_0 rfl rfl) (bA rfl (bI ty9 rfl aB rfl) (aY rfl (p_sgeq rfl rfl) (aX (bP rfl rfl) ?_))))
   rcases aK (!sless v0.1 (⟨#[97]⟩ : ByteArray)) with h5 | h5
   ·have j3 := cdT h5 j3
    refine bC (aE rfl) h5 (aY rfl (cB fa172_0 rfl rfl) (bA rfl (bI ty9 rfl aB rfl) (aY rfl (p_sleq rfl rfl) (aX (bP rfl rfl) ?_))))
    rcases aK ((sless v0.1 (⟨#[100]⟩ : ByteArray) || decide (v0.1 = (⟨#[100]⟩ : ByteArray)))) with h6 | h6
    ·have j3 := cdT h6 j3
     refine bC (aE rfl) h6 (aY rfl (cB fa172_1 rfl rfl) (bA rfl (bI ty9 rfl aB rfl) (aY rfl (p_slen dZ rfl) (aY rfl (cS rfl rfl) (aX (bP rfl rfl) ?_)))))
     rcases aK (decide ((v0.2.size : Int) = 1)) with h7 | h7
     ·have j3 := cdT h7 j3
      refine bC (aE rfl) h7 (aY rfl (cB fa172_1 rfl rfl) (bA rfl (bI ty9 rfl aB rfl) (aY rfl (p_sgeq rfl rfl) (aX (bP rfl rfl) ?_))))
      rcases aK (!sless v0.2 (⟨#[112]⟩ : ByteArray)) with h8 | h8
      ·have j3 := cdT h8 j3
       refine bC (aE rfl) h8 (aY rfl (cB fa172_1 rfl rfl) (bA rfl (bI ty9 rfl aB rfl) (aY rfl (p_sleq rfl rfl) (aX (bP rfl rfl) (aX (p_assign rfl) ?_)))))
       obtain rfl := si j3
       show At _ _ _ _ _ _
       exact n1 ⟨rfl, trivial⟩
      ·have j3 := cdF h8 j3
       refine bC (aE rfl) h8 ?_
       iterate 3 refine bE rfl ?_
       refine aX (v := .bool (false)) (bO rfl rfl) (aX (v := .bool (false)) (p_assign rfl) ?_)
       obtain rfl := si j3
       show At _ _ _ _ _ _
       exact n1 ⟨rfl, trivial⟩
     ·have j3 := cdF h7 j3
      refine bC (aE rfl) h7 ?_
      iterate 3 refine bE rfl ?_
      refine aX (v := .bool (false)) (bO rfl rfl) (bB (v := .bool (false)) rfl ?_)
      iterate 3 refine bE rfl ?_
      refine aX (v := .bool (false)) (bO rfl rfl) (aX (v := .bool (false)) (p_assign rfl) ?_)
      obtain rfl := si j3
      show At _ _ _ _ _ _
      exact n1 ⟨rfl, trivial⟩
    ·have j3 := cdF h6 j3
     refine bC (aE rfl) h6 ?_
     iterate 4 refine bE rfl ?_
     refine aX (v := .bool (false)) (bO rfl rfl) (bB (v := .bool (false)) rfl ?_)
     iterate 3 refine bE rfl ?_
     refine aX (v := .bool (false)) (bO rfl rfl) (bB (v := .bool (false)) rfl ?_)
     iterate 3 refine bE rfl ?_
     refine aX (v := .bool (false)) (bO rfl rfl) (aX (v := .bool (false)) (p_assign rfl) ?_)
     obtain rfl := si j3
     show At _ _ _ _ _ _
     exact n1 ⟨rfl, trivial⟩
   ·have j3 := cdF h5 j3
    refine bC (aE rfl) h5 ?_
    iterate 3 refine bE rfl ?_
    refine aX (v := .bool (false)) (bO rfl rfl) (bB (v := .bool (false)) rfl ?_)
    iterate 4 refine bE rfl ?_
    refine aX (v := .bool (false)) (bO rfl rfl) (bB (v := .bool (false)) rfl ?_)
    iterate 3 refine bE rfl ?_
    refine aX (v := .bool (false)) (bO rfl rfl) (bB (v := .bool (false)) rfl ?_)
    iterate 3 refine bE rfl ?_
    refine aX (v := .bool (false)) (bO rfl rfl) (aX (v := .bool (false)) (p_assign rfl) ?_)
    obtain rfl := si j3
    show At _ _ _ _ _ _
    exact n1 ⟨rfl, trivial⟩
  ·have j3 := cdF h4 j3
   refine bC (aE rfl) h4 ?_
   iterate 3 refine bE rfl ?_
   refine aX (v := .bool (false)) (bO rfl rfl) (bB (v := .bool (false)) rfl ?_)
   iterate 3 refine bE rfl ?_
   refine aX (v := .bool (false)) (bO rfl rfl) (bB (v := .bool (false)) rfl ?_)
   iterate 4 refine bE rfl ?_
   refine aX (v := .bool (false)) (bO rfl rfl) (bB (v := .bool (false)) rfl ?_)
   iterate 3 refine bE rfl ?_
   refine aX (v := .bool (false)) (bO rfl rfl) (bB (v := .bool (false)) rfl ?_)
   iterate 3 refine bE rfl ?_
   refine aX (v := .bool (false)) (bO rfl rfl) (aX (v := .bool (false)) (p_assign rfl) ?_)
   obtain rfl := si j3
   show At _ _ _ _ _ _
   exact n1 ⟨rfl, trivial⟩
 obtain rfl := si H
 exact bQ bk
noncomputable def p_impl_NameOk_b0 (v0 : (List Tag)) (Q5 : Int) : Option ((Int) ⊕ (Unit ⊕ Bool)) := cond (decide (Q5 < (v0.length : Int))) (gd (ix Q5 v0.length) <| bd (bd (p_impl_tagOk (nth v0 Q5.toNat)) fun r18 => cond (!r18) (some (true)) (cond (decide (0 < Q5)) (gd (I64 (Q5 - 1)) <| gd (ix (Q5 - 1) v0.length) <| some (!sless ((nth v0 ((Q5 - 1).toNat)).1) ((nth v0 Q5.toNat).1))) (some (false)))) fun b16 => cond (b16) (some (.inr (.inr false))) (gd (I64 (Q5 + 1)) <| some (.inl (Q5 + 1)))) (some (.inr (.inl ())))
noncomputable def p_impl_NameOk (v0 : (List Tag)) : Option (Bool) := bd (lp (p_impl_NameOk_b0 v0) 0) <| sw (fun _ => bd (p_impl_within (v0.length : Int) 1 3) fun r27 => some r27) (fun q => some q)
theorem c_impl_NameOk {r : Bool} (v0 : (List Tag)) (x_v0 : Option Addr × Nat) (H : p_impl_NameOk v0 = some r) : Fn' prog 185 #[.slice x_v0.1 v0.length x_v0.2] [imm (.slice x_v0.1 v0.length x_v0.2) v0] [] (ι := Unit) (fun _ => .bool (r)) (fun _ => []) (fun _ => []) := by
 refine cof (args := [_]) func185 ntmps185 fun c => ?_
 unfold p_impl_NameOk at H
 refine sr (aH (v := .bool (false)) rfl (nl (aD (sr (aF rfl (aG (bS 172 dM rfl) (aF (v := .int .i64 (0)) rfl (nl (bdo H fun x1 hx2 H => (dC (Λ := Unit) H (fun _ _ => [(0, .slice x_v0.1 v0.length x_v0.2)]) (fun _ _ => []) ?_ ?_))))))))))
 ·refine aQ (dE hx2 () (fun Q5 _ => [(0, .slice x_v0.1 v0.length x_v0.2), (5, .slice x_v0.1 v0.length x_v0.2), (6, .int .i64 ((v0.length : Int))), (7, .int .i64 (Q5))]) (fun _ _ => []) bK ?_)
  rintro _ Q5 z6 t8 H1 hi9 hb10
  unfold p_impl_NameOk_b0 at H1
  refine sr (aG (cP rfl rfl) (nl (aD (cH H1 rfl (fun h13 H1 => ?_) (fun h13 H1 => ?_)))))
  ·refine bH (nT (aD (aQ (sr (aF rfl (gdo H1 fun h14 H1 => (aI (bW dM ty172 rfl rfl h14 rfl (aN (aL aR))) (aI (v := .agg #[.string ((nth v0 Q5.toNat).1), .string ((nth v0 Q5.toNat).2)]) (cA (i := Q5.toNat) ty172 rfl (aN (aL aR)) h14.lt) (f1 (cD ty172) fun g15 => (aH rfl ?_))))))))))
   refine stb (cs' := [.string ((nth v0 Q5.toNat).1), .string ((nth v0 Q5.toNat).2)]) ty172 cZ (nl (bdo H1 fun b16 j17 H1 => (dD [(29, .bool (b16)), (0, .slice x_v0.1 v0.length x_v0.2), (5, .slice x_v0.1 v0.length x_v0.2), (6, .int .i64 ((v0.length : Int))), (7, .int .i64 (Q5))] ?_ ?_)))
   ·refine dF [(3, .int .i64 (Q5)), (4, .pointer (some ⟨g15, 0, none⟩)), (0, .slice x_v0.1 v0.length x_v0.2), (5, .slice x_v0.1 v0.length x_v0.2), (6, .int .i64 ((v0.length : Int))), (7, .int .i64 (Q5))] mixed (.inr (by kernel_rfl)) ⟨rfl, rfl, rfl, rfl, rfl, rfl, trivial⟩ rfl (aZ (bJ ty172 rfl aB rfl) (bdo j17 fun r18 h19 j17 => (aZ (bN (c_impl_tagOk (nth v0 Q5.toNat) h19) rfl aO) (aX (cV rfl) ?_))))
    rcases aK (!r18) with h20 | h20
    ·have j17 := cdT h20 j17
     refine bC (aE rfl) h20 ?_
     iterate 13 refine bE rfl ?_
     refine aX (v := .bool (true)) (bP rfl rfl) ?_
     obtain rfl := si j17
     show At _ _ _ _ _ _
     exact n1 ⟨rfl, rfl, rfl, rfl, rfl, trivial⟩
    ·have j17 := cdF h20 j17
     refine bC (aE rfl) h20 (aY rfl (aE rfl) (aY rfl (cU rfl rfl) ?_))
     rcases aK (decide (0 < Q5)) with h21 | h21
     ·have j17 := cdT h21 j17
      refine bD rfl (aE rfl) h21 (aY rfl (aE rfl) (aY rfl (aE rfl) (gdo j17 fun h22 j17 => (aY rfl (cQ rfl rfl h22) (gdo j17 fun h23 j17 => (bA rfl (bW dM ty172 rfl rfl h23 rfl (aN (aL aR))) (bA rfl (bY (j := 0) ((Q5 - 1).toNat) fa172_0 rfl (aN (aL aR)) h23.lt rfl) (bA rfl (bZ (i := (Q5 - 1).toNat) (j := 0) ty9 rfl (aN (aL aR)) h23.lt rfl) (aY rfl (cB fa172_0 rfl rfl) ?_)))))))))
      refine bA rfl (bI ty9 rfl aB rfl) (aY rfl (p_sgeq rfl rfl) (aY rfl (bP rfl rfl) (aX (bO rfl rfl) ?_)))
      obtain rfl := si j17
      show At _ _ _ _ _ _
      exact n1 ⟨rfl, rfl, rfl, rfl, rfl, trivial⟩
     ·have j17 := cdF h21 j17
      refine bD rfl (aE rfl) h21 ?_
      iterate 9 refine bE rfl ?_
      refine aY (v := .bool (false)) rfl (bO rfl rfl) (aX (v := .bool (false)) (bO rfl rfl) ?_)
      obtain rfl := si j17
      show At _ _ _ _ _ _
      exact n1 ⟨rfl, rfl, rfl, rfl, rfl, trivial⟩
   refine cH H1 rfl (fun h24 H1 => ?_) (fun h24 H1 => ?_)
   ·refine sr (aH (v := .bool (false)) rfl (nl (bQ (rB (rT (rT (rB (rT (rT (?_))))))))))
    obtain rfl := hb10 _ (sm H1)
    replace H := sw.r H
    obtain rfl := si H
    exact bk
   ·exact bH (nB (nT (aP (gdo H1 fun h25 H1 => (aG (bR rfl rfl h25) (aF rfl (aJ (nLI () (hi9 _ (sm H1)) bK))))))))
  ·exact dA (xT (xT (xE (nMI () (hb10 _ (sm H1)) bK))))
 ·rintro e26 y7 H
  refine nT (sr (aF rfl (aG (bS 172 dM rfl) (bdo H fun r27 h28 H => (aI (bN (c_impl_within (v0.length : Int) 1 3 h28) rfl aO) (aH rfl (nl ?_)))))))
  obtain rfl := si H
  exact bQ bk
noncomputable def p_slices_Equal_Tag_Tag_b0 (v0 : (List Tag)) (v1 : (List Tag)) (Q6 : Int) : Option ((Int) ⊕ (Unit ⊕ Bool)) := cond (decide (Q6 < (v0.length : Int))) (gd (ix Q6 v0.length) <| gd (ix Q6 v1.length) <| cond (!decide (nth v0 Q6.toNat = nth v1 Q6.toNat)) (some (.inr (.inr false))) (gd (I64 (Q6 + 1)) <| some (.inl (Q6 + 1)))) (some (.inr (.inl ())))
noncomputable def p_slices_Equal_Tag_Tag (v0 : (List Tag)) (v1 : (List Tag)) : Option (Bool) := cond (!decide ((v0.length : Int) = (v1.length : Int))) (some false) (bd (lp (p_slices_Equal_Tag_Tag_b0 v0 v1) 0) <| sw (fun _ => some true) (fun q => some q))
theorem c_slices_Equal_Tag_Tag {r : Bool} (v0 : (List Tag)) (x_v0 : Option Addr × Nat) (v1 : (List Tag)) (x_v1 : Option Addr × Nat) (H : p_slices_Equal_Tag_Tag v0 v1 = some r) : Fn' prog 142 #[.slice x_v0.1 v0.length x_v0.2, .slice x_v1.1 v1.length x_v1.2] [imm (.slice x_v0.1 v0.length x_v0.2) v0, imm (.slice x_v1.1 v1.length x_v1.2) v1] [] (ι := Unit) (fun _ => .bool (r)) (fun _ => []) (fun _ => []) := by
 refine cof (args := [_, _]) func142 ntmps142 fun c => ?_
 unfold p_slices_Equal_Tag_Tag at H
 refine sr (aH (v := .bool (false)) rfl (nl (aD (sr (aF rfl (aG (bS 172 dM rfl) (aF rfl (aG (bS 172 dM rfl) (aG (cR rfl rfl) (nl (cH H rfl (fun h1 H => ?_) (fun h1 H => ?_))))))))))))
 ·refine sr (aH (v := .bool (false)) rfl (nl (bQ (rT (?_)))))
  obtain rfl := si H
  exact bk
 ·refine bH (nT (aD (sr (aF rfl (aG (bS 172 dM rfl) (aF (v := .int .i64 (0)) rfl (nl (bdo H fun x2 hx3 H => (dC (Λ := Unit) H (fun _ _ => []) (fun _ _ => []) ?_ ?_)))))))))
  ·refine aQ (dE hx3 () (fun Q6 _ => [(0, .slice x_v0.1 v0.length x_v0.2), (1, .slice x_v1.1 v1.length x_v1.2), (12, .int .i64 ((v0.length : Int))), (13, .int .i64 (Q6))]) (fun _ _ => []) bK ?_)
   rintro _ Q6 z7 t9 H1 hi10 hb11
   unfold p_slices_Equal_Tag_Tag_b0 at H1
   refine sr (aG (cP rfl rfl) (nl (aD (cH H1 rfl (fun h14 H1 => ?_) (fun h14 H1 => ?_)))))
   ·refine bH (nT (aD (aQ (sr (aF rfl (aH rfl (nl (aD (dF [(5, .int .i64 (Q6)), (0, .slice x_v0.1 v0.length x_v0.2), (1, .slice x_v1.1 v1.length x_v1.2), (12, .int .i64 ((v0.length : Int))), (13, .int .i64 (Q6))] mixed (.inr (by kernel_rfl)) ⟨rfl, rfl, rfl, rfl, rfl, trivial⟩ rfl (bB rfl (bB rfl ?_)))))))))))
    refine gdo H1 fun h15 H1 => (aZ (bW dM ty172 rfl rfl h15 rfl (aN (aL aR))) (aZ (v := .agg #[.string ((nth v0 Q6.toNat).1), .string ((nth v0 Q6.toNat).2)]) (cA (i := Q6.toNat) ty172 rfl (aN (aL aR)) h15.lt) (bB rfl (bB rfl (gdo H1 fun h16 H1 => (aZ (bW dM ty172 rfl rfl h16 rfl (aN (aL aR.s))) (aZ (v := .agg #[.string ((nth v1 Q6.toNat).1), .string ((nth v1 Q6.toNat).2)]) (cA (i := Q6.toNat) ty172 rfl (aN (aL aR.s)) h16.lt) (aX (v := .bool (!decide (nth v0 Q6.toNat = nth v1 Q6.toNat))) (p_aneq (a := nth v0 Q6.toNat) (b := nth v1 Q6.toNat) ae172 rfl rfl rfl rfl) (nT (?_))))))))))
    refine cH H1 rfl (fun h17 H1 => ?_) (fun h17 H1 => ?_)
    ·refine sr (aH (v := .bool (false)) rfl (nl (bQ (rB (rT (rT (rB (rT (rT (?_))))))))))
     obtain rfl := hb11 _ (sm H1)
     replace H := sw.r H
     obtain rfl := si H
     exact bk
    ·exact bH (nB (nT (aP (gdo H1 fun h18 H1 => (aG (bR rfl rfl h18) (aF rfl (aJ (nLI () (hi10 _ (sm H1)) bK))))))))
   ·exact dA (xT (xT (xE (nMI () (hb11 _ (sm H1)) bK))))
  ·rintro e19 y8 H
   refine nT (sr (aH (v := .bool (true)) rfl (nl ?_)))
   obtain rfl := si H
   exact bQ bk
noncomputable def p_impl_numberOf_1 (v0 : (List Tag)) (k0 : (List Tag)) : Option (Bool) := bd (p_slices_Equal_Tag_Tag v0 k0) fun r1 => some r1
theorem c_impl_numberOf_1 {r : Bool} (v0 : (List Tag)) (x_v0 : Option Addr × Nat) (g_k0 : Nat) (k0 : (List Tag)) (x_k0 : Option Addr × Nat) (H : p_impl_numberOf_1 v0 k0 = some r) : Fn' prog 198 #[.slice x_v0.1 v0.length x_v0.2, .pointer (some ⟨g_k0, 0, none⟩)] [imm (.slice x_v0.1 v0.length x_v0.2) v0, imm (.slice x_k0.1 k0.length x_k0.2) k0] [box g_k0 142 [.slice x_k0.1 k0.length x_k0.2]] (ι := Unit) (fun _ => .bool (r)) (fun _ => []) (fun _ => [box g_k0 142 [.slice x_k0.1 k0.length x_k0.2]]) := by
 refine cof (args := [_, _]) func198 ntmps198 fun c => ?_
 unfold p_impl_numberOf_1 at H
 refine sr (aH (v := .bool (false)) rfl (nl (sr (aF rfl (aI (bI ty142 rfl aB rfl) (bdo H fun r1 h2 H => (aI (bN (c_slices_Equal_Tag_Tag v0 x_v0 k0 x_k0 h2) rfl (aC (aL aR) (aC (aL aR.s) aO))) (aH rfl (nl ?_)))))))))
 obtain rfl := si H
 exact bQ (bk (.cons aA .nil))
noncomputable def p_slices_IndexFunc_Tag_Tag_numberOf_1_b0 (v0 : (List (List Tag))) (v1_0 : (List Tag)) (Q6 : Int) : Option ((Int) ⊕ (Unit ⊕ Int)) := cond (decide (Q6 < (v0.length : Int))) (gd (ix Q6 v0.length) <| bd (p_impl_numberOf_1 (nth v0 Q6.toNat) v1_0) fun r16 => cond (r16) (some (.inr (.inr Q6))) (gd (I64 (Q6 + 1)) <| some (.inl (Q6 + 1)))) (some (.inr (.inl ())))
noncomputable def p_slices_IndexFunc_Tag_Tag_numberOf_1 (v0 : (List (List Tag))) (v1_0 : (List Tag)) : Option (Int) := bd (lp (p_slices_IndexFunc_Tag_Tag_numberOf_1_b0 v0 v1_0) 0) <| sw (fun _ => some (-1)) (fun q => some q)
theorem c_slices_IndexFunc_Tag_Tag_numberOf_1 {r : Int} (v0 : (List (List Tag))) (x_v0 : Option Addr × Nat) (g_v1_0 : Nat) (v1_0 : (List Tag)) (x_v1_0 : Option Addr × Nat) (H : p_slices_IndexFunc_Tag_Tag_numberOf_1 v0 v1_0 = some r) : Fn' prog 197 #[.slice x_v0.1 v0.length x_v0.2, .func (.func 198) #[] #[.pointer (some ⟨g_v1_0, 0, none⟩)]] [imm (.slice x_v0.1 v0.length x_v0.2) v0, imm (.slice x_v1_0.1 v1_0.length x_v1_0.2) v1_0] [box g_v1_0 142 [.slice x_v1_0.1 v1_0.length x_v1_0.2]] (ι := Unit) (fun _ => .int .i64 (r)) (fun _ => []) (fun _ => [box g_v1_0 142 [.slice x_v1_0.1 v1_0.length x_v1_0.2]]) := by
 refine cof (args := [_, _]) func197 ntmps197 fun c => ?_
 unfold p_slices_IndexFunc_Tag_Tag_numberOf_1 at H
 refine bM aR fun X1 => (sr (aH (v := .int .i64 (0)) rfl (nl (aD (sr (aF rfl (aG (bS 142 dS rfl) (aF (v := .int .i64 (0)) rfl (nl (bdo H fun x2 hx3 H => (dC (Λ := Unit) H (fun _ _ => []) (fun _ _ => [box g_v1_0 142 [.slice x_v1_0.1 v1_0.length x_v1_0.2]]) ?_ ?_)))))))))))
 ·refine aQ (dE hx3 () (fun Q6 _ => [(0, .slice x_v0.1 v0.length x_v0.2), (1, .func (.func 198) #[] #[.pointer (some ⟨g_v1_0, 0, none⟩)]), (7, .int .i64 ((v0.length : Int))), (8, .int .i64 (Q6))]) (fun _ _ => [box g_v1_0 142 [.slice x_v1_0.1 v1_0.length x_v1_0.2]]) (.cons aA .nil) ?_)
  rintro _ Q6 z7 t9 H1 hi10 hb11
  unfold p_slices_IndexFunc_Tag_Tag_numberOf_1_b0 at H1
  refine sr (aG (cP rfl rfl) (nl (aD (cH H1 rfl (fun h14 H1 => ?_) (fun h14 H1 => ?_)))))
  ·refine bH (nT (aD (aQ (sr (aF rfl (aH rfl (nl (sr (aF rfl (aF rfl (aF rfl ?_)))))))))))
   refine gdo H1 fun h15 H1 => (aI (bW dS ty142 rfl rfl h15 rfl (aL (aT aR))) (aI (bZ (i := Q6.toNat) (j := 0) ty142 rfl (aL (aT aR)) h15.lt rfl) (bdo H1 fun r16 h17 H1 => (aI (v := .bool (r16)) (Ex.dyn (caps := [.pointer (some ⟨g_v1_0, 0, none⟩)]) (vs := [.slice ((X1 Q6.toNat).1) ((nth v0 Q6.toNat).length) ((X1 Q6.toNat).2.1)]) rfl rfl (q_callC (c_impl_numberOf_1 (nth v0 Q6.toNat) ((X1 Q6.toNat).1, (X1 Q6.toNat).2.1) g_v1_0 v1_0 x_v1_0 h17) (Solo.box bG) rfl (.cons aA .nil) (aC (aL (aS (aW aR h15.lt))) (aC (aL aR.s.s) aO)))) (nl (cH H1 rfl (fun h18 H1 => ?_) (fun h18 H1 => ?_)))))))
   ·refine sr (aF rfl (aH rfl (nl (bQ (rB (rT (rT (rB (rT (rT (?_)))))))))))
    obtain rfl := hb11 _ (sm H1)
    replace H := sw.r H
    obtain rfl := si H
    exact bk (.cons aA .nil)
   ·exact bH (nB (nT (aP (gdo H1 fun h19 H1 => (aG (bR rfl rfl h19) (aF rfl (aJ (nLI () (hi10 _ (sm H1)) (.cons aA .nil)))))))))
  ·exact dA (xT (xT (xE (nMI () (hb11 _ (sm H1)) (.cons aA .nil)))))
 ·rintro e20 y8 H
  refine nT (sr (aH (v := .int .i64 (-1)) rfl (nl ?_)))
  obtain rfl := si H
  exact bQ (bk (.cons aA .nil))
noncomputable def p_impl_numberOf (v0 : (List (List Tag))) (v1 : (List Tag)) : Option (Int) := bd (p_slices_IndexFunc_Tag_Tag_numberOf_1 v0 v1) fun r3 => gd (I64 (r3 + 1)) <| some (r3 + 1)
theorem c_impl_numberOf {r : Int} (v0 : (List (List Tag))) (x_v0 : Option Addr × Nat) (v1 : (List Tag)) (x_v1 : Option Addr × Nat) (H : p_impl_numberOf v0 v1 = some r) : Fn' prog 186 #[.slice x_v0.1 v0.length x_v0.2, .slice x_v1.1 v1.length x_v1.2] [imm (.slice x_v0.1 v0.length x_v0.2) v0, imm (.slice x_v1.1 v1.length x_v1.2) v1] [] (ι := Unit) (fun _ => .int .i64 (r)) (fun _ => []) (fun _ => []) := by
 refine cof (args := [_, _]) func186 ntmps186 fun c => ?_
 unfold p_impl_numberOf at H
 refine bM aR fun X1 => (sr (f1 (cC (t := 142) rfl) fun g2 => (aH (v := .int .i64 (0)) rfl (nl (sr (aF rfl (aG (v := .func (.func 198) #[] #[.pointer (some ⟨g2, 0, none⟩)]) (p_mkfunc (vs := [.pointer (some ⟨g2, 0, none⟩)]) rfl rfl) (bdo H fun r3 h4 H => (aI (q_callC (c_slices_IndexFunc_Tag_Tag_numberOf_1 v0 x_v0 g2 v1 x_v1 h4) (Solo.box bG) rfl (.cons aA .nil) (aC (aL (aS aR)) (aC (aL aR.s.s) aO))) (gdo H fun h5 H => ?_))))))))))
 refine aG (bR rfl rfl h5) (aH rfl (nl ?_))
 obtain rfl := si H
 exact bQ bk
noncomputable def p_impl_namesOk_b0 (v0 : (List (List Tag))) (Q6 : Int) : Option ((Int) ⊕ (Unit ⊕ Bool)) := cond (decide (Q6 < (v0.length : Int))) (gd (ix Q6 v0.length) <| bd (bd (p_impl_NameOk (nth v0 Q6.toNat)) fun r18 => cond (!r18) (some (true)) (bd (p_impl_numberOf v0 (nth v0 Q6.toNat)) fun r21 => gd (I64 (Q6 + 1)) <| some (!decide (r21 = (Q6 + 1))))) fun b16 => cond (b16) (some (.inr (.inr false))) (gd (I64 (Q6 + 1)) <| some (.inl (Q6 + 1)))) (some (.inr (.inl ())))
noncomputable def p_impl_namesOk (v0 : (List (List Tag))) : Option (Bool) := bd (lp (p_impl_namesOk_b0 v0) 0) <| sw (fun _ => some (decide ((v0.length : Int) ≤ 6))) (fun q => some q)
theorem c_impl_namesOk {r : Bool} (v0 : (List (List Tag))) (x_v0 : Option Addr × Nat) (H : p_impl_namesOk v0 = some r) : Fn' prog 157 #[.slice x_v0.1 v0.length x_v0.2] [imm (.slice x_v0.1 v0.length x_v0.2) v0] [] (ι := Unit) (fun _ => .bool (r)) (fun _ => []) (fun _ => []) := by
 refine cof (args := [_]) func157 ntmps157 fun c => ?_
 unfold p_impl_namesOk at H
 refine bM aR fun X1 => (sr (aH (v := .bool (false)) rfl (nl (aD (sr (aF rfl (aG (bS 142 dS rfl) (aF (v := .int .i64 (0)) rfl (nl (bdo H fun x2 hx3 H => (dC (Λ := Unit) H (fun _ _ => [(0, .slice x_v0.1 v0.length x_v0.2)]) (fun _ _ => []) ?_ ?_)))))))))))
 ·refine aQ (dE hx3 () (fun Q6 _ => [(0, .slice x_v0.1 v0.length x_v0.2), (5, .slice x_v0.1 v0.length x_v0.2), (6, .int .i64 ((v0.length : Int))), (7, .int .i64 (Q6))]) (fun _ _ => []) bK ?_)
  rintro _ Q6 z7 t9 H1 hi10 hb11
  unfold p_impl_namesOk_b0 at H1
  refine sr (aG (cP rfl rfl) (nl (aD (cH H1 rfl (fun h14 H1 => ?_) (fun h14 H1 => ?_)))))
  ·refine bH (nT (aD (aQ (sr (aF rfl (gdo H1 fun h15 H1 => (aI (bW dS ty142 rfl rfl h15 rfl (aL (aT aR))) (aI (bZ (i := Q6.toNat) (j := 0) ty142 rfl (aL (aT aR)) h15.lt rfl) (aH rfl (aH rfl (nl ?_)))))))))))
   refine bdo H1 fun b16 j17 H1 => (dD [(22, .bool (b16)), (0, .slice x_v0.1 v0.length x_v0.2), (5, .slice x_v0.1 v0.length x_v0.2), (6, .int .i64 ((v0.length : Int))), (7, .int .i64 (Q6))] ?_ ?_)
   ·refine dH [(4, .slice ((X1 Q6.toNat).1) ((nth v0 Q6.toNat).length) ((X1 Q6.toNat).2.1)), (3, .int .i64 (Q6)), (0, .slice x_v0.1 v0.length x_v0.2), (5, .slice x_v0.1 v0.length x_v0.2), (6, .int .i64 ((v0.length : Int))), (7, .int .i64 (Q6))] ⟨rfl, rfl, rfl, rfl, rfl, rfl, trivial⟩ (bB rfl (bdo j17 fun r18 h19 j17 => (aZ (bN (c_impl_NameOk (nth v0 Q6.toNat) ((X1 Q6.toNat).1, (X1 Q6.toNat).2.1) h19) rfl (aC (aL (aS (aW aR h15.lt))) aO)) (aX (cV rfl) ?_))))
    rcases aK (!r18) with h20 | h20
    ·have j17 := cdT h20 j17
     refine bC (aE rfl) h20 ?_
     iterate 6 refine bE rfl ?_
     refine aX (v := .bool (true)) (bP rfl rfl) ?_
     obtain rfl := si j17
     show At _ _ _ _ _ _
     exact n1 ⟨rfl, rfl, rfl, rfl, rfl, trivial⟩
    ·have j17 := cdF h20 j17
     refine bC (aE rfl) h20 (aY rfl (aE rfl) (aY rfl (aE rfl) (bdo j17 fun r21 h22 j17 => (bA rfl (bN (c_impl_numberOf v0 x_v0 (nth v0 Q6.toNat) ((X1 Q6.toNat).1, (X1 Q6.toNat).2.1) h22) rfl (aC (aL (aS aR)) (aC (aL (aS (aW aR h15.lt))) aO))) (aY rfl (aE rfl) (gdo j17 fun h23 j17 => (aY rfl (bR rfl rfl h23) (aY rfl (cR rfl rfl) (aX (bO rfl rfl) ?_)))))))))
     obtain rfl := si j17
     show At _ _ _ _ _ _
     exact n1 ⟨rfl, rfl, rfl, rfl, rfl, trivial⟩
   refine cH H1 rfl (fun h24 H1 => ?_) (fun h24 H1 => ?_)
   ·refine sr (aH (v := .bool (false)) rfl (nl (bQ (rB (rT (rT (rB (rT (rT (?_))))))))))
    obtain rfl := hb11 _ (sm H1)
    replace H := sw.r H
    obtain rfl := si H
    exact bk
   ·exact bH (nB (nT (aP (gdo H1 fun h25 H1 => (aG (bR rfl rfl h25) (aF rfl (aJ (nLI () (hi10 _ (sm H1)) bK))))))))
  ·exact dA (xT (xT (xE (nMI () (hb11 _ (sm H1)) bK))))
 ·rintro e26 y8 H
  refine nT (sr (aF rfl (aG (bS 142 dS rfl) (aG (cT rfl rfl) (aH rfl (nl ?_))))))
  obtain rfl := si H
  exact bQ bk
noncomputable def p_slices_Equal_int_int_b0 (v0 : (List Int)) (v1 : (List Int)) (Q6 : Int) : Option ((Int) ⊕ (Unit ⊕ Bool)) := cond (decide (Q6 < (v0.length : Int))) (gd (ix Q6 v0.length) <| gd (ix Q6 v1.length) <| cond (!decide ((nth v0 Q6.toNat) = (nth v1 Q6.toNat))) (some (.inr (.inr false))) (gd (I64 (Q6 + 1)) <| some (.inl (Q6 + 1)))) (some (.inr (.inl ())))
noncomputable def p_slices_Equal_int_int (v0 : (List Int)) (v1 : (List Int)) : Option (Bool) := cond (!decide ((v0.length : Int) = (v1.length : Int))) (some false) (bd (lp (p_slices_Equal_int_int_b0 v0 v1) 0) <| sw (fun _ => some true) (fun q => some q))
theorem c_slices_Equal_int_int {r : Bool} (v0 : (List Int)) (x_v0 : Option Addr × Nat) (v1 : (List Int)) (x_v1 : Option Addr × Nat) (H : p_slices_Equal_int_int v0 v1 = some r) : Fn' prog 160 #[.slice x_v0.1 v0.length x_v0.2, .slice x_v1.1 v1.length x_v1.2] [imm (.slice x_v0.1 v0.length x_v0.2) v0, imm (.slice x_v1.1 v1.length x_v1.2) v1] [] (ι := Unit) (fun _ => .bool (r)) (fun _ => []) (fun _ => []) := by
 refine cof (args := [_, _]) func160 ntmps160 fun c => ?_
 unfold p_slices_Equal_int_int at H
 refine sr (aH (v := .bool (false)) rfl (nl (aD (sr (aF rfl (aG (bS 3 dP rfl) (aF rfl (aG (bS 3 dP rfl) (aG (cR rfl rfl) (nl (cH H rfl (fun h1 H => ?_) (fun h1 H => ?_))))))))))))
 ·refine sr (aH (v := .bool (false)) rfl (nl (bQ (rT (?_)))))
  obtain rfl := si H
  exact bk
 ·refine bH (nT (aD (sr (aF rfl (aG (bS 3 dP rfl) (aF (v := .int .i64 (0)) rfl (nl (bdo H fun x2 hx3 H => (dC (Λ := Unit) H (fun _ _ => []) (fun _ _ => []) ?_ ?_)))))))))
  ·refine aQ (dE hx3 () (fun Q6 _ => [(0, .slice x_v0.1 v0.length x_v0.2), (1, .slice x_v1.1 v1.length x_v1.2), (12, .int .i64 ((v0.length : Int))), (13, .int .i64 (Q6))]) (fun _ _ => []) bK ?_)
   rintro _ Q6 z7 t9 H1 hi10 hb11
   unfold p_slices_Equal_int_int_b0 at H1
   refine sr (aG (cP rfl rfl) (nl (aD (cH H1 rfl (fun h14 H1 => ?_) (fun h14 H1 => ?_)))))
   ·refine bH (nT (aD (aQ (sr (aF rfl (aH rfl (nl (aD (dF [(5, .int .i64 (Q6)), (0, .slice x_v0.1 v0.length x_v0.2), (1, .slice x_v1.1 v1.length x_v1.2), (12, .int .i64 ((v0.length : Int))), (13, .int .i64 (Q6))] mixed (.inr (by kernel_rfl)) ⟨rfl, rfl, rfl, rfl, rfl, trivial⟩ rfl (bB rfl (bB rfl ?_)))))))))))
    refine gdo H1 fun h15 H1 => (aZ (bW dP ty3 rfl rfl h15 rfl (aN (aL aR))) (aZ (bZ (i := Q6.toNat) (j := 0) ty3 rfl (aN (aL aR)) h15.lt rfl) (bB rfl (bB rfl (gdo H1 fun h16 H1 => (aZ (bW dP ty3 rfl rfl h16 rfl (aN (aL aR.s))) (aZ (bZ (i := Q6.toNat) (j := 0) ty3 rfl (aN (aL aR.s)) h16.lt rfl) (aX (cR rfl rfl) (nT (?_))))))))))
    refine cH H1 rfl (fun h17 H1 => ?_) (fun h17 H1 => ?_)
    ·refine sr (aH (v := .bool (false)) rfl (nl (bQ (rB (rT (rT (rB (rT (rT (?_))))))))))
     obtain rfl := hb11 _ (sm H1)
     replace H := sw.r H
     obtain rfl := si H
     exact bk
    ·exact bH (nB (nT (aP (gdo H1 fun h18 H1 => (aG (bR rfl rfl h18) (aF rfl (aJ (nLI () (hi10 _ (sm H1)) bK))))))))
   ·exact dA (xT (xT (xE (nMI () (hb11 _ (sm H1)) bK))))
  ·rintro e19 y8 H
   refine nT (sr (aH (v := .bool (true)) rfl (nl ?_)))
   obtain rfl := si H
   exact bQ bk
noncomputable def p_impl_IndexOk_1 (v0 : Post) (v1 : Post) : Option (Bool) := bd (cond (decide (v0.1 = v1.1)) (bd (p_slices_Equal_int_int v0.2 v1.2) fun r6 => some (r6)) (some (false))) fun b3 => some b3
theorem c_impl_IndexOk_1 {r : Bool} (v0 : Post) (x_v0 : (Unit × Unit) × (Option Addr × Nat)) (v1 : Post) (x_v1 : (Unit × Unit) × (Option Addr × Nat)) (H : p_impl_IndexOk_1 v0 v1 = some r) : Fn' prog 159 #[.agg #[.string (v0.1.1), .string (v0.1.2), .slice x_v0.2.1 v0.2.length x_v0.2.2], .agg #[.string (v1.1.1), .string (v1.1.2), .slice x_v1.2.1 v1.2.length x_v1.2.2]] [imm (.slice x_v0.2.1 v0.2.length x_v0.2.2) v0.2, imm (.slice x_v1.2.1 v1.2.length x_v1.2.2) v1.2] [] (ι := Unit) (fun _ => .bool (r)) (fun _ => []) (fun _ => []) := by
 refine cof (args := [_, _]) func159 ntmps159 fun c => ?_
 unfold p_impl_IndexOk_1 at H
 refine sr (f1 (cC (t := 183) rfl) fun g1 => (f1 (cC (t := 183) rfl) fun g2 => (aH (v := .bool (false)) rfl (nl (bdo H fun b3 j4 H => (dD [(4, .bool (b3))] ?_ ?_))))))
 ·refine dH [(3, .pointer (some ⟨g2, 0, none⟩)), (2, .pointer (some ⟨g1, 0, none⟩))] ⟨rfl, rfl, trivial⟩ (aX (cB fa183_0 rfl rfl) (aZ (v := .agg #[.string (v0.1.1), .string (v0.1.2)]) (q_ldbP [.string (v0.1.1), .string (v0.1.2)] ty172 rfl hs1 rfl rfl) (aX (cB fa183_0 rfl rfl) (aZ (v := .agg #[.string (v1.1.1), .string (v1.1.2)]) (q_ldbP [.string (v1.1.1), .string (v1.1.2)] ty172 rfl aB rfl rfl) (aX (v := .bool (decide (v0.1 = v1.1))) (p_aeql (a := v0.1) (b := v1.1) ae172 rfl rfl rfl rfl) ?_)))))
  rcases aK (decide (v0.1 = v1.1)) with h5 | h5
  ·have j4 := cdT h5 j4
   refine bC (aE rfl) h5 (aY rfl (cB fa183_1 rfl rfl) (bA rfl (bI ty23 rfl hs1 rfl) (aY rfl (cB fa183_1 rfl rfl) (bA rfl (bI ty23 rfl aB rfl) (bdo j4 fun r6 h7 j4 => (bA rfl (bN (c_slices_Equal_int_int v0.2 x_v0.2 v1.2 x_v1.2 h7) rfl (aC (aL aR) (aC (aL aR.s) aO))) (aX (bP rfl rfl) (aX (p_assign rfl) ?_))))))))
   obtain rfl := si j4
   show At _ _ _ _ _ _
   exact n1 ⟨rfl, trivial⟩
  ·have j4 := cdF h5 j4
   refine bC (aE rfl) h5 ?_
   iterate 5 refine bE rfl ?_
   refine aX (v := .bool (false)) (bO rfl rfl) (aX (v := .bool (false)) (p_assign rfl) ?_)
   obtain rfl := si j4
   show At _ _ _ _ _ _
   exact n1 ⟨rfl, trivial⟩
 obtain rfl := si H
 exact bQ bk
noncomputable def p_slices_EqualFunc_Post_Post_Post_Post_IndexOk_1_b0 (v0 : (List Post)) (v1 : (List Post)) (Q8 : Int) : Option ((Int) ⊕ (Unit ⊕ Bool)) := cond (decide (Q8 < (v0.length : Int))) (gd (ix Q8 v0.length) <| gd (ix Q8 v1.length) <| bd (p_impl_IndexOk_1 (nth v0 Q8.toNat) (nth v1 Q8.toNat)) fun r21 => cond (!r21) (some (.inr (.inr false))) (gd (I64 (Q8 + 1)) <| some (.inl (Q8 + 1)))) (some (.inr (.inl ())))
noncomputable def p_slices_EqualFunc_Post_Post_Post_Post_IndexOk_1 (v0 : (List Post)) (v1 : (List Post)) : Option (Bool) := cond (!decide ((v0.length : Int) = (v1.length : Int))) (some false) (bd (lp (p_slices_EqualFunc_Post_Post_Post_Post_IndexOk_1_b0 v0 v1) 0) <| sw (fun _ => some true) (fun q => some q))
theorem c_slices_EqualFunc_Post_Post_Post_Post_IndexOk_1 {r : Bool} (v0 : (List Post)) (x_v0 : Option Addr × Nat) (v1 : (List Post)) (x_v1 : Option Addr × Nat) (H : p_slices_EqualFunc_Post_Post_Post_Post_IndexOk_1 v0 v1 = some r) : Fn' prog 158 #[.slice x_v0.1 v0.length x_v0.2, .slice x_v1.1 v1.length x_v1.2, .func (.func 159) #[] #[]] [imm (.slice x_v0.1 v0.length x_v0.2) v0, imm (.slice x_v1.1 v1.length x_v1.2) v1] [] (ι := Unit) (fun _ => .bool (r)) (fun _ => []) (fun _ => []) := by
 refine cof (args := [_, _, _]) func158 ntmps158 fun c => ?_
 unfold p_slices_EqualFunc_Post_Post_Post_Post_IndexOk_1 at H
 refine bM aR fun X1 => (bM aR.s.s fun X2 => (sr (aH (v := .bool (false)) rfl (nl (aD (sr (aF rfl (aG (bS 183 dT rfl) (aF rfl (aG (bS 183 dT rfl) (aG (cR rfl rfl) (nl ?_))))))))))))
 refine cH H rfl (fun h3 H => ?_) (fun h3 H => ?_)
 ·refine sr (aH (v := .bool (false)) rfl (nl (bQ (rT (?_)))))
  obtain rfl := si H
  exact bk
 ·refine bH (nT (aD (sr (aF rfl (aG (bS 183 dT rfl) (aF (v := .int .i64 (0)) rfl (nl (bdo H fun x4 hx5 H => (dC (Λ := Unit) H (fun _ _ => []) (fun _ _ => []) ?_ ?_)))))))))
  ·refine aQ (dE hx5 () (fun Q8 _ => [(1, .slice x_v1.1 v1.length x_v1.2), (2, .func (.func 159) #[] #[]), (15, .slice x_v0.1 v0.length x_v0.2), (16, .int .i64 ((v0.length : Int))), (17, .int .i64 (Q8))]) (fun _ _ => []) bK ?_)
   rintro _ Q8 z9 t11 H1 hi12 hb13
   unfold p_slices_EqualFunc_Post_Post_Post_Post_IndexOk_1_b0 at H1
   refine sr (aG (cP rfl rfl) (nl (aD (cH H1 rfl (fun h16 H1 => ?_) (fun h16 H1 => ?_)))))
   ·refine bH (nT (aD (aQ (sr (aF rfl (gdo H1 fun h17 H1 => (aI (bW dT ty183 rfl rfl h17 rfl (aL (aT aR.s))) (aI (v := .agg #[.string (((nth v0 Q8.toNat).1).1), .string (((nth v0 Q8.toNat).1).2), .slice (((X1 Q8.toNat).2).1) (((nth v0 Q8.toNat).2).length) (((X1 Q8.toNat).2).2.1)]) (cA (i := Q8.toNat) ty183 rfl (aL (aT aR.s)) h17.lt) (f1 (cD ty183) fun g18 => (aH rfl ?_))))))))))
    refine stb (cs' := [.string (((nth v0 Q8.toNat).1).1), .string (((nth v0 Q8.toNat).1).2), .slice (((X1 Q8.toNat).2).1) (((nth v0 Q8.toNat).2).length) (((X1 Q8.toNat).2).2.1)]) ty183 cZ (nl (sr (aF rfl (aF rfl (gdo H1 fun h19 H1 => (aI (bW dT ty183 rfl rfl h19 rfl (aL (aT aR))) (aI (v := .agg #[.string (((nth v1 Q8.toNat).1).1), .string (((nth v1 Q8.toNat).1).2), .slice (((X2 Q8.toNat).2).1) (((nth v1 Q8.toNat).2).length) (((X2 Q8.toNat).2).2.1)]) (cA (i := Q8.toNat) ty183 rfl (aL (aT aR)) h19.lt) (f1 (cD ty183) fun g20 => (stb (cs' := [.string (((nth v1 Q8.toNat).1).1), .string (((nth v1 Q8.toNat).1).2), .slice (((X2 Q8.toNat).2).1) (((nth v1 Q8.toNat).2).length) (((X2 Q8.toNat).2).2.1)]) ty183 cZ ?_)))))))))
    refine nl (sr (aF rfl (aI (bJ ty183 rfl hs1 rfl) (aI (bJ ty183 rfl aB rfl) (bdo H1 fun r21 h22 H1 => (aI (v := .bool (r21)) (Ex.dyn (caps := []) (vs := [.agg #[.string (((nth v0 Q8.toNat).1).1), .string (((nth v0 Q8.toNat).1).2), .slice (((X1 Q8.toNat).2).1) (((nth v0 Q8.toNat).2).length) (((X1 Q8.toNat).2).2.1)], .agg #[.string (((nth v1 Q8.toNat).1).1), .string (((nth v1 Q8.toNat).1).2), .slice (((X2 Q8.toNat).2).1) (((nth v1 Q8.toNat).2).length) (((X2 Q8.toNat).2).2.1)]]) rfl rfl (bN (c_impl_IndexOk_1 (nth v0 Q8.toNat) (((), ()), (((X1 Q8.toNat).2).1, ((X1 Q8.toNat).2).2.1)) (nth v1 Q8.toNat) (((), ()), (((X2 Q8.toNat).2).1, ((X2 Q8.toNat).2).2.1)) h22) rfl (aC (aL (aS (aU (aW aR.s h17.lt)))) (aC (aL (aS (aU (aW aR h19.lt)))) aO)))) (aG (cV rfl) (nl (cH H1 rfl (fun h23 H1 => ?_) (fun h23 H1 => ?_))))))))))
    ·refine sr (aH (v := .bool (false)) rfl (nl (bQ (rB (rT (rT (rB (rT (rT (?_))))))))))
     obtain rfl := hb13 _ (sm H1)
     replace H := sw.r H
     obtain rfl := si H
     exact bk
    ·exact bH (nB (nT (aP (gdo H1 fun h24 H1 => (aG (bR rfl rfl h24) (aF rfl (aJ (nLI () (hi12 _ (sm H1)) bK))))))))
   ·exact dA (xT (xT (xE (nMI () (hb13 _ (sm H1)) bK))))
  ·rintro e25 y10 H
   refine nT (sr (aH (v := .bool (true)) rfl (nl ?_)))
   obtain rfl := si H
   exact bQ bk
noncomputable def p_impl_IndexOk (v0 : Index) : Option (Bool) := bd (p_impl_namesOk v0.1) fun r4 => cond (r4) (bd (p_impl_indexOf v0.1) fun r7 => bd (p_slices_EqualFunc_Post_Post_Post_Post_IndexOk_1 v0.2 r7.2) fun r10 => some r10) (some false)
theorem c_impl_IndexOk {r : Bool} (v0 : Index) (x_v0 : (Option Addr × Nat) × (Option Addr × Nat)) (H : p_impl_IndexOk v0 = some r) : Fn' prog 112 #[.agg #[.slice x_v0.1.1 v0.1.length x_v0.1.2, .slice x_v0.2.1 v0.2.length x_v0.2.2]] [imm (.slice x_v0.1.1 v0.1.length x_v0.1.2) v0.1, imm (.slice x_v0.2.1 v0.2.length x_v0.2.2) v0.2] [] (ι := Unit) (fun _ => .bool (r)) (fun _ => []) (fun _ => []) := by
 refine cof (args := [_]) func112 ntmps112 fun c => ?_
 unfold p_impl_IndexOk at H
 refine bM aR fun X1 => (bM aR.s.s fun X2 => (sr (f1 (cC (t := 38) rfl) fun g3 => (aH (v := .bool (false)) rfl (nl (aD (bdo H fun r4 h5 H => ?_)))))))
 rcases aK (r4) with h6 | h6
 ·have H := cdT h6 H
  refine dG [(1, .pointer (some ⟨g3, 0, none⟩))] 2 [0, 1, 2, 3, 4, 5, 6, 7, 8, 9, 10, 11, 12] [8] [] mixed (by kernel_rfl) (by decide) dI ⟨rfl, trivial⟩ rfl okNil (w_p rfl (cB fa38_0 rfl rfl) ?_)
  refine w_o rfl (fun F => (bI ty30 rfl (aB.app F) rfl)) ?_
  refine w_o rfl (fun F => (bN (c_impl_namesOk v0.1 x_v0.1 h5) rfl (aC (aL (aS aR.s)) aO))) (w_p (v := .bool (true)) rfl ((Pu.eqv (v := .bool (r4)) (aE rfl) (congrArg Value.bool h6))) (w_p rfl (cB fa38_1 rfl rfl) ?_))
  refine w_o rfl (fun F => (bI ty36 rfl (aB.app F) rfl)) (w_p rfl (cB fa38_0 rfl rfl) ?_)
  refine w_o rfl (fun F => (bI ty30 rfl (aB.app F) rfl)) (bdo H fun r7 h8 H => (cJ rfl (by decide) rfl cN rfl (cE (c_impl_indexOf v0.1 x_v0.1 h8) (fun _ => (bF (bF bG))) rfl (aC (aL (aS aR.s)) aO)) ?_))
  rintro _ _ _ ⟨x9, rfl, rfl, rfl⟩
  refine ⟨(aM (by kernel_rfl) (bV rfl rfl (fun F => (bI ty36 rfl (hs2.app F) rfl)) (aM (by kernel_rfl) (bV rfl rfl (fun F => (bI ty30 rfl (hs2.app F) rfl)) bU)))), ?_⟩
  refine w_p rfl ((p_field1 underlying38 rfl ty36 rfl rfl)) (bdo H fun r10 h11 H => ?_)
  refine w_o rfl (fun F => (bN (c_slices_EqualFunc_Post_Post_Post_Post_IndexOk_1 v0.2 x_v0.2 r7.2 x9.2 h11) rfl (aC (aL (aS aR)) (aC (bL (hs1.app F)) aO)))) (w_p rfl (bP rfl rfl) (w_p rfl (p_assign rfl) (cK (nT (?_)))))
  obtain rfl := si H
  exact bQ bk
 ·have H := cdF h6 H
  refine dG [(1, .pointer (some ⟨g3, 0, none⟩))] 1 [0, 1, 2, 3, 4, 5, 6, 7, 8, 9, 10, 11, 12] [] [] mixed (by kernel_rfl) (by decide) dI ⟨rfl, trivial⟩ rfl okNil (w_p rfl (cB fa38_0 rfl rfl) ?_)
  refine w_o rfl (fun F => (bI ty30 rfl (aB.app F) rfl)) ?_
  refine w_o rfl (fun F => (bN (c_impl_namesOk v0.1 x_v0.1 h5) rfl (aC (aL (aS aR.s)) aO))) (w_p (v := .bool (false)) rfl ((Pu.eqv (v := .bool (r4)) (aE rfl) (congrArg Value.bool h6))) (cI rfl (by decide) rfl rfl rfl (cI rfl (by decide) rfl rfl rfl (cI rfl (by decide) rfl rfl rfl (cI rfl (by decide) rfl rfl rfl (cI rfl (by decide) rfl rfl rfl (cI rfl (by decide) rfl rfl rfl (cI rfl (by decide) rfl rfl rfl (w_p (v := .bool (false)) rfl (bO rfl rfl) ?_)))))))))
  refine w_p (v := .bool (false)) rfl (p_assign rfl) (cK (nT (?_)))
  obtain rfl := si H
  exact bQ bk
noncomputable def p_slices_Max_int_int_b0 (v0 : (List Int)) (Q7 : Int × Int) : Option ((Int × Int) ⊕ (Int)) := cond (decide (Q7.2 < (v0.length : Int))) (gd (ix Q7.2 v0.length) <| gd (I64 (Q7.2 + 1)) <| some (.inl (max Q7.1 (nth v0 Q7.2.toNat), Q7.2 + 1))) (some (.inr Q7.1))
noncomputable def p_slices_Max_int_int (v0 : (List Int)) : Option (Int) := cond (decide ((v0.length : Int) < 1)) (none) (gd (ix 0 v0.length) <| bd (lp (p_slices_Max_int_int_b0 v0) (nth v0 0, 1)) fun x3 => some x3)
theorem c_slices_Max_int_int {r : Int} (v0 : (List Int)) (x_v0 : Option Addr × Nat) (H : p_slices_Max_int_int v0 = some r) : Fn' prog 113 #[.slice x_v0.1 v0.length x_v0.2] [imm (.slice x_v0.1 v0.length x_v0.2) v0] [] (ι := Unit) (fun _ => .int .i64 (r)) (fun _ => []) (fun _ => []) := by
 refine cof (args := [_]) func113 ntmps113 fun c => ?_
 unfold p_slices_Max_int_int at H
 refine sr (aH (v := .int .i64 (0)) rfl (nl (aD (sr (aF rfl (aG (bS 3 dP rfl) (aG (cP rfl rfl) (nl (cH H rfl (fun h1 H => ?_) (fun h1 H => ?_))))))))))
 ·exact nomatch H
 ·refine bH (nT (sr (aF rfl (gdo H fun h2 H => (aI (bW dP ty3 rfl rfl h2 rfl (aN (aL aR))) (aI (bZ (i := 0) (j := 0) ty3 rfl (aN (aL aR)) h2.lt rfl) (aH rfl (nl (aD (sr (aH (v := .int .i64 (1)) rfl (nl ?_))))))))))))
  refine bdo H fun x3 hx4 H => (dB (ι := Unit) (fun ψ => [(3, .int .i64 (x3))]) (fun ψ => []) ?_ ?_)
  ·refine aQ (dE hx4 () (fun Q7 _ => [(0, .slice x_v0.1 v0.length x_v0.2), (3, .int .i64 (Q7.1)), (4, .int .i64 (Q7.2))]) (fun _ _ => []) bK ?_)
   rintro _ Q7 z8 t10 H1 hi11 hb12
   unfold p_slices_Max_int_int_b0 at H1
   refine aD (sr (aF rfl (aF rfl (aG (bS 3 dP rfl) (aG (cP rfl rfl) (nl (cH H1 rfl (fun h15 H1 => ?_) (fun h15 H1 => ?_))))))))
   ·refine bH (nT (aD (aQ (aP (aF rfl (aF rfl (aF rfl (gdo H1 fun h16 H1 => (aI (bW dP ty3 rfl rfl h16 rfl (aN (aL aR))) (aI (bZ (i := Q7.2.toNat) (j := 0) ty3 rfl (aN (aL aR)) h16.lt rfl) ?_))))))))))
    exact aG (v := .int .i64 (max Q7.1 (nth v0 Q7.2.toNat))) (p_max rfl rfl) (aH rfl (aJ (nB (nT (aP (aF rfl (gdo H1 fun h17 H1 => (aG (bR rfl rfl h17) (aH rfl (aJ (nLI () (hi11 _ (sm H1)) bK)))))))))))
   ·refine dA (xT (xT (xE (?_))))
    obtain rfl := hb12 _ (sm H1)
    exact nMC () ⟨rfl, trivial⟩ bT bK
  ·intro y9
   show At _ _ [(3, .int .i64 (x3))] _ [] _
   refine nT (sr (aF rfl (aH rfl (nl ?_))))
   obtain rfl := si H
   exact bQ bk
noncomputable def p_impl_PartOf (v0 : Part) (v1 : Int) : Option ((List Row)) := bd (p_slices_Index_int_int v0.1 v1) fun r3 => bd (bd (p_impl_PartOk v0) fun r7 => cond (!r7) (some (true)) (some (decide (r3 < 0)))) fun b5 => cond (b5) (some ([] : List Row)) (gd (ix r3 v0.2.length) <| gd (room (([] : List Row).length + (nth v0.2 r3.toNat).length)) <| some (([] : List Row) ++ (nth v0.2 r3.toNat)))
theorem c_impl_PartOf {r : (List Row)} (v0 : Part) (x_v0 : (Option Addr × Nat) × (Option Addr × Nat)) (v1 : Int) (H : p_impl_PartOf v0 v1 = some r) : Fn' prog 146 #[.agg #[.slice x_v0.1.1 v0.1.length x_v0.1.2, .slice x_v0.2.1 v0.2.length x_v0.2.2], .int .i64 (v1)] [imm (.slice x_v0.1.1 v0.1.length x_v0.1.2) v0.1, imm (.slice x_v0.2.1 v0.2.length x_v0.2.2) v0.2] [] (ι := Option Addr × Nat) (fun x => .slice x.1 r.length x.2) (fun _ => []) (fun x => [tree (.slice x.1 r.length x.2) r]) := by
 refine cof (args := [_, _]) func146 ntmps146 fun c => ?_
 unfold p_impl_PartOf at H
 refine bM aR.s fun X1 => (sr (f1 (cC (t := 75) rfl) fun g2 => (aH (v := .slice none 0 0) rfl (nl (sr (aG (cB fa75_0 rfl rfl) (aI (bI ty23 rfl aB rfl) (aF rfl (bdo H fun r3 h4 H => (aI (bN (c_slices_Index_int_int v0.1 x_v0.1 v1 h4) rfl (aC (aL aR.s) aO)) ?_))))))))))
 refine aH rfl (nl (aD (bdo H fun b5 j6 H => (dD [(16, .bool (b5)), (5, .int .i64 (r3)), (2, .pointer (some ⟨g2, 0, none⟩))] ?_ ?_))))
 ·refine dH [(5, .int .i64 (r3)), (2, .pointer (some ⟨g2, 0, none⟩))] ⟨rfl, rfl, trivial⟩ (aZ (bJ ty75 rfl aB rfl) (bdo j6 fun r7 h8 j6 => (aZ (bN (c_impl_PartOk v0 x_v0 h8) rfl (aC (aL aR.s) (aC (aL (aS aR)) aO))) (aX (cV rfl) ?_))))
  rcases aK (!r7) with h9 | h9
  ·have j6 := cdT h9 j6
   refine bC (aE rfl) h9 ?_
   iterate 2 refine bE rfl ?_
   refine aX (v := .bool (true)) (bP rfl rfl) ?_
   obtain rfl := si j6
   show At _ _ _ _ _ _
   exact n1 ⟨rfl, rfl, rfl, trivial⟩
  ·have j6 := cdF h9 j6
   refine bC (aE rfl) h9 (aY rfl (aE rfl) (aY rfl (cP rfl rfl) (aX (bO rfl rfl) ?_)))
   obtain rfl := si j6
   show At _ _ _ _ _ _
   exact n1 ⟨rfl, rfl, rfl, trivial⟩
 refine cH H rfl (fun h10 H => ?_) (fun h10 H => ?_)
 ·refine sr (f2 (e_lit0 Row dL ty135) fun a11 c12 => (aH rfl (nl (bQ (rT (?_))))))
  obtain rfl := si H
  exact back1 (a11, c12) rfl (ResV.tmp (v := .slice a11 (([] : List Row).length) c12) rfl) rfl cM (.cons aA .nil)
 ·refine bH (nT (sr (f2 (e_lit0 Row dL ty135) fun a13 c14 => (aG (cB fa75_1 rfl rfl) (aI (bI ty73 rfl hs1 rfl) (aF rfl (gdo H fun h15 H => (aI (bW dY ty130 rfl rfl h15 rfl (aL (aT aR))) (aI (bZ (i := r3.toNat) (j := 0) ty130 rfl (aL (aT aR)) h15.lt rfl) ?_)))))))))
  refine gdo H fun h18 H => (f2 (e_appF (l := ([] : List Row)) (k := nth v0.2 r3.toNat) (α := Row) dL ty135 rfl rfl (h18.b (by decide)) h18.x (.cons aA .nil) (aL (aS (aW aR h15.lt)))) fun a16 c17 => (aH rfl (nl (bQ ?_))))
  obtain rfl := si H
  exact back1 (a16, c17) rfl (ResV.tmp (v := .slice a16 ((([] : List Row) ++ (nth v0.2 r3.toNat)).length) c17) rfl) rfl cM (.cons aA .nil)
def p_slices_Insert_Row_Row (v0 : List Row) (v1 : Int) (v2 : List Row) : Option (List Row) := p_insert v0 v1 v2
theorem c_slices_Insert_Row_Row {r : (List Row)} (v0 : (List Row)) (x_v0 : Option Addr × Nat) (v1 : Int) (v2 : (List Row)) (x_v2 : Option Addr × Nat) (H : p_slices_Insert_Row_Row v0 v1 v2 = some r) : Fn' prog 187 #[.slice x_v0.1 v0.length x_v0.2, .int .i64 (v1), .slice x_v2.1 v2.length x_v2.2] [] [tree (.slice x_v0.1 v0.length x_v0.2) v0, tree (.slice x_v2.1 v2.length x_v2.2) v2] (ι := Option Addr × Nat) (fun x => .slice x.1 r.length x.2) (fun _ => []) (fun x => [tree (.slice x.1 r.length x.2) r]) := by
 refine cof (args := [_, _, _]) func187 ntmps187 fun c => ?_
 unfold p_slices_Insert_Row_Row p_insert at H
 obtain ⟨h1, H⟩ := gd.of H; obtain ⟨h2, H⟩ := gd.of H; obtain ⟨h3, H⟩ := gd.of H
 obtain ⟨oa, cp⟩ := x_v0; obtain ⟨ob, cq⟩ := x_v2
 obtain ⟨i, rfl⟩ := Int.eq_ofNat_of_zero_le h1.1
 have hi : i ≤ v0.length := Int.ofNat_le.1 h1.2
 have hr : v0.take i ++ v2 ++ v0.drop i = r := Option.some.inj H
 subst hr
 have hrm : v0.length + v2.length ≤ 1073741824 := h2
 refine Tr.bnd aB fun _ b1 b2 => (sr (aH (v := .slice none 0 0) rfl (aJ (nT (sr (aF rfl (aF rfl (aG (v := .slice (subA oa cp (i : Int).toNat (Enc.sz Row)) (v0.length - (i : Int).toNat) (cp - (i : Int).toNat)) (p_slAny dL (show TyI _ _ _ (Enc.sz Row) _ _ from ty135) rfl rfl h1.1 h1.2 b1) (aJ (nT (sr ?_)))))))))))
 refine aF rfl (aG (bS 135 dL rfl) (aH rfl (aJ (nT (aD (sr (aF rfl (aG (cS rfl rfl) (aJ (nT (Tr.cond (b := decide ((v2.length : Int) = 0)) rfl (fun h => absurd (of_decide_eq_true h) (by omega)) (fun _ => (bH ?_)))))))))))))
 refine nT (sr (aF rfl (aG (bS 135 dL rfl) (aH rfl (aJ (nT (aD (sr (aF rfl (aF rfl (aG (cS rfl rfl) (aJ ?_))))))))))))
 refine nT (Tr.cond (b := decide ((i : Int) = (v0.length : Int))) rfl (fun h => ?_) (fun h => ?_))
 ·have hin : i = v0.length := Int.ofNat_inj.1 (of_decide_eq_true h)
  subst hin
  refine sr (aF rfl (aF rfl (f2 (e_appF (l := v0) (k := v2) (α := Row) dL ty135 rfl rfl (room.b h2 (by decide)) (room.x h2) (.cons aA .nil) (bL aB)) fun oa2 cp2 => (aH rfl (aJ (nT (bQ ?_)))))))
  have hE : v0.take v0.length ++ v2 ++ v0.drop v0.length = v0 ++ v2 := by rw [List.take_length, List.drop_length, List.append_nil]
  rw [hE]
  exact back1 (oa2, cp2) rfl (ResV.tmp (v := .slice oa2 ((v0 ++ v2).length) (cp2)) rfl) rfl cM (.cons aA .nil)
 have hne : i < v0.length := Nat.lt_of_le_of_ne hi fun e => absurd (e ▸ h) (by simp)
 refine bH (nT (aD (sr (aF rfl (aF rfl ?_)))))
 refine aG (bR rfl rfl (by unfold I64; omega)) ?_
 refine aF rfl (aG (v := .int .i64 (cp : Int)) (p_cap 135 dL rfl) (aG (cU rfl rfl) (aJ (nT (Tr.unT (.cons aA .nil) (by omega) fun g bt js e1 _ _ _ l1 l2 l3 => ?_)))))
 subst e1
 have l2 : v0.length * Enc.sz Row + js.length = cp * Enc.sz Row := l2
 refine Tr.unT (.cons (Del.there aA) .nil) h3 fun g2 bt2 js2 e1 _ _ _ k1 k2 k3 => ?_
 subst e1
 have hA1 : ((v0.take i).flatMap Flat.enc).length = i * Enc.sz Row := by rw [flat_flen fun x hx => (l3 x (List.mem_of_mem_take hx)).2.1, List.length_take, Nat.min_eq_left hi]
 have hA2 : ((v0.drop i).flatMap Flat.enc).length = (v0.length - i) * Enc.sz Row := by rw [flat_flen fun x hx => (l3 x (List.mem_of_mem_drop hx)).2.1, List.length_drop]
 have hAA : v0.flatMap Flat.enc = (v0.take i).flatMap Flat.enc ++ (v0.drop i).flatMap Flat.enc := by rw [← List.flatMap_append, List.take_append_drop]
 have hall : ∀ x ∈ v0.take i ++ v2 ++ v0.drop i, Flat.wf x ∧ (Flat.enc x).length = Enc.sz Row := ins_all (fun x hx => ⟨(l3 x hx).1, (l3 x hx).2.1⟩) (fun x hx => ⟨(k3 x hx).1, (k3 x hx).2.1⟩)
 have hlen : (v0.take i ++ v2 ++ v0.drop i).length = v0.length + v2.length := by simp; omega
 have o1 : ∀ v ∈ (v0.drop i).flatMap Flat.enc, v.oneCell' = true := fun v hv => by obtain ⟨x, hx, hv⟩ := List.mem_flatMap.1 hv; exact (l3 x (List.mem_of_mem_drop hx)).2.2 v hv
 have o2 : ∀ v ∈ v2.flatMap Flat.enc, v.oneCell' = true := fun v hv => by obtain ⟨x, hx, hv⟩ := List.mem_flatMap.1 hv; exact (k3 x hx).2.2 v hv
 have q0 : i * Enc.sz Row + v2.length * Enc.sz Row = (i + v2.length) * Enc.sz Row := (Nat.add_mul _ _ _).symm
 have q1 : i * Enc.sz Row + (v0.length - i) * Enc.sz Row = v0.length * Enc.sz Row := by rw [← Nat.add_mul]; congr 1; omega
 have q2 : (v0.length + v2.length) * Enc.sz Row = v0.length * Enc.sz Row + v2.length * Enc.sz Row := Nat.add_mul _ _ _
 refine Tr.cond (b := decide ((cp : Int) < (v0.length : Int) + (v2.length : Int))) rfl (fun h => ?_) (fun h => ?_)
 ·have h := of_decide_eq_true h
  refine sr (aF rfl (aF rfl (aG (v := .slice (some ⟨g, 0, none⟩) (i) (cp)) (p_slHi i dL (show TyI _ _ _ (Enc.sz Row) _ _ from ty135) rfl rfl rfl (by omega)) (aF rfl (aF rfl ?_)))))
  refine aG (bR rfl rfl (by unfold I64; omega)) ?_
  refine aF rfl ?_
  refine aG (cQ rfl rfl (by unfold I64; omega)) ?_
  refine Rg.ef (e_appZ (k := v0.length + v2.length - i) (olds := (v0.take i).flatMap Flat.enc) dL underlying3 (show TyI _ _ _ (Enc.sz Row) _ _ from ty135) (Enc.pos (α := Row)) rfl rfl (by omega) (Has.there aB) (by rw [hAA, List.append_assoc, ← hA1]; exact List.take_left.symm) hA1 (by omega) (by omega) (by rw [show i + (v0.length + v2.length - i) = v0.length + v2.length by omega]; exact room.b h2 (by decide)) (by omega)) rfl ?_
  rintro _ _ _ ⟨g3, cp3, js3, rfl, m1, m2, m3, rfl, rfl⟩
  refine aH rfl (nl ?_)
  have hn3 : i + (v0.length + v2.length - i) = v0.length + v2.length := by omega
  have m4 := Nat.mul_le_mul_right (Enc.sz Row) m1
  rw [hn3] at m4
  refine sr (aF rfl (aF rfl (aG (v := .slice (some ⟨g3, i * Enc.sz Row, none⟩) (i + (v0.length + v2.length - i) - i) (cp3 - i)) (p_slLo i dL (show TyI _ _ _ (Enc.sz Row) _ _ from ty135) rfl rfl rfl (by omega) m1 (by omega)) (aF rfl ?_))))
  refine f0 (e_cpB (m := v2.length) (ks := v2.flatMap Flat.enc) dL (show TyI _ _ _ (Enc.sz Row) _ _ from ty135) rfl rfl (Nat.min_eq_left (by omega)) (by rw [List.drop_zero, ← k1]; exact List.take_left.symm) k1 cZ (Has.there aB) (by rw [List.length_append, hA1]; omega) o2) ?_
  refine aJ (nT (aD (tNw 2 [0, 1, 2, 3, 4, 5, 6, 7, 8] [8] [] mixed (by kernel_rfl) (by decide) dI okNil (w_p rfl (aE rfl) (w_p rfl (aE rfl) (w_p rfl (aE rfl) ?_))))))
  refine w_p rfl (bR rfl rfl (by unfold I64; omega)) ?_
  refine w_p (v := .slice (some ⟨g3, (i + v2.length) * Enc.sz Row, none⟩) (i + (v0.length + v2.length - i) - (i + v2.length)) (cp3 - (i + v2.length))) rfl (p_slLo (i + v2.length) dL (show TyI _ _ _ (Enc.sz Row) _ _ from ty135) rfl rfl rfl (by omega) m1 (by omega)) (w_p rfl (aE rfl) (w_p rfl (aE rfl) (w_p (v := .slice (some ⟨g, i * Enc.sz Row, none⟩) (v0.length - i) (cp - i)) rfl (p_slLo i dL (show TyI _ _ _ (Enc.sz Row) _ _ from ty135) rfl rfl rfl (by omega) b1 (by omega)) ?_)))
  refine cJ rfl (by decide) rfl cN rfl (n_cpB (m := v0.length - i) (ks := (v0.drop i).flatMap Flat.enc) dL (show TyI _ _ _ (Enc.sz Row) _ _ from ty135) rfl rfl (Nat.min_eq_left (by omega)) (by rw [hAA, List.append_assoc, ← hA1, List.drop_left, ← hA2]; exact List.take_left.symm) hA2 cZ (Has.there (Has.there aB)) (by rw [← q0, Nat.add_assoc]; exact hlenNew hA1 k1 (by omega)) o1) ?_
  rintro _ _ _ ⟨rfl, rfl, rfl⟩
  refine ⟨bU, ?_⟩
  refine cK (nT (sr (aF rfl (aH rfl (aJ (nT (bQ ?_)))))))
  refine At.mkF (n := i + (v0.length + v2.length - i)) (v0.take i ++ v2 ++ v0.drop i) (js3.drop (v2.length * Enc.sz Row + (v0.length - i) * Enc.sz Row)) (.cons aA .nil) (by omega) (by rw [← q0, ins_new hA1 k1 hA2 (by omega), List.flatMap_append, List.flatMap_append]) (by omega) m2 (by rw [← q0, ins_new hA1 k1 hA2 (by omega)]; simp only [List.length_append, List.length_drop, hA1, k1, hA2]; omega) hall ?_
  exact back1 (some ⟨g3, 0, none⟩, cp3) rfl (ResV.tmp (v := .slice (some ⟨g3, 0, none⟩) (i + (v0.length + v2.length - i)) (cp3)) rfl) (by rw [hlen, hn3]) cM (.cons (by rw [hlen, hn3]; exact aA) .nil)
 have h := of_decide_eq_false h
 refine bH (nT ?_)
 have p4 := Nat.mul_le_mul_right (Enc.sz Row) (show v0.length + v2.length ≤ cp by omega)
 refine sr (aF rfl (aF rfl (aF rfl ?_)))
 refine aG (bR rfl rfl (by unfold I64; omega)) ?_
 refine aG (v := .slice (some ⟨g, 0, none⟩) (v0.length + v2.length) (cp)) (p_slHi (v0.length + v2.length) dL (show TyI _ _ _ (Enc.sz Row) _ _ from ty135) rfl rfl (by omega) (by omega)) (aH rfl (aJ (nT (aD (sr (aF rfl (aF rfl (aF rfl (aF rfl ?_)))))))))
 refine aG (bR rfl rfl (by unfold I64; omega)) ?_
 refine aG (v := .slice (some ⟨g, (i + v2.length) * Enc.sz Row, none⟩) (v0.length + v2.length - (i + v2.length)) (cp - (i + v2.length))) (p_slLo (i + v2.length) dL (show TyI _ _ _ (Enc.sz Row) _ _ from ty135) rfl rfl rfl (by omega) (by omega) (by omega)) ?_
 refine aI (v := .bool (false)) (q_ov (tR := 4) func199 (by kernel_rfl) (by kernel_rfl) (by kernel_rfl) (by kernel_rfl) dL (show TyI _ _ _ (Enc.sz Row) _ _ from ty135) rfl rfl (.cons aA (.cons aA .nil)) (cells_ne (by rw [l1]; have := Nat.mul_le_mul_right (Enc.sz Row) (show 1 ≤ v0.length by omega); have := Enc.pos (α := Row); omega))) ?_
 refine aG (cV rfl) (aJ (nT (Tr.condT rfl (aD (tNw 2 [0, 1, 2, 3, 4, 5, 6, 7, 8] [8] [] mixed (by kernel_rfl) (by decide) dI okNil (w_p rfl (aE rfl) (w_p rfl (aE rfl) (w_p rfl (aE rfl) ?_))))))))
 refine w_p rfl (bR rfl rfl (by unfold I64; omega)) ?_
 refine w_p (v := .slice (some ⟨g, (i + v2.length) * Enc.sz Row, none⟩) (v0.length + v2.length - (i + v2.length)) (cp - (i + v2.length))) rfl (p_slLo (i + v2.length) dL (show TyI _ _ _ (Enc.sz Row) _ _ from ty135) rfl rfl rfl (by omega) (by omega) (by omega)) (w_p rfl (aE rfl) (w_p rfl (aE rfl) (w_p (v := .slice (some ⟨g, i * Enc.sz Row, none⟩) (v0.length + v2.length - i) (cp - i)) rfl (p_slLo i dL (show TyI _ _ _ (Enc.sz Row) _ _ from ty135) rfl rfl rfl (by omega) (by omega) (by omega)) ?_)))
 refine cJ rfl (by decide) rfl cN rfl (n_cpB (m := v0.length - i) (ks := (v0.drop i).flatMap Flat.enc) dL (show TyI _ _ _ (Enc.sz Row) _ _ from ty135) rfl rfl (by show min _ _ = _; omega) (by rw [hAA, List.append_assoc, ← hA1, List.drop_left, ← hA2]; exact List.take_left.symm) hA2 (Upd.there cZ) (Has.there aB) (by rw [List.length_append, l1, ← q0]; omega) o1) ?_
 rintro _ _ _ ⟨rfl, rfl, rfl⟩
 refine ⟨bU, ?_⟩
 refine cK (nT (sr (aF rfl (aF rfl (aG (v := .slice (some ⟨g, i * Enc.sz Row, none⟩) (v0.length + v2.length - i) (cp - i)) (p_slLo i dL (show TyI _ _ _ (Enc.sz Row) _ _ from ty135) rfl rfl rfl (by omega) (by omega) (by omega)) (aF rfl ?_))))))
 refine f0 (e_cpB (m := v2.length) (ks := v2.flatMap Flat.enc) dL (show TyI _ _ _ (Enc.sz Row) _ _ from ty135) rfl rfl (by show min _ _ = _; omega) (by rw [List.drop_zero, ← k1]; exact List.take_left.symm) k1 (Upd.there cZ) aB (by rw [← q0, hAA]; exact hlenHere hA1 hA2 k1 (by omega)) o2) ?_
 refine aJ (nT (sr (aF rfl (aH rfl (aJ (nT (bQ ?_)))))))
 have hX := ins_here (js := js) hA1 k1 hA2 (by omega)
 refine At.mkF (n := v0.length + v2.length) (v0.take i ++ v2 ++ v0.drop i) (((v0.take i).flatMap Flat.enc ++ (v0.drop i).flatMap Flat.enc ++ js).drop (i * Enc.sz Row + v2.length * Enc.sz Row + (v0.length - i) * Enc.sz Row)) (.cons (Del.there aA) .nil) (by omega) (by rw [← q0, hAA, hX, List.flatMap_append, List.flatMap_append]) (by omega) b2 (by rw [← q0, hAA, hX]; simp only [List.length_append, List.length_drop, hA1, k1, hA2]; omega) hall ?_
 exact back1 (some ⟨g, 0, none⟩, cp) rfl (ResV.tmp (v := .slice (some ⟨g, 0, none⟩) (v0.length + v2.length) (cp)) rfl) (by rw [hlen]) cM (.cons (by rw [hlen]; exact aA) .nil)
noncomputable def p_impl_put_b0 (v0 : (List Row)) (v1 : Row) (Q11 : Int) : Option ((Int) ⊕ (Int)) := bd (cond (decide (Q11 < ((([] : List Row) ++ v0).length : Int))) (gd (ix Q11 (([] : List Row) ++ v0).length) <| some (decide (((nth (([] : List Row) ++ v0) Q11.toNat).1) < v1.1))) (some (false))) fun b19 => cond (b19) (gd (I64 (Q11 + 1)) <| some (.inl (Q11 + 1))) (some (.inr Q11))
noncomputable def p_impl_put (v0 : (List Row)) (v1 : Row) : Option ((List Row)) := gd (room (([] : List Row).length + v0.length)) <| bd (lp (p_impl_put_b0 v0 v1) 0) fun x7 => bd (cond (decide (x7 < ((([] : List Row) ++ v0).length : Int))) (gd (ix x7 (([] : List Row) ++ v0).length) <| some (decide (((nth (([] : List Row) ++ v0) x7.toNat).1) = v1.1))) (some (false))) fun b25 => cond (b25) (gd (ix x7 (([] : List Row) ++ v0).length) <| some ((([] : List Row) ++ v0).set x7.toNat v1)) (bd (p_slices_Insert_Row_Row (([] : List Row) ++ v0) x7 ([v1] : List Row)) fun r35 => gd (room (([] : List Row).length + r35.length)) <| some (([] : List Row) ++ r35))
theorem c_impl_put {r : (List Row)} (v0 : (List Row)) (x_v0 : Option Addr × Nat) (v1 : Row) (H : p_impl_put v0 v1 = some r) : Fn' prog 161 #[.slice x_v0.1 v0.length x_v0.2, .agg #[.int .i64 (v1.1), .int .i64 (v1.2)]] [imm (.slice x_v0.1 v0.length x_v0.2) v0] [] (ι := Option Addr × Nat) (fun x => .slice x.1 r.length x.2) (fun _ => []) (fun x => [tree (.slice x.1 r.length x.2) r]) := by
 refine cof (args := [_, _]) func161 ntmps161 fun c => ?_
 unfold p_impl_put at H
 refine sr (f1 (cC (t := 135) rfl) fun g1 => (aH (v := .slice none 0 0) rfl (nl (sr (f2 (e_lit0 Row dL ty135) fun a2 c3 => (aF rfl (gdo H fun h6 H => (f2 (e_appF (l := ([] : List Row)) (k := v0) (α := Row) dL ty135 rfl rfl (h6.b (by decide)) h6.x (.cons aA .nil) (aL aR)) fun a4 c5 => (aH rfl (nl (sr ?_)))))))))))
 refine aH (v := .int .i64 (0)) rfl (nl (bdo H fun x7 hx8 H => (tMidC (ι := Unit) (fun ψ => [(3, .pointer (some ⟨g1, 0, none⟩)), (5, .slice a4 ((([] : List Row) ++ v0).length) c5), (6, .int .i64 (x7))]) (fun ψ => [box g1 135 [.int .i64 (v1.1), .int .i64 (v1.2)], tree (.slice a4 ((([] : List Row) ++ v0).length) c5) (([] : List Row) ++ v0)]) ?_ ?_)))
 ·refine aQ (dE hx8 () (fun Q11 _ => [(3, .pointer (some ⟨g1, 0, none⟩)), (5, .slice a4 ((([] : List Row) ++ v0).length) c5), (6, .int .i64 (Q11))]) (fun _ _ => [box g1 135 [.int .i64 (v1.1), .int .i64 (v1.2)], tree (.slice a4 ((([] : List Row) ++ v0).length) c5) (([] : List Row) ++ v0)]) (.cons dl1 (.cons aA .nil)) ?_)
  rintro _ Q11 z12 t14 H1 hi15 hb16
  unfold p_impl_put_b0 at H1
  refine aD (bdo H1 fun b19 j20 H1 => (dD [(23, .bool (b19)), (3, .pointer (some ⟨g1, 0, none⟩)), (5, .slice a4 ((([] : List Row) ++ v0).length) c5), (6, .int .i64 (Q11))] ?_ ?_))
  ·refine dF [(3, .pointer (some ⟨g1, 0, none⟩)), (5, .slice a4 ((([] : List Row) ++ v0).length) c5), (6, .int .i64 (Q11))] mixed (.inr (by kernel_rfl)) ⟨rfl, rfl, rfl, trivial⟩ rfl (bB rfl (bB rfl (aX (bS 135 dL rfl) (aX (cP rfl rfl) ?_))))
   rcases aK (decide (Q11 < ((([] : List Row) ++ v0).length : Int))) with h21 | h21
   ·have j20 := cdT h21 j20
    refine bC (aE rfl) h21 (aY rfl (aE rfl) (aY rfl (aE rfl) (gdo j20 fun h22 j20 => (bA rfl (bX dL ty135 rfl rfl h22 hs1) (bA rfl (bY (j := 0) Q11.toNat fa135_0 rfl (aN (bL hs1)) h22.lt rfl) (bA rfl (bZ (i := Q11.toNat) (j := 0) ty3 rfl (aN (bL hs1)) h22.lt rfl) (aY rfl (cB fa135_0 rfl rfl) (bA rfl (bI ty3 rfl aB rfl) (aY rfl (cP rfl rfl) ?_)))))))))
    refine aX (bP rfl rfl) ?_
    obtain rfl := si j20
    show At _ _ _ _ _ _
    exact n1 ⟨rfl, rfl, rfl, rfl, trivial⟩
   ·have j20 := cdF h21 j20
    refine bC (aE rfl) h21 ?_
    iterate 8 refine bE rfl ?_
    refine aX (v := .bool (false)) (bO rfl rfl) ?_
    obtain rfl := si j20
    show At _ _ _ _ _ _
    exact n1 ⟨rfl, rfl, rfl, rfl, trivial⟩
  refine cH H1 rfl (fun h23 H1 => ?_) (fun h23 H1 => ?_)
  ·exact bH (nT (aQ (aP (aF rfl (gdo H1 fun h24 H1 => (aG (bR rfl rfl h24) (aH rfl (aJ (nB (nLI () (hi15 _ (sm H1)) (.cons aA (.cons aA .nil)) ))))))))))
  ·refine dA (xT (xT (xE (?_))))
   obtain rfl := hb16 _ (sm H1)
   exact nMC () ⟨rfl, rfl, rfl, trivial⟩ bT (.cons aA (.cons aA .nil))
 ·intro y13
  show Tr _ _ _ _ _ [(3, .pointer (some ⟨g1, 0, none⟩)), (5, .slice a4 ((([] : List Row) ++ v0).length) c5), (6, .int .i64 (x7))] _ [box g1 135 [.int .i64 (v1.1), .int .i64 (v1.2)], tree (.slice a4 ((([] : List Row) ++ v0).length) c5) (([] : List Row) ++ v0)]
  refine aD (bdo H fun b25 j26 H => (dD [(39, .bool (b25)), (3, .pointer (some ⟨g1, 0, none⟩)), (5, .slice a4 ((([] : List Row) ++ v0).length) c5), (6, .int .i64 (x7))] ?_ ?_))
  ·refine dF [(3, .pointer (some ⟨g1, 0, none⟩)), (5, .slice a4 ((([] : List Row) ++ v0).length) c5), (6, .int .i64 (x7))] mixed (.inr (by kernel_rfl)) ⟨rfl, rfl, rfl, trivial⟩ rfl (bB rfl (bB rfl (aX (bS 135 dL rfl) (aX (cP rfl rfl) ?_))))
   rcases aK (decide (x7 < ((([] : List Row) ++ v0).length : Int))) with h27 | h27
   ·have j26 := cdT h27 j26
    refine bC (aE rfl) h27 (aY rfl (aE rfl) (aY rfl (aE rfl) (gdo j26 fun h28 j26 => (bA rfl (bX dL ty135 rfl rfl h28 hs1) (bA rfl (bY (j := 0) x7.toNat fa135_0 rfl (aN (bL hs1)) h28.lt rfl) (bA rfl (bZ (i := x7.toNat) (j := 0) ty3 rfl (aN (bL hs1)) h28.lt rfl) (aY rfl (cB fa135_0 rfl rfl) (bA rfl (bI ty3 rfl aB rfl) (aY rfl (cS rfl rfl) ?_)))))))))
    refine aX (bP rfl rfl) ?_
    obtain rfl := si j26
    show At _ _ _ _ _ _
    exact n1 ⟨rfl, rfl, rfl, rfl, trivial⟩
   ·have j26 := cdF h27 j26
    refine bC (aE rfl) h27 ?_
    iterate 8 refine bE rfl ?_
    refine aX (v := .bool (false)) (bO rfl rfl) ?_
    obtain rfl := si j26
    show At _ _ _ _ _ _
    exact n1 ⟨rfl, rfl, rfl, rfl, trivial⟩
  refine cH H rfl (fun h29 H => ?_) (fun h29 H => ?_)
  ·refine sr (aF rfl (aF rfl (aI (bJ ty135 rfl aB rfl) (gdo H fun h30 H => (aI (bX dL ty135 rfl rfl h30 hs1) (g0 (e_setT (l := (([] : List Row) ++ v0)) (α := Row) (oa := a4) x7.toNat v1 ((), ()) ty135 rfl rfl rfl h30.lt (cW _) (.cons dl1 .nil)) (nl (aD ?_))))))))
   refine cX aB fun hn => ?_; rw [hn]
   refine aP (aF rfl (aH rfl (nl (bQ (rT (?_))))))
   obtain rfl := si H
   exact back1 (a4, c5) rfl (ResV.tmp (v := .slice a4 (((([] : List Row) ++ v0).set x7.toNat v1).length) c5) rfl) rfl cM (.cons aA .nil)
  ·refine bH (nT (sr (f2 (e_lit0 Row dL ty135) fun a31 c32 => (aF rfl (aF rfl (aI (bJ ty135 rfl hs1 rfl) (f2 (e_litT (α := Row) (vs := [(0, .agg #[.int .i64 (v1.1), .int .i64 (v1.2)])]) [v1] rfl (fun _ => rfl) (fun _ _ => by repeat constructor) dL ty135 rfl (by decide) (by decide) (by kernel_rfl)) fun a33 c34 => (bdo H fun r35 h36 H => (f1 (cG (c_slices_Insert_Row_Row (([] : List Row) ++ v0) (a4, c5) x7 ([v1] : List Row) (a33, c34) h36) (bF (bF bG)) (fun _ => (bF bG)) rfl (.cons dl3 (.cons aA .nil)) aO) fun x37 => ?_)))))))))
   refine gdo H fun h40 H => (f2 (e_appF (l := ([] : List Row)) (k := r35) (α := Row) dL ty135 rfl rfl (h40.b (by decide)) h40.x (.cons dl1 .nil) (bL aB)) fun a38 c39 => (aH rfl (nl (bQ ?_))))
   obtain rfl := si H
   exact back1 (a38, c39) rfl (ResV.tmp (v := .slice a38 ((([] : List Row) ++ r35).length) c39) rfl) rfl cM (.cons aA .nil)
noncomputable def p_impl_Store_rows_b1 (r22 : (List Row)) (Q29 : (List Row) × Int) : Option (((List Row) × Int) ⊕ ((List Row))) := cond (decide (Q29.2 < (r22.length : Int))) (gd (ix Q29.2 r22.length) <| bd (p_impl_put Q29.1 (nth r22 Q29.2.toNat)) fun r40 => gd (I64 (Q29.2 + 1)) <| some (.inl (r40, Q29.2 + 1))) (some (.inr Q29.1))
noncomputable def p_impl_Store_rows_b0 (v0 : Store) (v1 : Int) (Q11 : (List Row) × Int) : Option (((List Row) × Int) ⊕ ((List Row))) := cond (decide (Q11.2 < (v0.2.1.length : Int))) (gd (ix Q11.2 v0.2.1.length) <| bd (p_impl_PartOf (nth v0.2.1 Q11.2.toNat) v1) fun r22 => bd (lp (p_impl_Store_rows_b1 r22) (Q11.1, 0)) fun x25 => gd (I64 (Q11.2 + 1)) <| some (.inl (x25, Q11.2 + 1))) (some (.inr Q11.1))
noncomputable def p_impl_Store_rows_b2 (v0 : Store) (v1 : Int) (Q49 : (List Row) × Int) : Option (((List Row) × Int) ⊕ ((List Row))) := cond (decide (Q49.2 < (v0.2.2.length : Int))) (gd (ix Q49.2 v0.2.2.length) <| cond (decide (((nth v0.2.2 Q49.2.toNat).1) = v1)) (bd (p_impl_put Q49.1 ((nth v0.2.2 Q49.2.toNat).2)) fun r61 => gd (I64 (Q49.2 + 1)) <| some (.inl (r61, Q49.2 + 1))) (gd (I64 (Q49.2 + 1)) <| some (.inl (Q49.1, Q49.2 + 1)))) (some (.inr Q49.1))
noncomputable def p_impl_Store_rows (v0 : Store) (v1 : Int) : Option ((List Row)) := bd (lp (p_impl_Store_rows_b0 v0 v1) (([] : List Row), 0)) fun x7 => bd (lp (p_impl_Store_rows_b2 v0 v1) (x7, 0)) fun x45 => some x45
theorem c_impl_Store_rows {r : (List Row)} (v0 : Store) (x_v0 : ((Option Addr × Nat) × (Option Addr × Nat)) × (Option Addr × Nat) × (Option Addr × Nat)) (v1 : Int) (H : p_impl_Store_rows v0 v1 = some r) : Fn' prog 115 #[.agg #[.slice x_v0.1.1.1 v0.1.1.length x_v0.1.1.2, .slice x_v0.1.2.1 v0.1.2.length x_v0.1.2.2, .slice x_v0.2.1.1 v0.2.1.length x_v0.2.1.2, .slice x_v0.2.2.1 v0.2.2.length x_v0.2.2.2], .int .i64 (v1)] [imm (.slice x_v0.1.1.1 v0.1.1.length x_v0.1.1.2) v0.1.1, imm (.slice x_v0.1.2.1 v0.1.2.length x_v0.1.2.2) v0.1.2, imm (.slice x_v0.2.1.1 v0.2.1.length x_v0.2.1.2) v0.2.1, imm (.slice x_v0.2.2.1 v0.2.2.length x_v0.2.2.2) v0.2.2] [] (ι := Option Addr × Nat) (fun x => .slice x.1 r.length x.2) (fun _ => []) (fun x => [tree (.slice x.1 r.length x.2) r]) := by
 refine cof (args := [_, _]) func115 ntmps115 fun c => ?_
 unfold p_impl_Store_rows at H
 refine bM aR fun X1 => (bM aR.s.s fun X2 => (bM aR.s.s.s.s fun X3 => (sr (f1 (cC (t := 42) rfl) fun g4 => (aH (v := .slice none 0 0) rfl (nl (sr (f2 (e_lit0 Row dL ty135) fun a5 c6 => (aH rfl (nl (aD (sr ?_))))))))))))
 refine aG (cB fa42_1 rfl rfl) (aI (bI ty39 rfl hs1 rfl) (aG (bS 75 dU rfl) (aF (v := .int .i64 (0)) rfl (nl (bdo H fun x7 hx8 H => (dB (ι := Option Addr × Nat) (fun ψ => [(1, .int .i64 (v1)), (2, .pointer (some ⟨g4, 0, none⟩)), (5, .slice ψ.1 x7.length ψ.2)]) (fun ψ => [box g4 42 [.slice x_v0.1.1.1 v0.1.1.length x_v0.1.1.2, .slice x_v0.1.2.1 v0.1.2.length x_v0.1.2.2, .slice x_v0.2.1.1 v0.2.1.length x_v0.2.1.2, .slice x_v0.2.2.1 v0.2.2.length x_v0.2.2.2], tree (.slice ψ.1 x7.length ψ.2) x7]) ?_ ?_))))))
 ·refine aQ (dE hx8 (a5, c6) (fun Q11 z12 => [(1, .int .i64 (v1)), (2, .pointer (some ⟨g4, 0, none⟩)), (5, .slice z12.1 Q11.1.length z12.2), (14, .slice x_v0.2.1.1 v0.2.1.length x_v0.2.1.2), (15, .int .i64 ((v0.2.1.length : Int))), (16, .int .i64 (Q11.2))]) (fun Q11 z12 => [box g4 42 [.slice x_v0.1.1.1 v0.1.1.length x_v0.1.1.2, .slice x_v0.1.2.1 v0.1.2.length x_v0.1.2.2, .slice x_v0.2.1.1 v0.2.1.length x_v0.2.1.2, .slice x_v0.2.2.1 v0.2.2.length x_v0.2.2.2], tree (.slice z12.1 Q11.1.length z12.2) Q11.1]) (.cons dl1 (.cons aA .nil)) ?_)
  rintro _ Q11 z12 t14 H1 hi15 hb16
  unfold p_impl_Store_rows_b0 at H1
  refine sr (aG (cP rfl rfl) (nl (aD (cH H1 rfl (fun h19 H1 => ?_) (fun h19 H1 => ?_)))))
  ·refine bH (nT (aD (aQ (sr (gdo H1 fun h20 H1 => (aI (bW dU ty75 rfl rfl h20 rfl (aL (aT aR))) (aI (v := .agg #[.slice (((X3 Q11.2.toNat).1).1) (((nth v0.2.1 Q11.2.toNat).1).length) (((X3 Q11.2.toNat).1).2.1), .slice (((X3 Q11.2.toNat).2).1) (((nth v0.2.1 Q11.2.toNat).2).length) (((X3 Q11.2.toNat).2).2.1)]) (cA (i := Q11.2.toNat) ty75 rfl (aL (aT aR)) h20.lt) (f1 (cD ty75) fun g21 => (stb (cs' := [.slice (((X3 Q11.2.toNat).1).1) (((nth v0.2.1 Q11.2.toNat).1).length) (((X3 Q11.2.toNat).1).2.1), .slice (((X3 Q11.2.toNat).2).1) (((nth v0.2.1 Q11.2.toNat).2).length) (((X3 Q11.2.toNat).2).2.1)]) ty75 cZ (nl ?_))))))))))
   refine sr (aI (bJ ty75 rfl aB rfl) (aF rfl (bdo H1 fun r22 h23 H1 => (f1 (cF (c_impl_PartOf (nth v0.2.1 Q11.2.toNat) ((((X3 Q11.2.toNat).1).1, ((X3 Q11.2.toNat).1).2.1), (((X3 Q11.2.toNat).2).1, ((X3 Q11.2.toNat).2).2.1)) v1 h23) (fun _ => (bF bG)) rfl (aC (aL (aS (aV (aW aR h20.lt)))) (aC (aL (aS (aU (aW aR h20.lt)))) aO))) fun x24 => (aG (bS 135 dL rfl) (aF (v := .int .i64 (0)) rfl (nl (bdo H1 fun x25 hx26 H1 => (dB (ι := Option Addr × Nat) (fun ψ => [(1, .int .i64 (v1)), (2, .pointer (some ⟨g4, 0, none⟩)), (5, .slice ψ.1 x25.length ψ.2), (14, .slice x_v0.2.1.1 v0.2.1.length x_v0.2.1.2), (15, .int .i64 ((v0.2.1.length : Int))), (16, .int .i64 (Q11.2))]) (fun ψ => [box g4 42 [.slice x_v0.1.1.1 v0.1.1.length x_v0.1.1.2, .slice x_v0.1.2.1 v0.1.2.length x_v0.1.2.2, .slice x_v0.2.1.1 v0.2.1.length x_v0.2.1.2, .slice x_v0.2.2.1 v0.2.2.length x_v0.2.2.2], tree (.slice ψ.1 x25.length ψ.2) x25]) ?_ ?_)))))))))
   ·refine aQ (dE hx26 (z12.1, z12.2) (fun Q29 z30 => [(1, .int .i64 (v1)), (2, .pointer (some ⟨g4, 0, none⟩)), (5, .slice z30.1 Q29.1.length z30.2), (14, .slice x_v0.2.1.1 v0.2.1.length x_v0.2.1.2), (15, .int .i64 ((v0.2.1.length : Int))), (16, .int .i64 (Q11.2)), (22, .slice x24.1 r22.length x24.2), (23, .int .i64 ((r22.length : Int))), (24, .int .i64 (Q29.2))]) (fun Q29 z30 => [box g4 42 [.slice x_v0.1.1.1 v0.1.1.length x_v0.1.1.2, .slice x_v0.1.2.1 v0.1.2.length x_v0.1.2.2, .slice x_v0.2.1.1 v0.2.1.length x_v0.2.1.2, .slice x_v0.2.2.1 v0.2.2.length x_v0.2.2.2], tree (.slice z30.1 Q29.1.length z30.2) Q29.1, tree (.slice x24.1 r22.length x24.2) r22]) (.cons dl2 (.cons dl2 (.cons aA .nil))) ?_)
    rintro _ Q29 z30 t32 H2 hi33 hb34
    unfold p_impl_Store_rows_b1 at H2
    refine sr (aG (cP rfl rfl) (nl (aD (cH H2 rfl (fun h37 H2 => ?_) (fun h37 H2 => ?_)))))
    ·refine bH (nT (aD (aQ (sr (gdo H2 fun h38 H2 => (aI (bX dL ty135 rfl rfl h38 hs2) (aI (v := .agg #[.int .i64 ((nth r22 Q29.2.toNat).1), .int .i64 ((nth r22 Q29.2.toNat).2)]) (cA (i := Q29.2.toNat) ty135 rfl (aN (bL hs2)) h38.lt) (f1 (cD ty135) fun g39 => (stb (cs' := [.int .i64 ((nth r22 Q29.2.toNat).1), .int .i64 ((nth r22 Q29.2.toNat).2)]) ty135 cZ (nl ?_))))))))))
     refine aP (aF rfl (aI (bJ ty135 rfl aB rfl) (bdo H2 fun r40 h41 H2 => (f1 (cF (c_impl_put Q29.1 z30 (nth r22 Q29.2.toNat) h41) (fun _ => (bF bG)) rfl (aC (bL hs2) aO)) fun x42 => (aH rfl (aJ (nB (nT (aP (gdo H2 fun h43 H2 => (aG (bR rfl rfl h43) ?_)))))))))))
     exact aF rfl (aJ (nLI (x42.1, x42.2) (hi33 _ (sm H2)) (.cons dl2 (.cons aA (.cons dl2 .nil)))))
    ·refine dA (xT (xT (xE (?_))))
     obtain rfl := hb34 _ (sm H2)
     exact nMC (z30.1, z30.2) ⟨rfl, rfl, rfl, rfl, rfl, rfl, trivial⟩ bT (.cons aA (.cons aA .nil))
   ·intro y31
    show At _ _ [(1, .int .i64 (v1)), (2, .pointer (some ⟨g4, 0, none⟩)), (5, .slice y31.1 x25.length y31.2), (14, .slice x_v0.2.1.1 v0.2.1.length x_v0.2.1.2), (15, .int .i64 ((v0.2.1.length : Int))), (16, .int .i64 (Q11.2))] _ [box g4 42 [.slice x_v0.1.1.1 v0.1.1.length x_v0.1.1.2, .slice x_v0.1.2.1 v0.1.2.length x_v0.1.2.2, .slice x_v0.2.1.1 v0.2.1.length x_v0.2.1.2, .slice x_v0.2.2.1 v0.2.2.length x_v0.2.2.2], tree (.slice y31.1 x25.length y31.2) x25] _
    exact nB (nT (aP (gdo H1 fun h44 H1 => (aG (bR rfl rfl h44) (aF rfl (aJ (nLI (y31.1, y31.2) (hi15 _ (sm H1)) (.cons aA (.cons aA .nil)))))))))
  ·refine dA (xT (xT (xE (?_))))
   obtain rfl := hb16 _ (sm H1)
   exact nMC (z12.1, z12.2) ⟨rfl, rfl, rfl, trivial⟩ bT (.cons aA (.cons aA .nil))
 ·intro y13
  show At _ _ [(1, .int .i64 (v1)), (2, .pointer (some ⟨g4, 0, none⟩)), (5, .slice y13.1 x7.length y13.2)] _ [box g4 42 [.slice x_v0.1.1.1 v0.1.1.length x_v0.1.1.2, .slice x_v0.1.2.1 v0.1.2.length x_v0.1.2.2, .slice x_v0.2.1.1 v0.2.1.length x_v0.2.1.2, .slice x_v0.2.2.1 v0.2.2.length x_v0.2.2.2], tree (.slice y13.1 x7.length y13.2) x7] _
  refine nT (aD (sr (aG (cB fa42_2 rfl rfl) (aI (bI ty40 rfl aB rfl) (aG (bS 137 dV rfl) (aF (v := .int .i64 (0)) rfl (nl (bdo H fun x45 hx46 H => (dB (ι := Option Addr × Nat) (fun ψ => [(5, .slice ψ.1 x45.length ψ.2)]) (fun ψ => [tree (.slice ψ.1 x45.length ψ.2) x45]) ?_ ?_)))))))))
  ·refine aQ (dE hx46 (y13.1, y13.2) (fun Q49 z50 => [(1, .int .i64 (v1)), (5, .slice z50.1 Q49.1.length z50.2), (34, .slice x_v0.2.2.1 v0.2.2.length x_v0.2.2.2), (35, .int .i64 ((v0.2.2.length : Int))), (36, .int .i64 (Q49.2))]) (fun Q49 z50 => [tree (.slice z50.1 Q49.1.length z50.2) Q49.1]) (.cons dl1 .nil) ?_)
   rintro _ Q49 z50 t52 H1 hi53 hb54
   unfold p_impl_Store_rows_b2 at H1
   refine sr (aG (cP rfl rfl) (nl (aD (cH H1 rfl (fun h57 H1 => ?_) (fun h57 H1 => ?_)))))
   ·refine bH (nT (aD (aQ (sr (gdo H1 fun h58 H1 => (aI (bW dV ty137 rfl rfl h58 rfl (aN (aL aR.s.s.s.s.s.s))) (aI (v := .agg #[.int .i64 ((nth v0.2.2 Q49.2.toNat).1), .int .i64 (((nth v0.2.2 Q49.2.toNat).2).1), .int .i64 (((nth v0.2.2 Q49.2.toNat).2).2)]) (cA (i := Q49.2.toNat) ty137 rfl (aN (aL aR.s.s.s.s.s.s)) h58.lt) (f1 (cD ty137) fun g59 => (stb (cs' := [.int .i64 ((nth v0.2.2 Q49.2.toNat).1), .int .i64 (((nth v0.2.2 Q49.2.toNat).2).1), .int .i64 (((nth v0.2.2 Q49.2.toNat).2).2)]) ty137 cZ (nl ?_))))))))))
    refine sr (aG (cB fa137_0 rfl rfl) (aI (bI ty3 rfl aB rfl) (aF rfl (aG (cS rfl rfl) (nl (cH H1 rfl (fun h60 H1 => ?_) (fun h60 H1 => ?_)))))))
    ·refine aP (aF rfl (aG (cB fa137_1 rfl rfl) (aI (v := .agg #[.int .i64 (((nth v0.2.2 Q49.2.toNat).2).1), .int .i64 (((nth v0.2.2 Q49.2.toNat).2).2)]) (q_ldbP [.int .i64 (((nth v0.2.2 Q49.2.toNat).2).1), .int .i64 (((nth v0.2.2 Q49.2.toNat).2).2)] ty135 rfl aB rfl rfl) (bdo H1 fun r61 h62 H1 => (f1 (cF (c_impl_put Q49.1 z50 ((nth v0.2.2 Q49.2.toNat).2) h62) (fun _ => (bF bG)) rfl (aC (bL hs1) aO)) fun x63 => (aH rfl (aJ (nB (nT (aP (gdo H1 fun h64 H1 => ?_)))))))))))
     exact aG (bR rfl rfl h64) (aF rfl (aJ (nLI (x63.1, x63.2) (hi53 _ (sm H1)) (.cons aA .nil))))
    ·exact bH (nB (nT (aP (gdo H1 fun h65 H1 => (aG (bR rfl rfl h65) (aF rfl (aJ (nLI (z50.1, z50.2) (hi53 _ (sm H1)) (.cons dl1 .nil)))))))))
   ·refine dA (xT (xT (xE (?_))))
    obtain rfl := hb54 _ (sm H1)
    exact nMC (z50.1, z50.2) ⟨rfl, trivial⟩ bT (.cons aA .nil)
  ·intro y51
   show At _ _ [(5, .slice y51.1 x45.length y51.2)] _ [tree (.slice y51.1 x45.length y51.2) x45] _
   refine nT (sr (aF rfl (aH rfl (nl (bQ ?_)))))
   obtain rfl := si H
   exact back1 y51 rfl (ResV.tmp (v := .slice y51.1 x45.length y51.2) rfl) rfl cM (.cons aA .nil)
noncomputable def p_impl_StoreOk_b0 (v0 : Store) (Q16 : Int) : Option ((Int) ⊕ (Unit ⊕ Bool)) := cond (decide (Q16 < (v0.2.1.length : Int))) (gd (ix Q16 v0.2.1.length) <| bd (bd (p_impl_PartOk (nth v0.2.1 Q16.toNat)) fun r29 => cond (!r29) (some (true)) (cond (decide ((((nth v0.2.1 Q16.toNat).1).length : Int) = 0)) (some (true)) (bd (p_slices_Max_int_int ((nth v0.2.1 Q16.toNat).1)) fun r33 => some (decide ((v0.1.1.length : Int) < r33))))) fun b27 => cond (b27) (some (.inr (.inr false))) (gd (I64 (Q16 + 1)) <| some (.inl (Q16 + 1)))) (some (.inr (.inl ())))
noncomputable def p_impl_StoreOk_b1 (v0 : Store) (Q42 : Int) : Option ((Int) ⊕ (Unit ⊕ Bool)) := cond (decide (Q42 < (v0.2.2.length : Int))) (gd (ix Q42 v0.2.2.length) <| bd (bd (p_impl_within ((nth v0.2.2 Q42.toNat).1) 1 (v0.1.1.length : Int)) fun r55 => cond (!r55) (some (true)) (bd (p_impl_rowOk ((nth v0.2.2 Q42.toNat).2)) fun r58 => some (!r58))) fun b53 => cond (b53) (some (.inr (.inr false))) (gd (I64 (Q42 + 1)) <| some (.inl (Q42 + 1)))) (some (.inr (.inl ())))
noncomputable def p_impl_StoreOk_b2 (v0 : Store) (Q67 : Int) : Option ((Int) ⊕ (Unit ⊕ Bool)) := cond (decide (Q67 ≤ (v0.1.1.length : Int))) (bd (p_impl_Store_rows v0 Q67) fun r76 => cond (decide (24 < (r76.length : Int))) (some (.inr (.inr false))) (gd (I64 (Q67 + 1)) <| some (.inl (Q67 + 1)))) (some (.inr (.inl ())))
noncomputable def p_impl_StoreOk (v0 : Store) : Option (Bool) := bd (bd (p_impl_IndexOk v0.1) fun r7 => cond (!r7) (some (true)) (cond (decide (6 < (v0.2.1.length : Int))) (some (true)) (some (decide (20 < (v0.2.2.length : Int)))))) fun b5 => cond (b5) (some false) (bd (lp (p_impl_StoreOk_b0 v0) 0) <| sw (fun _ => bd (lp (p_impl_StoreOk_b1 v0) 0) <| sw (fun _ => bd (lp (p_impl_StoreOk_b2 v0) 1) <| sw (fun _ => some true) (fun q => some q)) (fun q => some q)) (fun q => some q))
theorem c_impl_StoreOk {r : Bool} (v0 : Store) (x_v0 : ((Option Addr × Nat) × (Option Addr × Nat)) × (Option Addr × Nat) × (Option Addr × Nat)) (H : p_impl_StoreOk v0 = some r) : Fn' prog 51 #[.agg #[.slice x_v0.1.1.1 v0.1.1.length x_v0.1.1.2, .slice x_v0.1.2.1 v0.1.2.length x_v0.1.2.2, .slice x_v0.2.1.1 v0.2.1.length x_v0.2.1.2, .slice x_v0.2.2.1 v0.2.2.length x_v0.2.2.2]] [imm (.slice x_v0.1.1.1 v0.1.1.length x_v0.1.1.2) v0.1.1, imm (.slice x_v0.1.2.1 v0.1.2.length x_v0.1.2.2) v0.1.2, imm (.slice x_v0.2.1.1 v0.2.1.length x_v0.2.1.2) v0.2.1, imm (.slice x_v0.2.2.1 v0.2.2.length x_v0.2.2.2) v0.2.2] [] (ι := Unit) (fun _ => .bool (r)) (fun _ => []) (fun _ => []) := by
 refine cof (args := [_]) func51 ntmps51 fun c => ?_
 unfold p_impl_StoreOk at H
 refine bM aR fun X1 => (bM aR.s.s fun X2 => (bM aR.s.s.s.s fun X3 => (sr (f1 (cC (t := 42) rfl) fun g4 => (aH (v := .bool (false)) rfl (nl (aD (bdo H fun b5 j6 H => (dD [(24, .bool (b5)), (1, .pointer (some ⟨g4, 0, none⟩))] ?_ ?_)))))))))
 ·refine dH [(1, .pointer (some ⟨g4, 0, none⟩))] ⟨rfl, trivial⟩ (aX (cB fa42_0 rfl rfl) (aZ (v := .agg #[.slice x_v0.1.1.1 v0.1.1.length x_v0.1.1.2, .slice x_v0.1.2.1 v0.1.2.length x_v0.1.2.2]) (q_ldbP [.slice x_v0.1.1.1 v0.1.1.length x_v0.1.1.2, .slice x_v0.1.2.1 v0.1.2.length x_v0.1.2.2] ty38 rfl aB rfl rfl) (bdo j6 fun r7 h8 j6 => (aZ (bN (c_impl_IndexOk v0.1 x_v0.1 h8) rfl (aC (aL (aS aR.s.s)) (aC (aL (aS aR.s)) aO))) (aX (cV rfl) ?_)))))
  rcases aK (!r7) with h9 | h9
  ·have j6 := cdT h9 j6
   refine bC (aE rfl) h9 ?_
   iterate 4 refine bE rfl ?_
   refine aX (v := .bool (true)) (bP rfl rfl) (bB (v := .bool (true)) rfl ?_)
   iterate 4 refine bE rfl ?_
   refine aX (v := .bool (true)) (bP rfl rfl) ?_
   obtain rfl := si j6
   show At _ _ _ _ _ _
   exact n1 ⟨rfl, rfl, trivial⟩
  ·have j6 := cdF h9 j6
   refine bC (aE rfl) h9 (aY rfl (cB fa42_1 rfl rfl) (bA rfl (bI ty39 rfl aB rfl) (aY rfl (bS 75 dU rfl) (aY rfl (cU rfl rfl) (aX (bO rfl rfl) ?_)))))
   rcases aK (decide (6 < (v0.2.1.length : Int))) with h10 | h10
   ·have j6 := cdT h10 j6
    refine bC (aE rfl) h10 ?_
    iterate 4 refine bE rfl ?_
    refine aX (v := .bool (true)) (bP rfl rfl) ?_
    obtain rfl := si j6
    show At _ _ _ _ _ _
    exact n1 ⟨rfl, rfl, trivial⟩
   ·have j6 := cdF h10 j6
    refine bC (aE rfl) h10 (aY rfl (cB fa42_2 rfl rfl) (bA rfl (bI ty40 rfl aB rfl) (aY rfl (bS 137 dV rfl) (aY rfl (cU rfl rfl) (aX (bO rfl rfl) ?_)))))
    obtain rfl := si j6
    show At _ _ _ _ _ _
    exact n1 ⟨rfl, rfl, trivial⟩
 refine cH H rfl (fun h11 H => ?_) (fun h11 H => ?_)
 ·refine sr (aH (v := .bool (false)) rfl (nl (bQ (rT (?_)))))
  obtain rfl := si H
  exact bk
 ·refine bH (nT (sr (aG (cB fa42_0 rfl rfl) (aG (cB fa38_0 rfl rfl) (aI (bI ty30 rfl aB rfl) (aG (bS 142 dS rfl) (aH rfl (nl (aD (sr (aG (cB fa42_1 rfl rfl) ?_)))))))))))
  refine aI (bI ty39 rfl aB rfl) (aG (bS 75 dU rfl) (aF (v := .int .i64 (0)) rfl (nl (bdo H fun x12 hx13 H => (dC (Λ := Unit) H (fun _ _ => [(1, .pointer (some ⟨g4, 0, none⟩)), (3, .int .i64 ((v0.1.1.length : Int)))]) (fun _ _ => [box g4 42 [.slice x_v0.1.1.1 v0.1.1.length x_v0.1.1.2, .slice x_v0.1.2.1 v0.1.2.length x_v0.1.2.2, .slice x_v0.2.1.1 v0.2.1.length x_v0.2.1.2, .slice x_v0.2.2.1 v0.2.2.length x_v0.2.2.2]]) ?_ ?_)))))
  ·refine aQ (dE hx13 () (fun Q16 _ => [(1, .pointer (some ⟨g4, 0, none⟩)), (3, .int .i64 ((v0.1.1.length : Int))), (30, .slice x_v0.2.1.1 v0.2.1.length x_v0.2.1.2), (31, .int .i64 ((v0.2.1.length : Int))), (32, .int .i64 (Q16))]) (fun _ _ => [box g4 42 [.slice x_v0.1.1.1 v0.1.1.length x_v0.1.1.2, .slice x_v0.1.2.1 v0.1.2.length x_v0.1.2.2, .slice x_v0.2.1.1 v0.2.1.length x_v0.2.1.2, .slice x_v0.2.2.1 v0.2.2.length x_v0.2.2.2]]) (.cons aA .nil) ?_)
   rintro _ Q16 z17 t19 H1 hi20 hb21
   unfold p_impl_StoreOk_b0 at H1
   refine sr (aG (cP rfl rfl) (nl (aD (cH H1 rfl (fun h24 H1 => ?_) (fun h24 H1 => ?_)))))
   ·refine bH (nT (aD (aQ (sr (gdo H1 fun h25 H1 => (aI (bW dU ty75 rfl rfl h25 rfl (aL (aT aR))) (aI (v := .agg #[.slice (((X3 Q16.toNat).1).1) (((nth v0.2.1 Q16.toNat).1).length) (((X3 Q16.toNat).1).2.1), .slice (((X3 Q16.toNat).2).1) (((nth v0.2.1 Q16.toNat).2).length) (((X3 Q16.toNat).2).2.1)]) (cA (i := Q16.toNat) ty75 rfl (aL (aT aR)) h25.lt) (f1 (cD ty75) fun g26 => (stb (cs' := [.slice (((X3 Q16.toNat).1).1) (((nth v0.2.1 Q16.toNat).1).length) (((X3 Q16.toNat).1).2.1), .slice (((X3 Q16.toNat).2).1) (((nth v0.2.1 Q16.toNat).2).length) (((X3 Q16.toNat).2).2.1)]) ty75 cZ (nl ?_))))))))))
    refine bdo H1 fun b27 j28 H1 => (dD [(51, .bool (b27)), (1, .pointer (some ⟨g4, 0, none⟩)), (3, .int .i64 ((v0.1.1.length : Int))), (30, .slice x_v0.2.1.1 v0.2.1.length x_v0.2.1.2), (31, .int .i64 ((v0.2.1.length : Int))), (32, .int .i64 (Q16))] ?_ ?_)
    ·refine dH [(5, .pointer (some ⟨g26, 0, none⟩)), (1, .pointer (some ⟨g4, 0, none⟩)), (3, .int .i64 ((v0.1.1.length : Int))), (30, .slice x_v0.2.1.1 v0.2.1.length x_v0.2.1.2), (31, .int .i64 ((v0.2.1.length : Int))), (32, .int .i64 (Q16))] ⟨rfl, rfl, rfl, rfl, rfl, rfl, trivial⟩ (aZ (bJ ty75 rfl aB rfl) (bdo j28 fun r29 h30 j28 => (aZ (bN (c_impl_PartOk (nth v0.2.1 Q16.toNat) ((((X3 Q16.toNat).1).1, ((X3 Q16.toNat).1).2.1), (((X3 Q16.toNat).2).1, ((X3 Q16.toNat).2).2.1)) h30) rfl (aC (aL (aS (aV (aW aR h25.lt)))) (aC (aL (aS (aU (aW aR h25.lt)))) aO))) (aX (cV rfl) ?_))))
     rcases aK (!r29) with h31 | h31
     ·have j28 := cdT h31 j28
      refine bC (aE rfl) h31 ?_
      iterate 4 refine bE rfl ?_
      refine aX (v := .bool (true)) (bP rfl rfl) (bB (v := .bool (true)) rfl ?_)
      iterate 5 refine bE rfl ?_
      refine aX (v := .bool (true)) (bP rfl rfl) ?_
      obtain rfl := si j28
      show At _ _ _ _ _ _
      exact n1 ⟨rfl, rfl, rfl, rfl, rfl, rfl, trivial⟩
     ·have j28 := cdF h31 j28
      refine bC (aE rfl) h31 (aY rfl (cB fa75_0 rfl rfl) (bA rfl (bI ty23 rfl aB rfl) (aY rfl (bS 3 dP rfl) (aY rfl (cS rfl rfl) (aX (bO rfl rfl) ?_)))))
      rcases aK (decide ((((nth v0.2.1 Q16.toNat).1).length : Int) = 0)) with h32 | h32
      ·have j28 := cdT h32 j28
       refine bC (aE rfl) h32 ?_
       iterate 5 refine bE rfl ?_
       refine aX (v := .bool (true)) (bP rfl rfl) ?_
       obtain rfl := si j28
       show At _ _ _ _ _ _
       exact n1 ⟨rfl, rfl, rfl, rfl, rfl, rfl, trivial⟩
      ·have j28 := cdF h32 j28
       refine bC (aE rfl) h32 (aY rfl (cB fa75_0 rfl rfl) (bA rfl (bI ty23 rfl aB rfl) (bdo j28 fun r33 h34 j28 => (bA rfl (bN (c_slices_Max_int_int ((nth v0.2.1 Q16.toNat).1) (((X3 Q16.toNat).1).1, ((X3 Q16.toNat).1).2.1) h34) rfl (aC (aL (aS (aV (aW aR h25.lt)))) aO)) (aY rfl (aE rfl) (aY rfl (cU rfl rfl) (aX (bO rfl rfl) ?_)))))))
       obtain rfl := si j28
       show At _ _ _ _ _ _
       exact n1 ⟨rfl, rfl, rfl, rfl, rfl, rfl, trivial⟩
    refine cH H1 rfl (fun h35 H1 => ?_) (fun h35 H1 => ?_)
    ·refine sr (aH (v := .bool (false)) rfl (nl (bQ (rB (rT (rT (rB (rT (rT (?_))))))))))
     obtain rfl := hb21 _ (sm H1)
     replace H := sw.r H
     obtain rfl := si H
     exact bk
    ·exact bH (nB (nT (aP (gdo H1 fun h36 H1 => (aG (bR rfl rfl h36) (aF rfl (aJ (nLI () (hi20 _ (sm H1)) (.cons dl1 .nil)))))))))
   ·exact dA (xT (xT (xE (nMI () (hb21 _ (sm H1)) (.cons aA .nil)))))
  ·rintro e37 y18 H
   refine nT (aD (sr (aG (cB fa42_2 rfl rfl) (aI (bI ty40 rfl aB rfl) (aG (bS 137 dV rfl) (aF (v := .int .i64 (0)) rfl (nl (bdo H fun x38 hx39 H => (dC (Λ := Unit) H (fun _ _ => [(1, .pointer (some ⟨g4, 0, none⟩)), (3, .int .i64 ((v0.1.1.length : Int)))]) (fun _ _ => [box g4 42 [.slice x_v0.1.1.1 v0.1.1.length x_v0.1.1.2, .slice x_v0.1.2.1 v0.1.2.length x_v0.1.2.2, .slice x_v0.2.1.1 v0.2.1.length x_v0.2.1.2, .slice x_v0.2.2.1 v0.2.2.length x_v0.2.2.2]]) ?_ ?_)))))))))
   ·refine aQ (dE hx39 () (fun Q42 _ => [(1, .pointer (some ⟨g4, 0, none⟩)), (3, .int .i64 ((v0.1.1.length : Int))), (54, .slice x_v0.2.2.1 v0.2.2.length x_v0.2.2.2), (55, .int .i64 ((v0.2.2.length : Int))), (56, .int .i64 (Q42))]) (fun _ _ => [box g4 42 [.slice x_v0.1.1.1 v0.1.1.length x_v0.1.1.2, .slice x_v0.1.2.1 v0.1.2.length x_v0.1.2.2, .slice x_v0.2.1.1 v0.2.1.length x_v0.2.1.2, .slice x_v0.2.2.1 v0.2.2.length x_v0.2.2.2]]) (.cons aA .nil) ?_)
    rintro _ Q42 z43 t45 H1 hi46 hb47
    unfold p_impl_StoreOk_b1 at H1
    refine sr (aG (cP rfl rfl) (nl (aD (cH H1 rfl (fun h50 H1 => ?_) (fun h50 H1 => ?_)))))
    ·refine bH (nT (aD (aQ (sr (gdo H1 fun h51 H1 => (aI (bW dV ty137 rfl rfl h51 rfl (aN (aL aR.s.s.s.s.s.s))) (aI (v := .agg #[.int .i64 ((nth v0.2.2 Q42.toNat).1), .int .i64 (((nth v0.2.2 Q42.toNat).2).1), .int .i64 (((nth v0.2.2 Q42.toNat).2).2)]) (cA (i := Q42.toNat) ty137 rfl (aN (aL aR.s.s.s.s.s.s)) h51.lt) (f1 (cD ty137) fun g52 => (stb (cs' := [.int .i64 ((nth v0.2.2 Q42.toNat).1), .int .i64 (((nth v0.2.2 Q42.toNat).2).1), .int .i64 (((nth v0.2.2 Q42.toNat).2).2)]) ty137 cZ (nl ?_))))))))))
     refine bdo H1 fun b53 j54 H1 => (dD [(70, .bool (b53)), (1, .pointer (some ⟨g4, 0, none⟩)), (3, .int .i64 ((v0.1.1.length : Int))), (54, .slice x_v0.2.2.1 v0.2.2.length x_v0.2.2.2), (55, .int .i64 ((v0.2.2.length : Int))), (56, .int .i64 (Q42))] ?_ ?_)
     ·refine dH [(7, .pointer (some ⟨g52, 0, none⟩)), (1, .pointer (some ⟨g4, 0, none⟩)), (3, .int .i64 ((v0.1.1.length : Int))), (54, .slice x_v0.2.2.1 v0.2.2.length x_v0.2.2.2), (55, .int .i64 ((v0.2.2.length : Int))), (56, .int .i64 (Q42))] ⟨rfl, rfl, rfl, rfl, rfl, rfl, trivial⟩ (aX (cB fa137_0 rfl rfl) (aZ (bI ty3 rfl aB rfl) (bB rfl (bdo j54 fun r55 h56 j54 => (aZ (bN (c_impl_within ((nth v0.2.2 Q42.toNat).1) 1 (v0.1.1.length : Int) h56) rfl aO) (aX (cV rfl) ?_))))))
      rcases aK (!r55) with h57 | h57
      ·have j54 := cdT h57 j54
       refine bC (aE rfl) h57 ?_
       iterate 4 refine bE rfl ?_
       refine aX (v := .bool (true)) (bP rfl rfl) ?_
       obtain rfl := si j54
       show At _ _ _ _ _ _
       exact n1 ⟨rfl, rfl, rfl, rfl, rfl, rfl, trivial⟩
      ·have j54 := cdF h57 j54
       refine bC (aE rfl) h57 (aY rfl (cB fa137_1 rfl rfl) (bA (v := .agg #[.int .i64 (((nth v0.2.2 Q42.toNat).2).1), .int .i64 (((nth v0.2.2 Q42.toNat).2).2)]) rfl (q_ldbP [.int .i64 (((nth v0.2.2 Q42.toNat).2).1), .int .i64 (((nth v0.2.2 Q42.toNat).2).2)] ty135 rfl aB rfl rfl) (bdo j54 fun r58 h59 j54 => (bA rfl (bN (c_impl_rowOk ((nth v0.2.2 Q42.toNat).2) h59) rfl aO) (aY rfl (cV rfl) (aX (bO rfl rfl) ?_))))))
       obtain rfl := si j54
       show At _ _ _ _ _ _
       exact n1 ⟨rfl, rfl, rfl, rfl, rfl, rfl, trivial⟩
     refine cH H1 rfl (fun h60 H1 => ?_) (fun h60 H1 => ?_)
     ·refine sr (aH (v := .bool (false)) rfl (nl (bQ (rB (rT (rT (rB (rT (rT (?_))))))))))
      obtain rfl := hb47 _ (sm H1)
      replace H := sw.r H
      obtain rfl := si H
      exact bk
     ·exact bH (nB (nT (aP (gdo H1 fun h61 H1 => (aG (bR rfl rfl h61) (aF rfl (aJ (nLI () (hi46 _ (sm H1)) (.cons dl1 .nil)))))))))
    ·exact dA (xT (xT (xE (nMI () (hb47 _ (sm H1)) (.cons aA .nil)))))
   ·rintro e62 y44 H
    refine nT (aD (sr (aH (v := .int .i64 (1)) rfl (nl (bdo H fun x63 hx64 H => (dC (Λ := Unit) H (fun _ _ => []) (fun _ _ => []) ?_ ?_))))))
    ·refine aQ (dE hx64 () (fun Q67 _ => [(1, .pointer (some ⟨g4, 0, none⟩)), (3, .int .i64 ((v0.1.1.length : Int))), (8, .int .i64 (Q67))]) (fun _ _ => [box g4 42 [.slice x_v0.1.1.1 v0.1.1.length x_v0.1.1.2, .slice x_v0.1.2.1 v0.1.2.length x_v0.1.2.2, .slice x_v0.2.1.1 v0.2.1.length x_v0.2.1.2, .slice x_v0.2.2.1 v0.2.2.length x_v0.2.2.2]]) (.cons aA .nil) ?_)
     rintro _ Q67 z68 t70 H1 hi71 hb72
     unfold p_impl_StoreOk_b2 at H1
     refine aD (sr (aF rfl (aF rfl (aG (cT rfl rfl) (nl (cH H1 rfl (fun h75 H1 => ?_) (fun h75 H1 => ?_)))))))
     ·refine bH (nT (aD (aQ (sr (aI (bJ ty42 rfl aB rfl) (aF rfl (bdo H1 fun r76 h77 H1 => (f1 (cF (c_impl_Store_rows v0 x_v0 Q67 h77) (fun _ => (bF bG)) rfl (aC (aL (aS aR.s.s)) (aC (aL (aS aR.s)) (aC (aL (aS aR)) (aC (aL aR.s.s.s.s.s.s) aO))))) fun x78 => (aG (bS 135 dL rfl) (aG (cU rfl rfl) (nl ?_)))))))))))
      refine cH H1 rfl (fun h79 H1 => ?_) (fun h79 H1 => ?_)
      ·refine sr (aH (v := .bool (false)) rfl (nl (bQ (rB (rT (rT (rB (rT (rT (?_))))))))))
       obtain rfl := hb72 _ (sm H1)
       replace H := sw.r H
       obtain rfl := si H
       exact bk
      ·exact bH (nB (nT (aP (aF rfl (gdo H1 fun h80 H1 => (aG (bR rfl rfl h80) (aH rfl (aJ (nLI () (hi71 _ (sm H1)) (.cons dl1 .nil))))))))))
     ·exact dA (xT (xT (xE (nMI () (hb72 _ (sm H1)) bK))))
    ·rintro e81 y69 H
     refine nT (sr (aH (v := .bool (true)) rfl (nl ?_)))
     obtain rfl := si H
     exact bQ bk
noncomputable def p_impl_DiskOk_b0 (v0 : Disk) (Q15 : Int) : Option ((Int) ⊕ (Unit ⊕ Bool)) := cond (decide (Q15 < (v0.1.length : Int))) (gd (ix Q15 v0.1.length) <| bd (gd (I64 (v0.2.2.2 - 1)) <| bd (p_impl_within ((nth v0.1 Q15.toNat).1) 1 (v0.2.2.2 - 1)) fun r29 => cond (!r29) (some (true)) (cond (decide (0 < Q15)) (gd (I64 (Q15 - 1)) <| gd (ix (Q15 - 1) v0.1.length) <| cond (decide (((nth v0.1 Q15.toNat).1) ≤ ((nth v0.1 ((Q15 - 1).toNat)).1))) (some (true)) (bd (p_impl_PartOk ((nth v0.1 Q15.toNat).2)) fun r36 => some (!r36))) (bd (p_impl_PartOk ((nth v0.1 Q15.toNat).2)) fun r38 => some (!r38)))) fun b26 => cond (b26) (some (.inr (.inr false))) (gd (I64 (Q15 + 1)) <| some (.inl (Q15 + 1)))) (some (.inr (.inl ())))
noncomputable def p_impl_DiskOk_b1 (v0 : Disk) (Q47 : Int) : Option ((Int) ⊕ (Unit ⊕ Bool)) := cond (decide (Q47 < (v0.2.1.length : Int))) (gd (ix Q47 v0.2.1.length) <| bd (bd (p_impl_Disk_file v0 (nth v0.2.1 Q47.toNat)) fun r59 => cond (decide (r59 < 0)) (some (true)) (gd (sl2 0 Q47 v0.2.1.length) <| bd (p_slices_Contains_int_int ((v0.2.1.take Q47.toNat).drop 0) (nth v0.2.1 Q47.toNat)) fun r63 => some (r63))) fun b57 => cond (b57) (some (.inr (.inr false))) (gd (I64 (Q47 + 1)) <| some (.inl (Q47 + 1)))) (some (.inr (.inl ())))
noncomputable def p_impl_DiskOk (v0 : Disk) : Option (Bool) := bd (bd (p_impl_within v0.2.2.2 1 999) fun r6 => cond (!r6) (some (true)) (cond (decide (20 < (v0.1.length : Int))) (some (true)) (some (decide (6 < (v0.2.1.length : Int)))))) fun b4 => cond (b4) (some false) (bd (lp (p_impl_DiskOk_b0 v0) 0) <| sw (fun _ => bd (lp (p_impl_DiskOk_b1 v0) 0) <| sw (fun _ => bd (p_impl_Disk_open v0) fun r68 => bd (p_impl_StoreOk r68) fun r71 => some r71) (fun q => some q)) (fun q => some q))
theorem c_impl_DiskOk {r : Bool} (v0 : Disk) (x_v0 : (Option Addr × Nat) × (Option Addr × Nat) × (Option Addr × Nat) × Unit) (H : p_impl_DiskOk v0 = some r) : Fn' prog 12 #[.agg #[.slice x_v0.1.1 v0.1.length x_v0.1.2, .slice x_v0.2.1.1 v0.2.1.length x_v0.2.1.2, .slice x_v0.2.2.1.1 v0.2.2.1.length x_v0.2.2.1.2, .int .i64 (v0.2.2.2)]] [imm (.slice x_v0.1.1 v0.1.length x_v0.1.2) v0.1, imm (.slice x_v0.2.1.1 v0.2.1.length x_v0.2.1.2) v0.2.1, imm (.slice x_v0.2.2.1.1 v0.2.2.1.length x_v0.2.2.1.2) v0.2.2.1] [] (ι := Unit) (fun _ => .bool (r)) (fun _ => []) (fun _ => []) := by
 refine cof (args := [_]) func12 ntmps12 fun c => ?_
 unfold p_impl_DiskOk at H
 refine bM aR fun X1 => (bM aR.s.s.s fun X2 => (sr (f1 (cC (t := 32) rfl) fun g3 => (aH (v := .bool (false)) rfl (nl (aD (bdo H fun b4 j5 H => (dD [(22, .bool (b4)), (1, .pointer (some ⟨g3, 0, none⟩))] ?_ ?_))))))))
 ·refine dH [(1, .pointer (some ⟨g3, 0, none⟩))] ⟨rfl, trivial⟩ (aX (cB fa32_3 rfl rfl) (aZ (bI ty3 rfl aB rfl) (bdo j5 fun r6 h7 j5 => (aZ (bN (c_impl_within v0.2.2.2 1 999 h7) rfl aO) (aX (cV rfl) ?_)))))
  rcases aK (!r6) with h8 | h8
  ·have j5 := cdT h8 j5
   refine bC (aE rfl) h8 ?_
   iterate 4 refine bE rfl ?_
   refine aX (v := .bool (true)) (bP rfl rfl) (bB (v := .bool (true)) rfl ?_)
   iterate 4 refine bE rfl ?_
   refine aX (v := .bool (true)) (bP rfl rfl) ?_
   obtain rfl := si j5
   show At _ _ _ _ _ _
   exact n1 ⟨rfl, rfl, trivial⟩
  ·have j5 := cdF h8 j5
   refine bC (aE rfl) h8 (aY rfl (cB fa32_0 rfl rfl) (bA rfl (bI ty29 rfl aB rfl) (aY rfl (bS 77 dR rfl) (aY rfl (cU rfl rfl) (aX (bO rfl rfl) ?_)))))
   rcases aK (decide (20 < (v0.1.length : Int))) with h9 | h9
   ·have j5 := cdT h9 j5
    refine bC (aE rfl) h9 ?_
    iterate 4 refine bE rfl ?_
    refine aX (v := .bool (true)) (bP rfl rfl) ?_
    obtain rfl := si j5
    show At _ _ _ _ _ _
    exact n1 ⟨rfl, rfl, trivial⟩
   ·have j5 := cdF h9 j5
    refine bC (aE rfl) h9 (aY rfl (cB fa32_1 rfl rfl) (bA rfl (bI ty23 rfl aB rfl) (aY rfl (bS 3 dP rfl) (aY rfl (cU rfl rfl) (aX (bO rfl rfl) ?_)))))
    obtain rfl := si j5
    show At _ _ _ _ _ _
    exact n1 ⟨rfl, rfl, trivial⟩
 refine cH H rfl (fun h10 H => ?_) (fun h10 H => ?_)
 ·refine sr (aH (v := .bool (false)) rfl (nl (bQ (rT (?_)))))
  obtain rfl := si H
  exact bk
 ·refine bH (nT (aD (sr (aG (cB fa32_0 rfl rfl) (aI (bI ty29 rfl aB rfl) (aG (bS 77 dR rfl) (aF (v := .int .i64 (0)) rfl (nl (bdo H fun x11 hx12 H => (dC (Λ := Unit) H (fun _ _ => [(1, .pointer (some ⟨g3, 0, none⟩))]) (fun _ _ => [box g3 32 [.slice x_v0.1.1 v0.1.length x_v0.1.2, .slice x_v0.2.1.1 v0.2.1.length x_v0.2.1.2, .slice x_v0.2.2.1.1 v0.2.2.1.length x_v0.2.2.1.2, .int .i64 (v0.2.2.2)]]) ?_ ?_))))))))))
  ·refine aQ (dE hx12 () (fun Q15 _ => [(1, .pointer (some ⟨g3, 0, none⟩)), (24, .slice x_v0.1.1 v0.1.length x_v0.1.2), (25, .int .i64 ((v0.1.length : Int))), (26, .int .i64 (Q15))]) (fun _ _ => [box g3 32 [.slice x_v0.1.1 v0.1.length x_v0.1.2, .slice x_v0.2.1.1 v0.2.1.length x_v0.2.1.2, .slice x_v0.2.2.1.1 v0.2.2.1.length x_v0.2.2.1.2, .int .i64 (v0.2.2.2)]]) (.cons aA .nil) ?_)
   rintro _ Q15 z16 t18 H1 hi19 hb20
   unfold p_impl_DiskOk_b0 at H1
   refine sr (aG (cP rfl rfl) (nl (aD (cH H1 rfl (fun h23 H1 => ?_) (fun h23 H1 => ?_)))))
   ·refine bH (nT (aD (aQ (sr (aF rfl (gdo H1 fun h24 H1 => (aI (bW dR ty77 rfl rfl h24 rfl (aL (aT aR.s))) (aI (v := .agg #[.int .i64 ((nth v0.1 Q15.toNat).1), .slice ((((X1 Q15.toNat).2).1).1) ((((nth v0.1 Q15.toNat).2).1).length) ((((X1 Q15.toNat).2).1).2.1), .slice ((((X1 Q15.toNat).2).2).1) ((((nth v0.1 Q15.toNat).2).2).length) ((((X1 Q15.toNat).2).2).2.1)]) (cA (i := Q15.toNat) ty77 rfl (aL (aT aR.s)) h24.lt) (f1 (cD ty77) fun g25 => (aH rfl ?_))))))))))
    refine stb (cs' := [.int .i64 ((nth v0.1 Q15.toNat).1), .slice ((((X1 Q15.toNat).2).1).1) ((((nth v0.1 Q15.toNat).2).1).length) ((((X1 Q15.toNat).2).1).2.1), .slice ((((X1 Q15.toNat).2).2).1) ((((nth v0.1 Q15.toNat).2).2).length) ((((X1 Q15.toNat).2).2).2.1)]) ty77 cZ (nl (bdo H1 fun b26 j27 H1 => (dD [(59, .bool (b26)), (1, .pointer (some ⟨g3, 0, none⟩)), (24, .slice x_v0.1.1 v0.1.length x_v0.1.2), (25, .int .i64 ((v0.1.length : Int))), (26, .int .i64 (Q15))] ?_ ?_)))
    ·refine dF [(3, .int .i64 (Q15)), (4, .pointer (some ⟨g25, 0, none⟩)), (1, .pointer (some ⟨g3, 0, none⟩)), (24, .slice x_v0.1.1 v0.1.length x_v0.1.2), (25, .int .i64 ((v0.1.length : Int))), (26, .int .i64 (Q15))] mixed (.inr (by kernel_rfl)) ⟨rfl, rfl, rfl, rfl, rfl, rfl, trivial⟩ rfl (aX (cB fa77_0 rfl rfl) (aZ (bI ty3 rfl aB rfl) (aX (cB fa32_3 rfl rfl) (aZ (bI ty3 rfl hs1 rfl) (gdo j27 fun h28 j27 => (aX (cQ rfl rfl h28) (bdo j27 fun r29 h30 j27 => (aZ (bN (c_impl_within ((nth v0.1 Q15.toNat).1) 1 (v0.2.2.2 - 1) h30) rfl aO) (aX (cV rfl) ?_)))))))))
     rcases aK (!r29) with h31 | h31
     ·have j27 := cdT h31 j27
      refine bC (aE rfl) h31 ?_
      iterate 14 refine bE rfl ?_
      refine aX (v := .bool (true)) (bP rfl rfl) (bB (v := .bool (true)) rfl ?_)
      iterate 4 refine bE rfl ?_
      refine aX (v := .bool (true)) (bP rfl rfl) ?_
      obtain rfl := si j27
      show At _ _ _ _ _ _
      exact n1 ⟨rfl, rfl, rfl, rfl, rfl, trivial⟩
     ·have j27 := cdF h31 j27
      refine bC (aE rfl) h31 (aY rfl (aE rfl) (aY rfl (cU rfl rfl) ?_))
      rcases aK (decide (0 < Q15)) with h32 | h32
      ·have j27 := cdT h32 j27
       refine bD rfl (aE rfl) h32 (aY rfl (cB fa32_0 rfl rfl) (bA rfl (bI ty29 rfl hs1 rfl) (aY rfl (aE rfl) (gdo j27 fun h33 j27 => (aY rfl (cQ rfl rfl h33) (gdo j27 fun h34 j27 => (bA rfl (bW dR ty77 rfl rfl h34 rfl (aL (aT aR.s))) (bA rfl (bY (j := 0) ((Q15 - 1).toNat) fa77_0 rfl (aL (aT aR.s)) h34.lt rfl) (bA rfl (bZ (i := (Q15 - 1).toNat) (j := 0) ty3 rfl (aL (aT aR.s)) h34.lt rfl) ?_)))))))))
       refine aY rfl (cB fa77_0 rfl rfl) (bA rfl (bI ty3 rfl aB rfl) (aY rfl (p_geq rfl rfl) (aY rfl (bP rfl rfl) (aX (bO rfl rfl) ?_))))
       rcases aK (decide (((nth v0.1 Q15.toNat).1) ≤ ((nth v0.1 ((Q15 - 1).toNat)).1))) with h35 | h35
       ·have j27 := cdT h35 j27
        refine bC (aE rfl) h35 ?_
        iterate 4 refine bE rfl ?_
        refine aX (v := .bool (true)) (bP rfl rfl) ?_
        obtain rfl := si j27
        show At _ _ _ _ _ _
        exact n1 ⟨rfl, rfl, rfl, rfl, rfl, trivial⟩
       ·have j27 := cdF h35 j27
        refine bC (aE rfl) h35 (aY rfl (cB fa77_1 rfl rfl) (bA (v := .agg #[.slice ((((X1 Q15.toNat).2).1).1) ((((nth v0.1 Q15.toNat).2).1).length) ((((X1 Q15.toNat).2).1).2.1), .slice ((((X1 Q15.toNat).2).2).1) ((((nth v0.1 Q15.toNat).2).2).length) ((((X1 Q15.toNat).2).2).2.1)]) rfl (q_ldbP [.slice ((((X1 Q15.toNat).2).1).1) ((((nth v0.1 Q15.toNat).2).1).length) ((((X1 Q15.toNat).2).1).2.1), .slice ((((X1 Q15.toNat).2).2).1) ((((nth v0.1 Q15.toNat).2).2).length) ((((X1 Q15.toNat).2).2).2.1)] ty75 rfl aB rfl rfl) (bdo j27 fun r36 h37 j27 => (bA rfl (bN (c_impl_PartOk ((nth v0.1 Q15.toNat).2) (((((X1 Q15.toNat).2).1).1, (((X1 Q15.toNat).2).1).2.1), ((((X1 Q15.toNat).2).2).1, (((X1 Q15.toNat).2).2).2.1)) h37) rfl (aC (aL (aS (aV (aU (aW aR.s h24.lt))))) (aC (aL (aS (aU (aU (aW aR.s h24.lt))))) aO))) (aY rfl (cV rfl) (aX (bO rfl rfl) ?_))))))
        obtain rfl := si j27
        show At _ _ _ _ _ _
        exact n1 ⟨rfl, rfl, rfl, rfl, rfl, trivial⟩
      ·have j27 := cdF h32 j27
       refine bD rfl (aE rfl) h32 ?_
       iterate 10 refine bE rfl ?_
       refine aY (v := .bool (false)) rfl (bO rfl rfl) (aX (v := .bool (false)) (bO rfl rfl) (bB (v := .bool (false)) rfl (aY rfl (cB fa77_1 rfl rfl) (bA (v := .agg #[.slice ((((X1 Q15.toNat).2).1).1) ((((nth v0.1 Q15.toNat).2).1).length) ((((X1 Q15.toNat).2).1).2.1), .slice ((((X1 Q15.toNat).2).2).1) ((((nth v0.1 Q15.toNat).2).2).length) ((((X1 Q15.toNat).2).2).2.1)]) rfl (q_ldbP [.slice ((((X1 Q15.toNat).2).1).1) ((((nth v0.1 Q15.toNat).2).1).length) ((((X1 Q15.toNat).2).1).2.1), .slice ((((X1 Q15.toNat).2).2).1) ((((nth v0.1 Q15.toNat).2).2).length) ((((X1 Q15.toNat).2).2).2.1)] ty75 rfl aB rfl rfl) (bdo j27 fun r38 h39 j27 => (bA rfl (bN (c_impl_PartOk ((nth v0.1 Q15.toNat).2) (((((X1 Q15.toNat).2).1).1, (((X1 Q15.toNat).2).1).2.1), ((((X1 Q15.toNat).2).2).1, (((X1 Q15.toNat).2).2).2.1)) h39) rfl (aC (aL (aS (aV (aU (aW aR.s h24.lt))))) (aC (aL (aS (aU (aU (aW aR.s h24.lt))))) aO))) (aY rfl (cV rfl) (aX (bO rfl rfl) ?_))))))))
       obtain rfl := si j27
       show At _ _ _ _ _ _
       exact n1 ⟨rfl, rfl, rfl, rfl, rfl, trivial⟩
    refine cH H1 rfl (fun h40 H1 => ?_) (fun h40 H1 => ?_)
    ·refine sr (aH (v := .bool (false)) rfl (nl (bQ (rB (rT (rT (rB (rT (rT (?_))))))))))
     obtain rfl := hb20 _ (sm H1)
     replace H := sw.r H
     obtain rfl := si H
     exact bk
    ·exact bH (nB (nT (aP (gdo H1 fun h41 H1 => (aG (bR rfl rfl h41) (aF rfl (aJ (nLI () (hi19 _ (sm H1)) (.cons dl1 .nil)))))))))
   ·exact dA (xT (xT (xE (nMI () (hb20 _ (sm H1)) (.cons aA .nil)))))
  ·rintro e42 y17 H
   refine nT (aD (sr (aG (cB fa32_1 rfl rfl) (aI (bI ty23 rfl aB rfl) (aG (bS 3 dP rfl) (aF (v := .int .i64 (0)) rfl (nl (bdo H fun x43 hx44 H => (dC (Λ := Unit) H (fun _ _ => [(1, .pointer (some ⟨g3, 0, none⟩))]) (fun _ _ => [box g3 32 [.slice x_v0.1.1 v0.1.length x_v0.1.2, .slice x_v0.2.1.1 v0.2.1.length x_v0.2.1.2, .slice x_v0.2.2.1.1 v0.2.2.1.length x_v0.2.2.1.2, .int .i64 (v0.2.2.2)]]) ?_ ?_)))))))))
   ·refine aQ (dE hx44 () (fun Q47 _ => [(1, .pointer (some ⟨g3, 0, none⟩)), (62, .slice x_v0.2.1.1 v0.2.1.length x_v0.2.1.2), (63, .int .i64 ((v0.2.1.length : Int))), (64, .int .i64 (Q47))]) (fun _ _ => [box g3 32 [.slice x_v0.1.1 v0.1.length x_v0.1.2, .slice x_v0.2.1.1 v0.2.1.length x_v0.2.1.2, .slice x_v0.2.2.1.1 v0.2.2.1.length x_v0.2.2.1.2, .int .i64 (v0.2.2.2)]]) (.cons aA .nil) ?_)
    rintro _ Q47 z48 t50 H1 hi51 hb52
    unfold p_impl_DiskOk_b1 at H1
    refine sr (aG (cP rfl rfl) (nl (aD (cH H1 rfl (fun h55 H1 => ?_) (fun h55 H1 => ?_)))))
    ·refine bH (nT (aD (aQ (sr (aF rfl (gdo H1 fun h56 H1 => (aI (bW dP ty3 rfl rfl h56 rfl (aN (aL aR.s.s.s))) (aI (bZ (i := Q47.toNat) (j := 0) ty3 rfl (aN (aL aR.s.s.s)) h56.lt rfl) (aH rfl (aH rfl (nl ?_)))))))))))
     refine bdo H1 fun b57 j58 H1 => (dD [(80, .bool (b57)), (1, .pointer (some ⟨g3, 0, none⟩)), (62, .slice x_v0.2.1.1 v0.2.1.length x_v0.2.1.2), (63, .int .i64 ((v0.2.1.length : Int))), (64, .int .i64 (Q47))] ?_ ?_)
     ·refine dH [(6, .int .i64 (nth v0.2.1 Q47.toNat)), (5, .int .i64 (Q47)), (1, .pointer (some ⟨g3, 0, none⟩)), (62, .slice x_v0.2.1.1 v0.2.1.length x_v0.2.1.2), (63, .int .i64 ((v0.2.1.length : Int))), (64, .int .i64 (Q47))] ⟨rfl, rfl, rfl, rfl, rfl, rfl, trivial⟩ (aZ (bJ ty32 rfl aB rfl) (bB rfl (bdo j58 fun r59 h60 j58 => (aZ (bN (c_impl_Disk_file v0 (x_v0.1, x_v0.2.1, x_v0.2.2.1, ()) (nth v0.2.1 Q47.toNat) h60) rfl (aC (aL (aS aR.s)) (aC (aL aR.s.s.s) (aC (aL (aS aR)) aO)))) (aX (cP rfl rfl) ?_)))))
      rcases aK (decide (r59 < 0)) with h61 | h61
      ·have j58 := cdT h61 j58
       refine bC (aE rfl) h61 ?_
       iterate 6 refine bE rfl ?_
       refine aX (v := .bool (true)) (bP rfl rfl) ?_
       obtain rfl := si j58
       show At _ _ _ _ _ _
       exact n1 ⟨rfl, rfl, rfl, rfl, rfl, trivial⟩
      ·have j58 := cdF h61 j58
       refine bC (aE rfl) h61 (aY rfl (cB fa32_1 rfl rfl) (bA rfl (bI ty23 rfl aB rfl) (aY rfl (aE rfl) (gdo j58 fun h62 j58 => (bA (v := .slice (subA x_v0.2.1.1 x_v0.2.1.2 0 (Enc.sz Int)) (((v0.2.1.take Q47.toNat).drop 0).length) (x_v0.2.1.2 - 0)) rfl (q_slF (l := v0.2.1) (α := Int) 0 Q47 dP ty3 rfl rfl (fun _ => rfl) rfl (fun h => nomatch h) h62 (aL aR.s.s.s)) (aY rfl (aE rfl) (bdo j58 fun r63 h64 j58 => (bA rfl (bN (c_slices_Contains_int_int ((v0.2.1.take Q47.toNat).drop 0) (subA x_v0.2.1.1 x_v0.2.1.2 0 (Enc.sz Int), (x_v0.2.1.2 - 0)) (nth v0.2.1 Q47.toNat) h64) rfl (aC (aL (Ent.sub aR.s.s.s h62.le h62.lt)) aO)) (aX (bO rfl rfl) ?_)))))))))
       obtain rfl := si j58
       show At _ _ _ _ _ _
       exact n1 ⟨rfl, rfl, rfl, rfl, rfl, trivial⟩
     refine cH H1 rfl (fun h65 H1 => ?_) (fun h65 H1 => ?_)
     ·refine sr (aH (v := .bool (false)) rfl (nl (bQ (rB (rT (rT (rB (rT (rT (?_))))))))))
      obtain rfl := hb52 _ (sm H1)
      replace H := sw.r H
      obtain rfl := si H
      exact bk
     ·exact bH (nB (nT (aP (gdo H1 fun h66 H1 => (aG (bR rfl rfl h66) (aF rfl (aJ (nLI () (hi51 _ (sm H1)) (.cons aA .nil)))))))))
    ·exact dA (xT (xT (xE (nMI () (hb52 _ (sm H1)) (.cons aA .nil)))))
   ·rintro e67 y49 H
    refine nT (sr (aI (bJ ty32 rfl aB rfl) (bdo H fun r68 h69 H => (f1 (cF (c_impl_Disk_open v0 (x_v0.1, x_v0.2.1, x_v0.2.2.1, ()) h69) (fun _ => (bF (bF (bF (bF bG))))) rfl (aC (aL (aS aR.s)) (aC (aL aR.s.s.s) (aC (aL (aS aR)) aO)))) fun x70 => (bdo H fun r71 h72 H => (aI (bN (c_impl_StoreOk r68 x70 h72) rfl (aC (bL aB) (aC (bL hs1) (aC (bL hs2) (aC (bL hs3) aO))))) (aH rfl (nl ?_))))))))
    obtain rfl := si H
    exact bQ bk
noncomputable def p_laws_eqIntS_b0 (v0 : (List Int)) (v1 : (List Int)) (Q6 : Int) : Option ((Int) ⊕ (Unit ⊕ Bool)) := cond (decide (Q6 < (v0.length : Int))) (gd (ix Q6 v0.length) <| gd (ix Q6 v1.length) <| cond (!decide ((nth v0 Q6.toNat) = (nth v1 Q6.toNat))) (some (.inr (.inr false))) (gd (I64 (Q6 + 1)) <| some (.inl (Q6 + 1)))) (some (.inr (.inl ())))
noncomputable def p_laws_eqIntS (v0 : (List Int)) (v1 : (List Int)) : Option (Bool) := cond (!decide ((v0.length : Int) = (v1.length : Int))) (some false) (bd (lp (p_laws_eqIntS_b0 v0 v1) 0) <| sw (fun _ => some true) (fun q => some q))
theorem c_laws_eqIntS {r : Bool} (v0 : (List Int)) (x_v0 : Option Addr × Nat) (v1 : (List Int)) (x_v1 : Option Addr × Nat) (H : p_laws_eqIntS v0 v1 = some r) : Fn' prog 54 #[.slice x_v0.1 v0.length x_v0.2, .slice x_v1.1 v1.length x_v1.2] [imm (.slice x_v0.1 v0.length x_v0.2) v0, imm (.slice x_v1.1 v1.length x_v1.2) v1] [] (ι := Unit) (fun _ => .bool (r)) (fun _ => []) (fun _ => []) := by
 refine cof (args := [_, _]) func54 ntmps54 fun c => ?_
 unfold p_laws_eqIntS at H
 refine sr (aH (v := .bool (false)) rfl (nl (aD (sr (aF rfl (aG (bS 3 dP rfl) (aF rfl (aG (bS 3 dP rfl) (aG (cR rfl rfl) (nl (cH H rfl (fun h1 H => ?_) (fun h1 H => ?_))))))))))))
 ·refine sr (aH (v := .bool (false)) rfl (nl (bQ (rT (?_)))))
  obtain rfl := si H
  exact bk
 ·refine bH (nT (aD (sr (aH (v := .int .i64 (0)) rfl (nl (bdo H fun x2 hx3 H => (dC (Λ := Unit) H (fun _ _ => []) (fun _ _ => []) ?_ ?_)))))))
  ·refine aQ (dE hx3 () (fun Q6 _ => [(0, .slice x_v0.1 v0.length x_v0.2), (1, .slice x_v1.1 v1.length x_v1.2), (5, .int .i64 (Q6))]) (fun _ _ => []) bK ?_)
   rintro _ Q6 z7 t9 H1 hi10 hb11
   unfold p_laws_eqIntS_b0 at H1
   refine aD (sr (aF rfl (aF rfl (aG (bS 3 dP rfl) (aG (cP rfl rfl) (nl (cH H1 rfl (fun h14 H1 => ?_) (fun h14 H1 => ?_))))))))
   ·refine bH (nT (aD (aQ (aD (dF [(0, .slice x_v0.1 v0.length x_v0.2), (1, .slice x_v1.1 v1.length x_v1.2), (5, .int .i64 (Q6))] mixed (.inr (by kernel_rfl)) ⟨rfl, rfl, rfl, trivial⟩ rfl (bB rfl (bB rfl (gdo H1 fun h15 H1 => (aZ (bW dP ty3 rfl rfl h15 rfl (aN (aL aR))) (aZ (bZ (i := Q6.toNat) (j := 0) ty3 rfl (aN (aL aR)) h15.lt rfl) ?_))))))))))
    refine bB rfl (bB rfl (gdo H1 fun h16 H1 => (aZ (bW dP ty3 rfl rfl h16 rfl (aN (aL aR.s))) (aZ (bZ (i := Q6.toNat) (j := 0) ty3 rfl (aN (aL aR.s)) h16.lt rfl) (aX (cR rfl rfl) (nT (cH H1 rfl (fun h17 H1 => ?_) (fun h17 H1 => ?_))))))))
    ·refine sr (aH (v := .bool (false)) rfl (nl (bQ (rB (rT (rT (rB (rT (rT (?_))))))))))
     obtain rfl := hb11 _ (sm H1)
     replace H := sw.r H
     obtain rfl := si H
     exact bk
    ·exact bH (nB (nT (aP (aF rfl (gdo H1 fun h18 H1 => (aG (bR rfl rfl h18) (aH rfl (aJ (nLI () (hi10 _ (sm H1)) bK)))))))))
   ·exact dA (xT (xT (xE (nMI () (hb11 _ (sm H1)) bK))))
  ·rintro e19 y8 H
   refine nT (sr (aH (v := .bool (true)) rfl (nl ?_)))
   obtain rfl := si H
   exact bQ bk
noncomputable def p_laws_eqRow (v0 : Row) (v1 : Row) : Option (Bool) := cond (!decide (v0.1 = v1.1)) (some false) (cond (!decide (v0.2 = v1.2)) (some false) (some true))
theorem c_laws_eqRow {r : Bool} (v0 : Row) (v1 : Row) (H : p_laws_eqRow v0 v1 = some r) : Fn' prog 171 #[.agg #[.int .i64 (v0.1), .int .i64 (v0.2)], .agg #[.int .i64 (v1.1), .int .i64 (v1.2)]] [] [] (ι := Unit) (fun _ => .bool (r)) (fun _ => []) (fun _ => []) := by
 refine cof (args := [_, _]) func171 ntmps171 fun c => ?_
 unfold p_laws_eqRow at H
 refine sr (f1 (cC (t := 135) rfl) fun g1 => (f1 (cC (t := 135) rfl) fun g2 => (aH (v := .bool (false)) rfl (nl (aD (sr (aG (cB fa135_0 rfl rfl) (aI (bI ty3 rfl hs1 rfl) (aG (cB fa135_0 rfl rfl) (aI (bI ty3 rfl aB rfl) (aG (cR rfl rfl) (nl ?_))))))))))))
 refine cH H rfl (fun h3 H => ?_) (fun h3 H => ?_)
 ·refine sr (aH (v := .bool (false)) rfl (nl (bQ (rT (?_)))))
  obtain rfl := si H
  exact bk
 ·refine bH (nT (aD (sr (aG (cB fa135_1 rfl rfl) (aI (bI ty3 rfl hs1 rfl) (aG (cB fa135_1 rfl rfl) (aI (bI ty3 rfl aB rfl) (aG (cR rfl rfl) (nl (cH H rfl (fun h4 H => ?_) (fun h4 H => ?_)))))))))))
  ·refine sr (aH (v := .bool (false)) rfl (nl (bQ (rT (?_)))))
   obtain rfl := si H
   exact bk
  ·refine bH (nT (sr (aH (v := .bool (true)) rfl (nl ?_))))
   obtain rfl := si H
   exact bQ bk
noncomputable def p_laws_eqRowS_b0 (v0 : (List Row)) (v1 : (List Row)) (Q6 : Int) : Option ((Int) ⊕ (Unit ⊕ Bool)) := cond (decide (Q6 < (v0.length : Int))) (gd (ix Q6 v0.length) <| gd (ix Q6 v1.length) <| bd (p_laws_eqRow (nth v0 Q6.toNat) (nth v1 Q6.toNat)) fun r17 => cond (!r17) (some (.inr (.inr false))) (gd (I64 (Q6 + 1)) <| some (.inl (Q6 + 1)))) (some (.inr (.inl ())))
noncomputable def p_laws_eqRowS (v0 : (List Row)) (v1 : (List Row)) : Option (Bool) := cond (!decide ((v0.length : Int) = (v1.length : Int))) (some false) (bd (lp (p_laws_eqRowS_b0 v0 v1) 0) <| sw (fun _ => some true) (fun q => some q))
theorem c_laws_eqRowS {r : Bool} (v0 : (List Row)) (x_v0 : Option Addr × Nat) (v1 : (List Row)) (x_v1 : Option Addr × Nat) (H : p_laws_eqRowS v0 v1 = some r) : Fn' prog 191 #[.slice x_v0.1 v0.length x_v0.2, .slice x_v1.1 v1.length x_v1.2] [imm (.slice x_v0.1 v0.length x_v0.2) v0, imm (.slice x_v1.1 v1.length x_v1.2) v1] [] (ι := Unit) (fun _ => .bool (r)) (fun _ => []) (fun _ => []) := by
 refine cof (args := [_, _]) func191 ntmps191 fun c => ?_
 unfold p_laws_eqRowS at H
 refine sr (aH (v := .bool (false)) rfl (nl (aD (sr (aF rfl (aG (bS 135 dL rfl) (aF rfl (aG (bS 135 dL rfl) (aG (cR rfl rfl) (nl (cH H rfl (fun h1 H => ?_) (fun h1 H => ?_))))))))))))
 ·refine sr (aH (v := .bool (false)) rfl (nl (bQ (rT (?_)))))
  obtain rfl := si H
  exact bk
 ·refine bH (nT (aD (sr (aH (v := .int .i64 (0)) rfl (nl (bdo H fun x2 hx3 H => (dC (Λ := Unit) H (fun _ _ => []) (fun _ _ => []) ?_ ?_)))))))
  ·refine aQ (dE hx3 () (fun Q6 _ => [(0, .slice x_v0.1 v0.length x_v0.2), (1, .slice x_v1.1 v1.length x_v1.2), (5, .int .i64 (Q6))]) (fun _ _ => []) bK ?_)
   rintro _ Q6 z7 t9 H1 hi10 hb11
   unfold p_laws_eqRowS_b0 at H1
   refine aD (sr (aF rfl (aF rfl (aG (bS 135 dL rfl) (aG (cP rfl rfl) (nl (cH H1 rfl (fun h14 H1 => ?_) (fun h14 H1 => ?_))))))))
   ·refine bH (nT (aD (aQ (aD (dF [(0, .slice x_v0.1 v0.length x_v0.2), (1, .slice x_v1.1 v1.length x_v1.2), (5, .int .i64 (Q6))] mixed (.inr (by kernel_rfl)) ⟨rfl, rfl, rfl, trivial⟩ rfl (bB rfl (bB rfl (gdo H1 fun h15 H1 => (aZ (bW dL ty135 rfl rfl h15 rfl (aN (aL aR))) (aZ (v := .agg #[.int .i64 ((nth v0 Q6.toNat).1), .int .i64 ((nth v0 Q6.toNat).2)]) (cA (i := Q6.toNat) ty135 rfl (aN (aL aR)) h15.lt) ?_))))))))))
    refine bB rfl (bB rfl (gdo H1 fun h16 H1 => (aZ (bW dL ty135 rfl rfl h16 rfl (aN (aL aR.s))) (aZ (v := .agg #[.int .i64 ((nth v1 Q6.toNat).1), .int .i64 ((nth v1 Q6.toNat).2)]) (cA (i := Q6.toNat) ty135 rfl (aN (aL aR.s)) h16.lt) (bdo H1 fun r17 h18 H1 => (aZ (bN (c_laws_eqRow (nth v0 Q6.toNat) (nth v1 Q6.toNat) h18) rfl aO) (aX (cV rfl) (nT (cH H1 rfl (fun h19 H1 => ?_) (fun h19 H1 => ?_))))))))))
    ·refine sr (aH (v := .bool (false)) rfl (nl (bQ (rB (rT (rT (rB (rT (rT (?_))))))))))
     obtain rfl := hb11 _ (sm H1)
     replace H := sw.r H
     obtain rfl := si H
     exact bk
    ·exact bH (nB (nT (aP (aF rfl (gdo H1 fun h20 H1 => (aG (bR rfl rfl h20) (aH rfl (aJ (nLI () (hi10 _ (sm H1)) bK)))))))))
   ·exact dA (xT (xT (xE (nMI () (hb11 _ (sm H1)) bK))))
  ·rintro e21 y8 H
   refine nT (sr (aH (v := .bool (true)) rfl (nl ?_)))
   obtain rfl := si H
   exact bQ bk
noncomputable def p_laws_eqRowSS_b0 (v0 : (List (List Row))) (v1 : (List (List Row))) (Q8 : Int) : Option ((Int) ⊕ (Unit ⊕ Bool)) := cond (decide (Q8 < (v0.length : Int))) (gd (ix Q8 v0.length) <| gd (ix Q8 v1.length) <| bd (p_laws_eqRowS (nth v0 Q8.toNat) (nth v1 Q8.toNat)) fun r19 => cond (!r19) (some (.inr (.inr false))) (gd (I64 (Q8 + 1)) <| some (.inl (Q8 + 1)))) (some (.inr (.inl ())))
noncomputable def p_laws_eqRowSS (v0 : (List (List Row))) (v1 : (List (List Row))) : Option (Bool) := cond (!decide ((v0.length : Int) = (v1.length : Int))) (some false) (bd (lp (p_laws_eqRowSS_b0 v0 v1) 0) <| sw (fun _ => some true) (fun q => some q))
theorem c_laws_eqRowSS {r : Bool} (v0 : (List (List Row))) (x_v0 : Option Addr × Nat) (v1 : (List (List Row))) (x_v1 : Option Addr × Nat) (H : p_laws_eqRowSS v0 v1 = some r) : Fn' prog 170 #[.slice x_v0.1 v0.length x_v0.2, .slice x_v1.1 v1.length x_v1.2] [imm (.slice x_v0.1 v0.length x_v0.2) v0, imm (.slice x_v1.1 v1.length x_v1.2) v1] [] (ι := Unit) (fun _ => .bool (r)) (fun _ => []) (fun _ => []) := by
 refine cof (args := [_, _]) func170 ntmps170 fun c => ?_
 unfold p_laws_eqRowSS at H
 refine bM aR fun X1 => (bM aR.s.s fun X2 => (sr (aH (v := .bool (false)) rfl (nl (aD (sr (aF rfl (aG (bS 130 dY rfl) (aF rfl (aG (bS 130 dY rfl) (aG (cR rfl rfl) (nl ?_))))))))))))
 refine cH H rfl (fun h3 H => ?_) (fun h3 H => ?_)
 ·refine sr (aH (v := .bool (false)) rfl (nl (bQ (rT (?_)))))
  obtain rfl := si H
  exact bk
 ·refine bH (nT (aD (sr (aH (v := .int .i64 (0)) rfl (nl (bdo H fun x4 hx5 H => (dC (Λ := Unit) H (fun _ _ => []) (fun _ _ => []) ?_ ?_)))))))
  ·refine aQ (dE hx5 () (fun Q8 _ => [(0, .slice x_v0.1 v0.length x_v0.2), (1, .slice x_v1.1 v1.length x_v1.2), (5, .int .i64 (Q8))]) (fun _ _ => []) bK ?_)
   rintro _ Q8 z9 t11 H1 hi12 hb13
   unfold p_laws_eqRowSS_b0 at H1
   refine aD (sr (aF rfl (aF rfl (aG (bS 130 dY rfl) (aG (cP rfl rfl) (nl (cH H1 rfl (fun h16 H1 => ?_) (fun h16 H1 => ?_))))))))
   ·refine bH (nT (aD (aQ (aD (dF [(0, .slice x_v0.1 v0.length x_v0.2), (1, .slice x_v1.1 v1.length x_v1.2), (5, .int .i64 (Q8))] mixed (.inr (by kernel_rfl)) ⟨rfl, rfl, rfl, trivial⟩ rfl (bB rfl (bB rfl (gdo H1 fun h17 H1 => (aZ (bW dY ty130 rfl rfl h17 rfl (aL (aT aR.s))) (aZ (bZ (i := Q8.toNat) (j := 0) ty130 rfl (aL (aT aR.s)) h17.lt rfl) ?_))))))))))
    refine bB rfl (bB rfl (gdo H1 fun h18 H1 => (aZ (bW dY ty130 rfl rfl h18 rfl (aL (aT aR))) (aZ (bZ (i := Q8.toNat) (j := 0) ty130 rfl (aL (aT aR)) h18.lt rfl) (bdo H1 fun r19 h20 H1 => (aZ (bN (c_laws_eqRowS (nth v0 Q8.toNat) ((X1 Q8.toNat).1, (X1 Q8.toNat).2.1) (nth v1 Q8.toNat) ((X2 Q8.toNat).1, (X2 Q8.toNat).2.1) h20) rfl (aC (aL (aS (aW aR.s h17.lt))) (aC (aL (aS (aW aR h18.lt))) aO))) (aX (cV rfl) (nT (cH H1 rfl (fun h21 H1 => ?_) (fun h21 H1 => ?_))))))))))
    ·refine sr (aH (v := .bool (false)) rfl (nl (bQ (rB (rT (rT (rB (rT (rT (?_))))))))))
     obtain rfl := hb13 _ (sm H1)
     replace H := sw.r H
     obtain rfl := si H
     exact bk
    ·exact bH (nB (nT (aP (aF rfl (gdo H1 fun h22 H1 => (aG (bR rfl rfl h22) (aH rfl (aJ (nLI () (hi12 _ (sm H1)) bK)))))))))
   ·exact dA (xT (xT (xE (nMI () (hb13 _ (sm H1)) bK))))
  ·rintro e23 y10 H
   refine nT (sr (aH (v := .bool (true)) rfl (nl ?_)))
   obtain rfl := si H
   exact bQ bk
noncomputable def p_laws_eqPart (v0 : Part) (v1 : Part) : Option (Bool) := bd (p_laws_eqIntS v0.1 v1.1) fun r5 => cond (!r5) (some false) (bd (p_laws_eqRowSS v0.2 v1.2) fun r8 => cond (!r8) (some false) (some true))
theorem c_laws_eqPart {r : Bool} (v0 : Part) (x_v0 : (Option Addr × Nat) × (Option Addr × Nat)) (v1 : Part) (x_v1 : (Option Addr × Nat) × (Option Addr × Nat)) (H : p_laws_eqPart v0 v1 = some r) : Fn' prog 121 #[.agg #[.slice x_v0.1.1 v0.1.length x_v0.1.2, .slice x_v0.2.1 v0.2.length x_v0.2.2], .agg #[.slice x_v1.1.1 v1.1.length x_v1.1.2, .slice x_v1.2.1 v1.2.length x_v1.2.2]] [imm (.slice x_v0.1.1 v0.1.length x_v0.1.2) v0.1, imm (.slice x_v0.2.1 v0.2.length x_v0.2.2) v0.2, imm (.slice x_v1.1.1 v1.1.length x_v1.1.2) v1.1, imm (.slice x_v1.2.1 v1.2.length x_v1.2.2) v1.2] [] (ι := Unit) (fun _ => .bool (r)) (fun _ => []) (fun _ => []) := by
 refine cof (args := [_, _]) func121 ntmps121 fun c => ?_
 unfold p_laws_eqPart at H
 refine bM aR.s fun X1 => (bM aR.s.s.s.s fun X2 => (sr (f1 (cC (t := 75) rfl) fun g3 => (f1 (cC (t := 75) rfl) fun g4 => (aH (v := .bool (false)) rfl (nl (aD (sr (aG (cB fa75_0 rfl rfl) (aI (bI ty23 rfl hs1 rfl) (aG (cB fa75_0 rfl rfl) ?_)))))))))))
 refine aI (bI ty23 rfl aB rfl) (bdo H fun r5 h6 H => (aI (bN (c_laws_eqIntS v0.1 x_v0.1 v1.1 x_v1.1 h6) rfl (aC (aL aR.s.s) (aC (aL aR.s.s.s.s) aO))) (aG (cV rfl) (nl (cH H rfl (fun h7 H => ?_) (fun h7 H => ?_))))))
 ·refine sr (aH (v := .bool (false)) rfl (nl (bQ (rT (?_)))))
  obtain rfl := si H
  exact bk
 ·refine bH (nT (aD (sr (aG (cB fa75_1 rfl rfl) (aI (bI ty73 rfl hs1 rfl) (aG (cB fa75_1 rfl rfl) (aI (bI ty73 rfl aB rfl) (bdo H fun r8 h9 H => (aI (bN (c_laws_eqRowSS v0.2 x_v0.2 v1.2 x_v1.2 h9) rfl (aC (aL (aS aR.s)) (aC (aL (aS aR)) aO))) (aG (cV rfl) (nl ?_)))))))))))
  refine cH H rfl (fun h10 H => ?_) (fun h10 H => ?_)
  ·refine sr (aH (v := .bool (false)) rfl (nl (bQ (rT (?_)))))
   obtain rfl := si H
   exact bk
  ·refine bH (nT (sr (aH (v := .bool (true)) rfl (nl ?_))))
   obtain rfl := si H
   exact bQ bk
noncomputable def p_laws_eqFile (v0 : File) (v1 : File) : Option (Bool) := cond (!decide (v0.1 = v1.1)) (some false) (bd (p_laws_eqPart v0.2 v1.2) fun r6 => cond (!r6) (some false) (some true))
theorem c_laws_eqFile {r : Bool} (v0 : File) (x_v0 : Unit × ((Option Addr × Nat) × (Option Addr × Nat))) (v1 : File) (x_v1 : Unit × ((Option Addr × Nat) × (Option Addr × Nat))) (H : p_laws_eqFile v0 v1 = some r) : Fn' prog 118 #[.agg #[.int .i64 (v0.1), .slice x_v0.2.1.1 v0.2.1.length x_v0.2.1.2, .slice x_v0.2.2.1 v0.2.2.length x_v0.2.2.2], .agg #[.int .i64 (v1.1), .slice x_v1.2.1.1 v1.2.1.length x_v1.2.1.2, .slice x_v1.2.2.1 v1.2.2.length x_v1.2.2.2]] [imm (.slice x_v0.2.1.1 v0.2.1.length x_v0.2.1.2) v0.2.1, imm (.slice x_v0.2.2.1 v0.2.2.length x_v0.2.2.2) v0.2.2, imm (.slice x_v1.2.1.1 v1.2.1.length x_v1.2.1.2) v1.2.1, imm (.slice x_v1.2.2.1 v1.2.2.length x_v1.2.2.2) v1.2.2] [] (ι := Unit) (fun _ => .bool (r)) (fun _ => []) (fun _ => []) := by
 refine cof (args := [_, _]) func118 ntmps118 fun c => ?_
 unfold p_laws_eqFile at H
 refine bM aR.s fun X1 => (bM aR.s.s.s.s fun X2 => (sr (f1 (cC (t := 77) rfl) fun g3 => (f1 (cC (t := 77) rfl) fun g4 => (aH (v := .bool (false)) rfl (nl (aD (sr (aG (cB fa77_0 rfl rfl) (aI (bI ty3 rfl hs1 rfl) (aG (cB fa77_0 rfl rfl) ?_)))))))))))
 refine aI (bI ty3 rfl aB rfl) (aG (cR rfl rfl) (nl (cH H rfl (fun h5 H => ?_) (fun h5 H => ?_))))
 ·refine sr (aH (v := .bool (false)) rfl (nl (bQ (rT (?_)))))
  obtain rfl := si H
  exact bk
 ·refine bH (nT (aD (sr (aG (cB fa77_1 rfl rfl) (aI (v := .agg #[.slice x_v0.2.1.1 v0.2.1.length x_v0.2.1.2, .slice x_v0.2.2.1 v0.2.2.length x_v0.2.2.2]) (q_ldbP [.slice x_v0.2.1.1 v0.2.1.length x_v0.2.1.2, .slice x_v0.2.2.1 v0.2.2.length x_v0.2.2.2] ty75 rfl hs1 rfl rfl) (aG (cB fa77_1 rfl rfl) (aI (v := .agg #[.slice x_v1.2.1.1 v1.2.1.length x_v1.2.1.2, .slice x_v1.2.2.1 v1.2.2.length x_v1.2.2.2]) (q_ldbP [.slice x_v1.2.1.1 v1.2.1.length x_v1.2.1.2, .slice x_v1.2.2.1 v1.2.2.length x_v1.2.2.2] ty75 rfl aB rfl rfl) (bdo H fun r6 h7 H => (aI (bN (c_laws_eqPart v0.2 x_v0.2 v1.2 x_v1.2 h7) rfl (aC (aL aR.s.s) (aC (aL (aS aR.s)) (aC (aL aR.s.s.s.s) (aC (aL (aS aR)) aO))))) (aG (cV rfl) (nl ?_)))))))))))
  refine cH H rfl (fun h8 H => ?_) (fun h8 H => ?_)
  ·refine sr (aH (v := .bool (false)) rfl (nl (bQ (rT (?_)))))
   obtain rfl := si H
   exact bk
  ·refine bH (nT (sr (aH (v := .bool (true)) rfl (nl ?_))))
   obtain rfl := si H
   exact bQ bk
noncomputable def p_laws_eqFileS_b0 (v0 : (List File)) (v1 : (List File)) (Q8 : Int) : Option ((Int) ⊕ (Unit ⊕ Bool)) := cond (decide (Q8 < (v0.length : Int))) (gd (ix Q8 v0.length) <| gd (ix Q8 v1.length) <| bd (p_laws_eqFile (nth v0 Q8.toNat) (nth v1 Q8.toNat)) fun r19 => cond (!r19) (some (.inr (.inr false))) (gd (I64 (Q8 + 1)) <| some (.inl (Q8 + 1)))) (some (.inr (.inl ())))
noncomputable def p_laws_eqFileS (v0 : (List File)) (v1 : (List File)) : Option (Bool) := cond (!decide ((v0.length : Int) = (v1.length : Int))) (some false) (bd (lp (p_laws_eqFileS_b0 v0 v1) 0) <| sw (fun _ => some true) (fun q => some q))
theorem c_laws_eqFileS {r : Bool} (v0 : (List File)) (x_v0 : Option Addr × Nat) (v1 : (List File)) (x_v1 : Option Addr × Nat) (H : p_laws_eqFileS v0 v1 = some r) : Fn' prog 53 #[.slice x_v0.1 v0.length x_v0.2, .slice x_v1.1 v1.length x_v1.2] [imm (.slice x_v0.1 v0.length x_v0.2) v0, imm (.slice x_v1.1 v1.length x_v1.2) v1] [] (ι := Unit) (fun _ => .bool (r)) (fun _ => []) (fun _ => []) := by
 refine cof (args := [_, _]) func53 ntmps53 fun c => ?_
 unfold p_laws_eqFileS at H
 refine bM aR fun X1 => (bM aR.s.s fun X2 => (sr (aH (v := .bool (false)) rfl (nl (aD (sr (aF rfl (aG (bS 77 dR rfl) (aF rfl (aG (bS 77 dR rfl) (aG (cR rfl rfl) (nl ?_))))))))))))
 refine cH H rfl (fun h3 H => ?_) (fun h3 H => ?_)
 ·refine sr (aH (v := .bool (false)) rfl (nl (bQ (rT (?_)))))
  obtain rfl := si H
  exact bk
 ·refine bH (nT (aD (sr (aH (v := .int .i64 (0)) rfl (nl (bdo H fun x4 hx5 H => (dC (Λ := Unit) H (fun _ _ => []) (fun _ _ => []) ?_ ?_)))))))
  ·refine aQ (dE hx5 () (fun Q8 _ => [(0, .slice x_v0.1 v0.length x_v0.2), (1, .slice x_v1.1 v1.length x_v1.2), (5, .int .i64 (Q8))]) (fun _ _ => []) bK ?_)
   rintro _ Q8 z9 t11 H1 hi12 hb13
   unfold p_laws_eqFileS_b0 at H1
   refine aD (sr (aF rfl (aF rfl (aG (bS 77 dR rfl) (aG (cP rfl rfl) (nl (cH H1 rfl (fun h16 H1 => ?_) (fun h16 H1 => ?_))))))))
   ·refine bH (nT (aD (aQ (aD (dF [(0, .slice x_v0.1 v0.length x_v0.2), (1, .slice x_v1.1 v1.length x_v1.2), (5, .int .i64 (Q8))] mixed (.inr (by kernel_rfl)) ⟨rfl, rfl, rfl, trivial⟩ rfl (bB rfl (bB rfl (gdo H1 fun h17 H1 => (aZ (bW dR ty77 rfl rfl h17 rfl (aL (aT aR.s))) (aZ (v := .agg #[.int .i64 ((nth v0 Q8.toNat).1), .slice ((((X1 Q8.toNat).2).1).1) ((((nth v0 Q8.toNat).2).1).length) ((((X1 Q8.toNat).2).1).2.1), .slice ((((X1 Q8.toNat).2).2).1) ((((nth v0 Q8.toNat).2).2).length) ((((X1 Q8.toNat).2).2).2.1)]) (cA (i := Q8.toNat) ty77 rfl (aL (aT aR.s)) h17.lt) ?_))))))))))
    refine bB rfl (bB rfl (gdo H1 fun h18 H1 => (aZ (bW dR ty77 rfl rfl h18 rfl (aL (aT aR))) (aZ (v := .agg #[.int .i64 ((nth v1 Q8.toNat).1), .slice ((((X2 Q8.toNat).2).1).1) ((((nth v1 Q8.toNat).2).1).length) ((((X2 Q8.toNat).2).1).2.1), .slice ((((X2 Q8.toNat).2).2).1) ((((nth v1 Q8.toNat).2).2).length) ((((X2 Q8.toNat).2).2).2.1)]) (cA (i := Q8.toNat) ty77 rfl (aL (aT aR)) h18.lt) (bdo H1 fun r19 h20 H1 => (aZ (bN (c_laws_eqFile (nth v0 Q8.toNat) ((), (((((X1 Q8.toNat).2).1).1, (((X1 Q8.toNat).2).1).2.1), ((((X1 Q8.toNat).2).2).1, (((X1 Q8.toNat).2).2).2.1))) (nth v1 Q8.toNat) ((), (((((X2 Q8.toNat).2).1).1, (((X2 Q8.toNat).2).1).2.1), ((((X2 Q8.toNat).2).2).1, (((X2 Q8.toNat).2).2).2.1))) h20) rfl (aC (aL (aS (aV (aU (aW aR.s h17.lt))))) (aC (aL (aS (aU (aU (aW aR.s h17.lt))))) (aC (aL (aS (aV (aU (aW aR h18.lt))))) (aC (aL (aS (aU (aU (aW aR h18.lt))))) aO))))) (aX (cV rfl) (nT (cH H1 rfl (fun h21 H1 => ?_) (fun h21 H1 => ?_))))))))))
    ·refine sr (aH (v := .bool (false)) rfl (nl (bQ (rB (rT (rT (rB (rT (rT (?_))))))))))
     obtain rfl := hb13 _ (sm H1)
     replace H := sw.r H
     obtain rfl := si H
     exact bk
    ·exact bH (nB (nT (aP (aF rfl (gdo H1 fun h22 H1 => (aG (bR rfl rfl h22) (aH rfl (aJ (nLI () (hi12 _ (sm H1)) bK)))))))))
   ·exact dA (xT (xT (xE (nMI () (hb13 _ (sm H1)) bK))))
  ·rintro e23 y10 H
   refine nT (sr (aH (v := .bool (true)) rfl (nl ?_)))
   obtain rfl := si H
   exact bQ bk
noncomputable def p_laws_eqTag (v0 : Tag) (v1 : Tag) : Option (Bool) := cond (!decide (v0.1 = v1.1)) (some false) (cond (!decide (v0.2 = v1.2)) (some false) (some true))
theorem c_laws_eqTag {r : Bool} (v0 : Tag) (v1 : Tag) (H : p_laws_eqTag v0 v1 = some r) : Fn' prog 168 #[.agg #[.string (v0.1), .string (v0.2)], .agg #[.string (v1.1), .string (v1.2)]] [] [] (ι := Unit) (fun _ => .bool (r)) (fun _ => []) (fun _ => []) := by
 refine cof (args := [_, _]) func168 ntmps168 fun c => ?_
 unfold p_laws_eqTag at H
 refine sr (f1 (cC (t := 172) rfl) fun g1 => (f1 (cC (t := 172) rfl) fun g2 => (aH (v := .bool (false)) rfl (nl (aD (sr (aG (cB fa172_0 rfl rfl) (aI (bI ty9 rfl hs1 rfl) (aG (cB fa172_0 rfl rfl) (aI (bI ty9 rfl aB rfl) (aG (p_sneq rfl rfl) (nl ?_))))))))))))
 refine cH H rfl (fun h3 H => ?_) (fun h3 H => ?_)
 ·refine sr (aH (v := .bool (false)) rfl (nl (bQ (rT (?_)))))
  obtain rfl := si H
  exact bk
 ·refine bH (nT (aD (sr (aG (cB fa172_1 rfl rfl) (aI (bI ty9 rfl hs1 rfl) (aG (cB fa172_1 rfl rfl) (aI (bI ty9 rfl aB rfl) (aG (p_sneq rfl rfl) (nl (cH H rfl (fun h4 H => ?_) (fun h4 H => ?_)))))))))))
  ·refine sr (aH (v := .bool (false)) rfl (nl (bQ (rT (?_)))))
   obtain rfl := si H
   exact bk
  ·refine bH (nT (sr (aH (v := .bool (true)) rfl (nl ?_))))
   obtain rfl := si H
   exact bQ bk
noncomputable def p_laws_eqTagS_b0 (v0 : (List Tag)) (v1 : (List Tag)) (Q6 : Int) : Option ((Int) ⊕ (Unit ⊕ Bool)) := cond (decide (Q6 < (v0.length : Int))) (gd (ix Q6 v0.length) <| gd (ix Q6 v1.length) <| bd (p_laws_eqTag (nth v0 Q6.toNat) (nth v1 Q6.toNat)) fun r17 => cond (!r17) (some (.inr (.inr false))) (gd (I64 (Q6 + 1)) <| some (.inl (Q6 + 1)))) (some (.inr (.inl ())))
noncomputable def p_laws_eqTagS (v0 : (List Tag)) (v1 : (List Tag)) : Option (Bool) := cond (!decide ((v0.length : Int) = (v1.length : Int))) (some false) (bd (lp (p_laws_eqTagS_b0 v0 v1) 0) <| sw (fun _ => some true) (fun q => some q))
theorem c_laws_eqTagS {r : Bool} (v0 : (List Tag)) (x_v0 : Option Addr × Nat) (v1 : (List Tag)) (x_v1 : Option Addr × Nat) (H : p_laws_eqTagS v0 v1 = some r) : Fn' prog 119 #[.slice x_v0.1 v0.length x_v0.2, .slice x_v1.1 v1.length x_v1.2] [imm (.slice x_v0.1 v0.length x_v0.2) v0, imm (.slice x_v1.1 v1.length x_v1.2) v1] [] (ι := Unit) (fun _ => .bool (r)) (fun _ => []) (fun _ => []) := by
 refine cof (args := [_, _]) func119 ntmps119 fun c => ?_
 unfold p_laws_eqTagS at H
 refine sr (aH (v := .bool (false)) rfl (nl (aD (sr (aF rfl (aG (bS 172 dM rfl) (aF rfl (aG (bS 172 dM rfl) (aG (cR rfl rfl) (nl (cH H rfl (fun h1 H => ?_) (fun h1 H => ?_))))))))))))
 ·refine sr (aH (v := .bool (false)) rfl (nl (bQ (rT (?_)))))
  obtain rfl := si H
  exact bk
 ·refine bH (nT (aD (sr (aH (v := .int .i64 (0)) rfl (nl (bdo H fun x2 hx3 H => (dC (Λ := Unit) H (fun _ _ => []) (fun _ _ => []) ?_ ?_)))))))
  ·refine aQ (dE hx3 () (fun Q6 _ => [(0, .slice x_v0.1 v0.length x_v0.2), (1, .slice x_v1.1 v1.length x_v1.2), (5, .int .i64 (Q6))]) (fun _ _ => []) bK ?_)
   rintro _ Q6 z7 t9 H1 hi10 hb11
   unfold p_laws_eqTagS_b0 at H1
   refine aD (sr (aF rfl (aF rfl (aG (bS 172 dM rfl) (aG (cP rfl rfl) (nl (cH H1 rfl (fun h14 H1 => ?_) (fun h14 H1 => ?_))))))))
   ·refine bH (nT (aD (aQ (aD (dF [(0, .slice x_v0.1 v0.length x_v0.2), (1, .slice x_v1.1 v1.length x_v1.2), (5, .int .i64 (Q6))] mixed (.inr (by kernel_rfl)) ⟨rfl, rfl, rfl, trivial⟩ rfl (bB rfl (bB rfl (gdo H1 fun h15 H1 => (aZ (bW dM ty172 rfl rfl h15 rfl (aN (aL aR))) (aZ (v := .agg #[.string ((nth v0 Q6.toNat).1), .string ((nth v0 Q6.toNat).2)]) (cA (i := Q6.toNat) ty172 rfl (aN (aL aR)) h15.lt) ?_))))))))))
    refine bB rfl (bB rfl (gdo H1 fun h16 H1 => (aZ (bW dM ty172 rfl rfl h16 rfl (aN (aL aR.s))) (aZ (v := .agg #[.string ((nth v1 Q6.toNat).1), .string ((nth v1 Q6.toNat).2)]) (cA (i := Q6.toNat) ty172 rfl (aN (aL aR.s)) h16.lt) (bdo H1 fun r17 h18 H1 => (aZ (bN (c_laws_eqTag (nth v0 Q6.toNat) (nth v1 Q6.toNat) h18) rfl aO) (aX (cV rfl) (nT (cH H1 rfl (fun h19 H1 => ?_) (fun h19 H1 => ?_))))))))))
    ·refine sr (aH (v := .bool (false)) rfl (nl (bQ (rB (rT (rT (rB (rT (rT (?_))))))))))
     obtain rfl := hb11 _ (sm H1)
     replace H := sw.r H
     obtain rfl := si H
     exact bk
    ·exact bH (nB (nT (aP (aF rfl (gdo H1 fun h20 H1 => (aG (bR rfl rfl h20) (aH rfl (aJ (nLI () (hi10 _ (sm H1)) bK)))))))))
   ·exact dA (xT (xT (xE (nMI () (hb11 _ (sm H1)) bK))))
  ·rintro e21 y8 H
   refine nT (sr (aH (v := .bool (true)) rfl (nl ?_)))
   obtain rfl := si H
   exact bQ bk
noncomputable def p_laws_eqTagSS_b0 (v0 : (List (List Tag))) (v1 : (List (List Tag))) (Q8 : Int) : Option ((Int) ⊕ (Unit ⊕ Bool)) := cond (decide (Q8 < (v0.length : Int))) (gd (ix Q8 v0.length) <| gd (ix Q8 v1.length) <| bd (p_laws_eqTagS (nth v0 Q8.toNat) (nth v1 Q8.toNat)) fun r19 => cond (!r19) (some (.inr (.inr false))) (gd (I64 (Q8 + 1)) <| some (.inl (Q8 + 1)))) (some (.inr (.inl ())))
noncomputable def p_laws_eqTagSS (v0 : (List (List Tag))) (v1 : (List (List Tag))) : Option (Bool) := cond (!decide ((v0.length : Int) = (v1.length : Int))) (some false) (bd (lp (p_laws_eqTagSS_b0 v0 v1) 0) <| sw (fun _ => some true) (fun q => some q))
theorem c_laws_eqTagSS {r : Bool} (v0 : (List (List Tag))) (x_v0 : Option Addr × Nat) (v1 : (List (List Tag))) (x_v1 : Option Addr × Nat) (H : p_laws_eqTagSS v0 v1 = some r) : Fn' prog 55 #[.slice x_v0.1 v0.length x_v0.2, .slice x_v1.1 v1.length x_v1.2] [imm (.slice x_v0.1 v0.length x_v0.2) v0, imm (.slice x_v1.1 v1.length x_v1.2) v1] [] (ι := Unit) (fun _ => .bool (r)) (fun _ => []) (fun _ => []) := by
 refine cof (args := [_, _]) func55 ntmps55 fun c => ?_
 unfold p_laws_eqTagSS at H
 refine bM aR fun X1 => (bM aR.s.s fun X2 => (sr (aH (v := .bool (false)) rfl (nl (aD (sr (aF rfl (aG (bS 142 dS rfl) (aF rfl (aG (bS 142 dS rfl) (aG (cR rfl rfl) (nl ?_))))))))))))
 refine cH H rfl (fun h3 H => ?_) (fun h3 H => ?_)
 ·refine sr (aH (v := .bool (false)) rfl (nl (bQ (rT (?_)))))
  obtain rfl := si H
  exact bk
 ·refine bH (nT (aD (sr (aH (v := .int .i64 (0)) rfl (nl (bdo H fun x4 hx5 H => (dC (Λ := Unit) H (fun _ _ => []) (fun _ _ => []) ?_ ?_)))))))
  ·refine aQ (dE hx5 () (fun Q8 _ => [(0, .slice x_v0.1 v0.length x_v0.2), (1, .slice x_v1.1 v1.length x_v1.2), (5, .int .i64 (Q8))]) (fun _ _ => []) bK ?_)
   rintro _ Q8 z9 t11 H1 hi12 hb13
   unfold p_laws_eqTagSS_b0 at H1
   refine aD (sr (aF rfl (aF rfl (aG (bS 142 dS rfl) (aG (cP rfl rfl) (nl (cH H1 rfl (fun h16 H1 => ?_) (fun h16 H1 => ?_))))))))
   ·refine bH (nT (aD (aQ (aD (dF [(0, .slice x_v0.1 v0.length x_v0.2), (1, .slice x_v1.1 v1.length x_v1.2), (5, .int .i64 (Q8))] mixed (.inr (by kernel_rfl)) ⟨rfl, rfl, rfl, trivial⟩ rfl (bB rfl (bB rfl (gdo H1 fun h17 H1 => (aZ (bW dS ty142 rfl rfl h17 rfl (aL (aT aR.s))) (aZ (bZ (i := Q8.toNat) (j := 0) ty142 rfl (aL (aT aR.s)) h17.lt rfl) ?_))))))))))
    refine bB rfl (bB rfl (gdo H1 fun h18 H1 => (aZ (bW dS ty142 rfl rfl h18 rfl (aL (aT aR))) (aZ (bZ (i := Q8.toNat) (j := 0) ty142 rfl (aL (aT aR)) h18.lt rfl) (bdo H1 fun r19 h20 H1 => (aZ (bN (c_laws_eqTagS (nth v0 Q8.toNat) ((X1 Q8.toNat).1, (X1 Q8.toNat).2.1) (nth v1 Q8.toNat) ((X2 Q8.toNat).1, (X2 Q8.toNat).2.1) h20) rfl (aC (aL (aS (aW aR.s h17.lt))) (aC (aL (aS (aW aR h18.lt))) aO))) (aX (cV rfl) (nT (cH H1 rfl (fun h21 H1 => ?_) (fun h21 H1 => ?_))))))))))
    ·refine sr (aH (v := .bool (false)) rfl (nl (bQ (rB (rT (rT (rB (rT (rT (?_))))))))))
     obtain rfl := hb13 _ (sm H1)
     replace H := sw.r H
     obtain rfl := si H
     exact bk
    ·exact bH (nB (nT (aP (aF rfl (gdo H1 fun h22 H1 => (aG (bR rfl rfl h22) (aH rfl (aJ (nLI () (hi12 _ (sm H1)) bK)))))))))
   ·exact dA (xT (xT (xE (nMI () (hb13 _ (sm H1)) bK))))
  ·rintro e23 y10 H
   refine nT (sr (aH (v := .bool (true)) rfl (nl ?_)))
   obtain rfl := si H
   exact bQ bk
noncomputable def p_laws_eqDisk (v0 : Disk) (v1 : Disk) : Option (Bool) := bd (p_laws_eqFileS v0.1 v1.1) fun r7 => cond (!r7) (some false) (bd (p_laws_eqIntS v0.2.1 v1.2.1) fun r10 => cond (!r10) (some false) (bd (p_laws_eqTagSS v0.2.2.1 v1.2.2.1) fun r13 => cond (!r13) (some false) (cond (!decide (v0.2.2.2 = v1.2.2.2)) (some false) (some true))))
theorem c_laws_eqDisk {r : Bool} (v0 : Disk) (x_v0 : (Option Addr × Nat) × (Option Addr × Nat) × (Option Addr × Nat) × Unit) (v1 : Disk) (x_v1 : (Option Addr × Nat) × (Option Addr × Nat) × (Option Addr × Nat) × Unit) (H : p_laws_eqDisk v0 v1 = some r) : Fn' prog 13 #[.agg #[.slice x_v0.1.1 v0.1.length x_v0.1.2, .slice x_v0.2.1.1 v0.2.1.length x_v0.2.1.2, .slice x_v0.2.2.1.1 v0.2.2.1.length x_v0.2.2.1.2, .int .i64 (v0.2.2.2)], .agg #[.slice x_v1.1.1 v1.1.length x_v1.1.2, .slice x_v1.2.1.1 v1.2.1.length x_v1.2.1.2, .slice x_v1.2.2.1.1 v1.2.2.1.length x_v1.2.2.1.2, .int .i64 (v1.2.2.2)]] [imm (.slice x_v0.1.1 v0.1.length x_v0.1.2) v0.1, imm (.slice x_v0.2.1.1 v0.2.1.length x_v0.2.1.2) v0.2.1, imm (.slice x_v0.2.2.1.1 v0.2.2.1.length x_v0.2.2.1.2) v0.2.2.1, imm (.slice x_v1.1.1 v1.1.length x_v1.1.2) v1.1, imm (.slice x_v1.2.1.1 v1.2.1.length x_v1.2.1.2) v1.2.1, imm (.slice x_v1.2.2.1.1 v1.2.2.1.length x_v1.2.2.1.2) v1.2.2.1] [] (ι := Unit) (fun _ => .bool (r)) (fun _ => []) (fun _ => []) := by
 refine cof (args := [_, _]) func13 ntmps13 fun c => ?_
 unfold p_laws_eqDisk at H
 refine bM aR fun X1 => (bM aR.s.s.s fun X2 => (bM aR.s.s.s.s.s fun X3 => (bM aR.s.s.s.s.s.s.s.s fun X4 => (sr (f1 (cC (t := 32) rfl) fun g5 => (f1 (cC (t := 32) rfl) fun g6 => (aH (v := .bool (false)) rfl (nl (aD (sr (aG (cB fa32_0 rfl rfl) ?_)))))))))))
 refine aI (bI ty29 rfl hs1 rfl) (aG (cB fa32_0 rfl rfl) (aI (bI ty29 rfl aB rfl) (bdo H fun r7 h8 H => (aI (bN (c_laws_eqFileS v0.1 x_v0.1 v1.1 x_v1.1 h8) rfl (aC (aL (aS aR.s.s.s)) (aC (aL (aS aR.s)) aO))) (aG (cV rfl) (nl (cH H rfl (fun h9 H => ?_) (fun h9 H => ?_))))))))
 ·refine sr (aH (v := .bool (false)) rfl (nl (bQ (rT (?_)))))
  obtain rfl := si H
  exact bk
 ·refine bH (nT (aD (sr (aG (cB fa32_1 rfl rfl) (aI (bI ty23 rfl hs1 rfl) (aG (cB fa32_1 rfl rfl) (aI (bI ty23 rfl aB rfl) (bdo H fun r10 h11 H => (aI (bN (c_laws_eqIntS v0.2.1 x_v0.2.1 v1.2.1 x_v1.2.1 h11) rfl (aC (aL aR.s.s.s.s.s) (aC (aL aR.s.s.s.s.s.s.s.s) aO))) (aG (cV rfl) (nl ?_)))))))))))
  refine cH H rfl (fun h12 H => ?_) (fun h12 H => ?_)
  ·refine sr (aH (v := .bool (false)) rfl (nl (bQ (rT (?_)))))
   obtain rfl := si H
   exact bk
  ·refine bH (nT (aD (sr (aG (cB fa32_2 rfl rfl) (aI (bI ty30 rfl hs1 rfl) (aG (cB fa32_2 rfl rfl) (aI (bI ty30 rfl aB rfl) (bdo H fun r13 h14 H => (aI (bN (c_laws_eqTagSS v0.2.2.1 x_v0.2.2.1 v1.2.2.1 x_v1.2.2.1 h14) rfl (aC (aL (aS aR.s.s)) (aC (aL (aS aR)) aO))) (aG (cV rfl) (nl ?_)))))))))))
   refine cH H rfl (fun h15 H => ?_) (fun h15 H => ?_)
   ·refine sr (aH (v := .bool (false)) rfl (nl (bQ (rT (?_)))))
    obtain rfl := si H
    exact bk
   ·refine bH (nT (aD (sr (aG (cB fa32_3 rfl rfl) (aI (bI ty3 rfl hs1 rfl) (aG (cB fa32_3 rfl rfl) (aI (bI ty3 rfl aB rfl) (aG (cR rfl rfl) (nl (cH H rfl (fun h16 H => ?_) (fun h16 H => ?_)))))))))))
    ·refine sr (aH (v := .bool (false)) rfl (nl (bQ (rT (?_)))))
     obtain rfl := si H
     exact bk
    ·refine bH (nT (sr (aH (v := .bool (true)) rfl (nl ?_))))
     obtain rfl := si H
     exact bQ bk
noncomputable def p_laws_markIntS_b0 (v0 : (List Int)) (Q5 : (List Int) × Int × Int) : Option (((List Int) × Int × Int) ⊕ (Int × (List Int))) := cond (decide (Q5.2.2 < (v0.length : Int))) (gd (ix Q5.2.2 Q5.1.length) <| gd (I64 (Q5.2.1 + 1)) <| gd (I64 (Q5.2.2 + 1)) <| some (.inl ((Q5.1.set Q5.2.2.toNat Q5.2.1), Q5.2.1 + 1, Q5.2.2 + 1))) (some (.inr (Q5.2.1, Q5.1)))
noncomputable def p_laws_markIntS (v0 : (List Int)) (v1 : Int) : Option (Int × (List Int)) := bd (lp (p_laws_markIntS_b0 v0) (v0, v1, 0)) fun x1 => some (x1.1, x1.2)
theorem c_laws_markIntS {r : Int × (List Int)} (v0 : (List Int)) (x_v0 : Option Addr × Nat) (n_v0 : Nat) (e_v0 : n_v0 = v0.length) (v1 : Int) (H : p_laws_markIntS v0 v1 = some r) : Fn' prog 61 #[.slice x_v0.1 n_v0 x_v0.2, .int .i64 (v1)] [] [tree (.slice x_v0.1 n_v0 x_v0.2) v0] (ι := Unit) (fun _ => .int .i64 (r.1)) (fun _ => []) (fun _ => [tree (.slice x_v0.1 n_v0 x_v0.2) r.2]) := by
 subst e_v0
 refine cof (args := [_, _]) func61 ntmps61 fun c => ?_
 unfold p_laws_markIntS at H
 refine sr (aH (v := .int .i64 (0)) rfl (nl (aD (sr (aH (v := .int .i64 (0)) rfl (nl (bdo H fun x1 hx2 H => (dB (ι := Unit) (fun ψ => [(1, .int .i64 (x1.1))]) (fun ψ => [tree (.slice x_v0.1 v0.length x_v0.2) x1.2]) ?_ ?_))))))))
 ·refine aQ (dE hx2 () (fun Q5 _ => [(0, .slice x_v0.1 v0.length x_v0.2), (1, .int .i64 (Q5.2.1)), (5, .int .i64 (Q5.2.2))]) (fun Q5 _ => [tree (.slice x_v0.1 v0.length x_v0.2) Q5.1]) (.cons aA .nil) ?_)
  rintro _ Q5 z6 t8 H1 hi9 hb10
  unfold p_laws_markIntS_b0 at H1
  refine aD (sr (aF rfl (aF rfl (aG (bS 3 dP rfl) (aG (cP rfl rfl) (nl (cH H1 rfl (fun h13 H1 => ?_) (fun h13 H1 => ?_))))))))
  ·refine bH (nT (aD (aQ (sr (aF rfl (aF rfl (aF rfl (gdo H1 fun h14 H1 => (aI (bX dP ty3 rfl rfl h14 aB) (g0 (e_setT (l := Q5.1) (α := Int) (oa := x_v0.1) Q5.2.2.toNat Q5.2.1 () ty3 rfl rfl rfl h14.lt (cW _) (.cons aA .nil)) ?_))))))))))
   refine nl (aP (aF rfl (gdo H1 fun h15 H1 => (aG (bR rfl rfl h15) (aH rfl (aJ (nB (nT (aP (aF rfl (gdo H1 fun h16 H1 => ?_)))))))))))
   exact aG (bR rfl rfl h16) (aH rfl (aJ (nLI () (hi9 _ (sm H1)) (.cons aA .nil))))
  ·refine dA (xT (xT (xE (?_))))
   obtain rfl := hb10 _ (sm H1)
   exact nMC () ⟨rfl, trivial⟩ bT (.cons aA .nil)
 ·intro y7
  show At _ _ [(1, .int .i64 (x1.1))] _ [tree (.slice x_v0.1 v0.length x_v0.2) x1.2] _
  refine nT (sr (aF rfl (aH rfl (nl ?_))))
  obtain rfl := si H
  exact bQ (bk (.cons aA .nil))
noncomputable def p_laws_markRowS_b0 (v0 : (List Row)) (Q5 : (List Row) × Int × Int) : Option (((List Row) × Int × Int) ⊕ (Int × (List Row))) := cond (decide (Q5.2.2 < (v0.length : Int))) (gd (ix Q5.2.2 Q5.1.length) <| gd (I64 (Q5.2.1 + 1)) <| gd (I64 ((Q5.2.1 + 1) + 1)) <| gd (I64 (Q5.2.2 + 1)) <| some (.inl ((Q5.1.set Q5.2.2.toNat (Q5.2.1, (Q5.2.1 + 1))), (Q5.2.1 + 1) + 1, Q5.2.2 + 1))) (some (.inr (Q5.2.1, Q5.1)))
noncomputable def p_laws_markRowS (v0 : (List Row)) (v1 : Int) : Option (Int × (List Row)) := bd (lp (p_laws_markRowS_b0 v0) (v0, v1, 0)) fun x1 => some (x1.1, x1.2)
theorem c_laws_markRowS {r : Int × (List Row)} (v0 : (List Row)) (x_v0 : Option Addr × Nat) (n_v0 : Nat) (e_v0 : n_v0 = v0.length) (v1 : Int) (H : p_laws_markRowS v0 v1 = some r) : Fn' prog 143 #[.slice x_v0.1 n_v0 x_v0.2, .int .i64 (v1)] [] [tree (.slice x_v0.1 n_v0 x_v0.2) v0] (ι := Unit) (fun _ => .int .i64 (r.1)) (fun _ => []) (fun _ => [tree (.slice x_v0.1 n_v0 x_v0.2) r.2]) := by
 subst e_v0
 refine cof (args := [_, _]) func143 ntmps143 fun c => ?_
 unfold p_laws_markRowS at H
 refine sr (aH (v := .int .i64 (0)) rfl (nl (aD (sr (aH (v := .int .i64 (0)) rfl (nl (bdo H fun x1 hx2 H => (dB (ι := Unit) (fun ψ => [(1, .int .i64 (x1.1))]) (fun ψ => [tree (.slice x_v0.1 v0.length x_v0.2) x1.2]) ?_ ?_))))))))
 ·refine aQ (dE hx2 () (fun Q5 _ => [(0, .slice x_v0.1 v0.length x_v0.2), (1, .int .i64 (Q5.2.1)), (5, .int .i64 (Q5.2.2))]) (fun Q5 _ => [tree (.slice x_v0.1 v0.length x_v0.2) Q5.1]) (.cons aA .nil) ?_)
  rintro _ Q5 z6 t8 H1 hi9 hb10
  unfold p_laws_markRowS_b0 at H1
  refine aD (sr (aF rfl (aF rfl (aG (bS 135 dL rfl) (aG (cP rfl rfl) (nl (cH H1 rfl (fun h13 H1 => ?_) (fun h13 H1 => ?_))))))))
  ·refine bH (nT (aD (aQ (aD (gdo H1 fun h14 H1 => (Tr.zoom (k := Q5.2.2.toNat) h14.lt (.cons aA .nil) fun x15 => ?_))))))
   show Tr _ _ _ _ _ _ _ (hole (.slice x_v0.1 v0.length x_v0.2) Q5.1 Q5.2.2.toNat [.int .i64 ((nth Q5.1 Q5.2.2.toNat).1), .int .i64 ((nth Q5.1 Q5.2.2.toNat).2)] :: _)
   refine aP (aF rfl (aF rfl (aF rfl (aI (v := elp x_v0.1 (Q5.2.2.toNat * Enc.sz Row + 0)) (q_ixH (k := Q5.2.2.toNat) dL ty135 rfl rfl h14 rfl aB) (aI (v := elp x_v0.1 (Q5.2.2.toNat * Enc.sz Row + 0)) (q_faH (j := 0) (i := Q5.2.2.toNat) fa135_0 rfl aB rfl) (g0 (e_stH (v := .int .i64 (Q5.2.1)) (i := Q5.2.2.toNat) (j := 0) (cs' := [.int .i64 (Q5.2.1), .int .i64 ((nth Q5.1 Q5.2.2.toNat).2)]) ty3 rfl rfl (.cons aA .nil) rfl (one_of rfl) (Nat.le_of_ble_eq_true rfl) rfl rfl) (nl (sr (aF rfl ?_)))))))))
   refine gdo H1 fun h16 H1 => (aG (bR rfl rfl h16) (aH rfl (nl (sr (aF rfl (aF rfl (aF rfl (aI (v := elp x_v0.1 (Q5.2.2.toNat * Enc.sz Row + 0)) (q_ixH (k := Q5.2.2.toNat) dL ty135 rfl rfl h14 rfl aB) (aI (v := elp x_v0.1 (Q5.2.2.toNat * Enc.sz Row + 1)) (q_faH (j := 0) (i := Q5.2.2.toNat) fa135_1 rfl aB rfl) (g0 (e_stH (v := .int .i64 (Q5.2.1 + 1)) (i := Q5.2.2.toNat) (j := 1) (cs' := [.int .i64 (Q5.2.1), .int .i64 (Q5.2.1 + 1)]) ty3 rfl rfl (.cons aA .nil) rfl (one_of rfl) (Nat.le_of_ble_eq_true rfl) rfl rfl) ?_))))))))))
   refine nl (aP (aF rfl (gdo H1 fun h17 H1 => (aG (bR rfl rfl h17) (aH rfl (aJ (nB (nT (aP (aF rfl (gdo H1 fun h18 H1 => ?_)))))))))))
   exact aG (bR rfl rfl h18) (aH rfl (aJ (At.unzoom (Q5.2.1, (Q5.2.1 + 1)) ((), ()) rfl (.cons aA .nil) (nLI () (hi9 _ (sm H1)) (.cons aA .nil)))))
  ·refine dA (xT (xT (xE (?_))))
   obtain rfl := hb10 _ (sm H1)
   exact nMC () ⟨rfl, trivial⟩ bT (.cons aA .nil)
 ·intro y7
  show At _ _ [(1, .int .i64 (x1.1))] _ [tree (.slice x_v0.1 v0.length x_v0.2) x1.2] _
  refine nT (sr (aF rfl (aH rfl (nl ?_))))
  obtain rfl := si H
  exact bQ (bk (.cons aA .nil))
noncomputable def p_laws_markRowSS_b0 (v0 : (List (List Row))) (Q5 : (List (List Row)) × Int × Int) : Option (((List (List Row)) × Int × Int) ⊕ (Int × (List (List Row)))) := cond (decide (Q5.2.2 < (v0.length : Int))) (gd (ix Q5.2.2 Q5.1.length) <| bd (p_laws_markRowS (nth Q5.1 Q5.2.2.toNat) Q5.2.1) fun r16 => gd (I64 (Q5.2.2 + 1)) <| some (.inl ((Q5.1.set Q5.2.2.toNat r16.2), r16.1, Q5.2.2 + 1))) (some (.inr (Q5.2.1, Q5.1)))
noncomputable def p_laws_markRowSS (v0 : (List (List Row))) (v1 : Int) : Option (Int × (List (List Row))) := bd (lp (p_laws_markRowSS_b0 v0) (v0, v1, 0)) fun x1 => some (x1.1, x1.2)
theorem c_laws_markRowSS {r : Int × (List (List Row))} (v0 : (List (List Row))) (x_v0 : Option Addr × Nat) (n_v0 : Nat) (e_v0 : n_v0 = v0.length) (v1 : Int) (H : p_laws_markRowSS v0 v1 = some r) : Fn' prog 90 #[.slice x_v0.1 n_v0 x_v0.2, .int .i64 (v1)] [] [tree (.slice x_v0.1 n_v0 x_v0.2) v0] (ι := Unit) (fun _ => .int .i64 (r.1)) (fun _ => []) (fun _ => [tree (.slice x_v0.1 n_v0 x_v0.2) r.2]) := by
 subst e_v0
 refine cof (args := [_, _]) func90 ntmps90 fun c => ?_
 unfold p_laws_markRowSS at H
 refine sr (aH (v := .int .i64 (0)) rfl (nl (aD (sr (aH (v := .int .i64 (0)) rfl (nl (bdo H fun x1 hx2 H => (dB (ι := Unit) (fun ψ => [(1, .int .i64 (x1.1))]) (fun ψ => [tree (.slice x_v0.1 v0.length x_v0.2) x1.2]) ?_ ?_))))))))
 ·refine aQ (dE hx2 () (fun Q5 _ => [(0, .slice x_v0.1 v0.length x_v0.2), (1, .int .i64 (Q5.2.1)), (5, .int .i64 (Q5.2.2))]) (fun Q5 _ => [tree (.slice x_v0.1 v0.length x_v0.2) Q5.1]) (.cons aA .nil) ?_)
  rintro _ Q5 z6 t8 H1 hi9 hb10
  unfold p_laws_markRowSS_b0 at H1
  refine aD (sr (aF rfl (aF rfl (aG (bS 130 dY rfl) (aG (cP rfl rfl) (nl (cH H1 rfl (fun h13 H1 => ?_) (fun h13 H1 => ?_))))))))
  ·refine bH (nT (aD (aQ (gdo H1 fun h14 H1 => (Tr.zoom (k := Q5.2.2.toNat) h14.lt (.cons aA .nil) fun x15 => ?_)))))
   show Tr _ _ _ _ _ _ _ (hole (.slice x_v0.1 v0.length x_v0.2) Q5.1 Q5.2.2.toNat [.slice x15.1 ((nth Q5.1 Q5.2.2.toNat).length) x15.2] :: tree (.slice x15.1 ((nth Q5.1 Q5.2.2.toNat).length) x15.2) (nth Q5.1 Q5.2.2.toNat) :: _)
   refine aP (aF rfl (aF rfl (aI (v := elp x_v0.1 (Q5.2.2.toNat * Enc.sz (List Row) + 0)) (q_ixH (k := Q5.2.2.toNat) dY ty130 rfl rfl h14 rfl aB) (aI (v := .slice x15.1 ((nth Q5.1 Q5.2.2.toNat).length) x15.2) (q_ldH (i := Q5.2.2.toNat) (j := 0) ty130 rfl aB rfl) (aF rfl (bdo H1 fun r16 h17 H1 => (f1 (cG (c_laws_markRowS (nth Q5.1 Q5.2.2.toNat) x15 ((nth Q5.1 Q5.2.2.toNat).length) rfl Q5.2.1 h17) (bF bG) (fun _ => (bF bG)) rfl (.cons dl1 .nil) aO) fun u18 => (aH rfl (aJ (nB (nT (?_))))))))))))
   refine cX aB fun hn => ?_; rw [hn]
   exact aP (aF rfl (gdo H1 fun h19 H1 => (aG (bR rfl rfl h19) (aH rfl (aJ (At.unzoom r16.2 x15 rfl (.cons dl1 (.cons aA .nil)) (nLI () (hi9 _ (sm H1)) (.cons aA .nil))))))))
  ·refine dA (xT (xT (xE (?_))))
   obtain rfl := hb10 _ (sm H1)
   exact nMC () ⟨rfl, trivial⟩ bT (.cons aA .nil)
 ·intro y7
  show At _ _ [(1, .int .i64 (x1.1))] _ [tree (.slice x_v0.1 v0.length x_v0.2) x1.2] _
  refine nT (sr (aF rfl (aH rfl (nl ?_))))
  obtain rfl := si H
  exact bQ (bk (.cons aA .nil))
noncomputable def p_laws_markFileS_b0 (v0 : (List File)) (Q5 : (List File) × Int × Int) : Option (((List File) × Int × Int) ⊕ (Int × (List File))) := cond (decide (Q5.2.2 < (v0.length : Int))) (gd (ix Q5.2.2 Q5.1.length) <| gd (I64 (Q5.2.1 + 1)) <| bd (p_laws_markIntS (((nth Q5.1 Q5.2.2.toNat).2).1) (Q5.2.1 + 1)) fun r17 => bd (p_laws_markRowSS (((nth Q5.1 Q5.2.2.toNat).2).2) r17.1) fun r20 => gd (I64 (Q5.2.2 + 1)) <| some (.inl ((Q5.1.set Q5.2.2.toNat (Q5.2.1, (r17.2, r20.2))), r20.1, Q5.2.2 + 1))) (some (.inr (Q5.2.1, Q5.1)))
noncomputable def p_laws_markFileS (v0 : (List File)) (v1 : Int) : Option (Int × (List File)) := bd (lp (p_laws_markFileS_b0 v0) (v0, v1, 0)) fun x1 => some (x1.1, x1.2)
theorem c_laws_markFileS {r : Int × (List File)} (v0 : (List File)) (x_v0 : Option Addr × Nat) (n_v0 : Nat) (e_v0 : n_v0 = v0.length) (v1 : Int) (H : p_laws_markFileS v0 v1 = some r) : Fn' prog 60 #[.slice x_v0.1 n_v0 x_v0.2, .int .i64 (v1)] [] [tree (.slice x_v0.1 n_v0 x_v0.2) v0] (ι := Unit) (fun _ => .int .i64 (r.1)) (fun _ => []) (fun _ => [tree (.slice x_v0.1 n_v0 x_v0.2) r.2]) := by
 subst e_v0
 refine cof (args := [_, _]) func60 ntmps60 fun c => ?_
 unfold p_laws_markFileS at H
 refine sr (aH (v := .int .i64 (0)) rfl (nl (aD (sr (aH (v := .int .i64 (0)) rfl (nl (bdo H fun x1 hx2 H => (dB (ι := Unit) (fun ψ => [(1, .int .i64 (x1.1))]) (fun ψ => [tree (.slice x_v0.1 v0.length x_v0.2) x1.2]) ?_ ?_))))))))
 ·refine aQ (dE hx2 () (fun Q5 _ => [(0, .slice x_v0.1 v0.length x_v0.2), (1, .int .i64 (Q5.2.1)), (5, .int .i64 (Q5.2.2))]) (fun Q5 _ => [tree (.slice x_v0.1 v0.length x_v0.2) Q5.1]) (.cons aA .nil) ?_)
  rintro _ Q5 z6 t8 H1 hi9 hb10
  unfold p_laws_markFileS_b0 at H1
  refine aD (sr (aF rfl (aF rfl (aG (bS 77 dR rfl) (aG (cP rfl rfl) (nl (cH H1 rfl (fun h13 H1 => ?_) (fun h13 H1 => ?_))))))))
  ·refine bH (nT (aD (aQ (aD (gdo H1 fun h14 H1 => (Tr.zoom (k := Q5.2.2.toNat) h14.lt (.cons aA .nil) fun x15 => ?_))))))
   show Tr _ _ _ _ _ _ _ (hole (.slice x_v0.1 v0.length x_v0.2) Q5.1 Q5.2.2.toNat [.int .i64 ((nth Q5.1 Q5.2.2.toNat).1), .slice x15.2.1.1 ((((nth Q5.1 Q5.2.2.toNat).2).1).length) x15.2.1.2, .slice x15.2.2.1 ((((nth Q5.1 Q5.2.2.toNat).2).2).length) x15.2.2.2] :: tree (.slice x15.2.1.1 ((((nth Q5.1 Q5.2.2.toNat).2).1).length) x15.2.1.2) (((nth Q5.1 Q5.2.2.toNat).2).1) :: tree (.slice x15.2.2.1 ((((nth Q5.1 Q5.2.2.toNat).2).2).length) x15.2.2.2) (((nth Q5.1 Q5.2.2.toNat).2).2) :: _)
   refine aP (aF rfl (aF rfl (aF rfl (aI (v := elp x_v0.1 (Q5.2.2.toNat * Enc.sz File + 0)) (q_ixH (k := Q5.2.2.toNat) dR ty77 rfl rfl h14 rfl aB) (aI (v := elp x_v0.1 (Q5.2.2.toNat * Enc.sz File + 0)) (q_faH (j := 0) (i := Q5.2.2.toNat) fa77_0 rfl aB rfl) (g0 (e_stH (v := .int .i64 (Q5.2.1)) (i := Q5.2.2.toNat) (j := 0) (cs' := [.int .i64 (Q5.2.1), .slice x15.2.1.1 ((((nth Q5.1 Q5.2.2.toNat).2).1).length) x15.2.1.2, .slice x15.2.2.1 ((((nth Q5.1 Q5.2.2.toNat).2).2).length) x15.2.2.2]) ty3 rfl rfl (.cons aA .nil) rfl (one_of rfl) (Nat.le_of_ble_eq_true rfl) rfl rfl) (nl (sr (aF rfl ?_)))))))))
   refine gdo H1 fun h16 H1 => (aG (bR rfl rfl h16) (aH rfl (nl (sr (aF rfl (aF rfl (aI (v := elp x_v0.1 (Q5.2.2.toNat * Enc.sz File + 0)) (q_ixH (k := Q5.2.2.toNat) dR ty77 rfl rfl h14 rfl aB) (aI (v := elp x_v0.1 (Q5.2.2.toNat * Enc.sz File + 1)) (q_faH (j := 0) (i := Q5.2.2.toNat) fa77_1 rfl aB rfl) (aI (v := elp x_v0.1 (Q5.2.2.toNat * Enc.sz File + 1)) (q_faH (j := 1) (i := Q5.2.2.toNat) fa75_0 rfl aB rfl) (aI (v := .slice x15.2.1.1 ((((nth Q5.1 Q5.2.2.toNat).2).1).length) x15.2.1.2) (q_ldH (i := Q5.2.2.toNat) (j := 1) ty23 rfl aB rfl) ?_))))))))))
   refine aF rfl (bdo H1 fun r17 h18 H1 => (f1 (cG (c_laws_markIntS (((nth Q5.1 Q5.2.2.toNat).2).1) x15.2.1 ((((nth Q5.1 Q5.2.2.toNat).2).1).length) rfl (Q5.2.1 + 1) h18) (bF bG) (fun _ => (bF bG)) rfl (.cons dl1 .nil) aO) fun u19 => (aH rfl (nl ?_))))
   refine cX aB fun hn => ?_; rw [hn]
   refine aP (aF rfl (aF rfl (aI (v := elp x_v0.1 (Q5.2.2.toNat * Enc.sz File + 0)) (q_ixH (k := Q5.2.2.toNat) dR ty77 rfl rfl h14 rfl hs1) (aI (v := elp x_v0.1 (Q5.2.2.toNat * Enc.sz File + 1)) (q_faH (j := 0) (i := Q5.2.2.toNat) fa77_1 rfl hs1 rfl) (aI (v := elp x_v0.1 (Q5.2.2.toNat * Enc.sz File + 2)) (q_faH (j := 1) (i := Q5.2.2.toNat) fa75_1 rfl hs1 rfl) (aI (v := .slice x15.2.2.1 ((((nth Q5.1 Q5.2.2.toNat).2).2).length) x15.2.2.2) (q_ldH (i := Q5.2.2.toNat) (j := 2) ty73 rfl hs1 rfl) (aF rfl (bdo H1 fun r20 h21 H1 => (f1 (cG (c_laws_markRowSS (((nth Q5.1 Q5.2.2.toNat).2).2) x15.2.2 ((((nth Q5.1 Q5.2.2.toNat).2).2).length) rfl r17.1 h21) (bF bG) (fun _ => (bF bG)) rfl (.cons dl2 .nil) aO) fun u22 => ?_)))))))))
   refine aH rfl (aJ (nB (nT (?_))))
   refine cX aB fun hn => ?_; rw [hn]
   exact aP (aF rfl (gdo H1 fun h23 H1 => (aG (bR rfl rfl h23) (aH rfl (aJ (At.unzoom (Q5.2.1, (r17.2, r20.2)) ((), x15.2) rfl (.cons dl2 (.cons dl1 (.cons aA .nil))) (nLI () (hi9 _ (sm H1)) (.cons aA .nil))))))))
  ·refine dA (xT (xT (xE (?_))))
   obtain rfl := hb10 _ (sm H1)
   exact nMC () ⟨rfl, trivial⟩ bT (.cons aA .nil)
 ·intro y7
  show At _ _ [(1, .int .i64 (x1.1))] _ [tree (.slice x_v0.1 v0.length x_v0.2) x1.2] _
  refine nT (sr (aF rfl (aH rfl (nl ?_))))
  obtain rfl := si H
  exact bQ (bk (.cons aA .nil))
noncomputable def p_laws_markText_b0 (Q6 : Int × ByteArray) : Option ((Int × ByteArray) ⊕ (ByteArray)) := cond (decide (0 < Q6.1)) (gd (I64 (Q6.1.tmod 10)) <| gd (I64 (48 + (Q6.1.tmod 10))) <| gd (room ((s2 [b8 (48 + (Q6.1.tmod 10))]).size + Q6.2.size)) <| gd (I64 (Q6.1.tdiv 10)) <| some (.inl (Q6.1.tdiv 10, (s2 [b8 (48 + (Q6.1.tmod 10))]) ++ Q6.2))) (some (.inr Q6.2))
noncomputable def p_laws_markText (v0 : Int) : Option (ByteArray) := cond (decide (v0 ≤ 0)) (some (⟨#[109, 48]⟩ : ByteArray)) (bd (lp (p_laws_markText_b0) (v0, (⟨#[]⟩ : ByteArray))) fun x2 => gd (room ((⟨#[109]⟩ : ByteArray).size + x2.size)) <| some ((⟨#[109]⟩ : ByteArray) ++ x2))
theorem c_laws_markText {r : ByteArray} (v0 : Int) (H : p_laws_markText v0 = some r) : Fn' prog 172 #[.int .i64 (v0)] [] [] (ι := Unit) (fun _ => .string (r)) (fun _ => []) (fun _ => []) := by
 refine cof (args := [_]) func172 ntmps172 fun c => ?_
 unfold p_laws_markText at H
 refine sr (aH (v := .string ((⟨#[]⟩ : ByteArray))) rfl (nl (aD (sr (aF rfl (aG (cT rfl rfl) (nl (cH H rfl (fun h1 H => ?_) (fun h1 H => ?_)))))))))
 ·refine sr (aH (v := .string ((⟨#[109, 48]⟩ : ByteArray))) rfl (nl (bQ (rT (?_)))))
  obtain rfl := si H
  exact bk
 ·refine bH (nT (sr (aH (v := .string ((⟨#[]⟩ : ByteArray))) rfl (nl (bdo H fun x2 hx3 H => (tMidC (ι := Unit) (fun ψ => [(3, .string (x2))]) (fun ψ => []) ?_ ?_))))))
  ·refine aQ (dE hx3 () (fun Q6 _ => [(0, .int .i64 (Q6.1)), (3, .string (Q6.2))]) (fun _ _ => []) bK ?_)
   rintro _ Q6 z7 t9 H1 hi10 hb11
   unfold p_laws_markText_b0 at H1
   refine aD (sr (aF rfl (aG (cU rfl rfl) (nl (cH H1 rfl (fun h14 H1 => ?_) (fun h14 H1 => ?_))))))
   ·refine bH (nT (aQ (sr (aF rfl (gdo H1 fun h15 H1 => (aG (p_rem rfl rfl (by decide) h15) (gdo H1 fun h16 H1 => (aG (bR rfl rfl h16) (aG (v := .int .u8 ((b8 (48 + (Q6.1.tmod 10))).toNat : Int)) (p_b8 underlying3 underlying5 rfl) ?_)))))))))
    refine f1 (e_lit (vs := [(0, .int .u8 ((b8 (48 + (Q6.1.tmod 10))).toNat : Int))]) [.int .u8 ((b8 (48 + (Q6.1.tmod 10))).toNat : Int)] underlying220 ty5 rfl (by decide) (by decide) (by kernel_rfl)) fun g17 => (aI (v := .string (s2 [b8 (48 + (Q6.1.tmod 10))])) (q_b2sL [b8 (48 + (Q6.1.tmod 10))] underlying220 underlying5 dZ rfl aB rfl) (aF rfl (gdo H1 fun h18 H1 => (aG (p_cat rfl rfl h18) (aH rfl (nl (aP (aF rfl (gdo H1 fun h19 H1 => (aG (p_quo rfl rfl (by decide) h19) ?_))))))))))
    exact aH rfl (aJ (nB (nLI () (hi10 _ (sm H1)) bK)))
   ·refine dA (xT (xT (xE (?_))))
    obtain rfl := hb11 _ (sm H1)
    exact nMC () ⟨rfl, trivial⟩ bT bK
  ·intro y8
   show Tr _ _ _ _ _ [(3, .string (x2))] _ []
   refine sr (aF rfl (gdo H fun h20 H => (aG (v := .string ((⟨#[109]⟩ : ByteArray) ++ x2)) (p_cat rfl rfl h20) (aH (v := .string ((⟨#[109]⟩ : ByteArray) ++ x2)) rfl (nl ?_)))))
   obtain rfl := si H
   exact bQ bk
noncomputable def p_laws_markTagS_b0 (v0 : (List Tag)) (Q5 : (List Tag) × Int × Int) : Option (((List Tag) × Int × Int) ⊕ (Int × (List Tag))) := cond (decide (Q5.2.2 < (v0.length : Int))) (gd (ix Q5.2.2 Q5.1.length) <| bd (p_laws_markText Q5.2.1) fun r16 => gd (I64 (Q5.2.1 + 1)) <| bd (p_laws_markText (Q5.2.1 + 1)) fun r19 => gd (I64 ((Q5.2.1 + 1) + 1)) <| gd (I64 (Q5.2.2 + 1)) <| some (.inl ((Q5.1.set Q5.2.2.toNat (r16, r19)), (Q5.2.1 + 1) + 1, Q5.2.2 + 1))) (some (.inr (Q5.2.1, Q5.1)))
noncomputable def p_laws_markTagS (v0 : (List Tag)) (v1 : Int) : Option (Int × (List Tag)) := bd (lp (p_laws_markTagS_b0 v0) (v0, v1, 0)) fun x1 => some (x1.1, x1.2)
theorem c_laws_markTagS {r : Int × (List Tag)} (v0 : (List Tag)) (x_v0 : Option Addr × Nat) (n_v0 : Nat) (e_v0 : n_v0 = v0.length) (v1 : Int) (H : p_laws_markTagS v0 v1 = some r) : Fn' prog 123 #[.slice x_v0.1 n_v0 x_v0.2, .int .i64 (v1)] [] [tree (.slice x_v0.1 n_v0 x_v0.2) v0] (ι := Unit) (fun _ => .int .i64 (r.1)) (fun _ => []) (fun _ => [tree (.slice x_v0.1 n_v0 x_v0.2) r.2]) := by
 subst e_v0
 refine cof (args := [_, _]) func123 ntmps123 fun c => ?_
 unfold p_laws_markTagS at H
 refine sr (aH (v := .int .i64 (0)) rfl (nl (aD (sr (aH (v := .int .i64 (0)) rfl (nl (bdo H fun x1 hx2 H => (dB (ι := Unit) (fun ψ => [(1, .int .i64 (x1.1))]) (fun ψ => [tree (.slice x_v0.1 v0.length x_v0.2) x1.2]) ?_ ?_))))))))
 ·refine aQ (dE hx2 () (fun Q5 _ => [(0, .slice x_v0.1 v0.length x_v0.2), (1, .int .i64 (Q5.2.1)), (5, .int .i64 (Q5.2.2))]) (fun Q5 _ => [tree (.slice x_v0.1 v0.length x_v0.2) Q5.1]) (.cons aA .nil) ?_)
  rintro _ Q5 z6 t8 H1 hi9 hb10
  unfold p_laws_markTagS_b0 at H1
  refine aD (sr (aF rfl (aF rfl (aG (bS 172 dM rfl) (aG (cP rfl rfl) (nl (cH H1 rfl (fun h13 H1 => ?_) (fun h13 H1 => ?_))))))))
  ·refine bH (nT (aD (aQ (aD (gdo H1 fun h14 H1 => (Tr.zoom (k := Q5.2.2.toNat) h14.lt (.cons aA .nil) fun x15 => ?_))))))
   show Tr _ _ _ _ _ _ _ (hole (.slice x_v0.1 v0.length x_v0.2) Q5.1 Q5.2.2.toNat [.string ((nth Q5.1 Q5.2.2.toNat).1), .string ((nth Q5.1 Q5.2.2.toNat).2)] :: _)
   refine aP (aF rfl (aF rfl (aF rfl (bdo H1 fun r16 h17 H1 => (aI (bN (c_laws_markText Q5.2.1 h17) rfl aO) (aI (v := elp x_v0.1 (Q5.2.2.toNat * Enc.sz Tag + 0)) (q_ixH (k := Q5.2.2.toNat) dM ty172 rfl rfl h14 rfl aB) (aI (v := elp x_v0.1 (Q5.2.2.toNat * Enc.sz Tag + 0)) (q_faH (j := 0) (i := Q5.2.2.toNat) fa172_0 rfl aB rfl) (g0 (e_stH (v := .string (r16)) (i := Q5.2.2.toNat) (j := 0) (cs' := [.string (r16), .string ((nth Q5.1 Q5.2.2.toNat).2)]) ty9 rfl rfl (.cons aA .nil) rfl (one_of rfl) (Nat.le_of_ble_eq_true rfl) rfl rfl) (nl ?_)))))))))
   refine sr (aF rfl (gdo H1 fun h18 H1 => (aG (bR rfl rfl h18) (aH rfl (nl (sr (aF rfl (aF rfl (aF rfl (bdo H1 fun r19 h20 H1 => ?_))))))))))
   refine aI (bN (c_laws_markText (Q5.2.1 + 1) h20) rfl aO) (aI (v := elp x_v0.1 (Q5.2.2.toNat * Enc.sz Tag + 0)) (q_ixH (k := Q5.2.2.toNat) dM ty172 rfl rfl h14 rfl aB) (aI (v := elp x_v0.1 (Q5.2.2.toNat * Enc.sz Tag + 1)) (q_faH (j := 0) (i := Q5.2.2.toNat) fa172_1 rfl aB rfl) (g0 (e_stH (v := .string (r19)) (i := Q5.2.2.toNat) (j := 1) (cs' := [.string (r16), .string (r19)]) ty9 rfl rfl (.cons aA .nil) rfl (one_of rfl) (Nat.le_of_ble_eq_true rfl) rfl rfl) (nl (aP (aF rfl (gdo H1 fun h21 H1 => (aG (bR rfl rfl h21) (aH rfl (aJ ?_))))))))))
   exact nB (nT (aP (aF rfl (gdo H1 fun h22 H1 => (aG (bR rfl rfl h22) (aH rfl (aJ (At.unzoom (r16, r19) ((), ()) rfl (.cons aA .nil) (nLI () (hi9 _ (sm H1)) (.cons aA .nil))))))))))
  ·refine dA (xT (xT (xE (?_))))
   obtain rfl := hb10 _ (sm H1)
   exact nMC () ⟨rfl, trivial⟩ bT (.cons aA .nil)
 ·intro y7
  show At _ _ [(1, .int .i64 (x1.1))] _ [tree (.slice x_v0.1 v0.length x_v0.2) x1.2] _
  refine nT (sr (aF rfl (aH rfl (nl ?_))))
  obtain rfl := si H
  exact bQ (bk (.cons aA .nil))
noncomputable def p_laws_markTagSS_b0 (v0 : (List (List Tag))) (Q5 : (List (List Tag)) × Int × Int) : Option (((List (List Tag)) × Int × Int) ⊕ (Int × (List (List Tag)))) := cond (decide (Q5.2.2 < (v0.length : Int))) (gd (ix Q5.2.2 Q5.1.length) <| bd (p_laws_markTagS (nth Q5.1 Q5.2.2.toNat) Q5.2.1) fun r16 => gd (I64 (Q5.2.2 + 1)) <| some (.inl ((Q5.1.set Q5.2.2.toNat r16.2), r16.1, Q5.2.2 + 1))) (some (.inr (Q5.2.1, Q5.1)))
noncomputable def p_laws_markTagSS (v0 : (List (List Tag))) (v1 : Int) : Option (Int × (List (List Tag))) := bd (lp (p_laws_markTagSS_b0 v0) (v0, v1, 0)) fun x1 => some (x1.1, x1.2)
theorem c_laws_markTagSS {r : Int × (List (List Tag))} (v0 : (List (List Tag))) (x_v0 : Option Addr × Nat) (n_v0 : Nat) (e_v0 : n_v0 = v0.length) (v1 : Int) (H : p_laws_markTagSS v0 v1 = some r) : Fn' prog 62 #[.slice x_v0.1 n_v0 x_v0.2, .int .i64 (v1)] [] [tree (.slice x_v0.1 n_v0 x_v0.2) v0] (ι := Unit) (fun _ => .int .i64 (r.1)) (fun _ => []) (fun _ => [tree (.slice x_v0.1 n_v0 x_v0.2) r.2]) := by
 subst e_v0
 refine cof (args := [_, _]) func62 ntmps62 fun c => ?_
 unfold p_laws_markTagSS at H
 refine sr (aH (v := .int .i64 (0)) rfl (nl (aD (sr (aH (v := .int .i64 (0)) rfl (nl (bdo H fun x1 hx2 H => (dB (ι := Unit) (fun ψ => [(1, .int .i64 (x1.1))]) (fun ψ => [tree (.slice x_v0.1 v0.length x_v0.2) x1.2]) ?_ ?_))))))))
 ·refine aQ (dE hx2 () (fun Q5 _ => [(0, .slice x_v0.1 v0.length x_v0.2), (1, .int .i64 (Q5.2.1)), (5, .int .i64 (Q5.2.2))]) (fun Q5 _ => [tree (.slice x_v0.1 v0.length x_v0.2) Q5.1]) (.cons aA .nil) ?_)
  rintro _ Q5 z6 t8 H1 hi9 hb10
  unfold p_laws_markTagSS_b0 at H1
  refine aD (sr (aF rfl (aF rfl (aG (bS 142 dS rfl) (aG (cP rfl rfl) (nl (cH H1 rfl (fun h13 H1 => ?_) (fun h13 H1 => ?_))))))))
  ·refine bH (nT (aD (aQ (gdo H1 fun h14 H1 => (Tr.zoom (k := Q5.2.2.toNat) h14.lt (.cons aA .nil) fun x15 => ?_)))))
   show Tr _ _ _ _ _ _ _ (hole (.slice x_v0.1 v0.length x_v0.2) Q5.1 Q5.2.2.toNat [.slice x15.1 ((nth Q5.1 Q5.2.2.toNat).length) x15.2] :: tree (.slice x15.1 ((nth Q5.1 Q5.2.2.toNat).length) x15.2) (nth Q5.1 Q5.2.2.toNat) :: _)
   refine aP (aF rfl (aF rfl (aI (v := elp x_v0.1 (Q5.2.2.toNat * Enc.sz (List Tag) + 0)) (q_ixH (k := Q5.2.2.toNat) dS ty142 rfl rfl h14 rfl aB) (aI (v := .slice x15.1 ((nth Q5.1 Q5.2.2.toNat).length) x15.2) (q_ldH (i := Q5.2.2.toNat) (j := 0) ty142 rfl aB rfl) (aF rfl (bdo H1 fun r16 h17 H1 => (f1 (cG (c_laws_markTagS (nth Q5.1 Q5.2.2.toNat) x15 ((nth Q5.1 Q5.2.2.toNat).length) rfl Q5.2.1 h17) (bF bG) (fun _ => (bF bG)) rfl (.cons dl1 .nil) aO) fun u18 => (aH rfl (aJ (nB (nT (?_))))))))))))
   refine cX aB fun hn => ?_; rw [hn]
   exact aP (aF rfl (gdo H1 fun h19 H1 => (aG (bR rfl rfl h19) (aH rfl (aJ (At.unzoom r16.2 x15 rfl (.cons dl1 (.cons aA .nil)) (nLI () (hi9 _ (sm H1)) (.cons aA .nil))))))))
  ·refine dA (xT (xT (xE (?_))))
   obtain rfl := hb10 _ (sm H1)
   exact nMC () ⟨rfl, trivial⟩ bT (.cons aA .nil)
 ·intro y7
  show At _ _ [(1, .int .i64 (x1.1))] _ [tree (.slice x_v0.1 v0.length x_v0.2) x1.2] _
  refine nT (sr (aF rfl (aH rfl (nl ?_))))
  obtain rfl := si H
  exact bQ (bk (.cons aA .nil))
noncomputable def p_laws_markDisk (v0 : Disk) (v1 : Int) : Option (Int × Disk) := bd (p_laws_markFileS v0.1 v1) fun r2 => bd (p_laws_markIntS v0.2.1 r2.1) fun r5 => bd (p_laws_markTagSS v0.2.2.1 r5.1) fun r8 => some (r8.1, (r2.2, r5.2, r8.2, v0.2.2.2))
theorem c_laws_markDisk {r : Int × Disk} (v0 : Disk) (x_v0 : (Option Addr × Nat) × (Option Addr × Nat) × (Option Addr × Nat) × Unit) (v1 : Int) (H : p_laws_markDisk v0 v1 = some r) : Fn' prog 17 #[.agg #[.slice x_v0.1.1 v0.1.length x_v0.1.2, .slice x_v0.2.1.1 v0.2.1.length x_v0.2.1.2, .slice x_v0.2.2.1.1 v0.2.2.1.length x_v0.2.2.1.2, .int .i64 (v0.2.2.2)], .int .i64 (v1)] [] [tree (.slice x_v0.1.1 v0.1.length x_v0.1.2) v0.1, tree (.slice x_v0.2.1.1 v0.2.1.length x_v0.2.1.2) v0.2.1, tree (.slice x_v0.2.2.1.1 v0.2.2.1.length x_v0.2.2.1.2) v0.2.2.1] (ι := Unit) (fun _ => .int .i64 (r.1)) (fun _ => []) (fun _ => [tree (.slice x_v0.1.1 v0.1.length x_v0.1.2) r.2.1, tree (.slice x_v0.2.1.1 v0.2.1.length x_v0.2.1.2) r.2.2.1, tree (.slice x_v0.2.2.1.1 v0.2.2.1.length x_v0.2.2.1.2) r.2.2.2.1]) := by
 refine cof (args := [_, _]) func17 ntmps17 fun c => ?_
 unfold p_laws_markDisk at H
 refine sr (f1 (cC (t := 32) rfl) fun g1 => (aH (v := .int .i64 (0)) rfl (nl (sr (aG (cB fa32_0 rfl rfl) (aI (bI ty29 rfl aB rfl) (aF rfl (bdo H fun r2 h3 H => (f1 (cG (c_laws_markFileS v0.1 x_v0.1 v0.1.length rfl v1 h3) (bF bG) (fun _ => (bF bG)) rfl (.cons dl1 .nil) aO) fun u4 => (aH rfl (nl ?_)))))))))))
 refine sr (aG (cB fa32_1 rfl rfl) (aI (bI ty23 rfl hs1 rfl) (aF rfl (bdo H fun r5 h6 H => (f1 (cG (c_laws_markIntS v0.2.1 x_v0.2.1 v0.2.1.length rfl r2.1 h6) (bF bG) (fun _ => (bF bG)) rfl (.cons dl2 .nil) aO) fun u7 => (aH rfl (nl (sr (aG (cB fa32_2 rfl rfl) (aI (bI ty30 rfl hs2 rfl) ?_))))))))))
 refine aF rfl (bdo H fun r8 h9 H => (f1 (cG (c_laws_markTagSS v0.2.2.1 x_v0.2.2.1 v0.2.2.1.length rfl r5.1 h9) (bF bG) (fun _ => (bF bG)) rfl (.cons dl3 .nil) aO) fun u10 => (aH rfl (nl (sr (aF rfl (aH rfl (nl ?_))))))))
 obtain rfl := si H
 exact bQ (bk (.cons dl2 (.cons dl1 (.cons aA .nil))))
noncomputable def p_laws_heldTagS_b0 (v0 : (List Tag)) (Q5 : Int × Int) : Option ((Int × Int) ⊕ (Int ⊕ Int)) := cond (decide (Q5.2 < (v0.length : Int))) (gd (ix Q5.2 v0.length) <| bd (p_laws_markText Q5.1) fun r15 => cond (!decide ((nth v0 Q5.2.toNat).1 = r15)) (some (.inr (.inr (-1)))) (gd (I64 (Q5.1 + 1)) <| bd (p_laws_markText (Q5.1 + 1)) fun r19 => cond (!decide ((nth v0 Q5.2.toNat).2 = r19)) (some (.inr (.inr (-1)))) (gd (I64 ((Q5.1 + 1) + 1)) <| gd (I64 (Q5.2 + 1)) <| some (.inl ((Q5.1 + 1) + 1, Q5.2 + 1))))) (some (.inr (.inl Q5.1)))
noncomputable def p_laws_heldTagS (v0 : (List Tag)) (v1 : Int) : Option (Int) := bd (lp (p_laws_heldTagS_b0 v0) (v1, 0)) <| sw (fun e24 => some e24) (fun q => some q)
theorem c_laws_heldTagS {r : Int} (v0 : (List Tag)) (x_v0 : Option Addr × Nat) (v1 : Int) (H : p_laws_heldTagS v0 v1 = some r) : Fn' prog 129 #[.slice x_v0.1 v0.length x_v0.2, .int .i64 (v1)] [imm (.slice x_v0.1 v0.length x_v0.2) v0] [] (ι := Unit) (fun _ => .int .i64 (r)) (fun _ => []) (fun _ => []) := by
 refine cof (args := [_, _]) func129 ntmps129 fun c => ?_
 unfold p_laws_heldTagS at H
 refine sr (aH (v := .int .i64 (0)) rfl (nl (aD (sr (aH (v := .int .i64 (0)) rfl (nl (bdo H fun x1 hx2 H => (dC (Λ := Unit) H (fun e24 _ => [(1, .int .i64 (e24))]) (fun _ _ => []) ?_ ?_))))))))
 ·refine aQ (dE hx2 () (fun Q5 _ => [(0, .slice x_v0.1 v0.length x_v0.2), (1, .int .i64 (Q5.1)), (5, .int .i64 (Q5.2))]) (fun _ _ => []) bK ?_)
  rintro _ Q5 z6 t8 H1 hi9 hb10
  unfold p_laws_heldTagS_b0 at H1
  refine aD (sr (aF rfl (aF rfl (aG (bS 172 dM rfl) (aG (cP rfl rfl) (nl (cH H1 rfl (fun h13 H1 => ?_) (fun h13 H1 => ?_))))))))
  ·refine bH (nT (aD (aQ (aD (aD (dF [(0, .slice x_v0.1 v0.length x_v0.2), (1, .int .i64 (Q5.1)), (5, .int .i64 (Q5.2))] mixed (.inr (by kernel_rfl)) ⟨rfl, rfl, rfl, trivial⟩ rfl (bB rfl (bB rfl (gdo H1 fun h14 H1 => (aZ (bW dM ty172 rfl rfl h14 rfl (aN (aL aR))) ?_))))))))))
   refine aZ (bY (j := 0) Q5.2.toNat fa172_0 rfl (aN (aL aR)) h14.lt rfl) (aZ (bZ (i := Q5.2.toNat) (j := 0) ty9 rfl (aN (aL aR)) h14.lt rfl) (bB rfl (bdo H1 fun r15 h16 H1 => (aZ (bN (c_laws_markText Q5.1 h16) rfl aO) (aX (p_sneq rfl rfl) (nT (cH H1 rfl (fun h17 H1 => ?_) (fun h17 H1 => ?_))))))))
   ·refine sr (aH (v := .int .i64 (-1)) rfl (nl (bQ (rT (rB (rT (rT (rB (rT (rT (?_)))))))))))
    obtain rfl := hb10 _ (sm H1)
    replace H := sw.r H
    obtain rfl := si H
    exact bk
   ·refine bH (nT (sr (aF rfl (gdo H1 fun h18 H1 => (aG (bR rfl rfl h18) (aH rfl (nl (aD (aD (dF [(1, .int .i64 (Q5.1 + 1)), (0, .slice x_v0.1 v0.length x_v0.2), (5, .int .i64 (Q5.2))] mixed (.inr (by kernel_rfl)) ⟨rfl, rfl, rfl, trivial⟩ rfl ?_))))))))))
    refine bB rfl (bB rfl (aZ (bW dM ty172 rfl rfl h14 rfl (aN (aL aR))) (aZ (bY (j := 0) Q5.2.toNat fa172_1 rfl (aN (aL aR)) h14.lt rfl) (aZ (bZ (i := Q5.2.toNat) (j := 1) ty9 rfl (aN (aL aR)) h14.lt rfl) (bB rfl (bdo H1 fun r19 h20 H1 => (aZ (bN (c_laws_markText (Q5.1 + 1) h20) rfl aO) (aX (p_sneq rfl rfl) (nT (?_))))))))))
    refine cH H1 rfl (fun h21 H1 => ?_) (fun h21 H1 => ?_)
    ·refine sr (aH (v := .int .i64 (-1)) rfl (nl (bQ (rT (rB (rT (rT (rB (rT (rT (?_)))))))))))
     obtain rfl := hb10 _ (sm H1)
     replace H := sw.r H
     obtain rfl := si H
     exact bk
    ·refine bH (nT (aP (aF rfl (gdo H1 fun h22 H1 => (aG (bR rfl rfl h22) (aH rfl (aJ (nB (nT (aP (aF rfl ?_)))))))))))
     exact gdo H1 fun h23 H1 => (aG (bR rfl rfl h23) (aH rfl (aJ (nLI () (hi9 _ (sm H1)) bK))))
  ·exact dA (xT (xT (xE (nMI () (hb10 _ (sm H1)) bK))))
 ·rintro e24 y7 H
  refine nT (sr (aF rfl (aH rfl (nl ?_))))
  obtain rfl := si H
  exact bQ bk
noncomputable def p_laws_heldTagSS_b0 (v0 : (List (List Tag))) (Q6 : Int × Int) : Option ((Int × Int) ⊕ (Int ⊕ Int)) := cond (decide (Q6.2 < (v0.length : Int))) (gd (ix Q6.2 v0.length) <| bd (p_laws_heldTagS (nth v0 Q6.2.toNat) Q6.1) fun r16 => cond (decide (r16 < 0)) (some (.inr (.inr (-1)))) (gd (I64 (Q6.2 + 1)) <| some (.inl (r16, Q6.2 + 1)))) (some (.inr (.inl Q6.1)))
noncomputable def p_laws_heldTagSS (v0 : (List (List Tag))) (v1 : Int) : Option (Int) := bd (lp (p_laws_heldTagSS_b0 v0) (v1, 0)) <| sw (fun e20 => some e20) (fun q => some q)
theorem c_laws_heldTagSS {r : Int} (v0 : (List (List Tag))) (x_v0 : Option Addr × Nat) (v1 : Int) (H : p_laws_heldTagSS v0 v1 = some r) : Fn' prog 76 #[.slice x_v0.1 v0.length x_v0.2, .int .i64 (v1)] [imm (.slice x_v0.1 v0.length x_v0.2) v0] [] (ι := Unit) (fun _ => .int .i64 (r)) (fun _ => []) (fun _ => []) := by
 refine cof (args := [_, _]) func76 ntmps76 fun c => ?_
 unfold p_laws_heldTagSS at H
 refine bM aR fun X1 => (sr (aH (v := .int .i64 (0)) rfl (nl (aD (sr (aH (v := .int .i64 (0)) rfl (nl (bdo H fun x2 hx3 H => (dC (Λ := Unit) H (fun e20 _ => [(1, .int .i64 (e20))]) (fun _ _ => []) ?_ ?_)))))))))
 ·refine aQ (dE hx3 () (fun Q6 _ => [(0, .slice x_v0.1 v0.length x_v0.2), (1, .int .i64 (Q6.1)), (5, .int .i64 (Q6.2))]) (fun _ _ => []) bK ?_)
  rintro _ Q6 z7 t9 H1 hi10 hb11
  unfold p_laws_heldTagSS_b0 at H1
  refine aD (sr (aF rfl (aF rfl (aG (bS 142 dS rfl) (aG (cP rfl rfl) (nl (cH H1 rfl (fun h14 H1 => ?_) (fun h14 H1 => ?_))))))))
  ·refine bH (nT (aD (aQ (sr (aF rfl (aF rfl (gdo H1 fun h15 H1 => (aI (bW dS ty142 rfl rfl h15 rfl (aL (aT aR))) (aI (bZ (i := Q6.2.toNat) (j := 0) ty142 rfl (aL (aT aR)) h15.lt rfl) (aF rfl ?_))))))))))
   refine bdo H1 fun r16 h17 H1 => (aI (bN (c_laws_heldTagS (nth v0 Q6.2.toNat) ((X1 Q6.2.toNat).1, (X1 Q6.2.toNat).2.1) Q6.1 h17) rfl (aC (aL (aS (aW aR h15.lt))) aO)) (aH rfl (nl (sr (aF rfl (aG (cP rfl rfl) (nl (cH H1 rfl (fun h18 H1 => ?_) (fun h18 H1 => ?_)))))))))
   ·refine sr (aH (v := .int .i64 (-1)) rfl (nl (bQ (rB (rT (rT (rB (rT (rT (?_))))))))))
    obtain rfl := hb11 _ (sm H1)
    replace H := sw.r H
    obtain rfl := si H
    exact bk
   ·exact bH (nB (nT (aP (aF rfl (gdo H1 fun h19 H1 => (aG (bR rfl rfl h19) (aH rfl (aJ (nLI () (hi10 _ (sm H1)) bK)))))))))
  ·exact dA (xT (xT (xE (nMI () (hb11 _ (sm H1)) bK))))
 ·rintro e20 y8 H
  refine nT (sr (aF rfl (aH rfl (nl ?_))))
  obtain rfl := si H
  exact bQ bk
noncomputable def p_laws_heldIntS_b0 (v0 : (List Int)) (Q5 : Int × Int) : Option ((Int × Int) ⊕ (Int ⊕ Int)) := cond (decide (Q5.2 < (v0.length : Int))) (gd (ix Q5.2 v0.length) <| cond (!decide ((nth v0 Q5.2.toNat) = Q5.1)) (some (.inr (.inr (-1)))) (gd (I64 (Q5.1 + 1)) <| gd (I64 (Q5.2 + 1)) <| some (.inl (Q5.1 + 1, Q5.2 + 1)))) (some (.inr (.inl Q5.1)))
noncomputable def p_laws_heldIntS (v0 : (List Int)) (v1 : Int) : Option (Int) := bd (lp (p_laws_heldIntS_b0 v0) (v1, 0)) <| sw (fun e18 => some e18) (fun q => some q)
theorem c_laws_heldIntS {r : Int} (v0 : (List Int)) (x_v0 : Option Addr × Nat) (v1 : Int) (H : p_laws_heldIntS v0 v1 = some r) : Fn' prog 75 #[.slice x_v0.1 v0.length x_v0.2, .int .i64 (v1)] [imm (.slice x_v0.1 v0.length x_v0.2) v0] [] (ι := Unit) (fun _ => .int .i64 (r)) (fun _ => []) (fun _ => []) := by
 refine cof (args := [_, _]) func75 ntmps75 fun c => ?_
 unfold p_laws_heldIntS at H
 refine sr (aH (v := .int .i64 (0)) rfl (nl (aD (sr (aH (v := .int .i64 (0)) rfl (nl (bdo H fun x1 hx2 H => (dC (Λ := Unit) H (fun e18 _ => [(1, .int .i64 (e18))]) (fun _ _ => []) ?_ ?_))))))))
 ·refine aQ (dE hx2 () (fun Q5 _ => [(0, .slice x_v0.1 v0.length x_v0.2), (1, .int .i64 (Q5.1)), (5, .int .i64 (Q5.2))]) (fun _ _ => []) bK ?_)
  rintro _ Q5 z6 t8 H1 hi9 hb10
  unfold p_laws_heldIntS_b0 at H1
  refine aD (sr (aF rfl (aF rfl (aG (bS 3 dP rfl) (aG (cP rfl rfl) (nl (cH H1 rfl (fun h13 H1 => ?_) (fun h13 H1 => ?_))))))))
  ·refine bH (nT (aD (aQ (aD (sr (aF rfl (aF rfl (gdo H1 fun h14 H1 => (aI (bW dP ty3 rfl rfl h14 rfl (aN (aL aR))) (aI (bZ (i := Q5.2.toNat) (j := 0) ty3 rfl (aN (aL aR)) h14.lt rfl) (aF rfl ?_)))))))))))
   refine aG (cR rfl rfl) (nl (cH H1 rfl (fun h15 H1 => ?_) (fun h15 H1 => ?_)))
   ·refine sr (aH (v := .int .i64 (-1)) rfl (nl (bQ (rT (rB (rT (rT (rB (rT (rT (?_)))))))))))
    obtain rfl := hb10 _ (sm H1)
    replace H := sw.r H
    obtain rfl := si H
    exact bk
   ·refine bH (nT (aP (aF rfl (gdo H1 fun h16 H1 => (aG (bR rfl rfl h16) (aH rfl (aJ (nB (nT (aP (aF rfl ?_)))))))))))
    exact gdo H1 fun h17 H1 => (aG (bR rfl rfl h17) (aH rfl (aJ (nLI () (hi9 _ (sm H1)) bK))))
  ·exact dA (xT (xT (xE (nMI () (hb10 _ (sm H1)) bK))))
 ·rintro e18 y7 H
  refine nT (sr (aF rfl (aH rfl (nl ?_))))
  obtain rfl := si H
  exact bQ bk
noncomputable def p_laws_heldRowS_b0 (v0 : (List Row)) (Q5 : Int × Int) : Option ((Int × Int) ⊕ (Int ⊕ Int)) := cond (decide (Q5.2 < (v0.length : Int))) (gd (ix Q5.2 v0.length) <| cond (!decide (((nth v0 Q5.2.toNat).1) = Q5.1)) (some (.inr (.inr (-1)))) (gd (I64 (Q5.1 + 1)) <| cond (!decide (((nth v0 Q5.2.toNat).2) = (Q5.1 + 1))) (some (.inr (.inr (-1)))) (gd (I64 ((Q5.1 + 1) + 1)) <| gd (I64 (Q5.2 + 1)) <| some (.inl ((Q5.1 + 1) + 1, Q5.2 + 1))))) (some (.inr (.inl Q5.1)))
noncomputable def p_laws_heldRowS (v0 : (List Row)) (v1 : Int) : Option (Int) := bd (lp (p_laws_heldRowS_b0 v0) (v1, 0)) <| sw (fun e20 => some e20) (fun q => some q)
theorem c_laws_heldRowS {r : Int} (v0 : (List Row)) (x_v0 : Option Addr × Nat) (v1 : Int) (H : p_laws_heldRowS v0 v1 = some r) : Fn' prog 144 #[.slice x_v0.1 v0.length x_v0.2, .int .i64 (v1)] [imm (.slice x_v0.1 v0.length x_v0.2) v0] [] (ι := Unit) (fun _ => .int .i64 (r)) (fun _ => []) (fun _ => []) := by
 refine cof (args := [_, _]) func144 ntmps144 fun c => ?_
 unfold p_laws_heldRowS at H
 refine sr (aH (v := .int .i64 (0)) rfl (nl (aD (sr (aH (v := .int .i64 (0)) rfl (nl (bdo H fun x1 hx2 H => (dC (Λ := Unit) H (fun e20 _ => [(1, .int .i64 (e20))]) (fun _ _ => []) ?_ ?_))))))))
 ·refine aQ (dE hx2 () (fun Q5 _ => [(0, .slice x_v0.1 v0.length x_v0.2), (1, .int .i64 (Q5.1)), (5, .int .i64 (Q5.2))]) (fun _ _ => []) bK ?_)
  rintro _ Q5 z6 t8 H1 hi9 hb10
  unfold p_laws_heldRowS_b0 at H1
  refine aD (sr (aF rfl (aF rfl (aG (bS 135 dL rfl) (aG (cP rfl rfl) (nl (cH H1 rfl (fun h13 H1 => ?_) (fun h13 H1 => ?_))))))))
  ·refine bH (nT (aD (aQ (aD (sr (aF rfl (aF rfl (gdo H1 fun h14 H1 => (aI (bW dL ty135 rfl rfl h14 rfl (aN (aL aR))) (aI (bY (j := 0) Q5.2.toNat fa135_0 rfl (aN (aL aR)) h14.lt rfl) (aI (bZ (i := Q5.2.toNat) (j := 0) ty3 rfl (aN (aL aR)) h14.lt rfl) ?_)))))))))))
   refine aF rfl (aG (cR rfl rfl) (nl (cH H1 rfl (fun h15 H1 => ?_) (fun h15 H1 => ?_))))
   ·refine sr (aH (v := .int .i64 (-1)) rfl (nl (bQ (rT (rB (rT (rT (rB (rT (rT (?_)))))))))))
    obtain rfl := hb10 _ (sm H1)
    replace H := sw.r H
    obtain rfl := si H
    exact bk
   ·refine bH (nT (sr (aF rfl (gdo H1 fun h16 H1 => (aG (bR rfl rfl h16) (aH rfl (nl (aD (sr (aF rfl (aF rfl ?_)))))))))))
    refine aI (bW dL ty135 rfl rfl h14 rfl (aN (aL aR))) (aI (bY (j := 0) Q5.2.toNat fa135_1 rfl (aN (aL aR)) h14.lt rfl) (aI (bZ (i := Q5.2.toNat) (j := 1) ty3 rfl (aN (aL aR)) h14.lt rfl) (aF rfl (aG (cR rfl rfl) (nl (cH H1 rfl (fun h17 H1 => ?_) (fun h17 H1 => ?_)))))))
    ·refine sr (aH (v := .int .i64 (-1)) rfl (nl (bQ (rT (rB (rT (rT (rB (rT (rT (?_)))))))))))
     obtain rfl := hb10 _ (sm H1)
     replace H := sw.r H
     obtain rfl := si H
     exact bk
    ·refine bH (nT (aP (aF rfl (gdo H1 fun h18 H1 => (aG (bR rfl rfl h18) (aH rfl (aJ (nB (nT (aP (aF rfl ?_)))))))))))
     exact gdo H1 fun h19 H1 => (aG (bR rfl rfl h19) (aH rfl (aJ (nLI () (hi9 _ (sm H1)) bK))))
  ·exact dA (xT (xT (xE (nMI () (hb10 _ (sm H1)) bK))))
 ·rintro e20 y7 H
  refine nT (sr (aF rfl (aH rfl (nl ?_))))
  obtain rfl := si H
  exact bQ bk
noncomputable def p_laws_heldRowSS_b0 (v0 : (List (List Row))) (Q6 : Int × Int) : Option ((Int × Int) ⊕ (Int ⊕ Int)) := cond (decide (Q6.2 < (v0.length : Int))) (gd (ix Q6.2 v0.length) <| bd (p_laws_heldRowS (nth v0 Q6.2.toNat) Q6.1) fun r16 => cond (decide (r16 < 0)) (some (.inr (.inr (-1)))) (gd (I64 (Q6.2 + 1)) <| some (.inl (r16, Q6.2 + 1)))) (some (.inr (.inl Q6.1)))
noncomputable def p_laws_heldRowSS (v0 : (List (List Row))) (v1 : Int) : Option (Int) := bd (lp (p_laws_heldRowSS_b0 v0) (v1, 0)) <| sw (fun e20 => some e20) (fun q => some q)
theorem c_laws_heldRowSS {r : Int} (v0 : (List (List Row))) (x_v0 : Option Addr × Nat) (v1 : Int) (H : p_laws_heldRowSS v0 v1 = some r) : Fn' prog 91 #[.slice x_v0.1 v0.length x_v0.2, .int .i64 (v1)] [imm (.slice x_v0.1 v0.length x_v0.2) v0] [] (ι := Unit) (fun _ => .int .i64 (r)) (fun _ => []) (fun _ => []) := by
 refine cof (args := [_, _]) func91 ntmps91 fun c => ?_
 unfold p_laws_heldRowSS at H
 refine bM aR fun X1 => (sr (aH (v := .int .i64 (0)) rfl (nl (aD (sr (aH (v := .int .i64 (0)) rfl (nl (bdo H fun x2 hx3 H => (dC (Λ := Unit) H (fun e20 _ => [(1, .int .i64 (e20))]) (fun _ _ => []) ?_ ?_)))))))))
 ·refine aQ (dE hx3 () (fun Q6 _ => [(0, .slice x_v0.1 v0.length x_v0.2), (1, .int .i64 (Q6.1)), (5, .int .i64 (Q6.2))]) (fun _ _ => []) bK ?_)
  rintro _ Q6 z7 t9 H1 hi10 hb11
  unfold p_laws_heldRowSS_b0 at H1
  refine aD (sr (aF rfl (aF rfl (aG (bS 130 dY rfl) (aG (cP rfl rfl) (nl (cH H1 rfl (fun h14 H1 => ?_) (fun h14 H1 => ?_))))))))
  ·refine bH (nT (aD (aQ (sr (aF rfl (aF rfl (gdo H1 fun h15 H1 => (aI (bW dY ty130 rfl rfl h15 rfl (aL (aT aR))) (aI (bZ (i := Q6.2.toNat) (j := 0) ty130 rfl (aL (aT aR)) h15.lt rfl) (aF rfl ?_))))))))))
   refine bdo H1 fun r16 h17 H1 => (aI (bN (c_laws_heldRowS (nth v0 Q6.2.toNat) ((X1 Q6.2.toNat).1, (X1 Q6.2.toNat).2.1) Q6.1 h17) rfl (aC (aL (aS (aW aR h15.lt))) aO)) (aH rfl (nl (sr (aF rfl (aG (cP rfl rfl) (nl (cH H1 rfl (fun h18 H1 => ?_) (fun h18 H1 => ?_)))))))))
   ·refine sr (aH (v := .int .i64 (-1)) rfl (nl (bQ (rB (rT (rT (rB (rT (rT (?_))))))))))
    obtain rfl := hb11 _ (sm H1)
    replace H := sw.r H
    obtain rfl := si H
    exact bk
   ·exact bH (nB (nT (aP (aF rfl (gdo H1 fun h19 H1 => (aG (bR rfl rfl h19) (aH rfl (aJ (nLI () (hi10 _ (sm H1)) bK)))))))))
  ·exact dA (xT (xT (xE (nMI () (hb11 _ (sm H1)) bK))))
 ·rintro e20 y8 H
  refine nT (sr (aF rfl (aH rfl (nl ?_))))
  obtain rfl := si H
  exact bQ bk
noncomputable def p_spec_l12Make_b0 (v0 : (List (List Row))) (Q12 : (List Int) × (List (List Row)) × Int) : Option (((List Int) × (List (List Row)) × Int) ⊕ ((List Int) × (List (List Row)))) := cond (decide (Q12.2.2 < (v0.length : Int))) (gd (ix Q12.2.2 v0.length) <| cond (decide (0 < ((nth v0 Q12.2.2.toNat).length : Int))) (gd (I64 (Q12.2.2 + 1)) <| gd (room (Q12.1.length + 1)) <| gd (room (([] : List Row).length + (nth v0 Q12.2.2.toNat).length)) <| gd (room (Q12.2.1.length + 1)) <| some (.inl ((Q12.1 ++ [Q12.2.2 + 1]), (Q12.2.1 ++ [([] : List Row) ++ (nth v0 Q12.2.2.toNat)]), Q12.2.2 + 1))) (gd (I64 (Q12.2.2 + 1)) <| some (.inl (Q12.1, Q12.2.1, Q12.2.2 + 1)))) (some (.inr (Q12.1, Q12.2.1)))
noncomputable def p_spec_l12Make (v0 : (List (List Row))) : Option (Part) := bd (lp (p_spec_l12Make_b0 v0) (([] : List Int), ([] : List (List Row)), 0)) fun x8 => some x8
theorem c_spec_l12Make {r : Part} (v0 : (List (List Row))) (x_v0 : Option Addr × Nat) (H : p_spec_l12Make v0 = some r) : Fn' prog 173 #[.slice x_v0.1 v0.length x_v0.2] [imm (.slice x_v0.1 v0.length x_v0.2) v0] [] (ι := (Option Addr × Nat) × (Option Addr × Nat)) (fun x => .agg #[.slice x.1.1 r.1.length x.1.2, .slice x.2.1 r.2.length x.2.2]) (fun _ => []) (fun x => [tree (.slice x.1.1 r.1.length x.1.2) r.1, tree (.slice x.2.1 r.2.length x.2.2) r.2]) := by
 refine cof (args := [_]) func173 ntmps173 fun c => ?_
 unfold p_spec_l12Make at H
 refine bM aR fun X1 => (sr (f1 (cD ty75) fun g2 => (nl (sr (f2 (e_lit0 Int dP ty3) fun a3 c4 => (f2 (e_lit0 (List Row) dY ty130) fun a5 c6 => (aG (v := .agg #[.slice a3 (([] : List Int).length) c4, .slice a5 (([] : List (List Row)).length) c6]) (p_buildS (vs := [(0, .slice a3 (([] : List Int).length) c4), (1, .slice a5 (([] : List (List Row)).length) c6)]) (cs := #[.slice a3 (([] : List Int).length) c4, .slice a5 (([] : List (List Row)).length) c6]) ty75 pl75 rfl rfl) (f1 (cD ty75) fun g7 => (stb (cs' := [.slice a3 (([] : List Int).length) c4, .slice a5 (([] : List (List Row)).length) c6]) ty75 cZ ?_)))))))))
 refine nl (aD (sr (aH (v := .int .i64 (0)) rfl (nl (bdo H fun x8 hx9 H => (dB (ι := (Option Addr × Nat) × (Option Addr × Nat)) (fun ψ => [(2, .pointer (some ⟨g2, 0, none⟩)), (3, .pointer (some ⟨g7, 0, none⟩))]) (fun ψ => [box g2 75 [.slice none 0 0, .slice none 0 0], tree (.slice ψ.1.1 x8.1.length ψ.1.2) x8.1, tree (.slice ψ.2.1 x8.2.length ψ.2.2) x8.2, box g7 75 [.slice ψ.1.1 x8.1.length ψ.1.2, .slice ψ.2.1 x8.2.length ψ.2.2]]) ?_ ?_))))))
 ·refine aQ (dE (Λ := ((Option Addr × Nat) × (Option Addr × Nat))) hx9 ((a3, c4), (a5, c6)) (fun Q12 _ => [(0, .slice x_v0.1 v0.length x_v0.2), (2, .pointer (some ⟨g2, 0, none⟩)), (3, .pointer (some ⟨g7, 0, none⟩)), (4, .int .i64 (Q12.2.2))]) (fun Q12 z13 => [box g2 75 [.slice none 0 0, .slice none 0 0], tree (.slice z13.1.1 Q12.1.length z13.1.2) Q12.1, tree (.slice z13.2.1 Q12.2.1.length z13.2.2) Q12.2.1, box g7 75 [.slice z13.1.1 Q12.1.length z13.1.2, .slice z13.2.1 Q12.2.1.length z13.2.2]]) (.cons dl3 (.cons dl2 (.cons dl1 (.cons aA .nil)))) ?_)
  rintro _ Q12 z13 t15 H1 hi16 hb17
  unfold p_spec_l12Make_b0 at H1
  refine aD (sr (aF rfl (aF rfl (aG (bS 130 dY rfl) (aG (cP rfl rfl) (nl (cH H1 rfl (fun h20 H1 => ?_) (fun h20 H1 => ?_))))))))
  ·refine bH (nT (aD (aQ (sr (aF rfl (aF rfl (gdo H1 fun h21 H1 => (aI (bW dY ty130 rfl rfl h21 rfl (aL (aT aR))) (aI (bZ (i := Q12.2.2.toNat) (j := 0) ty130 rfl (aL (aT aR)) h21.lt rfl) (aG (bS 135 dL rfl) ?_))))))))))
   refine aG (cU rfl rfl) (nl (cH H1 rfl (fun h22 H1 => ?_) (fun h22 H1 => ?_)))
   ·refine sr (aG (cB fa75_0 rfl rfl) (aI (bI ty23 rfl hs3 rfl) (aF rfl (gdo H1 fun h23 H1 => (aG (bR rfl rfl h23) (f1 (e_lit (vs := [(0, .int .i64 (Q12.2.2 + 1))]) [.int .i64 (Q12.2.2 + 1)] dP ty3 rfl (by decide) (by decide) (by kernel_rfl)) fun g24 => (gdo H1 fun h27 H1 => (f2 (e_app1 (l := Q12.1) (α := Int) (Q12.2.2 + 1) () dP ty3 rfl rfl (h27.b (by decide)) h27.x rfl (cW _) (.cons dl2 (.cons aA .nil))) fun a25 c26 => (aG (cB fa75_0 rfl rfl) ?_)))))))))
    refine stb (cs' := [.slice a25 ((Q12.1 ++ [Q12.2.2 + 1]).length) c26, .slice z13.2.1 Q12.2.1.length z13.2.2]) ty23 up3 (nl (dG [(0, .slice x_v0.1 v0.length x_v0.2), (2, .pointer (some ⟨g2, 0, none⟩)), (3, .pointer (some ⟨g7, 0, none⟩)), (4, .int .i64 (Q12.2.2))] 2 [0, 1, 3, 4, 5, 6, 2, 7, 8, 9, 10, 11] [2, 7, 8, 9, 11] [] mixed (by kernel_rfl) (by decide) dI ⟨rfl, rfl, rfl, rfl, trivial⟩ rfl okNil (w_p rfl (cB fa75_1 rfl rfl) ?_)))
    refine w_o rfl (fun F => (bI ty73 rfl (hs3.app F) rfl)) (w_p rfl (aE rfl) (w_p rfl (aE rfl) ?_))
    refine w_o rfl (fun F => (bW dY ty130 rfl rfl h21 rfl (aL (aT aR)))) ?_
    refine w_o rfl (fun F => (bZ (i := Q12.2.2.toNat) (j := 0) ty130 rfl (aL (aT aR)) h21.lt rfl)) (cJ rfl (by decide) rfl cN rfl (n_lit0 Row dL ty135) ?_)
    rintro _ _ _ ⟨a28, c29, rfl, rfl, rfl⟩
    refine ⟨(bV rfl rfl (fun F => (bZ (i := Q12.2.2.toNat) (j := 0) ty130 rfl (aL (aT aR)) h21.lt rfl)) (bV rfl rfl (fun F => (bW dY ty130 rfl rfl h21 rfl (aL (aT aR)))) (bV rfl rfl (fun F => (bI ty73 rfl (hs4.app F) rfl)) bU))), ?_⟩
    refine gdo H1 fun h32 H1 => (cJ rfl (by decide) rfl cN rfl (n_appF (l := ([] : List Row)) (k := nth v0 Q12.2.2.toNat) (α := Row) dL ty135 rfl rfl (h32.b (by decide)) h32.x (.cons aA .nil) (aL (aS (aW aR h21.lt)))) ?_)
    rintro _ _ _ ⟨a30, c31, rfl, rfl, rfl⟩
    refine ⟨(aM (by kernel_rfl) (aM (by kernel_rfl) (bV rfl rfl (fun F => (bI ty73 rfl (hs4.app F) rfl)) bU))), ?_⟩
    refine cJ rfl (by decide) rfl cN rfl (n_lit (vs := [(0, .slice a30 ((([] : List Row) ++ (nth v0 Q12.2.2.toNat)).length) c31)]) [.slice a30 ((([] : List Row) ++ (nth v0 Q12.2.2.toNat)).length) c31] dY ty130 rfl (by decide) (by decide) (by kernel_rfl)) ?_
    rintro _ _ _ ⟨g33, rfl, rfl, rfl⟩
    refine ⟨(aM (by kernel_rfl) (bV rfl rfl (fun F => (bW dY ty130 rfl rfl h21 rfl (aL (aT aR)))) (bV rfl rfl (fun F => (bI ty73 rfl (hs5.app F) rfl)) bU))), ?_⟩
    refine gdo H1 fun h36 H1 => (cJ rfl (by decide) rfl cN rfl (n_app1 (l := Q12.2.1) (α := (List Row)) (([] : List Row) ++ (nth v0 Q12.2.2.toNat)) (a30, c31) dY ty130 rfl rfl (h36.b (by decide)) h36.x rfl (cW _) (.cons dl4 (.cons aA (.cons aA .nil)))) ?_)
    rintro _ _ _ ⟨a34, c35, rfl, rfl, rfl⟩
    refine ⟨(aM (by kernel_rfl) (bV rfl rfl (fun F => (bW dY ty130 rfl rfl h21 rfl (aL (aT aR)))) (aM (by kernel_rfl) bU))), ?_⟩
    refine w_p rfl (cB fa75_1 rfl rfl) (w_en rfl rfl cN rfl (n_store (cs' := [.slice a25 ((Q12.1 ++ [Q12.2.2 + 1]).length) c26, .slice a34 ((Q12.2.1 ++ [([] : List Row) ++ (nth v0 Q12.2.2.toNat)]).length) c35]) ty73 rfl rfl up3 rfl (one_of rfl) (Nat.le_of_ble_eq_true rfl) rfl) ?_)
    rintro _ _ _ ⟨rfl, rfl, rfl⟩
    refine ⟨(aM (by kernel_rfl) (aM (by kernel_rfl) (aM (by kernel_rfl) bU))), ?_⟩
    refine cK ?_
    show At _ _ _ _ _ _
    exact nB (nT (aP (aF rfl (aG (bR rfl rfl h23) (aH rfl (aJ (nLI ((a25, c26), (a34, c35)) (hi16 _ (sm H1)) (.cons dl2 (.cons dl1 (.cons aA (.cons aA .nil)))))))))))
   ·exact bH (nB (nT (aP (aF rfl (gdo H1 fun h37 H1 => (aG (bR rfl rfl h37) (aH rfl (aJ (nLI ((z13.1.1, z13.1.2), (z13.2.1, z13.2.2)) (hi16 _ (sm H1)) (.cons aA (.cons aA (.cons aA (.cons aA .nil)))))))))))))
  ·refine dA (xT (xT (xE (?_))))
   obtain rfl := hb17 _ (sm H1)
   exact nMC ((z13.1.1, z13.1.2), (z13.2.1, z13.2.2)) ⟨rfl, rfl, trivial⟩ bT (.cons aA (.cons aA (.cons aA (.cons aA .nil))))
 ·intro y14
  show At _ _ [(2, .pointer (some ⟨g2, 0, none⟩)), (3, .pointer (some ⟨g7, 0, none⟩))] _ [box g2 75 [.slice none 0 0, .slice none 0 0], tree (.slice y14.1.1 x8.1.length y14.1.2) x8.1, tree (.slice y14.2.1 x8.2.length y14.2.2) x8.2, box g7 75 [.slice y14.1.1 x8.1.length y14.1.2, .slice y14.2.1 x8.2.length y14.2.2]] _
  refine nT (sr (aI (bJ ty75 rfl hs3 rfl) (stb (cs' := [.slice y14.1.1 x8.1.length y14.1.2, .slice y14.2.1 x8.2.length y14.2.2]) ty75 cZ (nl (bQ ?_)))))
  obtain rfl := si H
  exact back1 y14 rfl (ResV.agg ty75 rfl aB rfl) rfl cM (.cons dl1 (.cons dl1 .nil))
noncomputable def p_spec_l12Merge_b0 (v0 : Part) (v1 : Part) (Q12 : (List (List Row)) × Int) : Option (((List (List Row)) × Int) ⊕ ((List (List Row)))) := cond (decide (Q12.2 ≤ 6)) (bd (p_spec_l12Of v0 Q12.2) fun r21 => bd (p_spec_l12Of v1 Q12.2) fun r24 => bd (p_spec_l2Merge r21 r24) fun r27 => gd (room (Q12.1.length + 1)) <| gd (I64 (Q12.2 + 1)) <| some (.inl ((Q12.1 ++ [r27]), Q12.2 + 1))) (some (.inr Q12.1))
noncomputable def p_spec_l12Merge (v0 : Part) (v1 : Part) : Option (Part) := bd (lp (p_spec_l12Merge_b0 v0 v1) (([] : List (List Row)), 1)) fun x8 => bd (p_spec_l12Make x8) fun r35 => some r35
theorem c_spec_l12Merge {r : Part} (v0 : Part) (x_v0 : (Option Addr × Nat) × (Option Addr × Nat)) (v1 : Part) (x_v1 : (Option Addr × Nat) × (Option Addr × Nat)) (H : p_spec_l12Merge v0 v1 = some r) : Fn' prog 127 #[.agg #[.slice x_v0.1.1 v0.1.length x_v0.1.2, .slice x_v0.2.1 v0.2.length x_v0.2.2], .agg #[.slice x_v1.1.1 v1.1.length x_v1.1.2, .slice x_v1.2.1 v1.2.length x_v1.2.2]] [imm (.slice x_v0.1.1 v0.1.length x_v0.1.2) v0.1, imm (.slice x_v0.2.1 v0.2.length x_v0.2.2) v0.2, imm (.slice x_v1.1.1 v1.1.length x_v1.1.2) v1.1, imm (.slice x_v1.2.1 v1.2.length x_v1.2.2) v1.2] [] (ι := (Option Addr × Nat) × (Option Addr × Nat)) (fun x => .agg #[.slice x.1.1 r.1.length x.1.2, .slice x.2.1 r.2.length x.2.2]) (fun _ => []) (fun x => [tree (.slice x.1.1 r.1.length x.1.2) r.1, tree (.slice x.2.1 r.2.length x.2.2) r.2]) := by
 refine cof (args := [_, _]) func127 ntmps127 fun c => ?_
 unfold p_spec_l12Merge at H
 refine bM aR.s fun X1 => (bM aR.s.s.s.s fun X2 => (sr (f1 (cC (t := 75) rfl) fun g3 => (f1 (cC (t := 75) rfl) fun g4 => (f1 (cD ty75) fun g5 => (nl (sr (f2 (e_lit0 (List Row) dY ty130) fun a6 c7 => (aH rfl (nl ?_))))))))))
 refine aD (sr (aH (v := .int .i64 (1)) rfl (nl (bdo H fun x8 hx9 H => (dB (ι := Option Addr × Nat) (fun ψ => [(4, .pointer (some ⟨g5, 0, none⟩)), (5, .slice ψ.1 x8.length ψ.2)]) (fun ψ => [box g5 75 [.slice none 0 0, .slice none 0 0], tree (.slice ψ.1 x8.length ψ.2) x8]) ?_ ?_)))))
 ·refine aQ (dE hx9 (a6, c7) (fun Q12 z13 => [(2, .pointer (some ⟨g3, 0, none⟩)), (3, .pointer (some ⟨g4, 0, none⟩)), (4, .pointer (some ⟨g5, 0, none⟩)), (5, .slice z13.1 Q12.1.length z13.2), (6, .int .i64 (Q12.2))]) (fun Q12 z13 => [box g3 75 [.slice x_v0.1.1 v0.1.length x_v0.1.2, .slice x_v0.2.1 v0.2.length x_v0.2.2], box g4 75 [.slice x_v1.1.1 v1.1.length x_v1.1.2, .slice x_v1.2.1 v1.2.length x_v1.2.2], box g5 75 [.slice none 0 0, .slice none 0 0], tree (.slice z13.1 Q12.1.length z13.2) Q12.1]) (.cons dl3 (.cons dl2 (.cons dl1 (.cons aA .nil)))) ?_)
  rintro _ Q12 z13 t15 H1 hi16 hb17
  unfold p_spec_l12Merge_b0 at H1
  refine aD (sr (aF rfl (aG (cT rfl rfl) (nl (cH H1 rfl (fun h20 H1 => ?_) (fun h20 H1 => ?_))))))
  ·refine bH (nT (aD (aQ (tNwL [(2, .pointer (some ⟨g3, 0, none⟩)), (3, .pointer (some ⟨g4, 0, none⟩)), (4, .pointer (some ⟨g5, 0, none⟩)), (5, .slice z13.1 Q12.1.length z13.2), (6, .int .i64 (Q12.2))] 2 [0, 1, 2, 4, 5, 3, 6, 7, 8, 9] [3, 6, 7, 8, 9] [] mixed rfl (by kernel_rfl) (by kernel_rfl) (by decide) dI ⟨rfl, rfl, rfl, rfl, rfl, trivial⟩ rfl okNil (w_p rfl (aE rfl) ?_)))))
   refine w_o rfl (fun F => (bJ ty75 rfl (aB.app F) rfl)) (w_p rfl (aE rfl) ?_)
   refine w_o rfl (fun F => (bJ ty75 rfl (hs1.app F) rfl)) (w_p rfl (aE rfl) (bdo H1 fun r21 h22 H1 => (cJ rfl (by decide) rfl cN rfl (n_call (c_spec_l12Of v0 x_v0 Q12.2 h22) rfl (cL aR.s.s (cL (aS aR.s) cM)) bK) ?_)))
   rintro _ _ _ ⟨x23, rfl, rfl, rfl⟩
   refine ⟨(bV rfl rfl (fun F => (bJ ty75 rfl (hs1.app F) rfl)) (aM (by kernel_rfl) bU)), ?_⟩
   refine bdo H1 fun r24 h25 H1 => (cJ rfl (by decide) rfl cN rfl (n_call (c_spec_l12Of v1 x_v1 Q12.2 h25) rfl (cL aR.s.s.s.s.s (cL (aS aR.s) cM)) bK) ?_)
   rintro _ _ _ ⟨x26, rfl, rfl, rfl⟩
   refine ⟨(aM (by kernel_rfl) (aM (by kernel_rfl) bU)), ?_⟩
   refine bdo H1 fun r27 h28 H1 => (cJ rfl (by decide) rfl cN rfl (cE (c_spec_l2Merge r21 x23 r24 x26 h28) (fun _ => (bF bG)) rfl (aC (aL aR.s) (aC (aL aR) aO))) ?_)
   rintro _ _ _ ⟨x29, rfl, rfl, rfl⟩
   refine ⟨(aM (by kernel_rfl) (aM (by kernel_rfl) bU)), ?_⟩
   refine cJ rfl (by decide) rfl cN rfl (n_lit (vs := [(0, .slice x29.1 r27.length x29.2)]) [.slice x29.1 r27.length x29.2] dY ty130 rfl (by decide) (by decide) (by kernel_rfl)) ?_
   rintro _ _ _ ⟨g30, rfl, rfl, rfl⟩
   refine ⟨(bV rfl rfl (fun F => (bJ ty75 rfl (hs3.app F) rfl)) (bV rfl rfl (fun F => (bJ ty75 rfl (hs2.app F) rfl)) bU)), ?_⟩
   refine gdo H1 fun h33 H1 => (cJ rfl (by decide) rfl cN rfl (n_app1 (l := Q12.1) (α := (List Row)) r27 x29 dY ty130 rfl rfl (h33.b (by decide)) h33.x rfl (cW _) (.cons dl5 (.cons aA (.cons aA .nil)))) ?_)
   rintro _ _ _ ⟨a31, c32, rfl, rfl, rfl⟩
   refine ⟨(bV rfl rfl (fun F => (bJ ty75 rfl (hs2.app F) rfl)) (bV rfl rfl (fun F => (bJ ty75 rfl (hs1.app F) rfl)) bU)), ?_⟩
   refine cK ?_
   show Rg _ _ _ _ _ _ _ _ _
   exact aH rfl (aJ (nB (nT (aP (aF rfl (gdo H1 fun h34 H1 => (aG (bR rfl rfl h34) (aH rfl (aJ (nLI (hf := bT.s.s) (a31, c32) (hi16 _ (sm H1)) (.cons dl1 (.cons dl1 (.cons dl1 (.cons aA .nil))))))))))))))
  ·refine dA (xT (xT (xE (?_))))
   obtain rfl := hb17 _ (sm H1)
   exact nMC (z13.1, z13.2) ⟨rfl, rfl, trivial⟩ bT (.cons dl2 (.cons dl2 .nil))
 ·intro y14
  show At _ _ [(4, .pointer (some ⟨g5, 0, none⟩)), (5, .slice y14.1 x8.length y14.2)] _ [box g5 75 [.slice none 0 0, .slice none 0 0], tree (.slice y14.1 x8.length y14.2) x8] _
  refine nT (sr (aF rfl (bdo H fun r35 h36 H => (f1 (cF (c_spec_l12Make x8 y14 h36) (fun _ => (bF (bF bG))) rfl (aC (bL hs1) aO)) fun x37 => (stb (cs' := [.slice x37.1.1 r35.1.length x37.1.2, .slice x37.2.1 r35.2.length x37.2.2]) ty75 up2 (nl (bQ ?_)))))))
  obtain rfl := si H
  exact back1 x37 rfl (ResV.agg ty75 rfl hs2 rfl) rfl cM (.cons aA (.cons aA .nil))
noncomputable def p_spec_l21Copy_b0 (v0 : Disk) (Q11 : (List File) × Int) : Option (((List File) × Int) ⊕ ((List File))) := cond (decide (Q11.2 < (v0.1.length : Int))) (gd (ix Q11.2 v0.1.length) <| bd (p_spec_l12Merge ((nth v0.1 Q11.2.toNat).2) (([]), ([]))) fun r21 => gd (room (Q11.1.length + 1)) <| gd (I64 (Q11.2 + 1)) <| some (.inl ((Q11.1 ++ [(((nth v0.1 Q11.2.toNat).1), r21)]), Q11.2 + 1))) (some (.inr Q11.1))
noncomputable def p_spec_l21Copy (v0 : Disk) : Option (Disk) := bd (lp (p_spec_l21Copy_b0 v0) (([] : List File), 0)) fun x7 => gd (room (([] : List Int).length + v0.2.1.length)) <| bd (p_spec_l11Names v0.2.2.1) fun r34 => some (x7, (([] : List Int) ++ v0.2.1), r34, v0.2.2.2)
theorem c_spec_l21Copy {r : Disk} (v0 : Disk) (x_v0 : (Option Addr × Nat) × (Option Addr × Nat) × (Option Addr × Nat) × Unit) (H : p_spec_l21Copy v0 = some r) : Fn' prog 70 #[.agg #[.slice x_v0.1.1 v0.1.length x_v0.1.2, .slice x_v0.2.1.1 v0.2.1.length x_v0.2.1.2, .slice x_v0.2.2.1.1 v0.2.2.1.length x_v0.2.2.1.2, .int .i64 (v0.2.2.2)]] [imm (.slice x_v0.1.1 v0.1.length x_v0.1.2) v0.1, imm (.slice x_v0.2.1.1 v0.2.1.length x_v0.2.1.2) v0.2.1, imm (.slice x_v0.2.2.1.1 v0.2.2.1.length x_v0.2.2.1.2) v0.2.2.1] [] (ι := (Option Addr × Nat) × (Option Addr × Nat) × (Option Addr × Nat) × Unit) (fun x => .agg #[.slice x.1.1 r.1.length x.1.2, .slice x.2.1.1 r.2.1.length x.2.1.2, .slice x.2.2.1.1 r.2.2.1.length x.2.2.1.2, .int .i64 (r.2.2.2)]) (fun _ => []) (fun x => [tree (.slice x.1.1 r.1.length x.1.2) r.1, tree (.slice x.2.1.1 r.2.1.length x.2.1.2) r.2.1, tree (.slice x.2.2.1.1 r.2.2.1.length x.2.2.1.2) r.2.2.1]) := by
 refine cof (args := [_]) func70 ntmps70 fun c => ?_
 unfold p_spec_l21Copy at H
 refine bM aR fun X1 => (bM aR.s.s.s fun X2 => (sr (f1 (cC (t := 32) rfl) fun g3 => (f1 (cD ty32) fun g4 => (nl (sr (f2 (e_lit0 File dR ty77) fun a5 c6 => (aH rfl (nl (aD (sr ?_)))))))))))
 refine aH (v := .int .i64 (0)) rfl (nl (bdo H fun x7 hx8 H => (dB (ι := Option Addr × Nat) (fun ψ => [(1, .pointer (some ⟨g3, 0, none⟩)), (2, .pointer (some ⟨g4, 0, none⟩)), (3, .slice ψ.1 x7.length ψ.2)]) (fun ψ => [box g3 32 [.slice x_v0.1.1 v0.1.length x_v0.1.2, .slice x_v0.2.1.1 v0.2.1.length x_v0.2.1.2, .slice x_v0.2.2.1.1 v0.2.2.1.length x_v0.2.2.1.2, .int .i64 (v0.2.2.2)], box g4 32 [.slice none 0 0, .slice none 0 0, .slice none 0 0, .int .i64 (0)], tree (.slice ψ.1 x7.length ψ.2) x7]) ?_ ?_)))
 ·refine aQ (dE hx8 (a5, c6) (fun Q11 z12 => [(1, .pointer (some ⟨g3, 0, none⟩)), (2, .pointer (some ⟨g4, 0, none⟩)), (3, .slice z12.1 Q11.1.length z12.2), (4, .int .i64 (Q11.2))]) (fun Q11 z12 => [box g3 32 [.slice x_v0.1.1 v0.1.length x_v0.1.2, .slice x_v0.2.1.1 v0.2.1.length x_v0.2.1.2, .slice x_v0.2.2.1.1 v0.2.2.1.length x_v0.2.2.1.2, .int .i64 (v0.2.2.2)], box g4 32 [.slice none 0 0, .slice none 0 0, .slice none 0 0, .int .i64 (0)], tree (.slice z12.1 Q11.1.length z12.2) Q11.1]) (.cons dl2 (.cons dl1 (.cons aA .nil))) ?_)
  rintro _ Q11 z12 t14 H1 hi15 hb16
  unfold p_spec_l21Copy_b0 at H1
  refine aD (sr (aF rfl (aG (cB fa32_0 rfl rfl) (aI (bI ty29 rfl aB rfl) (aG (bS 77 dR rfl) (aG (cP rfl rfl) (nl (cH H1 rfl (fun h19 H1 => ?_) (fun h19 H1 => ?_)))))))))
  ·refine bH (nT (aD (aQ (tNwL [(1, .pointer (some ⟨g3, 0, none⟩)), (2, .pointer (some ⟨g4, 0, none⟩)), (3, .slice z12.1 Q11.1.length z12.2), (4, .int .i64 (Q11.2))] 2 [0, 1, 2, 3, 4, 5, 6, 7, 8, 9, 10, 11, 12, 13, 14, 15, 16, 17] [14, 16, 17] [] mixed rfl (by kernel_rfl) (by kernel_rfl) (by decide) dI ⟨rfl, rfl, rfl, rfl, trivial⟩ rfl okNil (w_p rfl (aE rfl) (w_p rfl (cB fa32_0 rfl rfl) ?_))))))
   refine w_o rfl (fun F => (bI ty29 rfl (aB.app F) rfl)) (w_p rfl (aE rfl) (gdo H1 fun h20 H1 => ?_))
   refine w_o rfl (fun F => (bW dR ty77 rfl rfl h20 rfl (aL (aT aR.s)))) ?_
   refine w_o rfl (fun F => (bY (j := 0) Q11.2.toNat fa77_0 rfl (aL (aT aR.s)) h20.lt rfl)) ?_
   refine w_o rfl (fun F => (bZ (i := Q11.2.toNat) (j := 0) ty3 rfl (aL (aT aR.s)) h20.lt rfl)) (w_p rfl (cB fa32_0 rfl rfl) ?_)
   refine w_o rfl (fun F => (bI ty29 rfl (aB.app F) rfl)) (w_p rfl (aE rfl) ?_)
   refine w_o rfl (fun F => (bW dR ty77 rfl rfl h20 rfl (aL (aT aR.s)))) ?_
   refine w_o rfl (fun F => (bY (j := 0) Q11.2.toNat fa77_1 rfl (aL (aT aR.s)) h20.lt rfl)) ?_
   refine w_o (v := .agg #[.slice ((((X1 Q11.2.toNat).2).1).1) ((((nth v0.1 Q11.2.toNat).2).1).length) ((((X1 Q11.2.toNat).2).1).2.1), .slice ((((X1 Q11.2.toNat).2).2).1) ((((nth v0.1 Q11.2.toNat).2).2).length) ((((X1 Q11.2.toNat).2).2).2.1)]) rfl (fun F => (q_ldeP [.slice ((((X1 Q11.2.toNat).2).1).1) ((((nth v0.1 Q11.2.toNat).2).1).length) ((((X1 Q11.2.toNat).2).1).2.1), .slice ((((X1 Q11.2.toNat).2).2).1) ((((nth v0.1 Q11.2.toNat).2).2).length) ((((X1 Q11.2.toNat).2).2).2.1)] (l := v0.1) (E := fun i => Dp.denc (nth v0.1 i) (X1 i)) (oa := x_v0.1.1) (i := Q11.2.toNat) (j := 1) ty75 rfl (aL (aT aR.s)) h20.lt rfl rfl)) (w_p (v := .agg #[.slice none 0 0, .slice none 0 0]) rfl (p_buildS (vs := []) (cs := #[.slice none 0 0, .slice none 0 0]) ty75 pl75 rfl rfl) (bdo H1 fun r21 h22 H1 => (cJ rfl (by decide) rfl cN rfl (cE (c_spec_l12Merge ((nth v0.1 Q11.2.toNat).2) (((((X1 Q11.2.toNat).2).1).1, (((X1 Q11.2.toNat).2).1).2.1), ((((X1 Q11.2.toNat).2).2).1, (((X1 Q11.2.toNat).2).2).2.1)) (([]), ([])) ((none, 0), (none, 0)) h22) (fun _ => (bF (bF bG))) rfl (aC (aL (aS (aV (aU (aW aR.s h20.lt))))) (aC (aL (aS (aU (aU (aW aR.s h20.lt))))) (aC (aL Ent.nil0) (aC (aL Ent.nil0) aO))))) ?_)))
   rintro _ _ _ ⟨x23, rfl, rfl, rfl⟩
   refine ⟨(aM (by kernel_rfl) (aM (by kernel_rfl) (bV rfl rfl (fun F => (bW dR ty77 rfl rfl h20 rfl (aL (aT aR.s)))) (bV rfl rfl (fun F => (bI ty29 rfl (hs2.app F) rfl)) (bV rfl rfl (fun F => (bZ (i := Q11.2.toNat) (j := 0) ty3 rfl (aL (aT aR.s)) h20.lt rfl)) (bV rfl rfl (fun F => (bY (j := 0) Q11.2.toNat fa77_0 rfl (aL (aT aR.s)) h20.lt rfl)) (bV rfl rfl (fun F => (bW dR ty77 rfl rfl h20 rfl (aL (aT aR.s)))) (bV rfl rfl (fun F => (bI ty29 rfl (hs2.app F) rfl)) bU)))))))), ?_⟩
   refine w_p (v := .agg #[.int .i64 ((nth v0.1 Q11.2.toNat).1), .slice x23.1.1 r21.1.length x23.1.2, .slice x23.2.1 r21.2.length x23.2.2]) rfl (p_buildS (vs := [(0, .int .i64 ((nth v0.1 Q11.2.toNat).1)), (1, .agg #[.slice x23.1.1 r21.1.length x23.1.2, .slice x23.2.1 r21.2.length x23.2.2])]) (cs := #[.int .i64 ((nth v0.1 Q11.2.toNat).1), .slice x23.1.1 r21.1.length x23.1.2, .slice x23.2.1 r21.2.length x23.2.2]) ty77 pl77 rfl rfl) (cJ rfl (by decide) rfl cN rfl (n_lit (vs := [(0, .agg #[.int .i64 ((nth v0.1 Q11.2.toNat).1), .slice x23.1.1 r21.1.length x23.1.2, .slice x23.2.1 r21.2.length x23.2.2])]) [.int .i64 ((nth v0.1 Q11.2.toNat).1), .slice x23.1.1 r21.1.length x23.1.2, .slice x23.2.1 r21.2.length x23.2.2] dR ty77 rfl (by decide) (by decide) (by kernel_rfl)) ?_)
   rintro _ _ _ ⟨g24, rfl, rfl, rfl⟩
   refine ⟨(bV rfl rfl (fun F => (q_ldeP [.slice ((((X1 Q11.2.toNat).2).1).1) ((((nth v0.1 Q11.2.toNat).2).1).length) ((((X1 Q11.2.toNat).2).1).2.1), .slice ((((X1 Q11.2.toNat).2).2).1) ((((nth v0.1 Q11.2.toNat).2).2).length) ((((X1 Q11.2.toNat).2).2).2.1)] (l := v0.1) (E := fun i => Dp.denc (nth v0.1 i) (X1 i)) (oa := x_v0.1.1) (i := Q11.2.toNat) (j := 1) ty75 rfl (aL (aT aR.s)) h20.lt rfl rfl)) (bV rfl rfl (fun F => (bY (j := 0) Q11.2.toNat fa77_1 rfl (aL (aT aR.s)) h20.lt rfl)) (bV rfl rfl (fun F => (bW dR ty77 rfl rfl h20 rfl (aL (aT aR.s)))) (bV rfl rfl (fun F => (bI ty29 rfl (hs3.app F) rfl)) (aM (by kernel_rfl) (bV rfl rfl (fun F => (bY (j := 0) Q11.2.toNat fa77_0 rfl (aL (aT aR.s)) h20.lt rfl)) (bV rfl rfl (fun F => (bW dR ty77 rfl rfl h20 rfl (aL (aT aR.s)))) (bV rfl rfl (fun F => (bI ty29 rfl (hs3.app F) rfl)) bU)))))))), ?_⟩
   refine gdo H1 fun h27 H1 => (cJ rfl (by decide) rfl cN rfl (n_app1 (l := Q11.1) (α := File) (((nth v0.1 Q11.2.toNat).1), r21) ((), x23) dR ty77 rfl rfl (h27.b (by decide)) h27.x rfl (cW _) (.cons dl5 (.cons aA (.cons aA (.cons aA .nil))))) ?_)
   rintro _ _ _ ⟨a25, c26, rfl, rfl, rfl⟩
   refine ⟨(aM (by kernel_rfl) (bV rfl rfl (fun F => (bY (j := 0) Q11.2.toNat fa77_1 rfl (aL (aT aR.s)) h20.lt rfl)) (bV rfl rfl (fun F => (bW dR ty77 rfl rfl h20 rfl (aL (aT aR.s)))) (bV rfl rfl (fun F => (bI ty29 rfl (hs1.app F) rfl)) (bV rfl rfl (fun F => (bZ (i := Q11.2.toNat) (j := 0) ty3 rfl (aL (aT aR.s)) h20.lt rfl)) (bV rfl rfl (fun F => (bY (j := 0) Q11.2.toNat fa77_0 rfl (aL (aT aR.s)) h20.lt rfl)) (bV rfl rfl (fun F => (bW dR ty77 rfl rfl h20 rfl (aL (aT aR.s)))) (bV rfl rfl (fun F => (bI ty29 rfl (hs1.app F) rfl)) bU)))))))), ?_⟩
   refine cK ?_
   show Rg _ _ _ _ _ _ _ _ _
   exact aH rfl (aJ (nB (nT (aP (aF rfl (gdo H1 fun h28 H1 => (aG (bR rfl rfl h28) (aH rfl (aJ (nLI (a25, c26) (hi15 _ (sm H1)) (.cons dl1 (.cons dl1 (.cons aA .nil)))))))))))))
  ·refine dA (xT (xT (xE (?_))))
   obtain rfl := hb16 _ (sm H1)
   exact nMC (z12.1, z12.2) ⟨rfl, rfl, rfl, trivial⟩ bT (.cons aA (.cons aA (.cons aA .nil)))
 ·intro y13
  show At _ _ [(1, .pointer (some ⟨g3, 0, none⟩)), (2, .pointer (some ⟨g4, 0, none⟩)), (3, .slice y13.1 x7.length y13.2)] _ [box g3 32 [.slice x_v0.1.1 v0.1.length x_v0.1.2, .slice x_v0.2.1.1 v0.2.1.length x_v0.2.1.2, .slice x_v0.2.2.1.1 v0.2.2.1.length x_v0.2.2.1.2, .int .i64 (v0.2.2.2)], box g4 32 [.slice none 0 0, .slice none 0 0, .slice none 0 0, .int .i64 (0)], tree (.slice y13.1 x7.length y13.2) x7] _
  refine nT (aD (dG [(1, .pointer (some ⟨g3, 0, none⟩)), (2, .pointer (some ⟨g4, 0, none⟩)), (3, .slice y13.1 x7.length y13.2)] 2 [0, 2, 3, 5, 6, 8, 9, 1, 4, 7, 10, 11] [1, 4, 7, 11] [] mixed (by kernel_rfl) (by decide) dI ⟨rfl, rfl, rfl, trivial⟩ rfl okNil (w_p rfl (aE rfl) (w_p rfl (cB fa32_1 rfl rfl) ?_))))
  refine w_o rfl (fun F => (bI ty23 rfl (aB.app F) rfl)) (w_p rfl (cB fa32_2 rfl rfl) ?_)
  refine w_o rfl (fun F => (bI ty30 rfl (aB.app F) rfl)) (w_p rfl (cB fa32_3 rfl rfl) ?_)
  refine w_o rfl (fun F => (bI ty3 rfl (aB.app F) rfl)) (cJ rfl (by decide) rfl cN rfl (n_lit0 Int dP ty3) ?_)
  rintro _ _ _ ⟨a29, c30, rfl, rfl, rfl⟩
  refine ⟨(bV rfl rfl (fun F => (bI ty3 rfl (hs1.app F) rfl)) (bV rfl rfl (fun F => (bI ty30 rfl (hs1.app F) rfl)) (bV rfl rfl (fun F => (bI ty23 rfl (hs1.app F) rfl)) bU))), ?_⟩
  refine gdo H fun h33 H => (cJ rfl (by decide) rfl cN rfl (n_appF (l := ([] : List Int)) (k := v0.2.1) (α := Int) dP ty3 rfl rfl (h33.b (by decide)) h33.x (.cons aA .nil) (aL aR.s.s.s)) ?_)
  rintro _ _ _ ⟨a31, c32, rfl, rfl, rfl⟩
  refine ⟨(bV rfl rfl (fun F => (bI ty3 rfl (hs1.app F) rfl)) (bV rfl rfl (fun F => (bI ty30 rfl (hs1.app F) rfl)) (aM (by kernel_rfl) bU))), ?_⟩
  refine bdo H fun r34 h35 H => (cJ rfl (by decide) rfl cN rfl (cE (c_spec_l11Names v0.2.2.1 x_v0.2.2.1 h35) (fun _ => (bF bG)) rfl (aC (aL (aS aR)) aO)) ?_)
  rintro _ _ _ ⟨x36, rfl, rfl, rfl⟩
  refine ⟨(bV rfl rfl (fun F => (bI ty3 rfl (hs2.app F) rfl)) (aM (by kernel_rfl) (aM (by kernel_rfl) bU))), ?_⟩
  refine w_p (v := .agg #[.slice y13.1 x7.length y13.2, .slice a31 ((([] : List Int) ++ v0.2.1).length) c32, .slice x36.1 r34.length x36.2, .int .i64 (v0.2.2.2)]) rfl (p_buildS (vs := [(0, .slice y13.1 x7.length y13.2), (1, .slice a31 ((([] : List Int) ++ v0.2.1).length) c32), (2, .slice x36.1 r34.length x36.2), (3, .int .i64 (v0.2.2.2))]) (cs := #[.slice y13.1 x7.length y13.2, .slice a31 ((([] : List Int) ++ v0.2.1).length) c32, .slice x36.1 r34.length x36.2, .int .i64 (v0.2.2.2)]) ty32 pl32 rfl rfl) (w_en rfl rfl cN rfl (n_store (cs' := [.slice y13.1 x7.length y13.2, .slice a31 ((([] : List Int) ++ v0.2.1).length) c32, .slice x36.1 r34.length x36.2, .int .i64 (v0.2.2.2)]) ty32 rfl rfl up3 rfl (one_of rfl) (Nat.le_of_ble_eq_true rfl) rfl) ?_)
  rintro _ _ _ ⟨rfl, rfl, rfl⟩
  refine ⟨(aM (by kernel_rfl) (aM (by kernel_rfl) (aM (by kernel_rfl) bU))), ?_⟩
  refine cK (nT (bQ ?_))
  obtain rfl := si H
  exact back1 (y13, (a31, c32), x36, ()) rfl (ResV.agg ty32 rfl hs3 rfl) rfl cM (.cons dl4 (.cons dl1 (.cons aA .nil)))
noncomputable def p_spec_l21Counts_b0 (v0 : Disk) (v1 : Int) (Q8 : Int) : Option ((Int) ⊕ (Unit ⊕ Bool)) := cond (decide (Q8 < (v0.2.1.length : Int))) (gd (ix Q8 v0.2.1.length) <| cond (decide ((nth v0.2.1 Q8.toNat) = v1)) (some (.inr (.inr true))) (gd (I64 (Q8 + 1)) <| some (.inl (Q8 + 1)))) (some (.inr (.inl ())))
noncomputable def p_spec_l21Counts (v0 : Disk) (v1 : Int) : Option (Bool) := bd (lp (p_spec_l21Counts_b0 v0 v1) 0) <| sw (fun _ => some false) (fun q => some q)
end Go.Proofs.YtonnpkdadcafcaaGreat
