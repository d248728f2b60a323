/- The walks and the plain laws, part 2: each function that the law reaches computes what its plain function tells, and what the plain functions answer. Conditions: lengths that memory can hold. -/
import Derived.Test.YtlkcnfjdhkoelaaGreatA1
namespace Go.Proofs.YtlkcnfjdhkoelaaGreat
open Go Go.Sx Tryz
theorem c_cmp_Or_int {r : Int} (v0 : (List Int)) (x_v0 : Option Addr × Nat) (H : p_cmp_Or_int v0 = some r) : Fn' prog 180 #[.slice x_v0.1 v0.length x_v0.2] [imm (.slice x_v0.1 v0.length x_v0.2) v0] [] (ι := Unit) (fun _ => .int .i64 (r)) (fun _ => []) (fun _ => []) := by
 refine cof (args := [_]) func180 ntmps180 fun c => ?_
 unfold p_cmp_Or_int at H
 refine sr (aH (v := .int .i64 (0)) rfl (nl (sr (aH (v := .int .i64 (0)) rfl (nl (aD (sr (aF rfl (aG (bS 3 dT rfl) (aF (v := .int .i64 (0)) rfl (nl (bdo H fun x1 hx2 H => (cY (Λ := Unit) H (fun _ _ => [(3, .int .i64 (0))]) (fun _ _ => []) ?_ ?_)))))))))))))
 ·refine aQ (dA hx2 () (fun Q5 _ => [(3, .int .i64 (0)), (6, .slice x_v0.1 v0.length x_v0.2), (7, .int .i64 ((v0.length : Int))), (8, .int .i64 (Q5))]) (fun _ _ => []) bK ?_)
  rintro _ Q5 z6 t8 H1 hi9 hb10
  unfold p_cmp_Or_int_b0 at H1
  refine sr (aG (cM rfl rfl) (nl (aD (cH H1 rfl (fun h13 H1 => ?_) (fun h13 H1 => ?_)))))
  ·refine bH (nT (aD (aQ (sr (gdo H1 fun h14 H1 => (aI (bW dT ty3 rfl rfl h14 rfl (aN (aL aR))) (aI (bZ (i := Q5.toNat) (j := 0) ty3 rfl (aN (aL aR)) h14.lt rfl) (aH rfl (nl (sr (aF rfl ?_)))))))))))
   refine aF (v := .int .i64 (0)) rfl (aG (cO rfl rfl) (nl (cH H1 rfl (fun h15 H1 => ?_) (fun h15 H1 => ?_))))
   ·refine sr (aF rfl (aH rfl (nl (bQ (rB (rT (rT (rB (rT (rT (?_)))))))))))
    obtain rfl := hb10 _ (sm H1)
    replace H := sw.r H
    obtain rfl := si H
    exact bk
   ·exact bH (nB (nT (aP (gdo H1 fun h16 H1 => (aG (bR rfl rfl h16) (aF rfl (aJ (nLI () (hi9 _ (sm H1)) bK))))))))
  ·exact cW (xT (xT (xE (nMI () (hb10 _ (sm H1)) bK))))
 ·rintro e17 y7 H
  refine nT (sr (aF (v := .int .i64 (0)) rfl (aH (v := .int .i64 (0)) rfl (nl ?_))))
  obtain rfl := si H
  exact bQ bk
noncomputable def p_impl_indexOf_2 (v0 : PostH) (v1 : PostH) : Option (Int) := bd (p_cmp_Compare_string v0.1.1 v1.1.1) fun r3 => bd (p_cmp_Compare_string v0.1.2 v1.1.2) fun r5 => bd (p_cmp_Or_int ([r3, r5] : List Int)) fun r9 => some r9
theorem c_impl_indexOf_2 {r : Int} (v0 : PostH) (v1 : PostH) (H : p_impl_indexOf_2 v0 v1 = some r) : Fn' prog 179 #[.agg #[.string (v0.1.1), .string (v0.1.2), v0.2.1], .agg #[.string (v1.1.1), .string (v1.1.2), v1.2.1]] [] [] (ι := Unit) (fun _ => .int .i64 (r)) (fun _ => []) (fun _ => []) := by
 refine cof (args := [_, _]) func179 ntmps179 fun c => ?_
 unfold p_impl_indexOf_2 at H
 refine sr (f1 (cC (t := 177) rfl) fun g1 => (f1 (cC (t := 177) rfl) fun g2 => (aH (v := .int .i64 (0)) rfl (nl (aD (tNwS [(3, .pointer (some ⟨g2, 0, none⟩)), (2, .pointer (some ⟨g1, 0, none⟩))] 1 [0, 1, 2, 3, 4, 5, 6, 7, 8, 9, 10, 11, 12, 13, 14, 15, 16] [14] [] mixed (by kernel_rfl) (by decide) dD ⟨rfl, rfl, trivial⟩ rfl okNil (w_p rfl (cB fa177_0 rfl rfl) (w_p rfl (cB fa97_0 rfl rfl) ?_))))))))
 refine w_o rfl (fun F => (bI ty9 rfl (hs1.app F) rfl)) (w_p rfl (cB fa177_0 rfl rfl) (w_p rfl (cB fa97_0 rfl rfl) ?_))
 refine w_o rfl (fun F => (bI ty9 rfl (aB.app F) rfl)) (bdo H fun r3 h4 H => ?_)
 refine w_o rfl (fun F => (bN (c_cmp_Compare_string v0.1.1 v1.1.1 h4) rfl aO)) (w_p rfl (cB fa177_0 rfl rfl) (w_p rfl (cB fa97_1 rfl rfl) ?_))
 refine w_o rfl (fun F => (bI ty9 rfl (hs1.app F) rfl)) (w_p rfl (cB fa177_0 rfl rfl) (w_p rfl (cB fa97_1 rfl rfl) ?_))
 refine w_o rfl (fun F => (bI ty9 rfl (aB.app F) rfl)) (bdo H fun r5 h6 H => ?_)
 refine w_o rfl (fun F => (bN (c_cmp_Compare_string v0.1.2 v1.1.2 h6) rfl aO)) (w_ed rfl (by decide) rfl cL rfl (n_litT (α := Int) (vs := [(0, .int .i64 (r3)), (1, .int .i64 (r5))]) [r3, r5] rfl (fun _ => rfl) (fun _ _ => by repeat constructor) dT ty3 rfl (by decide) (by decide) (by kernel_rfl)) ?_)
 rintro _ _ _ ⟨a7, c8, rfl, rfl, rfl⟩
 refine ⟨(aM (by kernel_rfl) (bV rfl rfl (fun F => (bI ty9 rfl (hs1.app F) rfl)) (bV rfl rfl (fun F => (bI ty9 rfl (hs2.app F) rfl)) (aM (by kernel_rfl) (bV rfl rfl (fun F => (bI ty9 rfl (hs1.app F) rfl)) (bV rfl rfl (fun F => (bI ty9 rfl (hs2.app F) rfl)) bU)))))), ?_⟩
 refine bdo H fun r9 h10 H => ?_
 refine w_o rfl (fun F => (bN (c_cmp_Or_int ([r3, r5] : List Int) (a7, c8) h10) rfl (aC (bL (aB.app F)) aO))) (w_p rfl (p_assign rfl) (cI (nT (?_))))
 obtain rfl := si H
 exact bQ bk
noncomputable def cmS (x y : ByteArray) : Int := if sless x y then -1 else if sless y x then 1 else 0
theorem e_cmpS (x y : ByteArray) : p_cmp_Compare_string x y = some (cmS x y) := by
 unfold p_cmp_Compare_string p_cmp_isNaN_string cmS
 simp only [bd_some, decide_true, Bool.not_true, cond_false]
 cases h : sless x y with
 | true => simp
 | false =>
  cases h' : sless y x with
  | true =>
   have : x ≠ y := fun e => by subst e; rw [h] at h'; cases h'
   simp [this]
  | false =>
   have := sless_anti h h'
   simp [this]
noncomputable def cmH (x y : PostH) : Int := if cmS x.1.1 y.1.1 = 0 then cmS x.1.2 y.1.2 else cmS x.1.1 y.1.1
theorem e_cmpH (x y : PostH) : p_impl_indexOf_2 x y = some (cmH x y) := by
 unfold p_impl_indexOf_2 cmH
 simp only [e_cmpS, bd_some]
 have key : ∀ a b : Int, p_cmp_Or_int [a, b] = some (if a = 0 then b else a) := fun a b => by
  unfold p_cmp_Or_int
  by_cases ha : a = 0
  ·subst ha
   rw [lp.step (s' := 1) (by unfold p_cmp_Or_int_b0; simp [gd, ix, I64, nth])]
   by_cases hb : b = 0
   ·subst hb
    rw [lp.step (s' := 2) (by unfold p_cmp_Or_int_b0; simp [gd, ix, I64, nth])]
    rw [lp.stop (e := .inl ()) (by unfold p_cmp_Or_int_b0; simp)]
    rfl
   ·rw [lp.stop (e := .inr b) (by unfold p_cmp_Or_int_b0; simp [gd, ix, I64, nth, hb])]
    rfl
  ·rw [lp.stop (e := .inr a) (by unfold p_cmp_Or_int_b0; simp [gd, ix, I64, nth, ha])]
   simp [bd, sw, ha]
 rw [key]; rfl
theorem cmS_lt (x y : ByteArray) : decide (cmS x y < 0) = sless x y := by
 unfold cmS
 cases h : sless x y with
 | true => simp
 | false => cases h' : sless y x <;> simp
theorem cmS_0 {x y : ByteArray} : cmS x y = 0 ↔ x = y := by
 unfold cmS
 constructor
 ·intro h
  cases h1 : sless x y with
  | true => rw [h1] at h; simp at h
  | false =>
   cases h2 : sless y x with
   | true => rw [h1, h2] at h; simp at h
   | false => exact sless_anti h1 h2
 ·intro h; subst h; simp [sless_irr]
theorem cmH_lt (x y : PostH) : decide (cmH x y < 0) = ltP x y := by
 unfold cmH ltP ltTag
 by_cases h : x.1.1 = y.1.1
 ·rw [if_pos (cmS_0.2 h), cmS_lt, h, sless_irr]; simp
 ·rw [if_neg (fun e => h (cmS_0.1 e)), cmS_lt]; simp [h]
def srF : Nat → Nat
 | 6 => 178 | 14 => 204 | 15 => 205 | 20 => 216 | 21 => 217 | 22 => 218 | 23 => 219 | 24 => 220 | 25 => 221 | 26 => 222 | 27 => 223 | 28 => 224 | 29 => 225 | 46 => 231 | 47 => 232 | 48 => 233 | 49 => 234 | 50 => 235 | 57 => 238 | n => n
def srT : Nat → Nat
 | 0 => 0 | 3 => 3 | 4 => 4 | 5 => 5 | 9 => 9 | 22 => 36 | 24 => 177 | 25 => 231 | 39 => 248 | 45 => 263 | 46 => 264 | 50 => 268 | 53 => 271 | 55 => 273 | 66 => 280 | 70 => 284 | 76 => 289 | 77 => 290 | n => n
def srRen : Go.Shelf.Ren := ⟨srF, srT, fun n => n⟩
theorem srBears {f : Nat} {B fn : Func} (h : prog.funcs[f]? = some fn) (hn : (fn.name == "runtime.NumGoroutine") = false) (e : fn = { B with name := fn.name }) : Bears prog f B := ⟨fn.name, hn, h.trans (congrArg some e)⟩
theorem srLays : SlLaysF0.n6 prog srRen := by
 constructor
 ·exact mixed
 ·exact srBears func178 (by kernel_rfl) (by kernel_rfl)
 ·exact srBears func204 (by kernel_rfl) (by kernel_rfl)
 ·exact func205.trans (congrArg some (by kernel_rfl))
 ·exact srBears func216 (by kernel_rfl) (by kernel_rfl)
 ·exact srBears func217 (by kernel_rfl) (by kernel_rfl)
 ·exact srBears func218 (by kernel_rfl) (by kernel_rfl)
 ·exact srBears func219 (by kernel_rfl) (by kernel_rfl)
 ·exact srBears func220 (by kernel_rfl) (by kernel_rfl)
 ·exact srBears func221 (by kernel_rfl) (by kernel_rfl)
 ·exact srBears func222 (by kernel_rfl) (by kernel_rfl)
 ·exact srBears func223 (by kernel_rfl) (by kernel_rfl)
 ·exact func224.trans (congrArg some (by kernel_rfl))
 ·exact func225.trans (congrArg some (by kernel_rfl))
 ·exact srBears func231 (by kernel_rfl) (by kernel_rfl)
 ·exact func232.trans (congrArg some (by kernel_rfl))
 ·exact func233.trans (congrArg some (by kernel_rfl))
 ·exact srBears func234 (by kernel_rfl) (by kernel_rfl)
 ·exact srBears func235 (by kernel_rfl) (by kernel_rfl)
 ·exact srBears func238 (by kernel_rfl) (by kernel_rfl)
 all_goals first | kernel_rfl | (intro _; kernel_rfl)
theorem ltH : ltOf cmH = (ltP : PostH → PostH → Bool) := by
 funext x y
 exact cmH_lt x y
theorem oneH (x : PostH) : ∀ v ∈ Flat.enc x, v.oneCell' = true := fun v hv => by
 have hv : v ∈ [Value.string x.1.1, .string x.1.2, x.2.1] := hv
 simp only [List.mem_cons, List.not_mem_nil, or_false] at hv
 rcases hv with rfl | rfl | rfl
 ·rfl
 ·rfl
 ·exact x.2.2
noncomputable def p_slices_SortFunc_Post_Post_indexOf_2 (v0 : List Post) : Option (List Post) := sortP v0
theorem c_slices_SortFunc_Post_Post_indexOf_2 {r : List Post} (v0 : List Post) (x_v0 : Option Addr × Nat) (n_v0 : Nat) (e_v0 : n_v0 = v0.length) (H : p_slices_SortFunc_Post_Post_indexOf_2 v0 = some r) : Fn' prog 178 #[.slice x_v0.1 n_v0 x_v0.2, .func (.func 179) #[] #[]] [] [tree (.slice x_v0.1 n_v0 x_v0.2) v0] (ι := Unit) (fun _ => .tuple #[]) (fun _ => []) (fun _ => [tree (.slice x_v0.1 n_v0 x_v0.2) r]) := by
 subst e_v0
 have H : sortP v0 = some r := H
 refine Fn'.sortN H ⟨⟨_, func178, by kernel_rfl, by kernel_rfl⟩⟩ fun l' hl => ?_
 have hm : v0.length ≤ 1073741824 := (gd.of H).1
 obtain ⟨r', h1, h2, h3⟩ := Fn'.sortK srLays (fun _ => rfl) (fun _ => by kernel_rfl) (fun _ => by kernel_rfl) oneH cmH (ltH ▸ ltP_swo) (fun x y => c_impl_indexOf_2 x y (e_cmpH x y)) l' (by omega) x_v0 ⟨⟨_, func178, by kernel_rfl, by kernel_rfl⟩⟩
 refine ⟨r', h1, h2.imp fun h => by rw [← ltH]; exact h, ?_⟩
 rw [hl] at h3; exact h3
noncomputable def p_impl_indexOf_b1 (v0 : (List (List Tag))) (Q13 : (List Post) × Int) (Q27 : (List Post) × Int) : Option (((List Post) × Int) ⊕ ((List Post))) := cond (decide (Q27.2 < ((nth v0 Q13.2.toNat).length : Int))) (gd (ix Q27.2 (nth v0 Q13.2.toNat).length) <| bd (p_slices_IndexFunc_Post_Post_indexOf_1 Q27.1 (nth (nth v0 Q13.2.toNat) Q27.2.toNat)) fun r38 => cond (decide (r38 < 0)) (gd (room (Q27.1.length + 1)) <| gd (ix (Q27.1.length : Int) (Q27.1 ++ [((nth (nth v0 Q13.2.toNat) Q27.2.toNat), ([]))]).length) <| gd (I64 (Q13.2 + 1)) <| gd (room (((nth (Q27.1 ++ [((nth (nth v0 Q13.2.toNat) Q27.2.toNat), ([]))]) ((Q27.1.length : Int).toNat)).2).length + 1)) <| gd (I64 (Q27.2 + 1)) <| some (.inl (((Q27.1 ++ [((nth (nth v0 Q13.2.toNat) Q27.2.toNat), ([]))]).set ((Q27.1.length : Int).toNat) (((nth (Q27.1 ++ [((nth (nth v0 Q13.2.toNat) Q27.2.toNat), ([]))]) ((Q27.1.length : Int).toNat)).1), (((nth (Q27.1 ++ [((nth (nth v0 Q13.2.toNat) Q27.2.toNat), ([]))]) ((Q27.1.length : Int).toNat)).2) ++ [Q13.2 + 1]))), Q27.2 + 1))) (gd (ix r38 Q27.1.length) <| gd (I64 (Q13.2 + 1)) <| gd (room (((nth Q27.1 r38.toNat).2).length + 1)) <| gd (I64 (Q27.2 + 1)) <| some (.inl ((Q27.1.set r38.toNat (((nth Q27.1 r38.toNat).1), (((nth Q27.1 r38.toNat).2) ++ [Q13.2 + 1]))), Q27.2 + 1)))) (some (.inr Q27.1))
noncomputable def p_impl_indexOf_b0 (v0 : (List (List Tag))) (Q13 : (List Post) × Int) : Option (((List Post) × Int) ⊕ ((List Post))) := cond (decide (Q13.2 < (v0.length : Int))) (gd (ix Q13.2 v0.length) <| bd (lp (p_impl_indexOf_b1 v0 Q13) (Q13.1, 0)) fun x23 => gd (I64 (Q13.2 + 1)) <| some (.inl (x23, Q13.2 + 1))) (some (.inr Q13.1))
noncomputable def p_impl_indexOf (v0 : (List (List Tag))) : Option (Index) := bd (p_impl_cloneNames v0) fun r3 => bd (lp (p_impl_indexOf_b0 v0) (([] : List Post), 0)) fun x9 => bd (p_slices_SortFunc_Post_Post_indexOf_2 x9) fun r62 => some (r3, r62)
theorem c_impl_indexOf {r : Index} (v0 : (List (List Tag))) (x_v0 : Option Addr × Nat) (H : p_impl_indexOf v0 = some r) : Fn' prog 124 #[.slice x_v0.1 v0.length x_v0.2] [imm (.slice x_v0.1 v0.length x_v0.2) v0] [] (ι := (Option Addr × Nat) × (Option Addr × Nat)) (fun x => .agg #[.slice x.1.1 r.1.length x.1.2, .slice x.2.1 r.2.length x.2.2]) (fun _ => []) (fun x => [tree (.slice x.1.1 r.1.length x.1.2) r.1, tree (.slice x.2.1 r.2.length x.2.2) r.2]) := by
 refine cof (args := [_]) func124 ntmps124 fun c => ?_
 unfold p_impl_indexOf at H
 refine bM aR fun X1 => (sr (f1 (cD ty38) fun g2 => (nl (sr (aF rfl (bdo H fun r3 h4 H => (f1 (cE (c_impl_cloneNames v0 x_v0 h4) (fun _ => (bF bG)) rfl (aC (aL (aS aR)) aO)) fun x5 => (f2 (e_lit0 Post dO ty177) fun a6 c7 => (aG (v := .agg #[.slice x5.1 r3.length x5.2, .slice a6 (([] : List Post).length) c7]) (p_buildS (vs := [(0, .slice x5.1 r3.length x5.2), (1, .slice a6 (([] : List Post).length) c7)]) (cs := #[.slice x5.1 r3.length x5.2, .slice a6 (([] : List Post).length) c7]) ty38 pl38 rfl rfl) ?_)))))))))
 refine f1 (cD ty38) fun g8 => (stb (cs' := [.slice x5.1 r3.length x5.2, .slice a6 (([] : List Post).length) c7]) ty38 cV (nl (aD (sr (aF rfl (aG (bS 105 dN rfl) (aF (v := .int .i64 (0)) rfl (nl (bdo H fun x9 hx10 H => (cX (ι := Option Addr × Nat) (fun ψ => [(2, .pointer (some ⟨g2, 0, none⟩)), (3, .pointer (some ⟨g8, 0, none⟩))]) (fun ψ => [box g2 38 [.slice none 0 0, .slice none 0 0], tree (.slice x5.1 r3.length x5.2) r3, tree (.slice ψ.1 x9.length ψ.2) x9, box g8 38 [.slice x5.1 r3.length x5.2, .slice ψ.1 x9.length ψ.2]]) ?_ ?_))))))))))
 ·refine aQ (dA hx10 (a6, c7) (fun Q13 _ => [(2, .pointer (some ⟨g2, 0, none⟩)), (3, .pointer (some ⟨g8, 0, none⟩)), (13, .slice x_v0.1 v0.length x_v0.2), (14, .int .i64 ((v0.length : Int))), (15, .int .i64 (Q13.2))]) (fun Q13 z14 => [box g2 38 [.slice none 0 0, .slice none 0 0], tree (.slice x5.1 r3.length x5.2) r3, tree (.slice z14.1 Q13.1.length z14.2) Q13.1, box g8 38 [.slice x5.1 r3.length x5.2, .slice z14.1 Q13.1.length z14.2]]) (.cons dl3 (.cons dl2 (.cons dl1 (.cons aA .nil)))) ?_)
  rintro _ Q13 z14 t16 H1 hi17 hb18
  unfold p_impl_indexOf_b0 at H1
  refine sr (aG (cM rfl rfl) (nl (aD (cH H1 rfl (fun h21 H1 => ?_) (fun h21 H1 => ?_)))))
  ·refine bH (nT (aD (aQ (sr (aF rfl (gdo H1 fun h22 H1 => (aI (bW dN ty105 rfl rfl h22 rfl (aL (aT aR))) (aI (bZ (i := Q13.2.toNat) (j := 0) ty105 rfl (aL (aT aR)) h22.lt rfl) (aH rfl (aH rfl (nl ?_)))))))))))
   refine sr (aF rfl (aG (bS 97 dE rfl) (aF (v := .int .i64 (0)) rfl (nl (bdo H1 fun x23 hx24 H1 => (cX (ι := Option Addr × Nat) (fun ψ => [(2, .pointer (some ⟨g2, 0, none⟩)), (3, .pointer (some ⟨g8, 0, none⟩)), (13, .slice x_v0.1 v0.length x_v0.2), (14, .int .i64 ((v0.length : Int))), (15, .int .i64 (Q13.2))]) (fun ψ => [box g2 38 [.slice none 0 0, .slice none 0 0], tree (.slice x5.1 r3.length x5.2) r3, tree (.slice ψ.1 x23.length ψ.2) x23, box g8 38 [.slice x5.1 r3.length x5.2, .slice ψ.1 x23.length ψ.2]]) ?_ ?_))))))
   ·refine aQ (dA hx24 (z14.1, z14.2) (fun Q27 _ => [(2, .pointer (some ⟨g2, 0, none⟩)), (3, .pointer (some ⟨g8, 0, none⟩)), (4, .int .i64 (Q13.2)), (13, .slice x_v0.1 v0.length x_v0.2), (14, .int .i64 ((v0.length : Int))), (15, .int .i64 (Q13.2)), (20, .slice ((X1 Q13.2.toNat).1) ((nth v0 Q13.2.toNat).length) ((X1 Q13.2.toNat).2.1)), (21, .int .i64 (((nth v0 Q13.2.toNat).length : Int))), (22, .int .i64 (Q27.2))]) (fun Q27 z28 => [box g2 38 [.slice none 0 0, .slice none 0 0], tree (.slice x5.1 r3.length x5.2) r3, tree (.slice z28.1 Q27.1.length z28.2) Q27.1, box g8 38 [.slice x5.1 r3.length x5.2, .slice z28.1 Q27.1.length z28.2]]) (.cons aA (.cons aA (.cons aA (.cons aA .nil)))) ?_)
    rintro _ Q27 z28 t30 H2 hi31 hb32
    unfold p_impl_indexOf_b1 at H2
    refine sr (aG (cM rfl rfl) (nl (aD (cH H2 rfl (fun h35 H2 => ?_) (fun h35 H2 => ?_)))))
    ·refine bH (nT (aD (aQ (sr (gdo H2 fun h36 H2 => (aI (bW dE ty97 rfl rfl h36 rfl (aN (aL (aS (aW aR h22.lt))))) (aI (v := .agg #[.string ((nth (nth v0 Q13.2.toNat) Q27.2.toNat).1), .string ((nth (nth v0 Q13.2.toNat) Q27.2.toNat).2)]) (cA (i := Q27.2.toNat) ty97 rfl (aN (aL (aS (aW aR h22.lt)))) h36.lt) (f1 (cD ty97) fun g37 => (stb (cs' := [.string ((nth (nth v0 Q13.2.toNat) Q27.2.toNat).1), .string ((nth (nth v0 Q13.2.toNat) Q27.2.toNat).2)]) ty97 cV (nl ?_))))))))))
     refine sr (aG (cB fa38_1 rfl rfl) (aI (bI ty36 rfl hs4 rfl) (aG (v := .func (.func 177) #[] #[.pointer (some ⟨g37, 0, none⟩)]) (p_mkfunc (vs := [.pointer (some ⟨g37, 0, none⟩)]) rfl rfl) (bdo H2 fun r38 h39 H2 => (aI (q_callC (c_slices_IndexFunc_Post_Post_indexOf_1 Q27.1 z28 g37 (nth (nth v0 Q13.2.toNat) Q27.2.toNat) h39) (Solo.box bG) rfl (.cons aA .nil) (aC (bL hs2) aO)) (aH rfl (nl (aD (sr (aF rfl (aG (cM rfl rfl) (nl ?_))))))))))))
     refine cH H2 rfl (fun h40 H2 => ?_) (fun h40 H2 => ?_)
     ·refine sr (aG (cB fa38_1 rfl rfl) (aI (bI ty36 rfl hs4 rfl) (aG (bS 177 dO rfl) (aH rfl (nl (Tr.nilT Int (aP (aG (cB fa38_1 rfl rfl) (aI (bI ty36 rfl hs5 rfl) (aI (bJ ty97 rfl hs1 rfl) ?_))))))))))
      refine aG (v := .agg #[.string ((nth (nth v0 Q13.2.toNat) Q27.2.toNat).1), .string ((nth (nth v0 Q13.2.toNat) Q27.2.toNat).2), .slice none 0 0]) (p_buildS (vs := [(0, .agg #[.string ((nth (nth v0 Q13.2.toNat) Q27.2.toNat).1), .string ((nth (nth v0 Q13.2.toNat) Q27.2.toNat).2)])]) (cs := #[.string ((nth (nth v0 Q13.2.toNat) Q27.2.toNat).1), .string ((nth (nth v0 Q13.2.toNat) Q27.2.toNat).2), .slice none 0 0]) ty177 pl177 rfl rfl) (f1 (e_lit (vs := [(0, .agg #[.string ((nth (nth v0 Q13.2.toNat) Q27.2.toNat).1), .string ((nth (nth v0 Q13.2.toNat) Q27.2.toNat).2), .slice none 0 0])]) [.string ((nth (nth v0 Q13.2.toNat) Q27.2.toNat).1), .string ((nth (nth v0 Q13.2.toNat) Q27.2.toNat).2), .slice none 0 0] dO ty177 rfl (by decide) (by decide) (by kernel_rfl)) fun g41 => (gdo H2 fun h44 H2 => (f2 (e_app1 (l := Q27.1) (α := Post) ((nth (nth v0 Q13.2.toNat) Q27.2.toNat), ([])) (((), ()), (none, 0)) dO ty177 rfl rfl (h44.b (by decide)) h44.x rfl (cS _) (.cons dl5 (.cons aA (.cons aA .nil)))) fun a42 c43 => (aG (cB fa38_1 rfl rfl) (stb (cs' := [.slice x5.1 r3.length x5.2, .slice a42 ((Q27.1 ++ [((nth (nth v0 Q13.2.toNat) Q27.2.toNat), ([]))]).length) c43]) ty36 up4 (nl (gdo H2 fun h45 H2 => (Tr.zoom (k := (Q27.1.length : Int).toNat) h45.lt (.cons aA .nil) fun x46 => ?_))))))))
      show Tr _ _ _ _ _ _ _ (hole (.slice a42 ((Q27.1 ++ [((nth (nth v0 Q13.2.toNat) Q27.2.toNat), ([]))]).length) c43) (Q27.1 ++ [((nth (nth v0 Q13.2.toNat) Q27.2.toNat), ([]))]) ((Q27.1.length : Int).toNat) [.string (((nth (Q27.1 ++ [((nth (nth v0 Q13.2.toNat) Q27.2.toNat), ([]))]) ((Q27.1.length : Int).toNat)).1).1), .string (((nth (Q27.1 ++ [((nth (nth v0 Q13.2.toNat) Q27.2.toNat), ([]))]) ((Q27.1.length : Int).toNat)).1).2), .slice x46.2.1 (((nth (Q27.1 ++ [((nth (nth v0 Q13.2.toNat) Q27.2.toNat), ([]))]) ((Q27.1.length : Int).toNat)).2).length) x46.2.2] :: tree (.slice x46.2.1 (((nth (Q27.1 ++ [((nth (nth v0 Q13.2.toNat) Q27.2.toNat), ([]))]) ((Q27.1.length : Int).toNat)).2).length) x46.2.2) ((nth (Q27.1 ++ [((nth (nth v0 Q13.2.toNat) Q27.2.toNat), ([]))]) ((Q27.1.length : Int).toNat)).2) :: _)
      refine tNwS [(8, .int .i64 ((Q27.1.length : Int))), (2, .pointer (some ⟨g2, 0, none⟩)), (3, .pointer (some ⟨g8, 0, none⟩)), (4, .int .i64 (Q13.2)), (13, .slice x_v0.1 v0.length x_v0.2), (14, .int .i64 ((v0.length : Int))), (15, .int .i64 (Q13.2)), (20, .slice ((X1 Q13.2.toNat).1) ((nth v0 Q13.2.toNat).length) ((X1 Q13.2.toNat).2.1)), (21, .int .i64 (((nth v0 Q13.2.toNat).length : Int))), (22, .int .i64 (Q27.2))] 1 [0, 1, 2, 3, 4, 5, 6, 7, 8, 9, 10, 11, 12, 13, 14, 15] [11, 12, 15] [] mixed (by kernel_rfl) (by decide) dD ⟨rfl, rfl, rfl, rfl, rfl, rfl, rfl, rfl, rfl, rfl, trivial⟩ rfl okNil (w_p rfl (cB fa38_1 rfl rfl) ?_)
      refine w_o rfl (fun F => (bI ty36 rfl (hs5.app F) rfl)) (w_p rfl (aE rfl) (w_p rfl (cB fa38_1 rfl rfl) ?_))
      refine w_o rfl (fun F => (bI ty36 rfl (hs5.app F) rfl)) (w_p rfl (aE rfl) ?_)
      refine w_o (v := elp a42 (((Q27.1.length : Int).toNat) * Enc.sz Post + 0)) rfl (fun F => (q_ixH (k := (Q27.1.length : Int).toNat) dO ty177 rfl rfl h45 rfl (aB.app F))) ?_
      refine w_o (v := elp a42 (((Q27.1.length : Int).toNat) * Enc.sz Post + 2)) rfl (fun F => (q_faH (j := 0) (i := (Q27.1.length : Int).toNat) fa177_1 rfl (aB.app F) rfl)) ?_
      refine w_o (v := .slice x46.2.1 (((nth (Q27.1 ++ [((nth (nth v0 Q13.2.toNat) Q27.2.toNat), ([]))]) ((Q27.1.length : Int).toNat)).2).length) x46.2.2) rfl (fun F => (q_ldH (i := (Q27.1.length : Int).toNat) (j := 2) ty69 rfl (aB.app F) rfl)) (w_p rfl (aE rfl) (gdo H2 fun h47 H2 => (w_p rfl (bR rfl rfl h47) (w_ed rfl (by decide) rfl cL rfl (n_lit (vs := [(0, .int .i64 (Q13.2 + 1))]) [.int .i64 (Q13.2 + 1)] dT ty3 rfl (by decide) (by decide) (by kernel_rfl)) ?_))))
      rintro _ _ _ ⟨g48, rfl, rfl, rfl⟩
      refine ⟨(bV rfl rfl (fun F => (q_ldH (i := (Q27.1.length : Int).toNat) (j := 2) ty69 rfl (hs1.app F) rfl)) (bV rfl rfl (fun F => (q_faH (j := 0) (i := (Q27.1.length : Int).toNat) fa177_1 rfl (hs1.app F) rfl)) (bV rfl rfl (fun F => (q_ixH (k := (Q27.1.length : Int).toNat) dO ty177 rfl rfl h45 rfl (hs1.app F))) (bV rfl rfl (fun F => (bI ty36 rfl ((hs5t hs1).app F) rfl)) (bV rfl rfl (fun F => (bI ty36 rfl ((hs5t hs1).app F) rfl)) bU))))), ?_⟩
      refine gdo H2 fun h51 H2 => (w_ed rfl (by decide) rfl cL rfl (n_app1 (l := (nth (Q27.1 ++ [((nth (nth v0 Q13.2.toNat) Q27.2.toNat), ([]))]) ((Q27.1.length : Int).toNat)).2) (α := Int) (Q13.2 + 1) () dT ty3 rfl rfl (h51.b (by decide)) h51.x rfl (cS _) (.cons dl2 (.cons aA .nil))) ?_)
      rintro _ _ _ ⟨a49, c50, rfl, rfl, rfl⟩
      refine ⟨(aM (by kernel_rfl) (bV rfl rfl (fun F => (q_faH (j := 0) (i := (Q27.1.length : Int).toNat) fa177_1 rfl (hs1.app F) rfl)) (bV rfl rfl (fun F => (q_ixH (k := (Q27.1.length : Int).toNat) dO ty177 rfl rfl h45 rfl (hs1.app F))) (bV rfl rfl (fun F => (bI ty36 rfl (hs5.app F) rfl)) (bV rfl rfl (fun F => (bI ty36 rfl (hs5.app F) rfl)) bU))))), ?_⟩
      refine w_o (v := elp a42 (((Q27.1.length : Int).toNat) * Enc.sz Post + 0)) rfl (fun F => (q_ixH (k := (Q27.1.length : Int).toNat) dO ty177 rfl rfl h45 rfl (hs1.app F))) ?_
      refine w_o (v := elp a42 (((Q27.1.length : Int).toNat) * Enc.sz Post + 2)) rfl (fun F => (q_faH (j := 0) (i := (Q27.1.length : Int).toNat) fa177_1 rfl (hs1.app F) rfl)) (w_en rfl rfl cL rfl (n_stH (v := .slice a49 ((((nth (Q27.1 ++ [((nth (nth v0 Q13.2.toNat) Q27.2.toNat), ([]))]) ((Q27.1.length : Int).toNat)).2) ++ [Q13.2 + 1]).length) c50) (i := (Q27.1.length : Int).toNat) (j := 2) (cs' := [.string (((nth (Q27.1 ++ [((nth (nth v0 Q13.2.toNat) Q27.2.toNat), ([]))]) ((Q27.1.length : Int).toNat)).1).1), .string (((nth (Q27.1 ++ [((nth (nth v0 Q13.2.toNat) Q27.2.toNat), ([]))]) ((Q27.1.length : Int).toNat)).1).2), .slice a49 ((((nth (Q27.1 ++ [((nth (nth v0 Q13.2.toNat) Q27.2.toNat), ([]))]) ((Q27.1.length : Int).toNat)).2) ++ [Q13.2 + 1]).length) c50]) ty69 rfl rfl (.cons dl1 .nil) rfl (one_of rfl) (Nat.le_of_ble_eq_true rfl) rfl rfl) ?_)
      rintro _ _ _ ⟨rfl, rfl, rfl⟩
      refine ⟨(aM (by kernel_rfl) (bV rfl rfl (fun F => (q_ixH (k := (Q27.1.length : Int).toNat) dO ty177 rfl rfl h45 rfl (aB.app F))) (aM (by kernel_rfl) (aM (by kernel_rfl) (aM (by kernel_rfl) (aM (by kernel_rfl) (aM (by kernel_rfl) bU))))))), ?_⟩
      refine cI ?_
      show At _ _ _ _ _ _
      refine nB (nT (aP (gdo H2 fun h52 H2 => (aG (bR rfl rfl h52) (aF rfl (aJ (At.unzoom (((nth (Q27.1 ++ [((nth (nth v0 Q13.2.toNat) Q27.2.toNat), ([]))]) ((Q27.1.length : Int).toNat)).1), (((nth (Q27.1 ++ [((nth (nth v0 Q13.2.toNat) Q27.2.toNat), ([]))]) ((Q27.1.length : Int).toNat)).2) ++ [Q13.2 + 1])) (((), ()), (a49, c50)) rfl (.cons aA (.cons aA .nil)) ?_)))))))
      refine cU aB fun hn => ?_; rw [hn]
      exact nLI (a42, c43) (hi31 _ (sm H2)) (.cons dl2 (.cons dl2 (.cons aA (.cons dl1 .nil))))
     ·refine bH (nT (gdo H2 fun h53 H2 => (Tr.zoom (k := r38.toNat) h53.lt (.cons dl3 .nil) fun x54 => ?_)))
      show Tr _ _ _ _ _ _ _ (hole (.slice z28.1 Q27.1.length z28.2) Q27.1 r38.toNat [.string (((nth Q27.1 r38.toNat).1).1), .string (((nth Q27.1 r38.toNat).1).2), .slice x54.2.1 (((nth Q27.1 r38.toNat).2).length) x54.2.2] :: tree (.slice x54.2.1 (((nth Q27.1 r38.toNat).2).length) x54.2.2) ((nth Q27.1 r38.toNat).2) :: _)
      refine tNwS [(8, .int .i64 (r38)), (2, .pointer (some ⟨g2, 0, none⟩)), (3, .pointer (some ⟨g8, 0, none⟩)), (4, .int .i64 (Q13.2)), (13, .slice x_v0.1 v0.length x_v0.2), (14, .int .i64 ((v0.length : Int))), (15, .int .i64 (Q13.2)), (20, .slice ((X1 Q13.2.toNat).1) ((nth v0 Q13.2.toNat).length) ((X1 Q13.2.toNat).2.1)), (21, .int .i64 (((nth v0 Q13.2.toNat).length : Int))), (22, .int .i64 (Q27.2))] 1 [0, 1, 2, 3, 4, 5, 6, 7, 8, 9, 10, 11, 12, 13, 14, 15] [11, 12, 15] [] mixed (by kernel_rfl) (by decide) dD ⟨rfl, rfl, rfl, rfl, rfl, rfl, rfl, rfl, rfl, rfl, trivial⟩ rfl okNil (w_p rfl (cB fa38_1 rfl rfl) ?_)
      refine w_o rfl (fun F => (bI ty36 rfl (hs5.app F) rfl)) (w_p rfl (aE rfl) (w_p rfl (cB fa38_1 rfl rfl) ?_))
      refine w_o rfl (fun F => (bI ty36 rfl (hs5.app F) rfl)) (w_p rfl (aE rfl) ?_)
      refine w_o (v := elp z28.1 (r38.toNat * Enc.sz Post + 0)) rfl (fun F => (q_ixH (k := r38.toNat) dO ty177 rfl rfl h53 rfl (aB.app F))) ?_
      refine w_o (v := elp z28.1 (r38.toNat * Enc.sz Post + 2)) rfl (fun F => (q_faH (j := 0) (i := r38.toNat) fa177_1 rfl (aB.app F) rfl)) ?_
      refine w_o (v := .slice x54.2.1 (((nth Q27.1 r38.toNat).2).length) x54.2.2) rfl (fun F => (q_ldH (i := r38.toNat) (j := 2) ty69 rfl (aB.app F) rfl)) (w_p rfl (aE rfl) (gdo H2 fun h55 H2 => (w_p rfl (bR rfl rfl h55) (w_ed rfl (by decide) rfl cL rfl (n_lit (vs := [(0, .int .i64 (Q13.2 + 1))]) [.int .i64 (Q13.2 + 1)] dT ty3 rfl (by decide) (by decide) (by kernel_rfl)) ?_))))
      rintro _ _ _ ⟨g56, rfl, rfl, rfl⟩
      refine ⟨(bV rfl rfl (fun F => (q_ldH (i := r38.toNat) (j := 2) ty69 rfl (hs1.app F) rfl)) (bV rfl rfl (fun F => (q_faH (j := 0) (i := r38.toNat) fa177_1 rfl (hs1.app F) rfl)) (bV rfl rfl (fun F => (q_ixH (k := r38.toNat) dO ty177 rfl rfl h53 rfl (hs1.app F))) (bV rfl rfl (fun F => (bI ty36 rfl ((hs5t hs1).app F) rfl)) (bV rfl rfl (fun F => (bI ty36 rfl ((hs5t hs1).app F) rfl)) bU))))), ?_⟩
      refine gdo H2 fun h59 H2 => (w_ed rfl (by decide) rfl cL rfl (n_app1 (l := (nth Q27.1 r38.toNat).2) (α := Int) (Q13.2 + 1) () dT ty3 rfl rfl (h59.b (by decide)) h59.x rfl (cS _) (.cons dl2 (.cons aA .nil))) ?_)
      rintro _ _ _ ⟨a57, c58, rfl, rfl, rfl⟩
      refine ⟨(aM (by kernel_rfl) (bV rfl rfl (fun F => (q_faH (j := 0) (i := r38.toNat) fa177_1 rfl (hs1.app F) rfl)) (bV rfl rfl (fun F => (q_ixH (k := r38.toNat) dO ty177 rfl rfl h53 rfl (hs1.app F))) (bV rfl rfl (fun F => (bI ty36 rfl (hs5.app F) rfl)) (bV rfl rfl (fun F => (bI ty36 rfl (hs5.app F) rfl)) bU))))), ?_⟩
      refine w_o (v := elp z28.1 (r38.toNat * Enc.sz Post + 0)) rfl (fun F => (q_ixH (k := r38.toNat) dO ty177 rfl rfl h53 rfl (hs1.app F))) ?_
      refine w_o (v := elp z28.1 (r38.toNat * Enc.sz Post + 2)) rfl (fun F => (q_faH (j := 0) (i := r38.toNat) fa177_1 rfl (hs1.app F) rfl)) (w_en rfl rfl cL rfl (n_stH (v := .slice a57 ((((nth Q27.1 r38.toNat).2) ++ [Q13.2 + 1]).length) c58) (i := r38.toNat) (j := 2) (cs' := [.string (((nth Q27.1 r38.toNat).1).1), .string (((nth Q27.1 r38.toNat).1).2), .slice a57 ((((nth Q27.1 r38.toNat).2) ++ [Q13.2 + 1]).length) c58]) ty69 rfl rfl (.cons dl1 .nil) rfl (one_of rfl) (Nat.le_of_ble_eq_true rfl) rfl rfl) ?_)
      rintro _ _ _ ⟨rfl, rfl, rfl⟩
      refine ⟨(aM (by kernel_rfl) (bV rfl rfl (fun F => (q_ixH (k := r38.toNat) dO ty177 rfl rfl h53 rfl (aB.app F))) (aM (by kernel_rfl) (aM (by kernel_rfl) (aM (by kernel_rfl) (aM (by kernel_rfl) (aM (by kernel_rfl) bU))))))), ?_⟩
      refine cI ?_
      show At _ _ _ _ _ _
      refine nB (nT (aP (gdo H2 fun h60 H2 => (aG (bR rfl rfl h60) (aF rfl (aJ (At.unzoom (((nth Q27.1 r38.toNat).1), (((nth Q27.1 r38.toNat).2) ++ [Q13.2 + 1])) (((), ()), (a57, c58)) rfl (.cons aA (.cons aA .nil)) ?_)))))))
      refine cU aB fun hn => ?_; rw [hn]
      exact nLI (z28.1, z28.2) (hi31 _ (sm H2)) (.cons dl2 (.cons dl2 (.cons aA (.cons dl1 .nil))))
    ·refine cW (xT (xT (xE (?_))))
     obtain rfl := hb32 _ (sm H2)
     exact nMC (z28.1, z28.2) ⟨rfl, rfl, rfl, rfl, rfl, trivial⟩ bT (.cons aA (.cons aA (.cons aA (.cons aA .nil))))
   ·intro y29
    show At _ _ [(2, .pointer (some ⟨g2, 0, none⟩)), (3, .pointer (some ⟨g8, 0, none⟩)), (13, .slice x_v0.1 v0.length x_v0.2), (14, .int .i64 ((v0.length : Int))), (15, .int .i64 (Q13.2))] _ [box g2 38 [.slice none 0 0, .slice none 0 0], tree (.slice x5.1 r3.length x5.2) r3, tree (.slice y29.1 x23.length y29.2) x23, box g8 38 [.slice x5.1 r3.length x5.2, .slice y29.1 x23.length y29.2]] _
    exact nB (nT (aP (gdo H1 fun h61 H1 => (aG (bR rfl rfl h61) (aF rfl (aJ (nLI (y29.1, y29.2) (hi17 _ (sm H1)) (.cons aA (.cons aA (.cons aA (.cons aA .nil)))))))))))
  ·refine cW (xT (xT (xE (?_))))
   obtain rfl := hb18 _ (sm H1)
   exact nMC (z14.1, z14.2) ⟨rfl, rfl, trivial⟩ bT (.cons aA (.cons aA (.cons aA (.cons aA .nil))))
 ·intro y15
  show At _ _ [(2, .pointer (some ⟨g2, 0, none⟩)), (3, .pointer (some ⟨g8, 0, none⟩))] _ [box g2 38 [.slice none 0 0, .slice none 0 0], tree (.slice x5.1 r3.length x5.2) r3, tree (.slice y15.1 x9.length y15.2) x9, box g8 38 [.slice x5.1 r3.length x5.2, .slice y15.1 x9.length y15.2]] _
  refine nT (sr (aG (cB fa38_1 rfl rfl) (aI (bI ty36 rfl hs3 rfl) (bdo H fun r62 h63 H => (f1 (cF (c_slices_SortFunc_Post_Post_indexOf_2 x9 y15 x9.length rfl h63) (bF bG) (fun _ => (bF bG)) rfl (.cons dl2 .nil) aO) fun u64 => (nl (aD ?_)))))))
  refine cT aB fun hn => ?_; rw [hn]
  refine aP (aI (bJ ty38 rfl hs3 rfl) (stb (cs' := [.slice x5.1 r3.length x5.2, .slice y15.1 r62.length y15.2]) ty38 up1 (nl (bQ ?_))))
  obtain rfl := si H
  exact back1 (x5, y15) rfl (ResV.agg ty38 rfl hs1 rfl) rfl cK (.cons dl2 (.cons aA .nil))
noncomputable def p_slices_Equal_int_int_b0 (v0 : (List Int)) (v1 : (List Int)) (Q6 : Int) : Option ((Int) ⊕ (Unit ⊕ Bool)) := cond (decide (Q6 < (v0.length : Int))) (gd (ix Q6 v0.length) <| gd (ix Q6 v1.length) <| cond (!decide ((nth v0 Q6.toNat) = (nth v1 Q6.toNat))) (some (.inr (.inr false))) (gd (I64 (Q6 + 1)) <| some (.inl (Q6 + 1)))) (some (.inr (.inl ())))
noncomputable def p_slices_Equal_int_int (v0 : (List Int)) (v1 : (List Int)) : Option (Bool) := cond (!decide ((v0.length : Int) = (v1.length : Int))) (some false) (bd (lp (p_slices_Equal_int_int_b0 v0 v1) 0) <| sw (fun _ => some true) (fun q => some q))
theorem c_slices_Equal_int_int {r : Bool} (v0 : (List Int)) (x_v0 : Option Addr × Nat) (v1 : (List Int)) (x_v1 : Option Addr × Nat) (H : p_slices_Equal_int_int v0 v1 = some r) : Fn' prog 126 #[.slice x_v0.1 v0.length x_v0.2, .slice x_v1.1 v1.length x_v1.2] [imm (.slice x_v0.1 v0.length x_v0.2) v0, imm (.slice x_v1.1 v1.length x_v1.2) v1] [] (ι := Unit) (fun _ => .bool (r)) (fun _ => []) (fun _ => []) := by
 refine cof (args := [_, _]) func126 ntmps126 fun c => ?_
 unfold p_slices_Equal_int_int at H
 refine sr (aH (v := .bool (false)) rfl (nl (aD (sr (aF rfl (aG (bS 3 dT rfl) (aF rfl (aG (bS 3 dT rfl) (aG (cO rfl rfl) (nl (cH H rfl (fun h1 H => ?_) (fun h1 H => ?_))))))))))))
 ·refine sr (aH (v := .bool (false)) rfl (nl (bQ (rT (?_)))))
  obtain rfl := si H
  exact bk
 ·refine bH (nT (aD (sr (aF rfl (aG (bS 3 dT rfl) (aF (v := .int .i64 (0)) rfl (nl (bdo H fun x2 hx3 H => (cY (Λ := Unit) H (fun _ _ => []) (fun _ _ => []) ?_ ?_)))))))))
  ·refine aQ (dA hx3 () (fun Q6 _ => [(0, .slice x_v0.1 v0.length x_v0.2), (1, .slice x_v1.1 v1.length x_v1.2), (12, .int .i64 ((v0.length : Int))), (13, .int .i64 (Q6))]) (fun _ _ => []) bK ?_)
   rintro _ Q6 z7 t9 H1 hi10 hb11
   unfold p_slices_Equal_int_int_b0 at H1
   refine sr (aG (cM rfl rfl) (nl (aD (cH H1 rfl (fun h14 H1 => ?_) (fun h14 H1 => ?_)))))
   ·refine bH (nT (aD (aQ (sr (aF rfl (aH rfl (nl (aD (dB [(5, .int .i64 (Q6)), (0, .slice x_v0.1 v0.length x_v0.2), (1, .slice x_v1.1 v1.length x_v1.2), (12, .int .i64 ((v0.length : Int))), (13, .int .i64 (Q6))] mixed (.inr (by kernel_rfl)) ⟨rfl, rfl, rfl, rfl, rfl, trivial⟩ rfl (bB rfl (bB rfl ?_)))))))))))
    refine gdo H1 fun h15 H1 => (aZ (bW dT ty3 rfl rfl h15 rfl (aN (aL aR))) (aZ (bZ (i := Q6.toNat) (j := 0) ty3 rfl (aN (aL aR)) h15.lt rfl) (bB rfl (bB rfl (gdo H1 fun h16 H1 => (aZ (bW dT ty3 rfl rfl h16 rfl (aN (aL aR.s))) (aZ (bZ (i := Q6.toNat) (j := 0) ty3 rfl (aN (aL aR.s)) h16.lt rfl) (aX (cO rfl rfl) (nT (?_))))))))))
    refine cH H1 rfl (fun h17 H1 => ?_) (fun h17 H1 => ?_)
    ·refine sr (aH (v := .bool (false)) rfl (nl (bQ (rB (rT (rT (rB (rT (rT (?_))))))))))
     obtain rfl := hb11 _ (sm H1)
     replace H := sw.r H
     obtain rfl := si H
     exact bk
    ·exact bH (nB (nT (aP (gdo H1 fun h18 H1 => (aG (bR rfl rfl h18) (aF rfl (aJ (nLI () (hi10 _ (sm H1)) bK))))))))
   ·exact cW (xT (xT (xE (nMI () (hb11 _ (sm H1)) bK))))
  ·rintro e19 y8 H
   refine nT (sr (aH (v := .bool (true)) rfl (nl ?_)))
   obtain rfl := si H
   exact bQ bk
noncomputable def p_impl_IndexOk_1 (v0 : Post) (v1 : Post) : Option (Bool) := bd (cond (decide (v0.1 = v1.1)) (bd (p_slices_Equal_int_int v0.2 v1.2) fun r6 => some (r6)) (some (false))) fun b3 => some b3
theorem c_impl_IndexOk_1 {r : Bool} (v0 : Post) (x_v0 : (Unit × Unit) × (Option Addr × Nat)) (v1 : Post) (x_v1 : (Unit × Unit) × (Option Addr × Nat)) (H : p_impl_IndexOk_1 v0 v1 = some r) : Fn' prog 125 #[.agg #[.string (v0.1.1), .string (v0.1.2), .slice x_v0.2.1 v0.2.length x_v0.2.2], .agg #[.string (v1.1.1), .string (v1.1.2), .slice x_v1.2.1 v1.2.length x_v1.2.2]] [imm (.slice x_v0.2.1 v0.2.length x_v0.2.2) v0.2, imm (.slice x_v1.2.1 v1.2.length x_v1.2.2) v1.2] [] (ι := Unit) (fun _ => .bool (r)) (fun _ => []) (fun _ => []) := by
 refine cof (args := [_, _]) func125 ntmps125 fun c => ?_
 unfold p_impl_IndexOk_1 at H
 refine sr (f1 (cC (t := 177) rfl) fun g1 => (f1 (cC (t := 177) rfl) fun g2 => (aH (v := .bool (false)) rfl (nl (bdo H fun b3 j4 H => (cZ [(4, .bool (b3))] ?_ ?_))))))
 ·refine dC [(3, .pointer (some ⟨g2, 0, none⟩)), (2, .pointer (some ⟨g1, 0, none⟩))] ⟨rfl, rfl, trivial⟩ (aX (cB fa177_0 rfl rfl) (aZ (v := .agg #[.string (v0.1.1), .string (v0.1.2)]) (q_ldbP [.string (v0.1.1), .string (v0.1.2)] ty97 rfl hs1 rfl rfl) (aX (cB fa177_0 rfl rfl) (aZ (v := .agg #[.string (v1.1.1), .string (v1.1.2)]) (q_ldbP [.string (v1.1.1), .string (v1.1.2)] ty97 rfl aB rfl rfl) (aX (v := .bool (decide (v0.1 = v1.1))) (p_aeql (a := v0.1) (b := v1.1) ae97 rfl rfl rfl rfl) ?_)))))
  rcases aK (decide (v0.1 = v1.1)) with h5 | h5
  ·have j4 := cdT h5 j4
   refine bC (aE rfl) h5 (aY rfl (cB fa177_1 rfl rfl) (bA rfl (bI ty69 rfl hs1 rfl) (aY rfl (cB fa177_1 rfl rfl) (bA rfl (bI ty69 rfl aB rfl) (bdo j4 fun r6 h7 j4 => (bA rfl (bN (c_slices_Equal_int_int v0.2 x_v0.2 v1.2 x_v1.2 h7) rfl (aC (aL aR) (aC (aL aR.s) aO))) (aX (bP rfl rfl) (aX (p_assign rfl) ?_))))))))
   obtain rfl := si j4
   show At _ _ _ _ _ _
   exact n1 ⟨rfl, trivial⟩
  ·have j4 := cdF h5 j4
   refine bC (aE rfl) h5 ?_
   iterate 5 refine bE rfl ?_
   refine aX (v := .bool (false)) (bO rfl rfl) (aX (v := .bool (false)) (p_assign rfl) ?_)
   obtain rfl := si j4
   show At _ _ _ _ _ _
   exact n1 ⟨rfl, trivial⟩
 obtain rfl := si H
 exact bQ bk
noncomputable def p_slices_EqualFunc_Post_Post_Post_Post_IndexOk_1_b0 (v0 : (List Post)) (v1 : (List Post)) (Q8 : Int) : Option ((Int) ⊕ (Unit ⊕ Bool)) := cond (decide (Q8 < (v0.length : Int))) (gd (ix Q8 v0.length) <| gd (ix Q8 v1.length) <| bd (p_impl_IndexOk_1 (nth v0 Q8.toNat) (nth v1 Q8.toNat)) fun r21 => cond (!r21) (some (.inr (.inr false))) (gd (I64 (Q8 + 1)) <| some (.inl (Q8 + 1)))) (some (.inr (.inl ())))
noncomputable def p_slices_EqualFunc_Post_Post_Post_Post_IndexOk_1 (v0 : (List Post)) (v1 : (List Post)) : Option (Bool) := cond (!decide ((v0.length : Int) = (v1.length : Int))) (some false) (bd (lp (p_slices_EqualFunc_Post_Post_Post_Post_IndexOk_1_b0 v0 v1) 0) <| sw (fun _ => some true) (fun q => some q))
theorem c_slices_EqualFunc_Post_Post_Post_Post_IndexOk_1 {r : Bool} (v0 : (List Post)) (x_v0 : Option Addr × Nat) (v1 : (List Post)) (x_v1 : Option Addr × Nat) (H : p_slices_EqualFunc_Post_Post_Post_Post_IndexOk_1 v0 v1 = some r) : Fn' prog 123 #[.slice x_v0.1 v0.length x_v0.2, .slice x_v1.1 v1.length x_v1.2, .func (.func 125) #[] #[]] [imm (.slice x_v0.1 v0.length x_v0.2) v0, imm (.slice x_v1.1 v1.length x_v1.2) v1] [] (ι := Unit) (fun _ => .bool (r)) (fun _ => []) (fun _ => []) := by
 refine cof (args := [_, _, _]) func123 ntmps123 fun c => ?_
 unfold p_slices_EqualFunc_Post_Post_Post_Post_IndexOk_1 at H
 refine bM aR fun X1 => (bM aR.s.s fun X2 => (sr (aH (v := .bool (false)) rfl (nl (aD (sr (aF rfl (aG (bS 177 dO rfl) (aF rfl (aG (bS 177 dO rfl) (aG (cO rfl rfl) (nl ?_))))))))))))
 refine cH H rfl (fun h3 H => ?_) (fun h3 H => ?_)
 ·refine sr (aH (v := .bool (false)) rfl (nl (bQ (rT (?_)))))
  obtain rfl := si H
  exact bk
 ·refine bH (nT (aD (sr (aF rfl (aG (bS 177 dO rfl) (aF (v := .int .i64 (0)) rfl (nl (bdo H fun x4 hx5 H => (cY (Λ := Unit) H (fun _ _ => []) (fun _ _ => []) ?_ ?_)))))))))
  ·refine aQ (dA hx5 () (fun Q8 _ => [(1, .slice x_v1.1 v1.length x_v1.2), (2, .func (.func 125) #[] #[]), (15, .slice x_v0.1 v0.length x_v0.2), (16, .int .i64 ((v0.length : Int))), (17, .int .i64 (Q8))]) (fun _ _ => []) bK ?_)
   rintro _ Q8 z9 t11 H1 hi12 hb13
   unfold p_slices_EqualFunc_Post_Post_Post_Post_IndexOk_1_b0 at H1
   refine sr (aG (cM rfl rfl) (nl (aD (cH H1 rfl (fun h16 H1 => ?_) (fun h16 H1 => ?_)))))
   ·refine bH (nT (aD (aQ (sr (aF rfl (gdo H1 fun h17 H1 => (aI (bW dO ty177 rfl rfl h17 rfl (aL (aT aR.s))) (aI (v := .agg #[.string (((nth v0 Q8.toNat).1).1), .string (((nth v0 Q8.toNat).1).2), .slice (((X1 Q8.toNat).2).1) (((nth v0 Q8.toNat).2).length) (((X1 Q8.toNat).2).2.1)]) (cA (i := Q8.toNat) ty177 rfl (aL (aT aR.s)) h17.lt) (f1 (cD ty177) fun g18 => (aH rfl ?_))))))))))
    refine stb (cs' := [.string (((nth v0 Q8.toNat).1).1), .string (((nth v0 Q8.toNat).1).2), .slice (((X1 Q8.toNat).2).1) (((nth v0 Q8.toNat).2).length) (((X1 Q8.toNat).2).2.1)]) ty177 cV (nl (sr (aF rfl (aF rfl (gdo H1 fun h19 H1 => (aI (bW dO ty177 rfl rfl h19 rfl (aL (aT aR))) (aI (v := .agg #[.string (((nth v1 Q8.toNat).1).1), .string (((nth v1 Q8.toNat).1).2), .slice (((X2 Q8.toNat).2).1) (((nth v1 Q8.toNat).2).length) (((X2 Q8.toNat).2).2.1)]) (cA (i := Q8.toNat) ty177 rfl (aL (aT aR)) h19.lt) (f1 (cD ty177) fun g20 => (stb (cs' := [.string (((nth v1 Q8.toNat).1).1), .string (((nth v1 Q8.toNat).1).2), .slice (((X2 Q8.toNat).2).1) (((nth v1 Q8.toNat).2).length) (((X2 Q8.toNat).2).2.1)]) ty177 cV ?_)))))))))
    refine nl (sr (aF rfl (aI (bJ ty177 rfl hs1 rfl) (aI (bJ ty177 rfl aB rfl) (bdo H1 fun r21 h22 H1 => (aI (v := .bool (r21)) (Ex.dyn (caps := []) (vs := [.agg #[.string (((nth v0 Q8.toNat).1).1), .string (((nth v0 Q8.toNat).1).2), .slice (((X1 Q8.toNat).2).1) (((nth v0 Q8.toNat).2).length) (((X1 Q8.toNat).2).2.1)], .agg #[.string (((nth v1 Q8.toNat).1).1), .string (((nth v1 Q8.toNat).1).2), .slice (((X2 Q8.toNat).2).1) (((nth v1 Q8.toNat).2).length) (((X2 Q8.toNat).2).2.1)]]) rfl rfl (bN (c_impl_IndexOk_1 (nth v0 Q8.toNat) (((), ()), (((X1 Q8.toNat).2).1, ((X1 Q8.toNat).2).2.1)) (nth v1 Q8.toNat) (((), ()), (((X2 Q8.toNat).2).1, ((X2 Q8.toNat).2).2.1)) h22) rfl (aC (aL (aS (aU (aW aR.s h17.lt)))) (aC (aL (aS (aU (aW aR h19.lt)))) aO)))) (aG (cR rfl) (nl (cH H1 rfl (fun h23 H1 => ?_) (fun h23 H1 => ?_))))))))))
    ·refine sr (aH (v := .bool (false)) rfl (nl (bQ (rB (rT (rT (rB (rT (rT (?_))))))))))
     obtain rfl := hb13 _ (sm H1)
     replace H := sw.r H
     obtain rfl := si H
     exact bk
    ·exact bH (nB (nT (aP (gdo H1 fun h24 H1 => (aG (bR rfl rfl h24) (aF rfl (aJ (nLI () (hi12 _ (sm H1)) bK))))))))
   ·exact cW (xT (xT (xE (nMI () (hb13 _ (sm H1)) bK))))
  ·rintro e25 y10 H
   refine nT (sr (aH (v := .bool (true)) rfl (nl ?_)))
   obtain rfl := si H
   exact bQ bk
noncomputable def p_impl_IndexOk (v0 : Index) : Option (Bool) := bd (p_impl_namesOk v0.1) fun r4 => cond (r4) (bd (p_impl_indexOf v0.1) fun r7 => bd (p_slices_EqualFunc_Post_Post_Post_Post_IndexOk_1 v0.2 r7.2) fun r10 => some r10) (some false)
theorem c_impl_IndexOk {r : Bool} (v0 : Index) (x_v0 : (Option Addr × Nat) × (Option Addr × Nat)) (H : p_impl_IndexOk v0 = some r) : Fn' prog 69 #[.agg #[.slice x_v0.1.1 v0.1.length x_v0.1.2, .slice x_v0.2.1 v0.2.length x_v0.2.2]] [imm (.slice x_v0.1.1 v0.1.length x_v0.1.2) v0.1, imm (.slice x_v0.2.1 v0.2.length x_v0.2.2) v0.2] [] (ι := Unit) (fun _ => .bool (r)) (fun _ => []) (fun _ => []) := by
 refine cof (args := [_]) func69 ntmps69 fun c => ?_
 unfold p_impl_IndexOk at H
 refine bM aR fun X1 => (bM aR.s.s fun X2 => (sr (f1 (cC (t := 38) rfl) fun g3 => (aH (v := .bool (false)) rfl (nl (aD (bdo H fun r4 h5 H => ?_)))))))
 rcases aK (r4) with h6 | h6
 ·have H := cdT h6 H
  refine tNwS [(1, .pointer (some ⟨g3, 0, none⟩))] 2 [0, 1, 2, 3, 4, 5, 6, 7, 8, 9, 10, 11, 12] [8] [] mixed (by kernel_rfl) (by decide) dD ⟨rfl, trivial⟩ rfl okNil (w_p rfl (cB fa38_0 rfl rfl) ?_)
  refine w_o rfl (fun F => (bI ty35 rfl (aB.app F) rfl)) ?_
  refine w_o rfl (fun F => (bN (c_impl_namesOk v0.1 x_v0.1 h5) rfl (aC (aL (aS aR.s)) aO))) (w_p (v := .bool (true)) rfl ((Pu.eqv (v := .bool (r4)) (aE rfl) (congrArg Value.bool h6))) (w_p rfl (cB fa38_1 rfl rfl) ?_))
  refine w_o rfl (fun F => (bI ty36 rfl (aB.app F) rfl)) (w_p rfl (cB fa38_0 rfl rfl) ?_)
  refine w_o rfl (fun F => (bI ty35 rfl (aB.app F) rfl)) (bdo H fun r7 h8 H => (w_ed rfl (by decide) rfl cL rfl (n_callB (c_impl_indexOf v0.1 x_v0.1 h8) (fun _ => (bF (bF bG))) rfl (aC (aL (aS aR.s)) aO)) ?_))
  rintro _ _ _ ⟨x9, rfl, rfl, rfl⟩
  refine ⟨(aM (by kernel_rfl) (bV rfl rfl (fun F => (bI ty36 rfl (hs2.app F) rfl)) (aM (by kernel_rfl) (bV rfl rfl (fun F => (bI ty35 rfl (hs2.app F) rfl)) bU)))), ?_⟩
  refine w_p rfl ((p_field1 underlying38 rfl ty36 rfl rfl)) (bdo H fun r10 h11 H => ?_)
  refine w_o rfl (fun F => (bN (c_slices_EqualFunc_Post_Post_Post_Post_IndexOk_1 v0.2 x_v0.2 r7.2 x9.2 h11) rfl (aC (aL (aS aR)) (aC (bL (hs1.app F)) aO)))) (w_p rfl (bP rfl rfl) (w_p rfl (p_assign rfl) (cI (nT (?_)))))
  obtain rfl := si H
  exact bQ bk
 ·have H := cdF h6 H
  refine tNwS [(1, .pointer (some ⟨g3, 0, none⟩))] 1 [0, 1, 2, 3, 4, 5, 6, 7, 8, 9, 10, 11, 12] [] [] mixed (by kernel_rfl) (by decide) dD ⟨rfl, trivial⟩ rfl okNil (w_p rfl (cB fa38_0 rfl rfl) ?_)
  refine w_o rfl (fun F => (bI ty35 rfl (aB.app F) rfl)) ?_
  refine w_o rfl (fun F => (bN (c_impl_namesOk v0.1 x_v0.1 h5) rfl (aC (aL (aS aR.s)) aO))) (w_p (v := .bool (false)) rfl ((Pu.eqv (v := .bool (r4)) (aE rfl) (congrArg Value.bool h6))) (cG rfl (by decide) rfl rfl rfl (cG rfl (by decide) rfl rfl rfl (cG rfl (by decide) rfl rfl rfl (cG rfl (by decide) rfl rfl rfl (cG rfl (by decide) rfl rfl rfl (cG rfl (by decide) rfl rfl rfl (cG rfl (by decide) rfl rfl rfl (w_p (v := .bool (false)) rfl (bO rfl rfl) ?_)))))))))
  refine w_p (v := .bool (false)) rfl (p_assign rfl) (cI (nT (?_)))
  obtain rfl := si H
  exact bQ bk
noncomputable def p_impl_rowOk (v0 : Row) : Option (Bool) := bd (bd (p_impl_within v0.1 0 99) fun r4 => cond (r4) (bd (p_impl_within v0.2 (-99) 99) fun r7 => some (r7)) (some (false))) fun b2 => some b2
theorem c_impl_rowOk {r : Bool} (v0 : Row) (H : p_impl_rowOk v0 = some r) : Fn' prog 72 #[.agg #[.int .i64 (v0.1), .int .i64 (v0.2)]] [] [] (ι := Unit) (fun _ => .bool (r)) (fun _ => []) (fun _ => []) := by
 refine cof (args := [_]) func72 ntmps72 fun c => ?_
 unfold p_impl_rowOk at H
 refine sr (f1 (cC (t := 57) rfl) fun g1 => (aH (v := .bool (false)) rfl (nl (bdo H fun b2 j3 H => (cZ [(2, .bool (b2))] ?_ ?_)))))
 ·refine dC [(1, .pointer (some ⟨g1, 0, none⟩))] ⟨rfl, trivial⟩ (aX (cB fa57_0 rfl rfl) (aZ (bI ty3 rfl aB rfl) (bdo j3 fun r4 h5 j3 => (aZ (bN (c_impl_within v0.1 0 99 h5) rfl aO) ?_))))
  rcases aK (r4) with h6 | h6
  ·have j3 := cdT h6 j3
   refine bC (aE rfl) h6 (aY rfl (cB fa57_1 rfl rfl) (bA rfl (bI ty3 rfl aB rfl) (bdo j3 fun r7 h8 j3 => (bA rfl (bN (c_impl_within v0.2 (-99) 99 h8) rfl aO) (aX (bP rfl rfl) (aX (p_assign rfl) ?_))))))
   obtain rfl := si j3
   show At _ _ _ _ _ _
   exact n1 ⟨rfl, trivial⟩
  ·have j3 := cdF h6 j3
   refine bC (aE rfl) h6 ?_
   iterate 3 refine bE rfl ?_
   refine aX (v := .bool (false)) (bO rfl rfl) (aX (v := .bool (false)) (p_assign rfl) ?_)
   obtain rfl := si j3
   show At _ _ _ _ _ _
   exact n1 ⟨rfl, trivial⟩
 obtain rfl := si H
 exact bQ bk
noncomputable def p_impl_BlockOk_b0 (v0 : (List Row)) (Q5 : Int) : Option ((Int) ⊕ (Unit ⊕ Bool)) := cond (decide (Q5 < (v0.length : Int))) (gd (ix Q5 v0.length) <| bd (bd (p_impl_rowOk (nth v0 Q5.toNat)) fun r18 => cond (!r18) (some (true)) (cond (decide (0 < Q5)) (gd (I64 (Q5 - 1)) <| gd (ix (Q5 - 1) v0.length) <| some (decide (((nth v0 Q5.toNat).1) ≤ ((nth v0 ((Q5 - 1).toNat)).1)))) (some (false)))) fun b16 => cond (b16) (some (.inr (.inr false))) (gd (I64 (Q5 + 1)) <| some (.inl (Q5 + 1)))) (some (.inr (.inl ())))
noncomputable def p_impl_BlockOk (v0 : (List Row)) : Option (Bool) := bd (lp (p_impl_BlockOk_b0 v0) 0) <| sw (fun _ => some (decide ((v0.length : Int) ≤ 24))) (fun q => some q)
theorem c_impl_BlockOk {r : Bool} (v0 : (List Row)) (x_v0 : Option Addr × Nat) (H : p_impl_BlockOk v0 = some r) : Fn' prog 78 #[.slice x_v0.1 v0.length x_v0.2] [imm (.slice x_v0.1 v0.length x_v0.2) v0] [] (ι := Unit) (fun _ => .bool (r)) (fun _ => []) (fun _ => []) := by
 refine cof (args := [_]) func78 ntmps78 fun c => ?_
 unfold p_impl_BlockOk at H
 refine sr (aH (v := .bool (false)) rfl (nl (aD (sr (aF rfl (aG (bS 57 dS rfl) (aF (v := .int .i64 (0)) rfl (nl (bdo H fun x1 hx2 H => (cY (Λ := Unit) H (fun _ _ => [(0, .slice x_v0.1 v0.length x_v0.2)]) (fun _ _ => []) ?_ ?_))))))))))
 ·refine aQ (dA hx2 () (fun Q5 _ => [(0, .slice x_v0.1 v0.length x_v0.2), (5, .slice x_v0.1 v0.length x_v0.2), (6, .int .i64 ((v0.length : Int))), (7, .int .i64 (Q5))]) (fun _ _ => []) bK ?_)
  rintro _ Q5 z6 t8 H1 hi9 hb10
  unfold p_impl_BlockOk_b0 at H1
  refine sr (aG (cM rfl rfl) (nl (aD (cH H1 rfl (fun h13 H1 => ?_) (fun h13 H1 => ?_)))))
  ·refine bH (nT (aD (aQ (sr (aF rfl (gdo H1 fun h14 H1 => (aI (bW dS ty57 rfl rfl h14 rfl (aN (aL aR))) (aI (v := .agg #[.int .i64 ((nth v0 Q5.toNat).1), .int .i64 ((nth v0 Q5.toNat).2)]) (cA (i := Q5.toNat) ty57 rfl (aN (aL aR)) h14.lt) (f1 (cD ty57) fun g15 => (aH rfl ?_))))))))))
   refine stb (cs' := [.int .i64 ((nth v0 Q5.toNat).1), .int .i64 ((nth v0 Q5.toNat).2)]) ty57 cV (nl (bdo H1 fun b16 j17 H1 => (cZ [(29, .bool (b16)), (0, .slice x_v0.1 v0.length x_v0.2), (5, .slice x_v0.1 v0.length x_v0.2), (6, .int .i64 ((v0.length : Int))), (7, .int .i64 (Q5))] ?_ ?_)))
   ·refine dB [(3, .int .i64 (Q5)), (4, .pointer (some ⟨g15, 0, none⟩)), (0, .slice x_v0.1 v0.length x_v0.2), (5, .slice x_v0.1 v0.length x_v0.2), (6, .int .i64 ((v0.length : Int))), (7, .int .i64 (Q5))] mixed (.inr (by kernel_rfl)) ⟨rfl, rfl, rfl, rfl, rfl, rfl, trivial⟩ rfl (aZ (bJ ty57 rfl aB rfl) (bdo j17 fun r18 h19 j17 => (aZ (bN (c_impl_rowOk (nth v0 Q5.toNat) h19) rfl aO) (aX (cR rfl) ?_))))
    rcases aK (!r18) with h20 | h20
    ·have j17 := cdT h20 j17
     refine bC (aE rfl) h20 ?_
     iterate 13 refine bE rfl ?_
     refine aX (v := .bool (true)) (bP rfl rfl) ?_
     obtain rfl := si j17
     show At _ _ _ _ _ _
     exact n1 ⟨rfl, rfl, rfl, rfl, rfl, trivial⟩
    ·have j17 := cdF h20 j17
     refine bC (aE rfl) h20 (aY rfl (aE rfl) (aY rfl (cQ rfl rfl) ?_))
     rcases aK (decide (0 < Q5)) with h21 | h21
     ·have j17 := cdT h21 j17
      refine bD rfl (aE rfl) h21 (aY rfl (aE rfl) (aY rfl (aE rfl) (gdo j17 fun h22 j17 => (aY rfl (cN rfl rfl h22) (gdo j17 fun h23 j17 => (bA rfl (bW dS ty57 rfl rfl h23 rfl (aN (aL aR))) (bA rfl (bY (j := 0) ((Q5 - 1).toNat) fa57_0 rfl (aN (aL aR)) h23.lt rfl) (bA rfl (bZ (i := (Q5 - 1).toNat) (j := 0) ty3 rfl (aN (aL aR)) h23.lt rfl) (aY rfl (cB fa57_0 rfl rfl) ?_)))))))))
      refine bA rfl (bI ty3 rfl aB rfl) (aY rfl (p_geq rfl rfl) (aY rfl (bP rfl rfl) (aX (bO rfl rfl) ?_)))
      obtain rfl := si j17
      show At _ _ _ _ _ _
      exact n1 ⟨rfl, rfl, rfl, rfl, rfl, trivial⟩
     ·have j17 := cdF h21 j17
      refine bD rfl (aE rfl) h21 ?_
      iterate 9 refine bE rfl ?_
      refine aY (v := .bool (false)) rfl (bO rfl rfl) (aX (v := .bool (false)) (bO rfl rfl) ?_)
      obtain rfl := si j17
      show At _ _ _ _ _ _
      exact n1 ⟨rfl, rfl, rfl, rfl, rfl, trivial⟩
   refine cH H1 rfl (fun h24 H1 => ?_) (fun h24 H1 => ?_)
   ·refine sr (aH (v := .bool (false)) rfl (nl (bQ (rB (rT (rT (rB (rT (rT (?_))))))))))
    obtain rfl := hb10 _ (sm H1)
    replace H := sw.r H
    obtain rfl := si H
    exact bk
   ·exact bH (nB (nT (aP (gdo H1 fun h25 H1 => (aG (bR rfl rfl h25) (aF rfl (aJ (nLI () (hi9 _ (sm H1)) bK))))))))
  ·exact cW (xT (xT (xE (nMI () (hb10 _ (sm H1)) bK))))
 ·rintro e26 y7 H
  refine nT (sr (aF rfl (aG (bS 57 dS rfl) (aG (p_leq rfl rfl) (aH rfl (nl ?_))))))
  obtain rfl := si H
  exact bQ bk
noncomputable def p_impl_PartOk_b0 (v0 : Part) (Q8 : Int) : Option ((Int) ⊕ (Unit ⊕ Bool)) := cond (decide (Q8 < (v0.1.length : Int))) (gd (ix Q8 v0.1.length) <| bd (bd (p_impl_within (nth v0.1 Q8.toNat) 1 6) fun r20 => cond (!r20) (some (true)) (cond (decide (0 < Q8)) (gd (I64 (Q8 - 1)) <| gd (ix (Q8 - 1) v0.1.length) <| cond (decide ((nth v0.1 Q8.toNat) ≤ (nth v0.1 ((Q8 - 1).toNat)))) (some (true)) (gd (ix Q8 v0.2.length) <| bd (p_impl_BlockOk (nth v0.2 Q8.toNat)) fun r28 => cond (!r28) (some (true)) (some (decide (((nth v0.2 Q8.toNat).length : Int) = 0))))) (gd (ix Q8 v0.2.length) <| bd (p_impl_BlockOk (nth v0.2 Q8.toNat)) fun r32 => cond (!r32) (some (true)) (some (decide (((nth v0.2 Q8.toNat).length : Int) = 0)))))) fun b18 => cond (b18) (some (.inr (.inr false))) (gd (I64 (Q8 + 1)) <| some (.inl (Q8 + 1)))) (some (.inr (.inl ())))
noncomputable def p_impl_PartOk (v0 : Part) : Option (Bool) := cond (!decide ((v0.1.length : Int) = (v0.2.length : Int))) (some false) (bd (lp (p_impl_PartOk_b0 v0) 0) <| sw (fun _ => some true) (fun q => some q))
theorem c_impl_PartOk {r : Bool} (v0 : Part) (x_v0 : (Option Addr × Nat) × (Option Addr × Nat)) (H : p_impl_PartOk v0 = some r) : Fn' prog 39 #[.agg #[.slice x_v0.1.1 v0.1.length x_v0.1.2, .slice x_v0.2.1 v0.2.length x_v0.2.2]] [imm (.slice x_v0.1.1 v0.1.length x_v0.1.2) v0.1, imm (.slice x_v0.2.1 v0.2.length x_v0.2.2) v0.2] [] (ι := Unit) (fun _ => .bool (r)) (fun _ => []) (fun _ => []) := by
 refine cof (args := [_]) func39 ntmps39 fun c => ?_
 unfold p_impl_PartOk at H
 refine bM aR.s fun X1 => (sr (f1 (cC (t := 72) rfl) fun g2 => (aH (v := .bool (false)) rfl (nl (aD (sr (aG (cB fa72_0 rfl rfl) (aI (bI ty69 rfl aB rfl) (aG (bS 3 dT rfl) (aG (cB fa72_1 rfl rfl) (aI (bI ty70 rfl aB rfl) ?_)))))))))))
 refine aG (bS 63 dU rfl) (aG (cO rfl rfl) (nl (cH H rfl (fun h3 H => ?_) (fun h3 H => ?_))))
 ·refine sr (aH (v := .bool (false)) rfl (nl (bQ (rT (?_)))))
  obtain rfl := si H
  exact bk
 ·refine bH (nT (aD (sr (aG (cB fa72_0 rfl rfl) (aI (bI ty69 rfl aB rfl) (aG (bS 3 dT rfl) (aF (v := .int .i64 (0)) rfl (nl (bdo H fun x4 hx5 H => (cY (Λ := Unit) H (fun _ _ => []) (fun _ _ => []) ?_ ?_))))))))))
  ·refine aQ (dA hx5 () (fun Q8 _ => [(1, .pointer (some ⟨g2, 0, none⟩)), (13, .slice x_v0.1.1 v0.1.length x_v0.1.2), (14, .int .i64 ((v0.1.length : Int))), (15, .int .i64 (Q8))]) (fun _ _ => [box g2 72 [.slice x_v0.1.1 v0.1.length x_v0.1.2, .slice x_v0.2.1 v0.2.length x_v0.2.2]]) (.cons aA .nil) ?_)
   rintro _ Q8 z9 t11 H1 hi12 hb13
   unfold p_impl_PartOk_b0 at H1
   refine sr (aG (cM rfl rfl) (nl (aD (cH H1 rfl (fun h16 H1 => ?_) (fun h16 H1 => ?_)))))
   ·refine bH (nT (aD (aQ (sr (aF rfl (gdo H1 fun h17 H1 => (aI (bW dT ty3 rfl rfl h17 rfl (aN (aL aR.s))) (aI (bZ (i := Q8.toNat) (j := 0) ty3 rfl (aN (aL aR.s)) h17.lt rfl) (aH rfl (aH rfl (nl ?_)))))))))))
    refine bdo H1 fun b18 j19 H1 => (cZ [(54, .bool (b18)), (1, .pointer (some ⟨g2, 0, none⟩)), (13, .slice x_v0.1.1 v0.1.length x_v0.1.2), (14, .int .i64 ((v0.1.length : Int))), (15, .int .i64 (Q8))] ?_ ?_)
    ·refine dC [(4, .int .i64 (nth v0.1 Q8.toNat)), (3, .int .i64 (Q8)), (1, .pointer (some ⟨g2, 0, none⟩)), (13, .slice x_v0.1.1 v0.1.length x_v0.1.2), (14, .int .i64 ((v0.1.length : Int))), (15, .int .i64 (Q8))] ⟨rfl, rfl, rfl, rfl, rfl, rfl, trivial⟩ (bB rfl (bdo j19 fun r20 h21 j19 => (aZ (bN (c_impl_within (nth v0.1 Q8.toNat) 1 6 h21) rfl aO) (aX (cR rfl) ?_))))
     rcases aK (!r20) with h22 | h22
     ·have j19 := cdT h22 j19
      refine bC (aE rfl) h22 ?_
      iterate 12 refine bE rfl ?_
      refine aX (v := .bool (true)) (bP rfl rfl) (bB (v := .bool (true)) rfl ?_)
      iterate 7 refine bE rfl ?_
      refine aX (v := .bool (true)) (bP rfl rfl) (bB (v := .bool (true)) rfl ?_)
      iterate 7 refine bE rfl ?_
      refine aX (v := .bool (true)) (bP rfl rfl) ?_
      obtain rfl := si j19
      show At _ _ _ _ _ _
      exact n1 ⟨rfl, rfl, rfl, rfl, rfl, trivial⟩
     ·have j19 := cdF h22 j19
      refine bC (aE rfl) h22 (aY rfl (aE rfl) (aY rfl (cQ rfl rfl) ?_))
      rcases aK (decide (0 < Q8)) with h23 | h23
      ·have j19 := cdT h23 j19
       refine bD rfl (aE rfl) h23 (aY rfl (cB fa72_0 rfl rfl) (bA rfl (bI ty69 rfl aB rfl) (aY rfl (aE rfl) (gdo j19 fun h24 j19 => (aY rfl (cN rfl rfl h24) (gdo j19 fun h25 j19 => (bA rfl (bW dT ty3 rfl rfl h25 rfl (aN (aL aR.s))) (bA rfl (bZ (i := (Q8 - 1).toNat) (j := 0) ty3 rfl (aN (aL aR.s)) h25.lt rfl) (aY rfl (aE rfl) ?_)))))))))
       refine aY rfl (p_geq rfl rfl) (aY rfl (bP rfl rfl) (aX (bO rfl rfl) ?_))
       rcases aK (decide ((nth v0.1 Q8.toNat) ≤ (nth v0.1 ((Q8 - 1).toNat)))) with h26 | h26
       ·have j19 := cdT h26 j19
        refine bC (aE rfl) h26 ?_
        iterate 7 refine bE rfl ?_
        refine aX (v := .bool (true)) (bP rfl rfl) (bB (v := .bool (true)) rfl ?_)
        iterate 7 refine bE rfl ?_
        refine aX (v := .bool (true)) (bP rfl rfl) ?_
        obtain rfl := si j19
        show At _ _ _ _ _ _
        exact n1 ⟨rfl, rfl, rfl, rfl, rfl, trivial⟩
       ·have j19 := cdF h26 j19
        refine bC (aE rfl) h26 (aY rfl (cB fa72_1 rfl rfl) (bA rfl (bI ty70 rfl aB rfl) (aY rfl (aE rfl) (gdo j19 fun h27 j19 => (bA rfl (bW dU ty63 rfl rfl h27 rfl (aL (aT aR))) (bA rfl (bZ (i := Q8.toNat) (j := 0) ty63 rfl (aL (aT aR)) h27.lt rfl) (bdo j19 fun r28 h29 j19 => (bA rfl (bN (c_impl_BlockOk (nth v0.2 Q8.toNat) ((X1 Q8.toNat).1, (X1 Q8.toNat).2.1) h29) rfl (aC (aL (aS (aW aR h27.lt))) aO)) (aY rfl (cR rfl) ?_)))))))))
        refine aX (bO rfl rfl) ?_
        rcases aK (!r28) with h30 | h30
        ·have j19 := cdT h30 j19
         refine bC (aE rfl) h30 ?_
         iterate 7 refine bE rfl ?_
         refine aX (v := .bool (true)) (bP rfl rfl) ?_
         obtain rfl := si j19
         show At _ _ _ _ _ _
         exact n1 ⟨rfl, rfl, rfl, rfl, rfl, trivial⟩
        ·have j19 := cdF h30 j19
         refine bC (aE rfl) h30 (aY rfl (cB fa72_1 rfl rfl) (bA rfl (bI ty70 rfl aB rfl) (aY rfl (aE rfl) (bA rfl (bW dU ty63 rfl rfl h27 rfl (aL (aT aR))) (bA rfl (bZ (i := Q8.toNat) (j := 0) ty63 rfl (aL (aT aR)) h27.lt rfl) (aY rfl (bS 57 dS rfl) (aY rfl (cP rfl rfl) (aX (bO rfl rfl) ?_))))))))
         obtain rfl := si j19
         show At _ _ _ _ _ _
         exact n1 ⟨rfl, rfl, rfl, rfl, rfl, trivial⟩
      ·have j19 := cdF h23 j19
       refine bD rfl (aE rfl) h23 ?_
       iterate 8 refine bE rfl ?_
       refine aY (v := .bool (false)) rfl (bO rfl rfl) (aX (v := .bool (false)) (bO rfl rfl) (bB (v := .bool (false)) rfl (aY rfl (cB fa72_1 rfl rfl) (bA rfl (bI ty70 rfl aB rfl) (aY rfl (aE rfl) (gdo j19 fun h31 j19 => (bA rfl (bW dU ty63 rfl rfl h31 rfl (aL (aT aR))) (bA rfl (bZ (i := Q8.toNat) (j := 0) ty63 rfl (aL (aT aR)) h31.lt rfl) (bdo j19 fun r32 h33 j19 => ?_)))))))))
       refine bA rfl (bN (c_impl_BlockOk (nth v0.2 Q8.toNat) ((X1 Q8.toNat).1, (X1 Q8.toNat).2.1) h33) rfl (aC (aL (aS (aW aR h31.lt))) aO)) (aY rfl (cR rfl) (aX (bO rfl rfl) ?_))
       rcases aK (!r32) with h34 | h34
       ·have j19 := cdT h34 j19
        refine bC (aE rfl) h34 ?_
        iterate 7 refine bE rfl ?_
        refine aX (v := .bool (true)) (bP rfl rfl) ?_
        obtain rfl := si j19
        show At _ _ _ _ _ _
        exact n1 ⟨rfl, rfl, rfl, rfl, rfl, trivial⟩
       ·have j19 := cdF h34 j19
        refine bC (aE rfl) h34 (aY rfl (cB fa72_1 rfl rfl) (bA rfl (bI ty70 rfl aB rfl) (aY rfl (aE rfl) (bA rfl (bW dU ty63 rfl rfl h31 rfl (aL (aT aR))) (bA rfl (bZ (i := Q8.toNat) (j := 0) ty63 rfl (aL (aT aR)) h31.lt rfl) (aY rfl (bS 57 dS rfl) (aY rfl (cP rfl rfl) (aX (bO rfl rfl) ?_))))))))
        obtain rfl := si j19
        show At _ _ _ _ _ _
        exact n1 ⟨rfl, rfl, rfl, rfl, rfl, trivial⟩
    refine cH H1 rfl (fun h35 H1 => ?_) (fun h35 H1 => ?_)
    ·refine sr (aH (v := .bool (false)) rfl (nl (bQ (rB (rT (rT (rB (rT (rT (?_))))))))))
     obtain rfl := hb13 _ (sm H1)
     replace H := sw.r H
     obtain rfl := si H
     exact bk
    ·exact bH (nB (nT (aP (gdo H1 fun h36 H1 => (aG (bR rfl rfl h36) (aF rfl (aJ (nLI () (hi12 _ (sm H1)) (.cons aA .nil)))))))))
   ·exact cW (xT (xT (xE (nMI () (hb13 _ (sm H1)) bK))))
  ·rintro e37 y10 H
   refine nT (sr (aH (v := .bool (true)) rfl (nl ?_)))
   obtain rfl := si H
   exact bQ bk
noncomputable def p_slices_Max_int_int_b0 (v0 : (List Int)) (Q7 : Int × Int) : Option ((Int × Int) ⊕ (Int)) := cond (decide (Q7.2 < (v0.length : Int))) (gd (ix Q7.2 v0.length) <| gd (I64 (Q7.2 + 1)) <| some (.inl (max Q7.1 (nth v0 Q7.2.toNat), Q7.2 + 1))) (some (.inr Q7.1))
noncomputable def p_slices_Max_int_int (v0 : (List Int)) : Option (Int) := cond (decide ((v0.length : Int) < 1)) (none) (gd (ix 0 v0.length) <| bd (lp (p_slices_Max_int_int_b0 v0) (nth v0 0, 1)) fun x3 => some x3)
theorem c_slices_Max_int_int {r : Int} (v0 : (List Int)) (x_v0 : Option Addr × Nat) (H : p_slices_Max_int_int v0 = some r) : Fn' prog 70 #[.slice x_v0.1 v0.length x_v0.2] [imm (.slice x_v0.1 v0.length x_v0.2) v0] [] (ι := Unit) (fun _ => .int .i64 (r)) (fun _ => []) (fun _ => []) := by
 refine cof (args := [_]) func70 ntmps70 fun c => ?_
 unfold p_slices_Max_int_int at H
 refine sr (aH (v := .int .i64 (0)) rfl (nl (aD (sr (aF rfl (aG (bS 3 dT rfl) (aG (cM rfl rfl) (nl (cH H rfl (fun h1 H => ?_) (fun h1 H => ?_))))))))))
 ·exact nomatch H
 ·refine bH (nT (sr (aF rfl (gdo H fun h2 H => (aI (bW dT ty3 rfl rfl h2 rfl (aN (aL aR))) (aI (bZ (i := 0) (j := 0) ty3 rfl (aN (aL aR)) h2.lt rfl) (aH rfl (nl (aD (sr (aH (v := .int .i64 (1)) rfl (nl ?_))))))))))))
  refine bdo H fun x3 hx4 H => (cX (ι := Unit) (fun ψ => [(3, .int .i64 (x3))]) (fun ψ => []) ?_ ?_)
  ·refine aQ (dA hx4 () (fun Q7 _ => [(0, .slice x_v0.1 v0.length x_v0.2), (3, .int .i64 (Q7.1)), (4, .int .i64 (Q7.2))]) (fun _ _ => []) bK ?_)
   rintro _ Q7 z8 t10 H1 hi11 hb12
   unfold p_slices_Max_int_int_b0 at H1
   refine aD (sr (aF rfl (aF rfl (aG (bS 3 dT rfl) (aG (cM rfl rfl) (nl (cH H1 rfl (fun h15 H1 => ?_) (fun h15 H1 => ?_))))))))
   ·refine bH (nT (aD (aQ (aP (aF rfl (aF rfl (aF rfl (gdo H1 fun h16 H1 => (aI (bW dT ty3 rfl rfl h16 rfl (aN (aL aR))) (aI (bZ (i := Q7.2.toNat) (j := 0) ty3 rfl (aN (aL aR)) h16.lt rfl) ?_))))))))))
    exact aG (v := .int .i64 (max Q7.1 (nth v0 Q7.2.toNat))) (p_max rfl rfl) (aH rfl (aJ (nB (nT (aP (aF rfl (gdo H1 fun h17 H1 => (aG (bR rfl rfl h17) (aH rfl (aJ (nLI () (hi11 _ (sm H1)) bK)))))))))))
   ·refine cW (xT (xT (xE (?_))))
    obtain rfl := hb12 _ (sm H1)
    exact nMC () ⟨rfl, trivial⟩ bT bK
  ·intro y9
   show At _ _ [(3, .int .i64 (x3))] _ [] _
   refine nT (sr (aF rfl (aH rfl (nl ?_))))
   obtain rfl := si H
   exact bQ bk
noncomputable def p_slices_Index_int_int_b0 (v0 : (List Int)) (v1 : Int) (Q5 : Int) : Option ((Int) ⊕ (Unit ⊕ Int)) := cond (decide (Q5 < (v0.length : Int))) (gd (ix Q5 v0.length) <| cond (decide (v1 = (nth v0 Q5.toNat))) (some (.inr (.inr Q5))) (gd (I64 (Q5 + 1)) <| some (.inl (Q5 + 1)))) (some (.inr (.inl ())))
noncomputable def p_slices_Index_int_int (v0 : (List Int)) (v1 : Int) : Option (Int) := bd (lp (p_slices_Index_int_int_b0 v0 v1) 0) <| sw (fun _ => some (-1)) (fun q => some q)
theorem c_slices_Index_int_int {r : Int} (v0 : (List Int)) (x_v0 : Option Addr × Nat) (v1 : Int) (H : p_slices_Index_int_int v0 v1 = some r) : Fn' prog 80 #[.slice x_v0.1 v0.length x_v0.2, .int .i64 (v1)] [imm (.slice x_v0.1 v0.length x_v0.2) v0] [] (ι := Unit) (fun _ => .int .i64 (r)) (fun _ => []) (fun _ => []) := by
 refine cof (args := [_, _]) func80 ntmps80 fun c => ?_
 unfold p_slices_Index_int_int at H
 refine sr (aH (v := .int .i64 (0)) rfl (nl (aD (sr (aF rfl (aG (bS 3 dT rfl) (aF (v := .int .i64 (0)) rfl (nl (bdo H fun x1 hx2 H => (cY (Λ := Unit) H (fun _ _ => []) (fun _ _ => []) ?_ ?_))))))))))
 ·refine aQ (dA hx2 () (fun Q5 _ => [(0, .slice x_v0.1 v0.length x_v0.2), (1, .int .i64 (v1)), (7, .int .i64 ((v0.length : Int))), (8, .int .i64 (Q5))]) (fun _ _ => []) bK ?_)
  rintro _ Q5 z6 t8 H1 hi9 hb10
  unfold p_slices_Index_int_int_b0 at H1
  refine sr (aG (cM rfl rfl) (nl (aD (cH H1 rfl (fun h13 H1 => ?_) (fun h13 H1 => ?_)))))
  ·refine bH (nT (aD (aQ (sr (aF rfl (aH rfl (nl (sr (aF rfl (aF rfl (aF rfl ?_)))))))))))
   refine gdo H1 fun h14 H1 => (aI (bW dT ty3 rfl rfl h14 rfl (aN (aL aR))) (aI (bZ (i := Q5.toNat) (j := 0) ty3 rfl (aN (aL aR)) h14.lt rfl) (aG (cP rfl rfl) (nl (cH H1 rfl (fun h15 H1 => ?_) (fun h15 H1 => ?_))))))
   ·refine sr (aF rfl (aH rfl (nl (bQ (rB (rT (rT (rB (rT (rT (?_)))))))))))
    obtain rfl := hb10 _ (sm H1)
    replace H := sw.r H
    obtain rfl := si H
    exact bk
   ·exact bH (nB (nT (aP (gdo H1 fun h16 H1 => (aG (bR rfl rfl h16) (aF rfl (aJ (nLI () (hi9 _ (sm H1)) bK))))))))
  ·exact cW (xT (xT (xE (nMI () (hb10 _ (sm H1)) bK))))
 ·rintro e17 y7 H
  refine nT (sr (aH (v := .int .i64 (-1)) rfl (nl ?_)))
  obtain rfl := si H
  exact bQ bk
noncomputable def p_impl_PartOf (v0 : Part) (v1 : Int) : Option ((List Row)) := bd (p_slices_Index_int_int v0.1 v1) fun r3 => bd (bd (p_impl_PartOk v0) fun r7 => cond (!r7) (some (true)) (some (decide (r3 < 0)))) fun b5 => cond (b5) (some ([] : List Row)) (gd (ix r3 v0.2.length) <| gd (room (([] : List Row).length + (nth v0.2 r3.toNat).length)) <| some (([] : List Row) ++ (nth v0.2 r3.toNat)))
theorem c_impl_PartOf {r : (List Row)} (v0 : Part) (x_v0 : (Option Addr × Nat) × (Option Addr × Nat)) (v1 : Int) (H : p_impl_PartOf v0 v1 = some r) : Fn' prog 29 #[.agg #[.slice x_v0.1.1 v0.1.length x_v0.1.2, .slice x_v0.2.1 v0.2.length x_v0.2.2], .int .i64 (v1)] [imm (.slice x_v0.1.1 v0.1.length x_v0.1.2) v0.1, imm (.slice x_v0.2.1 v0.2.length x_v0.2.2) v0.2] [] (ι := Option Addr × Nat) (fun x => .slice x.1 r.length x.2) (fun _ => []) (fun x => [tree (.slice x.1 r.length x.2) r]) := by
 refine cof (args := [_, _]) func29 ntmps29 fun c => ?_
 unfold p_impl_PartOf at H
 refine bM aR.s fun X1 => (sr (f1 (cC (t := 72) rfl) fun g2 => (aH (v := .slice none 0 0) rfl (nl (sr (aG (cB fa72_0 rfl rfl) (aI (bI ty69 rfl aB rfl) (aF rfl (bdo H fun r3 h4 H => (aI (bN (c_slices_Index_int_int v0.1 x_v0.1 v1 h4) rfl (aC (aL aR.s) aO)) ?_))))))))))
 refine aH rfl (nl (aD (bdo H fun b5 j6 H => (cZ [(16, .bool (b5)), (5, .int .i64 (r3)), (2, .pointer (some ⟨g2, 0, none⟩))] ?_ ?_))))
 ·refine dC [(5, .int .i64 (r3)), (2, .pointer (some ⟨g2, 0, none⟩))] ⟨rfl, rfl, trivial⟩ (aZ (bJ ty72 rfl aB rfl) (bdo j6 fun r7 h8 j6 => (aZ (bN (c_impl_PartOk v0 x_v0 h8) rfl (aC (aL aR.s) (aC (aL (aS aR)) aO))) (aX (cR rfl) ?_))))
  rcases aK (!r7) with h9 | h9
  ·have j6 := cdT h9 j6
   refine bC (aE rfl) h9 ?_
   iterate 2 refine bE rfl ?_
   refine aX (v := .bool (true)) (bP rfl rfl) ?_
   obtain rfl := si j6
   show At _ _ _ _ _ _
   exact n1 ⟨rfl, rfl, rfl, trivial⟩
  ·have j6 := cdF h9 j6
   refine bC (aE rfl) h9 (aY rfl (aE rfl) (aY rfl (cM rfl rfl) (aX (bO rfl rfl) ?_)))
   obtain rfl := si j6
   show At _ _ _ _ _ _
   exact n1 ⟨rfl, rfl, rfl, trivial⟩
 refine cH H rfl (fun h10 H => ?_) (fun h10 H => ?_)
 ·refine sr (f2 (e_lit0 Row dS ty57) fun a11 c12 => (aH rfl (nl (bQ (rT (?_))))))
  obtain rfl := si H
  exact back1 (a11, c12) rfl (ResV.tmp (v := .slice a11 (([] : List Row).length) c12) rfl) rfl cK (.cons aA .nil)
 ·refine bH (nT (sr (f2 (e_lit0 Row dS ty57) fun a13 c14 => (aG (cB fa72_1 rfl rfl) (aI (bI ty70 rfl hs1 rfl) (aF rfl (gdo H fun h15 H => (aI (bW dU ty63 rfl rfl h15 rfl (aL (aT aR))) (aI (bZ (i := r3.toNat) (j := 0) ty63 rfl (aL (aT aR)) h15.lt rfl) ?_)))))))))
  refine gdo H fun h18 H => (f2 (e_appF (l := ([] : List Row)) (k := nth v0.2 r3.toNat) (α := Row) dS ty57 rfl rfl (h18.b (by decide)) h18.x (.cons aA .nil) (aL (aS (aW aR h15.lt)))) fun a16 c17 => (aH rfl (nl (bQ ?_))))
  obtain rfl := si H
  exact back1 (a16, c17) rfl (ResV.tmp (v := .slice a16 ((([] : List Row) ++ (nth v0.2 r3.toNat)).length) c17) rfl) rfl cK (.cons aA .nil)
def p_slices_Insert_Row_Row (v0 : List Row) (v1 : Int) (v2 : List Row) : Option (List Row) := p_insert v0 v1 v2
theorem c_slices_Insert_Row_Row {r : (List Row)} (v0 : (List Row)) (x_v0 : Option Addr × Nat) (v1 : Int) (v2 : (List Row)) (x_v2 : Option Addr × Nat) (H : p_slices_Insert_Row_Row v0 v1 v2 = some r) : Fn' prog 134 #[.slice x_v0.1 v0.length x_v0.2, .int .i64 (v1), .slice x_v2.1 v2.length x_v2.2] [] [tree (.slice x_v0.1 v0.length x_v0.2) v0, tree (.slice x_v2.1 v2.length x_v2.2) v2] (ι := Option Addr × Nat) (fun x => .slice x.1 r.length x.2) (fun _ => []) (fun x => [tree (.slice x.1 r.length x.2) r]) := by
 refine cof (args := [_, _, _]) func134 ntmps134 fun c => ?_
 unfold p_slices_Insert_Row_Row p_insert at H
 obtain ⟨h1, H⟩ := gd.of H; obtain ⟨h2, H⟩ := gd.of H; obtain ⟨h3, H⟩ := gd.of H
 obtain ⟨oa, cp⟩ := x_v0; obtain ⟨ob, cq⟩ := x_v2
 obtain ⟨i, rfl⟩ := Int.eq_ofNat_of_zero_le h1.1
 have hi : i ≤ v0.length := Int.ofNat_le.1 h1.2
 have hr : v0.take i ++ v2 ++ v0.drop i = r := Option.some.inj H
 subst hr
 have hrm : v0.length + v2.length ≤ 1073741824 := h2
 refine Tr.bnd aB fun _ b1 b2 => (sr (aH (v := .slice none 0 0) rfl (aJ (nT (sr (aF rfl (aF rfl (aG (v := .slice (subA oa cp (i : Int).toNat (Enc.sz Row)) (v0.length - (i : Int).toNat) (cp - (i : Int).toNat)) (p_slAny dS (show TyI _ _ _ (Enc.sz Row) _ _ from ty57) rfl rfl h1.1 h1.2 b1) (aJ (nT (sr ?_)))))))))))
 refine aF rfl (aG (bS 57 dS rfl) (aH rfl (aJ (nT (aD (sr (aF rfl (aG (cP rfl rfl) (aJ (nT (Tr.cond (b := decide ((v2.length : Int) = 0)) rfl (fun h => absurd (of_decide_eq_true h) (by omega)) (fun _ => (bH ?_)))))))))))))
 refine nT (sr (aF rfl (aG (bS 57 dS rfl) (aH rfl (aJ (nT (aD (sr (aF rfl (aF rfl (aG (cP rfl rfl) (aJ ?_))))))))))))
 refine nT (Tr.cond (b := decide ((i : Int) = (v0.length : Int))) rfl (fun h => ?_) (fun h => ?_))
 ·have hin : i = v0.length := Int.ofNat_inj.1 (of_decide_eq_true h)
  subst hin
  refine sr (aF rfl (aF rfl (f2 (e_appF (l := v0) (k := v2) (α := Row) dS ty57 rfl rfl (room.b h2 (by decide)) (room.x h2) (.cons aA .nil) (bL aB)) fun oa2 cp2 => (aH rfl (aJ (nT (bQ ?_)))))))
  have hE : v0.take v0.length ++ v2 ++ v0.drop v0.length = v0 ++ v2 := by rw [List.take_length, List.drop_length, List.append_nil]
  rw [hE]
  exact back1 (oa2, cp2) rfl (ResV.tmp (v := .slice oa2 ((v0 ++ v2).length) (cp2)) rfl) rfl cK (.cons aA .nil)
 have hne : i < v0.length := Nat.lt_of_le_of_ne hi fun e => absurd (e ▸ h) (by simp)
 refine bH (nT (aD (sr (aF rfl (aF rfl ?_)))))
 refine aG (bR rfl rfl (by unfold I64; omega)) ?_
 refine aF rfl (aG (v := .int .i64 (cp : Int)) (p_cap 57 dS rfl) (aG (cQ rfl rfl) (aJ (nT (Tr.unT (.cons aA .nil) (by omega) fun g bt js e1 _ _ _ l1 l2 l3 => ?_)))))
 subst e1
 have l2 : v0.length * Enc.sz Row + js.length = cp * Enc.sz Row := l2
 refine Tr.unT (.cons (Del.there aA) .nil) h3 fun g2 bt2 js2 e1 _ _ _ k1 k2 k3 => ?_
 subst e1
 have hA1 : ((v0.take i).flatMap Flat.enc).length = i * Enc.sz Row := by rw [flat_flen fun x hx => (l3 x (List.mem_of_mem_take hx)).2.1, List.length_take, Nat.min_eq_left hi]
 have hA2 : ((v0.drop i).flatMap Flat.enc).length = (v0.length - i) * Enc.sz Row := by rw [flat_flen fun x hx => (l3 x (List.mem_of_mem_drop hx)).2.1, List.length_drop]
 have hAA : v0.flatMap Flat.enc = (v0.take i).flatMap Flat.enc ++ (v0.drop i).flatMap Flat.enc := by rw [← List.flatMap_append, List.take_append_drop]
 have hall : ∀ x ∈ v0.take i ++ v2 ++ v0.drop i, Flat.wf x ∧ (Flat.enc x).length = Enc.sz Row := ins_all (fun x hx => ⟨(l3 x hx).1, (l3 x hx).2.1⟩) (fun x hx => ⟨(k3 x hx).1, (k3 x hx).2.1⟩)
 have hlen : (v0.take i ++ v2 ++ v0.drop i).length = v0.length + v2.length := by simp; omega
 have o1 : ∀ v ∈ (v0.drop i).flatMap Flat.enc, v.oneCell' = true := fun v hv => by obtain ⟨x, hx, hv⟩ := List.mem_flatMap.1 hv; exact (l3 x (List.mem_of_mem_drop hx)).2.2 v hv
 have o2 : ∀ v ∈ v2.flatMap Flat.enc, v.oneCell' = true := fun v hv => by obtain ⟨x, hx, hv⟩ := List.mem_flatMap.1 hv; exact (k3 x hx).2.2 v hv
 have q0 : i * Enc.sz Row + v2.length * Enc.sz Row = (i + v2.length) * Enc.sz Row := (Nat.add_mul _ _ _).symm
 have q1 : i * Enc.sz Row + (v0.length - i) * Enc.sz Row = v0.length * Enc.sz Row := by rw [← Nat.add_mul]; congr 1; omega
 have q2 : (v0.length + v2.length) * Enc.sz Row = v0.length * Enc.sz Row + v2.length * Enc.sz Row := Nat.add_mul _ _ _
 refine Tr.cond (b := decide ((cp : Int) < (v0.length : Int) + (v2.length : Int))) rfl (fun h => ?_) (fun h => ?_)
 ·have h := of_decide_eq_true h
  refine sr (aF rfl (aF rfl (aG (v := .slice (some ⟨g, 0, none⟩) (i) (cp)) (p_slHi i dS (show TyI _ _ _ (Enc.sz Row) _ _ from ty57) rfl rfl rfl (by omega)) (aF rfl (aF rfl ?_)))))
  refine aG (bR rfl rfl (by unfold I64; omega)) ?_
  refine aF rfl ?_
  refine aG (cN rfl rfl (by unfold I64; omega)) ?_
  refine Rg.ef (e_appZ (k := v0.length + v2.length - i) (olds := (v0.take i).flatMap Flat.enc) dS underlying3 (show TyI _ _ _ (Enc.sz Row) _ _ from ty57) (Enc.pos (α := Row)) rfl rfl (by omega) (Has.there aB) (by rw [hAA, List.append_assoc, ← hA1]; exact List.take_left.symm) hA1 (by omega) (by omega) (by rw [show i + (v0.length + v2.length - i) = v0.length + v2.length by omega]; exact room.b h2 (by decide)) (by omega)) rfl ?_
  rintro _ _ _ ⟨g3, cp3, js3, rfl, m1, m2, m3, rfl, rfl⟩
  refine aH rfl (nl ?_)
  have hn3 : i + (v0.length + v2.length - i) = v0.length + v2.length := by omega
  have m4 := Nat.mul_le_mul_right (Enc.sz Row) m1
  rw [hn3] at m4
  refine sr (aF rfl (aF rfl (aG (v := .slice (some ⟨g3, i * Enc.sz Row, none⟩) (i + (v0.length + v2.length - i) - i) (cp3 - i)) (p_slLo i dS (show TyI _ _ _ (Enc.sz Row) _ _ from ty57) rfl rfl rfl (by omega) m1 (by omega)) (aF rfl ?_))))
  refine f0 (e_cpB (m := v2.length) (ks := v2.flatMap Flat.enc) dS (show TyI _ _ _ (Enc.sz Row) _ _ from ty57) rfl rfl (Nat.min_eq_left (by omega)) (by rw [List.drop_zero, ← k1]; exact List.take_left.symm) k1 cV (Has.there aB) (by rw [List.length_append, hA1]; omega) o2) ?_
  refine aJ (nT (aD (tNw 2 [0, 1, 2, 3, 4, 5, 6, 7, 8] [8] [] mixed (by kernel_rfl) (by decide) dD okNil (w_p rfl (aE rfl) (w_p rfl (aE rfl) (w_p rfl (aE rfl) ?_))))))
  refine w_p rfl (bR rfl rfl (by unfold I64; omega)) ?_
  refine w_p (v := .slice (some ⟨g3, (i + v2.length) * Enc.sz Row, none⟩) (i + (v0.length + v2.length - i) - (i + v2.length)) (cp3 - (i + v2.length))) rfl (p_slLo (i + v2.length) dS (show TyI _ _ _ (Enc.sz Row) _ _ from ty57) rfl rfl rfl (by omega) m1 (by omega)) (w_p rfl (aE rfl) (w_p rfl (aE rfl) (w_p (v := .slice (some ⟨g, i * Enc.sz Row, none⟩) (v0.length - i) (cp - i)) rfl (p_slLo i dS (show TyI _ _ _ (Enc.sz Row) _ _ from ty57) rfl rfl rfl (by omega) b1 (by omega)) ?_)))
  refine w_ed rfl (by decide) rfl cL rfl (n_cpB (m := v0.length - i) (ks := (v0.drop i).flatMap Flat.enc) dS (show TyI _ _ _ (Enc.sz Row) _ _ from ty57) rfl rfl (Nat.min_eq_left (by omega)) (by rw [hAA, List.append_assoc, ← hA1, List.drop_left, ← hA2]; exact List.take_left.symm) hA2 cV (Has.there (Has.there aB)) (by rw [← q0, Nat.add_assoc]; exact hlenNew hA1 k1 (by omega)) o1) ?_
  rintro _ _ _ ⟨rfl, rfl, rfl⟩
  refine ⟨bU, ?_⟩
  refine cI (nT (sr (aF rfl (aH rfl (aJ (nT (bQ ?_)))))))
  refine At.mkF (n := i + (v0.length + v2.length - i)) (v0.take i ++ v2 ++ v0.drop i) (js3.drop (v2.length * Enc.sz Row + (v0.length - i) * Enc.sz Row)) (.cons aA .nil) (by omega) (by rw [← q0, ins_new hA1 k1 hA2 (by omega), List.flatMap_append, List.flatMap_append]) (by omega) m2 (by rw [← q0, ins_new hA1 k1 hA2 (by omega)]; simp only [List.length_append, List.length_drop, hA1, k1, hA2]; omega) hall ?_
  exact back1 (some ⟨g3, 0, none⟩, cp3) rfl (ResV.tmp (v := .slice (some ⟨g3, 0, none⟩) (i + (v0.length + v2.length - i)) (cp3)) rfl) (by rw [hlen, hn3]) cK (.cons (by rw [hlen, hn3]; exact aA) .nil)
 have h := of_decide_eq_false h
 refine bH (nT ?_)
 have p4 := Nat.mul_le_mul_right (Enc.sz Row) (show v0.length + v2.length ≤ cp by omega)
 refine sr (aF rfl (aF rfl (aF rfl ?_)))
 refine aG (bR rfl rfl (by unfold I64; omega)) ?_
 refine aG (v := .slice (some ⟨g, 0, none⟩) (v0.length + v2.length) (cp)) (p_slHi (v0.length + v2.length) dS (show TyI _ _ _ (Enc.sz Row) _ _ from ty57) rfl rfl (by omega) (by omega)) (aH rfl (aJ (nT (aD (sr (aF rfl (aF rfl (aF rfl (aF rfl ?_)))))))))
 refine aG (bR rfl rfl (by unfold I64; omega)) ?_
 refine aG (v := .slice (some ⟨g, (i + v2.length) * Enc.sz Row, none⟩) (v0.length + v2.length - (i + v2.length)) (cp - (i + v2.length))) (p_slLo (i + v2.length) dS (show TyI _ _ _ (Enc.sz Row) _ _ from ty57) rfl rfl rfl (by omega) (by omega) (by omega)) ?_
 refine aI (v := .bool (false)) (q_ov (tR := 4) func183 (by kernel_rfl) (by kernel_rfl) (by kernel_rfl) (by kernel_rfl) dS (show TyI _ _ _ (Enc.sz Row) _ _ from ty57) rfl rfl (.cons aA (.cons aA .nil)) (cells_ne (by rw [l1]; have := Nat.mul_le_mul_right (Enc.sz Row) (show 1 ≤ v0.length by omega); have := Enc.pos (α := Row); omega))) ?_
 refine aG (cR rfl) (aJ (nT (Tr.condT rfl (aD (tNw 2 [0, 1, 2, 3, 4, 5, 6, 7, 8] [8] [] mixed (by kernel_rfl) (by decide) dD okNil (w_p rfl (aE rfl) (w_p rfl (aE rfl) (w_p rfl (aE rfl) ?_))))))))
 refine w_p rfl (bR rfl rfl (by unfold I64; omega)) ?_
 refine w_p (v := .slice (some ⟨g, (i + v2.length) * Enc.sz Row, none⟩) (v0.length + v2.length - (i + v2.length)) (cp - (i + v2.length))) rfl (p_slLo (i + v2.length) dS (show TyI _ _ _ (Enc.sz Row) _ _ from ty57) rfl rfl rfl (by omega) (by omega) (by omega)) (w_p rfl (aE rfl) (w_p rfl (aE rfl) (w_p (v := .slice (some ⟨g, i * Enc.sz Row, none⟩) (v0.length + v2.length - i) (cp - i)) rfl (p_slLo i dS (show TyI _ _ _ (Enc.sz Row) _ _ from ty57) rfl rfl rfl (by omega) (by omega) (by omega)) ?_)))
 refine w_ed rfl (by decide) rfl cL rfl (n_cpB (m := v0.length - i) (ks := (v0.drop i).flatMap Flat.enc) dS (show TyI _ _ _ (Enc.sz Row) _ _ from ty57) rfl rfl (by show min _ _ = _; omega) (by rw [hAA, List.append_assoc, ← hA1, List.drop_left, ← hA2]; exact List.take_left.symm) hA2 (Upd.there cV) (Has.there aB) (by rw [List.length_append, l1, ← q0]; omega) o1) ?_
 rintro _ _ _ ⟨rfl, rfl, rfl⟩
 refine ⟨bU, ?_⟩
 refine cI (nT (sr (aF rfl (aF rfl (aG (v := .slice (some ⟨g, i * Enc.sz Row, none⟩) (v0.length + v2.length - i) (cp - i)) (p_slLo i dS (show TyI _ _ _ (Enc.sz Row) _ _ from ty57) rfl rfl rfl (by omega) (by omega) (by omega)) (aF rfl ?_))))))
 refine f0 (e_cpB (m := v2.length) (ks := v2.flatMap Flat.enc) dS (show TyI _ _ _ (Enc.sz Row) _ _ from ty57) rfl rfl (by show min _ _ = _; omega) (by rw [List.drop_zero, ← k1]; exact List.take_left.symm) k1 (Upd.there cV) aB (by rw [← q0, hAA]; exact hlenHere hA1 hA2 k1 (by omega)) o2) ?_
 refine aJ (nT (sr (aF rfl (aH rfl (aJ (nT (bQ ?_)))))))
 have hX := ins_here (js := js) hA1 k1 hA2 (by omega)
 refine At.mkF (n := v0.length + v2.length) (v0.take i ++ v2 ++ v0.drop i) (((v0.take i).flatMap Flat.enc ++ (v0.drop i).flatMap Flat.enc ++ js).drop (i * Enc.sz Row + v2.length * Enc.sz Row + (v0.length - i) * Enc.sz Row)) (.cons (Del.there aA) .nil) (by omega) (by rw [← q0, hAA, hX, List.flatMap_append, List.flatMap_append]) (by omega) b2 (by rw [← q0, hAA, hX]; simp only [List.length_append, List.length_drop, hA1, k1, hA2]; omega) hall ?_
 exact back1 (some ⟨g, 0, none⟩, cp) rfl (ResV.tmp (v := .slice (some ⟨g, 0, none⟩) (v0.length + v2.length) (cp)) rfl) (by rw [hlen]) cK (.cons (by rw [hlen]; exact aA) .nil)
noncomputable def p_impl_put_b0 (v0 : (List Row)) (v1 : Row) (Q11 : Int) : Option ((Int) ⊕ (Int)) := bd (cond (decide (Q11 < ((([] : List Row) ++ v0).length : Int))) (gd (ix Q11 (([] : List Row) ++ v0).length) <| some (decide (((nth (([] : List Row) ++ v0) Q11.toNat).1) < v1.1))) (some (false))) fun b19 => cond (b19) (gd (I64 (Q11 + 1)) <| some (.inl (Q11 + 1))) (some (.inr Q11))
noncomputable def p_impl_put (v0 : (List Row)) (v1 : Row) : Option ((List Row)) := gd (room (([] : List Row).length + v0.length)) <| bd (lp (p_impl_put_b0 v0 v1) 0) fun x7 => bd (cond (decide (x7 < ((([] : List Row) ++ v0).length : Int))) (gd (ix x7 (([] : List Row) ++ v0).length) <| some (decide (((nth (([] : List Row) ++ v0) x7.toNat).1) = v1.1))) (some (false))) fun b25 => cond (b25) (gd (ix x7 (([] : List Row) ++ v0).length) <| some ((([] : List Row) ++ v0).set x7.toNat v1)) (bd (p_slices_Insert_Row_Row (([] : List Row) ++ v0) x7 ([v1] : List Row)) fun r35 => gd (room (([] : List Row).length + r35.length)) <| some (([] : List Row) ++ r35))
theorem c_impl_put {r : (List Row)} (v0 : (List Row)) (x_v0 : Option Addr × Nat) (v1 : Row) (H : p_impl_put v0 v1 = some r) : Fn' prog 79 #[.slice x_v0.1 v0.length x_v0.2, .agg #[.int .i64 (v1.1), .int .i64 (v1.2)]] [imm (.slice x_v0.1 v0.length x_v0.2) v0] [] (ι := Option Addr × Nat) (fun x => .slice x.1 r.length x.2) (fun _ => []) (fun x => [tree (.slice x.1 r.length x.2) r]) := by
 refine cof (args := [_, _]) func79 ntmps79 fun c => ?_
 unfold p_impl_put at H
 refine sr (f1 (cC (t := 57) rfl) fun g1 => (aH (v := .slice none 0 0) rfl (nl (sr (f2 (e_lit0 Row dS ty57) fun a2 c3 => (aF rfl (gdo H fun h6 H => (f2 (e_appF (l := ([] : List Row)) (k := v0) (α := Row) dS ty57 rfl rfl (h6.b (by decide)) h6.x (.cons aA .nil) (aL aR)) fun a4 c5 => (aH rfl (nl (sr ?_)))))))))))
 refine aH (v := .int .i64 (0)) rfl (nl (bdo H fun x7 hx8 H => (tMidC (ι := Unit) (fun ψ => [(3, .pointer (some ⟨g1, 0, none⟩)), (5, .slice a4 ((([] : List Row) ++ v0).length) c5), (6, .int .i64 (x7))]) (fun ψ => [box g1 57 [.int .i64 (v1.1), .int .i64 (v1.2)], tree (.slice a4 ((([] : List Row) ++ v0).length) c5) (([] : List Row) ++ v0)]) ?_ ?_)))
 ·refine aQ (dA hx8 () (fun Q11 _ => [(3, .pointer (some ⟨g1, 0, none⟩)), (5, .slice a4 ((([] : List Row) ++ v0).length) c5), (6, .int .i64 (Q11))]) (fun _ _ => [box g1 57 [.int .i64 (v1.1), .int .i64 (v1.2)], tree (.slice a4 ((([] : List Row) ++ v0).length) c5) (([] : List Row) ++ v0)]) (.cons dl1 (.cons aA .nil)) ?_)
  rintro _ Q11 z12 t14 H1 hi15 hb16
  unfold p_impl_put_b0 at H1
  refine aD (bdo H1 fun b19 j20 H1 => (cZ [(23, .bool (b19)), (3, .pointer (some ⟨g1, 0, none⟩)), (5, .slice a4 ((([] : List Row) ++ v0).length) c5), (6, .int .i64 (Q11))] ?_ ?_))
  ·refine dB [(3, .pointer (some ⟨g1, 0, none⟩)), (5, .slice a4 ((([] : List Row) ++ v0).length) c5), (6, .int .i64 (Q11))] mixed (.inr (by kernel_rfl)) ⟨rfl, rfl, rfl, trivial⟩ rfl (bB rfl (bB rfl (aX (bS 57 dS rfl) (aX (cM rfl rfl) ?_))))
   rcases aK (decide (Q11 < ((([] : List Row) ++ v0).length : Int))) with h21 | h21
   ·have j20 := cdT h21 j20
    refine bC (aE rfl) h21 (aY rfl (aE rfl) (aY rfl (aE rfl) (gdo j20 fun h22 j20 => (bA rfl (bX dS ty57 rfl rfl h22 hs1) (bA rfl (bY (j := 0) Q11.toNat fa57_0 rfl (aN (bL hs1)) h22.lt rfl) (bA rfl (bZ (i := Q11.toNat) (j := 0) ty3 rfl (aN (bL hs1)) h22.lt rfl) (aY rfl (cB fa57_0 rfl rfl) (bA rfl (bI ty3 rfl aB rfl) (aY rfl (cM rfl rfl) ?_)))))))))
    refine aX (bP rfl rfl) ?_
    obtain rfl := si j20
    show At _ _ _ _ _ _
    exact n1 ⟨rfl, rfl, rfl, rfl, trivial⟩
   ·have j20 := cdF h21 j20
    refine bC (aE rfl) h21 ?_
    iterate 8 refine bE rfl ?_
    refine aX (v := .bool (false)) (bO rfl rfl) ?_
    obtain rfl := si j20
    show At _ _ _ _ _ _
    exact n1 ⟨rfl, rfl, rfl, rfl, trivial⟩
  refine cH H1 rfl (fun h23 H1 => ?_) (fun h23 H1 => ?_)
  ·exact bH (nT (aQ (aP (aF rfl (gdo H1 fun h24 H1 => (aG (bR rfl rfl h24) (aH rfl (aJ (nB (nLI () (hi15 _ (sm H1)) (.cons aA (.cons aA .nil)) ))))))))))
  ·refine cW (xT (xT (xE (?_))))
   obtain rfl := hb16 _ (sm H1)
   exact nMC () ⟨rfl, rfl, rfl, trivial⟩ bT (.cons aA (.cons aA .nil))
 ·intro y13
  show Tr _ _ _ _ _ [(3, .pointer (some ⟨g1, 0, none⟩)), (5, .slice a4 ((([] : List Row) ++ v0).length) c5), (6, .int .i64 (x7))] _ [box g1 57 [.int .i64 (v1.1), .int .i64 (v1.2)], tree (.slice a4 ((([] : List Row) ++ v0).length) c5) (([] : List Row) ++ v0)]
  refine aD (bdo H fun b25 j26 H => (cZ [(39, .bool (b25)), (3, .pointer (some ⟨g1, 0, none⟩)), (5, .slice a4 ((([] : List Row) ++ v0).length) c5), (6, .int .i64 (x7))] ?_ ?_))
  ·refine dB [(3, .pointer (some ⟨g1, 0, none⟩)), (5, .slice a4 ((([] : List Row) ++ v0).length) c5), (6, .int .i64 (x7))] mixed (.inr (by kernel_rfl)) ⟨rfl, rfl, rfl, trivial⟩ rfl (bB rfl (bB rfl (aX (bS 57 dS rfl) (aX (cM rfl rfl) ?_))))
   rcases aK (decide (x7 < ((([] : List Row) ++ v0).length : Int))) with h27 | h27
   ·have j26 := cdT h27 j26
    refine bC (aE rfl) h27 (aY rfl (aE rfl) (aY rfl (aE rfl) (gdo j26 fun h28 j26 => (bA rfl (bX dS ty57 rfl rfl h28 hs1) (bA rfl (bY (j := 0) x7.toNat fa57_0 rfl (aN (bL hs1)) h28.lt rfl) (bA rfl (bZ (i := x7.toNat) (j := 0) ty3 rfl (aN (bL hs1)) h28.lt rfl) (aY rfl (cB fa57_0 rfl rfl) (bA rfl (bI ty3 rfl aB rfl) (aY rfl (cP rfl rfl) ?_)))))))))
    refine aX (bP rfl rfl) ?_
    obtain rfl := si j26
    show At _ _ _ _ _ _
    exact n1 ⟨rfl, rfl, rfl, rfl, trivial⟩
   ·have j26 := cdF h27 j26
    refine bC (aE rfl) h27 ?_
    iterate 8 refine bE rfl ?_
    refine aX (v := .bool (false)) (bO rfl rfl) ?_
    obtain rfl := si j26
    show At _ _ _ _ _ _
    exact n1 ⟨rfl, rfl, rfl, rfl, trivial⟩
  refine cH H rfl (fun h29 H => ?_) (fun h29 H => ?_)
  ·refine sr (aF rfl (aF rfl (aI (bJ ty57 rfl aB rfl) (gdo H fun h30 H => (aI (bX dS ty57 rfl rfl h30 hs1) (g0 (e_setT (l := (([] : List Row) ++ v0)) (α := Row) (oa := a4) x7.toNat v1 ((), ()) ty57 rfl rfl rfl h30.lt (cS _) (.cons dl1 .nil)) (nl (aD ?_))))))))
   refine cT aB fun hn => ?_; rw [hn]
   refine aP (aF rfl (aH rfl (nl (bQ (rT (?_))))))
   obtain rfl := si H
   exact back1 (a4, c5) rfl (ResV.tmp (v := .slice a4 (((([] : List Row) ++ v0).set x7.toNat v1).length) c5) rfl) rfl cK (.cons aA .nil)
  ·refine bH (nT (sr (f2 (e_lit0 Row dS ty57) fun a31 c32 => (aF rfl (aF rfl (aI (bJ ty57 rfl hs1 rfl) (f2 (e_litT (α := Row) (vs := [(0, .agg #[.int .i64 (v1.1), .int .i64 (v1.2)])]) [v1] rfl (fun _ => rfl) (fun _ _ => by repeat constructor) dS ty57 rfl (by decide) (by decide) (by kernel_rfl)) fun a33 c34 => (bdo H fun r35 h36 H => (f1 (cF (c_slices_Insert_Row_Row (([] : List Row) ++ v0) (a4, c5) x7 ([v1] : List Row) (a33, c34) h36) (bF (bF bG)) (fun _ => (bF bG)) rfl (.cons dl3 (.cons aA .nil)) aO) fun x37 => ?_)))))))))
   refine gdo H fun h40 H => (f2 (e_appF (l := ([] : List Row)) (k := r35) (α := Row) dS ty57 rfl rfl (h40.b (by decide)) h40.x (.cons dl1 .nil) (bL aB)) fun a38 c39 => (aH rfl (nl (bQ ?_))))
   obtain rfl := si H
   exact back1 (a38, c39) rfl (ResV.tmp (v := .slice a38 ((([] : List Row) ++ r35).length) c39) rfl) rfl cK (.cons aA .nil)
noncomputable def p_impl_Store_rows_b1 (r22 : (List Row)) (Q29 : (List Row) × Int) : Option (((List Row) × Int) ⊕ ((List Row))) := cond (decide (Q29.2 < (r22.length : Int))) (gd (ix Q29.2 r22.length) <| bd (p_impl_put Q29.1 (nth r22 Q29.2.toNat)) fun r40 => gd (I64 (Q29.2 + 1)) <| some (.inl (r40, Q29.2 + 1))) (some (.inr Q29.1))
noncomputable def p_impl_Store_rows_b0 (v0 : Store) (v1 : Int) (Q11 : (List Row) × Int) : Option (((List Row) × Int) ⊕ ((List Row))) := cond (decide (Q11.2 < (v0.2.1.length : Int))) (gd (ix Q11.2 v0.2.1.length) <| bd (p_impl_PartOf (nth v0.2.1 Q11.2.toNat) v1) fun r22 => bd (lp (p_impl_Store_rows_b1 r22) (Q11.1, 0)) fun x25 => gd (I64 (Q11.2 + 1)) <| some (.inl (x25, Q11.2 + 1))) (some (.inr Q11.1))
noncomputable def p_impl_Store_rows_b2 (v0 : Store) (v1 : Int) (Q49 : (List Row) × Int) : Option (((List Row) × Int) ⊕ ((List Row))) := cond (decide (Q49.2 < (v0.2.2.length : Int))) (gd (ix Q49.2 v0.2.2.length) <| cond (decide (((nth v0.2.2 Q49.2.toNat).1) = v1)) (bd (p_impl_put Q49.1 ((nth v0.2.2 Q49.2.toNat).2)) fun r61 => gd (I64 (Q49.2 + 1)) <| some (.inl (r61, Q49.2 + 1))) (gd (I64 (Q49.2 + 1)) <| some (.inl (Q49.1, Q49.2 + 1)))) (some (.inr Q49.1))
noncomputable def p_impl_Store_rows (v0 : Store) (v1 : Int) : Option ((List Row)) := bd (lp (p_impl_Store_rows_b0 v0 v1) (([] : List Row), 0)) fun x7 => bd (lp (p_impl_Store_rows_b2 v0 v1) (x7, 0)) fun x45 => some x45
theorem c_impl_Store_rows {r : (List Row)} (v0 : Store) (x_v0 : ((Option Addr × Nat) × (Option Addr × Nat)) × (Option Addr × Nat) × (Option Addr × Nat)) (v1 : Int) (H : p_impl_Store_rows v0 v1 = some r) : Fn' prog 52 #[.agg #[.slice x_v0.1.1.1 v0.1.1.length x_v0.1.1.2, .slice x_v0.1.2.1 v0.1.2.length x_v0.1.2.2, .slice x_v0.2.1.1 v0.2.1.length x_v0.2.1.2, .slice x_v0.2.2.1 v0.2.2.length x_v0.2.2.2], .int .i64 (v1)] [imm (.slice x_v0.1.1.1 v0.1.1.length x_v0.1.1.2) v0.1.1, imm (.slice x_v0.1.2.1 v0.1.2.length x_v0.1.2.2) v0.1.2, imm (.slice x_v0.2.1.1 v0.2.1.length x_v0.2.1.2) v0.2.1, imm (.slice x_v0.2.2.1 v0.2.2.length x_v0.2.2.2) v0.2.2] [] (ι := Option Addr × Nat) (fun x => .slice x.1 r.length x.2) (fun _ => []) (fun x => [tree (.slice x.1 r.length x.2) r]) := by
 refine cof (args := [_, _]) func52 ntmps52 fun c => ?_
 unfold p_impl_Store_rows at H
 refine bM aR fun X1 => (bM aR.s.s fun X2 => (bM aR.s.s.s.s fun X3 => (sr (f1 (cC (t := 42) rfl) fun g4 => (aH (v := .slice none 0 0) rfl (nl (sr (f2 (e_lit0 Row dS ty57) fun a5 c6 => (aH rfl (nl (aD (sr ?_))))))))))))
 refine aG (cB fa42_1 rfl rfl) (aI (bI ty39 rfl hs1 rfl) (aG (bS 72 dP rfl) (aF (v := .int .i64 (0)) rfl (nl (bdo H fun x7 hx8 H => (cX (ι := Option Addr × Nat) (fun ψ => [(1, .int .i64 (v1)), (2, .pointer (some ⟨g4, 0, none⟩)), (5, .slice ψ.1 x7.length ψ.2)]) (fun ψ => [box g4 42 [.slice x_v0.1.1.1 v0.1.1.length x_v0.1.1.2, .slice x_v0.1.2.1 v0.1.2.length x_v0.1.2.2, .slice x_v0.2.1.1 v0.2.1.length x_v0.2.1.2, .slice x_v0.2.2.1 v0.2.2.length x_v0.2.2.2], tree (.slice ψ.1 x7.length ψ.2) x7]) ?_ ?_))))))
 ·refine aQ (dA hx8 (a5, c6) (fun Q11 z12 => [(1, .int .i64 (v1)), (2, .pointer (some ⟨g4, 0, none⟩)), (5, .slice z12.1 Q11.1.length z12.2), (14, .slice x_v0.2.1.1 v0.2.1.length x_v0.2.1.2), (15, .int .i64 ((v0.2.1.length : Int))), (16, .int .i64 (Q11.2))]) (fun Q11 z12 => [box g4 42 [.slice x_v0.1.1.1 v0.1.1.length x_v0.1.1.2, .slice x_v0.1.2.1 v0.1.2.length x_v0.1.2.2, .slice x_v0.2.1.1 v0.2.1.length x_v0.2.1.2, .slice x_v0.2.2.1 v0.2.2.length x_v0.2.2.2], tree (.slice z12.1 Q11.1.length z12.2) Q11.1]) (.cons dl1 (.cons aA .nil)) ?_)
  rintro _ Q11 z12 t14 H1 hi15 hb16
  unfold p_impl_Store_rows_b0 at H1
  refine sr (aG (cM rfl rfl) (nl (aD (cH H1 rfl (fun h19 H1 => ?_) (fun h19 H1 => ?_)))))
  ·refine bH (nT (aD (aQ (sr (gdo H1 fun h20 H1 => (aI (bW dP ty72 rfl rfl h20 rfl (aL (aT aR))) (aI (v := .agg #[.slice (((X3 Q11.2.toNat).1).1) (((nth v0.2.1 Q11.2.toNat).1).length) (((X3 Q11.2.toNat).1).2.1), .slice (((X3 Q11.2.toNat).2).1) (((nth v0.2.1 Q11.2.toNat).2).length) (((X3 Q11.2.toNat).2).2.1)]) (cA (i := Q11.2.toNat) ty72 rfl (aL (aT aR)) h20.lt) (f1 (cD ty72) fun g21 => (stb (cs' := [.slice (((X3 Q11.2.toNat).1).1) (((nth v0.2.1 Q11.2.toNat).1).length) (((X3 Q11.2.toNat).1).2.1), .slice (((X3 Q11.2.toNat).2).1) (((nth v0.2.1 Q11.2.toNat).2).length) (((X3 Q11.2.toNat).2).2.1)]) ty72 cV (nl ?_))))))))))
   refine sr (aI (bJ ty72 rfl aB rfl) (aF rfl (bdo H1 fun r22 h23 H1 => (f1 (cE (c_impl_PartOf (nth v0.2.1 Q11.2.toNat) ((((X3 Q11.2.toNat).1).1, ((X3 Q11.2.toNat).1).2.1), (((X3 Q11.2.toNat).2).1, ((X3 Q11.2.toNat).2).2.1)) v1 h23) (fun _ => (bF bG)) rfl (aC (aL (aS (aV (aW aR h20.lt)))) (aC (aL (aS (aU (aW aR h20.lt)))) aO))) fun x24 => (aG (bS 57 dS rfl) (aF (v := .int .i64 (0)) rfl (nl (bdo H1 fun x25 hx26 H1 => (cX (ι := Option Addr × Nat) (fun ψ => [(1, .int .i64 (v1)), (2, .pointer (some ⟨g4, 0, none⟩)), (5, .slice ψ.1 x25.length ψ.2), (14, .slice x_v0.2.1.1 v0.2.1.length x_v0.2.1.2), (15, .int .i64 ((v0.2.1.length : Int))), (16, .int .i64 (Q11.2))]) (fun ψ => [box g4 42 [.slice x_v0.1.1.1 v0.1.1.length x_v0.1.1.2, .slice x_v0.1.2.1 v0.1.2.length x_v0.1.2.2, .slice x_v0.2.1.1 v0.2.1.length x_v0.2.1.2, .slice x_v0.2.2.1 v0.2.2.length x_v0.2.2.2], tree (.slice ψ.1 x25.length ψ.2) x25]) ?_ ?_)))))))))
   ·refine aQ (dA hx26 (z12.1, z12.2) (fun Q29 z30 => [(1, .int .i64 (v1)), (2, .pointer (some ⟨g4, 0, none⟩)), (5, .slice z30.1 Q29.1.length z30.2), (14, .slice x_v0.2.1.1 v0.2.1.length x_v0.2.1.2), (15, .int .i64 ((v0.2.1.length : Int))), (16, .int .i64 (Q11.2)), (22, .slice x24.1 r22.length x24.2), (23, .int .i64 ((r22.length : Int))), (24, .int .i64 (Q29.2))]) (fun Q29 z30 => [box g4 42 [.slice x_v0.1.1.1 v0.1.1.length x_v0.1.1.2, .slice x_v0.1.2.1 v0.1.2.length x_v0.1.2.2, .slice x_v0.2.1.1 v0.2.1.length x_v0.2.1.2, .slice x_v0.2.2.1 v0.2.2.length x_v0.2.2.2], tree (.slice z30.1 Q29.1.length z30.2) Q29.1, tree (.slice x24.1 r22.length x24.2) r22]) (.cons dl2 (.cons dl2 (.cons aA .nil))) ?_)
    rintro _ Q29 z30 t32 H2 hi33 hb34
    unfold p_impl_Store_rows_b1 at H2
    refine sr (aG (cM rfl rfl) (nl (aD (cH H2 rfl (fun h37 H2 => ?_) (fun h37 H2 => ?_)))))
    ·refine bH (nT (aD (aQ (sr (gdo H2 fun h38 H2 => (aI (bX dS ty57 rfl rfl h38 hs2) (aI (v := .agg #[.int .i64 ((nth r22 Q29.2.toNat).1), .int .i64 ((nth r22 Q29.2.toNat).2)]) (cA (i := Q29.2.toNat) ty57 rfl (aN (bL hs2)) h38.lt) (f1 (cD ty57) fun g39 => (stb (cs' := [.int .i64 ((nth r22 Q29.2.toNat).1), .int .i64 ((nth r22 Q29.2.toNat).2)]) ty57 cV (nl ?_))))))))))
     refine aP (aF rfl (aI (bJ ty57 rfl aB rfl) (bdo H2 fun r40 h41 H2 => (f1 (cE (c_impl_put Q29.1 z30 (nth r22 Q29.2.toNat) h41) (fun _ => (bF bG)) rfl (aC (bL hs2) aO)) fun x42 => (aH rfl (aJ (nB (nT (aP (gdo H2 fun h43 H2 => (aG (bR rfl rfl h43) ?_)))))))))))
     exact aF rfl (aJ (nLI (x42.1, x42.2) (hi33 _ (sm H2)) (.cons dl2 (.cons aA (.cons dl2 .nil)))))
    ·refine cW (xT (xT (xE (?_))))
     obtain rfl := hb34 _ (sm H2)
     exact nMC (z30.1, z30.2) ⟨rfl, rfl, rfl, rfl, rfl, rfl, trivial⟩ bT (.cons aA (.cons aA .nil))
   ·intro y31
    show At _ _ [(1, .int .i64 (v1)), (2, .pointer (some ⟨g4, 0, none⟩)), (5, .slice y31.1 x25.length y31.2), (14, .slice x_v0.2.1.1 v0.2.1.length x_v0.2.1.2), (15, .int .i64 ((v0.2.1.length : Int))), (16, .int .i64 (Q11.2))] _ [box g4 42 [.slice x_v0.1.1.1 v0.1.1.length x_v0.1.1.2, .slice x_v0.1.2.1 v0.1.2.length x_v0.1.2.2, .slice x_v0.2.1.1 v0.2.1.length x_v0.2.1.2, .slice x_v0.2.2.1 v0.2.2.length x_v0.2.2.2], tree (.slice y31.1 x25.length y31.2) x25] _
    exact nB (nT (aP (gdo H1 fun h44 H1 => (aG (bR rfl rfl h44) (aF rfl (aJ (nLI (y31.1, y31.2) (hi15 _ (sm H1)) (.cons aA (.cons aA .nil)))))))))
  ·refine cW (xT (xT (xE (?_))))
   obtain rfl := hb16 _ (sm H1)
   exact nMC (z12.1, z12.2) ⟨rfl, rfl, rfl, trivial⟩ bT (.cons aA (.cons aA .nil))
 ·intro y13
  show At _ _ [(1, .int .i64 (v1)), (2, .pointer (some ⟨g4, 0, none⟩)), (5, .slice y13.1 x7.length y13.2)] _ [box g4 42 [.slice x_v0.1.1.1 v0.1.1.length x_v0.1.1.2, .slice x_v0.1.2.1 v0.1.2.length x_v0.1.2.2, .slice x_v0.2.1.1 v0.2.1.length x_v0.2.1.2, .slice x_v0.2.2.1 v0.2.2.length x_v0.2.2.2], tree (.slice y13.1 x7.length y13.2) x7] _
  refine nT (aD (sr (aG (cB fa42_2 rfl rfl) (aI (bI ty40 rfl aB rfl) (aG (bS 59 dQ rfl) (aF (v := .int .i64 (0)) rfl (nl (bdo H fun x45 hx46 H => (cX (ι := Option Addr × Nat) (fun ψ => [(5, .slice ψ.1 x45.length ψ.2)]) (fun ψ => [tree (.slice ψ.1 x45.length ψ.2) x45]) ?_ ?_)))))))))
  ·refine aQ (dA hx46 (y13.1, y13.2) (fun Q49 z50 => [(1, .int .i64 (v1)), (5, .slice z50.1 Q49.1.length z50.2), (34, .slice x_v0.2.2.1 v0.2.2.length x_v0.2.2.2), (35, .int .i64 ((v0.2.2.length : Int))), (36, .int .i64 (Q49.2))]) (fun Q49 z50 => [tree (.slice z50.1 Q49.1.length z50.2) Q49.1]) (.cons dl1 .nil) ?_)
   rintro _ Q49 z50 t52 H1 hi53 hb54
   unfold p_impl_Store_rows_b2 at H1
   refine sr (aG (cM rfl rfl) (nl (aD (cH H1 rfl (fun h57 H1 => ?_) (fun h57 H1 => ?_)))))
   ·refine bH (nT (aD (aQ (sr (gdo H1 fun h58 H1 => (aI (bW dQ ty59 rfl rfl h58 rfl (aN (aL aR.s.s.s.s.s.s))) (aI (v := .agg #[.int .i64 ((nth v0.2.2 Q49.2.toNat).1), .int .i64 (((nth v0.2.2 Q49.2.toNat).2).1), .int .i64 (((nth v0.2.2 Q49.2.toNat).2).2)]) (cA (i := Q49.2.toNat) ty59 rfl (aN (aL aR.s.s.s.s.s.s)) h58.lt) (f1 (cD ty59) fun g59 => (stb (cs' := [.int .i64 ((nth v0.2.2 Q49.2.toNat).1), .int .i64 (((nth v0.2.2 Q49.2.toNat).2).1), .int .i64 (((nth v0.2.2 Q49.2.toNat).2).2)]) ty59 cV (nl ?_))))))))))
    refine sr (aG (cB fa59_0 rfl rfl) (aI (bI ty3 rfl aB rfl) (aF rfl (aG (cP rfl rfl) (nl (cH H1 rfl (fun h60 H1 => ?_) (fun h60 H1 => ?_)))))))
    ·refine aP (aF rfl (aG (cB fa59_1 rfl rfl) (aI (v := .agg #[.int .i64 (((nth v0.2.2 Q49.2.toNat).2).1), .int .i64 (((nth v0.2.2 Q49.2.toNat).2).2)]) (q_ldbP [.int .i64 (((nth v0.2.2 Q49.2.toNat).2).1), .int .i64 (((nth v0.2.2 Q49.2.toNat).2).2)] ty57 rfl aB rfl rfl) (bdo H1 fun r61 h62 H1 => (f1 (cE (c_impl_put Q49.1 z50 ((nth v0.2.2 Q49.2.toNat).2) h62) (fun _ => (bF bG)) rfl (aC (bL hs1) aO)) fun x63 => (aH rfl (aJ (nB (nT (aP (gdo H1 fun h64 H1 => ?_)))))))))))
     exact aG (bR rfl rfl h64) (aF rfl (aJ (nLI (x63.1, x63.2) (hi53 _ (sm H1)) (.cons aA .nil))))
    ·exact bH (nB (nT (aP (gdo H1 fun h65 H1 => (aG (bR rfl rfl h65) (aF rfl (aJ (nLI (z50.1, z50.2) (hi53 _ (sm H1)) (.cons dl1 .nil)))))))))
   ·refine cW (xT (xT (xE (?_))))
    obtain rfl := hb54 _ (sm H1)
    exact nMC (z50.1, z50.2) ⟨rfl, trivial⟩ bT (.cons aA .nil)
  ·intro y51
   show At _ _ [(5, .slice y51.1 x45.length y51.2)] _ [tree (.slice y51.1 x45.length y51.2) x45] _
   refine nT (sr (aF rfl (aH rfl (nl (bQ ?_)))))
   obtain rfl := si H
   exact back1 y51 rfl (ResV.tmp (v := .slice y51.1 x45.length y51.2) rfl) rfl cK (.cons aA .nil)
noncomputable def p_impl_StoreOk_b0 (v0 : Store) (Q16 : Int) : Option ((Int) ⊕ (Unit ⊕ Bool)) := cond (decide (Q16 < (v0.2.1.length : Int))) (gd (ix Q16 v0.2.1.length) <| bd (bd (p_impl_PartOk (nth v0.2.1 Q16.toNat)) fun r29 => cond (!r29) (some (true)) (cond (decide ((((nth v0.2.1 Q16.toNat).1).length : Int) = 0)) (some (true)) (bd (p_slices_Max_int_int ((nth v0.2.1 Q16.toNat).1)) fun r33 => some (decide ((v0.1.1.length : Int) < r33))))) fun b27 => cond (b27) (some (.inr (.inr false))) (gd (I64 (Q16 + 1)) <| some (.inl (Q16 + 1)))) (some (.inr (.inl ())))
noncomputable def p_impl_StoreOk_b1 (v0 : Store) (Q42 : Int) : Option ((Int) ⊕ (Unit ⊕ Bool)) := cond (decide (Q42 < (v0.2.2.length : Int))) (gd (ix Q42 v0.2.2.length) <| bd (bd (p_impl_within ((nth v0.2.2 Q42.toNat).1) 1 (v0.1.1.length : Int)) fun r55 => cond (!r55) (some (true)) (bd (p_impl_rowOk ((nth v0.2.2 Q42.toNat).2)) fun r58 => some (!r58))) fun b53 => cond (b53) (some (.inr (.inr false))) (gd (I64 (Q42 + 1)) <| some (.inl (Q42 + 1)))) (some (.inr (.inl ())))
noncomputable def p_impl_StoreOk_b2 (v0 : Store) (Q67 : Int) : Option ((Int) ⊕ (Unit ⊕ Bool)) := cond (decide (Q67 ≤ (v0.1.1.length : Int))) (bd (p_impl_Store_rows v0 Q67) fun r76 => cond (decide (24 < (r76.length : Int))) (some (.inr (.inr false))) (gd (I64 (Q67 + 1)) <| some (.inl (Q67 + 1)))) (some (.inr (.inl ())))
noncomputable def p_impl_StoreOk (v0 : Store) : Option (Bool) := bd (bd (p_impl_IndexOk v0.1) fun r7 => cond (!r7) (some (true)) (cond (decide (6 < (v0.2.1.length : Int))) (some (true)) (some (decide (20 < (v0.2.2.length : Int)))))) fun b5 => cond (b5) (some false) (bd (lp (p_impl_StoreOk_b0 v0) 0) <| sw (fun _ => bd (lp (p_impl_StoreOk_b1 v0) 0) <| sw (fun _ => bd (lp (p_impl_StoreOk_b2 v0) 1) <| sw (fun _ => some true) (fun q => some q)) (fun q => some q)) (fun q => some q))
theorem c_impl_StoreOk {r : Bool} (v0 : Store) (x_v0 : ((Option Addr × Nat) × (Option Addr × Nat)) × (Option Addr × Nat) × (Option Addr × Nat)) (H : p_impl_StoreOk v0 = some r) : Fn' prog 22 #[.agg #[.slice x_v0.1.1.1 v0.1.1.length x_v0.1.1.2, .slice x_v0.1.2.1 v0.1.2.length x_v0.1.2.2, .slice x_v0.2.1.1 v0.2.1.length x_v0.2.1.2, .slice x_v0.2.2.1 v0.2.2.length x_v0.2.2.2]] [imm (.slice x_v0.1.1.1 v0.1.1.length x_v0.1.1.2) v0.1.1, imm (.slice x_v0.1.2.1 v0.1.2.length x_v0.1.2.2) v0.1.2, imm (.slice x_v0.2.1.1 v0.2.1.length x_v0.2.1.2) v0.2.1, imm (.slice x_v0.2.2.1 v0.2.2.length x_v0.2.2.2) v0.2.2] [] (ι := Unit) (fun _ => .bool (r)) (fun _ => []) (fun _ => []) := by
 refine cof (args := [_]) func22 ntmps22 fun c => ?_
 unfold p_impl_StoreOk at H
 refine bM aR fun X1 => (bM aR.s.s fun X2 => (bM aR.s.s.s.s fun X3 => (sr (f1 (cC (t := 42) rfl) fun g4 => (aH (v := .bool (false)) rfl (nl (aD (bdo H fun b5 j6 H => (cZ [(24, .bool (b5)), (1, .pointer (some ⟨g4, 0, none⟩))] ?_ ?_)))))))))
 ·refine dC [(1, .pointer (some ⟨g4, 0, none⟩))] ⟨rfl, trivial⟩ (aX (cB fa42_0 rfl rfl) (aZ (v := .agg #[.slice x_v0.1.1.1 v0.1.1.length x_v0.1.1.2, .slice x_v0.1.2.1 v0.1.2.length x_v0.1.2.2]) (q_ldbP [.slice x_v0.1.1.1 v0.1.1.length x_v0.1.1.2, .slice x_v0.1.2.1 v0.1.2.length x_v0.1.2.2] ty38 rfl aB rfl rfl) (bdo j6 fun r7 h8 j6 => (aZ (bN (c_impl_IndexOk v0.1 x_v0.1 h8) rfl (aC (aL (aS aR.s.s)) (aC (aL (aS aR.s)) aO))) (aX (cR rfl) ?_)))))
  rcases aK (!r7) with h9 | h9
  ·have j6 := cdT h9 j6
   refine bC (aE rfl) h9 ?_
   iterate 4 refine bE rfl ?_
   refine aX (v := .bool (true)) (bP rfl rfl) (bB (v := .bool (true)) rfl ?_)
   iterate 4 refine bE rfl ?_
   refine aX (v := .bool (true)) (bP rfl rfl) ?_
   obtain rfl := si j6
   show At _ _ _ _ _ _
   exact n1 ⟨rfl, rfl, trivial⟩
  ·have j6 := cdF h9 j6
   refine bC (aE rfl) h9 (aY rfl (cB fa42_1 rfl rfl) (bA rfl (bI ty39 rfl aB rfl) (aY rfl (bS 72 dP rfl) (aY rfl (cQ rfl rfl) (aX (bO rfl rfl) ?_)))))
   rcases aK (decide (6 < (v0.2.1.length : Int))) with h10 | h10
   ·have j6 := cdT h10 j6
    refine bC (aE rfl) h10 ?_
    iterate 4 refine bE rfl ?_
    refine aX (v := .bool (true)) (bP rfl rfl) ?_
    obtain rfl := si j6
    show At _ _ _ _ _ _
    exact n1 ⟨rfl, rfl, trivial⟩
   ·have j6 := cdF h10 j6
    refine bC (aE rfl) h10 (aY rfl (cB fa42_2 rfl rfl) (bA rfl (bI ty40 rfl aB rfl) (aY rfl (bS 59 dQ rfl) (aY rfl (cQ rfl rfl) (aX (bO rfl rfl) ?_)))))
    obtain rfl := si j6
    show At _ _ _ _ _ _
    exact n1 ⟨rfl, rfl, trivial⟩
 refine cH H rfl (fun h11 H => ?_) (fun h11 H => ?_)
 ·refine sr (aH (v := .bool (false)) rfl (nl (bQ (rT (?_)))))
  obtain rfl := si H
  exact bk
 ·refine bH (nT (sr (aG (cB fa42_0 rfl rfl) (aG (cB fa38_0 rfl rfl) (aI (bI ty35 rfl aB rfl) (aG (bS 105 dN rfl) (aH rfl (nl (aD (sr (aG (cB fa42_1 rfl rfl) ?_)))))))))))
  refine aI (bI ty39 rfl aB rfl) (aG (bS 72 dP rfl) (aF (v := .int .i64 (0)) rfl (nl (bdo H fun x12 hx13 H => (cY (Λ := Unit) H (fun _ _ => [(1, .pointer (some ⟨g4, 0, none⟩)), (3, .int .i64 ((v0.1.1.length : Int)))]) (fun _ _ => [box g4 42 [.slice x_v0.1.1.1 v0.1.1.length x_v0.1.1.2, .slice x_v0.1.2.1 v0.1.2.length x_v0.1.2.2, .slice x_v0.2.1.1 v0.2.1.length x_v0.2.1.2, .slice x_v0.2.2.1 v0.2.2.length x_v0.2.2.2]]) ?_ ?_)))))
  ·refine aQ (dA hx13 () (fun Q16 _ => [(1, .pointer (some ⟨g4, 0, none⟩)), (3, .int .i64 ((v0.1.1.length : Int))), (30, .slice x_v0.2.1.1 v0.2.1.length x_v0.2.1.2), (31, .int .i64 ((v0.2.1.length : Int))), (32, .int .i64 (Q16))]) (fun _ _ => [box g4 42 [.slice x_v0.1.1.1 v0.1.1.length x_v0.1.1.2, .slice x_v0.1.2.1 v0.1.2.length x_v0.1.2.2, .slice x_v0.2.1.1 v0.2.1.length x_v0.2.1.2, .slice x_v0.2.2.1 v0.2.2.length x_v0.2.2.2]]) (.cons aA .nil) ?_)
   rintro _ Q16 z17 t19 H1 hi20 hb21
   unfold p_impl_StoreOk_b0 at H1
   refine sr (aG (cM rfl rfl) (nl (aD (cH H1 rfl (fun h24 H1 => ?_) (fun h24 H1 => ?_)))))
   ·refine bH (nT (aD (aQ (sr (gdo H1 fun h25 H1 => (aI (bW dP ty72 rfl rfl h25 rfl (aL (aT aR))) (aI (v := .agg #[.slice (((X3 Q16.toNat).1).1) (((nth v0.2.1 Q16.toNat).1).length) (((X3 Q16.toNat).1).2.1), .slice (((X3 Q16.toNat).2).1) (((nth v0.2.1 Q16.toNat).2).length) (((X3 Q16.toNat).2).2.1)]) (cA (i := Q16.toNat) ty72 rfl (aL (aT aR)) h25.lt) (f1 (cD ty72) fun g26 => (stb (cs' := [.slice (((X3 Q16.toNat).1).1) (((nth v0.2.1 Q16.toNat).1).length) (((X3 Q16.toNat).1).2.1), .slice (((X3 Q16.toNat).2).1) (((nth v0.2.1 Q16.toNat).2).length) (((X3 Q16.toNat).2).2.1)]) ty72 cV (nl ?_))))))))))
    refine bdo H1 fun b27 j28 H1 => (cZ [(51, .bool (b27)), (1, .pointer (some ⟨g4, 0, none⟩)), (3, .int .i64 ((v0.1.1.length : Int))), (30, .slice x_v0.2.1.1 v0.2.1.length x_v0.2.1.2), (31, .int .i64 ((v0.2.1.length : Int))), (32, .int .i64 (Q16))] ?_ ?_)
    ·refine dC [(5, .pointer (some ⟨g26, 0, none⟩)), (1, .pointer (some ⟨g4, 0, none⟩)), (3, .int .i64 ((v0.1.1.length : Int))), (30, .slice x_v0.2.1.1 v0.2.1.length x_v0.2.1.2), (31, .int .i64 ((v0.2.1.length : Int))), (32, .int .i64 (Q16))] ⟨rfl, rfl, rfl, rfl, rfl, rfl, trivial⟩ (aZ (bJ ty72 rfl aB rfl) (bdo j28 fun r29 h30 j28 => (aZ (bN (c_impl_PartOk (nth v0.2.1 Q16.toNat) ((((X3 Q16.toNat).1).1, ((X3 Q16.toNat).1).2.1), (((X3 Q16.toNat).2).1, ((X3 Q16.toNat).2).2.1)) h30) rfl (aC (aL (aS (aV (aW aR h25.lt)))) (aC (aL (aS (aU (aW aR h25.lt)))) aO))) (aX (cR rfl) ?_))))
     rcases aK (!r29) with h31 | h31
     ·have j28 := cdT h31 j28
      refine bC (aE rfl) h31 ?_
      iterate 4 refine bE rfl ?_
      refine aX (v := .bool (true)) (bP rfl rfl) (bB (v := .bool (true)) rfl ?_)
      iterate 5 refine bE rfl ?_
      refine aX (v := .bool (true)) (bP rfl rfl) ?_
      obtain rfl := si j28
      show At _ _ _ _ _ _
      exact n1 ⟨rfl, rfl, rfl, rfl, rfl, rfl, trivial⟩
     ·have j28 := cdF h31 j28
      refine bC (aE rfl) h31 (aY rfl (cB fa72_0 rfl rfl) (bA rfl (bI ty69 rfl aB rfl) (aY rfl (bS 3 dT rfl) (aY rfl (cP rfl rfl) (aX (bO rfl rfl) ?_)))))
      rcases aK (decide ((((nth v0.2.1 Q16.toNat).1).length : Int) = 0)) with h32 | h32
      ·have j28 := cdT h32 j28
       refine bC (aE rfl) h32 ?_
       iterate 5 refine bE rfl ?_
       refine aX (v := .bool (true)) (bP rfl rfl) ?_
       obtain rfl := si j28
       show At _ _ _ _ _ _
       exact n1 ⟨rfl, rfl, rfl, rfl, rfl, rfl, trivial⟩
      ·have j28 := cdF h32 j28
       refine bC (aE rfl) h32 (aY rfl (cB fa72_0 rfl rfl) (bA rfl (bI ty69 rfl aB rfl) (bdo j28 fun r33 h34 j28 => (bA rfl (bN (c_slices_Max_int_int ((nth v0.2.1 Q16.toNat).1) (((X3 Q16.toNat).1).1, ((X3 Q16.toNat).1).2.1) h34) rfl (aC (aL (aS (aV (aW aR h25.lt)))) aO)) (aY rfl (aE rfl) (aY rfl (cQ rfl rfl) (aX (bO rfl rfl) ?_)))))))
       obtain rfl := si j28
       show At _ _ _ _ _ _
       exact n1 ⟨rfl, rfl, rfl, rfl, rfl, rfl, trivial⟩
    refine cH H1 rfl (fun h35 H1 => ?_) (fun h35 H1 => ?_)
    ·refine sr (aH (v := .bool (false)) rfl (nl (bQ (rB (rT (rT (rB (rT (rT (?_))))))))))
     obtain rfl := hb21 _ (sm H1)
     replace H := sw.r H
     obtain rfl := si H
     exact bk
    ·exact bH (nB (nT (aP (gdo H1 fun h36 H1 => (aG (bR rfl rfl h36) (aF rfl (aJ (nLI () (hi20 _ (sm H1)) (.cons dl1 .nil)))))))))
   ·exact cW (xT (xT (xE (nMI () (hb21 _ (sm H1)) (.cons aA .nil)))))
  ·rintro e37 y18 H
   refine nT (aD (sr (aG (cB fa42_2 rfl rfl) (aI (bI ty40 rfl aB rfl) (aG (bS 59 dQ rfl) (aF (v := .int .i64 (0)) rfl (nl (bdo H fun x38 hx39 H => (cY (Λ := Unit) H (fun _ _ => [(1, .pointer (some ⟨g4, 0, none⟩)), (3, .int .i64 ((v0.1.1.length : Int)))]) (fun _ _ => [box g4 42 [.slice x_v0.1.1.1 v0.1.1.length x_v0.1.1.2, .slice x_v0.1.2.1 v0.1.2.length x_v0.1.2.2, .slice x_v0.2.1.1 v0.2.1.length x_v0.2.1.2, .slice x_v0.2.2.1 v0.2.2.length x_v0.2.2.2]]) ?_ ?_)))))))))
   ·refine aQ (dA hx39 () (fun Q42 _ => [(1, .pointer (some ⟨g4, 0, none⟩)), (3, .int .i64 ((v0.1.1.length : Int))), (54, .slice x_v0.2.2.1 v0.2.2.length x_v0.2.2.2), (55, .int .i64 ((v0.2.2.length : Int))), (56, .int .i64 (Q42))]) (fun _ _ => [box g4 42 [.slice x_v0.1.1.1 v0.1.1.length x_v0.1.1.2, .slice x_v0.1.2.1 v0.1.2.length x_v0.1.2.2, .slice x_v0.2.1.1 v0.2.1.length x_v0.2.1.2, .slice x_v0.2.2.1 v0.2.2.length x_v0.2.2.2]]) (.cons aA .nil) ?_)
    rintro _ Q42 z43 t45 H1 hi46 hb47
    unfold p_impl_StoreOk_b1 at H1
    refine sr (aG (cM rfl rfl) (nl (aD (cH H1 rfl (fun h50 H1 => ?_) (fun h50 H1 => ?_)))))
    ·refine bH (nT (aD (aQ (sr (gdo H1 fun h51 H1 => (aI (bW dQ ty59 rfl rfl h51 rfl (aN (aL aR.s.s.s.s.s.s))) (aI (v := .agg #[.int .i64 ((nth v0.2.2 Q42.toNat).1), .int .i64 (((nth v0.2.2 Q42.toNat).2).1), .int .i64 (((nth v0.2.2 Q42.toNat).2).2)]) (cA (i := Q42.toNat) ty59 rfl (aN (aL aR.s.s.s.s.s.s)) h51.lt) (f1 (cD ty59) fun g52 => (stb (cs' := [.int .i64 ((nth v0.2.2 Q42.toNat).1), .int .i64 (((nth v0.2.2 Q42.toNat).2).1), .int .i64 (((nth v0.2.2 Q42.toNat).2).2)]) ty59 cV (nl ?_))))))))))
     refine bdo H1 fun b53 j54 H1 => (cZ [(70, .bool (b53)), (1, .pointer (some ⟨g4, 0, none⟩)), (3, .int .i64 ((v0.1.1.length : Int))), (54, .slice x_v0.2.2.1 v0.2.2.length x_v0.2.2.2), (55, .int .i64 ((v0.2.2.length : Int))), (56, .int .i64 (Q42))] ?_ ?_)
     ·refine dC [(7, .pointer (some ⟨g52, 0, none⟩)), (1, .pointer (some ⟨g4, 0, none⟩)), (3, .int .i64 ((v0.1.1.length : Int))), (54, .slice x_v0.2.2.1 v0.2.2.length x_v0.2.2.2), (55, .int .i64 ((v0.2.2.length : Int))), (56, .int .i64 (Q42))] ⟨rfl, rfl, rfl, rfl, rfl, rfl, trivial⟩ (aX (cB fa59_0 rfl rfl) (aZ (bI ty3 rfl aB rfl) (bB rfl (bdo j54 fun r55 h56 j54 => (aZ (bN (c_impl_within ((nth v0.2.2 Q42.toNat).1) 1 (v0.1.1.length : Int) h56) rfl aO) (aX (cR rfl) ?_))))))
      rcases aK (!r55) with h57 | h57
      ·have j54 := cdT h57 j54
       refine bC (aE rfl) h57 ?_
       iterate 4 refine bE rfl ?_
       refine aX (v := .bool (true)) (bP rfl rfl) ?_
       obtain rfl := si j54
       show At _ _ _ _ _ _
       exact n1 ⟨rfl, rfl, rfl, rfl, rfl, rfl, trivial⟩
      ·have j54 := cdF h57 j54
       refine bC (aE rfl) h57 (aY rfl (cB fa59_1 rfl rfl) (bA (v := .agg #[.int .i64 (((nth v0.2.2 Q42.toNat).2).1), .int .i64 (((nth v0.2.2 Q42.toNat).2).2)]) rfl (q_ldbP [.int .i64 (((nth v0.2.2 Q42.toNat).2).1), .int .i64 (((nth v0.2.2 Q42.toNat).2).2)] ty57 rfl aB rfl rfl) (bdo j54 fun r58 h59 j54 => (bA rfl (bN (c_impl_rowOk ((nth v0.2.2 Q42.toNat).2) h59) rfl aO) (aY rfl (cR rfl) (aX (bO rfl rfl) ?_))))))
       obtain rfl := si j54
       show At _ _ _ _ _ _
       exact n1 ⟨rfl, rfl, rfl, rfl, rfl, rfl, trivial⟩
     refine cH H1 rfl (fun h60 H1 => ?_) (fun h60 H1 => ?_)
     ·refine sr (aH (v := .bool (false)) rfl (nl (bQ (rB (rT (rT (rB (rT (rT (?_))))))))))
      obtain rfl := hb47 _ (sm H1)
      replace H := sw.r H
      obtain rfl := si H
      exact bk
     ·exact bH (nB (nT (aP (gdo H1 fun h61 H1 => (aG (bR rfl rfl h61) (aF rfl (aJ (nLI () (hi46 _ (sm H1)) (.cons dl1 .nil)))))))))
    ·exact cW (xT (xT (xE (nMI () (hb47 _ (sm H1)) (.cons aA .nil)))))
   ·rintro e62 y44 H
    refine nT (aD (sr (aH (v := .int .i64 (1)) rfl (nl (bdo H fun x63 hx64 H => (cY (Λ := Unit) H (fun _ _ => []) (fun _ _ => []) ?_ ?_))))))
    ·refine aQ (dA hx64 () (fun Q67 _ => [(1, .pointer (some ⟨g4, 0, none⟩)), (3, .int .i64 ((v0.1.1.length : Int))), (8, .int .i64 (Q67))]) (fun _ _ => [box g4 42 [.slice x_v0.1.1.1 v0.1.1.length x_v0.1.1.2, .slice x_v0.1.2.1 v0.1.2.length x_v0.1.2.2, .slice x_v0.2.1.1 v0.2.1.length x_v0.2.1.2, .slice x_v0.2.2.1 v0.2.2.length x_v0.2.2.2]]) (.cons aA .nil) ?_)
     rintro _ Q67 z68 t70 H1 hi71 hb72
     unfold p_impl_StoreOk_b2 at H1
     refine aD (sr (aF rfl (aF rfl (aG (p_leq rfl rfl) (nl (cH H1 rfl (fun h75 H1 => ?_) (fun h75 H1 => ?_)))))))
     ·refine bH (nT (aD (aQ (sr (aI (bJ ty42 rfl aB rfl) (aF rfl (bdo H1 fun r76 h77 H1 => (f1 (cE (c_impl_Store_rows v0 x_v0 Q67 h77) (fun _ => (bF bG)) rfl (aC (aL (aS aR.s.s)) (aC (aL (aS aR.s)) (aC (aL (aS aR)) (aC (aL aR.s.s.s.s.s.s) aO))))) fun x78 => (aG (bS 57 dS rfl) (aG (cQ rfl rfl) (nl ?_)))))))))))
      refine cH H1 rfl (fun h79 H1 => ?_) (fun h79 H1 => ?_)
      ·refine sr (aH (v := .bool (false)) rfl (nl (bQ (rB (rT (rT (rB (rT (rT (?_))))))))))
       obtain rfl := hb72 _ (sm H1)
       replace H := sw.r H
       obtain rfl := si H
       exact bk
      ·exact bH (nB (nT (aP (aF rfl (gdo H1 fun h80 H1 => (aG (bR rfl rfl h80) (aH rfl (aJ (nLI () (hi71 _ (sm H1)) (.cons dl1 .nil))))))))))
     ·exact cW (xT (xT (xE (nMI () (hb72 _ (sm H1)) bK))))
    ·rintro e81 y69 H
     refine nT (sr (aH (v := .bool (true)) rfl (nl ?_)))
     obtain rfl := si H
     exact bQ bk
noncomputable def p_impl_FilterOk_b0 (v0 : (List Cond)) (Q5 : Int) : Option ((Int) ⊕ (Unit ⊕ Bool)) := cond (decide (Q5 < (v0.length : Int))) (gd (ix Q5 v0.length) <| bd (p_impl_tagOk ((nth v0 Q5.toNat).1)) fun r16 => cond (!r16) (some (.inr (.inr false))) (gd (I64 (Q5 + 1)) <| some (.inl (Q5 + 1)))) (some (.inr (.inl ())))
noncomputable def p_impl_FilterOk (v0 : (List Cond)) : Option (Bool) := bd (lp (p_impl_FilterOk_b0 v0) 0) <| sw (fun _ => some (decide ((v0.length : Int) ≤ 3))) (fun q => some q)
theorem c_impl_FilterOk {r : Bool} (v0 : (List Cond)) (x_v0 : Option Addr × Nat) (H : p_impl_FilterOk v0 = some r) : Fn' prog 156 #[.slice x_v0.1 v0.length x_v0.2] [imm (.slice x_v0.1 v0.length x_v0.2) v0] [] (ι := Unit) (fun _ => .bool (r)) (fun _ => []) (fun _ => []) := by
 refine cof (args := [_]) func156 ntmps156 fun c => ?_
 unfold p_impl_FilterOk at H
 refine sr (aH (v := .bool (false)) rfl (nl (aD (sr (aF rfl (aG (bS 99 dR rfl) (aF (v := .int .i64 (0)) rfl (nl (bdo H fun x1 hx2 H => (cY (Λ := Unit) H (fun _ _ => [(0, .slice x_v0.1 v0.length x_v0.2)]) (fun _ _ => []) ?_ ?_))))))))))
 ·refine aQ (dA hx2 () (fun Q5 _ => [(0, .slice x_v0.1 v0.length x_v0.2), (5, .slice x_v0.1 v0.length x_v0.2), (6, .int .i64 ((v0.length : Int))), (7, .int .i64 (Q5))]) (fun _ _ => []) bK ?_)
  rintro _ Q5 z6 t8 H1 hi9 hb10
  unfold p_impl_FilterOk_b0 at H1
  refine sr (aG (cM rfl rfl) (nl (aD (cH H1 rfl (fun h13 H1 => ?_) (fun h13 H1 => ?_)))))
  ·refine bH (nT (aD (aQ (sr (gdo H1 fun h14 H1 => (aI (bW dR ty99 rfl rfl h14 rfl (aN (aL aR))) (aI (v := .agg #[.string (((nth v0 Q5.toNat).1).1), .string (((nth v0 Q5.toNat).1).2), .bool ((nth v0 Q5.toNat).2)]) (cA (i := Q5.toNat) ty99 rfl (aN (aL aR)) h14.lt) (f1 (cD ty99) fun g15 => (stb (cs' := [.string (((nth v0 Q5.toNat).1).1), .string (((nth v0 Q5.toNat).1).2), .bool ((nth v0 Q5.toNat).2)]) ty99 cV (nl ?_))))))))))
   refine sr (aG (cB fa99_0 rfl rfl) (aI (v := .agg #[.string (((nth v0 Q5.toNat).1).1), .string (((nth v0 Q5.toNat).1).2)]) (q_ldbP [.string (((nth v0 Q5.toNat).1).1), .string (((nth v0 Q5.toNat).1).2)] ty97 rfl aB rfl rfl) (bdo H1 fun r16 h17 H1 => (aI (bN (c_impl_tagOk ((nth v0 Q5.toNat).1) h17) rfl aO) (aG (cR rfl) (nl (cH H1 rfl (fun h18 H1 => ?_) (fun h18 H1 => ?_))))))))
   ·refine sr (aH (v := .bool (false)) rfl (nl (bQ (rB (rT (rT (rB (rT (rT (?_))))))))))
    obtain rfl := hb10 _ (sm H1)
    replace H := sw.r H
    obtain rfl := si H
    exact bk
   ·exact bH (nB (nT (aP (gdo H1 fun h19 H1 => (aG (bR rfl rfl h19) (aF rfl (aJ (nLI () (hi9 _ (sm H1)) bK))))))))
  ·exact cW (xT (xT (xE (nMI () (hb10 _ (sm H1)) bK))))
 ·rintro e20 y7 H
  refine nT (sr (aF rfl (aG (bS 99 dR rfl) (aG (p_leq rfl rfl) (aH rfl (nl ?_))))))
  obtain rfl := si H
  exact bQ bk
noncomputable def p_slices_Index_Tag_Tag_b0 (v0 : (List Tag)) (v1 : Tag) (Q6 : Int) : Option ((Int) ⊕ (Unit ⊕ Int)) := cond (decide (Q6 < (v0.length : Int))) (gd (ix Q6 v0.length) <| cond (decide (v1 = nth v0 Q6.toNat)) (some (.inr (.inr Q6))) (gd (I64 (Q6 + 1)) <| some (.inl (Q6 + 1)))) (some (.inr (.inl ())))
noncomputable def p_slices_Index_Tag_Tag (v0 : (List Tag)) (v1 : Tag) : Option (Int) := bd (lp (p_slices_Index_Tag_Tag_b0 v0 v1) 0) <| sw (fun _ => some (-1)) (fun q => some q)
theorem c_slices_Index_Tag_Tag {r : Int} (v0 : (List Tag)) (x_v0 : Option Addr × Nat) (v1 : Tag) (H : p_slices_Index_Tag_Tag v0 v1 = some r) : Fn' prog 188 #[.slice x_v0.1 v0.length x_v0.2, .agg #[.string (v1.1), .string (v1.2)]] [imm (.slice x_v0.1 v0.length x_v0.2) v0] [] (ι := Unit) (fun _ => .int .i64 (r)) (fun _ => []) (fun _ => []) := by
 refine cof (args := [_, _]) func188 ntmps188 fun c => ?_
 unfold p_slices_Index_Tag_Tag at H
 refine sr (f1 (cC (t := 97) rfl) fun g1 => (aH (v := .int .i64 (0)) rfl (nl (aD (sr (aF rfl (aG (bS 97 dE rfl) (aF (v := .int .i64 (0)) rfl (nl (bdo H fun x2 hx3 H => (cY (Λ := Unit) H (fun _ _ => []) (fun _ _ => []) ?_ ?_)))))))))))
 ·refine aQ (dA hx3 () (fun Q6 _ => [(0, .slice x_v0.1 v0.length x_v0.2), (3, .pointer (some ⟨g1, 0, none⟩)), (7, .int .i64 ((v0.length : Int))), (8, .int .i64 (Q6))]) (fun _ _ => [box g1 97 [.string (v1.1), .string (v1.2)]]) (.cons aA .nil) ?_)
  rintro _ Q6 z7 t9 H1 hi10 hb11
  unfold p_slices_Index_Tag_Tag_b0 at H1
  refine sr (aG (cM rfl rfl) (nl (aD (cH H1 rfl (fun h14 H1 => ?_) (fun h14 H1 => ?_)))))
  ·refine bH (nT (aD (aQ (sr (aF rfl (aH rfl (nl (aD (dB [(5, .int .i64 (Q6)), (0, .slice x_v0.1 v0.length x_v0.2), (3, .pointer (some ⟨g1, 0, none⟩)), (7, .int .i64 ((v0.length : Int))), (8, .int .i64 (Q6))] mixed (.inr (by kernel_rfl)) ⟨rfl, rfl, rfl, rfl, rfl, trivial⟩ rfl (aZ (bJ ty97 rfl aB rfl) (bB rfl ?_)))))))))))
   refine bB rfl (gdo H1 fun h15 H1 => (aZ (bW dE ty97 rfl rfl h15 rfl (aN (aL aR))) (aZ (v := .agg #[.string ((nth v0 Q6.toNat).1), .string ((nth v0 Q6.toNat).2)]) (cA (i := Q6.toNat) ty97 rfl (aN (aL aR)) h15.lt) (aX (v := .bool (decide (v1 = nth v0 Q6.toNat))) (p_aeql (a := v1) (b := nth v0 Q6.toNat) ae97 rfl rfl rfl rfl) (nT (cH H1 rfl (fun h16 H1 => ?_) (fun h16 H1 => ?_)))))))
   ·refine sr (aF rfl (aH rfl (nl (bQ (rB (rT (rT (rB (rT (rT (?_)))))))))))
    obtain rfl := hb11 _ (sm H1)
    replace H := sw.r H
    obtain rfl := si H
    exact bk
   ·exact bH (nB (nT (aP (gdo H1 fun h17 H1 => (aG (bR rfl rfl h17) (aF rfl (aJ (nLI () (hi10 _ (sm H1)) (.cons aA .nil)))))))))
  ·exact cW (xT (xT (xE (nMI () (hb11 _ (sm H1)) bK))))
 ·rintro e18 y8 H
  refine nT (sr (aH (v := .int .i64 (-1)) rfl (nl ?_)))
  obtain rfl := si H
  exact bQ bk
noncomputable def p_slices_Contains_Tag_Tag (v0 : (List Tag)) (v1 : Tag) : Option (Bool) := bd (p_slices_Index_Tag_Tag v0 v1) fun r2 => some (decide (0 ≤ r2))
theorem c_slices_Contains_Tag_Tag {r : Bool} (v0 : (List Tag)) (x_v0 : Option Addr × Nat) (v1 : Tag) (H : p_slices_Contains_Tag_Tag v0 v1 = some r) : Fn' prog 157 #[.slice x_v0.1 v0.length x_v0.2, .agg #[.string (v1.1), .string (v1.2)]] [imm (.slice x_v0.1 v0.length x_v0.2) v0] [] (ι := Unit) (fun _ => .bool (r)) (fun _ => []) (fun _ => []) := by
 refine cof (args := [_, _]) func157 ntmps157 fun c => ?_
 unfold p_slices_Contains_Tag_Tag at H
 refine sr (f1 (cC (t := 97) rfl) fun g1 => (aH (v := .bool (false)) rfl (nl (sr (aF rfl (aI (bJ ty97 rfl aB rfl) (bdo H fun r2 h3 H => (aI (bN (c_slices_Index_Tag_Tag v0 x_v0 v1 h3) rfl (aC (aL aR) aO)) (aG (p_geq rfl rfl) (aH rfl (nl ?_)))))))))))
 obtain rfl := si H
 exact bQ bk
noncomputable def p_impl_FilterFits_b0 (v0 : (List Cond)) (v1 : (List Tag)) (Q13 : Int) : Option ((Int) ⊕ (Unit ⊕ Bool)) := cond (decide (Q13 < (v0.length : Int))) (gd (ix Q13 v0.length) <| bd (p_slices_Contains_Tag_Tag v1 ((nth v0 Q13.toNat).1)) fun r24 => cond (decide (r24 = ((nth v0 Q13.toNat).2))) (some (.inr (.inr false))) (gd (I64 (Q13 + 1)) <| some (.inl (Q13 + 1)))) (some (.inr (.inl ())))
noncomputable def p_impl_FilterFits (v0 : (List Cond)) (v1 : (List Tag)) : Option (Bool) := bd (bd (p_impl_FilterOk v0) fun r3 => cond (!r3) (some (true)) (bd (p_impl_NameOk v1) fun r6 => some (!r6))) fun b1 => cond (b1) (some false) (bd (lp (p_impl_FilterFits_b0 v0 v1) 0) <| sw (fun _ => some true) (fun q => some q))
theorem c_impl_FilterFits {r : Bool} (v0 : (List Cond)) (x_v0 : Option Addr × Nat) (v1 : (List Tag)) (x_v1 : Option Addr × Nat) (H : p_impl_FilterFits v0 v1 = some r) : Fn' prog 107 #[.slice x_v0.1 v0.length x_v0.2, .slice x_v1.1 v1.length x_v1.2] [imm (.slice x_v0.1 v0.length x_v0.2) v0, imm (.slice x_v1.1 v1.length x_v1.2) v1] [] (ι := Unit) (fun _ => .bool (r)) (fun _ => []) (fun _ => []) := by
 refine cof (args := [_, _]) func107 ntmps107 fun c => ?_
 unfold p_impl_FilterFits at H
 refine sr (aH (v := .bool (false)) rfl (nl (aD (bdo H fun b1 j2 H => (cZ [(14, .bool (b1)), (0, .slice x_v0.1 v0.length x_v0.2), (1, .slice x_v1.1 v1.length x_v1.2)] ?_ ?_)))))
 ·refine dC [(0, .slice x_v0.1 v0.length x_v0.2), (1, .slice x_v1.1 v1.length x_v1.2)] ⟨rfl, rfl, trivial⟩ (bB rfl (bdo j2 fun r3 h4 j2 => (aZ (bN (c_impl_FilterOk v0 x_v0 h4) rfl (aC (aL aR) aO)) (aX (cR rfl) ?_))))
  rcases aK (!r3) with h5 | h5
  ·have j2 := cdT h5 j2
   refine bC (aE rfl) h5 ?_
   iterate 3 refine bE rfl ?_
   refine aX (v := .bool (true)) (bP rfl rfl) ?_
   obtain rfl := si j2
   show At _ _ _ _ _ _
   exact n1 ⟨rfl, rfl, rfl, trivial⟩
  ·have j2 := cdF h5 j2
   refine bC (aE rfl) h5 (aY rfl (aE rfl) (bdo j2 fun r6 h7 j2 => (bA rfl (bN (c_impl_NameOk v1 x_v1 h7) rfl (aC (aL aR.s) aO)) (aY rfl (cR rfl) (aX (bO rfl rfl) ?_)))))
   obtain rfl := si j2
   show At _ _ _ _ _ _
   exact n1 ⟨rfl, rfl, rfl, trivial⟩
 refine cH H rfl (fun h8 H => ?_) (fun h8 H => ?_)
 ·refine sr (aH (v := .bool (false)) rfl (nl (bQ (rT (?_)))))
  obtain rfl := si H
  exact bk
 ·refine bH (nT (aD (sr (aF rfl (aG (bS 99 dR rfl) (aF (v := .int .i64 (0)) rfl (nl (bdo H fun x9 hx10 H => (cY (Λ := Unit) H (fun _ _ => []) (fun _ _ => []) ?_ ?_)))))))))
  ·refine aQ (dA hx10 () (fun Q13 _ => [(1, .slice x_v1.1 v1.length x_v1.2), (15, .slice x_v0.1 v0.length x_v0.2), (16, .int .i64 ((v0.length : Int))), (17, .int .i64 (Q13))]) (fun _ _ => []) bK ?_)
   rintro _ Q13 z14 t16 H1 hi17 hb18
   unfold p_impl_FilterFits_b0 at H1
   refine sr (aG (cM rfl rfl) (nl (aD (cH H1 rfl (fun h21 H1 => ?_) (fun h21 H1 => ?_)))))
   ·refine bH (nT (aD (aQ (sr (gdo H1 fun h22 H1 => (aI (bW dR ty99 rfl rfl h22 rfl (aN (aL aR))) (aI (v := .agg #[.string (((nth v0 Q13.toNat).1).1), .string (((nth v0 Q13.toNat).1).2), .bool ((nth v0 Q13.toNat).2)]) (cA (i := Q13.toNat) ty99 rfl (aN (aL aR)) h22.lt) (f1 (cD ty99) fun g23 => (stb (cs' := [.string (((nth v0 Q13.toNat).1).1), .string (((nth v0 Q13.toNat).1).2), .bool ((nth v0 Q13.toNat).2)]) ty99 cV (nl ?_))))))))))
    refine aD (dB [(6, .pointer (some ⟨g23, 0, none⟩)), (1, .slice x_v1.1 v1.length x_v1.2), (15, .slice x_v0.1 v0.length x_v0.2), (16, .int .i64 ((v0.length : Int))), (17, .int .i64 (Q13))] mixed (.inr (by kernel_rfl)) ⟨rfl, rfl, rfl, rfl, rfl, trivial⟩ rfl (bB rfl (aX (cB fa99_0 rfl rfl) (aZ (v := .agg #[.string (((nth v0 Q13.toNat).1).1), .string (((nth v0 Q13.toNat).1).2)]) (q_ldbP [.string (((nth v0 Q13.toNat).1).1), .string (((nth v0 Q13.toNat).1).2)] ty97 rfl aB rfl rfl) (bdo H1 fun r24 h25 H1 => (aZ (bN (c_slices_Contains_Tag_Tag v1 x_v1 ((nth v0 Q13.toNat).1) h25) rfl (aC (aL aR.s) aO)) (aX (cB fa99_1 rfl rfl) (aZ (bI ty4 rfl aB rfl) (aX (p_beql underlying4 rfl rfl) ?_)))))))))
    refine nT (cH H1 rfl (fun h26 H1 => ?_) (fun h26 H1 => ?_))
    ·refine sr (aH (v := .bool (false)) rfl (nl (bQ (rB (rT (rT (rB (rT (rT (?_))))))))))
     obtain rfl := hb18 _ (sm H1)
     replace H := sw.r H
     obtain rfl := si H
     exact bk
    ·exact bH (nB (nT (aP (gdo H1 fun h27 H1 => (aG (bR rfl rfl h27) (aF rfl (aJ (nLI () (hi17 _ (sm H1)) bK))))))))
   ·exact cW (xT (xT (xE (nMI () (hb18 _ (sm H1)) bK))))
  ·rintro e28 y15 H
   refine nT (sr (aH (v := .bool (true)) rfl (nl ?_)))
   obtain rfl := si H
   exact bQ bk
noncomputable def p_impl_IndexFind_b0 (v0 : Index) (v1 : (List Cond)) (Q13 : (List Int) × Int) : Option (((List Int) × Int) ⊕ ((List Int))) := cond (decide (Q13.2 < (v0.1.length : Int))) (gd (ix Q13.2 v0.1.length) <| bd (p_impl_FilterFits v1 (nth v0.1 Q13.2.toNat)) fun r23 => cond (r23) (gd (I64 (Q13.2 + 1)) <| gd (room (Q13.1.length + 1)) <| some (.inl ((Q13.1 ++ [Q13.2 + 1]), Q13.2 + 1))) (gd (I64 (Q13.2 + 1)) <| some (.inl (Q13.1, Q13.2 + 1)))) (some (.inr Q13.1))
noncomputable def p_impl_IndexFind (v0 : Index) (v1 : (List Cond)) : Option ((List Int)) := bd (p_impl_IndexOk v0) fun r6 => cond (!r6) (some ([] : List Int)) (bd (lp (p_impl_IndexFind_b0 v0 v1) (([] : List Int), 0)) fun x9 => some x9)
theorem c_impl_IndexFind {r : (List Int)} (v0 : Index) (x_v0 : (Option Addr × Nat) × (Option Addr × Nat)) (v1 : (List Cond)) (x_v1 : Option Addr × Nat) (H : p_impl_IndexFind v0 v1 = some r) : Fn' prog 50 #[.agg #[.slice x_v0.1.1 v0.1.length x_v0.1.2, .slice x_v0.2.1 v0.2.length x_v0.2.2], .slice x_v1.1 v1.length x_v1.2] [imm (.slice x_v0.1.1 v0.1.length x_v0.1.2) v0.1, imm (.slice x_v0.2.1 v0.2.length x_v0.2.2) v0.2, imm (.slice x_v1.1 v1.length x_v1.2) v1] [] (ι := Option Addr × Nat) (fun x => .slice x.1 r.length x.2) (fun _ => []) (fun x => [tree (.slice x.1 r.length x.2) r]) := by
 refine cof (args := [_, _]) func50 ntmps50 fun c => ?_
 unfold p_impl_IndexFind at H
 refine bM aR fun X1 => (bM aR.s.s fun X2 => (sr (f1 (cC (t := 38) rfl) fun g3 => (aH (v := .slice none 0 0) rfl (nl (sr (f2 (e_lit0 Int dT ty3) fun a4 c5 => (aH rfl (nl (aD (sr (aI (bJ ty38 rfl hs1 rfl) ?_))))))))))))
 refine bdo H fun r6 h7 H => (aI (bN (c_impl_IndexOk v0 x_v0 h7) rfl (aC (aL (aS aR.s)) (aC (aL (aS aR)) aO))) (aG (cR rfl) (nl (cH H rfl (fun h8 H => ?_) (fun h8 H => ?_)))))
 ·refine sr (aF rfl (aH rfl (nl (bQ (rT (?_))))))
  obtain rfl := si H
  exact back1 (a4, c5) rfl (ResV.tmp (v := .slice a4 (([] : List Int).length) c5) rfl) rfl cK (.cons aA .nil)
 ·refine bH (nT (aD (sr (aG (cB fa38_0 rfl rfl) (aI (bI ty35 rfl hs1 rfl) (aG (bS 105 dN rfl) (aF (v := .int .i64 (0)) rfl (nl (bdo H fun x9 hx10 H => (cX (ι := Option Addr × Nat) (fun ψ => [(5, .slice ψ.1 x9.length ψ.2)]) (fun ψ => [tree (.slice ψ.1 x9.length ψ.2) x9]) ?_ ?_))))))))))
  ·refine aQ (dA hx10 (a4, c5) (fun Q13 z14 => [(1, .slice x_v1.1 v1.length x_v1.2), (5, .slice z14.1 Q13.1.length z14.2), (14, .slice x_v0.1.1 v0.1.length x_v0.1.2), (15, .int .i64 ((v0.1.length : Int))), (16, .int .i64 (Q13.2))]) (fun Q13 z14 => [tree (.slice z14.1 Q13.1.length z14.2) Q13.1]) (.cons aA .nil) ?_)
   rintro _ Q13 z14 t16 H1 hi17 hb18
   unfold p_impl_IndexFind_b0 at H1
   refine sr (aG (cM rfl rfl) (nl (aD (cH H1 rfl (fun h21 H1 => ?_) (fun h21 H1 => ?_)))))
   ·refine bH (nT (aD (aQ (sr (aF rfl (gdo H1 fun h22 H1 => (aI (bW dN ty105 rfl rfl h22 rfl (aL (aT aR.s))) (aI (bZ (i := Q13.2.toNat) (j := 0) ty105 rfl (aL (aT aR.s)) h22.lt rfl) (aH rfl (aH rfl (nl ?_)))))))))))
    refine sr (aF rfl (aF rfl (bdo H1 fun r23 h24 H1 => (aI (bN (c_impl_FilterFits v1 x_v1 (nth v0.1 Q13.2.toNat) ((X1 Q13.2.toNat).1, (X1 Q13.2.toNat).2.1) h24) rfl (aC (aL aR.s.s.s.s) (aC (aL (aS (aW aR.s h22.lt))) aO))) (nl (cH H1 rfl (fun h25 H1 => ?_) (fun h25 H1 => ?_)))))))
    ·refine aP (aF rfl (aF rfl (gdo H1 fun h26 H1 => (aG (bR rfl rfl h26) (f1 (e_lit (vs := [(0, .int .i64 (Q13.2 + 1))]) [.int .i64 (Q13.2 + 1)] dT ty3 rfl (by decide) (by decide) (by kernel_rfl)) fun g27 => (gdo H1 fun h30 H1 => (f2 (e_app1 (l := Q13.1) (α := Int) (Q13.2 + 1) () dT ty3 rfl rfl (h30.b (by decide)) h30.x rfl (cS _) (.cons dl1 (.cons aA .nil))) fun a28 c29 => (aH rfl (aJ (nB (nT (?_))))))))))))
     exact aP (aG (bR rfl rfl h26) (aF rfl (aJ (nLI (a28, c29) (hi17 _ (sm H1)) (.cons aA .nil)))))
    ·exact bH (nB (nT (aP (gdo H1 fun h31 H1 => (aG (bR rfl rfl h31) (aF rfl (aJ (nLI (z14.1, z14.2) (hi17 _ (sm H1)) (.cons aA .nil)))))))))
   ·refine cW (xT (xT (xE (?_))))
    obtain rfl := hb18 _ (sm H1)
    exact nMC (z14.1, z14.2) ⟨rfl, trivial⟩ bT (.cons aA .nil)
  ·intro y15
   show At _ _ [(5, .slice y15.1 x9.length y15.2)] _ [tree (.slice y15.1 x9.length y15.2) x9] _
   refine nT (sr (aF rfl (aH rfl (nl (bQ ?_)))))
   obtain rfl := si H
   exact back1 y15 rfl (ResV.tmp (v := .slice y15.1 x9.length y15.2) rfl) rfl cK (.cons aA .nil)
noncomputable def p_impl_BlockCut_b0 (v0 : (List Row)) (v1 : Int) (v2 : Int) (Q10 : (List Row) × Int) : Option (((List Row) × Int) ⊕ ((List Row))) := cond (decide (Q10.2 < (v0.length : Int))) (gd (ix Q10.2 v0.length) <| bd (p_impl_within ((nth v0 Q10.2.toNat).1) v1 v2) fun r21 => cond (r21) (gd (room (Q10.1.length + 1)) <| gd (I64 (Q10.2 + 1)) <| some (.inl ((Q10.1 ++ [nth v0 Q10.2.toNat]), Q10.2 + 1))) (gd (I64 (Q10.2 + 1)) <| some (.inl (Q10.1, Q10.2 + 1)))) (some (.inr Q10.1))
noncomputable def p_impl_BlockCut (v0 : (List Row)) (v1 : Int) (v2 : Int) : Option ((List Row)) := bd (p_impl_BlockOk v0) fun r3 => cond (!r3) (some ([] : List Row)) (bd (lp (p_impl_BlockCut_b0 v0 v1 v2) (([] : List Row), 0)) fun x6 => some x6)
theorem c_impl_BlockCut {r : (List Row)} (v0 : (List Row)) (x_v0 : Option Addr × Nat) (v1 : Int) (v2 : Int) (H : p_impl_BlockCut v0 v1 v2 = some r) : Fn' prog 51 #[.slice x_v0.1 v0.length x_v0.2, .int .i64 (v1), .int .i64 (v2)] [imm (.slice x_v0.1 v0.length x_v0.2) v0] [] (ι := Option Addr × Nat) (fun x => .slice x.1 r.length x.2) (fun _ => []) (fun x => [tree (.slice x.1 r.length x.2) r]) := by
 refine cof (args := [_, _, _]) func51 ntmps51 fun c => ?_
 unfold p_impl_BlockCut at H
 refine sr (aH (v := .slice none 0 0) rfl (nl (sr (f2 (e_lit0 Row dS ty57) fun a1 c2 => (aH rfl (nl (aD (sr (aF rfl (bdo H fun r3 h4 H => (aI (bN (c_impl_BlockOk v0 x_v0 h4) rfl (aC (aL aR) aO)) (aG (cR rfl) (nl ?_)))))))))))))
 refine cH H rfl (fun h5 H => ?_) (fun h5 H => ?_)
 ·refine sr (aF rfl (aH rfl (nl (bQ (rT (?_))))))
  obtain rfl := si H
  exact back1 (a1, c2) rfl (ResV.tmp (v := .slice a1 (([] : List Row).length) c2) rfl) rfl cK (.cons aA .nil)
 ·refine bH (nT (aD (sr (aF rfl (aG (bS 57 dS rfl) (aF (v := .int .i64 (0)) rfl (nl (bdo H fun x6 hx7 H => (cX (ι := Option Addr × Nat) (fun ψ => [(7, .slice ψ.1 x6.length ψ.2)]) (fun ψ => [tree (.slice ψ.1 x6.length ψ.2) x6]) ?_ ?_)))))))))
  ·refine aQ (dA hx7 (a1, c2) (fun Q10 z11 => [(1, .int .i64 (v1)), (2, .int .i64 (v2)), (7, .slice z11.1 Q10.1.length z11.2), (15, .slice x_v0.1 v0.length x_v0.2), (16, .int .i64 ((v0.length : Int))), (17, .int .i64 (Q10.2))]) (fun Q10 z11 => [tree (.slice z11.1 Q10.1.length z11.2) Q10.1]) (.cons aA .nil) ?_)
   rintro _ Q10 z11 t13 H1 hi14 hb15
   unfold p_impl_BlockCut_b0 at H1
   refine sr (aG (cM rfl rfl) (nl (aD (cH H1 rfl (fun h18 H1 => ?_) (fun h18 H1 => ?_)))))
   ·refine bH (nT (aD (aQ (sr (gdo H1 fun h19 H1 => (aI (bW dS ty57 rfl rfl h19 rfl (aN (aL aR))) (aI (v := .agg #[.int .i64 ((nth v0 Q10.2.toNat).1), .int .i64 ((nth v0 Q10.2.toNat).2)]) (cA (i := Q10.2.toNat) ty57 rfl (aN (aL aR)) h19.lt) (f1 (cD ty57) fun g20 => (stb (cs' := [.int .i64 ((nth v0 Q10.2.toNat).1), .int .i64 ((nth v0 Q10.2.toNat).2)]) ty57 cV (nl ?_))))))))))
    refine sr (aG (cB fa57_0 rfl rfl) (aI (bI ty3 rfl aB rfl) (aF rfl (aF rfl (bdo H1 fun r21 h22 H1 => (aI (bN (c_impl_within ((nth v0 Q10.2.toNat).1) v1 v2 h22) rfl aO) (nl (cH H1 rfl (fun h23 H1 => ?_) (fun h23 H1 => ?_)))))))))
    ·refine aP (aF rfl (aI (bJ ty57 rfl aB rfl) (f1 (e_lit (vs := [(0, .agg #[.int .i64 ((nth v0 Q10.2.toNat).1), .int .i64 ((nth v0 Q10.2.toNat).2)])]) [.int .i64 ((nth v0 Q10.2.toNat).1), .int .i64 ((nth v0 Q10.2.toNat).2)] dS ty57 rfl (by decide) (by decide) (by kernel_rfl)) fun g24 => (gdo H1 fun h27 H1 => (f2 (e_app1 (l := Q10.1) (α := Row) (nth v0 Q10.2.toNat) ((), ()) dS ty57 rfl rfl (h27.b (by decide)) h27.x rfl (cS _) (.cons dl2 (.cons aA .nil))) fun a25 c26 => (aH rfl (aJ (nB (nT (aP (gdo H1 fun h28 H1 => ?_)))))))))))
     exact aG (bR rfl rfl h28) (aF rfl (aJ (nLI (a25, c26) (hi14 _ (sm H1)) (.cons aA .nil))))
    ·exact bH (nB (nT (aP (gdo H1 fun h29 H1 => (aG (bR rfl rfl h29) (aF rfl (aJ (nLI (z11.1, z11.2) (hi14 _ (sm H1)) (.cons dl1 .nil)))))))))
   ·refine cW (xT (xT (xE (?_))))
    obtain rfl := hb15 _ (sm H1)
    exact nMC (z11.1, z11.2) ⟨rfl, trivial⟩ bT (.cons aA .nil)
  ·intro y12
   show At _ _ [(7, .slice y12.1 x6.length y12.2)] _ [tree (.slice y12.1 x6.length y12.2) x6] _
   refine nT (sr (aF rfl (aH rfl (nl (bQ ?_)))))
   obtain rfl := si H
   exact back1 y12 rfl (ResV.tmp (v := .slice y12.1 x6.length y12.2) rfl) rfl cK (.cons aA .nil)
noncomputable def p_strings_Join (v0 : List ByteArray) (v1 : ByteArray) : Option ByteArray := gd (room v0.length) <| gd (room (joinS v0 v1).size) <| some (joinS v0 v1)
def jnF : Nat → Nat
 | 156 => 109 | 165 => 159 | 166 => 160 | 169 => 161 | 240 => 189 | 241 => 190 | 276 => 208 | 277 => 209 | n => n
def jnT : Nat → Nat
 | 0 => 0 | 3 => 3 | 4 => 4 | 5 => 5 | 9 => 9 | 20 => 20 | 31 => 159 | 37 => 53 | 70 => 204 | 72 => 206 | 75 => 209 | 76 => 210 | 80 => 212 | 127 => 237 | 164 => 250 | n => n
def jnG : Nat → Nat := fun n => n
def jnRen : Go.Shelf.Ren := ⟨jnF, jnT, jnG⟩
theorem jnLays : Lays.n156 prog jnRen := by
 constructor
 ·exact mixed
 ·exact func109.trans (congrArg some (by kernel_rfl))
 ·exact func159.trans (congrArg some (by kernel_rfl))
 ·exact func160.trans (congrArg some (by kernel_rfl))
 ·exact func161.trans (congrArg some (by kernel_rfl))
 ·exact func189.trans (congrArg some (by kernel_rfl))
 ·exact func190.trans (congrArg some (by kernel_rfl))
 ·exact func208.trans (congrArg some (by kernel_rfl))
 ·exact func209.trans (congrArg some (by kernel_rfl))
 all_goals first | kernel_rfl | (intro _; kernel_rfl)
theorem jnX : Builder.Extra prog jnRen where
 sizeBuilder := by kernel_rfl
 liesBuilder := by kernel_rfl
 t5 := by kernel_rfl
 a5 := fun _ => by kernel_rfl
 z5 := fun _ => by kernel_rfl
 v5 := fun _ => by kernel_rfl
 infoByte := by kernel_rfl
 cellsByte := by kernel_rfl
 sizeByte := by kernel_rfl
 neB5 := by decide
theorem c_strings_Join {r : ByteArray} (v0 : List ByteArray) (x_v0 : Option Addr × Nat) (v1 : ByteArray) (H : p_strings_Join v0 v1 = some r) : FnL' True prog 109 #[.slice x_v0.1 v0.length x_v0.2, .string (v1)] [imm (.slice x_v0.1 v0.length x_v0.2) v0] [] (ι := Unit) (fun _ => .string (r)) (fun _ => []) (fun _ => []) := by
 unfold p_strings_Join at H
 refine gdo H fun h1 H => (gdo H fun h2 H => ?_)
 have hr := Option.some.inj H
 subst hr
 exact FnL'.join jnLays jnX ⟨_, func109, by kernel_rfl, by kernel_rfl⟩ v0 x_v0 v1 (Nat.le_trans h1 (by decide)) (Nat.le_trans h2 (by decide))
noncomputable def p_impl_NameText_b0 (v0 : (List Tag)) (Q10 : (List ByteArray) × Int) : Option (((List ByteArray) × Int) ⊕ ((List ByteArray))) := cond (decide (Q10.2 < (v0.length : Int))) (gd (ix Q10.2 v0.length) <| gd (room (((nth v0 Q10.2.toNat).1).size + (⟨#[61]⟩ : ByteArray).size)) <| gd (room ((((nth v0 Q10.2.toNat).1) ++ (⟨#[61]⟩ : ByteArray)).size + ((nth v0 Q10.2.toNat).2).size)) <| gd (room (Q10.1.length + 1)) <| gd (I64 (Q10.2 + 1)) <| some (.inl ((Q10.1 ++ [(((nth v0 Q10.2.toNat).1) ++ (⟨#[61]⟩ : ByteArray)) ++ ((nth v0 Q10.2.toNat).2)]), Q10.2 + 1))) (some (.inr Q10.1))
noncomputable def p_impl_NameText (v0 : (List Tag)) : Option (ByteArray) := bd (p_impl_NameOk v0) fun r1 => cond (!r1) (some (⟨#[]⟩ : ByteArray)) (bd (lp (p_impl_NameText_b0 v0) (([] : List ByteArray), 0)) fun x6 => bd (p_strings_Join x6 (⟨#[44]⟩ : ByteArray)) fun r28 => some r28)
theorem c_impl_NameText {r : ByteArray} (v0 : (List Tag)) (x_v0 : Option Addr × Nat) (H : p_impl_NameText v0 = some r) : FnL' True prog 53 #[.slice x_v0.1 v0.length x_v0.2] [imm (.slice x_v0.1 v0.length x_v0.2) v0] [] (ι := Unit) (fun _ => .string (r)) (fun _ => []) (fun _ => []) := by
 refine calls_ofX (args := [_]) func53 rfl (by kernel_rfl) ntmps53 (by simp) fun c hL => ?_
 unfold p_impl_NameText at H
 refine sr (aH (v := .string ((⟨#[]⟩ : ByteArray))) rfl (nl (aD (sr (aF rfl (bdo H fun r1 h2 H => (aI (bN (c_impl_NameOk v0 x_v0 h2) rfl (aC (aL aR) aO)) (aG (cR rfl) (nl (cH H rfl (fun h3 H => ?_) (fun h3 H => ?_)))))))))))
 ·refine sr (aH (v := .string ((⟨#[]⟩ : ByteArray))) rfl (nl (bQ (rT (?_)))))
  obtain rfl := si H
  exact bk
 ·refine bH (nT (sr (f2 (e_lit0 ByteArray underlying159 ty9) fun a4 c5 => (aH rfl (nl (aD (sr (aF rfl (aG (bS 97 dE rfl) (aF (v := .int .i64 (0)) rfl (nl (bdo H fun x6 hx7 H => ?_))))))))))))
  refine cX (ι := Option Addr × Nat) (fun ψ => [(3, .slice ψ.1 x6.length ψ.2)]) (fun ψ => [tree (.slice ψ.1 x6.length ψ.2) x6]) ?_ ?_
  ·refine aQ (dA hx7 (a4, c5) (fun Q10 z11 => [(3, .slice z11.1 Q10.1.length z11.2), (10, .slice x_v0.1 v0.length x_v0.2), (11, .int .i64 ((v0.length : Int))), (12, .int .i64 (Q10.2))]) (fun Q10 z11 => [tree (.slice z11.1 Q10.1.length z11.2) Q10.1]) (.cons aA .nil) ?_)
   rintro _ Q10 z11 t13 H1 hi14 hb15
   unfold p_impl_NameText_b0 at H1
   refine sr (aG (cM rfl rfl) (nl (aD (cH H1 rfl (fun h18 H1 => ?_) (fun h18 H1 => ?_)))))
   ·refine bH (nT (aD (aQ (sr (gdo H1 fun h19 H1 => (aI (bW dE ty97 rfl rfl h19 rfl (aN (aL aR))) (aI (v := .agg #[.string ((nth v0 Q10.2.toNat).1), .string ((nth v0 Q10.2.toNat).2)]) (cA (i := Q10.2.toNat) ty97 rfl (aN (aL aR)) h19.lt) (f1 (cD ty97) fun g20 => (stb (cs' := [.string ((nth v0 Q10.2.toNat).1), .string ((nth v0 Q10.2.toNat).2)]) ty97 cV (nl ?_))))))))))
    refine aP (aF rfl (aG (cB fa97_0 rfl rfl) (aI (bI ty9 rfl aB rfl) (gdo H1 fun h21 H1 => (aG (p_cat rfl rfl h21) (aG (cB fa97_1 rfl rfl) (aI (bI ty9 rfl aB rfl) (gdo H1 fun h22 H1 => (aG (p_cat rfl rfl h22) ?_)))))))))
    exact f1 (e_lit (vs := [(0, .string ((((nth v0 Q10.2.toNat).1) ++ (⟨#[61]⟩ : ByteArray)) ++ ((nth v0 Q10.2.toNat).2)))]) [.string ((((nth v0 Q10.2.toNat).1) ++ (⟨#[61]⟩ : ByteArray)) ++ ((nth v0 Q10.2.toNat).2))] underlying159 ty9 rfl (by decide) (by decide) (by kernel_rfl)) fun g23 => (gdo H1 fun h26 H1 => (f2 (e_app1 (l := Q10.1) (α := ByteArray) ((((nth v0 Q10.2.toNat).1) ++ (⟨#[61]⟩ : ByteArray)) ++ ((nth v0 Q10.2.toNat).2)) () underlying159 ty9 rfl rfl (h26.b (by decide)) h26.x rfl (cS _) (.cons dl2 (.cons aA .nil))) fun a24 c25 => (aH rfl (aJ (nB (nT (aP (gdo H1 fun h27 H1 => (aG (bR rfl rfl h27) (aF rfl (aJ (nLI (a24, c25) (hi14 _ (sm H1)) (.cons aA .nil)))))))))))))
   ·refine cW (xT (xT (xE (?_))))
    obtain rfl := hb15 _ (sm H1)
    exact nMC (z11.1, z11.2) ⟨rfl, trivial⟩ bT (.cons aA .nil)
  ·intro y12
   show At _ _ [(3, .slice y12.1 x6.length y12.2)] _ [tree (.slice y12.1 x6.length y12.2) x6] _
   refine nT (sr (aF rfl (bdo H fun r28 h29 H => (aI (bN (c_strings_Join x6 y12 (⟨#[44]⟩ : ByteArray) h29) rfl (aC (bL aB) aO) hL) (aH rfl (nl ?_))))))
   obtain rfl := si H
   exact bQ bk
noncomputable def p_impl_StoreAsk_b0 (v0 : Store) (v2 : Int) (v3 : Int) (r10 : (List Int)) (Q17 : (List Hit) × Int) : Option (((List Hit) × Int) ⊕ ((List Hit))) := cond (decide (Q17.2 < (r10.length : Int))) (gd (ix Q17.2 r10.length) <| bd (p_impl_Store_rows v0 (nth r10 Q17.2.toNat)) fun r27 => bd (p_impl_BlockCut r27 v2 v3) fun r30 => cond (decide (0 < (r30.length : Int))) (gd (I64 ((nth r10 Q17.2.toNat) - 1)) <| gd (ix ((nth r10 Q17.2.toNat) - 1) v0.1.1.length) <| bd (p_impl_NameText (nth v0.1.1 (((nth r10 Q17.2.toNat) - 1).toNat))) fun r36 => gd (room (Q17.1.length + 1)) <| gd (I64 (Q17.2 + 1)) <| some (.inl ((Q17.1 ++ [(r36, r30)]), Q17.2 + 1))) (gd (I64 (Q17.2 + 1)) <| some (.inl (Q17.1, Q17.2 + 1)))) (some (.inr Q17.1))
noncomputable def p_impl_StoreAsk (v0 : Store) (v1 : (List Cond)) (v2 : Int) (v3 : Int) : Option ((List Hit)) := bd (p_impl_StoreOk v0) fun r7 => cond (!r7) (some ([] : List Hit)) (bd (p_impl_IndexFind v0.1 v1) fun r10 => bd (lp (p_impl_StoreAsk_b0 v0 v2 v3 r10) (([] : List Hit), 0)) fun x13 => some x13)
theorem c_impl_StoreAsk {r : (List Hit)} (v0 : Store) (x_v0 : ((Option Addr × Nat) × (Option Addr × Nat)) × (Option Addr × Nat) × (Option Addr × Nat)) (v1 : (List Cond)) (x_v1 : Option Addr × Nat) (v2 : Int) (v3 : Int) (H : p_impl_StoreAsk v0 v1 v2 v3 = some r) : FnL' True prog 13 #[.agg #[.slice x_v0.1.1.1 v0.1.1.length x_v0.1.1.2, .slice x_v0.1.2.1 v0.1.2.length x_v0.1.2.2, .slice x_v0.2.1.1 v0.2.1.length x_v0.2.1.2, .slice x_v0.2.2.1 v0.2.2.length x_v0.2.2.2], .slice x_v1.1 v1.length x_v1.2, .int .i64 (v2), .int .i64 (v3)] [imm (.slice x_v0.1.1.1 v0.1.1.length x_v0.1.1.2) v0.1.1, imm (.slice x_v0.1.2.1 v0.1.2.length x_v0.1.2.2) v0.1.2, imm (.slice x_v0.2.1.1 v0.2.1.length x_v0.2.1.2) v0.2.1, imm (.slice x_v0.2.2.1 v0.2.2.length x_v0.2.2.2) v0.2.2, imm (.slice x_v1.1 v1.length x_v1.2) v1] [] (ι := Option Addr × Nat) (fun x => .slice x.1 r.length x.2) (fun _ => []) (fun x => [tree (.slice x.1 r.length x.2) r]) := by
 refine calls_ofX (args := [_, _, _, _]) func13 rfl (by kernel_rfl) ntmps13 (by simp) fun c hL => ?_
 unfold p_impl_StoreAsk at H
 refine bM aR fun X1 => (bM aR.s.s fun X2 => (bM aR.s.s.s.s fun X3 => (sr (f1 (cC (t := 42) rfl) fun g4 => (aH (v := .slice none 0 0) rfl (nl (sr (f2 (e_lit0 Hit dM ty107) fun a5 c6 => (aH rfl (nl (aD (sr ?_))))))))))))
 refine aI (bJ ty42 rfl hs1 rfl) (bdo H fun r7 h8 H => (aI (bN (c_impl_StoreOk v0 x_v0 h8) rfl (aC (aL (aS aR.s.s)) (aC (aL (aS aR.s)) (aC (aL (aS aR)) (aC (aL aR.s.s.s.s.s.s) aO))))) (aG (cR rfl) (nl (cH H rfl (fun h9 H => ?_) (fun h9 H => ?_))))))
 ·refine sr (aF rfl (aH rfl (nl (bQ (rT (?_))))))
  obtain rfl := si H
  exact back1 (a5, c6) rfl (ResV.tmp (v := .slice a5 (([] : List Hit).length) c6) rfl) rfl cK (.cons aA .nil)
 ·refine bH (nT (aD (sr (aG (cB fa42_0 rfl rfl) (aI (v := .agg #[.slice x_v0.1.1.1 v0.1.1.length x_v0.1.1.2, .slice x_v0.1.2.1 v0.1.2.length x_v0.1.2.2]) (q_ldbP [.slice x_v0.1.1.1 v0.1.1.length x_v0.1.1.2, .slice x_v0.1.2.1 v0.1.2.length x_v0.1.2.2] ty38 rfl hs1 rfl rfl) (aF rfl (bdo H fun r10 h11 H => (f1 (cE (c_impl_IndexFind v0.1 x_v0.1 v1 x_v1 h11) (fun _ => (bF bG)) rfl (aC (aL (aS aR.s.s)) (aC (aL (aS aR.s)) (aC (aL aR.s.s.s.s.s.s.s) aO)))) fun x12 => (aG (bS 3 dT rfl) (aF (v := .int .i64 (0)) rfl (nl ?_)))))))))))
  refine bdo H fun x13 hx14 H => (cX (ι := Option Addr × Nat) (fun ψ => [(9, .slice ψ.1 x13.length ψ.2)]) (fun ψ => [tree (.slice ψ.1 x13.length ψ.2) x13]) ?_ ?_)
  ·refine aQ (dA hx14 (a5, c6) (fun Q17 z18 => [(2, .int .i64 (v2)), (3, .int .i64 (v3)), (4, .pointer (some ⟨g4, 0, none⟩)), (9, .slice z18.1 Q17.1.length z18.2), (21, .slice x12.1 r10.length x12.2), (22, .int .i64 ((r10.length : Int))), (23, .int .i64 (Q17.2))]) (fun Q17 z18 => [box g4 42 [.slice x_v0.1.1.1 v0.1.1.length x_v0.1.1.2, .slice x_v0.1.2.1 v0.1.2.length x_v0.1.2.2, .slice x_v0.2.1.1 v0.2.1.length x_v0.2.1.2, .slice x_v0.2.2.1 v0.2.2.length x_v0.2.2.2], tree (.slice z18.1 Q17.1.length z18.2) Q17.1, tree (.slice x12.1 r10.length x12.2) r10]) (.cons dl2 (.cons dl1 (.cons aA .nil))) ?_)
   rintro _ Q17 z18 t20 H1 hi21 hb22
   unfold p_impl_StoreAsk_b0 at H1
   refine sr (aG (cM rfl rfl) (nl (aD (cH H1 rfl (fun h25 H1 => ?_) (fun h25 H1 => ?_)))))
   ·refine bH (nT (aD (aQ (sr (gdo H1 fun h26 H1 => (aI (bX dT ty3 rfl rfl h26 hs2) (aI (bZ (i := Q17.2.toNat) (j := 0) ty3 rfl (aN (bL hs2)) h26.lt rfl) (aH rfl (nl (sr (aI (bJ ty42 rfl aB rfl) ?_)))))))))))
    refine aF rfl (bdo H1 fun r27 h28 H1 => (f1 (cE (c_impl_Store_rows v0 x_v0 (nth r10 Q17.2.toNat) h28) (fun _ => (bF bG)) rfl (aC (aL (aS aR.s.s)) (aC (aL (aS aR.s)) (aC (aL (aS aR)) (aC (aL aR.s.s.s.s.s.s) aO))))) fun x29 => (aF rfl (aF rfl (bdo H1 fun r30 h31 H1 => (f1 (cE (c_impl_BlockCut r27 x29 v2 v3 h31) (fun _ => (bF bG)) rfl (aC (bL aB) aO)) fun x32 => (aH rfl (nl (sr (aF rfl ?_))))))))))
    refine aG (bS 57 dS rfl) (aG (cQ rfl rfl) (nl (cH H1 rfl (fun h33 H1 => ?_) (fun h33 H1 => ?_))))
    ·refine aP (aF rfl (aG (cB fa42_0 rfl rfl) (aG (cB fa38_0 rfl rfl) (aI (bI ty35 rfl hs2 rfl) (aF rfl (gdo H1 fun h34 H1 => (aG (cN rfl rfl h34) (gdo H1 fun h35 H1 => (aI (bW dN ty105 rfl rfl h35 rfl (aL (aT aR.s.s))) ?_)))))))))
     refine aI (bZ (i := ((nth r10 Q17.2.toNat) - 1).toNat) (j := 0) ty105 rfl (aL (aT aR.s.s)) h35.lt rfl) (bdo H1 fun r36 h37 H1 => (aI (bN (c_impl_NameText (nth v0.1.1 (((nth r10 Q17.2.toNat) - 1).toNat)) ((X1 (((nth r10 Q17.2.toNat) - 1).toNat)).1, (X1 (((nth r10 Q17.2.toNat) - 1).toNat)).2.1) h37) rfl (aC (aL (aS (aW aR.s.s h35.lt))) aO) hL) (aF rfl (aG (v := .agg #[.string (r36), .slice x32.1 r30.length x32.2]) (p_buildS (vs := [(0, .string (r36)), (1, .slice x32.1 r30.length x32.2)]) (cs := #[.string (r36), .slice x32.1 r30.length x32.2]) ty107 pl107 rfl rfl) (f1 (e_lit (vs := [(0, .agg #[.string (r36), .slice x32.1 r30.length x32.2])]) [.string (r36), .slice x32.1 r30.length x32.2] dM ty107 rfl (by decide) (by decide) (by kernel_rfl)) fun g38 => (gdo H1 fun h41 H1 => (f2 (e_app1 (l := Q17.1) (α := Hit) (r36, r30) ((), x32) dM ty107 rfl rfl (h41.b (by decide)) h41.x rfl (cS _) (.cons dl4 (.cons aA (.cons aA .nil)))) fun a39 c40 => (aH rfl (aJ (nB (nT (?_))))))))))))
     exact aP (gdo H1 fun h42 H1 => (aG (bR rfl rfl h42) (aF rfl (aJ (nLI (a39, c40) (hi21 _ (sm H1)) (.cons dl2 (.cons aA (.cons dl1 .nil))))))))
    ·exact bH (nB (nT (aP (gdo H1 fun h43 H1 => (aG (bR rfl rfl h43) (aF rfl (aJ (nLI (z18.1, z18.2) (hi21 _ (sm H1)) (.cons dl2 (.cons dl2 (.cons dl2 .nil)))))))))))
   ·refine cW (xT (xT (xE (?_))))
    obtain rfl := hb22 _ (sm H1)
    exact nMC (z18.1, z18.2) ⟨rfl, trivial⟩ bT (.cons dl1 .nil)
  ·intro y19
   show At _ _ [(9, .slice y19.1 x13.length y19.2)] _ [tree (.slice y19.1 x13.length y19.2) x13] _
   refine nT (sr (aF rfl (aH rfl (nl (bQ ?_)))))
   obtain rfl := si H
   exact back1 y19 rfl (ResV.tmp (v := .slice y19.1 x13.length y19.2) rfl) rfl cK (.cons aA .nil)
noncomputable def p_laws_eqRow (v0 : Row) (v1 : Row) : Option (Bool) := cond (!decide (v0.1 = v1.1)) (some false) (cond (!decide (v0.2 = v1.2)) (some false) (some true))
theorem c_laws_eqRow {r : Bool} (v0 : Row) (v1 : Row) (H : p_laws_eqRow v0 v1 = some r) : Fn' prog 162 #[.agg #[.int .i64 (v0.1), .int .i64 (v0.2)], .agg #[.int .i64 (v1.1), .int .i64 (v1.2)]] [] [] (ι := Unit) (fun _ => .bool (r)) (fun _ => []) (fun _ => []) := by
 refine cof (args := [_, _]) func162 ntmps162 fun c => ?_
 unfold p_laws_eqRow at H
 refine sr (f1 (cC (t := 57) rfl) fun g1 => (f1 (cC (t := 57) rfl) fun g2 => (aH (v := .bool (false)) rfl (nl (aD (sr (aG (cB fa57_0 rfl rfl) (aI (bI ty3 rfl hs1 rfl) (aG (cB fa57_0 rfl rfl) (aI (bI ty3 rfl aB rfl) (aG (cO rfl rfl) (nl ?_))))))))))))
 refine cH H rfl (fun h3 H => ?_) (fun h3 H => ?_)
 ·refine sr (aH (v := .bool (false)) rfl (nl (bQ (rT (?_)))))
  obtain rfl := si H
  exact bk
 ·refine bH (nT (aD (sr (aG (cB fa57_1 rfl rfl) (aI (bI ty3 rfl hs1 rfl) (aG (cB fa57_1 rfl rfl) (aI (bI ty3 rfl aB rfl) (aG (cO rfl rfl) (nl (cH H rfl (fun h4 H => ?_) (fun h4 H => ?_)))))))))))
  ·refine sr (aH (v := .bool (false)) rfl (nl (bQ (rT (?_)))))
   obtain rfl := si H
   exact bk
  ·refine bH (nT (sr (aH (v := .bool (true)) rfl (nl ?_))))
   obtain rfl := si H
   exact bQ bk
noncomputable def p_laws_eqRowS_b0 (v0 : (List Row)) (v1 : (List Row)) (Q6 : Int) : Option ((Int) ⊕ (Unit ⊕ Bool)) := cond (decide (Q6 < (v0.length : Int))) (gd (ix Q6 v0.length) <| gd (ix Q6 v1.length) <| bd (p_laws_eqRow (nth v0 Q6.toNat) (nth v1 Q6.toNat)) fun r17 => cond (!r17) (some (.inr (.inr false))) (gd (I64 (Q6 + 1)) <| some (.inl (Q6 + 1)))) (some (.inr (.inl ())))
noncomputable def p_laws_eqRowS (v0 : (List Row)) (v1 : (List Row)) : Option (Bool) := cond (!decide ((v0.length : Int) = (v1.length : Int))) (some false) (bd (lp (p_laws_eqRowS_b0 v0 v1) 0) <| sw (fun _ => some true) (fun q => some q))
theorem c_laws_eqRowS {r : Bool} (v0 : (List Row)) (x_v0 : Option Addr × Nat) (v1 : (List Row)) (x_v1 : Option Addr × Nat) (H : p_laws_eqRowS v0 v1 = some r) : Fn' prog 110 #[.slice x_v0.1 v0.length x_v0.2, .slice x_v1.1 v1.length x_v1.2] [imm (.slice x_v0.1 v0.length x_v0.2) v0, imm (.slice x_v1.1 v1.length x_v1.2) v1] [] (ι := Unit) (fun _ => .bool (r)) (fun _ => []) (fun _ => []) := by
 refine cof (args := [_, _]) func110 ntmps110 fun c => ?_
 unfold p_laws_eqRowS at H
 refine sr (aH (v := .bool (false)) rfl (nl (aD (sr (aF rfl (aG (bS 57 dS rfl) (aF rfl (aG (bS 57 dS rfl) (aG (cO rfl rfl) (nl (cH H rfl (fun h1 H => ?_) (fun h1 H => ?_))))))))))))
 ·refine sr (aH (v := .bool (false)) rfl (nl (bQ (rT (?_)))))
  obtain rfl := si H
  exact bk
 ·refine bH (nT (aD (sr (aH (v := .int .i64 (0)) rfl (nl (bdo H fun x2 hx3 H => (cY (Λ := Unit) H (fun _ _ => []) (fun _ _ => []) ?_ ?_)))))))
  ·refine aQ (dA hx3 () (fun Q6 _ => [(0, .slice x_v0.1 v0.length x_v0.2), (1, .slice x_v1.1 v1.length x_v1.2), (5, .int .i64 (Q6))]) (fun _ _ => []) bK ?_)
   rintro _ Q6 z7 t9 H1 hi10 hb11
   unfold p_laws_eqRowS_b0 at H1
   refine aD (sr (aF rfl (aF rfl (aG (bS 57 dS rfl) (aG (cM rfl rfl) (nl (cH H1 rfl (fun h14 H1 => ?_) (fun h14 H1 => ?_))))))))
   ·refine bH (nT (aD (aQ (aD (dB [(0, .slice x_v0.1 v0.length x_v0.2), (1, .slice x_v1.1 v1.length x_v1.2), (5, .int .i64 (Q6))] mixed (.inr (by kernel_rfl)) ⟨rfl, rfl, rfl, trivial⟩ rfl (bB rfl (bB rfl (gdo H1 fun h15 H1 => (aZ (bW dS ty57 rfl rfl h15 rfl (aN (aL aR))) (aZ (v := .agg #[.int .i64 ((nth v0 Q6.toNat).1), .int .i64 ((nth v0 Q6.toNat).2)]) (cA (i := Q6.toNat) ty57 rfl (aN (aL aR)) h15.lt) ?_))))))))))
    refine bB rfl (bB rfl (gdo H1 fun h16 H1 => (aZ (bW dS ty57 rfl rfl h16 rfl (aN (aL aR.s))) (aZ (v := .agg #[.int .i64 ((nth v1 Q6.toNat).1), .int .i64 ((nth v1 Q6.toNat).2)]) (cA (i := Q6.toNat) ty57 rfl (aN (aL aR.s)) h16.lt) (bdo H1 fun r17 h18 H1 => (aZ (bN (c_laws_eqRow (nth v0 Q6.toNat) (nth v1 Q6.toNat) h18) rfl aO) (aX (cR rfl) (nT (cH H1 rfl (fun h19 H1 => ?_) (fun h19 H1 => ?_))))))))))
    ·refine sr (aH (v := .bool (false)) rfl (nl (bQ (rB (rT (rT (rB (rT (rT (?_))))))))))
     obtain rfl := hb11 _ (sm H1)
     replace H := sw.r H
     obtain rfl := si H
     exact bk
    ·exact bH (nB (nT (aP (aF rfl (gdo H1 fun h20 H1 => (aG (bR rfl rfl h20) (aH rfl (aJ (nLI () (hi10 _ (sm H1)) bK)))))))))
   ·exact cW (xT (xT (xE (nMI () (hb11 _ (sm H1)) bK))))
  ·rintro e21 y8 H
   refine nT (sr (aH (v := .bool (true)) rfl (nl ?_)))
   obtain rfl := si H
   exact bQ bk
noncomputable def p_laws_eqHit (v0 : Hit) (v1 : Hit) : Option (Bool) := cond (!decide (v0.1 = v1.1)) (some false) (bd (p_laws_eqRowS v0.2 v1.2) fun r4 => cond (!r4) (some false) (some true))
theorem c_laws_eqHit {r : Bool} (v0 : Hit) (x_v0 : Unit × (Option Addr × Nat)) (v1 : Hit) (x_v1 : Unit × (Option Addr × Nat)) (H : p_laws_eqHit v0 v1 = some r) : Fn' prog 54 #[.agg #[.string (v0.1), .slice x_v0.2.1 v0.2.length x_v0.2.2], .agg #[.string (v1.1), .slice x_v1.2.1 v1.2.length x_v1.2.2]] [imm (.slice x_v0.2.1 v0.2.length x_v0.2.2) v0.2, imm (.slice x_v1.2.1 v1.2.length x_v1.2.2) v1.2] [] (ι := Unit) (fun _ => .bool (r)) (fun _ => []) (fun _ => []) := by
 refine cof (args := [_, _]) func54 ntmps54 fun c => ?_
 unfold p_laws_eqHit at H
 refine sr (f1 (cC (t := 107) rfl) fun g1 => (f1 (cC (t := 107) rfl) fun g2 => (aH (v := .bool (false)) rfl (nl (aD (sr (aG (cB fa107_0 rfl rfl) (aI (bI ty9 rfl hs1 rfl) (aG (cB fa107_0 rfl rfl) (aI (bI ty9 rfl aB rfl) (aG (p_sneq rfl rfl) (nl ?_))))))))))))
 refine cH H rfl (fun h3 H => ?_) (fun h3 H => ?_)
 ·refine sr (aH (v := .bool (false)) rfl (nl (bQ (rT (?_)))))
  obtain rfl := si H
  exact bk
 ·refine bH (nT (aD (sr (aG (cB fa107_1 rfl rfl) (aI (bI ty63 rfl hs1 rfl) (aG (cB fa107_1 rfl rfl) (aI (bI ty63 rfl aB rfl) (bdo H fun r4 h5 H => (aI (bN (c_laws_eqRowS v0.2 x_v0.2 v1.2 x_v1.2 h5) rfl (aC (aL aR) (aC (aL aR.s) aO))) (aG (cR rfl) (nl ?_)))))))))))
  refine cH H rfl (fun h6 H => ?_) (fun h6 H => ?_)
  ·refine sr (aH (v := .bool (false)) rfl (nl (bQ (rT (?_)))))
   obtain rfl := si H
   exact bk
  ·refine bH (nT (sr (aH (v := .bool (true)) rfl (nl ?_))))
   obtain rfl := si H
   exact bQ bk
noncomputable def p_laws_eqHitS_b0 (v0 : (List Hit)) (v1 : (List Hit)) (Q8 : Int) : Option ((Int) ⊕ (Unit ⊕ Bool)) := cond (decide (Q8 < (v0.length : Int))) (gd (ix Q8 v0.length) <| gd (ix Q8 v1.length) <| bd (p_laws_eqHit (nth v0 Q8.toNat) (nth v1 Q8.toNat)) fun r19 => cond (!r19) (some (.inr (.inr false))) (gd (I64 (Q8 + 1)) <| some (.inl (Q8 + 1)))) (some (.inr (.inl ())))
noncomputable def p_laws_eqHitS (v0 : (List Hit)) (v1 : (List Hit)) : Option (Bool) := cond (!decide ((v0.length : Int) = (v1.length : Int))) (some false) (bd (lp (p_laws_eqHitS_b0 v0 v1) 0) <| sw (fun _ => some true) (fun q => some q))
theorem c_laws_eqHitS {r : Bool} (v0 : (List Hit)) (x_v0 : Option Addr × Nat) (v1 : (List Hit)) (x_v1 : Option Addr × Nat) (H : p_laws_eqHitS v0 v1 = some r) : Fn' prog 14 #[.slice x_v0.1 v0.length x_v0.2, .slice x_v1.1 v1.length x_v1.2] [imm (.slice x_v0.1 v0.length x_v0.2) v0, imm (.slice x_v1.1 v1.length x_v1.2) v1] [] (ι := Unit) (fun _ => .bool (r)) (fun _ => []) (fun _ => []) := by
 refine cof (args := [_, _]) func14 ntmps14 fun c => ?_
 unfold p_laws_eqHitS at H
 refine bM aR fun X1 => (bM aR.s.s fun X2 => (sr (aH (v := .bool (false)) rfl (nl (aD (sr (aF rfl (aG (bS 107 dM rfl) (aF rfl (aG (bS 107 dM rfl) (aG (cO rfl rfl) (nl ?_))))))))))))
 refine cH H rfl (fun h3 H => ?_) (fun h3 H => ?_)
 ·refine sr (aH (v := .bool (false)) rfl (nl (bQ (rT (?_)))))
  obtain rfl := si H
  exact bk
 ·refine bH (nT (aD (sr (aH (v := .int .i64 (0)) rfl (nl (bdo H fun x4 hx5 H => (cY (Λ := Unit) H (fun _ _ => []) (fun _ _ => []) ?_ ?_)))))))
  ·refine aQ (dA hx5 () (fun Q8 _ => [(0, .slice x_v0.1 v0.length x_v0.2), (1, .slice x_v1.1 v1.length x_v1.2), (5, .int .i64 (Q8))]) (fun _ _ => []) bK ?_)
   rintro _ Q8 z9 t11 H1 hi12 hb13
   unfold p_laws_eqHitS_b0 at H1
   refine aD (sr (aF rfl (aF rfl (aG (bS 107 dM rfl) (aG (cM rfl rfl) (nl (cH H1 rfl (fun h16 H1 => ?_) (fun h16 H1 => ?_))))))))
   ·refine bH (nT (aD (aQ (aD (dB [(0, .slice x_v0.1 v0.length x_v0.2), (1, .slice x_v1.1 v1.length x_v1.2), (5, .int .i64 (Q8))] mixed (.inr (by kernel_rfl)) ⟨rfl, rfl, rfl, trivial⟩ rfl (bB rfl (bB rfl (gdo H1 fun h17 H1 => (aZ (bW dM ty107 rfl rfl h17 rfl (aL (aT aR.s))) (aZ (v := .agg #[.string ((nth v0 Q8.toNat).1), .slice (((X1 Q8.toNat).2).1) (((nth v0 Q8.toNat).2).length) (((X1 Q8.toNat).2).2.1)]) (cA (i := Q8.toNat) ty107 rfl (aL (aT aR.s)) h17.lt) ?_))))))))))
    refine bB rfl (bB rfl (gdo H1 fun h18 H1 => (aZ (bW dM ty107 rfl rfl h18 rfl (aL (aT aR))) (aZ (v := .agg #[.string ((nth v1 Q8.toNat).1), .slice (((X2 Q8.toNat).2).1) (((nth v1 Q8.toNat).2).length) (((X2 Q8.toNat).2).2.1)]) (cA (i := Q8.toNat) ty107 rfl (aL (aT aR)) h18.lt) (bdo H1 fun r19 h20 H1 => (aZ (bN (c_laws_eqHit (nth v0 Q8.toNat) ((), (((X1 Q8.toNat).2).1, ((X1 Q8.toNat).2).2.1)) (nth v1 Q8.toNat) ((), (((X2 Q8.toNat).2).1, ((X2 Q8.toNat).2).2.1)) h20) rfl (aC (aL (aS (aU (aW aR.s h17.lt)))) (aC (aL (aS (aU (aW aR h18.lt)))) aO))) (aX (cR rfl) (nT (cH H1 rfl (fun h21 H1 => ?_) (fun h21 H1 => ?_))))))))))
    ·refine sr (aH (v := .bool (false)) rfl (nl (bQ (rB (rT (rT (rB (rT (rT (?_))))))))))
     obtain rfl := hb13 _ (sm H1)
     replace H := sw.r H
     obtain rfl := si H
     exact bk
    ·exact bH (nB (nT (aP (aF rfl (gdo H1 fun h22 H1 => (aG (bR rfl rfl h22) (aH rfl (aJ (nLI () (hi12 _ (sm H1)) bK)))))))))
   ·exact cW (xT (xT (xE (nMI () (hb13 _ (sm H1)) bK))))
  ·rintro e23 y10 H
   refine nT (sr (aH (v := .bool (true)) rfl (nl ?_)))
   obtain rfl := si H
   exact bQ bk
noncomputable def p_laws_eqTag (v0 : Tag) (v1 : Tag) : Option (Bool) := cond (!decide (v0.1 = v1.1)) (some false) (cond (!decide (v0.2 = v1.2)) (some false) (some true))
theorem c_laws_eqTag {r : Bool} (v0 : Tag) (v1 : Tag) (H : p_laws_eqTag v0 v1 = some r) : Fn' prog 115 #[.agg #[.string (v0.1), .string (v0.2)], .agg #[.string (v1.1), .string (v1.2)]] [] [] (ι := Unit) (fun _ => .bool (r)) (fun _ => []) (fun _ => []) := by
 refine cof (args := [_, _]) func115 ntmps115 fun c => ?_
 unfold p_laws_eqTag at H
 refine sr (f1 (cC (t := 97) rfl) fun g1 => (f1 (cC (t := 97) rfl) fun g2 => (aH (v := .bool (false)) rfl (nl (aD (sr (aG (cB fa97_0 rfl rfl) (aI (bI ty9 rfl hs1 rfl) (aG (cB fa97_0 rfl rfl) (aI (bI ty9 rfl aB rfl) (aG (p_sneq rfl rfl) (nl ?_))))))))))))
 refine cH H rfl (fun h3 H => ?_) (fun h3 H => ?_)
 ·refine sr (aH (v := .bool (false)) rfl (nl (bQ (rT (?_)))))
  obtain rfl := si H
  exact bk
 ·refine bH (nT (aD (sr (aG (cB fa97_1 rfl rfl) (aI (bI ty9 rfl hs1 rfl) (aG (cB fa97_1 rfl rfl) (aI (bI ty9 rfl aB rfl) (aG (p_sneq rfl rfl) (nl (cH H rfl (fun h4 H => ?_) (fun h4 H => ?_)))))))))))
  ·refine sr (aH (v := .bool (false)) rfl (nl (bQ (rT (?_)))))
   obtain rfl := si H
   exact bk
  ·refine bH (nT (sr (aH (v := .bool (true)) rfl (nl ?_))))
   obtain rfl := si H
   exact bQ bk
noncomputable def p_laws_eqTagS_b0 (v0 : (List Tag)) (v1 : (List Tag)) (Q6 : Int) : Option ((Int) ⊕ (Unit ⊕ Bool)) := cond (decide (Q6 < (v0.length : Int))) (gd (ix Q6 v0.length) <| gd (ix Q6 v1.length) <| bd (p_laws_eqTag (nth v0 Q6.toNat) (nth v1 Q6.toNat)) fun r17 => cond (!r17) (some (.inr (.inr false))) (gd (I64 (Q6 + 1)) <| some (.inl (Q6 + 1)))) (some (.inr (.inl ())))
noncomputable def p_laws_eqTagS (v0 : (List Tag)) (v1 : (List Tag)) : Option (Bool) := cond (!decide ((v0.length : Int) = (v1.length : Int))) (some false) (bd (lp (p_laws_eqTagS_b0 v0 v1) 0) <| sw (fun _ => some true) (fun q => some q))
theorem c_laws_eqTagS {r : Bool} (v0 : (List Tag)) (x_v0 : Option Addr × Nat) (v1 : (List Tag)) (x_v1 : Option Addr × Nat) (H : p_laws_eqTagS v0 v1 = some r) : Fn' prog 163 #[.slice x_v0.1 v0.length x_v0.2, .slice x_v1.1 v1.length x_v1.2] [imm (.slice x_v0.1 v0.length x_v0.2) v0, imm (.slice x_v1.1 v1.length x_v1.2) v1] [] (ι := Unit) (fun _ => .bool (r)) (fun _ => []) (fun _ => []) := by
 refine cof (args := [_, _]) func163 ntmps163 fun c => ?_
 unfold p_laws_eqTagS at H
 refine sr (aH (v := .bool (false)) rfl (nl (aD (sr (aF rfl (aG (bS 97 dE rfl) (aF rfl (aG (bS 97 dE rfl) (aG (cO rfl rfl) (nl (cH H rfl (fun h1 H => ?_) (fun h1 H => ?_))))))))))))
 ·refine sr (aH (v := .bool (false)) rfl (nl (bQ (rT (?_)))))
  obtain rfl := si H
  exact bk
 ·refine bH (nT (aD (sr (aH (v := .int .i64 (0)) rfl (nl (bdo H fun x2 hx3 H => (cY (Λ := Unit) H (fun _ _ => []) (fun _ _ => []) ?_ ?_)))))))
  ·refine aQ (dA hx3 () (fun Q6 _ => [(0, .slice x_v0.1 v0.length x_v0.2), (1, .slice x_v1.1 v1.length x_v1.2), (5, .int .i64 (Q6))]) (fun _ _ => []) bK ?_)
   rintro _ Q6 z7 t9 H1 hi10 hb11
   unfold p_laws_eqTagS_b0 at H1
   refine aD (sr (aF rfl (aF rfl (aG (bS 97 dE rfl) (aG (cM rfl rfl) (nl (cH H1 rfl (fun h14 H1 => ?_) (fun h14 H1 => ?_))))))))
   ·refine bH (nT (aD (aQ (aD (dB [(0, .slice x_v0.1 v0.length x_v0.2), (1, .slice x_v1.1 v1.length x_v1.2), (5, .int .i64 (Q6))] mixed (.inr (by kernel_rfl)) ⟨rfl, rfl, rfl, trivial⟩ rfl (bB rfl (bB rfl (gdo H1 fun h15 H1 => (aZ (bW dE ty97 rfl rfl h15 rfl (aN (aL aR))) (aZ (v := .agg #[.string ((nth v0 Q6.toNat).1), .string ((nth v0 Q6.toNat).2)]) (cA (i := Q6.toNat) ty97 rfl (aN (aL aR)) h15.lt) ?_))))))))))
    refine bB rfl (bB rfl (gdo H1 fun h16 H1 => (aZ (bW dE ty97 rfl rfl h16 rfl (aN (aL aR.s))) (aZ (v := .agg #[.string ((nth v1 Q6.toNat).1), .string ((nth v1 Q6.toNat).2)]) (cA (i := Q6.toNat) ty97 rfl (aN (aL aR.s)) h16.lt) (bdo H1 fun r17 h18 H1 => (aZ (bN (c_laws_eqTag (nth v0 Q6.toNat) (nth v1 Q6.toNat) h18) rfl aO) (aX (cR rfl) (nT (cH H1 rfl (fun h19 H1 => ?_) (fun h19 H1 => ?_))))))))))
    ·refine sr (aH (v := .bool (false)) rfl (nl (bQ (rB (rT (rT (rB (rT (rT (?_))))))))))
     obtain rfl := hb11 _ (sm H1)
     replace H := sw.r H
     obtain rfl := si H
     exact bk
    ·exact bH (nB (nT (aP (aF rfl (gdo H1 fun h20 H1 => (aG (bR rfl rfl h20) (aH rfl (aJ (nLI () (hi10 _ (sm H1)) bK)))))))))
   ·exact cW (xT (xT (xE (nMI () (hb11 _ (sm H1)) bK))))
  ·rintro e21 y8 H
   refine nT (sr (aH (v := .bool (true)) rfl (nl ?_)))
   obtain rfl := si H
   exact bQ bk
noncomputable def p_laws_eqTagSS_b0 (v0 : (List (List Tag))) (v1 : (List (List Tag))) (Q8 : Int) : Option ((Int) ⊕ (Unit ⊕ Bool)) := cond (decide (Q8 < (v0.length : Int))) (gd (ix Q8 v0.length) <| gd (ix Q8 v1.length) <| bd (p_laws_eqTagS (nth v0 Q8.toNat) (nth v1 Q8.toNat)) fun r19 => cond (!r19) (some (.inr (.inr false))) (gd (I64 (Q8 + 1)) <| some (.inl (Q8 + 1)))) (some (.inr (.inl ())))
noncomputable def p_laws_eqTagSS (v0 : (List (List Tag))) (v1 : (List (List Tag))) : Option (Bool) := cond (!decide ((v0.length : Int) = (v1.length : Int))) (some false) (bd (lp (p_laws_eqTagSS_b0 v0 v1) 0) <| sw (fun _ => some true) (fun q => some q))
theorem c_laws_eqTagSS {r : Bool} (v0 : (List (List Tag))) (x_v0 : Option Addr × Nat) (v1 : (List (List Tag))) (x_v1 : Option Addr × Nat) (H : p_laws_eqTagSS v0 v1 = some r) : Fn' prog 111 #[.slice x_v0.1 v0.length x_v0.2, .slice x_v1.1 v1.length x_v1.2] [imm (.slice x_v0.1 v0.length x_v0.2) v0, imm (.slice x_v1.1 v1.length x_v1.2) v1] [] (ι := Unit) (fun _ => .bool (r)) (fun _ => []) (fun _ => []) := by
 refine cof (args := [_, _]) func111 ntmps111 fun c => ?_
 unfold p_laws_eqTagSS at H
 refine bM aR fun X1 => (bM aR.s.s fun X2 => (sr (aH (v := .bool (false)) rfl (nl (aD (sr (aF rfl (aG (bS 105 dN rfl) (aF rfl (aG (bS 105 dN rfl) (aG (cO rfl rfl) (nl ?_))))))))))))
 refine cH H rfl (fun h3 H => ?_) (fun h3 H => ?_)
 ·refine sr (aH (v := .bool (false)) rfl (nl (bQ (rT (?_)))))
  obtain rfl := si H
  exact bk
 ·refine bH (nT (aD (sr (aH (v := .int .i64 (0)) rfl (nl (bdo H fun x4 hx5 H => (cY (Λ := Unit) H (fun _ _ => []) (fun _ _ => []) ?_ ?_)))))))
  ·refine aQ (dA hx5 () (fun Q8 _ => [(0, .slice x_v0.1 v0.length x_v0.2), (1, .slice x_v1.1 v1.length x_v1.2), (5, .int .i64 (Q8))]) (fun _ _ => []) bK ?_)
   rintro _ Q8 z9 t11 H1 hi12 hb13
   unfold p_laws_eqTagSS_b0 at H1
   refine aD (sr (aF rfl (aF rfl (aG (bS 105 dN rfl) (aG (cM rfl rfl) (nl (cH H1 rfl (fun h16 H1 => ?_) (fun h16 H1 => ?_))))))))
   ·refine bH (nT (aD (aQ (aD (dB [(0, .slice x_v0.1 v0.length x_v0.2), (1, .slice x_v1.1 v1.length x_v1.2), (5, .int .i64 (Q8))] mixed (.inr (by kernel_rfl)) ⟨rfl, rfl, rfl, trivial⟩ rfl (bB rfl (bB rfl (gdo H1 fun h17 H1 => (aZ (bW dN ty105 rfl rfl h17 rfl (aL (aT aR.s))) (aZ (bZ (i := Q8.toNat) (j := 0) ty105 rfl (aL (aT aR.s)) h17.lt rfl) ?_))))))))))
    refine bB rfl (bB rfl (gdo H1 fun h18 H1 => (aZ (bW dN ty105 rfl rfl h18 rfl (aL (aT aR))) (aZ (bZ (i := Q8.toNat) (j := 0) ty105 rfl (aL (aT aR)) h18.lt rfl) (bdo H1 fun r19 h20 H1 => (aZ (bN (c_laws_eqTagS (nth v0 Q8.toNat) ((X1 Q8.toNat).1, (X1 Q8.toNat).2.1) (nth v1 Q8.toNat) ((X2 Q8.toNat).1, (X2 Q8.toNat).2.1) h20) rfl (aC (aL (aS (aW aR.s h17.lt))) (aC (aL (aS (aW aR h18.lt))) aO))) (aX (cR rfl) (nT (cH H1 rfl (fun h21 H1 => ?_) (fun h21 H1 => ?_))))))))))
    ·refine sr (aH (v := .bool (false)) rfl (nl (bQ (rB (rT (rT (rB (rT (rT (?_))))))))))
     obtain rfl := hb13 _ (sm H1)
     replace H := sw.r H
     obtain rfl := si H
     exact bk
    ·exact bH (nB (nT (aP (aF rfl (gdo H1 fun h22 H1 => (aG (bR rfl rfl h22) (aH rfl (aJ (nLI () (hi12 _ (sm H1)) bK)))))))))
   ·exact cW (xT (xT (xE (nMI () (hb13 _ (sm H1)) bK))))
  ·rintro e23 y10 H
   refine nT (sr (aH (v := .bool (true)) rfl (nl ?_)))
   obtain rfl := si H
   exact bQ bk
noncomputable def p_laws_eqIntS_b0 (v0 : (List Int)) (v1 : (List Int)) (Q6 : Int) : Option ((Int) ⊕ (Unit ⊕ Bool)) := cond (decide (Q6 < (v0.length : Int))) (gd (ix Q6 v0.length) <| gd (ix Q6 v1.length) <| cond (!decide ((nth v0 Q6.toNat) = (nth v1 Q6.toNat))) (some (.inr (.inr false))) (gd (I64 (Q6 + 1)) <| some (.inl (Q6 + 1)))) (some (.inr (.inl ())))
noncomputable def p_laws_eqIntS (v0 : (List Int)) (v1 : (List Int)) : Option (Bool) := cond (!decide ((v0.length : Int) = (v1.length : Int))) (some false) (bd (lp (p_laws_eqIntS_b0 v0 v1) 0) <| sw (fun _ => some true) (fun q => some q))
theorem c_laws_eqIntS {r : Bool} (v0 : (List Int)) (x_v0 : Option Addr × Nat) (v1 : (List Int)) (x_v1 : Option Addr × Nat) (H : p_laws_eqIntS v0 v1 = some r) : Fn' prog 165 #[.slice x_v0.1 v0.length x_v0.2, .slice x_v1.1 v1.length x_v1.2] [imm (.slice x_v0.1 v0.length x_v0.2) v0, imm (.slice x_v1.1 v1.length x_v1.2) v1] [] (ι := Unit) (fun _ => .bool (r)) (fun _ => []) (fun _ => []) := by
 refine cof (args := [_, _]) func165 ntmps165 fun c => ?_
 unfold p_laws_eqIntS at H
 refine sr (aH (v := .bool (false)) rfl (nl (aD (sr (aF rfl (aG (bS 3 dT rfl) (aF rfl (aG (bS 3 dT rfl) (aG (cO rfl rfl) (nl (cH H rfl (fun h1 H => ?_) (fun h1 H => ?_))))))))))))
 ·refine sr (aH (v := .bool (false)) rfl (nl (bQ (rT (?_)))))
  obtain rfl := si H
  exact bk
 ·refine bH (nT (aD (sr (aH (v := .int .i64 (0)) rfl (nl (bdo H fun x2 hx3 H => (cY (Λ := Unit) H (fun _ _ => []) (fun _ _ => []) ?_ ?_)))))))
  ·refine aQ (dA hx3 () (fun Q6 _ => [(0, .slice x_v0.1 v0.length x_v0.2), (1, .slice x_v1.1 v1.length x_v1.2), (5, .int .i64 (Q6))]) (fun _ _ => []) bK ?_)
   rintro _ Q6 z7 t9 H1 hi10 hb11
   unfold p_laws_eqIntS_b0 at H1
   refine aD (sr (aF rfl (aF rfl (aG (bS 3 dT rfl) (aG (cM rfl rfl) (nl (cH H1 rfl (fun h14 H1 => ?_) (fun h14 H1 => ?_))))))))
   ·refine bH (nT (aD (aQ (aD (dB [(0, .slice x_v0.1 v0.length x_v0.2), (1, .slice x_v1.1 v1.length x_v1.2), (5, .int .i64 (Q6))] mixed (.inr (by kernel_rfl)) ⟨rfl, rfl, rfl, trivial⟩ rfl (bB rfl (bB rfl (gdo H1 fun h15 H1 => (aZ (bW dT ty3 rfl rfl h15 rfl (aN (aL aR))) (aZ (bZ (i := Q6.toNat) (j := 0) ty3 rfl (aN (aL aR)) h15.lt rfl) ?_))))))))))
    refine bB rfl (bB rfl (gdo H1 fun h16 H1 => (aZ (bW dT ty3 rfl rfl h16 rfl (aN (aL aR.s))) (aZ (bZ (i := Q6.toNat) (j := 0) ty3 rfl (aN (aL aR.s)) h16.lt rfl) (aX (cO rfl rfl) (nT (cH H1 rfl (fun h17 H1 => ?_) (fun h17 H1 => ?_))))))))
    ·refine sr (aH (v := .bool (false)) rfl (nl (bQ (rB (rT (rT (rB (rT (rT (?_))))))))))
     obtain rfl := hb11 _ (sm H1)
     replace H := sw.r H
     obtain rfl := si H
     exact bk
    ·exact bH (nB (nT (aP (aF rfl (gdo H1 fun h18 H1 => (aG (bR rfl rfl h18) (aH rfl (aJ (nLI () (hi10 _ (sm H1)) bK)))))))))
   ·exact cW (xT (xT (xE (nMI () (hb11 _ (sm H1)) bK))))
  ·rintro e19 y8 H
   refine nT (sr (aH (v := .bool (true)) rfl (nl ?_)))
   obtain rfl := si H
   exact bQ bk
noncomputable def p_laws_eqPost (v0 : Post) (v1 : Post) : Option (Bool) := bd (p_laws_eqTag v0.1 v1.1) fun r3 => cond (!r3) (some false) (bd (p_laws_eqIntS v0.2 v1.2) fun r6 => cond (!r6) (some false) (some true))
theorem c_laws_eqPost {r : Bool} (v0 : Post) (x_v0 : (Unit × Unit) × (Option Addr × Nat)) (v1 : Post) (x_v1 : (Unit × Unit) × (Option Addr × Nat)) (H : p_laws_eqPost v0 v1 = some r) : Fn' prog 164 #[.agg #[.string (v0.1.1), .string (v0.1.2), .slice x_v0.2.1 v0.2.length x_v0.2.2], .agg #[.string (v1.1.1), .string (v1.1.2), .slice x_v1.2.1 v1.2.length x_v1.2.2]] [imm (.slice x_v0.2.1 v0.2.length x_v0.2.2) v0.2, imm (.slice x_v1.2.1 v1.2.length x_v1.2.2) v1.2] [] (ι := Unit) (fun _ => .bool (r)) (fun _ => []) (fun _ => []) := by
 refine cof (args := [_, _]) func164 ntmps164 fun c => ?_
 unfold p_laws_eqPost at H
 refine sr (f1 (cC (t := 177) rfl) fun g1 => (f1 (cC (t := 177) rfl) fun g2 => (aH (v := .bool (false)) rfl (nl (aD (sr (aG (cB fa177_0 rfl rfl) (aI (v := .agg #[.string (v0.1.1), .string (v0.1.2)]) (q_ldbP [.string (v0.1.1), .string (v0.1.2)] ty97 rfl hs1 rfl rfl) (aG (cB fa177_0 rfl rfl) (aI (v := .agg #[.string (v1.1.1), .string (v1.1.2)]) (q_ldbP [.string (v1.1.1), .string (v1.1.2)] ty97 rfl aB rfl rfl) (bdo H fun r3 h4 H => ?_)))))))))))
 refine aI (bN (c_laws_eqTag v0.1 v1.1 h4) rfl aO) (aG (cR rfl) (nl (cH H rfl (fun h5 H => ?_) (fun h5 H => ?_))))
 ·refine sr (aH (v := .bool (false)) rfl (nl (bQ (rT (?_)))))
  obtain rfl := si H
  exact bk
 ·refine bH (nT (aD (sr (aG (cB fa177_1 rfl rfl) (aI (bI ty69 rfl hs1 rfl) (aG (cB fa177_1 rfl rfl) (aI (bI ty69 rfl aB rfl) (bdo H fun r6 h7 H => (aI (bN (c_laws_eqIntS v0.2 x_v0.2 v1.2 x_v1.2 h7) rfl (aC (aL aR) (aC (aL aR.s) aO))) (aG (cR rfl) (nl ?_)))))))))))
  refine cH H rfl (fun h8 H => ?_) (fun h8 H => ?_)
  ·refine sr (aH (v := .bool (false)) rfl (nl (bQ (rT (?_)))))
   obtain rfl := si H
   exact bk
  ·refine bH (nT (sr (aH (v := .bool (true)) rfl (nl ?_))))
   obtain rfl := si H
   exact bQ bk
noncomputable def p_laws_eqPostS_b0 (v0 : (List Post)) (v1 : (List Post)) (Q8 : Int) : Option ((Int) ⊕ (Unit ⊕ Bool)) := cond (decide (Q8 < (v0.length : Int))) (gd (ix Q8 v0.length) <| gd (ix Q8 v1.length) <| bd (p_laws_eqPost (nth v0 Q8.toNat) (nth v1 Q8.toNat)) fun r19 => cond (!r19) (some (.inr (.inr false))) (gd (I64 (Q8 + 1)) <| some (.inl (Q8 + 1)))) (some (.inr (.inl ())))
noncomputable def p_laws_eqPostS (v0 : (List Post)) (v1 : (List Post)) : Option (Bool) := cond (!decide ((v0.length : Int) = (v1.length : Int))) (some false) (bd (lp (p_laws_eqPostS_b0 v0 v1) 0) <| sw (fun _ => some true) (fun q => some q))
theorem c_laws_eqPostS {r : Bool} (v0 : (List Post)) (x_v0 : Option Addr × Nat) (v1 : (List Post)) (x_v1 : Option Addr × Nat) (H : p_laws_eqPostS v0 v1 = some r) : Fn' prog 112 #[.slice x_v0.1 v0.length x_v0.2, .slice x_v1.1 v1.length x_v1.2] [imm (.slice x_v0.1 v0.length x_v0.2) v0, imm (.slice x_v1.1 v1.length x_v1.2) v1] [] (ι := Unit) (fun _ => .bool (r)) (fun _ => []) (fun _ => []) := by
 refine cof (args := [_, _]) func112 ntmps112 fun c => ?_
 unfold p_laws_eqPostS at H
 refine bM aR fun X1 => (bM aR.s.s fun X2 => (sr (aH (v := .bool (false)) rfl (nl (aD (sr (aF rfl (aG (bS 177 dO rfl) (aF rfl (aG (bS 177 dO rfl) (aG (cO rfl rfl) (nl ?_))))))))))))
 refine cH H rfl (fun h3 H => ?_) (fun h3 H => ?_)
 ·refine sr (aH (v := .bool (false)) rfl (nl (bQ (rT (?_)))))
  obtain rfl := si H
  exact bk
 ·refine bH (nT (aD (sr (aH (v := .int .i64 (0)) rfl (nl (bdo H fun x4 hx5 H => (cY (Λ := Unit) H (fun _ _ => []) (fun _ _ => []) ?_ ?_)))))))
  ·refine aQ (dA hx5 () (fun Q8 _ => [(0, .slice x_v0.1 v0.length x_v0.2), (1, .slice x_v1.1 v1.length x_v1.2), (5, .int .i64 (Q8))]) (fun _ _ => []) bK ?_)
   rintro _ Q8 z9 t11 H1 hi12 hb13
   unfold p_laws_eqPostS_b0 at H1
   refine aD (sr (aF rfl (aF rfl (aG (bS 177 dO rfl) (aG (cM rfl rfl) (nl (cH H1 rfl (fun h16 H1 => ?_) (fun h16 H1 => ?_))))))))
   ·refine bH (nT (aD (aQ (aD (dB [(0, .slice x_v0.1 v0.length x_v0.2), (1, .slice x_v1.1 v1.length x_v1.2), (5, .int .i64 (Q8))] mixed (.inr (by kernel_rfl)) ⟨rfl, rfl, rfl, trivial⟩ rfl (bB rfl (bB rfl (gdo H1 fun h17 H1 => (aZ (bW dO ty177 rfl rfl h17 rfl (aL (aT aR.s))) (aZ (v := .agg #[.string (((nth v0 Q8.toNat).1).1), .string (((nth v0 Q8.toNat).1).2), .slice (((X1 Q8.toNat).2).1) (((nth v0 Q8.toNat).2).length) (((X1 Q8.toNat).2).2.1)]) (cA (i := Q8.toNat) ty177 rfl (aL (aT aR.s)) h17.lt) ?_))))))))))
    refine bB rfl (bB rfl (gdo H1 fun h18 H1 => (aZ (bW dO ty177 rfl rfl h18 rfl (aL (aT aR))) (aZ (v := .agg #[.string (((nth v1 Q8.toNat).1).1), .string (((nth v1 Q8.toNat).1).2), .slice (((X2 Q8.toNat).2).1) (((nth v1 Q8.toNat).2).length) (((X2 Q8.toNat).2).2.1)]) (cA (i := Q8.toNat) ty177 rfl (aL (aT aR)) h18.lt) (bdo H1 fun r19 h20 H1 => (aZ (bN (c_laws_eqPost (nth v0 Q8.toNat) (((), ()), (((X1 Q8.toNat).2).1, ((X1 Q8.toNat).2).2.1)) (nth v1 Q8.toNat) (((), ()), (((X2 Q8.toNat).2).1, ((X2 Q8.toNat).2).2.1)) h20) rfl (aC (aL (aS (aU (aW aR.s h17.lt)))) (aC (aL (aS (aU (aW aR h18.lt)))) aO))) (aX (cR rfl) (nT (cH H1 rfl (fun h21 H1 => ?_) (fun h21 H1 => ?_))))))))))
    ·refine sr (aH (v := .bool (false)) rfl (nl (bQ (rB (rT (rT (rB (rT (rT (?_))))))))))
     obtain rfl := hb13 _ (sm H1)
     replace H := sw.r H
     obtain rfl := si H
     exact bk
    ·exact bH (nB (nT (aP (aF rfl (gdo H1 fun h22 H1 => (aG (bR rfl rfl h22) (aH rfl (aJ (nLI () (hi12 _ (sm H1)) bK)))))))))
   ·exact cW (xT (xT (xE (nMI () (hb13 _ (sm H1)) bK))))
  ·rintro e23 y10 H
   refine nT (sr (aH (v := .bool (true)) rfl (nl ?_)))
   obtain rfl := si H
   exact bQ bk
noncomputable def p_laws_eqIndex (v0 : Index) (v1 : Index) : Option (Bool) := bd (p_laws_eqTagSS v0.1 v1.1) fun r7 => cond (!r7) (some false) (bd (p_laws_eqPostS v0.2 v1.2) fun r10 => cond (!r10) (some false) (some true))
theorem c_laws_eqIndex {r : Bool} (v0 : Index) (x_v0 : (Option Addr × Nat) × (Option Addr × Nat)) (v1 : Index) (x_v1 : (Option Addr × Nat) × (Option Addr × Nat)) (H : p_laws_eqIndex v0 v1 = some r) : Fn' prog 55 #[.agg #[.slice x_v0.1.1 v0.1.length x_v0.1.2, .slice x_v0.2.1 v0.2.length x_v0.2.2], .agg #[.slice x_v1.1.1 v1.1.length x_v1.1.2, .slice x_v1.2.1 v1.2.length x_v1.2.2]] [imm (.slice x_v0.1.1 v0.1.length x_v0.1.2) v0.1, imm (.slice x_v0.2.1 v0.2.length x_v0.2.2) v0.2, imm (.slice x_v1.1.1 v1.1.length x_v1.1.2) v1.1, imm (.slice x_v1.2.1 v1.2.length x_v1.2.2) v1.2] [] (ι := Unit) (fun _ => .bool (r)) (fun _ => []) (fun _ => []) := by
 refine cof (args := [_, _]) func55 ntmps55 fun c => ?_
 unfold p_laws_eqIndex at H
 refine bM aR fun X1 => (bM aR.s.s fun X2 => (bM aR.s.s.s.s fun X3 => (bM aR.s.s.s.s.s.s fun X4 => (sr (f1 (cC (t := 38) rfl) fun g5 => (f1 (cC (t := 38) rfl) fun g6 => (aH (v := .bool (false)) rfl (nl (aD (sr (aG (cB fa38_0 rfl rfl) ?_)))))))))))
 refine aI (bI ty35 rfl hs1 rfl) (aG (cB fa38_0 rfl rfl) (aI (bI ty35 rfl aB rfl) (bdo H fun r7 h8 H => (aI (bN (c_laws_eqTagSS v0.1 x_v0.1 v1.1 x_v1.1 h8) rfl (aC (aL (aS aR.s.s.s)) (aC (aL (aS aR.s)) aO))) (aG (cR rfl) (nl (cH H rfl (fun h9 H => ?_) (fun h9 H => ?_))))))))
 ·refine sr (aH (v := .bool (false)) rfl (nl (bQ (rT (?_)))))
  obtain rfl := si H
  exact bk
 ·refine bH (nT (aD (sr (aG (cB fa38_1 rfl rfl) (aI (bI ty36 rfl hs1 rfl) (aG (cB fa38_1 rfl rfl) (aI (bI ty36 rfl aB rfl) (bdo H fun r10 h11 H => (aI (bN (c_laws_eqPostS v0.2 x_v0.2 v1.2 x_v1.2 h11) rfl (aC (aL (aS aR.s.s)) (aC (aL (aS aR)) aO))) (aG (cR rfl) (nl ?_)))))))))))
  refine cH H rfl (fun h12 H => ?_) (fun h12 H => ?_)
  ·refine sr (aH (v := .bool (false)) rfl (nl (bQ (rT (?_)))))
   obtain rfl := si H
   exact bk
  ·refine bH (nT (sr (aH (v := .bool (true)) rfl (nl ?_))))
   obtain rfl := si H
   exact bQ bk
noncomputable def p_laws_eqRowSS_b0 (v0 : (List (List Row))) (v1 : (List (List Row))) (Q8 : Int) : Option ((Int) ⊕ (Unit ⊕ Bool)) := cond (decide (Q8 < (v0.length : Int))) (gd (ix Q8 v0.length) <| gd (ix Q8 v1.length) <| bd (p_laws_eqRowS (nth v0 Q8.toNat) (nth v1 Q8.toNat)) fun r19 => cond (!r19) (some (.inr (.inr false))) (gd (I64 (Q8 + 1)) <| some (.inl (Q8 + 1)))) (some (.inr (.inl ())))
noncomputable def p_laws_eqRowSS (v0 : (List (List Row))) (v1 : (List (List Row))) : Option (Bool) := cond (!decide ((v0.length : Int) = (v1.length : Int))) (some false) (bd (lp (p_laws_eqRowSS_b0 v0 v1) 0) <| sw (fun _ => some true) (fun q => some q))
theorem c_laws_eqRowSS {r : Bool} (v0 : (List (List Row))) (x_v0 : Option Addr × Nat) (v1 : (List (List Row))) (x_v1 : Option Addr × Nat) (H : p_laws_eqRowSS v0 v1 = some r) : Fn' prog 166 #[.slice x_v0.1 v0.length x_v0.2, .slice x_v1.1 v1.length x_v1.2] [imm (.slice x_v0.1 v0.length x_v0.2) v0, imm (.slice x_v1.1 v1.length x_v1.2) v1] [] (ι := Unit) (fun _ => .bool (r)) (fun _ => []) (fun _ => []) := by
 refine cof (args := [_, _]) func166 ntmps166 fun c => ?_
 unfold p_laws_eqRowSS at H
 refine bM aR fun X1 => (bM aR.s.s fun X2 => (sr (aH (v := .bool (false)) rfl (nl (aD (sr (aF rfl (aG (bS 63 dU rfl) (aF rfl (aG (bS 63 dU rfl) (aG (cO rfl rfl) (nl ?_))))))))))))
 refine cH H rfl (fun h3 H => ?_) (fun h3 H => ?_)
 ·refine sr (aH (v := .bool (false)) rfl (nl (bQ (rT (?_)))))
  obtain rfl := si H
  exact bk
 ·refine bH (nT (aD (sr (aH (v := .int .i64 (0)) rfl (nl (bdo H fun x4 hx5 H => (cY (Λ := Unit) H (fun _ _ => []) (fun _ _ => []) ?_ ?_)))))))
  ·refine aQ (dA hx5 () (fun Q8 _ => [(0, .slice x_v0.1 v0.length x_v0.2), (1, .slice x_v1.1 v1.length x_v1.2), (5, .int .i64 (Q8))]) (fun _ _ => []) bK ?_)
   rintro _ Q8 z9 t11 H1 hi12 hb13
   unfold p_laws_eqRowSS_b0 at H1
   refine aD (sr (aF rfl (aF rfl (aG (bS 63 dU rfl) (aG (cM rfl rfl) (nl (cH H1 rfl (fun h16 H1 => ?_) (fun h16 H1 => ?_))))))))
   ·refine bH (nT (aD (aQ (aD (dB [(0, .slice x_v0.1 v0.length x_v0.2), (1, .slice x_v1.1 v1.length x_v1.2), (5, .int .i64 (Q8))] mixed (.inr (by kernel_rfl)) ⟨rfl, rfl, rfl, trivial⟩ rfl (bB rfl (bB rfl (gdo H1 fun h17 H1 => (aZ (bW dU ty63 rfl rfl h17 rfl (aL (aT aR.s))) (aZ (bZ (i := Q8.toNat) (j := 0) ty63 rfl (aL (aT aR.s)) h17.lt rfl) ?_))))))))))
    refine bB rfl (bB rfl (gdo H1 fun h18 H1 => (aZ (bW dU ty63 rfl rfl h18 rfl (aL (aT aR))) (aZ (bZ (i := Q8.toNat) (j := 0) ty63 rfl (aL (aT aR)) h18.lt rfl) (bdo H1 fun r19 h20 H1 => (aZ (bN (c_laws_eqRowS (nth v0 Q8.toNat) ((X1 Q8.toNat).1, (X1 Q8.toNat).2.1) (nth v1 Q8.toNat) ((X2 Q8.toNat).1, (X2 Q8.toNat).2.1) h20) rfl (aC (aL (aS (aW aR.s h17.lt))) (aC (aL (aS (aW aR h18.lt))) aO))) (aX (cR rfl) (nT (cH H1 rfl (fun h21 H1 => ?_) (fun h21 H1 => ?_))))))))))
    ·refine sr (aH (v := .bool (false)) rfl (nl (bQ (rB (rT (rT (rB (rT (rT (?_))))))))))
     obtain rfl := hb13 _ (sm H1)
     replace H := sw.r H
     obtain rfl := si H
     exact bk
    ·exact bH (nB (nT (aP (aF rfl (gdo H1 fun h22 H1 => (aG (bR rfl rfl h22) (aH rfl (aJ (nLI () (hi12 _ (sm H1)) bK)))))))))
   ·exact cW (xT (xT (xE (nMI () (hb13 _ (sm H1)) bK))))
  ·rintro e23 y10 H
   refine nT (sr (aH (v := .bool (true)) rfl (nl ?_)))
   obtain rfl := si H
   exact bQ bk
noncomputable def p_laws_eqPart (v0 : Part) (v1 : Part) : Option (Bool) := bd (p_laws_eqIntS v0.1 v1.1) fun r5 => cond (!r5) (some false) (bd (p_laws_eqRowSS v0.2 v1.2) fun r8 => cond (!r8) (some false) (some true))
theorem c_laws_eqPart {r : Bool} (v0 : Part) (x_v0 : (Option Addr × Nat) × (Option Addr × Nat)) (v1 : Part) (x_v1 : (Option Addr × Nat) × (Option Addr × Nat)) (H : p_laws_eqPart v0 v1 = some r) : Fn' prog 113 #[.agg #[.slice x_v0.1.1 v0.1.length x_v0.1.2, .slice x_v0.2.1 v0.2.length x_v0.2.2], .agg #[.slice x_v1.1.1 v1.1.length x_v1.1.2, .slice x_v1.2.1 v1.2.length x_v1.2.2]] [imm (.slice x_v0.1.1 v0.1.length x_v0.1.2) v0.1, imm (.slice x_v0.2.1 v0.2.length x_v0.2.2) v0.2, imm (.slice x_v1.1.1 v1.1.length x_v1.1.2) v1.1, imm (.slice x_v1.2.1 v1.2.length x_v1.2.2) v1.2] [] (ι := Unit) (fun _ => .bool (r)) (fun _ => []) (fun _ => []) := by
 refine cof (args := [_, _]) func113 ntmps113 fun c => ?_
 unfold p_laws_eqPart at H
 refine bM aR.s fun X1 => (bM aR.s.s.s.s fun X2 => (sr (f1 (cC (t := 72) rfl) fun g3 => (f1 (cC (t := 72) rfl) fun g4 => (aH (v := .bool (false)) rfl (nl (aD (sr (aG (cB fa72_0 rfl rfl) (aI (bI ty69 rfl hs1 rfl) (aG (cB fa72_0 rfl rfl) ?_)))))))))))
 refine aI (bI ty69 rfl aB rfl) (bdo H fun r5 h6 H => (aI (bN (c_laws_eqIntS v0.1 x_v0.1 v1.1 x_v1.1 h6) rfl (aC (aL aR.s.s) (aC (aL aR.s.s.s.s) aO))) (aG (cR rfl) (nl (cH H rfl (fun h7 H => ?_) (fun h7 H => ?_))))))
 ·refine sr (aH (v := .bool (false)) rfl (nl (bQ (rT (?_)))))
  obtain rfl := si H
  exact bk
 ·refine bH (nT (aD (sr (aG (cB fa72_1 rfl rfl) (aI (bI ty70 rfl hs1 rfl) (aG (cB fa72_1 rfl rfl) (aI (bI ty70 rfl aB rfl) (bdo H fun r8 h9 H => (aI (bN (c_laws_eqRowSS v0.2 x_v0.2 v1.2 x_v1.2 h9) rfl (aC (aL (aS aR.s)) (aC (aL (aS aR)) aO))) (aG (cR rfl) (nl ?_)))))))))))
  refine cH H rfl (fun h10 H => ?_) (fun h10 H => ?_)
  ·refine sr (aH (v := .bool (false)) rfl (nl (bQ (rT (?_)))))
   obtain rfl := si H
   exact bk
  ·refine bH (nT (sr (aH (v := .bool (true)) rfl (nl ?_))))
   obtain rfl := si H
   exact bQ bk
noncomputable def p_laws_eqPartS_b0 (v0 : (List Part)) (v1 : (List Part)) (Q8 : Int) : Option ((Int) ⊕ (Unit ⊕ Bool)) := cond (decide (Q8 < (v0.length : Int))) (gd (ix Q8 v0.length) <| gd (ix Q8 v1.length) <| bd (p_laws_eqPart (nth v0 Q8.toNat) (nth v1 Q8.toNat)) fun r19 => cond (!r19) (some (.inr (.inr false))) (gd (I64 (Q8 + 1)) <| some (.inl (Q8 + 1)))) (some (.inr (.inl ())))
noncomputable def p_laws_eqPartS (v0 : (List Part)) (v1 : (List Part)) : Option (Bool) := cond (!decide ((v0.length : Int) = (v1.length : Int))) (some false) (bd (lp (p_laws_eqPartS_b0 v0 v1) 0) <| sw (fun _ => some true) (fun q => some q))
theorem c_laws_eqPartS {r : Bool} (v0 : (List Part)) (x_v0 : Option Addr × Nat) (v1 : (List Part)) (x_v1 : Option Addr × Nat) (H : p_laws_eqPartS v0 v1 = some r) : Fn' prog 56 #[.slice x_v0.1 v0.length x_v0.2, .slice x_v1.1 v1.length x_v1.2] [imm (.slice x_v0.1 v0.length x_v0.2) v0, imm (.slice x_v1.1 v1.length x_v1.2) v1] [] (ι := Unit) (fun _ => .bool (r)) (fun _ => []) (fun _ => []) := by
 refine cof (args := [_, _]) func56 ntmps56 fun c => ?_
 unfold p_laws_eqPartS at H
 refine bM aR fun X1 => (bM aR.s.s fun X2 => (sr (aH (v := .bool (false)) rfl (nl (aD (sr (aF rfl (aG (bS 72 dP rfl) (aF rfl (aG (bS 72 dP rfl) (aG (cO rfl rfl) (nl ?_))))))))))))
 refine cH H rfl (fun h3 H => ?_) (fun h3 H => ?_)
 ·refine sr (aH (v := .bool (false)) rfl (nl (bQ (rT (?_)))))
  obtain rfl := si H
  exact bk
 ·refine bH (nT (aD (sr (aH (v := .int .i64 (0)) rfl (nl (bdo H fun x4 hx5 H => (cY (Λ := Unit) H (fun _ _ => []) (fun _ _ => []) ?_ ?_)))))))
  ·refine aQ (dA hx5 () (fun Q8 _ => [(0, .slice x_v0.1 v0.length x_v0.2), (1, .slice x_v1.1 v1.length x_v1.2), (5, .int .i64 (Q8))]) (fun _ _ => []) bK ?_)
   rintro _ Q8 z9 t11 H1 hi12 hb13
   unfold p_laws_eqPartS_b0 at H1
   refine aD (sr (aF rfl (aF rfl (aG (bS 72 dP rfl) (aG (cM rfl rfl) (nl (cH H1 rfl (fun h16 H1 => ?_) (fun h16 H1 => ?_))))))))
   ·refine bH (nT (aD (aQ (aD (dB [(0, .slice x_v0.1 v0.length x_v0.2), (1, .slice x_v1.1 v1.length x_v1.2), (5, .int .i64 (Q8))] mixed (.inr (by kernel_rfl)) ⟨rfl, rfl, rfl, trivial⟩ rfl (bB rfl (bB rfl (gdo H1 fun h17 H1 => (aZ (bW dP ty72 rfl rfl h17 rfl (aL (aT aR.s))) (aZ (v := .agg #[.slice (((X1 Q8.toNat).1).1) (((nth v0 Q8.toNat).1).length) (((X1 Q8.toNat).1).2.1), .slice (((X1 Q8.toNat).2).1) (((nth v0 Q8.toNat).2).length) (((X1 Q8.toNat).2).2.1)]) (cA (i := Q8.toNat) ty72 rfl (aL (aT aR.s)) h17.lt) ?_))))))))))
    refine bB rfl (bB rfl (gdo H1 fun h18 H1 => (aZ (bW dP ty72 rfl rfl h18 rfl (aL (aT aR))) (aZ (v := .agg #[.slice (((X2 Q8.toNat).1).1) (((nth v1 Q8.toNat).1).length) (((X2 Q8.toNat).1).2.1), .slice (((X2 Q8.toNat).2).1) (((nth v1 Q8.toNat).2).length) (((X2 Q8.toNat).2).2.1)]) (cA (i := Q8.toNat) ty72 rfl (aL (aT aR)) h18.lt) (bdo H1 fun r19 h20 H1 => (aZ (bN (c_laws_eqPart (nth v0 Q8.toNat) ((((X1 Q8.toNat).1).1, ((X1 Q8.toNat).1).2.1), (((X1 Q8.toNat).2).1, ((X1 Q8.toNat).2).2.1)) (nth v1 Q8.toNat) ((((X2 Q8.toNat).1).1, ((X2 Q8.toNat).1).2.1), (((X2 Q8.toNat).2).1, ((X2 Q8.toNat).2).2.1)) h20) rfl (aC (aL (aS (aV (aW aR.s h17.lt)))) (aC (aL (aS (aU (aW aR.s h17.lt)))) (aC (aL (aS (aV (aW aR h18.lt)))) (aC (aL (aS (aU (aW aR h18.lt)))) aO))))) (aX (cR rfl) (nT (cH H1 rfl (fun h21 H1 => ?_) (fun h21 H1 => ?_))))))))))
    ·refine sr (aH (v := .bool (false)) rfl (nl (bQ (rB (rT (rT (rB (rT (rT (?_))))))))))
     obtain rfl := hb13 _ (sm H1)
     replace H := sw.r H
     obtain rfl := si H
     exact bk
    ·exact bH (nB (nT (aP (aF rfl (gdo H1 fun h22 H1 => (aG (bR rfl rfl h22) (aH rfl (aJ (nLI () (hi12 _ (sm H1)) bK)))))))))
   ·exact cW (xT (xT (xE (nMI () (hb13 _ (sm H1)) bK))))
  ·rintro e23 y10 H
   refine nT (sr (aH (v := .bool (true)) rfl (nl ?_)))
   obtain rfl := si H
   exact bQ bk
noncomputable def p_laws_eqSample (v0 : Sample) (v1 : Sample) : Option (Bool) := cond (!decide (v0.1 = v1.1)) (some false) (bd (p_laws_eqRow v0.2 v1.2) fun r4 => cond (!r4) (some false) (some true))
theorem c_laws_eqSample {r : Bool} (v0 : Sample) (v1 : Sample) (H : p_laws_eqSample v0 v1 = some r) : Fn' prog 114 #[.agg #[.int .i64 (v0.1), .int .i64 (v0.2.1), .int .i64 (v0.2.2)], .agg #[.int .i64 (v1.1), .int .i64 (v1.2.1), .int .i64 (v1.2.2)]] [] [] (ι := Unit) (fun _ => .bool (r)) (fun _ => []) (fun _ => []) := by
 refine cof (args := [_, _]) func114 ntmps114 fun c => ?_
 unfold p_laws_eqSample at H
 refine sr (f1 (cC (t := 59) rfl) fun g1 => (f1 (cC (t := 59) rfl) fun g2 => (aH (v := .bool (false)) rfl (nl (aD (sr (aG (cB fa59_0 rfl rfl) (aI (bI ty3 rfl hs1 rfl) (aG (cB fa59_0 rfl rfl) (aI (bI ty3 rfl aB rfl) (aG (cO rfl rfl) (nl ?_))))))))))))
 refine cH H rfl (fun h3 H => ?_) (fun h3 H => ?_)
 ·refine sr (aH (v := .bool (false)) rfl (nl (bQ (rT (?_)))))
  obtain rfl := si H
  exact bk
 ·refine bH (nT (aD (sr (aG (cB fa59_1 rfl rfl) (aI (v := .agg #[.int .i64 (v0.2.1), .int .i64 (v0.2.2)]) (q_ldbP [.int .i64 (v0.2.1), .int .i64 (v0.2.2)] ty57 rfl hs1 rfl rfl) (aG (cB fa59_1 rfl rfl) (aI (v := .agg #[.int .i64 (v1.2.1), .int .i64 (v1.2.2)]) (q_ldbP [.int .i64 (v1.2.1), .int .i64 (v1.2.2)] ty57 rfl aB rfl rfl) (bdo H fun r4 h5 H => (aI (bN (c_laws_eqRow v0.2 v1.2 h5) rfl aO) (aG (cR rfl) (nl ?_)))))))))))
  refine cH H rfl (fun h6 H => ?_) (fun h6 H => ?_)
  ·refine sr (aH (v := .bool (false)) rfl (nl (bQ (rT (?_)))))
   obtain rfl := si H
   exact bk
  ·refine bH (nT (sr (aH (v := .bool (true)) rfl (nl ?_))))
   obtain rfl := si H
   exact bQ bk
noncomputable def p_laws_eqSampleS_b0 (v0 : (List Sample)) (v1 : (List Sample)) (Q6 : Int) : Option ((Int) ⊕ (Unit ⊕ Bool)) := cond (decide (Q6 < (v0.length : Int))) (gd (ix Q6 v0.length) <| gd (ix Q6 v1.length) <| bd (p_laws_eqSample (nth v0 Q6.toNat) (nth v1 Q6.toNat)) fun r17 => cond (!r17) (some (.inr (.inr false))) (gd (I64 (Q6 + 1)) <| some (.inl (Q6 + 1)))) (some (.inr (.inl ())))
noncomputable def p_laws_eqSampleS (v0 : (List Sample)) (v1 : (List Sample)) : Option (Bool) := cond (!decide ((v0.length : Int) = (v1.length : Int))) (some false) (bd (lp (p_laws_eqSampleS_b0 v0 v1) 0) <| sw (fun _ => some true) (fun q => some q))
theorem c_laws_eqSampleS {r : Bool} (v0 : (List Sample)) (x_v0 : Option Addr × Nat) (v1 : (List Sample)) (x_v1 : Option Addr × Nat) (H : p_laws_eqSampleS v0 v1 = some r) : Fn' prog 57 #[.slice x_v0.1 v0.length x_v0.2, .slice x_v1.1 v1.length x_v1.2] [imm (.slice x_v0.1 v0.length x_v0.2) v0, imm (.slice x_v1.1 v1.length x_v1.2) v1] [] (ι := Unit) (fun _ => .bool (r)) (fun _ => []) (fun _ => []) := by
 refine cof (args := [_, _]) func57 ntmps57 fun c => ?_
 unfold p_laws_eqSampleS at H
 refine sr (aH (v := .bool (false)) rfl (nl (aD (sr (aF rfl (aG (bS 59 dQ rfl) (aF rfl (aG (bS 59 dQ rfl) (aG (cO rfl rfl) (nl (cH H rfl (fun h1 H => ?_) (fun h1 H => ?_))))))))))))
 ·refine sr (aH (v := .bool (false)) rfl (nl (bQ (rT (?_)))))
  obtain rfl := si H
  exact bk
 ·refine bH (nT (aD (sr (aH (v := .int .i64 (0)) rfl (nl (bdo H fun x2 hx3 H => (cY (Λ := Unit) H (fun _ _ => []) (fun _ _ => []) ?_ ?_)))))))
  ·refine aQ (dA hx3 () (fun Q6 _ => [(0, .slice x_v0.1 v0.length x_v0.2), (1, .slice x_v1.1 v1.length x_v1.2), (5, .int .i64 (Q6))]) (fun _ _ => []) bK ?_)
   rintro _ Q6 z7 t9 H1 hi10 hb11
   unfold p_laws_eqSampleS_b0 at H1
   refine aD (sr (aF rfl (aF rfl (aG (bS 59 dQ rfl) (aG (cM rfl rfl) (nl (cH H1 rfl (fun h14 H1 => ?_) (fun h14 H1 => ?_))))))))
   ·refine bH (nT (aD (aQ (aD (dB [(0, .slice x_v0.1 v0.length x_v0.2), (1, .slice x_v1.1 v1.length x_v1.2), (5, .int .i64 (Q6))] mixed (.inr (by kernel_rfl)) ⟨rfl, rfl, rfl, trivial⟩ rfl (bB rfl (bB rfl (gdo H1 fun h15 H1 => (aZ (bW dQ ty59 rfl rfl h15 rfl (aN (aL aR))) (aZ (v := .agg #[.int .i64 ((nth v0 Q6.toNat).1), .int .i64 (((nth v0 Q6.toNat).2).1), .int .i64 (((nth v0 Q6.toNat).2).2)]) (cA (i := Q6.toNat) ty59 rfl (aN (aL aR)) h15.lt) ?_))))))))))
    refine bB rfl (bB rfl (gdo H1 fun h16 H1 => (aZ (bW dQ ty59 rfl rfl h16 rfl (aN (aL aR.s))) (aZ (v := .agg #[.int .i64 ((nth v1 Q6.toNat).1), .int .i64 (((nth v1 Q6.toNat).2).1), .int .i64 (((nth v1 Q6.toNat).2).2)]) (cA (i := Q6.toNat) ty59 rfl (aN (aL aR.s)) h16.lt) (bdo H1 fun r17 h18 H1 => (aZ (bN (c_laws_eqSample (nth v0 Q6.toNat) (nth v1 Q6.toNat) h18) rfl aO) (aX (cR rfl) (nT (cH H1 rfl (fun h19 H1 => ?_) (fun h19 H1 => ?_))))))))))
    ·refine sr (aH (v := .bool (false)) rfl (nl (bQ (rB (rT (rT (rB (rT (rT (?_))))))))))
     obtain rfl := hb11 _ (sm H1)
     replace H := sw.r H
     obtain rfl := si H
     exact bk
    ·exact bH (nB (nT (aP (aF rfl (gdo H1 fun h20 H1 => (aG (bR rfl rfl h20) (aH rfl (aJ (nLI () (hi10 _ (sm H1)) bK)))))))))
   ·exact cW (xT (xT (xE (nMI () (hb11 _ (sm H1)) bK))))
  ·rintro e21 y8 H
   refine nT (sr (aH (v := .bool (true)) rfl (nl ?_)))
   obtain rfl := si H
   exact bQ bk
noncomputable def p_laws_eqStore (v0 : Store) (v1 : Store) : Option (Bool) := bd (p_laws_eqIndex v0.1 v1.1) fun r9 => cond (!r9) (some false) (bd (p_laws_eqPartS v0.2.1 v1.2.1) fun r12 => cond (!r12) (some false) (bd (p_laws_eqSampleS v0.2.2 v1.2.2) fun r15 => cond (!r15) (some false) (some true)))
theorem c_laws_eqStore {r : Bool} (v0 : Store) (x_v0 : ((Option Addr × Nat) × (Option Addr × Nat)) × (Option Addr × Nat) × (Option Addr × Nat)) (v1 : Store) (x_v1 : ((Option Addr × Nat) × (Option Addr × Nat)) × (Option Addr × Nat) × (Option Addr × Nat)) (H : p_laws_eqStore v0 v1 = some r) : Fn' prog 15 #[.agg #[.slice x_v0.1.1.1 v0.1.1.length x_v0.1.1.2, .slice x_v0.1.2.1 v0.1.2.length x_v0.1.2.2, .slice x_v0.2.1.1 v0.2.1.length x_v0.2.1.2, .slice x_v0.2.2.1 v0.2.2.length x_v0.2.2.2], .agg #[.slice x_v1.1.1.1 v1.1.1.length x_v1.1.1.2, .slice x_v1.1.2.1 v1.1.2.length x_v1.1.2.2, .slice x_v1.2.1.1 v1.2.1.length x_v1.2.1.2, .slice x_v1.2.2.1 v1.2.2.length x_v1.2.2.2]] [imm (.slice x_v0.1.1.1 v0.1.1.length x_v0.1.1.2) v0.1.1, imm (.slice x_v0.1.2.1 v0.1.2.length x_v0.1.2.2) v0.1.2, imm (.slice x_v0.2.1.1 v0.2.1.length x_v0.2.1.2) v0.2.1, imm (.slice x_v0.2.2.1 v0.2.2.length x_v0.2.2.2) v0.2.2, imm (.slice x_v1.1.1.1 v1.1.1.length x_v1.1.1.2) v1.1.1, imm (.slice x_v1.1.2.1 v1.1.2.length x_v1.1.2.2) v1.1.2, imm (.slice x_v1.2.1.1 v1.2.1.length x_v1.2.1.2) v1.2.1, imm (.slice x_v1.2.2.1 v1.2.2.length x_v1.2.2.2) v1.2.2] [] (ι := Unit) (fun _ => .bool (r)) (fun _ => []) (fun _ => []) := by
 refine cof (args := [_, _]) func15 ntmps15 fun c => ?_
 unfold p_laws_eqStore at H
 refine bM aR fun X1 => (bM aR.s.s fun X2 => (bM aR.s.s.s.s fun X3 => (bM aR.s.s.s.s.s.s.s fun X4 => (bM aR.s.s.s.s.s.s.s.s.s fun X5 => (bM aR.s.s.s.s.s.s.s.s.s.s.s fun X6 => (sr (f1 (cC (t := 42) rfl) fun g7 => (f1 (cC (t := 42) rfl) fun g8 => (aH (v := .bool (false)) rfl (nl ?_))))))))))
 refine aD (sr (aG (cB fa42_0 rfl rfl) (aI (v := .agg #[.slice x_v0.1.1.1 v0.1.1.length x_v0.1.1.2, .slice x_v0.1.2.1 v0.1.2.length x_v0.1.2.2]) (q_ldbP [.slice x_v0.1.1.1 v0.1.1.length x_v0.1.1.2, .slice x_v0.1.2.1 v0.1.2.length x_v0.1.2.2] ty38 rfl hs1 rfl rfl) (aG (cB fa42_0 rfl rfl) (aI (v := .agg #[.slice x_v1.1.1.1 v1.1.1.length x_v1.1.1.2, .slice x_v1.1.2.1 v1.1.2.length x_v1.1.2.2]) (q_ldbP [.slice x_v1.1.1.1 v1.1.1.length x_v1.1.1.2, .slice x_v1.1.2.1 v1.1.2.length x_v1.1.2.2] ty38 rfl aB rfl rfl) (bdo H fun r9 h10 H => (aI (bN (c_laws_eqIndex v0.1 x_v0.1 v1.1 x_v1.1 h10) rfl (aC (aL (aS aR.s.s.s.s.s)) (aC (aL (aS aR.s.s.s.s)) (aC (aL (aS aR.s.s)) (aC (aL (aS aR.s)) aO))))) (aG (cR rfl) (nl (cH H rfl (fun h11 H => ?_) (fun h11 H => ?_)))))))))))
 ·refine sr (aH (v := .bool (false)) rfl (nl (bQ (rT (?_)))))
  obtain rfl := si H
  exact bk
 ·refine bH (nT (aD (sr (aG (cB fa42_1 rfl rfl) (aI (bI ty39 rfl hs1 rfl) (aG (cB fa42_1 rfl rfl) (aI (bI ty39 rfl aB rfl) (bdo H fun r12 h13 H => (aI (bN (c_laws_eqPartS v0.2.1 x_v0.2.1 v1.2.1 x_v1.2.1 h13) rfl (aC (aL (aS aR.s.s.s)) (aC (aL (aS aR)) aO))) (aG (cR rfl) (nl ?_)))))))))))
  refine cH H rfl (fun h14 H => ?_) (fun h14 H => ?_)
  ·refine sr (aH (v := .bool (false)) rfl (nl (bQ (rT (?_)))))
   obtain rfl := si H
   exact bk
  ·refine bH (nT (aD (sr (aG (cB fa42_2 rfl rfl) (aI (bI ty40 rfl hs1 rfl) (aG (cB fa42_2 rfl rfl) (aI (bI ty40 rfl aB rfl) (bdo H fun r15 h16 H => (aI (bN (c_laws_eqSampleS v0.2.2 x_v0.2.2 v1.2.2 x_v1.2.2 h16) rfl (aC (aL aR.s.s.s.s.s.s.s.s.s) (aC (aL aR.s.s.s.s.s.s.s.s.s.s.s.s.s) aO))) (aG (cR rfl) (nl ?_)))))))))))
   refine cH H rfl (fun h17 H => ?_) (fun h17 H => ?_)
   ·refine sr (aH (v := .bool (false)) rfl (nl (bQ (rT (?_)))))
    obtain rfl := si H
    exact bk
   ·refine bH (nT (sr (aH (v := .bool (true)) rfl (nl ?_))))
    obtain rfl := si H
    exact bQ bk
noncomputable def p_laws_eqCond (v0 : Cond) (v1 : Cond) : Option (Bool) := bd (p_laws_eqTag v0.1 v1.1) fun r3 => cond (!r3) (some false) (cond (!decide (v0.2 = v1.2)) (some false) (some true))
theorem c_laws_eqCond {r : Bool} (v0 : Cond) (v1 : Cond) (H : p_laws_eqCond v0 v1 = some r) : Fn' prog 58 #[.agg #[.string (v0.1.1), .string (v0.1.2), .bool (v0.2)], .agg #[.string (v1.1.1), .string (v1.1.2), .bool (v1.2)]] [] [] (ι := Unit) (fun _ => .bool (r)) (fun _ => []) (fun _ => []) := by
 refine cof (args := [_, _]) func58 ntmps58 fun c => ?_
 unfold p_laws_eqCond at H
 refine sr (f1 (cC (t := 99) rfl) fun g1 => (f1 (cC (t := 99) rfl) fun g2 => (aH (v := .bool (false)) rfl (nl (aD (sr (aG (cB fa99_0 rfl rfl) (aI (v := .agg #[.string (v0.1.1), .string (v0.1.2)]) (q_ldbP [.string (v0.1.1), .string (v0.1.2)] ty97 rfl hs1 rfl rfl) (aG (cB fa99_0 rfl rfl) (aI (v := .agg #[.string (v1.1.1), .string (v1.1.2)]) (q_ldbP [.string (v1.1.1), .string (v1.1.2)] ty97 rfl aB rfl rfl) (bdo H fun r3 h4 H => ?_)))))))))))
 refine aI (bN (c_laws_eqTag v0.1 v1.1 h4) rfl aO) (aG (cR rfl) (nl (cH H rfl (fun h5 H => ?_) (fun h5 H => ?_))))
 ·refine sr (aH (v := .bool (false)) rfl (nl (bQ (rT (?_)))))
  obtain rfl := si H
  exact bk
 ·refine bH (nT (aD (sr (aG (cB fa99_1 rfl rfl) (aI (bI ty4 rfl hs1 rfl) (aG (cB fa99_1 rfl rfl) (aI (bI ty4 rfl aB rfl) (aG (p_bneq underlying4 rfl rfl) (nl (cH H rfl (fun h6 H => ?_) (fun h6 H => ?_)))))))))))
  ·refine sr (aH (v := .bool (false)) rfl (nl (bQ (rT (?_)))))
   obtain rfl := si H
   exact bk
  ·refine bH (nT (sr (aH (v := .bool (true)) rfl (nl ?_))))
   obtain rfl := si H
   exact bQ bk
noncomputable def p_laws_eqCondS_b0 (v0 : (List Cond)) (v1 : (List Cond)) (Q6 : Int) : Option ((Int) ⊕ (Unit ⊕ Bool)) := cond (decide (Q6 < (v0.length : Int))) (gd (ix Q6 v0.length) <| gd (ix Q6 v1.length) <| bd (p_laws_eqCond (nth v0 Q6.toNat) (nth v1 Q6.toNat)) fun r17 => cond (!r17) (some (.inr (.inr false))) (gd (I64 (Q6 + 1)) <| some (.inl (Q6 + 1)))) (some (.inr (.inl ())))
noncomputable def p_laws_eqCondS (v0 : (List Cond)) (v1 : (List Cond)) : Option (Bool) := cond (!decide ((v0.length : Int) = (v1.length : Int))) (some false) (bd (lp (p_laws_eqCondS_b0 v0 v1) 0) <| sw (fun _ => some true) (fun q => some q))
theorem c_laws_eqCondS {r : Bool} (v0 : (List Cond)) (x_v0 : Option Addr × Nat) (v1 : (List Cond)) (x_v1 : Option Addr × Nat) (H : p_laws_eqCondS v0 v1 = some r) : Fn' prog 16 #[.slice x_v0.1 v0.length x_v0.2, .slice x_v1.1 v1.length x_v1.2] [imm (.slice x_v0.1 v0.length x_v0.2) v0, imm (.slice x_v1.1 v1.length x_v1.2) v1] [] (ι := Unit) (fun _ => .bool (r)) (fun _ => []) (fun _ => []) := by
 refine cof (args := [_, _]) func16 ntmps16 fun c => ?_
 unfold p_laws_eqCondS at H
 refine sr (aH (v := .bool (false)) rfl (nl (aD (sr (aF rfl (aG (bS 99 dR rfl) (aF rfl (aG (bS 99 dR rfl) (aG (cO rfl rfl) (nl (cH H rfl (fun h1 H => ?_) (fun h1 H => ?_))))))))))))
 ·refine sr (aH (v := .bool (false)) rfl (nl (bQ (rT (?_)))))
  obtain rfl := si H
  exact bk
 ·refine bH (nT (aD (sr (aH (v := .int .i64 (0)) rfl (nl (bdo H fun x2 hx3 H => (cY (Λ := Unit) H (fun _ _ => []) (fun _ _ => []) ?_ ?_)))))))
  ·refine aQ (dA hx3 () (fun Q6 _ => [(0, .slice x_v0.1 v0.length x_v0.2), (1, .slice x_v1.1 v1.length x_v1.2), (5, .int .i64 (Q6))]) (fun _ _ => []) bK ?_)
   rintro _ Q6 z7 t9 H1 hi10 hb11
   unfold p_laws_eqCondS_b0 at H1
   refine aD (sr (aF rfl (aF rfl (aG (bS 99 dR rfl) (aG (cM rfl rfl) (nl (cH H1 rfl (fun h14 H1 => ?_) (fun h14 H1 => ?_))))))))
   ·refine bH (nT (aD (aQ (aD (dB [(0, .slice x_v0.1 v0.length x_v0.2), (1, .slice x_v1.1 v1.length x_v1.2), (5, .int .i64 (Q6))] mixed (.inr (by kernel_rfl)) ⟨rfl, rfl, rfl, trivial⟩ rfl (bB rfl (bB rfl (gdo H1 fun h15 H1 => (aZ (bW dR ty99 rfl rfl h15 rfl (aN (aL aR))) (aZ (v := .agg #[.string (((nth v0 Q6.toNat).1).1), .string (((nth v0 Q6.toNat).1).2), .bool ((nth v0 Q6.toNat).2)]) (cA (i := Q6.toNat) ty99 rfl (aN (aL aR)) h15.lt) ?_))))))))))
    refine bB rfl (bB rfl (gdo H1 fun h16 H1 => (aZ (bW dR ty99 rfl rfl h16 rfl (aN (aL aR.s))) (aZ (v := .agg #[.string (((nth v1 Q6.toNat).1).1), .string (((nth v1 Q6.toNat).1).2), .bool ((nth v1 Q6.toNat).2)]) (cA (i := Q6.toNat) ty99 rfl (aN (aL aR.s)) h16.lt) (bdo H1 fun r17 h18 H1 => (aZ (bN (c_laws_eqCond (nth v0 Q6.toNat) (nth v1 Q6.toNat) h18) rfl aO) (aX (cR rfl) (nT (cH H1 rfl (fun h19 H1 => ?_) (fun h19 H1 => ?_))))))))))
    ·refine sr (aH (v := .bool (false)) rfl (nl (bQ (rB (rT (rT (rB (rT (rT (?_))))))))))
     obtain rfl := hb11 _ (sm H1)
     replace H := sw.r H
     obtain rfl := si H
     exact bk
    ·exact bH (nB (nT (aP (aF rfl (gdo H1 fun h20 H1 => (aG (bR rfl rfl h20) (aH rfl (aJ (nLI () (hi10 _ (sm H1)) bK)))))))))
   ·exact cW (xT (xT (xE (nMI () (hb11 _ (sm H1)) bK))))
  ·rintro e21 y8 H
   refine nT (sr (aH (v := .bool (true)) rfl (nl ?_)))
   obtain rfl := si H
   exact bQ bk
noncomputable def p_laws_markText_b0 (Q6 : Int × ByteArray) : Option ((Int × ByteArray) ⊕ (ByteArray)) := cond (decide (0 < Q6.1)) (gd (I64 (Q6.1.tmod 10)) <| gd (I64 (48 + (Q6.1.tmod 10))) <| gd (room ((s2 [b8 (48 + (Q6.1.tmod 10))]).size + Q6.2.size)) <| gd (I64 (Q6.1.tdiv 10)) <| some (.inl (Q6.1.tdiv 10, (s2 [b8 (48 + (Q6.1.tmod 10))]) ++ Q6.2))) (some (.inr Q6.2))
noncomputable def p_laws_markText (v0 : Int) : Option (ByteArray) := cond (decide (v0 ≤ 0)) (some (⟨#[109, 48]⟩ : ByteArray)) (bd (lp (p_laws_markText_b0) (v0, (⟨#[]⟩ : ByteArray))) fun x2 => gd (room ((⟨#[109]⟩ : ByteArray).size + x2.size)) <| some ((⟨#[109]⟩ : ByteArray) ++ x2))
theorem c_laws_markText {r : ByteArray} (v0 : Int) (H : p_laws_markText v0 = some r) : Fn' prog 62 #[.int .i64 (v0)] [] [] (ι := Unit) (fun _ => .string (r)) (fun _ => []) (fun _ => []) := by
 refine cof (args := [_]) func62 ntmps62 fun c => ?_
 unfold p_laws_markText at H
 refine sr (aH (v := .string ((⟨#[]⟩ : ByteArray))) rfl (nl (aD (sr (aF rfl (aG (p_leq rfl rfl) (nl (cH H rfl (fun h1 H => ?_) (fun h1 H => ?_)))))))))
 ·refine sr (aH (v := .string ((⟨#[109, 48]⟩ : ByteArray))) rfl (nl (bQ (rT (?_)))))
  obtain rfl := si H
  exact bk
 ·refine bH (nT (sr (aH (v := .string ((⟨#[]⟩ : ByteArray))) rfl (nl (bdo H fun x2 hx3 H => (tMidC (ι := Unit) (fun ψ => [(3, .string (x2))]) (fun ψ => []) ?_ ?_))))))
  ·refine aQ (dA hx3 () (fun Q6 _ => [(0, .int .i64 (Q6.1)), (3, .string (Q6.2))]) (fun _ _ => []) bK ?_)
   rintro _ Q6 z7 t9 H1 hi10 hb11
   unfold p_laws_markText_b0 at H1
   refine aD (sr (aF rfl (aG (cQ rfl rfl) (nl (cH H1 rfl (fun h14 H1 => ?_) (fun h14 H1 => ?_))))))
   ·refine bH (nT (aQ (sr (aF rfl (gdo H1 fun h15 H1 => (aG (p_rem rfl rfl (by decide) h15) (gdo H1 fun h16 H1 => (aG (bR rfl rfl h16) (aG (v := .int .u8 ((b8 (48 + (Q6.1.tmod 10))).toNat : Int)) (p_b8 underlying3 underlying5 rfl) ?_)))))))))
    refine f1 (e_lit (vs := [(0, .int .u8 ((b8 (48 + (Q6.1.tmod 10))).toNat : Int))]) [.int .u8 ((b8 (48 + (Q6.1.tmod 10))).toNat : Int)] underlying53 ty5 rfl (by decide) (by decide) (by kernel_rfl)) fun g17 => (aI (v := .string (s2 [b8 (48 + (Q6.1.tmod 10))])) (q_b2sL [b8 (48 + (Q6.1.tmod 10))] underlying53 underlying5 dV rfl aB rfl) (aF rfl (gdo H1 fun h18 H1 => (aG (p_cat rfl rfl h18) (aH rfl (nl (aP (aF rfl (gdo H1 fun h19 H1 => (aG (p_quo rfl rfl (by decide) h19) ?_))))))))))
    exact aH rfl (aJ (nB (nLI () (hi10 _ (sm H1)) bK)))
   ·refine cW (xT (xT (xE (?_))))
    obtain rfl := hb11 _ (sm H1)
    exact nMC () ⟨rfl, trivial⟩ bT bK
  ·intro y8
   show Tr _ _ _ _ _ [(3, .string (x2))] _ []
   refine sr (aF rfl (gdo H fun h20 H => (aG (v := .string ((⟨#[109]⟩ : ByteArray) ++ x2)) (p_cat rfl rfl h20) (aH (v := .string ((⟨#[109]⟩ : ByteArray) ++ x2)) rfl (nl ?_)))))
   obtain rfl := si H
   exact bQ bk
noncomputable def p_laws_markTagS_b0 (v0 : (List Tag)) (Q5 : (List Tag) × Int × Int) : Option (((List Tag) × Int × Int) ⊕ (Int × (List Tag))) := cond (decide (Q5.2.2 < (v0.length : Int))) (gd (ix Q5.2.2 Q5.1.length) <| bd (p_laws_markText Q5.2.1) fun r16 => gd (I64 (Q5.2.1 + 1)) <| bd (p_laws_markText (Q5.2.1 + 1)) fun r19 => gd (I64 ((Q5.2.1 + 1) + 1)) <| gd (I64 (Q5.2.2 + 1)) <| some (.inl ((Q5.1.set Q5.2.2.toNat (r16, r19)), (Q5.2.1 + 1) + 1, Q5.2.2 + 1))) (some (.inr (Q5.2.1, Q5.1)))
noncomputable def p_laws_markTagS (v0 : (List Tag)) (v1 : Int) : Option (Int × (List Tag)) := bd (lp (p_laws_markTagS_b0 v0) (v0, v1, 0)) fun x1 => some (x1.1, x1.2)
theorem c_laws_markTagS {r : Int × (List Tag)} (v0 : (List Tag)) (x_v0 : Option Addr × Nat) (n_v0 : Nat) (e_v0 : n_v0 = v0.length) (v1 : Int) (H : p_laws_markTagS v0 v1 = some r) : Fn' prog 167 #[.slice x_v0.1 n_v0 x_v0.2, .int .i64 (v1)] [] [tree (.slice x_v0.1 n_v0 x_v0.2) v0] (ι := Unit) (fun _ => .int .i64 (r.1)) (fun _ => []) (fun _ => [tree (.slice x_v0.1 n_v0 x_v0.2) r.2]) := by
 subst e_v0
 refine cof (args := [_, _]) func167 ntmps167 fun c => ?_
 unfold p_laws_markTagS at H
 refine sr (aH (v := .int .i64 (0)) rfl (nl (aD (sr (aH (v := .int .i64 (0)) rfl (nl (bdo H fun x1 hx2 H => (cX (ι := Unit) (fun ψ => [(1, .int .i64 (x1.1))]) (fun ψ => [tree (.slice x_v0.1 v0.length x_v0.2) x1.2]) ?_ ?_))))))))
 ·refine aQ (dA hx2 () (fun Q5 _ => [(0, .slice x_v0.1 v0.length x_v0.2), (1, .int .i64 (Q5.2.1)), (5, .int .i64 (Q5.2.2))]) (fun Q5 _ => [tree (.slice x_v0.1 v0.length x_v0.2) Q5.1]) (.cons aA .nil) ?_)
  rintro _ Q5 z6 t8 H1 hi9 hb10
  unfold p_laws_markTagS_b0 at H1
  refine aD (sr (aF rfl (aF rfl (aG (bS 97 dE rfl) (aG (cM rfl rfl) (nl (cH H1 rfl (fun h13 H1 => ?_) (fun h13 H1 => ?_))))))))
  ·refine bH (nT (aD (aQ (aD (gdo H1 fun h14 H1 => (Tr.zoom (k := Q5.2.2.toNat) h14.lt (.cons aA .nil) fun x15 => ?_))))))
   show Tr _ _ _ _ _ _ _ (hole (.slice x_v0.1 v0.length x_v0.2) Q5.1 Q5.2.2.toNat [.string ((nth Q5.1 Q5.2.2.toNat).1), .string ((nth Q5.1 Q5.2.2.toNat).2)] :: _)
   refine aP (aF rfl (aF rfl (aF rfl (bdo H1 fun r16 h17 H1 => (aI (bN (c_laws_markText Q5.2.1 h17) rfl aO) (aI (v := elp x_v0.1 (Q5.2.2.toNat * Enc.sz Tag + 0)) (q_ixH (k := Q5.2.2.toNat) dE ty97 rfl rfl h14 rfl aB) (aI (v := elp x_v0.1 (Q5.2.2.toNat * Enc.sz Tag + 0)) (q_faH (j := 0) (i := Q5.2.2.toNat) fa97_0 rfl aB rfl) (g0 (e_stH (v := .string (r16)) (i := Q5.2.2.toNat) (j := 0) (cs' := [.string (r16), .string ((nth Q5.1 Q5.2.2.toNat).2)]) ty9 rfl rfl (.cons aA .nil) rfl (one_of rfl) (Nat.le_of_ble_eq_true rfl) rfl rfl) (nl ?_)))))))))
   refine sr (aF rfl (gdo H1 fun h18 H1 => (aG (bR rfl rfl h18) (aH rfl (nl (sr (aF rfl (aF rfl (aF rfl (bdo H1 fun r19 h20 H1 => ?_))))))))))
   refine aI (bN (c_laws_markText (Q5.2.1 + 1) h20) rfl aO) (aI (v := elp x_v0.1 (Q5.2.2.toNat * Enc.sz Tag + 0)) (q_ixH (k := Q5.2.2.toNat) dE ty97 rfl rfl h14 rfl aB) (aI (v := elp x_v0.1 (Q5.2.2.toNat * Enc.sz Tag + 1)) (q_faH (j := 0) (i := Q5.2.2.toNat) fa97_1 rfl aB rfl) (g0 (e_stH (v := .string (r19)) (i := Q5.2.2.toNat) (j := 1) (cs' := [.string (r16), .string (r19)]) ty9 rfl rfl (.cons aA .nil) rfl (one_of rfl) (Nat.le_of_ble_eq_true rfl) rfl rfl) (nl (aP (aF rfl (gdo H1 fun h21 H1 => (aG (bR rfl rfl h21) (aH rfl (aJ ?_))))))))))
   exact nB (nT (aP (aF rfl (gdo H1 fun h22 H1 => (aG (bR rfl rfl h22) (aH rfl (aJ (At.unzoom (r16, r19) ((), ()) rfl (.cons aA .nil) (nLI () (hi9 _ (sm H1)) (.cons aA .nil))))))))))
  ·refine cW (xT (xT (xE (?_))))
   obtain rfl := hb10 _ (sm H1)
   exact nMC () ⟨rfl, trivial⟩ bT (.cons aA .nil)
 ·intro y7
  show At _ _ [(1, .int .i64 (x1.1))] _ [tree (.slice x_v0.1 v0.length x_v0.2) x1.2] _
  refine nT (sr (aF rfl (aH rfl (nl ?_))))
  obtain rfl := si H
  exact bQ (bk (.cons aA .nil))
noncomputable def p_laws_markTagSS_b0 (v0 : (List (List Tag))) (Q5 : (List (List Tag)) × Int × Int) : Option (((List (List Tag)) × Int × Int) ⊕ (Int × (List (List Tag)))) := cond (decide (Q5.2.2 < (v0.length : Int))) (gd (ix Q5.2.2 Q5.1.length) <| bd (p_laws_markTagS (nth Q5.1 Q5.2.2.toNat) Q5.2.1) fun r16 => gd (I64 (Q5.2.2 + 1)) <| some (.inl ((Q5.1.set Q5.2.2.toNat r16.2), r16.1, Q5.2.2 + 1))) (some (.inr (Q5.2.1, Q5.1)))
noncomputable def p_laws_markTagSS (v0 : (List (List Tag))) (v1 : Int) : Option (Int × (List (List Tag))) := bd (lp (p_laws_markTagSS_b0 v0) (v0, v1, 0)) fun x1 => some (x1.1, x1.2)
theorem c_laws_markTagSS {r : Int × (List (List Tag))} (v0 : (List (List Tag))) (x_v0 : Option Addr × Nat) (n_v0 : Nat) (e_v0 : n_v0 = v0.length) (v1 : Int) (H : p_laws_markTagSS v0 v1 = some r) : Fn' prog 116 #[.slice x_v0.1 n_v0 x_v0.2, .int .i64 (v1)] [] [tree (.slice x_v0.1 n_v0 x_v0.2) v0] (ι := Unit) (fun _ => .int .i64 (r.1)) (fun _ => []) (fun _ => [tree (.slice x_v0.1 n_v0 x_v0.2) r.2]) := by
 subst e_v0
 refine cof (args := [_, _]) func116 ntmps116 fun c => ?_
 unfold p_laws_markTagSS at H
 refine sr (aH (v := .int .i64 (0)) rfl (nl (aD (sr (aH (v := .int .i64 (0)) rfl (nl (bdo H fun x1 hx2 H => (cX (ι := Unit) (fun ψ => [(1, .int .i64 (x1.1))]) (fun ψ => [tree (.slice x_v0.1 v0.length x_v0.2) x1.2]) ?_ ?_))))))))
 ·refine aQ (dA hx2 () (fun Q5 _ => [(0, .slice x_v0.1 v0.length x_v0.2), (1, .int .i64 (Q5.2.1)), (5, .int .i64 (Q5.2.2))]) (fun Q5 _ => [tree (.slice x_v0.1 v0.length x_v0.2) Q5.1]) (.cons aA .nil) ?_)
  rintro _ Q5 z6 t8 H1 hi9 hb10
  unfold p_laws_markTagSS_b0 at H1
  refine aD (sr (aF rfl (aF rfl (aG (bS 105 dN rfl) (aG (cM rfl rfl) (nl (cH H1 rfl (fun h13 H1 => ?_) (fun h13 H1 => ?_))))))))
  ·refine bH (nT (aD (aQ (gdo H1 fun h14 H1 => (Tr.zoom (k := Q5.2.2.toNat) h14.lt (.cons aA .nil) fun x15 => ?_)))))
   show Tr _ _ _ _ _ _ _ (hole (.slice x_v0.1 v0.length x_v0.2) Q5.1 Q5.2.2.toNat [.slice x15.1 ((nth Q5.1 Q5.2.2.toNat).length) x15.2] :: tree (.slice x15.1 ((nth Q5.1 Q5.2.2.toNat).length) x15.2) (nth Q5.1 Q5.2.2.toNat) :: _)
   refine aP (aF rfl (aF rfl (aI (v := elp x_v0.1 (Q5.2.2.toNat * Enc.sz (List Tag) + 0)) (q_ixH (k := Q5.2.2.toNat) dN ty105 rfl rfl h14 rfl aB) (aI (v := .slice x15.1 ((nth Q5.1 Q5.2.2.toNat).length) x15.2) (q_ldH (i := Q5.2.2.toNat) (j := 0) ty105 rfl aB rfl) (aF rfl (bdo H1 fun r16 h17 H1 => (f1 (cF (c_laws_markTagS (nth Q5.1 Q5.2.2.toNat) x15 ((nth Q5.1 Q5.2.2.toNat).length) rfl Q5.2.1 h17) (bF bG) (fun _ => (bF bG)) rfl (.cons dl1 .nil) aO) fun u18 => (aH rfl (aJ (nB (nT (?_))))))))))))
   refine cT aB fun hn => ?_; rw [hn]
   exact aP (aF rfl (gdo H1 fun h19 H1 => (aG (bR rfl rfl h19) (aH rfl (aJ (At.unzoom r16.2 x15 rfl (.cons dl1 (.cons aA .nil)) (nLI () (hi9 _ (sm H1)) (.cons aA .nil))))))))
  ·refine cW (xT (xT (xE (?_))))
   obtain rfl := hb10 _ (sm H1)
   exact nMC () ⟨rfl, trivial⟩ bT (.cons aA .nil)
 ·intro y7
  show At _ _ [(1, .int .i64 (x1.1))] _ [tree (.slice x_v0.1 v0.length x_v0.2) x1.2] _
  refine nT (sr (aF rfl (aH rfl (nl ?_))))
  obtain rfl := si H
  exact bQ (bk (.cons aA .nil))
noncomputable def p_laws_markIntS_b0 (v0 : (List Int)) (Q5 : (List Int) × Int × Int) : Option (((List Int) × Int × Int) ⊕ (Int × (List Int))) := cond (decide (Q5.2.2 < (v0.length : Int))) (gd (ix Q5.2.2 Q5.1.length) <| gd (I64 (Q5.2.1 + 1)) <| gd (I64 (Q5.2.2 + 1)) <| some (.inl ((Q5.1.set Q5.2.2.toNat Q5.2.1), Q5.2.1 + 1, Q5.2.2 + 1))) (some (.inr (Q5.2.1, Q5.1)))
noncomputable def p_laws_markIntS (v0 : (List Int)) (v1 : Int) : Option (Int × (List Int)) := bd (lp (p_laws_markIntS_b0 v0) (v0, v1, 0)) fun x1 => some (x1.1, x1.2)
theorem c_laws_markIntS {r : Int × (List Int)} (v0 : (List Int)) (x_v0 : Option Addr × Nat) (n_v0 : Nat) (e_v0 : n_v0 = v0.length) (v1 : Int) (H : p_laws_markIntS v0 v1 = some r) : Fn' prog 118 #[.slice x_v0.1 n_v0 x_v0.2, .int .i64 (v1)] [] [tree (.slice x_v0.1 n_v0 x_v0.2) v0] (ι := Unit) (fun _ => .int .i64 (r.1)) (fun _ => []) (fun _ => [tree (.slice x_v0.1 n_v0 x_v0.2) r.2]) := by
 subst e_v0
 refine cof (args := [_, _]) func118 ntmps118 fun c => ?_
 unfold p_laws_markIntS at H
 refine sr (aH (v := .int .i64 (0)) rfl (nl (aD (sr (aH (v := .int .i64 (0)) rfl (nl (bdo H fun x1 hx2 H => (cX (ι := Unit) (fun ψ => [(1, .int .i64 (x1.1))]) (fun ψ => [tree (.slice x_v0.1 v0.length x_v0.2) x1.2]) ?_ ?_))))))))
 ·refine aQ (dA hx2 () (fun Q5 _ => [(0, .slice x_v0.1 v0.length x_v0.2), (1, .int .i64 (Q5.2.1)), (5, .int .i64 (Q5.2.2))]) (fun Q5 _ => [tree (.slice x_v0.1 v0.length x_v0.2) Q5.1]) (.cons aA .nil) ?_)
  rintro _ Q5 z6 t8 H1 hi9 hb10
  unfold p_laws_markIntS_b0 at H1
  refine aD (sr (aF rfl (aF rfl (aG (bS 3 dT rfl) (aG (cM rfl rfl) (nl (cH H1 rfl (fun h13 H1 => ?_) (fun h13 H1 => ?_))))))))
  ·refine bH (nT (aD (aQ (sr (aF rfl (aF rfl (aF rfl (gdo H1 fun h14 H1 => (aI (bX dT ty3 rfl rfl h14 aB) (g0 (e_setT (l := Q5.1) (α := Int) (oa := x_v0.1) Q5.2.2.toNat Q5.2.1 () ty3 rfl rfl rfl h14.lt (cS _) (.cons aA .nil)) ?_))))))))))
   refine nl (aP (aF rfl (gdo H1 fun h15 H1 => (aG (bR rfl rfl h15) (aH rfl (aJ (nB (nT (aP (aF rfl (gdo H1 fun h16 H1 => ?_)))))))))))
   exact aG (bR rfl rfl h16) (aH rfl (aJ (nLI () (hi9 _ (sm H1)) (.cons aA .nil))))
  ·refine cW (xT (xT (xE (?_))))
   obtain rfl := hb10 _ (sm H1)
   exact nMC () ⟨rfl, trivial⟩ bT (.cons aA .nil)
 ·intro y7
  show At _ _ [(1, .int .i64 (x1.1))] _ [tree (.slice x_v0.1 v0.length x_v0.2) x1.2] _
  refine nT (sr (aF rfl (aH rfl (nl ?_))))
  obtain rfl := si H
  exact bQ (bk (.cons aA .nil))
noncomputable def p_laws_markPostS_b0 (v0 : (List Post)) (Q5 : (List Post) × Int × Int) : Option (((List Post) × Int × Int) ⊕ (Int × (List Post))) := cond (decide (Q5.2.2 < (v0.length : Int))) (gd (ix Q5.2.2 Q5.1.length) <| bd (p_laws_markText Q5.2.1) fun r16 => gd (I64 (Q5.2.1 + 1)) <| bd (p_laws_markText (Q5.2.1 + 1)) fun r19 => gd (I64 ((Q5.2.1 + 1) + 1)) <| bd (p_laws_markIntS ((nth Q5.1 Q5.2.2.toNat).2) ((Q5.2.1 + 1) + 1)) fun r22 => gd (I64 (Q5.2.2 + 1)) <| some (.inl ((Q5.1.set Q5.2.2.toNat ((r16, r19), r22.2)), r22.1, Q5.2.2 + 1))) (some (.inr (Q5.2.1, Q5.1)))
noncomputable def p_laws_markPostS (v0 : (List Post)) (v1 : Int) : Option (Int × (List Post)) := bd (lp (p_laws_markPostS_b0 v0) (v0, v1, 0)) fun x1 => some (x1.1, x1.2)
theorem c_laws_markPostS {r : Int × (List Post)} (v0 : (List Post)) (x_v0 : Option Addr × Nat) (n_v0 : Nat) (e_v0 : n_v0 = v0.length) (v1 : Int) (H : p_laws_markPostS v0 v1 = some r) : Fn' prog 117 #[.slice x_v0.1 n_v0 x_v0.2, .int .i64 (v1)] [] [tree (.slice x_v0.1 n_v0 x_v0.2) v0] (ι := Unit) (fun _ => .int .i64 (r.1)) (fun _ => []) (fun _ => [tree (.slice x_v0.1 n_v0 x_v0.2) r.2]) := by
 subst e_v0
 refine cof (args := [_, _]) func117 ntmps117 fun c => ?_
 unfold p_laws_markPostS at H
 refine sr (aH (v := .int .i64 (0)) rfl (nl (aD (sr (aH (v := .int .i64 (0)) rfl (nl (bdo H fun x1 hx2 H => (cX (ι := Unit) (fun ψ => [(1, .int .i64 (x1.1))]) (fun ψ => [tree (.slice x_v0.1 v0.length x_v0.2) x1.2]) ?_ ?_))))))))
 ·refine aQ (dA hx2 () (fun Q5 _ => [(0, .slice x_v0.1 v0.length x_v0.2), (1, .int .i64 (Q5.2.1)), (5, .int .i64 (Q5.2.2))]) (fun Q5 _ => [tree (.slice x_v0.1 v0.length x_v0.2) Q5.1]) (.cons aA .nil) ?_)
  rintro _ Q5 z6 t8 H1 hi9 hb10
  unfold p_laws_markPostS_b0 at H1
  refine aD (sr (aF rfl (aF rfl (aG (bS 177 dO rfl) (aG (cM rfl rfl) (nl (cH H1 rfl (fun h13 H1 => ?_) (fun h13 H1 => ?_))))))))
  ·refine bH (nT (aD (aQ (aD (gdo H1 fun h14 H1 => (Tr.zoom (k := Q5.2.2.toNat) h14.lt (.cons aA .nil) fun x15 => ?_))))))
   show Tr _ _ _ _ _ _ _ (hole (.slice x_v0.1 v0.length x_v0.2) Q5.1 Q5.2.2.toNat [.string (((nth Q5.1 Q5.2.2.toNat).1).1), .string (((nth Q5.1 Q5.2.2.toNat).1).2), .slice x15.2.1 (((nth Q5.1 Q5.2.2.toNat).2).length) x15.2.2] :: tree (.slice x15.2.1 (((nth Q5.1 Q5.2.2.toNat).2).length) x15.2.2) ((nth Q5.1 Q5.2.2.toNat).2) :: _)
   refine aP (aF rfl (aF rfl (aF rfl (bdo H1 fun r16 h17 H1 => (aI (bN (c_laws_markText Q5.2.1 h17) rfl aO) (aI (v := elp x_v0.1 (Q5.2.2.toNat * Enc.sz Post + 0)) (q_ixH (k := Q5.2.2.toNat) dO ty177 rfl rfl h14 rfl aB) (aI (v := elp x_v0.1 (Q5.2.2.toNat * Enc.sz Post + 0)) (q_faH (j := 0) (i := Q5.2.2.toNat) fa177_0 rfl aB rfl) (aI (v := elp x_v0.1 (Q5.2.2.toNat * Enc.sz Post + 0)) (q_faH (j := 0) (i := Q5.2.2.toNat) fa97_0 rfl aB rfl) (g0 (e_stH (v := .string (r16)) (i := Q5.2.2.toNat) (j := 0) (cs' := [.string (r16), .string (((nth Q5.1 Q5.2.2.toNat).1).2), .slice x15.2.1 (((nth Q5.1 Q5.2.2.toNat).2).length) x15.2.2]) ty9 rfl rfl (.cons aA .nil) rfl (one_of rfl) (Nat.le_of_ble_eq_true rfl) rfl rfl) ?_)))))))))
   refine nl (sr (aF rfl (gdo H1 fun h18 H1 => (aG (bR rfl rfl h18) (aH rfl (nl (sr (aF rfl (aF rfl (aF rfl ?_))))))))))
   refine bdo H1 fun r19 h20 H1 => (aI (bN (c_laws_markText (Q5.2.1 + 1) h20) rfl aO) (aI (v := elp x_v0.1 (Q5.2.2.toNat * Enc.sz Post + 0)) (q_ixH (k := Q5.2.2.toNat) dO ty177 rfl rfl h14 rfl aB) (aI (v := elp x_v0.1 (Q5.2.2.toNat * Enc.sz Post + 0)) (q_faH (j := 0) (i := Q5.2.2.toNat) fa177_0 rfl aB rfl) (aI (v := elp x_v0.1 (Q5.2.2.toNat * Enc.sz Post + 1)) (q_faH (j := 0) (i := Q5.2.2.toNat) fa97_1 rfl aB rfl) (g0 (e_stH (v := .string (r19)) (i := Q5.2.2.toNat) (j := 1) (cs' := [.string (r16), .string (r19), .slice x15.2.1 (((nth Q5.1 Q5.2.2.toNat).2).length) x15.2.2]) ty9 rfl rfl (.cons aA .nil) rfl (one_of rfl) (Nat.le_of_ble_eq_true rfl) rfl rfl) (nl (sr (aF rfl (gdo H1 fun h21 H1 => ?_)))))))))
   refine aG (bR rfl rfl h21) (aH rfl (nl (aP (aF rfl (aF rfl (aI (v := elp x_v0.1 (Q5.2.2.toNat * Enc.sz Post + 0)) (q_ixH (k := Q5.2.2.toNat) dO ty177 rfl rfl h14 rfl aB) (aI (v := elp x_v0.1 (Q5.2.2.toNat * Enc.sz Post + 2)) (q_faH (j := 0) (i := Q5.2.2.toNat) fa177_1 rfl aB rfl) (aI (v := .slice x15.2.1 (((nth Q5.1 Q5.2.2.toNat).2).length) x15.2.2) (q_ldH (i := Q5.2.2.toNat) (j := 2) ty69 rfl aB rfl) (aF rfl (bdo H1 fun r22 h23 H1 => ?_))))))))))
   refine f1 (cF (c_laws_markIntS ((nth Q5.1 Q5.2.2.toNat).2) x15.2 (((nth Q5.1 Q5.2.2.toNat).2).length) rfl ((Q5.2.1 + 1) + 1) h23) (bF bG) (fun _ => (bF bG)) rfl (.cons dl1 .nil) aO) fun u24 => (aH rfl (aJ (nB (nT (?_)))))
   refine cT aB fun hn => ?_; rw [hn]
   exact aP (aF rfl (gdo H1 fun h25 H1 => (aG (bR rfl rfl h25) (aH rfl (aJ (At.unzoom ((r16, r19), r22.2) (((), ()), x15.2) rfl (.cons dl1 (.cons aA .nil)) (nLI () (hi9 _ (sm H1)) (.cons aA .nil))))))))
  ·refine cW (xT (xT (xE (?_))))
   obtain rfl := hb10 _ (sm H1)
   exact nMC () ⟨rfl, trivial⟩ bT (.cons aA .nil)
 ·intro y7
  show At _ _ [(1, .int .i64 (x1.1))] _ [tree (.slice x_v0.1 v0.length x_v0.2) x1.2] _
  refine nT (sr (aF rfl (aH rfl (nl ?_))))
  obtain rfl := si H
  exact bQ (bk (.cons aA .nil))
noncomputable def p_laws_markIndex (v0 : Index) (v1 : Int) : Option (Int × Index) := bd (p_laws_markTagSS v0.1 v1) fun r2 => bd (p_laws_markPostS v0.2 r2.1) fun r5 => some (r5.1, (r2.2, r5.2))
theorem c_laws_markIndex {r : Int × Index} (v0 : Index) (x_v0 : (Option Addr × Nat) × (Option Addr × Nat)) (v1 : Int) (H : p_laws_markIndex v0 v1 = some r) : Fn' prog 59 #[.agg #[.slice x_v0.1.1 v0.1.length x_v0.1.2, .slice x_v0.2.1 v0.2.length x_v0.2.2], .int .i64 (v1)] [] [tree (.slice x_v0.1.1 v0.1.length x_v0.1.2) v0.1, tree (.slice x_v0.2.1 v0.2.length x_v0.2.2) v0.2] (ι := Unit) (fun _ => .int .i64 (r.1)) (fun _ => []) (fun _ => [tree (.slice x_v0.1.1 v0.1.length x_v0.1.2) r.2.1, tree (.slice x_v0.2.1 v0.2.length x_v0.2.2) r.2.2]) := by
 refine cof (args := [_, _]) func59 ntmps59 fun c => ?_
 unfold p_laws_markIndex at H
 refine sr (f1 (cC (t := 38) rfl) fun g1 => (aH (v := .int .i64 (0)) rfl (nl (sr (aG (cB fa38_0 rfl rfl) (aI (bI ty35 rfl aB rfl) (aF rfl (bdo H fun r2 h3 H => (f1 (cF (c_laws_markTagSS v0.1 x_v0.1 v0.1.length rfl v1 h3) (bF bG) (fun _ => (bF bG)) rfl (.cons dl1 .nil) aO) fun u4 => (aH rfl (nl ?_)))))))))))
 refine sr (aG (cB fa38_1 rfl rfl) (aI (bI ty36 rfl hs1 rfl) (aF rfl (bdo H fun r5 h6 H => (f1 (cF (c_laws_markPostS v0.2 x_v0.2 v0.2.length rfl r2.1 h6) (bF bG) (fun _ => (bF bG)) rfl (.cons dl2 .nil) aO) fun u7 => (aH rfl (nl (sr (aF rfl (aH rfl (nl ?_)))))))))))
 obtain rfl := si H
 exact bQ (bk (.cons dl1 (.cons aA .nil)))
noncomputable def p_laws_markRowS_b0 (v0 : (List Row)) (Q5 : (List Row) × Int × Int) : Option (((List Row) × Int × Int) ⊕ (Int × (List Row))) := cond (decide (Q5.2.2 < (v0.length : Int))) (gd (ix Q5.2.2 Q5.1.length) <| gd (I64 (Q5.2.1 + 1)) <| gd (I64 ((Q5.2.1 + 1) + 1)) <| gd (I64 (Q5.2.2 + 1)) <| some (.inl ((Q5.1.set Q5.2.2.toNat (Q5.2.1, (Q5.2.1 + 1))), (Q5.2.1 + 1) + 1, Q5.2.2 + 1))) (some (.inr (Q5.2.1, Q5.1)))
noncomputable def p_laws_markRowS (v0 : (List Row)) (v1 : Int) : Option (Int × (List Row)) := bd (lp (p_laws_markRowS_b0 v0) (v0, v1, 0)) fun x1 => some (x1.1, x1.2)
theorem c_laws_markRowS {r : Int × (List Row)} (v0 : (List Row)) (x_v0 : Option Addr × Nat) (n_v0 : Nat) (e_v0 : n_v0 = v0.length) (v1 : Int) (H : p_laws_markRowS v0 v1 = some r) : Fn' prog 63 #[.slice x_v0.1 n_v0 x_v0.2, .int .i64 (v1)] [] [tree (.slice x_v0.1 n_v0 x_v0.2) v0] (ι := Unit) (fun _ => .int .i64 (r.1)) (fun _ => []) (fun _ => [tree (.slice x_v0.1 n_v0 x_v0.2) r.2]) := by
 subst e_v0
 refine cof (args := [_, _]) func63 ntmps63 fun c => ?_
 unfold p_laws_markRowS at H
 refine sr (aH (v := .int .i64 (0)) rfl (nl (aD (sr (aH (v := .int .i64 (0)) rfl (nl (bdo H fun x1 hx2 H => (cX (ι := Unit) (fun ψ => [(1, .int .i64 (x1.1))]) (fun ψ => [tree (.slice x_v0.1 v0.length x_v0.2) x1.2]) ?_ ?_))))))))
 ·refine aQ (dA hx2 () (fun Q5 _ => [(0, .slice x_v0.1 v0.length x_v0.2), (1, .int .i64 (Q5.2.1)), (5, .int .i64 (Q5.2.2))]) (fun Q5 _ => [tree (.slice x_v0.1 v0.length x_v0.2) Q5.1]) (.cons aA .nil) ?_)
  rintro _ Q5 z6 t8 H1 hi9 hb10
  unfold p_laws_markRowS_b0 at H1
  refine aD (sr (aF rfl (aF rfl (aG (bS 57 dS rfl) (aG (cM rfl rfl) (nl (cH H1 rfl (fun h13 H1 => ?_) (fun h13 H1 => ?_))))))))
  ·refine bH (nT (aD (aQ (aD (gdo H1 fun h14 H1 => (Tr.zoom (k := Q5.2.2.toNat) h14.lt (.cons aA .nil) fun x15 => ?_))))))
   show Tr _ _ _ _ _ _ _ (hole (.slice x_v0.1 v0.length x_v0.2) Q5.1 Q5.2.2.toNat [.int .i64 ((nth Q5.1 Q5.2.2.toNat).1), .int .i64 ((nth Q5.1 Q5.2.2.toNat).2)] :: _)
   refine aP (aF rfl (aF rfl (aF rfl (aI (v := elp x_v0.1 (Q5.2.2.toNat * Enc.sz Row + 0)) (q_ixH (k := Q5.2.2.toNat) dS ty57 rfl rfl h14 rfl aB) (aI (v := elp x_v0.1 (Q5.2.2.toNat * Enc.sz Row + 0)) (q_faH (j := 0) (i := Q5.2.2.toNat) fa57_0 rfl aB rfl) (g0 (e_stH (v := .int .i64 (Q5.2.1)) (i := Q5.2.2.toNat) (j := 0) (cs' := [.int .i64 (Q5.2.1), .int .i64 ((nth Q5.1 Q5.2.2.toNat).2)]) ty3 rfl rfl (.cons aA .nil) rfl (one_of rfl) (Nat.le_of_ble_eq_true rfl) rfl rfl) (nl (sr (aF rfl ?_)))))))))
   refine gdo H1 fun h16 H1 => (aG (bR rfl rfl h16) (aH rfl (nl (sr (aF rfl (aF rfl (aF rfl (aI (v := elp x_v0.1 (Q5.2.2.toNat * Enc.sz Row + 0)) (q_ixH (k := Q5.2.2.toNat) dS ty57 rfl rfl h14 rfl aB) (aI (v := elp x_v0.1 (Q5.2.2.toNat * Enc.sz Row + 1)) (q_faH (j := 0) (i := Q5.2.2.toNat) fa57_1 rfl aB rfl) (g0 (e_stH (v := .int .i64 (Q5.2.1 + 1)) (i := Q5.2.2.toNat) (j := 1) (cs' := [.int .i64 (Q5.2.1), .int .i64 (Q5.2.1 + 1)]) ty3 rfl rfl (.cons aA .nil) rfl (one_of rfl) (Nat.le_of_ble_eq_true rfl) rfl rfl) ?_))))))))))
   refine nl (aP (aF rfl (gdo H1 fun h17 H1 => (aG (bR rfl rfl h17) (aH rfl (aJ (nB (nT (aP (aF rfl (gdo H1 fun h18 H1 => ?_)))))))))))
   exact aG (bR rfl rfl h18) (aH rfl (aJ (At.unzoom (Q5.2.1, (Q5.2.1 + 1)) ((), ()) rfl (.cons aA .nil) (nLI () (hi9 _ (sm H1)) (.cons aA .nil)))))
  ·refine cW (xT (xT (xE (?_))))
   obtain rfl := hb10 _ (sm H1)
   exact nMC () ⟨rfl, trivial⟩ bT (.cons aA .nil)
 ·intro y7
  show At _ _ [(1, .int .i64 (x1.1))] _ [tree (.slice x_v0.1 v0.length x_v0.2) x1.2] _
  refine nT (sr (aF rfl (aH rfl (nl ?_))))
  obtain rfl := si H
  exact bQ (bk (.cons aA .nil))
noncomputable def p_laws_markRowSS_b0 (v0 : (List (List Row))) (Q5 : (List (List Row)) × Int × Int) : Option (((List (List Row)) × Int × Int) ⊕ (Int × (List (List Row)))) := cond (decide (Q5.2.2 < (v0.length : Int))) (gd (ix Q5.2.2 Q5.1.length) <| bd (p_laws_markRowS (nth Q5.1 Q5.2.2.toNat) Q5.2.1) fun r16 => gd (I64 (Q5.2.2 + 1)) <| some (.inl ((Q5.1.set Q5.2.2.toNat r16.2), r16.1, Q5.2.2 + 1))) (some (.inr (Q5.2.1, Q5.1)))
noncomputable def p_laws_markRowSS (v0 : (List (List Row))) (v1 : Int) : Option (Int × (List (List Row))) := bd (lp (p_laws_markRowSS_b0 v0) (v0, v1, 0)) fun x1 => some (x1.1, x1.2)
theorem c_laws_markRowSS {r : Int × (List (List Row))} (v0 : (List (List Row))) (x_v0 : Option Addr × Nat) (n_v0 : Nat) (e_v0 : n_v0 = v0.length) (v1 : Int) (H : p_laws_markRowSS v0 v1 = some r) : Fn' prog 119 #[.slice x_v0.1 n_v0 x_v0.2, .int .i64 (v1)] [] [tree (.slice x_v0.1 n_v0 x_v0.2) v0] (ι := Unit) (fun _ => .int .i64 (r.1)) (fun _ => []) (fun _ => [tree (.slice x_v0.1 n_v0 x_v0.2) r.2]) := by
 subst e_v0
 refine cof (args := [_, _]) func119 ntmps119 fun c => ?_
 unfold p_laws_markRowSS at H
 refine sr (aH (v := .int .i64 (0)) rfl (nl (aD (sr (aH (v := .int .i64 (0)) rfl (nl (bdo H fun x1 hx2 H => (cX (ι := Unit) (fun ψ => [(1, .int .i64 (x1.1))]) (fun ψ => [tree (.slice x_v0.1 v0.length x_v0.2) x1.2]) ?_ ?_))))))))
 ·refine aQ (dA hx2 () (fun Q5 _ => [(0, .slice x_v0.1 v0.length x_v0.2), (1, .int .i64 (Q5.2.1)), (5, .int .i64 (Q5.2.2))]) (fun Q5 _ => [tree (.slice x_v0.1 v0.length x_v0.2) Q5.1]) (.cons aA .nil) ?_)
  rintro _ Q5 z6 t8 H1 hi9 hb10
  unfold p_laws_markRowSS_b0 at H1
  refine aD (sr (aF rfl (aF rfl (aG (bS 63 dU rfl) (aG (cM rfl rfl) (nl (cH H1 rfl (fun h13 H1 => ?_) (fun h13 H1 => ?_))))))))
  ·refine bH (nT (aD (aQ (gdo H1 fun h14 H1 => (Tr.zoom (k := Q5.2.2.toNat) h14.lt (.cons aA .nil) fun x15 => ?_)))))
   show Tr _ _ _ _ _ _ _ (hole (.slice x_v0.1 v0.length x_v0.2) Q5.1 Q5.2.2.toNat [.slice x15.1 ((nth Q5.1 Q5.2.2.toNat).length) x15.2] :: tree (.slice x15.1 ((nth Q5.1 Q5.2.2.toNat).length) x15.2) (nth Q5.1 Q5.2.2.toNat) :: _)
   refine aP (aF rfl (aF rfl (aI (v := elp x_v0.1 (Q5.2.2.toNat * Enc.sz (List Row) + 0)) (q_ixH (k := Q5.2.2.toNat) dU ty63 rfl rfl h14 rfl aB) (aI (v := .slice x15.1 ((nth Q5.1 Q5.2.2.toNat).length) x15.2) (q_ldH (i := Q5.2.2.toNat) (j := 0) ty63 rfl aB rfl) (aF rfl (bdo H1 fun r16 h17 H1 => (f1 (cF (c_laws_markRowS (nth Q5.1 Q5.2.2.toNat) x15 ((nth Q5.1 Q5.2.2.toNat).length) rfl Q5.2.1 h17) (bF bG) (fun _ => (bF bG)) rfl (.cons dl1 .nil) aO) fun u18 => (aH rfl (aJ (nB (nT (?_))))))))))))
   refine cT aB fun hn => ?_; rw [hn]
   exact aP (aF rfl (gdo H1 fun h19 H1 => (aG (bR rfl rfl h19) (aH rfl (aJ (At.unzoom r16.2 x15 rfl (.cons dl1 (.cons aA .nil)) (nLI () (hi9 _ (sm H1)) (.cons aA .nil))))))))
  ·refine cW (xT (xT (xE (?_))))
   obtain rfl := hb10 _ (sm H1)
   exact nMC () ⟨rfl, trivial⟩ bT (.cons aA .nil)
 ·intro y7
  show At _ _ [(1, .int .i64 (x1.1))] _ [tree (.slice x_v0.1 v0.length x_v0.2) x1.2] _
  refine nT (sr (aF rfl (aH rfl (nl ?_))))
  obtain rfl := si H
  exact bQ (bk (.cons aA .nil))
noncomputable def p_laws_markPartS_b0 (v0 : (List Part)) (Q5 : (List Part) × Int × Int) : Option (((List Part) × Int × Int) ⊕ (Int × (List Part))) := cond (decide (Q5.2.2 < (v0.length : Int))) (gd (ix Q5.2.2 Q5.1.length) <| bd (p_laws_markIntS ((nth Q5.1 Q5.2.2.toNat).1) Q5.2.1) fun r16 => bd (p_laws_markRowSS ((nth Q5.1 Q5.2.2.toNat).2) r16.1) fun r19 => gd (I64 (Q5.2.2 + 1)) <| some (.inl ((Q5.1.set Q5.2.2.toNat (r16.2, r19.2)), r19.1, Q5.2.2 + 1))) (some (.inr (Q5.2.1, Q5.1)))
noncomputable def p_laws_markPartS (v0 : (List Part)) (v1 : Int) : Option (Int × (List Part)) := bd (lp (p_laws_markPartS_b0 v0) (v0, v1, 0)) fun x1 => some (x1.1, x1.2)
theorem c_laws_markPartS {r : Int × (List Part)} (v0 : (List Part)) (x_v0 : Option Addr × Nat) (n_v0 : Nat) (e_v0 : n_v0 = v0.length) (v1 : Int) (H : p_laws_markPartS v0 v1 = some r) : Fn' prog 60 #[.slice x_v0.1 n_v0 x_v0.2, .int .i64 (v1)] [] [tree (.slice x_v0.1 n_v0 x_v0.2) v0] (ι := Unit) (fun _ => .int .i64 (r.1)) (fun _ => []) (fun _ => [tree (.slice x_v0.1 n_v0 x_v0.2) r.2]) := by
 subst e_v0
 refine cof (args := [_, _]) func60 ntmps60 fun c => ?_
 unfold p_laws_markPartS at H
 refine sr (aH (v := .int .i64 (0)) rfl (nl (aD (sr (aH (v := .int .i64 (0)) rfl (nl (bdo H fun x1 hx2 H => (cX (ι := Unit) (fun ψ => [(1, .int .i64 (x1.1))]) (fun ψ => [tree (.slice x_v0.1 v0.length x_v0.2) x1.2]) ?_ ?_))))))))
 ·refine aQ (dA hx2 () (fun Q5 _ => [(0, .slice x_v0.1 v0.length x_v0.2), (1, .int .i64 (Q5.2.1)), (5, .int .i64 (Q5.2.2))]) (fun Q5 _ => [tree (.slice x_v0.1 v0.length x_v0.2) Q5.1]) (.cons aA .nil) ?_)
  rintro _ Q5 z6 t8 H1 hi9 hb10
  unfold p_laws_markPartS_b0 at H1
  refine aD (sr (aF rfl (aF rfl (aG (bS 72 dP rfl) (aG (cM rfl rfl) (nl (cH H1 rfl (fun h13 H1 => ?_) (fun h13 H1 => ?_))))))))
  ·refine bH (nT (aD (aQ (aD (gdo H1 fun h14 H1 => (Tr.zoom (k := Q5.2.2.toNat) h14.lt (.cons aA .nil) fun x15 => ?_))))))
   show Tr _ _ _ _ _ _ _ (hole (.slice x_v0.1 v0.length x_v0.2) Q5.1 Q5.2.2.toNat [.slice x15.1.1 (((nth Q5.1 Q5.2.2.toNat).1).length) x15.1.2, .slice x15.2.1 (((nth Q5.1 Q5.2.2.toNat).2).length) x15.2.2] :: tree (.slice x15.1.1 (((nth Q5.1 Q5.2.2.toNat).1).length) x15.1.2) ((nth Q5.1 Q5.2.2.toNat).1) :: tree (.slice x15.2.1 (((nth Q5.1 Q5.2.2.toNat).2).length) x15.2.2) ((nth Q5.1 Q5.2.2.toNat).2) :: _)
   refine aP (aF rfl (aF rfl (aI (v := elp x_v0.1 (Q5.2.2.toNat * Enc.sz Part + 0)) (q_ixH (k := Q5.2.2.toNat) dP ty72 rfl rfl h14 rfl aB) (aI (v := elp x_v0.1 (Q5.2.2.toNat * Enc.sz Part + 0)) (q_faH (j := 0) (i := Q5.2.2.toNat) fa72_0 rfl aB rfl) (aI (v := .slice x15.1.1 (((nth Q5.1 Q5.2.2.toNat).1).length) x15.1.2) (q_ldH (i := Q5.2.2.toNat) (j := 0) ty69 rfl aB rfl) (aF rfl (bdo H1 fun r16 h17 H1 => (f1 (cF (c_laws_markIntS ((nth Q5.1 Q5.2.2.toNat).1) x15.1 (((nth Q5.1 Q5.2.2.toNat).1).length) rfl Q5.2.1 h17) (bF bG) (fun _ => (bF bG)) rfl (.cons dl1 .nil) aO) fun u18 => (aH rfl (nl ?_))))))))))
   refine cT aB fun hn => ?_; rw [hn]
   refine aP (aF rfl (aF rfl (aI (v := elp x_v0.1 (Q5.2.2.toNat * Enc.sz Part + 0)) (q_ixH (k := Q5.2.2.toNat) dP ty72 rfl rfl h14 rfl hs1) (aI (v := elp x_v0.1 (Q5.2.2.toNat * Enc.sz Part + 1)) (q_faH (j := 0) (i := Q5.2.2.toNat) fa72_1 rfl hs1 rfl) (aI (v := .slice x15.2.1 (((nth Q5.1 Q5.2.2.toNat).2).length) x15.2.2) (q_ldH (i := Q5.2.2.toNat) (j := 1) ty70 rfl hs1 rfl) (aF rfl (bdo H1 fun r19 h20 H1 => (f1 (cF (c_laws_markRowSS ((nth Q5.1 Q5.2.2.toNat).2) x15.2 (((nth Q5.1 Q5.2.2.toNat).2).length) rfl r16.1 h20) (bF bG) (fun _ => (bF bG)) rfl (.cons dl2 .nil) aO) fun u21 => (aH rfl (aJ ?_))))))))))
   refine nB (nT (?_))
   refine cT aB fun hn => ?_; rw [hn]
   exact aP (aF rfl (gdo H1 fun h22 H1 => (aG (bR rfl rfl h22) (aH rfl (aJ (At.unzoom (r16.2, r19.2) x15 rfl (.cons dl2 (.cons dl1 (.cons aA .nil))) (nLI () (hi9 _ (sm H1)) (.cons aA .nil))))))))
  ·refine cW (xT (xT (xE (?_))))
   obtain rfl := hb10 _ (sm H1)
   exact nMC () ⟨rfl, trivial⟩ bT (.cons aA .nil)
 ·intro y7
  show At _ _ [(1, .int .i64 (x1.1))] _ [tree (.slice x_v0.1 v0.length x_v0.2) x1.2] _
  refine nT (sr (aF rfl (aH rfl (nl ?_))))
  obtain rfl := si H
  exact bQ (bk (.cons aA .nil))
noncomputable def p_laws_markSampleS_b0 (v0 : (List Sample)) (Q5 : (List Sample) × Int × Int) : Option (((List Sample) × Int × Int) ⊕ (Int × (List Sample))) := cond (decide (Q5.2.2 < (v0.length : Int))) (gd (ix Q5.2.2 Q5.1.length) <| gd (I64 (Q5.2.1 + 1)) <| gd (I64 ((Q5.2.1 + 1) + 1)) <| gd (I64 (((Q5.2.1 + 1) + 1) + 1)) <| gd (I64 (Q5.2.2 + 1)) <| some (.inl ((Q5.1.set Q5.2.2.toNat (Q5.2.1, ((Q5.2.1 + 1), ((Q5.2.1 + 1) + 1)))), ((Q5.2.1 + 1) + 1) + 1, Q5.2.2 + 1))) (some (.inr (Q5.2.1, Q5.1)))
noncomputable def p_laws_markSampleS (v0 : (List Sample)) (v1 : Int) : Option (Int × (List Sample)) := bd (lp (p_laws_markSampleS_b0 v0) (v0, v1, 0)) fun x1 => some (x1.1, x1.2)
theorem c_laws_markSampleS {r : Int × (List Sample)} (v0 : (List Sample)) (x_v0 : Option Addr × Nat) (n_v0 : Nat) (e_v0 : n_v0 = v0.length) (v1 : Int) (H : p_laws_markSampleS v0 v1 = some r) : Fn' prog 61 #[.slice x_v0.1 n_v0 x_v0.2, .int .i64 (v1)] [] [tree (.slice x_v0.1 n_v0 x_v0.2) v0] (ι := Unit) (fun _ => .int .i64 (r.1)) (fun _ => []) (fun _ => [tree (.slice x_v0.1 n_v0 x_v0.2) r.2]) := by
 subst e_v0
 refine cof (args := [_, _]) func61 ntmps61 fun c => ?_
 unfold p_laws_markSampleS at H
 refine sr (aH (v := .int .i64 (0)) rfl (nl (aD (sr (aH (v := .int .i64 (0)) rfl (nl (bdo H fun x1 hx2 H => (cX (ι := Unit) (fun ψ => [(1, .int .i64 (x1.1))]) (fun ψ => [tree (.slice x_v0.1 v0.length x_v0.2) x1.2]) ?_ ?_))))))))
 ·refine aQ (dA hx2 () (fun Q5 _ => [(0, .slice x_v0.1 v0.length x_v0.2), (1, .int .i64 (Q5.2.1)), (5, .int .i64 (Q5.2.2))]) (fun Q5 _ => [tree (.slice x_v0.1 v0.length x_v0.2) Q5.1]) (.cons aA .nil) ?_)
  rintro _ Q5 z6 t8 H1 hi9 hb10
  unfold p_laws_markSampleS_b0 at H1
  refine aD (sr (aF rfl (aF rfl (aG (bS 59 dQ rfl) (aG (cM rfl rfl) (nl (cH H1 rfl (fun h13 H1 => ?_) (fun h13 H1 => ?_))))))))
  ·refine bH (nT (aD (aQ (aD (gdo H1 fun h14 H1 => (Tr.zoom (k := Q5.2.2.toNat) h14.lt (.cons aA .nil) fun x15 => ?_))))))
   show Tr _ _ _ _ _ _ _ (hole (.slice x_v0.1 v0.length x_v0.2) Q5.1 Q5.2.2.toNat [.int .i64 ((nth Q5.1 Q5.2.2.toNat).1), .int .i64 (((nth Q5.1 Q5.2.2.toNat).2).1), .int .i64 (((nth Q5.1 Q5.2.2.toNat).2).2)] :: _)
   refine aP (aF rfl (aF rfl (aF rfl (aI (v := elp x_v0.1 (Q5.2.2.toNat * Enc.sz Sample + 0)) (q_ixH (k := Q5.2.2.toNat) dQ ty59 rfl rfl h14 rfl aB) (aI (v := elp x_v0.1 (Q5.2.2.toNat * Enc.sz Sample + 0)) (q_faH (j := 0) (i := Q5.2.2.toNat) fa59_0 rfl aB rfl) (g0 (e_stH (v := .int .i64 (Q5.2.1)) (i := Q5.2.2.toNat) (j := 0) (cs' := [.int .i64 (Q5.2.1), .int .i64 (((nth Q5.1 Q5.2.2.toNat).2).1), .int .i64 (((nth Q5.1 Q5.2.2.toNat).2).2)]) ty3 rfl rfl (.cons aA .nil) rfl (one_of rfl) (Nat.le_of_ble_eq_true rfl) rfl rfl) (nl (sr (aF rfl ?_)))))))))
   refine gdo H1 fun h16 H1 => (aG (bR rfl rfl h16) (aH rfl (nl (sr (aF rfl (aF rfl (aF rfl (aI (v := elp x_v0.1 (Q5.2.2.toNat * Enc.sz Sample + 0)) (q_ixH (k := Q5.2.2.toNat) dQ ty59 rfl rfl h14 rfl aB) (aI (v := elp x_v0.1 (Q5.2.2.toNat * Enc.sz Sample + 1)) (q_faH (j := 0) (i := Q5.2.2.toNat) fa59_1 rfl aB rfl) (aI (v := elp x_v0.1 (Q5.2.2.toNat * Enc.sz Sample + 1)) (q_faH (j := 1) (i := Q5.2.2.toNat) fa57_0 rfl aB rfl) ?_))))))))))
   refine g0 (e_stH (v := .int .i64 (Q5.2.1 + 1)) (i := Q5.2.2.toNat) (j := 1) (cs' := [.int .i64 (Q5.2.1), .int .i64 (Q5.2.1 + 1), .int .i64 (((nth Q5.1 Q5.2.2.toNat).2).2)]) ty3 rfl rfl (.cons aA .nil) rfl (one_of rfl) (Nat.le_of_ble_eq_true rfl) rfl rfl) (nl (sr (aF rfl (gdo H1 fun h17 H1 => (aG (bR rfl rfl h17) (aH rfl (nl (sr (aF rfl (aF rfl ?_))))))))))
   refine aF rfl (aI (v := elp x_v0.1 (Q5.2.2.toNat * Enc.sz Sample + 0)) (q_ixH (k := Q5.2.2.toNat) dQ ty59 rfl rfl h14 rfl aB) (aI (v := elp x_v0.1 (Q5.2.2.toNat * Enc.sz Sample + 1)) (q_faH (j := 0) (i := Q5.2.2.toNat) fa59_1 rfl aB rfl) (aI (v := elp x_v0.1 (Q5.2.2.toNat * Enc.sz Sample + 2)) (q_faH (j := 1) (i := Q5.2.2.toNat) fa57_1 rfl aB rfl) (g0 (e_stH (v := .int .i64 ((Q5.2.1 + 1) + 1)) (i := Q5.2.2.toNat) (j := 2) (cs' := [.int .i64 (Q5.2.1), .int .i64 (Q5.2.1 + 1), .int .i64 ((Q5.2.1 + 1) + 1)]) ty3 rfl rfl (.cons aA .nil) rfl (one_of rfl) (Nat.le_of_ble_eq_true rfl) rfl rfl) (nl (aP (aF rfl (gdo H1 fun h18 H1 => (aG (bR rfl rfl h18) ?_)))))))))
   exact aH rfl (aJ (nB (nT (aP (aF rfl (gdo H1 fun h19 H1 => (aG (bR rfl rfl h19) (aH rfl (aJ (At.unzoom (Q5.2.1, ((Q5.2.1 + 1), ((Q5.2.1 + 1) + 1))) ((), ((), ())) rfl (.cons aA .nil) (nLI () (hi9 _ (sm H1)) (.cons aA .nil))))))))))))
  ·refine cW (xT (xT (xE (?_))))
   obtain rfl := hb10 _ (sm H1)
   exact nMC () ⟨rfl, trivial⟩ bT (.cons aA .nil)
 ·intro y7
  show At _ _ [(1, .int .i64 (x1.1))] _ [tree (.slice x_v0.1 v0.length x_v0.2) x1.2] _
  refine nT (sr (aF rfl (aH rfl (nl ?_))))
  obtain rfl := si H
  exact bQ (bk (.cons aA .nil))
noncomputable def p_laws_markStore (v0 : Store) (v1 : Int) : Option (Int × Store) := bd (p_laws_markIndex v0.1 v1) fun r2 => bd (p_laws_markPartS v0.2.1 r2.1) fun r5 => bd (p_laws_markSampleS v0.2.2 r5.1) fun r8 => some (r8.1, (r2.2, r5.2, r8.2))
theorem c_laws_markStore {r : Int × Store} (v0 : Store) (x_v0 : ((Option Addr × Nat) × (Option Addr × Nat)) × (Option Addr × Nat) × (Option Addr × Nat)) (v1 : Int) (H : p_laws_markStore v0 v1 = some r) : Fn' prog 17 #[.agg #[.slice x_v0.1.1.1 v0.1.1.length x_v0.1.1.2, .slice x_v0.1.2.1 v0.1.2.length x_v0.1.2.2, .slice x_v0.2.1.1 v0.2.1.length x_v0.2.1.2, .slice x_v0.2.2.1 v0.2.2.length x_v0.2.2.2], .int .i64 (v1)] [] [tree (.slice x_v0.1.1.1 v0.1.1.length x_v0.1.1.2) v0.1.1, tree (.slice x_v0.1.2.1 v0.1.2.length x_v0.1.2.2) v0.1.2, tree (.slice x_v0.2.1.1 v0.2.1.length x_v0.2.1.2) v0.2.1, tree (.slice x_v0.2.2.1 v0.2.2.length x_v0.2.2.2) v0.2.2] (ι := Unit) (fun _ => .int .i64 (r.1)) (fun _ => []) (fun _ => [tree (.slice x_v0.1.1.1 v0.1.1.length x_v0.1.1.2) r.2.1.1, tree (.slice x_v0.1.2.1 v0.1.2.length x_v0.1.2.2) r.2.1.2, tree (.slice x_v0.2.1.1 v0.2.1.length x_v0.2.1.2) r.2.2.1, tree (.slice x_v0.2.2.1 v0.2.2.length x_v0.2.2.2) r.2.2.2]) := by
 refine cof (args := [_, _]) func17 ntmps17 fun c => ?_
 unfold p_laws_markStore at H
 refine sr (f1 (cC (t := 42) rfl) fun g1 => (aH (v := .int .i64 (0)) rfl (nl (sr (aG (cB fa42_0 rfl rfl) (aI (v := .agg #[.slice x_v0.1.1.1 v0.1.1.length x_v0.1.1.2, .slice x_v0.1.2.1 v0.1.2.length x_v0.1.2.2]) (q_ldbP [.slice x_v0.1.1.1 v0.1.1.length x_v0.1.1.2, .slice x_v0.1.2.1 v0.1.2.length x_v0.1.2.2] ty38 rfl aB rfl rfl) (aF rfl (bdo H fun r2 h3 H => (f1 (cF (c_laws_markIndex v0.1 x_v0.1 v1 h3) (bF (bF bG)) (fun _ => (bF (bF bG))) rfl (.cons dl1 (.cons dl1 .nil)) aO) fun u4 => (aH rfl (nl ?_)))))))))))
 refine sr (aG (cB fa42_1 rfl rfl) (aI (bI ty39 rfl hs2 rfl) (aF rfl (bdo H fun r5 h6 H => (f1 (cF (c_laws_markPartS v0.2.1 x_v0.2.1 v0.2.1.length rfl r2.1 h6) (bF bG) (fun _ => (bF bG)) rfl (.cons dl3 .nil) aO) fun u7 => (aH rfl (nl (sr (aG (cB fa42_2 rfl rfl) (aI (bI ty40 rfl hs3 rfl) ?_))))))))))
 refine aF rfl (bdo H fun r8 h9 H => (f1 (cF (c_laws_markSampleS v0.2.2 x_v0.2.2 v0.2.2.length rfl r5.1 h9) (bF bG) (fun _ => (bF bG)) rfl (.cons dl4 .nil) aO) fun u10 => (aH rfl (nl (sr (aF rfl (aH rfl (nl ?_))))))))
 obtain rfl := si H
 exact bQ (bk (.cons dl2 (.cons dl2 (.cons dl1 (.cons aA .nil)))))
noncomputable def p_laws_markCondS_b0 (v0 : (List Cond)) (Q5 : (List Cond) × Int × Int) : Option (((List Cond) × Int × Int) ⊕ (Int × (List Cond))) := cond (decide (Q5.2.2 < (v0.length : Int))) (gd (ix Q5.2.2 Q5.1.length) <| bd (p_laws_markText Q5.2.1) fun r16 => gd (I64 (Q5.2.1 + 1)) <| bd (p_laws_markText (Q5.2.1 + 1)) fun r19 => gd (I64 ((Q5.2.1 + 1) + 1)) <| gd (I64 (((Q5.2.1 + 1) + 1).tmod 3)) <| gd (I64 (((Q5.2.1 + 1) + 1) + 1)) <| gd (I64 (Q5.2.2 + 1)) <| some (.inl ((Q5.1.set Q5.2.2.toNat ((r16, r19), (decide ((((Q5.2.1 + 1) + 1).tmod 3) = 0)))), ((Q5.2.1 + 1) + 1) + 1, Q5.2.2 + 1))) (some (.inr (Q5.2.1, Q5.1)))
noncomputable def p_laws_markCondS (v0 : (List Cond)) (v1 : Int) : Option (Int × (List Cond)) := bd (lp (p_laws_markCondS_b0 v0) (v0, v1, 0)) fun x1 => some (x1.1, x1.2)
theorem c_laws_markCondS {r : Int × (List Cond)} (v0 : (List Cond)) (x_v0 : Option Addr × Nat) (n_v0 : Nat) (e_v0 : n_v0 = v0.length) (v1 : Int) (H : p_laws_markCondS v0 v1 = some r) : Fn' prog 18 #[.slice x_v0.1 n_v0 x_v0.2, .int .i64 (v1)] [] [tree (.slice x_v0.1 n_v0 x_v0.2) v0] (ι := Unit) (fun _ => .int .i64 (r.1)) (fun _ => []) (fun _ => [tree (.slice x_v0.1 n_v0 x_v0.2) r.2]) := by
 subst e_v0
 refine cof (args := [_, _]) func18 ntmps18 fun c => ?_
 unfold p_laws_markCondS at H
 refine sr (aH (v := .int .i64 (0)) rfl (nl (aD (sr (aH (v := .int .i64 (0)) rfl (nl (bdo H fun x1 hx2 H => (cX (ι := Unit) (fun ψ => [(1, .int .i64 (x1.1))]) (fun ψ => [tree (.slice x_v0.1 v0.length x_v0.2) x1.2]) ?_ ?_))))))))
 ·refine aQ (dA hx2 () (fun Q5 _ => [(0, .slice x_v0.1 v0.length x_v0.2), (1, .int .i64 (Q5.2.1)), (5, .int .i64 (Q5.2.2))]) (fun Q5 _ => [tree (.slice x_v0.1 v0.length x_v0.2) Q5.1]) (.cons aA .nil) ?_)
  rintro _ Q5 z6 t8 H1 hi9 hb10
  unfold p_laws_markCondS_b0 at H1
  refine aD (sr (aF rfl (aF rfl (aG (bS 99 dR rfl) (aG (cM rfl rfl) (nl (cH H1 rfl (fun h13 H1 => ?_) (fun h13 H1 => ?_))))))))
  ·refine bH (nT (aD (aQ (aD (gdo H1 fun h14 H1 => (Tr.zoom (k := Q5.2.2.toNat) h14.lt (.cons aA .nil) fun x15 => ?_))))))
   show Tr _ _ _ _ _ _ _ (hole (.slice x_v0.1 v0.length x_v0.2) Q5.1 Q5.2.2.toNat [.string (((nth Q5.1 Q5.2.2.toNat).1).1), .string (((nth Q5.1 Q5.2.2.toNat).1).2), .bool ((nth Q5.1 Q5.2.2.toNat).2)] :: _)
   refine aP (aF rfl (aF rfl (aF rfl (bdo H1 fun r16 h17 H1 => (aI (bN (c_laws_markText Q5.2.1 h17) rfl aO) (aI (v := elp x_v0.1 (Q5.2.2.toNat * Enc.sz Cond + 0)) (q_ixH (k := Q5.2.2.toNat) dR ty99 rfl rfl h14 rfl aB) (aI (v := elp x_v0.1 (Q5.2.2.toNat * Enc.sz Cond + 0)) (q_faH (j := 0) (i := Q5.2.2.toNat) fa99_0 rfl aB rfl) (aI (v := elp x_v0.1 (Q5.2.2.toNat * Enc.sz Cond + 0)) (q_faH (j := 0) (i := Q5.2.2.toNat) fa97_0 rfl aB rfl) (g0 (e_stH (v := .string (r16)) (i := Q5.2.2.toNat) (j := 0) (cs' := [.string (r16), .string (((nth Q5.1 Q5.2.2.toNat).1).2), .bool ((nth Q5.1 Q5.2.2.toNat).2)]) ty9 rfl rfl (.cons aA .nil) rfl (one_of rfl) (Nat.le_of_ble_eq_true rfl) rfl rfl) ?_)))))))))
   refine nl (sr (aF rfl (gdo H1 fun h18 H1 => (aG (bR rfl rfl h18) (aH rfl (nl (sr (aF rfl (aF rfl (aF rfl ?_))))))))))
   refine bdo H1 fun r19 h20 H1 => (aI (bN (c_laws_markText (Q5.2.1 + 1) h20) rfl aO) (aI (v := elp x_v0.1 (Q5.2.2.toNat * Enc.sz Cond + 0)) (q_ixH (k := Q5.2.2.toNat) dR ty99 rfl rfl h14 rfl aB) (aI (v := elp x_v0.1 (Q5.2.2.toNat * Enc.sz Cond + 0)) (q_faH (j := 0) (i := Q5.2.2.toNat) fa99_0 rfl aB rfl) (aI (v := elp x_v0.1 (Q5.2.2.toNat * Enc.sz Cond + 1)) (q_faH (j := 0) (i := Q5.2.2.toNat) fa97_1 rfl aB rfl) (g0 (e_stH (v := .string (r19)) (i := Q5.2.2.toNat) (j := 1) (cs' := [.string (r16), .string (r19), .bool ((nth Q5.1 Q5.2.2.toNat).2)]) ty9 rfl rfl (.cons aA .nil) rfl (one_of rfl) (Nat.le_of_ble_eq_true rfl) rfl rfl) (nl (sr (aF rfl (gdo H1 fun h21 H1 => ?_)))))))))
   refine aG (bR rfl rfl h21) (aH rfl (nl (sr (aF rfl (aF rfl (aF rfl (gdo H1 fun h22 H1 => (aG (p_rem rfl rfl (by decide) h22) (aG (cP rfl rfl) (aI (v := elp x_v0.1 (Q5.2.2.toNat * Enc.sz Cond + 0)) (q_ixH (k := Q5.2.2.toNat) dR ty99 rfl rfl h14 rfl aB) ?_))))))))))
   refine aI (v := elp x_v0.1 (Q5.2.2.toNat * Enc.sz Cond + 2)) (q_faH (j := 0) (i := Q5.2.2.toNat) fa99_1 rfl aB rfl) (g0 (e_stH (v := .bool (decide ((((Q5.2.1 + 1) + 1).tmod 3) = 0))) (i := Q5.2.2.toNat) (j := 2) (cs' := [.string (r16), .string (r19), .bool (decide ((((Q5.2.1 + 1) + 1).tmod 3) = 0))]) ty4 rfl rfl (.cons aA .nil) rfl (one_of rfl) (Nat.le_of_ble_eq_true rfl) rfl rfl) (nl (aP (aF rfl (gdo H1 fun h23 H1 => (aG (bR rfl rfl h23) (aH rfl (aJ (nB (nT (aP ?_)))))))))))
   exact aF rfl (gdo H1 fun h24 H1 => (aG (bR rfl rfl h24) (aH rfl (aJ (At.unzoom ((r16, r19), (decide ((((Q5.2.1 + 1) + 1).tmod 3) = 0))) (((), ()), ()) rfl (.cons aA .nil) (nLI () (hi9 _ (sm H1)) (.cons aA .nil)))))))
  ·refine cW (xT (xT (xE (?_))))
   obtain rfl := hb10 _ (sm H1)
   exact nMC () ⟨rfl, trivial⟩ bT (.cons aA .nil)
 ·intro y7
  show At _ _ [(1, .int .i64 (x1.1))] _ [tree (.slice x_v0.1 v0.length x_v0.2) x1.2] _
  refine nT (sr (aF rfl (aH rfl (nl ?_))))
  obtain rfl := si H
  exact bQ (bk (.cons aA .nil))
noncomputable def p_laws_markHitS_b0 (v0 : (List Hit)) (Q5 : (List Hit) × Int × Int) : Option (((List Hit) × Int × Int) ⊕ (Int × (List Hit))) := cond (decide (Q5.2.2 < (v0.length : Int))) (gd (ix Q5.2.2 Q5.1.length) <| bd (p_laws_markText Q5.2.1) fun r16 => gd (I64 (Q5.2.1 + 1)) <| bd (p_laws_markRowS ((nth Q5.1 Q5.2.2.toNat).2) (Q5.2.1 + 1)) fun r19 => gd (I64 (Q5.2.2 + 1)) <| some (.inl ((Q5.1.set Q5.2.2.toNat (r16, r19.2)), r19.1, Q5.2.2 + 1))) (some (.inr (Q5.2.1, Q5.1)))
noncomputable def p_laws_markHitS (v0 : (List Hit)) (v1 : Int) : Option (Int × (List Hit)) := bd (lp (p_laws_markHitS_b0 v0) (v0, v1, 0)) fun x1 => some (x1.1, x1.2)
theorem c_laws_markHitS {r : Int × (List Hit)} (v0 : (List Hit)) (x_v0 : Option Addr × Nat) (n_v0 : Nat) (e_v0 : n_v0 = v0.length) (v1 : Int) (H : p_laws_markHitS v0 v1 = some r) : Fn' prog 19 #[.slice x_v0.1 n_v0 x_v0.2, .int .i64 (v1)] [] [tree (.slice x_v0.1 n_v0 x_v0.2) v0] (ι := Unit) (fun _ => .int .i64 (r.1)) (fun _ => []) (fun _ => [tree (.slice x_v0.1 n_v0 x_v0.2) r.2]) := by
 subst e_v0
 refine cof (args := [_, _]) func19 ntmps19 fun c => ?_
 unfold p_laws_markHitS at H
 refine sr (aH (v := .int .i64 (0)) rfl (nl (aD (sr (aH (v := .int .i64 (0)) rfl (nl (bdo H fun x1 hx2 H => (cX (ι := Unit) (fun ψ => [(1, .int .i64 (x1.1))]) (fun ψ => [tree (.slice x_v0.1 v0.length x_v0.2) x1.2]) ?_ ?_))))))))
 ·refine aQ (dA hx2 () (fun Q5 _ => [(0, .slice x_v0.1 v0.length x_v0.2), (1, .int .i64 (Q5.2.1)), (5, .int .i64 (Q5.2.2))]) (fun Q5 _ => [tree (.slice x_v0.1 v0.length x_v0.2) Q5.1]) (.cons aA .nil) ?_)
  rintro _ Q5 z6 t8 H1 hi9 hb10
  unfold p_laws_markHitS_b0 at H1
  refine aD (sr (aF rfl (aF rfl (aG (bS 107 dM rfl) (aG (cM rfl rfl) (nl (cH H1 rfl (fun h13 H1 => ?_) (fun h13 H1 => ?_))))))))
  ·refine bH (nT (aD (aQ (aD (gdo H1 fun h14 H1 => (Tr.zoom (k := Q5.2.2.toNat) h14.lt (.cons aA .nil) fun x15 => ?_))))))
   show Tr _ _ _ _ _ _ _ (hole (.slice x_v0.1 v0.length x_v0.2) Q5.1 Q5.2.2.toNat [.string ((nth Q5.1 Q5.2.2.toNat).1), .slice x15.2.1 (((nth Q5.1 Q5.2.2.toNat).2).length) x15.2.2] :: tree (.slice x15.2.1 (((nth Q5.1 Q5.2.2.toNat).2).length) x15.2.2) ((nth Q5.1 Q5.2.2.toNat).2) :: _)
   refine aP (aF rfl (aF rfl (aF rfl (bdo H1 fun r16 h17 H1 => (aI (bN (c_laws_markText Q5.2.1 h17) rfl aO) (aI (v := elp x_v0.1 (Q5.2.2.toNat * Enc.sz Hit + 0)) (q_ixH (k := Q5.2.2.toNat) dM ty107 rfl rfl h14 rfl aB) (aI (v := elp x_v0.1 (Q5.2.2.toNat * Enc.sz Hit + 0)) (q_faH (j := 0) (i := Q5.2.2.toNat) fa107_0 rfl aB rfl) (g0 (e_stH (v := .string (r16)) (i := Q5.2.2.toNat) (j := 0) (cs' := [.string (r16), .slice x15.2.1 (((nth Q5.1 Q5.2.2.toNat).2).length) x15.2.2]) ty9 rfl rfl (.cons aA .nil) rfl (one_of rfl) (Nat.le_of_ble_eq_true rfl) rfl rfl) (nl ?_)))))))))
   refine sr (aF rfl (gdo H1 fun h18 H1 => (aG (bR rfl rfl h18) (aH rfl (nl (aP (aF rfl (aF rfl (aI (v := elp x_v0.1 (Q5.2.2.toNat * Enc.sz Hit + 0)) (q_ixH (k := Q5.2.2.toNat) dM ty107 rfl rfl h14 rfl aB) (aI (v := elp x_v0.1 (Q5.2.2.toNat * Enc.sz Hit + 1)) (q_faH (j := 0) (i := Q5.2.2.toNat) fa107_1 rfl aB rfl) ?_))))))))))
   refine aI (v := .slice x15.2.1 (((nth Q5.1 Q5.2.2.toNat).2).length) x15.2.2) (q_ldH (i := Q5.2.2.toNat) (j := 1) ty63 rfl aB rfl) (aF rfl (bdo H1 fun r19 h20 H1 => (f1 (cF (c_laws_markRowS ((nth Q5.1 Q5.2.2.toNat).2) x15.2 (((nth Q5.1 Q5.2.2.toNat).2).length) rfl (Q5.2.1 + 1) h20) (bF bG) (fun _ => (bF bG)) rfl (.cons dl1 .nil) aO) fun u21 => (aH rfl (aJ (nB (nT (?_))))))))
   refine cT aB fun hn => ?_; rw [hn]
   exact aP (aF rfl (gdo H1 fun h22 H1 => (aG (bR rfl rfl h22) (aH rfl (aJ (At.unzoom (r16, r19.2) ((), x15.2) rfl (.cons dl1 (.cons aA .nil)) (nLI () (hi9 _ (sm H1)) (.cons aA .nil))))))))
  ·refine cW (xT (xT (xE (?_))))
   obtain rfl := hb10 _ (sm H1)
   exact nMC () ⟨rfl, trivial⟩ bT (.cons aA .nil)
 ·intro y7
  show At _ _ [(1, .int .i64 (x1.1))] _ [tree (.slice x_v0.1 v0.length x_v0.2) x1.2] _
  refine nT (sr (aF rfl (aH rfl (nl ?_))))
  obtain rfl := si H
  exact bQ (bk (.cons aA .nil))
noncomputable def p_laws_heldRowS_b0 (v0 : (List Row)) (Q5 : Int × Int) : Option ((Int × Int) ⊕ (Int ⊕ Int)) := cond (decide (Q5.2 < (v0.length : Int))) (gd (ix Q5.2 v0.length) <| cond (!decide (((nth v0 Q5.2.toNat).1) = Q5.1)) (some (.inr (.inr (-1)))) (gd (I64 (Q5.1 + 1)) <| cond (!decide (((nth v0 Q5.2.toNat).2) = (Q5.1 + 1))) (some (.inr (.inr (-1)))) (gd (I64 ((Q5.1 + 1) + 1)) <| gd (I64 (Q5.2 + 1)) <| some (.inl ((Q5.1 + 1) + 1, Q5.2 + 1))))) (some (.inr (.inl Q5.1)))
noncomputable def p_laws_heldRowS (v0 : (List Row)) (v1 : Int) : Option (Int) := bd (lp (p_laws_heldRowS_b0 v0) (v1, 0)) <| sw (fun e20 => some e20) (fun q => some q)
end Go.Proofs.YtlkcnfjdhkoelaaGreat
