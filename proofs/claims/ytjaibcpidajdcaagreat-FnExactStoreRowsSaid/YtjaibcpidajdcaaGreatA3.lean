/- The walks and the plain laws, part 3: each function that the law reaches computes what its plain function tells, and what the plain functions answer. Conditions: lengths that memory can hold. -/
import Derived.Test.YtjaibcpidajdcaaGreatA2
namespace Go.Proofs.YtjaibcpidajdcaaGreat
open Go Go.Sx
noncomputable def p_slices_xorshift_Next (v0 : UInt64) : Option (UInt64 × UInt64) := some (((v0 ^^^ (wl v0 ((13 : UInt64).toNat : Int))) ^^^ (wr (v0 ^^^ (wl v0 ((13 : UInt64).toNat : Int))) ((7 : UInt64).toNat : Int))) ^^^ (wl ((v0 ^^^ (wl v0 ((13 : UInt64).toNat : Int))) ^^^ (wr (v0 ^^^ (wl v0 ((13 : UInt64).toNat : Int))) ((7 : UInt64).toNat : Int))) ((17 : UInt64).toNat : Int)), ((v0 ^^^ (wl v0 ((13 : UInt64).toNat : Int))) ^^^ (wr (v0 ^^^ (wl v0 ((13 : UInt64).toNat : Int))) ((7 : UInt64).toNat : Int))) ^^^ (wl ((v0 ^^^ (wl v0 ((13 : UInt64).toNat : Int))) ^^^ (wr (v0 ^^^ (wl v0 ((13 : UInt64).toNat : Int))) ((7 : UInt64).toNat : Int))) ((17 : UInt64).toNat : Int)))
theorem c_slices_xorshift_Next {r : UInt64 × UInt64} (g_v0 : Nat) (v0 : UInt64) (H : p_slices_xorshift_Next v0 = some r) : Fn' Tryz.prog 165 #[.pointer (some ⟨g_v0, 0, none⟩)] [] [box g_v0 187 [.int .u64 (v0.toNat : Int)]] (ι := Unit) (fun _ => .int .u64 (r.1.toNat : Int)) (fun _ => []) (fun _ => [box g_v0 187 [.int .u64 (r.2.toNat : Int)]]) := by
 refine calls_of (args := [_]) Tryz.func165 rfl (by kernel_rfl) Tryz.ntmps165 (by simp) fun c => ?_
 unfold p_slices_xorshift_Next at H
 refine Tr.seq (Tr.region (Rg.a rfl (Rg.nl (nT (?_)))))
 refine Tr.seq (tNwS [(0, .pointer (some ⟨g_v0, 0, none⟩))] 1 [0, 1, 2, 3, 4, 5, 6, 7, 8, 9] [9] [] Tryz.mixed (by kernel_rfl) (by decide) List.nodup_nil ⟨rfl, trivial⟩ rfl okNil (w_p rfl (p_move rfl) (w_p rfl (p_nil rfl) (w_o rfl (fun F => (q_ldb ty187 rfl (Has.here.app F) rfl)) (w_p rfl (p_move rfl) ?_)))))
 refine w_p rfl (p_nil rfl) ?_
 refine w_o rfl (fun F => (q_ldb ty187 rfl (Has.here.app F) rfl)) (w_p (v := .int .u64 ((wl v0 ((13 : UInt64).toNat : Int)).toNat : Int)) rfl (p_wshl (k := ((13 : UInt64).toNat : Int)) rfl rfl (by decide)) (w_p (v := .int .u64 ((v0 ^^^ (wl v0 ((13 : UInt64).toNat : Int))).toNat : Int)) rfl (p_wxor rfl rfl) (w_p rfl (p_nil rfl) (w_en rfl rfl Rdy.nil rfl (n_store (cs' := [.int .u64 ((v0 ^^^ (wl v0 ((13 : UInt64).toNat : Int))).toNat : Int)]) ty187 rfl rfl Upd.here rfl (one_of rfl) (Nat.le_of_ble_eq_true rfl) rfl) ?_))))
 rintro _ _ _ ⟨rfl, rfl, rfl⟩
 refine ⟨(PdOk.anc (by kernel_rfl) (PdOk.anc (by kernel_rfl) PdOk.nil)), ?_⟩
 refine w_nil ?_
 show At _ _ _ _ _ _
 refine nT (?_)
 refine Tr.seq (tNwS [(0, .pointer (some ⟨g_v0, 0, none⟩))] 1 [0, 1, 2, 3, 4, 5, 6, 7, 8, 9] [9] [] Tryz.mixed (by kernel_rfl) (by decide) List.nodup_nil ⟨rfl, trivial⟩ rfl okNil (w_p rfl (p_move rfl) (w_p rfl (p_nil rfl) (w_o rfl (fun F => (q_ldb ty187 rfl (Has.here.app F) rfl)) (w_p rfl (p_move rfl) ?_)))))
 refine w_p rfl (p_nil rfl) ?_
 refine w_o rfl (fun F => (q_ldb ty187 rfl (Has.here.app F) rfl)) (w_p (v := .int .u64 ((wr (v0 ^^^ (wl v0 ((13 : UInt64).toNat : Int))) ((7 : UInt64).toNat : Int)).toNat : Int)) rfl (p_wshr (k := ((7 : UInt64).toNat : Int)) rfl rfl (by decide)) (w_p (v := .int .u64 (((v0 ^^^ (wl v0 ((13 : UInt64).toNat : Int))) ^^^ (wr (v0 ^^^ (wl v0 ((13 : UInt64).toNat : Int))) ((7 : UInt64).toNat : Int))).toNat : Int)) rfl (p_wxor rfl rfl) (w_p rfl (p_nil rfl) (w_en rfl rfl Rdy.nil rfl (n_store (cs' := [.int .u64 (((v0 ^^^ (wl v0 ((13 : UInt64).toNat : Int))) ^^^ (wr (v0 ^^^ (wl v0 ((13 : UInt64).toNat : Int))) ((7 : UInt64).toNat : Int))).toNat : Int)]) ty187 rfl rfl Upd.here rfl (one_of rfl) (Nat.le_of_ble_eq_true rfl) rfl) ?_))))
 rintro _ _ _ ⟨rfl, rfl, rfl⟩
 refine ⟨(PdOk.anc (by kernel_rfl) (PdOk.anc (by kernel_rfl) PdOk.nil)), ?_⟩
 refine w_nil ?_
 show At _ _ _ _ _ _
 refine nT (?_)
 refine Tr.seq (tNwS [(0, .pointer (some ⟨g_v0, 0, none⟩))] 1 [0, 1, 2, 3, 4, 5, 6, 7, 8, 9] [9] [] Tryz.mixed (by kernel_rfl) (by decide) List.nodup_nil ⟨rfl, trivial⟩ rfl okNil (w_p rfl (p_move rfl) (w_p rfl (p_nil rfl) (w_o rfl (fun F => (q_ldb ty187 rfl (Has.here.app F) rfl)) (w_p rfl (p_move rfl) ?_)))))
 refine w_p rfl (p_nil rfl) ?_
 refine w_o rfl (fun F => (q_ldb ty187 rfl (Has.here.app F) rfl)) (w_p (v := .int .u64 ((wl ((v0 ^^^ (wl v0 ((13 : UInt64).toNat : Int))) ^^^ (wr (v0 ^^^ (wl v0 ((13 : UInt64).toNat : Int))) ((7 : UInt64).toNat : Int))) ((17 : UInt64).toNat : Int)).toNat : Int)) rfl (p_wshl (k := ((17 : UInt64).toNat : Int)) rfl rfl (by decide)) (w_p (v := .int .u64 ((((v0 ^^^ (wl v0 ((13 : UInt64).toNat : Int))) ^^^ (wr (v0 ^^^ (wl v0 ((13 : UInt64).toNat : Int))) ((7 : UInt64).toNat : Int))) ^^^ (wl ((v0 ^^^ (wl v0 ((13 : UInt64).toNat : Int))) ^^^ (wr (v0 ^^^ (wl v0 ((13 : UInt64).toNat : Int))) ((7 : UInt64).toNat : Int))) ((17 : UInt64).toNat : Int))).toNat : Int)) rfl (p_wxor rfl rfl) (w_p rfl (p_nil rfl) (w_en rfl rfl Rdy.nil rfl (n_store (cs' := [.int .u64 ((((v0 ^^^ (wl v0 ((13 : UInt64).toNat : Int))) ^^^ (wr (v0 ^^^ (wl v0 ((13 : UInt64).toNat : Int))) ((7 : UInt64).toNat : Int))) ^^^ (wl ((v0 ^^^ (wl v0 ((13 : UInt64).toNat : Int))) ^^^ (wr (v0 ^^^ (wl v0 ((13 : UInt64).toNat : Int))) ((7 : UInt64).toNat : Int))) ((17 : UInt64).toNat : Int))).toNat : Int)]) ty187 rfl rfl Upd.here rfl (one_of rfl) (Nat.le_of_ble_eq_true rfl) rfl) ?_))))
 rintro _ _ _ ⟨rfl, rfl, rfl⟩
 refine ⟨(PdOk.anc (by kernel_rfl) (PdOk.anc (by kernel_rfl) PdOk.nil)), ?_⟩
 refine w_nil ?_
 show At _ _ _ _ _ _
 refine nT (?_)
 refine Tr.seq (Tr.region (Rg.m rfl (Rg.p (p_nil rfl) (Rg.o (q_ldb ty187 rfl Has.here rfl) (Rg.a rfl ?_)))))
 refine Rg.nl (nT (?_))
 refine tRet ?_
 obtain rfl := si H
 exact back1 () rfl (ResV.tmp (v := .int .u64 ((((v0 ^^^ (wl v0 ((13 : UInt64).toNat : Int))) ^^^ (wr (v0 ^^^ (wl v0 ((13 : UInt64).toNat : Int))) ((7 : UInt64).toNat : Int))) ^^^ (wl ((v0 ^^^ (wl v0 ((13 : UInt64).toNat : Int))) ^^^ (wr (v0 ^^^ (wl v0 ((13 : UInt64).toNat : Int))) ((7 : UInt64).toNat : Int))) ((17 : UInt64).toNat : Int))).toNat : Int)) rfl) rfl Ents.nil (.cons Del.here .nil)
noncomputable def p_breakPatternsH_b0 (v1 : Int) (v2 : Int) (r4 : UInt64) (Q14 : (List PostH) × UInt64 × Int) : Option (((List PostH) × UInt64 × Int) ⊕ ((List PostH))) := gd (I64 ((v1 + (((v2 - v1).tdiv 4) * 2)) + 1)) <| cond (decide (Q14.2.2 ≤ ((v1 + (((v2 - v1).tdiv 4) * 2)) + 1))) (bd (p_slices_xorshift_Next Q14.2.1) fun r25 => gd (I64 ((r25.1 &&& (r4 - (1 : UInt64))).toNat : Int)) <| bd (cond (decide ((v2 - v1) ≤ ((r25.1 &&& (r4 - (1 : UInt64))).toNat : Int))) (gd (I64 (((r25.1 &&& (r4 - (1 : UInt64))).toNat : Int) - (v2 - v1))) <| some (((r25.1 &&& (r4 - (1 : UInt64))).toNat : Int) - (v2 - v1))) (some ((r25.1 &&& (r4 - (1 : UInt64))).toNat : Int))) fun x30 => gd (I64 (v1 + x30)) <| gd (ix (v1 + x30) Q14.1.length) <| gd (ix Q14.2.2 Q14.1.length) <| gd (ix Q14.2.2 (Q14.1.set Q14.2.2.toNat (nth Q14.1 ((v1 + x30).toNat))).length) <| gd (ix (v1 + x30) (Q14.1.set Q14.2.2.toNat (nth Q14.1 ((v1 + x30).toNat))).length) <| gd (I64 (Q14.2.2 + 1)) <| some (.inl (((Q14.1.set Q14.2.2.toNat (nth Q14.1 ((v1 + x30).toNat))).set ((v1 + x30).toNat) (nth Q14.1 Q14.2.2.toNat)), r25.2, Q14.2.2 + 1))) (some (.inr Q14.1))
noncomputable def p_breakPatternsH (v0 : (List PostH)) (v1 : Int) (v2 : Int) : Option ((List PostH)) := gd (I64 (v2 - v1)) <| cond (decide (8 ≤ (v2 - v1))) (bd (p_slices_nextPowerOfTwo (v2 - v1)) fun r4 => gd (I64 ((v2 - v1).tdiv 4)) <| gd (I64 (((v2 - v1).tdiv 4) * 2)) <| gd (I64 (v1 + (((v2 - v1).tdiv 4) * 2))) <| gd (I64 ((v1 + (((v2 - v1).tdiv 4) * 2)) - 1)) <| bd (lp (p_breakPatternsH_b0 v1 v2 r4) (v0, w64 (v2 - v1), (v1 + (((v2 - v1).tdiv 4) * 2)) - 1)) fun x10 => some x10) (some v0)
theorem c_breakPatternsH {r : (List PostH)} (v0 : (List PostH)) (x_v0 : Option Addr × Nat) (n_v0 : Nat) (e_v0 : n_v0 = v0.length) (v1 : Int) (v2 : Int) (H : p_breakPatternsH v0 v1 v2 = some r) : Fn' Tryz.prog 154 #[.slice x_v0.1 n_v0 x_v0.2, .int .i64 (v1), .int .i64 (v2), .func (.func 129) #[] #[]] [] [tree (.slice x_v0.1 n_v0 x_v0.2) v0] (ι := Unit) (fun _ => .tuple #[]) (fun _ => []) (fun _ => [tree (.slice x_v0.1 n_v0 x_v0.2) r]) := by
 subst e_v0
 refine calls_of (args := [_, _, _, _]) Tryz.func154 rfl (by kernel_rfl) Tryz.ntmps154 (by simp) fun c => ?_
 unfold p_breakPatternsH at H
 refine Tr.seq (Tr.region (Rg.m rfl (Rg.m rfl ?_)))
 obtain ⟨h1, H⟩ := gd.of H
 refine Rg.p (p_sub rfl rfl h1) (Rg.a rfl (Rg.nl (nT (?_))))
 refine Tr.seq (Tr.region (Rg.m rfl (Rg.p (p_geq rfl rfl) (Rg.nl (nT (?_))))))
 refine Tr.cond (b := decide (8 ≤ (v2 - v1))) rfl (fun h2 => ?_) (fun h2 => ?_)
 ·have H := cdT h2 H
  refine Tr.seq (Tr.region (Rg.m rfl (Rg.p (v := .int .u64 ((w64 (v2 - v1)).toNat : Int)) (p_iw Tryz.underlying3 Tryz.underlying187 rfl) (Rg.ef (e_alloc ty187) rfl ?_))))
  rintro _ _ _ ⟨g3, rfl, rfl, rfl⟩
  refine Rg.en (e_store (cs' := [.int .u64 ((w64 (v2 - v1)).toNat : Int)]) ty187 rfl rfl Upd.here rfl (one_of rfl) (Nat.le_of_ble_eq_true rfl) rfl) rfl ?_
  rintro _ _ _ ⟨rfl, rfl, rfl⟩
  refine Rg.nl (nT (?_))
  refine Tr.seq (Tr.region (Rg.m rfl ?_))
  obtain ⟨r4, h5, H⟩ := bd.of H
  refine Rg.o (q_call (c_slices_nextPowerOfTwo (v2 - v1) h5) rfl EntsB.nil) (Rg.a rfl (Rg.nl (nT (?_))))
  refine Tr.seq (Tr.region (Rg.m rfl (Rg.m rfl ?_)))
  obtain ⟨h6, H⟩ := gd.of H
  refine Rg.p (p_quo rfl rfl (by decide) h6) ?_
  obtain ⟨h7, H⟩ := gd.of H
  refine Rg.p (p_mul rfl rfl h7) ?_
  obtain ⟨h8, H⟩ := gd.of H
  refine Rg.p (p_add rfl rfl h8) ?_
  obtain ⟨h9, H⟩ := gd.of H
  refine Rg.p (p_sub rfl rfl h9) (Rg.a rfl (Rg.nl (nT (?_))))
  obtain ⟨x10, hx11, H⟩ := bd.of H
  obtain ⟨n12, hx11⟩ := lp.of hx11
  refine tMidNC (ι := Unit) (fun ψ => []) (fun ψ => [tree (.slice x_v0.1 v0.length x_v0.2) x10]) ?_ ?_
  ·refine Tr.block (tLoopC (ι := { q : Nat × ((List PostH) × UInt64 × Int) × Unit // itr (p_breakPatternsH_b0 v1 v2 r4) q.1 q.2.1 = some x10 }) (fun ζ => [(0, .slice x_v0.1 v0.length x_v0.2), (1, .int .i64 (v1)), (8, .int .i64 (v2 - v1)), (9, .pointer (some ⟨g3, 0, none⟩)), (10, .int .u64 (r4.toNat : Int)), (11, .int .i64 (ζ.1.2.1.2.2))]) (fun ζ => [tree (.slice x_v0.1 v0.length x_v0.2) ζ.1.2.1.1, box g3 187 [.int .u64 (ζ.1.2.1.2.1.toNat : Int)]]) (fun ζ => ζ.1.1) ⟨(n12, (v0, w64 (v2 - v1), (v1 + (((v2 - v1).tdiv 4) * 2)) - 1), ()), hx11⟩ ⟨rfl, rfl, rfl, rfl, rfl, rfl, trivial⟩ (.cons dl1 (.cons Del.here .nil)) ?_)
   rintro ⟨⟨m13, Q14, z15⟩, hk20⟩
   obtain ⟨m21, t17, e, H1, hi18, hb19⟩ := itr.of (n := m13) (s := Q14) hk20
   subst e; unfold p_breakPatternsH_b0 at H1
   show Tr _ _ _ _ _ [(0, .slice x_v0.1 v0.length x_v0.2), (1, .int .i64 (v1)), (8, .int .i64 (v2 - v1)), (9, .pointer (some ⟨g3, 0, none⟩)), (10, .int .u64 (r4.toNat : Int)), (11, .int .i64 (Q14.2.2))] _ [tree (.slice x_v0.1 v0.length x_v0.2) Q14.1, box g3 187 [.int .u64 (Q14.2.1.toNat : Int)]]
   refine Tr.seq (Tr.seq (Tr.olen Has.here fun hn22 => (Tr.region (Rg.m rfl (Rg.m rfl ?_)))))
   refine Rg.m rfl (Rg.p (p_quo rfl rfl (by decide) h6) (Rg.p (p_mul rfl rfl h7) (Rg.p (p_add rfl rfl h8) ?_)))
   obtain ⟨h23, H1⟩ := gd.of H1
   refine Rg.p (p_add rfl rfl h23) (Rg.p (p_leq rfl rfl) (Rg.nl (nT (?_))))
   refine Tr.cond (b := decide (Q14.2.2 ≤ ((v1 + (((v2 - v1).tdiv 4) * 2)) + 1))) rfl (fun h24 => ?_) (fun h24 => ?_)
   ·have H1 := cdT h24 H1
    refine tSkip (nT (?_))
    refine Tr.seq (Tr.block (Tr.seq (Tr.region ?_)))
    obtain ⟨r25, h26, H1⟩ := bd.of H1
    refine Rg.ef (e_callM (c_slices_xorshift_Next g3 Q14.2.1 h26) (Solo.box Solo.nil) (fun _ => (Solo.box Solo.nil)) rfl (.cons dl1 .nil) EntsB.nil) rfl ?_
    rintro _ _ _ ⟨u27, rfl, rfl, rfl⟩
    refine Rg.m rfl (Rg.p (v := .int .u64 ((r4 - (1 : UInt64)).toNat : Int)) (p_wsub rfl rfl) (Rg.p (v := .int .u64 ((r25.1 &&& (r4 - (1 : UInt64))).toNat : Int)) (p_wand rfl rfl) ?_))
    obtain ⟨h28, H1⟩ := gd.of H1
    refine Rg.p (v := .int .i64 (((r25.1 &&& (r4 - (1 : UInt64))).toNat : Int))) (p_wi Tryz.underlying172 Tryz.underlying3 rfl h28) (Rg.a rfl (Rg.nl (nT (?_))))
    refine Tr.seq (Tr.seq (Tr.region (Rg.m rfl (Rg.m rfl (Rg.p (p_geq rfl rfl) ?_)))))
    refine Rg.nl (nT (?_))
    obtain ⟨x30, hx31, H1⟩ := bd.of H1
    refine tMidC0 (ι := Unit) (fun ψ => [(0, .slice x_v0.1 v0.length x_v0.2), (1, .int .i64 (v1)), (8, .int .i64 (v2 - v1)), (9, .pointer (some ⟨g3, 0, none⟩)), (10, .int .u64 (r4.toNat : Int)), (11, .int .i64 (Q14.2.2)), (12, .int .i64 (x30))]) (fun ψ => [tree (.slice x_v0.1 v0.length x_v0.2) Q14.1, box g3 187 [.int .u64 (r25.2.toNat : Int)]]) ?_ ?_
    ·refine Tr.cond (b := decide ((v2 - v1) ≤ ((r25.1 &&& (r4 - (1 : UInt64))).toNat : Int))) rfl (fun h29 => ?_) (fun h29 => ?_)
     ·replace hx31 := cdT h29 hx31
      refine Tr.region (Rg.m rfl (Rg.m rfl ?_))
      obtain ⟨h33, hx31⟩ := gd.of hx31
      refine Rg.p (p_sub rfl rfl h33) (Rg.a rfl (Rg.nl ?_))
      replace hx31 := Option.some.inj hx31; subst hx31
      exact nMC () ⟨rfl, rfl, rfl, rfl, rfl, rfl, rfl, trivial⟩ Ents.refl (.cons dl1 (.cons Del.here .nil))
     ·replace hx31 := cdF h29 hx31
      refine tSkip ?_
      replace hx31 := Option.some.inj hx31; subst hx31
      exact nMC () ⟨rfl, rfl, rfl, rfl, rfl, rfl, rfl, trivial⟩ Ents.refl (.cons dl1 (.cons Del.here .nil))
    ·intro y32
     show Tr _ _ _ _ _ [(0, .slice x_v0.1 v0.length x_v0.2), (1, .int .i64 (v1)), (8, .int .i64 (v2 - v1)), (9, .pointer (some ⟨g3, 0, none⟩)), (10, .int .u64 (r4.toNat : Int)), (11, .int .i64 (Q14.2.2)), (12, .int .i64 (x30))] _ [tree (.slice x_v0.1 v0.length x_v0.2) Q14.1, box g3 187 [.int .u64 (r25.2.toNat : Int)]]
     refine tNwS [(0, .slice x_v0.1 v0.length x_v0.2), (1, .int .i64 (v1)), (8, .int .i64 (v2 - v1)), (9, .pointer (some ⟨g3, 0, none⟩)), (10, .int .u64 (r4.toNat : Int)), (11, .int .i64 (Q14.2.2)), (12, .int .i64 (x30))] 1 [0, 1, 2, 3, 4, 5, 6, 7, 8, 9, 10, 11, 12, 13, 14, 15, 16, 17, 18, 19] [17, 19] [] Tryz.mixed (by kernel_rfl) (by decide) List.nodup_nil ⟨rfl, rfl, rfl, rfl, rfl, rfl, rfl, trivial⟩ rfl okNil (w_p rfl (p_move rfl) (w_p rfl (p_move rfl) (w_p rfl (p_move rfl) (w_p rfl (p_move rfl) (w_p rfl (p_move rfl) ?_)))))
     obtain ⟨h34, H1⟩ := gd.of H1
     refine w_p rfl (p_add rfl rfl h34) (w_p rfl (p_move rfl) (w_p rfl (p_move rfl) (w_p rfl (p_move rfl) (w_p rfl (p_add rfl rfl h34) ?_))))
     obtain ⟨h35, H1⟩ := gd.of H1
     refine w_o rfl (fun F => (q_ixO' Tryz.underlying33 ty113 rfl rfl h35 (Has.here.app F))) ?_
     refine w_o (v := .agg #[.string (((nth Q14.1 ((v1 + x30).toNat)).1).1), .string (((nth Q14.1 ((v1 + x30).toNat)).1).2), ((nth Q14.1 ((v1 + x30).toNat)).2).1]) rfl (fun F => (q_ldeA (i := (v1 + x30).toNat) ty113 rfl (EntB.flat (EntB.tree (Has.here.app F))) h35.lt)) (w_p rfl (p_move rfl) (w_p rfl (p_move rfl) ?_))
     obtain ⟨h36, H1⟩ := gd.of H1
     refine w_o rfl (fun F => (q_ixO' Tryz.underlying33 ty113 rfl rfl h36 (Has.here.app F))) ?_
     refine w_o (v := .agg #[.string (((nth Q14.1 Q14.2.2.toNat).1).1), .string (((nth Q14.1 Q14.2.2.toNat).1).2), ((nth Q14.1 Q14.2.2.toNat).2).1]) rfl (fun F => (q_ldeA (i := Q14.2.2.toNat) ty113 rfl (EntB.flat (EntB.tree (Has.here.app F))) h36.lt)) ?_
     refine w_o rfl (fun F => (q_ixO' Tryz.underlying33 ty113 rfl rfl h36 (Has.here.app F))) (w_en rfl rfl Rdy.nil rfl (n_setT (l := Q14.1) (α := PostH) (oa := x_v0.1) Q14.2.2.toNat (nth Q14.1 ((v1 + x30).toNat)) (((), ()), ()) ty113 rfl rfl rfl h36.lt (ShpT.wfa _) (.cons Del.here .nil)) ?_)
     rintro _ _ _ ⟨rfl, rfl, rfl⟩
     obtain ⟨h37, H1⟩ := gd.of H1
     refine ⟨(PdOk.anc (by kernel_rfl) (PdOk.anc (by kernel_rfl) (PdOk.q rfl rfl (fun F => (q_ixO' Tryz.underlying33 ty113 rfl rfl h37 (Has.here.app F))) (PdOk.anc (by kernel_rfl) (PdOk.anc (by kernel_rfl) PdOk.nil))))), ?_⟩
     obtain ⟨h38, H1⟩ := gd.of H1
     refine w_o rfl (fun F => (q_ixO' Tryz.underlying33 ty113 rfl rfl h38 (Has.here.app F))) (w_en rfl rfl Rdy.nil rfl (n_setT (l := (Q14.1.set Q14.2.2.toNat (nth Q14.1 ((v1 + x30).toNat)))) (α := PostH) (oa := x_v0.1) ((v1 + x30).toNat) (nth Q14.1 Q14.2.2.toNat) (((), ()), ()) ty113 rfl rfl rfl h38.lt (ShpT.wfa _) (.cons Del.here .nil)) ?_)
     rintro _ _ _ ⟨rfl, rfl, rfl⟩
     refine ⟨(PdOk.anc (by kernel_rfl) (PdOk.anc (by kernel_rfl) (PdOk.anc (by kernel_rfl) (PdOk.anc (by kernel_rfl) (PdOk.anc (by kernel_rfl) (PdOk.anc (by kernel_rfl) PdOk.nil)))))), ?_⟩
     refine w_nil ?_
     show At _ _ _ _ _ _
     refine nB (nT (?_))
     refine Tr.olen Has.here fun hn39 => (Tr.region (Rg.m rfl ?_))
     obtain ⟨h40, H1⟩ := gd.of H1
     refine Rg.p (p_add rfl rfl h40) (Rg.a rfl (Rg.nl ?_))
     exact nLC ⟨(m21, (((Q14.1.set Q14.2.2.toNat (nth Q14.1 ((v1 + x30).toNat))).set ((v1 + x30).toNat) (nth Q14.1 Q14.2.2.toNat)), r25.2, Q14.2.2 + 1), ()), hi18 _ (Option.some.inj H1).symm⟩ (Nat.lt_succ_self _) ⟨rfl, rfl, rfl, rfl, rfl, rfl, trivial⟩ Ents.refl (.cons Del.here (.cons Del.here .nil))
   ·have H1 := cdF h24 H1
    refine tExit (xT (xT (xE (?_))))
    have hx := hb19 _ (Option.some.inj H1).symm; subst hx
    exact nMC () trivial Ents.refl (.cons Del.here .nil)
  ·intro y16
   show At _ _ [] _ [tree (.slice x_v0.1 v0.length x_v0.2) x10] _
   obtain rfl := si H
   exact back0n () rfl  rfl Ents.nil (.cons Del.here .nil)
 ·have H := cdF h2 H
  refine tSkip ?_
  obtain rfl := si H
  exact back0n () rfl  rfl Ents.nil (.cons Del.here .nil)
noncomputable def p_pdqsortH_b0 (rc : (List PostH) → Int → Int → Int → Option ((List PostH))) (Q5 : (List PostH) × Int × Int × Int × Bool × Bool) : Option (((List PostH) × Int × Int × Int × Bool × Bool) ⊕ (Unit ⊕ (List PostH))) := gd (I64 (Q5.2.2.1 - Q5.2.1)) <| cond (decide ((Q5.2.2.1 - Q5.2.1) ≤ 12)) (bd (p_insertionSortH Q5.1 Q5.2.1 Q5.2.2.1) fun r16 => some (.inr (.inr r16))) (cond (decide (Q5.2.2.2.1 = 0)) (bd (p_heapSortH Q5.1 Q5.2.1 Q5.2.2.1) fun r21 => some (.inr (.inr r21))) (bd (cond (!Q5.2.2.2.2.1) (bd (p_breakPatternsH Q5.1 Q5.2.1 Q5.2.2.1) fun r29 => gd (I64 (Q5.2.2.2.1 - 1)) <| some (r29, Q5.2.2.2.1 - 1)) (some (Q5.1, Q5.2.2.2.1))) fun x26 => bd (p_choosePivotH x26.1 Q5.2.1 Q5.2.2.1) fun r35 => bd (cond (decide (r35.2 = 2)) (bd (p_reverseRangeH x26.1 Q5.2.1 Q5.2.2.1) fun r41 => gd (I64 (Q5.2.2.1 - 1)) <| gd (I64 (r35.1 - Q5.2.1)) <| gd (I64 ((Q5.2.2.1 - 1) - (r35.1 - Q5.2.1))) <| some (r41, (Q5.2.2.1 - 1) - (r35.1 - Q5.2.1), 1)) (some (x26.1, r35.1, r35.2))) fun x38 => bd (cond (Q5.2.2.2.2.1) (cond (Q5.2.2.2.2.2) (some (decide (x38.2.2 = 1))) (some (false))) (some (false))) fun b49 => cond (b49) (bd (p_partialInsertionSortH x38.1 Q5.2.1 Q5.2.2.1) fun r54 => cond (r54.1) (some (.inr (.inr r54.2))) (bd (cond (decide (0 < Q5.2.1)) (gd (I64 (Q5.2.1 - 1)) <| gd (ix (Q5.2.1 - 1) r54.2.length) <| gd (ix x38.2.1 r54.2.length) <| bd (p_impl_indexOf_2 (nth r54.2 ((Q5.2.1 - 1).toNat)) (nth r54.2 x38.2.1.toNat)) fun r66 => some (!(decide (r66 < 0)))) (some (false))) fun b60 => cond (b60) (bd (p_partitionEqualH r54.2 Q5.2.1 Q5.2.2.1 x38.2.1) fun r69 => some (.inl (r69.2, r69.1, Q5.2.2.1, x26.2, Q5.2.2.2.2.1, Q5.2.2.2.2.2))) (bd (p_partitionH r54.2 Q5.2.1 Q5.2.2.1 x38.2.1) fun r73 => gd (I64 (r73.1 - Q5.2.1)) <| gd (I64 (Q5.2.2.1 - r73.1)) <| gd (I64 ((Q5.2.2.1 - Q5.2.1).tdiv 8)) <| cond (decide ((r73.1 - Q5.2.1) < (Q5.2.2.1 - r73.1))) (bd (rc r73.2.2 Q5.2.1 r73.1 x26.2) fun r81 => gd (I64 (r73.1 + 1)) <| some (.inl (r81, r73.1 + 1, Q5.2.2.1, x26.2, decide (((Q5.2.2.1 - Q5.2.1).tdiv 8) ≤ (r73.1 - Q5.2.1)), r73.2.1))) (gd (I64 (r73.1 + 1)) <| bd (rc r73.2.2 (r73.1 + 1) Q5.2.2.1 x26.2) fun r87 => some (.inl (r87, Q5.2.1, r73.1, x26.2, decide (((Q5.2.2.1 - Q5.2.1).tdiv 8) ≤ (Q5.2.2.1 - r73.1)), r73.2.1)))))) (bd (cond (decide (0 < Q5.2.1)) (gd (I64 (Q5.2.1 - 1)) <| gd (ix (Q5.2.1 - 1) x38.1.length) <| gd (ix x38.2.1 x38.1.length) <| bd (p_impl_indexOf_2 (nth x38.1 ((Q5.2.1 - 1).toNat)) (nth x38.1 x38.2.1.toNat)) fun r97 => some (!(decide (r97 < 0)))) (some (false))) fun b91 => cond (b91) (bd (p_partitionEqualH x38.1 Q5.2.1 Q5.2.2.1 x38.2.1) fun r100 => some (.inl (r100.2, r100.1, Q5.2.2.1, x26.2, Q5.2.2.2.2.1, Q5.2.2.2.2.2))) (bd (p_partitionH x38.1 Q5.2.1 Q5.2.2.1 x38.2.1) fun r104 => gd (I64 (r104.1 - Q5.2.1)) <| gd (I64 (Q5.2.2.1 - r104.1)) <| gd (I64 ((Q5.2.2.1 - Q5.2.1).tdiv 8)) <| cond (decide ((r104.1 - Q5.2.1) < (Q5.2.2.1 - r104.1))) (bd (rc r104.2.2 Q5.2.1 r104.1 x26.2) fun r112 => gd (I64 (r104.1 + 1)) <| some (.inl (r112, r104.1 + 1, Q5.2.2.1, x26.2, decide (((Q5.2.2.1 - Q5.2.1).tdiv 8) ≤ (r104.1 - Q5.2.1)), r104.2.1))) (gd (I64 (r104.1 + 1)) <| bd (rc r104.2.2 (r104.1 + 1) Q5.2.2.1 x26.2) fun r118 => some (.inl (r118, Q5.2.1, r104.1, x26.2, decide (((Q5.2.2.1 - Q5.2.1).tdiv 8) ≤ (Q5.2.2.1 - r104.1)), r104.2.1)))))))
noncomputable def p_pdqsortH_s (rc : (List PostH) → Int → Int → Int → Option ((List PostH))) (v0 : (List PostH)) (v1 : Int) (v2 : Int) (v3 : Int) : Option ((List PostH)) := bd (lp (p_pdqsortH_b0 rc) (v0, v1, v2, v3, true, true)) <| sw (fun _ => some v0) (fun q => some q)
noncomputable def p_pdqsortH : Nat → (List PostH) → Int → Int → Int → Option ((List PostH))
 | 0 => fun _ _ _ _ => none
 | n + 1 => p_pdqsortH_s (p_pdqsortH n)
theorem c_pdqsortH (n : Nat) : ∀ {r : (List PostH)} (v0 : (List PostH)) (x_v0 : Option Addr × Nat) (n_v0 : Nat) (_ : n_v0 = v0.length) (v1 : Int) (v2 : Int) (v3 : Int) (_ : p_pdqsortH n v0 v1 v2 v3 = some r), Fn' Tryz.prog 147 #[.slice x_v0.1 n_v0 x_v0.2, .int .i64 (v1), .int .i64 (v2), .int .i64 (v3), .func (.func 129) #[] #[]] [] [tree (.slice x_v0.1 n_v0 x_v0.2) v0] (ι := Unit) (fun _ => .tuple #[]) (fun _ => []) (fun _ => [tree (.slice x_v0.1 n_v0 x_v0.2) r]) := by
 induction n with
 | zero => intros; rename_i H; exact absurd H (by unfold p_pdqsortH; simp)
 | succ n ih =>
 intro r v0 x_v0 n_v0 e_v0 v1 v2 v3 H
 change p_pdqsortH_s (p_pdqsortH n) v0 v1 v2 v3 = some r at H
 generalize p_pdqsortH n = rc at H ih
 subst e_v0
 refine calls_of (args := [_, _, _, _, _]) Tryz.func147 rfl (by kernel_rfl) Tryz.ntmps147 (by simp) fun c => ?_
 unfold p_pdqsortH_s at H
 refine Tr.seq (Tr.region (Rg.a (v := .bool (true)) rfl (Rg.nl (nT (?_)))))
 refine Tr.seq (Tr.region (Rg.a (v := .bool (true)) rfl (Rg.nl (nT (?_)))))
 obtain ⟨x1, hx2, H⟩ := bd.of H
 obtain ⟨n3, hx2⟩ := lp.of hx2
 refine tMidNC (ι := { q : (Unit) × Unit // x1 = .inl q.1 }) (fun ψ => []) (fun ψ => [tree (.slice x_v0.1 v0.length x_v0.2) v0]) ?_ ?_
 ·refine Tr.block (tLoopC (ι := { q : Nat × ((List PostH) × Int × Int × Int × Bool × Bool) × Unit // itr (p_pdqsortH_b0 rc) q.1 q.2.1 = some x1 }) (fun ζ => [(0, .slice x_v0.1 v0.length x_v0.2), (1, .int .i64 (ζ.1.2.1.2.1)), (2, .int .i64 (ζ.1.2.1.2.2.1)), (3, .int .i64 (ζ.1.2.1.2.2.2.1)), (4, .func (.func 129) #[] #[]), (10, .bool (ζ.1.2.1.2.2.2.2.1)), (11, .bool (ζ.1.2.1.2.2.2.2.2))]) (fun ζ => [tree (.slice x_v0.1 v0.length x_v0.2) ζ.1.2.1.1]) (fun ζ => ζ.1.1) ⟨(n3, (v0, v1, v2, v3, true, true), ()), hx2⟩ ⟨rfl, rfl, rfl, rfl, rfl, rfl, rfl, trivial⟩ (.cons Del.here .nil) ?_)
  rintro ⟨⟨m4, Q5, z6⟩, hk11⟩
  obtain ⟨m12, t8, e, H1, hi9, hb10⟩ := itr.of (n := m4) (s := Q5) hk11
  subst e; unfold p_pdqsortH_b0 at H1
  show Tr _ _ _ _ _ [(0, .slice x_v0.1 v0.length x_v0.2), (1, .int .i64 (Q5.2.1)), (2, .int .i64 (Q5.2.2.1)), (3, .int .i64 (Q5.2.2.2.1)), (4, .func (.func 129) #[] #[]), (10, .bool (Q5.2.2.2.2.1)), (11, .bool (Q5.2.2.2.2.2))] _ [tree (.slice x_v0.1 v0.length x_v0.2) Q5.1]
  refine Tr.block (Tr.seq (Tr.olen Has.here fun hn13 => (Tr.region (Rg.m rfl (Rg.m rfl ?_)))))
  obtain ⟨h14, H1⟩ := gd.of H1
  refine Rg.p (p_sub rfl rfl h14) (Rg.a rfl (Rg.nl (nT (?_))))
  refine Tr.seq (Tr.seq (Tr.region (Rg.m rfl (Rg.p (p_leq rfl rfl) (Rg.nl ?_)))))
  refine nT (?_)
  refine Tr.cond (b := decide ((Q5.2.2.1 - Q5.2.1) ≤ 12)) rfl (fun h15 => ?_) (fun h15 => ?_)
  ·have H1 := cdT h15 H1
   refine Tr.seq (Tr.region (Rg.m rfl (Rg.m rfl (Rg.m rfl (Rg.m rfl ?_)))))
   obtain ⟨r16, h17, H1⟩ := bd.of H1
   refine Rg.ef (e_callM (c_insertionSortH Q5.1 x_v0 v0.length hn13 Q5.2.1 Q5.2.2.1 h17) (Solo.tree Solo.nil) (fun _ => (Solo.tree Solo.nil)) rfl (.cons Del.here .nil) EntsB.nil) rfl ?_
   rintro _ _ _ ⟨u18, rfl, rfl, rfl⟩
   refine Rg.nl (nT (?_))
   refine Tr.olen Has.here fun hn19 => (tRet (rT (rB (rT (rB (rT (?_)))))))
   have hx := hb10 _ (Option.some.inj H1).symm; subst hx
   replace H := sw.r H
   obtain rfl := si H
   exact back0 () rfl  rfl Ents.nil (.cons Del.here .nil)
  ·have H1 := cdF h15 H1
   refine tSkip (nT (?_))
   refine Tr.seq (Tr.seq (Tr.region (Rg.m rfl (Rg.p (p_eql rfl rfl) (Rg.nl ?_)))))
   refine nT (?_)
   refine Tr.cond (b := decide (Q5.2.2.2.1 = 0)) rfl (fun h20 => ?_) (fun h20 => ?_)
   ·have H1 := cdT h20 H1
    refine Tr.seq (Tr.region (Rg.m rfl (Rg.m rfl (Rg.m rfl (Rg.m rfl ?_)))))
    obtain ⟨r21, h22, H1⟩ := bd.of H1
    refine Rg.ef (e_callM (c_heapSortH Q5.1 x_v0 v0.length hn13 Q5.2.1 Q5.2.2.1 h22) (Solo.tree Solo.nil) (fun _ => (Solo.tree Solo.nil)) rfl (.cons Del.here .nil) EntsB.nil) rfl ?_
    rintro _ _ _ ⟨u23, rfl, rfl, rfl⟩
    refine Rg.nl (nT (?_))
    refine Tr.olen Has.here fun hn24 => (tRet (rT (rB (rT (rB (rT (?_)))))))
    have hx := hb10 _ (Option.some.inj H1).symm; subst hx
    replace H := sw.r H
    obtain rfl := si H
    exact back0 () rfl  rfl Ents.nil (.cons Del.here .nil)
   ·have H1 := cdF h20 H1
    refine tSkip (nT (?_))
    refine Tr.seq (Tr.seq (Tr.region (Rg.m rfl (Rg.p (p_not rfl) (Rg.nl ?_)))))
    refine nT (?_)
    obtain ⟨x26, hx27, H1⟩ := bd.of H1
    refine tMidC0 (ι := Unit) (fun ψ => [(0, .slice x_v0.1 v0.length x_v0.2), (1, .int .i64 (Q5.2.1)), (2, .int .i64 (Q5.2.2.1)), (3, .int .i64 (x26.2)), (4, .func (.func 129) #[] #[]), (10, .bool (Q5.2.2.2.2.1)), (11, .bool (Q5.2.2.2.2.2)), (12, .int .i64 (Q5.2.2.1 - Q5.2.1))]) (fun ψ => [tree (.slice x_v0.1 v0.length x_v0.2) x26.1]) ?_ ?_
    ·refine Tr.cond (b := !Q5.2.2.2.2.1) rfl (fun h25 => ?_) (fun h25 => ?_)
     ·replace hx27 := cdT h25 hx27
      refine Tr.seq (Tr.region (Rg.m rfl (Rg.m rfl (Rg.m rfl (Rg.m rfl ?_)))))
      obtain ⟨r29, h30, hx27⟩ := bd.of hx27
      refine Rg.ef (e_callM (c_breakPatternsH Q5.1 x_v0 v0.length hn13 Q5.2.1 Q5.2.2.1 h30) (Solo.tree Solo.nil) (fun _ => (Solo.tree Solo.nil)) rfl (.cons Del.here .nil) EntsB.nil) rfl ?_
      rintro _ _ _ ⟨u31, rfl, rfl, rfl⟩
      refine Rg.nl (nT (?_))
      refine Tr.olen Has.here fun hn32 => (Tr.region (Rg.m rfl ?_))
      obtain ⟨h33, hx27⟩ := gd.of hx27
      refine Rg.p (p_sub rfl rfl h33) (Rg.a rfl (Rg.nl ?_))
      replace hx27 := Option.some.inj hx27; subst hx27
      exact nMC () ⟨rfl, rfl, rfl, rfl, rfl, rfl, rfl, rfl, trivial⟩ Ents.refl (.cons Del.here .nil)
     ·replace hx27 := cdF h25 hx27
      refine tSkip ?_
      replace hx27 := Option.some.inj hx27; subst hx27
      exact nMC () ⟨rfl, rfl, rfl, rfl, rfl, rfl, rfl, rfl, trivial⟩ Ents.refl (.cons Del.here .nil)
    ·intro y28
     show Tr _ _ _ _ _ [(0, .slice x_v0.1 v0.length x_v0.2), (1, .int .i64 (Q5.2.1)), (2, .int .i64 (Q5.2.2.1)), (3, .int .i64 (x26.2)), (4, .func (.func 129) #[] #[]), (10, .bool (Q5.2.2.2.2.1)), (11, .bool (Q5.2.2.2.2.2)), (12, .int .i64 (Q5.2.2.1 - Q5.2.1))] _ [tree (.slice x_v0.1 v0.length x_v0.2) x26.1]
     refine Tr.seq (Tr.olen Has.here fun hn34 => (Tr.region (Rg.m rfl (Rg.m rfl (Rg.m rfl ?_)))))
     refine Rg.m rfl ?_
     obtain ⟨r35, h36, H1⟩ := bd.of H1
     refine Rg.o (q_call (c_choosePivotH x26.1 x_v0 v0.length hn34 Q5.2.1 Q5.2.2.1 h36) rfl (EntsB.cons (EntB.tree Has.here) EntsB.nil)) (Rg.m rfl (Rg.p (p_extract rfl rfl) (Rg.p (p_extract rfl rfl) (Rg.a rfl (Rg.a rfl ?_)))))
     refine Rg.nl (nT (?_))
     refine Tr.seq (Tr.seq (Tr.region (Rg.m rfl (Rg.p (p_eql rfl rfl) (Rg.nl ?_)))))
     refine nT (?_)
     obtain ⟨x38, hx39, H1⟩ := bd.of H1
     refine tMidC0 (ι := Unit) (fun ψ => [(0, .slice x_v0.1 v0.length x_v0.2), (1, .int .i64 (Q5.2.1)), (2, .int .i64 (Q5.2.2.1)), (3, .int .i64 (x26.2)), (4, .func (.func 129) #[] #[]), (10, .bool (Q5.2.2.2.2.1)), (11, .bool (Q5.2.2.2.2.2)), (12, .int .i64 (Q5.2.2.1 - Q5.2.1)), (13, .int .i64 (x38.2.1)), (14, .int .i64 (x38.2.2))]) (fun ψ => [tree (.slice x_v0.1 v0.length x_v0.2) x38.1]) ?_ ?_
     ·refine Tr.cond (b := decide (r35.2 = 2)) rfl (fun h37 => ?_) (fun h37 => ?_)
      ·replace hx39 := cdT h37 hx39
       refine Tr.seq (Tr.region (Rg.m rfl (Rg.m rfl (Rg.m rfl (Rg.m rfl ?_)))))
       obtain ⟨r41, h42, hx39⟩ := bd.of hx39
       refine Rg.ef (e_callM (c_reverseRangeH x26.1 x_v0 v0.length hn34 Q5.2.1 Q5.2.2.1 h42) (Solo.tree Solo.nil) (fun _ => (Solo.tree Solo.nil)) rfl (.cons Del.here .nil) EntsB.nil) rfl ?_
       rintro _ _ _ ⟨u43, rfl, rfl, rfl⟩
       refine Rg.nl (nT (?_))
       refine Tr.seq (Tr.olen Has.here fun hn44 => (Tr.region (Rg.m rfl ?_)))
       obtain ⟨h45, hx39⟩ := gd.of hx39
       refine Rg.p (p_sub rfl rfl h45) (Rg.m rfl (Rg.m rfl ?_))
       obtain ⟨h46, hx39⟩ := gd.of hx39
       refine Rg.p (p_sub rfl rfl h46) ?_
       obtain ⟨h47, hx39⟩ := gd.of hx39
       refine Rg.p (p_sub rfl rfl h47) (Rg.a rfl (Rg.nl (nT (?_))))
       refine Tr.region (Rg.a (v := .int .i64 (1)) rfl (Rg.nl ?_))
       replace hx39 := Option.some.inj hx39; subst hx39
       exact nMC () ⟨rfl, rfl, rfl, rfl, rfl, rfl, rfl, rfl, rfl, rfl, trivial⟩ Ents.refl (.cons Del.here .nil)
      ·replace hx39 := cdF h37 hx39
       refine tSkip ?_
       replace hx39 := Option.some.inj hx39; subst hx39
       exact nMC () ⟨rfl, rfl, rfl, rfl, rfl, rfl, rfl, rfl, rfl, rfl, trivial⟩ Ents.refl (.cons Del.here .nil)
     ·intro y40
      show Tr _ _ _ _ _ [(0, .slice x_v0.1 v0.length x_v0.2), (1, .int .i64 (Q5.2.1)), (2, .int .i64 (Q5.2.2.1)), (3, .int .i64 (x26.2)), (4, .func (.func 129) #[] #[]), (10, .bool (Q5.2.2.2.2.1)), (11, .bool (Q5.2.2.2.2.2)), (12, .int .i64 (Q5.2.2.1 - Q5.2.1)), (13, .int .i64 (x38.2.1)), (14, .int .i64 (x38.2.2))] _ [tree (.slice x_v0.1 v0.length x_v0.2) x38.1]
      refine Tr.seq (Tr.olen Has.here fun hn48 => ?_)
      obtain ⟨b49, j50, H1⟩ := bd.of H1
      refine tMid1 [(75, .bool (b49)), (0, .slice x_v0.1 v0.length x_v0.2), (1, .int .i64 (Q5.2.1)), (2, .int .i64 (Q5.2.2.1)), (3, .int .i64 (x26.2)), (4, .func (.func 129) #[] #[]), (10, .bool (Q5.2.2.2.2.1)), (11, .bool (Q5.2.2.2.2.2)), (12, .int .i64 (Q5.2.2.1 - Q5.2.1)), (13, .int .i64 (x38.2.1))] ?_ ?_
      ·refine tLinT [(0, .slice x_v0.1 v0.length x_v0.2), (1, .int .i64 (Q5.2.1)), (2, .int .i64 (Q5.2.2.1)), (3, .int .i64 (x26.2)), (4, .func (.func 129) #[] #[]), (10, .bool (Q5.2.2.2.2.1)), (11, .bool (Q5.2.2.2.2.2)), (12, .int .i64 (Q5.2.2.1 - Q5.2.1)), (13, .int .i64 (x38.2.1)), (14, .int .i64 (x38.2.2))] ⟨rfl, rfl, rfl, rfl, rfl, rfl, rfl, rfl, rfl, rfl, trivial⟩ (Lin.m rfl ?_)
       rcases Bool.eq_false_or_eq_true (Q5.2.2.2.2.1) with h51 | h51
       ·have j50 := cdT h51 j50
        refine Lin.e_ (p_move rfl) h51 (Lin.h rfl (p_move rfl) (Lin.p (p_pickT rfl rfl) ?_))
        rcases Bool.eq_false_or_eq_true (Q5.2.2.2.2.2) with h52 | h52
        ·have j50 := cdT h52 j50
         refine Lin.e_ (p_move rfl) h52 (Lin.h rfl (p_move rfl) (Lin.h rfl (p_eql rfl rfl) (Lin.p (p_pickT rfl rfl) ?_)))
         obtain rfl := si j50
         show At _ _ _ _ _ _
         exact n1 ⟨rfl, rfl, rfl, rfl, rfl, rfl, rfl, rfl, rfl, rfl, trivial⟩
        ·have j50 := cdF h52 j50
         refine Lin.e_ (p_move rfl) h52 ?_
         iterate 2 refine Lin.sk rfl ?_
         refine Lin.p (v := .bool (false)) (p_pickF rfl rfl) ?_
         obtain rfl := si j50
         show At _ _ _ _ _ _
         exact n1 ⟨rfl, rfl, rfl, rfl, rfl, rfl, rfl, rfl, rfl, rfl, trivial⟩
       ·have j50 := cdF h51 j50
        refine Lin.e_ (p_move rfl) h51 (Lin.sk rfl (Lin.p (v := .bool (false)) (p_pickF rfl rfl) (Lin.m (v := .bool (false)) rfl ?_)))
        iterate 2 refine Lin.sk rfl ?_
        refine Lin.p (v := .bool (false)) (p_pickF rfl rfl) ?_
        obtain rfl := si j50
        show At _ _ _ _ _ _
        exact n1 ⟨rfl, rfl, rfl, rfl, rfl, rfl, rfl, rfl, rfl, rfl, trivial⟩
      refine Tr.cond (b := b49) rfl (fun h53 => ?_) (fun h53 => ?_)
      ·have H1 := cdT h53 H1
       refine Tr.seq (Tr.region (Rg.m rfl (Rg.m rfl (Rg.m rfl (Rg.m rfl ?_)))))
       obtain ⟨r54, h55, H1⟩ := bd.of H1
       refine Rg.ef (e_callM (c_partialInsertionSortH x38.1 x_v0 v0.length hn48 Q5.2.1 Q5.2.2.1 h55) (Solo.tree Solo.nil) (fun _ => (Solo.tree Solo.nil)) rfl (.cons Del.here .nil) EntsB.nil) rfl ?_
       rintro _ _ _ ⟨u56, rfl, rfl, rfl⟩
       refine Rg.nl (nT (?_))
       refine Tr.cond (b := r54.1) rfl (fun h57 => ?_) (fun h57 => ?_)
       ·have H1 := cdT h57 H1
        refine Tr.olen Has.here fun hn58 => (tRet (rT (rB (rT (rB (rT (?_)))))))
        have hx := hb10 _ (Option.some.inj H1).symm; subst hx
        replace H := sw.r H
        obtain rfl := si H
        exact back0 () rfl  rfl Ents.nil (.cons Del.here .nil)
       ·have H1 := cdF h57 H1
        refine tSkip (nT (?_))
        refine Tr.seq (Tr.olen Has.here fun hn59 => ?_)
        obtain ⟨b60, j61, H1⟩ := bd.of H1
        refine tMid1 [(97, .bool (b60)), (0, .slice x_v0.1 v0.length x_v0.2), (1, .int .i64 (Q5.2.1)), (2, .int .i64 (Q5.2.2.1)), (3, .int .i64 (x26.2)), (4, .func (.func 129) #[] #[]), (10, .bool (Q5.2.2.2.2.1)), (11, .bool (Q5.2.2.2.2.2)), (12, .int .i64 (Q5.2.2.1 - Q5.2.1)), (13, .int .i64 (x38.2.1))] ?_ ?_
        ·refine tLinS [(0, .slice x_v0.1 v0.length x_v0.2), (1, .int .i64 (Q5.2.1)), (2, .int .i64 (Q5.2.2.1)), (3, .int .i64 (x26.2)), (4, .func (.func 129) #[] #[]), (10, .bool (Q5.2.2.2.2.1)), (11, .bool (Q5.2.2.2.2.2)), (12, .int .i64 (Q5.2.2.1 - Q5.2.1)), (13, .int .i64 (x38.2.1))] Tryz.mixed (.inr (by kernel_rfl)) ⟨rfl, rfl, rfl, rfl, rfl, rfl, rfl, rfl, rfl, trivial⟩ rfl (Lin.m rfl (Lin.p (p_gtr rfl rfl) ?_))
         rcases Bool.eq_false_or_eq_true (decide (0 < Q5.2.1)) with h62 | h62
         ·have j61 := cdT h62 j61
          refine Lin.e_ (p_move rfl) h62 (Lin.h rfl (p_move rfl) (Lin.h rfl (p_move rfl) (Lin.h rfl (p_move rfl) ?_)))
          obtain ⟨h63, j61⟩ := gd.of j61
          refine Lin.h rfl (p_sub rfl rfl h63) ?_
          obtain ⟨h64, j61⟩ := gd.of j61
          refine Lin.i rfl (q_ixO' Tryz.underlying33 ty113 rfl rfl h64 Has.here) (Lin.i (v := .agg #[.string (((nth r54.2 ((Q5.2.1 - 1).toNat)).1).1), .string (((nth r54.2 ((Q5.2.1 - 1).toNat)).1).2), ((nth r54.2 ((Q5.2.1 - 1).toNat)).2).1]) rfl (q_ldeA (i := (Q5.2.1 - 1).toNat) ty113 rfl (EntB.flat (EntB.tree Has.here)) h64.lt) (Lin.h rfl (p_move rfl) (Lin.h rfl (p_move rfl) ?_)))
          obtain ⟨h65, j61⟩ := gd.of j61
          refine Lin.i rfl (q_ixO' Tryz.underlying33 ty113 rfl rfl h65 Has.here) (Lin.i (v := .agg #[.string (((nth r54.2 x38.2.1.toNat).1).1), .string (((nth r54.2 x38.2.1.toNat).1).2), ((nth r54.2 x38.2.1.toNat).2).1]) rfl (q_ldeA (i := x38.2.1.toNat) ty113 rfl (EntB.flat (EntB.tree Has.here)) h65.lt) ?_)
          obtain ⟨r66, h67, j61⟩ := bd.of j61
          refine Lin.i (v := .int .i64 (r66)) rfl (Ex.dyn (caps := []) (vs := [.agg #[.string (((nth r54.2 ((Q5.2.1 - 1).toNat)).1).1), .string (((nth r54.2 ((Q5.2.1 - 1).toNat)).1).2), ((nth r54.2 ((Q5.2.1 - 1).toNat)).2).1], .agg #[.string (((nth r54.2 x38.2.1.toNat).1).1), .string (((nth r54.2 x38.2.1.toNat).1).2), ((nth r54.2 x38.2.1.toNat).2).1]]) rfl rfl (q_call (c_impl_indexOf_2 (nth r54.2 ((Q5.2.1 - 1).toNat)) (nth r54.2 x38.2.1.toNat) h67) rfl EntsB.nil)) (Lin.h rfl (p_lss rfl rfl) (Lin.h rfl (p_not rfl) (Lin.p (p_pickT rfl rfl) ?_)))
          obtain rfl := si j61
          show At _ _ _ _ _ _
          exact n1 ⟨rfl, rfl, rfl, rfl, rfl, rfl, rfl, rfl, rfl, rfl, trivial⟩
         ·have j61 := cdF h62 j61
          refine Lin.e_ (p_move rfl) h62 ?_
          iterate 13 refine Lin.sk rfl ?_
          refine Lin.p (v := .bool (false)) (p_pickF rfl rfl) ?_
          obtain rfl := si j61
          show At _ _ _ _ _ _
          exact n1 ⟨rfl, rfl, rfl, rfl, rfl, rfl, rfl, rfl, rfl, rfl, trivial⟩
        refine Tr.cond (b := b60) rfl (fun h68 => ?_) (fun h68 => ?_)
        ·have H1 := cdT h68 H1
         refine Tr.seq (Tr.region (Rg.m rfl (Rg.m rfl (Rg.m rfl (Rg.m rfl ?_)))))
         refine Rg.m rfl ?_
         obtain ⟨r69, h70, H1⟩ := bd.of H1
         refine Rg.ef (e_callM (c_partitionEqualH r54.2 x_v0 v0.length hn59 Q5.2.1 Q5.2.2.1 x38.2.1 h70) (Solo.tree Solo.nil) (fun _ => (Solo.tree Solo.nil)) rfl (.cons Del.here .nil) EntsB.nil) rfl ?_
         rintro _ _ _ ⟨u71, rfl, rfl, rfl⟩
         refine Rg.a rfl (Rg.nl (nT (?_)))
         refine Tr.seq (Tr.olen Has.here fun hn72 => (Tr.region (Rg.m rfl (Rg.a rfl (Rg.nl ?_)))))
         refine nT (?_)
         refine tExit (xT (xE (?_)))
         exact nLC ⟨(m12, (r69.2, r69.1, Q5.2.2.1, x26.2, Q5.2.2.2.2.1, Q5.2.2.2.2.2), ()), hi9 _ (Option.some.inj H1).symm⟩ (Nat.lt_succ_self _) ⟨rfl, rfl, rfl, rfl, rfl, rfl, rfl, trivial⟩ Ents.refl (.cons Del.here .nil)
        ·have H1 := cdF h68 H1
         refine tSkip (nT (?_))
         refine Tr.seq (Tr.region (Rg.m rfl (Rg.m rfl (Rg.m rfl (Rg.m rfl ?_)))))
         refine Rg.m rfl ?_
         obtain ⟨r73, h74, H1⟩ := bd.of H1
         refine Rg.ef (e_callM (c_partitionH r54.2 x_v0 v0.length hn59 Q5.2.1 Q5.2.2.1 x38.2.1 h74) (Solo.tree Solo.nil) (fun _ => (Solo.tree Solo.nil)) rfl (.cons Del.here .nil) EntsB.nil) rfl ?_
         rintro _ _ _ ⟨u75, rfl, rfl, rfl⟩
         refine Rg.m rfl (Rg.p (p_extract rfl rfl) (Rg.p (p_extract rfl rfl) (Rg.a rfl (Rg.a rfl (Rg.nl ?_)))))
         refine nT (?_)
         refine Tr.seq (Tr.olen Has.here fun hn76 => (Tr.region (Rg.m rfl (Rg.a rfl (Rg.nl ?_)))))
         refine nT (?_)
         refine Tr.seq (Tr.region (Rg.m rfl (Rg.m rfl ?_)))
         obtain ⟨h77, H1⟩ := gd.of H1
         refine Rg.p (p_sub rfl rfl h77) (Rg.m rfl (Rg.m rfl ?_))
         obtain ⟨h78, H1⟩ := gd.of H1
         refine Rg.p (p_sub rfl rfl h78) (Rg.a rfl (Rg.a rfl (Rg.nl (nT (?_)))))
         refine Tr.seq (Tr.region (Rg.m rfl ?_))
         obtain ⟨h79, H1⟩ := gd.of H1
         refine Rg.p (p_quo rfl rfl (by decide) h79) (Rg.a rfl (Rg.nl (nT (?_))))
         refine Tr.seq (Tr.region (Rg.m rfl (Rg.m rfl (Rg.p (p_lss rfl rfl) (Rg.nl ?_)))))
         refine nT (?_)
         refine Tr.cond (b := decide ((r73.1 - Q5.2.1) < (Q5.2.2.1 - r73.1))) rfl (fun h80 => ?_) (fun h80 => ?_)
         ·have H1 := cdT h80 H1
          refine Tr.seq (Tr.region (Rg.m rfl (Rg.m rfl (Rg.p (p_geq rfl rfl) (Rg.a rfl ?_)))))
          refine Rg.nl (nT (?_))
          refine Tr.seq (Tr.region (Rg.m rfl (Rg.m rfl (Rg.m rfl (Rg.m rfl ?_)))))
          refine Rg.m rfl ?_
          obtain ⟨r81, h82, H1⟩ := bd.of H1
          refine Rg.ef (e_callM (ih r73.2.2 x_v0 v0.length hn76 Q5.2.1 r73.1 x26.2 h82) (Solo.tree Solo.nil) (fun _ => (Solo.tree Solo.nil)) rfl (.cons Del.here .nil) EntsB.nil) rfl ?_
          rintro _ _ _ ⟨u83, rfl, rfl, rfl⟩
          refine Rg.nl (nT (?_))
          refine Tr.olen Has.here fun hn84 => (Tr.region (Rg.m rfl ?_))
          obtain ⟨h85, H1⟩ := gd.of H1
          refine Rg.p (p_add rfl rfl h85) (Rg.a rfl (Rg.nl ?_))
          exact nB (nLC ⟨(m12, (r81, r73.1 + 1, Q5.2.2.1, x26.2, decide (((Q5.2.2.1 - Q5.2.1).tdiv 8) ≤ (r73.1 - Q5.2.1)), r73.2.1), ()), hi9 _ (Option.some.inj H1).symm⟩ (Nat.lt_succ_self _) ⟨rfl, rfl, rfl, rfl, rfl, rfl, rfl, trivial⟩ Ents.refl (.cons Del.here .nil))
         ·have H1 := cdF h80 H1
          refine Tr.seq (Tr.region (Rg.m rfl (Rg.m rfl (Rg.p (p_geq rfl rfl) (Rg.a rfl ?_)))))
          refine Rg.nl (nT (?_))
          refine Tr.seq (Tr.region (Rg.m rfl (Rg.m rfl ?_)))
          obtain ⟨h86, H1⟩ := gd.of H1
          refine Rg.p (p_add rfl rfl h86) (Rg.m rfl (Rg.m rfl (Rg.m rfl ?_)))
          obtain ⟨r87, h88, H1⟩ := bd.of H1
          refine Rg.ef (e_callM (ih r73.2.2 x_v0 v0.length hn76 (r73.1 + 1) Q5.2.2.1 x26.2 h88) (Solo.tree Solo.nil) (fun _ => (Solo.tree Solo.nil)) rfl (.cons Del.here .nil) EntsB.nil) rfl ?_
          rintro _ _ _ ⟨u89, rfl, rfl, rfl⟩
          refine Rg.nl (nT (?_))
          refine Tr.olen Has.here fun hn90 => (Tr.region (Rg.m rfl (Rg.a rfl (Rg.nl ?_))))
          exact nB (nLC ⟨(m12, (r87, Q5.2.1, r73.1, x26.2, decide (((Q5.2.2.1 - Q5.2.1).tdiv 8) ≤ (Q5.2.2.1 - r73.1)), r73.2.1), ()), hi9 _ (Option.some.inj H1).symm⟩ (Nat.lt_succ_self _) ⟨rfl, rfl, rfl, rfl, rfl, rfl, rfl, trivial⟩ Ents.refl (.cons Del.here .nil))
      ·have H1 := cdF h53 H1
       refine tSkip (nT (?_))
       refine Tr.seq ?_
       obtain ⟨b91, j92, H1⟩ := bd.of H1
       refine tMid1 [(97, .bool (b91)), (0, .slice x_v0.1 v0.length x_v0.2), (1, .int .i64 (Q5.2.1)), (2, .int .i64 (Q5.2.2.1)), (3, .int .i64 (x26.2)), (4, .func (.func 129) #[] #[]), (10, .bool (Q5.2.2.2.2.1)), (11, .bool (Q5.2.2.2.2.2)), (12, .int .i64 (Q5.2.2.1 - Q5.2.1)), (13, .int .i64 (x38.2.1))] ?_ ?_
       ·refine tLinS [(0, .slice x_v0.1 v0.length x_v0.2), (1, .int .i64 (Q5.2.1)), (2, .int .i64 (Q5.2.2.1)), (3, .int .i64 (x26.2)), (4, .func (.func 129) #[] #[]), (10, .bool (Q5.2.2.2.2.1)), (11, .bool (Q5.2.2.2.2.2)), (12, .int .i64 (Q5.2.2.1 - Q5.2.1)), (13, .int .i64 (x38.2.1))] Tryz.mixed (.inr (by kernel_rfl)) ⟨rfl, rfl, rfl, rfl, rfl, rfl, rfl, rfl, rfl, trivial⟩ rfl (Lin.m rfl (Lin.p (p_gtr rfl rfl) ?_))
        rcases Bool.eq_false_or_eq_true (decide (0 < Q5.2.1)) with h93 | h93
        ·have j92 := cdT h93 j92
         refine Lin.e_ (p_move rfl) h93 (Lin.h rfl (p_move rfl) (Lin.h rfl (p_move rfl) (Lin.h rfl (p_move rfl) ?_)))
         obtain ⟨h94, j92⟩ := gd.of j92
         refine Lin.h rfl (p_sub rfl rfl h94) ?_
         obtain ⟨h95, j92⟩ := gd.of j92
         refine Lin.i rfl (q_ixO' Tryz.underlying33 ty113 rfl rfl h95 Has.here) (Lin.i (v := .agg #[.string (((nth x38.1 ((Q5.2.1 - 1).toNat)).1).1), .string (((nth x38.1 ((Q5.2.1 - 1).toNat)).1).2), ((nth x38.1 ((Q5.2.1 - 1).toNat)).2).1]) rfl (q_ldeA (i := (Q5.2.1 - 1).toNat) ty113 rfl (EntB.flat (EntB.tree Has.here)) h95.lt) (Lin.h rfl (p_move rfl) (Lin.h rfl (p_move rfl) ?_)))
         obtain ⟨h96, j92⟩ := gd.of j92
         refine Lin.i rfl (q_ixO' Tryz.underlying33 ty113 rfl rfl h96 Has.here) (Lin.i (v := .agg #[.string (((nth x38.1 x38.2.1.toNat).1).1), .string (((nth x38.1 x38.2.1.toNat).1).2), ((nth x38.1 x38.2.1.toNat).2).1]) rfl (q_ldeA (i := x38.2.1.toNat) ty113 rfl (EntB.flat (EntB.tree Has.here)) h96.lt) ?_)
         obtain ⟨r97, h98, j92⟩ := bd.of j92
         refine Lin.i (v := .int .i64 (r97)) rfl (Ex.dyn (caps := []) (vs := [.agg #[.string (((nth x38.1 ((Q5.2.1 - 1).toNat)).1).1), .string (((nth x38.1 ((Q5.2.1 - 1).toNat)).1).2), ((nth x38.1 ((Q5.2.1 - 1).toNat)).2).1], .agg #[.string (((nth x38.1 x38.2.1.toNat).1).1), .string (((nth x38.1 x38.2.1.toNat).1).2), ((nth x38.1 x38.2.1.toNat).2).1]]) rfl rfl (q_call (c_impl_indexOf_2 (nth x38.1 ((Q5.2.1 - 1).toNat)) (nth x38.1 x38.2.1.toNat) h98) rfl EntsB.nil)) (Lin.h rfl (p_lss rfl rfl) (Lin.h rfl (p_not rfl) (Lin.p (p_pickT rfl rfl) ?_)))
         obtain rfl := si j92
         show At _ _ _ _ _ _
         exact n1 ⟨rfl, rfl, rfl, rfl, rfl, rfl, rfl, rfl, rfl, rfl, trivial⟩
        ·have j92 := cdF h93 j92
         refine Lin.e_ (p_move rfl) h93 ?_
         iterate 13 refine Lin.sk rfl ?_
         refine Lin.p (v := .bool (false)) (p_pickF rfl rfl) ?_
         obtain rfl := si j92
         show At _ _ _ _ _ _
         exact n1 ⟨rfl, rfl, rfl, rfl, rfl, rfl, rfl, rfl, rfl, rfl, trivial⟩
       refine Tr.cond (b := b91) rfl (fun h99 => ?_) (fun h99 => ?_)
       ·have H1 := cdT h99 H1
        refine Tr.seq (Tr.region (Rg.m rfl (Rg.m rfl (Rg.m rfl (Rg.m rfl ?_)))))
        refine Rg.m rfl ?_
        obtain ⟨r100, h101, H1⟩ := bd.of H1
        refine Rg.ef (e_callM (c_partitionEqualH x38.1 x_v0 v0.length hn48 Q5.2.1 Q5.2.2.1 x38.2.1 h101) (Solo.tree Solo.nil) (fun _ => (Solo.tree Solo.nil)) rfl (.cons Del.here .nil) EntsB.nil) rfl ?_
        rintro _ _ _ ⟨u102, rfl, rfl, rfl⟩
        refine Rg.a rfl (Rg.nl (nT (?_)))
        refine Tr.seq (Tr.olen Has.here fun hn103 => (Tr.region (Rg.m rfl (Rg.a rfl (Rg.nl ?_)))))
        refine nT (?_)
        refine tExit (xT (xE (?_)))
        exact nLC ⟨(m12, (r100.2, r100.1, Q5.2.2.1, x26.2, Q5.2.2.2.2.1, Q5.2.2.2.2.2), ()), hi9 _ (Option.some.inj H1).symm⟩ (Nat.lt_succ_self _) ⟨rfl, rfl, rfl, rfl, rfl, rfl, rfl, trivial⟩ Ents.refl (.cons Del.here .nil)
       ·have H1 := cdF h99 H1
        refine tSkip (nT (?_))
        refine Tr.seq (Tr.region (Rg.m rfl (Rg.m rfl (Rg.m rfl (Rg.m rfl ?_)))))
        refine Rg.m rfl ?_
        obtain ⟨r104, h105, H1⟩ := bd.of H1
        refine Rg.ef (e_callM (c_partitionH x38.1 x_v0 v0.length hn48 Q5.2.1 Q5.2.2.1 x38.2.1 h105) (Solo.tree Solo.nil) (fun _ => (Solo.tree Solo.nil)) rfl (.cons Del.here .nil) EntsB.nil) rfl ?_
        rintro _ _ _ ⟨u106, rfl, rfl, rfl⟩
        refine Rg.m rfl (Rg.p (p_extract rfl rfl) (Rg.p (p_extract rfl rfl) (Rg.a rfl (Rg.a rfl (Rg.nl ?_)))))
        refine nT (?_)
        refine Tr.seq (Tr.olen Has.here fun hn107 => (Tr.region (Rg.m rfl (Rg.a rfl (Rg.nl ?_)))))
        refine nT (?_)
        refine Tr.seq (Tr.region (Rg.m rfl (Rg.m rfl ?_)))
        obtain ⟨h108, H1⟩ := gd.of H1
        refine Rg.p (p_sub rfl rfl h108) (Rg.m rfl (Rg.m rfl ?_))
        obtain ⟨h109, H1⟩ := gd.of H1
        refine Rg.p (p_sub rfl rfl h109) (Rg.a rfl (Rg.a rfl (Rg.nl (nT (?_)))))
        refine Tr.seq (Tr.region (Rg.m rfl ?_))
        obtain ⟨h110, H1⟩ := gd.of H1
        refine Rg.p (p_quo rfl rfl (by decide) h110) (Rg.a rfl (Rg.nl (nT (?_))))
        refine Tr.seq (Tr.region (Rg.m rfl (Rg.m rfl (Rg.p (p_lss rfl rfl) (Rg.nl ?_)))))
        refine nT (?_)
        refine Tr.cond (b := decide ((r104.1 - Q5.2.1) < (Q5.2.2.1 - r104.1))) rfl (fun h111 => ?_) (fun h111 => ?_)
        ·have H1 := cdT h111 H1
         refine Tr.seq (Tr.region (Rg.m rfl (Rg.m rfl (Rg.p (p_geq rfl rfl) (Rg.a rfl ?_)))))
         refine Rg.nl (nT (?_))
         refine Tr.seq (Tr.region (Rg.m rfl (Rg.m rfl (Rg.m rfl (Rg.m rfl ?_)))))
         refine Rg.m rfl ?_
         obtain ⟨r112, h113, H1⟩ := bd.of H1
         refine Rg.ef (e_callM (ih r104.2.2 x_v0 v0.length hn107 Q5.2.1 r104.1 x26.2 h113) (Solo.tree Solo.nil) (fun _ => (Solo.tree Solo.nil)) rfl (.cons Del.here .nil) EntsB.nil) rfl ?_
         rintro _ _ _ ⟨u114, rfl, rfl, rfl⟩
         refine Rg.nl (nT (?_))
         refine Tr.olen Has.here fun hn115 => (Tr.region (Rg.m rfl ?_))
         obtain ⟨h116, H1⟩ := gd.of H1
         refine Rg.p (p_add rfl rfl h116) (Rg.a rfl (Rg.nl ?_))
         exact nB (nLC ⟨(m12, (r112, r104.1 + 1, Q5.2.2.1, x26.2, decide (((Q5.2.2.1 - Q5.2.1).tdiv 8) ≤ (r104.1 - Q5.2.1)), r104.2.1), ()), hi9 _ (Option.some.inj H1).symm⟩ (Nat.lt_succ_self _) ⟨rfl, rfl, rfl, rfl, rfl, rfl, rfl, trivial⟩ Ents.refl (.cons Del.here .nil))
        ·have H1 := cdF h111 H1
         refine Tr.seq (Tr.region (Rg.m rfl (Rg.m rfl (Rg.p (p_geq rfl rfl) (Rg.a rfl ?_)))))
         refine Rg.nl (nT (?_))
         refine Tr.seq (Tr.region (Rg.m rfl (Rg.m rfl ?_)))
         obtain ⟨h117, H1⟩ := gd.of H1
         refine Rg.p (p_add rfl rfl h117) (Rg.m rfl (Rg.m rfl (Rg.m rfl ?_)))
         obtain ⟨r118, h119, H1⟩ := bd.of H1
         refine Rg.ef (e_callM (ih r104.2.2 x_v0 v0.length hn107 (r104.1 + 1) Q5.2.2.1 x26.2 h119) (Solo.tree Solo.nil) (fun _ => (Solo.tree Solo.nil)) rfl (.cons Del.here .nil) EntsB.nil) rfl ?_
         rintro _ _ _ ⟨u120, rfl, rfl, rfl⟩
         refine Rg.nl (nT (?_))
         refine Tr.olen Has.here fun hn121 => (Tr.region (Rg.m rfl (Rg.a rfl (Rg.nl ?_))))
         exact nB (nLC ⟨(m12, (r118, Q5.2.1, r104.1, x26.2, decide (((Q5.2.2.1 - Q5.2.1).tdiv 8) ≤ (Q5.2.2.1 - r104.1)), r104.2.1), ()), hi9 _ (Option.some.inj H1).symm⟩ (Nat.lt_succ_self _) ⟨rfl, rfl, rfl, rfl, rfl, rfl, rfl, trivial⟩ Ents.refl (.cons Del.here .nil))
 ·rintro ⟨⟨e122, y7⟩, hx⟩; subst hx; replace H := sw.l H
  show At _ _ [] _ [tree (.slice x_v0.1 v0.length x_v0.2) v0] _
  obtain rfl := si H
  exact back0n () rfl  rfl Ents.nil (.cons Del.here .nil)
noncomputable def p_SortFuncH (v0 : (List PostH)) : Option ((List PostH)) := bd (p_math_bits_Len (w64 (v0.length : Int))) fun r1 => bd (p_pdqsortH (v0.length + 1) v0 0 (v0.length : Int) r1) fun r3 => some r3
theorem c_SortFuncH {r : (List PostH)} (v0 : (List PostH)) (x_v0 : Option Addr × Nat) (n_v0 : Nat) (e_v0 : n_v0 = v0.length) (H : p_SortFuncH v0 = some r) : Fn' Tryz.prog 128 #[.slice x_v0.1 n_v0 x_v0.2, .func (.func 129) #[] #[]] [] [tree (.slice x_v0.1 n_v0 x_v0.2) v0] (ι := Unit) (fun _ => .tuple #[]) (fun _ => []) (fun _ => [tree (.slice x_v0.1 n_v0 x_v0.2) r]) := by
 subst e_v0
 refine calls_of (args := [_, _]) Tryz.func128 rfl (by kernel_rfl) Tryz.ntmps128 (by simp) fun c => ?_
 unfold p_SortFuncH at H
 refine Tr.seq (Tr.region (Rg.m rfl (Rg.p (p_len 113 Tryz.underlying33 rfl) (Rg.a rfl (Rg.nl ?_)))))
 refine nT (?_)
 refine Tr.region (Rg.m rfl (Rg.m rfl (Rg.m rfl (Rg.p (v := .int .u64 ((w64 (v0.length : Int)).toNat : Int)) (p_iw Tryz.underlying3 Tryz.underlying172 rfl) ?_))))
 obtain ⟨r1, h2, H⟩ := bd.of H
 refine Rg.o (q_call (c_math_bits_Len (w64 (v0.length : Int)) h2) rfl EntsB.nil) (Rg.m rfl ?_)
 obtain ⟨r3, h4, H⟩ := bd.of H
 refine Rg.ef (e_callM (c_pdqsortH _ v0 x_v0 v0.length rfl 0 (v0.length : Int) r1 h4) (Solo.tree Solo.nil) (fun _ => (Solo.tree Solo.nil)) rfl (.cons Del.here .nil) EntsB.nil) rfl ?_
 rintro _ _ _ ⟨u5, rfl, rfl, rfl⟩
 refine Rg.nl ?_
 obtain rfl := si H
 exact back0n () rfl  rfl Ents.nil (.cons Del.here .nil)
noncomputable def cmS (x y : ByteArray) : Int := if sless x y then -1 else if sless y x then 1 else 0
theorem e_cmpS (x y : ByteArray) : p_cmp_Compare_string x y = some (cmS x y) := by
 unfold p_cmp_Compare_string p_cmp_isNaN_string cmS
 simp only [bd_some, decide_true, Bool.not_true, cond_false]
 cases h : sless x y with
 | true => simp
 | false =>
  cases h' : sless y x with
  | true =>
   have : x ≠ y := fun e => by subst e; rw [h] at h'; cases h'
   simp [this]
  | false =>
   have := sless_anti h h'
   simp [this]
noncomputable def cmH (x y : PostH) : Int := if cmS x.1.1 y.1.1 = 0 then cmS x.1.2 y.1.2 else cmS x.1.1 y.1.1
theorem e_cmpH (x y : PostH) : p_impl_indexOf_2 x y = some (cmH x y) := by
 unfold p_impl_indexOf_2 cmH
 simp only [e_cmpS, bd_some]
 have key : ∀ a b : Int, p_cmp_Or_int [a, b] = some (if a = 0 then b else a) := fun a b => by
  unfold p_cmp_Or_int
  by_cases ha : a = 0
  ·subst ha
   rw [lp.step (s' := 1) (by unfold p_cmp_Or_int_b0; simp [gd, ix, I64, nth])]
   by_cases hb : b = 0
   ·subst hb
    rw [lp.step (s' := 2) (by unfold p_cmp_Or_int_b0; simp [gd, ix, I64, nth])]
    rw [lp.stop (e := .inl ()) (by unfold p_cmp_Or_int_b0; simp)]
    rfl
   ·rw [lp.stop (e := .inr b) (by unfold p_cmp_Or_int_b0; simp [gd, ix, I64, nth, hb])]
    rfl
  ·rw [lp.stop (e := .inr a) (by unfold p_cmp_Or_int_b0; simp [gd, ix, I64, nth, ha])]
   simp [bd, sw, ha]
 rw [key]; rfl
theorem cmS_lt (x y : ByteArray) : decide (cmS x y < 0) = sless x y := by
 unfold cmS
 cases h : sless x y with
 | true => simp
 | false => cases h' : sless y x <;> simp
theorem cmS_0 {x y : ByteArray} : cmS x y = 0 ↔ x = y := by
 unfold cmS
 constructor
 ·intro h
  cases h1 : sless x y with
  | true => rw [h1] at h; simp at h
  | false =>
   cases h2 : sless y x with
   | true => rw [h1, h2] at h; simp at h
   | false => exact sless_anti h1 h2
 ·intro h; subst h; simp [sless_irr]
theorem cmH_lt (x y : PostH) : decide (cmH x y < 0) = ltP x y := by
 unfold cmH ltP ltTag
 by_cases h : x.1.1 = y.1.1
 ·rw [if_pos (cmS_0.2 h), cmS_lt, h, sless_irr]; simp
 ·rw [if_neg (fun e => h (cmS_0.1 e)), cmS_lt]; simp [h]
theorem sz_insIn (a : Nat) : ∀ (j : Nat) (d : Array PostH), (Sort.insInner ltP a j d).size = d.size
  | 0, d => rfl
  | j + 1, d => by unfold Sort.insInner; split; · rw [sz_insIn a j, Sort.swp_size]
                   · rfl
theorem e_insIn (a : Nat) : ∀ (j : Nat) (d : Array PostH), j < d.size → d.size ≤ 1073741824 → lp (p_insertionSortH_b1 (a : Int)) (d.toList, (j : Int)) = some (Sort.insInner ltP a j d).toList
 | 0, d, h, hs => lp.stop (by unfold p_insertionSortH_b1; rw [decide_eq_false (by omega)]; rfl)
 | j + 1, d, h, hs => by
  by_cases ha : a < j + 1
  ·have e1 : decide ((a : Int) < ((j + 1 : Nat) : Int)) = true := decide_eq_true (by omega)
   have step : p_insertionSortH_b1 (a : Int) (d.toList, ((j + 1 : Nat) : Int)) = cond (ltP d[j + 1]! d[j]!) (some (.inl ((Sort.swp d (j + 1) j).toList, (j : Int)))) (some (.inr d.toList)) := by
    unfold p_insertionSortH_b1
    simp (disch := first | (unfold I64; omega) | (unfold ix; (try simp only [List.length_set, lenA]); omega)) only [e1, cond_true, gd_true, subI, natI, nthA, e_cmpH, bd_some, cmH_lt, swpA']
   unfold Sort.insInner
   cases hl : ltP d[j + 1]! d[j]! with
   | true =>
    rw [lp.step (by rw [step, hl]; rfl), e_insIn a j _ (by rw [Sort.swp_size]; omega) (by rw [Sort.swp_size]; exact hs)]
    simp [ha]
   | false =>
    rw [lp.stop (by rw [step, hl]; rfl)]
    simp
  ·have e1 : decide ((a : Int) < ((j + 1 : Nat) : Int)) = false := decide_eq_false (by omega)
   rw [lp.stop (e := d.toList) (by unfold p_insertionSortH_b1; rw [e1]; rfl)]
   unfold Sort.insInner
   simp [ha]
theorem e_insOut (a b : Nat) : ∀ (n i : Nat) (d : Array PostH), b - i ≤ n → b ≤ d.size → d.size ≤ 1073741824 → lp (p_insertionSortH_b0 (a : Int) (b : Int)) (d.toList, (i : Int)) = some (Sort.insOuter ltP a b i d).toList
 | n, i, d, hn, hb, hs => by
  by_cases hi : i < b
  ·cases n with
   | zero => omega
   | succ n =>
    have e1 : decide ((i : Int) < (b : Int)) = true := decide_eq_true (by omega)
    rw [lp.step (s' := ((Sort.insInner ltP a i d).toList, ((i + 1 : Nat) : Int))) (by
     unfold p_insertionSortH_b0
     simp (disch := first | (unfold I64; omega)) only [e1, cond_true, e_insIn a i d (by omega) hs, bd_some, gd_true, addI]), e_insOut a b n (i + 1) _ (by omega) (by rw [sz_insIn]; exact hb) (by rw [sz_insIn]; exact hs)]
    conv => rhs; rw [Sort.insOuter]
    rw [if_pos hi]
  ·rw [lp.stop (e := d.toList) (by unfold p_insertionSortH_b0; rw [decide_eq_false (by omega)]; rfl)]
   rw [Sort.insOuter, if_neg hi]
theorem e_ins (a b : Nat) (d : Array PostH) (ha : a ≤ b) (hb : b ≤ d.size) (hs : d.size ≤ 1073741824) : p_insertionSortH d.toList (a : Int) (b : Int) = some (Sort.insertionSort ltP d a b).toList := by
 unfold p_insertionSortH
 simp (disch := first | (unfold I64; omega)) only [gd_true, addI, e_insOut a b _ _ d (Nat.le_refl _) hb hs, bd_some]
 rfl
theorem sz_sift (hi F : Nat) : ∀ (n root : Nat) (d : Array PostH), hi - root ≤ n → (Sort.siftDown ltP hi F root d).size = d.size
 | n, root, d, hn => by
  unfold Sort.siftDown
  split
  ·rfl
  ·cases n with
   | zero => omega
   | succ n =>
    split
    ·split
     ·rfl
     ·split
      ·rw [sz_sift hi F n _ _ (by omega), Sort.swp_size]
      ·rfl
    ·split
     ·rfl
     ·rw [sz_sift hi F n _ _ (by omega), Sort.swp_size]
theorem e_siftL (hi F : Nat) : ∀ (n root : Nat) (d : Array PostH), hi - root ≤ n → root ≤ 1073741824 → F + hi ≤ d.size → d.size ≤ 1073741824 →
  bd (lp (p_siftDownH_b0 (hi : Int) (F : Int)) (d.toList, (root : Int))) (sw (fun e => some e) (fun q => some q)) = some (Sort.siftDown ltP hi F root d).toList
 | n, root, d, hn, hr, hF, hs => by
  have c1 : (2 * (root : Int)) + 1 = ((2 * root + 1 : Nat) : Int) := by omega
  have c2 : ((2 * root + 1 : Nat) : Int) + 1 = ((2 * root + 2 : Nat) : Int) := by omega
  by_cases h1 : 2 * root + 1 ≥ hi
  ·rw [lp.stop (e := .inl d.toList) (by
    unfold p_siftDownH_b0
    simp (disch := first | (unfold I64; omega)) only [gd_true, c1]
    rw [decide_eq_true (by omega)]; rfl)]
   rw [Sort.siftDown, dif_pos h1]; rfl
  ·cases n with
   | zero => omega
   | succ n =>
    have f1 : (F : Int) + ((2 * root + 1 : Nat) : Int) = ((F + (2 * root + 1) : Nat) : Int) := by omega
    have f2 : ((F + (2 * root + 1) : Nat) : Int) + 1 = ((F + (2 * root + 1) + 1 : Nat) : Int) := by omega
    have f3 : (F : Int) + (root : Int) = ((F + root : Nat) : Int) := by omega
    have f4 : (F : Int) + ((2 * root + 2 : Nat) : Int) = ((F + (2 * root + 2) : Nat) : Int) := by omega
    have e1 : decide ((hi : Int) ≤ ((2 * root + 1 : Nat) : Int)) = false := decide_eq_false (by omega)
    have step : p_siftDownH_b0 (hi : Int) (F : Int) (d.toList, (root : Int)) =
      if 2 * root + 1 + 1 < hi && ltP d[F + (2 * root + 1)]! d[F + (2 * root + 1) + 1]! then
       (if !ltP d[F + root]! d[F + (2 * root + 2)]! then some (.inr (.inr d.toList)) else some (.inl ((Sort.swp d (F + root) (F + (2 * root + 2))).toList, ((2 * root + 2 : Nat) : Int))))
      else
       (if !ltP d[F + root]! d[F + (2 * root + 1)]! then some (.inr (.inr d.toList)) else some (.inl ((Sort.swp d (F + root) (F + (2 * root + 1))).toList, ((2 * root + 1 : Nat) : Int)))) := by
     unfold p_siftDownH_b0
     simp (disch := first | (unfold I64; omega)) only [gd_true, c1, e1, cond_false, c2]
     by_cases h2 : 2 * root + 2 < hi
     ·have e2 : decide (((2 * root + 2 : Nat) : Int) < (hi : Int)) = true := decide_eq_true (by omega)
      have e3 : decide (2 * root + 1 + 1 < hi) = true := decide_eq_true (by omega)
      simp (disch := first | (unfold I64; omega) | (unfold ix; (try simp only [List.length_set, lenA]); omega)) only [e2, e3, cond_true, gd_true, f1, f2, f3, f4, natI, nthA, e_cmpH, bd_some, cmH_lt, swpA', Bool.true_and]
      cases ltP d[F + (2 * root + 1)]! d[F + (2 * root + 1) + 1]! <;> cases ltP d[F + root]! d[F + (2 * root + 1)]! <;> cases ltP d[F + root]! d[F + (2 * root + 2)]! <;> rfl
     ·have e2 : decide (((2 * root + 2 : Nat) : Int) < (hi : Int)) = false := decide_eq_false (by omega)
      have e3 : decide (2 * root + 1 + 1 < hi) = false := decide_eq_false (by omega)
      simp (disch := first | (unfold I64; omega) | (unfold ix; (try simp only [List.length_set, lenA]); omega)) only [e2, e3, cond_false, gd_true, f1, f2, f3, f4, natI, nthA, e_cmpH, bd_some, cmH_lt, swpA', Bool.false_and]
      cases ltP d[F + root]! d[F + (2 * root + 1)]! <;> rfl
    conv => rhs; rw [Sort.siftDown]
    rw [dif_neg h1]
    split
    ·rename_i hc
     rw [if_pos hc] at step
     have h2 : 2 * root + 2 < hi := by simp only [Bool.and_eq_true, decide_eq_true_eq] at hc; omega
     rw [dif_pos h2]
     split
     ·rename_i hx; rw [if_pos hx] at step; rw [lp.stop step]; rfl
     ·rename_i hx; rw [if_neg hx] at step
      first
       | (rw [lp.step step])
       | (rw [dif_pos h2, lp.step step])
      exact e_siftL hi F n _ _ (by omega) (by omega) (by rw [Sort.swp_size]; exact hF) (by rw [Sort.swp_size]; exact hs)
    ·rename_i hc
     rw [if_neg hc] at step
     split
     ·rename_i hx; rw [if_pos hx] at step; rw [lp.stop step]; rfl
     ·rename_i hx; rw [if_neg hx] at step
      rw [lp.step step]
      exact e_siftL hi F n _ _ (by omega) (by omega) (by rw [Sort.swp_size]; exact hF) (by rw [Sort.swp_size]; exact hs)
theorem e_sift (hi F root : Nat) (d : Array PostH) (hr : root ≤ 1073741824) (hF : F + hi ≤ d.size) (hs : d.size ≤ 1073741824) :
  p_siftDownH d.toList (root : Int) (hi : Int) (F : Int) = some (Sort.siftDown ltP hi F root d).toList := e_siftL hi F _ root d (Nat.le_refl _) hr hF hs
theorem sz_build (hi F : Nat) : ∀ (k : Nat) (d : Array PostH), (Sort.heapBuild ltP hi F k d).size = d.size
 | 0, d => rfl
 | k + 1, d => by unfold Sort.heapBuild; rw [sz_build hi F k, sz_sift hi F _ _ _ (Nat.le_refl _)]
theorem e_build (a b : Nat) (hab : a ≤ b) : ∀ (k : Nat) (d : Array PostH), k ≤ 1073741824 → b ≤ d.size → d.size ≤ 1073741824 → lp (p_heapSortH_b0 (a : Int) (b : Int)) (d.toList, (k : Int) - 1) = some (Sort.heapBuild ltP (b - a) a k d).toList
 | 0, d, hk, hb, hs => lp.stop (by unfold p_heapSortH_b0; rw [decide_eq_false (by omega)]; rfl)
 | k + 1, d, hk, hb, hs => by
  have c : ((k + 1 : Nat) : Int) - 1 = (k : Int) := by omega
  have c2 : (b : Int) - (a : Int) = ((b - a : Nat) : Int) := by omega
  rw [c, lp.step (s' := ((Sort.siftDown ltP (b - a) a k d).toList, (k : Int) - 1)) (by
   unfold p_heapSortH_b0
   have e1 : decide ((0 : Int) ≤ (k : Int)) = true := decide_eq_true (by omega)
   simp (disch := first | (unfold I64; omega)) only [e1, cond_true, c2, e_sift (b - a) a k d (by omega) (by omega) hs, bd_some, gd_true]), e_build a b hab k _ (by omega) (by rw [sz_sift _ _ _ _ _ (Nat.le_refl _)]; exact hb) (by rw [sz_sift _ _ _ _ _ (Nat.le_refl _)]; exact hs)]
  rfl
theorem e_pop (a : Nat) : ∀ (k : Nat) (d : Array PostH), a + k ≤ d.size → d.size ≤ 1073741824 → lp (p_heapSortH_b1 (a : Int)) (d.toList, (k : Int) - 1) = some (Sort.heapPop ltP a k d).toList
 | 0, d, hb, hs => lp.stop (by unfold p_heapSortH_b1; rw [decide_eq_false (by omega)]; rfl)
 | k + 1, d, hb, hs => by
  have c : ((k + 1 : Nat) : Int) - 1 = (k : Int) := by omega
  have c2 : (a : Int) + (k : Int) = ((a + k : Nat) : Int) := by omega
  rw [c, lp.step (s' := ((Sort.siftDown ltP k a 0 (Sort.swp d a (a + k))).toList, (k : Int) - 1)) (by
   unfold p_heapSortH_b1
   have e1 : decide ((0 : Int) ≤ (k : Int)) = true := decide_eq_true (by omega)
   have e2 := e_sift k a 0 (Sort.swp d a (a + k)) (by omega) (by rw [Sort.swp_size]; omega) (by rw [Sort.swp_size]; exact hs)
   rw [show ((0 : Nat) : Int) = 0 from rfl] at e2
   simp (disch := first | (unfold I64; omega) | (unfold ix; (try simp only [List.length_set, lenA]); omega)) only [e1, cond_true, gd_true, c2, natI, nthA, swpA', e2, bd_some]), e_pop a k _ (by rw [sz_sift _ _ _ _ _ (Nat.le_refl _), Sort.swp_size]; omega) (by rw [sz_sift _ _ _ _ _ (Nat.le_refl _), Sort.swp_size]; exact hs)]
  rfl
theorem e_heap (a b : Nat) (d : Array PostH) (ha : a ≤ b) (hb : b ≤ d.size) (hs : d.size ≤ 1073741824) : p_heapSortH d.toList (a : Int) (b : Int) = some (Sort.heapSort ltP d a b).toList := by
 unfold p_heapSortH
 have c : ((b : Int) - (a : Int) - 1).tdiv 2 = (((b - a - 1) / 2 + 1 : Nat) : Int) - 1 := by
  by_cases h : b - a = 0
  ·have : (b : Int) - (a : Int) - 1 = -1 := by omega
   rw [this, h]; rfl
  ·have : (b : Int) - (a : Int) - 1 = ((b - a - 1 : Nat) : Int) := by omega
   rw [this]
   have h2 : (((b - a - 1) / 2 : Nat) : Int) = ((b - a - 1 : Nat) : Int).tdiv 2 := Int.ofNat_tdiv (b - a - 1) 2
   rw [← h2]; omega
 have c2 : (b : Int) - (a : Int) - 1 = ((b - a : Nat) : Int) - 1 := by omega
 have h3 : (b - a - 1) / 2 ≤ b - a - 1 := Nat.div_le_self _ _
 rw [c]
 rw [gd.yes (by unfold I64; omega), gd.yes (by unfold I64; omega), gd.yes (by unfold I64; omega), e_build a b ha _ d (by omega) hb hs]
 simp only [bd_some]
 rw [c2, e_pop a (b - a) _ (by rw [sz_build]; omega) (by rw [sz_build]; exact hs)]
 rfl
theorem e_revL (a b : Nat) : ∀ (n i j : Nat) (d : Array PostH), j - i ≤ n → j < d.size → i ≤ d.size → d.size ≤ 1073741824 → lp p_reverseRangeH_b0 (d.toList, (i : Int), (j : Int)) = some (Sort.reverseLoop i j d).toList
 | n, i, j, d, hn, hj, hi, hs => by
  by_cases h : i < j
  ·cases n with
   | zero => omega
   | succ n =>
    have c : (j : Int) - 1 = ((j - 1 : Nat) : Int) := by omega
    rw [lp.step (s' := ((Sort.swp d i j).toList, ((i + 1 : Nat) : Int), ((j - 1 : Nat) : Int))) (by
     unfold p_reverseRangeH_b0
     have e1 : decide ((i : Int) < (j : Int)) = true := decide_eq_true (by omega)
     simp (disch := first | (unfold I64; omega) | (unfold ix; (try simp only [List.length_set, lenA]); omega)) only [e1, cond_true, gd_true, natI, nthA, swpA', addI, c]), e_revL a b n (i + 1) (j - 1) _ (by omega) (by rw [Sort.swp_size]; omega) (by rw [Sort.swp_size]; omega) (by rw [Sort.swp_size]; exact hs)]
    conv => rhs; rw [Sort.reverseLoop]
    rw [if_pos h]
  ·rw [lp.stop (e := d.toList) (by unfold p_reverseRangeH_b0; rw [decide_eq_false (show ¬ ((i : Int) < (j : Int)) by omega)]; rfl)]
   rw [Sort.reverseLoop, if_neg h]
theorem e_rev (a b : Nat) (d : Array PostH) (ha : a < b) (hb : b ≤ d.size) (hs : d.size ≤ 1073741824) : p_reverseRangeH d.toList (a : Int) (b : Int) = some (Sort.reverseRange d a b).toList := by
 unfold p_reverseRangeH
 have c : (b : Int) - 1 = ((b - 1 : Nat) : Int) := by omega
 simp (disch := first | (unfold I64; omega)) only [gd_true, c, e_revL a b _ a (b - 1) d (Nat.le_refl _) (by omega) (by omega) hs, bd_some]
 rfl
theorem ltN {x y : PostH} : (!decide (cmH x y < 0)) = !ltP x y := by rw [cmH_lt]
theorem e_up3 (a : Nat) (d : Array PostH) (j : Nat) (hj : j < d.size) (ha : a < d.size) (hs : d.size ≤ 1073741824) (s : (List PostH) × Int × Int) (h1 : s.1 = d.toList) (h2 : s.2.2 = (j : Int)) : ∀ (n i : Nat), j + 1 - i ≤ n → i ≤ 1073741825 →
  lp (p_partitionH_b3 (a : Int) s) (i : Int) = some (((Sort.scanUp (fun x => ltP x d[a]!) d j i : Nat) : Int))
 | n, i, hn, hi => by
  rw [Sort.scanUp]
  by_cases h : i ≤ j
  ·cases n with
   | zero => omega
   | succ n =>
    have e1 : decide ((i : Int) ≤ (j : Int)) = true := decide_eq_true (by omega)
    have step : p_partitionH_b3 (a : Int) s (i : Int) = cond (ltP d[i]! d[a]!) (some (.inl ((i + 1 : Nat) : Int))) (some (.inr (i : Int))) := by
     unfold p_partitionH_b3
     rw [h1, h2]
     simp (disch := first | (unfold I64; omega) | (unfold ix; (try simp only [List.length_set, lenA]); omega)) only [e1, cond_true, gd_true, natI, nthA, e_cmpH, bd_some, cmH_lt, addI]
    cases hl : ltP d[i]! d[a]! with
    | true =>
     rw [lp.step (by rw [step, hl]; rfl), if_pos (by simp [h])]
     exact e_up3 a d j hj ha hs s h1 h2 n (i + 1) (by omega) (by omega)
    | false => rw [lp.stop (by rw [step, hl]; rfl), if_neg (by simp)]
  ·rw [lp.stop (e := (i : Int)) (by unfold p_partitionH_b3; rw [h2, decide_eq_false (show ¬ ((i : Int) ≤ (j : Int)) by omega)]; rfl), if_neg (by simp [h])]
theorem e_dn4 (a : Nat) (d : Array PostH) (i : Nat) (h0 : 1 ≤ i) (ha : a < d.size) (hs : d.size ≤ 1073741824) (s : (List PostH) × Int × Int) (h1 : s.1 = d.toList) : ∀ (j : Nat), j < d.size →
  lp (p_partitionH_b4 (a : Int) s (i : Int)) (j : Int) = some (((Sort.scanDown (fun x => !ltP x d[a]!) d i j : Nat) : Int))
 | 0, hj => by
  rw [lp.stop (e := ((0 : Nat) : Int)) (by unfold p_partitionH_b4; rw [decide_eq_false (show ¬ ((i : Int) ≤ ((0 : Nat) : Int)) by omega)]; rfl)]
  rfl
 | j + 1, hj => by
  unfold Sort.scanDown
  by_cases h : i ≤ j + 1
  ·have e1 : decide ((i : Int) ≤ ((j + 1 : Nat) : Int)) = true := decide_eq_true (by omega)
   have step : p_partitionH_b4 (a : Int) s (i : Int) ((j + 1 : Nat) : Int) = cond (!ltP d[j + 1]! d[a]!) (some (.inl (j : Int))) (some (.inr ((j + 1 : Nat) : Int))) := by
    unfold p_partitionH_b4
    rw [h1]
    simp (disch := first | (unfold I64; omega) | (unfold ix; (try simp only [List.length_set, lenA]); omega)) only [e1, cond_true, gd_true, natI, nthA, e_cmpH, bd_some, ltN, subI]
   cases hl : ltP d[j + 1]! d[a]! with
   | false =>
    rw [lp.step (by rw [step, hl]; rfl), if_pos (by simp [h])]
    exact e_dn4 a d i h0 ha hs s h1 j (by omega)
   | true => rw [lp.stop (by rw [step, hl]; rfl), if_neg (by simp)]
  ·rw [lp.stop (e := ((j + 1 : Nat) : Int)) (by unfold p_partitionH_b4; rw [decide_eq_false (show ¬ ((i : Int) ≤ ((j + 1 : Nat) : Int)) by omega)]; rfl), if_neg (by simp [h])]
theorem sz_partL (a : Nat) : ∀ (n i j : Nat) (d : Array PostH), j + 1 - i ≤ n → (Sort.partLoop ltP a i j d).2.size = d.size
 | n, i, j, d, hn => by
  rw [Sort.partLoop]
  split
  ·rfl
  ·split
   ·rename_i h
    cases n with
    | zero => omega
    | succ n => rw [sz_partL a n _ _ _ (by omega), Sort.swp_size]
   ·rfl
theorem e_partL (a : Nat) : ∀ (n i j : Nat) (d : Array PostH), j + 1 - i ≤ n → a < i → i ≤ d.size → j < d.size → d.size ≤ 1073741824 →
  lp (p_partitionH_b2 (a : Int)) (d.toList, (i : Int), (j : Int)) = some ((Sort.partLoop ltP a i j d).2.toList, ((Sort.partLoop ltP a i j d).1 : Int))
 | n, i, j, d, hn, hai, hij, hj, hs => by
  have hu := e_up3 a d j hj (by omega) hs (d.toList, (i : Int), (j : Int)) rfl rfl _ i (Nat.le_refl _) (by omega)
  have gu := Sort.scanUp_ge (fun x => ltP x d[a]!) d j i
  have hd := e_dn4 a d (Sort.scanUp (fun x => ltP x d[a]!) d j i) (by omega) (by omega) hs (d.toList, (i : Int), (j : Int)) rfl j hj
  have gl := Sort.scanDown_le (fun x => !ltP x d[a]!) d (Sort.scanUp (fun x => ltP x d[a]!) d j i) j
  rw [Sort.partLoop_eq]
  generalize hI : Sort.scanUp (fun x => ltP x d[a]!) d j i = i2 at *
  generalize hJ : Sort.scanDown (fun x => !ltP x d[a]!) d i2 j = j2 at *
  by_cases h : i2 > j2
  ·rw [if_pos h, lp.stop (e := (d.toList, (j2 : Int))) (by
    unfold p_partitionH_b2
    rw [hu]; simp only [bd_some]; rw [hd]; simp only [bd_some]
    rw [decide_eq_true (show ((j2 : Int) < (i2 : Int)) by omega)]; rfl)]
  ·rw [if_neg h]
   cases n with
   | zero => omega
   | succ n =>
    have c : (j2 : Int) - 1 = ((j2 - 1 : Nat) : Int) := by omega
    rw [lp.step (s' := ((Sort.swp d i2 j2).toList, ((i2 + 1 : Nat) : Int), ((j2 - 1 : Nat) : Int))) (by
     unfold p_partitionH_b2
     rw [hu]; simp only [bd_some]; rw [hd]; simp only [bd_some]
     rw [decide_eq_false (show ¬ ((j2 : Int) < (i2 : Int)) by omega)]
     simp (disch := first | (unfold I64; omega) | (unfold ix; (try simp only [List.length_set, lenA]); omega)) only [cond_false, gd_true, natI, nthA, swpA', addI, c])]
    exact e_partL a n (i2 + 1) (j2 - 1) _ (by omega) (by omega) (by rw [Sort.swp_size]; omega) (by rw [Sort.swp_size]; omega) (by rw [Sort.swp_size]; exact hs)
theorem e_part (a b pv : Nat) (d : Array PostH) (ha : a ≤ pv) (hp : pv < b) (hb : b ≤ d.size) (hs : d.size ≤ 1073741824) :
  p_partitionH d.toList (a : Int) (b : Int) (pv : Int) = some (((Sort.partition ltP d a b pv).1 : Int), (Sort.partition ltP d a b pv).2.1, (Sort.partition ltP d a b pv).2.2.toList) := by
 have eb0 : p_partitionH_b0 d.toList (a : Int) (b : Int) (pv : Int) = p_partitionH_b3 (a : Int) ((Sort.swp d a pv).toList, (0 : Int), (b : Int) - 1) := by rw [← swpA d a pv]; rfl
 have eb1 : ∀ x, p_partitionH_b1 d.toList (a : Int) (pv : Int) x = p_partitionH_b4 (a : Int) ((Sort.swp d a pv).toList, (0 : Int), (0 : Int)) x := fun x => by rw [← swpA d a pv]; rfl
 have hz : (Sort.swp d a pv).size = d.size := Sort.swp_size _ _ _
 have c : (b : Int) - 1 = ((b - 1 : Nat) : Int) := by omega
 unfold Sort.partition p_partitionH
 simp (disch := first | (unfold I64; omega) | (unfold ix; (try simp only [List.length_set, lenA]); omega)) only [gd_true, natI, nthA, swpA', eb0, eb1, addI, c]
 generalize hD : Sort.swp d a pv = d1 at *
 have hu := e_up3 a d1 (b - 1) (by omega) (by omega) (by omega) (d1.toList, (0 : Int), ((b - 1 : Nat) : Int)) rfl rfl _ (a + 1) (Nat.le_refl _) (by omega)
 have gu := Sort.scanUp_ge (fun x => ltP x d1[a]!) d1 (b - 1) (a + 1)
 have gu2 := (Sort.scanUp_spec (fun x => ltP x d1[a]!) d1 (b - 1) _ (a + 1) rfl).2.1 (by omega)
 generalize hI : Sort.scanUp (fun x => ltP x d1[a]!) d1 (b - 1) (a + 1) = i at *
 have hd := e_dn4 a d1 i (by omega) (by omega) (by omega) (d1.toList, (0 : Int), (0 : Int)) rfl (b - 1) (by omega)
 have gl := Sort.scanDown_le (fun x => !ltP x d1[a]!) d1 i (b - 1)
 have gl2 := (Sort.scanDown_spec (fun x => !ltP x d1[a]!) d1 i (b - 1)).2.1 (by omega)
 generalize hJ : Sort.scanDown (fun x => !ltP x d1[a]!) d1 i (b - 1) = j at *
 rw [hu]; simp only [bd_some]; rw [hd]; simp only [bd_some]
 by_cases h : i > j
 ·rw [decide_eq_true (show ((j : Int) < (i : Int)) by omega), if_pos h]
  simp (disch := first | (unfold I64; omega) | (unfold ix; (try simp only [List.length_set, lenA]); omega)) only [cond_true, gd_true, natI]
 ·rw [decide_eq_false (show ¬ ((j : Int) < (i : Int)) by omega), if_neg h]
  have c2 : (j : Int) - 1 = ((j - 1 : Nat) : Int) := by omega
  have hz2 : (Sort.swp d1 i j).size = d.size := by rw [Sort.swp_size]; exact hz
  have hl := e_partL a _ (i + 1) (j - 1) (Sort.swp d1 i j) (Nat.le_refl _) (by omega) (by omega) (by omega) (by omega)
  have hz3 := sz_partL a _ (i + 1) (j - 1) (Sort.swp d1 i j) (Nat.le_refl _)
  have hle : (Sort.partLoop ltP a (i + 1) (j - 1) (Sort.swp d1 i j)).1 ≤ j - 1 := by
   clear hl hz3
   have : ∀ (n i j : Nat) (d : Array PostH), j + 1 - i ≤ n → (Sort.partLoop ltP a i j d).1 ≤ j := by
    intro n
    induction n with
    | zero =>
     intro i j d hn
     rw [Sort.partLoop_eq]
     have g1 := Sort.scanUp_ge (fun x => ltP x d[a]!) d j i
     have g2 := Sort.scanDown_le (fun x => !ltP x d[a]!) d (Sort.scanUp (fun x => ltP x d[a]!) d j i) j
     rw [if_pos (by omega)]; exact g2
    | succ n ih =>
     intro i j d hn
     rw [Sort.partLoop_eq]
     have g1 := Sort.scanUp_ge (fun x => ltP x d[a]!) d j i
     have g2 := Sort.scanDown_le (fun x => !ltP x d[a]!) d (Sort.scanUp (fun x => ltP x d[a]!) d j i) j
     split
     ·exact g2
     ·exact Nat.le_trans (ih _ _ _ (by omega)) (by omega)
   exact this _ _ _ _ (Nat.le_refl _)
  simp (disch := first | (unfold I64; omega) | (unfold ix; (try simp only [List.length_set, lenA]); omega)) only [cond_false, gd_true, natI, nthA, swpA', addI, c2, hl, bd_some]
theorem e_upE (a : Nat) (d : Array PostH) (j : Nat) (hj : j < d.size) (ha : a < d.size) (hs : d.size ≤ 1073741824) (s : (List PostH) × Int × Int) (h1 : s.1 = d.toList) (h2 : s.2.2 = (j : Int)) : ∀ (n i : Nat), j + 1 - i ≤ n → i ≤ 1073741825 →
  lp (p_partitionEqualH_b1 (a : Int) s) (i : Int) = some (((Sort.scanUp (fun x => !ltP d[a]! x) d j i : Nat) : Int))
 | n, i, hn, hi => by
  rw [Sort.scanUp]
  by_cases h : i ≤ j
  ·cases n with
   | zero => omega
   | succ n =>
    have e1 : decide ((i : Int) ≤ (j : Int)) = true := decide_eq_true (by omega)
    have step : p_partitionEqualH_b1 (a : Int) s (i : Int) = cond (!ltP d[a]! d[i]!) (some (.inl ((i + 1 : Nat) : Int))) (some (.inr (i : Int))) := by
     unfold p_partitionEqualH_b1
     rw [h1, h2]
     simp (disch := first | (unfold I64; omega) | (unfold ix; (try simp only [List.length_set, lenA]); omega)) only [e1, cond_true, gd_true, natI, nthA, e_cmpH, bd_some, ltN, addI]
    cases hl : ltP d[a]! d[i]! with
    | false =>
     rw [lp.step (by rw [step, hl]; rfl), if_pos (by simp [h])]
     exact e_upE a d j hj ha hs s h1 h2 n (i + 1) (by omega) (by omega)
    | true => rw [lp.stop (by rw [step, hl]; rfl), if_neg (by simp)]
  ·rw [lp.stop (e := (i : Int)) (by unfold p_partitionEqualH_b1; rw [h2, decide_eq_false (show ¬ ((i : Int) ≤ (j : Int)) by omega)]; rfl), if_neg (by simp [h])]
theorem e_dnE (a : Nat) (d : Array PostH) (i : Nat) (h0 : 1 ≤ i) (ha : a < d.size) (hs : d.size ≤ 1073741824) (s : (List PostH) × Int × Int) (h1 : s.1 = d.toList) : ∀ (j : Nat), j < d.size →
  lp (p_partitionEqualH_b2 (a : Int) s (i : Int)) (j : Int) = some (((Sort.scanDown (fun x => ltP d[a]! x) d i j : Nat) : Int))
 | 0, hj => by
  rw [lp.stop (e := ((0 : Nat) : Int)) (by unfold p_partitionEqualH_b2; rw [decide_eq_false (show ¬ ((i : Int) ≤ ((0 : Nat) : Int)) by omega)]; rfl)]
  rfl
 | j + 1, hj => by
  unfold Sort.scanDown
  by_cases h : i ≤ j + 1
  ·have e1 : decide ((i : Int) ≤ ((j + 1 : Nat) : Int)) = true := decide_eq_true (by omega)
   have step : p_partitionEqualH_b2 (a : Int) s (i : Int) ((j + 1 : Nat) : Int) = cond (ltP d[a]! d[j + 1]!) (some (.inl (j : Int))) (some (.inr ((j + 1 : Nat) : Int))) := by
    unfold p_partitionEqualH_b2
    rw [h1]
    simp (disch := first | (unfold I64; omega) | (unfold ix; (try simp only [List.length_set, lenA]); omega)) only [e1, cond_true, gd_true, natI, nthA, e_cmpH, bd_some, cmH_lt, subI]
   cases hl : ltP d[a]! d[j + 1]! with
   | true =>
    rw [lp.step (by rw [step, hl]; rfl), if_pos (by simp [h])]
    exact e_dnE a d i h0 ha hs s h1 j (by omega)
   | false => rw [lp.stop (by rw [step, hl]; rfl), if_neg (by simp)]
  ·rw [lp.stop (e := ((j + 1 : Nat) : Int)) (by unfold p_partitionEqualH_b2; rw [decide_eq_false (show ¬ ((i : Int) ≤ ((j + 1 : Nat) : Int)) by omega)]; rfl), if_neg (by simp [h])]
theorem e_parEL (a : Nat) : ∀ (n i j : Nat) (d : Array PostH), j + 1 - i ≤ n → a < i → i ≤ d.size → j < d.size → d.size ≤ 1073741824 →
  lp (p_partitionEqualH_b0 (a : Int)) (d.toList, (i : Int), (j : Int)) = some (((Sort.partEqLoop ltP a i j d).1 : Int), (Sort.partEqLoop ltP a i j d).2.toList)
 | n, i, j, d, hn, hai, hij, hj, hs => by
  have hu := e_upE a d j hj (by omega) hs (d.toList, (i : Int), (j : Int)) rfl rfl _ i (Nat.le_refl _) (by omega)
  have gu := Sort.scanUp_ge (fun x => !ltP d[a]! x) d j i
  have hd := e_dnE a d (Sort.scanUp (fun x => !ltP d[a]! x) d j i) (by omega) (by omega) hs (d.toList, (i : Int), (j : Int)) rfl j hj
  have gl := Sort.scanDown_le (fun x => ltP d[a]! x) d (Sort.scanUp (fun x => !ltP d[a]! x) d j i) j
  rw [Sort.partEqLoop_eq]
  generalize hI : Sort.scanUp (fun x => !ltP d[a]! x) d j i = i2 at *
  generalize hJ : Sort.scanDown (fun x => ltP d[a]! x) d i2 j = j2 at *
  by_cases h : i2 > j2
  ·rw [if_pos h, lp.stop (e := ((i2 : Int), d.toList)) (by
    unfold p_partitionEqualH_b0
    rw [hu]; simp only [bd_some]; rw [hd]; simp only [bd_some]
    rw [decide_eq_true (show ((j2 : Int) < (i2 : Int)) by omega)]; rfl)]
  ·rw [if_neg h]
   cases n with
   | zero => omega
   | succ n =>
    have c : (j2 : Int) - 1 = ((j2 - 1 : Nat) : Int) := by omega
    rw [lp.step (s' := ((Sort.swp d i2 j2).toList, ((i2 + 1 : Nat) : Int), ((j2 - 1 : Nat) : Int))) (by
     unfold p_partitionEqualH_b0
     rw [hu]; simp only [bd_some]; rw [hd]; simp only [bd_some]
     rw [decide_eq_false (show ¬ ((j2 : Int) < (i2 : Int)) by omega)]
     simp (disch := first | (unfold I64; omega) | (unfold ix; (try simp only [List.length_set, lenA]); omega)) only [cond_false, gd_true, natI, nthA, swpA', addI, c])]
    exact e_parEL a n (i2 + 1) (j2 - 1) _ (by omega) (by omega) (by rw [Sort.swp_size]; omega) (by rw [Sort.swp_size]; omega) (by rw [Sort.swp_size]; exact hs)
theorem e_parE (a b pv : Nat) (d : Array PostH) (ha : a ≤ pv) (hp : pv < b) (hb : b ≤ d.size) (hs : d.size ≤ 1073741824) :
  p_partitionEqualH d.toList (a : Int) (b : Int) (pv : Int) = some (((Sort.partitionEqual ltP d a b pv).1 : Int), (Sort.partitionEqual ltP d a b pv).2.toList) := by
 have c : (b : Int) - 1 = ((b - 1 : Nat) : Int) := by omega
 have hz : (Sort.swp d a pv).size = d.size := Sort.swp_size _ _ _
 unfold Sort.partitionEqual p_partitionEqualH
 simp (disch := first | (unfold I64; omega) | (unfold ix; (try simp only [List.length_set, lenA]); omega)) only [gd_true, natI, nthA, swpA', addI, c, e_parEL a _ (a + 1) (b - 1) (Sort.swp d a pv) (Nat.le_refl _) (by omega) (by omega) (by omega) (by omega), bd_some]
theorem e_scanS (b : Nat) (d : Array PostH) (hb : b ≤ d.size) (hs : d.size ≤ 1073741824) (s : (List PostH) × Int × Int) (h1 : s.1 = d.toList) : ∀ (n i : Nat), b - i ≤ n → 1 ≤ i → i ≤ b →
  lp (p_partialInsertionSortH_b1 (b : Int) s) (i : Int) = some ((Sort.scanSorted ltP d b i : Nat) : Int)
 | n, i, hn, h0, hi => by
  rw [Sort.scanSorted]
  by_cases h : i < b
  ·cases n with
   | zero => omega
   | succ n =>
    have e1 : decide ((i : Int) < (b : Int)) = true := decide_eq_true (by omega)
    have c : (i : Int) - 1 = ((i - 1 : Nat) : Int) := by omega
    have step : p_partialInsertionSortH_b1 (b : Int) s (i : Int) = cond (!ltP d[i]! d[i - 1]!) (some (.inl ((i + 1 : Nat) : Int))) (some (.inr (i : Int))) := by
     unfold p_partialInsertionSortH_b1
     rw [h1]
     simp (disch := first | (unfold I64; omega) | (unfold ix; (try simp only [List.length_set, lenA]); omega)) only [e1, cond_true, c, gd_true, natI, nthA, e_cmpH, bd_some, ltN, addI]
    cases hl : ltP d[i]! d[i - 1]! with
    | false =>
     rw [lp.step (by rw [step, hl]; rfl), if_pos (by simp [h])]
     exact e_scanS b d hb hs s h1 n (i + 1) (by omega) (by omega) (by omega)
    | true => rw [lp.stop (by rw [step, hl]; rfl), if_neg (by simp)]
  ·rw [lp.stop (e := (i : Int)) (by unfold p_partialInsertionSortH_b1; rw [decide_eq_false (show ¬ ((i : Int) < (b : Int)) by omega)]; rfl), if_neg (by simp [h])]
theorem sz_shD : ∀ (j : Nat) (d : Array PostH), (Sort.shiftDown ltP j d).size = d.size
 | 0, d => rfl
 | j + 1, d => by
  unfold Sort.shiftDown
  split
  ·rfl
  ·rw [sz_shD j, Sort.swp_size]
theorem sz_shU (b : Nat) : ∀ (n j : Nat) (d : Array PostH), b - j ≤ n → (Sort.shiftUp ltP b j d).size = d.size
 | n, j, d, hn => by
  rw [Sort.shiftUp]
  split
  ·split
   ·rfl
   ·cases n with
    | zero => omega
    | succ n => rw [sz_shU b n _ _ (by omega), Sort.swp_size]
  ·rfl
theorem e_shD : ∀ (j : Nat) (d : Array PostH), j < d.size → d.size ≤ 1073741824 → lp p_partialInsertionSortH_b2 (d.toList, (j : Int)) = some (Sort.shiftDown ltP j d).toList
 | 0, d, hj, hs => lp.stop (by unfold p_partialInsertionSortH_b2; rw [decide_eq_false (show ¬ ((1 : Int) ≤ ((0 : Nat) : Int)) by omega)]; rfl)
 | j + 1, d, hj, hs => by
  have e1 : decide ((1 : Int) ≤ ((j + 1 : Nat) : Int)) = true := decide_eq_true (by omega)
  have step : p_partialInsertionSortH_b2 (d.toList, ((j + 1 : Nat) : Int)) = cond (!ltP d[j + 1]! d[j]!) (some (.inr d.toList)) (some (.inl ((Sort.swp d (j + 1) j).toList, (j : Int)))) := by
   unfold p_partialInsertionSortH_b2
   simp (disch := first | (unfold I64; omega) | (unfold ix; (try simp only [List.length_set, lenA]); omega)) only [e1, cond_true, gd_true, subI, natI, nthA, e_cmpH, bd_some, ltN, swpA']
  unfold Sort.shiftDown
  cases hl : ltP d[j + 1]! d[j]! with
  | false => rw [lp.stop (by rw [step, hl]; rfl)]; rfl
  | true =>
   rw [lp.step (by rw [step, hl]; rfl), e_shD j _ (by rw [Sort.swp_size]; omega) (by rw [Sort.swp_size]; exact hs)]; rfl
theorem e_shU (b : Nat) : ∀ (n j : Nat) (d : Array PostH), b - j ≤ n → 1 ≤ j → b ≤ d.size → d.size ≤ 1073741824 → lp (p_partialInsertionSortH_b3 (b : Int)) (d.toList, (j : Int)) = some (Sort.shiftUp ltP b j d).toList
 | n, j, d, hn, h0, hb, hs => by
  rw [Sort.shiftUp]
  by_cases h : j < b
  ·cases n with
   | zero => omega
   | succ n =>
    have e1 : decide ((j : Int) < (b : Int)) = true := decide_eq_true (by omega)
    have c : (j : Int) - 1 = ((j - 1 : Nat) : Int) := by omega
    have step : p_partialInsertionSortH_b3 (b : Int) (d.toList, (j : Int)) = cond (!ltP d[j]! d[j - 1]!) (some (.inr d.toList)) (some (.inl ((Sort.swp d j (j - 1)).toList, ((j + 1 : Nat) : Int)))) := by
     unfold p_partialInsertionSortH_b3
     simp (disch := first | (unfold I64; omega) | (unfold ix; (try simp only [List.length_set, lenA]); omega)) only [e1, cond_true, c, gd_true, natI, nthA, e_cmpH, bd_some, ltN, swpA', addI]
    rw [if_pos h]
    cases hl : ltP d[j]! d[j - 1]! with
    | false => rw [lp.stop (by rw [step, hl]; rfl)]; rfl
    | true =>
     rw [lp.step (by rw [step, hl]; rfl), e_shU b n (j + 1) _ (by omega) (by omega) (by rw [Sort.swp_size]; exact hb) (by rw [Sort.swp_size]; exact hs)]; rfl
  ·rw [if_neg h, lp.stop (e := d.toList) (by unfold p_partialInsertionSortH_b3; rw [decide_eq_false (show ¬ ((j : Int) < (b : Int)) by omega)]; rfl)]
theorem e_parI (a b : Nat) : ∀ (s i : Nat) (d : Array PostH), s ≤ 5 → a < i → i ≤ b → b ≤ d.size → d.size ≤ 1073741824 →
  bd (lp (p_partialInsertionSortH_b0 (a : Int) (b : Int)) (d.toList, (i : Int), 5 - (s : Int))) (sw (fun e => some (false, e)) (fun q => some q)) = some ((Sort.partialIns ltP a b s i d).2, (Sort.partialIns ltP a b s i d).1.toList)
 | 0, i, d, hs5, hai, hib, hb, hs => by
  rw [lp.stop (e := .inl d.toList) (by unfold p_partialInsertionSortH_b0; rw [decide_eq_false (show ¬ ((5 : Int) - ((0 : Nat) : Int) < 5) by omega)]; rfl)]
  rfl
 | s + 1, i, d, hs5, hai, hib, hb, hs => by
  have e1 : decide ((5 : Int) - ((s + 1 : Nat) : Int) < 5) = true := decide_eq_true (by omega)
  have hu := e_scanS b d hb hs (d.toList, (i : Int), (5 : Int) - ((s + 1 : Nat) : Int)) rfl _ i (Nat.le_refl _) (by omega) hib
  have gu : i ≤ Sort.scanSorted ltP d b i ∧ Sort.scanSorted ltP d b i ≤ b := by
   clear hu
   have : ∀ (n i : Nat), b - i ≤ n → i ≤ b → i ≤ Sort.scanSorted ltP d b i ∧ Sort.scanSorted ltP d b i ≤ b := by
    intro n
    induction n with
    | zero => intro i hn hi; rw [Sort.scanSorted, if_neg (by simp; omega)]; exact ⟨Nat.le_refl _, hi⟩
    | succ n ih =>
     intro i hn hi
     rw [Sort.scanSorted]
     split
     ·rename_i h; simp only [Bool.and_eq_true, decide_eq_true_eq] at h
      have := ih (i + 1) (by omega) (by omega); omega
     ·exact ⟨Nat.le_refl _, hi⟩
   exact this _ i (Nat.le_refl _) hib
  rw [Sort.partialIns_succ]
  generalize hI : Sort.scanSorted ltP d b i = i2 at *
  by_cases hE : i2 = b
  ·rw [lp.stop (e := .inr (true, d.toList)) (by
    unfold p_partialInsertionSortH_b0
    simp only [e1, cond_true, hu, bd_some]
    rw [decide_eq_true (show ((i2 : Int) = (b : Int)) by omega)]; rfl)]
   simp [hE, bd, sw]
  ·by_cases hL : b - a < 50
   ·rw [lp.stop (e := .inr (false, d.toList)) (by
     unfold p_partialInsertionSortH_b0
     simp only [e1, cond_true, hu, bd_some]
     rw [decide_eq_false (show ¬ ((i2 : Int) = (b : Int)) by omega), gd.yes (by unfold I64; omega), decide_eq_true (show ((b : Int) - (a : Int) < 50) by omega)]; rfl)]
    simp [hE, hL, bd, sw]
   ·have c : (i2 : Int) - 1 = ((i2 - 1 : Nat) : Int) := by omega
    have c2 : (i2 : Int) - (a : Int) = ((i2 - a : Nat) : Int) := by omega
    have c3 : (b : Int) - (i2 : Int) = ((b - i2 : Nat) : Int) := by omega
    have c4 : (5 : Int) - ((s + 1 : Nat) : Int) + 1 = 5 - (s : Int) := by omega
    have hz : (Sort.swp d i2 (i2 - 1)).size = d.size := Sort.swp_size _ _ _
    rw [if_neg hE, if_neg hL]
    generalize hD : Sort.swp d i2 (i2 - 1) = d1 at *
    have hz2 : ((if i2 - a ≥ 2 then Sort.shiftDown ltP (i2 - 1) d1 else d1)).size = d.size := by split <;> simp only [sz_shD, hz]
    have step : p_partialInsertionSortH_b0 (a : Int) (b : Int) (d.toList, (i : Int), 5 - ((s + 1 : Nat) : Int)) =
      some (.inl ((if b - i2 ≥ 2 then Sort.shiftUp ltP b (i2 + 1) (if i2 - a ≥ 2 then Sort.shiftDown ltP (i2 - 1) d1 else d1) else (if i2 - a ≥ 2 then Sort.shiftDown ltP (i2 - 1) d1 else d1)).toList, (i2 : Int), 5 - (s : Int))) := by
     unfold p_partialInsertionSortH_b0
     simp only [e1, cond_true, hu, bd_some]
     rw [decide_eq_false (show ¬ ((i2 : Int) = (b : Int)) by omega), gd.yes (by unfold I64; omega), decide_eq_false (show ¬ ((b : Int) - (a : Int) < 50) by omega)]
     simp (disch := first | (unfold I64; omega) | (unfold ix; (try simp only [List.length_set, lenA]); omega)) only [cond_false, c, c2, gd_true, natI, nthA, swpA', hD]
     have hsd := e_shD (i2 - 1) d1 (by omega) (by omega)
     have j1 : (cond (decide ((2 : Int) ≤ ((i2 - a : Nat) : Int))) (bd (lp p_partialInsertionSortH_b2 (d1.toList, ((i2 - 1 : Nat) : Int))) fun x52 => some x52) (some d1.toList)) = some (if i2 - a ≥ 2 then Sort.shiftDown ltP (i2 - 1) d1 else d1).toList := by
      by_cases hq : i2 - a ≥ 2
      ·rw [decide_eq_true (show ((2 : Int) ≤ ((i2 - a : Nat) : Int)) by omega), if_pos hq, cond_true, hsd]; rfl
      ·rw [decide_eq_false (show ¬ ((2 : Int) ≤ ((i2 - a : Nat) : Int)) by omega), if_neg hq]; rfl
     rw [j1]
     generalize (if i2 - a ≥ 2 then Sort.shiftDown ltP (i2 - 1) d1 else d1) = d2 at *
     simp (disch := first | (unfold I64; omega) | (unfold ix; (try simp only [List.length_set, lenA]); omega)) only [bd_some, c3]
     by_cases hq : b - i2 ≥ 2
     ·rw [decide_eq_true (show ((2 : Int) ≤ ((b - i2 : Nat) : Int)) by omega), if_pos hq]
      simp (disch := first | (unfold I64; omega)) only [cond_true, addI, e_shU b _ (i2 + 1) d2 (Nat.le_refl _) (by omega) (by omega) (by omega), bd_some, c4]
     ·rw [decide_eq_false (show ¬ ((2 : Int) ≤ ((b - i2 : Nat) : Int)) by omega), if_neg hq]
      simp (disch := first | (unfold I64; omega)) only [cond_false, c4]
    rw [lp.step step]
    exact e_parI a b s i2 _ (by omega) (by omega) (by omega) (by split <;> simp only [sz_shU b _ _ _ (Nat.le_refl _), hz2] <;> exact hb) (by split <;> simp only [sz_shU b _ _ _ (Nat.le_refl _), hz2] <;> exact hs)
theorem e_par (a b : Nat) (d : Array PostH) (ha : a < b) (hb : b ≤ d.size) (hs : d.size ≤ 1073741824) :
  p_partialInsertionSortH d.toList (a : Int) (b : Int) = some ((Sort.partialInsertionSort ltP d a b).2, (Sort.partialInsertionSort ltP d a b).1.toList) := by
 unfold p_partialInsertionSortH
 rw [gd.yes (by unfold I64; omega), addI]
 exact e_parI a b 5 (a + 1) d (by omega) (by omega) (by omega) hb hs
theorem e_ord (d : Array PostH) (x y s : Nat) (hx : x < d.size) (hy : y < d.size) (hs : s ≤ 1000) :
  ∃ u v t : Nat, p_order2H d.toList (x : Int) (y : Int) (s : Int) = some ((u : Int), (v : Int), (t : Int)) ∧ (u = x ∧ v = y ∨ u = y ∧ v = x) ∧ t ≤ s + 1 := by
 unfold p_order2H
 simp (disch := first | (unfold I64; omega) | (unfold ix; (try simp only [List.length_set, lenA]); omega)) only [gd_true, natI, nthA, e_cmpH, bd_some, cmH_lt, addI]
 cases ltP d[y]! d[x]! with
 | true => exact ⟨y, x, s + 1, rfl, .inr ⟨rfl, rfl⟩, Nat.le_refl _⟩
 | false => exact ⟨x, y, s, rfl, .inl ⟨rfl, rfl⟩, Nat.le_succ _⟩
theorem e_med (d : Array PostH) (x y z s : Nat) (hx : x < d.size) (hy : y < d.size) (hz : z < d.size) (hs : s ≤ 900) :
  ∃ u t : Nat, p_medianH d.toList (x : Int) (y : Int) (z : Int) (s : Int) = some ((u : Int), (t : Int)) ∧ (u = x ∨ u = y ∨ u = z) ∧ t ≤ s + 3 := by
 unfold p_medianH
 obtain ⟨u1, v1, t1, e1, k1, l1⟩ := e_ord d x y s hx hy (by omega)
 obtain ⟨u2, v2, t2, e2, k2, l2⟩ := e_ord d v1 z t1 (by omega) hz (by omega)
 obtain ⟨u3, v3, t3, e3, k3, l3⟩ := e_ord d u1 u2 t2 (by omega) (by omega) (by omega)
 simp only [e1, bd_some, e2, e3]
 exact ⟨v3, t3, rfl, by omega, by omega⟩
theorem e_adj (d : Array PostH) (x s : Nat) (hx : x + 1 < d.size) (h0 : 1 ≤ x) (hs : s ≤ 900) (hb : d.size ≤ 1073741824) :
  ∃ u t : Nat, p_medianAdjacentH d.toList (x : Int) (s : Int) = some ((u : Int), (t : Int)) ∧ (u = x - 1 ∨ u = x ∨ u = x + 1) ∧ t ≤ s + 3 := by
 unfold p_medianAdjacentH
 have c : (x : Int) - 1 = ((x - 1 : Nat) : Int) := by omega
 obtain ⟨u, t, e, k, l⟩ := e_med d (x - 1) x (x + 1) s (by omega) (by omega) hx hs
 simp (disch := first | (unfold I64; omega)) only [gd_true, c, addI, e, bd_some]
 exact ⟨u, t, rfl, k, l⟩
theorem e_piv (a b : Nat) (d : Array PostH) (ha : a < b) (hb : b ≤ d.size) (hs : d.size ≤ 1073741824) :
  ∃ (p : Nat) (h : Int), p_choosePivotH d.toList (a : Int) (b : Int) = some ((p : Int), h) ∧ a ≤ p ∧ p < b := by
 unfold p_choosePivotH
 have c0 : (b : Int) - (a : Int) = ((b - a : Nat) : Int) := by omega
 have c1 : (((b - a : Nat) : Int)).tdiv 4 = (((b - a) / 4 : Nat) : Int) := (Int.ofNat_tdiv (b - a) 4).symm
 have hq : (b - a) / 4 * 4 ≤ b - a := Nat.div_mul_le_self _ _
 have hq2 : b - a < (b - a) / 4 * 4 + 4 := by omega
 simp only [c0, c1]
 generalize (b - a) / 4 = q at *
 have f1 : (a : Int) + (q : Int) * 1 = ((a + q : Nat) : Int) := by omega
 have f2 : (a : Int) + (q : Int) * 2 = ((a + q * 2 : Nat) : Int) := by omega
 have f3 : (a : Int) + (q : Int) * 3 = ((a + q * 3 : Nat) : Int) := by omega
 simp (disch := first | (unfold I64; omega)) only [gd_true, f1, f2, f3]
 have key : ∃ (s p : Nat), (cond (decide (8 ≤ ((b - a : Nat) : Int))) (bd (cond (decide (50 ≤ ((b - a : Nat) : Int))) (bd (p_medianAdjacentH d.toList ((a + q : Nat) : Int) 0) fun r18 => bd (p_medianAdjacentH d.toList ((a + q * 2 : Nat) : Int) r18.2) fun r21 => bd (p_medianAdjacentH d.toList ((a + q * 3 : Nat) : Int) r21.2) fun r24 => some (r24.2, r18.1, r21.1, r24.1)) (some (0, ((a + q : Nat) : Int), ((a + q * 2 : Nat) : Int), ((a + q * 3 : Nat) : Int)))) fun x15 => bd (p_medianH d.toList x15.2.1 x15.2.2.1 x15.2.2.2 x15.1) fun r27 => some (r27.2, r27.1)) (some (0, ((a + q * 2 : Nat) : Int)))) = some ((s : Int), (p : Int)) ∧ a ≤ p ∧ p < b := by
  by_cases h8 : 8 ≤ b - a
  ·rw [decide_eq_true (show (8 : Int) ≤ ((b - a : Nat) : Int) by omega), cond_true]
   by_cases h50 : 50 ≤ b - a
   ·rw [decide_eq_true (show (50 : Int) ≤ ((b - a : Nat) : Int) by omega), cond_true]
    obtain ⟨u1, t1, e1, k1, l1⟩ := e_adj d (a + q) 0 (by omega) (by omega) (by omega) hs
    obtain ⟨u2, t2, e2, k2, l2⟩ := e_adj d (a + q * 2) t1 (by omega) (by omega) (by omega) hs
    obtain ⟨u3, t3, e3, k3, l3⟩ := e_adj d (a + q * 3) t2 (by omega) (by omega) (by omega) hs
    obtain ⟨u4, t4, e4, k4, l4⟩ := e_med d u1 u2 u3 t3 (by omega) (by omega) (by omega) (by omega)
    rw [show ((0 : Nat) : Int) = 0 from rfl] at e1
    simp only [e1, bd_some, e2, e3, e4]
    exact ⟨t4, u4, rfl, by omega, by omega⟩
   ·rw [decide_eq_false (show ¬ (50 : Int) ≤ ((b - a : Nat) : Int) by omega), cond_false]
    obtain ⟨u4, t4, e4, k4, l4⟩ := e_med d (a + q) (a + q * 2) (a + q * 3) 0 (by omega) (by omega) (by omega) (by omega)
    rw [show ((0 : Nat) : Int) = 0 from rfl] at e4
    simp only [bd_some, e4]
    exact ⟨t4, u4, rfl, by omega, by omega⟩
  ·rw [decide_eq_false (show ¬ (8 : Int) ≤ ((b - a : Nat) : Int) by omega), cond_false]
   exact ⟨0, a + q * 2, rfl, by omega, by omega⟩
 obtain ⟨s, p, e, k1, k2⟩ := key
 rw [e]
 simp only [bd_some]
 cases decide ((s : Int) = 0) <;> cases decide ((s : Int) = 12) <;> exact ⟨p, _, rfl, k1, k2⟩
theorem tab256 : ∀ k : Fin 256, (sb kstr_307d5e k.val).toNat = Sort.bitsLen k.val := by decide +kernel
theorem sz_k : kstr_307d5e.size = 256 := by decide +kernel
theorem w64N (n : Nat) (h : n < 18446744073709551616) : (w64 (n : Int)).toNat = n := by
 have := w64_wrap (n : Int)
 have h2 : IntKind.u64.wrap (n : Int) = (n : Int) := by show (n : Int) % (2 ^ 64 : Int) = _; omega
 omega
theorem wrN (x : UInt64) (k : Nat) (hk : k ≤ 64) : (wr x (k : Int)).toNat = x.toNat / 2 ^ k := by
 have h1 := x.toNat_lt
 unfold wr
 have h2 : x.toNat / 2 ^ k ≤ x.toNat := Nat.div_le_self _ _
 rw [natI, Nat.min_eq_left hk, UInt64.toNat_ofNat_of_lt' (show _ < 2 ^ 64 by omega)]
theorem b8N (n : Nat) (h : n < 256) : (b8 (n : Int)).toNat = n := by
 have := b8_wrap (n : Int)
 have h2 : IntKind.u8.wrap (n : Int) = (n : Int) := by show (n : Int) % (2 ^ 8 : Int) = _; omega
 omega
theorem e_len (n : Nat) (hn : n ≤ 1073741824) : ∃ L : Nat, p_math_bits_Len (w64 (n : Int)) = some (L : Int) ∧ L ≤ 32 ∧ (1 ≤ n → 2 ^ L ≤ 2 * n) := by
 have hx := w64N n (by omega)
 generalize w64 (n : Int) = x at *
 unfold p_math_bits_Len p_math_bits_Len64
 have s1 : (cond (decide ((4294967296 : UInt64).toNat ≤ x.toNat)) (some (wr x ((32 : UInt64).toNat : Int), (32 : Int))) (some (x, 0))) = some (x, 0) := by
  rw [decide_eq_false (show ¬ ((4294967296 : UInt64).toNat ≤ x.toNat) by rw [show (4294967296 : UInt64).toNat = 4294967296 from rfl]; omega)]; rfl
 rw [s1]
 simp only [bd_some]
 obtain ⟨y, p, e2, hp, hy⟩ : ∃ (y : UInt64) (p : Nat), (cond (decide ((65536 : UInt64).toNat ≤ x.toNat)) (gd (I64 (0 + 16)) <| some (wr x ((16 : UInt64).toNat : Int), (0 : Int) + 16)) (some (x, 0))) = some (y, (p : Int)) ∧ (p = 0 ∧ y.toNat = n ∧ n < 65536 ∨ p = 16 ∧ y.toNat = n / 65536 ∧ 65536 ≤ n) ∧ y.toNat < 65536 := by
  by_cases h : 65536 ≤ n
  ·rw [decide_eq_true (show ((65536 : UInt64).toNat ≤ x.toNat) by rw [show (65536 : UInt64).toNat = 65536 from rfl]; omega), cond_true, gd.yes (by unfold I64; omega)]
   have := wrN x 16 (by omega)
   rw [hx] at this
   exact ⟨_, 16, rfl, .inr ⟨rfl, this, h⟩, by have e : ((16 : UInt64).toNat : Int) = ((16 : Nat) : Int) := rfl; rw [e, this]; omega⟩
  ·rw [decide_eq_false (show ¬ ((65536 : UInt64).toNat ≤ x.toNat) by rw [show (65536 : UInt64).toNat = 65536 from rfl]; omega)]
   exact ⟨x, 0, rfl, .inl ⟨rfl, hx, by omega⟩, by omega⟩
 rw [e2]
 simp only [bd_some]
 obtain ⟨z, q, e3, hq, hz⟩ : ∃ (z : UInt64) (q : Nat), (cond (decide ((256 : UInt64).toNat ≤ y.toNat)) (gd (I64 ((p : Int) + 8)) <| some (wr y ((8 : UInt64).toNat : Int), (p : Int) + 8)) (some (y, (p : Int)))) = some (z, (q : Int)) ∧ (q = p ∧ z.toNat = y.toNat ∨ q = p + 8 ∧ z.toNat = y.toNat / 256 ∧ 256 ≤ y.toNat) ∧ z.toNat < 256 := by
  by_cases h : 256 ≤ y.toNat
  ·rw [decide_eq_true (show ((256 : UInt64).toNat ≤ y.toNat) by rw [show (256 : UInt64).toNat = 256 from rfl]; omega), cond_true, gd.yes (by unfold I64; omega)]
   have := wrN y 8 (by omega)
   exact ⟨_, p + 8, rfl, .inr ⟨rfl, this, h⟩, by have e : ((8 : UInt64).toNat : Int) = ((8 : Nat) : Int) := rfl; rw [e, this]; omega⟩
  ·rw [decide_eq_false (show ¬ ((256 : UInt64).toNat ≤ y.toNat) by rw [show (256 : UInt64).toNat = 256 from rfl]; omega)]
   exact ⟨y, p, rfl, .inl ⟨rfl, rfl⟩, by omega⟩
 rw [e3]
 simp only [bd_some, b8N z.toNat hz]
 have ht := tab256 ⟨z.toNat, hz⟩
 simp only [] at ht
 have hb : Sort.bitsLen z.toNat ≤ 8 := (Sort.bitsLen_le_iff z.toNat 8).2 (by omega)
 rw [gd.yes (by unfold ix; rw [sz_k]; omega), gd.yes (by unfold I64; rw [ht]; omega), ht]
 simp only [bd_some]
 refine ⟨q + Sort.bitsLen z.toNat, by congr 1, by omega, fun h1 => ?_⟩
 have hz0 : 0 < z.toNat := by omega
 have h2 := Sort.two_pow_bitsLen_le hz0
 generalize Sort.bitsLen z.toNat = L at *
 rw [Nat.pow_add]
 have hcase : 2 ^ q * z.toNat ≤ n := by
  rcases hq with ⟨rfl, hzy⟩ | ⟨rfl, hzy, _⟩ <;> rcases hp with ⟨rfl, hyn, _⟩ | ⟨rfl, hyn, _⟩ <;> simp only [hzy, hyn, Nat.reduceAdd, Nat.reducePow] <;> omega
 calc 2 ^ q * 2 ^ L ≤ 2 ^ q * (2 * z.toNat) := Nat.mul_le_mul_left _ h2
  _ = 2 * (2 ^ q * z.toNat) := by rw [Nat.mul_left_comm]
  _ ≤ 2 * n := Nat.mul_le_mul_left _ hcase
theorem wl1 (L : Nat) (h : L ≤ 32) : (wl (1 : UInt64) (L : Int)).toNat = 2 ^ L := by
 unfold wl
 have hp : 2 ^ L ≤ 2 ^ 32 := Nat.pow_le_pow_right (by omega) h
 have e : ((1 : UInt64).toNat : Int) * 2 ^ (min (L : Int).toNat 64) = ((2 ^ L : Nat) : Int) := by
  rw [natI, Nat.min_eq_left (by omega)]
  show (1 : Int) * 2 ^ L = _
  rw [Int.one_mul]; push_cast; rfl
 rw [e, w64N _ (by omega)]
theorem e_brk (a b : Nat) (d : Array PostH) (ha : a ≤ b) (hb : b ≤ d.size) (hs : d.size ≤ 1073741824) :
  ∃ r : Array PostH, p_breakPatternsH d.toList (a : Int) (b : Int) = some r.toList ∧ Sort.PermIn a b d r := by
 unfold p_breakPatternsH
 have c0 : (b : Int) - (a : Int) = ((b - a : Nat) : Int) := by omega
 rw [gd.yes (by unfold I64; omega), c0]
 by_cases h8 : 8 ≤ b - a
 ·rw [decide_eq_true (show (8 : Int) ≤ ((b - a : Nat) : Int) by omega), cond_true]
  obtain ⟨L, eL, hL, hL2⟩ := e_len (b - a) (by omega)
  have hL2 := hL2 (by omega)
  have e1 : p_slices_nextPowerOfTwo ((b - a : Nat) : Int) = some (wl (1 : UInt64) (L : Int)) := by
   unfold p_slices_nextPowerOfTwo
   rw [eL]; simp only [bd_some]
   rw [gd.yes (by omega)]
  have hM := wl1 L hL
  have hpos : 0 < 2 ^ L := Nat.two_pow_pos _
  rw [e1]; simp only [bd_some]
  generalize wl (1 : UInt64) (L : Int) = M at *
  have c1 : (((b - a : Nat) : Int)).tdiv 4 = (((b - a) / 4 : Nat) : Int) := (Int.ofNat_tdiv (b - a) 4).symm
  have hq : (b - a) / 4 * 4 ≤ b - a := Nat.div_mul_le_self _ _
  have hq2 : b - a < (b - a) / 4 * 4 + 4 := by omega
  rw [c1]
  have hbody : ∀ r4 Q, p_breakPatternsH_b0 (a : Int) (b : Int) r4 Q = p_breakPatternsH_b0 (a : Int) (b : Int) r4 Q := fun _ _ => rfl
  have c2 : ((b : Int) - (a : Int)).tdiv 4 = (((b - a) / 4 : Nat) : Int) := by rw [c0, c1]
  generalize (b - a) / 4 = q at *
  rw [gd.yes (by unfold I64; omega), gd.yes (by unfold I64; omega), gd.yes (by unfold I64; omega), gd.yes (by unfold I64; omega)]
  have hMs : (M - 1).toNat = 2 ^ L - 1 := by
   rw [UInt64.toNat_sub_of_le]
   ·rw [hM]; rfl
   ·rw [UInt64.le_iff_toNat_le, hM]; exact hpos
  have step : ∀ (d' : Array PostH) (x : UInt64) (i : Nat), d'.size = d.size → a + q * 2 - 1 ≤ i → i ≤ a + q * 2 + 1 →
    ∃ (y : UInt64) (o : Nat), a ≤ o ∧ o < b ∧ p_breakPatternsH_b0 (a : Int) (b : Int) M (d'.toList, x, (i : Int)) = some (.inl ((Sort.swp d' i o).toList, y, ((i + 1 : Nat) : Int))) := by
   intro d' x i hz h1 h2
   unfold p_breakPatternsH_b0
   rw [c2, gd.yes (by unfold I64; omega)]
   rw [decide_eq_true (show ((i : Int) ≤ (a : Int) + (q : Int) * 2 + 1) by omega), cond_true]
   obtain ⟨u, v, eN⟩ : ∃ u v, p_slices_xorshift_Next x = some (u, v) := ⟨_, _, rfl⟩
   rw [eN]; simp only [bd_some]
   have hand : (u &&& (M - 1)).toNat ≤ 2 ^ L - 1 := by rw [UInt64.toNat_and, hMs]; exact Nat.and_le_right
   generalize (u &&& (M - 1)).toNat = w at *
   have hp32 : 2 ^ L ≤ 2 ^ 32 := Nat.pow_le_pow_right (by omega) hL
   rw [gd.yes (by unfold I64; omega)]
   obtain ⟨t, et, ht⟩ : ∃ t : Nat, (cond (decide ((b : Int) - (a : Int) ≤ (w : Int))) (gd (I64 ((w : Int) - ((b : Int) - (a : Int)))) <| some ((w : Int) - ((b : Int) - (a : Int)))) (some (w : Int))) = some (t : Int) ∧ t < b - a := by
    by_cases hw : b - a ≤ w
    ·rw [decide_eq_true (show ((b : Int) - (a : Int) ≤ (w : Int)) by omega), cond_true, gd.yes (by unfold I64; omega)]
     exact ⟨w - (b - a), by congr 1; omega, by omega⟩
    ·rw [decide_eq_false (show ¬ ((b : Int) - (a : Int) ≤ (w : Int)) by omega)]
     exact ⟨w, rfl, by omega⟩
   rw [et]
   have c3 : (a : Int) + (t : Int) = ((a + t : Nat) : Int) := by omega
   refine ⟨v, a + t, by omega, by omega, ?_⟩
   simp (disch := first | (unfold I64; omega) | (unfold ix; (try simp only [List.length_set, lenA]); omega)) only [bd_some, c3, gd_true, natI, nthA, swpA', addI]
  have cI : (a : Int) + (q : Int) * 2 - 1 = ((a + q * 2 - 1 : Nat) : Int) := by omega
  rw [cI]
  obtain ⟨e, he, r, rfl, hr⟩ := lp.rule (body := p_breakPatternsH_b0 (a : Int) (b : Int) M) (fun Q => ∃ (d' : Array PostH) (x : UInt64) (i : Nat), Q = (d'.toList, x, (i : Int)) ∧ Sort.PermIn a b d d' ∧ a + q * 2 - 1 ≤ i ∧ i ≤ a + q * 2 + 2)
   (fun Q => ((a + q * 2 + 2 : Nat) - Q.2.2 : Int).toNat) (fun e => ∃ r : Array PostH, e = r.toList ∧ Sort.PermIn a b d r) (by
    rintro _ ⟨d', x, i, rfl, hp, h1, h2⟩
    by_cases hi : i ≤ a + q * 2 + 1
    ·obtain ⟨y, o, ho1, ho2, hst⟩ := step d' x i hp.1 h1 hi
     refine .inl ⟨_, hst, ⟨_, y, i + 1, rfl, Sort.permIn_trans _ _ _ a b hp (Sort.swp_permIn d' a b i o (by omega) (by omega) ho1 ho2 (by rw [hp.1]; exact hb)), by omega, by omega⟩, ?_⟩
     simp only []; omega
    ·refine .inr ⟨d'.toList, ?_, d', rfl, hp⟩
     unfold p_breakPatternsH_b0
     rw [c2, gd.yes (by unfold I64; omega), decide_eq_false (show ¬ ((i : Int) ≤ (a : Int) + (q : Int) * 2 + 1) by omega)]; rfl)
   (s := (d.toList, w64 ((b - a : Nat) : Int), ((a + q * 2 - 1 : Nat) : Int))) ⟨d, _, _, rfl, Sort.permIn_refl d a b, Nat.le_refl _, by omega⟩
  rw [he]
  exact ⟨r, rfl, hr⟩
 ·rw [decide_eq_false (show ¬ (8 : Int) ≤ ((b - a : Nat) : Int) by omega)]
  exact ⟨d, rfl, Sort.permIn_refl d a b⟩
noncomputable def pdqT (rc : (List PostH) → Int → Int → Int → Option ((List PostH))) (l : List PostH) (a b lim : Int) (wb wp : Bool) (p : Int) : Option (((List PostH) × Int × Int × Int × Bool × Bool) ⊕ (Unit ⊕ (List PostH))) :=
 bd (cond (decide (0 < a)) (gd (I64 (a - 1)) <| gd (ix (a - 1) l.length) <| gd (ix p l.length) <| bd (p_impl_indexOf_2 (nth l ((a - 1).toNat)) (nth l p.toNat)) fun r66 => some (!(decide (r66 < 0)))) (some (false))) fun b60 => cond (b60) (bd (p_partitionEqualH l a b p) fun r69 => some (.inl (r69.2, r69.1, b, lim, wb, wp))) (bd (p_partitionH l a b p) fun r73 => gd (I64 (r73.1 - a)) <| gd (I64 (b - r73.1)) <| gd (I64 ((b - a).tdiv 8)) <| cond (decide ((r73.1 - a) < (b - r73.1))) (bd (rc r73.2.2 a r73.1 lim) fun r81 => gd (I64 (r73.1 + 1)) <| some (.inl (r81, r73.1 + 1, b, lim, decide (((b - a).tdiv 8) ≤ (r73.1 - a)), r73.2.1))) (gd (I64 (r73.1 + 1)) <| bd (rc r73.2.2 (r73.1 + 1) b lim) fun r87 => some (.inl (r87, a, r73.1, lim, decide (((b - a).tdiv 8) ≤ (b - r73.1)), r73.2.1))))
theorem pdq_b0s (rc : (List PostH) → Int → Int → Int → Option ((List PostH))) (Q : List PostH × Int × Int × Int × Bool × Bool) : p_pdqsortH_b0 rc Q =
  (gd (I64 (Q.2.2.1 - Q.2.1)) <| cond (decide ((Q.2.2.1 - Q.2.1) ≤ 12)) (bd (p_insertionSortH Q.1 Q.2.1 Q.2.2.1) fun r16 => some (.inr (.inr r16))) (cond (decide (Q.2.2.2.1 = 0)) (bd (p_heapSortH Q.1 Q.2.1 Q.2.2.1) fun r21 => some (.inr (.inr r21))) (bd (cond (!Q.2.2.2.2.1) (bd (p_breakPatternsH Q.1 Q.2.1 Q.2.2.1) fun r29 => gd (I64 (Q.2.2.2.1 - 1)) <| some (r29, Q.2.2.2.1 - 1)) (some (Q.1, Q.2.2.2.1))) fun x26 => bd (p_choosePivotH x26.1 Q.2.1 Q.2.2.1) fun r35 => bd (cond (decide (r35.2 = 2)) (bd (p_reverseRangeH x26.1 Q.2.1 Q.2.2.1) fun r41 => gd (I64 (Q.2.2.1 - 1)) <| gd (I64 (r35.1 - Q.2.1)) <| gd (I64 ((Q.2.2.1 - 1) - (r35.1 - Q.2.1))) <| some (r41, (Q.2.2.1 - 1) - (r35.1 - Q.2.1), 1)) (some (x26.1, r35.1, r35.2))) fun x38 => bd (cond Q.2.2.2.2.1 (cond Q.2.2.2.2.2 (some (decide (x38.2.2 = 1))) (some (false))) (some (false))) fun b49 => cond (b49) (bd (p_partialInsertionSortH x38.1 Q.2.1 Q.2.2.1) fun r54 => cond (r54.1) (some (.inr (.inr r54.2))) (pdqT rc r54.2 Q.2.1 Q.2.2.1 x26.2 Q.2.2.2.2.1 Q.2.2.2.2.2 x38.2.1)) (pdqT rc x38.1 Q.2.1 Q.2.2.1 x26.2 Q.2.2.2.2.1 Q.2.2.2.2.2 x38.2.1)))) := by unfold p_pdqsortH_b0 pdqT; rfl
theorem pdq_b0g (rc : (List PostH) → Int → Int → Int → Option ((List PostH))) (l : List PostH) (a b lim : Int) (wb wp : Bool) (Q : List PostH × Int × Int × Int × Bool × Bool) (h1 : Q.1 = l) (h2 : Q.2.1 = a) (h3 : Q.2.2.1 = b) (h4 : Q.2.2.2.1 = lim) (h5 : Q.2.2.2.2.1 = wb) (h6 : Q.2.2.2.2.2 = wp) : p_pdqsortH_b0 rc Q =
  (gd (I64 (b - a)) <| cond (decide ((b - a) ≤ 12)) (bd (p_insertionSortH l a b) fun r16 => some (.inr (.inr r16))) (cond (decide (lim = 0)) (bd (p_heapSortH l a b) fun r21 => some (.inr (.inr r21))) (bd (cond (!wb) (bd (p_breakPatternsH l a b) fun r29 => gd (I64 (lim - 1)) <| some (r29, lim - 1)) (some (l, lim))) fun x26 => bd (p_choosePivotH x26.1 a b) fun r35 => bd (cond (decide (r35.2 = 2)) (bd (p_reverseRangeH x26.1 a b) fun r41 => gd (I64 (b - 1)) <| gd (I64 (r35.1 - a)) <| gd (I64 ((b - 1) - (r35.1 - a))) <| some (r41, (b - 1) - (r35.1 - a), 1)) (some (x26.1, r35.1, r35.2))) fun x38 => bd (cond wb (cond wp (some (decide (x38.2.2 = 1))) (some (false))) (some (false))) fun b49 => cond (b49) (bd (p_partialInsertionSortH x38.1 a b) fun r54 => cond (r54.1) (some (.inr (.inr r54.2))) (pdqT rc r54.2 a b x26.2 wb wp x38.2.1)) (pdqT rc x38.1 a b x26.2 wb wp x38.2.1)))) := by subst h1 h2 h3 h4 h5 h6; exact pdq_b0s rc Q
theorem pdq_b0 (rc : (List PostH) → Int → Int → Int → Option ((List PostH))) (l : List PostH) (a b lim : Int) (wb wp : Bool) : p_pdqsortH_b0 rc (l, a, b, lim, wb, wp) =
  (gd (I64 (b - a)) <| cond (decide ((b - a) ≤ 12)) (bd (p_insertionSortH l a b) fun r16 => some (.inr (.inr r16))) (cond (decide (lim = 0)) (bd (p_heapSortH l a b) fun r21 => some (.inr (.inr r21))) (bd (cond (!wb) (bd (p_breakPatternsH l a b) fun r29 => gd (I64 (lim - 1)) <| some (r29, lim - 1)) (some (l, lim))) fun x26 => bd (p_choosePivotH x26.1 a b) fun r35 => bd (cond (decide (r35.2 = 2)) (bd (p_reverseRangeH x26.1 a b) fun r41 => gd (I64 (b - 1)) <| gd (I64 (r35.1 - a)) <| gd (I64 ((b - 1) - (r35.1 - a))) <| some (r41, (b - 1) - (r35.1 - a), 1)) (some (x26.1, r35.1, r35.2))) fun x38 => bd (cond wb (cond wp (some (decide (x38.2.2 = 1))) (some (false))) (some (false))) fun b49 => cond (b49) (bd (p_partialInsertionSortH x38.1 a b) fun r54 => cond (r54.1) (some (.inr (.inr r54.2))) (pdqT rc r54.2 a b x26.2 wb wp x38.2.1)) (pdqT rc x38.1 a b x26.2 wb wp x38.2.1)))) := pdq_b0g rc l a b lim wb wp _ rfl rfl rfl rfl rfl rfl
def PS (f : (List PostH) → Int → Int → Int → Option ((List PostH))) (N : Nat) : Prop := ∀ (d : Array PostH) (a b lim : Nat), b - a < N → a ≤ b → b ≤ d.size → d.size ≤ 1073741824 → lim ≤ 1000 → Sort.Below ltP a b d →
 ∃ r : Array PostH, f d.toList (a : Int) (b : Int) (lim : Int) = some r.toList ∧ Sort.PermIn a b d r ∧ Sort.SortedIn ltP a b r
theorem eta2 {α β : Type} (x : α × β) : x = (x.1, x.2) := rfl
theorem eta3 {α β γ : Type} (x : α × β × γ) : x = (x.1, x.2.1, x.2.2) := rfl
theorem e_tailP {rc : (List PostH) → Int → Int → Int → Option ((List PostH))} {N : Nat} (H : PS rc N) (d d4 : Array PostH) (a b lim mid : Nat) (_ _ ap : Bool) (hN : b - a ≤ N) (hb : b ≤ d.size) (hs : d.size ≤ 1073741824) (hl : lim ≤ 1000) (g1 : a ≤ mid) (g2 : mid < b) (hs4 : d4.size = d.size)
  (hBa : Sort.Below ltP a mid d4) (hBr : Sort.Below ltP (mid + 1) b d4)
  (hleft : ∀ L, Sort.PermIn a mid d4 L → Sort.SortedIn ltP a mid L → Sort.Below ltP (mid + 1) b L ∧ ∀ R, Sort.PermIn (mid + 1) b L R → Sort.SortedIn ltP (mid + 1) b R → Sort.PermIn a b d R ∧ Sort.SortedIn ltP a b R)
  (hright : ∀ L, Sort.PermIn (mid + 1) b d4 L → Sort.SortedIn ltP (mid + 1) b L → Sort.Below ltP a mid L ∧ ∀ R, Sort.PermIn a mid L R → Sort.SortedIn ltP a mid R → Sort.PermIn a b d R ∧ Sort.SortedIn ltP a b R) :
  ∃ (d' : Array PostH) (a' b' : Nat) (wb' wp' : Bool), (gd (I64 ((mid : Int) - (a : Int))) <| gd (I64 ((b : Int) - (mid : Int))) <| gd (I64 (((b : Int) - (a : Int)).tdiv 8)) <| cond (decide (((mid : Int) - (a : Int)) < ((b : Int) - (mid : Int)))) (bd (rc d4.toList (a : Int) (mid : Int) (lim : Int)) fun r81 => gd (I64 ((mid : Int) + 1)) <| some (.inl (r81, (mid : Int) + 1, (b : Int), (lim : Int), decide ((((b : Int) - (a : Int)).tdiv 8) ≤ ((mid : Int) - (a : Int))), ap))) (gd (I64 ((mid : Int) + 1)) <| bd (rc d4.toList ((mid : Int) + 1) (b : Int) (lim : Int)) fun r87 => some (.inl (r87, (a : Int), (mid : Int), (lim : Int), decide ((((b : Int) - (a : Int)).tdiv 8) ≤ ((b : Int) - (mid : Int))), ap)))) = (some (.inl (d'.toList, (a' : Int), (b' : Int), (lim : Int), wb', wp')) : Option (((List PostH) × Int × Int × Int × Bool × Bool) ⊕ (Unit ⊕ (List PostH)))) ∧ a' ≤ b' ∧ b' - a' < b - a ∧ d'.size = d.size ∧ b' ≤ d'.size ∧ Sort.Below ltP a' b' d' ∧
   ∀ R, Sort.PermIn a' b' d' R → Sort.SortedIn ltP a' b' R → Sort.PermIn a b d R ∧ Sort.SortedIn ltP a b R := by
 have c8 : ((b : Int) - (a : Int)).tdiv 8 = (((b - a) / 8 : Nat) : Int) := by rw [show (b : Int) - (a : Int) = ((b - a : Nat) : Int) by omega]; exact (Int.ofNat_tdiv (b - a) 8).symm
 have h8 : (b - a) / 8 ≤ b - a := Nat.div_le_self _ _
 rw [gd.yes (by unfold I64; omega), gd.yes (by unfold I64; omega), c8, gd.yes (by unfold I64; omega)]
 by_cases hlt : mid - a < b - mid
 ·rw [decide_eq_true (show ((mid : Int) - (a : Int) < (b : Int) - (mid : Int)) by omega), cond_true]
  obtain ⟨L, eL, l1, l2⟩ := H d4 a mid lim (by omega) g1 (by rw [hs4]; omega) (by rw [hs4]; exact hs) hl hBa
  obtain ⟨hBL, hfin⟩ := hleft L l1 l2
  rw [bd.yes eL, gd.yes (by unfold I64; omega), addI]
  exact ⟨L, mid + 1, b, _, _, rfl, by omega, by omega, by rw [l1.1, hs4], by rw [l1.1, hs4]; exact hb, hBL, hfin⟩
 ·rw [decide_eq_false (show ¬ ((mid : Int) - (a : Int) < (b : Int) - (mid : Int)) by omega), cond_false]
  obtain ⟨L, eL, l1, l2⟩ := H d4 (mid + 1) b lim (by omega) (by omega) (by rw [hs4]; exact hb) (by rw [hs4]; exact hs) hl hBr
  obtain ⟨hBL, hfin⟩ := hright L l1 l2
  rw [gd.yes (by unfold I64; omega), addI, bd.yes eL]
  exact ⟨L, a, mid, _, _, rfl, g1, by omega, by rw [l1.1, hs4], by rw [l1.1, hs4]; omega, hBL, hfin⟩
theorem e_tail {rc : (List PostH) → Int → Int → Int → Option ((List PostH))} {N : Nat} (H : PS rc N) (d : Array PostH) (a b lim p : Nat) (wb wp : Bool) (hN : b - a ≤ N) (ha : a ≤ p) (hp : p < b) (hb : b ≤ d.size) (hs : d.size ≤ 1073741824) (hl : lim ≤ 1000) (hB : Sort.Below ltP a b d) :
  ∃ (d' : Array PostH) (a' b' : Nat) (wb' wp' : Bool), pdqT rc d.toList (a : Int) (b : Int) (lim : Int) wb wp (p : Int) = some (.inl (d'.toList, (a' : Int), (b' : Int), (lim : Int), wb', wp')) ∧ a' ≤ b' ∧ b' - a' < b - a ∧ d'.size = d.size ∧ b' ≤ d'.size ∧ Sort.Below ltP a' b' d' ∧
   ∀ R, Sort.PermIn a' b' d' R → Sort.SortedIn ltP a' b' R → Sort.PermIn a b d R ∧ Sort.SortedIn ltP a b R := by
 have hS := ltP_swo (β := HV)
 unfold pdqT
 obtain ⟨e, he, hc⟩ : ∃ e : Bool, (cond (decide ((0 : Int) < (a : Int))) (gd (I64 ((a : Int) - 1)) <| gd (ix ((a : Int) - 1) d.toList.length) <| gd (ix (p : Int) d.toList.length) <| bd (p_impl_indexOf_2 (nth d.toList (((a : Int) - 1).toNat)) (nth d.toList (p : Int).toNat)) fun r66 => some (!(decide (r66 < 0)))) (some (false))) = some e ∧ (e = true → 0 < a ∧ ltP d[a - 1]! d[p]! = false) := by
  by_cases h0 : 0 < a
  ·have c : (a : Int) - 1 = ((a - 1 : Nat) : Int) := by omega
   refine ⟨!ltP d[a - 1]! d[p]!, ?_, fun h => ⟨h0, by simpa using h⟩⟩
   rw [decide_eq_true (show (0 : Int) < (a : Int) by omega)]
   simp (disch := first | (unfold I64; omega) | (unfold ix; (try simp only [List.length_set, lenA]); omega)) only [cond_true, c, gd_true, natI, nthA, e_cmpH, bd_some, ltN]
  ·exact ⟨false, by rw [decide_eq_false (show ¬ (0 : Int) < (a : Int) by omega)]; rfl, fun h => by cases h⟩
 rw [he]
 simp only [bd_some]
 cases e with
 | true =>
  obtain ⟨h0, hnl⟩ := hc rfl
  obtain ⟨g1, g2, hs4, hB4, hfin⟩ := Sort.round_eq hS (Sort.partitionEqual_holds ltP) h0 ha hp hb hB hnl (eta2 (Sort.partitionEqual ltP d a b p))
  rw [cond_true, e_parE a b p d ha hp hb hs]
  generalize (Sort.partitionEqual ltP d a b p).1 = mid at *
  generalize (Sort.partitionEqual ltP d a b p).2 = d4 at *
  simp only [bd_some]
  exact ⟨_, _, b, wb, wp, rfl, g2, by omega, hs4, by rw [hs4]; exact hb, hB4, hfin⟩
 | false =>
  obtain ⟨g1, g2, hs4, hBa, hBr, hleft, hright⟩ := Sort.round_part hS (Sort.partition_holds ltP) ha hp hb hB (eta3 (Sort.partition ltP d a b p))
  rw [cond_false, e_part a b p d ha hp hb hs]
  simp only [bd_some]
  generalize (Sort.partition ltP d a b p).1 = mid at *
  generalize (Sort.partition ltP d a b p).2.1 = ap at *
  generalize (Sort.partition ltP d a b p).2.2 = d4 at *
  exact e_tailP H d d4 a b lim mid wb wp ap hN hb hs hl g1 g2 hs4 hBa hBr hleft hright
theorem e_pdqL {rc : (List PostH) → Int → Int → Int → Option ((List PostH))} {N : Nat} (H : PS rc N) (v0 : List PostH) : ∀ (n : Nat) (d : Array PostH) (a b lim : Nat) (wb wp : Bool), b - a < n → b - a ≤ N → a ≤ b → b ≤ d.size → d.size ≤ 1073741824 → lim ≤ 1000 → Sort.Below ltP a b d →
  ∃ r : Array PostH, bd (lp (p_pdqsortH_b0 rc) (d.toList, (a : Int), (b : Int), (lim : Int), wb, wp)) (sw (fun _ => some v0) (fun q => some q)) = some r.toList ∧ Sort.PermIn a b d r ∧ Sort.SortedIn ltP a b r
 | 0, _, _, _, _, _, _, h, _, _, _, _, _, _ => absurd h (Nat.not_lt_zero _)
 | n + 1, d, a, b, lim, wb, wp, hn, hN, hab, hb, hs, hl, hB => by
  have hS := ltP_swo (β := HV)
  by_cases h12 : b - a ≤ 12
  ·rw [lp.stop (e := .inr (Sort.insertionSort ltP d a b).toList) (by
    rw [pdq_b0, gd.yes (by unfold I64; omega), decide_eq_true (show ((b : Int) - (a : Int) ≤ 12) by omega), cond_true, e_ins a b d hab hb hs]; rfl)]
   exact ⟨_, rfl, Sort.insertionSort_holds hS d a b hab hb⟩
  ·have e12 : decide ((b : Int) - (a : Int) ≤ 12) = false := decide_eq_false (by omega)
   by_cases hl0 : lim = 0
   ·rw [lp.stop (e := .inr (Sort.heapSort ltP d a b).toList) (by
     rw [pdq_b0, gd.yes (by unfold I64; omega), e12, cond_false, decide_eq_true (show ((lim : Int) = 0) by omega), cond_true, e_heap a b d hab hb hs]; rfl)]
    exact ⟨_, rfl, Sort.heapSort_holds hS d a b hab hb⟩
   ·obtain ⟨d1, lim1, hx1, P1, hl1⟩ : ∃ (d1 : Array PostH) (lim1 : Nat), (cond (!wb) (bd (p_breakPatternsH d.toList (a : Int) (b : Int)) fun r29 => gd (I64 ((lim : Int) - 1)) <| some (r29, (lim : Int) - 1)) (some (d.toList, (lim : Int)))) = some (d1.toList, (lim1 : Int)) ∧ Sort.PermIn a b d d1 ∧ lim1 ≤ 1000 := by
     cases wb with
     | true => exact ⟨d, lim, rfl, Sort.permIn_refl d a b, hl⟩
     | false =>
      obtain ⟨r, hr, hp⟩ := e_brk a b d hab hb hs
      refine ⟨r, lim - 1, ?_, hp, by omega⟩
      rw [Bool.not_false, cond_true, hr]
      simp only [bd_some]
      rw [gd.yes (by unfold I64; omega), show (lim : Int) - 1 = ((lim - 1 : Nat) : Int) by omega]
    have b1 : b ≤ d1.size := by rw [P1.1]; exact hb
    obtain ⟨pv, h, hpv, pa, pb⟩ := e_piv a b d1 (by omega) b1 (by rw [P1.1]; exact hs)
    obtain ⟨d2, pv2, h2, hx2, P2, pa2, pb2⟩ : ∃ (d2 : Array PostH) (pv2 : Nat) (h2 : Int), (cond (decide (h = 2)) (bd (p_reverseRangeH d1.toList (a : Int) (b : Int)) fun r41 => gd (I64 ((b : Int) - 1)) <| gd (I64 ((pv : Int) - (a : Int))) <| gd (I64 (((b : Int) - 1) - ((pv : Int) - (a : Int)))) <| some (r41, ((b : Int) - 1) - ((pv : Int) - (a : Int)), (1 : Int))) (some (d1.toList, (pv : Int), h))) = some (d2.toList, (pv2 : Int), h2) ∧ Sort.PermIn a b d1 d2 ∧ a ≤ pv2 ∧ pv2 < b := by
     cases decide (h = 2) with
     | false => exact ⟨d1, pv, h, rfl, Sort.permIn_refl d1 a b, pa, pb⟩
     | true =>
      refine ⟨Sort.reverseRange d1 a b, (b - 1) - (pv - a), 1, ?_, Sort.reverseRange_holds d1 a b hab b1, by omega, by omega⟩
      rw [cond_true, e_rev a b d1 (by omega) b1 (by rw [P1.1]; exact hs)]
      simp only [bd_some]
      rw [gd.yes (by unfold I64; omega), gd.yes (by unfold I64; omega), gd.yes (by unfold I64; omega), show ((b : Int) - 1) - ((pv : Int) - (a : Int)) = (((b - 1) - (pv - a) : Nat) : Int) by omega]
    have b2 : b ≤ d2.size := by rw [P2.1]; exact b1
    have s2 : d2.size ≤ 1073741824 := by rw [P2.1, P1.1]; exact hs
    have B2 : Sort.Below ltP a b d2 := (hB.perm hb P1).perm b1 P2
    have P02 : Sort.PermIn a b d d2 := Sort.permIn_trans _ _ _ a b P1 P2
    obtain ⟨bb, hbb⟩ : ∃ bb : Bool, (cond wb (cond wp (some (decide (h2 = 1))) (some (false))) (some (false))) = some bb := by cases wb <;> cases wp <;> exact ⟨_, rfl⟩
    have start : ∀ K, cond bb (bd (p_partialInsertionSortH d2.toList (a : Int) (b : Int)) fun r54 => cond (r54.1) (some (.inr (.inr r54.2))) (pdqT rc r54.2 (a : Int) (b : Int) (lim1 : Int) wb wp (pv2 : Int))) (pdqT rc d2.toList (a : Int) (b : Int) (lim1 : Int) wb wp (pv2 : Int)) = K → p_pdqsortH_b0 rc (d.toList, (a : Int), (b : Int), (lim : Int), wb, wp) = K := by
     intro K hK
     rw [pdq_b0, gd.yes (by unfold I64; omega), e12, cond_false, decide_eq_false (show ¬ ((lim : Int) = 0) by omega), cond_false, hx1]
     simp only [bd_some]
     rw [hpv]
     simp only [bd_some]
     rw [hx2]
     simp only [bd_some]
     rw [hbb]
     exact hK
    have go : ∀ d3 : Array PostH, Sort.PermIn a b d2 d3 → p_pdqsortH_b0 rc (d.toList, (a : Int), (b : Int), (lim : Int), wb, wp) = pdqT rc d3.toList (a : Int) (b : Int) (lim1 : Int) wb wp (pv2 : Int) →
      ∃ r : Array PostH, bd (lp (p_pdqsortH_b0 rc) (d.toList, (a : Int), (b : Int), (lim : Int), wb, wp)) (sw (fun _ => some v0) (fun q => some q)) = some r.toList ∧ Sort.PermIn a b d r ∧ Sort.SortedIn ltP a b r := by
     intro d3 P3 hst
     have b3 : b ≤ d3.size := by rw [P3.1]; exact b2
     obtain ⟨d', a', b', wb', wp', hT, q1, q2, q3, q4, q5, q6⟩ := e_tail H d3 a b lim1 pv2 wb wp hN pa2 pb2 b3 (by rw [P3.1]; exact s2) hl1 (B2.perm b2 P3)
     rw [lp.step (hst.trans hT)]
     obtain ⟨r, hr, r1, r2⟩ := e_pdqL H v0 n d' a' b' lim1 wb' wp' (by omega) (by omega) q1 q4 (by rw [q3, P3.1]; exact s2) hl1 q5
     obtain ⟨k1, k2⟩ := q6 r r1 r2
     exact ⟨r, hr, Sort.permIn_trans _ _ _ a b (Sort.permIn_trans _ _ _ a b P02 P3) k1, k2⟩
    cases bb with
    | false => exact go d2 (Sort.permIn_refl d2 a b) (start _ rfl)
    | true =>
     have hpi := Sort.partialInsertionSort_holds hS d2 a b (by omega) b2 B2
     have est : p_pdqsortH_b0 rc (d.toList, (a : Int), (b : Int), (lim : Int), wb, wp) = cond (Sort.partialInsertionSort ltP d2 a b).2 (some (.inr (.inr (Sort.partialInsertionSort ltP d2 a b).1.toList))) (pdqT rc (Sort.partialInsertionSort ltP d2 a b).1.toList (a : Int) (b : Int) (lim1 : Int) wb wp (pv2 : Int)) := by
      refine start _ ?_
      rw [cond_true, e_par a b d2 (by omega) b2 s2]
      rfl
     cases ht : (Sort.partialInsertionSort ltP d2 a b).2 with
     | true =>
      rw [ht, cond_true] at est
      rw [lp.stop est]
      exact ⟨_, rfl, Sort.permIn_trans _ _ _ a b P02 hpi.1, hpi.2 ht⟩
     | false =>
      rw [ht, cond_false] at est
      exact go _ hpi.1 est
theorem e_pdq : ∀ N : Nat, PS (p_pdqsortH N) N
 | 0 => fun d a b lim h => absurd h (Nat.not_lt_zero _)
 | N + 1 => fun d a b lim h hab hb hs hl hB => e_pdqL (e_pdq N) d.toList _ d a b lim true true (Nat.lt_succ_self _) (by omega) hab hb hs hl hB
theorem e_SortH (l : List PostH) (hs : l.length ≤ 1073741824) : ∃ r : List PostH, p_SortFuncH l = some r ∧ r.Perm l ∧ r.Pairwise (fun x y => ltP y x = false) := by
 obtain ⟨L, eL, hL, _⟩ := e_len l.length hs
 obtain ⟨r, hr, h1, h2⟩ := e_pdq (l.length + 1) l.toArray 0 l.length L (by omega) (Nat.zero_le _) (by simp) (by simpa using hs) (by omega) (.inl rfl)
 unfold p_SortFuncH
 rw [eL]
 simp only [bd_some]
 rw [show l.toArray.toList = l from rfl, show ((0 : Nat) : Int) = 0 from rfl] at hr
 rw [hr]
 refine ⟨r.toList, rfl, ?_, ?_⟩
 ·have := h1.2.2
  have e1 : r.extract 0 l.length = r := by
   have : l.length = r.size := by rw [h1.1]; simp
   rw [this]; exact Array.extract_size
  have e2 : l.toArray.extract 0 l.length = l.toArray := by
   have : l.length = l.toArray.size := by simp
   rw [this]; exact Array.extract_size
  rw [e1, e2] at this
  exact this
 ·rw [List.pairwise_iff_getElem]
  intro i j hi hj hij
  have hsz : r.size = l.length := by rw [h1.1]; simp
  have := h2 i j (Nat.zero_le _) hij (by rw [← hsz]; simpa using hj)
  rw [getElem!_pos r i (by simpa using hi), getElem!_pos r j (by simpa using hj)] at this
  simpa using this
noncomputable def p_slices_SortFunc_Post_Post_indexOf_2 (v0 : List Post) : Option (List Post) := sortP v0
theorem c_slices_SortFunc_Post_Post_indexOf_2 {r : List Post} (v0 : List Post) (x_v0 : Option Addr × Nat) (n_v0 : Nat) (e_v0 : n_v0 = v0.length) (H : p_slices_SortFunc_Post_Post_indexOf_2 v0 = some r) : Fn' Tryz.prog 128 #[.slice x_v0.1 n_v0 x_v0.2, .func (.func 129) #[] #[]] [] [tree (.slice x_v0.1 n_v0 x_v0.2) v0] (ι := Unit) (fun _ => .tuple #[]) (fun _ => []) (fun _ => [tree (.slice x_v0.1 n_v0 x_v0.2) r]) := by
 subst e_v0
 have H : sortP v0 = some r := H
 refine Fn'.sortN H ⟨⟨_, Tryz.func128, by kernel_rfl, by kernel_rfl⟩⟩ fun l' hl => ?_
 obtain ⟨r', h1, h2, h3⟩ := e_SortH l' (by rw [hl]; exact (gd.of H).1)
 refine ⟨r', h2, h3, ?_⟩
 have := c_SortFuncH l' x_v0 l'.length rfl h1
 rw [hl] at this; exact this
noncomputable def p_impl_indexOf_b1 (v0 : (List (List Tag))) (Q13 : (List Post) × Int) (Q27 : (List Post) × Int) : Option (((List Post) × Int) ⊕ ((List Post))) := cond (decide (Q27.2 < ((nth v0 Q13.2.toNat).length : Int))) (gd (ix Q27.2 (nth v0 Q13.2.toNat).length) <| bd (p_slices_IndexFunc_Post_Post_indexOf_1 Q27.1 (nth (nth v0 Q13.2.toNat) Q27.2.toNat)) fun r38 => cond (decide (r38 < 0)) (gd (room (Q27.1.length + 1)) <| gd (ix (Q27.1.length : Int) (Q27.1 ++ [((nth (nth v0 Q13.2.toNat) Q27.2.toNat), ([]))]).length) <| gd (I64 (Q13.2 + 1)) <| gd (room (((nth (Q27.1 ++ [((nth (nth v0 Q13.2.toNat) Q27.2.toNat), ([]))]) ((Q27.1.length : Int).toNat)).2).length + 1)) <| gd (I64 (Q27.2 + 1)) <| some (.inl (((Q27.1 ++ [((nth (nth v0 Q13.2.toNat) Q27.2.toNat), ([]))]).set ((Q27.1.length : Int).toNat) (((nth (Q27.1 ++ [((nth (nth v0 Q13.2.toNat) Q27.2.toNat), ([]))]) ((Q27.1.length : Int).toNat)).1), (((nth (Q27.1 ++ [((nth (nth v0 Q13.2.toNat) Q27.2.toNat), ([]))]) ((Q27.1.length : Int).toNat)).2) ++ [Q13.2 + 1]))), Q27.2 + 1))) (gd (ix r38 Q27.1.length) <| gd (I64 (Q13.2 + 1)) <| gd (room (((nth Q27.1 r38.toNat).2).length + 1)) <| gd (I64 (Q27.2 + 1)) <| some (.inl ((Q27.1.set r38.toNat (((nth Q27.1 r38.toNat).1), (((nth Q27.1 r38.toNat).2) ++ [Q13.2 + 1]))), Q27.2 + 1)))) (some (.inr Q27.1))
noncomputable def p_impl_indexOf_b0 (v0 : (List (List Tag))) (Q13 : (List Post) × Int) : Option (((List Post) × Int) ⊕ ((List Post))) := cond (decide (Q13.2 < (v0.length : Int))) (gd (ix Q13.2 v0.length) <| bd (lp (p_impl_indexOf_b1 v0 Q13) (Q13.1, 0)) fun x23 => gd (I64 (Q13.2 + 1)) <| some (.inl (x23, Q13.2 + 1))) (some (.inr Q13.1))
noncomputable def p_impl_indexOf (v0 : (List (List Tag))) : Option (Index) := bd (p_impl_cloneNames v0) fun r3 => bd (lp (p_impl_indexOf_b0 v0) (([] : List Post), 0)) fun x9 => bd (p_slices_SortFunc_Post_Post_indexOf_2 x9) fun r62 => some (r3, r62)
theorem c_impl_indexOf {r : Index} (v0 : (List (List Tag))) (x_v0 : Option Addr × Nat) (H : p_impl_indexOf v0 = some r) : Fn' Tryz.prog 90 #[.slice x_v0.1 v0.length x_v0.2] [imm (.slice x_v0.1 v0.length x_v0.2) v0] [] (ι := (Option Addr × Nat) × (Option Addr × Nat)) (fun x => .agg #[.slice x.1.1 r.1.length x.1.2, .slice x.2.1 r.2.length x.2.2]) (fun _ => []) (fun x => [tree (.slice x.1.1 r.1.length x.1.2) r.1, tree (.slice x.2.1 r.2.length x.2.2) r.2]) := by
 refine calls_of (args := [_]) Tryz.func90 rfl (by kernel_rfl) Tryz.ntmps90 (by simp) fun c => ?_
 unfold p_impl_indexOf at H
 refine Tr.openD Ent.z fun X1 => (Tr.seq (Tr.region (Rg.ef (e_alloc ty35) rfl ?_)))
 rintro _ _ _ ⟨g2, rfl, rfl, rfl⟩
 refine Rg.nl (nT (?_))
 refine Tr.seq (Tr.region (Rg.m rfl ?_))
 obtain ⟨r3, h4, H⟩ := bd.of H
 refine Rg.ef (e_callB (c_impl_cloneNames v0 x_v0 h4) (fun _ => (Solo.tree Solo.nil)) rfl (EntsB.cons (Ent.b (Ent.dimm Ent.z)) EntsB.nil)) rfl ?_
 rintro _ _ _ ⟨x5, rfl, rfl, rfl⟩
 refine Rg.ef (e_lit0 Post Tryz.underlying33 ty113) rfl ?_
 rintro _ _ _ ⟨a6, c7, rfl, rfl, rfl⟩
 refine Rg.p (v := .agg #[.slice x5.1 r3.length x5.2, .slice a6 (([] : List Post).length) c7]) (p_buildS (vs := [(0, .slice x5.1 r3.length x5.2), (1, .slice a6 (([] : List Post).length) c7)]) (cs := #[.slice x5.1 r3.length x5.2, .slice a6 (([] : List Post).length) c7]) ty35 pl35 rfl rfl) (Rg.ef (e_alloc ty35) rfl ?_)
 rintro _ _ _ ⟨g8, rfl, rfl, rfl⟩
 refine Rg.en (e_store (cs' := [.slice x5.1 r3.length x5.2, .slice a6 (([] : List Post).length) c7]) ty35 rfl rfl Upd.here rfl (one_of rfl) (Nat.le_of_ble_eq_true rfl) rfl) rfl ?_
 rintro _ _ _ ⟨rfl, rfl, rfl⟩
 refine Rg.nl (nT (?_))
 refine Tr.seq (Tr.seq (Tr.region (Rg.m rfl (Rg.p (p_len 56 Tryz.underlying32 rfl) (Rg.m (v := .int .i64 (0)) rfl ?_)))))
 refine Rg.nl (nT (?_))
 obtain ⟨x9, hx10, H⟩ := bd.of H
 obtain ⟨n11, hx10⟩ := lp.of hx10
 refine tMidNC (ι := Option Addr × Nat) (fun ψ => [(2, .pointer (some ⟨g2, 0, none⟩)), (3, .pointer (some ⟨g8, 0, none⟩))]) (fun ψ => [box g2 35 [.slice none 0 0, .slice none 0 0], tree (.slice x5.1 r3.length x5.2) r3, tree (.slice ψ.1 x9.length ψ.2) x9, box g8 35 [.slice x5.1 r3.length x5.2, .slice ψ.1 x9.length ψ.2]]) ?_ ?_
 ·refine Tr.block (tLoopC (ι := { q : Nat × ((List Post) × Int) × (Option Addr × Nat) // itr (p_impl_indexOf_b0 v0) q.1 q.2.1 = some x9 }) (fun ζ => [(2, .pointer (some ⟨g2, 0, none⟩)), (3, .pointer (some ⟨g8, 0, none⟩)), (13, .slice x_v0.1 v0.length x_v0.2), (14, .int .i64 ((v0.length : Int))), (15, .int .i64 (ζ.1.2.1.2))]) (fun ζ => [box g2 35 [.slice none 0 0, .slice none 0 0], tree (.slice x5.1 r3.length x5.2) r3, tree (.slice ζ.1.2.2.1 ζ.1.2.1.1.length ζ.1.2.2.2) ζ.1.2.1.1, box g8 35 [.slice x5.1 r3.length x5.2, .slice ζ.1.2.2.1 ζ.1.2.1.1.length ζ.1.2.2.2]]) (fun ζ => ζ.1.1) ⟨(n11, (([] : List Post), 0), (a6, c7)), hx10⟩ ⟨rfl, rfl, rfl, rfl, rfl, trivial⟩ (.cons dl3 (.cons dl2 (.cons dl1 (.cons Del.here .nil)))) ?_)
  rintro ⟨⟨m12, Q13, z14⟩, hk19⟩
  obtain ⟨m20, t16, e, H1, hi17, hb18⟩ := itr.of (n := m12) (s := Q13) hk19
  subst e; unfold p_impl_indexOf_b0 at H1
  show Tr _ _ _ _ _ [(2, .pointer (some ⟨g2, 0, none⟩)), (3, .pointer (some ⟨g8, 0, none⟩)), (13, .slice x_v0.1 v0.length x_v0.2), (14, .int .i64 ((v0.length : Int))), (15, .int .i64 (Q13.2))] _ [box g2 35 [.slice none 0 0, .slice none 0 0], tree (.slice x5.1 r3.length x5.2) r3, tree (.slice z14.1 Q13.1.length z14.2) Q13.1, box g8 35 [.slice x5.1 r3.length x5.2, .slice z14.1 Q13.1.length z14.2]]
  refine Tr.seq (Tr.region (Rg.p (p_lss rfl rfl) (Rg.nl (nT (?_)))))
  refine Tr.seq (Tr.cond (b := decide (Q13.2 < (v0.length : Int))) rfl (fun h21 => ?_) (fun h21 => ?_))
  ·have H1 := cdT h21 H1
   refine tSkip (nT (?_))
   refine Tr.seq (Tr.block (Tr.seq (Tr.region (Rg.m rfl ?_))))
   obtain ⟨h22, H1⟩ := gd.of H1
   refine Rg.o (q_ixg Tryz.underlying32 ty56 rfl rfl h22 rfl (Ent.b (Ent.darr Ent.z))) (Rg.o (q_lde (i := Q13.2.toNat) (j := 0) ty56 rfl (Ent.b (Ent.darr Ent.z)) h22.lt rfl) (Rg.a rfl (Rg.a rfl (Rg.nl (nT (?_))))))
   refine Tr.seq (Tr.region (Rg.m rfl (Rg.p (p_len 96 Tryz.underlying56 rfl) (Rg.m (v := .int .i64 (0)) rfl (Rg.nl ?_)))))
   refine nT (?_)
   obtain ⟨x23, hx24, H1⟩ := bd.of H1
   obtain ⟨n25, hx24⟩ := lp.of hx24
   refine tMidNC (ι := Option Addr × Nat) (fun ψ => [(2, .pointer (some ⟨g2, 0, none⟩)), (3, .pointer (some ⟨g8, 0, none⟩)), (13, .slice x_v0.1 v0.length x_v0.2), (14, .int .i64 ((v0.length : Int))), (15, .int .i64 (Q13.2))]) (fun ψ => [box g2 35 [.slice none 0 0, .slice none 0 0], tree (.slice x5.1 r3.length x5.2) r3, tree (.slice ψ.1 x23.length ψ.2) x23, box g8 35 [.slice x5.1 r3.length x5.2, .slice ψ.1 x23.length ψ.2]]) ?_ ?_
   ·refine Tr.block (tLoopC (ι := { q : Nat × ((List Post) × Int) × (Option Addr × Nat) // itr (p_impl_indexOf_b1 v0 Q13) q.1 q.2.1 = some x23 }) (fun ζ => [(2, .pointer (some ⟨g2, 0, none⟩)), (3, .pointer (some ⟨g8, 0, none⟩)), (4, .int .i64 (Q13.2)), (13, .slice x_v0.1 v0.length x_v0.2), (14, .int .i64 ((v0.length : Int))), (15, .int .i64 (Q13.2)), (20, .slice ((X1 Q13.2.toNat).1) ((nth v0 Q13.2.toNat).length) ((X1 Q13.2.toNat).2.1)), (21, .int .i64 (((nth v0 Q13.2.toNat).length : Int))), (22, .int .i64 (ζ.1.2.1.2))]) (fun ζ => [box g2 35 [.slice none 0 0, .slice none 0 0], tree (.slice x5.1 r3.length x5.2) r3, tree (.slice ζ.1.2.2.1 ζ.1.2.1.1.length ζ.1.2.2.2) ζ.1.2.1.1, box g8 35 [.slice x5.1 r3.length x5.2, .slice ζ.1.2.2.1 ζ.1.2.1.1.length ζ.1.2.2.2]]) (fun ζ => ζ.1.1) ⟨(n25, (Q13.1, 0), (z14.1, z14.2)), hx24⟩ ⟨rfl, rfl, rfl, rfl, rfl, rfl, rfl, rfl, rfl, trivial⟩ (.cons Del.here (.cons Del.here (.cons Del.here (.cons Del.here .nil)))) ?_)
    rintro ⟨⟨m26, Q27, z28⟩, hk33⟩
    obtain ⟨m34, t30, e, H2, hi31, hb32⟩ := itr.of (n := m26) (s := Q27) hk33
    subst e; unfold p_impl_indexOf_b1 at H2
    show Tr _ _ _ _ _ [(2, .pointer (some ⟨g2, 0, none⟩)), (3, .pointer (some ⟨g8, 0, none⟩)), (4, .int .i64 (Q13.2)), (13, .slice x_v0.1 v0.length x_v0.2), (14, .int .i64 ((v0.length : Int))), (15, .int .i64 (Q13.2)), (20, .slice ((X1 Q13.2.toNat).1) ((nth v0 Q13.2.toNat).length) ((X1 Q13.2.toNat).2.1)), (21, .int .i64 (((nth v0 Q13.2.toNat).length : Int))), (22, .int .i64 (Q27.2))] _ [box g2 35 [.slice none 0 0, .slice none 0 0], tree (.slice x5.1 r3.length x5.2) r3, tree (.slice z28.1 Q27.1.length z28.2) Q27.1, box g8 35 [.slice x5.1 r3.length x5.2, .slice z28.1 Q27.1.length z28.2]]
    refine Tr.seq (Tr.region (Rg.p (p_lss rfl rfl) (Rg.nl (nT (?_)))))
    refine Tr.seq (Tr.cond (b := decide (Q27.2 < ((nth v0 Q13.2.toNat).length : Int))) rfl (fun h35 => ?_) (fun h35 => ?_))
    ·have H2 := cdT h35 H2
     refine tSkip (nT (?_))
     refine Tr.seq (Tr.block (Tr.seq (Tr.region ?_)))
     obtain ⟨h36, H2⟩ := gd.of H2
     refine Rg.o (q_ixg Tryz.underlying56 ty96 rfl rfl h36 rfl (EntB.flat (Ent.b (Ent.dimm (Ent.del Ent.z h22.lt))))) (Rg.o (v := .agg #[.string ((nth (nth v0 Q13.2.toNat) Q27.2.toNat).1), .string ((nth (nth v0 Q13.2.toNat) Q27.2.toNat).2)]) (q_ldeA (i := Q27.2.toNat) ty96 rfl (EntB.flat (Ent.b (Ent.dimm (Ent.del Ent.z h22.lt)))) h36.lt) (Rg.ef (e_alloc ty96) rfl ?_))
     rintro _ _ _ ⟨g37, rfl, rfl, rfl⟩
     refine Rg.en (e_store (cs' := [.string ((nth (nth v0 Q13.2.toNat) Q27.2.toNat).1), .string ((nth (nth v0 Q13.2.toNat) Q27.2.toNat).2)]) ty96 rfl rfl Upd.here rfl (one_of rfl) (Nat.le_of_ble_eq_true rfl) rfl) rfl ?_
     rintro _ _ _ ⟨rfl, rfl, rfl⟩
     refine Rg.nl (nT (?_))
     refine Tr.seq (Tr.region (Rg.p (p_fabE fa35_1 rfl rfl) (Rg.o (q_ldb ty33 rfl hs4 rfl) (Rg.p (v := .func (.func 127) #[] #[.pointer (some ⟨g37, 0, none⟩)]) (p_mkfunc (vs := [.pointer (some ⟨g37, 0, none⟩)]) rfl rfl) ?_))))
     obtain ⟨r38, h39, H2⟩ := bd.of H2
     refine Rg.o (q_callC (c_slices_IndexFunc_Post_Post_indexOf_1 Q27.1 z28 g37 (nth (nth v0 Q13.2.toNat) Q27.2.toNat) h39) (Solo.box Solo.nil) rfl (.cons Del.here .nil) (EntsB.cons (EntB.tree hs2) EntsB.nil)) (Rg.a rfl (Rg.nl (nT (?_))))
     refine Tr.seq (Tr.seq (Tr.region (Rg.m rfl (Rg.p (p_lss rfl rfl) (Rg.nl ?_)))))
     refine nT (?_)
     refine Tr.cond (b := decide (r38 < 0)) rfl (fun h40 => ?_) (fun h40 => ?_)
     ·have H2 := cdT h40 H2
      refine Tr.seq (Tr.region (Rg.p (p_fabE fa35_1 rfl rfl) (Rg.o (q_ldb ty33 rfl hs4 rfl) (Rg.p (p_len 113 Tryz.underlying33 rfl) (Rg.a rfl ?_)))))
      refine Rg.nl (nT (?_))
      refine Tr.nilT Int (Tr.region (Rg.p (p_fabE fa35_1 rfl rfl) (Rg.o (q_ldb ty33 rfl hs5 rfl) (Rg.o (q_ldbA ty96 rfl hs1 rfl) (Rg.p (v := .agg #[.string ((nth (nth v0 Q13.2.toNat) Q27.2.toNat).1), .string ((nth (nth v0 Q13.2.toNat) Q27.2.toNat).2), .slice none 0 0]) (p_buildS (vs := [(0, .agg #[.string ((nth (nth v0 Q13.2.toNat) Q27.2.toNat).1), .string ((nth (nth v0 Q13.2.toNat) Q27.2.toNat).2)])]) (cs := #[.string ((nth (nth v0 Q13.2.toNat) Q27.2.toNat).1), .string ((nth (nth v0 Q13.2.toNat) Q27.2.toNat).2), .slice none 0 0]) ty113 pl113 rfl rfl) ?_)))))
      refine Rg.ef (e_lit (vs := [(0, .agg #[.string ((nth (nth v0 Q13.2.toNat) Q27.2.toNat).1), .string ((nth (nth v0 Q13.2.toNat) Q27.2.toNat).2), .slice none 0 0])]) [.string ((nth (nth v0 Q13.2.toNat) Q27.2.toNat).1), .string ((nth (nth v0 Q13.2.toNat) Q27.2.toNat).2), .slice none 0 0] Tryz.underlying33 ty113 rfl (by decide) (by decide) (by kernel_rfl)) rfl ?_
      rintro _ _ _ ⟨g41, rfl, rfl, rfl⟩
      obtain ⟨h44, H2⟩ := gd.of H2
      refine Rg.ef (e_app1 (l := Q27.1) (α := Post) ((nth (nth v0 Q13.2.toNat) Q27.2.toNat), ([])) (((), ()), (none, 0)) Tryz.underlying33 ty113 rfl rfl (h44.b (by decide)) h44.x rfl (ShpT.wfa _) (.cons dl5 (.cons Del.here (.cons Del.here .nil)))) rfl ?_
      rintro _ _ _ ⟨a42, c43, rfl, rfl, rfl⟩
      refine Rg.p (p_fabE fa35_1 rfl rfl) (Rg.en (e_store (cs' := [.slice x5.1 r3.length x5.2, .slice a42 ((Q27.1 ++ [((nth (nth v0 Q13.2.toNat) Q27.2.toNat), ([]))]).length) c43]) ty33 rfl rfl up4 rfl (one_of rfl) (Nat.le_of_ble_eq_true rfl) rfl) rfl ?_)
      rintro _ _ _ ⟨rfl, rfl, rfl⟩
      refine Rg.nl (nT (?_))
      obtain ⟨h45, H2⟩ := gd.of H2
      refine Tr.zoom (k := (Q27.1.length : Int).toNat) h45.lt (.cons Del.here .nil) fun x46 => ?_
      show Tr _ _ _ _ _ _ _ (hole (.slice a42 ((Q27.1 ++ [((nth (nth v0 Q13.2.toNat) Q27.2.toNat), ([]))]).length) c43) (Q27.1 ++ [((nth (nth v0 Q13.2.toNat) Q27.2.toNat), ([]))]) ((Q27.1.length : Int).toNat) [.string (((nth (Q27.1 ++ [((nth (nth v0 Q13.2.toNat) Q27.2.toNat), ([]))]) ((Q27.1.length : Int).toNat)).1).1), .string (((nth (Q27.1 ++ [((nth (nth v0 Q13.2.toNat) Q27.2.toNat), ([]))]) ((Q27.1.length : Int).toNat)).1).2), .slice x46.2.1 (((nth (Q27.1 ++ [((nth (nth v0 Q13.2.toNat) Q27.2.toNat), ([]))]) ((Q27.1.length : Int).toNat)).2).length) x46.2.2] :: tree (.slice x46.2.1 (((nth (Q27.1 ++ [((nth (nth v0 Q13.2.toNat) Q27.2.toNat), ([]))]) ((Q27.1.length : Int).toNat)).2).length) x46.2.2) ((nth (Q27.1 ++ [((nth (nth v0 Q13.2.toNat) Q27.2.toNat), ([]))]) ((Q27.1.length : Int).toNat)).2) :: _)
      refine tNwS [(8, .int .i64 ((Q27.1.length : Int))), (2, .pointer (some ⟨g2, 0, none⟩)), (3, .pointer (some ⟨g8, 0, none⟩)), (4, .int .i64 (Q13.2)), (13, .slice x_v0.1 v0.length x_v0.2), (14, .int .i64 ((v0.length : Int))), (15, .int .i64 (Q13.2)), (20, .slice ((X1 Q13.2.toNat).1) ((nth v0 Q13.2.toNat).length) ((X1 Q13.2.toNat).2.1)), (21, .int .i64 (((nth v0 Q13.2.toNat).length : Int))), (22, .int .i64 (Q27.2))] 1 [0, 1, 2, 3, 4, 5, 6, 7, 8, 9, 10, 11, 12, 13, 14, 15] [11, 12, 15] [] Tryz.mixed (by kernel_rfl) (by decide) List.nodup_nil ⟨rfl, rfl, rfl, rfl, rfl, rfl, rfl, rfl, rfl, rfl, trivial⟩ rfl okNil (w_p rfl (p_fabE fa35_1 rfl rfl) (w_o rfl (fun F => (q_ldb ty33 rfl (hs5.app F) rfl)) (w_p rfl (p_move rfl) (w_p rfl (p_fabE fa35_1 rfl rfl) (w_o rfl (fun F => (q_ldb ty33 rfl (hs5.app F) rfl)) ?_)))))
      refine w_p rfl (p_move rfl) ?_
      refine w_o (v := elp a42 (((Q27.1.length : Int).toNat) * Enc.sz Post + 0)) rfl (fun F => (q_ixH (k := (Q27.1.length : Int).toNat) Tryz.underlying33 ty113 rfl rfl h45 rfl (Has.here.app F))) ?_
      refine w_o (v := elp a42 (((Q27.1.length : Int).toNat) * Enc.sz Post + 2)) rfl (fun F => (q_faH (j := 0) (i := (Q27.1.length : Int).toNat) fa113_1 rfl (Has.here.app F) rfl)) ?_
      refine w_o (v := .slice x46.2.1 (((nth (Q27.1 ++ [((nth (nth v0 Q13.2.toNat) Q27.2.toNat), ([]))]) ((Q27.1.length : Int).toNat)).2).length) x46.2.2) rfl (fun F => (q_ldH (i := (Q27.1.length : Int).toNat) (j := 2) ty69 rfl (Has.here.app F) rfl)) (w_p rfl (p_move rfl) ?_)
      obtain ⟨h47, H2⟩ := gd.of H2
      refine w_p rfl (p_add rfl rfl h47) (w_ed rfl (by decide) rfl Rdy.nil rfl (n_lit (vs := [(0, .int .i64 (Q13.2 + 1))]) [.int .i64 (Q13.2 + 1)] Tryz.underlying69 ty3 rfl (by decide) (by decide) (by kernel_rfl)) ?_)
      rintro _ _ _ ⟨g48, rfl, rfl, rfl⟩
      refine ⟨(PdOk.q rfl rfl (fun F => (q_ldH (i := (Q27.1.length : Int).toNat) (j := 2) ty69 rfl (hs1.app F) rfl)) (PdOk.q rfl rfl (fun F => (q_faH (j := 0) (i := (Q27.1.length : Int).toNat) fa113_1 rfl (hs1.app F) rfl)) (PdOk.q rfl rfl (fun F => (q_ixH (k := (Q27.1.length : Int).toNat) Tryz.underlying33 ty113 rfl rfl h45 rfl (hs1.app F))) (PdOk.q rfl rfl (fun F => (q_ldb ty33 rfl ((hs5t hs1).app F) rfl)) (PdOk.q rfl rfl (fun F => (q_ldb ty33 rfl ((hs5t hs1).app F) rfl)) PdOk.nil))))), ?_⟩
      obtain ⟨h51, H2⟩ := gd.of H2
      refine w_ed rfl (by decide) rfl Rdy.nil rfl (n_app1 (l := (nth (Q27.1 ++ [((nth (nth v0 Q13.2.toNat) Q27.2.toNat), ([]))]) ((Q27.1.length : Int).toNat)).2) (α := Int) (Q13.2 + 1) () Tryz.underlying69 ty3 rfl rfl (h51.b (by decide)) h51.x rfl (ShpT.wfa _) (.cons dl2 (.cons Del.here .nil))) ?_
      rintro _ _ _ ⟨a49, c50, rfl, rfl, rfl⟩
      refine ⟨(PdOk.anc (by kernel_rfl) (PdOk.q rfl rfl (fun F => (q_faH (j := 0) (i := (Q27.1.length : Int).toNat) fa113_1 rfl (hs1.app F) rfl)) (PdOk.q rfl rfl (fun F => (q_ixH (k := (Q27.1.length : Int).toNat) Tryz.underlying33 ty113 rfl rfl h45 rfl (hs1.app F))) (PdOk.q rfl rfl (fun F => (q_ldb ty33 rfl (hs5.app F) rfl)) (PdOk.q rfl rfl (fun F => (q_ldb ty33 rfl (hs5.app F) rfl)) PdOk.nil))))), ?_⟩
      refine w_o (v := elp a42 (((Q27.1.length : Int).toNat) * Enc.sz Post + 0)) rfl (fun F => (q_ixH (k := (Q27.1.length : Int).toNat) Tryz.underlying33 ty113 rfl rfl h45 rfl (hs1.app F))) ?_
      refine w_o (v := elp a42 (((Q27.1.length : Int).toNat) * Enc.sz Post + 2)) rfl (fun F => (q_faH (j := 0) (i := (Q27.1.length : Int).toNat) fa113_1 rfl (hs1.app F) rfl)) (w_en rfl rfl Rdy.nil rfl (n_stH (v := .slice a49 ((((nth (Q27.1 ++ [((nth (nth v0 Q13.2.toNat) Q27.2.toNat), ([]))]) ((Q27.1.length : Int).toNat)).2) ++ [Q13.2 + 1]).length) c50) (i := (Q27.1.length : Int).toNat) (j := 2) (cs' := [.string (((nth (Q27.1 ++ [((nth (nth v0 Q13.2.toNat) Q27.2.toNat), ([]))]) ((Q27.1.length : Int).toNat)).1).1), .string (((nth (Q27.1 ++ [((nth (nth v0 Q13.2.toNat) Q27.2.toNat), ([]))]) ((Q27.1.length : Int).toNat)).1).2), .slice a49 ((((nth (Q27.1 ++ [((nth (nth v0 Q13.2.toNat) Q27.2.toNat), ([]))]) ((Q27.1.length : Int).toNat)).2) ++ [Q13.2 + 1]).length) c50]) ty69 rfl rfl (.cons dl1 .nil) rfl (one_of rfl) (Nat.le_of_ble_eq_true rfl) rfl rfl) ?_)
      rintro _ _ _ ⟨rfl, rfl, rfl⟩
      refine ⟨(PdOk.anc (by kernel_rfl) (PdOk.q rfl rfl (fun F => (q_ixH (k := (Q27.1.length : Int).toNat) Tryz.underlying33 ty113 rfl rfl h45 rfl (Has.here.app F))) (PdOk.anc (by kernel_rfl) (PdOk.anc (by kernel_rfl) (PdOk.anc (by kernel_rfl) (PdOk.anc (by kernel_rfl) (PdOk.anc (by kernel_rfl) PdOk.nil))))))), ?_⟩
      refine w_nil ?_
      show At _ _ _ _ _ _
      refine nB (nT (?_))
      refine Tr.region ?_
      obtain ⟨h52, H2⟩ := gd.of H2
      refine Rg.p (p_add rfl rfl h52) (Rg.m rfl (Rg.nl (At.unzoom (((nth (Q27.1 ++ [((nth (nth v0 Q13.2.toNat) Q27.2.toNat), ([]))]) ((Q27.1.length : Int).toNat)).1), (((nth (Q27.1 ++ [((nth (nth v0 Q13.2.toNat) Q27.2.toNat), ([]))]) ((Q27.1.length : Int).toNat)).2) ++ [Q13.2 + 1])) (((), ()), (a49, c50)) rfl (.cons Del.here (.cons Del.here .nil)) ?_)))
      refine At.olen Has.here fun hn => ?_; rw [hn]
      exact nLC ⟨(m34, (((Q27.1 ++ [((nth (nth v0 Q13.2.toNat) Q27.2.toNat), ([]))]).set ((Q27.1.length : Int).toNat) (((nth (Q27.1 ++ [((nth (nth v0 Q13.2.toNat) Q27.2.toNat), ([]))]) ((Q27.1.length : Int).toNat)).1), (((nth (Q27.1 ++ [((nth (nth v0 Q13.2.toNat) Q27.2.toNat), ([]))]) ((Q27.1.length : Int).toNat)).2) ++ [Q13.2 + 1]))), Q27.2 + 1), (a42, c43)), hi31 _ (Option.some.inj H2).symm⟩ (Nat.lt_succ_self _) ⟨rfl, rfl, rfl, rfl, rfl, rfl, rfl, rfl, rfl, trivial⟩ Ents.refl (.cons dl2 (.cons dl2 (.cons Del.here (.cons dl1 .nil))))
     ·have H2 := cdF h40 H2
      refine tSkip (nT (?_))
      obtain ⟨h53, H2⟩ := gd.of H2
      refine Tr.zoom (k := r38.toNat) h53.lt (.cons dl3 .nil) fun x54 => ?_
      show Tr _ _ _ _ _ _ _ (hole (.slice z28.1 Q27.1.length z28.2) Q27.1 r38.toNat [.string (((nth Q27.1 r38.toNat).1).1), .string (((nth Q27.1 r38.toNat).1).2), .slice x54.2.1 (((nth Q27.1 r38.toNat).2).length) x54.2.2] :: tree (.slice x54.2.1 (((nth Q27.1 r38.toNat).2).length) x54.2.2) ((nth Q27.1 r38.toNat).2) :: _)
      refine tNwS [(8, .int .i64 (r38)), (2, .pointer (some ⟨g2, 0, none⟩)), (3, .pointer (some ⟨g8, 0, none⟩)), (4, .int .i64 (Q13.2)), (13, .slice x_v0.1 v0.length x_v0.2), (14, .int .i64 ((v0.length : Int))), (15, .int .i64 (Q13.2)), (20, .slice ((X1 Q13.2.toNat).1) ((nth v0 Q13.2.toNat).length) ((X1 Q13.2.toNat).2.1)), (21, .int .i64 (((nth v0 Q13.2.toNat).length : Int))), (22, .int .i64 (Q27.2))] 1 [0, 1, 2, 3, 4, 5, 6, 7, 8, 9, 10, 11, 12, 13, 14, 15] [11, 12, 15] [] Tryz.mixed (by kernel_rfl) (by decide) List.nodup_nil ⟨rfl, rfl, rfl, rfl, rfl, rfl, rfl, rfl, rfl, rfl, trivial⟩ rfl okNil (w_p rfl (p_fabE fa35_1 rfl rfl) (w_o rfl (fun F => (q_ldb ty33 rfl (hs5.app F) rfl)) (w_p rfl (p_move rfl) (w_p rfl (p_fabE fa35_1 rfl rfl) (w_o rfl (fun F => (q_ldb ty33 rfl (hs5.app F) rfl)) ?_)))))
      refine w_p rfl (p_move rfl) ?_
      refine w_o (v := elp z28.1 (r38.toNat * Enc.sz Post + 0)) rfl (fun F => (q_ixH (k := r38.toNat) Tryz.underlying33 ty113 rfl rfl h53 rfl (Has.here.app F))) ?_
      refine w_o (v := elp z28.1 (r38.toNat * Enc.sz Post + 2)) rfl (fun F => (q_faH (j := 0) (i := r38.toNat) fa113_1 rfl (Has.here.app F) rfl)) ?_
      refine w_o (v := .slice x54.2.1 (((nth Q27.1 r38.toNat).2).length) x54.2.2) rfl (fun F => (q_ldH (i := r38.toNat) (j := 2) ty69 rfl (Has.here.app F) rfl)) (w_p rfl (p_move rfl) ?_)
      obtain ⟨h55, H2⟩ := gd.of H2
      refine w_p rfl (p_add rfl rfl h55) (w_ed rfl (by decide) rfl Rdy.nil rfl (n_lit (vs := [(0, .int .i64 (Q13.2 + 1))]) [.int .i64 (Q13.2 + 1)] Tryz.underlying69 ty3 rfl (by decide) (by decide) (by kernel_rfl)) ?_)
      rintro _ _ _ ⟨g56, rfl, rfl, rfl⟩
      refine ⟨(PdOk.q rfl rfl (fun F => (q_ldH (i := r38.toNat) (j := 2) ty69 rfl (hs1.app F) rfl)) (PdOk.q rfl rfl (fun F => (q_faH (j := 0) (i := r38.toNat) fa113_1 rfl (hs1.app F) rfl)) (PdOk.q rfl rfl (fun F => (q_ixH (k := r38.toNat) Tryz.underlying33 ty113 rfl rfl h53 rfl (hs1.app F))) (PdOk.q rfl rfl (fun F => (q_ldb ty33 rfl ((hs5t hs1).app F) rfl)) (PdOk.q rfl rfl (fun F => (q_ldb ty33 rfl ((hs5t hs1).app F) rfl)) PdOk.nil))))), ?_⟩
      obtain ⟨h59, H2⟩ := gd.of H2
      refine w_ed rfl (by decide) rfl Rdy.nil rfl (n_app1 (l := (nth Q27.1 r38.toNat).2) (α := Int) (Q13.2 + 1) () Tryz.underlying69 ty3 rfl rfl (h59.b (by decide)) h59.x rfl (ShpT.wfa _) (.cons dl2 (.cons Del.here .nil))) ?_
      rintro _ _ _ ⟨a57, c58, rfl, rfl, rfl⟩
      refine ⟨(PdOk.anc (by kernel_rfl) (PdOk.q rfl rfl (fun F => (q_faH (j := 0) (i := r38.toNat) fa113_1 rfl (hs1.app F) rfl)) (PdOk.q rfl rfl (fun F => (q_ixH (k := r38.toNat) Tryz.underlying33 ty113 rfl rfl h53 rfl (hs1.app F))) (PdOk.q rfl rfl (fun F => (q_ldb ty33 rfl (hs5.app F) rfl)) (PdOk.q rfl rfl (fun F => (q_ldb ty33 rfl (hs5.app F) rfl)) PdOk.nil))))), ?_⟩
      refine w_o (v := elp z28.1 (r38.toNat * Enc.sz Post + 0)) rfl (fun F => (q_ixH (k := r38.toNat) Tryz.underlying33 ty113 rfl rfl h53 rfl (hs1.app F))) ?_
      refine w_o (v := elp z28.1 (r38.toNat * Enc.sz Post + 2)) rfl (fun F => (q_faH (j := 0) (i := r38.toNat) fa113_1 rfl (hs1.app F) rfl)) (w_en rfl rfl Rdy.nil rfl (n_stH (v := .slice a57 ((((nth Q27.1 r38.toNat).2) ++ [Q13.2 + 1]).length) c58) (i := r38.toNat) (j := 2) (cs' := [.string (((nth Q27.1 r38.toNat).1).1), .string (((nth Q27.1 r38.toNat).1).2), .slice a57 ((((nth Q27.1 r38.toNat).2) ++ [Q13.2 + 1]).length) c58]) ty69 rfl rfl (.cons dl1 .nil) rfl (one_of rfl) (Nat.le_of_ble_eq_true rfl) rfl rfl) ?_)
      rintro _ _ _ ⟨rfl, rfl, rfl⟩
      refine ⟨(PdOk.anc (by kernel_rfl) (PdOk.q rfl rfl (fun F => (q_ixH (k := r38.toNat) Tryz.underlying33 ty113 rfl rfl h53 rfl (Has.here.app F))) (PdOk.anc (by kernel_rfl) (PdOk.anc (by kernel_rfl) (PdOk.anc (by kernel_rfl) (PdOk.anc (by kernel_rfl) (PdOk.anc (by kernel_rfl) PdOk.nil))))))), ?_⟩
      refine w_nil ?_
      show At _ _ _ _ _ _
      refine nB (nT (?_))
      refine Tr.region ?_
      obtain ⟨h60, H2⟩ := gd.of H2
      refine Rg.p (p_add rfl rfl h60) (Rg.m rfl (Rg.nl (At.unzoom (((nth Q27.1 r38.toNat).1), (((nth Q27.1 r38.toNat).2) ++ [Q13.2 + 1])) (((), ()), (a57, c58)) rfl (.cons Del.here (.cons Del.here .nil)) ?_)))
      refine At.olen Has.here fun hn => ?_; rw [hn]
      exact nLC ⟨(m34, ((Q27.1.set r38.toNat (((nth Q27.1 r38.toNat).1), (((nth Q27.1 r38.toNat).2) ++ [Q13.2 + 1]))), Q27.2 + 1), (z28.1, z28.2)), hi31 _ (Option.some.inj H2).symm⟩ (Nat.lt_succ_self _) ⟨rfl, rfl, rfl, rfl, rfl, rfl, rfl, rfl, rfl, trivial⟩ Ents.refl (.cons dl2 (.cons dl2 (.cons Del.here (.cons dl1 .nil))))
    ·have H2 := cdF h35 H2
     refine tExit (xT (xT (xE (?_))))
     have hx := hb32 _ (Option.some.inj H2).symm; subst hx
     exact nMC (z28.1, z28.2) ⟨rfl, rfl, rfl, rfl, rfl, trivial⟩ Ents.refl (.cons Del.here (.cons Del.here (.cons Del.here (.cons Del.here .nil))))
   ·intro y29
    show At _ _ [(2, .pointer (some ⟨g2, 0, none⟩)), (3, .pointer (some ⟨g8, 0, none⟩)), (13, .slice x_v0.1 v0.length x_v0.2), (14, .int .i64 ((v0.length : Int))), (15, .int .i64 (Q13.2))] _ [box g2 35 [.slice none 0 0, .slice none 0 0], tree (.slice x5.1 r3.length x5.2) r3, tree (.slice y29.1 x23.length y29.2) x23, box g8 35 [.slice x5.1 r3.length x5.2, .slice y29.1 x23.length y29.2]] _
    refine nB (nT (?_))
    refine Tr.region ?_
    obtain ⟨h61, H1⟩ := gd.of H1
    refine Rg.p (p_add rfl rfl h61) (Rg.m rfl (Rg.nl ?_))
    exact nLC ⟨(m20, (x23, Q13.2 + 1), (y29.1, y29.2)), hi17 _ (Option.some.inj H1).symm⟩ (Nat.lt_succ_self _) ⟨rfl, rfl, rfl, rfl, rfl, trivial⟩ Ents.refl (.cons Del.here (.cons Del.here (.cons Del.here (.cons Del.here .nil))))
  ·have H1 := cdF h21 H1
   refine tExit (xT (xT (xE (?_))))
   have hx := hb18 _ (Option.some.inj H1).symm; subst hx
   exact nMC (z14.1, z14.2) ⟨rfl, rfl, trivial⟩ Ents.refl (.cons Del.here (.cons Del.here (.cons Del.here (.cons Del.here .nil))))
 ·intro y15
  show At _ _ [(2, .pointer (some ⟨g2, 0, none⟩)), (3, .pointer (some ⟨g8, 0, none⟩))] _ [box g2 35 [.slice none 0 0, .slice none 0 0], tree (.slice x5.1 r3.length x5.2) r3, tree (.slice y15.1 x9.length y15.2) x9, box g8 35 [.slice x5.1 r3.length x5.2, .slice y15.1 x9.length y15.2]] _
  refine nT (?_)
  refine Tr.seq (Tr.region (Rg.p (p_fabE fa35_1 rfl rfl) (Rg.o (q_ldb ty33 rfl hs3 rfl) ?_)))
  obtain ⟨r62, h63, H⟩ := bd.of H
  refine Rg.ef (e_callM (c_slices_SortFunc_Post_Post_indexOf_2 x9 y15 x9.length rfl h63) (Solo.tree Solo.nil) (fun _ => (Solo.tree Solo.nil)) rfl (.cons dl2 .nil) EntsB.nil) rfl ?_
  rintro _ _ _ ⟨u64, rfl, rfl, rfl⟩
  refine Rg.nl (nT (?_))
  refine Tr.seq ?_
  refine Tr.olen Has.here fun hn => ?_; rw [hn]
  refine Tr.region (Rg.o (q_ldbA ty35 rfl hs3 rfl) (Rg.en (e_store (cs' := [.slice x5.1 r3.length x5.2, .slice y15.1 r62.length y15.2]) ty35 rfl rfl up1 rfl (one_of rfl) (Nat.le_of_ble_eq_true rfl) rfl) rfl ?_))
  rintro _ _ _ ⟨rfl, rfl, rfl⟩
  refine Rg.nl (nT (?_))
  refine tRet ?_
  obtain rfl := si H
  exact back1 (x5, y15) rfl (ResV.agg ty35 rfl hs1 rfl) rfl Ents.nil (.cons dl2 (.cons Del.here .nil))
noncomputable def p_slices_Equal_int_int_b0 (v0 : (List Int)) (v1 : (List Int)) (Q6 : Int) : Option ((Int) ⊕ (Unit ⊕ Bool)) := cond (decide (Q6 < (v0.length : Int))) (gd (ix Q6 v0.length) <| gd (ix Q6 v1.length) <| cond (!decide ((nth v0 Q6.toNat) = (nth v1 Q6.toNat))) (some (.inr (.inr false))) (gd (I64 (Q6 + 1)) <| some (.inl (Q6 + 1)))) (some (.inr (.inl ())))
noncomputable def p_slices_Equal_int_int (v0 : (List Int)) (v1 : (List Int)) : Option (Bool) := cond (!decide ((v0.length : Int) = (v1.length : Int))) (some false) (bd (lp (p_slices_Equal_int_int_b0 v0 v1) 0) <| sw (fun _ => some true) (fun q => some q))
theorem c_slices_Equal_int_int {r : Bool} (v0 : (List Int)) (x_v0 : Option Addr × Nat) (v1 : (List Int)) (x_v1 : Option Addr × Nat) (H : p_slices_Equal_int_int v0 v1 = some r) : Fn' Tryz.prog 92 #[.slice x_v0.1 v0.length x_v0.2, .slice x_v1.1 v1.length x_v1.2] [imm (.slice x_v0.1 v0.length x_v0.2) v0, imm (.slice x_v1.1 v1.length x_v1.2) v1] [] (ι := Unit) (fun _ => .bool (r)) (fun _ => []) (fun _ => []) := by
 refine calls_of (args := [_, _]) Tryz.func92 rfl (by kernel_rfl) Tryz.ntmps92 (by simp) fun c => ?_
 unfold p_slices_Equal_int_int at H
 refine Tr.seq (Tr.region (Rg.a (v := .bool (false)) rfl (Rg.nl (nT (?_)))))
 refine Tr.seq (Tr.seq (Tr.region (Rg.m rfl (Rg.p (p_len 3 Tryz.underlying69 rfl) (Rg.m rfl ?_)))))
 refine Rg.p (p_len 3 Tryz.underlying69 rfl) (Rg.p (p_neq rfl rfl) (Rg.nl (nT (?_))))
 refine Tr.cond (b := !decide ((v0.length : Int) = (v1.length : Int))) rfl (fun h1 => ?_) (fun h1 => ?_)
 ·have H := cdT h1 H
  refine Tr.seq (Tr.region (Rg.a (v := .bool (false)) rfl (Rg.nl (nT (?_)))))
  refine tRet (rT (?_))
  obtain rfl := si H
  exact bk1 rfl rfl rfl rfl Take.nil
 ·have H := cdF h1 H
  refine tSkip (nT (?_))
  refine Tr.seq (Tr.seq (Tr.region (Rg.m rfl (Rg.p (p_len 3 Tryz.underlying69 rfl) (Rg.m (v := .int .i64 (0)) rfl ?_)))))
  refine Rg.nl (nT (?_))
  obtain ⟨x2, hx3, H⟩ := bd.of H
  obtain ⟨n4, hx3⟩ := lp.of hx3
  refine tMidNC (ι := { q : (Unit) × Unit // x2 = .inl q.1 }) (fun ψ => []) (fun ψ => []) ?_ ?_
  ·refine Tr.block (tLoopC (ι := { q : Nat × (Int) × Unit // itr (p_slices_Equal_int_int_b0 v0 v1) q.1 q.2.1 = some x2 }) (fun ζ => [(0, .slice x_v0.1 v0.length x_v0.2), (1, .slice x_v1.1 v1.length x_v1.2), (12, .int .i64 ((v0.length : Int))), (13, .int .i64 (ζ.1.2.1))]) (fun ζ => []) (fun ζ => ζ.1.1) ⟨(n4, 0, ()), hx3⟩ ⟨rfl, rfl, rfl, rfl, trivial⟩ Take.nil ?_)
   rintro ⟨⟨m5, Q6, z7⟩, hk12⟩
   obtain ⟨m13, t9, e, H1, hi10, hb11⟩ := itr.of (n := m5) (s := Q6) hk12
   subst e; unfold p_slices_Equal_int_int_b0 at H1
   show Tr _ _ _ _ _ [(0, .slice x_v0.1 v0.length x_v0.2), (1, .slice x_v1.1 v1.length x_v1.2), (12, .int .i64 ((v0.length : Int))), (13, .int .i64 (Q6))] _ []
   refine Tr.seq (Tr.region (Rg.p (p_lss rfl rfl) (Rg.nl (nT (?_)))))
   refine Tr.seq (Tr.cond (b := decide (Q6 < (v0.length : Int))) rfl (fun h14 => ?_) (fun h14 => ?_))
   ·have H1 := cdT h14 H1
    refine tSkip (nT (?_))
    refine Tr.seq (Tr.block (Tr.seq (Tr.region (Rg.m rfl (Rg.a rfl ?_)))))
    refine Rg.nl (nT (?_))
    refine Tr.seq (tLinS [(5, .int .i64 (Q6)), (0, .slice x_v0.1 v0.length x_v0.2), (1, .slice x_v1.1 v1.length x_v1.2), (12, .int .i64 ((v0.length : Int))), (13, .int .i64 (Q6))] Tryz.mixed (.inr (by kernel_rfl)) ⟨rfl, rfl, rfl, rfl, rfl, trivial⟩ rfl (Lin.m rfl (Lin.m rfl ?_)))
    obtain ⟨h15, H1⟩ := gd.of H1
    refine Lin.o (q_ixg Tryz.underlying69 ty3 rfl rfl h15 rfl (EntB.flat (Ent.b Ent.z))) (Lin.o (q_lde (i := Q6.toNat) (j := 0) ty3 rfl (EntB.flat (Ent.b Ent.z)) h15.lt rfl) (Lin.m rfl (Lin.m rfl ?_)))
    obtain ⟨h16, H1⟩ := gd.of H1
    refine Lin.o (q_ixg Tryz.underlying69 ty3 rfl rfl h16 rfl (EntB.flat (Ent.b Ent.z.s))) (Lin.o (q_lde (i := Q6.toNat) (j := 0) ty3 rfl (EntB.flat (Ent.b Ent.z.s)) h16.lt rfl) (Lin.p (p_neq rfl rfl) ?_))
    show At _ _ _ _ _ _
    refine nT (?_)
    refine Tr.cond (b := !decide ((nth v0 Q6.toNat) = (nth v1 Q6.toNat))) rfl (fun h17 => ?_) (fun h17 => ?_)
    ·have H1 := cdT h17 H1
     refine Tr.seq (Tr.region (Rg.a (v := .bool (false)) rfl (Rg.nl (nT (?_)))))
     refine tRet (rB (rT (rT (rB (rT (rT (?_)))))))
     have hx := hb11 _ (Option.some.inj H1).symm; subst hx
     replace H := sw.r H
     obtain rfl := si H
     exact bk1 rfl rfl rfl rfl Take.nil
    ·have H1 := cdF h17 H1
     refine tSkip (nB (nT (?_)))
     refine Tr.region ?_
     obtain ⟨h18, H1⟩ := gd.of H1
     refine Rg.p (p_add rfl rfl h18) (Rg.m rfl (Rg.nl ?_))
     exact nLC ⟨(m13, Q6 + 1, ()), hi10 _ (Option.some.inj H1).symm⟩ (Nat.lt_succ_self _) ⟨rfl, rfl, rfl, rfl, trivial⟩ Ents.refl Take.nil
   ·have H1 := cdF h14 H1
    refine tExit (xT (xT (xE (?_))))
    exact nMC ⟨((), ()), (hb11 _ (Option.some.inj H1).symm).symm⟩ trivial Ents.refl Take.nil
  ·rintro ⟨⟨e19, y8⟩, hx⟩; subst hx; replace H := sw.l H
   show At _ _ [] _ [] _
   refine nT (?_)
   refine Tr.seq (Tr.region (Rg.a (v := .bool (true)) rfl (Rg.nl (nT (?_)))))
   refine tRet ?_
   obtain rfl := si H
   exact bk1 rfl rfl rfl rfl Take.nil
noncomputable def p_impl_IndexOk_1 (v0 : Post) (v1 : Post) : Option (Bool) := bd (cond (decide (v0.1 = v1.1)) (bd (p_slices_Equal_int_int v0.2 v1.2) fun r6 => some (r6)) (some (false))) fun b3 => some b3
theorem c_impl_IndexOk_1 {r : Bool} (v0 : Post) (x_v0 : (Unit × Unit) × (Option Addr × Nat)) (v1 : Post) (x_v1 : (Unit × Unit) × (Option Addr × Nat)) (H : p_impl_IndexOk_1 v0 v1 = some r) : Fn' Tryz.prog 91 #[.agg #[.string (v0.1.1), .string (v0.1.2), .slice x_v0.2.1 v0.2.length x_v0.2.2], .agg #[.string (v1.1.1), .string (v1.1.2), .slice x_v1.2.1 v1.2.length x_v1.2.2]] [imm (.slice x_v0.2.1 v0.2.length x_v0.2.2) v0.2, imm (.slice x_v1.2.1 v1.2.length x_v1.2.2) v1.2] [] (ι := Unit) (fun _ => .bool (r)) (fun _ => []) (fun _ => []) := by
 refine calls_of (args := [_, _]) Tryz.func91 rfl (by kernel_rfl) Tryz.ntmps91 (by simp) fun c => ?_
 unfold p_impl_IndexOk_1 at H
 refine Tr.seq (Tr.region (Rg.ef (e_box (t := 113) rfl) rfl ?_))
 rintro _ _ _ ⟨g1, rfl, rfl, rfl⟩
 refine Rg.ef (e_box (t := 113) rfl) rfl ?_
 rintro _ _ _ ⟨g2, rfl, rfl, rfl⟩
 refine Rg.a (v := .bool (false)) rfl (Rg.nl (nT (?_)))
 obtain ⟨b3, j4, H⟩ := bd.of H
 refine tMid1 [(4, .bool (b3))] ?_ ?_
 ·refine tLinT [(3, .pointer (some ⟨g2, 0, none⟩)), (2, .pointer (some ⟨g1, 0, none⟩))] ⟨rfl, rfl, trivial⟩ (Lin.p (p_fabE fa113_0 rfl rfl) (Lin.o (v := .agg #[.string (v0.1.1), .string (v0.1.2)]) (q_ldbP [.string (v0.1.1), .string (v0.1.2)] ty96 rfl hs1 rfl rfl) (Lin.p (p_fabE fa113_0 rfl rfl) (Lin.o (v := .agg #[.string (v1.1.1), .string (v1.1.2)]) (q_ldbP [.string (v1.1.1), .string (v1.1.2)] ty96 rfl Has.here rfl rfl) (Lin.p (v := .bool (decide (v0.1 = v1.1))) (p_aeql (a := v0.1) (b := v1.1) ae96 rfl rfl rfl rfl) ?_)))))
  rcases Bool.eq_false_or_eq_true (decide (v0.1 = v1.1)) with h5 | h5
  ·have j4 := cdT h5 j4
   refine Lin.e_ (p_move rfl) h5 (Lin.h rfl (p_fabE fa113_1 rfl rfl) (Lin.i rfl (q_ldb ty69 rfl hs1 rfl) (Lin.h rfl (p_fabE fa113_1 rfl rfl) (Lin.i rfl (q_ldb ty69 rfl Has.here rfl) ?_))))
   obtain ⟨r6, h7, j4⟩ := bd.of j4
   refine Lin.i rfl (q_call (c_slices_Equal_int_int v0.2 x_v0.2 v1.2 x_v1.2 h7) rfl (EntsB.cons (Ent.b Ent.z) (EntsB.cons (Ent.b Ent.z.s) EntsB.nil))) (Lin.p (p_pickT rfl rfl) (Lin.p (p_assign rfl) ?_))
   obtain rfl := si j4
   show At _ _ _ _ _ _
   exact n1 ⟨rfl, trivial⟩
  ·have j4 := cdF h5 j4
   refine Lin.e_ (p_move rfl) h5 ?_
   iterate 5 refine Lin.sk rfl ?_
   refine Lin.p (v := .bool (false)) (p_pickF rfl rfl) (Lin.p (v := .bool (false)) (p_assign rfl) ?_)
   obtain rfl := si j4
   show At _ _ _ _ _ _
   exact n1 ⟨rfl, trivial⟩
 refine tRet ?_
 obtain rfl := si H
 exact bk1 rfl rfl rfl rfl Take.nil
noncomputable def p_slices_EqualFunc_Post_Post_Post_Post_IndexOk_1_b0 (v0 : (List Post)) (v1 : (List Post)) (Q8 : Int) : Option ((Int) ⊕ (Unit ⊕ Bool)) := cond (decide (Q8 < (v0.length : Int))) (gd (ix Q8 v0.length) <| gd (ix Q8 v1.length) <| bd (p_impl_IndexOk_1 (nth v0 Q8.toNat) (nth v1 Q8.toNat)) fun r21 => cond (!r21) (some (.inr (.inr false))) (gd (I64 (Q8 + 1)) <| some (.inl (Q8 + 1)))) (some (.inr (.inl ())))
noncomputable def p_slices_EqualFunc_Post_Post_Post_Post_IndexOk_1 (v0 : (List Post)) (v1 : (List Post)) : Option (Bool) := cond (!decide ((v0.length : Int) = (v1.length : Int))) (some false) (bd (lp (p_slices_EqualFunc_Post_Post_Post_Post_IndexOk_1_b0 v0 v1) 0) <| sw (fun _ => some true) (fun q => some q))
theorem c_slices_EqualFunc_Post_Post_Post_Post_IndexOk_1 {r : Bool} (v0 : (List Post)) (x_v0 : Option Addr × Nat) (v1 : (List Post)) (x_v1 : Option Addr × Nat) (H : p_slices_EqualFunc_Post_Post_Post_Post_IndexOk_1 v0 v1 = some r) : Fn' Tryz.prog 89 #[.slice x_v0.1 v0.length x_v0.2, .slice x_v1.1 v1.length x_v1.2, .func (.func 91) #[] #[]] [imm (.slice x_v0.1 v0.length x_v0.2) v0, imm (.slice x_v1.1 v1.length x_v1.2) v1] [] (ι := Unit) (fun _ => .bool (r)) (fun _ => []) (fun _ => []) := by
 refine calls_of (args := [_, _, _]) Tryz.func89 rfl (by kernel_rfl) Tryz.ntmps89 (by simp) fun c => ?_
 unfold p_slices_EqualFunc_Post_Post_Post_Post_IndexOk_1 at H
 refine Tr.openD Ent.z fun X1 => (Tr.openD Ent.z.s.s fun X2 => (Tr.seq (Tr.region (Rg.a (v := .bool (false)) rfl (Rg.nl ?_)))))
 refine nT (?_)
 refine Tr.seq (Tr.seq (Tr.region (Rg.m rfl (Rg.p (p_len 113 Tryz.underlying33 rfl) (Rg.m rfl ?_)))))
 refine Rg.p (p_len 113 Tryz.underlying33 rfl) (Rg.p (p_neq rfl rfl) (Rg.nl (nT (?_))))
 refine Tr.cond (b := !decide ((v0.length : Int) = (v1.length : Int))) rfl (fun h3 => ?_) (fun h3 => ?_)
 ·have H := cdT h3 H
  refine Tr.seq (Tr.region (Rg.a (v := .bool (false)) rfl (Rg.nl (nT (?_)))))
  refine tRet (rT (?_))
  obtain rfl := si H
  exact bk1 rfl rfl rfl rfl Take.nil
 ·have H := cdF h3 H
  refine tSkip (nT (?_))
  refine Tr.seq (Tr.seq (Tr.region (Rg.m rfl (Rg.p (p_len 113 Tryz.underlying33 rfl) (Rg.m (v := .int .i64 (0)) rfl ?_)))))
  refine Rg.nl (nT (?_))
  obtain ⟨x4, hx5, H⟩ := bd.of H
  obtain ⟨n6, hx5⟩ := lp.of hx5
  refine tMidNC (ι := { q : (Unit) × Unit // x4 = .inl q.1 }) (fun ψ => []) (fun ψ => []) ?_ ?_
  ·refine Tr.block (tLoopC (ι := { q : Nat × (Int) × Unit // itr (p_slices_EqualFunc_Post_Post_Post_Post_IndexOk_1_b0 v0 v1) q.1 q.2.1 = some x4 }) (fun ζ => [(1, .slice x_v1.1 v1.length x_v1.2), (2, .func (.func 91) #[] #[]), (15, .slice x_v0.1 v0.length x_v0.2), (16, .int .i64 ((v0.length : Int))), (17, .int .i64 (ζ.1.2.1))]) (fun ζ => []) (fun ζ => ζ.1.1) ⟨(n6, 0, ()), hx5⟩ ⟨rfl, rfl, rfl, rfl, rfl, trivial⟩ Take.nil ?_)
   rintro ⟨⟨m7, Q8, z9⟩, hk14⟩
   obtain ⟨m15, t11, e, H1, hi12, hb13⟩ := itr.of (n := m7) (s := Q8) hk14
   subst e; unfold p_slices_EqualFunc_Post_Post_Post_Post_IndexOk_1_b0 at H1
   show Tr _ _ _ _ _ [(1, .slice x_v1.1 v1.length x_v1.2), (2, .func (.func 91) #[] #[]), (15, .slice x_v0.1 v0.length x_v0.2), (16, .int .i64 ((v0.length : Int))), (17, .int .i64 (Q8))] _ []
   refine Tr.seq (Tr.region (Rg.p (p_lss rfl rfl) (Rg.nl (nT (?_)))))
   refine Tr.seq (Tr.cond (b := decide (Q8 < (v0.length : Int))) rfl (fun h16 => ?_) (fun h16 => ?_))
   ·have H1 := cdT h16 H1
    refine tSkip (nT (?_))
    refine Tr.seq (Tr.block (Tr.seq (Tr.region (Rg.m rfl ?_))))
    obtain ⟨h17, H1⟩ := gd.of H1
    refine Rg.o (q_ixg Tryz.underlying33 ty113 rfl rfl h17 rfl (Ent.b (Ent.darr Ent.z.s))) (Rg.o (v := .agg #[.string (((nth v0 Q8.toNat).1).1), .string (((nth v0 Q8.toNat).1).2), .slice (((X1 Q8.toNat).2).1) (((nth v0 Q8.toNat).2).length) (((X1 Q8.toNat).2).2.1)]) (q_ldeA (i := Q8.toNat) ty113 rfl (Ent.b (Ent.darr Ent.z.s)) h17.lt) (Rg.ef (e_alloc ty113) rfl ?_))
    rintro _ _ _ ⟨g18, rfl, rfl, rfl⟩
    refine Rg.a rfl (Rg.en (e_store (cs' := [.string (((nth v0 Q8.toNat).1).1), .string (((nth v0 Q8.toNat).1).2), .slice (((X1 Q8.toNat).2).1) (((nth v0 Q8.toNat).2).length) (((X1 Q8.toNat).2).2.1)]) ty113 rfl rfl Upd.here rfl (one_of rfl) (Nat.le_of_ble_eq_true rfl) rfl) rfl ?_)
    rintro _ _ _ ⟨rfl, rfl, rfl⟩
    refine Rg.nl (nT (?_))
    refine Tr.seq (Tr.region (Rg.m rfl (Rg.m rfl ?_)))
    obtain ⟨h19, H1⟩ := gd.of H1
    refine Rg.o (q_ixg Tryz.underlying33 ty113 rfl rfl h19 rfl (Ent.b (Ent.darr Ent.z))) (Rg.o (v := .agg #[.string (((nth v1 Q8.toNat).1).1), .string (((nth v1 Q8.toNat).1).2), .slice (((X2 Q8.toNat).2).1) (((nth v1 Q8.toNat).2).length) (((X2 Q8.toNat).2).2.1)]) (q_ldeA (i := Q8.toNat) ty113 rfl (Ent.b (Ent.darr Ent.z)) h19.lt) (Rg.ef (e_alloc ty113) rfl ?_))
    rintro _ _ _ ⟨g20, rfl, rfl, rfl⟩
    refine Rg.en (e_store (cs' := [.string (((nth v1 Q8.toNat).1).1), .string (((nth v1 Q8.toNat).1).2), .slice (((X2 Q8.toNat).2).1) (((nth v1 Q8.toNat).2).length) (((X2 Q8.toNat).2).2.1)]) ty113 rfl rfl Upd.here rfl (one_of rfl) (Nat.le_of_ble_eq_true rfl) rfl) rfl ?_
    rintro _ _ _ ⟨rfl, rfl, rfl⟩
    refine Rg.nl (nT (?_))
    refine Tr.seq (Tr.region (Rg.m rfl (Rg.o (q_ldbA ty113 rfl hs1 rfl) (Rg.o (q_ldbA ty113 rfl Has.here rfl) ?_))))
    obtain ⟨r21, h22, H1⟩ := bd.of H1
    refine Rg.o (v := .bool (r21)) (Ex.dyn (caps := []) (vs := [.agg #[.string (((nth v0 Q8.toNat).1).1), .string (((nth v0 Q8.toNat).1).2), .slice (((X1 Q8.toNat).2).1) (((nth v0 Q8.toNat).2).length) (((X1 Q8.toNat).2).2.1)], .agg #[.string (((nth v1 Q8.toNat).1).1), .string (((nth v1 Q8.toNat).1).2), .slice (((X2 Q8.toNat).2).1) (((nth v1 Q8.toNat).2).length) (((X2 Q8.toNat).2).2.1)]]) rfl rfl (q_call (c_impl_IndexOk_1 (nth v0 Q8.toNat) (((), ()), (((X1 Q8.toNat).2).1, ((X1 Q8.toNat).2).2.1)) (nth v1 Q8.toNat) (((), ()), (((X2 Q8.toNat).2).1, ((X2 Q8.toNat).2).2.1)) h22) rfl (EntsB.cons (Ent.b (Ent.dimm (Ent.dsnd (Ent.del Ent.z.s h17.lt)))) (EntsB.cons (Ent.b (Ent.dimm (Ent.dsnd (Ent.del Ent.z h19.lt)))) EntsB.nil)))) (Rg.p (p_not rfl) (Rg.nl (nT (?_))))
    refine Tr.cond (b := !r21) rfl (fun h23 => ?_) (fun h23 => ?_)
    ·have H1 := cdT h23 H1
     refine Tr.seq (Tr.region (Rg.a (v := .bool (false)) rfl (Rg.nl (nT (?_)))))
     refine tRet (rB (rT (rT (rB (rT (rT (?_)))))))
     have hx := hb13 _ (Option.some.inj H1).symm; subst hx
     replace H := sw.r H
     obtain rfl := si H
     exact bk1 rfl rfl rfl rfl Take.nil
    ·have H1 := cdF h23 H1
     refine tSkip (nB (nT (?_)))
     refine Tr.region ?_
     obtain ⟨h24, H1⟩ := gd.of H1
     refine Rg.p (p_add rfl rfl h24) (Rg.m rfl (Rg.nl ?_))
     exact nLC ⟨(m15, Q8 + 1, ()), hi12 _ (Option.some.inj H1).symm⟩ (Nat.lt_succ_self _) ⟨rfl, rfl, rfl, rfl, rfl, trivial⟩ Ents.refl Take.nil
   ·have H1 := cdF h16 H1
    refine tExit (xT (xT (xE (?_))))
    exact nMC ⟨((), ()), (hb13 _ (Option.some.inj H1).symm).symm⟩ trivial Ents.refl Take.nil
  ·rintro ⟨⟨e25, y10⟩, hx⟩; subst hx; replace H := sw.l H
   show At _ _ [] _ [] _
   refine nT (?_)
   refine Tr.seq (Tr.region (Rg.a (v := .bool (true)) rfl (Rg.nl (nT (?_)))))
   refine tRet ?_
   obtain rfl := si H
   exact bk1 rfl rfl rfl rfl Take.nil
noncomputable def p_impl_IndexOk (v0 : Index) : Option (Bool) := bd (p_impl_namesOk v0.1) fun r4 => cond (r4) (bd (p_impl_indexOf v0.1) fun r7 => bd (p_slices_EqualFunc_Post_Post_Post_Post_IndexOk_1 v0.2 r7.2) fun r10 => some r10) (some false)
theorem c_impl_IndexOk {r : Bool} (v0 : Index) (x_v0 : (Option Addr × Nat) × (Option Addr × Nat)) (H : p_impl_IndexOk v0 = some r) : Fn' Tryz.prog 42 #[.agg #[.slice x_v0.1.1 v0.1.length x_v0.1.2, .slice x_v0.2.1 v0.2.length x_v0.2.2]] [imm (.slice x_v0.1.1 v0.1.length x_v0.1.2) v0.1, imm (.slice x_v0.2.1 v0.2.length x_v0.2.2) v0.2] [] (ι := Unit) (fun _ => .bool (r)) (fun _ => []) (fun _ => []) := by
 refine calls_of (args := [_]) Tryz.func42 rfl (by kernel_rfl) Tryz.ntmps42 (by simp) fun c => ?_
 unfold p_impl_IndexOk at H
 refine Tr.openD Ent.z fun X1 => (Tr.openD Ent.z.s.s fun X2 => (Tr.seq (Tr.region (Rg.ef (e_box (t := 35) rfl) rfl ?_))))
 rintro _ _ _ ⟨g3, rfl, rfl, rfl⟩
 refine Rg.a (v := .bool (false)) rfl (Rg.nl (nT (?_)))
 refine Tr.seq ?_
 obtain ⟨r4, h5, H⟩ := bd.of H
 rcases Bool.eq_false_or_eq_true (r4) with h6 | h6
 ·have H := cdT h6 H
  refine tNwS [(1, .pointer (some ⟨g3, 0, none⟩))] 2 [0, 1, 2, 3, 4, 5, 6, 7, 8, 9, 10, 11, 12] [8] [] Tryz.mixed (by kernel_rfl) (by decide) List.nodup_nil ⟨rfl, trivial⟩ rfl okNil (w_p rfl (p_fabE fa35_0 rfl rfl) (w_o rfl (fun F => (q_ldb ty32 rfl (Has.here.app F) rfl)) (w_o rfl (fun F => (q_call (c_impl_namesOk v0.1 x_v0.1 h5) rfl (EntsB.cons (Ent.b (Ent.dimm Ent.z.s)) EntsB.nil))) (w_p (v := .bool (true)) rfl ((Pu.eqv (v := .bool (r4)) (p_move rfl) (congrArg Value.bool h6))) (w_p rfl (p_fabE fa35_1 rfl rfl) ?_)))))
  refine w_o rfl (fun F => (q_ldb ty33 rfl (Has.here.app F) rfl)) (w_p rfl (p_fabE fa35_0 rfl rfl) (w_o rfl (fun F => (q_ldb ty32 rfl (Has.here.app F) rfl)) ?_))
  obtain ⟨r7, h8, H⟩ := bd.of H
  refine w_ed rfl (by decide) rfl Rdy.nil rfl (n_callB (c_impl_indexOf v0.1 x_v0.1 h8) (fun _ => (Solo.tree (Solo.tree Solo.nil))) rfl (EntsB.cons (Ent.b (Ent.dimm Ent.z.s)) EntsB.nil)) ?_
  rintro _ _ _ ⟨x9, rfl, rfl, rfl⟩
  refine ⟨(PdOk.anc (by kernel_rfl) (PdOk.q rfl rfl (fun F => (q_ldb ty33 rfl (hs2.app F) rfl)) (PdOk.anc (by kernel_rfl) (PdOk.q rfl rfl (fun F => (q_ldb ty32 rfl (hs2.app F) rfl)) PdOk.nil)))), ?_⟩
  refine w_p rfl ((p_field1 Tryz.underlying35 rfl ty33 rfl rfl)) ?_
  obtain ⟨r10, h11, H⟩ := bd.of H
  refine w_o rfl (fun F => (q_call (c_slices_EqualFunc_Post_Post_Post_Post_IndexOk_1 v0.2 x_v0.2 r7.2 x9.2 h11) rfl (EntsB.cons (Ent.b (Ent.dimm Ent.z)) (EntsB.cons (EntB.tree (hs1.app F)) EntsB.nil)))) (w_p rfl (p_pickT rfl rfl) (w_p rfl (p_assign rfl) (w_nil ?_)))
  show At _ _ _ _ _ _
  refine nT (?_)
  refine tRet ?_
  obtain rfl := si H
  exact bk1 rfl rfl rfl rfl Take.nil
 ·have H := cdF h6 H
  refine tNwS [(1, .pointer (some ⟨g3, 0, none⟩))] 1 [0, 1, 2, 3, 4, 5, 6, 7, 8, 9, 10, 11, 12] [] [] Tryz.mixed (by kernel_rfl) (by decide) List.nodup_nil ⟨rfl, trivial⟩ rfl okNil (w_p rfl (p_fabE fa35_0 rfl rfl) (w_o rfl (fun F => (q_ldb ty32 rfl (Has.here.app F) rfl)) (w_o rfl (fun F => (q_call (c_impl_namesOk v0.1 x_v0.1 h5) rfl (EntsB.cons (Ent.b (Ent.dimm Ent.z.s)) EntsB.nil))) (w_p (v := .bool (false)) rfl ((Pu.eqv (v := .bool (r4)) (p_move rfl) (congrArg Value.bool h6))) (w_skip rfl (by decide) rfl rfl rfl ?_)))))
  refine w_skip rfl (by decide) rfl rfl rfl (w_skip rfl (by decide) rfl rfl rfl (w_skip rfl (by decide) rfl rfl rfl (w_skip rfl (by decide) rfl rfl rfl (w_skip rfl (by decide) rfl rfl rfl (w_skip rfl (by decide) rfl rfl rfl ?_)))))
  refine w_p (v := .bool (false)) rfl (p_pickF rfl rfl) (w_p (v := .bool (false)) rfl (p_assign rfl) (w_nil ?_))
  show At _ _ _ _ _ _
  refine nT (?_)
  refine tRet ?_
  obtain rfl := si H
  exact bk1 rfl rfl rfl rfl Take.nil
noncomputable def p_impl_rowOk (v0 : Row) : Option (Bool) := bd (bd (p_impl_within v0.1 0 99) fun r4 => cond (r4) (bd (p_impl_within v0.2 (-99) 99) fun r7 => some (r7)) (some (false))) fun b2 => some b2
theorem c_impl_rowOk {r : Bool} (v0 : Row) (H : p_impl_rowOk v0 = some r) : Fn' Tryz.prog 46 #[.agg #[.int .i64 (v0.1), .int .i64 (v0.2)]] [] [] (ι := Unit) (fun _ => .bool (r)) (fun _ => []) (fun _ => []) := by
 refine calls_of (args := [_]) Tryz.func46 rfl (by kernel_rfl) Tryz.ntmps46 (by simp) fun c => ?_
 unfold p_impl_rowOk at H
 refine Tr.seq (Tr.region (Rg.ef (e_box (t := 58) rfl) rfl ?_))
 rintro _ _ _ ⟨g1, rfl, rfl, rfl⟩
 refine Rg.a (v := .bool (false)) rfl (Rg.nl (nT (?_)))
 obtain ⟨b2, j3, H⟩ := bd.of H
 refine tMid1 [(2, .bool (b2))] ?_ ?_
 ·refine tLinT [(1, .pointer (some ⟨g1, 0, none⟩))] ⟨rfl, trivial⟩ (Lin.p (p_fabE fa58_0 rfl rfl) (Lin.o (q_ldb ty3 rfl Has.here rfl) ?_))
  obtain ⟨r4, h5, j3⟩ := bd.of j3
  refine Lin.o (q_call (c_impl_within v0.1 0 99 h5) rfl EntsB.nil) ?_
  rcases Bool.eq_false_or_eq_true (r4) with h6 | h6
  ·have j3 := cdT h6 j3
   refine Lin.e_ (p_move rfl) h6 (Lin.h rfl (p_fabE fa58_1 rfl rfl) (Lin.i rfl (q_ldb ty3 rfl Has.here rfl) ?_))
   obtain ⟨r7, h8, j3⟩ := bd.of j3
   refine Lin.i rfl (q_call (c_impl_within v0.2 (-99) 99 h8) rfl EntsB.nil) (Lin.p (p_pickT rfl rfl) (Lin.p (p_assign rfl) ?_))
   obtain rfl := si j3
   show At _ _ _ _ _ _
   exact n1 ⟨rfl, trivial⟩
  ·have j3 := cdF h6 j3
   refine Lin.e_ (p_move rfl) h6 ?_
   iterate 3 refine Lin.sk rfl ?_
   refine Lin.p (v := .bool (false)) (p_pickF rfl rfl) (Lin.p (v := .bool (false)) (p_assign rfl) ?_)
   obtain rfl := si j3
   show At _ _ _ _ _ _
   exact n1 ⟨rfl, trivial⟩
 refine tRet ?_
 obtain rfl := si H
 exact bk1 rfl rfl rfl rfl Take.nil
noncomputable def p_impl_BlockOk_b0 (v0 : (List Row)) (Q5 : Int) : Option ((Int) ⊕ (Unit ⊕ Bool)) := cond (decide (Q5 < (v0.length : Int))) (gd (ix Q5 v0.length) <| bd (bd (p_impl_rowOk (nth v0 Q5.toNat)) fun r18 => cond (!r18) (some (true)) (cond (decide (0 < Q5)) (gd (I64 (Q5 - 1)) <| gd (ix (Q5 - 1) v0.length) <| some (decide (((nth v0 Q5.toNat).1) ≤ ((nth v0 ((Q5 - 1).toNat)).1)))) (some (false)))) fun b16 => cond (b16) (some (.inr (.inr false))) (gd (I64 (Q5 + 1)) <| some (.inl (Q5 + 1)))) (some (.inr (.inl ())))
noncomputable def p_impl_BlockOk (v0 : (List Row)) : Option (Bool) := bd (lp (p_impl_BlockOk_b0 v0) 0) <| sw (fun _ => some (decide ((v0.length : Int) ≤ 24))) (fun q => some q)
theorem c_impl_BlockOk {r : Bool} (v0 : (List Row)) (x_v0 : Option Addr × Nat) (H : p_impl_BlockOk v0 = some r) : Fn' Tryz.prog 93 #[.slice x_v0.1 v0.length x_v0.2] [imm (.slice x_v0.1 v0.length x_v0.2) v0] [] (ι := Unit) (fun _ => .bool (r)) (fun _ => []) (fun _ => []) := by
 refine calls_of (args := [_]) Tryz.func93 rfl (by kernel_rfl) Tryz.ntmps93 (by simp) fun c => ?_
 unfold p_impl_BlockOk at H
 refine Tr.seq (Tr.region (Rg.a (v := .bool (false)) rfl (Rg.nl (nT (?_)))))
 refine Tr.seq (Tr.seq (Tr.region (Rg.m rfl (Rg.p (p_len 58 Tryz.underlying43 rfl) (Rg.m (v := .int .i64 (0)) rfl ?_)))))
 refine Rg.nl (nT (?_))
 obtain ⟨x1, hx2, H⟩ := bd.of H
 obtain ⟨n3, hx2⟩ := lp.of hx2
 refine tMidNC (ι := { q : (Unit) × Unit // x1 = .inl q.1 }) (fun ψ => [(0, .slice x_v0.1 v0.length x_v0.2)]) (fun ψ => []) ?_ ?_
 ·refine Tr.block (tLoopC (ι := { q : Nat × (Int) × Unit // itr (p_impl_BlockOk_b0 v0) q.1 q.2.1 = some x1 }) (fun ζ => [(0, .slice x_v0.1 v0.length x_v0.2), (5, .slice x_v0.1 v0.length x_v0.2), (6, .int .i64 ((v0.length : Int))), (7, .int .i64 (ζ.1.2.1))]) (fun ζ => []) (fun ζ => ζ.1.1) ⟨(n3, 0, ()), hx2⟩ ⟨rfl, rfl, rfl, rfl, trivial⟩ Take.nil ?_)
  rintro ⟨⟨m4, Q5, z6⟩, hk11⟩
  obtain ⟨m12, t8, e, H1, hi9, hb10⟩ := itr.of (n := m4) (s := Q5) hk11
  subst e; unfold p_impl_BlockOk_b0 at H1
  show Tr _ _ _ _ _ [(0, .slice x_v0.1 v0.length x_v0.2), (5, .slice x_v0.1 v0.length x_v0.2), (6, .int .i64 ((v0.length : Int))), (7, .int .i64 (Q5))] _ []
  refine Tr.seq (Tr.region (Rg.p (p_lss rfl rfl) (Rg.nl (nT (?_)))))
  refine Tr.seq (Tr.cond (b := decide (Q5 < (v0.length : Int))) rfl (fun h13 => ?_) (fun h13 => ?_))
  ·have H1 := cdT h13 H1
   refine tSkip (nT (?_))
   refine Tr.seq (Tr.block (Tr.seq (Tr.region (Rg.m rfl ?_))))
   obtain ⟨h14, H1⟩ := gd.of H1
   refine Rg.o (q_ixg Tryz.underlying43 ty58 rfl rfl h14 rfl (EntB.flat (Ent.b Ent.z))) (Rg.o (v := .agg #[.int .i64 ((nth v0 Q5.toNat).1), .int .i64 ((nth v0 Q5.toNat).2)]) (q_ldeA (i := Q5.toNat) ty58 rfl (EntB.flat (Ent.b Ent.z)) h14.lt) (Rg.ef (e_alloc ty58) rfl ?_))
   rintro _ _ _ ⟨g15, rfl, rfl, rfl⟩
   refine Rg.a rfl (Rg.en (e_store (cs' := [.int .i64 ((nth v0 Q5.toNat).1), .int .i64 ((nth v0 Q5.toNat).2)]) ty58 rfl rfl Upd.here rfl (one_of rfl) (Nat.le_of_ble_eq_true rfl) rfl) rfl ?_)
   rintro _ _ _ ⟨rfl, rfl, rfl⟩
   refine Rg.nl (nT (?_))
   obtain ⟨b16, j17, H1⟩ := bd.of H1
   refine tMid1 [(29, .bool (b16)), (0, .slice x_v0.1 v0.length x_v0.2), (5, .slice x_v0.1 v0.length x_v0.2), (6, .int .i64 ((v0.length : Int))), (7, .int .i64 (Q5))] ?_ ?_
   ·refine tLinS [(3, .int .i64 (Q5)), (4, .pointer (some ⟨g15, 0, none⟩)), (0, .slice x_v0.1 v0.length x_v0.2), (5, .slice x_v0.1 v0.length x_v0.2), (6, .int .i64 ((v0.length : Int))), (7, .int .i64 (Q5))] Tryz.mixed (.inr (by kernel_rfl)) ⟨rfl, rfl, rfl, rfl, rfl, rfl, trivial⟩ rfl (Lin.o (q_ldbA ty58 rfl Has.here rfl) ?_)
    obtain ⟨r18, h19, j17⟩ := bd.of j17
    refine Lin.o (q_call (c_impl_rowOk (nth v0 Q5.toNat) h19) rfl EntsB.nil) (Lin.p (p_not rfl) ?_)
    rcases Bool.eq_false_or_eq_true (!r18) with h20 | h20
    ·have j17 := cdT h20 j17
     refine Lin.e_ (p_move rfl) h20 ?_
     iterate 13 refine Lin.sk rfl ?_
     refine Lin.p (v := .bool (true)) (p_pickT rfl rfl) ?_
     obtain rfl := si j17
     show At _ _ _ _ _ _
     exact n1 ⟨rfl, rfl, rfl, rfl, rfl, trivial⟩
    ·have j17 := cdF h20 j17
     refine Lin.e_ (p_move rfl) h20 (Lin.h rfl (p_move rfl) (Lin.h rfl (p_gtr rfl rfl) ?_))
     rcases Bool.eq_false_or_eq_true (decide (0 < Q5)) with h21 | h21
     ·have j17 := cdT h21 j17
      refine Lin.f_ rfl (p_move rfl) h21 (Lin.h rfl (p_move rfl) (Lin.h rfl (p_move rfl) ?_))
      obtain ⟨h22, j17⟩ := gd.of j17
      refine Lin.h rfl (p_sub rfl rfl h22) ?_
      obtain ⟨h23, j17⟩ := gd.of j17
      refine Lin.i rfl (q_ixg Tryz.underlying43 ty58 rfl rfl h23 rfl (EntB.flat (Ent.b Ent.z))) (Lin.i rfl (q_faeE (j := 0) ((Q5 - 1).toNat) fa58_0 rfl (EntB.flat (Ent.b Ent.z)) h23.lt rfl) (Lin.i rfl (q_lde (i := (Q5 - 1).toNat) (j := 0) ty3 rfl (EntB.flat (Ent.b Ent.z)) h23.lt rfl) (Lin.h rfl (p_fabE fa58_0 rfl rfl) (Lin.i rfl (q_ldb ty3 rfl Has.here rfl) (Lin.h rfl (p_geq rfl rfl) ?_)))))
      refine Lin.h rfl (p_pickT rfl rfl) (Lin.p (p_pickF rfl rfl) ?_)
      obtain rfl := si j17
      show At _ _ _ _ _ _
      exact n1 ⟨rfl, rfl, rfl, rfl, rfl, trivial⟩
     ·have j17 := cdF h21 j17
      refine Lin.f_ rfl (p_move rfl) h21 ?_
      iterate 9 refine Lin.sk rfl ?_
      refine Lin.h (v := .bool (false)) rfl (p_pickF rfl rfl) (Lin.p (v := .bool (false)) (p_pickF rfl rfl) ?_)
      obtain rfl := si j17
      show At _ _ _ _ _ _
      exact n1 ⟨rfl, rfl, rfl, rfl, rfl, trivial⟩
   refine Tr.cond (b := b16) rfl (fun h24 => ?_) (fun h24 => ?_)
   ·have H1 := cdT h24 H1
    refine Tr.seq (Tr.region (Rg.a (v := .bool (false)) rfl (Rg.nl (nT (?_)))))
    refine tRet (rB (rT (rT (rB (rT (rT (?_)))))))
    have hx := hb10 _ (Option.some.inj H1).symm; subst hx
    replace H := sw.r H
    obtain rfl := si H
    exact bk1 rfl rfl rfl rfl Take.nil
   ·have H1 := cdF h24 H1
    refine tSkip (nB (nT (?_)))
    refine Tr.region ?_
    obtain ⟨h25, H1⟩ := gd.of H1
    refine Rg.p (p_add rfl rfl h25) (Rg.m rfl (Rg.nl ?_))
    exact nLC ⟨(m12, Q5 + 1, ()), hi9 _ (Option.some.inj H1).symm⟩ (Nat.lt_succ_self _) ⟨rfl, rfl, rfl, rfl, trivial⟩ Ents.refl Take.nil
  ·have H1 := cdF h13 H1
   refine tExit (xT (xT (xE (?_))))
   exact nMC ⟨((), ()), (hb10 _ (Option.some.inj H1).symm).symm⟩ ⟨rfl, trivial⟩ Ents.refl Take.nil
 ·rintro ⟨⟨e26, y7⟩, hx⟩; subst hx; replace H := sw.l H
  show At _ _ [(0, .slice x_v0.1 v0.length x_v0.2)] _ [] _
  refine nT (?_)
  refine Tr.seq (Tr.region (Rg.m rfl (Rg.p (p_len 58 Tryz.underlying43 rfl) (Rg.p (p_leq rfl rfl) (Rg.a rfl ?_)))))
  refine Rg.nl (nT (?_))
  refine tRet ?_
  obtain rfl := si H
  exact bk1 rfl rfl rfl rfl Take.nil
noncomputable def p_impl_PartOk_b0 (v0 : Part) (Q8 : Int) : Option ((Int) ⊕ (Unit ⊕ Bool)) := cond (decide (Q8 < (v0.1.length : Int))) (gd (ix Q8 v0.1.length) <| bd (bd (p_impl_within (nth v0.1 Q8.toNat) 1 6) fun r20 => cond (!r20) (some (true)) (cond (decide (0 < Q8)) (gd (I64 (Q8 - 1)) <| gd (ix (Q8 - 1) v0.1.length) <| cond (decide ((nth v0.1 Q8.toNat) ≤ (nth v0.1 ((Q8 - 1).toNat)))) (some (true)) (gd (ix Q8 v0.2.length) <| bd (p_impl_BlockOk (nth v0.2 Q8.toNat)) fun r28 => cond (!r28) (some (true)) (some (decide (((nth v0.2 Q8.toNat).length : Int) = 0))))) (gd (ix Q8 v0.2.length) <| bd (p_impl_BlockOk (nth v0.2 Q8.toNat)) fun r32 => cond (!r32) (some (true)) (some (decide (((nth v0.2 Q8.toNat).length : Int) = 0)))))) fun b18 => cond (b18) (some (.inr (.inr false))) (gd (I64 (Q8 + 1)) <| some (.inl (Q8 + 1)))) (some (.inr (.inl ())))
noncomputable def p_impl_PartOk (v0 : Part) : Option (Bool) := cond (!decide ((v0.1.length : Int) = (v0.2.length : Int))) (some false) (bd (lp (p_impl_PartOk_b0 v0) 0) <| sw (fun _ => some true) (fun q => some q))
theorem c_impl_PartOk {r : Bool} (v0 : Part) (x_v0 : (Option Addr × Nat) × (Option Addr × Nat)) (H : p_impl_PartOk v0 = some r) : Fn' Tryz.prog 43 #[.agg #[.slice x_v0.1.1 v0.1.length x_v0.1.2, .slice x_v0.2.1 v0.2.length x_v0.2.2]] [imm (.slice x_v0.1.1 v0.1.length x_v0.1.2) v0.1, imm (.slice x_v0.2.1 v0.2.length x_v0.2.2) v0.2] [] (ι := Unit) (fun _ => .bool (r)) (fun _ => []) (fun _ => []) := by
 refine calls_of (args := [_]) Tryz.func43 rfl (by kernel_rfl) Tryz.ntmps43 (by simp) fun c => ?_
 unfold p_impl_PartOk at H
 refine Tr.openD Ent.z.s fun X1 => (Tr.seq (Tr.region (Rg.ef (e_box (t := 72) rfl) rfl ?_)))
 rintro _ _ _ ⟨g2, rfl, rfl, rfl⟩
 refine Rg.a (v := .bool (false)) rfl (Rg.nl (nT (?_)))
 refine Tr.seq (Tr.seq (Tr.region (Rg.p (p_fabE fa72_0 rfl rfl) (Rg.o (q_ldb ty69 rfl Has.here rfl) (Rg.p (p_len 3 Tryz.underlying69 rfl) ?_)))))
 refine Rg.p (p_fabE fa72_1 rfl rfl) (Rg.o (q_ldb ty70 rfl Has.here rfl) (Rg.p (p_len 43 Tryz.underlying70 rfl) (Rg.p (p_neq rfl rfl) (Rg.nl (nT (?_))))))
 refine Tr.cond (b := !decide ((v0.1.length : Int) = (v0.2.length : Int))) rfl (fun h3 => ?_) (fun h3 => ?_)
 ·have H := cdT h3 H
  refine Tr.seq (Tr.region (Rg.a (v := .bool (false)) rfl (Rg.nl (nT (?_)))))
  refine tRet (rT (?_))
  obtain rfl := si H
  exact bk1 rfl rfl rfl rfl Take.nil
 ·have H := cdF h3 H
  refine tSkip (nT (?_))
  refine Tr.seq (Tr.seq (Tr.region (Rg.p (p_fabE fa72_0 rfl rfl) (Rg.o (q_ldb ty69 rfl Has.here rfl) (Rg.p (p_len 3 Tryz.underlying69 rfl) ?_)))))
  refine Rg.m (v := .int .i64 (0)) rfl (Rg.nl (nT (?_)))
  obtain ⟨x4, hx5, H⟩ := bd.of H
  obtain ⟨n6, hx5⟩ := lp.of hx5
  refine tMidNC (ι := { q : (Unit) × Unit // x4 = .inl q.1 }) (fun ψ => []) (fun ψ => []) ?_ ?_
  ·refine Tr.block (tLoopC (ι := { q : Nat × (Int) × Unit // itr (p_impl_PartOk_b0 v0) q.1 q.2.1 = some x4 }) (fun ζ => [(1, .pointer (some ⟨g2, 0, none⟩)), (13, .slice x_v0.1.1 v0.1.length x_v0.1.2), (14, .int .i64 ((v0.1.length : Int))), (15, .int .i64 (ζ.1.2.1))]) (fun ζ => [box g2 72 [.slice x_v0.1.1 v0.1.length x_v0.1.2, .slice x_v0.2.1 v0.2.length x_v0.2.2]]) (fun ζ => ζ.1.1) ⟨(n6, 0, ()), hx5⟩ ⟨rfl, rfl, rfl, rfl, trivial⟩ (.cons Del.here .nil) ?_)
   rintro ⟨⟨m7, Q8, z9⟩, hk14⟩
   obtain ⟨m15, t11, e, H1, hi12, hb13⟩ := itr.of (n := m7) (s := Q8) hk14
   subst e; unfold p_impl_PartOk_b0 at H1
   show Tr _ _ _ _ _ [(1, .pointer (some ⟨g2, 0, none⟩)), (13, .slice x_v0.1.1 v0.1.length x_v0.1.2), (14, .int .i64 ((v0.1.length : Int))), (15, .int .i64 (Q8))] _ [box g2 72 [.slice x_v0.1.1 v0.1.length x_v0.1.2, .slice x_v0.2.1 v0.2.length x_v0.2.2]]
   refine Tr.seq (Tr.region (Rg.p (p_lss rfl rfl) (Rg.nl (nT (?_)))))
   refine Tr.seq (Tr.cond (b := decide (Q8 < (v0.1.length : Int))) rfl (fun h16 => ?_) (fun h16 => ?_))
   ·have H1 := cdT h16 H1
    refine tSkip (nT (?_))
    refine Tr.seq (Tr.block (Tr.seq (Tr.region (Rg.m rfl ?_))))
    obtain ⟨h17, H1⟩ := gd.of H1
    refine Rg.o (q_ixg Tryz.underlying69 ty3 rfl rfl h17 rfl (EntB.flat (Ent.b Ent.z.s))) (Rg.o (q_lde (i := Q8.toNat) (j := 0) ty3 rfl (EntB.flat (Ent.b Ent.z.s)) h17.lt rfl) (Rg.a rfl (Rg.a rfl (Rg.nl (nT (?_))))))
    obtain ⟨b18, j19, H1⟩ := bd.of H1
    refine tMid1 [(54, .bool (b18)), (1, .pointer (some ⟨g2, 0, none⟩)), (13, .slice x_v0.1.1 v0.1.length x_v0.1.2), (14, .int .i64 ((v0.1.length : Int))), (15, .int .i64 (Q8))] ?_ ?_
    ·refine tLinT [(4, .int .i64 (nth v0.1 Q8.toNat)), (3, .int .i64 (Q8)), (1, .pointer (some ⟨g2, 0, none⟩)), (13, .slice x_v0.1.1 v0.1.length x_v0.1.2), (14, .int .i64 ((v0.1.length : Int))), (15, .int .i64 (Q8))] ⟨rfl, rfl, rfl, rfl, rfl, rfl, trivial⟩ (Lin.m rfl ?_)
     obtain ⟨r20, h21, j19⟩ := bd.of j19
     refine Lin.o (q_call (c_impl_within (nth v0.1 Q8.toNat) 1 6 h21) rfl EntsB.nil) (Lin.p (p_not rfl) ?_)
     rcases Bool.eq_false_or_eq_true (!r20) with h22 | h22
     ·have j19 := cdT h22 j19
      refine Lin.e_ (p_move rfl) h22 ?_
      iterate 12 refine Lin.sk rfl ?_
      refine Lin.p (v := .bool (true)) (p_pickT rfl rfl) (Lin.m (v := .bool (true)) rfl ?_)
      iterate 7 refine Lin.sk rfl ?_
      refine Lin.p (v := .bool (true)) (p_pickT rfl rfl) (Lin.m (v := .bool (true)) rfl ?_)
      iterate 7 refine Lin.sk rfl ?_
      refine Lin.p (v := .bool (true)) (p_pickT rfl rfl) ?_
      obtain rfl := si j19
      show At _ _ _ _ _ _
      exact n1 ⟨rfl, rfl, rfl, rfl, rfl, trivial⟩
     ·have j19 := cdF h22 j19
      refine Lin.e_ (p_move rfl) h22 (Lin.h rfl (p_move rfl) (Lin.h rfl (p_gtr rfl rfl) ?_))
      rcases Bool.eq_false_or_eq_true (decide (0 < Q8)) with h23 | h23
      ·have j19 := cdT h23 j19
       refine Lin.f_ rfl (p_move rfl) h23 (Lin.h rfl (p_fabE fa72_0 rfl rfl) (Lin.i rfl (q_ldb ty69 rfl Has.here rfl) (Lin.h rfl (p_move rfl) ?_)))
       obtain ⟨h24, j19⟩ := gd.of j19
       refine Lin.h rfl (p_sub rfl rfl h24) ?_
       obtain ⟨h25, j19⟩ := gd.of j19
       refine Lin.i rfl (q_ixg Tryz.underlying69 ty3 rfl rfl h25 rfl (EntB.flat (Ent.b Ent.z.s))) (Lin.i rfl (q_lde (i := (Q8 - 1).toNat) (j := 0) ty3 rfl (EntB.flat (Ent.b Ent.z.s)) h25.lt rfl) (Lin.h rfl (p_move rfl) (Lin.h rfl (p_geq rfl rfl) (Lin.h rfl (p_pickT rfl rfl) (Lin.p (p_pickF rfl rfl) ?_)))))
       rcases Bool.eq_false_or_eq_true (decide ((nth v0.1 Q8.toNat) ≤ (nth v0.1 ((Q8 - 1).toNat)))) with h26 | h26
       ·have j19 := cdT h26 j19
        refine Lin.e_ (p_move rfl) h26 ?_
        iterate 7 refine Lin.sk rfl ?_
        refine Lin.p (v := .bool (true)) (p_pickT rfl rfl) (Lin.m (v := .bool (true)) rfl ?_)
        iterate 7 refine Lin.sk rfl ?_
        refine Lin.p (v := .bool (true)) (p_pickT rfl rfl) ?_
        obtain rfl := si j19
        show At _ _ _ _ _ _
        exact n1 ⟨rfl, rfl, rfl, rfl, rfl, trivial⟩
       ·have j19 := cdF h26 j19
        refine Lin.e_ (p_move rfl) h26 (Lin.h rfl (p_fabE fa72_1 rfl rfl) (Lin.i rfl (q_ldb ty70 rfl Has.here rfl) (Lin.h rfl (p_move rfl) ?_)))
        obtain ⟨h27, j19⟩ := gd.of j19
        refine Lin.i rfl (q_ixg Tryz.underlying70 ty43 rfl rfl h27 rfl (Ent.b (Ent.darr Ent.z))) (Lin.i rfl (q_lde (i := Q8.toNat) (j := 0) ty43 rfl (Ent.b (Ent.darr Ent.z)) h27.lt rfl) ?_)
        obtain ⟨r28, h29, j19⟩ := bd.of j19
        refine Lin.i rfl (q_call (c_impl_BlockOk (nth v0.2 Q8.toNat) ((X1 Q8.toNat).1, (X1 Q8.toNat).2.1) h29) rfl (EntsB.cons (Ent.b (Ent.dimm (Ent.del Ent.z h27.lt))) EntsB.nil)) (Lin.h rfl (p_not rfl) (Lin.p (p_pickF rfl rfl) ?_))
        rcases Bool.eq_false_or_eq_true (!r28) with h30 | h30
        ·have j19 := cdT h30 j19
         refine Lin.e_ (p_move rfl) h30 ?_
         iterate 7 refine Lin.sk rfl ?_
         refine Lin.p (v := .bool (true)) (p_pickT rfl rfl) ?_
         obtain rfl := si j19
         show At _ _ _ _ _ _
         exact n1 ⟨rfl, rfl, rfl, rfl, rfl, trivial⟩
        ·have j19 := cdF h30 j19
         refine Lin.e_ (p_move rfl) h30 (Lin.h rfl (p_fabE fa72_1 rfl rfl) (Lin.i rfl (q_ldb ty70 rfl Has.here rfl) (Lin.h rfl (p_move rfl) (Lin.i rfl (q_ixg Tryz.underlying70 ty43 rfl rfl h27 rfl (Ent.b (Ent.darr Ent.z))) (Lin.i rfl (q_lde (i := Q8.toNat) (j := 0) ty43 rfl (Ent.b (Ent.darr Ent.z)) h27.lt rfl) ?_)))))
         refine Lin.h rfl (p_len 58 Tryz.underlying43 rfl) (Lin.h rfl (p_eql rfl rfl) (Lin.p (p_pickF rfl rfl) ?_))
         obtain rfl := si j19
         show At _ _ _ _ _ _
         exact n1 ⟨rfl, rfl, rfl, rfl, rfl, trivial⟩
      ·have j19 := cdF h23 j19
       refine Lin.f_ rfl (p_move rfl) h23 ?_
       iterate 8 refine Lin.sk rfl ?_
       refine Lin.h (v := .bool (false)) rfl (p_pickF rfl rfl) (Lin.p (v := .bool (false)) (p_pickF rfl rfl) (Lin.m (v := .bool (false)) rfl (Lin.h rfl (p_fabE fa72_1 rfl rfl) (Lin.i rfl (q_ldb ty70 rfl Has.here rfl) (Lin.h rfl (p_move rfl) ?_)))))
       obtain ⟨h31, j19⟩ := gd.of j19
       refine Lin.i rfl (q_ixg Tryz.underlying70 ty43 rfl rfl h31 rfl (Ent.b (Ent.darr Ent.z))) (Lin.i rfl (q_lde (i := Q8.toNat) (j := 0) ty43 rfl (Ent.b (Ent.darr Ent.z)) h31.lt rfl) ?_)
       obtain ⟨r32, h33, j19⟩ := bd.of j19
       refine Lin.i rfl (q_call (c_impl_BlockOk (nth v0.2 Q8.toNat) ((X1 Q8.toNat).1, (X1 Q8.toNat).2.1) h33) rfl (EntsB.cons (Ent.b (Ent.dimm (Ent.del Ent.z h31.lt))) EntsB.nil)) (Lin.h rfl (p_not rfl) (Lin.p (p_pickF rfl rfl) ?_))
       rcases Bool.eq_false_or_eq_true (!r32) with h34 | h34
       ·have j19 := cdT h34 j19
        refine Lin.e_ (p_move rfl) h34 ?_
        iterate 7 refine Lin.sk rfl ?_
        refine Lin.p (v := .bool (true)) (p_pickT rfl rfl) ?_
        obtain rfl := si j19
        show At _ _ _ _ _ _
        exact n1 ⟨rfl, rfl, rfl, rfl, rfl, trivial⟩
       ·have j19 := cdF h34 j19
        refine Lin.e_ (p_move rfl) h34 (Lin.h rfl (p_fabE fa72_1 rfl rfl) (Lin.i rfl (q_ldb ty70 rfl Has.here rfl) (Lin.h rfl (p_move rfl) (Lin.i rfl (q_ixg Tryz.underlying70 ty43 rfl rfl h31 rfl (Ent.b (Ent.darr Ent.z))) (Lin.i rfl (q_lde (i := Q8.toNat) (j := 0) ty43 rfl (Ent.b (Ent.darr Ent.z)) h31.lt rfl) ?_)))))
        refine Lin.h rfl (p_len 58 Tryz.underlying43 rfl) (Lin.h rfl (p_eql rfl rfl) (Lin.p (p_pickF rfl rfl) ?_))
        obtain rfl := si j19
        show At _ _ _ _ _ _
        exact n1 ⟨rfl, rfl, rfl, rfl, rfl, trivial⟩
    refine Tr.cond (b := b18) rfl (fun h35 => ?_) (fun h35 => ?_)
    ·have H1 := cdT h35 H1
     refine Tr.seq (Tr.region (Rg.a (v := .bool (false)) rfl (Rg.nl (nT (?_)))))
     refine tRet (rB (rT (rT (rB (rT (rT (?_)))))))
     have hx := hb13 _ (Option.some.inj H1).symm; subst hx
     replace H := sw.r H
     obtain rfl := si H
     exact bk1 rfl rfl rfl rfl Take.nil
    ·have H1 := cdF h35 H1
     refine tSkip (nB (nT (?_)))
     refine Tr.region ?_
     obtain ⟨h36, H1⟩ := gd.of H1
     refine Rg.p (p_add rfl rfl h36) (Rg.m rfl (Rg.nl ?_))
     exact nLC ⟨(m15, Q8 + 1, ()), hi12 _ (Option.some.inj H1).symm⟩ (Nat.lt_succ_self _) ⟨rfl, rfl, rfl, rfl, trivial⟩ Ents.refl (.cons Del.here .nil)
   ·have H1 := cdF h16 H1
    refine tExit (xT (xT (xE (?_))))
    exact nMC ⟨((), ()), (hb13 _ (Option.some.inj H1).symm).symm⟩ trivial Ents.refl Take.nil
  ·rintro ⟨⟨e37, y10⟩, hx⟩; subst hx; replace H := sw.l H
   show At _ _ [] _ [] _
   refine nT (?_)
   refine Tr.seq (Tr.region (Rg.a (v := .bool (true)) rfl (Rg.nl (nT (?_)))))
   refine tRet ?_
   obtain rfl := si H
   exact bk1 rfl rfl rfl rfl Take.nil
noncomputable def p_slices_Max_int_int_b0 (v0 : (List Int)) (Q7 : Int × Int) : Option ((Int × Int) ⊕ (Int)) := cond (decide (Q7.2 < (v0.length : Int))) (gd (ix Q7.2 v0.length) <| gd (I64 (Q7.2 + 1)) <| some (.inl (max Q7.1 (nth v0 Q7.2.toNat), Q7.2 + 1))) (some (.inr Q7.1))
noncomputable def p_slices_Max_int_int (v0 : (List Int)) : Option (Int) := cond (decide ((v0.length : Int) < 1)) (none) (gd (ix 0 v0.length) <| bd (lp (p_slices_Max_int_int_b0 v0) (nth v0 0, 1)) fun x3 => some x3)
theorem c_slices_Max_int_int {r : Int} (v0 : (List Int)) (x_v0 : Option Addr × Nat) (H : p_slices_Max_int_int v0 = some r) : Fn' Tryz.prog 44 #[.slice x_v0.1 v0.length x_v0.2] [imm (.slice x_v0.1 v0.length x_v0.2) v0] [] (ι := Unit) (fun _ => .int .i64 (r)) (fun _ => []) (fun _ => []) := by
 refine calls_of (args := [_]) Tryz.func44 rfl (by kernel_rfl) Tryz.ntmps44 (by simp) fun c => ?_
 unfold p_slices_Max_int_int at H
 refine Tr.seq (Tr.region (Rg.a (v := .int .i64 (0)) rfl (Rg.nl (nT (?_)))))
 refine Tr.seq (Tr.seq (Tr.region (Rg.m rfl (Rg.p (p_len 3 Tryz.underlying69 rfl) (Rg.p (p_lss rfl rfl) ?_)))))
 refine Rg.nl (nT (?_))
 refine Tr.cond (b := decide ((v0.length : Int) < 1)) rfl (fun h1 => ?_) (fun h1 => ?_)
 ·have H := cdT h1 H
  exact nomatch H
 ·have H := cdF h1 H
  refine tSkip (nT (?_))
  refine Tr.seq (Tr.region (Rg.m rfl ?_))
  obtain ⟨h2, H⟩ := gd.of H
  refine Rg.o (q_ixg Tryz.underlying69 ty3 rfl rfl h2 rfl (EntB.flat (Ent.b Ent.z))) (Rg.o (q_lde (i := 0) (j := 0) ty3 rfl (EntB.flat (Ent.b Ent.z)) h2.lt rfl) (Rg.a rfl (Rg.nl (nT (?_)))))
  refine Tr.seq (Tr.seq (Tr.region (Rg.a (v := .int .i64 (1)) rfl (Rg.nl (nT (?_))))))
  obtain ⟨x3, hx4, H⟩ := bd.of H
  obtain ⟨n5, hx4⟩ := lp.of hx4
  refine tMidNC (ι := Unit) (fun ψ => [(3, .int .i64 (x3))]) (fun ψ => []) ?_ ?_
  ·refine Tr.block (tLoopC (ι := { q : Nat × (Int × Int) × Unit // itr (p_slices_Max_int_int_b0 v0) q.1 q.2.1 = some x3 }) (fun ζ => [(0, .slice x_v0.1 v0.length x_v0.2), (3, .int .i64 (ζ.1.2.1.1)), (4, .int .i64 (ζ.1.2.1.2))]) (fun ζ => []) (fun ζ => ζ.1.1) ⟨(n5, (nth v0 0, 1), ()), hx4⟩ ⟨rfl, rfl, rfl, trivial⟩ Take.nil ?_)
   rintro ⟨⟨m6, Q7, z8⟩, hk13⟩
   obtain ⟨m14, t10, e, H1, hi11, hb12⟩ := itr.of (n := m6) (s := Q7) hk13
   subst e; unfold p_slices_Max_int_int_b0 at H1
   show Tr _ _ _ _ _ [(0, .slice x_v0.1 v0.length x_v0.2), (3, .int .i64 (Q7.1)), (4, .int .i64 (Q7.2))] _ []
   refine Tr.seq (Tr.seq (Tr.region (Rg.m rfl (Rg.m rfl (Rg.p (p_len 3 Tryz.underlying69 rfl) ?_)))))
   refine Rg.p (p_lss rfl rfl) (Rg.nl (nT (?_)))
   refine Tr.cond (b := decide (Q7.2 < (v0.length : Int))) rfl (fun h15 => ?_) (fun h15 => ?_)
   ·have H1 := cdT h15 H1
    refine tSkip (nT (?_))
    refine Tr.seq (Tr.block (Tr.region (Rg.m rfl (Rg.m rfl (Rg.m rfl ?_)))))
    obtain ⟨h16, H1⟩ := gd.of H1
    refine Rg.o (q_ixg Tryz.underlying69 ty3 rfl rfl h16 rfl (EntB.flat (Ent.b Ent.z))) (Rg.o (q_lde (i := Q7.2.toNat) (j := 0) ty3 rfl (EntB.flat (Ent.b Ent.z)) h16.lt rfl) (Rg.p (v := .int .i64 (max Q7.1 (nth v0 Q7.2.toNat))) (p_max rfl rfl) (Rg.a rfl (Rg.nl (nB (nT (?_)))))))
    refine Tr.region (Rg.m rfl ?_)
    obtain ⟨h17, H1⟩ := gd.of H1
    refine Rg.p (p_add rfl rfl h17) (Rg.a rfl (Rg.nl ?_))
    exact nLC ⟨(m14, (max Q7.1 (nth v0 Q7.2.toNat), Q7.2 + 1), ()), hi11 _ (Option.some.inj H1).symm⟩ (Nat.lt_succ_self _) ⟨rfl, rfl, rfl, trivial⟩ Ents.refl Take.nil
   ·have H1 := cdF h15 H1
    refine tExit (xT (xT (xE (?_))))
    have hx := hb12 _ (Option.some.inj H1).symm; subst hx
    exact nMC () ⟨rfl, trivial⟩ Ents.refl Take.nil
  ·intro y9
   show At _ _ [(3, .int .i64 (x3))] _ [] _
   refine nT (?_)
   refine Tr.seq (Tr.region (Rg.m rfl (Rg.a rfl (Rg.nl (nT (?_))))))
   refine tRet ?_
   obtain rfl := si H
   exact bk1 rfl rfl rfl rfl Take.nil
noncomputable def p_slices_Index_int_int_b0 (v0 : (List Int)) (v1 : Int) (Q5 : Int) : Option ((Int) ⊕ (Unit ⊕ Int)) := cond (decide (Q5 < (v0.length : Int))) (gd (ix Q5 v0.length) <| cond (decide (v1 = (nth v0 Q5.toNat))) (some (.inr (.inr Q5))) (gd (I64 (Q5 + 1)) <| some (.inl (Q5 + 1)))) (some (.inr (.inl ())))
noncomputable def p_slices_Index_int_int (v0 : (List Int)) (v1 : Int) : Option (Int) := bd (lp (p_slices_Index_int_int_b0 v0 v1) 0) <| sw (fun _ => some (-1)) (fun q => some q)
theorem c_slices_Index_int_int {r : Int} (v0 : (List Int)) (x_v0 : Option Addr × Nat) (v1 : Int) (H : p_slices_Index_int_int v0 v1 = some r) : Fn' Tryz.prog 132 #[.slice x_v0.1 v0.length x_v0.2, .int .i64 (v1)] [imm (.slice x_v0.1 v0.length x_v0.2) v0] [] (ι := Unit) (fun _ => .int .i64 (r)) (fun _ => []) (fun _ => []) := by
 refine calls_of (args := [_, _]) Tryz.func132 rfl (by kernel_rfl) Tryz.ntmps132 (by simp) fun c => ?_
 unfold p_slices_Index_int_int at H
 refine Tr.seq (Tr.region (Rg.a (v := .int .i64 (0)) rfl (Rg.nl (nT (?_)))))
 refine Tr.seq (Tr.seq (Tr.region (Rg.m rfl (Rg.p (p_len 3 Tryz.underlying69 rfl) (Rg.m (v := .int .i64 (0)) rfl ?_)))))
 refine Rg.nl (nT (?_))
 obtain ⟨x1, hx2, H⟩ := bd.of H
 obtain ⟨n3, hx2⟩ := lp.of hx2
 refine tMidNC (ι := { q : (Unit) × Unit // x1 = .inl q.1 }) (fun ψ => []) (fun ψ => []) ?_ ?_
 ·refine Tr.block (tLoopC (ι := { q : Nat × (Int) × Unit // itr (p_slices_Index_int_int_b0 v0 v1) q.1 q.2.1 = some x1 }) (fun ζ => [(0, .slice x_v0.1 v0.length x_v0.2), (1, .int .i64 (v1)), (7, .int .i64 ((v0.length : Int))), (8, .int .i64 (ζ.1.2.1))]) (fun ζ => []) (fun ζ => ζ.1.1) ⟨(n3, 0, ()), hx2⟩ ⟨rfl, rfl, rfl, rfl, trivial⟩ Take.nil ?_)
  rintro ⟨⟨m4, Q5, z6⟩, hk11⟩
  obtain ⟨m12, t8, e, H1, hi9, hb10⟩ := itr.of (n := m4) (s := Q5) hk11
  subst e; unfold p_slices_Index_int_int_b0 at H1
  show Tr _ _ _ _ _ [(0, .slice x_v0.1 v0.length x_v0.2), (1, .int .i64 (v1)), (7, .int .i64 ((v0.length : Int))), (8, .int .i64 (Q5))] _ []
  refine Tr.seq (Tr.region (Rg.p (p_lss rfl rfl) (Rg.nl (nT (?_)))))
  refine Tr.seq (Tr.cond (b := decide (Q5 < (v0.length : Int))) rfl (fun h13 => ?_) (fun h13 => ?_))
  ·have H1 := cdT h13 H1
   refine tSkip (nT (?_))
   refine Tr.seq (Tr.block (Tr.seq (Tr.region (Rg.m rfl (Rg.a rfl ?_)))))
   refine Rg.nl (nT (?_))
   refine Tr.seq (Tr.region (Rg.m rfl (Rg.m rfl (Rg.m rfl ?_))))
   obtain ⟨h14, H1⟩ := gd.of H1
   refine Rg.o (q_ixg Tryz.underlying69 ty3 rfl rfl h14 rfl (EntB.flat (Ent.b Ent.z))) (Rg.o (q_lde (i := Q5.toNat) (j := 0) ty3 rfl (EntB.flat (Ent.b Ent.z)) h14.lt rfl) (Rg.p (p_eql rfl rfl) (Rg.nl (nT (?_)))))
   refine Tr.cond (b := decide (v1 = (nth v0 Q5.toNat))) rfl (fun h15 => ?_) (fun h15 => ?_)
   ·have H1 := cdT h15 H1
    refine Tr.seq (Tr.region (Rg.m rfl (Rg.a rfl (Rg.nl (nT (?_))))))
    refine tRet (rB (rT (rT (rB (rT (rT (?_)))))))
    have hx := hb10 _ (Option.some.inj H1).symm; subst hx
    replace H := sw.r H
    obtain rfl := si H
    exact bk1 rfl rfl rfl rfl Take.nil
   ·have H1 := cdF h15 H1
    refine tSkip (nB (nT (?_)))
    refine Tr.region ?_
    obtain ⟨h16, H1⟩ := gd.of H1
    refine Rg.p (p_add rfl rfl h16) (Rg.m rfl (Rg.nl ?_))
    exact nLC ⟨(m12, Q5 + 1, ()), hi9 _ (Option.some.inj H1).symm⟩ (Nat.lt_succ_self _) ⟨rfl, rfl, rfl, rfl, trivial⟩ Ents.refl Take.nil
  ·have H1 := cdF h13 H1
   refine tExit (xT (xT (xE (?_))))
   exact nMC ⟨((), ()), (hb10 _ (Option.some.inj H1).symm).symm⟩ trivial Ents.refl Take.nil
 ·rintro ⟨⟨e17, y7⟩, hx⟩; subst hx; replace H := sw.l H
  show At _ _ [] _ [] _
  refine nT (?_)
  refine Tr.seq (Tr.region (Rg.a (v := .int .i64 (-1)) rfl (Rg.nl (nT (?_)))))
  refine tRet ?_
  obtain rfl := si H
  exact bk1 rfl rfl rfl rfl Take.nil
noncomputable def p_impl_PartOf (v0 : Part) (v1 : Int) : Option ((List Row)) := bd (p_slices_Index_int_int v0.1 v1) fun r3 => bd (bd (p_impl_PartOk v0) fun r7 => cond (!r7) (some (true)) (some (decide (r3 < 0)))) fun b5 => cond (b5) (some ([] : List Row)) (gd (ix r3 v0.2.length) <| gd (room (([] : List Row).length + (nth v0.2 r3.toNat).length)) <| some (([] : List Row) ++ (nth v0.2 r3.toNat)))
theorem c_impl_PartOf {r : (List Row)} (v0 : Part) (x_v0 : (Option Addr × Nat) × (Option Addr × Nat)) (v1 : Int) (H : p_impl_PartOf v0 v1 = some r) : Fn' Tryz.prog 94 #[.agg #[.slice x_v0.1.1 v0.1.length x_v0.1.2, .slice x_v0.2.1 v0.2.length x_v0.2.2], .int .i64 (v1)] [imm (.slice x_v0.1.1 v0.1.length x_v0.1.2) v0.1, imm (.slice x_v0.2.1 v0.2.length x_v0.2.2) v0.2] [] (ι := Option Addr × Nat) (fun x => .slice x.1 r.length x.2) (fun _ => []) (fun x => [tree (.slice x.1 r.length x.2) r]) := by
 refine calls_of (args := [_, _]) Tryz.func94 rfl (by kernel_rfl) Tryz.ntmps94 (by simp) fun c => ?_
 unfold p_impl_PartOf at H
 refine Tr.openD Ent.z.s fun X1 => (Tr.seq (Tr.region (Rg.ef (e_box (t := 72) rfl) rfl ?_)))
 rintro _ _ _ ⟨g2, rfl, rfl, rfl⟩
 refine Rg.a (v := .slice none 0 0) rfl (Rg.nl (nT (?_)))
 refine Tr.seq (Tr.region (Rg.p (p_fabE fa72_0 rfl rfl) (Rg.o (q_ldb ty69 rfl Has.here rfl) (Rg.m rfl ?_))))
 obtain ⟨r3, h4, H⟩ := bd.of H
 refine Rg.o (q_call (c_slices_Index_int_int v0.1 x_v0.1 v1 h4) rfl (EntsB.cons (Ent.b Ent.z.s) EntsB.nil)) (Rg.a rfl (Rg.nl (nT (?_))))
 refine Tr.seq ?_
 obtain ⟨b5, j6, H⟩ := bd.of H
 refine tMid1 [(16, .bool (b5)), (5, .int .i64 (r3)), (2, .pointer (some ⟨g2, 0, none⟩))] ?_ ?_
 ·refine tLinT [(5, .int .i64 (r3)), (2, .pointer (some ⟨g2, 0, none⟩))] ⟨rfl, rfl, trivial⟩ (Lin.o (q_ldbA ty72 rfl Has.here rfl) ?_)
  obtain ⟨r7, h8, j6⟩ := bd.of j6
  refine Lin.o (q_call (c_impl_PartOk v0 x_v0 h8) rfl (EntsB.cons (Ent.b Ent.z.s) (EntsB.cons (Ent.b (Ent.dimm Ent.z)) EntsB.nil))) (Lin.p (p_not rfl) ?_)
  rcases Bool.eq_false_or_eq_true (!r7) with h9 | h9
  ·have j6 := cdT h9 j6
   refine Lin.e_ (p_move rfl) h9 ?_
   iterate 2 refine Lin.sk rfl ?_
   refine Lin.p (v := .bool (true)) (p_pickT rfl rfl) ?_
   obtain rfl := si j6
   show At _ _ _ _ _ _
   exact n1 ⟨rfl, rfl, rfl, trivial⟩
  ·have j6 := cdF h9 j6
   refine Lin.e_ (p_move rfl) h9 (Lin.h rfl (p_move rfl) (Lin.h rfl (p_lss rfl rfl) (Lin.p (p_pickF rfl rfl) ?_)))
   obtain rfl := si j6
   show At _ _ _ _ _ _
   exact n1 ⟨rfl, rfl, rfl, trivial⟩
 refine Tr.cond (b := b5) rfl (fun h10 => ?_) (fun h10 => ?_)
 ·have H := cdT h10 H
  refine Tr.seq (Tr.region (Rg.ef (e_lit0 Row Tryz.underlying43 ty58) rfl ?_))
  rintro _ _ _ ⟨a11, c12, rfl, rfl, rfl⟩
  refine Rg.a rfl (Rg.nl (nT (?_)))
  refine tRet (rT (?_))
  obtain rfl := si H
  exact back1 (a11, c12) rfl (ResV.tmp (v := .slice a11 (([] : List Row).length) c12) rfl) rfl Ents.nil (.cons Del.here .nil)
 ·have H := cdF h10 H
  refine tSkip (nT (?_))
  refine Tr.seq (Tr.region (Rg.ef (e_lit0 Row Tryz.underlying43 ty58) rfl ?_))
  rintro _ _ _ ⟨a13, c14, rfl, rfl, rfl⟩
  refine Rg.p (p_fabE fa72_1 rfl rfl) (Rg.o (q_ldb ty70 rfl hs1 rfl) (Rg.m rfl ?_))
  obtain ⟨h15, H⟩ := gd.of H
  refine Rg.o (q_ixg Tryz.underlying70 ty43 rfl rfl h15 rfl (Ent.b (Ent.darr Ent.z))) (Rg.o (q_lde (i := r3.toNat) (j := 0) ty43 rfl (Ent.b (Ent.darr Ent.z)) h15.lt rfl) ?_)
  obtain ⟨h18, H⟩ := gd.of H
  refine Rg.ef (e_appF (l := ([] : List Row)) (k := nth v0.2 r3.toNat) (α := Row) Tryz.underlying43 ty58 rfl rfl (h18.b (by decide)) h18.x (.cons Del.here .nil) (Ent.b (Ent.dimm (Ent.del Ent.z h15.lt)))) rfl ?_
  rintro _ _ _ ⟨a16, c17, rfl, rfl, rfl⟩
  refine Rg.a rfl (Rg.nl (nT (?_)))
  refine tRet ?_
  obtain rfl := si H
  exact back1 (a16, c17) rfl (ResV.tmp (v := .slice a16 ((([] : List Row) ++ (nth v0.2 r3.toNat)).length) c17) rfl) rfl Ents.nil (.cons Del.here .nil)
def p_slices_Insert_Row_Row (v0 : List Row) (v1 : Int) (v2 : List Row) : Option (List Row) := p_insert v0 v1 v2
theorem c_slices_Insert_Row_Row {r : (List Row)} (v0 : (List Row)) (x_v0 : Option Addr × Nat) (v1 : Int) (v2 : (List Row)) (x_v2 : Option Addr × Nat) (H : p_slices_Insert_Row_Row v0 v1 v2 = some r) : Fn' Tryz.prog 133 #[.slice x_v0.1 v0.length x_v0.2, .int .i64 (v1), .slice x_v2.1 v2.length x_v2.2] [] [tree (.slice x_v0.1 v0.length x_v0.2) v0, tree (.slice x_v2.1 v2.length x_v2.2) v2] (ι := Option Addr × Nat) (fun x => .slice x.1 r.length x.2) (fun _ => []) (fun x => [tree (.slice x.1 r.length x.2) r]) := by
 refine calls_of (args := [_, _, _]) Tryz.func133 rfl (by kernel_rfl) Tryz.ntmps133 (by simp) fun c => ?_
 unfold p_slices_Insert_Row_Row p_insert at H
 obtain ⟨h1, H⟩ := gd.of H; obtain ⟨h2, H⟩ := gd.of H; obtain ⟨h3, H⟩ := gd.of H
 obtain ⟨oa, cp⟩ := x_v0; obtain ⟨ob, cq⟩ := x_v2
 obtain ⟨i, rfl⟩ := Int.eq_ofNat_of_zero_le h1.1
 have hi : i ≤ v0.length := Int.ofNat_le.1 h1.2
 have hr : v0.take i ++ v2 ++ v0.drop i = r := Option.some.inj H
 subst hr
 have hrm : v0.length + v2.length ≤ 1073741824 := h2
 refine Tr.bnd Has.here fun _ b1 b2 => (Tr.seq (Tr.region (Rg.a (v := .slice none 0 0) rfl (Rg.nl (nT ?_)))))
 refine Tr.seq (Tr.region (Rg.m rfl (Rg.m rfl (Rg.p (v := .slice (subA oa cp (i : Int).toNat (Enc.sz Row)) (v0.length - (i : Int).toNat) (cp - (i : Int).toNat)) (p_slAny Tryz.underlying43 (show TyI _ _ _ (Enc.sz Row) _ _ from ty58) rfl rfl h1.1 h1.2 b1) (Rg.nl ?_)))))
 refine nT (Tr.seq (Tr.region (Rg.m rfl (Rg.p (p_len 58 Tryz.underlying43 rfl) (Rg.a rfl ?_)))))
 refine Rg.nl (nT (Tr.seq (Tr.seq (Tr.region (Rg.m rfl ?_)))))
 refine Rg.p (p_eql rfl rfl) (Rg.nl (nT (Tr.cond (b := decide ((v2.length : Int) = 0)) rfl (fun h => absurd (of_decide_eq_true h) (by omega)) (fun _ => ?_))))
 refine tSkip (nT (Tr.seq (Tr.region (Rg.m rfl (Rg.p (p_len 58 Tryz.underlying43 rfl) ?_)))))
 refine Rg.a rfl (Rg.nl (nT (Tr.seq (Tr.seq (Tr.region ?_)))))
 refine Rg.m rfl (Rg.m rfl (Rg.p (p_eql rfl rfl) (Rg.nl (nT (Tr.cond (b := decide ((i : Int) = (v0.length : Int))) rfl (fun h => ?_) (fun h => ?_))))))
 ·have hin : i = v0.length := Int.ofNat_inj.1 (of_decide_eq_true h)
  subst hin
  refine Tr.seq (Tr.region (Rg.m rfl (Rg.m rfl (Rg.ef (e_appF (l := v0) (k := v2) (α := Row) Tryz.underlying43 ty58 rfl rfl (room.b h2 (by decide)) (room.x h2) (.cons Del.here .nil) (EntB.tree Has.here)) rfl ?_))))
  rintro _ _ _ ⟨oa2, cp2, rfl, rfl, rfl⟩
  refine Rg.a rfl (Rg.nl (nT (tRet ?_)))
  have hE : v0.take v0.length ++ v2 ++ v0.drop v0.length = v0 ++ v2 := by rw [List.take_length, List.drop_length, List.append_nil]
  rw [hE]
  exact back1 (oa2, cp2) rfl (ResV.tmp (v := .slice oa2 ((v0 ++ v2).length) (cp2)) rfl) rfl Ents.nil (.cons Del.here .nil)
 have hne : i < v0.length := Nat.lt_of_le_of_ne hi fun e => absurd (e ▸ h) (by simp)
 refine tSkip (nT (Tr.seq (Tr.seq (Tr.region (Rg.m rfl ?_)))))
 refine Rg.m rfl ?_
 refine Rg.p (p_add rfl rfl (by unfold I64; omega)) ?_
 refine Rg.m rfl (Rg.p (v := .int .i64 (cp : Int)) (p_cap 58 Tryz.underlying43 rfl) (Rg.p (p_gtr rfl rfl) (Rg.nl (nT (Tr.unT (.cons Del.here .nil) (by omega) fun g bt js e1 _ _ _ l1 l2 l3 => ?_)))))
 subst e1
 have l2 : v0.length * Enc.sz Row + js.length = cp * Enc.sz Row := l2
 refine Tr.unT (.cons (Del.there Del.here) .nil) h3 fun g2 bt2 js2 e1 _ _ _ k1 k2 k3 => ?_
 subst e1
 have hA1 : ((v0.take i).flatMap Flat.enc).length = i * Enc.sz Row := by rw [flat_flen fun x hx => (l3 x (List.mem_of_mem_take hx)).2.1, List.length_take, Nat.min_eq_left hi]
 have hA2 : ((v0.drop i).flatMap Flat.enc).length = (v0.length - i) * Enc.sz Row := by rw [flat_flen fun x hx => (l3 x (List.mem_of_mem_drop hx)).2.1, List.length_drop]
 have hAA : v0.flatMap Flat.enc = (v0.take i).flatMap Flat.enc ++ (v0.drop i).flatMap Flat.enc := by rw [← List.flatMap_append, List.take_append_drop]
 have hall : ∀ x ∈ v0.take i ++ v2 ++ v0.drop i, Flat.wf x ∧ (Flat.enc x).length = Enc.sz Row := ins_all (fun x hx => ⟨(l3 x hx).1, (l3 x hx).2.1⟩) (fun x hx => ⟨(k3 x hx).1, (k3 x hx).2.1⟩)
 have hlen : (v0.take i ++ v2 ++ v0.drop i).length = v0.length + v2.length := by simp; omega
 have o1 : ∀ v ∈ (v0.drop i).flatMap Flat.enc, v.oneCell' = true := fun v hv => by obtain ⟨x, hx, hv⟩ := List.mem_flatMap.1 hv; exact (l3 x (List.mem_of_mem_drop hx)).2.2 v hv
 have o2 : ∀ v ∈ v2.flatMap Flat.enc, v.oneCell' = true := fun v hv => by obtain ⟨x, hx, hv⟩ := List.mem_flatMap.1 hv; exact (k3 x hx).2.2 v hv
 have q0 : i * Enc.sz Row + v2.length * Enc.sz Row = (i + v2.length) * Enc.sz Row := (Nat.add_mul _ _ _).symm
 have q1 : i * Enc.sz Row + (v0.length - i) * Enc.sz Row = v0.length * Enc.sz Row := by rw [← Nat.add_mul]; congr 1; omega
 have q2 : (v0.length + v2.length) * Enc.sz Row = v0.length * Enc.sz Row + v2.length * Enc.sz Row := Nat.add_mul _ _ _
 refine Tr.cond (b := decide ((cp : Int) < (v0.length : Int) + (v2.length : Int))) rfl (fun h => ?_) (fun h => ?_)
 ·have h := of_decide_eq_true h
  refine Tr.seq (Tr.region (Rg.m rfl (Rg.m rfl (Rg.p (v := .slice (some ⟨g, 0, none⟩) (i) (cp)) (p_slHi i Tryz.underlying43 (show TyI _ _ _ (Enc.sz Row) _ _ from ty58) rfl rfl rfl (by omega)) (Rg.m rfl ?_)))))
  refine Rg.m rfl ?_
  refine Rg.p (p_add rfl rfl (by unfold I64; omega)) ?_
  refine Rg.m rfl ?_
  refine Rg.p (p_sub rfl rfl (by unfold I64; omega)) ?_
  refine Rg.ef (e_appZ (k := v0.length + v2.length - i) (olds := (v0.take i).flatMap Flat.enc) Tryz.underlying43 Tryz.underlying3 (show TyI _ _ _ (Enc.sz Row) _ _ from ty58) (Enc.pos (α := Row)) rfl rfl (by omega) (Has.there Has.here) (by rw [hAA, List.append_assoc, ← hA1]; exact List.take_left.symm) hA1 (by omega) (by omega) (by rw [show i + (v0.length + v2.length - i) = v0.length + v2.length by omega]; exact room.b h2 (by decide)) (by omega)) rfl ?_
  rintro _ _ _ ⟨g3, cp3, js3, rfl, m1, m2, m3, rfl, rfl⟩
  refine Rg.a rfl (Rg.nl (nT ?_))
  have hn3 : i + (v0.length + v2.length - i) = v0.length + v2.length := by omega
  have m4 := Nat.mul_le_mul_right (Enc.sz Row) m1
  rw [hn3] at m4
  refine Tr.seq (Tr.region (Rg.m rfl (Rg.m rfl (Rg.p (v := .slice (some ⟨g3, i * Enc.sz Row, none⟩) (i + (v0.length + v2.length - i) - i) (cp3 - i)) (p_slLo i Tryz.underlying43 (show TyI _ _ _ (Enc.sz Row) _ _ from ty58) rfl rfl rfl (by omega) m1 (by omega)) (Rg.m rfl ?_)))))
  refine Rg.ef (e_cpB (m := v2.length) (ks := v2.flatMap Flat.enc) Tryz.underlying43 (show TyI _ _ _ (Enc.sz Row) _ _ from ty58) rfl rfl (Nat.min_eq_left (by omega)) (by rw [List.drop_zero, ← k1]; exact List.take_left.symm) k1 Upd.here (Has.there Has.here) (by rw [List.length_append, hA1]; omega) o2) rfl ?_
  rintro _ _ _ ⟨rfl, rfl, rfl⟩
  refine Rg.nl (nT (Tr.seq (tNw 2 [0, 1, 2, 3, 4, 5, 6, 7, 8] [8] [] Tryz.mixed (by kernel_rfl) (by decide) List.nodup_nil okNil (w_p rfl (p_move rfl) (w_p rfl (p_move rfl) ?_)))))
  refine w_p rfl (p_move rfl) ?_
  refine w_p rfl (p_add rfl rfl (by unfold I64; omega)) ?_
  refine w_p (v := .slice (some ⟨g3, (i + v2.length) * Enc.sz Row, none⟩) (i + (v0.length + v2.length - i) - (i + v2.length)) (cp3 - (i + v2.length))) rfl (p_slLo (i + v2.length) Tryz.underlying43 (show TyI _ _ _ (Enc.sz Row) _ _ from ty58) rfl rfl rfl (by omega) m1 (by omega)) (w_p rfl (p_move rfl) (w_p rfl (p_move rfl) (w_p (v := .slice (some ⟨g, i * Enc.sz Row, none⟩) (v0.length - i) (cp - i)) rfl (p_slLo i Tryz.underlying43 (show TyI _ _ _ (Enc.sz Row) _ _ from ty58) rfl rfl rfl (by omega) b1 (by omega)) ?_)))
  refine w_ed rfl (by decide) rfl Rdy.nil rfl (n_cpB (m := v0.length - i) (ks := (v0.drop i).flatMap Flat.enc) Tryz.underlying43 (show TyI _ _ _ (Enc.sz Row) _ _ from ty58) rfl rfl (Nat.min_eq_left (by omega)) (by rw [hAA, List.append_assoc, ← hA1, List.drop_left, ← hA2]; exact List.take_left.symm) hA2 Upd.here (Has.there (Has.there Has.here)) (by rw [← q0, Nat.add_assoc]; exact hlenNew hA1 k1 (by omega)) o1) ?_
  rintro _ _ _ ⟨rfl, rfl, rfl⟩
  refine ⟨PdOk.nil, ?_⟩
  refine w_nil (nT (Tr.seq (Tr.region (Rg.m rfl (Rg.a rfl ?_)))))
  refine Rg.nl (nT (tRet ?_))
  refine At.mkF (n := i + (v0.length + v2.length - i)) (v0.take i ++ v2 ++ v0.drop i) (js3.drop (v2.length * Enc.sz Row + (v0.length - i) * Enc.sz Row)) (.cons Del.here .nil) (by omega) (by rw [← q0, ins_new hA1 k1 hA2 (by omega), List.flatMap_append, List.flatMap_append]) (by omega) m2 (by rw [← q0, ins_new hA1 k1 hA2 (by omega)]; simp only [List.length_append, List.length_drop, hA1, k1, hA2]; omega) hall ?_
  exact back1 (some ⟨g3, 0, none⟩, cp3) rfl (ResV.tmp (v := .slice (some ⟨g3, 0, none⟩) (i + (v0.length + v2.length - i)) (cp3)) rfl) (by rw [hlen, hn3]) Ents.nil (.cons (by rw [hlen, hn3]; exact Del.here) .nil)
 have h := of_decide_eq_false h
 refine tSkip (nT ?_)
 have p4 := Nat.mul_le_mul_right (Enc.sz Row) (show v0.length + v2.length ≤ cp by omega)
 refine Tr.seq (Tr.region (Rg.m rfl (Rg.m rfl (Rg.m rfl ?_))))
 refine Rg.p (p_add rfl rfl (by unfold I64; omega)) ?_
 refine Rg.p (v := .slice (some ⟨g, 0, none⟩) (v0.length + v2.length) (cp)) (p_slHi (v0.length + v2.length) Tryz.underlying43 (show TyI _ _ _ (Enc.sz Row) _ _ from ty58) rfl rfl (by omega) (by omega)) (Rg.a rfl (Rg.nl (nT (Tr.seq (Tr.seq ?_)))))
 refine Tr.region (Rg.m rfl (Rg.m rfl (Rg.m rfl (Rg.m rfl ?_))))
 refine Rg.p (p_add rfl rfl (by unfold I64; omega)) ?_
 refine Rg.p (v := .slice (some ⟨g, (i + v2.length) * Enc.sz Row, none⟩) (v0.length + v2.length - (i + v2.length)) (cp - (i + v2.length))) (p_slLo (i + v2.length) Tryz.underlying43 (show TyI _ _ _ (Enc.sz Row) _ _ from ty58) rfl rfl rfl (by omega) (by omega) (by omega)) ?_
 refine Rg.o (v := .bool (false)) (q_ov (tR := 4) Tryz.func150 (by kernel_rfl) (by kernel_rfl) (by kernel_rfl) (by kernel_rfl) Tryz.underlying43 (show TyI _ _ _ (Enc.sz Row) _ _ from ty58) rfl rfl (.cons Del.here (.cons Del.here .nil)) (cells_ne (by rw [l1]; have := Nat.mul_le_mul_right (Enc.sz Row) (show 1 ≤ v0.length by omega); have := Enc.pos (α := Row); omega))) ?_
 refine Rg.p (p_not rfl) (Rg.nl (nT (Tr.condT rfl (Tr.seq (tNw 2 [0, 1, 2, 3, 4, 5, 6, 7, 8] [8] [] Tryz.mixed (by kernel_rfl) (by decide) List.nodup_nil okNil ?_)))))
 refine w_p rfl (p_move rfl) (w_p rfl (p_move rfl) (w_p rfl (p_move rfl) ?_))
 refine w_p rfl (p_add rfl rfl (by unfold I64; omega)) ?_
 refine w_p (v := .slice (some ⟨g, (i + v2.length) * Enc.sz Row, none⟩) (v0.length + v2.length - (i + v2.length)) (cp - (i + v2.length))) rfl (p_slLo (i + v2.length) Tryz.underlying43 (show TyI _ _ _ (Enc.sz Row) _ _ from ty58) rfl rfl rfl (by omega) (by omega) (by omega)) (w_p rfl (p_move rfl) (w_p rfl (p_move rfl) (w_p (v := .slice (some ⟨g, i * Enc.sz Row, none⟩) (v0.length + v2.length - i) (cp - i)) rfl (p_slLo i Tryz.underlying43 (show TyI _ _ _ (Enc.sz Row) _ _ from ty58) rfl rfl rfl (by omega) (by omega) (by omega)) ?_)))
 refine w_ed rfl (by decide) rfl Rdy.nil rfl (n_cpB (m := v0.length - i) (ks := (v0.drop i).flatMap Flat.enc) Tryz.underlying43 (show TyI _ _ _ (Enc.sz Row) _ _ from ty58) rfl rfl (by show min _ _ = _; omega) (by rw [hAA, List.append_assoc, ← hA1, List.drop_left, ← hA2]; exact List.take_left.symm) hA2 (Upd.there Upd.here) (Has.there Has.here) (by rw [List.length_append, l1, ← q0]; omega) o1) ?_
 rintro _ _ _ ⟨rfl, rfl, rfl⟩
 refine ⟨PdOk.nil, ?_⟩
 refine w_nil (nT (Tr.seq (Tr.region (Rg.m rfl (Rg.m rfl ?_)))))
 refine Rg.p (v := .slice (some ⟨g, i * Enc.sz Row, none⟩) (v0.length + v2.length - i) (cp - i)) (p_slLo i Tryz.underlying43 (show TyI _ _ _ (Enc.sz Row) _ _ from ty58) rfl rfl rfl (by omega) (by omega) (by omega)) (Rg.m rfl ?_)
 refine Rg.ef (e_cpB (m := v2.length) (ks := v2.flatMap Flat.enc) Tryz.underlying43 (show TyI _ _ _ (Enc.sz Row) _ _ from ty58) rfl rfl (by show min _ _ = _; omega) (by rw [List.drop_zero, ← k1]; exact List.take_left.symm) k1 (Upd.there Upd.here) Has.here (by rw [← q0, hAA]; exact hlenHere hA1 hA2 k1 (by omega)) o2) rfl ?_
 rintro _ _ _ ⟨rfl, rfl, rfl⟩
 refine Rg.nl (nT (Tr.seq (Tr.region (Rg.m rfl (Rg.a rfl ?_)))))
 refine Rg.nl (nT (tRet ?_))
 have hX := ins_here (js := js) hA1 k1 hA2 (by omega)
 refine At.mkF (n := v0.length + v2.length) (v0.take i ++ v2 ++ v0.drop i) (((v0.take i).flatMap Flat.enc ++ (v0.drop i).flatMap Flat.enc ++ js).drop (i * Enc.sz Row + v2.length * Enc.sz Row + (v0.length - i) * Enc.sz Row)) (.cons (Del.there Del.here) .nil) (by omega) (by rw [← q0, hAA, hX, List.flatMap_append, List.flatMap_append]) (by omega) b2 (by rw [← q0, hAA, hX]; simp only [List.length_append, List.length_drop, hA1, k1, hA2]; omega) hall ?_
 exact back1 (some ⟨g, 0, none⟩, cp) rfl (ResV.tmp (v := .slice (some ⟨g, 0, none⟩) (v0.length + v2.length) (cp)) rfl) (by rw [hlen]) Ents.nil (.cons (by rw [hlen]; exact Del.here) .nil)
noncomputable def p_impl_put_b0 (v0 : (List Row)) (v1 : Row) (Q11 : Int) : Option ((Int) ⊕ (Int)) := bd (cond (decide (Q11 < ((([] : List Row) ++ v0).length : Int))) (gd (ix Q11 (([] : List Row) ++ v0).length) <| some (decide (((nth (([] : List Row) ++ v0) Q11.toNat).1) < v1.1))) (some (false))) fun b19 => cond (b19) (gd (I64 (Q11 + 1)) <| some (.inl (Q11 + 1))) (some (.inr Q11))
noncomputable def p_impl_put (v0 : (List Row)) (v1 : Row) : Option ((List Row)) := gd (room (([] : List Row).length + v0.length)) <| bd (lp (p_impl_put_b0 v0 v1) 0) fun x7 => bd (cond (decide (x7 < ((([] : List Row) ++ v0).length : Int))) (gd (ix x7 (([] : List Row) ++ v0).length) <| some (decide (((nth (([] : List Row) ++ v0) x7.toNat).1) = v1.1))) (some (false))) fun b25 => cond (b25) (gd (ix x7 (([] : List Row) ++ v0).length) <| some ((([] : List Row) ++ v0).set x7.toNat v1)) (bd (p_slices_Insert_Row_Row (([] : List Row) ++ v0) x7 ([v1] : List Row)) fun r35 => gd (room (([] : List Row).length + r35.length)) <| some (([] : List Row) ++ r35))
theorem c_impl_put {r : (List Row)} (v0 : (List Row)) (x_v0 : Option Addr × Nat) (v1 : Row) (H : p_impl_put v0 v1 = some r) : Fn' Tryz.prog 95 #[.slice x_v0.1 v0.length x_v0.2, .agg #[.int .i64 (v1.1), .int .i64 (v1.2)]] [imm (.slice x_v0.1 v0.length x_v0.2) v0] [] (ι := Option Addr × Nat) (fun x => .slice x.1 r.length x.2) (fun _ => []) (fun x => [tree (.slice x.1 r.length x.2) r]) := by
 refine calls_of (args := [_, _]) Tryz.func95 rfl (by kernel_rfl) Tryz.ntmps95 (by simp) fun c => ?_
 unfold p_impl_put at H
 refine Tr.seq (Tr.region (Rg.ef (e_box (t := 58) rfl) rfl ?_))
 rintro _ _ _ ⟨g1, rfl, rfl, rfl⟩
 refine Rg.a (v := .slice none 0 0) rfl (Rg.nl (nT (?_)))
 refine Tr.seq (Tr.region (Rg.ef (e_lit0 Row Tryz.underlying43 ty58) rfl ?_))
 rintro _ _ _ ⟨a2, c3, rfl, rfl, rfl⟩
 refine Rg.m rfl ?_
 obtain ⟨h6, H⟩ := gd.of H
 refine Rg.ef (e_appF (l := ([] : List Row)) (k := v0) (α := Row) Tryz.underlying43 ty58 rfl rfl (h6.b (by decide)) h6.x (.cons Del.here .nil) (Ent.b Ent.z)) rfl ?_
 rintro _ _ _ ⟨a4, c5, rfl, rfl, rfl⟩
 refine Rg.a rfl (Rg.nl (nT (?_)))
 refine Tr.seq (Tr.region (Rg.a (v := .int .i64 (0)) rfl (Rg.nl (nT (?_)))))
 obtain ⟨x7, hx8, H⟩ := bd.of H
 obtain ⟨n9, hx8⟩ := lp.of hx8
 refine tMidC (ι := Unit) (fun ψ => [(3, .pointer (some ⟨g1, 0, none⟩)), (5, .slice a4 ((([] : List Row) ++ v0).length) c5), (6, .int .i64 (x7))]) (fun ψ => [box g1 58 [.int .i64 (v1.1), .int .i64 (v1.2)], tree (.slice a4 ((([] : List Row) ++ v0).length) c5) (([] : List Row) ++ v0)]) ?_ ?_
 ·refine Tr.block (tLoopC (ι := { q : Nat × (Int) × Unit // itr (p_impl_put_b0 v0 v1) q.1 q.2.1 = some x7 }) (fun ζ => [(3, .pointer (some ⟨g1, 0, none⟩)), (5, .slice a4 ((([] : List Row) ++ v0).length) c5), (6, .int .i64 (ζ.1.2.1))]) (fun ζ => [box g1 58 [.int .i64 (v1.1), .int .i64 (v1.2)], tree (.slice a4 ((([] : List Row) ++ v0).length) c5) (([] : List Row) ++ v0)]) (fun ζ => ζ.1.1) ⟨(n9, 0, ()), hx8⟩ ⟨rfl, rfl, rfl, trivial⟩ (.cons dl1 (.cons Del.here .nil)) ?_)
  rintro ⟨⟨m10, Q11, z12⟩, hk17⟩
  obtain ⟨m18, t14, e, H1, hi15, hb16⟩ := itr.of (n := m10) (s := Q11) hk17
  subst e; unfold p_impl_put_b0 at H1
  show Tr _ _ _ _ _ [(3, .pointer (some ⟨g1, 0, none⟩)), (5, .slice a4 ((([] : List Row) ++ v0).length) c5), (6, .int .i64 (Q11))] _ [box g1 58 [.int .i64 (v1.1), .int .i64 (v1.2)], tree (.slice a4 ((([] : List Row) ++ v0).length) c5) (([] : List Row) ++ v0)]
  refine Tr.seq ?_
  obtain ⟨b19, j20, H1⟩ := bd.of H1
  refine tMid1 [(23, .bool (b19)), (3, .pointer (some ⟨g1, 0, none⟩)), (5, .slice a4 ((([] : List Row) ++ v0).length) c5), (6, .int .i64 (Q11))] ?_ ?_
  ·refine tLinS [(3, .pointer (some ⟨g1, 0, none⟩)), (5, .slice a4 ((([] : List Row) ++ v0).length) c5), (6, .int .i64 (Q11))] Tryz.mixed (.inr (by kernel_rfl)) ⟨rfl, rfl, rfl, trivial⟩ rfl (Lin.m rfl (Lin.m rfl (Lin.p (p_len 58 Tryz.underlying43 rfl) (Lin.p (p_lss rfl rfl) ?_))))
   rcases Bool.eq_false_or_eq_true (decide (Q11 < ((([] : List Row) ++ v0).length : Int))) with h21 | h21
   ·have j20 := cdT h21 j20
    refine Lin.e_ (p_move rfl) h21 (Lin.h rfl (p_move rfl) (Lin.h rfl (p_move rfl) ?_))
    obtain ⟨h22, j20⟩ := gd.of j20
    refine Lin.i rfl (q_ixO' Tryz.underlying43 ty58 rfl rfl h22 hs1) (Lin.i rfl (q_faeE (j := 0) Q11.toNat fa58_0 rfl (EntB.flat (EntB.tree hs1)) h22.lt rfl) (Lin.i rfl (q_lde (i := Q11.toNat) (j := 0) ty3 rfl (EntB.flat (EntB.tree hs1)) h22.lt rfl) (Lin.h rfl (p_fabE fa58_0 rfl rfl) (Lin.i rfl (q_ldb ty3 rfl Has.here rfl) (Lin.h rfl (p_lss rfl rfl) ?_)))))
    refine Lin.p (p_pickT rfl rfl) ?_
    obtain rfl := si j20
    show At _ _ _ _ _ _
    exact n1 ⟨rfl, rfl, rfl, rfl, trivial⟩
   ·have j20 := cdF h21 j20
    refine Lin.e_ (p_move rfl) h21 ?_
    iterate 8 refine Lin.sk rfl ?_
    refine Lin.p (v := .bool (false)) (p_pickF rfl rfl) ?_
    obtain rfl := si j20
    show At _ _ _ _ _ _
    exact n1 ⟨rfl, rfl, rfl, rfl, trivial⟩
  refine Tr.cond (b := b19) rfl (fun h23 => ?_) (fun h23 => ?_)
  ·have H1 := cdT h23 H1
   refine tSkip (nT (?_))
   refine Tr.block (Tr.region (Rg.m rfl ?_))
   obtain ⟨h24, H1⟩ := gd.of H1
   refine Rg.p (p_add rfl rfl h24) (Rg.a rfl (Rg.nl ?_))
   exact nB (nLC ⟨(m18, Q11 + 1, ()), hi15 _ (Option.some.inj H1).symm⟩ (Nat.lt_succ_self _) ⟨rfl, rfl, rfl, trivial⟩ Ents.refl (.cons Del.here (.cons Del.here .nil)))
  ·have H1 := cdF h23 H1
   refine tExit (xT (xT (xE (?_))))
   have hx := hb16 _ (Option.some.inj H1).symm; subst hx
   exact nMC () ⟨rfl, rfl, rfl, trivial⟩ Ents.refl (.cons Del.here (.cons Del.here .nil))
 ·intro y13
  show Tr _ _ _ _ _ [(3, .pointer (some ⟨g1, 0, none⟩)), (5, .slice a4 ((([] : List Row) ++ v0).length) c5), (6, .int .i64 (x7))] _ [box g1 58 [.int .i64 (v1.1), .int .i64 (v1.2)], tree (.slice a4 ((([] : List Row) ++ v0).length) c5) (([] : List Row) ++ v0)]
  refine Tr.seq ?_
  obtain ⟨b25, j26, H⟩ := bd.of H
  refine tMid1 [(39, .bool (b25)), (3, .pointer (some ⟨g1, 0, none⟩)), (5, .slice a4 ((([] : List Row) ++ v0).length) c5), (6, .int .i64 (x7))] ?_ ?_
  ·refine tLinS [(3, .pointer (some ⟨g1, 0, none⟩)), (5, .slice a4 ((([] : List Row) ++ v0).length) c5), (6, .int .i64 (x7))] Tryz.mixed (.inr (by kernel_rfl)) ⟨rfl, rfl, rfl, trivial⟩ rfl (Lin.m rfl (Lin.m rfl (Lin.p (p_len 58 Tryz.underlying43 rfl) (Lin.p (p_lss rfl rfl) ?_))))
   rcases Bool.eq_false_or_eq_true (decide (x7 < ((([] : List Row) ++ v0).length : Int))) with h27 | h27
   ·have j26 := cdT h27 j26
    refine Lin.e_ (p_move rfl) h27 (Lin.h rfl (p_move rfl) (Lin.h rfl (p_move rfl) ?_))
    obtain ⟨h28, j26⟩ := gd.of j26
    refine Lin.i rfl (q_ixO' Tryz.underlying43 ty58 rfl rfl h28 hs1) (Lin.i rfl (q_faeE (j := 0) x7.toNat fa58_0 rfl (EntB.flat (EntB.tree hs1)) h28.lt rfl) (Lin.i rfl (q_lde (i := x7.toNat) (j := 0) ty3 rfl (EntB.flat (EntB.tree hs1)) h28.lt rfl) (Lin.h rfl (p_fabE fa58_0 rfl rfl) (Lin.i rfl (q_ldb ty3 rfl Has.here rfl) (Lin.h rfl (p_eql rfl rfl) ?_)))))
    refine Lin.p (p_pickT rfl rfl) ?_
    obtain rfl := si j26
    show At _ _ _ _ _ _
    exact n1 ⟨rfl, rfl, rfl, rfl, trivial⟩
   ·have j26 := cdF h27 j26
    refine Lin.e_ (p_move rfl) h27 ?_
    iterate 8 refine Lin.sk rfl ?_
    refine Lin.p (v := .bool (false)) (p_pickF rfl rfl) ?_
    obtain rfl := si j26
    show At _ _ _ _ _ _
    exact n1 ⟨rfl, rfl, rfl, rfl, trivial⟩
  refine Tr.cond (b := b25) rfl (fun h29 => ?_) (fun h29 => ?_)
  ·have H := cdT h29 H
   refine Tr.seq (Tr.region (Rg.m rfl (Rg.m rfl (Rg.o (q_ldbA ty58 rfl Has.here rfl) ?_))))
   obtain ⟨h30, H⟩ := gd.of H
   refine Rg.o (q_ixO' Tryz.underlying43 ty58 rfl rfl h30 hs1) (Rg.en (e_setT (l := (([] : List Row) ++ v0)) (α := Row) (oa := a4) x7.toNat v1 ((), ()) ty58 rfl rfl rfl h30.lt (ShpT.wfa _) (.cons dl1 .nil)) rfl ?_)
   rintro _ _ _ ⟨rfl, rfl, rfl⟩
   refine Rg.nl (nT (?_))
   refine Tr.seq ?_
   refine Tr.olen Has.here fun hn => ?_; rw [hn]
   refine Tr.region (Rg.m rfl (Rg.a rfl (Rg.nl (nT (?_)))))
   refine tRet (rT (?_))
   obtain rfl := si H
   exact back1 (a4, c5) rfl (ResV.tmp (v := .slice a4 (((([] : List Row) ++ v0).set x7.toNat v1).length) c5) rfl) rfl Ents.nil (.cons Del.here .nil)
  ·have H := cdF h29 H
   refine tSkip (nT (?_))
   refine Tr.seq (Tr.region (Rg.ef (e_lit0 Row Tryz.underlying43 ty58) rfl ?_))
   rintro _ _ _ ⟨a31, c32, rfl, rfl, rfl⟩
   refine Rg.m rfl (Rg.m rfl (Rg.o (q_ldbA ty58 rfl hs1 rfl) (Rg.ef (e_litT (α := Row) (vs := [(0, .agg #[.int .i64 (v1.1), .int .i64 (v1.2)])]) [v1] rfl (fun _ => rfl) (fun _ _ => by repeat constructor) Tryz.underlying43 ty58 rfl (by decide) (by decide) (by kernel_rfl)) rfl ?_)))
   rintro _ _ _ ⟨a33, c34, rfl, rfl, rfl⟩
   obtain ⟨r35, h36, H⟩ := bd.of H
   refine Rg.ef (e_callM (c_slices_Insert_Row_Row (([] : List Row) ++ v0) (a4, c5) x7 ([v1] : List Row) (a33, c34) h36) (Solo.tree (Solo.tree Solo.nil)) (fun _ => (Solo.tree Solo.nil)) rfl (.cons dl3 (.cons Del.here .nil)) EntsB.nil) rfl ?_
   rintro _ _ _ ⟨x37, rfl, rfl, rfl⟩
   obtain ⟨h40, H⟩ := gd.of H
   refine Rg.ef (e_appF (l := ([] : List Row)) (k := r35) (α := Row) Tryz.underlying43 ty58 rfl rfl (h40.b (by decide)) h40.x (.cons dl1 .nil) (EntB.tree Has.here)) rfl ?_
   rintro _ _ _ ⟨a38, c39, rfl, rfl, rfl⟩
   refine Rg.a rfl (Rg.nl (nT (?_)))
   refine tRet ?_
   obtain rfl := si H
   exact back1 (a38, c39) rfl (ResV.tmp (v := .slice a38 ((([] : List Row) ++ r35).length) c39) rfl) rfl Ents.nil (.cons Del.here .nil)
noncomputable def p_impl_Store_rows_b1 (r22 : (List Row)) (Q29 : (List Row) × Int) : Option (((List Row) × Int) ⊕ ((List Row))) := cond (decide (Q29.2 < (r22.length : Int))) (gd (ix Q29.2 r22.length) <| bd (p_impl_put Q29.1 (nth r22 Q29.2.toNat)) fun r40 => gd (I64 (Q29.2 + 1)) <| some (.inl (r40, Q29.2 + 1))) (some (.inr Q29.1))
noncomputable def p_impl_Store_rows_b0 (v0 : Store) (v1 : Int) (Q11 : (List Row) × Int) : Option (((List Row) × Int) ⊕ ((List Row))) := cond (decide (Q11.2 < (v0.2.1.length : Int))) (gd (ix Q11.2 v0.2.1.length) <| bd (p_impl_PartOf (nth v0.2.1 Q11.2.toNat) v1) fun r22 => bd (lp (p_impl_Store_rows_b1 r22) (Q11.1, 0)) fun x25 => gd (I64 (Q11.2 + 1)) <| some (.inl (x25, Q11.2 + 1))) (some (.inr Q11.1))
noncomputable def p_impl_Store_rows_b2 (v0 : Store) (v1 : Int) (Q49 : (List Row) × Int) : Option (((List Row) × Int) ⊕ ((List Row))) := cond (decide (Q49.2 < (v0.2.2.length : Int))) (gd (ix Q49.2 v0.2.2.length) <| cond (decide (((nth v0.2.2 Q49.2.toNat).1) = v1)) (bd (p_impl_put Q49.1 ((nth v0.2.2 Q49.2.toNat).2)) fun r61 => gd (I64 (Q49.2 + 1)) <| some (.inl (r61, Q49.2 + 1))) (gd (I64 (Q49.2 + 1)) <| some (.inl (Q49.1, Q49.2 + 1)))) (some (.inr Q49.1))
noncomputable def p_impl_Store_rows (v0 : Store) (v1 : Int) : Option ((List Row)) := bd (lp (p_impl_Store_rows_b0 v0 v1) (([] : List Row), 0)) fun x7 => bd (lp (p_impl_Store_rows_b2 v0 v1) (x7, 0)) fun x45 => some x45
theorem c_impl_Store_rows {r : (List Row)} (v0 : Store) (x_v0 : ((Option Addr × Nat) × (Option Addr × Nat)) × (Option Addr × Nat) × (Option Addr × Nat)) (v1 : Int) (H : p_impl_Store_rows v0 v1 = some r) : Fn' Tryz.prog 47 #[.agg #[.slice x_v0.1.1.1 v0.1.1.length x_v0.1.1.2, .slice x_v0.1.2.1 v0.1.2.length x_v0.1.2.2, .slice x_v0.2.1.1 v0.2.1.length x_v0.2.1.2, .slice x_v0.2.2.1 v0.2.2.length x_v0.2.2.2], .int .i64 (v1)] [imm (.slice x_v0.1.1.1 v0.1.1.length x_v0.1.1.2) v0.1.1, imm (.slice x_v0.1.2.1 v0.1.2.length x_v0.1.2.2) v0.1.2, imm (.slice x_v0.2.1.1 v0.2.1.length x_v0.2.1.2) v0.2.1, imm (.slice x_v0.2.2.1 v0.2.2.length x_v0.2.2.2) v0.2.2] [] (ι := Option Addr × Nat) (fun x => .slice x.1 r.length x.2) (fun _ => []) (fun x => [tree (.slice x.1 r.length x.2) r]) := by
 refine calls_of (args := [_, _]) Tryz.func47 rfl (by kernel_rfl) Tryz.ntmps47 (by simp) fun c => ?_
 unfold p_impl_Store_rows at H
 refine Tr.openD Ent.z fun X1 => (Tr.openD Ent.z.s.s fun X2 => (Tr.openD Ent.z.s.s.s.s fun X3 => (Tr.seq (Tr.region (Rg.ef (e_box (t := 39) rfl) rfl ?_)))))
 rintro _ _ _ ⟨g4, rfl, rfl, rfl⟩
 refine Rg.a (v := .slice none 0 0) rfl (Rg.nl (nT (?_)))
 refine Tr.seq (Tr.region (Rg.ef (e_lit0 Row Tryz.underlying43 ty58) rfl ?_))
 rintro _ _ _ ⟨a5, c6, rfl, rfl, rfl⟩
 refine Rg.a rfl (Rg.nl (nT (?_)))
 refine Tr.seq (Tr.seq (Tr.region (Rg.p (p_fabE fa39_1 rfl rfl) (Rg.o (q_ldb ty36 rfl hs1 rfl) (Rg.p (p_len 72 Tryz.underlying36 rfl) ?_)))))
 refine Rg.m (v := .int .i64 (0)) rfl (Rg.nl (nT (?_)))
 obtain ⟨x7, hx8, H⟩ := bd.of H
 obtain ⟨n9, hx8⟩ := lp.of hx8
 refine tMidNC (ι := Option Addr × Nat) (fun ψ => [(1, .int .i64 (v1)), (2, .pointer (some ⟨g4, 0, none⟩)), (5, .slice ψ.1 x7.length ψ.2)]) (fun ψ => [box g4 39 [.slice x_v0.1.1.1 v0.1.1.length x_v0.1.1.2, .slice x_v0.1.2.1 v0.1.2.length x_v0.1.2.2, .slice x_v0.2.1.1 v0.2.1.length x_v0.2.1.2, .slice x_v0.2.2.1 v0.2.2.length x_v0.2.2.2], tree (.slice ψ.1 x7.length ψ.2) x7]) ?_ ?_
 ·refine Tr.block (tLoopC (ι := { q : Nat × ((List Row) × Int) × (Option Addr × Nat) // itr (p_impl_Store_rows_b0 v0 v1) q.1 q.2.1 = some x7 }) (fun ζ => [(1, .int .i64 (v1)), (2, .pointer (some ⟨g4, 0, none⟩)), (5, .slice ζ.1.2.2.1 ζ.1.2.1.1.length ζ.1.2.2.2), (14, .slice x_v0.2.1.1 v0.2.1.length x_v0.2.1.2), (15, .int .i64 ((v0.2.1.length : Int))), (16, .int .i64 (ζ.1.2.1.2))]) (fun ζ => [box g4 39 [.slice x_v0.1.1.1 v0.1.1.length x_v0.1.1.2, .slice x_v0.1.2.1 v0.1.2.length x_v0.1.2.2, .slice x_v0.2.1.1 v0.2.1.length x_v0.2.1.2, .slice x_v0.2.2.1 v0.2.2.length x_v0.2.2.2], tree (.slice ζ.1.2.2.1 ζ.1.2.1.1.length ζ.1.2.2.2) ζ.1.2.1.1]) (fun ζ => ζ.1.1) ⟨(n9, (([] : List Row), 0), (a5, c6)), hx8⟩ ⟨rfl, rfl, rfl, rfl, rfl, rfl, trivial⟩ (.cons dl1 (.cons Del.here .nil)) ?_)
  rintro ⟨⟨m10, Q11, z12⟩, hk17⟩
  obtain ⟨m18, t14, e, H1, hi15, hb16⟩ := itr.of (n := m10) (s := Q11) hk17
  subst e; unfold p_impl_Store_rows_b0 at H1
  show Tr _ _ _ _ _ [(1, .int .i64 (v1)), (2, .pointer (some ⟨g4, 0, none⟩)), (5, .slice z12.1 Q11.1.length z12.2), (14, .slice x_v0.2.1.1 v0.2.1.length x_v0.2.1.2), (15, .int .i64 ((v0.2.1.length : Int))), (16, .int .i64 (Q11.2))] _ [box g4 39 [.slice x_v0.1.1.1 v0.1.1.length x_v0.1.1.2, .slice x_v0.1.2.1 v0.1.2.length x_v0.1.2.2, .slice x_v0.2.1.1 v0.2.1.length x_v0.2.1.2, .slice x_v0.2.2.1 v0.2.2.length x_v0.2.2.2], tree (.slice z12.1 Q11.1.length z12.2) Q11.1]
  refine Tr.seq (Tr.region (Rg.p (p_lss rfl rfl) (Rg.nl (nT (?_)))))
  refine Tr.seq (Tr.cond (b := decide (Q11.2 < (v0.2.1.length : Int))) rfl (fun h19 => ?_) (fun h19 => ?_))
  ·have H1 := cdT h19 H1
   refine tSkip (nT (?_))
   refine Tr.seq (Tr.block (Tr.seq (Tr.region ?_)))
   obtain ⟨h20, H1⟩ := gd.of H1
   refine Rg.o (q_ixg Tryz.underlying36 ty72 rfl rfl h20 rfl (Ent.b (Ent.darr Ent.z))) (Rg.o (v := .agg #[.slice (((X3 Q11.2.toNat).1).1) (((nth v0.2.1 Q11.2.toNat).1).length) (((X3 Q11.2.toNat).1).2.1), .slice (((X3 Q11.2.toNat).2).1) (((nth v0.2.1 Q11.2.toNat).2).length) (((X3 Q11.2.toNat).2).2.1)]) (q_ldeA (i := Q11.2.toNat) ty72 rfl (Ent.b (Ent.darr Ent.z)) h20.lt) (Rg.ef (e_alloc ty72) rfl ?_))
   rintro _ _ _ ⟨g21, rfl, rfl, rfl⟩
   refine Rg.en (e_store (cs' := [.slice (((X3 Q11.2.toNat).1).1) (((nth v0.2.1 Q11.2.toNat).1).length) (((X3 Q11.2.toNat).1).2.1), .slice (((X3 Q11.2.toNat).2).1) (((nth v0.2.1 Q11.2.toNat).2).length) (((X3 Q11.2.toNat).2).2.1)]) ty72 rfl rfl Upd.here rfl (one_of rfl) (Nat.le_of_ble_eq_true rfl) rfl) rfl ?_
   rintro _ _ _ ⟨rfl, rfl, rfl⟩
   refine Rg.nl (nT (?_))
   refine Tr.seq (Tr.region (Rg.o (q_ldbA ty72 rfl Has.here rfl) (Rg.m rfl ?_)))
   obtain ⟨r22, h23, H1⟩ := bd.of H1
   refine Rg.ef (e_callB (c_impl_PartOf (nth v0.2.1 Q11.2.toNat) ((((X3 Q11.2.toNat).1).1, ((X3 Q11.2.toNat).1).2.1), (((X3 Q11.2.toNat).2).1, ((X3 Q11.2.toNat).2).2.1)) v1 h23) (fun _ => (Solo.tree Solo.nil)) rfl (EntsB.cons (Ent.b (Ent.dimm (Ent.dfst (Ent.del Ent.z h20.lt)))) (EntsB.cons (Ent.b (Ent.dimm (Ent.dsnd (Ent.del Ent.z h20.lt)))) EntsB.nil))) rfl ?_
   rintro _ _ _ ⟨x24, rfl, rfl, rfl⟩
   refine Rg.p (p_len 58 Tryz.underlying43 rfl) (Rg.m (v := .int .i64 (0)) rfl (Rg.nl (nT (?_))))
   obtain ⟨x25, hx26, H1⟩ := bd.of H1
   obtain ⟨n27, hx26⟩ := lp.of hx26
   refine tMidNC (ι := Option Addr × Nat) (fun ψ => [(1, .int .i64 (v1)), (2, .pointer (some ⟨g4, 0, none⟩)), (5, .slice ψ.1 x25.length ψ.2), (14, .slice x_v0.2.1.1 v0.2.1.length x_v0.2.1.2), (15, .int .i64 ((v0.2.1.length : Int))), (16, .int .i64 (Q11.2))]) (fun ψ => [box g4 39 [.slice x_v0.1.1.1 v0.1.1.length x_v0.1.1.2, .slice x_v0.1.2.1 v0.1.2.length x_v0.1.2.2, .slice x_v0.2.1.1 v0.2.1.length x_v0.2.1.2, .slice x_v0.2.2.1 v0.2.2.length x_v0.2.2.2], tree (.slice ψ.1 x25.length ψ.2) x25]) ?_ ?_
   ·refine Tr.block (tLoopC (ι := { q : Nat × ((List Row) × Int) × (Option Addr × Nat) // itr (p_impl_Store_rows_b1 r22) q.1 q.2.1 = some x25 }) (fun ζ => [(1, .int .i64 (v1)), (2, .pointer (some ⟨g4, 0, none⟩)), (5, .slice ζ.1.2.2.1 ζ.1.2.1.1.length ζ.1.2.2.2), (14, .slice x_v0.2.1.1 v0.2.1.length x_v0.2.1.2), (15, .int .i64 ((v0.2.1.length : Int))), (16, .int .i64 (Q11.2)), (22, .slice x24.1 r22.length x24.2), (23, .int .i64 ((r22.length : Int))), (24, .int .i64 (ζ.1.2.1.2))]) (fun ζ => [box g4 39 [.slice x_v0.1.1.1 v0.1.1.length x_v0.1.1.2, .slice x_v0.1.2.1 v0.1.2.length x_v0.1.2.2, .slice x_v0.2.1.1 v0.2.1.length x_v0.2.1.2, .slice x_v0.2.2.1 v0.2.2.length x_v0.2.2.2], tree (.slice ζ.1.2.2.1 ζ.1.2.1.1.length ζ.1.2.2.2) ζ.1.2.1.1, tree (.slice x24.1 r22.length x24.2) r22]) (fun ζ => ζ.1.1) ⟨(n27, (Q11.1, 0), (z12.1, z12.2)), hx26⟩ ⟨rfl, rfl, rfl, rfl, rfl, rfl, rfl, rfl, rfl, trivial⟩ (.cons dl2 (.cons dl2 (.cons Del.here .nil))) ?_)
    rintro ⟨⟨m28, Q29, z30⟩, hk35⟩
    obtain ⟨m36, t32, e, H2, hi33, hb34⟩ := itr.of (n := m28) (s := Q29) hk35
    subst e; unfold p_impl_Store_rows_b1 at H2
    show Tr _ _ _ _ _ [(1, .int .i64 (v1)), (2, .pointer (some ⟨g4, 0, none⟩)), (5, .slice z30.1 Q29.1.length z30.2), (14, .slice x_v0.2.1.1 v0.2.1.length x_v0.2.1.2), (15, .int .i64 ((v0.2.1.length : Int))), (16, .int .i64 (Q11.2)), (22, .slice x24.1 r22.length x24.2), (23, .int .i64 ((r22.length : Int))), (24, .int .i64 (Q29.2))] _ [box g4 39 [.slice x_v0.1.1.1 v0.1.1.length x_v0.1.1.2, .slice x_v0.1.2.1 v0.1.2.length x_v0.1.2.2, .slice x_v0.2.1.1 v0.2.1.length x_v0.2.1.2, .slice x_v0.2.2.1 v0.2.2.length x_v0.2.2.2], tree (.slice z30.1 Q29.1.length z30.2) Q29.1, tree (.slice x24.1 r22.length x24.2) r22]
    refine Tr.seq (Tr.region (Rg.p (p_lss rfl rfl) (Rg.nl (nT (?_)))))
    refine Tr.seq (Tr.cond (b := decide (Q29.2 < (r22.length : Int))) rfl (fun h37 => ?_) (fun h37 => ?_))
    ·have H2 := cdT h37 H2
     refine tSkip (nT (?_))
     refine Tr.seq (Tr.block (Tr.seq (Tr.region ?_)))
     obtain ⟨h38, H2⟩ := gd.of H2
     refine Rg.o (q_ixO' Tryz.underlying43 ty58 rfl rfl h38 hs2) (Rg.o (v := .agg #[.int .i64 ((nth r22 Q29.2.toNat).1), .int .i64 ((nth r22 Q29.2.toNat).2)]) (q_ldeA (i := Q29.2.toNat) ty58 rfl (EntB.flat (EntB.tree hs2)) h38.lt) (Rg.ef (e_alloc ty58) rfl ?_))
     rintro _ _ _ ⟨g39, rfl, rfl, rfl⟩
     refine Rg.en (e_store (cs' := [.int .i64 ((nth r22 Q29.2.toNat).1), .int .i64 ((nth r22 Q29.2.toNat).2)]) ty58 rfl rfl Upd.here rfl (one_of rfl) (Nat.le_of_ble_eq_true rfl) rfl) rfl ?_
     rintro _ _ _ ⟨rfl, rfl, rfl⟩
     refine Rg.nl (nT (?_))
     refine Tr.region (Rg.m rfl (Rg.o (q_ldbA ty58 rfl Has.here rfl) ?_))
     obtain ⟨r40, h41, H2⟩ := bd.of H2
     refine Rg.ef (e_callB (c_impl_put Q29.1 z30 (nth r22 Q29.2.toNat) h41) (fun _ => (Solo.tree Solo.nil)) rfl (EntsB.cons (EntB.tree hs2) EntsB.nil)) rfl ?_
     rintro _ _ _ ⟨x42, rfl, rfl, rfl⟩
     refine Rg.a rfl (Rg.nl (nB (nT (?_))))
     refine Tr.region ?_
     obtain ⟨h43, H2⟩ := gd.of H2
     refine Rg.p (p_add rfl rfl h43) (Rg.m rfl (Rg.nl ?_))
     exact nLC ⟨(m36, (r40, Q29.2 + 1), (x42.1, x42.2)), hi33 _ (Option.some.inj H2).symm⟩ (Nat.lt_succ_self _) ⟨rfl, rfl, rfl, rfl, rfl, rfl, rfl, rfl, rfl, trivial⟩ Ents.refl (.cons dl2 (.cons Del.here (.cons dl2 .nil)))
    ·have H2 := cdF h37 H2
     refine tExit (xT (xT (xE (?_))))
     have hx := hb34 _ (Option.some.inj H2).symm; subst hx
     exact nMC (z30.1, z30.2) ⟨rfl, rfl, rfl, rfl, rfl, rfl, trivial⟩ Ents.refl (.cons Del.here (.cons Del.here .nil))
   ·intro y31
    show At _ _ [(1, .int .i64 (v1)), (2, .pointer (some ⟨g4, 0, none⟩)), (5, .slice y31.1 x25.length y31.2), (14, .slice x_v0.2.1.1 v0.2.1.length x_v0.2.1.2), (15, .int .i64 ((v0.2.1.length : Int))), (16, .int .i64 (Q11.2))] _ [box g4 39 [.slice x_v0.1.1.1 v0.1.1.length x_v0.1.1.2, .slice x_v0.1.2.1 v0.1.2.length x_v0.1.2.2, .slice x_v0.2.1.1 v0.2.1.length x_v0.2.1.2, .slice x_v0.2.2.1 v0.2.2.length x_v0.2.2.2], tree (.slice y31.1 x25.length y31.2) x25] _
    refine nB (nT (?_))
    refine Tr.region ?_
    obtain ⟨h44, H1⟩ := gd.of H1
    refine Rg.p (p_add rfl rfl h44) (Rg.m rfl (Rg.nl ?_))
    exact nLC ⟨(m18, (x25, Q11.2 + 1), (y31.1, y31.2)), hi15 _ (Option.some.inj H1).symm⟩ (Nat.lt_succ_self _) ⟨rfl, rfl, rfl, rfl, rfl, rfl, trivial⟩ Ents.refl (.cons Del.here (.cons Del.here .nil))
  ·have H1 := cdF h19 H1
   refine tExit (xT (xT (xE (?_))))
   have hx := hb16 _ (Option.some.inj H1).symm; subst hx
   exact nMC (z12.1, z12.2) ⟨rfl, rfl, rfl, trivial⟩ Ents.refl (.cons Del.here (.cons Del.here .nil))
 ·intro y13
  show At _ _ [(1, .int .i64 (v1)), (2, .pointer (some ⟨g4, 0, none⟩)), (5, .slice y13.1 x7.length y13.2)] _ [box g4 39 [.slice x_v0.1.1.1 v0.1.1.length x_v0.1.1.2, .slice x_v0.1.2.1 v0.1.2.length x_v0.1.2.2, .slice x_v0.2.1.1 v0.2.1.length x_v0.2.1.2, .slice x_v0.2.2.1 v0.2.2.length x_v0.2.2.2], tree (.slice y13.1 x7.length y13.2) x7] _
  refine nT (?_)
  refine Tr.seq (Tr.seq (Tr.region (Rg.p (p_fabE fa39_2 rfl rfl) (Rg.o (q_ldb ty37 rfl Has.here rfl) (Rg.p (p_len 75 Tryz.underlying37 rfl) ?_)))))
  refine Rg.m (v := .int .i64 (0)) rfl (Rg.nl (nT (?_)))
  obtain ⟨x45, hx46, H⟩ := bd.of H
  obtain ⟨n47, hx46⟩ := lp.of hx46
  refine tMidNC (ι := Option Addr × Nat) (fun ψ => [(5, .slice ψ.1 x45.length ψ.2)]) (fun ψ => [tree (.slice ψ.1 x45.length ψ.2) x45]) ?_ ?_
  ·refine Tr.block (tLoopC (ι := { q : Nat × ((List Row) × Int) × (Option Addr × Nat) // itr (p_impl_Store_rows_b2 v0 v1) q.1 q.2.1 = some x45 }) (fun ζ => [(1, .int .i64 (v1)), (5, .slice ζ.1.2.2.1 ζ.1.2.1.1.length ζ.1.2.2.2), (34, .slice x_v0.2.2.1 v0.2.2.length x_v0.2.2.2), (35, .int .i64 ((v0.2.2.length : Int))), (36, .int .i64 (ζ.1.2.1.2))]) (fun ζ => [tree (.slice ζ.1.2.2.1 ζ.1.2.1.1.length ζ.1.2.2.2) ζ.1.2.1.1]) (fun ζ => ζ.1.1) ⟨(n47, (x7, 0), (y13.1, y13.2)), hx46⟩ ⟨rfl, rfl, rfl, rfl, rfl, trivial⟩ (.cons dl1 .nil) ?_)
   rintro ⟨⟨m48, Q49, z50⟩, hk55⟩
   obtain ⟨m56, t52, e, H1, hi53, hb54⟩ := itr.of (n := m48) (s := Q49) hk55
   subst e; unfold p_impl_Store_rows_b2 at H1
   show Tr _ _ _ _ _ [(1, .int .i64 (v1)), (5, .slice z50.1 Q49.1.length z50.2), (34, .slice x_v0.2.2.1 v0.2.2.length x_v0.2.2.2), (35, .int .i64 ((v0.2.2.length : Int))), (36, .int .i64 (Q49.2))] _ [tree (.slice z50.1 Q49.1.length z50.2) Q49.1]
   refine Tr.seq (Tr.region (Rg.p (p_lss rfl rfl) (Rg.nl (nT (?_)))))
   refine Tr.seq (Tr.cond (b := decide (Q49.2 < (v0.2.2.length : Int))) rfl (fun h57 => ?_) (fun h57 => ?_))
   ·have H1 := cdT h57 H1
    refine tSkip (nT (?_))
    refine Tr.seq (Tr.block (Tr.seq (Tr.region ?_)))
    obtain ⟨h58, H1⟩ := gd.of H1
    refine Rg.o (q_ixg Tryz.underlying37 ty75 rfl rfl h58 rfl (EntB.flat (Ent.b Ent.z.s.s.s.s.s.s))) (Rg.o (v := .agg #[.int .i64 ((nth v0.2.2 Q49.2.toNat).1), .int .i64 (((nth v0.2.2 Q49.2.toNat).2).1), .int .i64 (((nth v0.2.2 Q49.2.toNat).2).2)]) (q_ldeA (i := Q49.2.toNat) ty75 rfl (EntB.flat (Ent.b Ent.z.s.s.s.s.s.s)) h58.lt) (Rg.ef (e_alloc ty75) rfl ?_))
    rintro _ _ _ ⟨g59, rfl, rfl, rfl⟩
    refine Rg.en (e_store (cs' := [.int .i64 ((nth v0.2.2 Q49.2.toNat).1), .int .i64 (((nth v0.2.2 Q49.2.toNat).2).1), .int .i64 (((nth v0.2.2 Q49.2.toNat).2).2)]) ty75 rfl rfl Upd.here rfl (one_of rfl) (Nat.le_of_ble_eq_true rfl) rfl) rfl ?_
    rintro _ _ _ ⟨rfl, rfl, rfl⟩
    refine Rg.nl (nT (?_))
    refine Tr.seq (Tr.region (Rg.p (p_fabE fa75_0 rfl rfl) (Rg.o (q_ldb ty3 rfl Has.here rfl) (Rg.m rfl (Rg.p (p_eql rfl rfl) ?_)))))
    refine Rg.nl (nT (?_))
    refine Tr.cond (b := decide (((nth v0.2.2 Q49.2.toNat).1) = v1)) rfl (fun h60 => ?_) (fun h60 => ?_)
    ·have H1 := cdT h60 H1
     refine Tr.region (Rg.m rfl (Rg.p (p_fabE fa75_1 rfl rfl) (Rg.o (v := .agg #[.int .i64 (((nth v0.2.2 Q49.2.toNat).2).1), .int .i64 (((nth v0.2.2 Q49.2.toNat).2).2)]) (q_ldbP [.int .i64 (((nth v0.2.2 Q49.2.toNat).2).1), .int .i64 (((nth v0.2.2 Q49.2.toNat).2).2)] ty58 rfl Has.here rfl rfl) ?_)))
     obtain ⟨r61, h62, H1⟩ := bd.of H1
     refine Rg.ef (e_callB (c_impl_put Q49.1 z50 ((nth v0.2.2 Q49.2.toNat).2) h62) (fun _ => (Solo.tree Solo.nil)) rfl (EntsB.cons (EntB.tree hs1) EntsB.nil)) rfl ?_
     rintro _ _ _ ⟨x63, rfl, rfl, rfl⟩
     refine Rg.a rfl (Rg.nl (nB (nT (?_))))
     refine Tr.region ?_
     obtain ⟨h64, H1⟩ := gd.of H1
     refine Rg.p (p_add rfl rfl h64) (Rg.m rfl (Rg.nl ?_))
     exact nLC ⟨(m56, (r61, Q49.2 + 1), (x63.1, x63.2)), hi53 _ (Option.some.inj H1).symm⟩ (Nat.lt_succ_self _) ⟨rfl, rfl, rfl, rfl, rfl, trivial⟩ Ents.refl (.cons Del.here .nil)
    ·have H1 := cdF h60 H1
     refine tSkip (nB (nT (?_)))
     refine Tr.region ?_
     obtain ⟨h65, H1⟩ := gd.of H1
     refine Rg.p (p_add rfl rfl h65) (Rg.m rfl (Rg.nl ?_))
     exact nLC ⟨(m56, (Q49.1, Q49.2 + 1), (z50.1, z50.2)), hi53 _ (Option.some.inj H1).symm⟩ (Nat.lt_succ_self _) ⟨rfl, rfl, rfl, rfl, rfl, trivial⟩ Ents.refl (.cons dl1 .nil)
   ·have H1 := cdF h57 H1
    refine tExit (xT (xT (xE (?_))))
    have hx := hb54 _ (Option.some.inj H1).symm; subst hx
    exact nMC (z50.1, z50.2) ⟨rfl, trivial⟩ Ents.refl (.cons Del.here .nil)
  ·intro y51
   show At _ _ [(5, .slice y51.1 x45.length y51.2)] _ [tree (.slice y51.1 x45.length y51.2) x45] _
   refine nT (?_)
   refine Tr.seq (Tr.region (Rg.m rfl (Rg.a rfl (Rg.nl (nT (?_))))))
   refine tRet ?_
   obtain rfl := si H
   exact back1 y51 rfl (ResV.tmp (v := .slice y51.1 x45.length y51.2) rfl) rfl Ents.nil (.cons Del.here .nil)
noncomputable def p_impl_StoreOk_b0 (v0 : Store) (Q16 : Int) : Option ((Int) ⊕ (Unit ⊕ Bool)) := cond (decide (Q16 < (v0.2.1.length : Int))) (gd (ix Q16 v0.2.1.length) <| bd (bd (p_impl_PartOk (nth v0.2.1 Q16.toNat)) fun r29 => cond (!r29) (some (true)) (cond (decide ((((nth v0.2.1 Q16.toNat).1).length : Int) = 0)) (some (true)) (bd (p_slices_Max_int_int ((nth v0.2.1 Q16.toNat).1)) fun r33 => some (decide ((v0.1.1.length : Int) < r33))))) fun b27 => cond (b27) (some (.inr (.inr false))) (gd (I64 (Q16 + 1)) <| some (.inl (Q16 + 1)))) (some (.inr (.inl ())))
noncomputable def p_impl_StoreOk_b1 (v0 : Store) (Q42 : Int) : Option ((Int) ⊕ (Unit ⊕ Bool)) := cond (decide (Q42 < (v0.2.2.length : Int))) (gd (ix Q42 v0.2.2.length) <| bd (bd (p_impl_within ((nth v0.2.2 Q42.toNat).1) 1 (v0.1.1.length : Int)) fun r55 => cond (!r55) (some (true)) (bd (p_impl_rowOk ((nth v0.2.2 Q42.toNat).2)) fun r58 => some (!r58))) fun b53 => cond (b53) (some (.inr (.inr false))) (gd (I64 (Q42 + 1)) <| some (.inl (Q42 + 1)))) (some (.inr (.inl ())))
noncomputable def p_impl_StoreOk_b2 (v0 : Store) (Q67 : Int) : Option ((Int) ⊕ (Unit ⊕ Bool)) := cond (decide (Q67 ≤ (v0.1.1.length : Int))) (bd (p_impl_Store_rows v0 Q67) fun r76 => cond (decide (24 < (r76.length : Int))) (some (.inr (.inr false))) (gd (I64 (Q67 + 1)) <| some (.inl (Q67 + 1)))) (some (.inr (.inl ())))
noncomputable def p_impl_StoreOk (v0 : Store) : Option (Bool) := bd (bd (p_impl_IndexOk v0.1) fun r7 => cond (!r7) (some (true)) (cond (decide (6 < (v0.2.1.length : Int))) (some (true)) (some (decide (20 < (v0.2.2.length : Int)))))) fun b5 => cond (b5) (some false) (bd (lp (p_impl_StoreOk_b0 v0) 0) <| sw (fun _ => bd (lp (p_impl_StoreOk_b1 v0) 0) <| sw (fun _ => bd (lp (p_impl_StoreOk_b2 v0) 1) <| sw (fun _ => some true) (fun q => some q)) (fun q => some q)) (fun q => some q))
end Go.Proofs.YtjaibcpidajdcaaGreat
