/- The walks and the plain laws, part 1: each function that the law reaches computes what its plain function tells, and what the plain functions answer. Conditions: lengths that memory can hold. -/
import Derived.Test.YtchccgdjelhenaaDoorSxB
import Derived.Test.YtchccgdjelhenaaDoorProg
namespace Go.Proofs.YtchccgdjelhenaaDoor
open Go Go.Sx Tryd
abbrev aA := @Del.here
abbrev aB := @Has.here
abbrev aC := @EntsB.cons
abbrev aD := @Tr.seq
abbrev aE := @p_move
abbrev aF := @Rg.m
abbrev aG := @Rg.p
abbrev aH := @Rg.a
abbrev aI := @Rg.o
abbrev aJ := @Rg.nl
abbrev aK := @Bool.eq_false_or_eq_true
abbrev aL := @Ent.b
abbrev aM := @EntB.flat
abbrev aN := @EntsB.nil
abbrev aO := @Tr.region
abbrev aP := @Tr.block
abbrev aQ := @Ent.z
abbrev aR := @Lin.p
abbrev aS := @Lin.h
abbrev aT := @Lin.o
abbrev aU := @Lin.i
abbrev aV := @Lin.m
abbrev aW := @Lin.e_
abbrev aX := @Lin.sk
abbrev aY := @Solo.tree
abbrev aZ := @Solo.nil
abbrev bA := @tSkip
abbrev bB := @q_ldb
abbrev bD := @Take.nil
abbrev bE := @EntB.tree
abbrev bF := @q_call
abbrev bG := @p_pickF
abbrev bH := @p_pickT
abbrev bI := @tRet
abbrev bJ := @p_add
abbrev bK := @p_len
abbrev bL := @Ents.refl
abbrev bM := @q_ixg
abbrev bN := @q_faeE
abbrev bO := @q_lde
abbrev bP := @p_fabE
abbrev bQ := @e_callM
abbrev bR := @Ents.nil
abbrev bS := @p_lss
abbrev bT := @p_eql
abbrev bU := @ShpT.wfa
abbrev bV := @Upd.here
abbrev bW := @p_extract
abbrev bX := @tExit
abbrev bY := @tMid1
abbrev bZ := @tLoopI
abbrev cA := @tLinT
abbrev cB := @List.nodup_nil
abbrev cC := @underlying28
abbrev cD := @underlying3
abbrev cE := @underlying33
abbrev cF := @underlying47
abbrev cG := @underlying5
abbrev cI := @underlying9
theorem mixed : prog.follows .mixedOrders = true := by kernel_rfl
abbrev Tag := ByteArray × ByteArray
abbrev Cond := Tag × Bool
abbrev L6Rd := (List UInt8) × Int
instance : DecidableEq Tag := inferInstanceAs (DecidableEq (ByteArray × ByteArray))
instance : DecidableEq Cond := inferInstanceAs (DecidableEq (Tag × Bool))
instance : DecidableEq L6Rd := inferInstanceAs (DecidableEq ((List UInt8) × Int))
theorem ty3 : TyI prog 3 false 1 (.int .i64 0) 8 := ⟨by kernel_rfl, by kernel_rfl, rfl⟩
theorem ty4 : TyI prog 4 false 1 (.bool false) 1 := ⟨by kernel_rfl, by kernel_rfl, rfl⟩
theorem ty5 : TyI prog 5 false 1 (.int .u8 0) 1 := ⟨by kernel_rfl, by kernel_rfl, rfl⟩
theorem ty9 : TyI prog 9 false 1 (.string ⟨#[]⟩) 16 := ⟨by kernel_rfl, by kernel_rfl, rfl⟩
theorem ty33 : TyI prog 33 false 1 (.slice none 0 0) 24 := ⟨by kernel_rfl, by kernel_rfl, rfl⟩
theorem ty44 : TyI prog 44 true 2 (.agg #[.string ⟨#[]⟩, .string ⟨#[]⟩]) 32 := ⟨by kernel_rfl, by kernel_rfl, rfl⟩
theorem fa44_0 : FA prog 44 0 0 := ⟨_, underlying44, _, rfl, rfl, by obtain ⟨i, hi, _, hn, _⟩ := ty9.info'; exact ⟨i, hi, by rw [hn]; decide⟩⟩
theorem fa44_1 : FA prog 44 1 1 := ⟨_, underlying44, _, rfl, rfl, by obtain ⟨i, hi, _, hn, _⟩ := ty9.info'; exact ⟨i, hi, by rw [hn]; decide⟩⟩
theorem ty46 : TyI prog 46 true 3 (.agg #[.string ⟨#[]⟩, .string ⟨#[]⟩, .bool false]) 40 := ⟨by kernel_rfl, by kernel_rfl, rfl⟩
theorem fa46_0 : FA prog 46 0 0 := ⟨_, underlying46, _, rfl, rfl, by obtain ⟨i, hi, _, hn, _⟩ := ty44.info'; exact ⟨i, hi, by rw [hn]; decide⟩⟩
theorem fa46_1 : FA prog 46 1 2 := ⟨_, underlying46, _, rfl, rfl, by obtain ⟨i, hi, _, hn, _⟩ := ty4.info'; exact ⟨i, hi, by rw [hn]; decide⟩⟩
theorem ty72 : TyI prog 72 true 2 (.agg #[.slice none 0 0, .int .i64 0]) 32 := ⟨by kernel_rfl, by kernel_rfl, rfl⟩
theorem fa72_0 : FA prog 72 0 0 := ⟨_, underlying72, _, rfl, rfl, by obtain ⟨i, hi, _, hn, _⟩ := ty33.info'; exact ⟨i, hi, by rw [hn]; decide⟩⟩
theorem fa72_1 : FA prog 72 1 1 := ⟨_, underlying72, _, rfl, rfl, by obtain ⟨i, hi, _, hn, _⟩ := ty3.info'; exact ⟨i, hi, by rw [hn]; decide⟩⟩
theorem pl44 : PL prog 44 #[(0, 1), (1, 1)] := ⟨_, underlying44, fun w => by simp [ty9.sizeOf w]⟩
theorem pl46 : PL prog 46 #[(0, 2), (2, 1)] := ⟨_, underlying46, fun w => by simp [ty44.sizeOf w]⟩
theorem pl72 : PL prog 72 #[(0, 1), (1, 1)] := ⟨_, underlying72, fun w => by simp [ty33.sizeOf w]⟩
theorem ae46 : AEq prog 46 Cond := ⟨by kernel_rfl, fun d a b w => by
 rw [run_equalIn_agg w (d + 2) 46 _ _ (by kernel_rfl) (by kernel_rfl)]
 simp only [Program.fieldsOf, underlying46, Flat.enc, List.cons_append, List.nil_append]
 simp [Op.eqFields, part, Program.fieldsOf, underlying44, ty4.isAgg, ty4.sizeOf, ty44.isAgg, ty44.sizeOf, ty9.isAgg, ty9.sizeOf, run_equalIn_agg (P := prog) w (d + 1) 44 _ _ (by kernel_rfl) (by kernel_rfl), run_equalIn_bool' w (d + 1) 4 _ _ underlying4, run_equalIn_string w d 9 _ _ underlying9, seq_dec]
 by_cases h0 : a.1.1 = b.1.1 <;> by_cases h1 : a.1.2 = b.1.2 <;> by_cases h2 : a.2 = b.2 <;> simp [h0, h1, h2, Prod.ext_iff]⟩
noncomputable def p_spec_l3Cut_b0 (v0 : ByteArray) (v1 : UInt8) (Q7 : (List ByteArray) × Int) : Option (((List ByteArray) × Int) ⊕ ((List ByteArray))) := cond (decide (Q7.2 < (v0.size : Int))) (gd (ix Q7.2 v0.size) <| cond (decide (((sb v0 Q7.2.toNat).toNat : Int) = (v1.toNat : Int))) (gd (room (Q7.1.length + 1)) <| gd (I64 (Q7.2 + 1)) <| some (.inl ((Q7.1 ++ [(⟨#[]⟩ : ByteArray)]), Q7.2 + 1))) (gd (I64 ((Q7.1.length : Int) - 1)) <| gd (ix ((Q7.1.length : Int) - 1) Q7.1.length) <| gd (room ((nth Q7.1 (((Q7.1.length : Int) - 1).toNat)).size + (s2 [sb v0 Q7.2.toNat]).size)) <| gd (I64 (Q7.2 + 1)) <| some (.inl ((Q7.1.set (((Q7.1.length : Int) - 1).toNat) ((nth Q7.1 (((Q7.1.length : Int) - 1).toNat)) ++ (s2 [sb v0 Q7.2.toNat]))), Q7.2 + 1)))) (some (.inr Q7.1))
noncomputable def p_spec_l3Cut (v0 : ByteArray) (v1 : UInt8) : Option ((List ByteArray)) := bd (lp (p_spec_l3Cut_b0 v0 v1) (([(⟨#[]⟩ : ByteArray)] : List ByteArray), 0)) fun x3 => some x3
theorem c_spec_l3Cut {r : (List ByteArray)} (v0 : ByteArray) (v1 : UInt8) (H : p_spec_l3Cut v0 v1 = some r) : Fn' prog 35 #[.string (v0), .int .u8 (v1.toNat : Int)] [] [] (ι := Option Addr × Nat) (fun x => .slice x.1 r.length x.2) (fun _ => []) (fun x => [tree (.slice x.1 r.length x.2) r]) := by
 refine cof (args := [_, _]) func35 ntmps35 fun c => ?_
 unfold p_spec_l3Cut at H
 refine sr (aH (v := .slice none 0 0) rfl (nl (sr (f2 (e_litT (α := ByteArray) (vs := [(0, .string ((⟨#[]⟩ : ByteArray)))]) [(⟨#[]⟩ : ByteArray)] rfl (fun _ => rfl) (fun _ _ => by repeat constructor) cF ty9 rfl (by decide) (by decide) (by kernel_rfl)) fun a1 c2 => (aH rfl (nl (aD (sr (aH (v := .int .i64 (0)) rfl (nl (bdo H fun x3 hx4 H => (tMidNC (ι := Option Addr × Nat) (fun ψ => [(5, .slice ψ.1 x3.length ψ.2)]) (fun ψ => [tree (.slice ψ.1 x3.length ψ.2) x3]) ?_ ?_))))))))))))
 ·refine aP (bZ hx4 (a1, c2) (fun Q7 z8 => [(0, .string (v0)), (1, .int .u8 (v1.toNat : Int)), (5, .slice z8.1 Q7.1.length z8.2), (6, .int .i64 (Q7.2))]) (fun Q7 z8 => [tree (.slice z8.1 Q7.1.length z8.2) Q7.1]) (.cons aA .nil) ?_)
  rintro _ Q7 z8 t10 H1 hi11 hb12
  unfold p_spec_l3Cut_b0 at H1
  refine aD (sr (aF rfl (aF rfl (aG (p_slen cI rfl) (aG (bS rfl rfl) (nl (cH H1 rfl (fun h15 H1 => ?_) (fun h15 H1 => ?_))))))))
  ·refine bA (nT (aD (aP (sr (aF rfl (aF rfl (gdo H1 fun h16 H1 => (aG (p_six cI rfl rfl h16) (aF rfl (aG (bT rfl rfl) (nl ?_)))))))))))
   refine cH H1 rfl (fun h17 H1 => ?_) (fun h17 H1 => ?_)
   ·refine aO (aF rfl (f1 (e_lit (vs := [(0, .string ((⟨#[]⟩ : ByteArray)))]) [.string ((⟨#[]⟩ : ByteArray))] cF ty9 rfl (by decide) (by decide) (by kernel_rfl)) fun g18 => (gdo H1 fun h21 H1 => (f2 (e_app1 (l := Q7.1) (α := ByteArray) (⟨#[]⟩ : ByteArray) () cF ty9 rfl rfl (h21.b (by decide)) h21.x rfl (bU _) (.cons dl1 (.cons aA .nil))) fun a19 c20 => (aH rfl (aJ (nB (nT (aO (aF rfl (gdo H1 fun h22 H1 => ?_)))))))))))
    exact aG (bJ rfl rfl h22) (aH rfl (aJ (nLI (a19, c20) (hi11 _ (sm H1)) (.cons aA .nil))))
   ·refine tNwS [(0, .string (v0)), (1, .int .u8 (v1.toNat : Int)), (5, .slice z8.1 Q7.1.length z8.2), (6, .int .i64 (Q7.2))] 2 [0, 1, 2, 3, 4, 5, 6, 7, 8, 9, 10, 11, 12, 13, 14, 15, 16, 17] [13, 17] [] mixed (by kernel_rfl) (by decide) cB ⟨rfl, rfl, rfl, rfl, trivial⟩ rfl okNil (w_p rfl (aE rfl) (w_p rfl (aE rfl) (w_p rfl (bK 9 cF rfl) (gdo H1 fun h23 H1 => (w_p rfl (p_sub rfl rfl h23) (w_p rfl (aE rfl) (w_p rfl (aE rfl) (w_p rfl (bK 9 cF rfl) (w_p rfl (p_sub rfl rfl h23) ?_)))))))))
    refine gdo H1 fun h24 H1 => ?_
    refine w_o rfl (fun F => (q_ixO' cF ty9 rfl rfl h24 (aB.app F))) ?_
    refine w_o rfl (fun F => (bO (i := ((Q7.1.length : Int) - 1).toNat) (j := 0) ty9 rfl (aM (bE (aB.app F))) h24.lt rfl)) (w_p rfl (aE rfl) (w_p rfl (aE rfl) (w_p rfl (p_six cI rfl rfl h16) (w_ed rfl (by decide) rfl Rdy.nil rfl (n_lit (vs := [(0, .int .u8 ((sb v0 Q7.2.toNat).toNat : Int))]) [.int .u8 ((sb v0 Q7.2.toNat).toNat : Int)] cE ty5 rfl (by decide) (by decide) (by kernel_rfl)) ?_))))
    rintro _ _ _ ⟨g25, rfl, rfl, rfl⟩
    refine ⟨(PdOk.q rfl rfl (fun F => (bO (i := ((Q7.1.length : Int) - 1).toNat) (j := 0) ty9 rfl (aM (bE (hs1.app F))) h24.lt rfl)) (PdOk.q rfl rfl (fun F => (q_ixO' cF ty9 rfl rfl h24 (hs1.app F))) PdOk.nil)), ?_⟩
    refine w_o (v := .string (s2 [sb v0 Q7.2.toNat])) rfl (fun F => (q_b2sL [sb v0 Q7.2.toNat] cE cG cI rfl (aB.app F) rfl)) (gdo H1 fun h26 H1 => (w_p rfl (p_cat rfl rfl h26) ?_))
    refine w_o rfl (fun F => (q_ixO' cF ty9 rfl rfl h24 (hs1.app F))) (w_en rfl rfl Rdy.nil rfl (n_setT (l := Q7.1) (α := ByteArray) (oa := z8.1) (((Q7.1.length : Int) - 1).toNat) ((nth Q7.1 (((Q7.1.length : Int) - 1).toNat)) ++ (s2 [sb v0 Q7.2.toNat])) () ty9 rfl rfl rfl h24.lt (bU _) (.cons dl1 .nil)) ?_)
    rintro _ _ _ ⟨rfl, rfl, rfl⟩
    refine ⟨(PdOk.anc (by kernel_rfl) (PdOk.anc (by kernel_rfl) (PdOk.anc (by kernel_rfl) (PdOk.anc (by kernel_rfl) PdOk.nil)))), ?_⟩
    refine w_nil ?_
    show At _ _ _ _ _ _
    refine nB (nT (?_))
    obtain ⟨lz, hz⟩ : ∃ lz, lz = (Q7.1.set (((Q7.1.length : Int) - 1).toNat) ((nth Q7.1 (((Q7.1.length : Int) - 1).toNat)) ++ (s2 [sb v0 Q7.2.toNat]))) := ⟨_, rfl⟩; rw [← hz]
    refine Tr.olen aB fun hn => ?_; rw [hn]; subst hz
    exact aO (aF rfl (gdo H1 fun h27 H1 => (aG (bJ rfl rfl h27) (aH rfl (aJ (nLI (z8.1, z8.2) (hi11 _ (sm H1)) (.cons aA .nil)))))))
  ·refine bX (xT (xT (xE (?_))))
   obtain rfl := hb12 _ (sm H1)
   exact nMC (z8.1, z8.2) ⟨rfl, trivial⟩ bL (.cons aA .nil)
 ·intro y9
  show At _ _ [(5, .slice y9.1 x3.length y9.2)] _ [tree (.slice y9.1 x3.length y9.2) x3] _
  refine nT (sr (aF rfl (aH rfl (nl (bI ?_)))))
  obtain rfl := si H
  exact back1 y9 rfl (ResV.tmp (v := .slice y9.1 x3.length y9.2) rfl) rfl bR (.cons aA .nil)
noncomputable def p_spec_l6In (v0 : Int) (v1 : Int) (v2 : Int) : Option (Bool) := bd (cond (decide (v1 ≤ v0)) (some (decide (v0 ≤ v2))) (some (false))) fun b1 => some b1
theorem c_spec_l6In {r : Bool} (v0 : Int) (v1 : Int) (v2 : Int) (H : p_spec_l6In v0 v1 v2 = some r) : Fn' prog 52 #[.int .i64 (v0), .int .i64 (v1), .int .i64 (v2)] [] [] (ι := Unit) (fun _ => .bool (r)) (fun _ => []) (fun _ => []) := by
 refine cof (args := [_, _, _]) func52 ntmps52 fun c => ?_
 unfold p_spec_l6In at H
 refine sr (aH (v := .bool (false)) rfl (nl (bdo H fun b1 j2 H => (bY [(6, .bool (b1))] ?_ ?_))))
 ·refine cA [(0, .int .i64 (v0)), (1, .int .i64 (v1)), (2, .int .i64 (v2))] ⟨rfl, rfl, rfl, trivial⟩ (aV rfl (aV rfl (aR (p_geq rfl rfl) ?_)))
  rcases aK (decide (v1 ≤ v0)) with h3 | h3
  ·have j2 := cdT h3 j2
   refine aW (aE rfl) h3 (aS rfl (aE rfl) (aS rfl (aE rfl) (aS rfl (p_leq rfl rfl) (aR (bH rfl rfl) (aR (p_assign rfl) ?_)))))
   obtain rfl := si j2
   show At _ _ _ _ _ _
   exact n1 ⟨rfl, trivial⟩
  ·have j2 := cdF h3 j2
   refine aW (aE rfl) h3 ?_
   iterate 3 refine aX rfl ?_
   refine aR (v := .bool (false)) (bG rfl rfl) (aR (v := .bool (false)) (p_assign rfl) ?_)
   obtain rfl := si j2
   show At _ _ _ _ _ _
   exact n1 ⟨rfl, trivial⟩
 obtain rfl := si H
 exact bI bk
noncomputable def p_spec_l3Tag (v0 : Tag) : Option (Bool) := bd (cond (decide ((v0.1.size : Int) = 1)) (cond (decide ((v0.2.size : Int) = 1)) (gd (ix 0 v0.1.size) <| bd (p_spec_l6In ((sb v0.1 0).toNat : Int) 97 100) fun r7 => cond (r7) (gd (ix 0 v0.2.size) <| bd (p_spec_l6In ((sb v0.2 0).toNat : Int) 112 122) fun r11 => some (r11)) (some (false))) (some (false))) (some (false))) fun b2 => some b2
theorem c_spec_l3Tag {r : Bool} (v0 : Tag) (H : p_spec_l3Tag v0 = some r) : Fn' prog 51 #[.agg #[.string (v0.1), .string (v0.2)]] [] [] (ι := Unit) (fun _ => .bool (r)) (fun _ => []) (fun _ => []) := by
 refine cof (args := [_]) func51 ntmps51 fun c => ?_
 unfold p_spec_l3Tag at H
 refine sr (f1 (e_box (t := 44) rfl) fun g1 => (aH (v := .bool (false)) rfl (nl (bdo H fun b2 j3 H => (bY [(2, .bool (b2))] ?_ ?_)))))
 ·refine cA [(1, .pointer (some ⟨g1, 0, none⟩))] ⟨rfl, trivial⟩ (aR (bP fa44_0 rfl rfl) (aT (bB ty9 rfl aB rfl) (aR (p_slen cI rfl) (aR (bT rfl rfl) ?_))))
  rcases aK (decide ((v0.1.size : Int) = 1)) with h4 | h4
  ·have j3 := cdT h4 j3
   refine aW (aE rfl) h4 (aS rfl (bP fa44_1 rfl rfl) (aU rfl (bB ty9 rfl aB rfl) (aS rfl (p_slen cI rfl) (aS rfl (bT rfl rfl) (aR (bH rfl rfl) ?_)))))
   rcases aK (decide ((v0.2.size : Int) = 1)) with h5 | h5
   ·have j3 := cdT h5 j3
    refine aW (aE rfl) h5 (aS rfl (bP fa44_0 rfl rfl) (aU rfl (bB ty9 rfl aB rfl) (gdo j3 fun h6 j3 => (aS rfl (p_six cI rfl rfl h6) (aS rfl (p_i8 cG cD rfl) (bdo j3 fun r7 h8 j3 => (aU rfl (bF (c_spec_l6In ((sb v0.1 0).toNat : Int) 97 100 h8) rfl aN) (aR (bH rfl rfl) ?_))))))))
    rcases aK (r7) with h9 | h9
    ·have j3 := cdT h9 j3
     refine aW (aE rfl) h9 (aS rfl (bP fa44_1 rfl rfl) (aU rfl (bB ty9 rfl aB rfl) (gdo j3 fun h10 j3 => (aS rfl (p_six cI rfl rfl h10) (aS rfl (p_i8 cG cD rfl) (bdo j3 fun r11 h12 j3 => (aU rfl (bF (c_spec_l6In ((sb v0.2 0).toNat : Int) 112 122 h12) rfl aN) (aR (bH rfl rfl) (aR (p_assign rfl) ?_)))))))))
     obtain rfl := si j3
     show At _ _ _ _ _ _
     exact n1 ⟨rfl, trivial⟩
    ·have j3 := cdF h9 j3
     refine aW (aE rfl) h9 ?_
     iterate 5 refine aX rfl ?_
     refine aR (v := .bool (false)) (bG rfl rfl) (aR (v := .bool (false)) (p_assign rfl) ?_)
     obtain rfl := si j3
     show At _ _ _ _ _ _
     exact n1 ⟨rfl, trivial⟩
   ·have j3 := cdF h5 j3
    refine aW (aE rfl) h5 ?_
    iterate 5 refine aX rfl ?_
    refine aR (v := .bool (false)) (bG rfl rfl) (aV (v := .bool (false)) rfl ?_)
    iterate 5 refine aX rfl ?_
    refine aR (v := .bool (false)) (bG rfl rfl) (aR (v := .bool (false)) (p_assign rfl) ?_)
    obtain rfl := si j3
    show At _ _ _ _ _ _
    exact n1 ⟨rfl, trivial⟩
  ·have j3 := cdF h4 j3
   refine aW (aE rfl) h4 ?_
   iterate 4 refine aX rfl ?_
   refine aR (v := .bool (false)) (bG rfl rfl) (aV (v := .bool (false)) rfl ?_)
   iterate 5 refine aX rfl ?_
   refine aR (v := .bool (false)) (bG rfl rfl) (aV (v := .bool (false)) rfl ?_)
   iterate 5 refine aX rfl ?_
   refine aR (v := .bool (false)) (bG rfl rfl) (aR (v := .bool (false)) (p_assign rfl) ?_)
   obtain rfl := si j3
   show At _ _ _ _ _ _
   exact n1 ⟨rfl, trivial⟩
 obtain rfl := si H
 exact bI bk
noncomputable def p_spec_l3Cond (v0 : ByteArray) : Option (Cond × Bool) := bd (cond (decide ((v0.size : Int) = 4)) (gd (ix 1 v0.size) <| some (decide (((sb v0 1).toNat : Int) = ((33 : UInt8).toNat : Int)))) (some (false))) fun b3 => bd (cond (b3) (gd (sl2 0 1 v0.size) <| gd (sl2 2 (v0.size : Int) v0.size) <| gd (room ((v0.extract 0 1).size + (v0.extract 2 (v0.size : Int).toNat).size)) <| some ((v0.extract 0 1) ++ (v0.extract 2 (v0.size : Int).toNat), true)) (some (v0, false))) fun x8 => bd (cond (!decide ((x8.1.size : Int) = 3)) (some (true)) (gd (ix 1 x8.1.size) <| some (!decide (((sb x8.1 1).toNat : Int) = ((61 : UInt8).toNat : Int))))) fun b14 => cond (b14) (some ((((⟨#[]⟩), (⟨#[]⟩)), x8.2), false)) (gd (sl2 0 1 x8.1.size) <| gd (sl2 2 (x8.1.size : Int) x8.1.size) <| bd (p_spec_l3Tag ((x8.1.extract 0 1), (x8.1.extract 2 (x8.1.size : Int).toNat))) fun r21 => some ((((x8.1.extract 0 1), (x8.1.extract 2 (x8.1.size : Int).toNat)), x8.2), r21))
theorem c_spec_l3Cond {r : Cond × Bool} (v0 : ByteArray) (H : p_spec_l3Cond v0 = some r) : Fn' prog 36 #[.string (v0)] [] [] (ι := Unit) (fun _ => .tuple #[.agg #[.string (r.1.1.1), .string (r.1.1.2), .bool (r.1.2)], .bool (r.2)]) (fun _ => []) (fun _ => []) := by
 refine cof (args := [_]) func36 ntmps36 fun c => ?_
 unfold p_spec_l3Cond at H
 refine sr (f1 (e_alloc ty46) fun g1 => (aH (v := .bool (false)) rfl (nl (sr (aG (v := .agg #[.string (⟨#[]⟩), .string (⟨#[]⟩), .bool (false)]) (p_buildS (vs := []) (cs := #[.string (⟨#[]⟩), .string (⟨#[]⟩), .bool (false)]) ty46 pl46 rfl rfl) (f1 (e_alloc ty46) fun g2 => (stb (cs' := [.string (⟨#[]⟩), .string (⟨#[]⟩), .bool (false)]) ty46 bV (nl (aD (bdo H fun b3 j4 H => ?_))))))))))
 refine bY [(13, .bool (b3)), (4, .pointer (some ⟨g2, 0, none⟩)), (2, .pointer (some ⟨g1, 0, none⟩)), (0, .string (v0))] ?_ ?_
 ·refine cA [(4, .pointer (some ⟨g2, 0, none⟩)), (2, .pointer (some ⟨g1, 0, none⟩)), (0, .string (v0))] ⟨rfl, rfl, rfl, trivial⟩ (aV rfl (aR (p_slen cI rfl) (aR (bT rfl rfl) ?_)))
  rcases aK (decide ((v0.size : Int) = 4)) with h5 | h5
  ·have j4 := cdT h5 j4
   refine aW (aE rfl) h5 (aS rfl (aE rfl) (gdo j4 fun h6 j4 => (aS rfl (p_six cI rfl rfl h6) (aS rfl (bT rfl rfl) (aR (bH rfl rfl) ?_)))))
   obtain rfl := si j4
   show At _ _ _ _ _ _
   exact n1 ⟨rfl, rfl, rfl, rfl, trivial⟩
  ·have j4 := cdF h5 j4
   refine aW (aE rfl) h5 ?_
   iterate 3 refine aX rfl ?_
   refine aR (v := .bool (false)) (bG rfl rfl) ?_
   obtain rfl := si j4
   show At _ _ _ _ _ _
   exact n1 ⟨rfl, rfl, rfl, rfl, trivial⟩
 refine bdo H fun x8 hx9 H => (tMidC0 (ι := Unit) (fun ψ => [(0, .string (x8.1)), (2, .pointer (some ⟨g1, 0, none⟩)), (4, .pointer (some ⟨g2, 0, none⟩))]) (fun ψ => [box g1 46 [.string (⟨#[]⟩), .string (⟨#[]⟩), .bool (false)], box g2 46 [.string (⟨#[]⟩), .string (⟨#[]⟩), .bool (x8.2)]]) ?_ ?_)
 ·refine Tr.cond (b := b3) rfl (fun h7 => ?_) (fun h7 => ?_)
  ·replace hx9 := cdT h7 hx9
   refine sr (aG (bP fa46_1 rfl rfl) (stb (cs' := [.string (⟨#[]⟩), .string (⟨#[]⟩), .bool (true)]) ty4 bV (nl (tNwL [(4, .pointer (some ⟨g2, 0, none⟩)), (2, .pointer (some ⟨g1, 0, none⟩)), (0, .string (v0))] 1 [0, 1, 2, 3, 4] [] [] mixed rfl (by kernel_rfl) (by kernel_rfl) (by decide) cB ⟨rfl, rfl, rfl, trivial⟩ rfl okNil (w_p rfl (aE rfl) (gdo hx9 fun h11 hx9 => (w_p rfl ((p_ssl 0 1 cI rfl rfl (fun _ => rfl) rfl (fun h => nomatch h) h11)) (w_p rfl (aE rfl) (gdo hx9 fun h12 hx9 => ?_)))))))))
   refine w_p rfl ((p_ssl 2 (v0.size : Int) cI rfl rfl (fun h => nomatch h) rfl (fun _ => rfl) h12)) (gdo hx9 fun h13 hx9 => (w_p rfl (p_cat rfl rfl h13) (w_nil ?_)))
   show Rg _ _ _ _ _ _ _ _ _
   refine aH rfl (aJ ?_)
   replace hx9 := Option.some.inj hx9; subst hx9
   exact nMC () ⟨rfl, rfl, rfl, trivial⟩ bL (.cons dl1 (.cons aA .nil))
  ·replace hx9 := cdF h7 hx9
   refine bA ?_
   replace hx9 := Option.some.inj hx9; subst hx9
   exact nMC () ⟨rfl, rfl, rfl, trivial⟩ bL (.cons dl1 (.cons aA .nil))
 ·intro y10
  show Tr _ _ _ _ _ [(0, .string (x8.1)), (2, .pointer (some ⟨g1, 0, none⟩)), (4, .pointer (some ⟨g2, 0, none⟩))] _ [box g1 46 [.string (⟨#[]⟩), .string (⟨#[]⟩), .bool (false)], box g2 46 [.string (⟨#[]⟩), .string (⟨#[]⟩), .bool (x8.2)]]
  refine aD (bdo H fun b14 j15 H => (bY [(27, .bool (b14)), (0, .string (x8.1)), (2, .pointer (some ⟨g1, 0, none⟩)), (4, .pointer (some ⟨g2, 0, none⟩))] ?_ ?_))
  ·refine cA [(0, .string (x8.1)), (2, .pointer (some ⟨g1, 0, none⟩)), (4, .pointer (some ⟨g2, 0, none⟩))] ⟨rfl, rfl, rfl, trivial⟩ (aV rfl (aR (p_slen cI rfl) (aR (p_neq rfl rfl) ?_)))
   rcases aK (!decide ((x8.1.size : Int) = 3)) with h16 | h16
   ·have j15 := cdT h16 j15
    refine aW (aE rfl) h16 ?_
    iterate 3 refine aX rfl ?_
    refine aR (v := .bool (true)) (bH rfl rfl) ?_
    obtain rfl := si j15
    show At _ _ _ _ _ _
    exact n1 ⟨rfl, rfl, rfl, rfl, trivial⟩
   ·have j15 := cdF h16 j15
    refine aW (aE rfl) h16 (aS rfl (aE rfl) (gdo j15 fun h17 j15 => (aS rfl (p_six cI rfl rfl h17) (aS rfl (p_neq rfl rfl) (aR (bG rfl rfl) ?_)))))
    obtain rfl := si j15
    show At _ _ _ _ _ _
    exact n1 ⟨rfl, rfl, rfl, rfl, trivial⟩
  refine cH H rfl (fun h18 H => ?_) (fun h18 H => ?_)
  ·refine sr (aI (q_ldbA ty46 rfl hs1 rfl) (stb (cs' := [.string (⟨#[]⟩), .string (⟨#[]⟩), .bool (x8.2)]) ty46 bV (aH (v := .bool (false)) rfl (nl (bI (rT (?_)))))))
   obtain rfl := si H
   exact back2 () rfl (ResV.agg ty46 rfl aB rfl) (ResV.tmp (v := .bool (false)) rfl) rfl bR bD
  ·refine bA (nT (aD (tNwS [(0, .string (x8.1)), (2, .pointer (some ⟨g1, 0, none⟩)), (4, .pointer (some ⟨g2, 0, none⟩))] 1 [0, 1, 2, 3, 4, 5, 6] [6] [] mixed (by kernel_rfl) (by decide) cB ⟨rfl, rfl, rfl, trivial⟩ rfl okNil (w_p rfl (aE rfl) (gdo H fun h19 H => (w_p rfl ((p_ssl 0 1 cI rfl rfl (fun _ => rfl) rfl (fun h => nomatch h) h19)) (w_p rfl (aE rfl) (gdo H fun h20 H => (w_p rfl ((p_ssl 2 (x8.1.size : Int) cI rfl rfl (fun h => nomatch h) rfl (fun _ => rfl) h20)) (w_p (v := .agg #[.string (x8.1.extract 0 1), .string (x8.1.extract 2 (x8.1.size : Int).toNat)]) rfl (p_buildS (vs := [(0, .string (x8.1.extract 0 1)), (1, .string (x8.1.extract 2 (x8.1.size : Int).toNat))]) (cs := #[.string (x8.1.extract 0 1), .string (x8.1.extract 2 (x8.1.size : Int).toNat)]) ty44 pl44 rfl rfl) ?_))))))))))
   refine w_p rfl (bP fa46_0 rfl rfl) (w_en rfl rfl Rdy.nil rfl (n_store (cs' := [.string (x8.1.extract 0 1), .string (x8.1.extract 2 (x8.1.size : Int).toNat), .bool (x8.2)]) ty44 rfl rfl up1 rfl (one_of rfl) (Nat.le_of_ble_eq_true rfl) rfl) ?_)
   rintro _ _ _ ⟨rfl, rfl, rfl⟩
   refine ⟨PdOk.nil, ?_⟩
   refine w_nil (nT (aD (tNwS [(2, .pointer (some ⟨g1, 0, none⟩)), (4, .pointer (some ⟨g2, 0, none⟩))] 1 [0, 1, 2, 3, 4, 5] [4] [] mixed (by kernel_rfl) (by decide) cB ⟨rfl, rfl, trivial⟩ rfl okNil ?_)))
   refine w_o rfl (fun F => (q_ldbA ty46 rfl (hs1.app F) rfl)) (w_p rfl (bP fa46_0 rfl rfl) ?_)
   refine w_o (v := .agg #[.string (x8.1.extract 0 1), .string (x8.1.extract 2 (x8.1.size : Int).toNat)]) rfl (fun F => (q_ldbP [.string (x8.1.extract 0 1), .string (x8.1.extract 2 (x8.1.size : Int).toNat)] ty44 rfl (hs1.app F) rfl rfl)) (bdo H fun r21 h22 H => ?_)
   refine w_o rfl (fun F => (bF (c_spec_l3Tag ((x8.1.extract 0 1), (x8.1.extract 2 (x8.1.size : Int).toNat)) h22) rfl aN)) (w_en rfl rfl Rdy.nil rfl (n_store (cs' := [.string (x8.1.extract 0 1), .string (x8.1.extract 2 (x8.1.size : Int).toNat), .bool (x8.2)]) ty46 rfl rfl bV rfl (one_of rfl) (Nat.le_of_ble_eq_true rfl) rfl) ?_)
   rintro _ _ _ ⟨rfl, rfl, rfl⟩
   refine ⟨(PdOk.anc (by kernel_rfl) (PdOk.q rfl rfl (fun F => (q_ldbP [.string (x8.1.extract 0 1), .string (x8.1.extract 2 (x8.1.size : Int).toNat)] ty44 rfl (hs1.app F) rfl rfl)) (PdOk.anc (by kernel_rfl) PdOk.nil))), ?_⟩
   refine w_p rfl (p_assign rfl) (w_nil (nT (bI ?_)))
   obtain rfl := si H
   exact back2 () rfl (ResV.agg ty46 rfl aB rfl) (ResV.tmp (v := .bool (r21)) rfl) rfl bR bD
noncomputable def p_spec_FilterRead_b0 (r4 : (List ByteArray)) (Q11 : (List Cond) × Int) : Option (((List Cond) × Int) ⊕ ((List Cond) ⊕ ((List Cond) × Bool))) := cond (decide (Q11.2 < (r4.length : Int))) (gd (ix Q11.2 r4.length) <| bd (p_spec_l3Cond (nth r4 Q11.2.toNat)) fun r21 => bd (cond (!r21.2) (some (true)) (some (decide (3 ≤ (Q11.1.length : Int))))) fun b24 => cond (b24) (some (.inr (.inr (([] : List Cond), false)))) (gd (room (Q11.1.length + 1)) <| gd (I64 (Q11.2 + 1)) <| some (.inl ((Q11.1 ++ [r21.1]), Q11.2 + 1)))) (some (.inr (.inl Q11.1)))
noncomputable def p_spec_FilterRead (v0 : ByteArray) : Option ((List Cond) × Bool) := cond (decide (v0 = (⟨#[42]⟩ : ByteArray))) (some (([] : List Cond), true)) (bd (p_spec_l3Cut v0 (44 : UInt8)) fun r4 => bd (lp (p_spec_FilterRead_b0 r4) (([] : List Cond), 0)) <| sw (fun e35 => some (e35, true)) (fun q => some q))
theorem c_spec_FilterRead {r : (List Cond) × Bool} (v0 : ByteArray) (H : p_spec_FilterRead v0 = some r) : Fn' prog 13 #[.string (v0)] [] [] (ι := (Option Addr × Nat) × Unit) (fun x => .tuple #[.slice x.1.1 r.1.length x.1.2, .bool (r.2)]) (fun _ => []) (fun x => [tree (.slice x.1.1 r.1.length x.1.2) r.1]) := by
 refine cof (args := [_]) func13 ntmps13 fun c => ?_
 unfold p_spec_FilterRead at H
 refine sr (aH (v := .slice none 0 0) rfl (aH (v := .bool (false)) rfl (nl (sr (f2 (e_lit0 Cond cC ty46) fun a1 c2 => (aH rfl (nl (aD (sr (aF rfl (aG (p_seql rfl rfl) (nl (cH H rfl (fun h3 H => ?_) (fun h3 H => ?_))))))))))))))
 ·refine sr (aF rfl (aH rfl (aH (v := .bool (true)) rfl (nl (bI (rT (?_)))))))
  obtain rfl := si H
  exact back2 ((a1, c2), ()) rfl (ResV.tmp (v := .slice a1 (([] : List Cond).length) c2) rfl) (ResV.tmp (v := .bool (true)) rfl) rfl bR (.cons aA .nil)
 ·refine bA (nT (sr (aF rfl (bdo H fun r4 h5 H => (f1 (e_callB (c_spec_l3Cut v0 (44 : UInt8) h5) (fun _ => (aY aZ)) rfl aN) fun x6 => (aH rfl (nl (aD (sr (aH (v := .int .i64 (0)) rfl (nl (bdo H fun x7 hx8 H => ?_))))))))))))
  refine tMidI (Λ := (Option Addr × Nat)) H (fun e35 y13 => [(4, .slice y13.1 e35.length y13.2)]) (fun e35 y13 => [tree (.slice y13.1 e35.length y13.2) e35]) ?_ ?_
  ·refine aP (bZ hx8 (a1, c2) (fun Q11 z12 => [(4, .slice z12.1 Q11.1.length z12.2), (5, .slice x6.1 r4.length x6.2), (6, .int .i64 (Q11.2))]) (fun Q11 z12 => [tree (.slice z12.1 Q11.1.length z12.2) Q11.1, tree (.slice x6.1 r4.length x6.2) r4]) (.cons dl1 (.cons aA .nil)) ?_)
   rintro _ Q11 z12 t14 H1 hi15 hb16
   unfold p_spec_FilterRead_b0 at H1
   refine aD (sr (aF rfl (aF rfl (aG (bK 9 cF rfl) (aG (bS rfl rfl) (nl (cH H1 rfl (fun h19 H1 => ?_) (fun h19 H1 => ?_))))))))
   ·refine bA (nT (aD (aP (sr (aF rfl (aF rfl (gdo H1 fun h20 H1 => (aI (q_ixO' cF ty9 rfl rfl h20 hs1) (aI (bO (i := Q11.2.toNat) (j := 0) ty9 rfl (aM (bE hs1)) h20.lt rfl) (bdo H1 fun r21 h22 H1 => ?_))))))))))
    refine aI (bF (c_spec_l3Cond (nth r4 Q11.2.toNat) h22) rfl aN) (aF rfl (aG (bW rfl rfl) (aG (bW rfl rfl) (f1 (e_alloc ty46) fun g23 => (stb (cs' := [.string (r21.1.1.1), .string (r21.1.1.2), .bool (r21.1.2)]) ty46 bV (aH rfl (nl (aD (bdo H1 fun b24 j25 H1 => (bY [(35, .bool (b24)), (7, .pointer (some ⟨g23, 0, none⟩)), (4, .slice z12.1 Q11.1.length z12.2), (5, .slice x6.1 r4.length x6.2), (6, .int .i64 (Q11.2))] ?_ ?_))))))))))
    ·refine cA [(8, .bool (r21.2)), (7, .pointer (some ⟨g23, 0, none⟩)), (4, .slice z12.1 Q11.1.length z12.2), (5, .slice x6.1 r4.length x6.2), (6, .int .i64 (Q11.2))] ⟨rfl, rfl, rfl, rfl, rfl, trivial⟩ (aV rfl (aR (p_not rfl) ?_))
     rcases aK (!r21.2) with h26 | h26
     ·have j25 := cdT h26 j25
      refine aW (aE rfl) h26 ?_
      iterate 3 refine aX rfl ?_
      refine aR (v := .bool (true)) (bH rfl rfl) ?_
      obtain rfl := si j25
      show At _ _ _ _ _ _
      exact n1 ⟨rfl, rfl, rfl, rfl, rfl, trivial⟩
     ·have j25 := cdF h26 j25
      refine aW (aE rfl) h26 (aS rfl (aE rfl) (aS rfl (bK 46 cC rfl) (aS rfl (p_geq rfl rfl) (aR (bG rfl rfl) ?_))))
      obtain rfl := si j25
      show At _ _ _ _ _ _
      exact n1 ⟨rfl, rfl, rfl, rfl, rfl, trivial⟩
    refine cH H1 rfl (fun h27 H1 => ?_) (fun h27 H1 => ?_)
    ·refine sr (f2 (e_lit0 Cond cC ty46) fun a28 c29 => (aH rfl (aH (v := .bool (false)) rfl (nl (bI (rT (rB (rT (rT (rB (rT (rT (?_)))))))))))))
     obtain rfl := hb16 _ (sm H1)
     replace H := sw.r H
     obtain rfl := si H
     exact back2 ((a28, c29), ()) rfl (ResV.tmp (v := .slice a28 (([] : List Cond).length) c29) rfl) (ResV.tmp (v := .bool (false)) rfl) rfl bR (.cons aA .nil)
    ·refine bA (nT (aO (aF rfl (aI (q_ldbA ty46 rfl aB rfl) (f1 (e_lit (vs := [(0, .agg #[.string (r21.1.1.1), .string (r21.1.1.2), .bool (r21.1.2)])]) [.string (r21.1.1.1), .string (r21.1.1.2), .bool (r21.1.2)] cC ty46 rfl (by decide) (by decide) (by kernel_rfl)) fun g30 => (gdo H1 fun h33 H1 => (f2 (e_app1 (l := Q11.1) (α := Cond) r21.1 (((), ()), ()) cC ty46 rfl rfl (h33.b (by decide)) h33.x rfl (bU _) (.cons dl2 (.cons aA .nil))) fun a31 c32 => (aH rfl (aJ (nB (nT (?_))))))))))))
     exact aO (aF rfl (gdo H1 fun h34 H1 => (aG (bJ rfl rfl h34) (aH rfl (aJ (nLI (a31, c32) (hi15 _ (sm H1)) (.cons aA (.cons dl1 .nil))))))))
   ·exact bX (xT (xT (xE (nMI (z12.1, z12.2) (hb16 _ (sm H1)) (.cons aA .nil)))))
  ·rintro e35 y13 H
   refine nT (sr (aF rfl (aH rfl (aH (v := .bool (true)) rfl (nl (bI ?_))))))
   obtain rfl := si H
   exact back2 (y13, ()) rfl (ResV.tmp (v := .slice y13.1 e35.length y13.2) rfl) (ResV.tmp (v := .bool (true)) rfl) rfl bR (.cons aA .nil)
noncomputable def p_strings_Count_k44 (v0 : ByteArray) : Option (Int) := gd (ix 0 (⟨#[44]⟩ : ByteArray).size) <| some (cbs v0 (sb (⟨#[44]⟩ : ByteArray) 0))
theorem c_strings_Count_k44 {r : Int} (v0 : ByteArray) (H : p_strings_Count_k44 v0 = some r) : Fn' prog 62 #[.string (v0), .string ((⟨#[44]⟩ : ByteArray))] [] [] (ι := Unit) (fun _ => .int .i64 (r)) (fun _ => []) (fun _ => []) := by
 refine cof (args := [_, _]) func62 ntmps62 fun c => ?_
 unfold p_strings_Count_k44 at H
 refine sr (aH (v := .int .i64 (0)) rfl (nl (aD (sr (aF (v := .string ((⟨#[44]⟩ : ByteArray))) rfl (aG (v := .int .i64 (1)) (Pu.iC (p_slen cI rfl) rfl) (aG (v := .bool (false)) (Pu.bC (bT rfl rfl) (by decide)) (nl (Tr.condF rfl (bA (nT (aD (sr ?_)))))))))))))
 refine aF (v := .string ((⟨#[44]⟩ : ByteArray))) rfl (aG (v := .int .i64 (1)) (Pu.iC (p_slen cI rfl) rfl) (aG (v := .bool (true)) (Pu.bC (bT rfl rfl) (by decide)) (nl (Tr.condT rfl (sr (aF rfl (aF (v := .string ((⟨#[44]⟩ : ByteArray))) rfl (gdo H fun h1 H => (aG (p_six cI rfl rfl h1) (aG (v := .int .i64 (cbs v0 (sb (⟨#[44]⟩ : ByteArray) 0))) ((p_cbs func70 (by kernel_rfl) (by kernel_rfl) (by kernel_rfl) (by kernel_rfl) rfl rfl)) ?_))))))))))
 refine aH rfl (nl (bI (rT (?_))))
 obtain rfl := si H
 exact bk
noncomputable def p_internal_stringslite_IndexByte (v0 : ByteArray) (v1 : UInt8) : Option (Int) := some (ibs v0 v1)
theorem c_internal_stringslite_IndexByte {r : Int} (v0 : ByteArray) (v1 : UInt8) (H : p_internal_stringslite_IndexByte v0 v1 = some r) : Fn' prog 71 #[.string (v0), .int .u8 (v1.toNat : Int)] [] [] (ι := Unit) (fun _ => .int .i64 (r)) (fun _ => []) (fun _ => []) := by
 refine cof (args := [_, _]) func71 ntmps71 fun c => ?_
 unfold p_internal_stringslite_IndexByte at H
 refine sr (aH (v := .int .i64 (0)) rfl (nl (sr (aF rfl (aF rfl (aG (v := .int .i64 (ibs v0 v1)) ((p_ibs func78 (by kernel_rfl) (by kernel_rfl) (by kernel_rfl) (by kernel_rfl) rfl rfl)) (aH rfl (nl ?_))))))))
 obtain rfl := si H
 exact bI bk
noncomputable def p_internal_stringslite_Index_k44 (v0 : ByteArray) : Option (Int) := bd (some (decide ((⟨#[44]⟩ : ByteArray) = v0))) fun b1 => cond (b1) (some 0) (gd (ix 0 (⟨#[44]⟩ : ByteArray).size) <| bd (p_internal_stringslite_IndexByte v0 (sb (⟨#[44]⟩ : ByteArray) 0)) fun r5 => some r5)
theorem c_internal_stringslite_Index_k44 {r : Int} (v0 : ByteArray) (H : p_internal_stringslite_Index_k44 v0 = some r) : Fn' prog 64 #[.string (v0), .string ((⟨#[44]⟩ : ByteArray))] [] [] (ι := Unit) (fun _ => .int .i64 (r)) (fun _ => []) (fun _ => []) := by
 refine cof (args := [_, _]) func64 ntmps64 fun c => ?_
 unfold p_internal_stringslite_Index_k44 at H
 refine sr (aH (v := .int .i64 (0)) rfl (nl (sr (aF (v := .string ((⟨#[44]⟩ : ByteArray))) rfl (aG (v := .int .i64 (1)) (Pu.iC (p_slen cI rfl) rfl) (aH (v := .int .i64 (1)) rfl (nl (aD (aP (bdo H fun b1 j2 H => (bY [(16, .bool (b1)), (5, .int .i64 (1)), (0, .string (v0)), (1, .string ((⟨#[44]⟩ : ByteArray)))] ?_ ?_)))))))))))
 ·refine cA [(5, .int .i64 (1)), (0, .string (v0)), (1, .string ((⟨#[44]⟩ : ByteArray)))] ⟨rfl, rfl, rfl, trivial⟩ (aV (v := .int .i64 (1)) rfl (aR (v := .bool (false)) (Pu.bC (bT rfl rfl) (by decide)) (aV (v := .bool (false)) rfl (aS (v := .string ((⟨#[44]⟩ : ByteArray))) rfl (aE rfl) (aS rfl (aE rfl) (aS rfl (p_seql rfl rfl) (aR (bG rfl rfl) (aR (p_assign rfl) ?_))))))))
  obtain rfl := si j2
  show At _ _ _ _ _ _
  exact n1 ⟨rfl, rfl, rfl, rfl, trivial⟩
 refine cH H rfl (fun h3 H => ?_) (fun h3 H => ?_)
 ·refine sr (aH (v := .int .i64 (0)) rfl (nl (bI (rB (rT (?_))))))
  obtain rfl := si H
  exact bk
 ·refine sr (aF (v := .int .i64 (1)) rfl (aG (v := .bool (true)) (Pu.bC (bT rfl rfl) (by decide)) (aH (v := .bool (true)) rfl (nl (Tr.condT rfl (sr (aF rfl (aF (v := .string ((⟨#[44]⟩ : ByteArray))) rfl (gdo H fun h4 H => (aG (p_six cI rfl rfl h4) ?_))))))))))
  refine bdo H fun r5 h6 H => (aI (bF (c_internal_stringslite_IndexByte v0 (sb (⟨#[44]⟩ : ByteArray) 0) h6) rfl aN) (aH rfl (nl (bI (rB (rT (?_)))))))
  obtain rfl := si H
  exact bk
noncomputable def p_strings_Index_k44 (v0 : ByteArray) : Option (Int) := bd (p_internal_stringslite_Index_k44 v0) fun r1 => some r1
theorem c_strings_Index_k44 {r : Int} (v0 : ByteArray) (H : p_strings_Index_k44 v0 = some r) : Fn' prog 63 #[.string (v0), .string ((⟨#[44]⟩ : ByteArray))] [] [] (ι := Unit) (fun _ => .int .i64 (r)) (fun _ => []) (fun _ => []) := by
 refine cof (args := [_, _]) func63 ntmps63 fun c => ?_
 unfold p_strings_Index_k44 at H
 refine sr (aH (v := .int .i64 (0)) rfl (nl (sr (aF rfl (aF (v := .string ((⟨#[44]⟩ : ByteArray))) rfl (bdo H fun r1 h2 H => (aI (bF (c_internal_stringslite_Index_k44 v0 h2) rfl aN) (aH rfl (nl ?_)))))))))
 obtain rfl := si H
 exact bI bk
noncomputable def p_strings_genSplit_k44_0_m1_b0 (v0 : ByteArray) (r1 : Int) (Q13 : ByteArray × (List ByteArray) × Int) : Option ((ByteArray × (List ByteArray) × Int) ⊕ (ByteArray × (List ByteArray) × Int)) := cond (decide (Q13.2.2 < ((min (r1 + 1) ((v0.size : Int) + 1)) - 1))) (bd (p_strings_Index_k44 Q13.1) fun r22 => cond (decide (r22 < 0)) (some (.inr (Q13.1, Q13.2.1, Q13.2.2))) (gd (I64 (r22 + 0)) <| gd (sl2 0 (r22 + 0) Q13.1.size) <| gd (ix Q13.2.2 Q13.2.1.length) <| gd (I64 (r22 + 1)) <| gd (sl2 (r22 + 1) (Q13.1.size : Int) Q13.1.size) <| gd (I64 (Q13.2.2 + 1)) <| some (.inl (Q13.1.extract (r22 + 1).toNat (Q13.1.size : Int).toNat, (Q13.2.1.set Q13.2.2.toNat (Q13.1.extract 0 (r22 + 0).toNat)), Q13.2.2 + 1)))) (some (.inr (Q13.1, Q13.2.1, Q13.2.2)))
noncomputable def p_strings_genSplit_k44_0_m1 (v0 : ByteArray) : Option ((List ByteArray)) := bd (p_strings_Count_k44 v0) fun r1 => gd (I64 (r1 + 1)) <| gd (I64 ((v0.size : Int) + 1)) <| gd (many (min (r1 + 1) ((v0.size : Int) + 1))) <| gd (I64 ((min (r1 + 1) ((v0.size : Int) + 1)) - 1)) <| bd (lp (p_strings_genSplit_k44_0_m1_b0 v0 r1) (v0, (List.replicate (min (r1 + 1) ((v0.size : Int) + 1)).toNat (Zr.z0 : ByteArray)), 0)) fun x9 => gd (ix x9.2.2 x9.2.1.length) <| gd (I64 (x9.2.2 + 1)) <| gd (sl2 0 (x9.2.2 + 1) (x9.2.1.set x9.2.2.toNat x9.1).length) <| some ((x9.2.1.set x9.2.2.toNat x9.1).take (x9.2.2 + 1).toNat)
theorem c_strings_genSplit_k44_0_m1 {r : (List ByteArray)} (v0 : ByteArray) (H : p_strings_genSplit_k44_0_m1 v0 = some r) : Fn' prog 53 #[.string (v0), .string ((⟨#[44]⟩ : ByteArray)), .int .i64 (0), .int .i64 (-1)] [] [] (ι := Option Addr × Nat) (fun x => .slice x.1 r.length x.2) (fun _ => []) (fun x => [tree (.slice x.1 r.length x.2) r]) := by
 refine cof (args := [_, _, _, _]) func53 ntmps53 fun c => ?_
 unfold p_strings_genSplit_k44_0_m1 at H
 refine sr (aH (v := .slice none 0 0) rfl (nl (aD (sr (aF (v := .int .i64 (-1)) rfl (aG (v := .bool (false)) (Pu.bC (bT rfl rfl) (by decide)) (nl (Tr.condF rfl (bA (nT (aD (sr (aF (v := .string ((⟨#[44]⟩ : ByteArray))) rfl ?_)))))))))))))
 refine aG (v := .bool (false)) (p_seqlC rfl rfl (by decide)) (nl (Tr.condF rfl (bA (nT (aD (sr (aF (v := .int .i64 (-1)) rfl (aG (v := .bool (true)) (Pu.bC (bS rfl rfl) (by decide)) (nl (Tr.condT rfl (aO (aF rfl ?_))))))))))))
 refine aF (v := .string ((⟨#[44]⟩ : ByteArray))) rfl (bdo H fun r1 h2 H => (aI (bF (c_strings_Count_k44 v0 h2) rfl aN) (gdo H fun h3 H => (aG (bJ rfl rfl h3) (aH rfl (nl (sr (aF rfl (aF rfl (aG (p_slen cI rfl) ?_))))))))))
 refine gdo H fun h4 H => (aG (bJ rfl rfl h4) (aG (v := .int .i64 (min (r1 + 1) ((v0.size : Int) + 1))) (p_min rfl rfl) (aH rfl (nl (sr (aF rfl (gdo H fun h7 H => (f2 (e_makeR ByteArray cF ty9 rfl rfl rfl h7 (by decide)) fun a5 c6 => (aH rfl (nl (sr ?_)))))))))))
 refine aF rfl (gdo H fun h8 H => (aG (p_sub rfl rfl h8) (aH rfl (nl (sr (aH (v := .int .i64 (0)) rfl (nl (bdo H fun x9 hx10 H => (tMidC (ι := Unit) (fun ψ => [(0, .string (x9.1)), (9, .slice a5 x9.2.1.length c6), (10, .int .i64 (x9.2.2))]) (fun ψ => [tree (.slice a5 x9.2.1.length c6) x9.2.1]) ?_ ?_)))))))))
 ·refine aP (bZ hx10 () (fun Q13 _ => [(0, .string (Q13.1)), (1, .string ((⟨#[44]⟩ : ByteArray))), (2, .int .i64 (0)), (3, .int .i64 ((min (r1 + 1) ((v0.size : Int) + 1)) - 1)), (9, .slice a5 Q13.2.1.length c6), (10, .int .i64 (Q13.2.2))]) (fun Q13 _ => [tree (.slice a5 Q13.2.1.length c6) Q13.2.1]) (.cons aA .nil) ?_)
  rintro _ Q13 z14 t16 H1 hi17 hb18
  unfold p_strings_genSplit_k44_0_m1_b0 at H1
  refine aD (sr (aF rfl (aF rfl (aG (bS rfl rfl) (nl (cH H1 rfl (fun h21 H1 => ?_) (fun h21 H1 => ?_)))))))
  ·refine bA (nT (aP (sr (aF rfl (aF (v := .string ((⟨#[44]⟩ : ByteArray))) rfl (bdo H1 fun r22 h23 H1 => (aI (bF (c_strings_Index_k44 Q13.1 h23) rfl aN) (aH rfl (nl (aD (sr ?_)))))))))))
   refine aF rfl (aG (bS rfl rfl) (nl (cH H1 rfl (fun h24 H1 => ?_) (fun h24 H1 => ?_))))
   ·refine bX (xT (xB rfl (xT (xE (?_)))))
    obtain rfl := hb18 _ (sm H1)
    exact nMC () ⟨rfl, rfl, rfl, trivial⟩ bL (.cons aA .nil)
   ·refine bA (nT (sr (aF rfl (aF rfl (aF rfl (aF rfl (aF (v := .int .i64 (0)) rfl (gdo H1 fun h25 H1 => (aG (bJ rfl rfl h25) ?_)))))))))
    refine gdo H1 fun h26 H1 => (aG ((p_ssl 0 (r22 + 0) cI rfl rfl (fun _ => rfl) rfl (fun h => nomatch h) h26)) (gdo H1 fun h27 H1 => (aI (q_ixO' cF ty9 rfl rfl h27 aB) (g0 (e_setT (l := Q13.2.1) (α := ByteArray) (oa := a5) Q13.2.2.toNat (Q13.1.extract 0 (r22 + 0).toNat) () ty9 rfl rfl rfl h27.lt (bU _) (.cons aA .nil)) (nl (aD ?_))))))
    refine Tr.olen aB fun hn => ?_; rw [hn]
    refine aO (aF rfl (aF rfl (aF (v := .string ((⟨#[44]⟩ : ByteArray))) rfl (aG (v := .int .i64 (1)) (Pu.iC (p_slen cI rfl) rfl) (gdo H1 fun h28 H1 => (aG (bJ rfl rfl h28) (gdo H1 fun h29 H1 => (aG ((p_ssl (r22 + 1) (Q13.1.size : Int) cI rfl rfl (fun h => nomatch h) rfl (fun _ => rfl) h29)) (aH rfl (nl ?_))))))))))
    exact aO (aF rfl (gdo H1 fun h30 H1 => (aG (bJ rfl rfl h30) (aH rfl (aJ (nB (nLI () (hi17 _ (sm H1)) (.cons aA .nil) )))))))
  ·refine bX (xT (xT (xE (?_))))
   obtain rfl := hb18 _ (sm H1)
   exact nMC () ⟨rfl, rfl, rfl, trivial⟩ bL (.cons aA .nil)
 ·intro y15
  show Tr _ _ _ _ _ [(0, .string (x9.1)), (9, .slice a5 x9.2.1.length c6), (10, .int .i64 (x9.2.2))] _ [tree (.slice a5 x9.2.1.length c6) x9.2.1]
  refine sr (aF rfl (aF rfl (aF rfl (gdo H fun h31 H => (aI (q_ixO' cF ty9 rfl rfl h31 aB) (g0 (e_setT (l := x9.2.1) (α := ByteArray) (oa := a5) x9.2.2.toNat x9.1 () ty9 rfl rfl rfl h31.lt (bU _) (.cons aA .nil)) (nl (aD ?_))))))))
  refine Tr.olen aB fun hn => ?_; rw [hn]
  refine aO (aF rfl (aF rfl (gdo H fun h32 H => (aG (bJ rfl rfl h32) (gdo H fun h33 H => (f0 (e_slT (l := (x9.2.1.set x9.2.2.toNat x9.1)) (α := ByteArray) (x9.2.2 + 1) cF ty9 rfl rfl h33 (.cons aA .nil)) (aH rfl (nl (bI ?_)))))))))
  obtain rfl := si H
  exact back1 (a5, c6) rfl (ResV.tmp (v := .slice a5 (((x9.2.1.set x9.2.2.toNat x9.1).take (x9.2.2 + 1).toNat).length) c6) rfl) rfl bR (.cons aA .nil)
noncomputable def p_strings_Split_k44 (v0 : ByteArray) : Option ((List ByteArray)) := bd (p_strings_genSplit_k44_0_m1 v0) fun r1 => some r1
theorem c_strings_Split_k44 {r : (List ByteArray)} (v0 : ByteArray) (H : p_strings_Split_k44 v0 = some r) : Fn' prog 31 #[.string (v0), .string ((⟨#[44]⟩ : ByteArray))] [] [] (ι := Option Addr × Nat) (fun x => .slice x.1 r.length x.2) (fun _ => []) (fun x => [tree (.slice x.1 r.length x.2) r]) := by
 refine cof (args := [_, _]) func31 ntmps31 fun c => ?_
 unfold p_strings_Split_k44 at H
 refine sr (aH (v := .slice none 0 0) rfl (nl (sr (aF rfl (aF (v := .string ((⟨#[44]⟩ : ByteArray))) rfl (bdo H fun r1 h2 H => (f1 (e_callB (c_strings_genSplit_k44_0_m1 v0 h2) (fun _ => (aY aZ)) rfl aN) fun x3 => (aH rfl (nl (bI ?_))))))))))
 obtain rfl := si H
 exact back1 x3 rfl (ResV.tmp (v := .slice x3.1 r1.length x3.2) rfl) rfl bR (.cons aA .nil)
noncomputable def p_internal_stringslite_Index_k61 (v0 : ByteArray) : Option (Int) := bd (some (decide ((⟨#[61]⟩ : ByteArray) = v0))) fun b1 => cond (b1) (some 0) (gd (ix 0 (⟨#[61]⟩ : ByteArray).size) <| bd (p_internal_stringslite_IndexByte v0 (sb (⟨#[61]⟩ : ByteArray) 0)) fun r5 => some r5)
theorem c_internal_stringslite_Index_k61 {r : Int} (v0 : ByteArray) (H : p_internal_stringslite_Index_k61 v0 = some r) : Fn' prog 64 #[.string (v0), .string ((⟨#[61]⟩ : ByteArray))] [] [] (ι := Unit) (fun _ => .int .i64 (r)) (fun _ => []) (fun _ => []) := by
 refine cof (args := [_, _]) func64 ntmps64 fun c => ?_
 unfold p_internal_stringslite_Index_k61 at H
 refine sr (aH (v := .int .i64 (0)) rfl (nl (sr (aF (v := .string ((⟨#[61]⟩ : ByteArray))) rfl (aG (v := .int .i64 (1)) (Pu.iC (p_slen cI rfl) rfl) (aH (v := .int .i64 (1)) rfl (nl (aD (aP (bdo H fun b1 j2 H => (bY [(16, .bool (b1)), (5, .int .i64 (1)), (0, .string (v0)), (1, .string ((⟨#[61]⟩ : ByteArray)))] ?_ ?_)))))))))))
 ·refine cA [(5, .int .i64 (1)), (0, .string (v0)), (1, .string ((⟨#[61]⟩ : ByteArray)))] ⟨rfl, rfl, rfl, trivial⟩ (aV (v := .int .i64 (1)) rfl (aR (v := .bool (false)) (Pu.bC (bT rfl rfl) (by decide)) (aV (v := .bool (false)) rfl (aS (v := .string ((⟨#[61]⟩ : ByteArray))) rfl (aE rfl) (aS rfl (aE rfl) (aS rfl (p_seql rfl rfl) (aR (bG rfl rfl) (aR (p_assign rfl) ?_))))))))
  obtain rfl := si j2
  show At _ _ _ _ _ _
  exact n1 ⟨rfl, rfl, rfl, rfl, trivial⟩
 refine cH H rfl (fun h3 H => ?_) (fun h3 H => ?_)
 ·refine sr (aH (v := .int .i64 (0)) rfl (nl (bI (rB (rT (?_))))))
  obtain rfl := si H
  exact bk
 ·refine sr (aF (v := .int .i64 (1)) rfl (aG (v := .bool (true)) (Pu.bC (bT rfl rfl) (by decide)) (aH (v := .bool (true)) rfl (nl (Tr.condT rfl (sr (aF rfl (aF (v := .string ((⟨#[61]⟩ : ByteArray))) rfl (gdo H fun h4 H => (aG (p_six cI rfl rfl h4) ?_))))))))))
  refine bdo H fun r5 h6 H => (aI (bF (c_internal_stringslite_IndexByte v0 (sb (⟨#[61]⟩ : ByteArray) 0) h6) rfl aN) (aH rfl (nl (bI (rB (rT (?_)))))))
  obtain rfl := si H
  exact bk
noncomputable def p_internal_stringslite_Cut_k61 (v0 : ByteArray) : Option (ByteArray × ByteArray × Bool) := bd (p_internal_stringslite_Index_k61 v0) fun r1 => cond (decide (0 ≤ r1)) (gd (sl2 0 r1 v0.size) <| gd (I64 (r1 + 1)) <| gd (sl2 (r1 + 1) (v0.size : Int) v0.size) <| some (v0.extract 0 r1.toNat, v0.extract (r1 + 1).toNat (v0.size : Int).toNat, true)) (some (v0, (⟨#[]⟩ : ByteArray), false))
theorem c_internal_stringslite_Cut_k61 {r : ByteArray × ByteArray × Bool} (v0 : ByteArray) (H : p_internal_stringslite_Cut_k61 v0 = some r) : Fn' prog 54 #[.string (v0), .string ((⟨#[61]⟩ : ByteArray))] [] [] (ι := Unit) (fun _ => .tuple #[.string (r.1), .string (r.2.1), .bool (r.2.2)]) (fun _ => []) (fun _ => []) := by
 refine cof (args := [_, _]) func54 ntmps54 fun c => ?_
 unfold p_internal_stringslite_Cut_k61 at H
 refine sr (aH (v := .string ((⟨#[]⟩ : ByteArray))) rfl (aH (v := .string ((⟨#[]⟩ : ByteArray))) rfl (aH (v := .bool (false)) rfl (nl (aD (sr (aF rfl (aF (v := .string ((⟨#[61]⟩ : ByteArray))) rfl (bdo H fun r1 h2 H => (aI (bF (c_internal_stringslite_Index_k61 v0 h2) rfl aN) (aH rfl (nl ?_))))))))))))
 refine sr (aF rfl (aG (p_geq rfl rfl) (nl (cH H rfl (fun h3 H => ?_) (fun h3 H => ?_)))))
 ·refine aD (tLinS [(7, .int .i64 (r1)), (0, .string (v0)), (1, .string ((⟨#[61]⟩ : ByteArray)))] mixed (.inr (by kernel_rfl)) ⟨rfl, rfl, rfl, trivial⟩ rfl (aV rfl (aV rfl (gdo H fun h4 H => (aR ((p_ssl 0 r1 cI rfl rfl (fun _ => rfl) rfl (fun h => nomatch h) h4)) (aV rfl (aV rfl (aV (v := .string ((⟨#[61]⟩ : ByteArray))) rfl (aR (v := .int .i64 (1)) (Pu.iC (p_slen cI rfl) rfl) ?_)))))))))
  refine gdo H fun h5 H => (aR (bJ rfl rfl h5) (gdo H fun h6 H => (aR ((p_ssl (r1 + 1) (v0.size : Int) cI rfl rfl (fun h => nomatch h) rfl (fun _ => rfl) h6)) (aR (p_assign rfl) (aR (p_assign rfl) (aR (v := .bool (true)) (p_assign rfl) (nT (bI (rT (?_))))))))))
  obtain rfl := si H
  exact back3 () rfl (ResV.tmp (v := .string (v0.extract 0 r1.toNat)) rfl) (ResV.tmp (v := .string (v0.extract (r1 + 1).toNat (v0.size : Int).toNat)) rfl) (ResV.tmp (v := .bool (true)) rfl) rfl bR bD
 ·refine bA (nT (sr (aF rfl (aH rfl (aH (v := .string ((⟨#[]⟩ : ByteArray))) rfl (aH (v := .bool (false)) rfl (nl (bI ?_))))))))
  obtain rfl := si H
  exact back3 () rfl (ResV.tmp (v := .string (v0)) rfl) (ResV.tmp (v := .string ((⟨#[]⟩ : ByteArray))) rfl) (ResV.tmp (v := .bool (false)) rfl) rfl bR bD
noncomputable def p_strings_Cut_k61 (v0 : ByteArray) : Option (ByteArray × ByteArray × Bool) := bd (p_internal_stringslite_Cut_k61 v0) fun r1 => some (r1.1, r1.2.1, r1.2.2)
theorem c_strings_Cut_k61 {r : ByteArray × ByteArray × Bool} (v0 : ByteArray) (H : p_strings_Cut_k61 v0 = some r) : Fn' prog 32 #[.string (v0), .string ((⟨#[61]⟩ : ByteArray))] [] [] (ι := Unit) (fun _ => .tuple #[.string (r.1), .string (r.2.1), .bool (r.2.2)]) (fun _ => []) (fun _ => []) := by
 refine cof (args := [_, _]) func32 ntmps32 fun c => ?_
 unfold p_strings_Cut_k61 at H
 refine sr (aH (v := .string ((⟨#[]⟩ : ByteArray))) rfl (aH (v := .string ((⟨#[]⟩ : ByteArray))) rfl (aH (v := .bool (false)) rfl (nl (sr (aF rfl (aF (v := .string ((⟨#[61]⟩ : ByteArray))) rfl (bdo H fun r1 h2 H => (aI (bF (c_internal_stringslite_Cut_k61 v0 h2) rfl aN) (aG (bW rfl rfl) ?_))))))))))
 refine aG (bW rfl rfl) (aG (bW rfl rfl) (aH rfl (aH rfl (aH rfl (nl (bI ?_))))))
 obtain rfl := si H
 exact back3 () rfl (ResV.tmp (v := .string (r1.1)) rfl) (ResV.tmp (v := .string (r1.2.1)) rfl) (ResV.tmp (v := .bool (r1.2.2)) rfl) rfl bR bD
noncomputable def p_impl_tagOk (v0 : Tag) : Option (Bool) := bd (cond (decide ((v0.1.size : Int) = 1)) (cond (!sless v0.1 (⟨#[97]⟩ : ByteArray)) (cond ((sless v0.1 (⟨#[100]⟩ : ByteArray) || decide (v0.1 = (⟨#[100]⟩ : ByteArray)))) (cond (decide ((v0.2.size : Int) = 1)) (cond (!sless v0.2 (⟨#[112]⟩ : ByteArray)) (some ((sless v0.2 (⟨#[122]⟩ : ByteArray) || decide (v0.2 = (⟨#[122]⟩ : ByteArray))))) (some (false))) (some (false))) (some (false))) (some (false))) (some (false))) fun b2 => some b2
theorem c_impl_tagOk {r : Bool} (v0 : Tag) (H : p_impl_tagOk v0 = some r) : Fn' prog 43 #[.agg #[.string (v0.1), .string (v0.2)]] [] [] (ι := Unit) (fun _ => .bool (r)) (fun _ => []) (fun _ => []) := by
 refine cof (args := [_]) func43 ntmps43 fun c => ?_
 unfold p_impl_tagOk at H
 refine sr (f1 (e_box (t := 44) rfl) fun g1 => (aH (v := .bool (false)) rfl (nl (bdo H fun b2 j3 H => (bY [(2, .bool (b2))] ?_ ?_)))))
 ·refine cA [(1, .pointer (some ⟨g1, 0, none⟩))] ⟨rfl, trivial⟩ (aR (bP fa44_0 rfl rfl) (aT (bB ty9 rfl aB rfl) (aR (p_slen cI rfl) (aR (bT rfl rfl) ?_))))
  rcases aK (decide ((v0.1.size : Int) = 1)) with h4 | h4
  ·have j3 := cdT h4 j3
   refine aW (aE rfl) h4 (aS rfl (bP fa44_0 rfl rfl) (aU rfl (bB ty9 rfl aB rfl) (aS rfl (p_sgeq rfl rfl) (aR (bH rfl rfl) ?_))))
   rcases aK (!sless v0.1 (⟨#[97]⟩ : ByteArray)) with h5 | h5
   ·have j3 := cdT h5 j3
    refine aW (aE rfl) h5 (aS rfl (bP fa44_0 rfl rfl) (aU rfl (bB ty9 rfl aB rfl) (aS rfl (p_sleq rfl rfl) (aR (bH rfl rfl) ?_))))
    rcases aK ((sless v0.1 (⟨#[100]⟩ : ByteArray) || decide (v0.1 = (⟨#[100]⟩ : ByteArray)))) with h6 | h6
    ·have j3 := cdT h6 j3
     refine aW (aE rfl) h6 (aS rfl (bP fa44_1 rfl rfl) (aU rfl (bB ty9 rfl aB rfl) (aS rfl (p_slen cI rfl) (aS rfl (bT rfl rfl) (aR (bH rfl rfl) ?_)))))
     rcases aK (decide ((v0.2.size : Int) = 1)) with h7 | h7
     ·have j3 := cdT h7 j3
      refine aW (aE rfl) h7 (aS rfl (bP fa44_1 rfl rfl) (aU rfl (bB ty9 rfl aB rfl) (aS rfl (p_sgeq rfl rfl) (aR (bH rfl rfl) ?_))))
      rcases aK (!sless v0.2 (⟨#[112]⟩ : ByteArray)) with h8 | h8
      ·have j3 := cdT h8 j3
       refine aW (aE rfl) h8 (aS rfl (bP fa44_1 rfl rfl) (aU rfl (bB ty9 rfl aB rfl) (aS rfl (p_sleq rfl rfl) (aR (bH rfl rfl) (aR (p_assign rfl) ?_)))))
       obtain rfl := si j3
       show At _ _ _ _ _ _
       exact n1 ⟨rfl, trivial⟩
      ·have j3 := cdF h8 j3
       refine aW (aE rfl) h8 ?_
       iterate 3 refine aX rfl ?_
       refine aR (v := .bool (false)) (bG rfl rfl) (aR (v := .bool (false)) (p_assign rfl) ?_)
       obtain rfl := si j3
       show At _ _ _ _ _ _
       exact n1 ⟨rfl, trivial⟩
     ·have j3 := cdF h7 j3
      refine aW (aE rfl) h7 ?_
      iterate 3 refine aX rfl ?_
      refine aR (v := .bool (false)) (bG rfl rfl) (aV (v := .bool (false)) rfl ?_)
      iterate 3 refine aX rfl ?_
      refine aR (v := .bool (false)) (bG rfl rfl) (aR (v := .bool (false)) (p_assign rfl) ?_)
      obtain rfl := si j3
      show At _ _ _ _ _ _
      exact n1 ⟨rfl, trivial⟩
    ·have j3 := cdF h6 j3
     refine aW (aE rfl) h6 ?_
     iterate 4 refine aX rfl ?_
     refine aR (v := .bool (false)) (bG rfl rfl) (aV (v := .bool (false)) rfl ?_)
     iterate 3 refine aX rfl ?_
     refine aR (v := .bool (false)) (bG rfl rfl) (aV (v := .bool (false)) rfl ?_)
     iterate 3 refine aX rfl ?_
     refine aR (v := .bool (false)) (bG rfl rfl) (aR (v := .bool (false)) (p_assign rfl) ?_)
     obtain rfl := si j3
     show At _ _ _ _ _ _
     exact n1 ⟨rfl, trivial⟩
   ·have j3 := cdF h5 j3
    refine aW (aE rfl) h5 ?_
    iterate 3 refine aX rfl ?_
    refine aR (v := .bool (false)) (bG rfl rfl) (aV (v := .bool (false)) rfl ?_)
    iterate 4 refine aX rfl ?_
    refine aR (v := .bool (false)) (bG rfl rfl) (aV (v := .bool (false)) rfl ?_)
    iterate 3 refine aX rfl ?_
    refine aR (v := .bool (false)) (bG rfl rfl) (aV (v := .bool (false)) rfl ?_)
    iterate 3 refine aX rfl ?_
    refine aR (v := .bool (false)) (bG rfl rfl) (aR (v := .bool (false)) (p_assign rfl) ?_)
    obtain rfl := si j3
    show At _ _ _ _ _ _
    exact n1 ⟨rfl, trivial⟩
  ·have j3 := cdF h4 j3
   refine aW (aE rfl) h4 ?_
   iterate 3 refine aX rfl ?_
   refine aR (v := .bool (false)) (bG rfl rfl) (aV (v := .bool (false)) rfl ?_)
   iterate 3 refine aX rfl ?_
   refine aR (v := .bool (false)) (bG rfl rfl) (aV (v := .bool (false)) rfl ?_)
   iterate 4 refine aX rfl ?_
   refine aR (v := .bool (false)) (bG rfl rfl) (aV (v := .bool (false)) rfl ?_)
   iterate 3 refine aX rfl ?_
   refine aR (v := .bool (false)) (bG rfl rfl) (aV (v := .bool (false)) rfl ?_)
   iterate 3 refine aX rfl ?_
   refine aR (v := .bool (false)) (bG rfl rfl) (aR (v := .bool (false)) (p_assign rfl) ?_)
   obtain rfl := si j3
   show At _ _ _ _ _ _
   exact n1 ⟨rfl, trivial⟩
 obtain rfl := si H
 exact bI bk
noncomputable def p_strings_Join (v0 : List ByteArray) (v1 : ByteArray) : Option ByteArray := gd (room v0.length) <| gd (room (joinS v0 v1).size) <| some (joinS v0 v1)
def jnF : Nat → Nat
 | 156 => 45 | 165 => 56 | 166 => 57 | 169 => 58 | 240 => 66 | 241 => 67 | 276 => 75 | 277 => 76 | n => n
def jnT : Nat → Nat
 | 0 => 0 | 3 => 3 | 4 => 4 | 5 => 5 | 9 => 9 | 20 => 20 | 31 => 47 | 37 => 33 | 70 => 73 | 72 => 75 | 75 => 78 | 76 => 79 | 80 => 81 | 127 => 86 | 164 => 92 | n => n
def jnG : Nat → Nat := fun n => n
def jnRen : Go.Shelf.Ren := ⟨jnF, jnT, jnG⟩
theorem jnLays : Lays.n156 prog jnRen := by
 constructor
 ·exact mixed
 ·exact func45.trans (congrArg some (by kernel_rfl))
 ·exact func56.trans (congrArg some (by kernel_rfl))
 ·exact func57.trans (congrArg some (by kernel_rfl))
 ·exact func58.trans (congrArg some (by kernel_rfl))
 ·exact func66.trans (congrArg some (by kernel_rfl))
 ·exact func67.trans (congrArg some (by kernel_rfl))
 ·exact func75.trans (congrArg some (by kernel_rfl))
 ·exact func76.trans (congrArg some (by kernel_rfl))
 all_goals first | kernel_rfl | (intro _; kernel_rfl)
theorem jnX : Builder.Extra prog jnRen where
 sizeBuilder := by kernel_rfl
 liesBuilder := by kernel_rfl
 t5 := by kernel_rfl
 a5 := fun _ => by kernel_rfl
 z5 := fun _ => by kernel_rfl
 v5 := fun _ => by kernel_rfl
 infoByte := by kernel_rfl
 cellsByte := by kernel_rfl
 sizeByte := by kernel_rfl
 neB5 := by decide
theorem c_strings_Join {r : ByteArray} (v0 : List ByteArray) (x_v0 : Option Addr × Nat) (v1 : ByteArray) (H : p_strings_Join v0 v1 = some r) : FnL' True prog 45 #[.slice x_v0.1 v0.length x_v0.2, .string (v1)] [imm (.slice x_v0.1 v0.length x_v0.2) v0] [] (ι := Unit) (fun _ => .string (r)) (fun _ => []) (fun _ => []) := by
 unfold p_strings_Join at H
 refine gdo H fun h1 H => (gdo H fun h2 H => ?_)
 have hr := Option.some.inj H
 subst hr
 exact FnL'.join jnLays jnX ⟨_, func45, by kernel_rfl, by kernel_rfl⟩ v0 x_v0 v1 (Nat.le_trans h1 (by decide)) (Nat.le_trans h2 (by decide))
noncomputable def p_internal_stringslite_HasSuffix (v0 : ByteArray) (v1 : ByteArray) : Option (Bool) := bd (cond (decide ((v1.size : Int) ≤ (v0.size : Int))) (gd (I64 ((v0.size : Int) - (v1.size : Int))) <| gd (sl2 ((v0.size : Int) - (v1.size : Int)) (v0.size : Int) v0.size) <| some (decide (v0.extract ((v0.size : Int) - (v1.size : Int)).toNat (v0.size : Int).toNat = v1))) (some (false))) fun b1 => some b1
theorem c_internal_stringslite_HasSuffix {r : Bool} (v0 : ByteArray) (v1 : ByteArray) (H : p_internal_stringslite_HasSuffix v0 v1 = some r) : Fn' prog 65 #[.string (v0), .string (v1)] [] [] (ι := Unit) (fun _ => .bool (r)) (fun _ => []) (fun _ => []) := by
 refine cof (args := [_, _]) func65 ntmps65 fun c => ?_
 unfold p_internal_stringslite_HasSuffix at H
 refine sr (aH (v := .bool (false)) rfl (nl (bdo H fun b1 j2 H => (bY [(4, .bool (b1))] ?_ ?_))))
 ·refine cA [(0, .string (v0)), (1, .string (v1))] ⟨rfl, rfl, trivial⟩ (aV rfl (aR (p_slen cI rfl) (aV rfl (aR (p_slen cI rfl) (aR (p_geq rfl rfl) ?_)))))
  rcases aK (decide ((v1.size : Int) ≤ (v0.size : Int))) with h3 | h3
  ·have j2 := cdT h3 j2
   refine aW (aE rfl) h3 (aS rfl (aE rfl) (aS rfl (aE rfl) (aS rfl (p_slen cI rfl) (aS rfl (aE rfl) (aS rfl (p_slen cI rfl) (gdo j2 fun h4 j2 => (aS rfl (p_sub rfl rfl h4) (gdo j2 fun h5 j2 => (aS rfl ((p_ssl ((v0.size : Int) - (v1.size : Int)) (v0.size : Int) cI rfl rfl (fun h => nomatch h) rfl (fun _ => rfl) h5)) ?_)))))))))
   refine aS rfl (aE rfl) (aS rfl (p_seql rfl rfl) (aR (bH rfl rfl) (aR (p_assign rfl) ?_)))
   obtain rfl := si j2
   show At _ _ _ _ _ _
   exact n1 ⟨rfl, trivial⟩
  ·have j2 := cdF h3 j2
   refine aW (aE rfl) h3 ?_
   iterate 9 refine aX rfl ?_
   refine aR (v := .bool (false)) (bG rfl rfl) (aR (v := .bool (false)) (p_assign rfl) ?_)
   obtain rfl := si j2
   show At _ _ _ _ _ _
   exact n1 ⟨rfl, trivial⟩
 obtain rfl := si H
 exact bI bk
noncomputable def p_internal_stringslite_CutSuffix (v0 : ByteArray) (v1 : ByteArray) : Option (ByteArray × Bool) := bd (p_internal_stringslite_HasSuffix v0 v1) fun r1 => cond (!r1) (some (v0, false)) (gd (I64 ((v0.size : Int) - (v1.size : Int))) <| gd (sl2 0 ((v0.size : Int) - (v1.size : Int)) v0.size) <| some (v0.extract 0 ((v0.size : Int) - (v1.size : Int)).toNat, true))
theorem c_internal_stringslite_CutSuffix {r : ByteArray × Bool} (v0 : ByteArray) (v1 : ByteArray) (H : p_internal_stringslite_CutSuffix v0 v1 = some r) : Fn' prog 55 #[.string (v0), .string (v1)] [] [] (ι := Unit) (fun _ => .tuple #[.string (r.1), .bool (r.2)]) (fun _ => []) (fun _ => []) := by
 refine cof (args := [_, _]) func55 ntmps55 fun c => ?_
 unfold p_internal_stringslite_CutSuffix at H
 refine sr (aH (v := .string ((⟨#[]⟩ : ByteArray))) rfl (aH (v := .bool (false)) rfl (nl (aD (sr (aF rfl (aF rfl (bdo H fun r1 h2 H => (aI (bF (c_internal_stringslite_HasSuffix v0 v1 h2) rfl aN) (aG (p_not rfl) (nl (cH H rfl (fun h3 H => ?_) (fun h3 H => ?_)))))))))))))
 ·refine sr (aF rfl (aH rfl (aH (v := .bool (false)) rfl (nl (bI (rT (?_)))))))
  obtain rfl := si H
  exact back2 () rfl (ResV.tmp (v := .string (v0)) rfl) (ResV.tmp (v := .bool (false)) rfl) rfl bR bD
 ·refine bA (nT (sr (aF rfl (aF rfl (aG (p_slen cI rfl) (aF rfl (aG (p_slen cI rfl) (gdo H fun h4 H => (aG (p_sub rfl rfl h4) ?_)))))))))
  refine gdo H fun h5 H => (aG ((p_ssl 0 ((v0.size : Int) - (v1.size : Int)) cI rfl rfl (fun _ => rfl) rfl (fun h => nomatch h) h5)) (aH rfl (aH (v := .bool (true)) rfl (nl (bI ?_)))))
  obtain rfl := si H
  exact back2 () rfl (ResV.tmp (v := .string (v0.extract 0 ((v0.size : Int) - (v1.size : Int)).toNat)) rfl) (ResV.tmp (v := .bool (true)) rfl) rfl bR bD
noncomputable def p_strings_CutSuffix (v0 : ByteArray) (v1 : ByteArray) : Option (ByteArray × Bool) := bd (p_internal_stringslite_CutSuffix v0 v1) fun r1 => some (r1.1, r1.2)
theorem c_strings_CutSuffix {r : ByteArray × Bool} (v0 : ByteArray) (v1 : ByteArray) (H : p_strings_CutSuffix v0 v1 = some r) : Fn' prog 37 #[.string (v0), .string (v1)] [] [] (ι := Unit) (fun _ => .tuple #[.string (r.1), .bool (r.2)]) (fun _ => []) (fun _ => []) := by
 refine cof (args := [_, _]) func37 ntmps37 fun c => ?_
 unfold p_strings_CutSuffix at H
 refine sr (aH (v := .string ((⟨#[]⟩ : ByteArray))) rfl (aH (v := .bool (false)) rfl (nl (sr (aF rfl (aF rfl (bdo H fun r1 h2 H => (aI (bF (c_internal_stringslite_CutSuffix v0 v1 h2) rfl aN) (aG (bW rfl rfl) (aG (bW rfl rfl) ?_))))))))))
 refine aH rfl (aH rfl (nl (bI ?_)))
 obtain rfl := si H
 exact back2 () rfl (ResV.tmp (v := .string (r1.1)) rfl) (ResV.tmp (v := .bool (r1.2)) rfl) rfl bR bD
noncomputable def p_impl_FilterOk_b0 (v0 : (List Cond)) (Q5 : Int) : Option ((Int) ⊕ (Unit ⊕ Bool)) := cond (decide (Q5 < (v0.length : Int))) (gd (ix Q5 v0.length) <| bd (p_impl_tagOk ((nth v0 Q5.toNat).1)) fun r16 => cond (!r16) (some (.inr (.inr false))) (gd (I64 (Q5 + 1)) <| some (.inl (Q5 + 1)))) (some (.inr (.inl ())))
noncomputable def p_impl_FilterOk (v0 : (List Cond)) : Option (Bool) := bd (lp (p_impl_FilterOk_b0 v0) 0) <| sw (fun _ => some (decide ((v0.length : Int) ≤ 3))) (fun q => some q)
theorem c_impl_FilterOk {r : Bool} (v0 : (List Cond)) (x_v0 : Option Addr × Nat) (H : p_impl_FilterOk v0 = some r) : Fn' prog 24 #[.slice x_v0.1 v0.length x_v0.2] [imm (.slice x_v0.1 v0.length x_v0.2) v0] [] (ι := Unit) (fun _ => .bool (r)) (fun _ => []) (fun _ => []) := by
 refine cof (args := [_]) func24 ntmps24 fun c => ?_
 unfold p_impl_FilterOk at H
 refine sr (aH (v := .bool (false)) rfl (nl (aD (sr (aF rfl (aG (bK 46 cC rfl) (aF (v := .int .i64 (0)) rfl (nl (bdo H fun x1 hx2 H => (tMidI (Λ := Unit) H (fun _ _ => [(0, .slice x_v0.1 v0.length x_v0.2)]) (fun _ _ => []) ?_ ?_))))))))))
 ·refine aP (bZ hx2 () (fun Q5 _ => [(0, .slice x_v0.1 v0.length x_v0.2), (5, .slice x_v0.1 v0.length x_v0.2), (6, .int .i64 ((v0.length : Int))), (7, .int .i64 (Q5))]) (fun _ _ => []) bD ?_)
  rintro _ Q5 z6 t8 H1 hi9 hb10
  unfold p_impl_FilterOk_b0 at H1
  refine sr (aG (bS rfl rfl) (nl (aD (cH H1 rfl (fun h13 H1 => ?_) (fun h13 H1 => ?_)))))
  ·refine bA (nT (aD (aP (sr (gdo H1 fun h14 H1 => (aI (bM cC ty46 rfl rfl h14 rfl (aM (aL aQ))) (aI (v := .agg #[.string (((nth v0 Q5.toNat).1).1), .string (((nth v0 Q5.toNat).1).2), .bool ((nth v0 Q5.toNat).2)]) (q_ldeA (i := Q5.toNat) ty46 rfl (aM (aL aQ)) h14.lt) (f1 (e_alloc ty46) fun g15 => (stb (cs' := [.string (((nth v0 Q5.toNat).1).1), .string (((nth v0 Q5.toNat).1).2), .bool ((nth v0 Q5.toNat).2)]) ty46 bV (nl ?_))))))))))
   refine sr (aG (bP fa46_0 rfl rfl) (aI (v := .agg #[.string (((nth v0 Q5.toNat).1).1), .string (((nth v0 Q5.toNat).1).2)]) (q_ldbP [.string (((nth v0 Q5.toNat).1).1), .string (((nth v0 Q5.toNat).1).2)] ty44 rfl aB rfl rfl) (bdo H1 fun r16 h17 H1 => (aI (bF (c_impl_tagOk ((nth v0 Q5.toNat).1) h17) rfl aN) (aG (p_not rfl) (nl (cH H1 rfl (fun h18 H1 => ?_) (fun h18 H1 => ?_))))))))
   ·refine sr (aH (v := .bool (false)) rfl (nl (bI (rB (rT (rT (rB (rT (rT (?_))))))))))
    obtain rfl := hb10 _ (sm H1)
    replace H := sw.r H
    obtain rfl := si H
    exact bk
   ·exact bA (nB (nT (aO (gdo H1 fun h19 H1 => (aG (bJ rfl rfl h19) (aF rfl (aJ (nLI () (hi9 _ (sm H1)) bD))))))))
  ·exact bX (xT (xT (xE (nMI () (hb10 _ (sm H1)) bD))))
 ·rintro e20 y7 H
  refine nT (sr (aF rfl (aG (bK 46 cC rfl) (aG (p_leq rfl rfl) (aH rfl (nl ?_))))))
  obtain rfl := si H
  exact bI bk
noncomputable def p_impl_FilterText_b0 (v0 : (List Cond)) (Q11 : (List ByteArray) × Int) : Option (((List ByteArray) × Int) ⊕ ((List ByteArray))) := cond (decide (Q11.2 < (v0.length : Int))) (gd (ix Q11.2 v0.length) <| cond ((nth v0 Q11.2.toNat).2) (gd (room ((((nth v0 Q11.2.toNat).1).1).size + (⟨#[33, 61]⟩ : ByteArray).size)) <| gd (room (((((nth v0 Q11.2.toNat).1).1) ++ (⟨#[33, 61]⟩ : ByteArray)).size + (((nth v0 Q11.2.toNat).1).2).size)) <| gd (room (Q11.1.length + 1)) <| gd (I64 (Q11.2 + 1)) <| some (.inl ((Q11.1 ++ [((((nth v0 Q11.2.toNat).1).1) ++ (⟨#[33, 61]⟩ : ByteArray)) ++ (((nth v0 Q11.2.toNat).1).2)]), Q11.2 + 1))) (gd (room ((((nth v0 Q11.2.toNat).1).1).size + (⟨#[61]⟩ : ByteArray).size)) <| gd (room (((((nth v0 Q11.2.toNat).1).1) ++ (⟨#[61]⟩ : ByteArray)).size + (((nth v0 Q11.2.toNat).1).2).size)) <| gd (room (Q11.1.length + 1)) <| gd (I64 (Q11.2 + 1)) <| some (.inl ((Q11.1 ++ [((((nth v0 Q11.2.toNat).1).1) ++ (⟨#[61]⟩ : ByteArray)) ++ (((nth v0 Q11.2.toNat).1).2)]), Q11.2 + 1)))) (some (.inr Q11.1))
noncomputable def p_impl_FilterText (v0 : (List Cond)) : Option (ByteArray) := bd (p_impl_FilterOk v0) fun r1 => cond (!r1) (some (⟨#[]⟩ : ByteArray)) (cond (decide ((v0.length : Int) = 0)) (some (⟨#[42]⟩ : ByteArray)) (bd (lp (p_impl_FilterText_b0 v0) (([] : List ByteArray), 0)) fun x7 => bd (p_strings_Join x7 (⟨#[44]⟩ : ByteArray)) fun r37 => some r37))
theorem c_impl_FilterText {r : ByteArray} (v0 : (List Cond)) (x_v0 : Option Addr × Nat) (H : p_impl_FilterText v0 = some r) : FnL' True prog 25 #[.slice x_v0.1 v0.length x_v0.2] [imm (.slice x_v0.1 v0.length x_v0.2) v0] [] (ι := Unit) (fun _ => .string (r)) (fun _ => []) (fun _ => []) := by
 refine calls_ofX (args := [_]) func25 rfl (by kernel_rfl) ntmps25 (by simp) fun c hL => ?_
 unfold p_impl_FilterText at H
 refine sr (aH (v := .string ((⟨#[]⟩ : ByteArray))) rfl (nl (aD (sr (aF rfl (bdo H fun r1 h2 H => (aI (bF (c_impl_FilterOk v0 x_v0 h2) rfl (aC (aL aQ) aN)) (aG (p_not rfl) (nl (cH H rfl (fun h3 H => ?_) (fun h3 H => ?_)))))))))))
 ·refine sr (aH (v := .string ((⟨#[]⟩ : ByteArray))) rfl (nl (bI (rT (?_)))))
  obtain rfl := si H
  exact bk
 ·refine bA (nT (aD (sr (aF rfl (aG (bK 46 cC rfl) (aG (bT rfl rfl) (nl (cH H rfl (fun h4 H => ?_) (fun h4 H => ?_)))))))))
  ·refine sr (aH (v := .string ((⟨#[42]⟩ : ByteArray))) rfl (nl (bI (rT (?_)))))
   obtain rfl := si H
   exact bk
  ·refine bA (nT (sr (f2 (e_lit0 ByteArray cF ty9) fun a5 c6 => (aH rfl (nl (aD (sr (aF rfl (aG (bK 46 cC rfl) (aF (v := .int .i64 (0)) rfl (nl (bdo H fun x7 hx8 H => ?_))))))))))))
   refine tMidNC (ι := Option Addr × Nat) (fun ψ => [(3, .slice ψ.1 x7.length ψ.2)]) (fun ψ => [tree (.slice ψ.1 x7.length ψ.2) x7]) ?_ ?_
   ·refine aP (bZ hx8 (a5, c6) (fun Q11 z12 => [(3, .slice z12.1 Q11.1.length z12.2), (14, .slice x_v0.1 v0.length x_v0.2), (15, .int .i64 ((v0.length : Int))), (16, .int .i64 (Q11.2))]) (fun Q11 z12 => [tree (.slice z12.1 Q11.1.length z12.2) Q11.1]) (.cons aA .nil) ?_)
    rintro _ Q11 z12 t14 H1 hi15 hb16
    unfold p_impl_FilterText_b0 at H1
    refine sr (aG (bS rfl rfl) (nl (aD (cH H1 rfl (fun h19 H1 => ?_) (fun h19 H1 => ?_)))))
    ·refine bA (nT (aD (aP (sr (gdo H1 fun h20 H1 => (aI (bM cC ty46 rfl rfl h20 rfl (aM (aL aQ))) (aI (v := .agg #[.string (((nth v0 Q11.2.toNat).1).1), .string (((nth v0 Q11.2.toNat).1).2), .bool ((nth v0 Q11.2.toNat).2)]) (q_ldeA (i := Q11.2.toNat) ty46 rfl (aM (aL aQ)) h20.lt) (f1 (e_alloc ty46) fun g21 => (stb (cs' := [.string (((nth v0 Q11.2.toNat).1).1), .string (((nth v0 Q11.2.toNat).1).2), .bool ((nth v0 Q11.2.toNat).2)]) ty46 bV (nl ?_))))))))))
     refine sr (aH (v := .string ((⟨#[61]⟩ : ByteArray))) rfl (nl (aD (sr (aG (bP fa46_1 rfl rfl) (aI (bB ty4 rfl aB rfl) (nl (cH H1 rfl (fun h22 H1 => ?_) (fun h22 H1 => ?_)))))))))
     ·refine aO (aH (v := .string ((⟨#[33, 61]⟩ : ByteArray))) rfl (nl (aO (aF rfl (aG (bP fa46_0 rfl rfl) (aG (bP fa44_0 rfl rfl) (aI (bB ty9 rfl aB rfl) (aF (v := .string ((⟨#[33, 61]⟩ : ByteArray))) rfl (gdo H1 fun h23 H1 => (aG (p_cat rfl rfl h23) ?_))))))))))
      refine aG (bP fa46_0 rfl rfl) (aG (bP fa44_1 rfl rfl) (aI (bB ty9 rfl aB rfl) (gdo H1 fun h24 H1 => (aG (p_cat rfl rfl h24) (f1 (e_lit (vs := [(0, .string (((((nth v0 Q11.2.toNat).1).1) ++ (⟨#[33, 61]⟩ : ByteArray)) ++ (((nth v0 Q11.2.toNat).1).2)))]) [.string (((((nth v0 Q11.2.toNat).1).1) ++ (⟨#[33, 61]⟩ : ByteArray)) ++ (((nth v0 Q11.2.toNat).1).2))] cF ty9 rfl (by decide) (by decide) (by kernel_rfl)) fun g25 => (gdo H1 fun h28 H1 => (f2 (e_app1 (l := Q11.1) (α := ByteArray) (((((nth v0 Q11.2.toNat).1).1) ++ (⟨#[33, 61]⟩ : ByteArray)) ++ (((nth v0 Q11.2.toNat).1).2)) () cF ty9 rfl rfl (h28.b (by decide)) h28.x rfl (bU _) (.cons dl2 (.cons aA .nil))) fun a26 c27 => (aH rfl (aJ (nB (nT (?_))))))))))))
      exact aO (gdo H1 fun h29 H1 => (aG (bJ rfl rfl h29) (aF rfl (aJ (nLI (a26, c27) (hi15 _ (sm H1)) (.cons aA .nil))))))
     ·refine bA (nT (aO (aF rfl (aG (bP fa46_0 rfl rfl) (aG (bP fa44_0 rfl rfl) (aI (bB ty9 rfl aB rfl) (aF (v := .string ((⟨#[61]⟩ : ByteArray))) rfl (gdo H1 fun h30 H1 => (aG (p_cat rfl rfl h30) ?_)))))))))
      refine aG (bP fa46_0 rfl rfl) (aG (bP fa44_1 rfl rfl) (aI (bB ty9 rfl aB rfl) (gdo H1 fun h31 H1 => (aG (p_cat rfl rfl h31) (f1 (e_lit (vs := [(0, .string (((((nth v0 Q11.2.toNat).1).1) ++ (⟨#[61]⟩ : ByteArray)) ++ (((nth v0 Q11.2.toNat).1).2)))]) [.string (((((nth v0 Q11.2.toNat).1).1) ++ (⟨#[61]⟩ : ByteArray)) ++ (((nth v0 Q11.2.toNat).1).2))] cF ty9 rfl (by decide) (by decide) (by kernel_rfl)) fun g32 => (gdo H1 fun h35 H1 => (f2 (e_app1 (l := Q11.1) (α := ByteArray) (((((nth v0 Q11.2.toNat).1).1) ++ (⟨#[61]⟩ : ByteArray)) ++ (((nth v0 Q11.2.toNat).1).2)) () cF ty9 rfl rfl (h35.b (by decide)) h35.x rfl (bU _) (.cons dl2 (.cons aA .nil))) fun a33 c34 => (aH rfl (aJ (nB (nT (?_))))))))))))
      exact aO (gdo H1 fun h36 H1 => (aG (bJ rfl rfl h36) (aF rfl (aJ (nLI (a33, c34) (hi15 _ (sm H1)) (.cons aA .nil))))))
    ·refine bX (xT (xT (xE (?_))))
     obtain rfl := hb16 _ (sm H1)
     exact nMC (z12.1, z12.2) ⟨rfl, trivial⟩ bL (.cons aA .nil)
   ·intro y13
    show At _ _ [(3, .slice y13.1 x7.length y13.2)] _ [tree (.slice y13.1 x7.length y13.2) x7] _
    refine nT (sr (aF rfl (bdo H fun r37 h38 H => (aI (bF (c_strings_Join x7 y13 (⟨#[44]⟩ : ByteArray) h38) rfl (aC (bE aB) aN) hL) (aH rfl (nl ?_))))))
    obtain rfl := si H
    exact bI bk
noncomputable def p_impl_FilterRead_b0 (r4 : (List ByteArray)) (Q11 : (List Cond) × Int) : Option (((List Cond) × Int) ⊕ ((List Cond))) := cond (decide (Q11.2 < (r4.length : Int))) (gd (ix Q11.2 r4.length) <| bd (p_strings_Cut_k61 (nth r4 Q11.2.toNat)) fun r21 => bd (p_strings_CutSuffix r21.1 (⟨#[33]⟩ : ByteArray)) fun r24 => gd (room (Q11.1.length + 1)) <| gd (I64 (Q11.2 + 1)) <| some (.inl ((Q11.1 ++ [((r24.1, r21.2.1), r24.2)]), Q11.2 + 1))) (some (.inr Q11.1))
noncomputable def p_impl_FilterRead (v0 : ByteArray) : Option ((List Cond) × Bool) := cond (decide (v0 = (⟨#[42]⟩ : ByteArray))) (some (([] : List Cond), true)) (bd (p_strings_Split_k44 v0) fun r4 => bd (lp (p_impl_FilterRead_b0 r4) (([] : List Cond), 0)) fun x7 => bd (cond (decide (v0 = (⟨#[]⟩ : ByteArray))) (some (true)) (bd (p_impl_FilterText x7) fun r34 => some (!decide (r34 = v0)))) fun b31 => cond (b31) (some (([] : List Cond), false)) (some (x7, true)))
theorem c_impl_FilterRead {r : (List Cond) × Bool} (v0 : ByteArray) (H : p_impl_FilterRead v0 = some r) : FnL' True prog 14 #[.string (v0)] [] [] (ι := (Option Addr × Nat) × Unit) (fun x => .tuple #[.slice x.1.1 r.1.length x.1.2, .bool (r.2)]) (fun _ => []) (fun x => [tree (.slice x.1.1 r.1.length x.1.2) r.1]) := by
 refine calls_ofX (args := [_]) func14 rfl (by kernel_rfl) ntmps14 (by simp) fun c hL => ?_
 unfold p_impl_FilterRead at H
 refine sr (aH (v := .slice none 0 0) rfl (aH (v := .bool (false)) rfl (nl (sr (f2 (e_lit0 Cond cC ty46) fun a1 c2 => (aH rfl (nl (aD (sr (aF rfl (aG (p_seql rfl rfl) (nl (cH H rfl (fun h3 H => ?_) (fun h3 H => ?_))))))))))))))
 ·refine sr (aF rfl (aH rfl (aH (v := .bool (true)) rfl (nl (bI (rT (?_)))))))
  obtain rfl := si H
  exact back2 ((a1, c2), ()) rfl (ResV.tmp (v := .slice a1 (([] : List Cond).length) c2) rfl) (ResV.tmp (v := .bool (true)) rfl) rfl bR (.cons aA .nil)
 ·refine bA (nT (aD (sr (aF rfl (bdo H fun r4 h5 H => (f1 (e_callB (c_strings_Split_k44 v0 h5) (fun _ => (aY aZ)) rfl aN) fun x6 => (aG (bK 9 cF rfl) (aF (v := .int .i64 (0)) rfl (nl (bdo H fun x7 hx8 H => (tMidNC (ι := Option Addr × Nat) (fun ψ => [(0, .string (v0)), (4, .slice ψ.1 x7.length ψ.2)]) (fun ψ => [tree (.slice ψ.1 x7.length ψ.2) x7]) ?_ ?_)))))))))))
  ·refine aP (bZ hx8 (a1, c2) (fun Q11 z12 => [(0, .string (v0)), (4, .slice z12.1 Q11.1.length z12.2), (16, .slice x6.1 r4.length x6.2), (17, .int .i64 ((r4.length : Int))), (18, .int .i64 (Q11.2))]) (fun Q11 z12 => [tree (.slice z12.1 Q11.1.length z12.2) Q11.1, tree (.slice x6.1 r4.length x6.2) r4]) (.cons dl1 (.cons aA .nil)) ?_)
   rintro _ Q11 z12 t14 H1 hi15 hb16
   unfold p_impl_FilterRead_b0 at H1
   refine sr (aG (bS rfl rfl) (nl (aD (cH H1 rfl (fun h19 H1 => ?_) (fun h19 H1 => ?_)))))
   ·refine bA (nT (aD (aP (sr (gdo H1 fun h20 H1 => (aI (q_ixO' cF ty9 rfl rfl h20 hs1) (aI (bO (i := Q11.2.toNat) (j := 0) ty9 rfl (aM (bE hs1)) h20.lt rfl) (aH rfl (nl (sr (aF rfl ?_)))))))))))
    refine bdo H1 fun r21 h22 H1 => (aI (bF (c_strings_Cut_k61 (nth r4 Q11.2.toNat) h22) rfl aN) (aF rfl (aG (bW rfl rfl) (aG (bW rfl rfl) (aG (bW rfl rfl) (aH rfl (aH rfl (aH rfl (nl (sr ?_))))))))))
    refine aG (v := .agg #[.string (⟨#[]⟩), .string (⟨#[]⟩), .bool (false)]) (p_buildS (vs := []) (cs := #[.string (⟨#[]⟩), .string (⟨#[]⟩), .bool (false)]) ty46 pl46 rfl rfl) (f1 (e_alloc ty46) fun g23 => (stb (cs' := [.string (⟨#[]⟩), .string (⟨#[]⟩), .bool (false)]) ty46 bV (nl (sr (aF rfl (bdo H1 fun r24 h25 H1 => (aI (bF (c_strings_CutSuffix r21.1 (⟨#[33]⟩ : ByteArray) h25) rfl aN) (aF rfl (aG (bW rfl rfl) ?_)))))))))
    refine aG (bW rfl rfl) (aH rfl (aG (bP fa46_1 rfl rfl) (stb (cs' := [.string (⟨#[]⟩), .string (⟨#[]⟩), .bool (r24.2)]) ty4 bV (nl (sr (aF rfl (aF rfl (aG (v := .agg #[.string (r24.1), .string (r21.2.1)]) (p_buildS (vs := [(0, .string (r24.1)), (1, .string (r21.2.1))]) (cs := #[.string (r24.1), .string (r21.2.1)]) ty44 pl44 rfl rfl) (aG (bP fa46_0 rfl rfl) ?_)))))))))
    refine stb (cs' := [.string (r24.1), .string (r21.2.1), .bool (r24.2)]) ty44 bV (nl (aO (aF rfl (aI (q_ldbA ty46 rfl aB rfl) (f1 (e_lit (vs := [(0, .agg #[.string (r24.1), .string (r21.2.1), .bool (r24.2)])]) [.string (r24.1), .string (r21.2.1), .bool (r24.2)] cC ty46 rfl (by decide) (by decide) (by kernel_rfl)) fun g26 => (gdo H1 fun h29 H1 => (f2 (e_app1 (l := Q11.1) (α := Cond) ((r24.1, r21.2.1), r24.2) (((), ()), ()) cC ty46 rfl rfl (h29.b (by decide)) h29.x rfl (bU _) (.cons dl2 (.cons aA .nil))) fun a27 c28 => (aH rfl (aJ (nB (nT (?_))))))))))))
    exact aO (gdo H1 fun h30 H1 => (aG (bJ rfl rfl h30) (aF rfl (aJ (nLI (a27, c28) (hi15 _ (sm H1)) (.cons aA (.cons dl1 .nil)))))))
   ·refine bX (xT (xT (xE (?_))))
    obtain rfl := hb16 _ (sm H1)
    exact nMC (z12.1, z12.2) ⟨rfl, rfl, trivial⟩ bL (.cons aA .nil)
  ·intro y13
   show At _ _ [(0, .string (v0)), (4, .slice y13.1 x7.length y13.2)] _ [tree (.slice y13.1 x7.length y13.2) x7] _
   refine nT (aD (bdo H fun b31 j32 H => (bY [(51, .bool (b31)), (4, .slice y13.1 x7.length y13.2)] ?_ ?_)))
   ·refine cA [(0, .string (v0)), (4, .slice y13.1 x7.length y13.2)] ⟨rfl, rfl, trivial⟩ (aV rfl (aR (p_seql rfl rfl) ?_))
    rcases aK (decide (v0 = (⟨#[]⟩ : ByteArray))) with h33 | h33
    ·have j32 := cdT h33 j32
     refine aW (aE rfl) h33 ?_
     iterate 4 refine aX rfl ?_
     refine aR (v := .bool (true)) (bH rfl rfl) ?_
     obtain rfl := si j32
     show At _ _ _ _ _ _
     exact n1 ⟨rfl, rfl, trivial⟩
    ·have j32 := cdF h33 j32
     refine aW (aE rfl) h33 (aS rfl (aE rfl) (bdo j32 fun r34 h35 j32 => (aU rfl (bF (c_impl_FilterText x7 y13 h35) rfl (aC (bE aB) aN) hL) (aS rfl (aE rfl) (aS rfl (p_sneq rfl rfl) (aR (bG rfl rfl) ?_))))))
     obtain rfl := si j32
     show At _ _ _ _ _ _
     exact n1 ⟨rfl, rfl, trivial⟩
   refine cH H rfl (fun h36 H => ?_) (fun h36 H => ?_)
   ·refine sr (f2 (e_lit0 Cond cC ty46) fun a37 c38 => (aH rfl (aH (v := .bool (false)) rfl (nl (bI (rT (?_)))))))
    obtain rfl := si H
    exact back2 ((a37, c38), ()) rfl (ResV.tmp (v := .slice a37 (([] : List Cond).length) c38) rfl) (ResV.tmp (v := .bool (false)) rfl) rfl bR (.cons aA .nil)
   ·refine bA (nT (sr (aF rfl (aH rfl (aH (v := .bool (true)) rfl (nl (bI ?_)))))))
    obtain rfl := si H
    exact back2 (y13, ()) rfl (ResV.tmp (v := .slice y13.1 x7.length y13.2) rfl) (ResV.tmp (v := .bool (true)) rfl) rfl bR (.cons aA .nil)
noncomputable def p_spec_l6Open (v0 : (List UInt8)) : Option (L6Rd) := cond (decide (2000 < (v0.length : Int))) (gd (sl2 0 2000 v0.length) <| some (((v0.take 2000).drop 0), 0)) (some (v0, 0))
theorem c_spec_l6Open {r : L6Rd} (v0 : (List UInt8)) (x_v0 : Option Addr × Nat) (H : p_spec_l6Open v0 = some r) : Fn' prog 39 #[.slice x_v0.1 v0.length x_v0.2] [imm (.slice x_v0.1 v0.length x_v0.2) v0] [] (ι := Nat × ((Option Addr × Nat) × Unit)) (fun x => .pointer (some ⟨x.1, 0, none⟩)) (fun x => [imm (.slice x.2.1.1 r.1.length x.2.1.2) r.1]) (fun x => [box x.1 72 [.slice x.2.1.1 r.1.length x.2.1.2, .int .i64 (r.2)]]) := by
 refine cof (args := [_]) func39 ntmps39 fun c => ?_
 unfold p_spec_l6Open at H
 refine sr (aH rfl (nl (aD (sr (aF rfl (aG (bK 5 cE rfl) (aG (p_gtr rfl rfl) (nl (cH H rfl (fun h1 H => ?_) (fun h1 H => ?_))))))))))
 ·refine aO (aF rfl (gdo H fun h2 H => (aI (v := .slice (subA x_v0.1 x_v0.2 0 (Enc.sz UInt8)) (((v0.take 2000).drop 0).length) (x_v0.2 - 0)) (q_slF (l := v0) (α := UInt8) 0 2000 cE ty5 rfl rfl (fun _ => rfl) rfl (fun h => nomatch h) h2 (aL aQ)) (aH rfl (nl (sr (aF rfl (aG (v := .agg #[.slice (subA x_v0.1 x_v0.2 0 (Enc.sz UInt8)) (((v0.take 2000).drop 0).length) (x_v0.2 - 0), .int .i64 (0)]) (p_buildS (vs := [(0, .slice (subA x_v0.1 x_v0.2 0 (Enc.sz UInt8)) (((v0.take 2000).drop 0).length) (x_v0.2 - 0))]) (cs := #[.slice (subA x_v0.1 x_v0.2 0 (Enc.sz UInt8)) (((v0.take 2000).drop 0).length) (x_v0.2 - 0), .int .i64 (0)]) ty72 pl72 rfl rfl) (f1 (e_box (t := 72) rfl) fun g3 => (aH rfl (nl ?_)))))))))))
  refine bI ?_
  obtain rfl := si H
  exact back1 (g3, ((subA x_v0.1 x_v0.2 0 (Enc.sz UInt8), (x_v0.2 - 0)), ())) rfl (ResV.tmp (v := .pointer (some ⟨g3, 0, none⟩)) rfl) rfl (Ents.cons (Ent.sub aQ h2.le h2.lt) bR) (.cons aA .nil)
 ·refine bA (nT (sr (aF rfl (aG (v := .agg #[.slice x_v0.1 v0.length x_v0.2, .int .i64 (0)]) (p_buildS (vs := [(0, .slice x_v0.1 v0.length x_v0.2)]) (cs := #[.slice x_v0.1 v0.length x_v0.2, .int .i64 (0)]) ty72 pl72 rfl rfl) (f1 (e_box (t := 72) rfl) fun g4 => (aH rfl (nl (bI ?_))))))))
  obtain rfl := si H
  exact back1 (g4, (x_v0, ())) rfl (ResV.tmp (v := .pointer (some ⟨g4, 0, none⟩)) rfl) rfl (Ents.cons aQ bR) (.cons aA .nil)
noncomputable def p_spec_l6Rd_pick (v0 : L6Rd) (v1 : Int) : Option (Int × Int) := gd (I64 (v0.2 + 1)) <| bd (cond (decide (v1 < 1)) (some (true)) (some (decide ((v0.1.length : Int) = 0)))) fun b2 => cond (b2) (some (0, v0.2 + 1)) (gd (I64 ((v0.2 + 1) - 1)) <| cond (decide (((v0.2 + 1) - 1) < (v0.1.length : Int))) (gd (ix ((v0.2 + 1) - 1) v0.1.length) <| gd (v1 ≠ 0) <| gd (I64 (((nth v0.1 (((v0.2 + 1) - 1).toNat)).toNat : Int).tmod v1)) <| some (((nth v0.1 (((v0.2 + 1) - 1).toNat)).toNat : Int).tmod v1, v0.2 + 1)) (gd ((v0.1.length : Int) ≠ 0) <| gd (I64 (((v0.2 + 1) - 1).tmod (v0.1.length : Int))) <| gd (ix (((v0.2 + 1) - 1).tmod (v0.1.length : Int)) v0.1.length) <| gd (I64 (((nth v0.1 ((((v0.2 + 1) - 1).tmod (v0.1.length : Int)).toNat)).toNat : Int) * 131)) <| gd (I64 (((v0.2 + 1) - 1) * 7)) <| gd (I64 ((((v0.2 + 1) - 1) * 7) + 3)) <| gd (I64 (((((v0.2 + 1) - 1) * 7) + 3).tmod (v0.1.length : Int))) <| gd (ix (((((v0.2 + 1) - 1) * 7) + 3).tmod (v0.1.length : Int)) v0.1.length) <| gd (I64 (((nth v0.1 ((((((v0.2 + 1) - 1) * 7) + 3).tmod (v0.1.length : Int)).toNat)).toNat : Int) * 1117)) <| gd (I64 ((((nth v0.1 ((((v0.2 + 1) - 1).tmod (v0.1.length : Int)).toNat)).toNat : Int) * 131) + (((nth v0.1 ((((((v0.2 + 1) - 1) * 7) + 3).tmod (v0.1.length : Int)).toNat)).toNat : Int) * 1117))) <| gd (I64 (((v0.2 + 1) - 1) * 29)) <| gd (I64 (((((nth v0.1 ((((v0.2 + 1) - 1).tmod (v0.1.length : Int)).toNat)).toNat : Int) * 131) + (((nth v0.1 ((((((v0.2 + 1) - 1) * 7) + 3).tmod (v0.1.length : Int)).toNat)).toNat : Int) * 1117)) + (((v0.2 + 1) - 1) * 29))) <| gd (I64 (((v0.2 + 1) - 1).tdiv (v0.1.length : Int))) <| gd (I64 ((((v0.2 + 1) - 1).tdiv (v0.1.length : Int)) * 53)) <| gd (I64 ((((((nth v0.1 ((((v0.2 + 1) - 1).tmod (v0.1.length : Int)).toNat)).toNat : Int) * 131) + (((nth v0.1 ((((((v0.2 + 1) - 1) * 7) + 3).tmod (v0.1.length : Int)).toNat)).toNat : Int) * 1117)) + (((v0.2 + 1) - 1) * 29)) + ((((v0.2 + 1) - 1).tdiv (v0.1.length : Int)) * 53))) <| gd (I64 (((((((nth v0.1 ((((v0.2 + 1) - 1).tmod (v0.1.length : Int)).toNat)).toNat : Int) * 131) + (((nth v0.1 ((((((v0.2 + 1) - 1) * 7) + 3).tmod (v0.1.length : Int)).toNat)).toNat : Int) * 1117)) + (((v0.2 + 1) - 1) * 29)) + ((((v0.2 + 1) - 1).tdiv (v0.1.length : Int)) * 53)).tdiv 64)) <| gd (nn ((((((nth v0.1 ((((v0.2 + 1) - 1).tmod (v0.1.length : Int)).toNat)).toNat : Int) * 131) + (((nth v0.1 ((((((v0.2 + 1) - 1) * 7) + 3).tmod (v0.1.length : Int)).toNat)).toNat : Int) * 1117)) + (((v0.2 + 1) - 1) * 29)) + ((((v0.2 + 1) - 1).tdiv (v0.1.length : Int)) * 53))) <| gd (nn (((((((nth v0.1 ((((v0.2 + 1) - 1).tmod (v0.1.length : Int)).toNat)).toNat : Int) * 131) + (((nth v0.1 ((((((v0.2 + 1) - 1) * 7) + 3).tmod (v0.1.length : Int)).toNat)).toNat : Int) * 1117)) + (((v0.2 + 1) - 1) * 29)) + ((((v0.2 + 1) - 1).tdiv (v0.1.length : Int)) * 53)).tdiv 64)) <| gd (v1 ≠ 0) <| gd (I64 ((xr ((((((nth v0.1 ((((v0.2 + 1) - 1).tmod (v0.1.length : Int)).toNat)).toNat : Int) * 131) + (((nth v0.1 ((((((v0.2 + 1) - 1) * 7) + 3).tmod (v0.1.length : Int)).toNat)).toNat : Int) * 1117)) + (((v0.2 + 1) - 1) * 29)) + ((((v0.2 + 1) - 1).tdiv (v0.1.length : Int)) * 53)) (((((((nth v0.1 ((((v0.2 + 1) - 1).tmod (v0.1.length : Int)).toNat)).toNat : Int) * 131) + (((nth v0.1 ((((((v0.2 + 1) - 1) * 7) + 3).tmod (v0.1.length : Int)).toNat)).toNat : Int) * 1117)) + (((v0.2 + 1) - 1) * 29)) + ((((v0.2 + 1) - 1).tdiv (v0.1.length : Int)) * 53)).tdiv 64)).tmod v1)) <| some ((xr ((((((nth v0.1 ((((v0.2 + 1) - 1).tmod (v0.1.length : Int)).toNat)).toNat : Int) * 131) + (((nth v0.1 ((((((v0.2 + 1) - 1) * 7) + 3).tmod (v0.1.length : Int)).toNat)).toNat : Int) * 1117)) + (((v0.2 + 1) - 1) * 29)) + ((((v0.2 + 1) - 1).tdiv (v0.1.length : Int)) * 53)) (((((((nth v0.1 ((((v0.2 + 1) - 1).tmod (v0.1.length : Int)).toNat)).toNat : Int) * 131) + (((nth v0.1 ((((((v0.2 + 1) - 1) * 7) + 3).tmod (v0.1.length : Int)).toNat)).toNat : Int) * 1117)) + (((v0.2 + 1) - 1) * 29)) + ((((v0.2 + 1) - 1).tdiv (v0.1.length : Int)) * 53)).tdiv 64)).tmod v1, v0.2 + 1)))
theorem c_spec_l6Rd_pick {r : Int × Int} (g_v0 : Nat) (v0 : L6Rd) (x_v0 : (Option Addr × Nat) × Unit) (v1 : Int) (H : p_spec_l6Rd_pick v0 v1 = some r) : Fn' prog 41 #[.pointer (some ⟨g_v0, 0, none⟩), .int .i64 (v1)] [imm (.slice x_v0.1.1 v0.1.length x_v0.1.2) v0.1] [box g_v0 72 [.slice x_v0.1.1 v0.1.length x_v0.1.2, .int .i64 (v0.2)]] (ι := Unit) (fun _ => .int .i64 (r.1)) (fun _ => []) (fun _ => [box g_v0 72 [.slice x_v0.1.1 v0.1.length x_v0.1.2, .int .i64 (r.2)]]) := by
 refine cof (args := [_, _]) func41 ntmps41 fun c => ?_
 unfold p_spec_l6Rd_pick at H
 refine sr (aH (v := .int .i64 (0)) rfl (nl (sr (aF rfl (aF rfl (aG (p_nil rfl) (aG (bP fa72_1 rfl rfl) (aI (bB ty3 rfl aB rfl) (gdo H fun h1 H => (aG (bJ rfl rfl h1) ?_))))))))))
 refine aG (p_nil rfl) (aG (bP fa72_1 rfl rfl) (stb (cs' := [.slice x_v0.1.1 v0.1.length x_v0.1.2, .int .i64 (v0.2 + 1)]) ty3 bV (nl (aD (bdo H fun b2 j3 H => (bY [(24, .bool (b2)), (0, .pointer (some ⟨g_v0, 0, none⟩)), (1, .int .i64 (v1))] ?_ ?_))))))
 ·refine cA [(0, .pointer (some ⟨g_v0, 0, none⟩)), (1, .int .i64 (v1))] ⟨rfl, rfl, trivial⟩ (aV rfl (aR (bS rfl rfl) ?_))
  rcases aK (decide (v1 < 1)) with h4 | h4
  ·have j3 := cdT h4 j3
   refine aW (aE rfl) h4 ?_
   iterate 6 refine aX rfl ?_
   refine aR (v := .bool (true)) (bH rfl rfl) ?_
   obtain rfl := si j3
   show At _ _ _ _ _ _
   exact n1 ⟨rfl, rfl, rfl, trivial⟩
  ·have j3 := cdF h4 j3
   refine aW (aE rfl) h4 (aS rfl (aE rfl) (aS rfl (p_nil rfl) (aS rfl (bP fa72_0 rfl rfl) (aU rfl (bB ty33 rfl aB rfl) (aS rfl (bK 5 cE rfl) (aS rfl (bT rfl rfl) (aR (bG rfl rfl) ?_)))))))
   obtain rfl := si j3
   show At _ _ _ _ _ _
   exact n1 ⟨rfl, rfl, rfl, trivial⟩
 refine cH H rfl (fun h5 H => ?_) (fun h5 H => ?_)
 ·refine sr (aH (v := .int .i64 (0)) rfl (nl (bI (rT (?_)))))
  obtain rfl := si H
  exact bk (.cons aA .nil)
 ·refine bA (nT (sr (aF rfl (aG (p_nil rfl) (aG (bP fa72_1 rfl rfl) (aI (bB ty3 rfl aB rfl) (gdo H fun h6 H => (aG (p_sub rfl rfl h6) (aH rfl (nl ?_))))))))))
  refine aD (sr (aF rfl (aF rfl (aG (p_nil rfl) (aG (bP fa72_0 rfl rfl) (aI (bB ty33 rfl aB rfl) (aG (bK 5 cE rfl) (aG (bS rfl rfl) (nl (cH H rfl (fun h7 H => ?_) (fun h7 H => ?_)))))))))))
  ·refine sr (aF rfl (aG (p_nil rfl) (aG (bP fa72_0 rfl rfl) (aI (bB ty33 rfl aB rfl) (aF rfl (gdo H fun h8 H => (aI (bM cE ty5 rfl rfl h8 rfl (aM (aL aQ))) (aI (bO (i := ((v0.2 + 1) - 1).toNat) (j := 0) ty5 rfl (aM (aL aQ)) h8.lt rfl) (aG (p_i8 cG cD rfl) ?_)))))))))
   refine aF rfl (gdo H fun h9 H => (gdo H fun h10 H => (aG (p_rem rfl rfl h9 h10) (aH rfl (nl (bI (rT (?_))))))))
   obtain rfl := si H
   exact back1 () rfl (ResV.tmp (v := .int .i64 (((nth v0.1 (((v0.2 + 1) - 1).toNat)).toNat : Int).tmod v1)) rfl) rfl bR (.cons aA .nil)
  ·refine bA (nT (aD (tLinS [(5, .int .i64 ((v0.2 + 1) - 1)), (0, .pointer (some ⟨g_v0, 0, none⟩)), (1, .int .i64 (v1))] mixed (.inr (by kernel_rfl)) ⟨rfl, rfl, rfl, trivial⟩ rfl (aV rfl (aR (p_nil rfl) (aR (bP fa72_0 rfl rfl) (aT (bB ty33 rfl aB rfl) (aV rfl (aV rfl (aR (p_nil rfl) ?_))))))))))
   refine aR (bP fa72_0 rfl rfl) (aT (bB ty33 rfl aB rfl) (aR (bK 5 cE rfl) (gdo H fun h11 H => (gdo H fun h12 H => (aR (p_rem rfl rfl h11 h12) (gdo H fun h13 H => (aT (bM cE ty5 rfl rfl h13 rfl (aM (aL aQ))) (aT (bO (i := (((v0.2 + 1) - 1).tmod (v0.1.length : Int)).toNat) (j := 0) ty5 rfl (aM (aL aQ)) h13.lt rfl) (aR (p_i8 cG cD rfl) ?_)))))))))
   refine gdo H fun h14 H => (aR (p_mul rfl rfl h14) (aV rfl (aR (p_nil rfl) (aR (bP fa72_0 rfl rfl) (aT (bB ty33 rfl aB rfl) (aV rfl (gdo H fun h15 H => (aR (p_mul rfl rfl h15) (gdo H fun h16 H => ?_)))))))))
   refine aR (bJ rfl rfl h16) (aV rfl (aR (p_nil rfl) (aR (bP fa72_0 rfl rfl) (aT (bB ty33 rfl aB rfl) (aR (bK 5 cE rfl) (gdo H fun h17 H => (aR (p_rem rfl rfl h11 h17) (gdo H fun h18 H => (aT (bM cE ty5 rfl rfl h18 rfl (aM (aL aQ))) ?_)))))))))
   refine aT (bO (i := (((((v0.2 + 1) - 1) * 7) + 3).tmod (v0.1.length : Int)).toNat) (j := 0) ty5 rfl (aM (aL aQ)) h18.lt rfl) (aR (p_i8 cG cD rfl) (gdo H fun h19 H => (aR (p_mul rfl rfl h19) (gdo H fun h20 H => (aR (bJ rfl rfl h20) (aV rfl (gdo H fun h21 H => (aR (p_mul rfl rfl h21) (gdo H fun h22 H => ?_)))))))))
   refine aR (bJ rfl rfl h22) (aV rfl (aV rfl (aR (p_nil rfl) (aR (bP fa72_0 rfl rfl) (aT (bB ty33 rfl aB rfl) (aR (bK 5 cE rfl) (gdo H fun h23 H => (aR (p_quo rfl rfl h11 h23) (gdo H fun h24 H => ?_)))))))))
   refine aR (p_mul rfl rfl h24) (gdo H fun h25 H => (aR (bJ rfl rfl h25) (aR (p_assign rfl) (nT (sr (aF rfl (aF rfl (gdo H fun h26 H => (aG (p_quo rfl rfl (by decide) h26) ?_)))))))))
   refine gdo H fun h27 H => (gdo H fun h28 H => (aG (v := .int .i64 (xr ((((((nth v0.1 ((((v0.2 + 1) - 1).tmod (v0.1.length : Int)).toNat)).toNat : Int) * 131) + (((nth v0.1 ((((((v0.2 + 1) - 1) * 7) + 3).tmod (v0.1.length : Int)).toNat)).toNat : Int) * 1117)) + (((v0.2 + 1) - 1) * 29)) + ((((v0.2 + 1) - 1).tdiv (v0.1.length : Int)) * 53)) (((((((nth v0.1 ((((v0.2 + 1) - 1).tmod (v0.1.length : Int)).toNat)).toNat : Int) * 131) + (((nth v0.1 ((((((v0.2 + 1) - 1) * 7) + 3).tmod (v0.1.length : Int)).toNat)).toNat : Int) * 1117)) + (((v0.2 + 1) - 1) * 29)) + ((((v0.2 + 1) - 1).tdiv (v0.1.length : Int)) * 53)).tdiv 64))) (p_xor rfl rfl h27 h28) (aH rfl (nl (sr (aF rfl (aF rfl (gdo H fun h29 H => (gdo H fun h30 H => (aG (p_rem rfl rfl h29 h30) ?_))))))))))
   refine aH rfl (nl (bI ?_))
   obtain rfl := si H
   exact back1 () rfl (ResV.tmp (v := .int .i64 ((xr ((((((nth v0.1 ((((v0.2 + 1) - 1).tmod (v0.1.length : Int)).toNat)).toNat : Int) * 131) + (((nth v0.1 ((((((v0.2 + 1) - 1) * 7) + 3).tmod (v0.1.length : Int)).toNat)).toNat : Int) * 1117)) + (((v0.2 + 1) - 1) * 29)) + ((((v0.2 + 1) - 1).tdiv (v0.1.length : Int)) * 53)) (((((((nth v0.1 ((((v0.2 + 1) - 1).tmod (v0.1.length : Int)).toNat)).toNat : Int) * 131) + (((nth v0.1 ((((((v0.2 + 1) - 1) * 7) + 3).tmod (v0.1.length : Int)).toNat)).toNat : Int) * 1117)) + (((v0.2 + 1) - 1) * 29)) + ((((v0.2 + 1) - 1).tdiv (v0.1.length : Int)) * 53)).tdiv 64)).tmod v1)) rfl) rfl bR (.cons aA .nil)
noncomputable def p_spec_l6Rd_of (v0 : L6Rd) (v1 : (List ByteArray)) : Option (ByteArray × Int) := bd (p_spec_l6Rd_pick v0 (v1.length : Int)) fun r1 => gd (ix r1.1 v1.length) <| some (nth v1 r1.1.toNat, r1.2)
theorem c_spec_l6Rd_of {r : ByteArray × Int} (g_v0 : Nat) (v0 : L6Rd) (x_v0 : (Option Addr × Nat) × Unit) (v1 : (List ByteArray)) (x_v1 : Option Addr × Nat) (H : p_spec_l6Rd_of v0 v1 = some r) : Fn' prog 42 #[.pointer (some ⟨g_v0, 0, none⟩), .slice x_v1.1 v1.length x_v1.2] [imm (.slice x_v0.1.1 v0.1.length x_v0.1.2) v0.1, imm (.slice x_v1.1 v1.length x_v1.2) v1] [box g_v0 72 [.slice x_v0.1.1 v0.1.length x_v0.1.2, .int .i64 (v0.2)]] (ι := Unit) (fun _ => .string (r.1)) (fun _ => []) (fun _ => [box g_v0 72 [.slice x_v0.1.1 v0.1.length x_v0.1.2, .int .i64 (r.2)]]) := by
 refine cof (args := [_, _]) func42 ntmps42 fun c => ?_
 unfold p_spec_l6Rd_of at H
 refine sr (aH (v := .string ((⟨#[]⟩ : ByteArray))) rfl (nl (sr (aF rfl (aF rfl (aF rfl (aG (bK 9 cF rfl) (bdo H fun r1 h2 H => (f1 (bQ (c_spec_l6Rd_pick g_v0 v0 (x_v0.1, ()) (v1.length : Int) h2) (Solo.box aZ) (fun _ => (Solo.box aZ)) rfl (.cons aA .nil) (aC (aL aQ) aN)) fun u3 => (gdo H fun h4 H => ?_))))))))))
 refine aI (bM cF ty9 rfl rfl h4 rfl (aM (aL aQ.s))) (aI (bO (i := r1.1.toNat) (j := 0) ty9 rfl (aM (aL aQ.s)) h4.lt rfl) (aH rfl (nl ?_)))
 obtain rfl := si H
 exact bI (bk (.cons aA .nil))
noncomputable def p_spec_l71Tag (v0 : L6Rd) : Option (Tag × Int) := bd (p_spec_l6Rd_of v0 ([(⟨#[97]⟩ : ByteArray), (⟨#[98]⟩ : ByteArray), (⟨#[99]⟩ : ByteArray)] : List ByteArray)) fun r4 => bd (p_spec_l6Rd_of (v0.1, r4.2) ([(⟨#[112]⟩ : ByteArray), (⟨#[113]⟩ : ByteArray), (⟨#[122]⟩ : ByteArray)] : List ByteArray)) fun r9 => some ((r4.1, r9.1), r9.2)
theorem c_spec_l71Tag {r : Tag × Int} (g_v0 : Nat) (v0 : L6Rd) (x_v0 : (Option Addr × Nat) × Unit) (H : p_spec_l71Tag v0 = some r) : Fn' prog 48 #[.pointer (some ⟨g_v0, 0, none⟩)] [imm (.slice x_v0.1.1 v0.1.length x_v0.1.2) v0.1] [box g_v0 72 [.slice x_v0.1.1 v0.1.length x_v0.1.2, .int .i64 (v0.2)]] (ι := Unit) (fun _ => .agg #[.string (r.1.1), .string (r.1.2)]) (fun _ => []) (fun _ => [box g_v0 72 [.slice x_v0.1.1 v0.1.length x_v0.1.2, .int .i64 (r.2)]]) := by
 refine cof (args := [_]) func48 ntmps48 fun c => ?_
 unfold p_spec_l71Tag at H
 refine sr (f1 (e_alloc ty44) fun g1 => (nl (sr (aF rfl (f2 (e_litT (α := ByteArray) (vs := [(0, .string ((⟨#[97]⟩ : ByteArray))), (1, .string ((⟨#[98]⟩ : ByteArray))), (2, .string ((⟨#[99]⟩ : ByteArray)))]) [(⟨#[97]⟩ : ByteArray), (⟨#[98]⟩ : ByteArray), (⟨#[99]⟩ : ByteArray)] rfl (fun _ => rfl) (fun _ _ => by repeat constructor) cF ty9 rfl (by decide) (by decide) (by kernel_rfl)) fun a2 c3 => (bdo H fun r4 h5 H => (f1 (bQ (c_spec_l6Rd_of g_v0 v0 (x_v0.1, ()) ([(⟨#[97]⟩ : ByteArray), (⟨#[98]⟩ : ByteArray), (⟨#[99]⟩ : ByteArray)] : List ByteArray) (a2, c3) h5) (Solo.box aZ) (fun _ => (Solo.box aZ)) rfl (.cons dl2 .nil) (aC (aL aQ) (aC (bE aB) aN))) fun u6 => (aF rfl (f2 (e_litT (α := ByteArray) (vs := [(0, .string ((⟨#[112]⟩ : ByteArray))), (1, .string ((⟨#[113]⟩ : ByteArray))), (2, .string ((⟨#[122]⟩ : ByteArray)))]) [(⟨#[112]⟩ : ByteArray), (⟨#[113]⟩ : ByteArray), (⟨#[122]⟩ : ByteArray)] rfl (fun _ => rfl) (fun _ _ => by repeat constructor) cF ty9 rfl (by decide) (by decide) (by kernel_rfl)) fun a7 c8 => ?_)))))))))
 refine bdo H fun r9 h10 H => (f1 (bQ (c_spec_l6Rd_of g_v0 (v0.1, r4.2) (x_v0.1, ()) ([(⟨#[112]⟩ : ByteArray), (⟨#[113]⟩ : ByteArray), (⟨#[122]⟩ : ByteArray)] : List ByteArray) (a7, c8) h10) (Solo.box aZ) (fun _ => (Solo.box aZ)) rfl (.cons dl1 .nil) (aC (aL aQ) (aC (bE aB) aN))) fun u11 => (aG (v := .agg #[.string (r4.1), .string (r9.1)]) (p_buildS (vs := [(0, .string (r4.1)), (1, .string (r9.1))]) (cs := #[.string (r4.1), .string (r9.1)]) ty44 pl44 rfl rfl) (stb (cs' := [.string (r4.1), .string (r9.1)]) ty44 up3 (nl (bI ?_)))))
 obtain rfl := si H
 exact back1 () rfl (ResV.agg ty44 rfl hs3 rfl) rfl bR (.cons aA .nil)
noncomputable def p_spec_l71Filter_b0 (v0 : L6Rd) (Q10 : Int × (List Cond) × Int) : Option ((Int × (List Cond) × Int) ⊕ (Int × (List Cond))) := cond (decide (0 < Q10.2.2)) (bd (p_spec_l71Tag (v0.1, Q10.1)) fun r19 => bd (p_spec_l6Rd_pick (v0.1, r19.2) 3) fun r22 => gd (room (Q10.2.1.length + 1)) <| gd (I64 (Q10.2.2 - 1)) <| some (.inl (r22.2, (Q10.2.1 ++ [(r19.1, (decide (r22.1 = 0)))]), Q10.2.2 - 1))) (some (.inr (Q10.1, Q10.2.1)))
noncomputable def p_spec_l71Filter_b1 (v0 : L6Rd) (Q38 : Int × (List Cond)) : Option ((Int × (List Cond)) ⊕ ((List Cond) × Int)) := cond (decide ((Q38.2.length : Int) ≤ 3)) (bd (p_spec_l71Tag (v0.1, Q38.1)) fun r47 => gd (room (Q38.2.length + 1)) <| some (.inl (r47.2, (Q38.2 ++ [(r47.1, false)])))) (some (.inr (Q38.2, Q38.1)))
noncomputable def p_spec_l71Filter (v0 : L6Rd) : Option ((List Cond) × Int) := bd (p_spec_l6Rd_pick v0 3) fun r3 => bd (lp (p_spec_l71Filter_b0 v0) (r3.2, ([] : List Cond), r3.1)) fun x6 => bd (p_spec_l6Rd_pick (v0.1, x6.1) 30) fun r30 => cond (decide (r30.1 = 0)) (bd (lp (p_spec_l71Filter_b1 v0) (r30.2, x6.2)) fun x34 => some (x34.1, x34.2)) (cond (decide (r30.1 = 1)) (gd (room (x6.2.length + 1)) <| some (x6.2 ++ [(((⟨#[101]⟩ : ByteArray), (⟨#[112]⟩ : ByteArray)), false)], r30.2)) (some (x6.2, r30.2)))
theorem c_spec_l71Filter {r : (List Cond) × Int} (g_v0 : Nat) (v0 : L6Rd) (x_v0 : (Option Addr × Nat) × Unit) (H : p_spec_l71Filter v0 = some r) : Fn' prog 47 #[.pointer (some ⟨g_v0, 0, none⟩)] [imm (.slice x_v0.1.1 v0.1.length x_v0.1.2) v0.1] [box g_v0 72 [.slice x_v0.1.1 v0.1.length x_v0.1.2, .int .i64 (v0.2)]] (ι := Option Addr × Nat) (fun x => .slice x.1 r.1.length x.2) (fun _ => []) (fun x => [tree (.slice x.1 r.1.length x.2) r.1, box g_v0 72 [.slice x_v0.1.1 v0.1.length x_v0.1.2, .int .i64 (r.2)]]) := by
 refine cof (args := [_]) func47 ntmps47 fun c => ?_
 unfold p_spec_l71Filter at H
 refine sr (aH (v := .slice none 0 0) rfl (nl (sr (f2 (e_lit0 Cond cC ty46) fun a1 c2 => (aH rfl (nl (aD (sr (aF rfl (bdo H fun r3 h4 H => (f1 (bQ (c_spec_l6Rd_pick g_v0 v0 (x_v0.1, ()) 3 h4) (Solo.box aZ) (fun _ => (Solo.box aZ)) rfl (.cons dl1 .nil) (aC (aL aQ) aN)) fun u5 => (aH rfl (nl ?_)))))))))))))
 refine bdo H fun x6 hx7 H => (tMidNC (ι := Option Addr × Nat) (fun ψ => [(0, .pointer (some ⟨g_v0, 0, none⟩)), (3, .slice ψ.1 x6.2.length ψ.2)]) (fun ψ => [box g_v0 72 [.slice x_v0.1.1 v0.1.length x_v0.1.2, .int .i64 (x6.1)], tree (.slice ψ.1 x6.2.length ψ.2) x6.2]) ?_ ?_)
 ·refine aP (bZ hx7 (a1, c2) (fun Q10 z11 => [(0, .pointer (some ⟨g_v0, 0, none⟩)), (3, .slice z11.1 Q10.2.1.length z11.2), (4, .int .i64 (Q10.2.2))]) (fun Q10 z11 => [box g_v0 72 [.slice x_v0.1.1 v0.1.length x_v0.1.2, .int .i64 (Q10.1)], tree (.slice z11.1 Q10.2.1.length z11.2) Q10.2.1]) (.cons aA (.cons aA .nil)) ?_)
  rintro _ Q10 z11 t13 H1 hi14 hb15
  unfold p_spec_l71Filter_b0 at H1
  refine aD (sr (aF rfl (aG (p_gtr rfl rfl) (nl (cH H1 rfl (fun h18 H1 => ?_) (fun h18 H1 => ?_))))))
  ·refine bA (nT (aD (aP (aO (aF rfl (aF rfl (bdo H1 fun r19 h20 H1 => (f1 (bQ (c_spec_l71Tag g_v0 (v0.1, Q10.1) (x_v0.1, ()) h20) (Solo.box aZ) (fun _ => (Solo.box aZ)) rfl (.cons aA .nil) (aC (aL aQ) aN)) fun u21 => (aF rfl (bdo H1 fun r22 h23 H1 => ?_))))))))))
   refine f1 (bQ (c_spec_l6Rd_pick g_v0 (v0.1, r19.2) (x_v0.1, ()) 3 h23) (Solo.box aZ) (fun _ => (Solo.box aZ)) rfl (.cons aA .nil) (aC (aL aQ) aN)) fun u24 => (aG (bT rfl rfl) (aG (v := .agg #[.string (r19.1.1), .string (r19.1.2), .bool (decide (r22.1 = 0))]) (p_buildS (vs := [(0, .agg #[.string (r19.1.1), .string (r19.1.2)]), (1, .bool (decide (r22.1 = 0)))]) (cs := #[.string (r19.1.1), .string (r19.1.2), .bool (decide (r22.1 = 0))]) ty46 pl46 rfl rfl) (f1 (e_lit (vs := [(0, .agg #[.string (r19.1.1), .string (r19.1.2), .bool (decide (r22.1 = 0))])]) [.string (r19.1.1), .string (r19.1.2), .bool (decide (r22.1 = 0))] cC ty46 rfl (by decide) (by decide) (by kernel_rfl)) fun g25 => (gdo H1 fun h28 H1 => (f2 (e_app1 (l := Q10.2.1) (α := Cond) (r19.1, (decide (r22.1 = 0))) (((), ()), ()) cC ty46 rfl rfl (h28.b (by decide)) h28.x rfl (bU _) (.cons dl2 (.cons aA .nil))) fun a26 c27 => (aH rfl (aJ (nB (nT (aO (aF rfl ?_)))))))))))
   exact gdo H1 fun h29 H1 => (aG (p_sub rfl rfl h29) (aH rfl (aJ (nLI (a26, c27) (hi14 _ (sm H1)) (.cons dl1 (.cons aA .nil))))))
  ·refine bX (xT (xT (xE (?_))))
   obtain rfl := hb15 _ (sm H1)
   exact nMC (z11.1, z11.2) ⟨rfl, rfl, trivial⟩ bL (.cons aA (.cons aA .nil))
 ·intro y12
  show At _ _ [(0, .pointer (some ⟨g_v0, 0, none⟩)), (3, .slice y12.1 x6.2.length y12.2)] _ [box g_v0 72 [.slice x_v0.1.1 v0.1.length x_v0.1.2, .int .i64 (x6.1)], tree (.slice y12.1 x6.2.length y12.2) x6.2] _
  refine nT (aD (sr (aF rfl (bdo H fun r30 h31 H => (f1 (bQ (c_spec_l6Rd_pick g_v0 (v0.1, x6.1) (x_v0.1, ()) 30 h31) (Solo.box aZ) (fun _ => (Solo.box aZ)) rfl (.cons aA .nil) (aC (aL aQ) aN)) fun u32 => (nl (aP (sr (aG (bT rfl rfl) (aH rfl (nl ?_)))))))))))
  refine cH H rfl (fun h33 H => ?_) (fun h33 H => ?_)
  ·refine bdo H fun x34 hx35 H => (tMidNC (ι := Option Addr × Nat) (fun ψ => [(3, .slice ψ.1 x34.1.length ψ.2)]) (fun ψ => [tree (.slice ψ.1 x34.1.length ψ.2) x34.1, box g_v0 72 [.slice x_v0.1.1 v0.1.length x_v0.1.2, .int .i64 (x34.2)]]) ?_ ?_)
   ·refine aP (bZ hx35 (y12.1, y12.2) (fun Q38 z39 => [(0, .pointer (some ⟨g_v0, 0, none⟩)), (3, .slice z39.1 Q38.2.length z39.2)]) (fun Q38 z39 => [box g_v0 72 [.slice x_v0.1.1 v0.1.length x_v0.1.2, .int .i64 (Q38.1)], tree (.slice z39.1 Q38.2.length z39.2) Q38.2]) (.cons aA (.cons aA .nil)) ?_)
    rintro _ Q38 z39 t41 H1 hi42 hb43
    unfold p_spec_l71Filter_b1 at H1
    refine aD (sr (aF rfl (aG (bK 46 cC rfl) (aG (p_leq rfl rfl) (nl (cH H1 rfl (fun h46 H1 => ?_) (fun h46 H1 => ?_)))))))
    ·refine bA (nT (aP (aO (aF rfl (aF rfl (bdo H1 fun r47 h48 H1 => (f1 (bQ (c_spec_l71Tag g_v0 (v0.1, Q38.1) (x_v0.1, ()) h48) (Solo.box aZ) (fun _ => (Solo.box aZ)) rfl (.cons aA .nil) (aC (aL aQ) aN)) fun u49 => (aG (v := .agg #[.string (r47.1.1), .string (r47.1.2), .bool (false)]) (p_buildS (vs := [(0, .agg #[.string (r47.1.1), .string (r47.1.2)])]) (cs := #[.string (r47.1.1), .string (r47.1.2), .bool (false)]) ty46 pl46 rfl rfl) (f1 (e_lit (vs := [(0, .agg #[.string (r47.1.1), .string (r47.1.2), .bool (false)])]) [.string (r47.1.1), .string (r47.1.2), .bool (false)] cC ty46 rfl (by decide) (by decide) (by kernel_rfl)) fun g50 => ?_)))))))))
     exact gdo H1 fun h53 H1 => (f2 (e_app1 (l := Q38.2) (α := Cond) (r47.1, false) (((), ()), ()) cC ty46 rfl rfl (h53.b (by decide)) h53.x rfl (bU _) (.cons dl2 (.cons aA .nil))) fun a51 c52 => (aH rfl (aJ (nB (nLI (a51, c52) (hi42 _ (sm H1)) (.cons dl1 (.cons aA .nil)) )))))
    ·refine bX (xT (xT (xE (?_))))
     obtain rfl := hb43 _ (sm H1)
     exact nMC (z39.1, z39.2) ⟨rfl, trivial⟩ bL (.cons dl1 (.cons aA .nil))
   ·intro y40
    show At _ _ [(3, .slice y40.1 x34.1.length y40.2)] _ [tree (.slice y40.1 x34.1.length y40.2) x34.1, box g_v0 72 [.slice x_v0.1.1 v0.1.length x_v0.1.2, .int .i64 (x34.2)]] _
    refine nB (nT (sr (aF rfl (aH rfl (nl (bI ?_))))))
    obtain rfl := si H
    exact back1 y40 rfl (ResV.tmp (v := .slice y40.1 x34.1.length y40.2) rfl) rfl bR (.cons aA (.cons aA .nil))
  ·refine sr (aG (bT rfl rfl) (aH rfl (nl (cH H rfl (fun h54 H => ?_) (fun h54 H => ?_)))))
   ·refine aO (aF rfl (aG (v := .agg #[.string ((⟨#[101]⟩ : ByteArray)), .string ((⟨#[112]⟩ : ByteArray))]) (p_buildS (vs := [(0, .string ((⟨#[101]⟩ : ByteArray))), (1, .string ((⟨#[112]⟩ : ByteArray)))]) (cs := #[.string ((⟨#[101]⟩ : ByteArray)), .string ((⟨#[112]⟩ : ByteArray))]) ty44 pl44 rfl rfl) (aG (v := .agg #[.string ((⟨#[101]⟩ : ByteArray)), .string ((⟨#[112]⟩ : ByteArray)), .bool (false)]) (p_buildS (vs := [(0, .agg #[.string ((⟨#[101]⟩ : ByteArray)), .string ((⟨#[112]⟩ : ByteArray))])]) (cs := #[.string ((⟨#[101]⟩ : ByteArray)), .string ((⟨#[112]⟩ : ByteArray)), .bool (false)]) ty46 pl46 rfl rfl) (f1 (e_lit (vs := [(0, .agg #[.string ((⟨#[101]⟩ : ByteArray)), .string ((⟨#[112]⟩ : ByteArray)), .bool (false)])]) [.string ((⟨#[101]⟩ : ByteArray)), .string ((⟨#[112]⟩ : ByteArray)), .bool (false)] cC ty46 rfl (by decide) (by decide) (by kernel_rfl)) fun g55 => (gdo H fun h58 H => (f2 (e_app1 (l := x6.2) (α := Cond) (((⟨#[101]⟩ : ByteArray), (⟨#[112]⟩ : ByteArray)), false) (((), ()), ()) cC ty46 rfl rfl (h58.b (by decide)) h58.x rfl (bU _) (.cons dl2 (.cons aA .nil))) fun a56 c57 => (aH rfl (aJ (nB (nT (sr ?_)))))))))))
    refine aF rfl (aH rfl (nl (bI ?_)))
    obtain rfl := si H
    exact back1 (a56, c57) rfl (ResV.tmp (v := .slice a56 ((x6.2 ++ [(((⟨#[101]⟩ : ByteArray), (⟨#[112]⟩ : ByteArray)), false)]).length) c57) rfl) rfl bR (.cons aA (.cons aA .nil))
   ·refine bA (nB (nT (sr (aF rfl (aH rfl (nl (bI ?_)))))))
    obtain rfl := si H
    exact back1 y12 rfl (ResV.tmp (v := .slice y12.1 x6.2.length y12.2) rfl) rfl bR (.cons dl1 (.cons aA .nil))
noncomputable def p_spec_FilterOk_b0 (v0 : (List Cond)) (Q5 : Int) : Option ((Int) ⊕ (Unit ⊕ Bool)) := cond (decide (Q5 < (v0.length : Int))) (gd (ix Q5 v0.length) <| bd (p_spec_l3Tag ((nth v0 Q5.toNat).1)) fun r15 => cond (!r15) (some (.inr (.inr false))) (gd (I64 (Q5 + 1)) <| some (.inl (Q5 + 1)))) (some (.inr (.inl ())))
noncomputable def p_spec_FilterOk (v0 : (List Cond)) : Option (Bool) := bd (lp (p_spec_FilterOk_b0 v0) 0) <| sw (fun _ => some (decide ((v0.length : Int) ≤ 3))) (fun q => some q)
theorem c_spec_FilterOk {r : Bool} (v0 : (List Cond)) (x_v0 : Option Addr × Nat) (H : p_spec_FilterOk v0 = some r) : Fn' prog 59 #[.slice x_v0.1 v0.length x_v0.2] [imm (.slice x_v0.1 v0.length x_v0.2) v0] [] (ι := Unit) (fun _ => .bool (r)) (fun _ => []) (fun _ => []) := by
 refine cof (args := [_]) func59 ntmps59 fun c => ?_
 unfold p_spec_FilterOk at H
 refine sr (aH (v := .bool (false)) rfl (nl (aD (sr (aH (v := .int .i64 (0)) rfl (nl (bdo H fun x1 hx2 H => (tMidI (Λ := Unit) H (fun _ _ => [(0, .slice x_v0.1 v0.length x_v0.2)]) (fun _ _ => []) ?_ ?_))))))))
 ·refine aP (bZ hx2 () (fun Q5 _ => [(0, .slice x_v0.1 v0.length x_v0.2), (3, .int .i64 (Q5))]) (fun _ _ => []) bD ?_)
  rintro _ Q5 z6 t8 H1 hi9 hb10
  unfold p_spec_FilterOk_b0 at H1
  refine aD (sr (aF rfl (aF rfl (aG (bK 46 cC rfl) (aG (bS rfl rfl) (nl (cH H1 rfl (fun h13 H1 => ?_) (fun h13 H1 => ?_))))))))
  ·refine bA (nT (aD (aP (sr (aF rfl (aF rfl (gdo H1 fun h14 H1 => (aI (bM cC ty46 rfl rfl h14 rfl (aM (aL aQ))) (aI (bN (j := 0) Q5.toNat fa46_0 rfl (aM (aL aQ)) h14.lt rfl) (aI (v := .agg #[.string (((nth v0 Q5.toNat).1).1), .string (((nth v0 Q5.toNat).1).2)]) (q_ldeP [.string (((nth v0 Q5.toNat).1).1), .string (((nth v0 Q5.toNat).1).2)] (l := v0) (E := fun i => Flat.enc (nth v0 i)) (oa := x_v0.1) (i := Q5.toNat) (j := 0) ty44 rfl (aM (aL aQ)) h14.lt rfl rfl) ?_))))))))))
   refine bdo H1 fun r15 h16 H1 => (aI (bF (c_spec_l3Tag ((nth v0 Q5.toNat).1) h16) rfl aN) (aG (p_not rfl) (nl (cH H1 rfl (fun h17 H1 => ?_) (fun h17 H1 => ?_)))))
   ·refine sr (aH (v := .bool (false)) rfl (nl (bI (rB (rT (rT (rB (rT (rT (?_))))))))))
    obtain rfl := hb10 _ (sm H1)
    replace H := sw.r H
    obtain rfl := si H
    exact bk
   ·exact bA (nB (nT (aO (aF rfl (gdo H1 fun h18 H1 => (aG (bJ rfl rfl h18) (aH rfl (aJ (nLI () (hi9 _ (sm H1)) bD)))))))))
  ·exact bX (xT (xT (xE (nMI () (hb10 _ (sm H1)) bD))))
 ·rintro e19 y7 H
  refine nT (sr (aF rfl (aG (bK 46 cC rfl) (aG (p_leq rfl rfl) (aH rfl (nl ?_))))))
  obtain rfl := si H
  exact bI bk
noncomputable def p_spec_FilterText_b0 (v0 : (List Cond)) (Q9 : ByteArray × Int) : Option ((ByteArray × Int) ⊕ (ByteArray)) := cond (decide (Q9.2 < (v0.length : Int))) (cond (decide (0 < Q9.2)) (gd (room (Q9.1.size + (⟨#[44]⟩ : ByteArray).size)) <| gd (ix Q9.2 v0.length) <| gd (room ((Q9.1 ++ (⟨#[44]⟩ : ByteArray)).size + (((nth v0 Q9.2.toNat).1).1).size)) <| cond ((nth v0 Q9.2.toNat).2) (gd (room (((Q9.1 ++ (⟨#[44]⟩ : ByteArray)) ++ (((nth v0 Q9.2.toNat).1).1)).size + (⟨#[33]⟩ : ByteArray).size)) <| gd (room ((((Q9.1 ++ (⟨#[44]⟩ : ByteArray)) ++ (((nth v0 Q9.2.toNat).1).1)) ++ (⟨#[33]⟩ : ByteArray)).size + (⟨#[61]⟩ : ByteArray).size)) <| gd (room (((((Q9.1 ++ (⟨#[44]⟩ : ByteArray)) ++ (((nth v0 Q9.2.toNat).1).1)) ++ (⟨#[33]⟩ : ByteArray)) ++ (⟨#[61]⟩ : ByteArray)).size + (((nth v0 Q9.2.toNat).1).2).size)) <| gd (I64 (Q9.2 + 1)) <| some (.inl (((((Q9.1 ++ (⟨#[44]⟩ : ByteArray)) ++ (((nth v0 Q9.2.toNat).1).1)) ++ (⟨#[33]⟩ : ByteArray)) ++ (⟨#[61]⟩ : ByteArray)) ++ (((nth v0 Q9.2.toNat).1).2), Q9.2 + 1))) (gd (room (((Q9.1 ++ (⟨#[44]⟩ : ByteArray)) ++ (((nth v0 Q9.2.toNat).1).1)).size + (⟨#[61]⟩ : ByteArray).size)) <| gd (room ((((Q9.1 ++ (⟨#[44]⟩ : ByteArray)) ++ (((nth v0 Q9.2.toNat).1).1)) ++ (⟨#[61]⟩ : ByteArray)).size + (((nth v0 Q9.2.toNat).1).2).size)) <| gd (I64 (Q9.2 + 1)) <| some (.inl ((((Q9.1 ++ (⟨#[44]⟩ : ByteArray)) ++ (((nth v0 Q9.2.toNat).1).1)) ++ (⟨#[61]⟩ : ByteArray)) ++ (((nth v0 Q9.2.toNat).1).2), Q9.2 + 1)))) (gd (ix Q9.2 v0.length) <| gd (room (Q9.1.size + (((nth v0 Q9.2.toNat).1).1).size)) <| cond ((nth v0 Q9.2.toNat).2) (gd (room ((Q9.1 ++ (((nth v0 Q9.2.toNat).1).1)).size + (⟨#[33]⟩ : ByteArray).size)) <| gd (room (((Q9.1 ++ (((nth v0 Q9.2.toNat).1).1)) ++ (⟨#[33]⟩ : ByteArray)).size + (⟨#[61]⟩ : ByteArray).size)) <| gd (room ((((Q9.1 ++ (((nth v0 Q9.2.toNat).1).1)) ++ (⟨#[33]⟩ : ByteArray)) ++ (⟨#[61]⟩ : ByteArray)).size + (((nth v0 Q9.2.toNat).1).2).size)) <| gd (I64 (Q9.2 + 1)) <| some (.inl ((((Q9.1 ++ (((nth v0 Q9.2.toNat).1).1)) ++ (⟨#[33]⟩ : ByteArray)) ++ (⟨#[61]⟩ : ByteArray)) ++ (((nth v0 Q9.2.toNat).1).2), Q9.2 + 1))) (gd (room ((Q9.1 ++ (((nth v0 Q9.2.toNat).1).1)).size + (⟨#[61]⟩ : ByteArray).size)) <| gd (room (((Q9.1 ++ (((nth v0 Q9.2.toNat).1).1)) ++ (⟨#[61]⟩ : ByteArray)).size + (((nth v0 Q9.2.toNat).1).2).size)) <| gd (I64 (Q9.2 + 1)) <| some (.inl (((Q9.1 ++ (((nth v0 Q9.2.toNat).1).1)) ++ (⟨#[61]⟩ : ByteArray)) ++ (((nth v0 Q9.2.toNat).1).2), Q9.2 + 1))))) (some (.inr Q9.1))
noncomputable def p_spec_FilterText (v0 : (List Cond)) : Option (ByteArray) := bd (p_spec_FilterOk v0) fun r1 => cond (!r1) (some (⟨#[]⟩ : ByteArray)) (cond (decide ((v0.length : Int) = 0)) (some (⟨#[42]⟩ : ByteArray)) (bd (lp (p_spec_FilterText_b0 v0) ((⟨#[]⟩ : ByteArray), 0)) fun x5 => some x5))
theorem c_spec_FilterText {r : ByteArray} (v0 : (List Cond)) (x_v0 : Option Addr × Nat) (H : p_spec_FilterText v0 = some r) : Fn' prog 46 #[.slice x_v0.1 v0.length x_v0.2] [imm (.slice x_v0.1 v0.length x_v0.2) v0] [] (ι := Unit) (fun _ => .string (r)) (fun _ => []) (fun _ => []) := by
 refine cof (args := [_]) func46 ntmps46 fun c => ?_
 unfold p_spec_FilterText at H
 refine sr (aH (v := .string ((⟨#[]⟩ : ByteArray))) rfl (nl (aD (sr (aF rfl (bdo H fun r1 h2 H => (aI (bF (c_spec_FilterOk v0 x_v0 h2) rfl (aC (aL aQ) aN)) (aG (p_not rfl) (nl (cH H rfl (fun h3 H => ?_) (fun h3 H => ?_)))))))))))
 ·refine sr (aH (v := .string ((⟨#[]⟩ : ByteArray))) rfl (nl (bI (rT (?_)))))
  obtain rfl := si H
  exact bk
 ·refine bA (nT (aD (sr (aF rfl (aG (bK 46 cC rfl) (aG (bT rfl rfl) (nl (cH H rfl (fun h4 H => ?_) (fun h4 H => ?_)))))))))
  ·refine sr (aH (v := .string ((⟨#[42]⟩ : ByteArray))) rfl (nl (bI (rT (?_)))))
   obtain rfl := si H
   exact bk
  ·refine bA (nT (sr (aH (v := .string ((⟨#[]⟩ : ByteArray))) rfl (nl (aD (sr (aH (v := .int .i64 (0)) rfl (nl (bdo H fun x5 hx6 H => (tMidNC (ι := Unit) (fun ψ => [(3, .string (x5))]) (fun ψ => []) ?_ ?_))))))))))
   ·refine aP (bZ hx6 () (fun Q9 _ => [(0, .slice x_v0.1 v0.length x_v0.2), (3, .string (Q9.1)), (4, .int .i64 (Q9.2))]) (fun _ _ => []) bD ?_)
    rintro _ Q9 z10 t12 H1 hi13 hb14
    unfold p_spec_FilterText_b0 at H1
    refine aD (sr (aF rfl (aF rfl (aG (bK 46 cC rfl) (aG (bS rfl rfl) (nl (cH H1 rfl (fun h17 H1 => ?_) (fun h17 H1 => ?_))))))))
    ·refine bA (nT (aD (aP (aD (sr (aF rfl (aG (p_gtr rfl rfl) (nl (cH H1 rfl (fun h18 H1 => ?_) (fun h18 H1 => ?_))))))))))
     ·refine aO (aF rfl (gdo H1 fun h19 H1 => (aG (p_cat rfl rfl h19) (aH rfl (nl (sr (aF rfl (aF rfl (aF rfl (gdo H1 fun h20 H1 => ?_))))))))))
      refine aI (bM cC ty46 rfl rfl h20 rfl (aM (aL aQ))) (aI (bN (j := 0) Q9.2.toNat fa46_0 rfl (aM (aL aQ)) h20.lt rfl) (aI (bN (j := 0) Q9.2.toNat fa44_0 rfl (aM (aL aQ)) h20.lt rfl) (aI (bO (i := Q9.2.toNat) (j := 0) ty9 rfl (aM (aL aQ)) h20.lt rfl) (gdo H1 fun h21 H1 => (aG (p_cat rfl rfl h21) (aH rfl (nl (aD (sr (aF rfl (aF rfl ?_)))))))))))
      refine aI (bM cC ty46 rfl rfl h20 rfl (aM (aL aQ))) (aI (bN (j := 0) Q9.2.toNat fa46_1 rfl (aM (aL aQ)) h20.lt rfl) (aI (bO (i := Q9.2.toNat) (j := 2) ty4 rfl (aM (aL aQ)) h20.lt rfl) (nl (cH H1 rfl (fun h22 H1 => ?_) (fun h22 H1 => ?_)))))
      ·refine aO (aF rfl (gdo H1 fun h23 H1 => (aG (p_cat rfl rfl h23) (aH rfl (nl (aO (aF rfl (gdo H1 fun h24 H1 => (aG (p_cat rfl rfl h24) (aF rfl ?_))))))))))
       refine aF rfl (aI (bM cC ty46 rfl rfl h20 rfl (aM (aL aQ))) (aI (bN (j := 0) Q9.2.toNat fa46_0 rfl (aM (aL aQ)) h20.lt rfl) (aI (bN (j := 0) Q9.2.toNat fa44_1 rfl (aM (aL aQ)) h20.lt rfl) (aI (bO (i := Q9.2.toNat) (j := 1) ty9 rfl (aM (aL aQ)) h20.lt rfl) (gdo H1 fun h25 H1 => (aG (p_cat rfl rfl h25) (aH rfl (aJ (nB (nT (aO ?_)))))))))))
       exact aF rfl (gdo H1 fun h26 H1 => (aG (bJ rfl rfl h26) (aH rfl (aJ (nLI () (hi13 _ (sm H1)) bD)))))
      ·refine bA (nT (aO (aF rfl (gdo H1 fun h27 H1 => (aG (p_cat rfl rfl h27) (aF rfl (aF rfl (aI (bM cC ty46 rfl rfl h20 rfl (aM (aL aQ))) (aI (bN (j := 0) Q9.2.toNat fa46_0 rfl (aM (aL aQ)) h20.lt rfl) ?_)))))))))
       refine aI (bN (j := 0) Q9.2.toNat fa44_1 rfl (aM (aL aQ)) h20.lt rfl) (aI (bO (i := Q9.2.toNat) (j := 1) ty9 rfl (aM (aL aQ)) h20.lt rfl) (gdo H1 fun h28 H1 => (aG (p_cat rfl rfl h28) (aH rfl (aJ (nB (nT (aO (aF rfl (gdo H1 fun h29 H1 => (aG (bJ rfl rfl h29) ?_)))))))))))
       exact aH rfl (aJ (nLI () (hi13 _ (sm H1)) bD))
     ·refine bA (nT (sr (aF rfl (aF rfl (aF rfl (gdo H1 fun h30 H1 => (aI (bM cC ty46 rfl rfl h30 rfl (aM (aL aQ))) (aI (bN (j := 0) Q9.2.toNat fa46_0 rfl (aM (aL aQ)) h30.lt rfl) (aI (bN (j := 0) Q9.2.toNat fa44_0 rfl (aM (aL aQ)) h30.lt rfl) ?_)))))))))
      refine aI (bO (i := Q9.2.toNat) (j := 0) ty9 rfl (aM (aL aQ)) h30.lt rfl) (gdo H1 fun h31 H1 => (aG (p_cat rfl rfl h31) (aH rfl (nl (aD (sr (aF rfl (aF rfl (aI (bM cC ty46 rfl rfl h30 rfl (aM (aL aQ))) (aI (bN (j := 0) Q9.2.toNat fa46_1 rfl (aM (aL aQ)) h30.lt rfl) (aI (bO (i := Q9.2.toNat) (j := 2) ty4 rfl (aM (aL aQ)) h30.lt rfl) (nl ?_))))))))))))
      refine cH H1 rfl (fun h32 H1 => ?_) (fun h32 H1 => ?_)
      ·refine aO (aF rfl (gdo H1 fun h33 H1 => (aG (p_cat rfl rfl h33) (aH rfl (nl (aO (aF rfl (gdo H1 fun h34 H1 => (aG (p_cat rfl rfl h34) (aF rfl ?_))))))))))
       refine aF rfl (aI (bM cC ty46 rfl rfl h30 rfl (aM (aL aQ))) (aI (bN (j := 0) Q9.2.toNat fa46_0 rfl (aM (aL aQ)) h30.lt rfl) (aI (bN (j := 0) Q9.2.toNat fa44_1 rfl (aM (aL aQ)) h30.lt rfl) (aI (bO (i := Q9.2.toNat) (j := 1) ty9 rfl (aM (aL aQ)) h30.lt rfl) (gdo H1 fun h35 H1 => (aG (p_cat rfl rfl h35) (aH rfl (aJ (nB (nT (aO ?_)))))))))))
       exact aF rfl (gdo H1 fun h36 H1 => (aG (bJ rfl rfl h36) (aH rfl (aJ (nLI () (hi13 _ (sm H1)) bD)))))
      ·refine bA (nT (aO (aF rfl (gdo H1 fun h37 H1 => (aG (p_cat rfl rfl h37) (aF rfl (aF rfl (aI (bM cC ty46 rfl rfl h30 rfl (aM (aL aQ))) (aI (bN (j := 0) Q9.2.toNat fa46_0 rfl (aM (aL aQ)) h30.lt rfl) ?_)))))))))
       refine aI (bN (j := 0) Q9.2.toNat fa44_1 rfl (aM (aL aQ)) h30.lt rfl) (aI (bO (i := Q9.2.toNat) (j := 1) ty9 rfl (aM (aL aQ)) h30.lt rfl) (gdo H1 fun h38 H1 => (aG (p_cat rfl rfl h38) (aH rfl (aJ (nB (nT (aO (aF rfl (gdo H1 fun h39 H1 => (aG (bJ rfl rfl h39) ?_)))))))))))
       exact aH rfl (aJ (nLI () (hi13 _ (sm H1)) bD))
    ·refine bX (xT (xT (xE (?_))))
     obtain rfl := hb14 _ (sm H1)
     exact nMC () ⟨rfl, trivial⟩ bL bD
   ·intro y11
    show At _ _ [(3, .string (x5))] _ [] _
    refine nT (sr (aF rfl (aH rfl (nl ?_))))
    obtain rfl := si H
    exact bI bk
noncomputable def p_spec_DrawFilterRead (v0 : (List UInt8)) : Option (ByteArray) := bd (p_spec_l6Open v0) fun r1 => bd (p_spec_l71Filter r1) fun r4 => bd (p_spec_FilterText r4.1) fun r7 => gd (I64 ((r7.size : Int) + 1)) <| bd (p_spec_l6Rd_pick (r1.1, r4.2) ((r7.size : Int) + 1)) fun r10 => bd (p_spec_l6Rd_pick (r1.1, r10.2) 7) fun r13 => cond (decide (r13.1 = 0)) (gd (sl2 0 r10.1 r7.size) <| some (r7.extract 0 r10.1.toNat)) (cond (decide (r13.1 = 1)) (gd (sl2 0 r10.1 r7.size) <| gd (sl2 r10.1 (r7.size : Int) r7.size) <| bd (p_spec_l6Rd_of (r1.1, r13.2) ([(⟨#[44]⟩ : ByteArray), (⟨#[61]⟩ : ByteArray), (⟨#[97]⟩ : ByteArray), (⟨#[33]⟩ : ByteArray), (⟨#[42]⟩ : ByteArray)] : List ByteArray)) fun r23 => gd (room ((r7.extract 0 r10.1.toNat).size + r23.1.size)) <| gd (room (((r7.extract 0 r10.1.toNat) ++ r23.1).size + (r7.extract r10.1.toNat (r7.size : Int).toNat).size)) <| some (((r7.extract 0 r10.1.toNat) ++ r23.1) ++ (r7.extract r10.1.toNat (r7.size : Int).toNat))) (some r7))
theorem c_spec_DrawFilterRead {r : ByteArray} (v0 : (List UInt8)) (x_v0 : Option Addr × Nat) (H : p_spec_DrawFilterRead v0 = some r) : Fn' prog 22 #[.slice x_v0.1 v0.length x_v0.2] [imm (.slice x_v0.1 v0.length x_v0.2) v0] [] (ι := Unit) (fun _ => .string (r)) (fun _ => []) (fun _ => []) := by
 refine cof (args := [_]) func22 ntmps22 fun c => ?_
 unfold p_spec_DrawFilterRead at H
 refine sr (aH (v := .string ((⟨#[]⟩ : ByteArray))) rfl (nl (sr (aF rfl (bdo H fun r1 h2 H => (f1 (e_call (c_spec_l6Open v0 x_v0 h2) rfl (Ents.cons aQ bR) bD) fun x3 => (aH rfl (nl (sr (aF rfl (bdo H fun r4 h5 H => ?_)))))))))))
 refine f1 (bQ (c_spec_l71Filter x3.1 r1 (x3.2.1, ()) h5) (Solo.box aZ) (fun _ => (aY (Solo.box aZ))) rfl (.cons aA .nil) (aC (aL aQ) aN)) fun x6 => (bdo H fun r7 h8 H => (aI (bF (c_spec_FilterText r4.1 x6 h8) rfl (aC (bE aB) aN)) (aH rfl (nl (sr (aF rfl (aF rfl (aG (p_slen cI rfl) (gdo H fun h9 H => (aG (bJ rfl rfl h9) ?_))))))))))
 refine bdo H fun r10 h11 H => (f1 (bQ (c_spec_l6Rd_pick x3.1 (r1.1, r4.2) (x3.2.1, ()) ((r7.size : Int) + 1) h11) (Solo.box aZ) (fun _ => (Solo.box aZ)) rfl (.cons dl1 .nil) (aC (aL aQ) aN)) fun u12 => (aH rfl (nl (aD (sr (aF rfl (bdo H fun r13 h14 H => (f1 (bQ (c_spec_l6Rd_pick x3.1 (r1.1, r10.2) (x3.2.1, ()) 7 h14) (Solo.box aZ) (fun _ => (Solo.box aZ)) rfl (.cons aA .nil) (aC (aL aQ) aN)) fun u15 => (nl (aP (sr ?_)))))))))))
 refine aG (bT rfl rfl) (aH rfl (nl (cH H rfl (fun h16 H => ?_) (fun h16 H => ?_))))
 ·refine sr (aF rfl (aF rfl (gdo H fun h17 H => (aG ((p_ssl 0 r10.1 cI rfl rfl (fun _ => rfl) rfl (fun h => nomatch h) h17)) (aH rfl (nl (bI (rB (rT (?_))))))))))
  obtain rfl := si H
  exact bk
 ·refine sr (aG (bT rfl rfl) (aH rfl (nl (cH H rfl (fun h18 H => ?_) (fun h18 H => ?_)))))
  ·refine aD (tNwS [(5, .int .i64 (r10.1)), (4, .string (r7)), (3, .pointer (some ⟨x3.1, 0, none⟩))] 2 [0, 1, 2, 3, 7, 8, 9, 4, 5, 6, 10, 11] [4, 5] [] mixed (by kernel_rfl) (by decide) cB ⟨rfl, rfl, rfl, trivial⟩ rfl okNil (w_p rfl (aE rfl) (w_p rfl (aE rfl) (gdo H fun h19 H => (w_p rfl ((p_ssl 0 r10.1 cI rfl rfl (fun _ => rfl) rfl (fun h => nomatch h) h19)) (w_p rfl (aE rfl) (w_p rfl (aE rfl) (w_p rfl (aE rfl) (gdo H fun h20 H => ?_)))))))))
   refine w_p rfl ((p_ssl r10.1 (r7.size : Int) cI rfl rfl (fun h => nomatch h) rfl (fun _ => rfl) h20)) (w_ed rfl (by decide) rfl Rdy.nil rfl (n_litT (α := ByteArray) (vs := [(0, .string ((⟨#[44]⟩ : ByteArray))), (1, .string ((⟨#[61]⟩ : ByteArray))), (2, .string ((⟨#[97]⟩ : ByteArray))), (3, .string ((⟨#[33]⟩ : ByteArray))), (4, .string ((⟨#[42]⟩ : ByteArray)))]) [(⟨#[44]⟩ : ByteArray), (⟨#[61]⟩ : ByteArray), (⟨#[97]⟩ : ByteArray), (⟨#[33]⟩ : ByteArray), (⟨#[42]⟩ : ByteArray)] rfl (fun _ => rfl) (fun _ _ => by repeat constructor) cF ty9 rfl (by decide) (by decide) (by kernel_rfl)) ?_)
   rintro _ _ _ ⟨a21, c22, rfl, rfl, rfl⟩
   refine ⟨PdOk.nil, ?_⟩
   refine bdo H fun r23 h24 H => (w_ed rfl (by decide) rfl Rdy.nil rfl (n_callM (c_spec_l6Rd_of x3.1 (r1.1, r13.2) (x3.2.1, ()) ([(⟨#[44]⟩ : ByteArray), (⟨#[61]⟩ : ByteArray), (⟨#[97]⟩ : ByteArray), (⟨#[33]⟩ : ByteArray), (⟨#[42]⟩ : ByteArray)] : List ByteArray) (a21, c22) h24) (Solo.box aZ) (fun _ => (Solo.box aZ)) rfl (.cons dl1 .nil) (aC (aL aQ) (aC (bE aB) aN))) ?_)
   rintro _ _ _ ⟨u25, rfl, rfl, rfl⟩
   refine ⟨PdOk.nil, ?_⟩
   refine gdo H fun h26 H => (w_p rfl (p_cat rfl rfl h26) (gdo H fun h27 H => (w_p rfl (p_cat rfl rfl h27) (w_p rfl (p_assign rfl) (w_nil (nT (bI (rB (rT (?_))))))))))
   obtain rfl := si H
   exact bk
  ·refine bA (nB (nT (sr (aF rfl (aH rfl (nl ?_))))))
   obtain rfl := si H
   exact bI bk
noncomputable def p_laws_lyFilter_b0 (v0 : (List Cond)) (v1 : (List Cond)) (Q6 : Int) : Option ((Int) ⊕ (Unit ⊕ Bool)) := cond (decide (Q6 < (v0.length : Int))) (gd (ix Q6 v0.length) <| gd (ix Q6 v1.length) <| cond (!decide (nth v0 Q6.toNat = nth v1 Q6.toNat)) (some (.inr (.inr false))) (gd (I64 (Q6 + 1)) <| some (.inl (Q6 + 1)))) (some (.inr (.inl ())))
noncomputable def p_laws_lyFilter (v0 : (List Cond)) (v1 : (List Cond)) : Option (Bool) := cond (!decide ((v0.length : Int) = (v1.length : Int))) (some false) (bd (lp (p_laws_lyFilter_b0 v0 v1) 0) <| sw (fun _ => some true) (fun q => some q))
theorem c_laws_lyFilter {r : Bool} (v0 : (List Cond)) (x_v0 : Option Addr × Nat) (v1 : (List Cond)) (x_v1 : Option Addr × Nat) (H : p_laws_lyFilter v0 v1 = some r) : Fn' prog 23 #[.slice x_v0.1 v0.length x_v0.2, .slice x_v1.1 v1.length x_v1.2] [imm (.slice x_v0.1 v0.length x_v0.2) v0, imm (.slice x_v1.1 v1.length x_v1.2) v1] [] (ι := Unit) (fun _ => .bool (r)) (fun _ => []) (fun _ => []) := by
 refine cof (args := [_, _]) func23 ntmps23 fun c => ?_
 unfold p_laws_lyFilter at H
 refine sr (aH (v := .bool (false)) rfl (nl (aD (sr (aF rfl (aG (bK 46 cC rfl) (aF rfl (aG (bK 46 cC rfl) (aG (p_neq rfl rfl) (nl (cH H rfl (fun h1 H => ?_) (fun h1 H => ?_))))))))))))
 ·refine sr (aH (v := .bool (false)) rfl (nl (bI (rT (?_)))))
  obtain rfl := si H
  exact bk
 ·refine bA (nT (aD (sr (aH (v := .int .i64 (0)) rfl (nl (bdo H fun x2 hx3 H => (tMidI (Λ := Unit) H (fun _ _ => []) (fun _ _ => []) ?_ ?_)))))))
  ·refine aP (bZ hx3 () (fun Q6 _ => [(0, .slice x_v0.1 v0.length x_v0.2), (1, .slice x_v1.1 v1.length x_v1.2), (5, .int .i64 (Q6))]) (fun _ _ => []) bD ?_)
   rintro _ Q6 z7 t9 H1 hi10 hb11
   unfold p_laws_lyFilter_b0 at H1
   refine aD (sr (aF rfl (aF rfl (aG (bK 46 cC rfl) (aG (bS rfl rfl) (nl (cH H1 rfl (fun h14 H1 => ?_) (fun h14 H1 => ?_))))))))
   ·refine bA (nT (aD (aP (aD (tLinS [(0, .slice x_v0.1 v0.length x_v0.2), (1, .slice x_v1.1 v1.length x_v1.2), (5, .int .i64 (Q6))] mixed (.inr (by kernel_rfl)) ⟨rfl, rfl, rfl, trivial⟩ rfl (aV rfl (aV rfl (gdo H1 fun h15 H1 => (aT (bM cC ty46 rfl rfl h15 rfl (aM (aL aQ))) (aT (v := .agg #[.string (((nth v0 Q6.toNat).1).1), .string (((nth v0 Q6.toNat).1).2), .bool ((nth v0 Q6.toNat).2)]) (q_ldeA (i := Q6.toNat) ty46 rfl (aM (aL aQ)) h15.lt) ?_))))))))))
    refine aV rfl (aV rfl (gdo H1 fun h16 H1 => (aT (bM cC ty46 rfl rfl h16 rfl (aM (aL aQ.s))) (aT (v := .agg #[.string (((nth v1 Q6.toNat).1).1), .string (((nth v1 Q6.toNat).1).2), .bool ((nth v1 Q6.toNat).2)]) (q_ldeA (i := Q6.toNat) ty46 rfl (aM (aL aQ.s)) h16.lt) (aR (v := .bool (!decide (nth v0 Q6.toNat = nth v1 Q6.toNat))) (p_aneq (a := nth v0 Q6.toNat) (b := nth v1 Q6.toNat) ae46 rfl rfl rfl rfl) (nT (cH H1 rfl (fun h17 H1 => ?_) (fun h17 H1 => ?_))))))))
    ·refine sr (aH (v := .bool (false)) rfl (nl (bI (rB (rT (rT (rB (rT (rT (?_))))))))))
     obtain rfl := hb11 _ (sm H1)
     replace H := sw.r H
     obtain rfl := si H
     exact bk
    ·exact bA (nB (nT (aO (aF rfl (gdo H1 fun h18 H1 => (aG (bJ rfl rfl h18) (aH rfl (aJ (nLI () (hi10 _ (sm H1)) bD)))))))))
   ·exact bX (xT (xT (xE (nMI () (hb11 _ (sm H1)) bD))))
  ·rintro e19 y8 H
   refine nT (sr (aH (v := .bool (true)) rfl (nl ?_)))
   obtain rfl := si H
   exact bI bk
noncomputable def p_laws_FnFilterStrict (v0 : (List UInt8)) : Option (Bool) := cond (decide (1048576 < (v0.length : Int))) (some true) (bd (p_spec_DrawFilterRead v0) fun r2 => bd (p_spec_FilterRead r2) fun r4 => bd (p_impl_FilterRead r2) fun r7 => bd (cond (!decide (r7.2 = r4.2)) (some (true)) (bd (p_laws_lyFilter r7.1 r4.1) fun r13 => cond (!r13) (some (true)) (some (!r7.2)))) fun b10 => cond (b10) (bd (cond (decide (r7.2 = r4.2)) (bd (p_laws_lyFilter r7.1 r4.1) fun r20 => some (r20)) (some (false))) fun b17 => some b17) (bd (bd (p_impl_FilterOk r7.1) fun r24 => cond (r24) (bd (p_impl_FilterText r7.1) fun r27 => some (decide (r27 = r2))) (some (false))) fun b22 => some b22))
theorem c_laws_FnFilterStrict {r : Bool} (v0 : (List UInt8)) (x_v0 : Option Addr × Nat) (H : p_laws_FnFilterStrict v0 = some r) : FnL' True prog 6 #[.slice x_v0.1 v0.length x_v0.2] [imm (.slice x_v0.1 v0.length x_v0.2) v0] [] (ι := Unit) (fun _ => .bool (r)) (fun _ => []) (fun _ => []) := by
 refine calls_ofX (args := [_]) func6 rfl (by kernel_rfl) ntmps6 (by simp) fun c hL => ?_
 unfold p_laws_FnFilterStrict at H
 refine sr (aH (v := .bool (false)) rfl (nl (aD (sr (aF rfl (aG (bK 5 cE rfl) (aG (p_gtr rfl rfl) (nl (cH H rfl (fun h1 H => ?_) (fun h1 H => ?_))))))))))
 ·refine sr (aH (v := .bool (true)) rfl (nl (bI (rT (?_)))))
  obtain rfl := si H
  exact bk
 ·refine bA (nT (sr (aF rfl (bdo H fun r2 h3 H => (aI (bF (c_spec_DrawFilterRead v0 x_v0 h3) rfl (aC (aL aQ) aN)) (aH rfl (nl (sr (aF rfl (bdo H fun r4 h5 H => ?_))))))))))
  refine f1 (e_callB (c_spec_FilterRead r2 h5) (fun _ => (aY aZ)) rfl aN) fun x6 => (aF rfl (aG (bW rfl rfl) (aG (bW rfl rfl) (aH rfl (aH rfl (nl (sr (aF rfl (bdo H fun r7 h8 H => (f1 (e_callB (c_impl_FilterRead r2 h8) (fun _ => (aY aZ)) rfl aN hL) fun x9 => ?_))))))))))
  refine aF rfl (aG (bW rfl rfl) (aG (bW rfl rfl) (aH rfl (aH rfl (nl (aD (bdo H fun b10 j11 H => (bY [(35, .bool (b10)), (7, .bool (r7.2)), (6, .slice x9.1.1 r7.1.length x9.1.2), (5, .bool (r4.2)), (4, .slice x6.1.1 r4.1.length x6.1.2), (3, .string (r2))] ?_ ?_))))))))
  ·refine cA [(7, .bool (r7.2)), (6, .slice x9.1.1 r7.1.length x9.1.2), (5, .bool (r4.2)), (4, .slice x6.1.1 r4.1.length x6.1.2), (3, .string (r2))] ⟨rfl, rfl, rfl, rfl, rfl, trivial⟩ (aV rfl (aV rfl (aR (p_bneq underlying4 rfl rfl) ?_)))
   rcases aK (!decide (r7.2 = r4.2)) with h12 | h12
   ·have j11 := cdT h12 j11
    refine aW (aE rfl) h12 ?_
    iterate 4 refine aX rfl ?_
    refine aR (v := .bool (true)) (bH rfl rfl) (aV (v := .bool (true)) rfl ?_)
    iterate 2 refine aX rfl ?_
    refine aR (v := .bool (true)) (bH rfl rfl) ?_
    obtain rfl := si j11
    show At _ _ _ _ _ _
    exact n1 ⟨rfl, rfl, rfl, rfl, rfl, rfl, trivial⟩
   ·have j11 := cdF h12 j11
    refine aW (aE rfl) h12 (aS rfl (aE rfl) (aS rfl (aE rfl) (bdo j11 fun r13 h14 j11 => (aU rfl (bF (c_laws_lyFilter r7.1 x9.1 r4.1 x6.1 h14) rfl (aC (bE aB) (aC (bE hs1) aN))) (aS rfl (p_not rfl) (aR (bG rfl rfl) ?_))))))
    rcases aK (!r13) with h15 | h15
    ·have j11 := cdT h15 j11
     refine aW (aE rfl) h15 ?_
     iterate 2 refine aX rfl ?_
     refine aR (v := .bool (true)) (bH rfl rfl) ?_
     obtain rfl := si j11
     show At _ _ _ _ _ _
     exact n1 ⟨rfl, rfl, rfl, rfl, rfl, rfl, trivial⟩
    ·have j11 := cdF h15 j11
     refine aW (aE rfl) h15 (aS rfl (aE rfl) (aS rfl (p_not rfl) (aR (bG rfl rfl) ?_)))
     obtain rfl := si j11
     show At _ _ _ _ _ _
     exact n1 ⟨rfl, rfl, rfl, rfl, rfl, rfl, trivial⟩
  refine cH H rfl (fun h16 H => ?_) (fun h16 H => ?_)
  ·refine bdo H fun b17 j18 H => (bY [(2, .bool (b17))] ?_ ?_)
   ·refine cA [(7, .bool (r7.2)), (6, .slice x9.1.1 r7.1.length x9.1.2), (5, .bool (r4.2)), (4, .slice x6.1.1 r4.1.length x6.1.2)] ⟨rfl, rfl, rfl, rfl, trivial⟩ (aV rfl (aV rfl (aR (p_beql underlying4 rfl rfl) ?_)))
    rcases aK (decide (r7.2 = r4.2)) with h19 | h19
    ·have j18 := cdT h19 j18
     refine aW (aE rfl) h19 (aS rfl (aE rfl) (aS rfl (aE rfl) (bdo j18 fun r20 h21 j18 => (aU rfl (bF (c_laws_lyFilter r7.1 x9.1 r4.1 x6.1 h21) rfl (aC (bE aB) (aC (bE hs1) aN))) (aR (bH rfl rfl) (aR (p_assign rfl) ?_))))))
     obtain rfl := si j18
     show At _ _ _ _ _ _
     exact n1 ⟨rfl, trivial⟩
    ·have j18 := cdF h19 j18
     refine aW (aE rfl) h19 ?_
     iterate 3 refine aX rfl ?_
     refine aR (v := .bool (false)) (bG rfl rfl) (aR (v := .bool (false)) (p_assign rfl) ?_)
     obtain rfl := si j18
     show At _ _ _ _ _ _
     exact n1 ⟨rfl, trivial⟩
   refine bI (rT (?_))
   obtain rfl := si H
   exact bk
  ·refine bA (nT (bdo H fun b22 j23 H => (bY [(2, .bool (b22))] ?_ ?_)))
   ·refine cA [(6, .slice x9.1.1 r7.1.length x9.1.2), (3, .string (r2))] ⟨rfl, rfl, trivial⟩ (aV rfl (bdo j23 fun r24 h25 j23 => (aT (bF (c_impl_FilterOk r7.1 x9.1 h25) rfl (aC (bE aB) aN)) ?_)))
    rcases aK (r24) with h26 | h26
    ·have j23 := cdT h26 j23
     refine aW (aE rfl) h26 (aS rfl (aE rfl) (bdo j23 fun r27 h28 j23 => (aU rfl (bF (c_impl_FilterText r7.1 x9.1 h28) rfl (aC (bE aB) aN) hL) (aS rfl (aE rfl) (aS rfl (p_seql rfl rfl) (aR (bH rfl rfl) (aR (p_assign rfl) ?_)))))))
     obtain rfl := si j23
     show At _ _ _ _ _ _
     exact n1 ⟨rfl, trivial⟩
    ·have j23 := cdF h26 j23
     refine aW (aE rfl) h26 ?_
     iterate 4 refine aX rfl ?_
     refine aR (v := .bool (false)) (bG rfl rfl) (aR (v := .bool (false)) (p_assign rfl) ?_)
     obtain rfl := si j23
     show At _ _ _ _ _ _
     exact n1 ⟨rfl, trivial⟩
   obtain rfl := si H
   exact bI bk
def inn (lo n hi : Int) : Bool := decide (lo ≤ n) && decide (n ≤ hi)
theorem e_spec_l6In (n lo hi : Int) : p_spec_l6In n lo hi = some (inn lo n hi) := by
 unfold p_spec_l6In inn; cases decide (lo ≤ n) <;> rfl
theorem tmod_rng {a n : Int} (ha : 0 ≤ a) (hn : 0 < n) : 0 ≤ a.tmod n ∧ a.tmod n < n := ⟨Int.tmod_nonneg n ha, Int.tmod_lt_of_pos a hn⟩
theorem tdiv_rng {a n : Int} (ha : 0 ≤ a) (hn : 0 < n) : 0 ≤ a.tdiv n ∧ a.tdiv n ≤ a := by
 rw [Int.tdiv_eq_ediv_of_nonneg ha]
 exact ⟨Int.ediv_nonneg ha (by omega), Int.ediv_le_self n ha⟩
theorem u8_rng (b : UInt8) : (0 : Int) ≤ (b.toNat : Int) ∧ (b.toNat : Int) ≤ 255 := by have := b.toNat_lt; omega
theorem xr_nn (a b : Int) : 0 ≤ xr a b := by unfold xr; omega
theorem xr_lt {a b : Int} (ha : 0 ≤ a) (ha2 : a < 4611686018427387904) (hb : 0 ≤ b) (hb2 : b < 4611686018427387904) : xr a b < 4611686018427387904 := by
 unfold xr
 have : a.toNat ^^^ b.toNat < 2 ^ 62 := Nat.xor_lt_two_pow (by omega) (by omega)
 omega
theorem d_pick (b : List UInt8) (p n : Int) (hb : b.length ≤ 2000) (h0 : 0 ≤ p) (h1 : p ≤ 1000000) (hn : n ≤ 1000000000) :
  ∃ x, p_spec_l6Rd_pick (b, p) n = some (x, p + 1) ∧ 0 ≤ x ∧ (1 ≤ n → x < n) := by
 unfold p_spec_l6Rd_pick
 have g0 : I64 (p + 1) := by unfold I64; omega
 have ep : p + 1 - 1 = p := by omega
 have gp : I64 p := by unfold I64; omega
 simp only [ep, gd.yes g0, gd.yes gp]
 by_cases hn1 : n < 1
 ·exact ⟨0, by simp [hn1], Int.le_refl _, fun h => by omega⟩
 ·by_cases hb0 : (b.length : Int) = 0
  ·exact ⟨0, by simp [hn1, hb0], Int.le_refl _, fun h => by omega⟩
  ·simp only [hn1, hb0, decide_false, cond_false, bd_some]
   by_cases hp : p < (b.length : Int)
   ·have hx := tmod_rng (u8_rng (nth b p.toNat)).1 (show 0 < n by omega)
    have g1 : ix p b.length := ⟨h0, hp⟩
    have g2 : n ≠ 0 := by omega
    have g3 : I64 (((nth b p.toNat).toNat : Int).tmod n) := by unfold I64; omega
    simp only [hp, decide_true, cond_true, gd.yes g1, gd.yes g2, gd.yes g3]
    exact ⟨_, rfl, hx.1, fun _ => hx.2⟩
   ·simp only [hp, decide_false, cond_false]
    have hL : (0 : Int) < (b.length : Int) := by omega
    have hm := tmod_rng h0 hL
    have hm2 := tmod_rng (show 0 ≤ p * 7 + 3 by omega) hL
    have hq := tdiv_rng h0 hL
    have u1 := u8_rng (nth b (p.tmod (b.length : Int)).toNat)
    have u2 := u8_rng (nth b ((p * 7 + 3).tmod (b.length : Int)).toNat)
    have g1 : (b.length : Int) ≠ 0 := hb0
    have g2 : I64 (p.tmod (b.length : Int)) := by unfold I64; omega
    have g3 : ix (p.tmod (b.length : Int)) b.length := hm
    have g4 : I64 (p * 7) := by unfold I64; omega
    have g5 : I64 (p * 7 + 3) := by unfold I64; omega
    have g6 : I64 ((p * 7 + 3).tmod (b.length : Int)) := by unfold I64; omega
    have g7 : ix ((p * 7 + 3).tmod (b.length : Int)) b.length := hm2
    have g8 : I64 (p * 29) := by unfold I64; omega
    have g9 : I64 (p.tdiv (b.length : Int)) := by unfold I64; omega
    simp only [gd.yes g1, gd.yes g2, gd.yes g3, gd.yes g4, gd.yes g5, gd.yes g6, gd.yes g7, gd.yes g8, gd.yes g9]
    generalize ((nth b (p.tmod (b.length : Int)).toNat).toNat : Int) = y1 at *
    generalize ((nth b ((p * 7 + 3).tmod (b.length : Int)).toNat).toNat : Int) = y2 at *
    generalize p.tdiv (b.length : Int) = q at *
    have k1 : I64 (y1 * 131) := by unfold I64; omega
    have k2 : I64 (y2 * 1117) := by unfold I64; omega
    have k3 : I64 (y1 * 131 + y2 * 1117) := by unfold I64; omega
    have k4 : I64 (y1 * 131 + y2 * 1117 + p * 29) := by unfold I64; omega
    have k5 : I64 (q * 53) := by unfold I64; omega
    have k6 : I64 (y1 * 131 + y2 * 1117 + p * 29 + q * 53) := by unfold I64; omega
    simp only [gd.yes k1, gd.yes k2, gd.yes k3, gd.yes k4, gd.yes k5, gd.yes k6]
    have hx0 : 0 ≤ y1 * 131 + y2 * 1117 + p * 29 + q * 53 := by omega
    have hx1 : y1 * 131 + y2 * 1117 + p * 29 + q * 53 < 1000000000 := by omega
    generalize y1 * 131 + y2 * 1117 + p * 29 + q * 53 = x at *
    have hd := tdiv_rng hx0 (show (0 : Int) < 64 by decide)
    have m1 : I64 (x.tdiv 64) := by unfold I64; omega
    have m2 : nn x := by unfold nn; omega
    have m3 : nn (x.tdiv 64) := by unfold nn; omega
    have hr0 := xr_nn x (x.tdiv 64)
    have hr1 := xr_lt hx0 (by omega) hd.1 (by omega) (b := x.tdiv 64)
    have hz := tmod_rng hr0 (show 0 < n by omega)
    have m4 : n ≠ 0 := by omega
    have m5 : I64 ((xr x (x.tdiv 64)).tmod n) := by unfold I64; omega
    simp only [gd.yes m1, gd.yes m2, gd.yes m3, gd.yes m4, gd.yes m5]
    exact ⟨_, rfl, hz.1, fun _ => hz.2⟩
theorem nth_mem {α : Type} [Inhabited α] {l : List α} {k : Nat} (h : k < l.length) : nth l k ∈ l := by rw [nth_eq l k h]; exact List.getElem_mem h
theorem d_l6Open (c : List UInt8) : ∃ b, p_spec_l6Open c = some (b, 0) ∧ b.length ≤ 2000 := by
 unfold p_spec_l6Open
 by_cases h : (2000 : Int) < (c.length : Int)
 ·have g : sl2 0 2000 c.length := by unfold sl2; omega
  simp only [h, decide_true, cond_true, gd.yes g]
  exact ⟨_, rfl, by simp; omega⟩
 ·simp only [h, decide_false, cond_false]
  exact ⟨_, rfl, by omega⟩
theorem ba_one {x : ByteArray} (h : x.size = 1) : x = ⟨#[sb x 0]⟩ := by
 have : x.data.size = 1 := h
 apply ByteArray.ext
 apply Array.ext
 ·rw [this]; rfl
 ·intro i h1 h2
  have hi : i = 0 := by omega
  subst hi
  simp [sb, this]
theorem sl_one (a b : UInt8) : sless ⟨#[a]⟩ ⟨#[b]⟩ = decide (a < b) := by
 rw [sless_lt]
 have e : ∀ c : UInt8, (⟨#[c]⟩ : ByteArray).toList = [c] := fun c => by simp [ByteArray.toList, ByteArray.toList.loop, ByteArray.size, ByteArray.get!]
 have h2 : ([a] < [b]) ↔ a < b := by rw [List.cons_lt_cons_iff]; simp
 rw [e, e]
 exact decide_eq_decide.2 h2
def tagB (t : Tag) : Bool := decide (t.1.size = 1) && (decide (t.2.size = 1) && (inn 97 ((sb t.1 0).toNat : Int) 100 && inn 112 ((sb t.2 0).toNat : Int) 122))
theorem e_spec_l3Tag (t : Tag) : p_spec_l3Tag t = some (tagB t) := by
 unfold p_spec_l3Tag tagB
 have c1 : decide ((t.1.size : Int) = 1) = decide (t.1.size = 1) := decide_eq_decide.2 (by omega)
 have c2 : decide ((t.2.size : Int) = 1) = decide (t.2.size = 1) := decide_eq_decide.2 (by omega)
 rw [c1, c2]
 by_cases h1 : t.1.size = 1
 ·by_cases h2 : t.2.size = 1
  ·simp only [h1, h2, decide_true, cond_true, gd.yes (show ix 0 1 by unfold ix; omega), e_spec_l6In, bd_some, Bool.true_and]
   cases inn 97 ((sb t.1 0).toNat : Int) 100 <;> simp
  ·simp [h1, h2]
 ·simp [h1]
theorem rng_one {x : ByteArray} (h : x.size = 1) (lo hi : UInt8) : (!sless x ⟨#[lo]⟩ && (sless x ⟨#[hi]⟩ || decide (x = ⟨#[hi]⟩))) = inn (lo.toNat : Int) ((sb x 0).toNat : Int) (hi.toNat : Int) := by
 have hx := ba_one h
 generalize sb x 0 = c at *
 subst hx
 rw [sl_one, sl_one]
 have e1 : (!decide (c < lo)) = decide ((lo.toNat : Int) ≤ (c.toNat : Int)) := by
  by_cases k : c < lo
  ·have : c.toNat < lo.toNat := UInt8.lt_iff_toNat_lt.1 k
   simp [k]; omega
  ·have : ¬ c.toNat < lo.toNat := fun q => k (UInt8.lt_iff_toNat_lt.2 q)
   simp [k]; omega
 have e2 : (decide (c < hi) || decide ((⟨#[c]⟩ : ByteArray) = ⟨#[hi]⟩)) = decide ((c.toNat : Int) ≤ (hi.toNat : Int)) := by
  by_cases k : c < hi
  ·have : c.toNat < hi.toNat := UInt8.lt_iff_toNat_lt.1 k
   simp [k]; omega
  ·have h3 : ¬ c.toNat < hi.toNat := fun q => k (UInt8.lt_iff_toNat_lt.2 q)
   by_cases e : c = hi
   ·subst e; simp
   ·have h4 : c.toNat ≠ hi.toNat := fun q => e (UInt8.toNat_inj.1 q)
    have h5 : (⟨#[c]⟩ : ByteArray) ≠ ⟨#[hi]⟩ := fun q => e (by
     have := congrArg (fun b : ByteArray => b.data.toList) q
     simpa using this)
    simp [k, h5]; omega
 rw [e1, e2]; rfl
theorem e_impl_tagOk (t : Tag) : p_impl_tagOk t = some (tagB t) := by
 unfold p_impl_tagOk tagB
 have c1 : decide ((t.1.size : Int) = 1) = decide (t.1.size = 1) := decide_eq_decide.2 (by omega)
 have c2 : decide ((t.2.size : Int) = 1) = decide (t.2.size = 1) := decide_eq_decide.2 (by omega)
 rw [c1, c2]
 by_cases h1 : t.1.size = 1
 ·have r1 := rng_one h1 97 100
  rw [show ((97 : UInt8).toNat : Int) = 97 from rfl, show ((100 : UInt8).toNat : Int) = 100 from rfl] at r1
  rw [← r1]
  by_cases h2 : t.2.size = 1
  ·have r2 := rng_one h2 112 122
   rw [show ((112 : UInt8).toNat : Int) = 112 from rfl, show ((122 : UInt8).toNat : Int) = 122 from rfl] at r2
   rw [← r2]
   simp only [h1, h2, decide_true, cond_true, Bool.true_and]
   cases (!sless t.1 ⟨#[97]⟩) <;> cases (sless t.1 ⟨#[100]⟩ || decide (t.1 = ⟨#[100]⟩)) <;> cases (!sless t.2 ⟨#[112]⟩) <;> rfl
  ·simp only [h1, h2, decide_true, decide_false, cond_true, cond_false, Bool.true_and, Bool.false_and]
   cases (!sless t.1 ⟨#[97]⟩) <;> cases (sless t.1 ⟨#[100]⟩ || decide (t.1 = ⟨#[100]⟩)) <;> rfl
 ·simp [h1]
def filterOk (f : List Cond) : Bool := allN f.length (fun k => !tagB (nth f k).1) && decide ((f.length : Int) ≤ 3)
theorem e_impl_FilterOk (f : List Cond) (hn : f.length ≤ maxLen) : p_impl_FilterOk f = some (filterOk f) := by
 have hn' : f.length ≤ 9223372036854775807 := hn
 have hr : ∀ k, k < f.length → p_impl_FilterOk_b0 f (k : Int) = some (if (!tagB (nth f k).1) then .inr (.inr false) else .inl ((k + 1 : Nat) : Int)) := fun k hk => by
  unfold p_impl_FilterOk_b0
  simp only [dlt hk, cond_true, gd.yes (ixN hk), e_impl_tagOk, bd_some, Int.toNat_natCast, gd.yes (i64S hk hn')]
  cases tagB (nth f k).1 <;> simp
 unfold p_impl_FilterOk filterOk
 rcases lp_scan (body := p_impl_FilterOk_b0 f) (fun k => (k : Int)) f.length (fun k => !tagB (nth f k).1) (.inl ()) (fun _ => .inr false) (fun k hk _ h => by rw [hr k hk, h]; rfl) (fun k hk _ h => by rw [hr k hk, h]; rfl) (fun _ => by unfold p_impl_FilterOk_b0; simp) with ⟨h1, h2⟩ | ⟨h1, k, _, _, _, h2⟩
 ·rw [show (lp (p_impl_FilterOk_b0 f) 0) = _ from h2, h1]; simp [sw]
 ·rw [show (lp (p_impl_FilterOk_b0 f) 0) = _ from h2, h1]; simp [sw]
theorem e_spec_FilterOk (f : List Cond) (hn : f.length ≤ maxLen) : p_spec_FilterOk f = some (filterOk f) := by
 have hn' : f.length ≤ 9223372036854775807 := hn
 have hr : ∀ k, k < f.length → p_spec_FilterOk_b0 f (k : Int) = some (if (!tagB (nth f k).1) then .inr (.inr false) else .inl ((k + 1 : Nat) : Int)) := fun k hk => by
  unfold p_spec_FilterOk_b0
  simp only [dlt hk, cond_true, gd.yes (ixN hk), e_spec_l3Tag, bd_some, Int.toNat_natCast, gd.yes (i64S hk hn')]
  cases tagB (nth f k).1 <;> simp
 unfold p_spec_FilterOk filterOk
 rcases lp_scan (body := p_spec_FilterOk_b0 f) (fun k => (k : Int)) f.length (fun k => !tagB (nth f k).1) (.inl ()) (fun _ => .inr false) (fun k hk _ h => by rw [hr k hk, h]; rfl) (fun k hk _ h => by rw [hr k hk, h]; rfl) (fun _ => by unfold p_spec_FilterOk_b0; simp) with ⟨h1, h2⟩ | ⟨h1, k, _, _, _, h2⟩
 ·rw [show (lp (p_spec_FilterOk_b0 f) 0) = _ from h2, h1]; simp [sw]
 ·rw [show (lp (p_spec_FilterOk_b0 f) 0) = _ from h2, h1]; simp [sw]
def oneB (t : Tag) : Prop := t.1.size = 1 ∧ t.2.size = 1
theorem tagB_one {t : Tag} (h : tagB t = true) : oneB t := by
 unfold tagB at h
 simp only [Bool.and_eq_true, decide_eq_true_eq] at h
 exact ⟨h.1, h.2.1⟩
theorem d_of (b : List UInt8) (p : Int) (l : List ByteArray) (hb : b.length ≤ 2000) (h0 : 0 ≤ p) (h1 : p ≤ 1000000) (hl : 1 ≤ l.length) (hl2 : l.length ≤ 1000) :
  ∃ x, p_spec_l6Rd_of (b, p) l = some (x, p + 1) ∧ x ∈ l := by
 obtain ⟨x, e, a, k⟩ := d_pick b p (l.length : Int) hb h0 h1 (by omega)
 have k := k (by omega)
 have hx : x.toNat < l.length := by omega
 refine ⟨nth l x.toNat, ?_, nth_mem hx⟩
 unfold p_spec_l6Rd_of
 rw [bd.yes e, gd.yes (show ix x l.length by unfold ix; omega)]
theorem d_l71Tag (b : List UInt8) (p : Int) (hb : b.length ≤ 2000) (h0 : 0 ≤ p) (h1 : p + 2 ≤ 1000000) :
  ∃ t : Tag, p_spec_l71Tag (b, p) = some (t, p + 2) ∧ t.1.size = 1 ∧ t.2.size = 1 := by
 obtain ⟨x, e1, m1⟩ := d_of b p [(⟨#[97]⟩ : ByteArray), (⟨#[98]⟩ : ByteArray), (⟨#[99]⟩ : ByteArray)] hb h0 (by omega) (by decide) (by decide)
 obtain ⟨y, e2, m2⟩ := d_of b (p + 1) [(⟨#[112]⟩ : ByteArray), (⟨#[113]⟩ : ByteArray), (⟨#[122]⟩ : ByteArray)] hb (by omega) (by omega) (by decide) (by decide)
 refine ⟨(x, y), ?_, ?_, ?_⟩
 ·unfold p_spec_l71Tag
  rw [bd.yes e1, bd.yes e2, show p + 1 + 1 = p + 2 by omega]
 ·simp only [List.mem_cons, List.not_mem_nil, or_false] at m1
  rcases m1 with rfl | rfl | rfl <;> rfl
 ·simp only [List.mem_cons, List.not_mem_nil, or_false] at m2
  rcases m2 with rfl | rfl | rfl <;> rfl
theorem d_filter0 (b : List UInt8) (hb : b.length ≤ 2000) (q : Int) : ∀ (m : Nat), m ≤ 3 → ∀ (p : Int) (f : List Cond), f.length ≤ 4 → 0 ≤ p → p + 3 * m ≤ 1000000 →
  ∃ p' f', lp (p_spec_l71Filter_b0 (b, q)) (p, f, (m : Int)) = some (p', f') ∧ p ≤ p' ∧ p' ≤ p + 3 * m ∧ f'.length ≤ f.length + m := by
 intro m
 induction m with
 | zero =>
  intro _ p f hf h0 h1
  refine ⟨p, f, lp.stop ?_, by omega, by omega, by omega⟩
  unfold p_spec_l71Filter_b0
  rfl
 | succ m ih =>
  intro hm p f hf h0 h1
  have key : ∀ f : List Cond, f.length ≤ 1000 → ∀ p : Int, 0 ≤ p → p + 3 ≤ 1000000 → ∃ c : Cond, p_spec_l71Filter_b0 (b, q) (p, f, ((m + 1 : Nat) : Int)) = some (.inl (p + 3, f ++ [c], (m : Int))) := by
   intro f hf p h0 h1
   obtain ⟨t, e1, _, _⟩ := d_l71Tag b p hb h0 (by omega)
   obtain ⟨x, e2, _, _⟩ := d_pick b (p + 2) 3 hb (by omega) (by omega) (by decide)
   refine ⟨(t, decide (x = 0)), ?_⟩
   unfold p_spec_l71Filter_b0
   rw [decide_eq_true (show (0 : Int) < ((m + 1 : Nat) : Int) by omega), cond_true, bd.yes e1, bd.yes e2, gd.yes (show room (f.length + 1) by unfold room; omega), gd.yes (show I64 (((m + 1 : Nat) : Int) - 1) by unfold I64; omega), show ((m + 1 : Nat) : Int) - 1 = (m : Int) by omega, show p + 2 + 1 = p + 3 by omega]
  obtain ⟨c, step⟩ := key f (by omega) p h0 (by omega)
  rw [lp.step step]
  by_cases hf3 : f.length ≤ 3
  ·obtain ⟨p', f', g1, g2, g3, g4⟩ := ih (by omega) (p + 3) (f ++ [c]) (by rw [List.length_append, List.length_singleton]; omega) (by omega) (by omega)
   rw [List.length_append, List.length_singleton] at g4
   exact ⟨p', f', g1, by omega, by omega, by omega⟩
  ·have ih2 : ∀ (m : Nat), m ≤ 3 → ∀ (p : Int) (f : List Cond), f.length + m ≤ 100 → 0 ≤ p → p + 3 * m ≤ 1000000 → ∃ p' f', lp (p_spec_l71Filter_b0 (b, q)) (p, f, (m : Int)) = some (p', f') ∧ p ≤ p' ∧ p' ≤ p + 3 * m ∧ f'.length ≤ f.length + m := by
    intro m
    induction m with
    | zero =>
     intro _ p f hf h0 h1
     refine ⟨p, f, lp.stop ?_, by omega, by omega, by omega⟩
     unfold p_spec_l71Filter_b0
     rfl
    | succ m ihm =>
     intro hm p f hf h0 h1
     obtain ⟨t, e1, _, _⟩ := d_l71Tag b p hb h0 (by omega)
     obtain ⟨x, e2, _, _⟩ := d_pick b (p + 2) 3 hb (by omega) (by omega) (by decide)
     have st : p_spec_l71Filter_b0 (b, q) (p, f, ((m + 1 : Nat) : Int)) = some (.inl (p + 3, f ++ [(t, decide (x = 0))], (m : Int))) := by
      unfold p_spec_l71Filter_b0
      rw [decide_eq_true (show (0 : Int) < ((m + 1 : Nat) : Int) by omega), cond_true, bd.yes e1, bd.yes e2, gd.yes (show room (f.length + 1) by unfold room; omega), gd.yes (show I64 (((m + 1 : Nat) : Int) - 1) by unfold I64; omega), show ((m + 1 : Nat) : Int) - 1 = (m : Int) by omega, show p + 2 + 1 = p + 3 by omega]
     rw [lp.step st]
     obtain ⟨p', f', g1, g2, g3, g4⟩ := ihm (by omega) (p + 3) (f ++ [(t, decide (x = 0))]) (by rw [List.length_append, List.length_singleton]; omega) (by omega) (by omega)
     rw [List.length_append, List.length_singleton] at g4
     exact ⟨p', f', g1, by omega, by omega, by omega⟩
   obtain ⟨p', f', g1, g2, g3, g4⟩ := ih2 m (by omega) (p + 3) (f ++ [c]) (by rw [List.length_append, List.length_singleton]; omega) (by omega) (by omega)
   rw [List.length_append, List.length_singleton] at g4
   exact ⟨p', f', g1, by omega, by omega, by omega⟩
theorem d_filter1 (b : List UInt8) (hb : b.length ≤ 2000) (q : Int) : ∀ (r : Nat) (p : Int) (f : List Cond), f.length + r = 4 → 0 ≤ p → p + 2 * r ≤ 1000000 →
  ∃ p' f', lp (p_spec_l71Filter_b1 (b, q)) (p, f) = some (f', p') ∧ p ≤ p' ∧ p' ≤ p + 2 * r ∧ f'.length ≤ 4 := by
 intro r
 induction r with
 | zero =>
  intro p f hf h0 h1
  refine ⟨p, f, lp.stop ?_, by omega, by omega, by omega⟩
  unfold p_spec_l71Filter_b1
  rw [decide_eq_false (show ¬ ((f.length : Int) ≤ 3) by omega)]; rfl
 | succ r ih =>
  intro p f hf h0 h1
  obtain ⟨t, e1, _, _⟩ := d_l71Tag b p hb h0 (by omega)
  have st : p_spec_l71Filter_b1 (b, q) (p, f) = some (.inl (p + 2, f ++ [(t, false)])) := by
   unfold p_spec_l71Filter_b1
   rw [decide_eq_true (show ((f.length : Int) ≤ 3) by omega), cond_true, bd.yes e1, gd.yes (show room (f.length + 1) by unfold room; omega)]
  rw [lp.step st]
  obtain ⟨p', f', g1, g2, g3, g4⟩ := ih (p + 2) (f ++ [(t, false)]) (by rw [List.length_append, List.length_singleton]; omega) (by omega) (by omega)
  exact ⟨p', f', g1, by omega, by omega, g4⟩
theorem d_l71Filter (b : List UInt8) (p : Int) (hb : b.length ≤ 2000) (h0 : 0 ≤ p) (h1 : p + 30 ≤ 1000000) :
  ∃ f p', p_spec_l71Filter (b, p) = some (f, p') ∧ p ≤ p' ∧ p' ≤ p + 30 ∧ f.length ≤ 4 := by
 obtain ⟨m, e1, a1, b1⟩ := d_pick b p 3 hb h0 (by omega) (by decide)
 have b1 := b1 (by decide)
 obtain ⟨p2, f, e2, a2, b2, hf⟩ := d_filter0 b hb p m.toNat (by omega) (p + 1) [] (Nat.zero_le _) (by omega) (by omega)
 rw [show ((m.toNat : Nat) : Int) = m by omega] at e2
 have hf : f.length ≤ 2 := by simp at hf; omega
 obtain ⟨k, e3, a3, b3⟩ := d_pick b p2 30 hb (by omega) (by omega) (by decide)
 unfold p_spec_l71Filter
 rw [bd.yes e1, bd.yes e2, bd.yes e3]
 by_cases hk : k = 0
 ·obtain ⟨p', f', g1, g2, g3, g4⟩ := d_filter1 b hb p (4 - f.length) (p2 + 1) f (by omega) (by omega) (by omega)
  rw [decide_eq_true hk, cond_true, bd.yes g1]
  exact ⟨f', p', rfl, by omega, by omega, g4⟩
 ·rw [decide_eq_false hk, cond_false]
  by_cases hk1 : k = 1
  ·rw [decide_eq_true hk1, cond_true, gd.yes (show room (f.length + 1) by unfold room; omega)]
   refine ⟨_, _, rfl, by omega, by omega, ?_⟩
   show (f ++ [_]).length ≤ 4
   rw [List.length_append, List.length_singleton]; omega
  ·rw [decide_eq_false hk1, cond_false]
   exact ⟨f, _, rfl, by omega, by omega, by omega⟩
def bl (b : ByteArray) : List UInt8 := b.data.toList
theorem bl_inj {a b : ByteArray} (h : bl a = bl b) : a = b := ByteArray.ext (Array.toList_inj.1 h)
theorem bl_app (a b : ByteArray) : bl (a ++ b) = bl a ++ bl b := by simp [bl]
theorem bl_len (b : ByteArray) : (bl b).length = b.size := rfl
theorem s2_len (l : List UInt8) : (s2 l).size = l.length := rfl
theorem bl_extract (b : ByteArray) (i j : Nat) : bl (b.extract i j) = ((bl b).take j).drop i := by
 unfold bl
 rw [ByteArray.data_extract, Array.toList_extract]
 simp [List.extract_eq_take_drop, List.drop_take]
theorem s2_extract (l : List UInt8) (i j : Nat) : (s2 l).extract i j = s2 ((l.take j).drop i) := bl_inj (bl_extract _ _ _)
theorem s2_cat (a b : List UInt8) : s2 a ++ s2 b = s2 (a ++ b) := bl_inj (bl_app _ _)
def consH (b : UInt8) : List (List UInt8) → List (List UInt8)
 | [] => [[b]]
 | w :: ws => (b :: w) :: ws
def spl (c : UInt8) : List UInt8 → List (List UInt8)
 | [] => [[]]
 | b :: l => if b = c then [] :: spl c l else consH b (spl c l)
theorem spl_ne (c : UInt8) : ∀ l, spl c l ≠ []
 | [] => by simp [spl]
 | b :: l => by
  unfold spl
  split
  ·simp
  ·cases spl c l <;> simp [consH]
theorem idx_yes (c : UInt8) : ∀ l : List UInt8, c ∈ l → ∃ m : Nat, Lib.indexByte l c = (m : Int) ∧ m < l.length ∧ spl c l = l.take m :: spl c (l.drop (m + 1)) ∧ l.count c = (l.drop (m + 1)).count c + 1
 | [], h => nomatch h
 | b :: l, h => by
  by_cases e : b = c
  ·subst e
   exact ⟨0, by simp [Lib.indexByte], by simp, by simp [spl], by simp⟩
  ·have h' : c ∈ l := by
    rcases List.mem_cons.1 h with h | h
    ·exact absurd h.symm e
    ·exact h
   obtain ⟨m, h1, h2, h3, h4⟩ := idx_yes c l h'
   refine ⟨m + 1, ?_, by simp only [List.length_cons]; omega, ?_, ?_⟩
   ·have e2 : (b == c) = false := by simpa using e
    have e3 : (Lib.indexByte l c == -1) = false := by rw [h1]; simp
    unfold Lib.indexByte
    rw [e2, e3, h1]; rfl
   ·show (if b = c then [] :: spl c l else consH b (spl c l)) = _
    rw [if_neg e, h3]; rfl
   ·rw [List.drop_succ_cons, List.count_cons, h4]; simp [e]
theorem idx_no (c : UInt8) : ∀ l : List UInt8, c ∉ l → Lib.indexByte l c = -1 ∧ spl c l = [l] ∧ l.count c = 0
 | [], _ => ⟨rfl, rfl, rfl⟩
 | b :: l, h => by
  have e : b ≠ c := fun e => h (e ▸ List.mem_cons_self ..)
  obtain ⟨h1, h2, h3⟩ := idx_no c l (fun hm => h (List.mem_cons_of_mem _ hm))
  have e2 : (b == c) = false := by simpa using e
  refine ⟨?_, ?_, ?_⟩
  ·unfold Lib.indexByte
   rw [e2, h1]; rfl
  ·show (if b = c then [] :: spl c l else consH b (spl c l)) = _
   rw [if_neg e, h2]; rfl
  ·rw [List.count_cons, h3]; simp [e]
theorem spl_len (c : UInt8) (k : Nat) : ∀ l : List UInt8, l.count c = k → (spl c l).length = k + 1 := by
 induction k with
 | zero =>
  intro l h
  rw [(idx_no c l (fun hm => absurd (List.count_pos_iff.2 hm) (by omega))).2.1]; rfl
 | succ k ih =>
  intro l h
  obtain ⟨m, _, _, h3, h4⟩ := idx_yes c l (List.count_pos_iff.1 (by omega))
  rw [h3, List.length_cons, ih _ (by omega)]
theorem spl_word (c : UInt8) : ∀ (l : List UInt8), ∀ w ∈ spl c l, w.length ≤ l.length
 | [], w, h => by
  rw [List.mem_singleton.1 h]; exact Nat.le_refl _
 | b :: l, w, h => by
  have ih := spl_word c l
  unfold spl at h
  split at h
  ·rcases List.mem_cons.1 h with h | h
   ·rw [h]; exact Nat.zero_le _
   ·have := ih w h; rw [List.length_cons]; omega
  ·cases hs : spl c l with
   | nil => exact absurd hs (spl_ne c l)
   | cons x xs =>
    rw [hs] at h ih
    rcases List.mem_cons.1 h with h | h
    ·have := ih x (List.mem_cons_self ..); rw [h, List.length_cons, List.length_cons]; omega
    ·have := ih w (List.mem_cons_of_mem _ h); rw [List.length_cons]; omega
def addL (b : UInt8) : List (List UInt8) → List (List UInt8)
 | [] => [[b]]
 | [w] => [w ++ [b]]
 | w :: w2 :: ws => w :: addL b (w2 :: ws)
theorem addL_cons (b : UInt8) (w : List UInt8) {ws : List (List UInt8)} (h : ws ≠ []) : addL b (w :: ws) = w :: addL b ws := by
 cases ws with
 | nil => exact absurd rfl h
 | cons _ _ => rfl
theorem spl_snoc (c b : UInt8) : ∀ l, spl c (l ++ [b]) = if b = c then spl c l ++ [[]] else addL b (spl c l)
 | [] => by
  show (if b = c then [] :: [[]] else [[b]]) = _
  split <;> simp [spl, addL]
 | x :: l => by
  have ih := spl_snoc c b l
  show (if x = c then [] :: spl c (l ++ [b]) else consH x (spl c (l ++ [b]))) = if b = c then (if x = c then [] :: spl c l else consH x (spl c l)) ++ [[]] else addL b (if x = c then [] :: spl c l else consH x (spl c l))
  have hne := spl_ne c l
  rw [ih]
  by_cases hx : x = c
  ·simp only [if_pos hx]
   by_cases hb : b = c
   ·simp only [if_pos hb]; rfl
   ·simp only [if_neg hb]; rw [addL_cons b [] hne]
  ·simp only [if_neg hx]
   cases hs : spl c l with
   | nil => exact absurd hs hne
   | cons w ws =>
    by_cases hb : b = c
    ·simp only [if_pos hb]; rfl
    ·simp only [if_neg hb]
     cases ws with
     | nil => rfl
     | cons _ _ => rfl
theorem addL_set (b : UInt8) : ∀ L : List (List UInt8), L ≠ [] → (L.map s2).set (L.length - 1) (nth (L.map s2) (L.length - 1) ++ s2 [b]) = (addL b L).map s2
 | [], h => absurd rfl h
 | [w], _ => by
  show [s2 w ++ s2 [b]] = [s2 (w ++ [b])]
  rw [s2_cat]
 | w :: w2 :: ws, _ => by
  have ih := addL_set b (w2 :: ws) (by simp)
  rw [addL_cons b w (by simp)]
  show (s2 w :: (w2 :: ws).map s2).set ((w2 :: ws).length - 1 + 1) (nth (s2 w :: (w2 :: ws).map s2) ((w2 :: ws).length - 1 + 1) ++ s2 [b]) = s2 w :: (addL b (w2 :: ws)).map s2
  rw [List.set_cons_succ]
  exact congrArg _ ih
theorem sb_bl (s : ByteArray) {k : Nat} (hk : k < s.size) : sb s k = (bl s)[k]'hk := by
 unfold sb bl
 rw [Array.getD_eq_getD_getElem?, Array.getElem?_eq_getElem (by simpa using hk)]
 simp
theorem take_bl {l : List UInt8} {k : Nat} (hk : k < l.length) : l.take (k + 1) = l.take k ++ [l[k]] := by rw [List.take_succ_eq_append_getElem hk]
theorem e_l3Cut (s : ByteArray) (c : UInt8) (hs : s.size ≤ 1048576) : p_spec_l3Cut s c = some ((spl c (bl s)).map s2) := by
 have key : lp (p_spec_l3Cut_b0 s c) (([(⟨#[]⟩ : ByteArray)] : List ByteArray), 0) = some ((spl c (bl s)).map s2) := lp_for (body := p_spec_l3Cut_b0 s c) (fun k => ((spl c ((bl s).take k)).map s2, (k : Int))) s.size ((spl c (bl s)).map s2) (fun k hk => by
  have hk' : k < (bl s).length := hk
  have hle : ((spl c ((bl s).take k)).map s2).length ≤ k + 1 := by
   rw [List.length_map, spl_len c _ _ rfl]
   have := List.count_le_length (a := c) (l := (bl s).take k)
   rw [List.length_take] at this
   omega
  have hne : 0 < ((spl c ((bl s).take k)).map s2).length := by rw [List.length_map]; exact List.length_pos_iff.2 (spl_ne _ _)
  have hsz : ∀ L : List (List UInt8), (∀ w ∈ L, w.length ≤ 1048576) → ∀ j, (nth (L.map s2) j).size ≤ 1048576 := fun L hL j => by
   by_cases hj : j < (L.map s2).length
   ·rw [nth_eq _ j hj, List.getElem_map, s2_len]; exact hL _ (List.getElem_mem _)
   ·unfold nth; rw [List.getD_eq_getElem?_getD, List.getElem?_eq_none (by omega)]; exact Nat.zero_le _
  have hw : ∀ w ∈ spl c ((bl s).take k), w.length ≤ 1048576 := fun w hw => by
   have := spl_word c ((bl s).take k) w hw
   rw [List.length_take] at this; omega
  unfold p_spec_l3Cut_b0
  rw [decide_eq_true (show (k : Int) < (s.size : Int) by omega), cond_true, gd.yes (ixN hk)]
  simp only [Int.toNat_natCast]
  have ht : (bl s).take (k + 1) = (bl s).take k ++ [sb s k] := by rw [take_bl hk', sb_bl s hk]; rfl
  rw [ht, spl_snoc]
  by_cases e : sb s k = c
  ·rw [decide_eq_true (show (((sb s k).toNat : Nat) : Int) = (c.toNat : Int) by rw [e]), cond_true, if_pos e, gd.yes (by unfold room; omega), gd.yes (by unfold I64; omega), addI, List.map_append]; rfl
  ·rw [decide_eq_false (show ¬ (((sb s k).toNat : Nat) : Int) = (c.toNat : Int) by intro h; exact e (UInt8.toNat_inj.1 (by omega))), cond_false, if_neg e]
   have e3 : ((((spl c ((bl s).take k)).map s2).length : Int) - 1).toNat = (spl c ((bl s).take k)).length - 1 := by rw [List.length_map]; omega
   have h4 := hsz _ hw ((spl c ((bl s).take k)).length - 1)
   rw [gd.yes (by unfold I64; omega), gd.yes (by unfold ix; omega), e3, gd.yes (by unfold room; rw [s2_len]; simp only [List.length_singleton]; omega), gd.yes (by unfold I64; omega), addI, addL_set _ _ (spl_ne _ _)]) (by
  unfold p_spec_l3Cut_b0
  rw [decide_eq_false (show ¬ ((s.size : Int) < (s.size : Int)) by omega), cond_false, ← bl_len, List.take_length])
 unfold p_spec_l3Cut
 rw [bd.yes key]
theorem e_Index44 (l : List UInt8) : p_strings_Index_k44 (s2 l) = some (Lib.indexByte l 44) := by
 unfold p_strings_Index_k44 p_internal_stringslite_Index_k44 p_internal_stringslite_IndexByte
 rw [bd_some]
 by_cases h : (⟨#[44]⟩ : ByteArray) = s2 l
 ·rw [decide_eq_true h, cond_true, bd_some]
  have hl : l = [44] := (congrArg bl h).symm
  rw [hl]; rfl
 ·rw [decide_eq_false h, cond_false, gd.yes (show ix 0 (⟨#[44]⟩ : ByteArray).size by unfold ix; decide), bd_some]; rfl
theorem gs_body (s0 : ByteArray) (r1 : Int) (s : ByteArray) (a : List ByteArray) (i : Int) : p_strings_genSplit_k44_0_m1_b0 s0 r1 (s, a, i) = cond (decide (i < ((min (r1 + 1) ((s0.size : Int) + 1)) - 1))) (bd (p_strings_Index_k44 s) fun r22 => cond (decide (r22 < 0)) (some (.inr (s, a, i))) (gd (I64 (r22 + 0)) <| gd (sl2 0 (r22 + 0) s.size) <| gd (ix i a.length) <| gd (I64 (r22 + 1)) <| gd (sl2 (r22 + 1) (s.size : Int) s.size) <| gd (I64 (i + 1)) <| some (.inl (s.extract (r22 + 1).toNat (s.size : Int).toNat, (a.set i.toNat (s.extract 0 (r22 + 0).toNat)), i + 1)))) (some (.inr (s, a, i))) := rfl
theorem set_rep {β : Type} (done : List β) (x z : β) (k : Nat) : (done ++ List.replicate (k + 2) z).set done.length x = (done ++ [x]) ++ List.replicate (k + 1) z := by
 rw [List.set_append_right _ _ (Nat.le_refl _), Nat.sub_self, show k + 2 = (k + 1) + 1 from rfl, List.replicate_succ, List.set_cons_zero]; simp
theorem split_loop (s0 : ByteArray) (r1 : Int) (N : Nat) (hN : min (r1 + 1) ((s0.size : Int) + 1) = (N : Int)) (hN2 : N ≤ 1048577) (z : ByteArray) : ∀ (k : Nat) (l : List UInt8) (done : List ByteArray), l.count 44 = k → l.length ≤ 1048576 → done.length + k + 1 = N →
  ∃ l' done', lp (p_strings_genSplit_k44_0_m1_b0 s0 r1) (s2 l, done ++ List.replicate (k + 1) z, (done.length : Int)) = some (s2 l', done' ++ [z], (done'.length : Int)) ∧ done' ++ [s2 l'] = done ++ (spl 44 l).map s2 ∧ done'.length + 1 = N
 | 0, l, done, hc, _, hd => by
  refine ⟨l, done, lp.stop ?_, ?_, by omega⟩
  ·rw [gs_body, hN, decide_eq_false (show ¬ (done.length : Int) < (N : Int) - 1 by omega), cond_false]; rfl
  ·rw [(idx_no 44 l (fun hm => absurd (List.count_pos_iff.2 hm) (by omega))).2.1]; rfl
 | k + 1, l, done, hc, hl, hd => by
  obtain ⟨m, h1, h2, h3, h4⟩ := idx_yes 44 l (List.count_pos_iff.1 (by omega))
  obtain ⟨l', done', g1, g2, g3⟩ := split_loop s0 r1 N hN hN2 z k (l.drop (m + 1)) (done ++ [s2 (l.take m)]) (by omega) (by rw [List.length_drop]; omega) (by rw [List.length_append, List.length_singleton]; omega)
  refine ⟨l', done', ?_, by rw [g2, h3]; simp, g3⟩
  rw [← g1]
  refine lp.step ?_
  have hla : (done ++ List.replicate (k + 1 + 1) z).length = done.length + k + 2 := by simp; omega
  rw [gs_body, hN, decide_eq_true (show (done.length : Int) < (N : Int) - 1 by omega), cond_true, bd.yes (e_Index44 l), h1, decide_eq_false (show ¬ (m : Int) < 0 by omega), cond_false, Int.add_zero,
   gd.yes (by unfold I64; omega), gd.yes (show sl2 0 (m : Int) (s2 l).size by unfold sl2; rw [s2_len]; omega), gd.yes (by unfold ix; omega), gd.yes (by unfold I64; omega), gd.yes (show sl2 ((m : Int) + 1) ((s2 l).size : Int) (s2 l).size by unfold sl2; rw [s2_len]; omega), gd.yes (by unfold I64; omega)]
  rw [s2_extract, s2_extract, s2_len, Int.toNat_natCast, Int.toNat_natCast, Int.toNat_natCast, List.take_length, List.drop_zero, show ((m : Int) + 1).toNat = m + 1 by omega, show k + 1 + 1 = k + 2 from rfl, set_rep, List.length_append, List.length_singleton]
  rfl
theorem e_Split (s : ByteArray) (hs : s.size ≤ 1048576) : p_strings_Split_k44 s = some ((spl 44 (bl s)).map s2) := by
 have hcl : (bl s).count 44 ≤ s.size := List.count_le_length
 have hsb : sb (⟨#[44]⟩ : ByteArray) 0 = 44 := rfl
 have hcb : cbs s (sb (⟨#[44]⟩ : ByteArray) 0) = (((bl s).count 44 : Nat) : Int) := rfl
 have hmin : min ((((bl s).count 44 : Nat) : Int) + 1) ((s.size : Int) + 1) = (((bl s).count 44 + 1 : Nat) : Int) := by omega
 unfold p_strings_Split_k44 p_strings_genSplit_k44_0_m1 p_strings_Count_k44
 rw [gd.yes (show ix 0 (⟨#[44]⟩ : ByteArray).size by unfold ix; decide), hcb, bd_some, gd.yes (by unfold I64; omega), gd.yes (by unfold I64; omega), hmin, gd.yes (by unfold many; omega), gd.yes (by unfold I64; omega)]
 obtain ⟨l', done', g1, g2, g3⟩ := split_loop s (((bl s).count 44 : Nat) : Int) ((bl s).count 44 + 1) hmin (by omega) Zr.z0 _ (bl s) [] rfl hs (by simp)
 rw [Int.toNat_natCast, bd.yes (show lp (p_strings_genSplit_k44_0_m1_b0 s (((bl s).count 44 : Nat) : Int)) (s, List.replicate ((bl s).count 44 + 1) (Zr.z0 : ByteArray), 0) = _ from g1)]
 have hla : (done' ++ [(Zr.z0 : ByteArray)]).length = done'.length + 1 := by simp
 have hset : (done' ++ [(Zr.z0 : ByteArray)]).set done'.length (s2 l') = done' ++ [s2 l'] := by
  rw [List.set_append_right _ _ (Nat.le_refl _), Nat.sub_self]; rfl
 have hlb : (done' ++ [s2 l']).length = done'.length + 1 := by simp
 show bd (gd (ix (done'.length : Int) (done' ++ [(Zr.z0 : ByteArray)]).length) (gd (I64 ((done'.length : Int) + 1)) (gd (sl2 0 ((done'.length : Int) + 1) ((done' ++ [(Zr.z0 : ByteArray)]).set (done'.length : Int).toNat (s2 l')).length) (some (((done' ++ [(Zr.z0 : ByteArray)]).set (done'.length : Int).toNat (s2 l')).take ((done'.length : Int) + 1).toNat))))) (fun r1 => some r1) = _
 rw [Int.toNat_natCast, hset, gd.yes (by unfold ix; omega), gd.yes (by unfold I64; omega), gd.yes (by unfold sl2; omega), show ((done'.length : Int) + 1).toNat = (done' ++ [s2 l']).length by omega, List.take_length, g2]
 rfl
theorem join_spl (c : UInt8) : ∀ l : List UInt8, Lib.join (spl c l) [c] = l
 | [] => rfl
 | b :: l => by
  have ih := join_spl c l
  unfold spl
  cases hs : spl c l with
  | nil => exact absurd hs (spl_ne c l)
  | cons w ws =>
   rw [hs, Lib.join_cons] at ih
   split
   ·rename_i e
    subst e
    rw [Lib.join_cons]
    show [] ++ (([b] ++ w) ++ Lib.joinTail [b] ws) = b :: l
    rw [← ih]; simp
   ·show Lib.join ((b :: w) :: ws) [c] = b :: l
    rw [Lib.join_cons, ← ih]; rfl
theorem spl_app (c : UInt8) : ∀ (x l : List UInt8), c ∉ x → spl c (x ++ c :: l) = x :: spl c l
 | [], l, _ => by
  show (if c = c then [] :: spl c l else consH c (spl c l)) = _
  rw [if_pos rfl]
 | b :: x, l, h => by
  have e : b ≠ c := fun e => h (e ▸ List.mem_cons_self ..)
  show (if b = c then [] :: spl c (x ++ c :: l) else consH b (spl c (x ++ c :: l))) = _
  rw [if_neg e, spl_app c x l (fun hm => h (List.mem_cons_of_mem _ hm))]; rfl
theorem spl_join (c : UInt8) : ∀ xs : List (List UInt8), xs ≠ [] → (∀ x ∈ xs, c ∉ x) → spl c (Lib.join xs [c]) = xs
 | [], h, _ => absurd rfl h
 | [x], _, h => by rw [Lib.join_one]; exact (idx_no c x (h x (List.mem_cons_self ..))).2.1
 | x :: y :: r, _, h => by
  have ih := spl_join c (y :: r) (by simp) (fun z hz => h z (List.mem_cons_of_mem _ hz))
  have e : Lib.join (x :: y :: r) [c] = x ++ c :: Lib.join (y :: r) [c] := by
   rw [Lib.join_cons, Lib.join_cons]
   show x ++ (([c] ++ y) ++ Lib.joinTail [c] r) = _
   simp
  rw [e, spl_app c x _ (h x (List.mem_cons_self ..)), ih]
def ixW (w : List UInt8) : Nat := (Lib.indexByte w 61).toNat
def keyW (w : List UInt8) : List UInt8 := if 61 ∈ w then w.take (ixW w) else w
def valW (w : List UInt8) : List UInt8 := if 61 ∈ w then w.drop (ixW w + 1) else []
def notW (k : List UInt8) : Bool := decide (1 ≤ k.length ∧ k.drop (k.length - 1) = [33])
def keyN (k : List UInt8) : List UInt8 := if notW k then k.take (k.length - 1) else k
def condW (w : List UInt8) : Cond := ((s2 (keyN (keyW w)), s2 (valW w)), notW (keyW w))
theorem e_Index61 (l : List UInt8) : p_internal_stringslite_Index_k61 (s2 l) = some (Lib.indexByte l 61) := by
 unfold p_internal_stringslite_Index_k61 p_internal_stringslite_IndexByte
 rw [bd_some]
 by_cases h : (⟨#[61]⟩ : ByteArray) = s2 l
 ·rw [decide_eq_true h, cond_true]
  have hl : l = [61] := (congrArg bl h).symm
  rw [hl]; rfl
 ·rw [decide_eq_false h, cond_false, gd.yes (show ix 0 (⟨#[61]⟩ : ByteArray).size by unfold ix; decide), bd_some]; rfl
theorem e_Cut61 (w : List UInt8) (hl : w.length ≤ 1048576) : p_strings_Cut_k61 (s2 w) = some (s2 (keyW w), s2 (valW w), decide ((61 : UInt8) ∈ w)) := by
 unfold p_strings_Cut_k61 p_internal_stringslite_Cut_k61 keyW valW ixW
 rw [bd.yes (e_Index61 w)]
 by_cases h : (61 : UInt8) ∈ w
 ·obtain ⟨m, h1, h2, _, _⟩ := idx_yes 61 w h
  rw [if_pos h, if_pos h, decide_eq_true h, h1, decide_eq_true (Int.natCast_nonneg m), cond_true, gd.yes (show sl2 0 (m : Int) (s2 w).size by unfold sl2; rw [s2_len]; omega), gd.yes (by unfold I64; omega), gd.yes (show sl2 ((m : Int) + 1) ((s2 w).size : Int) (s2 w).size by unfold sl2; rw [s2_len]; omega), bd_some]
  rw [s2_extract, s2_extract, s2_len, Int.toNat_natCast, Int.toNat_natCast, List.take_length, List.drop_zero, show ((m : Int) + 1).toNat = m + 1 by omega]
 ·obtain ⟨h1, _, _⟩ := idx_no 61 w h
  rw [if_neg h, if_neg h, decide_eq_false h, h1]; rfl
theorem e_CutSuffix (k : List UInt8) (hl : k.length ≤ 1048576) : p_strings_CutSuffix (s2 k) (⟨#[33]⟩ : ByteArray) = some (s2 (keyN k), notW k) := by
 have e1 : ((⟨#[33]⟩ : ByteArray)).size = 1 := rfl
 have hs : p_internal_stringslite_HasSuffix (s2 k) (⟨#[33]⟩ : ByteArray) = some (notW k) := by
  unfold p_internal_stringslite_HasSuffix notW
  rw [e1, s2_len]
  by_cases h : 1 ≤ k.length
  ·rw [decide_eq_true (show ((1 : Nat) : Int) ≤ (k.length : Int) by omega), cond_true, gd.yes (by unfold I64; omega), gd.yes (by unfold sl2; omega), bd_some, s2_extract, Int.toNat_natCast, List.take_length, show ((k.length : Int) - ((1 : Nat) : Int)).toNat = k.length - 1 by omega]
   congr 1
   refine decide_eq_decide.2 ⟨fun e => ⟨h, congrArg bl e⟩, fun e => bl_inj e.2⟩
  ·rw [decide_eq_false (show ¬ ((1 : Nat) : Int) ≤ (k.length : Int) by omega), cond_false, bd_some]
   congr 1
   exact (decide_eq_false (fun e => h e.1)).symm
 unfold p_strings_CutSuffix p_internal_stringslite_CutSuffix keyN
 rw [bd.yes hs]
 cases hn : notW k with
 | false => rfl
 | true =>
  have h1 : 1 ≤ k.length := by unfold notW at hn; exact (of_decide_eq_true hn).1
  rw [Bool.not_true, cond_false, e1, s2_len, gd.yes (by unfold I64; omega), gd.yes (by unfold sl2; omega), bd_some, s2_extract, List.drop_zero, show ((k.length : Int) - ((1 : Nat) : Int)).toNat = k.length - 1 by omega]
  rfl
def condS : List UInt8 → Option Cond
 | [a, b, c] => if b = 61 ∧ tagB (s2 [a], s2 [c]) = true then some ((s2 [a], s2 [c]), false) else none
 | [a, b, c, d] => if b = 33 ∧ c = 61 ∧ tagB (s2 [a], s2 [d]) = true then some ((s2 [a], s2 [d]), true) else none
 | _ => none
def textW (c : Cond) : ByteArray := if c.2 then (c.1.1 ++ (⟨#[33, 61]⟩ : ByteArray)) ++ c.1.2 else (c.1.1 ++ (⟨#[61]⟩ : ByteArray)) ++ c.1.2
theorem tagB_bytes {a c : UInt8} (h : tagB (s2 [a], s2 [c]) = true) : 97 ≤ a.toNat ∧ a.toNat ≤ 100 ∧ 112 ≤ c.toNat ∧ c.toNat ≤ 122 := by
 unfold tagB inn at h
 simp only [Bool.and_eq_true, decide_eq_true_eq] at h
 have ea : sb (s2 [a]) 0 = a := rfl
 have ec : sb (s2 [c]) 0 = c := rfl
 rw [ea, ec] at h
 omega
theorem u8_ne {a : UInt8} {k : Nat} (h : a.toNat ≠ k) (hk : k < 256) : a ≠ UInt8.ofNat k := fun e => by
 have := congrArg UInt8.toNat e
 rw [UInt8.toNat_ofNat'] at this
 omega
theorem size_one {b : ByteArray} (h : b.size = 1) : ∃ x, b = s2 [x] := by
 have hl : (bl b).length = 1 := h
 match hb : bl b, hl with
 | [x], _ => exact ⟨x, bl_inj (by rw [hb]; rfl)⟩
theorem condS_W {w : List UInt8} {c : Cond} (h : condS w = some c) : condW w = c ∧ tagB c.1 = true ∧ textW c = s2 w := by
 unfold condS at h
 split at h
 ·rename_i a b d
  split at h
  ·rename_i hc
   obtain ⟨rfl, ht⟩ := hc
   have hb := tagB_bytes ht
   have n1 : a ≠ 61 := u8_ne (k := 61) (by omega) (by decide)
   have n2 : a ≠ 33 := u8_ne (k := 33) (by omega) (by decide)
   obtain rfl := Option.some.inj h
   refine ⟨?_, ht, rfl⟩
   have hm : (61 : UInt8) ∈ [a, 61, d] := by simp
   have hi : Lib.indexByte [a, 61, d] 61 = 1 := by simp [Lib.indexByte, n1]
   have hk : keyW [a, 61, d] = [a] := by unfold keyW ixW; rw [if_pos hm, hi]; rfl
   have hv : valW [a, 61, d] = [d] := by unfold valW ixW; rw [if_pos hm, hi]; rfl
   have hn : notW [a] = false := by unfold notW; simp [n2]
   unfold condW keyN
   rw [hk, hv, hn]; rfl
  ·cases h
 ·rename_i a b d e
  split at h
  ·rename_i hc
   obtain ⟨rfl, rfl, ht⟩ := hc
   have hb := tagB_bytes ht
   have n1 : a ≠ 61 := u8_ne (k := 61) (by omega) (by decide)
   obtain rfl := Option.some.inj h
   refine ⟨?_, ht, rfl⟩
   have hm : (61 : UInt8) ∈ [a, 33, 61, e] := by simp
   have hi : Lib.indexByte [a, 33, 61, e] 61 = 2 := by simp [Lib.indexByte, n1]
   have hk : keyW [a, 33, 61, e] = [a, 33] := by unfold keyW ixW; rw [if_pos hm, hi]; rfl
   have hv : valW [a, 33, 61, e] = [e] := by unfold valW ixW; rw [if_pos hm, hi]; rfl
   have hn : notW [a, 33] = true := by unfold notW; simp
   unfold condW keyN
   rw [hk, hv, hn]; rfl
  ·cases h
 ·cases h
theorem condW_S {w : List UInt8} (ht : tagB (condW w).1 = true) (he : textW (condW w) = s2 w) : condS w = some (condW w) := by
 generalize condW w = c at ht he
 obtain ⟨⟨k, v⟩, n⟩ := c
 obtain ⟨h1, h2⟩ := tagB_one ht
 obtain ⟨x, hx⟩ := size_one h1
 obtain ⟨y, hy⟩ := size_one h2
 have hx : k = s2 [x] := hx
 have hy : v = s2 [y] := hy
 subst hx hy
 cases n with
 | false =>
  have hw : w = [x, 61, y] := (congrArg bl he).symm
  subst hw
  show (if (61 : UInt8) = 61 ∧ tagB (s2 [x], s2 [y]) = true then _ else _) = _
  rw [if_pos ⟨rfl, ht⟩]
 | true =>
  have hw : w = [x, 33, 61, y] := (congrArg bl he).symm
  subst hw
  show (if (33 : UInt8) = 33 ∧ (61 : UInt8) = 61 ∧ tagB (s2 [x], s2 [y]) = true then _ else _) = _
  rw [if_pos ⟨rfl, rfl, ht⟩]
theorem sb_s2 (l : List UInt8) (k : Nat) : sb (s2 l) k = l.getD k 0 := by
 unfold sb s2
 simp [Array.getD_eq_getD_getElem?, List.getD_eq_getElem?_getD]
theorem l3_tail (x : List UInt8) (n : Bool) (hl : x.length ≤ 1048576) : ∃ c0, (bd (cond (!decide (((s2 x).size : Int) = 3)) (some (true)) (gd (ix 1 (s2 x).size) <| some (!decide (((sb (s2 x) 1).toNat : Int) = ((61 : UInt8).toNat : Int))))) fun b14 => cond (b14) (some ((((⟨#[]⟩), (⟨#[]⟩)), n), false)) (gd (sl2 0 1 (s2 x).size) <| gd (sl2 2 ((s2 x).size : Int) (s2 x).size) <| bd (p_spec_l3Tag (((s2 x).extract 0 1), ((s2 x).extract 2 ((s2 x).size : Int).toNat))) fun r21 => some (((((s2 x).extract 0 1), ((s2 x).extract 2 ((s2 x).size : Int).toNat)), n), r21)) : Option (Cond × Bool)) = some c0 ∧
  (c0.2 = true → ∃ a c, x = [a, 61, c] ∧ tagB (s2 [a], s2 [c]) = true ∧ c0.1 = ((s2 [a], s2 [c]), n)) ∧ (∀ a c, x = [a, 61, c] → tagB (s2 [a], s2 [c]) = true → c0.2 = true) := by
 by_cases h3 : x.length = 3
 ·match x, h3 with
  | [a, b, c], _ =>
   rw [s2_len, decide_eq_true (show (([a, b, c].length : Nat) : Int) = 3 from rfl), Bool.not_true, cond_false, gd.yes (show ix 1 ([a, b, c].length) by unfold ix; simp), sb_s2, bd_some]
   show ∃ c0, (cond (!decide (((b.toNat : Nat) : Int) = ((61 : UInt8).toNat : Int))) _ _ : Option (Cond × Bool)) = some c0 ∧ _
   by_cases hb : b = 61
   ·subst hb
    rw [decide_eq_true rfl, Bool.not_true, cond_false, gd.yes (show sl2 0 1 ([a, 61, c].length) by unfold sl2; simp), gd.yes (show sl2 2 (([a, 61, c].length : Nat) : Int) ([a, 61, c].length) by unfold sl2; simp), s2_extract, s2_extract, bd.yes (e_spec_l3Tag _)]
    refine ⟨_, rfl, ⟨fun h => ⟨a, c, rfl, h, rfl⟩, fun a' c' e ht => ?_⟩⟩
    simp only [List.cons.injEq] at e
    obtain ⟨rfl, _, rfl, _⟩ := e
    exact ht
   ·rw [decide_eq_false (show ¬ ((b.toNat : Nat) : Int) = ((61 : UInt8).toNat : Int) by intro h; exact hb (UInt8.toNat_inj.1 (by omega))), Bool.not_false, cond_true]
    refine ⟨_, rfl, ⟨fun h => by simp at h, fun a' c' e _ => ?_⟩⟩
    simp only [List.cons.injEq] at e
    exact absurd e.2.1 hb
 ·rw [s2_len, decide_eq_false (show ¬ (x.length : Int) = 3 by omega), Bool.not_false, cond_true, bd_some, cond_true]
  refine ⟨_, rfl, ⟨fun h => by simp at h, fun a' c' e _ => ?_⟩⟩
  subst e; exact absurd rfl h3
theorem e_l3Cond (w : List UInt8) (hl : w.length ≤ 1048576) : ∃ c0, p_spec_l3Cond (s2 w) = some (c0, (condS w).isSome) ∧ ∀ c, condS w = some c → c0 = c := by
 have e33 : ((33 : UInt8).toNat : Int) = 33 := rfl
 unfold p_spec_l3Cond
 have fin : ∀ (x : List UInt8) (n : Bool), x.length ≤ 1048576 → (∀ a c, x = [a, 61, c] → condS w = if tagB (s2 [a], s2 [c]) = true then some ((s2 [a], s2 [c]), n) else none) → ((∀ a c, x ≠ [a, 61, c]) → condS w = none) → ∃ c0, (bd (cond (!decide (((s2 x).size : Int) = 3)) (some (true)) (gd (ix 1 (s2 x).size) <| some (!decide (((sb (s2 x) 1).toNat : Int) = ((61 : UInt8).toNat : Int))))) fun b14 => cond (b14) (some ((((⟨#[]⟩), (⟨#[]⟩)), n), false)) (gd (sl2 0 1 (s2 x).size) <| gd (sl2 2 ((s2 x).size : Int) (s2 x).size) <| bd (p_spec_l3Tag (((s2 x).extract 0 1), ((s2 x).extract 2 ((s2 x).size : Int).toNat))) fun r21 => some (((((s2 x).extract 0 1), ((s2 x).extract 2 ((s2 x).size : Int).toNat)), n), r21)) : Option (Cond × Bool)) = some (c0, (condS w).isSome) ∧ ∀ c, condS w = some c → c0 = c := fun x n hx h1 h2 => by
  obtain ⟨⟨c0, b⟩, g1, g2, g3⟩ := l3_tail x n hx
  refine ⟨c0, ?_, ?_⟩
  ·rw [g1]
   congr 2
   cases hb : b with
   | true =>
    obtain ⟨a, c, e, ht, _⟩ := g2 hb
    rw [h1 a c e, if_pos ht]; rfl
   | false =>
    by_cases hx3 : ∃ a c, x = [a, 61, c]
    ·obtain ⟨a, c, e⟩ := hx3
     rw [h1 a c e]
     by_cases ht : tagB (s2 [a], s2 [c]) = true
     ·have := g3 a c e ht
      rw [show (c0, b).2 = b from rfl, hb] at this; cases this
     ·rw [if_neg ht]; rfl
    ·rw [h2 (fun a c e => hx3 ⟨a, c, e⟩)]; rfl
  ·intro c hc
   by_cases hx3 : ∃ a c, x = [a, 61, c]
   ·obtain ⟨a, d, e⟩ := hx3
    rw [h1 a d e] at hc
    split at hc
    ·rename_i ht
     obtain ⟨a', d', e', _, g5⟩ := g2 (g3 a d e ht)
     rw [e] at e'
     simp only [List.cons.injEq] at e'
     obtain ⟨rfl, _, rfl, _⟩ := e'
     rw [← Option.some.inj hc]; exact g5
    ·cases hc
   ·rw [h2 (fun a c e => hx3 ⟨a, c, e⟩)] at hc; cases hc
 by_cases h4 : w.length = 4
 ·match w, h4 with
  | [a, b, c, d], _ =>
   rw [s2_len, decide_eq_true (show (([a, b, c, d].length : Nat) : Int) = 4 from rfl), cond_true, gd.yes (show ix 1 ([a, b, c, d].length) by unfold ix; simp), sb_s2, bd_some]
   show ∃ c0, (bd (cond (decide (((b.toNat : Nat) : Int) = ((33 : UInt8).toNat : Int))) _ _) _ : Option (Cond × Bool)) = some _ ∧ _
   by_cases hb : b = 33
   ·subst hb
    rw [decide_eq_true rfl, cond_true, gd.yes (show sl2 0 1 ([a, 33, c, d].length) by unfold sl2; simp), gd.yes (show sl2 2 (([a, 33, c, d].length : Nat) : Int) ([a, 33, c, d].length) by unfold sl2; simp), s2_extract, s2_extract, gd.yes (by unfold room; rw [s2_len, s2_len]; simp), bd_some, s2_cat]
    refine fin [a, c, d] true (by simp) (fun a' c' e => ?_) (fun hne => ?_)
    ·simp only [List.cons.injEq] at e
     obtain ⟨rfl, rfl, rfl, _⟩ := e
     show (if (33 : UInt8) = 33 ∧ (61 : UInt8) = 61 ∧ tagB (s2 [a], s2 [d]) = true then _ else _) = _
     simp
    ·show (if (33 : UInt8) = 33 ∧ c = 61 ∧ tagB (s2 [a], s2 [d]) = true then _ else _) = _
     rw [if_neg (fun hc => hne a d (by rw [hc.2.1]))]
   ·rw [decide_eq_false (show ¬ ((b.toNat : Nat) : Int) = ((33 : UInt8).toNat : Int) by intro h; exact hb (UInt8.toNat_inj.1 (by omega))), cond_false, bd_some]
    refine fin [a, b, c, d] false (by simp) (fun a' c' e => by simp at e) (fun _ => ?_)
    show (if b = 33 ∧ c = 61 ∧ tagB (s2 [a], s2 [d]) = true then _ else _) = _
    rw [if_neg (fun hc => hb hc.1)]
 ·rw [s2_len, decide_eq_false (show ¬ (w.length : Int) = 4 by omega), cond_false, bd_some, cond_false, bd_some]
  refine fin w false hl (fun a c e => ?_) (fun hne => ?_)
  ·subst e
   show (if (61 : UInt8) = 61 ∧ tagB (s2 [a], s2 [c]) = true then _ else _) = _
   simp
  ·unfold condS
   split
   ·rename_i a b c
    rw [if_neg (fun hc => hne a c (by rw [hc.1]))]
   ·exact absurd rfl h4
   ·rfl
theorem nth_s2 {ws : List (List UInt8)} {k : Nat} (hk : k < ws.length) : nth (ws.map s2) k = s2 (nth ws k) := by
 rw [nth_eq _ k (by rw [List.length_map]; exact hk), List.getElem_map, ← nth_eq ws k hk]
theorem joinTail_le (sep : List UInt8) (m : Nat) : ∀ r : List (List UInt8), (∀ x ∈ r, x.length ≤ m) → (Lib.joinTail sep r).length ≤ r.length * (m + sep.length)
 | [], _ => Nat.zero_le _
 | x :: r, h => by
  have ih := joinTail_le sep m r (fun y hy => h y (List.mem_cons_of_mem _ hy))
  have hx := h x (List.mem_cons_self ..)
  show ((sep ++ x) ++ Lib.joinTail sep r).length ≤ (r.length + 1) * (m + sep.length)
  rw [List.length_append, List.length_append, Nat.add_mul]
  omega
theorem join_le (sep : List UInt8) (m : Nat) (xs : List (List UInt8)) (h : ∀ x ∈ xs, x.length ≤ m) : (Lib.join xs sep).length ≤ xs.length * (m + sep.length) := by
 cases xs with
 | nil => exact Nat.zero_le _
 | cons x r =>
  have h1 := joinTail_le sep m r (fun y hy => h y (List.mem_cons_of_mem _ hy))
  have h2 := h x (List.mem_cons_self ..)
  rw [Lib.join_cons, List.length_append, List.length_cons, Nat.add_mul]
  omega
theorem filterOk_iff {f : List Cond} : filterOk f = true ↔ (∀ c ∈ f, tagB c.1 = true) ∧ f.length ≤ 3 := by
 unfold filterOk
 rw [Bool.and_eq_true, allN_iff, decide_eq_true_eq]
 constructor
 ·rintro ⟨h1, h2⟩
  refine ⟨fun c hc => ?_, by omega⟩
  obtain ⟨i, hi, rfl⟩ := List.mem_iff_getElem.1 hc
  have := h1 i hi
  rw [nth_eq f i hi] at this
  simpa using this
 ·rintro ⟨h1, h2⟩
  refine ⟨fun i hi => ?_, by omega⟩
  rw [nth_eq f i hi, h1 _ (List.getElem_mem hi)]; rfl
theorem textW_size {c : Cond} (h : tagB c.1 = true) : (textW c).size ≤ 4 := by
 obtain ⟨h1, h2⟩ := tagB_one h
 have e1 : ((⟨#[33, 61]⟩ : ByteArray)).size = 2 := rfl
 have e2 : ((⟨#[61]⟩ : ByteArray)).size = 1 := rfl
 unfold textW
 split
 ·rw [ByteArray.size_append, ByteArray.size_append, h1, h2, e1]; omega
 ·rw [ByteArray.size_append, ByteArray.size_append, h1, h2, e2]; omega
def textF (f : List Cond) : ByteArray := if filterOk f then (if f.length = 0 then (⟨#[42]⟩ : ByteArray) else joinS (f.map textW) (⟨#[44]⟩ : ByteArray)) else (⟨#[]⟩ : ByteArray)
theorem e_FilterText (f : List Cond) (hl : f.length ≤ 1048577) : p_impl_FilterText f = some (textF f) := by
 have e1 : ((⟨#[33, 61]⟩ : ByteArray)).size = 2 := rfl
 have e2 : ((⟨#[61]⟩ : ByteArray)).size = 1 := rfl
 unfold p_impl_FilterText textF
 rw [bd.yes (e_impl_FilterOk f (by unfold maxLen; omega))]
 cases hf : filterOk f with
 | false => rfl
 | true =>
  obtain ⟨h1, h2⟩ := filterOk_iff.1 hf
  rw [Bool.not_true, cond_false, if_pos rfl]
  by_cases h0 : f.length = 0
  ·rw [decide_eq_true (show (f.length : Int) = 0 by omega), cond_true, if_pos h0]
  ·rw [decide_eq_false (show ¬ (f.length : Int) = 0 by omega), cond_false, if_neg h0]
   have key : lp (p_impl_FilterText_b0 f) (([] : List ByteArray), 0) = some (f.map textW) := lp_for (body := p_impl_FilterText_b0 f) (fun k => ((f.take k).map textW, (k : Int))) f.length (f.map textW) (fun k hk => by
    obtain ⟨z1, z2⟩ := tagB_one (h1 _ (nth_mem hk))
    have hlt : ((f.take k).map textW).length ≤ k := by rw [List.length_map, List.length_take]; omega
    unfold p_impl_FilterText_b0
    rw [dlt hk, cond_true, gd.yes (ixN hk)]
    simp only [Int.toNat_natCast]
    rw [take_succ_nth hk, List.map_append, List.map_cons, List.map_nil]
    cases hn : (nth f k).2 with
    | true =>
     rw [cond_true, gd.yes (by simp only [room, e1]; omega), gd.yes (by simp only [room, ByteArray.size_append, e1]; omega), gd.yes (by unfold room; omega), gd.yes (by unfold I64; omega), addI]
     unfold textW; rw [if_pos hn]
    | false =>
     rw [cond_false, gd.yes (by simp only [room, e2]; omega), gd.yes (by simp only [room, ByteArray.size_append, e2]; omega), gd.yes (by unfold room; omega), gd.yes (by unfold I64; omega), addI]
     unfold textW; rw [if_neg (by rw [hn]; decide)]) (by
    unfold p_impl_FilterText_b0
    rw [decide_eq_false (show ¬ ((f.length : Int) < (f.length : Int)) by omega), cond_false, List.take_length])
   have hj : (joinS (f.map textW) (⟨#[44]⟩ : ByteArray)).size ≤ 1000 := by
    have h3 := join_le (bl ⟨#[44]⟩) 4 ((f.map textW).map bl) (fun x hx => by
     obtain ⟨b, hb, rfl⟩ := List.mem_map.1 hx
     obtain ⟨c, hc, rfl⟩ := List.mem_map.1 hb
     exact textW_size (h1 c hc))
    rw [List.length_map, List.length_map] at h3
    have h4 : (bl (⟨#[44]⟩ : ByteArray)).length = 1 := rfl
    rw [h4] at h3
    have h5 : (joinS (f.map textW) (⟨#[44]⟩ : ByteArray)).size = (Lib.join ((f.map textW).map bl) (bl ⟨#[44]⟩)).length := rfl
    omega
   rw [bd.yes key]
   unfold p_strings_Join
   rw [List.length_map, gd.yes (by unfold room; omega), gd.yes (by unfold room; omega), bd_some]
def wordsP (s : ByteArray) : List (List UInt8) := spl 44 (bl s)
def badW (ws : List (List UInt8)) (k : Nat) : Bool := (condS (nth ws k)).isNone || decide (3 ≤ k)
def goodP (s : ByteArray) : Bool := allN (wordsP s).length (badW (wordsP s))
def readP (s : ByteArray) : List Cond × Bool := if s = (⟨#[42]⟩ : ByteArray) then ([], true) else if goodP s then ((wordsP s).map condW, true) else ([], false)
theorem goodP_iff (s : ByteArray) : goodP s = true ↔ (∀ w ∈ wordsP s, condS w = some (condW w)) ∧ (wordsP s).length ≤ 3 := by
 unfold goodP
 rw [allN_iff]
 constructor
 ·intro h
  refine ⟨fun w hw => ?_, ?_⟩
  ·obtain ⟨i, hi, rfl⟩ := List.mem_iff_getElem.1 hw
   have := h i hi
   unfold badW at this
   rw [Bool.or_eq_false_iff, nth_eq _ i hi] at this
   cases hc : condS (wordsP s)[i] with
   | none => rw [hc] at this; exact absurd this.1 (by decide)
   | some c => rw [(condS_W hc).1]
  ·rcases Nat.lt_or_ge 3 (wordsP s).length with h3 | h3
   ·have := h 3 h3
    unfold badW at this
    rw [Bool.or_eq_false_iff] at this
    exact absurd this.2 (by decide)
   ·exact h3
 ·rintro ⟨h1, h2⟩ i hi
  unfold badW
  rw [nth_eq _ i hi, h1 _ (List.getElem_mem hi), decide_eq_false (show ¬ 3 ≤ i by omega)]; rfl
theorem wordsP_ne (s : ByteArray) : wordsP s ≠ [] := spl_ne _ _
theorem joinS_words (s : ByteArray) : joinS ((wordsP s).map s2) (⟨#[44]⟩ : ByteArray) = s := bl_inj (by
 show Lib.join (((wordsP s).map s2).map bl) (bl ⟨#[44]⟩) = bl s
 rw [List.map_map]
 have : (bl ∘ s2) = id := rfl
 rw [this, List.map_id]
 exact join_spl 44 (bl s))
theorem textW_no {c : Cond} (h : tagB c.1 = true) : (44 : UInt8) ∉ bl (textW c) := by
 obtain ⟨⟨k, v⟩, n⟩ := c
 obtain ⟨h1, h2⟩ := tagB_one h
 obtain ⟨x, hx⟩ := size_one h1
 obtain ⟨y, hy⟩ := size_one h2
 have hx : k = s2 [x] := hx
 have hy : v = s2 [y] := hy
 subst hx hy
 have hb := tagB_bytes h
 have n1 : (44 : UInt8) ≠ x := (u8_ne (k := 44) (by omega) (by decide)).symm
 have n2 : (44 : UInt8) ≠ y := (u8_ne (k := 44) (by omega) (by decide)).symm
 cases n with
 | false =>
  show (44 : UInt8) ∉ [x, 61, y]
  simp [n1, n2]
 | true =>
  show (44 : UInt8) ∉ [x, 33, 61, y]
  simp [n1, n2]
theorem good_text (s : ByteArray) : goodP s = true ↔ s ≠ (⟨#[]⟩ : ByteArray) ∧ textF ((wordsP s).map condW) = s := by
 have hne := wordsP_ne s
 have hpos : 0 < (wordsP s).length := List.length_pos_iff.2 hne
 rw [goodP_iff]
 constructor
 ·rintro ⟨h1, h2⟩
  have hf : filterOk ((wordsP s).map condW) = true := filterOk_iff.2 ⟨fun c hc => by
   obtain ⟨w, hw, rfl⟩ := List.mem_map.1 hc
   exact (condS_W (h1 w hw)).2.1, by rw [List.length_map]; exact h2⟩
  refine ⟨fun e => ?_, ?_⟩
  ·subst e
   have := h1 [] (by show ([] : List UInt8) ∈ [[]]; simp)
   cases this
  ·unfold textF
   rw [if_pos hf, if_neg (by rw [List.length_map]; omega), List.map_map]
   have : (wordsP s).map (textW ∘ condW) = (wordsP s).map s2 := List.map_congr_left fun w hw => (condS_W (h1 w hw)).2.2
   rw [this, joinS_words]
 ·rintro ⟨h1, h2⟩
  cases hf : filterOk ((wordsP s).map condW) with
  | false =>
   unfold textF at h2
   rw [hf, if_neg (by decide)] at h2
   exact absurd h2.symm h1
  | true =>
   obtain ⟨f1, f2⟩ := filterOk_iff.1 hf
   unfold textF at h2
   rw [if_pos hf, if_neg (by rw [List.length_map]; omega), List.map_map] at h2
   have hb : Lib.join (((wordsP s).map (textW ∘ condW)).map bl) [44] = bl s := congrArg bl h2
   have hs := congrArg (spl 44) hb
   rw [spl_join 44 _ (by intro e; rw [List.map_eq_nil_iff, List.map_eq_nil_iff] at e; exact hne e) (fun x hx => by
    obtain ⟨b, hb, rfl⟩ := List.mem_map.1 hx
    obtain ⟨w, hw, rfl⟩ := List.mem_map.1 hb
    exact textW_no (f1 _ (List.mem_map_of_mem hw)))] at hs
   have hs : ((wordsP s).map (textW ∘ condW)).map bl = wordsP s := hs
   refine ⟨fun w hw => ?_, by rwa [List.length_map] at f2⟩
   obtain ⟨i, hi, rfl⟩ := List.mem_iff_getElem.1 hw
   have hi2 : i < (((wordsP s).map (textW ∘ condW)).map bl).length := by rw [List.length_map, List.length_map]; exact hi
   have e : (((wordsP s).map (textW ∘ condW)).map bl)[i] = (wordsP s)[i] := by
    have := congrArg (fun l => l[i]?) hs
    simp only [List.getElem?_eq_getElem hi2, List.getElem?_eq_getElem hi, Option.some.injEq] at this
    exact this
   rw [List.getElem_map, List.getElem_map] at e
   exact condW_S (f1 _ (List.mem_map_of_mem hw)) (bl_inj e)
theorem words_le {s : ByteArray} (hs : s.size ≤ 1048576) : (∀ w ∈ wordsP s, w.length ≤ 1048576) ∧ (wordsP s).length ≤ 1048577 := by
 refine ⟨fun w hw => Nat.le_trans (spl_word 44 (bl s) w hw) hs, ?_⟩
 unfold wordsP
 rw [spl_len 44 _ _ rfl]
 have := List.count_le_length (a := (44 : UInt8)) (l := bl s)
 rw [bl_len] at this
 omega
theorem keyW_le (w : List UInt8) : (keyW w).length ≤ w.length := by
 unfold keyW
 split
 ·rw [List.length_take]; omega
 ·exact Nat.le_refl _
theorem e_impl_FilterRead (s : ByteArray) (hs : s.size ≤ 1048576) : p_impl_FilterRead s = some (readP s) := by
 obtain ⟨w1, w2⟩ := words_le hs
 unfold p_impl_FilterRead readP
 by_cases h42 : s = (⟨#[42]⟩ : ByteArray)
 ·rw [decide_eq_true h42, cond_true, if_pos h42]
 ·have hl : ((wordsP s).map s2).length = (wordsP s).length := List.length_map ..
  have key : lp (p_impl_FilterRead_b0 ((wordsP s).map s2)) (([] : List Cond), 0) = some ((wordsP s).map condW) := lp_for (body := p_impl_FilterRead_b0 ((wordsP s).map s2)) (fun k => (((wordsP s).take k).map condW, (k : Int))) (wordsP s).length ((wordsP s).map condW) (fun k hk => by
   have hw := w1 _ (nth_mem hk)
   have hkw := keyW_le (nth (wordsP s) k)
   have hlt : (((wordsP s).take k).map condW).length ≤ k := by rw [List.length_map, List.length_take]; omega
   unfold p_impl_FilterRead_b0
   rw [hl, dlt hk, cond_true, gd.yes (ixN hk)]
   simp only [Int.toNat_natCast]
   rw [nth_s2 hk, bd.yes (e_Cut61 _ hw), bd.yes (e_CutSuffix _ (by omega)), gd.yes (by unfold room; omega), gd.yes (by unfold I64; omega), addI, take_succ_nth hk, List.map_append]
   rfl) (by
   unfold p_impl_FilterRead_b0
   rw [hl, decide_eq_false (show ¬ (((wordsP s).length : Int) < ((wordsP s).length : Int)) by omega), cond_false, List.take_length])
  rw [decide_eq_false h42, cond_false, if_neg h42, bd.yes (show p_strings_Split_k44 s = some ((wordsP s).map s2) from e_Split s hs), bd.yes key]
  by_cases h0 : s = (⟨#[]⟩ : ByteArray)
  ·rw [decide_eq_true h0, cond_true, bd_some, cond_true, if_neg (fun hg => ((good_text s).1 hg).1 h0)]
  ·rw [decide_eq_false h0, cond_false, bd.yes (e_FilterText _ (by rw [List.length_map]; exact w2)), bd_some]
   by_cases ht : textF ((wordsP s).map condW) = s
   ·rw [decide_eq_true ht, Bool.not_true, cond_false, if_pos ((good_text s).2 ⟨h0, ht⟩)]
   ·rw [decide_eq_false ht, Bool.not_false, cond_true, if_neg (fun hg => ht ((good_text s).1 hg).2)]
theorem e_spec_FilterRead (s : ByteArray) (hs : s.size ≤ 1048576) : p_spec_FilterRead s = some (readP s) := by
 obtain ⟨w1, w2⟩ := words_le hs
 unfold p_spec_FilterRead readP
 by_cases h42 : s = (⟨#[42]⟩ : ByteArray)
 ·rw [decide_eq_true h42, cond_true, if_pos h42]
 ·have hl : ((wordsP s).map s2).length = (wordsP s).length := List.length_map ..
  rw [decide_eq_false h42, cond_false, if_neg h42, bd.yes (show p_spec_l3Cut s 44 = some ((wordsP s).map s2) from e_l3Cut s 44 hs)]
  have hgood : ∀ k, k < (wordsP s).length → badW (wordsP s) k = false → condS (nth (wordsP s) k) = some (condW (nth (wordsP s) k)) ∧ k < 3 := fun k hk h => by
   unfold badW at h
   rw [Bool.or_eq_false_iff] at h
   refine ⟨?_, by have := of_decide_eq_false h.2; omega⟩
   cases hc : condS (nth (wordsP s) k) with
   | none => rw [hc] at h; exact absurd h.1 (by decide)
   | some c => rw [(condS_W hc).1]
  rcases lp_scan (body := p_spec_FilterRead_b0 ((wordsP s).map s2)) (fun k => (((wordsP s).take k).map condW, (k : Int))) (wordsP s).length (badW (wordsP s)) (.inl ((wordsP s).map condW)) (fun _ => .inr (([] : List Cond), false)) (fun k hk _ h => by
    obtain ⟨g1, g2⟩ := hgood k hk h
    obtain ⟨c0, e0, e1⟩ := e_l3Cond (nth (wordsP s) k) (w1 _ (nth_mem hk))
    have hlt : (((wordsP s).take k).map condW).length = k := by rw [List.length_map, List.length_take]; omega
    unfold p_spec_FilterRead_b0
    rw [hl, dlt hk, cond_true, gd.yes (ixN hk)]
    simp only [Int.toNat_natCast]
    rw [nth_s2 hk, bd.yes e0, g1, e1 _ g1]
    show (bd (cond (!true) (some true) (some (decide ((3 : Int) ≤ ((((wordsP s).take k).map condW).length : Int))))) _ : Option _) = _
    rw [hlt, decide_eq_false (show ¬ (3 : Int) ≤ (k : Int) by omega), Bool.not_true, cond_false, bd_some, cond_false, gd.yes (by unfold room; omega), gd.yes (by unfold I64; omega), addI, take_succ_nth hk, List.map_append]
    rfl) (fun k hk hbf h => by
    obtain ⟨c0, e0, e1⟩ := e_l3Cond (nth (wordsP s) k) (w1 _ (nth_mem hk))
    have hlt : (((wordsP s).take k).map condW).length = k := by rw [List.length_map, List.length_take]; omega
    unfold p_spec_FilterRead_b0
    rw [hl, dlt hk, cond_true, gd.yes (ixN hk)]
    simp only [Int.toNat_natCast]
    rw [nth_s2 hk, bd.yes e0]
    unfold badW at h
    cases hc : condS (nth (wordsP s) k) with
    | none => rfl
    | some c =>
     rw [hc] at h
     have h3 : 3 ≤ k := by simpa using h
     show (bd (cond (!true) (some true) (some (decide ((3 : Int) ≤ ((((wordsP s).take k).map condW).length : Int))))) _ : Option _) = _
     rw [hlt, decide_eq_true (show (3 : Int) ≤ (k : Int) by omega), Bool.not_true, cond_false, bd_some, cond_true]) (fun _ => by
    unfold p_spec_FilterRead_b0
    rw [hl, decide_eq_false (show ¬ (((wordsP s).length : Int) < ((wordsP s).length : Int)) by omega), cond_false, List.take_length]) with ⟨h1, h2⟩ | ⟨h1, k, _, _, _, h2⟩
  ·have hg : goodP s = true := h1
   rw [show (lp (p_spec_FilterRead_b0 ((wordsP s).map s2)) (([] : List Cond), 0)) = _ from h2, if_pos hg]; rfl
  ·have hg : goodP s = false := h1
   rw [show (lp (p_spec_FilterRead_b0 ((wordsP s).map s2)) (([] : List Cond), 0)) = _ from h2, if_neg (by rw [hg]; decide)]; rfl
theorem readP_len (s : ByteArray) : (readP s).1.length ≤ 3 ∧ ∀ c ∈ (readP s).1, tagB c.1 = true := by
 unfold readP
 split
 ·exact ⟨Nat.zero_le _, fun _ h => nomatch h⟩
 ·split
  ·rename_i hg
   obtain ⟨h1, h2⟩ := (goodP_iff s).1 hg
   refine ⟨by rw [List.length_map]; exact h2, fun c hc => ?_⟩
   obtain ⟨w, hw, rfl⟩ := List.mem_map.1 hc
   exact (condS_W (h1 w hw)).2.1
  ·exact ⟨Nat.zero_le _, fun _ h => nomatch h⟩
theorem e_lyFilter (a b : List Cond) (ha : a.length ≤ 4194304) : p_laws_lyFilter a b = some (decide (a = b)) := by
 unfold p_laws_lyFilter
 by_cases hl : a.length = b.length
 ·have hl2 : (a.length : Int) = (b.length : Int) := by omega
  rw [decide_eq_true hl2, Bool.not_true, cond_false]
  refine eq_loop hl (fun k hk => ?_) ?_
  ·have hk2 : k < b.length := by omega
   unfold p_laws_lyFilter_b0
   simp only [dlt hk, cond_true, gd.yes (ixN hk), gd.yes (ixN hk2), Int.toNat_natCast, gd.yes (i64S hk (show a.length ≤ 9223372036854775807 by omega))]
   by_cases h : nth a k = nth b k <;> simp [h]
  ·unfold p_laws_lyFilter_b0; simp
 ·have h2 : ¬ (a.length : Int) = (b.length : Int) := by omega
  have h3 : a ≠ b := fun e => hl (by rw [e])
  simp [h2, h3]
theorem d_FilterText (f : List Cond) (hl : f.length ≤ 1000) : ∃ t, p_spec_FilterText f = some t ∧ t.size ≤ 1000 := by
 have c44 : ((⟨#[44]⟩ : ByteArray)).size = 1 := rfl
 have c33 : ((⟨#[33]⟩ : ByteArray)).size = 1 := rfl
 have c61 : ((⟨#[61]⟩ : ByteArray)).size = 1 := rfl
 unfold p_spec_FilterText
 rw [bd.yes (e_spec_FilterOk f (by unfold maxLen; omega))]
 cases hf : filterOk f with
 | false => exact ⟨_, rfl, Nat.zero_le _⟩
 | true =>
  obtain ⟨h1, h2⟩ := filterOk_iff.1 hf
  rw [Bool.not_true, cond_false]
  by_cases h0 : (f.length : Int) = 0
  ·rw [decide_eq_true h0, cond_true]; exact ⟨_, rfl, by decide⟩
  ·rw [decide_eq_false h0, cond_false]
   have key : ∀ k, k ≤ f.length → ∃ t : ByteArray, lp (p_spec_FilterText_b0 f) ((⟨#[]⟩ : ByteArray), 0) = lp (p_spec_FilterText_b0 f) (t, (k : Int)) ∧ t.size ≤ 10 * k := fun k => by
    induction k with
    | zero => exact fun _ => ⟨⟨#[]⟩, rfl, Nat.zero_le _⟩
    | succ k ih =>
     intro hk
     obtain ⟨t, e, hs⟩ := ih (by omega)
     have hk' : k < f.length := hk
     obtain ⟨z1, z2⟩ := tagB_one (h1 _ (nth_mem hk'))
     suffices hst : ∃ t', p_spec_FilterText_b0 f (t, (k : Int)) = some (.inl (t', ((k + 1 : Nat) : Int))) ∧ t'.size ≤ 10 * (k + 1) by
      obtain ⟨t', e2, h⟩ := hst
      exact ⟨t', by rw [e, lp.step e2], h⟩
     unfold p_spec_FilterText_b0
     rw [dlt hk', cond_true]
     simp only [Int.toNat_natCast]
     by_cases hp : (0 : Int) < (k : Int)
     ·rw [decide_eq_true hp, cond_true, gd.yes (by simp only [room, c44]; omega), gd.yes (ixN hk'), gd.yes (by simp only [room, ByteArray.size_append, c44]; omega)]
      cases (nth f k).2 with
      | true =>
       rw [cond_true, gd.yes (by simp only [room, ByteArray.size_append, c44, c33]; omega), gd.yes (by simp only [room, ByteArray.size_append, c44, c33, c61]; omega), gd.yes (by simp only [room, ByteArray.size_append, c44, c33, c61]; omega), gd.yes (by unfold I64; omega), addI]
       exact ⟨_, rfl, by simp only [ByteArray.size_append, c44, c33, c61]; omega⟩
      | false =>
       rw [cond_false, gd.yes (by simp only [room, ByteArray.size_append, c44, c61]; omega), gd.yes (by simp only [room, ByteArray.size_append, c44, c61]; omega), gd.yes (by unfold I64; omega), addI]
       exact ⟨_, rfl, by simp only [ByteArray.size_append, c44, c61]; omega⟩
     ·rw [decide_eq_false hp, cond_false, gd.yes (ixN hk'), gd.yes (by simp only [room]; omega)]
      cases (nth f k).2 with
      | true =>
       rw [cond_true, gd.yes (by simp only [room, ByteArray.size_append, c33]; omega), gd.yes (by simp only [room, ByteArray.size_append, c33, c61]; omega), gd.yes (by simp only [room, ByteArray.size_append, c33, c61]; omega), gd.yes (by unfold I64; omega), addI]
       exact ⟨_, rfl, by simp only [ByteArray.size_append, c33, c61]; omega⟩
      | false =>
       rw [cond_false, gd.yes (by simp only [room, ByteArray.size_append, c61]; omega), gd.yes (by simp only [room, ByteArray.size_append, c61]; omega), gd.yes (by unfold I64; omega), addI]
       exact ⟨_, rfl, by simp only [ByteArray.size_append, c61]; omega⟩
   obtain ⟨t, e, hs⟩ := key f.length (Nat.le_refl _)
   refine ⟨t, ?_, by omega⟩
   rw [e, lp.stop (e := t) (by unfold p_spec_FilterText_b0; rw [decide_eq_false (show ¬ ((f.length : Int) < (f.length : Int)) by omega)]; rfl)]
   rfl
theorem d_spoil (b : List UInt8) (p : Int) (t : ByteArray) (l : List ByteArray) (hb : b.length ≤ 2000) (h0 : 0 ≤ p) (h1 : p ≤ 999000) (ht : t.size ≤ 2000) (hl1 : 1 ≤ l.length) (hl2 : l.length ≤ 1000) (hl : ∀ x ∈ l, x.size ≤ 100) :
  ∃ s : ByteArray, (gd (I64 ((t.size : Int) + 1)) <| bd (p_spec_l6Rd_pick (b, p) ((t.size : Int) + 1)) fun r10 => bd (p_spec_l6Rd_pick (b, r10.2) 7) fun r13 => cond (decide (r13.1 = 0)) (gd (sl2 0 r10.1 t.size) <| some (t.extract 0 r10.1.toNat)) (cond (decide (r13.1 = 1)) (gd (sl2 0 r10.1 t.size) <| gd (sl2 r10.1 (t.size : Int) t.size) <| bd (p_spec_l6Rd_of (b, r13.2) l) fun r23 => gd (room ((t.extract 0 r10.1.toNat).size + r23.1.size)) <| gd (room (((t.extract 0 r10.1.toNat) ++ r23.1).size + (t.extract r10.1.toNat (t.size : Int).toNat).size)) <| some (((t.extract 0 r10.1.toNat) ++ r23.1) ++ (t.extract r10.1.toNat (t.size : Int).toNat))) (some t))) = some s ∧ s.size ≤ 1048576 := by
 obtain ⟨at_, e1, a1, a2⟩ := d_pick b p ((t.size : Int) + 1) hb h0 (by omega) (by omega)
 have a2 := a2 (by omega)
 obtain ⟨m, e2, _, _⟩ := d_pick b (p + 1) 7 hb (by omega) (by omega) (by decide)
 rw [gd.yes (by unfold I64; omega), bd.yes e1, bd.yes e2]
 dsimp only
 have hsz : ∀ i j : Nat, (t.extract i j).size ≤ 2000 := fun i j => by
  have : (t.extract i j).size = (bl (t.extract i j)).length := rfl
  rw [this, bl_extract, List.length_drop, List.length_take, bl_len]; omega
 by_cases hm : m = 0
 ·rw [decide_eq_true hm, cond_true, gd.yes (by unfold sl2; omega)]
  exact ⟨_, rfl, by have := hsz 0 at_.toNat; omega⟩
 ·rw [decide_eq_false hm, cond_false]
  by_cases hm1 : m = 1
  ·obtain ⟨x, e3, hx⟩ := d_of b (p + 1 + 1) l hb (by omega) (by omega) hl1 hl2
   have hx := hl x hx
   have s1 := hsz 0 at_.toNat
   have s2' := hsz at_.toNat (t.size : Int).toNat
   rw [decide_eq_true hm1, cond_true, gd.yes (by unfold sl2; omega), gd.yes (by unfold sl2; omega), bd.yes e3]
   dsimp only
   rw [gd.yes (by unfold room; omega), gd.yes (by unfold room; rw [ByteArray.size_append]; omega)]
   exact ⟨_, rfl, by rw [ByteArray.size_append, ByteArray.size_append]; omega⟩
  ·rw [decide_eq_false hm1, cond_false]
   exact ⟨_, rfl, by omega⟩
theorem d_DrawFilterRead (c : List UInt8) : ∃ s, p_spec_DrawFilterRead c = some s ∧ s.size ≤ 1048576 := by
 obtain ⟨b, e0, hb⟩ := d_l6Open c
 obtain ⟨f, p1, e1, a1, b1, hf⟩ := d_l71Filter b 0 hb (by omega) (by omega)
 obtain ⟨t, e2, ht⟩ := d_FilterText f (by omega)
 unfold p_spec_DrawFilterRead
 rw [bd.yes e0, bd.yes e1, bd.yes e2]
 exact d_spoil b p1 t _ hb (by omega) (by omega) (by omega) (by decide) (by decide) (by decide)
theorem readP_text {s : ByteArray} (h : (readP s).2 = true) : filterOk (readP s).1 = true ∧ textF (readP s).1 = s := by
 unfold readP at h ⊢
 by_cases h42 : s = (⟨#[42]⟩ : ByteArray)
 ·rw [if_pos h42]
  refine ⟨rfl, ?_⟩
  rw [h42]; rfl
 ·rw [if_neg h42] at h ⊢
  cases hg : goodP s with
  | false => rw [hg, if_neg (by decide)] at h; cases h
  | true =>
   obtain ⟨g1, g2⟩ := (good_text s).1 hg
   rw [if_pos rfl]
   refine ⟨?_, g2⟩
   cases hf : filterOk ((wordsP s).map condW) with
   | true => rfl
   | false =>
    unfold textF at g2
    rw [hf, if_neg (by decide)] at g2
    exact absurd g2.symm g1
theorem e_FnFilterStrict (c : List UInt8) (_ : Dp.ok c) : p_laws_FnFilterStrict c = some true := by
 unfold p_laws_FnFilterStrict
 by_cases hs : 1048576 < (c.length : Int)
 ·rw [decide_eq_true hs, cond_true]
 ·obtain ⟨s, e0, hsz⟩ := d_DrawFilterRead c
  obtain ⟨h1, _⟩ := readP_len s
  rw [decide_eq_false hs, cond_false, bd.yes e0, bd.yes (e_spec_FilterRead s hsz), bd.yes (e_impl_FilterRead s hsz), decide_eq_true rfl, Bool.not_true, cond_false, bd.yes (e_lyFilter _ _ (by omega)), decide_eq_true rfl, Bool.not_true, cond_false, bd_some]
  cases hr : (readP s).2 with
  | false => rw [Bool.not_false, cond_true, cond_true, bd.yes (e_lyFilter _ _ (by omega)), decide_eq_true rfl, bd_some]
  | true =>
   obtain ⟨k1, k2⟩ := readP_text hr
   rw [Bool.not_true, cond_false, bd.yes (e_impl_FilterOk _ (by unfold maxLen; omega)), k1, cond_true, bd.yes (e_FilterText _ (by omega)), k2, decide_eq_true rfl]; rfl
end Go.Proofs.YtchccgdjelhenaaDoor
