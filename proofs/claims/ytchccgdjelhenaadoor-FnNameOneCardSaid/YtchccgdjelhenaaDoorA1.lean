/- The walks and the plain laws, part 1: each function that the law reaches computes what its plain function tells, and what the plain functions answer. Conditions: lengths that memory can hold. -/
import Derived.Test.YtchccgdjelhenaaDoorSxB
import Derived.Test.YtchccgdjelhenaaDoorProg
namespace Go.Proofs.YtchccgdjelhenaaDoor
open Go Go.Sx Tryd
abbrev aA := @Del.here
abbrev aB := @Has.here
abbrev aC := @EntsB.cons
abbrev aD := @Tr.seq
abbrev aE := @p_move
abbrev aF := @Rg.m
abbrev aG := @Rg.p
abbrev aH := @Rg.a
abbrev aI := @Rg.o
abbrev aJ := @Rg.nl
abbrev aK := @Bool.eq_false_or_eq_true
abbrev aL := @Ent.b
abbrev aM := @EntB.flat
abbrev aN := @EntsB.nil
abbrev aO := @Tr.region
abbrev aP := @Tr.block
abbrev aQ := @Ent.z
abbrev aR := @Lin.p
abbrev aS := @Lin.h
abbrev aT := @Lin.o
abbrev aU := @Lin.i
abbrev aV := @Lin.m
abbrev aW := @Lin.e_
abbrev aX := @Lin.sk
abbrev aY := @Solo.tree
abbrev aZ := @Solo.nil
abbrev bA := @tSkip
abbrev bB := @q_ldb
abbrev bD := @Take.nil
abbrev bE := @EntB.tree
abbrev bF := @q_call
abbrev bG := @p_pickF
abbrev bH := @p_pickT
abbrev bI := @tRet
abbrev bJ := @p_add
abbrev bK := @p_len
abbrev bL := @Ents.refl
abbrev bM := @q_ixg
abbrev bN := @q_lde
abbrev bO := @q_ldeA
abbrev bP := @p_fabE
abbrev bQ := @e_callM
abbrev bR := @Ents.nil
abbrev bS := @p_lss
abbrev bT := @p_eql
abbrev bU := @p_seql
abbrev bV := @ShpT.wfa
abbrev bW := @Upd.here
abbrev bX := @p_extract
abbrev bY := @tExit
abbrev bZ := @tMid1
abbrev cA := @tLoopI
abbrev cB := @tLinT
abbrev cC := @underlying22
abbrev cD := @underlying28
abbrev cE := @underlying3
abbrev cF := @underlying33
abbrev cG := @underlying47
abbrev cI := @underlying5
abbrev cJ := @underlying9
theorem mixed : prog.follows .mixedOrders = true := by kernel_rfl
abbrev Tag := ByteArray × ByteArray
abbrev Cond := Tag × Bool
abbrev L6Rd := (List UInt8) × Int
instance : DecidableEq Tag := inferInstanceAs (DecidableEq (ByteArray × ByteArray))
instance : DecidableEq Cond := inferInstanceAs (DecidableEq (Tag × Bool))
instance : DecidableEq L6Rd := inferInstanceAs (DecidableEq ((List UInt8) × Int))
theorem ty3 : TyI prog 3 false 1 (.int .i64 0) 8 := ⟨by kernel_rfl, by kernel_rfl, rfl⟩
theorem ty4 : TyI prog 4 false 1 (.bool false) 1 := ⟨by kernel_rfl, by kernel_rfl, rfl⟩
theorem ty5 : TyI prog 5 false 1 (.int .u8 0) 1 := ⟨by kernel_rfl, by kernel_rfl, rfl⟩
theorem ty9 : TyI prog 9 false 1 (.string ⟨#[]⟩) 16 := ⟨by kernel_rfl, by kernel_rfl, rfl⟩
theorem ty33 : TyI prog 33 false 1 (.slice none 0 0) 24 := ⟨by kernel_rfl, by kernel_rfl, rfl⟩
theorem ty44 : TyI prog 44 true 2 (.agg #[.string ⟨#[]⟩, .string ⟨#[]⟩]) 32 := ⟨by kernel_rfl, by kernel_rfl, rfl⟩
theorem fa44_0 : FA prog 44 0 0 := ⟨_, underlying44, _, rfl, rfl, by obtain ⟨i, hi, _, hn, _⟩ := ty9.info'; exact ⟨i, hi, by rw [hn]; decide⟩⟩
theorem fa44_1 : FA prog 44 1 1 := ⟨_, underlying44, _, rfl, rfl, by obtain ⟨i, hi, _, hn, _⟩ := ty9.info'; exact ⟨i, hi, by rw [hn]; decide⟩⟩
theorem ty46 : TyI prog 46 true 3 (.agg #[.string ⟨#[]⟩, .string ⟨#[]⟩, .bool false]) 40 := ⟨by kernel_rfl, by kernel_rfl, rfl⟩
theorem fa46_0 : FA prog 46 0 0 := ⟨_, underlying46, _, rfl, rfl, by obtain ⟨i, hi, _, hn, _⟩ := ty44.info'; exact ⟨i, hi, by rw [hn]; decide⟩⟩
theorem fa46_1 : FA prog 46 1 2 := ⟨_, underlying46, _, rfl, rfl, by obtain ⟨i, hi, _, hn, _⟩ := ty4.info'; exact ⟨i, hi, by rw [hn]; decide⟩⟩
theorem ty72 : TyI prog 72 true 2 (.agg #[.slice none 0 0, .int .i64 0]) 32 := ⟨by kernel_rfl, by kernel_rfl, rfl⟩
theorem fa72_0 : FA prog 72 0 0 := ⟨_, underlying72, _, rfl, rfl, by obtain ⟨i, hi, _, hn, _⟩ := ty33.info'; exact ⟨i, hi, by rw [hn]; decide⟩⟩
theorem fa72_1 : FA prog 72 1 1 := ⟨_, underlying72, _, rfl, rfl, by obtain ⟨i, hi, _, hn, _⟩ := ty3.info'; exact ⟨i, hi, by rw [hn]; decide⟩⟩
theorem pl44 : PL prog 44 #[(0, 1), (1, 1)] := ⟨_, underlying44, fun w => by simp [ty9.sizeOf w]⟩
theorem pl46 : PL prog 46 #[(0, 2), (2, 1)] := ⟨_, underlying46, fun w => by simp [ty44.sizeOf w]⟩
theorem pl72 : PL prog 72 #[(0, 1), (1, 1)] := ⟨_, underlying72, fun w => by simp [ty33.sizeOf w]⟩
theorem ae44 : AEq prog 44 Tag := ⟨by kernel_rfl, fun d a b w => by
 rw [run_equalIn_agg w (d + 2) 44 _ _ (by kernel_rfl) (by kernel_rfl)]
 simp only [Program.fieldsOf, underlying44, Flat.enc, List.cons_append, List.nil_append]
 simp [Op.eqFields, part, ty9.isAgg, ty9.sizeOf, run_equalIn_string w (d + 1) 9 _ _ underlying9, seq_dec]
 by_cases h0 : a.1 = b.1 <;> by_cases h1 : a.2 = b.2 <;> simp [h0, h1, Prod.ext_iff]⟩
noncomputable def p_spec_l6In (v0 : Int) (v1 : Int) (v2 : Int) : Option (Bool) := bd (cond (decide (v1 ≤ v0)) (some (decide (v0 ≤ v2))) (some (false))) fun b1 => some b1
theorem c_spec_l6In {r : Bool} (v0 : Int) (v1 : Int) (v2 : Int) (H : p_spec_l6In v0 v1 v2 = some r) : Fn' prog 52 #[.int .i64 (v0), .int .i64 (v1), .int .i64 (v2)] [] [] (ι := Unit) (fun _ => .bool (r)) (fun _ => []) (fun _ => []) := by
 refine cof (args := [_, _, _]) func52 ntmps52 fun c => ?_
 unfold p_spec_l6In at H
 refine sr (aH (v := .bool (false)) rfl (nl (bdo H fun b1 j2 H => (bZ [(6, .bool (b1))] ?_ ?_))))
 ·refine cB [(0, .int .i64 (v0)), (1, .int .i64 (v1)), (2, .int .i64 (v2))] ⟨rfl, rfl, rfl, trivial⟩ (aV rfl (aV rfl (aR (p_geq rfl rfl) ?_)))
  rcases aK (decide (v1 ≤ v0)) with h3 | h3
  ·have j2 := cdT h3 j2
   refine aW (aE rfl) h3 (aS rfl (aE rfl) (aS rfl (aE rfl) (aS rfl (p_leq rfl rfl) (aR (bH rfl rfl) (aR (p_assign rfl) ?_)))))
   obtain rfl := si j2
   show At _ _ _ _ _ _
   exact n1 ⟨rfl, trivial⟩
  ·have j2 := cdF h3 j2
   refine aW (aE rfl) h3 ?_
   iterate 3 refine aX rfl ?_
   refine aR (v := .bool (false)) (bG rfl rfl) (aR (v := .bool (false)) (p_assign rfl) ?_)
   obtain rfl := si j2
   show At _ _ _ _ _ _
   exact n1 ⟨rfl, trivial⟩
 obtain rfl := si H
 exact bI bk
noncomputable def p_spec_l3Tag (v0 : Tag) : Option (Bool) := bd (cond (decide ((v0.1.size : Int) = 1)) (cond (decide ((v0.2.size : Int) = 1)) (gd (ix 0 v0.1.size) <| bd (p_spec_l6In ((sb v0.1 0).toNat : Int) 97 100) fun r7 => cond (r7) (gd (ix 0 v0.2.size) <| bd (p_spec_l6In ((sb v0.2 0).toNat : Int) 112 122) fun r11 => some (r11)) (some (false))) (some (false))) (some (false))) fun b2 => some b2
theorem c_spec_l3Tag {r : Bool} (v0 : Tag) (H : p_spec_l3Tag v0 = some r) : Fn' prog 51 #[.agg #[.string (v0.1), .string (v0.2)]] [] [] (ι := Unit) (fun _ => .bool (r)) (fun _ => []) (fun _ => []) := by
 refine cof (args := [_]) func51 ntmps51 fun c => ?_
 unfold p_spec_l3Tag at H
 refine sr (f1 (e_box (t := 44) rfl) fun g1 => (aH (v := .bool (false)) rfl (nl (bdo H fun b2 j3 H => (bZ [(2, .bool (b2))] ?_ ?_)))))
 ·refine cB [(1, .pointer (some ⟨g1, 0, none⟩))] ⟨rfl, trivial⟩ (aR (bP fa44_0 rfl rfl) (aT (bB ty9 rfl aB rfl) (aR (p_slen cJ rfl) (aR (bT rfl rfl) ?_))))
  rcases aK (decide ((v0.1.size : Int) = 1)) with h4 | h4
  ·have j3 := cdT h4 j3
   refine aW (aE rfl) h4 (aS rfl (bP fa44_1 rfl rfl) (aU rfl (bB ty9 rfl aB rfl) (aS rfl (p_slen cJ rfl) (aS rfl (bT rfl rfl) (aR (bH rfl rfl) ?_)))))
   rcases aK (decide ((v0.2.size : Int) = 1)) with h5 | h5
   ·have j3 := cdT h5 j3
    refine aW (aE rfl) h5 (aS rfl (bP fa44_0 rfl rfl) (aU rfl (bB ty9 rfl aB rfl) (gdo j3 fun h6 j3 => (aS rfl (p_six cJ rfl rfl h6) (aS rfl (p_i8 cI cE rfl) (bdo j3 fun r7 h8 j3 => (aU rfl (bF (c_spec_l6In ((sb v0.1 0).toNat : Int) 97 100 h8) rfl aN) (aR (bH rfl rfl) ?_))))))))
    rcases aK (r7) with h9 | h9
    ·have j3 := cdT h9 j3
     refine aW (aE rfl) h9 (aS rfl (bP fa44_1 rfl rfl) (aU rfl (bB ty9 rfl aB rfl) (gdo j3 fun h10 j3 => (aS rfl (p_six cJ rfl rfl h10) (aS rfl (p_i8 cI cE rfl) (bdo j3 fun r11 h12 j3 => (aU rfl (bF (c_spec_l6In ((sb v0.2 0).toNat : Int) 112 122 h12) rfl aN) (aR (bH rfl rfl) (aR (p_assign rfl) ?_)))))))))
     obtain rfl := si j3
     show At _ _ _ _ _ _
     exact n1 ⟨rfl, trivial⟩
    ·have j3 := cdF h9 j3
     refine aW (aE rfl) h9 ?_
     iterate 5 refine aX rfl ?_
     refine aR (v := .bool (false)) (bG rfl rfl) (aR (v := .bool (false)) (p_assign rfl) ?_)
     obtain rfl := si j3
     show At _ _ _ _ _ _
     exact n1 ⟨rfl, trivial⟩
   ·have j3 := cdF h5 j3
    refine aW (aE rfl) h5 ?_
    iterate 5 refine aX rfl ?_
    refine aR (v := .bool (false)) (bG rfl rfl) (aV (v := .bool (false)) rfl ?_)
    iterate 5 refine aX rfl ?_
    refine aR (v := .bool (false)) (bG rfl rfl) (aR (v := .bool (false)) (p_assign rfl) ?_)
    obtain rfl := si j3
    show At _ _ _ _ _ _
    exact n1 ⟨rfl, trivial⟩
  ·have j3 := cdF h4 j3
   refine aW (aE rfl) h4 ?_
   iterate 4 refine aX rfl ?_
   refine aR (v := .bool (false)) (bG rfl rfl) (aV (v := .bool (false)) rfl ?_)
   iterate 5 refine aX rfl ?_
   refine aR (v := .bool (false)) (bG rfl rfl) (aV (v := .bool (false)) rfl ?_)
   iterate 5 refine aX rfl ?_
   refine aR (v := .bool (false)) (bG rfl rfl) (aR (v := .bool (false)) (p_assign rfl) ?_)
   obtain rfl := si j3
   show At _ _ _ _ _ _
   exact n1 ⟨rfl, trivial⟩
 obtain rfl := si H
 exact bI bk
noncomputable def p_spec_NameOk_b0 (v0 : (List Tag)) (Q5 : Int) : Option ((Int) ⊕ (Unit ⊕ Bool)) := cond (decide (Q5 < (v0.length : Int))) (bd (gd (ix Q5 v0.length) <| bd (p_spec_l3Tag (nth v0 Q5.toNat)) fun r17 => cond (!r17) (some (true)) (cond (decide (0 < Q5)) (gd (I64 (Q5 - 1)) <| gd (ix (Q5 - 1) v0.length) <| some (!sless ((nth v0 ((Q5 - 1).toNat)).1) ((nth v0 Q5.toNat).1))) (some (false)))) fun b14 => cond (b14) (some (.inr (.inr false))) (gd (I64 (Q5 + 1)) <| some (.inl (Q5 + 1)))) (some (.inr (.inl ())))
noncomputable def p_spec_NameOk (v0 : (List Tag)) : Option (Bool) := bd (lp (p_spec_NameOk_b0 v0) 0) <| sw (fun _ => bd (p_spec_l6In (v0.length : Int) 1 3) fun r26 => some r26) (fun q => some q)
theorem c_spec_NameOk {r : Bool} (v0 : (List Tag)) (x_v0 : Option Addr × Nat) (H : p_spec_NameOk v0 = some r) : Fn' prog 30 #[.slice x_v0.1 v0.length x_v0.2] [imm (.slice x_v0.1 v0.length x_v0.2) v0] [] (ι := Unit) (fun _ => .bool (r)) (fun _ => []) (fun _ => []) := by
 refine cof (args := [_]) func30 ntmps30 fun c => ?_
 unfold p_spec_NameOk at H
 refine sr (aH (v := .bool (false)) rfl (nl (aD (sr (aH (v := .int .i64 (0)) rfl (nl (bdo H fun x1 hx2 H => (tMidI (Λ := Unit) H (fun _ _ => [(0, .slice x_v0.1 v0.length x_v0.2)]) (fun _ _ => []) ?_ ?_))))))))
 ·refine aP (cA hx2 () (fun Q5 _ => [(0, .slice x_v0.1 v0.length x_v0.2), (3, .int .i64 (Q5))]) (fun _ _ => []) bD ?_)
  rintro _ Q5 z6 t8 H1 hi9 hb10
  unfold p_spec_NameOk_b0 at H1
  refine aD (sr (aF rfl (aF rfl (aG (bK 44 cC rfl) (aG (bS rfl rfl) (nl (cH H1 rfl (fun h13 H1 => ?_) (fun h13 H1 => ?_))))))))
  ·refine bA (nT (aD (aP (bdo H1 fun b14 j15 H1 => (bZ [(33, .bool (b14)), (0, .slice x_v0.1 v0.length x_v0.2), (3, .int .i64 (Q5))] ?_ ?_)))))
   ·refine tLinS [(0, .slice x_v0.1 v0.length x_v0.2), (3, .int .i64 (Q5))] mixed (.inr (by kernel_rfl)) ⟨rfl, rfl, trivial⟩ rfl (aV rfl (aV rfl (gdo j15 fun h16 j15 => (aT (bM cC ty44 rfl rfl h16 rfl (aM (aL aQ))) (aT (v := .agg #[.string ((nth v0 Q5.toNat).1), .string ((nth v0 Q5.toNat).2)]) (bO (i := Q5.toNat) ty44 rfl (aM (aL aQ)) h16.lt) (bdo j15 fun r17 h18 j15 => (aT (bF (c_spec_l3Tag (nth v0 Q5.toNat) h18) rfl aN) (aR (p_not rfl) ?_))))))))
    rcases aK (!r17) with h19 | h19
    ·have j15 := cdT h19 j15
     refine aW (aE rfl) h19 ?_
     iterate 16 refine aX rfl ?_
     refine aR (v := .bool (true)) (bH rfl rfl) ?_
     obtain rfl := si j15
     show At _ _ _ _ _ _
     exact n1 ⟨rfl, rfl, rfl, trivial⟩
    ·have j15 := cdF h19 j15
     refine aW (aE rfl) h19 (aS rfl (aE rfl) (aS rfl (p_gtr rfl rfl) ?_))
     rcases aK (decide (0 < Q5)) with h20 | h20
     ·have j15 := cdT h20 j15
      refine Lin.f_ rfl (aE rfl) h20 (aS rfl (aE rfl) (aS rfl (aE rfl) (gdo j15 fun h21 j15 => (aS rfl (p_sub rfl rfl h21) (gdo j15 fun h22 j15 => (aU rfl (bM cC ty44 rfl rfl h22 rfl (aM (aL aQ))) (aU rfl (q_faeE (j := 0) ((Q5 - 1).toNat) fa44_0 rfl (aM (aL aQ)) h22.lt rfl) (aU rfl (bN (i := (Q5 - 1).toNat) (j := 0) ty9 rfl (aM (aL aQ)) h22.lt rfl) (aS rfl (aE rfl) ?_)))))))))
      refine aS rfl (aE rfl) (aU rfl (bM cC ty44 rfl rfl h16 rfl (aM (aL aQ))) (aU rfl (q_faeE (j := 0) Q5.toNat fa44_0 rfl (aM (aL aQ)) h16.lt rfl) (aU rfl (bN (i := Q5.toNat) (j := 0) ty9 rfl (aM (aL aQ)) h16.lt rfl) (aS rfl (p_sgeq rfl rfl) (aS rfl (bH rfl rfl) (aR (bG rfl rfl) ?_))))))
      obtain rfl := si j15
      show At _ _ _ _ _ _
      exact n1 ⟨rfl, rfl, rfl, trivial⟩
     ·have j15 := cdF h20 j15
      refine Lin.f_ rfl (aE rfl) h20 ?_
      iterate 12 refine aX rfl ?_
      refine aS (v := .bool (false)) rfl (bG rfl rfl) (aR (v := .bool (false)) (bG rfl rfl) ?_)
      obtain rfl := si j15
      show At _ _ _ _ _ _
      exact n1 ⟨rfl, rfl, rfl, trivial⟩
   refine cH H1 rfl (fun h23 H1 => ?_) (fun h23 H1 => ?_)
   ·refine sr (aH (v := .bool (false)) rfl (nl (bI (rB (rT (rT (rB (rT (rT (?_))))))))))
    obtain rfl := hb10 _ (sm H1)
    replace H := sw.r H
    obtain rfl := si H
    exact bk
   ·exact bA (nB (nT (aO (aF rfl (gdo H1 fun h24 H1 => (aG (bJ rfl rfl h24) (aH rfl (aJ (nLI () (hi9 _ (sm H1)) bD)))))))))
  ·exact bY (xT (xT (xE (nMI () (hb10 _ (sm H1)) bD))))
 ·rintro e25 y7 H
  refine nT (sr (aF rfl (aG (bK 44 cC rfl) (bdo H fun r26 h27 H => (aI (bF (c_spec_l6In (v0.length : Int) 1 3 h27) rfl aN) (aH rfl (nl ?_)))))))
  obtain rfl := si H
  exact bI bk
noncomputable def p_strings_Count_k44 (v0 : ByteArray) : Option (Int) := gd (ix 0 (⟨#[44]⟩ : ByteArray).size) <| some (cbs v0 (sb (⟨#[44]⟩ : ByteArray) 0))
theorem c_strings_Count_k44 {r : Int} (v0 : ByteArray) (H : p_strings_Count_k44 v0 = some r) : Fn' prog 62 #[.string (v0), .string ((⟨#[44]⟩ : ByteArray))] [] [] (ι := Unit) (fun _ => .int .i64 (r)) (fun _ => []) (fun _ => []) := by
 refine cof (args := [_, _]) func62 ntmps62 fun c => ?_
 unfold p_strings_Count_k44 at H
 refine sr (aH (v := .int .i64 (0)) rfl (nl (aD (sr (aF (v := .string ((⟨#[44]⟩ : ByteArray))) rfl (aG (v := .int .i64 (1)) (Pu.iC (p_slen cJ rfl) rfl) (aG (v := .bool (false)) (Pu.bC (bT rfl rfl) (by decide)) (nl (Tr.condF rfl (bA (nT (aD (sr ?_)))))))))))))
 refine aF (v := .string ((⟨#[44]⟩ : ByteArray))) rfl (aG (v := .int .i64 (1)) (Pu.iC (p_slen cJ rfl) rfl) (aG (v := .bool (true)) (Pu.bC (bT rfl rfl) (by decide)) (nl (Tr.condT rfl (sr (aF rfl (aF (v := .string ((⟨#[44]⟩ : ByteArray))) rfl (gdo H fun h1 H => (aG (p_six cJ rfl rfl h1) (aG (v := .int .i64 (cbs v0 (sb (⟨#[44]⟩ : ByteArray) 0))) ((p_cbs func70 (by kernel_rfl) (by kernel_rfl) (by kernel_rfl) (by kernel_rfl) rfl rfl)) ?_))))))))))
 refine aH rfl (nl (bI (rT (?_))))
 obtain rfl := si H
 exact bk
noncomputable def p_internal_stringslite_IndexByte (v0 : ByteArray) (v1 : UInt8) : Option (Int) := some (ibs v0 v1)
theorem c_internal_stringslite_IndexByte {r : Int} (v0 : ByteArray) (v1 : UInt8) (H : p_internal_stringslite_IndexByte v0 v1 = some r) : Fn' prog 71 #[.string (v0), .int .u8 (v1.toNat : Int)] [] [] (ι := Unit) (fun _ => .int .i64 (r)) (fun _ => []) (fun _ => []) := by
 refine cof (args := [_, _]) func71 ntmps71 fun c => ?_
 unfold p_internal_stringslite_IndexByte at H
 refine sr (aH (v := .int .i64 (0)) rfl (nl (sr (aF rfl (aF rfl (aG (v := .int .i64 (ibs v0 v1)) ((p_ibs func78 (by kernel_rfl) (by kernel_rfl) (by kernel_rfl) (by kernel_rfl) rfl rfl)) (aH rfl (nl ?_))))))))
 obtain rfl := si H
 exact bI bk
noncomputable def p_internal_stringslite_Index_k44 (v0 : ByteArray) : Option (Int) := bd (some (decide ((⟨#[44]⟩ : ByteArray) = v0))) fun b1 => cond (b1) (some 0) (gd (ix 0 (⟨#[44]⟩ : ByteArray).size) <| bd (p_internal_stringslite_IndexByte v0 (sb (⟨#[44]⟩ : ByteArray) 0)) fun r5 => some r5)
theorem c_internal_stringslite_Index_k44 {r : Int} (v0 : ByteArray) (H : p_internal_stringslite_Index_k44 v0 = some r) : Fn' prog 64 #[.string (v0), .string ((⟨#[44]⟩ : ByteArray))] [] [] (ι := Unit) (fun _ => .int .i64 (r)) (fun _ => []) (fun _ => []) := by
 refine cof (args := [_, _]) func64 ntmps64 fun c => ?_
 unfold p_internal_stringslite_Index_k44 at H
 refine sr (aH (v := .int .i64 (0)) rfl (nl (sr (aF (v := .string ((⟨#[44]⟩ : ByteArray))) rfl (aG (v := .int .i64 (1)) (Pu.iC (p_slen cJ rfl) rfl) (aH (v := .int .i64 (1)) rfl (nl (aD (aP (bdo H fun b1 j2 H => (bZ [(16, .bool (b1)), (5, .int .i64 (1)), (0, .string (v0)), (1, .string ((⟨#[44]⟩ : ByteArray)))] ?_ ?_)))))))))))
 ·refine cB [(5, .int .i64 (1)), (0, .string (v0)), (1, .string ((⟨#[44]⟩ : ByteArray)))] ⟨rfl, rfl, rfl, trivial⟩ (aV (v := .int .i64 (1)) rfl (aR (v := .bool (false)) (Pu.bC (bT rfl rfl) (by decide)) (aV (v := .bool (false)) rfl (aS (v := .string ((⟨#[44]⟩ : ByteArray))) rfl (aE rfl) (aS rfl (aE rfl) (aS rfl (bU rfl rfl) (aR (bG rfl rfl) (aR (p_assign rfl) ?_))))))))
  obtain rfl := si j2
  show At _ _ _ _ _ _
  exact n1 ⟨rfl, rfl, rfl, rfl, trivial⟩
 refine cH H rfl (fun h3 H => ?_) (fun h3 H => ?_)
 ·refine sr (aH (v := .int .i64 (0)) rfl (nl (bI (rB (rT (?_))))))
  obtain rfl := si H
  exact bk
 ·refine sr (aF (v := .int .i64 (1)) rfl (aG (v := .bool (true)) (Pu.bC (bT rfl rfl) (by decide)) (aH (v := .bool (true)) rfl (nl (Tr.condT rfl (sr (aF rfl (aF (v := .string ((⟨#[44]⟩ : ByteArray))) rfl (gdo H fun h4 H => (aG (p_six cJ rfl rfl h4) ?_))))))))))
  refine bdo H fun r5 h6 H => (aI (bF (c_internal_stringslite_IndexByte v0 (sb (⟨#[44]⟩ : ByteArray) 0) h6) rfl aN) (aH rfl (nl (bI (rB (rT (?_)))))))
  obtain rfl := si H
  exact bk
noncomputable def p_strings_Index_k44 (v0 : ByteArray) : Option (Int) := bd (p_internal_stringslite_Index_k44 v0) fun r1 => some r1
theorem c_strings_Index_k44 {r : Int} (v0 : ByteArray) (H : p_strings_Index_k44 v0 = some r) : Fn' prog 63 #[.string (v0), .string ((⟨#[44]⟩ : ByteArray))] [] [] (ι := Unit) (fun _ => .int .i64 (r)) (fun _ => []) (fun _ => []) := by
 refine cof (args := [_, _]) func63 ntmps63 fun c => ?_
 unfold p_strings_Index_k44 at H
 refine sr (aH (v := .int .i64 (0)) rfl (nl (sr (aF rfl (aF (v := .string ((⟨#[44]⟩ : ByteArray))) rfl (bdo H fun r1 h2 H => (aI (bF (c_internal_stringslite_Index_k44 v0 h2) rfl aN) (aH rfl (nl ?_)))))))))
 obtain rfl := si H
 exact bI bk
noncomputable def p_strings_genSplit_k44_0_m1_b0 (v0 : ByteArray) (r1 : Int) (Q13 : ByteArray × (List ByteArray) × Int) : Option ((ByteArray × (List ByteArray) × Int) ⊕ (ByteArray × (List ByteArray) × Int)) := cond (decide (Q13.2.2 < ((min (r1 + 1) ((v0.size : Int) + 1)) - 1))) (bd (p_strings_Index_k44 Q13.1) fun r22 => cond (decide (r22 < 0)) (some (.inr (Q13.1, Q13.2.1, Q13.2.2))) (gd (I64 (r22 + 0)) <| gd (sl2 0 (r22 + 0) Q13.1.size) <| gd (ix Q13.2.2 Q13.2.1.length) <| gd (I64 (r22 + 1)) <| gd (sl2 (r22 + 1) (Q13.1.size : Int) Q13.1.size) <| gd (I64 (Q13.2.2 + 1)) <| some (.inl (Q13.1.extract (r22 + 1).toNat (Q13.1.size : Int).toNat, (Q13.2.1.set Q13.2.2.toNat (Q13.1.extract 0 (r22 + 0).toNat)), Q13.2.2 + 1)))) (some (.inr (Q13.1, Q13.2.1, Q13.2.2)))
noncomputable def p_strings_genSplit_k44_0_m1 (v0 : ByteArray) : Option ((List ByteArray)) := bd (p_strings_Count_k44 v0) fun r1 => gd (I64 (r1 + 1)) <| gd (I64 ((v0.size : Int) + 1)) <| gd (many (min (r1 + 1) ((v0.size : Int) + 1))) <| gd (I64 ((min (r1 + 1) ((v0.size : Int) + 1)) - 1)) <| bd (lp (p_strings_genSplit_k44_0_m1_b0 v0 r1) (v0, (List.replicate (min (r1 + 1) ((v0.size : Int) + 1)).toNat (Zr.z0 : ByteArray)), 0)) fun x9 => gd (ix x9.2.2 x9.2.1.length) <| gd (I64 (x9.2.2 + 1)) <| gd (sl2 0 (x9.2.2 + 1) (x9.2.1.set x9.2.2.toNat x9.1).length) <| some ((x9.2.1.set x9.2.2.toNat x9.1).take (x9.2.2 + 1).toNat)
theorem c_strings_genSplit_k44_0_m1 {r : (List ByteArray)} (v0 : ByteArray) (H : p_strings_genSplit_k44_0_m1 v0 = some r) : Fn' prog 53 #[.string (v0), .string ((⟨#[44]⟩ : ByteArray)), .int .i64 (0), .int .i64 (-1)] [] [] (ι := Option Addr × Nat) (fun x => .slice x.1 r.length x.2) (fun _ => []) (fun x => [tree (.slice x.1 r.length x.2) r]) := by
 refine cof (args := [_, _, _, _]) func53 ntmps53 fun c => ?_
 unfold p_strings_genSplit_k44_0_m1 at H
 refine sr (aH (v := .slice none 0 0) rfl (nl (aD (sr (aF (v := .int .i64 (-1)) rfl (aG (v := .bool (false)) (Pu.bC (bT rfl rfl) (by decide)) (nl (Tr.condF rfl (bA (nT (aD (sr (aF (v := .string ((⟨#[44]⟩ : ByteArray))) rfl ?_)))))))))))))
 refine aG (v := .bool (false)) (p_seqlC rfl rfl (by decide)) (nl (Tr.condF rfl (bA (nT (aD (sr (aF (v := .int .i64 (-1)) rfl (aG (v := .bool (true)) (Pu.bC (bS rfl rfl) (by decide)) (nl (Tr.condT rfl (aO (aF rfl ?_))))))))))))
 refine aF (v := .string ((⟨#[44]⟩ : ByteArray))) rfl (bdo H fun r1 h2 H => (aI (bF (c_strings_Count_k44 v0 h2) rfl aN) (gdo H fun h3 H => (aG (bJ rfl rfl h3) (aH rfl (nl (sr (aF rfl (aF rfl (aG (p_slen cJ rfl) ?_))))))))))
 refine gdo H fun h4 H => (aG (bJ rfl rfl h4) (aG (v := .int .i64 (min (r1 + 1) ((v0.size : Int) + 1))) (p_min rfl rfl) (aH rfl (nl (sr (aF rfl (gdo H fun h7 H => (f2 (e_makeR ByteArray cG ty9 rfl rfl rfl h7 (by decide)) fun a5 c6 => (aH rfl (nl (sr ?_)))))))))))
 refine aF rfl (gdo H fun h8 H => (aG (p_sub rfl rfl h8) (aH rfl (nl (sr (aH (v := .int .i64 (0)) rfl (nl (bdo H fun x9 hx10 H => (tMidC (ι := Unit) (fun ψ => [(0, .string (x9.1)), (9, .slice a5 x9.2.1.length c6), (10, .int .i64 (x9.2.2))]) (fun ψ => [tree (.slice a5 x9.2.1.length c6) x9.2.1]) ?_ ?_)))))))))
 ·refine aP (cA hx10 () (fun Q13 _ => [(0, .string (Q13.1)), (1, .string ((⟨#[44]⟩ : ByteArray))), (2, .int .i64 (0)), (3, .int .i64 ((min (r1 + 1) ((v0.size : Int) + 1)) - 1)), (9, .slice a5 Q13.2.1.length c6), (10, .int .i64 (Q13.2.2))]) (fun Q13 _ => [tree (.slice a5 Q13.2.1.length c6) Q13.2.1]) (.cons aA .nil) ?_)
  rintro _ Q13 z14 t16 H1 hi17 hb18
  unfold p_strings_genSplit_k44_0_m1_b0 at H1
  refine aD (sr (aF rfl (aF rfl (aG (bS rfl rfl) (nl (cH H1 rfl (fun h21 H1 => ?_) (fun h21 H1 => ?_)))))))
  ·refine bA (nT (aP (sr (aF rfl (aF (v := .string ((⟨#[44]⟩ : ByteArray))) rfl (bdo H1 fun r22 h23 H1 => (aI (bF (c_strings_Index_k44 Q13.1 h23) rfl aN) (aH rfl (nl (aD (sr ?_)))))))))))
   refine aF rfl (aG (bS rfl rfl) (nl (cH H1 rfl (fun h24 H1 => ?_) (fun h24 H1 => ?_))))
   ·refine bY (xT (xB rfl (xT (xE (?_)))))
    obtain rfl := hb18 _ (sm H1)
    exact nMC () ⟨rfl, rfl, rfl, trivial⟩ bL (.cons aA .nil)
   ·refine bA (nT (sr (aF rfl (aF rfl (aF rfl (aF rfl (aF (v := .int .i64 (0)) rfl (gdo H1 fun h25 H1 => (aG (bJ rfl rfl h25) ?_)))))))))
    refine gdo H1 fun h26 H1 => (aG ((p_ssl 0 (r22 + 0) cJ rfl rfl (fun _ => rfl) rfl (fun h => nomatch h) h26)) (gdo H1 fun h27 H1 => (aI (q_ixO' cG ty9 rfl rfl h27 aB) (g0 (e_setT (l := Q13.2.1) (α := ByteArray) (oa := a5) Q13.2.2.toNat (Q13.1.extract 0 (r22 + 0).toNat) () ty9 rfl rfl rfl h27.lt (bV _) (.cons aA .nil)) (nl (aD ?_))))))
    refine Tr.olen aB fun hn => ?_; rw [hn]
    refine aO (aF rfl (aF rfl (aF (v := .string ((⟨#[44]⟩ : ByteArray))) rfl (aG (v := .int .i64 (1)) (Pu.iC (p_slen cJ rfl) rfl) (gdo H1 fun h28 H1 => (aG (bJ rfl rfl h28) (gdo H1 fun h29 H1 => (aG ((p_ssl (r22 + 1) (Q13.1.size : Int) cJ rfl rfl (fun h => nomatch h) rfl (fun _ => rfl) h29)) (aH rfl (nl ?_))))))))))
    exact aO (aF rfl (gdo H1 fun h30 H1 => (aG (bJ rfl rfl h30) (aH rfl (aJ (nB (nLI () (hi17 _ (sm H1)) (.cons aA .nil) )))))))
  ·refine bY (xT (xT (xE (?_))))
   obtain rfl := hb18 _ (sm H1)
   exact nMC () ⟨rfl, rfl, rfl, trivial⟩ bL (.cons aA .nil)
 ·intro y15
  show Tr _ _ _ _ _ [(0, .string (x9.1)), (9, .slice a5 x9.2.1.length c6), (10, .int .i64 (x9.2.2))] _ [tree (.slice a5 x9.2.1.length c6) x9.2.1]
  refine sr (aF rfl (aF rfl (aF rfl (gdo H fun h31 H => (aI (q_ixO' cG ty9 rfl rfl h31 aB) (g0 (e_setT (l := x9.2.1) (α := ByteArray) (oa := a5) x9.2.2.toNat x9.1 () ty9 rfl rfl rfl h31.lt (bV _) (.cons aA .nil)) (nl (aD ?_))))))))
  refine Tr.olen aB fun hn => ?_; rw [hn]
  refine aO (aF rfl (aF rfl (gdo H fun h32 H => (aG (bJ rfl rfl h32) (gdo H fun h33 H => (f0 (e_slT (l := (x9.2.1.set x9.2.2.toNat x9.1)) (α := ByteArray) (x9.2.2 + 1) cG ty9 rfl rfl h33 (.cons aA .nil)) (aH rfl (nl (bI ?_)))))))))
  obtain rfl := si H
  exact back1 (a5, c6) rfl (ResV.tmp (v := .slice a5 (((x9.2.1.set x9.2.2.toNat x9.1).take (x9.2.2 + 1).toNat).length) c6) rfl) rfl bR (.cons aA .nil)
noncomputable def p_strings_Split_k44 (v0 : ByteArray) : Option ((List ByteArray)) := bd (p_strings_genSplit_k44_0_m1 v0) fun r1 => some r1
theorem c_strings_Split_k44 {r : (List ByteArray)} (v0 : ByteArray) (H : p_strings_Split_k44 v0 = some r) : Fn' prog 31 #[.string (v0), .string ((⟨#[44]⟩ : ByteArray))] [] [] (ι := Option Addr × Nat) (fun x => .slice x.1 r.length x.2) (fun _ => []) (fun x => [tree (.slice x.1 r.length x.2) r]) := by
 refine cof (args := [_, _]) func31 ntmps31 fun c => ?_
 unfold p_strings_Split_k44 at H
 refine sr (aH (v := .slice none 0 0) rfl (nl (sr (aF rfl (aF (v := .string ((⟨#[44]⟩ : ByteArray))) rfl (bdo H fun r1 h2 H => (f1 (e_callB (c_strings_genSplit_k44_0_m1 v0 h2) (fun _ => (aY aZ)) rfl aN) fun x3 => (aH rfl (nl (bI ?_))))))))))
 obtain rfl := si H
 exact back1 x3 rfl (ResV.tmp (v := .slice x3.1 r1.length x3.2) rfl) rfl bR (.cons aA .nil)
noncomputable def p_internal_stringslite_Index_k61 (v0 : ByteArray) : Option (Int) := bd (some (decide ((⟨#[61]⟩ : ByteArray) = v0))) fun b1 => cond (b1) (some 0) (gd (ix 0 (⟨#[61]⟩ : ByteArray).size) <| bd (p_internal_stringslite_IndexByte v0 (sb (⟨#[61]⟩ : ByteArray) 0)) fun r5 => some r5)
theorem c_internal_stringslite_Index_k61 {r : Int} (v0 : ByteArray) (H : p_internal_stringslite_Index_k61 v0 = some r) : Fn' prog 64 #[.string (v0), .string ((⟨#[61]⟩ : ByteArray))] [] [] (ι := Unit) (fun _ => .int .i64 (r)) (fun _ => []) (fun _ => []) := by
 refine cof (args := [_, _]) func64 ntmps64 fun c => ?_
 unfold p_internal_stringslite_Index_k61 at H
 refine sr (aH (v := .int .i64 (0)) rfl (nl (sr (aF (v := .string ((⟨#[61]⟩ : ByteArray))) rfl (aG (v := .int .i64 (1)) (Pu.iC (p_slen cJ rfl) rfl) (aH (v := .int .i64 (1)) rfl (nl (aD (aP (bdo H fun b1 j2 H => (bZ [(16, .bool (b1)), (5, .int .i64 (1)), (0, .string (v0)), (1, .string ((⟨#[61]⟩ : ByteArray)))] ?_ ?_)))))))))))
 ·refine cB [(5, .int .i64 (1)), (0, .string (v0)), (1, .string ((⟨#[61]⟩ : ByteArray)))] ⟨rfl, rfl, rfl, trivial⟩ (aV (v := .int .i64 (1)) rfl (aR (v := .bool (false)) (Pu.bC (bT rfl rfl) (by decide)) (aV (v := .bool (false)) rfl (aS (v := .string ((⟨#[61]⟩ : ByteArray))) rfl (aE rfl) (aS rfl (aE rfl) (aS rfl (bU rfl rfl) (aR (bG rfl rfl) (aR (p_assign rfl) ?_))))))))
  obtain rfl := si j2
  show At _ _ _ _ _ _
  exact n1 ⟨rfl, rfl, rfl, rfl, trivial⟩
 refine cH H rfl (fun h3 H => ?_) (fun h3 H => ?_)
 ·refine sr (aH (v := .int .i64 (0)) rfl (nl (bI (rB (rT (?_))))))
  obtain rfl := si H
  exact bk
 ·refine sr (aF (v := .int .i64 (1)) rfl (aG (v := .bool (true)) (Pu.bC (bT rfl rfl) (by decide)) (aH (v := .bool (true)) rfl (nl (Tr.condT rfl (sr (aF rfl (aF (v := .string ((⟨#[61]⟩ : ByteArray))) rfl (gdo H fun h4 H => (aG (p_six cJ rfl rfl h4) ?_))))))))))
  refine bdo H fun r5 h6 H => (aI (bF (c_internal_stringslite_IndexByte v0 (sb (⟨#[61]⟩ : ByteArray) 0) h6) rfl aN) (aH rfl (nl (bI (rB (rT (?_)))))))
  obtain rfl := si H
  exact bk
noncomputable def p_internal_stringslite_Cut_k61 (v0 : ByteArray) : Option (ByteArray × ByteArray × Bool) := bd (p_internal_stringslite_Index_k61 v0) fun r1 => cond (decide (0 ≤ r1)) (gd (sl2 0 r1 v0.size) <| gd (I64 (r1 + 1)) <| gd (sl2 (r1 + 1) (v0.size : Int) v0.size) <| some (v0.extract 0 r1.toNat, v0.extract (r1 + 1).toNat (v0.size : Int).toNat, true)) (some (v0, (⟨#[]⟩ : ByteArray), false))
theorem c_internal_stringslite_Cut_k61 {r : ByteArray × ByteArray × Bool} (v0 : ByteArray) (H : p_internal_stringslite_Cut_k61 v0 = some r) : Fn' prog 54 #[.string (v0), .string ((⟨#[61]⟩ : ByteArray))] [] [] (ι := Unit) (fun _ => .tuple #[.string (r.1), .string (r.2.1), .bool (r.2.2)]) (fun _ => []) (fun _ => []) := by
 refine cof (args := [_, _]) func54 ntmps54 fun c => ?_
 unfold p_internal_stringslite_Cut_k61 at H
 refine sr (aH (v := .string ((⟨#[]⟩ : ByteArray))) rfl (aH (v := .string ((⟨#[]⟩ : ByteArray))) rfl (aH (v := .bool (false)) rfl (nl (aD (sr (aF rfl (aF (v := .string ((⟨#[61]⟩ : ByteArray))) rfl (bdo H fun r1 h2 H => (aI (bF (c_internal_stringslite_Index_k61 v0 h2) rfl aN) (aH rfl (nl ?_))))))))))))
 refine sr (aF rfl (aG (p_geq rfl rfl) (nl (cH H rfl (fun h3 H => ?_) (fun h3 H => ?_)))))
 ·refine aD (tLinS [(7, .int .i64 (r1)), (0, .string (v0)), (1, .string ((⟨#[61]⟩ : ByteArray)))] mixed (.inr (by kernel_rfl)) ⟨rfl, rfl, rfl, trivial⟩ rfl (aV rfl (aV rfl (gdo H fun h4 H => (aR ((p_ssl 0 r1 cJ rfl rfl (fun _ => rfl) rfl (fun h => nomatch h) h4)) (aV rfl (aV rfl (aV (v := .string ((⟨#[61]⟩ : ByteArray))) rfl (aR (v := .int .i64 (1)) (Pu.iC (p_slen cJ rfl) rfl) ?_)))))))))
  refine gdo H fun h5 H => (aR (bJ rfl rfl h5) (gdo H fun h6 H => (aR ((p_ssl (r1 + 1) (v0.size : Int) cJ rfl rfl (fun h => nomatch h) rfl (fun _ => rfl) h6)) (aR (p_assign rfl) (aR (p_assign rfl) (aR (v := .bool (true)) (p_assign rfl) (nT (bI (rT (?_))))))))))
  obtain rfl := si H
  exact back3 () rfl (ResV.tmp (v := .string (v0.extract 0 r1.toNat)) rfl) (ResV.tmp (v := .string (v0.extract (r1 + 1).toNat (v0.size : Int).toNat)) rfl) (ResV.tmp (v := .bool (true)) rfl) rfl bR bD
 ·refine bA (nT (sr (aF rfl (aH rfl (aH (v := .string ((⟨#[]⟩ : ByteArray))) rfl (aH (v := .bool (false)) rfl (nl (bI ?_))))))))
  obtain rfl := si H
  exact back3 () rfl (ResV.tmp (v := .string (v0)) rfl) (ResV.tmp (v := .string ((⟨#[]⟩ : ByteArray))) rfl) (ResV.tmp (v := .bool (false)) rfl) rfl bR bD
noncomputable def p_strings_Cut_k61 (v0 : ByteArray) : Option (ByteArray × ByteArray × Bool) := bd (p_internal_stringslite_Cut_k61 v0) fun r1 => some (r1.1, r1.2.1, r1.2.2)
theorem c_strings_Cut_k61 {r : ByteArray × ByteArray × Bool} (v0 : ByteArray) (H : p_strings_Cut_k61 v0 = some r) : Fn' prog 32 #[.string (v0), .string ((⟨#[61]⟩ : ByteArray))] [] [] (ι := Unit) (fun _ => .tuple #[.string (r.1), .string (r.2.1), .bool (r.2.2)]) (fun _ => []) (fun _ => []) := by
 refine cof (args := [_, _]) func32 ntmps32 fun c => ?_
 unfold p_strings_Cut_k61 at H
 refine sr (aH (v := .string ((⟨#[]⟩ : ByteArray))) rfl (aH (v := .string ((⟨#[]⟩ : ByteArray))) rfl (aH (v := .bool (false)) rfl (nl (sr (aF rfl (aF (v := .string ((⟨#[61]⟩ : ByteArray))) rfl (bdo H fun r1 h2 H => (aI (bF (c_internal_stringslite_Cut_k61 v0 h2) rfl aN) (aG (bX rfl rfl) ?_))))))))))
 refine aG (bX rfl rfl) (aG (bX rfl rfl) (aH rfl (aH rfl (aH rfl (nl (bI ?_))))))
 obtain rfl := si H
 exact back3 () rfl (ResV.tmp (v := .string (r1.1)) rfl) (ResV.tmp (v := .string (r1.2.1)) rfl) (ResV.tmp (v := .bool (r1.2.2)) rfl) rfl bR bD
noncomputable def p_impl_tagOk (v0 : Tag) : Option (Bool) := bd (cond (decide ((v0.1.size : Int) = 1)) (cond (!sless v0.1 (⟨#[97]⟩ : ByteArray)) (cond ((sless v0.1 (⟨#[100]⟩ : ByteArray) || decide (v0.1 = (⟨#[100]⟩ : ByteArray)))) (cond (decide ((v0.2.size : Int) = 1)) (cond (!sless v0.2 (⟨#[112]⟩ : ByteArray)) (some ((sless v0.2 (⟨#[122]⟩ : ByteArray) || decide (v0.2 = (⟨#[122]⟩ : ByteArray))))) (some (false))) (some (false))) (some (false))) (some (false))) (some (false))) fun b2 => some b2
theorem c_impl_tagOk {r : Bool} (v0 : Tag) (H : p_impl_tagOk v0 = some r) : Fn' prog 43 #[.agg #[.string (v0.1), .string (v0.2)]] [] [] (ι := Unit) (fun _ => .bool (r)) (fun _ => []) (fun _ => []) := by
 refine cof (args := [_]) func43 ntmps43 fun c => ?_
 unfold p_impl_tagOk at H
 refine sr (f1 (e_box (t := 44) rfl) fun g1 => (aH (v := .bool (false)) rfl (nl (bdo H fun b2 j3 H => (bZ [(2, .bool (b2))] ?_ ?_)))))
 ·refine cB [(1, .pointer (some ⟨g1, 0, none⟩))] ⟨rfl, trivial⟩ (aR (bP fa44_0 rfl rfl) (aT (bB ty9 rfl aB rfl) (aR (p_slen cJ rfl) (aR (bT rfl rfl) ?_))))
  rcases aK (decide ((v0.1.size : Int) = 1)) with h4 | h4
  ·have j3 := cdT h4 j3
   refine aW (aE rfl) h4 (aS rfl (bP fa44_0 rfl rfl) (aU rfl (bB ty9 rfl aB rfl) (aS rfl (p_sgeq rfl rfl) (aR (bH rfl rfl) ?_))))
   rcases aK (!sless v0.1 (⟨#[97]⟩ : ByteArray)) with h5 | h5
   ·have j3 := cdT h5 j3
    refine aW (aE rfl) h5 (aS rfl (bP fa44_0 rfl rfl) (aU rfl (bB ty9 rfl aB rfl) (aS rfl (p_sleq rfl rfl) (aR (bH rfl rfl) ?_))))
    rcases aK ((sless v0.1 (⟨#[100]⟩ : ByteArray) || decide (v0.1 = (⟨#[100]⟩ : ByteArray)))) with h6 | h6
    ·have j3 := cdT h6 j3
     refine aW (aE rfl) h6 (aS rfl (bP fa44_1 rfl rfl) (aU rfl (bB ty9 rfl aB rfl) (aS rfl (p_slen cJ rfl) (aS rfl (bT rfl rfl) (aR (bH rfl rfl) ?_)))))
     rcases aK (decide ((v0.2.size : Int) = 1)) with h7 | h7
     ·have j3 := cdT h7 j3
      refine aW (aE rfl) h7 (aS rfl (bP fa44_1 rfl rfl) (aU rfl (bB ty9 rfl aB rfl) (aS rfl (p_sgeq rfl rfl) (aR (bH rfl rfl) ?_))))
      rcases aK (!sless v0.2 (⟨#[112]⟩ : ByteArray)) with h8 | h8
      ·have j3 := cdT h8 j3
       refine aW (aE rfl) h8 (aS rfl (bP fa44_1 rfl rfl) (aU rfl (bB ty9 rfl aB rfl) (aS rfl (p_sleq rfl rfl) (aR (bH rfl rfl) (aR (p_assign rfl) ?_)))))
       obtain rfl := si j3
       show At _ _ _ _ _ _
       exact n1 ⟨rfl, trivial⟩
      ·have j3 := cdF h8 j3
       refine aW (aE rfl) h8 ?_
       iterate 3 refine aX rfl ?_
       refine aR (v := .bool (false)) (bG rfl rfl) (aR (v := .bool (false)) (p_assign rfl) ?_)
       obtain rfl := si j3
       show At _ _ _ _ _ _
       exact n1 ⟨rfl, trivial⟩
     ·have j3 := cdF h7 j3
      refine aW (aE rfl) h7 ?_
      iterate 3 refine aX rfl ?_
      refine aR (v := .bool (false)) (bG rfl rfl) (aV (v := .bool (false)) rfl ?_)
      iterate 3 refine aX rfl ?_
      refine aR (v := .bool (false)) (bG rfl rfl) (aR (v := .bool (false)) (p_assign rfl) ?_)
      obtain rfl := si j3
      show At _ _ _ _ _ _
      exact n1 ⟨rfl, trivial⟩
    ·have j3 := cdF h6 j3
     refine aW (aE rfl) h6 ?_
     iterate 4 refine aX rfl ?_
     refine aR (v := .bool (false)) (bG rfl rfl) (aV (v := .bool (false)) rfl ?_)
     iterate 3 refine aX rfl ?_
     refine aR (v := .bool (false)) (bG rfl rfl) (aV (v := .bool (false)) rfl ?_)
     iterate 3 refine aX rfl ?_
     refine aR (v := .bool (false)) (bG rfl rfl) (aR (v := .bool (false)) (p_assign rfl) ?_)
     obtain rfl := si j3
     show At _ _ _ _ _ _
     exact n1 ⟨rfl, trivial⟩
   ·have j3 := cdF h5 j3
    refine aW (aE rfl) h5 ?_
    iterate 3 refine aX rfl ?_
    refine aR (v := .bool (false)) (bG rfl rfl) (aV (v := .bool (false)) rfl ?_)
    iterate 4 refine aX rfl ?_
    refine aR (v := .bool (false)) (bG rfl rfl) (aV (v := .bool (false)) rfl ?_)
    iterate 3 refine aX rfl ?_
    refine aR (v := .bool (false)) (bG rfl rfl) (aV (v := .bool (false)) rfl ?_)
    iterate 3 refine aX rfl ?_
    refine aR (v := .bool (false)) (bG rfl rfl) (aR (v := .bool (false)) (p_assign rfl) ?_)
    obtain rfl := si j3
    show At _ _ _ _ _ _
    exact n1 ⟨rfl, trivial⟩
  ·have j3 := cdF h4 j3
   refine aW (aE rfl) h4 ?_
   iterate 3 refine aX rfl ?_
   refine aR (v := .bool (false)) (bG rfl rfl) (aV (v := .bool (false)) rfl ?_)
   iterate 3 refine aX rfl ?_
   refine aR (v := .bool (false)) (bG rfl rfl) (aV (v := .bool (false)) rfl ?_)
   iterate 4 refine aX rfl ?_
   refine aR (v := .bool (false)) (bG rfl rfl) (aV (v := .bool (false)) rfl ?_)
   iterate 3 refine aX rfl ?_
   refine aR (v := .bool (false)) (bG rfl rfl) (aV (v := .bool (false)) rfl ?_)
   iterate 3 refine aX rfl ?_
   refine aR (v := .bool (false)) (bG rfl rfl) (aR (v := .bool (false)) (p_assign rfl) ?_)
   obtain rfl := si j3
   show At _ _ _ _ _ _
   exact n1 ⟨rfl, trivial⟩
 obtain rfl := si H
 exact bI bk
noncomputable def p_impl_within (v0 : Int) (v1 : Int) (v2 : Int) : Option (Bool) := bd (cond (decide (v1 ≤ v0)) (some (decide (v0 ≤ v2))) (some (false))) fun b1 => some b1
theorem c_impl_within {r : Bool} (v0 : Int) (v1 : Int) (v2 : Int) (H : p_impl_within v0 v1 v2 = some r) : Fn' prog 44 #[.int .i64 (v0), .int .i64 (v1), .int .i64 (v2)] [] [] (ι := Unit) (fun _ => .bool (r)) (fun _ => []) (fun _ => []) := by
 refine cof (args := [_, _, _]) func44 ntmps44 fun c => ?_
 unfold p_impl_within at H
 refine sr (aH (v := .bool (false)) rfl (nl (bdo H fun b1 j2 H => (bZ [(6, .bool (b1))] ?_ ?_))))
 ·refine cB [(0, .int .i64 (v0)), (1, .int .i64 (v1)), (2, .int .i64 (v2))] ⟨rfl, rfl, rfl, trivial⟩ (aV rfl (aV rfl (aR (p_geq rfl rfl) ?_)))
  rcases aK (decide (v1 ≤ v0)) with h3 | h3
  ·have j2 := cdT h3 j2
   refine aW (aE rfl) h3 (aS rfl (aE rfl) (aS rfl (aE rfl) (aS rfl (p_leq rfl rfl) (aR (bH rfl rfl) (aR (p_assign rfl) ?_)))))
   obtain rfl := si j2
   show At _ _ _ _ _ _
   exact n1 ⟨rfl, trivial⟩
  ·have j2 := cdF h3 j2
   refine aW (aE rfl) h3 ?_
   iterate 3 refine aX rfl ?_
   refine aR (v := .bool (false)) (bG rfl rfl) (aR (v := .bool (false)) (p_assign rfl) ?_)
   obtain rfl := si j2
   show At _ _ _ _ _ _
   exact n1 ⟨rfl, trivial⟩
 obtain rfl := si H
 exact bI bk
noncomputable def p_impl_NameOk_b0 (v0 : (List Tag)) (Q5 : Int) : Option ((Int) ⊕ (Unit ⊕ Bool)) := cond (decide (Q5 < (v0.length : Int))) (gd (ix Q5 v0.length) <| bd (bd (p_impl_tagOk (nth v0 Q5.toNat)) fun r18 => cond (!r18) (some (true)) (cond (decide (0 < Q5)) (gd (I64 (Q5 - 1)) <| gd (ix (Q5 - 1) v0.length) <| some (!sless ((nth v0 ((Q5 - 1).toNat)).1) ((nth v0 Q5.toNat).1))) (some (false)))) fun b16 => cond (b16) (some (.inr (.inr false))) (gd (I64 (Q5 + 1)) <| some (.inl (Q5 + 1)))) (some (.inr (.inl ())))
noncomputable def p_impl_NameOk (v0 : (List Tag)) : Option (Bool) := bd (lp (p_impl_NameOk_b0 v0) 0) <| sw (fun _ => bd (p_impl_within (v0.length : Int) 1 3) fun r27 => some r27) (fun q => some q)
theorem c_impl_NameOk {r : Bool} (v0 : (List Tag)) (x_v0 : Option Addr × Nat) (H : p_impl_NameOk v0 = some r) : Fn' prog 20 #[.slice x_v0.1 v0.length x_v0.2] [imm (.slice x_v0.1 v0.length x_v0.2) v0] [] (ι := Unit) (fun _ => .bool (r)) (fun _ => []) (fun _ => []) := by
 refine cof (args := [_]) func20 ntmps20 fun c => ?_
 unfold p_impl_NameOk at H
 refine sr (aH (v := .bool (false)) rfl (nl (aD (sr (aF rfl (aG (bK 44 cC rfl) (aF (v := .int .i64 (0)) rfl (nl (bdo H fun x1 hx2 H => (tMidI (Λ := Unit) H (fun _ _ => [(0, .slice x_v0.1 v0.length x_v0.2)]) (fun _ _ => []) ?_ ?_))))))))))
 ·refine aP (cA hx2 () (fun Q5 _ => [(0, .slice x_v0.1 v0.length x_v0.2), (5, .slice x_v0.1 v0.length x_v0.2), (6, .int .i64 ((v0.length : Int))), (7, .int .i64 (Q5))]) (fun _ _ => []) bD ?_)
  rintro _ Q5 z6 t8 H1 hi9 hb10
  unfold p_impl_NameOk_b0 at H1
  refine sr (aG (bS rfl rfl) (nl (aD (cH H1 rfl (fun h13 H1 => ?_) (fun h13 H1 => ?_)))))
  ·refine bA (nT (aD (aP (sr (aF rfl (gdo H1 fun h14 H1 => (aI (bM cC ty44 rfl rfl h14 rfl (aM (aL aQ))) (aI (v := .agg #[.string ((nth v0 Q5.toNat).1), .string ((nth v0 Q5.toNat).2)]) (bO (i := Q5.toNat) ty44 rfl (aM (aL aQ)) h14.lt) (f1 (e_alloc ty44) fun g15 => (aH rfl ?_))))))))))
   refine stb (cs' := [.string ((nth v0 Q5.toNat).1), .string ((nth v0 Q5.toNat).2)]) ty44 bW (nl (bdo H1 fun b16 j17 H1 => (bZ [(29, .bool (b16)), (0, .slice x_v0.1 v0.length x_v0.2), (5, .slice x_v0.1 v0.length x_v0.2), (6, .int .i64 ((v0.length : Int))), (7, .int .i64 (Q5))] ?_ ?_)))
   ·refine tLinS [(3, .int .i64 (Q5)), (4, .pointer (some ⟨g15, 0, none⟩)), (0, .slice x_v0.1 v0.length x_v0.2), (5, .slice x_v0.1 v0.length x_v0.2), (6, .int .i64 ((v0.length : Int))), (7, .int .i64 (Q5))] mixed (.inr (by kernel_rfl)) ⟨rfl, rfl, rfl, rfl, rfl, rfl, trivial⟩ rfl (aT (q_ldbA ty44 rfl aB rfl) (bdo j17 fun r18 h19 j17 => (aT (bF (c_impl_tagOk (nth v0 Q5.toNat) h19) rfl aN) (aR (p_not rfl) ?_))))
    rcases aK (!r18) with h20 | h20
    ·have j17 := cdT h20 j17
     refine aW (aE rfl) h20 ?_
     iterate 13 refine aX rfl ?_
     refine aR (v := .bool (true)) (bH rfl rfl) ?_
     obtain rfl := si j17
     show At _ _ _ _ _ _
     exact n1 ⟨rfl, rfl, rfl, rfl, rfl, trivial⟩
    ·have j17 := cdF h20 j17
     refine aW (aE rfl) h20 (aS rfl (aE rfl) (aS rfl (p_gtr rfl rfl) ?_))
     rcases aK (decide (0 < Q5)) with h21 | h21
     ·have j17 := cdT h21 j17
      refine Lin.f_ rfl (aE rfl) h21 (aS rfl (aE rfl) (aS rfl (aE rfl) (gdo j17 fun h22 j17 => (aS rfl (p_sub rfl rfl h22) (gdo j17 fun h23 j17 => (aU rfl (bM cC ty44 rfl rfl h23 rfl (aM (aL aQ))) (aU rfl (q_faeE (j := 0) ((Q5 - 1).toNat) fa44_0 rfl (aM (aL aQ)) h23.lt rfl) (aU rfl (bN (i := (Q5 - 1).toNat) (j := 0) ty9 rfl (aM (aL aQ)) h23.lt rfl) (aS rfl (bP fa44_0 rfl rfl) ?_)))))))))
      refine aU rfl (bB ty9 rfl aB rfl) (aS rfl (p_sgeq rfl rfl) (aS rfl (bH rfl rfl) (aR (bG rfl rfl) ?_)))
      obtain rfl := si j17
      show At _ _ _ _ _ _
      exact n1 ⟨rfl, rfl, rfl, rfl, rfl, trivial⟩
     ·have j17 := cdF h21 j17
      refine Lin.f_ rfl (aE rfl) h21 ?_
      iterate 9 refine aX rfl ?_
      refine aS (v := .bool (false)) rfl (bG rfl rfl) (aR (v := .bool (false)) (bG rfl rfl) ?_)
      obtain rfl := si j17
      show At _ _ _ _ _ _
      exact n1 ⟨rfl, rfl, rfl, rfl, rfl, trivial⟩
   refine cH H1 rfl (fun h24 H1 => ?_) (fun h24 H1 => ?_)
   ·refine sr (aH (v := .bool (false)) rfl (nl (bI (rB (rT (rT (rB (rT (rT (?_))))))))))
    obtain rfl := hb10 _ (sm H1)
    replace H := sw.r H
    obtain rfl := si H
    exact bk
   ·exact bA (nB (nT (aO (gdo H1 fun h25 H1 => (aG (bJ rfl rfl h25) (aF rfl (aJ (nLI () (hi9 _ (sm H1)) bD))))))))
  ·exact bY (xT (xT (xE (nMI () (hb10 _ (sm H1)) bD))))
 ·rintro e26 y7 H
  refine nT (sr (aF rfl (aG (bK 44 cC rfl) (bdo H fun r27 h28 H => (aI (bF (c_impl_within (v0.length : Int) 1 3 h28) rfl aN) (aH rfl (nl ?_)))))))
  obtain rfl := si H
  exact bI bk
noncomputable def p_strings_Join (v0 : List ByteArray) (v1 : ByteArray) : Option ByteArray := gd (room v0.length) <| gd (room (joinS v0 v1).size) <| some (joinS v0 v1)
def jnF : Nat → Nat
 | 156 => 45 | 165 => 56 | 166 => 57 | 169 => 58 | 240 => 66 | 241 => 67 | 276 => 75 | 277 => 76 | n => n
def jnT : Nat → Nat
 | 0 => 0 | 3 => 3 | 4 => 4 | 5 => 5 | 9 => 9 | 20 => 20 | 31 => 47 | 37 => 33 | 70 => 73 | 72 => 75 | 75 => 78 | 76 => 79 | 80 => 81 | 127 => 86 | 164 => 92 | n => n
def jnG : Nat → Nat := fun n => n
def jnRen : Go.Shelf.Ren := ⟨jnF, jnT, jnG⟩
theorem jnLays : Lays.n156 prog jnRen := by
 constructor
 ·exact mixed
 ·exact func45.trans (congrArg some (by kernel_rfl))
 ·exact func56.trans (congrArg some (by kernel_rfl))
 ·exact func57.trans (congrArg some (by kernel_rfl))
 ·exact func58.trans (congrArg some (by kernel_rfl))
 ·exact func66.trans (congrArg some (by kernel_rfl))
 ·exact func67.trans (congrArg some (by kernel_rfl))
 ·exact func75.trans (congrArg some (by kernel_rfl))
 ·exact func76.trans (congrArg some (by kernel_rfl))
 all_goals first | kernel_rfl | (intro _; kernel_rfl)
theorem jnX : Builder.Extra prog jnRen where
 sizeBuilder := by kernel_rfl
 liesBuilder := by kernel_rfl
 t5 := by kernel_rfl
 a5 := fun _ => by kernel_rfl
 z5 := fun _ => by kernel_rfl
 v5 := fun _ => by kernel_rfl
 infoByte := by kernel_rfl
 cellsByte := by kernel_rfl
 sizeByte := by kernel_rfl
 neB5 := by decide
theorem c_strings_Join {r : ByteArray} (v0 : List ByteArray) (x_v0 : Option Addr × Nat) (v1 : ByteArray) (H : p_strings_Join v0 v1 = some r) : FnL' True prog 45 #[.slice x_v0.1 v0.length x_v0.2, .string (v1)] [imm (.slice x_v0.1 v0.length x_v0.2) v0] [] (ι := Unit) (fun _ => .string (r)) (fun _ => []) (fun _ => []) := by
 unfold p_strings_Join at H
 refine gdo H fun h1 H => (gdo H fun h2 H => ?_)
 have hr := Option.some.inj H
 subst hr
 exact FnL'.join jnLays jnX ⟨_, func45, by kernel_rfl, by kernel_rfl⟩ v0 x_v0 v1 (Nat.le_trans h1 (by decide)) (Nat.le_trans h2 (by decide))
noncomputable def p_impl_NameText_b0 (v0 : (List Tag)) (Q10 : (List ByteArray) × Int) : Option (((List ByteArray) × Int) ⊕ ((List ByteArray))) := cond (decide (Q10.2 < (v0.length : Int))) (gd (ix Q10.2 v0.length) <| gd (room (((nth v0 Q10.2.toNat).1).size + (⟨#[61]⟩ : ByteArray).size)) <| gd (room ((((nth v0 Q10.2.toNat).1) ++ (⟨#[61]⟩ : ByteArray)).size + ((nth v0 Q10.2.toNat).2).size)) <| gd (room (Q10.1.length + 1)) <| gd (I64 (Q10.2 + 1)) <| some (.inl ((Q10.1 ++ [(((nth v0 Q10.2.toNat).1) ++ (⟨#[61]⟩ : ByteArray)) ++ ((nth v0 Q10.2.toNat).2)]), Q10.2 + 1))) (some (.inr Q10.1))
noncomputable def p_impl_NameText (v0 : (List Tag)) : Option (ByteArray) := bd (p_impl_NameOk v0) fun r1 => cond (!r1) (some (⟨#[]⟩ : ByteArray)) (bd (lp (p_impl_NameText_b0 v0) (([] : List ByteArray), 0)) fun x6 => bd (p_strings_Join x6 (⟨#[44]⟩ : ByteArray)) fun r28 => some r28)
theorem c_impl_NameText {r : ByteArray} (v0 : (List Tag)) (x_v0 : Option Addr × Nat) (H : p_impl_NameText v0 = some r) : FnL' True prog 21 #[.slice x_v0.1 v0.length x_v0.2] [imm (.slice x_v0.1 v0.length x_v0.2) v0] [] (ι := Unit) (fun _ => .string (r)) (fun _ => []) (fun _ => []) := by
 refine calls_ofX (args := [_]) func21 rfl (by kernel_rfl) ntmps21 (by simp) fun c hL => ?_
 unfold p_impl_NameText at H
 refine sr (aH (v := .string ((⟨#[]⟩ : ByteArray))) rfl (nl (aD (sr (aF rfl (bdo H fun r1 h2 H => (aI (bF (c_impl_NameOk v0 x_v0 h2) rfl (aC (aL aQ) aN)) (aG (p_not rfl) (nl (cH H rfl (fun h3 H => ?_) (fun h3 H => ?_)))))))))))
 ·refine sr (aH (v := .string ((⟨#[]⟩ : ByteArray))) rfl (nl (bI (rT (?_)))))
  obtain rfl := si H
  exact bk
 ·refine bA (nT (sr (f2 (e_lit0 ByteArray cG ty9) fun a4 c5 => (aH rfl (nl (aD (sr (aF rfl (aG (bK 44 cC rfl) (aF (v := .int .i64 (0)) rfl (nl (bdo H fun x6 hx7 H => ?_))))))))))))
  refine tMidNC (ι := Option Addr × Nat) (fun ψ => [(3, .slice ψ.1 x6.length ψ.2)]) (fun ψ => [tree (.slice ψ.1 x6.length ψ.2) x6]) ?_ ?_
  ·refine aP (cA hx7 (a4, c5) (fun Q10 z11 => [(3, .slice z11.1 Q10.1.length z11.2), (10, .slice x_v0.1 v0.length x_v0.2), (11, .int .i64 ((v0.length : Int))), (12, .int .i64 (Q10.2))]) (fun Q10 z11 => [tree (.slice z11.1 Q10.1.length z11.2) Q10.1]) (.cons aA .nil) ?_)
   rintro _ Q10 z11 t13 H1 hi14 hb15
   unfold p_impl_NameText_b0 at H1
   refine sr (aG (bS rfl rfl) (nl (aD (cH H1 rfl (fun h18 H1 => ?_) (fun h18 H1 => ?_)))))
   ·refine bA (nT (aD (aP (sr (gdo H1 fun h19 H1 => (aI (bM cC ty44 rfl rfl h19 rfl (aM (aL aQ))) (aI (v := .agg #[.string ((nth v0 Q10.2.toNat).1), .string ((nth v0 Q10.2.toNat).2)]) (bO (i := Q10.2.toNat) ty44 rfl (aM (aL aQ)) h19.lt) (f1 (e_alloc ty44) fun g20 => (stb (cs' := [.string ((nth v0 Q10.2.toNat).1), .string ((nth v0 Q10.2.toNat).2)]) ty44 bW (nl ?_))))))))))
    refine aO (aF rfl (aG (bP fa44_0 rfl rfl) (aI (bB ty9 rfl aB rfl) (gdo H1 fun h21 H1 => (aG (p_cat rfl rfl h21) (aG (bP fa44_1 rfl rfl) (aI (bB ty9 rfl aB rfl) (gdo H1 fun h22 H1 => (aG (p_cat rfl rfl h22) ?_)))))))))
    exact f1 (e_lit (vs := [(0, .string ((((nth v0 Q10.2.toNat).1) ++ (⟨#[61]⟩ : ByteArray)) ++ ((nth v0 Q10.2.toNat).2)))]) [.string ((((nth v0 Q10.2.toNat).1) ++ (⟨#[61]⟩ : ByteArray)) ++ ((nth v0 Q10.2.toNat).2))] cG ty9 rfl (by decide) (by decide) (by kernel_rfl)) fun g23 => (gdo H1 fun h26 H1 => (f2 (e_app1 (l := Q10.1) (α := ByteArray) ((((nth v0 Q10.2.toNat).1) ++ (⟨#[61]⟩ : ByteArray)) ++ ((nth v0 Q10.2.toNat).2)) () cG ty9 rfl rfl (h26.b (by decide)) h26.x rfl (bV _) (.cons dl2 (.cons aA .nil))) fun a24 c25 => (aH rfl (aJ (nB (nT (aO (gdo H1 fun h27 H1 => (aG (bJ rfl rfl h27) (aF rfl (aJ (nLI (a24, c25) (hi14 _ (sm H1)) (.cons aA .nil)))))))))))))
   ·refine bY (xT (xT (xE (?_))))
    obtain rfl := hb15 _ (sm H1)
    exact nMC (z11.1, z11.2) ⟨rfl, trivial⟩ bL (.cons aA .nil)
  ·intro y12
   show At _ _ [(3, .slice y12.1 x6.length y12.2)] _ [tree (.slice y12.1 x6.length y12.2) x6] _
   refine nT (sr (aF rfl (bdo H fun r28 h29 H => (aI (bF (c_strings_Join x6 y12 (⟨#[44]⟩ : ByteArray) h29) rfl (aC (bE aB) aN) hL) (aH rfl (nl ?_))))))
   obtain rfl := si H
   exact bI bk
noncomputable def p_internal_stringslite_HasSuffix (v0 : ByteArray) (v1 : ByteArray) : Option (Bool) := bd (cond (decide ((v1.size : Int) ≤ (v0.size : Int))) (gd (I64 ((v0.size : Int) - (v1.size : Int))) <| gd (sl2 ((v0.size : Int) - (v1.size : Int)) (v0.size : Int) v0.size) <| some (decide (v0.extract ((v0.size : Int) - (v1.size : Int)).toNat (v0.size : Int).toNat = v1))) (some (false))) fun b1 => some b1
theorem c_internal_stringslite_HasSuffix {r : Bool} (v0 : ByteArray) (v1 : ByteArray) (H : p_internal_stringslite_HasSuffix v0 v1 = some r) : Fn' prog 65 #[.string (v0), .string (v1)] [] [] (ι := Unit) (fun _ => .bool (r)) (fun _ => []) (fun _ => []) := by
 refine cof (args := [_, _]) func65 ntmps65 fun c => ?_
 unfold p_internal_stringslite_HasSuffix at H
 refine sr (aH (v := .bool (false)) rfl (nl (bdo H fun b1 j2 H => (bZ [(4, .bool (b1))] ?_ ?_))))
 ·refine cB [(0, .string (v0)), (1, .string (v1))] ⟨rfl, rfl, trivial⟩ (aV rfl (aR (p_slen cJ rfl) (aV rfl (aR (p_slen cJ rfl) (aR (p_geq rfl rfl) ?_)))))
  rcases aK (decide ((v1.size : Int) ≤ (v0.size : Int))) with h3 | h3
  ·have j2 := cdT h3 j2
   refine aW (aE rfl) h3 (aS rfl (aE rfl) (aS rfl (aE rfl) (aS rfl (p_slen cJ rfl) (aS rfl (aE rfl) (aS rfl (p_slen cJ rfl) (gdo j2 fun h4 j2 => (aS rfl (p_sub rfl rfl h4) (gdo j2 fun h5 j2 => (aS rfl ((p_ssl ((v0.size : Int) - (v1.size : Int)) (v0.size : Int) cJ rfl rfl (fun h => nomatch h) rfl (fun _ => rfl) h5)) ?_)))))))))
   refine aS rfl (aE rfl) (aS rfl (bU rfl rfl) (aR (bH rfl rfl) (aR (p_assign rfl) ?_)))
   obtain rfl := si j2
   show At _ _ _ _ _ _
   exact n1 ⟨rfl, trivial⟩
  ·have j2 := cdF h3 j2
   refine aW (aE rfl) h3 ?_
   iterate 9 refine aX rfl ?_
   refine aR (v := .bool (false)) (bG rfl rfl) (aR (v := .bool (false)) (p_assign rfl) ?_)
   obtain rfl := si j2
   show At _ _ _ _ _ _
   exact n1 ⟨rfl, trivial⟩
 obtain rfl := si H
 exact bI bk
noncomputable def p_internal_stringslite_CutSuffix (v0 : ByteArray) (v1 : ByteArray) : Option (ByteArray × Bool) := bd (p_internal_stringslite_HasSuffix v0 v1) fun r1 => cond (!r1) (some (v0, false)) (gd (I64 ((v0.size : Int) - (v1.size : Int))) <| gd (sl2 0 ((v0.size : Int) - (v1.size : Int)) v0.size) <| some (v0.extract 0 ((v0.size : Int) - (v1.size : Int)).toNat, true))
theorem c_internal_stringslite_CutSuffix {r : ByteArray × Bool} (v0 : ByteArray) (v1 : ByteArray) (H : p_internal_stringslite_CutSuffix v0 v1 = some r) : Fn' prog 55 #[.string (v0), .string (v1)] [] [] (ι := Unit) (fun _ => .tuple #[.string (r.1), .bool (r.2)]) (fun _ => []) (fun _ => []) := by
 refine cof (args := [_, _]) func55 ntmps55 fun c => ?_
 unfold p_internal_stringslite_CutSuffix at H
 refine sr (aH (v := .string ((⟨#[]⟩ : ByteArray))) rfl (aH (v := .bool (false)) rfl (nl (aD (sr (aF rfl (aF rfl (bdo H fun r1 h2 H => (aI (bF (c_internal_stringslite_HasSuffix v0 v1 h2) rfl aN) (aG (p_not rfl) (nl (cH H rfl (fun h3 H => ?_) (fun h3 H => ?_)))))))))))))
 ·refine sr (aF rfl (aH rfl (aH (v := .bool (false)) rfl (nl (bI (rT (?_)))))))
  obtain rfl := si H
  exact back2 () rfl (ResV.tmp (v := .string (v0)) rfl) (ResV.tmp (v := .bool (false)) rfl) rfl bR bD
 ·refine bA (nT (sr (aF rfl (aF rfl (aG (p_slen cJ rfl) (aF rfl (aG (p_slen cJ rfl) (gdo H fun h4 H => (aG (p_sub rfl rfl h4) ?_)))))))))
  refine gdo H fun h5 H => (aG ((p_ssl 0 ((v0.size : Int) - (v1.size : Int)) cJ rfl rfl (fun _ => rfl) rfl (fun h => nomatch h) h5)) (aH rfl (aH (v := .bool (true)) rfl (nl (bI ?_)))))
  obtain rfl := si H
  exact back2 () rfl (ResV.tmp (v := .string (v0.extract 0 ((v0.size : Int) - (v1.size : Int)).toNat)) rfl) (ResV.tmp (v := .bool (true)) rfl) rfl bR bD
noncomputable def p_strings_CutSuffix (v0 : ByteArray) (v1 : ByteArray) : Option (ByteArray × Bool) := bd (p_internal_stringslite_CutSuffix v0 v1) fun r1 => some (r1.1, r1.2)
theorem c_strings_CutSuffix {r : ByteArray × Bool} (v0 : ByteArray) (v1 : ByteArray) (H : p_strings_CutSuffix v0 v1 = some r) : Fn' prog 37 #[.string (v0), .string (v1)] [] [] (ι := Unit) (fun _ => .tuple #[.string (r.1), .bool (r.2)]) (fun _ => []) (fun _ => []) := by
 refine cof (args := [_, _]) func37 ntmps37 fun c => ?_
 unfold p_strings_CutSuffix at H
 refine sr (aH (v := .string ((⟨#[]⟩ : ByteArray))) rfl (aH (v := .bool (false)) rfl (nl (sr (aF rfl (aF rfl (bdo H fun r1 h2 H => (aI (bF (c_internal_stringslite_CutSuffix v0 v1 h2) rfl aN) (aG (bX rfl rfl) (aG (bX rfl rfl) ?_))))))))))
 refine aH rfl (aH rfl (nl (bI ?_)))
 obtain rfl := si H
 exact back2 () rfl (ResV.tmp (v := .string (r1.1)) rfl) (ResV.tmp (v := .bool (r1.2)) rfl) rfl bR bD
noncomputable def p_impl_FilterOk_b0 (v0 : (List Cond)) (Q5 : Int) : Option ((Int) ⊕ (Unit ⊕ Bool)) := cond (decide (Q5 < (v0.length : Int))) (gd (ix Q5 v0.length) <| bd (p_impl_tagOk ((nth v0 Q5.toNat).1)) fun r16 => cond (!r16) (some (.inr (.inr false))) (gd (I64 (Q5 + 1)) <| some (.inl (Q5 + 1)))) (some (.inr (.inl ())))
noncomputable def p_impl_FilterOk (v0 : (List Cond)) : Option (Bool) := bd (lp (p_impl_FilterOk_b0 v0) 0) <| sw (fun _ => some (decide ((v0.length : Int) ≤ 3))) (fun q => some q)
theorem c_impl_FilterOk {r : Bool} (v0 : (List Cond)) (x_v0 : Option Addr × Nat) (H : p_impl_FilterOk v0 = some r) : Fn' prog 24 #[.slice x_v0.1 v0.length x_v0.2] [imm (.slice x_v0.1 v0.length x_v0.2) v0] [] (ι := Unit) (fun _ => .bool (r)) (fun _ => []) (fun _ => []) := by
 refine cof (args := [_]) func24 ntmps24 fun c => ?_
 unfold p_impl_FilterOk at H
 refine sr (aH (v := .bool (false)) rfl (nl (aD (sr (aF rfl (aG (bK 46 cD rfl) (aF (v := .int .i64 (0)) rfl (nl (bdo H fun x1 hx2 H => (tMidI (Λ := Unit) H (fun _ _ => [(0, .slice x_v0.1 v0.length x_v0.2)]) (fun _ _ => []) ?_ ?_))))))))))
 ·refine aP (cA hx2 () (fun Q5 _ => [(0, .slice x_v0.1 v0.length x_v0.2), (5, .slice x_v0.1 v0.length x_v0.2), (6, .int .i64 ((v0.length : Int))), (7, .int .i64 (Q5))]) (fun _ _ => []) bD ?_)
  rintro _ Q5 z6 t8 H1 hi9 hb10
  unfold p_impl_FilterOk_b0 at H1
  refine sr (aG (bS rfl rfl) (nl (aD (cH H1 rfl (fun h13 H1 => ?_) (fun h13 H1 => ?_)))))
  ·refine bA (nT (aD (aP (sr (gdo H1 fun h14 H1 => (aI (bM cD ty46 rfl rfl h14 rfl (aM (aL aQ))) (aI (v := .agg #[.string (((nth v0 Q5.toNat).1).1), .string (((nth v0 Q5.toNat).1).2), .bool ((nth v0 Q5.toNat).2)]) (bO (i := Q5.toNat) ty46 rfl (aM (aL aQ)) h14.lt) (f1 (e_alloc ty46) fun g15 => (stb (cs' := [.string (((nth v0 Q5.toNat).1).1), .string (((nth v0 Q5.toNat).1).2), .bool ((nth v0 Q5.toNat).2)]) ty46 bW (nl ?_))))))))))
   refine sr (aG (bP fa46_0 rfl rfl) (aI (v := .agg #[.string (((nth v0 Q5.toNat).1).1), .string (((nth v0 Q5.toNat).1).2)]) (q_ldbP [.string (((nth v0 Q5.toNat).1).1), .string (((nth v0 Q5.toNat).1).2)] ty44 rfl aB rfl rfl) (bdo H1 fun r16 h17 H1 => (aI (bF (c_impl_tagOk ((nth v0 Q5.toNat).1) h17) rfl aN) (aG (p_not rfl) (nl (cH H1 rfl (fun h18 H1 => ?_) (fun h18 H1 => ?_))))))))
   ·refine sr (aH (v := .bool (false)) rfl (nl (bI (rB (rT (rT (rB (rT (rT (?_))))))))))
    obtain rfl := hb10 _ (sm H1)
    replace H := sw.r H
    obtain rfl := si H
    exact bk
   ·exact bA (nB (nT (aO (gdo H1 fun h19 H1 => (aG (bJ rfl rfl h19) (aF rfl (aJ (nLI () (hi9 _ (sm H1)) bD))))))))
  ·exact bY (xT (xT (xE (nMI () (hb10 _ (sm H1)) bD))))
 ·rintro e20 y7 H
  refine nT (sr (aF rfl (aG (bK 46 cD rfl) (aG (p_leq rfl rfl) (aH rfl (nl ?_))))))
  obtain rfl := si H
  exact bI bk
noncomputable def p_impl_FilterText_b0 (v0 : (List Cond)) (Q11 : (List ByteArray) × Int) : Option (((List ByteArray) × Int) ⊕ ((List ByteArray))) := cond (decide (Q11.2 < (v0.length : Int))) (gd (ix Q11.2 v0.length) <| cond ((nth v0 Q11.2.toNat).2) (gd (room ((((nth v0 Q11.2.toNat).1).1).size + (⟨#[33, 61]⟩ : ByteArray).size)) <| gd (room (((((nth v0 Q11.2.toNat).1).1) ++ (⟨#[33, 61]⟩ : ByteArray)).size + (((nth v0 Q11.2.toNat).1).2).size)) <| gd (room (Q11.1.length + 1)) <| gd (I64 (Q11.2 + 1)) <| some (.inl ((Q11.1 ++ [((((nth v0 Q11.2.toNat).1).1) ++ (⟨#[33, 61]⟩ : ByteArray)) ++ (((nth v0 Q11.2.toNat).1).2)]), Q11.2 + 1))) (gd (room ((((nth v0 Q11.2.toNat).1).1).size + (⟨#[61]⟩ : ByteArray).size)) <| gd (room (((((nth v0 Q11.2.toNat).1).1) ++ (⟨#[61]⟩ : ByteArray)).size + (((nth v0 Q11.2.toNat).1).2).size)) <| gd (room (Q11.1.length + 1)) <| gd (I64 (Q11.2 + 1)) <| some (.inl ((Q11.1 ++ [((((nth v0 Q11.2.toNat).1).1) ++ (⟨#[61]⟩ : ByteArray)) ++ (((nth v0 Q11.2.toNat).1).2)]), Q11.2 + 1)))) (some (.inr Q11.1))
noncomputable def p_impl_FilterText (v0 : (List Cond)) : Option (ByteArray) := bd (p_impl_FilterOk v0) fun r1 => cond (!r1) (some (⟨#[]⟩ : ByteArray)) (cond (decide ((v0.length : Int) = 0)) (some (⟨#[42]⟩ : ByteArray)) (bd (lp (p_impl_FilterText_b0 v0) (([] : List ByteArray), 0)) fun x7 => bd (p_strings_Join x7 (⟨#[44]⟩ : ByteArray)) fun r37 => some r37))
theorem c_impl_FilterText {r : ByteArray} (v0 : (List Cond)) (x_v0 : Option Addr × Nat) (H : p_impl_FilterText v0 = some r) : FnL' True prog 25 #[.slice x_v0.1 v0.length x_v0.2] [imm (.slice x_v0.1 v0.length x_v0.2) v0] [] (ι := Unit) (fun _ => .string (r)) (fun _ => []) (fun _ => []) := by
 refine calls_ofX (args := [_]) func25 rfl (by kernel_rfl) ntmps25 (by simp) fun c hL => ?_
 unfold p_impl_FilterText at H
 refine sr (aH (v := .string ((⟨#[]⟩ : ByteArray))) rfl (nl (aD (sr (aF rfl (bdo H fun r1 h2 H => (aI (bF (c_impl_FilterOk v0 x_v0 h2) rfl (aC (aL aQ) aN)) (aG (p_not rfl) (nl (cH H rfl (fun h3 H => ?_) (fun h3 H => ?_)))))))))))
 ·refine sr (aH (v := .string ((⟨#[]⟩ : ByteArray))) rfl (nl (bI (rT (?_)))))
  obtain rfl := si H
  exact bk
 ·refine bA (nT (aD (sr (aF rfl (aG (bK 46 cD rfl) (aG (bT rfl rfl) (nl (cH H rfl (fun h4 H => ?_) (fun h4 H => ?_)))))))))
  ·refine sr (aH (v := .string ((⟨#[42]⟩ : ByteArray))) rfl (nl (bI (rT (?_)))))
   obtain rfl := si H
   exact bk
  ·refine bA (nT (sr (f2 (e_lit0 ByteArray cG ty9) fun a5 c6 => (aH rfl (nl (aD (sr (aF rfl (aG (bK 46 cD rfl) (aF (v := .int .i64 (0)) rfl (nl (bdo H fun x7 hx8 H => ?_))))))))))))
   refine tMidNC (ι := Option Addr × Nat) (fun ψ => [(3, .slice ψ.1 x7.length ψ.2)]) (fun ψ => [tree (.slice ψ.1 x7.length ψ.2) x7]) ?_ ?_
   ·refine aP (cA hx8 (a5, c6) (fun Q11 z12 => [(3, .slice z12.1 Q11.1.length z12.2), (14, .slice x_v0.1 v0.length x_v0.2), (15, .int .i64 ((v0.length : Int))), (16, .int .i64 (Q11.2))]) (fun Q11 z12 => [tree (.slice z12.1 Q11.1.length z12.2) Q11.1]) (.cons aA .nil) ?_)
    rintro _ Q11 z12 t14 H1 hi15 hb16
    unfold p_impl_FilterText_b0 at H1
    refine sr (aG (bS rfl rfl) (nl (aD (cH H1 rfl (fun h19 H1 => ?_) (fun h19 H1 => ?_)))))
    ·refine bA (nT (aD (aP (sr (gdo H1 fun h20 H1 => (aI (bM cD ty46 rfl rfl h20 rfl (aM (aL aQ))) (aI (v := .agg #[.string (((nth v0 Q11.2.toNat).1).1), .string (((nth v0 Q11.2.toNat).1).2), .bool ((nth v0 Q11.2.toNat).2)]) (bO (i := Q11.2.toNat) ty46 rfl (aM (aL aQ)) h20.lt) (f1 (e_alloc ty46) fun g21 => (stb (cs' := [.string (((nth v0 Q11.2.toNat).1).1), .string (((nth v0 Q11.2.toNat).1).2), .bool ((nth v0 Q11.2.toNat).2)]) ty46 bW (nl ?_))))))))))
     refine sr (aH (v := .string ((⟨#[61]⟩ : ByteArray))) rfl (nl (aD (sr (aG (bP fa46_1 rfl rfl) (aI (bB ty4 rfl aB rfl) (nl (cH H1 rfl (fun h22 H1 => ?_) (fun h22 H1 => ?_)))))))))
     ·refine aO (aH (v := .string ((⟨#[33, 61]⟩ : ByteArray))) rfl (nl (aO (aF rfl (aG (bP fa46_0 rfl rfl) (aG (bP fa44_0 rfl rfl) (aI (bB ty9 rfl aB rfl) (aF (v := .string ((⟨#[33, 61]⟩ : ByteArray))) rfl (gdo H1 fun h23 H1 => (aG (p_cat rfl rfl h23) ?_))))))))))
      refine aG (bP fa46_0 rfl rfl) (aG (bP fa44_1 rfl rfl) (aI (bB ty9 rfl aB rfl) (gdo H1 fun h24 H1 => (aG (p_cat rfl rfl h24) (f1 (e_lit (vs := [(0, .string (((((nth v0 Q11.2.toNat).1).1) ++ (⟨#[33, 61]⟩ : ByteArray)) ++ (((nth v0 Q11.2.toNat).1).2)))]) [.string (((((nth v0 Q11.2.toNat).1).1) ++ (⟨#[33, 61]⟩ : ByteArray)) ++ (((nth v0 Q11.2.toNat).1).2))] cG ty9 rfl (by decide) (by decide) (by kernel_rfl)) fun g25 => (gdo H1 fun h28 H1 => (f2 (e_app1 (l := Q11.1) (α := ByteArray) (((((nth v0 Q11.2.toNat).1).1) ++ (⟨#[33, 61]⟩ : ByteArray)) ++ (((nth v0 Q11.2.toNat).1).2)) () cG ty9 rfl rfl (h28.b (by decide)) h28.x rfl (bV _) (.cons dl2 (.cons aA .nil))) fun a26 c27 => (aH rfl (aJ (nB (nT (?_))))))))))))
      exact aO (gdo H1 fun h29 H1 => (aG (bJ rfl rfl h29) (aF rfl (aJ (nLI (a26, c27) (hi15 _ (sm H1)) (.cons aA .nil))))))
     ·refine bA (nT (aO (aF rfl (aG (bP fa46_0 rfl rfl) (aG (bP fa44_0 rfl rfl) (aI (bB ty9 rfl aB rfl) (aF (v := .string ((⟨#[61]⟩ : ByteArray))) rfl (gdo H1 fun h30 H1 => (aG (p_cat rfl rfl h30) ?_)))))))))
      refine aG (bP fa46_0 rfl rfl) (aG (bP fa44_1 rfl rfl) (aI (bB ty9 rfl aB rfl) (gdo H1 fun h31 H1 => (aG (p_cat rfl rfl h31) (f1 (e_lit (vs := [(0, .string (((((nth v0 Q11.2.toNat).1).1) ++ (⟨#[61]⟩ : ByteArray)) ++ (((nth v0 Q11.2.toNat).1).2)))]) [.string (((((nth v0 Q11.2.toNat).1).1) ++ (⟨#[61]⟩ : ByteArray)) ++ (((nth v0 Q11.2.toNat).1).2))] cG ty9 rfl (by decide) (by decide) (by kernel_rfl)) fun g32 => (gdo H1 fun h35 H1 => (f2 (e_app1 (l := Q11.1) (α := ByteArray) (((((nth v0 Q11.2.toNat).1).1) ++ (⟨#[61]⟩ : ByteArray)) ++ (((nth v0 Q11.2.toNat).1).2)) () cG ty9 rfl rfl (h35.b (by decide)) h35.x rfl (bV _) (.cons dl2 (.cons aA .nil))) fun a33 c34 => (aH rfl (aJ (nB (nT (?_))))))))))))
      exact aO (gdo H1 fun h36 H1 => (aG (bJ rfl rfl h36) (aF rfl (aJ (nLI (a33, c34) (hi15 _ (sm H1)) (.cons aA .nil))))))
    ·refine bY (xT (xT (xE (?_))))
     obtain rfl := hb16 _ (sm H1)
     exact nMC (z12.1, z12.2) ⟨rfl, trivial⟩ bL (.cons aA .nil)
   ·intro y13
    show At _ _ [(3, .slice y13.1 x7.length y13.2)] _ [tree (.slice y13.1 x7.length y13.2) x7] _
    refine nT (sr (aF rfl (bdo H fun r37 h38 H => (aI (bF (c_strings_Join x7 y13 (⟨#[44]⟩ : ByteArray) h38) rfl (aC (bE aB) aN) hL) (aH rfl (nl ?_))))))
    obtain rfl := si H
    exact bI bk
noncomputable def p_impl_FilterRead_b0 (r4 : (List ByteArray)) (Q11 : (List Cond) × Int) : Option (((List Cond) × Int) ⊕ ((List Cond))) := cond (decide (Q11.2 < (r4.length : Int))) (gd (ix Q11.2 r4.length) <| bd (p_strings_Cut_k61 (nth r4 Q11.2.toNat)) fun r21 => bd (p_strings_CutSuffix r21.1 (⟨#[33]⟩ : ByteArray)) fun r24 => gd (room (Q11.1.length + 1)) <| gd (I64 (Q11.2 + 1)) <| some (.inl ((Q11.1 ++ [((r24.1, r21.2.1), r24.2)]), Q11.2 + 1))) (some (.inr Q11.1))
noncomputable def p_impl_FilterRead (v0 : ByteArray) : Option ((List Cond) × Bool) := cond (decide (v0 = (⟨#[42]⟩ : ByteArray))) (some (([] : List Cond), true)) (bd (p_strings_Split_k44 v0) fun r4 => bd (lp (p_impl_FilterRead_b0 r4) (([] : List Cond), 0)) fun x7 => bd (cond (decide (v0 = (⟨#[]⟩ : ByteArray))) (some (true)) (bd (p_impl_FilterText x7) fun r34 => some (!decide (r34 = v0)))) fun b31 => cond (b31) (some (([] : List Cond), false)) (some (x7, true)))
theorem c_impl_FilterRead {r : (List Cond) × Bool} (v0 : ByteArray) (H : p_impl_FilterRead v0 = some r) : FnL' True prog 14 #[.string (v0)] [] [] (ι := (Option Addr × Nat) × Unit) (fun x => .tuple #[.slice x.1.1 r.1.length x.1.2, .bool (r.2)]) (fun _ => []) (fun x => [tree (.slice x.1.1 r.1.length x.1.2) r.1]) := by
 refine calls_ofX (args := [_]) func14 rfl (by kernel_rfl) ntmps14 (by simp) fun c hL => ?_
 unfold p_impl_FilterRead at H
 refine sr (aH (v := .slice none 0 0) rfl (aH (v := .bool (false)) rfl (nl (sr (f2 (e_lit0 Cond cD ty46) fun a1 c2 => (aH rfl (nl (aD (sr (aF rfl (aG (bU rfl rfl) (nl (cH H rfl (fun h3 H => ?_) (fun h3 H => ?_))))))))))))))
 ·refine sr (aF rfl (aH rfl (aH (v := .bool (true)) rfl (nl (bI (rT (?_)))))))
  obtain rfl := si H
  exact back2 ((a1, c2), ()) rfl (ResV.tmp (v := .slice a1 (([] : List Cond).length) c2) rfl) (ResV.tmp (v := .bool (true)) rfl) rfl bR (.cons aA .nil)
 ·refine bA (nT (aD (sr (aF rfl (bdo H fun r4 h5 H => (f1 (e_callB (c_strings_Split_k44 v0 h5) (fun _ => (aY aZ)) rfl aN) fun x6 => (aG (bK 9 cG rfl) (aF (v := .int .i64 (0)) rfl (nl (bdo H fun x7 hx8 H => (tMidNC (ι := Option Addr × Nat) (fun ψ => [(0, .string (v0)), (4, .slice ψ.1 x7.length ψ.2)]) (fun ψ => [tree (.slice ψ.1 x7.length ψ.2) x7]) ?_ ?_)))))))))))
  ·refine aP (cA hx8 (a1, c2) (fun Q11 z12 => [(0, .string (v0)), (4, .slice z12.1 Q11.1.length z12.2), (16, .slice x6.1 r4.length x6.2), (17, .int .i64 ((r4.length : Int))), (18, .int .i64 (Q11.2))]) (fun Q11 z12 => [tree (.slice z12.1 Q11.1.length z12.2) Q11.1, tree (.slice x6.1 r4.length x6.2) r4]) (.cons dl1 (.cons aA .nil)) ?_)
   rintro _ Q11 z12 t14 H1 hi15 hb16
   unfold p_impl_FilterRead_b0 at H1
   refine sr (aG (bS rfl rfl) (nl (aD (cH H1 rfl (fun h19 H1 => ?_) (fun h19 H1 => ?_)))))
   ·refine bA (nT (aD (aP (sr (gdo H1 fun h20 H1 => (aI (q_ixO' cG ty9 rfl rfl h20 hs1) (aI (bN (i := Q11.2.toNat) (j := 0) ty9 rfl (aM (bE hs1)) h20.lt rfl) (aH rfl (nl (sr (aF rfl ?_)))))))))))
    refine bdo H1 fun r21 h22 H1 => (aI (bF (c_strings_Cut_k61 (nth r4 Q11.2.toNat) h22) rfl aN) (aF rfl (aG (bX rfl rfl) (aG (bX rfl rfl) (aG (bX rfl rfl) (aH rfl (aH rfl (aH rfl (nl (sr ?_))))))))))
    refine aG (v := .agg #[.string (⟨#[]⟩), .string (⟨#[]⟩), .bool (false)]) (p_buildS (vs := []) (cs := #[.string (⟨#[]⟩), .string (⟨#[]⟩), .bool (false)]) ty46 pl46 rfl rfl) (f1 (e_alloc ty46) fun g23 => (stb (cs' := [.string (⟨#[]⟩), .string (⟨#[]⟩), .bool (false)]) ty46 bW (nl (sr (aF rfl (bdo H1 fun r24 h25 H1 => (aI (bF (c_strings_CutSuffix r21.1 (⟨#[33]⟩ : ByteArray) h25) rfl aN) (aF rfl (aG (bX rfl rfl) ?_)))))))))
    refine aG (bX rfl rfl) (aH rfl (aG (bP fa46_1 rfl rfl) (stb (cs' := [.string (⟨#[]⟩), .string (⟨#[]⟩), .bool (r24.2)]) ty4 bW (nl (sr (aF rfl (aF rfl (aG (v := .agg #[.string (r24.1), .string (r21.2.1)]) (p_buildS (vs := [(0, .string (r24.1)), (1, .string (r21.2.1))]) (cs := #[.string (r24.1), .string (r21.2.1)]) ty44 pl44 rfl rfl) (aG (bP fa46_0 rfl rfl) ?_)))))))))
    refine stb (cs' := [.string (r24.1), .string (r21.2.1), .bool (r24.2)]) ty44 bW (nl (aO (aF rfl (aI (q_ldbA ty46 rfl aB rfl) (f1 (e_lit (vs := [(0, .agg #[.string (r24.1), .string (r21.2.1), .bool (r24.2)])]) [.string (r24.1), .string (r21.2.1), .bool (r24.2)] cD ty46 rfl (by decide) (by decide) (by kernel_rfl)) fun g26 => (gdo H1 fun h29 H1 => (f2 (e_app1 (l := Q11.1) (α := Cond) ((r24.1, r21.2.1), r24.2) (((), ()), ()) cD ty46 rfl rfl (h29.b (by decide)) h29.x rfl (bV _) (.cons dl2 (.cons aA .nil))) fun a27 c28 => (aH rfl (aJ (nB (nT (?_))))))))))))
    exact aO (gdo H1 fun h30 H1 => (aG (bJ rfl rfl h30) (aF rfl (aJ (nLI (a27, c28) (hi15 _ (sm H1)) (.cons aA (.cons dl1 .nil)))))))
   ·refine bY (xT (xT (xE (?_))))
    obtain rfl := hb16 _ (sm H1)
    exact nMC (z12.1, z12.2) ⟨rfl, rfl, trivial⟩ bL (.cons aA .nil)
  ·intro y13
   show At _ _ [(0, .string (v0)), (4, .slice y13.1 x7.length y13.2)] _ [tree (.slice y13.1 x7.length y13.2) x7] _
   refine nT (aD (bdo H fun b31 j32 H => (bZ [(51, .bool (b31)), (4, .slice y13.1 x7.length y13.2)] ?_ ?_)))
   ·refine cB [(0, .string (v0)), (4, .slice y13.1 x7.length y13.2)] ⟨rfl, rfl, trivial⟩ (aV rfl (aR (bU rfl rfl) ?_))
    rcases aK (decide (v0 = (⟨#[]⟩ : ByteArray))) with h33 | h33
    ·have j32 := cdT h33 j32
     refine aW (aE rfl) h33 ?_
     iterate 4 refine aX rfl ?_
     refine aR (v := .bool (true)) (bH rfl rfl) ?_
     obtain rfl := si j32
     show At _ _ _ _ _ _
     exact n1 ⟨rfl, rfl, trivial⟩
    ·have j32 := cdF h33 j32
     refine aW (aE rfl) h33 (aS rfl (aE rfl) (bdo j32 fun r34 h35 j32 => (aU rfl (bF (c_impl_FilterText x7 y13 h35) rfl (aC (bE aB) aN) hL) (aS rfl (aE rfl) (aS rfl (p_sneq rfl rfl) (aR (bG rfl rfl) ?_))))))
     obtain rfl := si j32
     show At _ _ _ _ _ _
     exact n1 ⟨rfl, rfl, trivial⟩
   refine cH H rfl (fun h36 H => ?_) (fun h36 H => ?_)
   ·refine sr (f2 (e_lit0 Cond cD ty46) fun a37 c38 => (aH rfl (aH (v := .bool (false)) rfl (nl (bI (rT (?_)))))))
    obtain rfl := si H
    exact back2 ((a37, c38), ()) rfl (ResV.tmp (v := .slice a37 (([] : List Cond).length) c38) rfl) (ResV.tmp (v := .bool (false)) rfl) rfl bR (.cons aA .nil)
   ·refine bA (nT (sr (aF rfl (aH rfl (aH (v := .bool (true)) rfl (nl (bI ?_)))))))
    obtain rfl := si H
    exact back2 (y13, ()) rfl (ResV.tmp (v := .slice y13.1 x7.length y13.2) rfl) (ResV.tmp (v := .bool (true)) rfl) rfl bR (.cons aA .nil)
noncomputable def p_spec_l6Open (v0 : (List UInt8)) : Option (L6Rd) := cond (decide (2000 < (v0.length : Int))) (gd (sl2 0 2000 v0.length) <| some (((v0.take 2000).drop 0), 0)) (some (v0, 0))
theorem c_spec_l6Open {r : L6Rd} (v0 : (List UInt8)) (x_v0 : Option Addr × Nat) (H : p_spec_l6Open v0 = some r) : Fn' prog 39 #[.slice x_v0.1 v0.length x_v0.2] [imm (.slice x_v0.1 v0.length x_v0.2) v0] [] (ι := Nat × ((Option Addr × Nat) × Unit)) (fun x => .pointer (some ⟨x.1, 0, none⟩)) (fun x => [imm (.slice x.2.1.1 r.1.length x.2.1.2) r.1]) (fun x => [box x.1 72 [.slice x.2.1.1 r.1.length x.2.1.2, .int .i64 (r.2)]]) := by
 refine cof (args := [_]) func39 ntmps39 fun c => ?_
 unfold p_spec_l6Open at H
 refine sr (aH rfl (nl (aD (sr (aF rfl (aG (bK 5 cF rfl) (aG (p_gtr rfl rfl) (nl (cH H rfl (fun h1 H => ?_) (fun h1 H => ?_))))))))))
 ·refine aO (aF rfl (gdo H fun h2 H => (aI (v := .slice (subA x_v0.1 x_v0.2 0 (Enc.sz UInt8)) (((v0.take 2000).drop 0).length) (x_v0.2 - 0)) (q_slF (l := v0) (α := UInt8) 0 2000 cF ty5 rfl rfl (fun _ => rfl) rfl (fun h => nomatch h) h2 (aL aQ)) (aH rfl (nl (sr (aF rfl (aG (v := .agg #[.slice (subA x_v0.1 x_v0.2 0 (Enc.sz UInt8)) (((v0.take 2000).drop 0).length) (x_v0.2 - 0), .int .i64 (0)]) (p_buildS (vs := [(0, .slice (subA x_v0.1 x_v0.2 0 (Enc.sz UInt8)) (((v0.take 2000).drop 0).length) (x_v0.2 - 0))]) (cs := #[.slice (subA x_v0.1 x_v0.2 0 (Enc.sz UInt8)) (((v0.take 2000).drop 0).length) (x_v0.2 - 0), .int .i64 (0)]) ty72 pl72 rfl rfl) (f1 (e_box (t := 72) rfl) fun g3 => (aH rfl (nl ?_)))))))))))
  refine bI ?_
  obtain rfl := si H
  exact back1 (g3, ((subA x_v0.1 x_v0.2 0 (Enc.sz UInt8), (x_v0.2 - 0)), ())) rfl (ResV.tmp (v := .pointer (some ⟨g3, 0, none⟩)) rfl) rfl (Ents.cons (Ent.sub aQ h2.le h2.lt) bR) (.cons aA .nil)
 ·refine bA (nT (sr (aF rfl (aG (v := .agg #[.slice x_v0.1 v0.length x_v0.2, .int .i64 (0)]) (p_buildS (vs := [(0, .slice x_v0.1 v0.length x_v0.2)]) (cs := #[.slice x_v0.1 v0.length x_v0.2, .int .i64 (0)]) ty72 pl72 rfl rfl) (f1 (e_box (t := 72) rfl) fun g4 => (aH rfl (nl (bI ?_))))))))
  obtain rfl := si H
  exact back1 (g4, (x_v0, ())) rfl (ResV.tmp (v := .pointer (some ⟨g4, 0, none⟩)) rfl) rfl (Ents.cons aQ bR) (.cons aA .nil)
noncomputable def p_spec_l6Rd_pick (v0 : L6Rd) (v1 : Int) : Option (Int × Int) := gd (I64 (v0.2 + 1)) <| bd (cond (decide (v1 < 1)) (some (true)) (some (decide ((v0.1.length : Int) = 0)))) fun b2 => cond (b2) (some (0, v0.2 + 1)) (gd (I64 ((v0.2 + 1) - 1)) <| cond (decide (((v0.2 + 1) - 1) < (v0.1.length : Int))) (gd (ix ((v0.2 + 1) - 1) v0.1.length) <| gd (v1 ≠ 0) <| gd (I64 (((nth v0.1 (((v0.2 + 1) - 1).toNat)).toNat : Int).tmod v1)) <| some (((nth v0.1 (((v0.2 + 1) - 1).toNat)).toNat : Int).tmod v1, v0.2 + 1)) (gd ((v0.1.length : Int) ≠ 0) <| gd (I64 (((v0.2 + 1) - 1).tmod (v0.1.length : Int))) <| gd (ix (((v0.2 + 1) - 1).tmod (v0.1.length : Int)) v0.1.length) <| gd (I64 (((nth v0.1 ((((v0.2 + 1) - 1).tmod (v0.1.length : Int)).toNat)).toNat : Int) * 131)) <| gd (I64 (((v0.2 + 1) - 1) * 7)) <| gd (I64 ((((v0.2 + 1) - 1) * 7) + 3)) <| gd (I64 (((((v0.2 + 1) - 1) * 7) + 3).tmod (v0.1.length : Int))) <| gd (ix (((((v0.2 + 1) - 1) * 7) + 3).tmod (v0.1.length : Int)) v0.1.length) <| gd (I64 (((nth v0.1 ((((((v0.2 + 1) - 1) * 7) + 3).tmod (v0.1.length : Int)).toNat)).toNat : Int) * 1117)) <| gd (I64 ((((nth v0.1 ((((v0.2 + 1) - 1).tmod (v0.1.length : Int)).toNat)).toNat : Int) * 131) + (((nth v0.1 ((((((v0.2 + 1) - 1) * 7) + 3).tmod (v0.1.length : Int)).toNat)).toNat : Int) * 1117))) <| gd (I64 (((v0.2 + 1) - 1) * 29)) <| gd (I64 (((((nth v0.1 ((((v0.2 + 1) - 1).tmod (v0.1.length : Int)).toNat)).toNat : Int) * 131) + (((nth v0.1 ((((((v0.2 + 1) - 1) * 7) + 3).tmod (v0.1.length : Int)).toNat)).toNat : Int) * 1117)) + (((v0.2 + 1) - 1) * 29))) <| gd (I64 (((v0.2 + 1) - 1).tdiv (v0.1.length : Int))) <| gd (I64 ((((v0.2 + 1) - 1).tdiv (v0.1.length : Int)) * 53)) <| gd (I64 ((((((nth v0.1 ((((v0.2 + 1) - 1).tmod (v0.1.length : Int)).toNat)).toNat : Int) * 131) + (((nth v0.1 ((((((v0.2 + 1) - 1) * 7) + 3).tmod (v0.1.length : Int)).toNat)).toNat : Int) * 1117)) + (((v0.2 + 1) - 1) * 29)) + ((((v0.2 + 1) - 1).tdiv (v0.1.length : Int)) * 53))) <| gd (I64 (((((((nth v0.1 ((((v0.2 + 1) - 1).tmod (v0.1.length : Int)).toNat)).toNat : Int) * 131) + (((nth v0.1 ((((((v0.2 + 1) - 1) * 7) + 3).tmod (v0.1.length : Int)).toNat)).toNat : Int) * 1117)) + (((v0.2 + 1) - 1) * 29)) + ((((v0.2 + 1) - 1).tdiv (v0.1.length : Int)) * 53)).tdiv 64)) <| gd (nn ((((((nth v0.1 ((((v0.2 + 1) - 1).tmod (v0.1.length : Int)).toNat)).toNat : Int) * 131) + (((nth v0.1 ((((((v0.2 + 1) - 1) * 7) + 3).tmod (v0.1.length : Int)).toNat)).toNat : Int) * 1117)) + (((v0.2 + 1) - 1) * 29)) + ((((v0.2 + 1) - 1).tdiv (v0.1.length : Int)) * 53))) <| gd (nn (((((((nth v0.1 ((((v0.2 + 1) - 1).tmod (v0.1.length : Int)).toNat)).toNat : Int) * 131) + (((nth v0.1 ((((((v0.2 + 1) - 1) * 7) + 3).tmod (v0.1.length : Int)).toNat)).toNat : Int) * 1117)) + (((v0.2 + 1) - 1) * 29)) + ((((v0.2 + 1) - 1).tdiv (v0.1.length : Int)) * 53)).tdiv 64)) <| gd (v1 ≠ 0) <| gd (I64 ((xr ((((((nth v0.1 ((((v0.2 + 1) - 1).tmod (v0.1.length : Int)).toNat)).toNat : Int) * 131) + (((nth v0.1 ((((((v0.2 + 1) - 1) * 7) + 3).tmod (v0.1.length : Int)).toNat)).toNat : Int) * 1117)) + (((v0.2 + 1) - 1) * 29)) + ((((v0.2 + 1) - 1).tdiv (v0.1.length : Int)) * 53)) (((((((nth v0.1 ((((v0.2 + 1) - 1).tmod (v0.1.length : Int)).toNat)).toNat : Int) * 131) + (((nth v0.1 ((((((v0.2 + 1) - 1) * 7) + 3).tmod (v0.1.length : Int)).toNat)).toNat : Int) * 1117)) + (((v0.2 + 1) - 1) * 29)) + ((((v0.2 + 1) - 1).tdiv (v0.1.length : Int)) * 53)).tdiv 64)).tmod v1)) <| some ((xr ((((((nth v0.1 ((((v0.2 + 1) - 1).tmod (v0.1.length : Int)).toNat)).toNat : Int) * 131) + (((nth v0.1 ((((((v0.2 + 1) - 1) * 7) + 3).tmod (v0.1.length : Int)).toNat)).toNat : Int) * 1117)) + (((v0.2 + 1) - 1) * 29)) + ((((v0.2 + 1) - 1).tdiv (v0.1.length : Int)) * 53)) (((((((nth v0.1 ((((v0.2 + 1) - 1).tmod (v0.1.length : Int)).toNat)).toNat : Int) * 131) + (((nth v0.1 ((((((v0.2 + 1) - 1) * 7) + 3).tmod (v0.1.length : Int)).toNat)).toNat : Int) * 1117)) + (((v0.2 + 1) - 1) * 29)) + ((((v0.2 + 1) - 1).tdiv (v0.1.length : Int)) * 53)).tdiv 64)).tmod v1, v0.2 + 1)))
theorem c_spec_l6Rd_pick {r : Int × Int} (g_v0 : Nat) (v0 : L6Rd) (x_v0 : (Option Addr × Nat) × Unit) (v1 : Int) (H : p_spec_l6Rd_pick v0 v1 = some r) : Fn' prog 41 #[.pointer (some ⟨g_v0, 0, none⟩), .int .i64 (v1)] [imm (.slice x_v0.1.1 v0.1.length x_v0.1.2) v0.1] [box g_v0 72 [.slice x_v0.1.1 v0.1.length x_v0.1.2, .int .i64 (v0.2)]] (ι := Unit) (fun _ => .int .i64 (r.1)) (fun _ => []) (fun _ => [box g_v0 72 [.slice x_v0.1.1 v0.1.length x_v0.1.2, .int .i64 (r.2)]]) := by
 refine cof (args := [_, _]) func41 ntmps41 fun c => ?_
 unfold p_spec_l6Rd_pick at H
 refine sr (aH (v := .int .i64 (0)) rfl (nl (sr (aF rfl (aF rfl (aG (p_nil rfl) (aG (bP fa72_1 rfl rfl) (aI (bB ty3 rfl aB rfl) (gdo H fun h1 H => (aG (bJ rfl rfl h1) ?_))))))))))
 refine aG (p_nil rfl) (aG (bP fa72_1 rfl rfl) (stb (cs' := [.slice x_v0.1.1 v0.1.length x_v0.1.2, .int .i64 (v0.2 + 1)]) ty3 bW (nl (aD (bdo H fun b2 j3 H => (bZ [(24, .bool (b2)), (0, .pointer (some ⟨g_v0, 0, none⟩)), (1, .int .i64 (v1))] ?_ ?_))))))
 ·refine cB [(0, .pointer (some ⟨g_v0, 0, none⟩)), (1, .int .i64 (v1))] ⟨rfl, rfl, trivial⟩ (aV rfl (aR (bS rfl rfl) ?_))
  rcases aK (decide (v1 < 1)) with h4 | h4
  ·have j3 := cdT h4 j3
   refine aW (aE rfl) h4 ?_
   iterate 6 refine aX rfl ?_
   refine aR (v := .bool (true)) (bH rfl rfl) ?_
   obtain rfl := si j3
   show At _ _ _ _ _ _
   exact n1 ⟨rfl, rfl, rfl, trivial⟩
  ·have j3 := cdF h4 j3
   refine aW (aE rfl) h4 (aS rfl (aE rfl) (aS rfl (p_nil rfl) (aS rfl (bP fa72_0 rfl rfl) (aU rfl (bB ty33 rfl aB rfl) (aS rfl (bK 5 cF rfl) (aS rfl (bT rfl rfl) (aR (bG rfl rfl) ?_)))))))
   obtain rfl := si j3
   show At _ _ _ _ _ _
   exact n1 ⟨rfl, rfl, rfl, trivial⟩
 refine cH H rfl (fun h5 H => ?_) (fun h5 H => ?_)
 ·refine sr (aH (v := .int .i64 (0)) rfl (nl (bI (rT (?_)))))
  obtain rfl := si H
  exact bk (.cons aA .nil)
 ·refine bA (nT (sr (aF rfl (aG (p_nil rfl) (aG (bP fa72_1 rfl rfl) (aI (bB ty3 rfl aB rfl) (gdo H fun h6 H => (aG (p_sub rfl rfl h6) (aH rfl (nl ?_))))))))))
  refine aD (sr (aF rfl (aF rfl (aG (p_nil rfl) (aG (bP fa72_0 rfl rfl) (aI (bB ty33 rfl aB rfl) (aG (bK 5 cF rfl) (aG (bS rfl rfl) (nl (cH H rfl (fun h7 H => ?_) (fun h7 H => ?_)))))))))))
  ·refine sr (aF rfl (aG (p_nil rfl) (aG (bP fa72_0 rfl rfl) (aI (bB ty33 rfl aB rfl) (aF rfl (gdo H fun h8 H => (aI (bM cF ty5 rfl rfl h8 rfl (aM (aL aQ))) (aI (bN (i := ((v0.2 + 1) - 1).toNat) (j := 0) ty5 rfl (aM (aL aQ)) h8.lt rfl) (aG (p_i8 cI cE rfl) ?_)))))))))
   refine aF rfl (gdo H fun h9 H => (gdo H fun h10 H => (aG (p_rem rfl rfl h9 h10) (aH rfl (nl (bI (rT (?_))))))))
   obtain rfl := si H
   exact back1 () rfl (ResV.tmp (v := .int .i64 (((nth v0.1 (((v0.2 + 1) - 1).toNat)).toNat : Int).tmod v1)) rfl) rfl bR (.cons aA .nil)
  ·refine bA (nT (aD (tLinS [(5, .int .i64 ((v0.2 + 1) - 1)), (0, .pointer (some ⟨g_v0, 0, none⟩)), (1, .int .i64 (v1))] mixed (.inr (by kernel_rfl)) ⟨rfl, rfl, rfl, trivial⟩ rfl (aV rfl (aR (p_nil rfl) (aR (bP fa72_0 rfl rfl) (aT (bB ty33 rfl aB rfl) (aV rfl (aV rfl (aR (p_nil rfl) ?_))))))))))
   refine aR (bP fa72_0 rfl rfl) (aT (bB ty33 rfl aB rfl) (aR (bK 5 cF rfl) (gdo H fun h11 H => (gdo H fun h12 H => (aR (p_rem rfl rfl h11 h12) (gdo H fun h13 H => (aT (bM cF ty5 rfl rfl h13 rfl (aM (aL aQ))) (aT (bN (i := (((v0.2 + 1) - 1).tmod (v0.1.length : Int)).toNat) (j := 0) ty5 rfl (aM (aL aQ)) h13.lt rfl) (aR (p_i8 cI cE rfl) ?_)))))))))
   refine gdo H fun h14 H => (aR (p_mul rfl rfl h14) (aV rfl (aR (p_nil rfl) (aR (bP fa72_0 rfl rfl) (aT (bB ty33 rfl aB rfl) (aV rfl (gdo H fun h15 H => (aR (p_mul rfl rfl h15) (gdo H fun h16 H => ?_)))))))))
   refine aR (bJ rfl rfl h16) (aV rfl (aR (p_nil rfl) (aR (bP fa72_0 rfl rfl) (aT (bB ty33 rfl aB rfl) (aR (bK 5 cF rfl) (gdo H fun h17 H => (aR (p_rem rfl rfl h11 h17) (gdo H fun h18 H => (aT (bM cF ty5 rfl rfl h18 rfl (aM (aL aQ))) ?_)))))))))
   refine aT (bN (i := (((((v0.2 + 1) - 1) * 7) + 3).tmod (v0.1.length : Int)).toNat) (j := 0) ty5 rfl (aM (aL aQ)) h18.lt rfl) (aR (p_i8 cI cE rfl) (gdo H fun h19 H => (aR (p_mul rfl rfl h19) (gdo H fun h20 H => (aR (bJ rfl rfl h20) (aV rfl (gdo H fun h21 H => (aR (p_mul rfl rfl h21) (gdo H fun h22 H => ?_)))))))))
   refine aR (bJ rfl rfl h22) (aV rfl (aV rfl (aR (p_nil rfl) (aR (bP fa72_0 rfl rfl) (aT (bB ty33 rfl aB rfl) (aR (bK 5 cF rfl) (gdo H fun h23 H => (aR (p_quo rfl rfl h11 h23) (gdo H fun h24 H => ?_)))))))))
   refine aR (p_mul rfl rfl h24) (gdo H fun h25 H => (aR (bJ rfl rfl h25) (aR (p_assign rfl) (nT (sr (aF rfl (aF rfl (gdo H fun h26 H => (aG (p_quo rfl rfl (by decide) h26) ?_)))))))))
   refine gdo H fun h27 H => (gdo H fun h28 H => (aG (v := .int .i64 (xr ((((((nth v0.1 ((((v0.2 + 1) - 1).tmod (v0.1.length : Int)).toNat)).toNat : Int) * 131) + (((nth v0.1 ((((((v0.2 + 1) - 1) * 7) + 3).tmod (v0.1.length : Int)).toNat)).toNat : Int) * 1117)) + (((v0.2 + 1) - 1) * 29)) + ((((v0.2 + 1) - 1).tdiv (v0.1.length : Int)) * 53)) (((((((nth v0.1 ((((v0.2 + 1) - 1).tmod (v0.1.length : Int)).toNat)).toNat : Int) * 131) + (((nth v0.1 ((((((v0.2 + 1) - 1) * 7) + 3).tmod (v0.1.length : Int)).toNat)).toNat : Int) * 1117)) + (((v0.2 + 1) - 1) * 29)) + ((((v0.2 + 1) - 1).tdiv (v0.1.length : Int)) * 53)).tdiv 64))) (p_xor rfl rfl h27 h28) (aH rfl (nl (sr (aF rfl (aF rfl (gdo H fun h29 H => (gdo H fun h30 H => (aG (p_rem rfl rfl h29 h30) ?_))))))))))
   refine aH rfl (nl (bI ?_))
   obtain rfl := si H
   exact back1 () rfl (ResV.tmp (v := .int .i64 ((xr ((((((nth v0.1 ((((v0.2 + 1) - 1).tmod (v0.1.length : Int)).toNat)).toNat : Int) * 131) + (((nth v0.1 ((((((v0.2 + 1) - 1) * 7) + 3).tmod (v0.1.length : Int)).toNat)).toNat : Int) * 1117)) + (((v0.2 + 1) - 1) * 29)) + ((((v0.2 + 1) - 1).tdiv (v0.1.length : Int)) * 53)) (((((((nth v0.1 ((((v0.2 + 1) - 1).tmod (v0.1.length : Int)).toNat)).toNat : Int) * 131) + (((nth v0.1 ((((((v0.2 + 1) - 1) * 7) + 3).tmod (v0.1.length : Int)).toNat)).toNat : Int) * 1117)) + (((v0.2 + 1) - 1) * 29)) + ((((v0.2 + 1) - 1).tdiv (v0.1.length : Int)) * 53)).tdiv 64)).tmod v1)) rfl) rfl bR (.cons aA .nil)
noncomputable def p_spec_l6Rd_of (v0 : L6Rd) (v1 : (List ByteArray)) : Option (ByteArray × Int) := bd (p_spec_l6Rd_pick v0 (v1.length : Int)) fun r1 => gd (ix r1.1 v1.length) <| some (nth v1 r1.1.toNat, r1.2)
theorem c_spec_l6Rd_of {r : ByteArray × Int} (g_v0 : Nat) (v0 : L6Rd) (x_v0 : (Option Addr × Nat) × Unit) (v1 : (List ByteArray)) (x_v1 : Option Addr × Nat) (H : p_spec_l6Rd_of v0 v1 = some r) : Fn' prog 42 #[.pointer (some ⟨g_v0, 0, none⟩), .slice x_v1.1 v1.length x_v1.2] [imm (.slice x_v0.1.1 v0.1.length x_v0.1.2) v0.1, imm (.slice x_v1.1 v1.length x_v1.2) v1] [box g_v0 72 [.slice x_v0.1.1 v0.1.length x_v0.1.2, .int .i64 (v0.2)]] (ι := Unit) (fun _ => .string (r.1)) (fun _ => []) (fun _ => [box g_v0 72 [.slice x_v0.1.1 v0.1.length x_v0.1.2, .int .i64 (r.2)]]) := by
 refine cof (args := [_, _]) func42 ntmps42 fun c => ?_
 unfold p_spec_l6Rd_of at H
 refine sr (aH (v := .string ((⟨#[]⟩ : ByteArray))) rfl (nl (sr (aF rfl (aF rfl (aF rfl (aG (bK 9 cG rfl) (bdo H fun r1 h2 H => (f1 (bQ (c_spec_l6Rd_pick g_v0 v0 (x_v0.1, ()) (v1.length : Int) h2) (Solo.box aZ) (fun _ => (Solo.box aZ)) rfl (.cons aA .nil) (aC (aL aQ) aN)) fun u3 => (gdo H fun h4 H => ?_))))))))))
 refine aI (bM cG ty9 rfl rfl h4 rfl (aM (aL aQ.s))) (aI (bN (i := r1.1.toNat) (j := 0) ty9 rfl (aM (aL aQ.s)) h4.lt rfl) (aH rfl (nl ?_)))
 obtain rfl := si H
 exact bI (bk (.cons aA .nil))
noncomputable def p_spec_l71Tag (v0 : L6Rd) : Option (Tag × Int) := bd (p_spec_l6Rd_of v0 ([(⟨#[97]⟩ : ByteArray), (⟨#[98]⟩ : ByteArray), (⟨#[99]⟩ : ByteArray)] : List ByteArray)) fun r4 => bd (p_spec_l6Rd_of (v0.1, r4.2) ([(⟨#[112]⟩ : ByteArray), (⟨#[113]⟩ : ByteArray), (⟨#[122]⟩ : ByteArray)] : List ByteArray)) fun r9 => some ((r4.1, r9.1), r9.2)
theorem c_spec_l71Tag {r : Tag × Int} (g_v0 : Nat) (v0 : L6Rd) (x_v0 : (Option Addr × Nat) × Unit) (H : p_spec_l71Tag v0 = some r) : Fn' prog 48 #[.pointer (some ⟨g_v0, 0, none⟩)] [imm (.slice x_v0.1.1 v0.1.length x_v0.1.2) v0.1] [box g_v0 72 [.slice x_v0.1.1 v0.1.length x_v0.1.2, .int .i64 (v0.2)]] (ι := Unit) (fun _ => .agg #[.string (r.1.1), .string (r.1.2)]) (fun _ => []) (fun _ => [box g_v0 72 [.slice x_v0.1.1 v0.1.length x_v0.1.2, .int .i64 (r.2)]]) := by
 refine cof (args := [_]) func48 ntmps48 fun c => ?_
 unfold p_spec_l71Tag at H
 refine sr (f1 (e_alloc ty44) fun g1 => (nl (sr (aF rfl (f2 (e_litT (α := ByteArray) (vs := [(0, .string ((⟨#[97]⟩ : ByteArray))), (1, .string ((⟨#[98]⟩ : ByteArray))), (2, .string ((⟨#[99]⟩ : ByteArray)))]) [(⟨#[97]⟩ : ByteArray), (⟨#[98]⟩ : ByteArray), (⟨#[99]⟩ : ByteArray)] rfl (fun _ => rfl) (fun _ _ => by repeat constructor) cG ty9 rfl (by decide) (by decide) (by kernel_rfl)) fun a2 c3 => (bdo H fun r4 h5 H => (f1 (bQ (c_spec_l6Rd_of g_v0 v0 (x_v0.1, ()) ([(⟨#[97]⟩ : ByteArray), (⟨#[98]⟩ : ByteArray), (⟨#[99]⟩ : ByteArray)] : List ByteArray) (a2, c3) h5) (Solo.box aZ) (fun _ => (Solo.box aZ)) rfl (.cons dl2 .nil) (aC (aL aQ) (aC (bE aB) aN))) fun u6 => (aF rfl (f2 (e_litT (α := ByteArray) (vs := [(0, .string ((⟨#[112]⟩ : ByteArray))), (1, .string ((⟨#[113]⟩ : ByteArray))), (2, .string ((⟨#[122]⟩ : ByteArray)))]) [(⟨#[112]⟩ : ByteArray), (⟨#[113]⟩ : ByteArray), (⟨#[122]⟩ : ByteArray)] rfl (fun _ => rfl) (fun _ _ => by repeat constructor) cG ty9 rfl (by decide) (by decide) (by kernel_rfl)) fun a7 c8 => ?_)))))))))
 refine bdo H fun r9 h10 H => (f1 (bQ (c_spec_l6Rd_of g_v0 (v0.1, r4.2) (x_v0.1, ()) ([(⟨#[112]⟩ : ByteArray), (⟨#[113]⟩ : ByteArray), (⟨#[122]⟩ : ByteArray)] : List ByteArray) (a7, c8) h10) (Solo.box aZ) (fun _ => (Solo.box aZ)) rfl (.cons dl1 .nil) (aC (aL aQ) (aC (bE aB) aN))) fun u11 => (aG (v := .agg #[.string (r4.1), .string (r9.1)]) (p_buildS (vs := [(0, .string (r4.1)), (1, .string (r9.1))]) (cs := #[.string (r4.1), .string (r9.1)]) ty44 pl44 rfl rfl) (stb (cs' := [.string (r4.1), .string (r9.1)]) ty44 up3 (nl (bI ?_)))))
 obtain rfl := si H
 exact back1 () rfl (ResV.agg ty44 rfl hs3 rfl) rfl bR (.cons aA .nil)
noncomputable def p_spec_l71Name_b0 (v0 : L6Rd) (Q9 : Int × (List Tag) × Int) : Option ((Int × (List Tag) × Int) ⊕ (Int × (List Tag))) := cond (decide (Q9.2.2 < (([(⟨#[97]⟩ : ByteArray), (⟨#[98]⟩ : ByteArray), (⟨#[99]⟩ : ByteArray)] : List ByteArray).length : Int))) (gd (ix Q9.2.2 ([(⟨#[97]⟩ : ByteArray), (⟨#[98]⟩ : ByteArray), (⟨#[99]⟩ : ByteArray)] : List ByteArray).length) <| bd (p_spec_l6Rd_pick (v0.1, Q9.1) 2) fun r19 => cond (decide (r19.1 = 0)) (bd (p_spec_l6Rd_of (v0.1, r19.2) ([(⟨#[112]⟩ : ByteArray), (⟨#[113]⟩ : ByteArray), (⟨#[122]⟩ : ByteArray)] : List ByteArray)) fun r25 => gd (room (Q9.2.1.length + 1)) <| gd (I64 (Q9.2.2 + 1)) <| some (.inl (r25.2, (Q9.2.1 ++ [((nth ([(⟨#[97]⟩ : ByteArray), (⟨#[98]⟩ : ByteArray), (⟨#[99]⟩ : ByteArray)] : List ByteArray) Q9.2.2.toNat), r25.1)]), Q9.2.2 + 1))) (gd (I64 (Q9.2.2 + 1)) <| some (.inl (r19.2, Q9.2.1, Q9.2.2 + 1)))) (some (.inr (Q9.1, Q9.2.1)))
noncomputable def p_spec_l71Name (v0 : L6Rd) : Option ((List Tag) × Int) := bd (lp (p_spec_l71Name_b0 v0) (v0.2, ([] : List Tag), 0)) fun x5 => cond (decide ((x5.2.length : Int) = 0)) (bd (p_spec_l71Tag (v0.1, x5.1)) fun r35 => gd (room (x5.2.length + 1)) <| bd (p_spec_l6Rd_pick (v0.1, r35.2) 40) fun r42 => cond (decide (r42.1 = 0)) (bd (p_spec_l71Tag (v0.1, r42.2)) fun r46 => gd (room ((x5.2 ++ [r35.1]).length + 1)) <| some ((x5.2 ++ [r35.1]) ++ [r46.1], r46.2)) (cond (decide (r42.1 = 1)) (gd (ix 0 (x5.2 ++ [r35.1]).length) <| bd (p_spec_l6Rd_of (v0.1, r42.2) ([(⟨#[]⟩ : ByteArray), (⟨#[111]⟩ : ByteArray), (⟨#[112, 112]⟩ : ByteArray)] : List ByteArray)) fun r58 => some ((x5.2 ++ [r35.1]).set 0 (((nth (x5.2 ++ [r35.1]) 0).1), r58.1), r58.2)) (some (x5.2 ++ [r35.1], r42.2)))) (bd (p_spec_l6Rd_pick (v0.1, x5.1) 40) fun r61 => cond (decide (r61.1 = 0)) (bd (p_spec_l71Tag (v0.1, r61.2)) fun r65 => gd (room (x5.2.length + 1)) <| some (x5.2 ++ [r65.1], r65.2)) (cond (decide (r61.1 = 1)) (gd (ix 0 x5.2.length) <| bd (p_spec_l6Rd_of (v0.1, r61.2) ([(⟨#[]⟩ : ByteArray), (⟨#[111]⟩ : ByteArray), (⟨#[112, 112]⟩ : ByteArray)] : List ByteArray)) fun r77 => some (x5.2.set 0 (((nth x5.2 0).1), r77.1), r77.2)) (some (x5.2, r61.2))))
theorem c_spec_l71Name {r : (List Tag) × Int} (g_v0 : Nat) (v0 : L6Rd) (x_v0 : (Option Addr × Nat) × Unit) (H : p_spec_l71Name v0 = some r) : Fn' prog 40 #[.pointer (some ⟨g_v0, 0, none⟩)] [imm (.slice x_v0.1.1 v0.1.length x_v0.1.2) v0.1] [box g_v0 72 [.slice x_v0.1.1 v0.1.length x_v0.1.2, .int .i64 (v0.2)]] (ι := Option Addr × Nat) (fun x => .slice x.1 r.1.length x.2) (fun _ => []) (fun x => [tree (.slice x.1 r.1.length x.2) r.1, box g_v0 72 [.slice x_v0.1.1 v0.1.length x_v0.1.2, .int .i64 (r.2)]]) := by
 refine cof (args := [_]) func40 ntmps40 fun c => ?_
 unfold p_spec_l71Name at H
 refine sr (aH (v := .slice none 0 0) rfl (nl (sr (f2 (e_lit0 Tag cC ty44) fun a1 c2 => (aH rfl (nl (aD (sr (f2 (e_litT (α := ByteArray) (vs := [(0, .string ((⟨#[97]⟩ : ByteArray))), (1, .string ((⟨#[98]⟩ : ByteArray))), (2, .string ((⟨#[99]⟩ : ByteArray)))]) [(⟨#[97]⟩ : ByteArray), (⟨#[98]⟩ : ByteArray), (⟨#[99]⟩ : ByteArray)] rfl (fun _ => rfl) (fun _ _ => by repeat constructor) cG ty9 rfl (by decide) (by decide) (by kernel_rfl)) fun a3 c4 => (aG (bK 9 cG rfl) (aF (v := .int .i64 (0)) rfl (nl (bdo H fun x5 hx6 H => ?_)))))))))))))
 refine tMidNC (ι := Option Addr × Nat) (fun ψ => [(0, .pointer (some ⟨g_v0, 0, none⟩)), (3, .slice ψ.1 x5.2.length ψ.2)]) (fun ψ => [box g_v0 72 [.slice x_v0.1.1 v0.1.length x_v0.1.2, .int .i64 (x5.1)], tree (.slice ψ.1 x5.2.length ψ.2) x5.2]) ?_ ?_
 ·refine aP (cA hx6 (a1, c2) (fun Q9 z10 => [(0, .pointer (some ⟨g_v0, 0, none⟩)), (3, .slice z10.1 Q9.2.1.length z10.2), (7, .slice a3 (([(⟨#[97]⟩ : ByteArray), (⟨#[98]⟩ : ByteArray), (⟨#[99]⟩ : ByteArray)] : List ByteArray).length) c4), (8, .int .i64 ((([(⟨#[97]⟩ : ByteArray), (⟨#[98]⟩ : ByteArray), (⟨#[99]⟩ : ByteArray)] : List ByteArray).length : Int))), (9, .int .i64 (Q9.2.2))]) (fun Q9 z10 => [box g_v0 72 [.slice x_v0.1.1 v0.1.length x_v0.1.2, .int .i64 (Q9.1)], tree (.slice z10.1 Q9.2.1.length z10.2) Q9.2.1, tree (.slice a3 (([(⟨#[97]⟩ : ByteArray), (⟨#[98]⟩ : ByteArray), (⟨#[99]⟩ : ByteArray)] : List ByteArray).length) c4) ([(⟨#[97]⟩ : ByteArray), (⟨#[98]⟩ : ByteArray), (⟨#[99]⟩ : ByteArray)] : List ByteArray)]) (.cons dl2 (.cons dl1 (.cons aA .nil))) ?_)
  rintro _ Q9 z10 t12 H1 hi13 hb14
  unfold p_spec_l71Name_b0 at H1
  refine sr (aG (bS rfl rfl) (nl (aD (cH H1 rfl (fun h17 H1 => ?_) (fun h17 H1 => ?_)))))
  ·refine bA (nT (aD (aP (sr (gdo H1 fun h18 H1 => (aI (q_ixO' cG ty9 rfl rfl h18 hs2) (aI (bN (i := Q9.2.2.toNat) (j := 0) ty9 rfl (aM (bE hs2)) h18.lt rfl) (aH rfl (nl (sr (aF rfl ?_)))))))))))
   refine bdo H1 fun r19 h20 H1 => (f1 (bQ (c_spec_l6Rd_pick g_v0 (v0.1, Q9.1) (x_v0.1, ()) 2 h20) (Solo.box aZ) (fun _ => (Solo.box aZ)) rfl (.cons aA .nil) (aC (aL aQ) aN)) fun u21 => (aG (bT rfl rfl) (nl (cH H1 rfl (fun h22 H1 => ?_) (fun h22 H1 => ?_)))))
   ·refine aO (aF rfl (aF rfl (aF rfl (f2 (e_litT (α := ByteArray) (vs := [(0, .string ((⟨#[112]⟩ : ByteArray))), (1, .string ((⟨#[113]⟩ : ByteArray))), (2, .string ((⟨#[122]⟩ : ByteArray)))]) [(⟨#[112]⟩ : ByteArray), (⟨#[113]⟩ : ByteArray), (⟨#[122]⟩ : ByteArray)] rfl (fun _ => rfl) (fun _ _ => by repeat constructor) cG ty9 rfl (by decide) (by decide) (by kernel_rfl)) fun a23 c24 => (bdo H1 fun r25 h26 H1 => (f1 (bQ (c_spec_l6Rd_of g_v0 (v0.1, r19.2) (x_v0.1, ()) ([(⟨#[112]⟩ : ByteArray), (⟨#[113]⟩ : ByteArray), (⟨#[122]⟩ : ByteArray)] : List ByteArray) (a23, c24) h26) (Solo.box aZ) (fun _ => (Solo.box aZ)) rfl (.cons dl1 .nil) (aC (aL aQ) (aC (bE aB) aN))) fun u27 => (aG (v := .agg #[.string (nth ([(⟨#[97]⟩ : ByteArray), (⟨#[98]⟩ : ByteArray), (⟨#[99]⟩ : ByteArray)] : List ByteArray) Q9.2.2.toNat), .string (r25.1)]) (p_buildS (vs := [(0, .string (nth ([(⟨#[97]⟩ : ByteArray), (⟨#[98]⟩ : ByteArray), (⟨#[99]⟩ : ByteArray)] : List ByteArray) Q9.2.2.toNat)), (1, .string (r25.1))]) (cs := #[.string (nth ([(⟨#[97]⟩ : ByteArray), (⟨#[98]⟩ : ByteArray), (⟨#[99]⟩ : ByteArray)] : List ByteArray) Q9.2.2.toNat), .string (r25.1)]) ty44 pl44 rfl rfl) (f1 (e_lit (vs := [(0, .agg #[.string (nth ([(⟨#[97]⟩ : ByteArray), (⟨#[98]⟩ : ByteArray), (⟨#[99]⟩ : ByteArray)] : List ByteArray) Q9.2.2.toNat), .string (r25.1)])]) [.string (nth ([(⟨#[97]⟩ : ByteArray), (⟨#[98]⟩ : ByteArray), (⟨#[99]⟩ : ByteArray)] : List ByteArray) Q9.2.2.toNat), .string (r25.1)] cC ty44 rfl (by decide) (by decide) (by kernel_rfl)) fun g28 => (gdo H1 fun h31 H1 => ?_)))))))))
    exact f2 (e_app1 (l := Q9.2.1) (α := Tag) ((nth ([(⟨#[97]⟩ : ByteArray), (⟨#[98]⟩ : ByteArray), (⟨#[99]⟩ : ByteArray)] : List ByteArray) Q9.2.2.toNat), r25.1) ((), ()) cC ty44 rfl rfl (h31.b (by decide)) h31.x rfl (bV _) (.cons dl3 (.cons aA .nil))) fun a29 c30 => (aH rfl (aJ (nB (nT (aO (gdo H1 fun h32 H1 => (aG (bJ rfl rfl h32) (aF rfl (aJ (nLI (a29, c30) (hi13 _ (sm H1)) (.cons dl1 (.cons aA (.cons dl1 .nil)))))))))))))
   ·exact bA (nB (nT (aO (gdo H1 fun h33 H1 => (aG (bJ rfl rfl h33) (aF rfl (aJ (nLI (z10.1, z10.2) (hi13 _ (sm H1)) (.cons aA (.cons aA (.cons aA .nil)))))))))))
  ·refine bY (xT (xT (xE (?_))))
   obtain rfl := hb14 _ (sm H1)
   exact nMC (z10.1, z10.2) ⟨rfl, rfl, trivial⟩ bL (.cons aA (.cons aA .nil))
 ·intro y11
  show At _ _ [(0, .pointer (some ⟨g_v0, 0, none⟩)), (3, .slice y11.1 x5.2.length y11.2)] _ [box g_v0 72 [.slice x_v0.1.1 v0.1.length x_v0.1.2, .int .i64 (x5.1)], tree (.slice y11.1 x5.2.length y11.2) x5.2] _
  refine nT (aD (sr (aF rfl (aG (bK 44 cC rfl) (aG (bT rfl rfl) (nl (cH H rfl (fun h34 H => ?_) (fun h34 H => ?_))))))))
  ·refine aO (aF rfl (aF rfl (bdo H fun r35 h36 H => (f1 (bQ (c_spec_l71Tag g_v0 (v0.1, x5.1) (x_v0.1, ()) h36) (Solo.box aZ) (fun _ => (Solo.box aZ)) rfl (.cons aA .nil) (aC (aL aQ) aN)) fun u37 => (f1 (e_lit (vs := [(0, .agg #[.string (r35.1.1), .string (r35.1.2)])]) [.string (r35.1.1), .string (r35.1.2)] cC ty44 rfl (by decide) (by decide) (by kernel_rfl)) fun g38 => (gdo H fun h41 H => (f2 (e_app1 (l := x5.2) (α := Tag) r35.1 ((), ()) cC ty44 rfl rfl (h41.b (by decide)) h41.x rfl (bV _) (.cons dl2 (.cons aA .nil))) fun a39 c40 => (aH rfl (nl (aD (sr ?_)))))))))))
   refine aF rfl (bdo H fun r42 h43 H => (f1 (bQ (c_spec_l6Rd_pick g_v0 (v0.1, r35.2) (x_v0.1, ()) 40 h43) (Solo.box aZ) (fun _ => (Solo.box aZ)) rfl (.cons dl1 .nil) (aC (aL aQ) aN)) fun u44 => (nl (aP (sr (aG (bT rfl rfl) (aH rfl (nl (cH H rfl (fun h45 H => ?_) (fun h45 H => ?_))))))))))
   ·refine sr (aF rfl (aF rfl (bdo H fun r46 h47 H => (f1 (bQ (c_spec_l71Tag g_v0 (v0.1, r42.2) (x_v0.1, ()) h47) (Solo.box aZ) (fun _ => (Solo.box aZ)) rfl (.cons aA .nil) (aC (aL aQ) aN)) fun u48 => (f1 (e_lit (vs := [(0, .agg #[.string (r46.1.1), .string (r46.1.2)])]) [.string (r46.1.1), .string (r46.1.2)] cC ty44 rfl (by decide) (by decide) (by kernel_rfl)) fun g49 => (gdo H fun h52 H => (f2 (e_app1 (l := (x5.2 ++ [r35.1])) (α := Tag) r46.1 ((), ()) cC ty44 rfl rfl (h52.b (by decide)) h52.x rfl (bV _) (.cons dl2 (.cons aA .nil))) fun a50 c51 => (aH rfl (nl (bI ?_))))))))))
    refine rB (rT (?_))
    obtain rfl := si H
    exact back1 (a50, c51) rfl (ResV.tmp (v := .slice a50 (((x5.2 ++ [r35.1]) ++ [r46.1]).length) c51) rfl) rfl bR (.cons aA (.cons aA .nil))
   ·refine sr (aG (bT rfl rfl) (aH rfl (nl (cH H rfl (fun h53 H => ?_) (fun h53 H => ?_)))))
    ·refine gdo H fun h54 H => (Tr.zoom (k := 0) h54.lt (.cons dl1 .nil) fun x55 => ?_)
     show Tr _ _ _ _ _ _ _ (hole (.slice a39 ((x5.2 ++ [r35.1]).length) c40) (x5.2 ++ [r35.1]) 0 [.string ((nth (x5.2 ++ [r35.1]) 0).1), .string ((nth (x5.2 ++ [r35.1]) 0).2)] :: _)
     refine aO (aF rfl (aF rfl (f2 (e_litT (α := ByteArray) (vs := [(0, .string ((⟨#[]⟩ : ByteArray))), (1, .string ((⟨#[111]⟩ : ByteArray))), (2, .string ((⟨#[112, 112]⟩ : ByteArray)))]) [(⟨#[]⟩ : ByteArray), (⟨#[111]⟩ : ByteArray), (⟨#[112, 112]⟩ : ByteArray)] rfl (fun _ => rfl) (fun _ _ => by repeat constructor) cG ty9 rfl (by decide) (by decide) (by kernel_rfl)) fun a56 c57 => (bdo H fun r58 h59 H => (f1 (bQ (c_spec_l6Rd_of g_v0 (v0.1, r42.2) (x_v0.1, ()) ([(⟨#[]⟩ : ByteArray), (⟨#[111]⟩ : ByteArray), (⟨#[112, 112]⟩ : ByteArray)] : List ByteArray) (a56, c57) h59) (Solo.box aZ) (fun _ => (Solo.box aZ)) rfl (.cons dl2 .nil) (aC (aL aQ) (aC (bE aB) aN))) fun u60 => (aI (v := elp a39 (0 * Enc.sz Tag + 0)) (q_ixH (k := 0) cC ty44 rfl rfl h54 rfl hs2) (aI (v := elp a39 (0 * Enc.sz Tag + 1)) (q_faH (j := 0) (i := 0) fa44_1 rfl hs2 rfl) (g0 (e_stH (v := .string (r58.1)) (i := 0) (j := 1) (cs' := [.string ((nth (x5.2 ++ [r35.1]) 0).1), .string (r58.1)]) ty9 rfl rfl (.cons dl2 .nil) rfl (by simp [Value.cells, Value.oneCell']) (Nat.le_of_ble_eq_true rfl) rfl rfl) (aJ ?_)))))))))
     refine nB (nT (sr (aF rfl (aH rfl (nl (Tr.unzoom (((nth (x5.2 ++ [r35.1]) 0).1), r58.1) ((), ()) rfl (.cons aA .nil) ?_))))))
     refine Tr.olen aB fun hn => ?_; rw [hn]
     refine bI ?_
     obtain rfl := si H
     exact back1 (a39, c40) rfl (ResV.tmp (v := .slice a39 (((x5.2 ++ [r35.1]).set 0 (((nth (x5.2 ++ [r35.1]) 0).1), r58.1)).length) c40) rfl) rfl bR (.cons aA (.cons aA .nil))
    ·refine bA (nB (nT (sr (aF rfl (aH rfl (nl (bI ?_)))))))
     obtain rfl := si H
     exact back1 (a39, c40) rfl (ResV.tmp (v := .slice a39 ((x5.2 ++ [r35.1]).length) c40) rfl) rfl bR (.cons dl1 (.cons aA .nil))
  ·refine bA (nT (aD (sr (aF rfl (bdo H fun r61 h62 H => (f1 (bQ (c_spec_l6Rd_pick g_v0 (v0.1, x5.1) (x_v0.1, ()) 40 h62) (Solo.box aZ) (fun _ => (Solo.box aZ)) rfl (.cons aA .nil) (aC (aL aQ) aN)) fun u63 => (nl (aP (sr (aG (bT rfl rfl) ?_))))))))))
   refine aH rfl (nl (cH H rfl (fun h64 H => ?_) (fun h64 H => ?_)))
   ·refine sr (aF rfl (aF rfl (bdo H fun r65 h66 H => (f1 (bQ (c_spec_l71Tag g_v0 (v0.1, r61.2) (x_v0.1, ()) h66) (Solo.box aZ) (fun _ => (Solo.box aZ)) rfl (.cons aA .nil) (aC (aL aQ) aN)) fun u67 => (f1 (e_lit (vs := [(0, .agg #[.string (r65.1.1), .string (r65.1.2)])]) [.string (r65.1.1), .string (r65.1.2)] cC ty44 rfl (by decide) (by decide) (by kernel_rfl)) fun g68 => (gdo H fun h71 H => (f2 (e_app1 (l := x5.2) (α := Tag) r65.1 ((), ()) cC ty44 rfl rfl (h71.b (by decide)) h71.x rfl (bV _) (.cons dl2 (.cons aA .nil))) fun a69 c70 => (aH rfl (nl (bI ?_))))))))))
    refine rB (rT (?_))
    obtain rfl := si H
    exact back1 (a69, c70) rfl (ResV.tmp (v := .slice a69 ((x5.2 ++ [r65.1]).length) c70) rfl) rfl bR (.cons aA (.cons aA .nil))
   ·refine sr (aG (bT rfl rfl) (aH rfl (nl (cH H rfl (fun h72 H => ?_) (fun h72 H => ?_)))))
    ·refine gdo H fun h73 H => (Tr.zoom (k := 0) h73.lt (.cons dl1 .nil) fun x74 => ?_)
     show Tr _ _ _ _ _ _ _ (hole (.slice y11.1 x5.2.length y11.2) x5.2 0 [.string ((nth x5.2 0).1), .string ((nth x5.2 0).2)] :: _)
     refine aO (aF rfl (aF rfl (f2 (e_litT (α := ByteArray) (vs := [(0, .string ((⟨#[]⟩ : ByteArray))), (1, .string ((⟨#[111]⟩ : ByteArray))), (2, .string ((⟨#[112, 112]⟩ : ByteArray)))]) [(⟨#[]⟩ : ByteArray), (⟨#[111]⟩ : ByteArray), (⟨#[112, 112]⟩ : ByteArray)] rfl (fun _ => rfl) (fun _ _ => by repeat constructor) cG ty9 rfl (by decide) (by decide) (by kernel_rfl)) fun a75 c76 => (bdo H fun r77 h78 H => (f1 (bQ (c_spec_l6Rd_of g_v0 (v0.1, r61.2) (x_v0.1, ()) ([(⟨#[]⟩ : ByteArray), (⟨#[111]⟩ : ByteArray), (⟨#[112, 112]⟩ : ByteArray)] : List ByteArray) (a75, c76) h78) (Solo.box aZ) (fun _ => (Solo.box aZ)) rfl (.cons dl2 .nil) (aC (aL aQ) (aC (bE aB) aN))) fun u79 => (aI (v := elp y11.1 (0 * Enc.sz Tag + 0)) (q_ixH (k := 0) cC ty44 rfl rfl h73 rfl hs2) (aI (v := elp y11.1 (0 * Enc.sz Tag + 1)) (q_faH (j := 0) (i := 0) fa44_1 rfl hs2 rfl) (g0 (e_stH (v := .string (r77.1)) (i := 0) (j := 1) (cs' := [.string ((nth x5.2 0).1), .string (r77.1)]) ty9 rfl rfl (.cons dl2 .nil) rfl (one_of rfl) (Nat.le_of_ble_eq_true rfl) rfl rfl) (aJ ?_)))))))))
     refine nB (nT (sr (aF rfl (aH rfl (nl (Tr.unzoom (((nth x5.2 0).1), r77.1) ((), ()) rfl (.cons aA .nil) ?_))))))
     refine Tr.olen aB fun hn => ?_; rw [hn]
     refine bI ?_
     obtain rfl := si H
     exact back1 y11 rfl (ResV.tmp (v := .slice y11.1 ((x5.2.set 0 (((nth x5.2 0).1), r77.1)).length) y11.2) rfl) rfl bR (.cons aA (.cons aA .nil))
    ·refine bA (nB (nT (sr (aF rfl (aH rfl (nl (bI ?_)))))))
     obtain rfl := si H
     exact back1 y11 rfl (ResV.tmp (v := .slice y11.1 x5.2.length y11.2) rfl) rfl bR (.cons dl1 (.cons aA .nil))
noncomputable def p_spec_l3Text_b0 (v0 : (List Tag)) (Q5 : ByteArray × Int) : Option ((ByteArray × Int) ⊕ (ByteArray)) := cond (decide (Q5.2 < (v0.length : Int))) (cond (decide (0 < Q5.2)) (gd (room (Q5.1.size + (⟨#[44]⟩ : ByteArray).size)) <| gd (ix Q5.2 v0.length) <| gd (room ((Q5.1 ++ (⟨#[44]⟩ : ByteArray)).size + ((nth v0 Q5.2.toNat).1).size)) <| gd (room (((Q5.1 ++ (⟨#[44]⟩ : ByteArray)) ++ ((nth v0 Q5.2.toNat).1)).size + (⟨#[61]⟩ : ByteArray).size)) <| gd (room ((((Q5.1 ++ (⟨#[44]⟩ : ByteArray)) ++ ((nth v0 Q5.2.toNat).1)) ++ (⟨#[61]⟩ : ByteArray)).size + ((nth v0 Q5.2.toNat).2).size)) <| gd (I64 (Q5.2 + 1)) <| some (.inl ((((Q5.1 ++ (⟨#[44]⟩ : ByteArray)) ++ ((nth v0 Q5.2.toNat).1)) ++ (⟨#[61]⟩ : ByteArray)) ++ ((nth v0 Q5.2.toNat).2), Q5.2 + 1))) (gd (ix Q5.2 v0.length) <| gd (room (Q5.1.size + ((nth v0 Q5.2.toNat).1).size)) <| gd (room ((Q5.1 ++ ((nth v0 Q5.2.toNat).1)).size + (⟨#[61]⟩ : ByteArray).size)) <| gd (room (((Q5.1 ++ ((nth v0 Q5.2.toNat).1)) ++ (⟨#[61]⟩ : ByteArray)).size + ((nth v0 Q5.2.toNat).2).size)) <| gd (I64 (Q5.2 + 1)) <| some (.inl (((Q5.1 ++ ((nth v0 Q5.2.toNat).1)) ++ (⟨#[61]⟩ : ByteArray)) ++ ((nth v0 Q5.2.toNat).2), Q5.2 + 1)))) (some (.inr Q5.1))
noncomputable def p_spec_l3Text (v0 : (List Tag)) : Option (ByteArray) := bd (lp (p_spec_l3Text_b0 v0) ((⟨#[]⟩ : ByteArray), 0)) fun x1 => some x1
theorem c_spec_l3Text {r : ByteArray} (v0 : (List Tag)) (x_v0 : Option Addr × Nat) (H : p_spec_l3Text v0 = some r) : Fn' prog 49 #[.slice x_v0.1 v0.length x_v0.2] [imm (.slice x_v0.1 v0.length x_v0.2) v0] [] (ι := Unit) (fun _ => .string (r)) (fun _ => []) (fun _ => []) := by
 refine cof (args := [_]) func49 ntmps49 fun c => ?_
 unfold p_spec_l3Text at H
 refine sr (aH (v := .string ((⟨#[]⟩ : ByteArray))) rfl (nl (sr (aH (v := .string ((⟨#[]⟩ : ByteArray))) rfl (nl (aD (sr (aH (v := .int .i64 (0)) rfl (nl (bdo H fun x1 hx2 H => (tMidNC (ι := Unit) (fun ψ => [(3, .string (x1))]) (fun ψ => []) ?_ ?_)))))))))))
 ·refine aP (cA hx2 () (fun Q5 _ => [(0, .slice x_v0.1 v0.length x_v0.2), (3, .string (Q5.1)), (4, .int .i64 (Q5.2))]) (fun _ _ => []) bD ?_)
  rintro _ Q5 z6 t8 H1 hi9 hb10
  unfold p_spec_l3Text_b0 at H1
  refine aD (sr (aF rfl (aF rfl (aG (bK 44 cC rfl) (aG (bS rfl rfl) (nl (cH H1 rfl (fun h13 H1 => ?_) (fun h13 H1 => ?_))))))))
  ·refine bA (nT (aD (aP (aD (sr (aF rfl (aG (p_gtr rfl rfl) (nl (cH H1 rfl (fun h14 H1 => ?_) (fun h14 H1 => ?_))))))))))
   ·refine aO (aF rfl (gdo H1 fun h15 H1 => (aG (p_cat rfl rfl h15) (aH rfl (nl (tNwL [(3, .string (Q5.1 ++ (⟨#[44]⟩ : ByteArray))), (0, .slice x_v0.1 v0.length x_v0.2), (4, .int .i64 (Q5.2))] 1 [0, 1, 2, 3, 4, 5, 6, 7, 8, 9, 10, 11, 12, 13] [] [] mixed rfl (by kernel_rfl) (by kernel_rfl) (by decide) List.nodup_nil ⟨rfl, rfl, rfl, trivial⟩ rfl okNil (w_p rfl (aE rfl) (w_p rfl (aE rfl) (w_p rfl (aE rfl) (gdo H1 fun h16 H1 => ?_))))))))))
    refine w_o rfl (fun F => (bM cC ty44 rfl rfl h16 rfl (aM (aL aQ)))) ?_
    refine w_o rfl (fun F => (q_faeE (j := 0) Q5.2.toNat fa44_0 rfl (aM (aL aQ)) h16.lt rfl)) ?_
    refine w_o rfl (fun F => (bN (i := Q5.2.toNat) (j := 0) ty9 rfl (aM (aL aQ)) h16.lt rfl)) (gdo H1 fun h17 H1 => (w_p rfl (p_cat rfl rfl h17) (gdo H1 fun h18 H1 => (w_p rfl (p_cat rfl rfl h18) (w_p rfl (aE rfl) (w_p rfl (aE rfl) ?_))))))
    refine w_o rfl (fun F => (bM cC ty44 rfl rfl h16 rfl (aM (aL aQ)))) ?_
    refine w_o rfl (fun F => (q_faeE (j := 0) Q5.2.toNat fa44_1 rfl (aM (aL aQ)) h16.lt rfl)) ?_
    refine w_o rfl (fun F => (bN (i := Q5.2.toNat) (j := 1) ty9 rfl (aM (aL aQ)) h16.lt rfl)) (gdo H1 fun h19 H1 => (w_p rfl (p_cat rfl rfl h19) (w_nil ?_)))
    show Rg _ _ _ _ _ _ _ _ _
    exact aH rfl (aJ (nB (nT (aO (aF rfl (gdo H1 fun h20 H1 => (aG (bJ rfl rfl h20) (aH rfl (aJ (nLI () (hi9 _ (sm H1)) bD))))))))))
   ·refine bA (nT (tNwL [(0, .slice x_v0.1 v0.length x_v0.2), (3, .string (Q5.1)), (4, .int .i64 (Q5.2))] 1 [0, 1, 2, 3, 4, 5, 6, 7, 8, 9, 10, 11, 12, 13] [] [] mixed rfl (by kernel_rfl) (by kernel_rfl) (by decide) List.nodup_nil ⟨rfl, rfl, rfl, trivial⟩ rfl okNil (w_p rfl (aE rfl) (w_p rfl (aE rfl) (w_p rfl (aE rfl) (gdo H1 fun h21 H1 => ?_))))))
    refine w_o rfl (fun F => (bM cC ty44 rfl rfl h21 rfl (aM (aL aQ)))) ?_
    refine w_o rfl (fun F => (q_faeE (j := 0) Q5.2.toNat fa44_0 rfl (aM (aL aQ)) h21.lt rfl)) ?_
    refine w_o rfl (fun F => (bN (i := Q5.2.toNat) (j := 0) ty9 rfl (aM (aL aQ)) h21.lt rfl)) (gdo H1 fun h22 H1 => (w_p rfl (p_cat rfl rfl h22) (gdo H1 fun h23 H1 => (w_p rfl (p_cat rfl rfl h23) (w_p rfl (aE rfl) (w_p rfl (aE rfl) ?_))))))
    refine w_o rfl (fun F => (bM cC ty44 rfl rfl h21 rfl (aM (aL aQ)))) ?_
    refine w_o rfl (fun F => (q_faeE (j := 0) Q5.2.toNat fa44_1 rfl (aM (aL aQ)) h21.lt rfl)) ?_
    refine w_o rfl (fun F => (bN (i := Q5.2.toNat) (j := 1) ty9 rfl (aM (aL aQ)) h21.lt rfl)) (gdo H1 fun h24 H1 => (w_p rfl (p_cat rfl rfl h24) (w_nil ?_)))
    show Rg _ _ _ _ _ _ _ _ _
    exact aH rfl (aJ (nB (nT (aO (aF rfl (gdo H1 fun h25 H1 => (aG (bJ rfl rfl h25) (aH rfl (aJ (nLI () (hi9 _ (sm H1)) bD))))))))))
  ·refine bY (xT (xT (xE (?_))))
   obtain rfl := hb10 _ (sm H1)
   exact nMC () ⟨rfl, trivial⟩ bL bD
 ·intro y7
  show At _ _ [(3, .string (x1))] _ [] _
  refine nT (sr (aF rfl (aH rfl (nl ?_))))
  obtain rfl := si H
  exact bI bk
noncomputable def p_spec_NameText (v0 : (List Tag)) : Option (ByteArray) := bd (p_spec_NameOk v0) fun r1 => cond (!r1) (some (⟨#[]⟩ : ByteArray)) (bd (p_spec_l3Text v0) fun r4 => some r4)
theorem c_spec_NameText {r : ByteArray} (v0 : (List Tag)) (x_v0 : Option Addr × Nat) (H : p_spec_NameText v0 = some r) : Fn' prog 28 #[.slice x_v0.1 v0.length x_v0.2] [imm (.slice x_v0.1 v0.length x_v0.2) v0] [] (ι := Unit) (fun _ => .string (r)) (fun _ => []) (fun _ => []) := by
 refine cof (args := [_]) func28 ntmps28 fun c => ?_
 unfold p_spec_NameText at H
 refine sr (aH (v := .string ((⟨#[]⟩ : ByteArray))) rfl (nl (aD (sr (aF rfl (bdo H fun r1 h2 H => (aI (bF (c_spec_NameOk v0 x_v0 h2) rfl (aC (aL aQ) aN)) (aG (p_not rfl) (nl (cH H rfl (fun h3 H => ?_) (fun h3 H => ?_)))))))))))
 ·refine sr (aH (v := .string ((⟨#[]⟩ : ByteArray))) rfl (nl (bI (rT (?_)))))
  obtain rfl := si H
  exact bk
 ·refine bA (nT (sr (aF rfl (bdo H fun r4 h5 H => (aI (bF (c_spec_l3Text v0 x_v0 h5) rfl (aC (aL aQ) aN)) (aH rfl (nl ?_)))))))
  obtain rfl := si H
  exact bI bk
noncomputable def p_laws_lyName_b0 (v0 : (List Tag)) (v1 : (List Tag)) (Q6 : Int) : Option ((Int) ⊕ (Unit ⊕ Bool)) := cond (decide (Q6 < (v0.length : Int))) (gd (ix Q6 v0.length) <| gd (ix Q6 v1.length) <| cond (!decide (nth v0 Q6.toNat = nth v1 Q6.toNat)) (some (.inr (.inr false))) (gd (I64 (Q6 + 1)) <| some (.inl (Q6 + 1)))) (some (.inr (.inl ())))
noncomputable def p_laws_lyName (v0 : (List Tag)) (v1 : (List Tag)) : Option (Bool) := cond (!decide ((v0.length : Int) = (v1.length : Int))) (some false) (bd (lp (p_laws_lyName_b0 v0 v1) 0) <| sw (fun _ => some true) (fun q => some q))
theorem c_laws_lyName {r : Bool} (v0 : (List Tag)) (x_v0 : Option Addr × Nat) (v1 : (List Tag)) (x_v1 : Option Addr × Nat) (H : p_laws_lyName v0 v1 = some r) : Fn' prog 19 #[.slice x_v0.1 v0.length x_v0.2, .slice x_v1.1 v1.length x_v1.2] [imm (.slice x_v0.1 v0.length x_v0.2) v0, imm (.slice x_v1.1 v1.length x_v1.2) v1] [] (ι := Unit) (fun _ => .bool (r)) (fun _ => []) (fun _ => []) := by
 refine cof (args := [_, _]) func19 ntmps19 fun c => ?_
 unfold p_laws_lyName at H
 refine sr (aH (v := .bool (false)) rfl (nl (aD (sr (aF rfl (aG (bK 44 cC rfl) (aF rfl (aG (bK 44 cC rfl) (aG (p_neq rfl rfl) (nl (cH H rfl (fun h1 H => ?_) (fun h1 H => ?_))))))))))))
 ·refine sr (aH (v := .bool (false)) rfl (nl (bI (rT (?_)))))
  obtain rfl := si H
  exact bk
 ·refine bA (nT (aD (sr (aH (v := .int .i64 (0)) rfl (nl (bdo H fun x2 hx3 H => (tMidI (Λ := Unit) H (fun _ _ => []) (fun _ _ => []) ?_ ?_)))))))
  ·refine aP (cA hx3 () (fun Q6 _ => [(0, .slice x_v0.1 v0.length x_v0.2), (1, .slice x_v1.1 v1.length x_v1.2), (5, .int .i64 (Q6))]) (fun _ _ => []) bD ?_)
   rintro _ Q6 z7 t9 H1 hi10 hb11
   unfold p_laws_lyName_b0 at H1
   refine aD (sr (aF rfl (aF rfl (aG (bK 44 cC rfl) (aG (bS rfl rfl) (nl (cH H1 rfl (fun h14 H1 => ?_) (fun h14 H1 => ?_))))))))
   ·refine bA (nT (aD (aP (aD (tLinS [(0, .slice x_v0.1 v0.length x_v0.2), (1, .slice x_v1.1 v1.length x_v1.2), (5, .int .i64 (Q6))] mixed (.inr (by kernel_rfl)) ⟨rfl, rfl, rfl, trivial⟩ rfl (aV rfl (aV rfl (gdo H1 fun h15 H1 => (aT (bM cC ty44 rfl rfl h15 rfl (aM (aL aQ))) (aT (v := .agg #[.string ((nth v0 Q6.toNat).1), .string ((nth v0 Q6.toNat).2)]) (bO (i := Q6.toNat) ty44 rfl (aM (aL aQ)) h15.lt) ?_))))))))))
    refine aV rfl (aV rfl (gdo H1 fun h16 H1 => (aT (bM cC ty44 rfl rfl h16 rfl (aM (aL aQ.s))) (aT (v := .agg #[.string ((nth v1 Q6.toNat).1), .string ((nth v1 Q6.toNat).2)]) (bO (i := Q6.toNat) ty44 rfl (aM (aL aQ.s)) h16.lt) (aR (v := .bool (!decide (nth v0 Q6.toNat = nth v1 Q6.toNat))) (p_aneq (a := nth v0 Q6.toNat) (b := nth v1 Q6.toNat) ae44 rfl rfl rfl rfl) (nT (cH H1 rfl (fun h17 H1 => ?_) (fun h17 H1 => ?_))))))))
    ·refine sr (aH (v := .bool (false)) rfl (nl (bI (rB (rT (rT (rB (rT (rT (?_))))))))))
     obtain rfl := hb11 _ (sm H1)
     replace H := sw.r H
     obtain rfl := si H
     exact bk
    ·exact bA (nB (nT (aO (aF rfl (gdo H1 fun h18 H1 => (aG (bJ rfl rfl h18) (aH rfl (aJ (nLI () (hi10 _ (sm H1)) bD)))))))))
   ·exact bY (xT (xT (xE (nMI () (hb11 _ (sm H1)) bD))))
  ·rintro e19 y8 H
   refine nT (sr (aH (v := .bool (true)) rfl (nl ?_)))
   obtain rfl := si H
   exact bI bk
noncomputable def p_spec_DrawNameText (v0 : (List UInt8)) : Option ((List Tag)) := bd (p_spec_l6Open v0) fun r1 => bd (p_spec_l71Name r1) fun r4 => some r4.1
theorem c_spec_DrawNameText {r : (List Tag)} (v0 : (List UInt8)) (x_v0 : Option Addr × Nat) (H : p_spec_DrawNameText v0 = some r) : Fn' prog 26 #[.slice x_v0.1 v0.length x_v0.2] [imm (.slice x_v0.1 v0.length x_v0.2) v0] [] (ι := Option Addr × Nat) (fun x => .slice x.1 r.length x.2) (fun _ => []) (fun x => [tree (.slice x.1 r.length x.2) r]) := by
 refine cof (args := [_]) func26 ntmps26 fun c => ?_
 unfold p_spec_DrawNameText at H
 refine sr (aH (v := .slice none 0 0) rfl (nl (sr (aF rfl (bdo H fun r1 h2 H => (f1 (e_call (c_spec_l6Open v0 x_v0 h2) rfl (Ents.cons aQ bR) bD) fun x3 => (bdo H fun r4 h5 H => (f1 (bQ (c_spec_l71Name x3.1 r1 (x3.2.1, ()) h5) (Solo.box aZ) (fun _ => (aY (Solo.box aZ))) rfl (.cons aA .nil) (aC (aL aQ) aN)) fun x6 => (aH rfl (nl (bI ?_)))))))))))
 obtain rfl := si H
 exact back1 x6 rfl (ResV.tmp (v := .slice x6.1 r4.1.length x6.2) rfl) rfl bR (.cons aA .nil)
noncomputable def p_spec_DrawNameOk (v0 : (List UInt8)) : Option ((List Tag)) := bd (p_spec_l6Open v0) fun r1 => bd (p_spec_l71Name r1) fun r4 => bd (p_spec_l6Rd_pick (r1.1, r4.2) 4) fun r7 => cond (decide (r7.1 = 0)) (bd (p_spec_l71Tag (r1.1, r7.2)) fun r11 => gd (room (r4.1.length + 1)) <| some (r4.1 ++ [r11.1])) (some r4.1)
theorem c_spec_DrawNameOk {r : (List Tag)} (v0 : (List UInt8)) (x_v0 : Option Addr × Nat) (H : p_spec_DrawNameOk v0 = some r) : Fn' prog 27 #[.slice x_v0.1 v0.length x_v0.2] [imm (.slice x_v0.1 v0.length x_v0.2) v0] [] (ι := Option Addr × Nat) (fun x => .slice x.1 r.length x.2) (fun _ => []) (fun x => [tree (.slice x.1 r.length x.2) r]) := by
 refine cof (args := [_]) func27 ntmps27 fun c => ?_
 unfold p_spec_DrawNameOk at H
 refine sr (aH (v := .slice none 0 0) rfl (nl (sr (aF rfl (bdo H fun r1 h2 H => (f1 (e_call (c_spec_l6Open v0 x_v0 h2) rfl (Ents.cons aQ bR) bD) fun x3 => (aH rfl (nl (sr (aF rfl (bdo H fun r4 h5 H => ?_)))))))))))
 refine f1 (bQ (c_spec_l71Name x3.1 r1 (x3.2.1, ()) h5) (Solo.box aZ) (fun _ => (aY (Solo.box aZ))) rfl (.cons aA .nil) (aC (aL aQ) aN)) fun x6 => (aH rfl (nl (aD (sr (aF rfl (bdo H fun r7 h8 H => (f1 (bQ (c_spec_l6Rd_pick x3.1 (r1.1, r4.2) (x3.2.1, ()) 4 h8) (Solo.box aZ) (fun _ => (Solo.box aZ)) rfl (.cons dl1 .nil) (aC (aL aQ) aN)) fun u9 => (aG (bT rfl rfl) (nl (cH H rfl (fun h10 H => ?_) (fun h10 H => ?_)))))))))))
 ·refine sr (aF rfl (aF rfl (bdo H fun r11 h12 H => (f1 (bQ (c_spec_l71Tag x3.1 (r1.1, r7.2) (x3.2.1, ()) h12) (Solo.box aZ) (fun _ => (Solo.box aZ)) rfl (.cons aA .nil) (aC (aL aQ) aN)) fun u13 => (f1 (e_lit (vs := [(0, .agg #[.string (r11.1.1), .string (r11.1.2)])]) [.string (r11.1.1), .string (r11.1.2)] cC ty44 rfl (by decide) (by decide) (by kernel_rfl)) fun g14 => (gdo H fun h17 H => (f2 (e_app1 (l := r4.1) (α := Tag) r11.1 ((), ()) cC ty44 rfl rfl (h17.b (by decide)) h17.x rfl (bV _) (.cons dl2 (.cons aA .nil))) fun a15 c16 => (aH rfl (nl (bI ?_))))))))))
  refine rT (?_)
  obtain rfl := si H
  exact back1 (a15, c16) rfl (ResV.tmp (v := .slice a15 ((r4.1 ++ [r11.1]).length) c16) rfl) rfl bR (.cons aA .nil)
 ·refine bA (nT (sr (aF rfl (aH rfl (nl (bI ?_))))))
  obtain rfl := si H
  exact back1 x6 rfl (ResV.tmp (v := .slice x6.1 r4.1.length x6.2) rfl) rfl bR (.cons dl1 .nil)
noncomputable def p_slices_Index_Tag_Tag_b0 (v0 : (List Tag)) (v1 : Tag) (Q6 : Int) : Option ((Int) ⊕ (Unit ⊕ Int)) := cond (decide (Q6 < (v0.length : Int))) (gd (ix Q6 v0.length) <| cond (decide (v1 = nth v0 Q6.toNat)) (some (.inr (.inr Q6))) (gd (I64 (Q6 + 1)) <| some (.inl (Q6 + 1)))) (some (.inr (.inl ())))
noncomputable def p_slices_Index_Tag_Tag (v0 : (List Tag)) (v1 : Tag) : Option (Int) := bd (lp (p_slices_Index_Tag_Tag_b0 v0 v1) 0) <| sw (fun _ => some (-1)) (fun q => some q)
theorem c_slices_Index_Tag_Tag {r : Int} (v0 : (List Tag)) (x_v0 : Option Addr × Nat) (v1 : Tag) (H : p_slices_Index_Tag_Tag v0 v1 = some r) : Fn' prog 60 #[.slice x_v0.1 v0.length x_v0.2, .agg #[.string (v1.1), .string (v1.2)]] [imm (.slice x_v0.1 v0.length x_v0.2) v0] [] (ι := Unit) (fun _ => .int .i64 (r)) (fun _ => []) (fun _ => []) := by
 refine cof (args := [_, _]) func60 ntmps60 fun c => ?_
 unfold p_slices_Index_Tag_Tag at H
 refine sr (f1 (e_box (t := 44) rfl) fun g1 => (aH (v := .int .i64 (0)) rfl (nl (aD (sr (aF rfl (aG (bK 44 cC rfl) (aF (v := .int .i64 (0)) rfl (nl (bdo H fun x2 hx3 H => (tMidI (Λ := Unit) H (fun _ _ => []) (fun _ _ => []) ?_ ?_)))))))))))
 ·refine aP (cA hx3 () (fun Q6 _ => [(0, .slice x_v0.1 v0.length x_v0.2), (3, .pointer (some ⟨g1, 0, none⟩)), (7, .int .i64 ((v0.length : Int))), (8, .int .i64 (Q6))]) (fun _ _ => [box g1 44 [.string (v1.1), .string (v1.2)]]) (.cons aA .nil) ?_)
  rintro _ Q6 z7 t9 H1 hi10 hb11
  unfold p_slices_Index_Tag_Tag_b0 at H1
  refine sr (aG (bS rfl rfl) (nl (aD (cH H1 rfl (fun h14 H1 => ?_) (fun h14 H1 => ?_)))))
  ·refine bA (nT (aD (aP (sr (aF rfl (aH rfl (nl (aD (tLinS [(5, .int .i64 (Q6)), (0, .slice x_v0.1 v0.length x_v0.2), (3, .pointer (some ⟨g1, 0, none⟩)), (7, .int .i64 ((v0.length : Int))), (8, .int .i64 (Q6))] mixed (.inr (by kernel_rfl)) ⟨rfl, rfl, rfl, rfl, rfl, trivial⟩ rfl (aT (q_ldbA ty44 rfl aB rfl) (aV rfl ?_)))))))))))
   refine aV rfl (gdo H1 fun h15 H1 => (aT (bM cC ty44 rfl rfl h15 rfl (aM (aL aQ))) (aT (v := .agg #[.string ((nth v0 Q6.toNat).1), .string ((nth v0 Q6.toNat).2)]) (bO (i := Q6.toNat) ty44 rfl (aM (aL aQ)) h15.lt) (aR (v := .bool (decide (v1 = nth v0 Q6.toNat))) (p_aeql (a := v1) (b := nth v0 Q6.toNat) ae44 rfl rfl rfl rfl) (nT (cH H1 rfl (fun h16 H1 => ?_) (fun h16 H1 => ?_)))))))
   ·refine sr (aF rfl (aH rfl (nl (bI (rB (rT (rT (rB (rT (rT (?_)))))))))))
    obtain rfl := hb11 _ (sm H1)
    replace H := sw.r H
    obtain rfl := si H
    exact bk
   ·exact bA (nB (nT (aO (gdo H1 fun h17 H1 => (aG (bJ rfl rfl h17) (aF rfl (aJ (nLI () (hi10 _ (sm H1)) (.cons aA .nil)))))))))
  ·exact bY (xT (xT (xE (nMI () (hb11 _ (sm H1)) bD))))
 ·rintro e18 y8 H
  refine nT (sr (aH (v := .int .i64 (-1)) rfl (nl ?_)))
  obtain rfl := si H
  exact bI bk
noncomputable def p_slices_Contains_Tag_Tag (v0 : (List Tag)) (v1 : Tag) : Option (Bool) := bd (p_slices_Index_Tag_Tag v0 v1) fun r2 => some (decide (0 ≤ r2))
theorem c_slices_Contains_Tag_Tag {r : Bool} (v0 : (List Tag)) (x_v0 : Option Addr × Nat) (v1 : Tag) (H : p_slices_Contains_Tag_Tag v0 v1 = some r) : Fn' prog 50 #[.slice x_v0.1 v0.length x_v0.2, .agg #[.string (v1.1), .string (v1.2)]] [imm (.slice x_v0.1 v0.length x_v0.2) v0] [] (ι := Unit) (fun _ => .bool (r)) (fun _ => []) (fun _ => []) := by
 refine cof (args := [_, _]) func50 ntmps50 fun c => ?_
 unfold p_slices_Contains_Tag_Tag at H
 refine sr (f1 (e_box (t := 44) rfl) fun g1 => (aH (v := .bool (false)) rfl (nl (sr (aF rfl (aI (q_ldbA ty44 rfl aB rfl) (bdo H fun r2 h3 H => (aI (bF (c_slices_Index_Tag_Tag v0 x_v0 v1 h3) rfl (aC (aL aQ) aN)) (aG (p_geq rfl rfl) (aH rfl (nl ?_)))))))))))
 obtain rfl := si H
 exact bI bk
noncomputable def p_impl_FilterFits_b0 (v0 : (List Cond)) (v1 : (List Tag)) (Q13 : Int) : Option ((Int) ⊕ (Unit ⊕ Bool)) := cond (decide (Q13 < (v0.length : Int))) (gd (ix Q13 v0.length) <| bd (p_slices_Contains_Tag_Tag v1 ((nth v0 Q13.toNat).1)) fun r24 => cond (decide (r24 = ((nth v0 Q13.toNat).2))) (some (.inr (.inr false))) (gd (I64 (Q13 + 1)) <| some (.inl (Q13 + 1)))) (some (.inr (.inl ())))
noncomputable def p_impl_FilterFits (v0 : (List Cond)) (v1 : (List Tag)) : Option (Bool) := bd (bd (p_impl_FilterOk v0) fun r3 => cond (!r3) (some (true)) (bd (p_impl_NameOk v1) fun r6 => some (!r6))) fun b1 => cond (b1) (some false) (bd (lp (p_impl_FilterFits_b0 v0 v1) 0) <| sw (fun _ => some true) (fun q => some q))
theorem c_impl_FilterFits {r : Bool} (v0 : (List Cond)) (x_v0 : Option Addr × Nat) (v1 : (List Tag)) (x_v1 : Option Addr × Nat) (H : p_impl_FilterFits v0 v1 = some r) : Fn' prog 29 #[.slice x_v0.1 v0.length x_v0.2, .slice x_v1.1 v1.length x_v1.2] [imm (.slice x_v0.1 v0.length x_v0.2) v0, imm (.slice x_v1.1 v1.length x_v1.2) v1] [] (ι := Unit) (fun _ => .bool (r)) (fun _ => []) (fun _ => []) := by
 refine cof (args := [_, _]) func29 ntmps29 fun c => ?_
 unfold p_impl_FilterFits at H
 refine sr (aH (v := .bool (false)) rfl (nl (aD (bdo H fun b1 j2 H => (bZ [(14, .bool (b1)), (0, .slice x_v0.1 v0.length x_v0.2), (1, .slice x_v1.1 v1.length x_v1.2)] ?_ ?_)))))
 ·refine cB [(0, .slice x_v0.1 v0.length x_v0.2), (1, .slice x_v1.1 v1.length x_v1.2)] ⟨rfl, rfl, trivial⟩ (aV rfl (bdo j2 fun r3 h4 j2 => (aT (bF (c_impl_FilterOk v0 x_v0 h4) rfl (aC (aL aQ) aN)) (aR (p_not rfl) ?_))))
  rcases aK (!r3) with h5 | h5
  ·have j2 := cdT h5 j2
   refine aW (aE rfl) h5 ?_
   iterate 3 refine aX rfl ?_
   refine aR (v := .bool (true)) (bH rfl rfl) ?_
   obtain rfl := si j2
   show At _ _ _ _ _ _
   exact n1 ⟨rfl, rfl, rfl, trivial⟩
  ·have j2 := cdF h5 j2
   refine aW (aE rfl) h5 (aS rfl (aE rfl) (bdo j2 fun r6 h7 j2 => (aU rfl (bF (c_impl_NameOk v1 x_v1 h7) rfl (aC (aL aQ.s) aN)) (aS rfl (p_not rfl) (aR (bG rfl rfl) ?_)))))
   obtain rfl := si j2
   show At _ _ _ _ _ _
   exact n1 ⟨rfl, rfl, rfl, trivial⟩
 refine cH H rfl (fun h8 H => ?_) (fun h8 H => ?_)
 ·refine sr (aH (v := .bool (false)) rfl (nl (bI (rT (?_)))))
  obtain rfl := si H
  exact bk
 ·refine bA (nT (aD (sr (aF rfl (aG (bK 46 cD rfl) (aF (v := .int .i64 (0)) rfl (nl (bdo H fun x9 hx10 H => (tMidI (Λ := Unit) H (fun _ _ => []) (fun _ _ => []) ?_ ?_)))))))))
  ·refine aP (cA hx10 () (fun Q13 _ => [(1, .slice x_v1.1 v1.length x_v1.2), (15, .slice x_v0.1 v0.length x_v0.2), (16, .int .i64 ((v0.length : Int))), (17, .int .i64 (Q13))]) (fun _ _ => []) bD ?_)
   rintro _ Q13 z14 t16 H1 hi17 hb18
   unfold p_impl_FilterFits_b0 at H1
   refine sr (aG (bS rfl rfl) (nl (aD (cH H1 rfl (fun h21 H1 => ?_) (fun h21 H1 => ?_)))))
   ·refine bA (nT (aD (aP (sr (gdo H1 fun h22 H1 => (aI (bM cD ty46 rfl rfl h22 rfl (aM (aL aQ))) (aI (v := .agg #[.string (((nth v0 Q13.toNat).1).1), .string (((nth v0 Q13.toNat).1).2), .bool ((nth v0 Q13.toNat).2)]) (bO (i := Q13.toNat) ty46 rfl (aM (aL aQ)) h22.lt) (f1 (e_alloc ty46) fun g23 => (stb (cs' := [.string (((nth v0 Q13.toNat).1).1), .string (((nth v0 Q13.toNat).1).2), .bool ((nth v0 Q13.toNat).2)]) ty46 bW (nl ?_))))))))))
    refine aD (tLinS [(6, .pointer (some ⟨g23, 0, none⟩)), (1, .slice x_v1.1 v1.length x_v1.2), (15, .slice x_v0.1 v0.length x_v0.2), (16, .int .i64 ((v0.length : Int))), (17, .int .i64 (Q13))] mixed (.inr (by kernel_rfl)) ⟨rfl, rfl, rfl, rfl, rfl, trivial⟩ rfl (aV rfl (aR (bP fa46_0 rfl rfl) (aT (v := .agg #[.string (((nth v0 Q13.toNat).1).1), .string (((nth v0 Q13.toNat).1).2)]) (q_ldbP [.string (((nth v0 Q13.toNat).1).1), .string (((nth v0 Q13.toNat).1).2)] ty44 rfl aB rfl rfl) (bdo H1 fun r24 h25 H1 => (aT (bF (c_slices_Contains_Tag_Tag v1 x_v1 ((nth v0 Q13.toNat).1) h25) rfl (aC (aL aQ.s) aN)) (aR (bP fa46_1 rfl rfl) (aT (bB ty4 rfl aB rfl) (aR (p_beql underlying4 rfl rfl) ?_)))))))))
    refine nT (cH H1 rfl (fun h26 H1 => ?_) (fun h26 H1 => ?_))
    ·refine sr (aH (v := .bool (false)) rfl (nl (bI (rB (rT (rT (rB (rT (rT (?_))))))))))
     obtain rfl := hb18 _ (sm H1)
     replace H := sw.r H
     obtain rfl := si H
     exact bk
    ·exact bA (nB (nT (aO (gdo H1 fun h27 H1 => (aG (bJ rfl rfl h27) (aF rfl (aJ (nLI () (hi17 _ (sm H1)) bD))))))))
   ·exact bY (xT (xT (xE (nMI () (hb18 _ (sm H1)) bD))))
  ·rintro e28 y15 H
   refine nT (sr (aH (v := .bool (true)) rfl (nl ?_)))
   obtain rfl := si H
   exact bI bk
noncomputable def p_laws_FnNameOne (v0 : (List UInt8)) (v1 : (List UInt8)) : Option (Bool) := bd (cond (decide (1048576 < (v0.length : Int))) (some (true)) (some (decide (1048576 < (v1.length : Int))))) fun b1 => cond (b1) (some true) (bd (p_spec_DrawNameText v0) fun r5 => bd (p_spec_DrawNameOk v1) fun r8 => bd (p_impl_NameText r5) fun r11 => bd (p_impl_NameText r8) fun r13 => bd (bd (p_spec_NameText r5) fun r17 => cond (!decide (r11 = r17)) (some (true)) (cond (decide (r11 = (⟨#[]⟩ : ByteArray))) (some (true)) (some (decide (r13 = (⟨#[]⟩ : ByteArray)))))) fun b15 => cond (b15) (bd (p_spec_NameText r5) fun r22 => some (decide (r11 = r22))) (bd (p_impl_FilterRead r11) fun r24 => bd (bd (p_laws_lyName r5 r8) fun r29 => cond (decide ((decide (r11 = r13)) = r29)) (cond (r24.2) (bd (p_impl_FilterFits r24.1 r5) fun r33 => some (r33)) (some (false))) (some (false))) fun b27 => some b27))
theorem c_laws_FnNameOne {r : Bool} (v0 : (List UInt8)) (x_v0 : Option Addr × Nat) (v1 : (List UInt8)) (x_v1 : Option Addr × Nat) (H : p_laws_FnNameOne v0 v1 = some r) : FnL' True prog 7 #[.slice x_v0.1 v0.length x_v0.2, .slice x_v1.1 v1.length x_v1.2] [imm (.slice x_v0.1 v0.length x_v0.2) v0, imm (.slice x_v1.1 v1.length x_v1.2) v1] [] (ι := Unit) (fun _ => .bool (r)) (fun _ => []) (fun _ => []) := by
 refine calls_ofX (args := [_, _]) func7 rfl (by kernel_rfl) ntmps7 (by simp) fun c hL => ?_
 unfold p_laws_FnNameOne at H
 refine sr (aH (v := .bool (false)) rfl (nl (aD (bdo H fun b1 j2 H => (bZ [(18, .bool (b1)), (0, .slice x_v0.1 v0.length x_v0.2), (1, .slice x_v1.1 v1.length x_v1.2)] ?_ ?_)))))
 ·refine cB [(0, .slice x_v0.1 v0.length x_v0.2), (1, .slice x_v1.1 v1.length x_v1.2)] ⟨rfl, rfl, trivial⟩ (aV rfl (aR (bK 5 cF rfl) (aR (p_gtr rfl rfl) ?_)))
  rcases aK (decide (1048576 < (v0.length : Int))) with h3 | h3
  ·have j2 := cdT h3 j2
   refine aW (aE rfl) h3 ?_
   iterate 3 refine aX rfl ?_
   refine aR (v := .bool (true)) (bH rfl rfl) ?_
   obtain rfl := si j2
   show At _ _ _ _ _ _
   exact n1 ⟨rfl, rfl, rfl, trivial⟩
  ·have j2 := cdF h3 j2
   refine aW (aE rfl) h3 (aS rfl (aE rfl) (aS rfl (bK 5 cF rfl) (aS rfl (p_gtr rfl rfl) (aR (bG rfl rfl) ?_))))
   obtain rfl := si j2
   show At _ _ _ _ _ _
   exact n1 ⟨rfl, rfl, rfl, trivial⟩
 refine cH H rfl (fun h4 H => ?_) (fun h4 H => ?_)
 ·refine sr (aH (v := .bool (true)) rfl (nl (bI (rT (?_)))))
  obtain rfl := si H
  exact bk
 ·refine bA (nT (sr (aF rfl (bdo H fun r5 h6 H => (f1 (e_callB (c_spec_DrawNameText v0 x_v0 h6) (fun _ => (aY aZ)) rfl (aC (aL aQ) aN)) fun x7 => (aH rfl (nl (sr (aF rfl (bdo H fun r8 h9 H => ?_))))))))))
  refine f1 (e_callB (c_spec_DrawNameOk v1 x_v1 h9) (fun _ => (aY aZ)) rfl (aC (aL aQ.s) aN)) fun x10 => (aH rfl (nl (sr (aF rfl (bdo H fun r11 h12 H => (aI (bF (c_impl_NameText r5 x7 h12) rfl (aC (bE hs1) aN) hL) (aH rfl (nl (sr (aF rfl (bdo H fun r13 h14 H => ?_)))))))))))
  refine aI (bF (c_impl_NameText r8 x10 h14) rfl (aC (bE aB) aN) hL) (aH rfl (nl (aD (bdo H fun b15 j16 H => (bZ [(38, .bool (b15)), (8, .string (r13)), (7, .string (r11)), (6, .slice x10.1 r8.length x10.2), (5, .slice x7.1 r5.length x7.2)] ?_ ?_)))))
  ·refine cB [(8, .string (r13)), (7, .string (r11)), (6, .slice x10.1 r8.length x10.2), (5, .slice x7.1 r5.length x7.2)] ⟨rfl, rfl, rfl, rfl, trivial⟩ (aV rfl (aV rfl (bdo j16 fun r17 h18 j16 => (aT (bF (c_spec_NameText r5 x7 h18) rfl (aC (bE hs1) aN)) (aR (p_sneq rfl rfl) ?_)))))
   rcases aK (!decide (r11 = r17)) with h19 | h19
   ·have j16 := cdT h19 j16
    refine aW (aE rfl) h19 ?_
    iterate 2 refine aX rfl ?_
    refine aR (v := .bool (true)) (bH rfl rfl) (aV (v := .bool (true)) rfl ?_)
    iterate 2 refine aX rfl ?_
    refine aR (v := .bool (true)) (bH rfl rfl) ?_
    obtain rfl := si j16
    show At _ _ _ _ _ _
    exact n1 ⟨rfl, rfl, rfl, rfl, rfl, trivial⟩
   ·have j16 := cdF h19 j16
    refine aW (aE rfl) h19 (aS rfl (aE rfl) (aS rfl (bU rfl rfl) (aR (bG rfl rfl) ?_)))
    rcases aK (decide (r11 = (⟨#[]⟩ : ByteArray))) with h20 | h20
    ·have j16 := cdT h20 j16
     refine aW (aE rfl) h20 ?_
     iterate 2 refine aX rfl ?_
     refine aR (v := .bool (true)) (bH rfl rfl) ?_
     obtain rfl := si j16
     show At _ _ _ _ _ _
     exact n1 ⟨rfl, rfl, rfl, rfl, rfl, trivial⟩
    ·have j16 := cdF h20 j16
     refine aW (aE rfl) h20 (aS rfl (aE rfl) (aS rfl (bU rfl rfl) (aR (bG rfl rfl) ?_)))
     obtain rfl := si j16
     show At _ _ _ _ _ _
     exact n1 ⟨rfl, rfl, rfl, rfl, rfl, trivial⟩
  refine cH H rfl (fun h21 H => ?_) (fun h21 H => ?_)
  ·refine sr (aF rfl (aF rfl (bdo H fun r22 h23 H => (aI (bF (c_spec_NameText r5 x7 h23) rfl (aC (bE hs1) aN)) (aG (bU rfl rfl) (aH rfl (nl (bI (rT (?_))))))))))
   obtain rfl := si H
   exact bk
  ·refine bA (nT (sr (aF rfl (bdo H fun r24 h25 H => (f1 (e_callB (c_impl_FilterRead r11 h25) (fun _ => (aY aZ)) rfl aN hL) fun x26 => (aF rfl (aG (bX rfl rfl) (aG (bX rfl rfl) (aH rfl ?_)))))))))
   refine aH rfl (nl (bdo H fun b27 j28 H => (bZ [(4, .bool (b27))] ?_ ?_)))
   ·refine cB [(10, .bool (r24.2)), (9, .slice x26.1.1 r24.1.length x26.1.2), (8, .string (r13)), (7, .string (r11)), (6, .slice x10.1 r8.length x10.2), (5, .slice x7.1 r5.length x7.2)] ⟨rfl, rfl, rfl, rfl, rfl, rfl, trivial⟩ (aV rfl (aV rfl (aR (bU rfl rfl) (aV rfl (aV rfl (bdo j28 fun r29 h30 j28 => (aT (bF (c_laws_lyName r5 x7 r8 x10 h30) rfl (aC (bE hs2) (aC (bE hs1) aN))) (aR (p_beql underlying4 rfl rfl) ?_))))))))
    rcases aK (decide ((decide (r11 = r13)) = r29)) with h31 | h31
    ·have j28 := cdT h31 j28
     refine aW (aE rfl) h31 (aS rfl (aE rfl) (aR (bH rfl rfl) ?_))
     rcases aK (r24.2) with h32 | h32
     ·have j28 := cdT h32 j28
      refine aW (aE rfl) h32 (aS rfl (aE rfl) (aS rfl (aE rfl) (bdo j28 fun r33 h34 j28 => (aU rfl (bF (c_impl_FilterFits r24.1 x26.1 r5 x7 h34) rfl (aC (bE aB) (aC (bE hs2) aN))) (aR (bH rfl rfl) (aR (p_assign rfl) ?_))))))
      obtain rfl := si j28
      show At _ _ _ _ _ _
      exact n1 ⟨rfl, trivial⟩
     ·have j28 := cdF h32 j28
      refine aW (aE rfl) h32 ?_
      iterate 3 refine aX rfl ?_
      refine aR (v := .bool (false)) (bG rfl rfl) (aR (v := .bool (false)) (p_assign rfl) ?_)
      obtain rfl := si j28
      show At _ _ _ _ _ _
      exact n1 ⟨rfl, trivial⟩
    ·have j28 := cdF h31 j28
     refine aW (aE rfl) h31 (aX rfl (aR (v := .bool (false)) (bG rfl rfl) (aV (v := .bool (false)) rfl ?_)))
     iterate 3 refine aX rfl ?_
     refine aR (v := .bool (false)) (bG rfl rfl) (aR (v := .bool (false)) (p_assign rfl) ?_)
     obtain rfl := si j28
     show At _ _ _ _ _ _
     exact n1 ⟨rfl, trivial⟩
   obtain rfl := si H
   exact bI bk
def inn (lo n hi : Int) : Bool := decide (lo ≤ n) && decide (n ≤ hi)
theorem e_impl_within (n lo hi : Int) : p_impl_within n lo hi = some (inn lo n hi) := by
 unfold p_impl_within inn; cases decide (lo ≤ n) <;> rfl
theorem e_spec_l6In (n lo hi : Int) : p_spec_l6In n lo hi = some (inn lo n hi) := by
 unfold p_spec_l6In inn; cases decide (lo ≤ n) <;> rfl
theorem tmod_rng {a n : Int} (ha : 0 ≤ a) (hn : 0 < n) : 0 ≤ a.tmod n ∧ a.tmod n < n := ⟨Int.tmod_nonneg n ha, Int.tmod_lt_of_pos a hn⟩
theorem tdiv_rng {a n : Int} (ha : 0 ≤ a) (hn : 0 < n) : 0 ≤ a.tdiv n ∧ a.tdiv n ≤ a := by
 rw [Int.tdiv_eq_ediv_of_nonneg ha]
 exact ⟨Int.ediv_nonneg ha (by omega), Int.ediv_le_self n ha⟩
theorem u8_rng (b : UInt8) : (0 : Int) ≤ (b.toNat : Int) ∧ (b.toNat : Int) ≤ 255 := by have := b.toNat_lt; omega
theorem xr_nn (a b : Int) : 0 ≤ xr a b := by unfold xr; omega
theorem xr_lt {a b : Int} (ha : 0 ≤ a) (ha2 : a < 4611686018427387904) (hb : 0 ≤ b) (hb2 : b < 4611686018427387904) : xr a b < 4611686018427387904 := by
 unfold xr
 have : a.toNat ^^^ b.toNat < 2 ^ 62 := Nat.xor_lt_two_pow (by omega) (by omega)
 omega
theorem d_pick (b : List UInt8) (p n : Int) (hb : b.length ≤ 2000) (h0 : 0 ≤ p) (h1 : p ≤ 1000000) (hn : n ≤ 1000000000) :
  ∃ x, p_spec_l6Rd_pick (b, p) n = some (x, p + 1) ∧ 0 ≤ x ∧ (1 ≤ n → x < n) := by
 unfold p_spec_l6Rd_pick
 have g0 : I64 (p + 1) := by unfold I64; omega
 have ep : p + 1 - 1 = p := by omega
 have gp : I64 p := by unfold I64; omega
 simp only [ep, gd.yes g0, gd.yes gp]
 by_cases hn1 : n < 1
 ·exact ⟨0, by simp [hn1], Int.le_refl _, fun h => by omega⟩
 ·by_cases hb0 : (b.length : Int) = 0
  ·exact ⟨0, by simp [hn1, hb0], Int.le_refl _, fun h => by omega⟩
  ·simp only [hn1, hb0, decide_false, cond_false, bd_some]
   by_cases hp : p < (b.length : Int)
   ·have hx := tmod_rng (u8_rng (nth b p.toNat)).1 (show 0 < n by omega)
    have g1 : ix p b.length := ⟨h0, hp⟩
    have g2 : n ≠ 0 := by omega
    have g3 : I64 (((nth b p.toNat).toNat : Int).tmod n) := by unfold I64; omega
    simp only [hp, decide_true, cond_true, gd.yes g1, gd.yes g2, gd.yes g3]
    exact ⟨_, rfl, hx.1, fun _ => hx.2⟩
   ·simp only [hp, decide_false, cond_false]
    have hL : (0 : Int) < (b.length : Int) := by omega
    have hm := tmod_rng h0 hL
    have hm2 := tmod_rng (show 0 ≤ p * 7 + 3 by omega) hL
    have hq := tdiv_rng h0 hL
    have u1 := u8_rng (nth b (p.tmod (b.length : Int)).toNat)
    have u2 := u8_rng (nth b ((p * 7 + 3).tmod (b.length : Int)).toNat)
    have g1 : (b.length : Int) ≠ 0 := hb0
    have g2 : I64 (p.tmod (b.length : Int)) := by unfold I64; omega
    have g3 : ix (p.tmod (b.length : Int)) b.length := hm
    have g4 : I64 (p * 7) := by unfold I64; omega
    have g5 : I64 (p * 7 + 3) := by unfold I64; omega
    have g6 : I64 ((p * 7 + 3).tmod (b.length : Int)) := by unfold I64; omega
    have g7 : ix ((p * 7 + 3).tmod (b.length : Int)) b.length := hm2
    have g8 : I64 (p * 29) := by unfold I64; omega
    have g9 : I64 (p.tdiv (b.length : Int)) := by unfold I64; omega
    simp only [gd.yes g1, gd.yes g2, gd.yes g3, gd.yes g4, gd.yes g5, gd.yes g6, gd.yes g7, gd.yes g8, gd.yes g9]
    generalize ((nth b (p.tmod (b.length : Int)).toNat).toNat : Int) = y1 at *
    generalize ((nth b ((p * 7 + 3).tmod (b.length : Int)).toNat).toNat : Int) = y2 at *
    generalize p.tdiv (b.length : Int) = q at *
    have k1 : I64 (y1 * 131) := by unfold I64; omega
    have k2 : I64 (y2 * 1117) := by unfold I64; omega
    have k3 : I64 (y1 * 131 + y2 * 1117) := by unfold I64; omega
    have k4 : I64 (y1 * 131 + y2 * 1117 + p * 29) := by unfold I64; omega
    have k5 : I64 (q * 53) := by unfold I64; omega
    have k6 : I64 (y1 * 131 + y2 * 1117 + p * 29 + q * 53) := by unfold I64; omega
    simp only [gd.yes k1, gd.yes k2, gd.yes k3, gd.yes k4, gd.yes k5, gd.yes k6]
    have hx0 : 0 ≤ y1 * 131 + y2 * 1117 + p * 29 + q * 53 := by omega
    have hx1 : y1 * 131 + y2 * 1117 + p * 29 + q * 53 < 1000000000 := by omega
    generalize y1 * 131 + y2 * 1117 + p * 29 + q * 53 = x at *
    have hd := tdiv_rng hx0 (show (0 : Int) < 64 by decide)
    have m1 : I64 (x.tdiv 64) := by unfold I64; omega
    have m2 : nn x := by unfold nn; omega
    have m3 : nn (x.tdiv 64) := by unfold nn; omega
    have hr0 := xr_nn x (x.tdiv 64)
    have hr1 := xr_lt hx0 (by omega) hd.1 (by omega) (b := x.tdiv 64)
    have hz := tmod_rng hr0 (show 0 < n by omega)
    have m4 : n ≠ 0 := by omega
    have m5 : I64 ((xr x (x.tdiv 64)).tmod n) := by unfold I64; omega
    simp only [gd.yes m1, gd.yes m2, gd.yes m3, gd.yes m4, gd.yes m5]
    exact ⟨_, rfl, hz.1, fun _ => hz.2⟩
theorem nth_mem {α : Type} [Inhabited α] {l : List α} {k : Nat} (h : k < l.length) : nth l k ∈ l := by rw [nth_eq l k h]; exact List.getElem_mem h
theorem d_l6Open (c : List UInt8) : ∃ b, p_spec_l6Open c = some (b, 0) ∧ b.length ≤ 2000 := by
 unfold p_spec_l6Open
 by_cases h : (2000 : Int) < (c.length : Int)
 ·have g : sl2 0 2000 c.length := by unfold sl2; omega
  simp only [h, decide_true, cond_true, gd.yes g]
  exact ⟨_, rfl, by simp; omega⟩
 ·simp only [h, decide_false, cond_false]
  exact ⟨_, rfl, by omega⟩
theorem ba_one {x : ByteArray} (h : x.size = 1) : x = ⟨#[sb x 0]⟩ := by
 have : x.data.size = 1 := h
 apply ByteArray.ext
 apply Array.ext
 ·rw [this]; rfl
 ·intro i h1 h2
  have hi : i = 0 := by omega
  subst hi
  simp [sb, this]
theorem sl_one (a b : UInt8) : sless ⟨#[a]⟩ ⟨#[b]⟩ = decide (a < b) := by
 rw [sless_lt]
 have e : ∀ c : UInt8, (⟨#[c]⟩ : ByteArray).toList = [c] := fun c => by simp [ByteArray.toList, ByteArray.toList.loop, ByteArray.size, ByteArray.get!]
 have h2 : ([a] < [b]) ↔ a < b := by rw [List.cons_lt_cons_iff]; simp
 rw [e, e]
 exact decide_eq_decide.2 h2
def tagB (t : Tag) : Bool := decide (t.1.size = 1) && (decide (t.2.size = 1) && (inn 97 ((sb t.1 0).toNat : Int) 100 && inn 112 ((sb t.2 0).toNat : Int) 122))
theorem e_spec_l3Tag (t : Tag) : p_spec_l3Tag t = some (tagB t) := by
 unfold p_spec_l3Tag tagB
 have c1 : decide ((t.1.size : Int) = 1) = decide (t.1.size = 1) := decide_eq_decide.2 (by omega)
 have c2 : decide ((t.2.size : Int) = 1) = decide (t.2.size = 1) := decide_eq_decide.2 (by omega)
 rw [c1, c2]
 by_cases h1 : t.1.size = 1
 ·by_cases h2 : t.2.size = 1
  ·simp only [h1, h2, decide_true, cond_true, gd.yes (show ix 0 1 by unfold ix; omega), e_spec_l6In, bd_some, Bool.true_and]
   cases inn 97 ((sb t.1 0).toNat : Int) 100 <;> simp
  ·simp [h1, h2]
 ·simp [h1]
theorem rng_one {x : ByteArray} (h : x.size = 1) (lo hi : UInt8) : (!sless x ⟨#[lo]⟩ && (sless x ⟨#[hi]⟩ || decide (x = ⟨#[hi]⟩))) = inn (lo.toNat : Int) ((sb x 0).toNat : Int) (hi.toNat : Int) := by
 have hx := ba_one h
 generalize sb x 0 = c at *
 subst hx
 rw [sl_one, sl_one]
 have e1 : (!decide (c < lo)) = decide ((lo.toNat : Int) ≤ (c.toNat : Int)) := by
  by_cases k : c < lo
  ·have : c.toNat < lo.toNat := UInt8.lt_iff_toNat_lt.1 k
   simp [k]; omega
  ·have : ¬ c.toNat < lo.toNat := fun q => k (UInt8.lt_iff_toNat_lt.2 q)
   simp [k]; omega
 have e2 : (decide (c < hi) || decide ((⟨#[c]⟩ : ByteArray) = ⟨#[hi]⟩)) = decide ((c.toNat : Int) ≤ (hi.toNat : Int)) := by
  by_cases k : c < hi
  ·have : c.toNat < hi.toNat := UInt8.lt_iff_toNat_lt.1 k
   simp [k]; omega
  ·have h3 : ¬ c.toNat < hi.toNat := fun q => k (UInt8.lt_iff_toNat_lt.2 q)
   by_cases e : c = hi
   ·subst e; simp
   ·have h4 : c.toNat ≠ hi.toNat := fun q => e (UInt8.toNat_inj.1 q)
    have h5 : (⟨#[c]⟩ : ByteArray) ≠ ⟨#[hi]⟩ := fun q => e (by
     have := congrArg (fun b : ByteArray => b.data.toList) q
     simpa using this)
    simp [k, h5]; omega
 rw [e1, e2]; rfl
theorem e_impl_tagOk (t : Tag) : p_impl_tagOk t = some (tagB t) := by
 unfold p_impl_tagOk tagB
 have c1 : decide ((t.1.size : Int) = 1) = decide (t.1.size = 1) := decide_eq_decide.2 (by omega)
 have c2 : decide ((t.2.size : Int) = 1) = decide (t.2.size = 1) := decide_eq_decide.2 (by omega)
 rw [c1, c2]
 by_cases h1 : t.1.size = 1
 ·have r1 := rng_one h1 97 100
  rw [show ((97 : UInt8).toNat : Int) = 97 from rfl, show ((100 : UInt8).toNat : Int) = 100 from rfl] at r1
  rw [← r1]
  by_cases h2 : t.2.size = 1
  ·have r2 := rng_one h2 112 122
   rw [show ((112 : UInt8).toNat : Int) = 112 from rfl, show ((122 : UInt8).toNat : Int) = 122 from rfl] at r2
   rw [← r2]
   simp only [h1, h2, decide_true, cond_true, Bool.true_and]
   cases (!sless t.1 ⟨#[97]⟩) <;> cases (sless t.1 ⟨#[100]⟩ || decide (t.1 = ⟨#[100]⟩)) <;> cases (!sless t.2 ⟨#[112]⟩) <;> rfl
  ·simp only [h1, h2, decide_true, decide_false, cond_true, cond_false, Bool.true_and, Bool.false_and]
   cases (!sless t.1 ⟨#[97]⟩) <;> cases (sless t.1 ⟨#[100]⟩ || decide (t.1 = ⟨#[100]⟩)) <;> rfl
 ·simp [h1]
def nameBad (n : List Tag) (k : Nat) : Bool := !tagB (nth n k) || (decide (0 < k) && !sless (nth n (k - 1)).1 (nth n k).1)
def nameOk (n : List Tag) : Bool := allN n.length (nameBad n) && inn 1 (n.length : Int) 3
theorem e_impl_NameOk (n : List Tag) (hn : n.length ≤ maxLen) : p_impl_NameOk n = some (nameOk n) := by
 have hn' : n.length ≤ 9223372036854775807 := hn
 have hr : ∀ k, k < n.length → p_impl_NameOk_b0 n (k : Int) = some (if nameBad n k then .inr (.inr false) else .inl ((k + 1 : Nat) : Int)) := fun k hk => by
  unfold p_impl_NameOk_b0 nameBad
  simp only [dlt hk, cond_true, gd.yes (ixN hk), e_impl_tagOk, bd_some, Int.toNat_natCast, gd.yes (i64S hk hn')]
  cases h1 : tagB (nth n k) with
  | false => simp
  | true =>
   simp only [Bool.not_true, cond_false, Bool.false_or]
   by_cases h0 : 0 < k
   ·have h0' : (0 : Int) < k := by omega
    have e1 : (k : Int) - 1 = ((k - 1 : Nat) : Int) := by omega
    have hi : I64 ((k - 1 : Nat) : Int) := by unfold I64; omega
    simp only [h0, h0', decide_true, cond_true, e1, gd.yes hi, gd.yes (ixN (show k - 1 < n.length by omega)), Int.toNat_natCast, bd_some, Bool.true_and]
    cases sless (nth n (k - 1)).1 (nth n k).1 <;> simp
   ·simp [h0]
 unfold p_impl_NameOk nameOk
 rcases lp_scan (body := p_impl_NameOk_b0 n) (fun k => (k : Int)) n.length (nameBad n) (.inl ()) (fun _ => .inr false) (fun k hk _ h => by simp [hr k hk, h]) (fun k hk _ h => by simp [hr k hk, h]) (fun _ => by unfold p_impl_NameOk_b0; simp) with ⟨h1, h2⟩ | ⟨h1, k, _, _, _, h2⟩
 ·rw [show (lp (p_impl_NameOk_b0 n) 0) = _ from h2, h1]; simp [sw, e_impl_within]
 ·rw [show (lp (p_impl_NameOk_b0 n) 0) = _ from h2, h1]; simp [sw]
theorem e_spec_NameOk (n : List Tag) (hn : n.length ≤ maxLen) : p_spec_NameOk n = some (nameOk n) := by
 have hn' : n.length ≤ 9223372036854775807 := hn
 have hr : ∀ k, k < n.length → p_spec_NameOk_b0 n (k : Int) = some (if nameBad n k then .inr (.inr false) else .inl ((k + 1 : Nat) : Int)) := fun k hk => by
  unfold p_spec_NameOk_b0 nameBad
  simp only [dlt hk, cond_true, gd.yes (ixN hk), e_spec_l3Tag, bd_some, Int.toNat_natCast, gd.yes (i64S hk hn')]
  cases h1 : tagB (nth n k) with
  | false => simp
  | true =>
   simp only [Bool.not_true, cond_false, Bool.false_or]
   by_cases h0 : 0 < k
   ·have h0' : (0 : Int) < k := by omega
    have e1 : (k : Int) - 1 = ((k - 1 : Nat) : Int) := by omega
    have hi : I64 ((k - 1 : Nat) : Int) := by unfold I64; omega
    simp only [h0, h0', decide_true, cond_true, e1, gd.yes hi, gd.yes (ixN (show k - 1 < n.length by omega)), Int.toNat_natCast, bd_some, Bool.true_and]
    cases sless (nth n (k - 1)).1 (nth n k).1 <;> simp
   ·simp [h0]
 unfold p_spec_NameOk nameOk
 rcases lp_scan (body := p_spec_NameOk_b0 n) (fun k => (k : Int)) n.length (nameBad n) (.inl ()) (fun _ => .inr false) (fun k hk _ h => by simp [hr k hk, h]) (fun k hk _ h => by simp [hr k hk, h]) (fun _ => by unfold p_spec_NameOk_b0; simp) with ⟨h1, h2⟩ | ⟨h1, k, _, _, _, h2⟩
 ·rw [show (lp (p_spec_NameOk_b0 n) 0) = _ from h2, h1]; simp [sw, e_spec_l6In]
 ·rw [show (lp (p_spec_NameOk_b0 n) 0) = _ from h2, h1]; simp [sw]
theorem allN_mem {α : Type} [Inhabited α] {l : List α} {p : α → Bool} : allN l.length (fun k => p (nth l k)) = true ↔ ∀ x ∈ l, p x = false := by
 rw [allN_iff]
 constructor
 ·intro h x hx
  obtain ⟨i, hi, rfl⟩ := List.mem_iff_getElem.1 hx
  have := h i hi
  rwa [nth_eq l i hi] at this
 ·intro h i hi
  rw [nth_eq l i hi]
  exact h _ (List.getElem_mem hi)
def hasT (n : List Tag) (t : Tag) : Bool := n.any fun x => decide (x = t)
theorem hasT_iff {n : List Tag} {t : Tag} : hasT n t = true ↔ t ∈ n := by simp [hasT]
theorem hasT_no {n : List Tag} {t : Tag} (h : t ∉ n) : hasT n t = false := by
 cases hc : hasT n t with
 | false => rfl
 | true => exact absurd (hasT_iff.1 hc) h
theorem e_Index_Tag (n : List Tag) (t : Tag) (hn : n.length ≤ maxLen) : ∃ k : Int, p_slices_Index_Tag_Tag n t = some k ∧ (0 ≤ k ↔ t ∈ n) := by
 have hn' : n.length ≤ 9223372036854775807 := hn
 have hr : ∀ k, k < n.length → p_slices_Index_Tag_Tag_b0 n t (k : Int) = some (if decide (t = nth n k) then .inr (.inr (k : Int)) else .inl ((k + 1 : Nat) : Int)) := fun k hk => by
  unfold p_slices_Index_Tag_Tag_b0
  simp only [dlt hk, cond_true, gd.yes (ixN hk), Int.toNat_natCast, gd.yes (i64S hk hn')]
  by_cases h : t = nth n k <;> simp [h]
 unfold p_slices_Index_Tag_Tag
 rcases lp_scan (body := p_slices_Index_Tag_Tag_b0 n t) (fun k => (k : Int)) n.length (fun k => decide (t = nth n k)) (.inl ()) (fun k => .inr (k : Int)) (fun k hk _ h => by simp [hr k hk, of_decide_eq_false h]) (fun k hk _ h => by rw [hr k hk, if_pos h]) (fun _ => by unfold p_slices_Index_Tag_Tag_b0; simp) with ⟨h1, h2⟩ | ⟨h1, k, hk, hb, _, h2⟩
 ·rw [show (lp (p_slices_Index_Tag_Tag_b0 n t) 0) = _ from h2]
  have : t ∉ n := fun ht => by
   have := (allN_mem (l := n) (p := fun x => decide (t = x))).1 h1 t ht
   simp at this
  exact ⟨-1, rfl, by simp [this]⟩
 ·rw [show (lp (p_slices_Index_Tag_Tag_b0 n t) 0) = _ from h2]
  have : t ∈ n := (of_decide_eq_true hb) ▸ nth_mem hk
  exact ⟨(k : Int), rfl, by simp [this]⟩
theorem e_Contains_Tag (n : List Tag) (t : Tag) (hn : n.length ≤ maxLen) : p_slices_Contains_Tag_Tag n t = some (hasT n t) := by
 unfold p_slices_Contains_Tag_Tag
 obtain ⟨k, e, h⟩ := e_Index_Tag n t hn
 simp only [e, bd_some]
 by_cases hm : t ∈ n
 ·rw [hasT_iff.2 hm, decide_eq_true (h.2 hm)]
 ·rw [hasT_no hm, decide_eq_false (fun q => hm (h.1 q))]
def filterOk (f : List Cond) : Bool := allN f.length (fun k => !tagB (nth f k).1) && decide ((f.length : Int) ≤ 3)
theorem e_impl_FilterOk (f : List Cond) (hn : f.length ≤ maxLen) : p_impl_FilterOk f = some (filterOk f) := by
 have hn' : f.length ≤ 9223372036854775807 := hn
 have hr : ∀ k, k < f.length → p_impl_FilterOk_b0 f (k : Int) = some (if (!tagB (nth f k).1) then .inr (.inr false) else .inl ((k + 1 : Nat) : Int)) := fun k hk => by
  unfold p_impl_FilterOk_b0
  simp only [dlt hk, cond_true, gd.yes (ixN hk), e_impl_tagOk, bd_some, Int.toNat_natCast, gd.yes (i64S hk hn')]
  cases tagB (nth f k).1 <;> simp
 unfold p_impl_FilterOk filterOk
 rcases lp_scan (body := p_impl_FilterOk_b0 f) (fun k => (k : Int)) f.length (fun k => !tagB (nth f k).1) (.inl ()) (fun _ => .inr false) (fun k hk _ h => by rw [hr k hk, h]; rfl) (fun k hk _ h => by rw [hr k hk, h]; rfl) (fun _ => by unfold p_impl_FilterOk_b0; simp) with ⟨h1, h2⟩ | ⟨h1, k, _, _, _, h2⟩
 ·rw [show (lp (p_impl_FilterOk_b0 f) 0) = _ from h2, h1]; simp [sw]
 ·rw [show (lp (p_impl_FilterOk_b0 f) 0) = _ from h2, h1]; simp [sw]
def fitsP (f : List Cond) (n : List Tag) : Bool := allN f.length fun k => decide (hasT n (nth f k).1 = (nth f k).2)
theorem e_impl_FilterFits (f : List Cond) (n : List Tag) (hf : f.length ≤ maxLen) (hn : n.length ≤ maxLen) : p_impl_FilterFits f n = some (filterOk f && (nameOk n && fitsP f n)) := by
 have hf' : f.length ≤ 9223372036854775807 := hf
 have hr : ∀ k, k < f.length → p_impl_FilterFits_b0 f n (k : Int) = some (if decide (hasT n (nth f k).1 = (nth f k).2) then .inr (.inr false) else .inl ((k + 1 : Nat) : Int)) := fun k hk => by
  unfold p_impl_FilterFits_b0
  simp only [dlt hk, cond_true, gd.yes (ixN hk), e_Contains_Tag n _ hn, bd_some, Int.toNat_natCast, gd.yes (i64S hk hf')]
  by_cases h : hasT n (nth f k).1 = (nth f k).2 <;> simp [h]
 unfold p_impl_FilterFits
 simp only [e_impl_FilterOk f hf, e_impl_NameOk n hn, bd_some]
 cases filterOk f with
 | false => rfl
 | true =>
  cases nameOk n with
  | false => rfl
  | true =>
   simp only [Bool.not_true, cond_false, bd_some, Bool.true_and]
   unfold fitsP
   rcases lp_scan (body := p_impl_FilterFits_b0 f n) (fun k => (k : Int)) f.length (fun k => decide (hasT n (nth f k).1 = (nth f k).2)) (.inl ()) (fun _ => .inr false) (fun k hk _ h => by rw [hr k hk, h]; rfl) (fun k hk _ h => by rw [hr k hk, h]; rfl) (fun _ => by unfold p_impl_FilterFits_b0; simp) with ⟨h1, h2⟩ | ⟨h1, k, _, _, _, h2⟩
   ·rw [show (lp (p_impl_FilterFits_b0 f n) 0) = _ from h2, h1]; simp [sw]
   ·rw [show (lp (p_impl_FilterFits_b0 f n) 0) = _ from h2, h1]; simp [sw]
def textK (n : List Tag) : Nat → ByteArray
 | 0 => ⟨#[]⟩
 | m + 1 => (((if 0 < m then textK n m ++ ⟨#[44]⟩ else textK n m) ++ (nth n m).1) ++ ⟨#[61]⟩) ++ (nth n m).2
def textN (n : List Tag) : ByteArray := textK n n.length
theorem textK_size (n : List Tag) : ∀ m, (textK n m).size ≤ 2 * m + sumN m fun i => (nth n i).1.size + (nth n i).2.size
 | 0 => Nat.zero_le _
 | m + 1 => by
  have ih := textK_size n m
  show ((((if 0 < m then textK n m ++ ⟨#[44]⟩ else textK n m) ++ (nth n m).1) ++ ⟨#[61]⟩) ++ (nth n m).2).size ≤ 2 * (m + 1) + (sumN m (fun i => (nth n i).1.size + (nth n i).2.size) + ((nth n m).1.size + (nth n m).2.size))
  have e1 : ((⟨#[61]⟩ : ByteArray)).size = 1 := rfl
  have e2 : ((⟨#[44]⟩ : ByteArray)).size = 1 := rfl
  split
  ·simp only [ByteArray.size_append, e1, e2]; omega
  ·simp only [ByteArray.size_append, e1]; omega
theorem textK_pos {n : List Tag} {m : Nat} (h : 0 < m) : textK n (m + 1) = (((textK n m ++ ⟨#[44]⟩) ++ (nth n m).1) ++ ⟨#[61]⟩) ++ (nth n m).2 := by
 show (((if 0 < m then textK n m ++ ⟨#[44]⟩ else textK n m) ++ (nth n m).1) ++ ⟨#[61]⟩) ++ (nth n m).2 = _
 rw [if_pos h]
theorem textK_neg {n : List Tag} {m : Nat} (h : ¬ 0 < m) : textK n (m + 1) = ((textK n m ++ (nth n m).1) ++ ⟨#[61]⟩) ++ (nth n m).2 := by
 show (((if 0 < m then textK n m ++ ⟨#[44]⟩ else textK n m) ++ (nth n m).1) ++ ⟨#[61]⟩) ++ (nth n m).2 = _
 rw [if_neg h]
theorem w_name (n : List Tag) : Wt.w n = n.length + sumN n.length fun i => (nth n i).1.size + (nth n i).2.size := rfl
theorem e_spec_l3Text (n : List Tag) (hw : Wt.w n ≤ 4194304) : p_spec_l3Text n = some (textN n) := by
 rw [w_name] at hw
 unfold p_spec_l3Text textN
 have e44 : ((⟨#[44]⟩ : ByteArray)).size = 1 := rfl
 have e61 : ((⟨#[61]⟩ : ByteArray)).size = 1 := rfl
 rw [show ((⟨#[]⟩ : ByteArray), (0 : Int)) = (textK n 0, ((0 : Nat) : Int)) from rfl, lp_for (fun k => (textK n k, (k : Int))) n.length (textK n n.length) (fun m hm => by
  have h1 := textK_size n m
  have h2 : (sumN m fun i => (nth n i).1.size + (nth n i).2.size) + ((nth n m).1.size + (nth n m).2.size) ≤ sumN n.length fun i => (nth n i).1.size + (nth n i).2.size := sumN_lt (f := fun i => (nth n i).1.size + (nth n i).2.size) hm
  unfold p_spec_l3Text_b0
  rw [dlt hm, cond_true]
  by_cases h0 : 0 < m
  ·rw [decide_eq_true (show (0 : Int) < (m : Int) by omega), cond_true]
   rw [gd.yes (by simp only [room, e44]; omega), gd.yes (ixN hm), gd.yes (by simp only [room, ByteArray.size_append, e44, Int.toNat_natCast]; omega), gd.yes (by simp only [room, ByteArray.size_append, e44, e61, Int.toNat_natCast]; omega), gd.yes (by simp only [room, ByteArray.size_append, e44, e61, Int.toNat_natCast]; omega), gd.yes (by unfold I64; omega), addI]
   rw [textK_pos h0]
   rfl
  ·rw [decide_eq_false (show ¬ (0 : Int) < (m : Int) by omega), cond_false]
   rw [gd.yes (ixN hm), gd.yes (by simp only [room, Int.toNat_natCast]; omega), gd.yes (by simp only [room, ByteArray.size_append, e61, Int.toNat_natCast]; omega), gd.yes (by simp only [room, ByteArray.size_append, e61, Int.toNat_natCast]; omega), gd.yes (by unfold I64; omega), addI]
   rw [textK_neg h0]
   rfl) (by unfold p_spec_l3Text_b0; rw [decide_eq_false (show ¬ ((n.length : Int) < (n.length : Int)) by omega)]; rfl)]
 rfl
def oneB (t : Tag) : Prop := t.1.size = 1 ∧ t.2.size = 1
theorem tagB_one {t : Tag} (h : tagB t = true) : oneB t := by
 unfold tagB at h
 simp only [Bool.and_eq_true, decide_eq_true_eq] at h
 exact ⟨h.1, h.2.1⟩
theorem nameOk_tags {n : List Tag} (h : nameOk n = true) : ∀ t ∈ n, tagB t = true := by
 intro t ht
 unfold nameOk at h
 simp only [Bool.and_eq_true] at h
 obtain ⟨i, hi, rfl⟩ := List.mem_iff_getElem.1 ht
 have := allN_iff.1 h.1 i hi
 unfold nameBad at this
 simp only [Bool.or_eq_false_iff] at this
 rw [← nth_eq n i hi]
 simpa using this.1
theorem sumN_c {f : Nat → Nat} {c : Nat} : ∀ {n}, (∀ i, i < n → f i ≤ c) → sumN n f ≤ n * c
 | 0, _ => Nat.zero_le _
 | n + 1, h => by
  have h1 := sumN_c (n := n) fun i hi => h i (by omega)
  have h2 := h n (Nat.lt_succ_self _)
  show sumN n f + f n ≤ _
  rw [Nat.add_mul]; omega
theorem d_of (b : List UInt8) (p : Int) (l : List ByteArray) (hb : b.length ≤ 2000) (h0 : 0 ≤ p) (h1 : p ≤ 1000000) (hl : 1 ≤ l.length) (hl2 : l.length ≤ 1000) :
  ∃ x, p_spec_l6Rd_of (b, p) l = some (x, p + 1) ∧ x ∈ l := by
 obtain ⟨x, e, a, k⟩ := d_pick b p (l.length : Int) hb h0 h1 (by omega)
 have k := k (by omega)
 have hx : x.toNat < l.length := by omega
 refine ⟨nth l x.toNat, ?_, nth_mem hx⟩
 unfold p_spec_l6Rd_of
 rw [bd.yes e, gd.yes (show ix x l.length by unfold ix; omega)]
theorem d_l71Tag (b : List UInt8) (p : Int) (hb : b.length ≤ 2000) (h0 : 0 ≤ p) (h1 : p + 2 ≤ 1000000) :
  ∃ t : Tag, p_spec_l71Tag (b, p) = some (t, p + 2) ∧ t.1.size = 1 ∧ t.2.size = 1 := by
 obtain ⟨x, e1, m1⟩ := d_of b p [(⟨#[97]⟩ : ByteArray), (⟨#[98]⟩ : ByteArray), (⟨#[99]⟩ : ByteArray)] hb h0 (by omega) (by decide) (by decide)
 obtain ⟨y, e2, m2⟩ := d_of b (p + 1) [(⟨#[112]⟩ : ByteArray), (⟨#[113]⟩ : ByteArray), (⟨#[122]⟩ : ByteArray)] hb (by omega) (by omega) (by decide) (by decide)
 refine ⟨(x, y), ?_, ?_, ?_⟩
 ·unfold p_spec_l71Tag
  rw [bd.yes e1, bd.yes e2, show p + 1 + 1 = p + 2 by omega]
 ·simp only [List.mem_cons, List.not_mem_nil, or_false] at m1
  rcases m1 with rfl | rfl | rfl <;> rfl
 ·simp only [List.mem_cons, List.not_mem_nil, or_false] at m2
  rcases m2 with rfl | rfl | rfl <;> rfl
def smallN (n : List Tag) : Prop := n.length ≤ 5 ∧ ∀ t ∈ n, t.1.size ≤ 2 ∧ t.2.size ≤ 2
theorem smallN_snoc {n : List Tag} {t : Tag} (h : n.length ≤ 4) (h2 : ∀ t ∈ n, t.1.size ≤ 2 ∧ t.2.size ≤ 2) (ht : t.1.size ≤ 2 ∧ t.2.size ≤ 2) : smallN (n ++ [t]) :=
 ⟨by rw [List.length_append, List.length_singleton]; omega, fun u hu => by
  rcases List.mem_append.1 hu with hu | hu
  ·exact h2 u hu
  ·rw [List.mem_singleton.1 hu]; exact ht⟩
theorem smallN_set {n : List Tag} {t : Tag} {k : Nat} (h : n.length ≤ 5) (h2 : ∀ t ∈ n, t.1.size ≤ 2 ∧ t.2.size ≤ 2) (ht : t.1.size ≤ 2 ∧ t.2.size ≤ 2) : smallN (n.set k t) :=
 ⟨by rw [List.length_set]; exact h, fun u hu => by
  rcases List.mem_or_eq_of_mem_set hu with hu | rfl
  ·exact h2 u hu
  ·exact ht⟩
theorem d_nameLoop (b : List UInt8) (hb : b.length ≤ 2000) (q : Int) (p : Int) (h0 : 0 ≤ p) (h1 : p + 10 ≤ 1000000) :
  ∃ n p', lp (p_spec_l71Name_b0 (b, q)) (p, ([] : List Tag), 0) = some (p', n) ∧ p ≤ p' ∧ p' ≤ p + 6 ∧ n.length ≤ 3 ∧ ∀ t ∈ n, t.1.size ≤ 2 ∧ t.2.size ≤ 2 := by
 have key : ∀ r : Nat, r ≤ 3 → ∀ (k : Nat), k + r = 3 → ∀ (p1 : Int) (n : List Tag), 0 ≤ p1 → p1 + 2 * r ≤ 1000000 → n.length ≤ k → (∀ t ∈ n, t.1.size ≤ 2 ∧ t.2.size ≤ 2) →
   ∃ n' p', lp (p_spec_l71Name_b0 (b, q)) (p1, n, (k : Int)) = some (p', n') ∧ p1 ≤ p' ∧ p' ≤ p1 + 2 * r ∧ n'.length ≤ 3 ∧ ∀ t ∈ n', t.1.size ≤ 2 ∧ t.2.size ≤ 2 := by
  intro r
  induction r with
  | zero =>
   intro _ k hk p1 n q0 q1 hn ht
   refine ⟨n, p1, lp.stop ?_, by omega, by omega, by omega, ht⟩
   unfold p_spec_l71Name_b0
   have : k = 3 := by omega
   subst this; rfl
  | succ r ih =>
   intro hr k hk p1 n q0 q1 hn ht
   obtain ⟨x, e1, a1, b1⟩ := d_pick b p1 2 hb q0 (by omega) (by decide)
   obtain ⟨y, e2, m2⟩ := d_of b (p1 + 1) [(⟨#[112]⟩ : ByteArray), (⟨#[113]⟩ : ByteArray), (⟨#[122]⟩ : ByteArray)] hb (by omega) (by omega) (by decide) (by decide)
   have hk3 : k < ([(⟨#[97]⟩ : ByteArray), (⟨#[98]⟩ : ByteArray), (⟨#[99]⟩ : ByteArray)] : List ByteArray).length := by show k < 3; omega
   have hy : y.size ≤ 2 := by
    simp only [List.mem_cons, List.not_mem_nil, or_false] at m2
    rcases m2 with rfl | rfl | rfl <;> decide
   have hx : (nth ([(⟨#[97]⟩ : ByteArray), (⟨#[98]⟩ : ByteArray), (⟨#[99]⟩ : ByteArray)] : List ByteArray) k).size ≤ 2 := by
    have := nth_mem hk3
    simp only [List.mem_cons, List.not_mem_nil, or_false] at this
    rcases this with h | h | h <;> rw [h] <;> decide
   by_cases hz : x = 0
   ·have step : p_spec_l71Name_b0 (b, q) (p1, n, (k : Int)) = some (.inl (p1 + 1 + 1, n ++ [(nth ([(⟨#[97]⟩ : ByteArray), (⟨#[98]⟩ : ByteArray), (⟨#[99]⟩ : ByteArray)] : List ByteArray) k, y)], ((k + 1 : Nat) : Int))) := by
     unfold p_spec_l71Name_b0
     rw [dlt hk3, cond_true, gd.yes (ixN hk3), bd.yes e1, decide_eq_true hz, cond_true, bd.yes e2, gd.yes (show room (n.length + 1) by unfold room; omega), gd.yes (show I64 ((k : Int) + 1) by unfold I64; omega), addI]
     rfl
    rw [lp.step step]
    obtain ⟨n', p', g1, g2, g3, g4, g5⟩ := ih (by omega) (k + 1) (by omega) (p1 + 1 + 1) (n ++ [(nth ([(⟨#[97]⟩ : ByteArray), (⟨#[98]⟩ : ByteArray), (⟨#[99]⟩ : ByteArray)] : List ByteArray) k, y)]) (by omega) (by omega) (by rw [List.length_append, List.length_singleton]; omega) (fun u hu => by
     rcases List.mem_append.1 hu with hu | hu
     ·exact ht u hu
     ·rw [List.mem_singleton.1 hu]; exact ⟨hx, hy⟩)
    exact ⟨n', p', g1, by omega, by omega, g4, g5⟩
   ·have step : p_spec_l71Name_b0 (b, q) (p1, n, (k : Int)) = some (.inl (p1 + 1, n, ((k + 1 : Nat) : Int))) := by
     unfold p_spec_l71Name_b0
     rw [dlt hk3, cond_true, gd.yes (ixN hk3), bd.yes e1, decide_eq_false hz, cond_false, gd.yes (show I64 ((k : Int) + 1) by unfold I64; omega), addI]
    rw [lp.step step]
    obtain ⟨n', p', g1, g2, g3, g4, g5⟩ := ih (by omega) (k + 1) (by omega) (p1 + 1) n (by omega) (by omega) (by omega) ht
    exact ⟨n', p', g1, by omega, by omega, g4, g5⟩
 obtain ⟨n', p', g1, g2, g3, g4, g5⟩ := key 3 (Nat.le_refl _) 0 rfl p [] h0 (by omega) (Nat.zero_le _) (fun _ h => nomatch h)
 exact ⟨n', p', g1, g2, by omega, g4, g5⟩
theorem d_l71Name (b : List UInt8) (p : Int) (hb : b.length ≤ 2000) (h0 : 0 ≤ p) (h1 : p + 16 ≤ 1000000) :
  ∃ n p', p_spec_l71Name (b, p) = some (n, p') ∧ p ≤ p' ∧ p' ≤ p + 16 ∧ smallN n := by
 obtain ⟨n, p1, e, a1, a2, hl, ht⟩ := d_nameLoop b hb p p h0 (by omega)
 have fin : ∀ (m : List Tag) (q : Int), 1 ≤ m.length → m.length ≤ 4 → (∀ t ∈ m, t.1.size ≤ 2 ∧ t.2.size ≤ 2) → 0 ≤ q → q + 8 ≤ 1000000 → ∃ n p', (bd (p_spec_l6Rd_pick (b, q) 40) fun r42 => cond (decide (r42.1 = 0)) (bd (p_spec_l71Tag (b, r42.2)) fun r46 => gd (room (m.length + 1)) <| some (m ++ [r46.1], r46.2)) (cond (decide (r42.1 = 1)) (gd (ix 0 m.length) <| bd (p_spec_l6Rd_of (b, r42.2) ([(⟨#[]⟩ : ByteArray), (⟨#[111]⟩ : ByteArray), (⟨#[112, 112]⟩ : ByteArray)] : List ByteArray)) fun r58 => some (m.set 0 (((nth m 0).1), r58.1), r58.2)) (some (m, r42.2)))) = some (n, p') ∧ q ≤ p' ∧ p' ≤ q + 8 ∧ smallN n := by
  intro m q m1 m2 mt q0 q1
  obtain ⟨x, e1, _, _⟩ := d_pick b q 40 hb q0 (by omega) (by decide)
  rw [bd.yes e1]
  by_cases hx : x = 0
  ·obtain ⟨t, e2, s1, s2⟩ := d_l71Tag b (q + 1) hb (by omega) (by omega)
   rw [decide_eq_true hx, cond_true, bd.yes e2, gd.yes (by unfold room; omega)]
   exact ⟨m ++ [t], _, rfl, by omega, by omega, smallN_snoc m2 mt ⟨by omega, by omega⟩⟩
  ·rw [decide_eq_false hx, cond_false]
   by_cases hx1 : x = 1
   ·obtain ⟨y, e2, m3⟩ := d_of b (q + 1) [(⟨#[]⟩ : ByteArray), (⟨#[111]⟩ : ByteArray), (⟨#[112, 112]⟩ : ByteArray)] hb (by omega) (by omega) (by decide) (by decide)
    have hy : y.size ≤ 2 := by
     simp only [List.mem_cons, List.not_mem_nil, or_false] at m3
     rcases m3 with rfl | rfl | rfl <;> decide
    rw [decide_eq_true hx1, cond_true, gd.yes (by unfold ix; omega), bd.yes e2]
    exact ⟨_, _, rfl, by omega, by omega, smallN_set (by omega) mt ⟨(mt _ (nth_mem (by omega))).1, hy⟩⟩
   ·rw [decide_eq_false hx1, cond_false]
    exact ⟨_, _, rfl, by omega, by omega, by omega, mt⟩
 unfold p_spec_l71Name
 rw [bd.yes e]
 by_cases hz : n.length = 0
 ·obtain ⟨t, e2, s1, s2⟩ := d_l71Tag b p1 hb (by omega) (by omega)
  rw [decide_eq_true (show (n.length : Int) = 0 by omega), cond_true, bd.yes e2, gd.yes (show room (n.length + 1) by unfold room; omega)]
  obtain ⟨n', p', g1, g2, g3, g4⟩ := fin (n ++ [t]) (p1 + 2) (by rw [List.length_append, List.length_singleton]; omega) (by rw [List.length_append, List.length_singleton]; omega) (smallN_snoc (by omega) ht ⟨by omega, by omega⟩).2 (by omega) (by omega)
  exact ⟨n', p', g1, by omega, by omega, g4⟩
 ·rw [decide_eq_false (show ¬ (n.length : Int) = 0 by omega), cond_false]
  obtain ⟨n', p', g1, g2, g3, g4⟩ := fin n p1 (by omega) (by omega) ht (by omega) (by omega)
  exact ⟨n', p', g1, by omega, by omega, g4⟩
theorem e_lyNames (a b : List Tag) (ha : a.length ≤ 4194304) : p_laws_lyName a b = some (decide (a = b)) := by
 unfold p_laws_lyName
 by_cases hl : a.length = b.length
 ·have hl2 : (a.length : Int) = (b.length : Int) := by omega
  rw [decide_eq_true hl2, Bool.not_true, cond_false]
  refine eq_loop hl (fun k hk => ?_) ?_
  ·have hk2 : k < b.length := by omega
   unfold p_laws_lyName_b0
   simp only [dlt hk, cond_true, gd.yes (ixN hk), gd.yes (ixN hk2), Int.toNat_natCast, gd.yes (i64S hk (show a.length ≤ 9223372036854775807 by omega))]
   by_cases h : nth a k = nth b k <;> simp [h]
  ·unfold p_laws_lyName_b0; simp
 ·have h2 : ¬ (a.length : Int) = (b.length : Int) := by omega
  have h3 : a ≠ b := fun e => hl (by rw [e])
  simp [h2, h3]
def tagT (t : Tag) : ByteArray := (t.1 ++ (⟨#[61]⟩ : ByteArray)) ++ t.2
def bl (b : ByteArray) : List UInt8 := b.data.toList
theorem bl_inj {a b : ByteArray} (h : bl a = bl b) : a = b := ByteArray.ext (Array.toList_inj.1 h)
theorem bl_app (a b : ByteArray) : bl (a ++ b) = bl a ++ bl b := by simp [bl]
theorem joinTail_snoc (sep : List UInt8) (r : List (List UInt8)) (y : List UInt8) : Lib.joinTail sep (r ++ [y]) = Lib.joinTail sep r ++ (sep ++ y) := by
 unfold Lib.joinTail
 rw [List.map_append, List.flatten_append]; simp
theorem join_snoc (xs : List (List UInt8)) (y sep : List UInt8) : Lib.join (xs ++ [y]) sep = if xs = [] then y else Lib.join xs sep ++ (sep ++ y) := by
 cases xs with
 | nil => rw [if_pos rfl]; exact Lib.join_one y sep
 | cons x r => rw [if_neg (by simp), List.cons_append, Lib.join_cons, Lib.join_cons, joinTail_snoc, List.append_assoc]
theorem join_text (n : List Tag) : ∀ m, m ≤ n.length → Lib.join (((n.take m).map tagT).map bl) (bl ⟨#[44]⟩) = bl (textK n m)
 | 0, _ => rfl
 | m + 1, hm => by
  have hm' : m < n.length := hm
  rw [take_succ_nth hm', List.map_append, List.map_append, List.map_cons, List.map_nil, List.map_cons, List.map_nil, join_snoc]
  have ih := join_text n m (by omega)
  by_cases h0 : 0 < m
  ·rw [if_neg (by intro h; have := congrArg List.length h; simp only [List.length_map, List.length_take, List.length_nil] at this; omega), ih, textK_pos h0]
   unfold tagT
   simp only [bl_app, List.append_assoc]
  ·have : m = 0 := by omega
   subst this
   rw [if_pos (by simp), textK_neg h0]
   unfold tagT
   show bl _ = bl (((⟨#[]⟩ ++ _) ++ _) ++ _)
   simp only [bl_app]
   rfl
theorem joinS_text (n : List Tag) : joinS (n.map tagT) (⟨#[44]⟩ : ByteArray) = textN n := by
 have h := join_text n n.length (Nat.le_refl _)
 rw [List.take_length] at h
 exact bl_inj h
theorem e_NameText (n : List Tag) (hw : Wt.w n ≤ 4194304) (hok : nameOk n = true) : p_impl_NameText n = some (textN n) := by
 have hw' := hw
 rw [w_name] at hw'
 have hsz := textK_size n n.length
 have e61 : ((⟨#[61]⟩ : ByteArray)).size = 1 := rfl
 unfold p_impl_NameText
 have key : lp (p_impl_NameText_b0 n) (([] : List ByteArray), 0) = some (n.map tagT) := lp_for (body := p_impl_NameText_b0 n) (fun k => ((n.take k).map tagT, (k : Int))) n.length (n.map tagT) (fun k hk => by
  have h2 : (sumN k fun i => (nth n i).1.size + (nth n i).2.size) + ((nth n k).1.size + (nth n k).2.size) ≤ sumN n.length fun i => (nth n i).1.size + (nth n i).2.size := sumN_lt (f := fun i => (nth n i).1.size + (nth n i).2.size) hk
  have hlt : ((n.take k).map tagT).length ≤ k := by rw [List.length_map, List.length_take]; omega
  unfold p_impl_NameText_b0
  rw [dlt hk, cond_true, gd.yes (ixN hk)]
  simp only [Int.toNat_natCast]
  rw [gd.yes (by simp only [room, e61]; omega), gd.yes (by simp only [room, ByteArray.size_append, e61]; omega), gd.yes (by unfold room; omega), gd.yes (by unfold I64; omega), addI, take_succ_nth hk, List.map_append]
  rfl) (by
  unfold p_impl_NameText_b0
  rw [decide_eq_false (show ¬ ((n.length : Int) < (n.length : Int)) by omega), cond_false, List.take_length])
 rw [bd.yes (e_impl_NameOk n (by unfold maxLen; omega)), hok, Bool.not_true, cond_false, bd.yes key]
 unfold p_strings_Join
 rw [joinS_text, List.length_map, gd.yes (by unfold room; omega), gd.yes (by unfold room textN; omega), bd_some]
theorem bl_len (b : ByteArray) : (bl b).length = b.size := rfl
theorem s2_len (l : List UInt8) : (s2 l).size = l.length := rfl
theorem bl_extract (b : ByteArray) (i j : Nat) : bl (b.extract i j) = ((bl b).take j).drop i := by
 unfold bl
 rw [ByteArray.data_extract, Array.toList_extract]
 simp [List.extract_eq_take_drop, List.drop_take]
theorem s2_extract (l : List UInt8) (i j : Nat) : (s2 l).extract i j = s2 ((l.take j).drop i) := bl_inj (bl_extract _ _ _)
def consH (b : UInt8) : List (List UInt8) → List (List UInt8)
 | [] => [[b]]
 | w :: ws => (b :: w) :: ws
def spl (c : UInt8) : List UInt8 → List (List UInt8)
 | [] => [[]]
 | b :: l => if b = c then [] :: spl c l else consH b (spl c l)
theorem spl_ne (c : UInt8) : ∀ l, spl c l ≠ []
 | [] => by simp [spl]
 | b :: l => by
  unfold spl
  split
  ·simp
  ·cases spl c l <;> simp [consH]
theorem idx_yes (c : UInt8) : ∀ l : List UInt8, c ∈ l → ∃ m : Nat, Lib.indexByte l c = (m : Int) ∧ m < l.length ∧ spl c l = l.take m :: spl c (l.drop (m + 1)) ∧ l.count c = (l.drop (m + 1)).count c + 1
 | [], h => nomatch h
 | b :: l, h => by
  by_cases e : b = c
  ·subst e
   exact ⟨0, by simp [Lib.indexByte], by simp, by simp [spl], by simp⟩
  ·have h' : c ∈ l := by
    rcases List.mem_cons.1 h with h | h
    ·exact absurd h.symm e
    ·exact h
   obtain ⟨m, h1, h2, h3, h4⟩ := idx_yes c l h'
   refine ⟨m + 1, ?_, by simp only [List.length_cons]; omega, ?_, ?_⟩
   ·have e2 : (b == c) = false := by simpa using e
    have e3 : (Lib.indexByte l c == -1) = false := by rw [h1]; simp
    unfold Lib.indexByte
    rw [e2, e3, h1]; rfl
   ·show (if b = c then [] :: spl c l else consH b (spl c l)) = _
    rw [if_neg e, h3]; rfl
   ·rw [List.drop_succ_cons, List.count_cons, h4]; simp [e]
theorem idx_no (c : UInt8) : ∀ l : List UInt8, c ∉ l → Lib.indexByte l c = -1 ∧ spl c l = [l] ∧ l.count c = 0
 | [], _ => ⟨rfl, rfl, rfl⟩
 | b :: l, h => by
  have e : b ≠ c := fun e => h (e ▸ List.mem_cons_self ..)
  obtain ⟨h1, h2, h3⟩ := idx_no c l (fun hm => h (List.mem_cons_of_mem _ hm))
  have e2 : (b == c) = false := by simpa using e
  refine ⟨?_, ?_, ?_⟩
  ·unfold Lib.indexByte
   rw [e2, h1]; rfl
  ·show (if b = c then [] :: spl c l else consH b (spl c l)) = _
   rw [if_neg e, h2]; rfl
  ·rw [List.count_cons, h3]; simp [e]
theorem spl_len (c : UInt8) (k : Nat) : ∀ l : List UInt8, l.count c = k → (spl c l).length = k + 1 := by
 induction k with
 | zero =>
  intro l h
  rw [(idx_no c l (fun hm => absurd (List.count_pos_iff.2 hm) (by omega))).2.1]; rfl
 | succ k ih =>
  intro l h
  obtain ⟨m, _, _, h3, h4⟩ := idx_yes c l (List.count_pos_iff.1 (by omega))
  rw [h3, List.length_cons, ih _ (by omega)]
theorem spl_word (c : UInt8) : ∀ (l : List UInt8), ∀ w ∈ spl c l, w.length ≤ l.length
 | [], w, h => by
  rw [List.mem_singleton.1 h]; exact Nat.le_refl _
 | b :: l, w, h => by
  have ih := spl_word c l
  unfold spl at h
  split at h
  ·rcases List.mem_cons.1 h with h | h
   ·rw [h]; exact Nat.zero_le _
   ·have := ih w h; rw [List.length_cons]; omega
  ·cases hs : spl c l with
   | nil => exact absurd hs (spl_ne c l)
   | cons x xs =>
    rw [hs] at h ih
    rcases List.mem_cons.1 h with h | h
    ·have := ih x (List.mem_cons_self ..); rw [h, List.length_cons, List.length_cons]; omega
    ·have := ih w (List.mem_cons_of_mem _ h); rw [List.length_cons]; omega
theorem e_Index44 (l : List UInt8) : p_strings_Index_k44 (s2 l) = some (Lib.indexByte l 44) := by
 unfold p_strings_Index_k44 p_internal_stringslite_Index_k44 p_internal_stringslite_IndexByte
 rw [bd_some]
 by_cases h : (⟨#[44]⟩ : ByteArray) = s2 l
 ·rw [decide_eq_true h, cond_true, bd_some]
  have hl : l = [44] := (congrArg bl h).symm
  rw [hl]; rfl
 ·rw [decide_eq_false h, cond_false, gd.yes (show ix 0 (⟨#[44]⟩ : ByteArray).size by unfold ix; decide), bd_some]; rfl
theorem gs_body (s0 : ByteArray) (r1 : Int) (s : ByteArray) (a : List ByteArray) (i : Int) : p_strings_genSplit_k44_0_m1_b0 s0 r1 (s, a, i) = cond (decide (i < ((min (r1 + 1) ((s0.size : Int) + 1)) - 1))) (bd (p_strings_Index_k44 s) fun r22 => cond (decide (r22 < 0)) (some (.inr (s, a, i))) (gd (I64 (r22 + 0)) <| gd (sl2 0 (r22 + 0) s.size) <| gd (ix i a.length) <| gd (I64 (r22 + 1)) <| gd (sl2 (r22 + 1) (s.size : Int) s.size) <| gd (I64 (i + 1)) <| some (.inl (s.extract (r22 + 1).toNat (s.size : Int).toNat, (a.set i.toNat (s.extract 0 (r22 + 0).toNat)), i + 1)))) (some (.inr (s, a, i))) := rfl
theorem set_rep {β : Type} (done : List β) (x z : β) (k : Nat) : (done ++ List.replicate (k + 2) z).set done.length x = (done ++ [x]) ++ List.replicate (k + 1) z := by
 rw [List.set_append_right _ _ (Nat.le_refl _), Nat.sub_self, show k + 2 = (k + 1) + 1 from rfl, List.replicate_succ, List.set_cons_zero]; simp
theorem split_loop (s0 : ByteArray) (r1 : Int) (N : Nat) (hN : min (r1 + 1) ((s0.size : Int) + 1) = (N : Int)) (hN2 : N ≤ 1048577) (z : ByteArray) : ∀ (k : Nat) (l : List UInt8) (done : List ByteArray), l.count 44 = k → l.length ≤ 1048576 → done.length + k + 1 = N →
  ∃ l' done', lp (p_strings_genSplit_k44_0_m1_b0 s0 r1) (s2 l, done ++ List.replicate (k + 1) z, (done.length : Int)) = some (s2 l', done' ++ [z], (done'.length : Int)) ∧ done' ++ [s2 l'] = done ++ (spl 44 l).map s2 ∧ done'.length + 1 = N
 | 0, l, done, hc, _, hd => by
  refine ⟨l, done, lp.stop ?_, ?_, by omega⟩
  ·rw [gs_body, hN, decide_eq_false (show ¬ (done.length : Int) < (N : Int) - 1 by omega), cond_false]; rfl
  ·rw [(idx_no 44 l (fun hm => absurd (List.count_pos_iff.2 hm) (by omega))).2.1]; rfl
 | k + 1, l, done, hc, hl, hd => by
  obtain ⟨m, h1, h2, h3, h4⟩ := idx_yes 44 l (List.count_pos_iff.1 (by omega))
  obtain ⟨l', done', g1, g2, g3⟩ := split_loop s0 r1 N hN hN2 z k (l.drop (m + 1)) (done ++ [s2 (l.take m)]) (by omega) (by rw [List.length_drop]; omega) (by rw [List.length_append, List.length_singleton]; omega)
  refine ⟨l', done', ?_, by rw [g2, h3]; simp, g3⟩
  rw [← g1]
  refine lp.step ?_
  have hla : (done ++ List.replicate (k + 1 + 1) z).length = done.length + k + 2 := by simp; omega
  rw [gs_body, hN, decide_eq_true (show (done.length : Int) < (N : Int) - 1 by omega), cond_true, bd.yes (e_Index44 l), h1, decide_eq_false (show ¬ (m : Int) < 0 by omega), cond_false, Int.add_zero,
   gd.yes (by unfold I64; omega), gd.yes (show sl2 0 (m : Int) (s2 l).size by unfold sl2; rw [s2_len]; omega), gd.yes (by unfold ix; omega), gd.yes (by unfold I64; omega), gd.yes (show sl2 ((m : Int) + 1) ((s2 l).size : Int) (s2 l).size by unfold sl2; rw [s2_len]; omega), gd.yes (by unfold I64; omega)]
  rw [s2_extract, s2_extract, s2_len, Int.toNat_natCast, Int.toNat_natCast, Int.toNat_natCast, List.take_length, List.drop_zero, show ((m : Int) + 1).toNat = m + 1 by omega, show k + 1 + 1 = k + 2 from rfl, set_rep, List.length_append, List.length_singleton]
  rfl
theorem e_Split (s : ByteArray) (hs : s.size ≤ 1048576) : p_strings_Split_k44 s = some ((spl 44 (bl s)).map s2) := by
 have hcl : (bl s).count 44 ≤ s.size := List.count_le_length
 have hsb : sb (⟨#[44]⟩ : ByteArray) 0 = 44 := rfl
 have hcb : cbs s (sb (⟨#[44]⟩ : ByteArray) 0) = (((bl s).count 44 : Nat) : Int) := rfl
 have hmin : min ((((bl s).count 44 : Nat) : Int) + 1) ((s.size : Int) + 1) = (((bl s).count 44 + 1 : Nat) : Int) := by omega
 unfold p_strings_Split_k44 p_strings_genSplit_k44_0_m1 p_strings_Count_k44
 rw [gd.yes (show ix 0 (⟨#[44]⟩ : ByteArray).size by unfold ix; decide), hcb, bd_some, gd.yes (by unfold I64; omega), gd.yes (by unfold I64; omega), hmin, gd.yes (by unfold many; omega), gd.yes (by unfold I64; omega)]
 obtain ⟨l', done', g1, g2, g3⟩ := split_loop s (((bl s).count 44 : Nat) : Int) ((bl s).count 44 + 1) hmin (by omega) Zr.z0 _ (bl s) [] rfl hs (by simp)
 rw [Int.toNat_natCast, bd.yes (show lp (p_strings_genSplit_k44_0_m1_b0 s (((bl s).count 44 : Nat) : Int)) (s, List.replicate ((bl s).count 44 + 1) (Zr.z0 : ByteArray), 0) = _ from g1)]
 have hla : (done' ++ [(Zr.z0 : ByteArray)]).length = done'.length + 1 := by simp
 have hset : (done' ++ [(Zr.z0 : ByteArray)]).set done'.length (s2 l') = done' ++ [s2 l'] := by
  rw [List.set_append_right _ _ (Nat.le_refl _), Nat.sub_self]; rfl
 have hlb : (done' ++ [s2 l']).length = done'.length + 1 := by simp
 show bd (gd (ix (done'.length : Int) (done' ++ [(Zr.z0 : ByteArray)]).length) (gd (I64 ((done'.length : Int) + 1)) (gd (sl2 0 ((done'.length : Int) + 1) ((done' ++ [(Zr.z0 : ByteArray)]).set (done'.length : Int).toNat (s2 l')).length) (some (((done' ++ [(Zr.z0 : ByteArray)]).set (done'.length : Int).toNat (s2 l')).take ((done'.length : Int) + 1).toNat))))) (fun r1 => some r1) = _
 rw [Int.toNat_natCast, hset, gd.yes (by unfold ix; omega), gd.yes (by unfold I64; omega), gd.yes (by unfold sl2; omega), show ((done'.length : Int) + 1).toNat = (done' ++ [s2 l']).length by omega, List.take_length, g2]
 rfl
theorem join_spl (c : UInt8) : ∀ l : List UInt8, Lib.join (spl c l) [c] = l
 | [] => rfl
 | b :: l => by
  have ih := join_spl c l
  unfold spl
  cases hs : spl c l with
  | nil => exact absurd hs (spl_ne c l)
  | cons w ws =>
   rw [hs, Lib.join_cons] at ih
   split
   ·rename_i e
    subst e
    rw [Lib.join_cons]
    show [] ++ (([b] ++ w) ++ Lib.joinTail [b] ws) = b :: l
    rw [← ih]; simp
   ·show Lib.join ((b :: w) :: ws) [c] = b :: l
    rw [Lib.join_cons, ← ih]; rfl
theorem spl_app (c : UInt8) : ∀ (x l : List UInt8), c ∉ x → spl c (x ++ c :: l) = x :: spl c l
 | [], l, _ => by
  show (if c = c then [] :: spl c l else consH c (spl c l)) = _
  rw [if_pos rfl]
 | b :: x, l, h => by
  have e : b ≠ c := fun e => h (e ▸ List.mem_cons_self ..)
  show (if b = c then [] :: spl c (x ++ c :: l) else consH b (spl c (x ++ c :: l))) = _
  rw [if_neg e, spl_app c x l (fun hm => h (List.mem_cons_of_mem _ hm))]; rfl
theorem spl_join (c : UInt8) : ∀ xs : List (List UInt8), xs ≠ [] → (∀ x ∈ xs, c ∉ x) → spl c (Lib.join xs [c]) = xs
 | [], h, _ => absurd rfl h
 | [x], _, h => by rw [Lib.join_one]; exact (idx_no c x (h x (List.mem_cons_self ..))).2.1
 | x :: y :: r, _, h => by
  have ih := spl_join c (y :: r) (by simp) (fun z hz => h z (List.mem_cons_of_mem _ hz))
  have e : Lib.join (x :: y :: r) [c] = x ++ c :: Lib.join (y :: r) [c] := by
   rw [Lib.join_cons, Lib.join_cons]
   show x ++ (([c] ++ y) ++ Lib.joinTail [c] r) = _
   simp
  rw [e, spl_app c x _ (h x (List.mem_cons_self ..)), ih]
def ixW (w : List UInt8) : Nat := (Lib.indexByte w 61).toNat
def keyW (w : List UInt8) : List UInt8 := if 61 ∈ w then w.take (ixW w) else w
def valW (w : List UInt8) : List UInt8 := if 61 ∈ w then w.drop (ixW w + 1) else []
def notW (k : List UInt8) : Bool := decide (1 ≤ k.length ∧ k.drop (k.length - 1) = [33])
def keyN (k : List UInt8) : List UInt8 := if notW k then k.take (k.length - 1) else k
def condW (w : List UInt8) : Cond := ((s2 (keyN (keyW w)), s2 (valW w)), notW (keyW w))
theorem e_Index61 (l : List UInt8) : p_internal_stringslite_Index_k61 (s2 l) = some (Lib.indexByte l 61) := by
 unfold p_internal_stringslite_Index_k61 p_internal_stringslite_IndexByte
 rw [bd_some]
 by_cases h : (⟨#[61]⟩ : ByteArray) = s2 l
 ·rw [decide_eq_true h, cond_true]
  have hl : l = [61] := (congrArg bl h).symm
  rw [hl]; rfl
 ·rw [decide_eq_false h, cond_false, gd.yes (show ix 0 (⟨#[61]⟩ : ByteArray).size by unfold ix; decide), bd_some]; rfl
theorem e_Cut61 (w : List UInt8) (hl : w.length ≤ 1048576) : p_strings_Cut_k61 (s2 w) = some (s2 (keyW w), s2 (valW w), decide ((61 : UInt8) ∈ w)) := by
 unfold p_strings_Cut_k61 p_internal_stringslite_Cut_k61 keyW valW ixW
 rw [bd.yes (e_Index61 w)]
 by_cases h : (61 : UInt8) ∈ w
 ·obtain ⟨m, h1, h2, _, _⟩ := idx_yes 61 w h
  rw [if_pos h, if_pos h, decide_eq_true h, h1, decide_eq_true (Int.natCast_nonneg m), cond_true, gd.yes (show sl2 0 (m : Int) (s2 w).size by unfold sl2; rw [s2_len]; omega), gd.yes (by unfold I64; omega), gd.yes (show sl2 ((m : Int) + 1) ((s2 w).size : Int) (s2 w).size by unfold sl2; rw [s2_len]; omega), bd_some]
  rw [s2_extract, s2_extract, s2_len, Int.toNat_natCast, Int.toNat_natCast, List.take_length, List.drop_zero, show ((m : Int) + 1).toNat = m + 1 by omega]
 ·obtain ⟨h1, _, _⟩ := idx_no 61 w h
  rw [if_neg h, if_neg h, decide_eq_false h, h1]; rfl
theorem e_CutSuffix (k : List UInt8) (hl : k.length ≤ 1048576) : p_strings_CutSuffix (s2 k) (⟨#[33]⟩ : ByteArray) = some (s2 (keyN k), notW k) := by
 have e1 : ((⟨#[33]⟩ : ByteArray)).size = 1 := rfl
 have hs : p_internal_stringslite_HasSuffix (s2 k) (⟨#[33]⟩ : ByteArray) = some (notW k) := by
  unfold p_internal_stringslite_HasSuffix notW
  rw [e1, s2_len]
  by_cases h : 1 ≤ k.length
  ·rw [decide_eq_true (show ((1 : Nat) : Int) ≤ (k.length : Int) by omega), cond_true, gd.yes (by unfold I64; omega), gd.yes (by unfold sl2; omega), bd_some, s2_extract, Int.toNat_natCast, List.take_length, show ((k.length : Int) - ((1 : Nat) : Int)).toNat = k.length - 1 by omega]
   congr 1
   refine decide_eq_decide.2 ⟨fun e => ⟨h, congrArg bl e⟩, fun e => bl_inj e.2⟩
  ·rw [decide_eq_false (show ¬ ((1 : Nat) : Int) ≤ (k.length : Int) by omega), cond_false, bd_some]
   congr 1
   exact (decide_eq_false (fun e => h e.1)).symm
 unfold p_strings_CutSuffix p_internal_stringslite_CutSuffix keyN
 rw [bd.yes hs]
 cases hn : notW k with
 | false => rfl
 | true =>
  have h1 : 1 ≤ k.length := by unfold notW at hn; exact (of_decide_eq_true hn).1
  rw [Bool.not_true, cond_false, e1, s2_len, gd.yes (by unfold I64; omega), gd.yes (by unfold sl2; omega), bd_some, s2_extract, List.drop_zero, show ((k.length : Int) - ((1 : Nat) : Int)).toNat = k.length - 1 by omega]
  rfl
def condS : List UInt8 → Option Cond
 | [a, b, c] => if b = 61 ∧ tagB (s2 [a], s2 [c]) = true then some ((s2 [a], s2 [c]), false) else none
 | [a, b, c, d] => if b = 33 ∧ c = 61 ∧ tagB (s2 [a], s2 [d]) = true then some ((s2 [a], s2 [d]), true) else none
 | _ => none
def textW (c : Cond) : ByteArray := if c.2 then (c.1.1 ++ (⟨#[33, 61]⟩ : ByteArray)) ++ c.1.2 else (c.1.1 ++ (⟨#[61]⟩ : ByteArray)) ++ c.1.2
theorem tagB_bytes {a c : UInt8} (h : tagB (s2 [a], s2 [c]) = true) : 97 ≤ a.toNat ∧ a.toNat ≤ 100 ∧ 112 ≤ c.toNat ∧ c.toNat ≤ 122 := by
 unfold tagB inn at h
 simp only [Bool.and_eq_true, decide_eq_true_eq] at h
 have ea : sb (s2 [a]) 0 = a := rfl
 have ec : sb (s2 [c]) 0 = c := rfl
 rw [ea, ec] at h
 omega
theorem u8_ne {a : UInt8} {k : Nat} (h : a.toNat ≠ k) (hk : k < 256) : a ≠ UInt8.ofNat k := fun e => by
 have := congrArg UInt8.toNat e
 rw [UInt8.toNat_ofNat'] at this
 omega
theorem size_one {b : ByteArray} (h : b.size = 1) : ∃ x, b = s2 [x] := by
 have hl : (bl b).length = 1 := h
 match hb : bl b, hl with
 | [x], _ => exact ⟨x, bl_inj (by rw [hb]; rfl)⟩
theorem condS_W {w : List UInt8} {c : Cond} (h : condS w = some c) : condW w = c ∧ tagB c.1 = true ∧ textW c = s2 w := by
 unfold condS at h
 split at h
 ·rename_i a b d
  split at h
  ·rename_i hc
   obtain ⟨rfl, ht⟩ := hc
   have hb := tagB_bytes ht
   have n1 : a ≠ 61 := u8_ne (k := 61) (by omega) (by decide)
   have n2 : a ≠ 33 := u8_ne (k := 33) (by omega) (by decide)
   obtain rfl := Option.some.inj h
   refine ⟨?_, ht, rfl⟩
   have hm : (61 : UInt8) ∈ [a, 61, d] := by simp
   have hi : Lib.indexByte [a, 61, d] 61 = 1 := by simp [Lib.indexByte, n1]
   have hk : keyW [a, 61, d] = [a] := by unfold keyW ixW; rw [if_pos hm, hi]; rfl
   have hv : valW [a, 61, d] = [d] := by unfold valW ixW; rw [if_pos hm, hi]; rfl
   have hn : notW [a] = false := by unfold notW; simp [n2]
   unfold condW keyN
   rw [hk, hv, hn]; rfl
  ·cases h
 ·rename_i a b d e
  split at h
  ·rename_i hc
   obtain ⟨rfl, rfl, ht⟩ := hc
   have hb := tagB_bytes ht
   have n1 : a ≠ 61 := u8_ne (k := 61) (by omega) (by decide)
   obtain rfl := Option.some.inj h
   refine ⟨?_, ht, rfl⟩
   have hm : (61 : UInt8) ∈ [a, 33, 61, e] := by simp
   have hi : Lib.indexByte [a, 33, 61, e] 61 = 2 := by simp [Lib.indexByte, n1]
   have hk : keyW [a, 33, 61, e] = [a, 33] := by unfold keyW ixW; rw [if_pos hm, hi]; rfl
   have hv : valW [a, 33, 61, e] = [e] := by unfold valW ixW; rw [if_pos hm, hi]; rfl
   have hn : notW [a, 33] = true := by unfold notW; simp
   unfold condW keyN
   rw [hk, hv, hn]; rfl
  ·cases h
 ·cases h
theorem condW_S {w : List UInt8} (ht : tagB (condW w).1 = true) (he : textW (condW w) = s2 w) : condS w = some (condW w) := by
 generalize condW w = c at ht he
 obtain ⟨⟨k, v⟩, n⟩ := c
 obtain ⟨h1, h2⟩ := tagB_one ht
 obtain ⟨x, hx⟩ := size_one h1
 obtain ⟨y, hy⟩ := size_one h2
 have hx : k = s2 [x] := hx
 have hy : v = s2 [y] := hy
 subst hx hy
 cases n with
 | false =>
  have hw : w = [x, 61, y] := (congrArg bl he).symm
  subst hw
  show (if (61 : UInt8) = 61 ∧ tagB (s2 [x], s2 [y]) = true then _ else _) = _
  rw [if_pos ⟨rfl, ht⟩]
 | true =>
  have hw : w = [x, 33, 61, y] := (congrArg bl he).symm
  subst hw
  show (if (33 : UInt8) = 33 ∧ (61 : UInt8) = 61 ∧ tagB (s2 [x], s2 [y]) = true then _ else _) = _
  rw [if_pos ⟨rfl, rfl, ht⟩]
theorem nth_s2 {ws : List (List UInt8)} {k : Nat} (hk : k < ws.length) : nth (ws.map s2) k = s2 (nth ws k) := by
 rw [nth_eq _ k (by rw [List.length_map]; exact hk), List.getElem_map, ← nth_eq ws k hk]
theorem joinTail_le (sep : List UInt8) (m : Nat) : ∀ r : List (List UInt8), (∀ x ∈ r, x.length ≤ m) → (Lib.joinTail sep r).length ≤ r.length * (m + sep.length)
 | [], _ => Nat.zero_le _
 | x :: r, h => by
  have ih := joinTail_le sep m r (fun y hy => h y (List.mem_cons_of_mem _ hy))
  have hx := h x (List.mem_cons_self ..)
  show ((sep ++ x) ++ Lib.joinTail sep r).length ≤ (r.length + 1) * (m + sep.length)
  rw [List.length_append, List.length_append, Nat.add_mul]
  omega
theorem join_le (sep : List UInt8) (m : Nat) (xs : List (List UInt8)) (h : ∀ x ∈ xs, x.length ≤ m) : (Lib.join xs sep).length ≤ xs.length * (m + sep.length) := by
 cases xs with
 | nil => exact Nat.zero_le _
 | cons x r =>
  have h1 := joinTail_le sep m r (fun y hy => h y (List.mem_cons_of_mem _ hy))
  have h2 := h x (List.mem_cons_self ..)
  rw [Lib.join_cons, List.length_append, List.length_cons, Nat.add_mul]
  omega
theorem filterOk_iff {f : List Cond} : filterOk f = true ↔ (∀ c ∈ f, tagB c.1 = true) ∧ f.length ≤ 3 := by
 unfold filterOk
 rw [Bool.and_eq_true, allN_iff, decide_eq_true_eq]
 constructor
 ·rintro ⟨h1, h2⟩
  refine ⟨fun c hc => ?_, by omega⟩
  obtain ⟨i, hi, rfl⟩ := List.mem_iff_getElem.1 hc
  have := h1 i hi
  rw [nth_eq f i hi] at this
  simpa using this
 ·rintro ⟨h1, h2⟩
  refine ⟨fun i hi => ?_, by omega⟩
  rw [nth_eq f i hi, h1 _ (List.getElem_mem hi)]; rfl
theorem textW_size {c : Cond} (h : tagB c.1 = true) : (textW c).size ≤ 4 := by
 obtain ⟨h1, h2⟩ := tagB_one h
 have e1 : ((⟨#[33, 61]⟩ : ByteArray)).size = 2 := rfl
 have e2 : ((⟨#[61]⟩ : ByteArray)).size = 1 := rfl
 unfold textW
 split
 ·rw [ByteArray.size_append, ByteArray.size_append, h1, h2, e1]; omega
 ·rw [ByteArray.size_append, ByteArray.size_append, h1, h2, e2]; omega
def textF (f : List Cond) : ByteArray := if filterOk f then (if f.length = 0 then (⟨#[42]⟩ : ByteArray) else joinS (f.map textW) (⟨#[44]⟩ : ByteArray)) else (⟨#[]⟩ : ByteArray)
theorem e_FilterText (f : List Cond) (hl : f.length ≤ 1048577) : p_impl_FilterText f = some (textF f) := by
 have e1 : ((⟨#[33, 61]⟩ : ByteArray)).size = 2 := rfl
 have e2 : ((⟨#[61]⟩ : ByteArray)).size = 1 := rfl
 unfold p_impl_FilterText textF
 rw [bd.yes (e_impl_FilterOk f (by unfold maxLen; omega))]
 cases hf : filterOk f with
 | false => rfl
 | true =>
  obtain ⟨h1, h2⟩ := filterOk_iff.1 hf
  rw [Bool.not_true, cond_false, if_pos rfl]
  by_cases h0 : f.length = 0
  ·rw [decide_eq_true (show (f.length : Int) = 0 by omega), cond_true, if_pos h0]
  ·rw [decide_eq_false (show ¬ (f.length : Int) = 0 by omega), cond_false, if_neg h0]
   have key : lp (p_impl_FilterText_b0 f) (([] : List ByteArray), 0) = some (f.map textW) := lp_for (body := p_impl_FilterText_b0 f) (fun k => ((f.take k).map textW, (k : Int))) f.length (f.map textW) (fun k hk => by
    obtain ⟨z1, z2⟩ := tagB_one (h1 _ (nth_mem hk))
    have hlt : ((f.take k).map textW).length ≤ k := by rw [List.length_map, List.length_take]; omega
    unfold p_impl_FilterText_b0
    rw [dlt hk, cond_true, gd.yes (ixN hk)]
    simp only [Int.toNat_natCast]
    rw [take_succ_nth hk, List.map_append, List.map_cons, List.map_nil]
    cases hn : (nth f k).2 with
    | true =>
     rw [cond_true, gd.yes (by simp only [room, e1]; omega), gd.yes (by simp only [room, ByteArray.size_append, e1]; omega), gd.yes (by unfold room; omega), gd.yes (by unfold I64; omega), addI]
     unfold textW; rw [if_pos hn]
    | false =>
     rw [cond_false, gd.yes (by simp only [room, e2]; omega), gd.yes (by simp only [room, ByteArray.size_append, e2]; omega), gd.yes (by unfold room; omega), gd.yes (by unfold I64; omega), addI]
     unfold textW; rw [if_neg (by rw [hn]; decide)]) (by
    unfold p_impl_FilterText_b0
    rw [decide_eq_false (show ¬ ((f.length : Int) < (f.length : Int)) by omega), cond_false, List.take_length])
   have hj : (joinS (f.map textW) (⟨#[44]⟩ : ByteArray)).size ≤ 1000 := by
    have h3 := join_le (bl ⟨#[44]⟩) 4 ((f.map textW).map bl) (fun x hx => by
     obtain ⟨b, hb, rfl⟩ := List.mem_map.1 hx
     obtain ⟨c, hc, rfl⟩ := List.mem_map.1 hb
     exact textW_size (h1 c hc))
    rw [List.length_map, List.length_map] at h3
    have h4 : (bl (⟨#[44]⟩ : ByteArray)).length = 1 := rfl
    rw [h4] at h3
    have h5 : (joinS (f.map textW) (⟨#[44]⟩ : ByteArray)).size = (Lib.join ((f.map textW).map bl) (bl ⟨#[44]⟩)).length := rfl
    omega
   rw [bd.yes key]
   unfold p_strings_Join
   rw [List.length_map, gd.yes (by unfold room; omega), gd.yes (by unfold room; omega), bd_some]
def wordsP (s : ByteArray) : List (List UInt8) := spl 44 (bl s)
def badW (ws : List (List UInt8)) (k : Nat) : Bool := (condS (nth ws k)).isNone || decide (3 ≤ k)
def goodP (s : ByteArray) : Bool := allN (wordsP s).length (badW (wordsP s))
def readP (s : ByteArray) : List Cond × Bool := if s = (⟨#[42]⟩ : ByteArray) then ([], true) else if goodP s then ((wordsP s).map condW, true) else ([], false)
theorem goodP_iff (s : ByteArray) : goodP s = true ↔ (∀ w ∈ wordsP s, condS w = some (condW w)) ∧ (wordsP s).length ≤ 3 := by
 unfold goodP
 rw [allN_iff]
 constructor
 ·intro h
  refine ⟨fun w hw => ?_, ?_⟩
  ·obtain ⟨i, hi, rfl⟩ := List.mem_iff_getElem.1 hw
   have := h i hi
   unfold badW at this
   rw [Bool.or_eq_false_iff, nth_eq _ i hi] at this
   cases hc : condS (wordsP s)[i] with
   | none => rw [hc] at this; exact absurd this.1 (by decide)
   | some c => rw [(condS_W hc).1]
  ·rcases Nat.lt_or_ge 3 (wordsP s).length with h3 | h3
   ·have := h 3 h3
    unfold badW at this
    rw [Bool.or_eq_false_iff] at this
    exact absurd this.2 (by decide)
   ·exact h3
 ·rintro ⟨h1, h2⟩ i hi
  unfold badW
  rw [nth_eq _ i hi, h1 _ (List.getElem_mem hi), decide_eq_false (show ¬ 3 ≤ i by omega)]; rfl
theorem wordsP_ne (s : ByteArray) : wordsP s ≠ [] := spl_ne _ _
theorem joinS_words (s : ByteArray) : joinS ((wordsP s).map s2) (⟨#[44]⟩ : ByteArray) = s := bl_inj (by
 show Lib.join (((wordsP s).map s2).map bl) (bl ⟨#[44]⟩) = bl s
 rw [List.map_map]
 have : (bl ∘ s2) = id := rfl
 rw [this, List.map_id]
 exact join_spl 44 (bl s))
theorem textW_no {c : Cond} (h : tagB c.1 = true) : (44 : UInt8) ∉ bl (textW c) := by
 obtain ⟨⟨k, v⟩, n⟩ := c
 obtain ⟨h1, h2⟩ := tagB_one h
 obtain ⟨x, hx⟩ := size_one h1
 obtain ⟨y, hy⟩ := size_one h2
 have hx : k = s2 [x] := hx
 have hy : v = s2 [y] := hy
 subst hx hy
 have hb := tagB_bytes h
 have n1 : (44 : UInt8) ≠ x := (u8_ne (k := 44) (by omega) (by decide)).symm
 have n2 : (44 : UInt8) ≠ y := (u8_ne (k := 44) (by omega) (by decide)).symm
 cases n with
 | false =>
  show (44 : UInt8) ∉ [x, 61, y]
  simp [n1, n2]
 | true =>
  show (44 : UInt8) ∉ [x, 33, 61, y]
  simp [n1, n2]
theorem good_text (s : ByteArray) : goodP s = true ↔ s ≠ (⟨#[]⟩ : ByteArray) ∧ textF ((wordsP s).map condW) = s := by
 have hne := wordsP_ne s
 have hpos : 0 < (wordsP s).length := List.length_pos_iff.2 hne
 rw [goodP_iff]
 constructor
 ·rintro ⟨h1, h2⟩
  have hf : filterOk ((wordsP s).map condW) = true := filterOk_iff.2 ⟨fun c hc => by
   obtain ⟨w, hw, rfl⟩ := List.mem_map.1 hc
   exact (condS_W (h1 w hw)).2.1, by rw [List.length_map]; exact h2⟩
  refine ⟨fun e => ?_, ?_⟩
  ·subst e
   have := h1 [] (by show ([] : List UInt8) ∈ [[]]; simp)
   cases this
  ·unfold textF
   rw [if_pos hf, if_neg (by rw [List.length_map]; omega), List.map_map]
   have : (wordsP s).map (textW ∘ condW) = (wordsP s).map s2 := List.map_congr_left fun w hw => (condS_W (h1 w hw)).2.2
   rw [this, joinS_words]
 ·rintro ⟨h1, h2⟩
  cases hf : filterOk ((wordsP s).map condW) with
  | false =>
   unfold textF at h2
   rw [hf, if_neg (by decide)] at h2
   exact absurd h2.symm h1
  | true =>
   obtain ⟨f1, f2⟩ := filterOk_iff.1 hf
   unfold textF at h2
   rw [if_pos hf, if_neg (by rw [List.length_map]; omega), List.map_map] at h2
   have hb : Lib.join (((wordsP s).map (textW ∘ condW)).map bl) [44] = bl s := congrArg bl h2
   have hs := congrArg (spl 44) hb
   rw [spl_join 44 _ (by intro e; rw [List.map_eq_nil_iff, List.map_eq_nil_iff] at e; exact hne e) (fun x hx => by
    obtain ⟨b, hb, rfl⟩ := List.mem_map.1 hx
    obtain ⟨w, hw, rfl⟩ := List.mem_map.1 hb
    exact textW_no (f1 _ (List.mem_map_of_mem hw)))] at hs
   have hs : ((wordsP s).map (textW ∘ condW)).map bl = wordsP s := hs
   refine ⟨fun w hw => ?_, by rwa [List.length_map] at f2⟩
   obtain ⟨i, hi, rfl⟩ := List.mem_iff_getElem.1 hw
   have hi2 : i < (((wordsP s).map (textW ∘ condW)).map bl).length := by rw [List.length_map, List.length_map]; exact hi
   have e : (((wordsP s).map (textW ∘ condW)).map bl)[i] = (wordsP s)[i] := by
    have := congrArg (fun l => l[i]?) hs
    simp only [List.getElem?_eq_getElem hi2, List.getElem?_eq_getElem hi, Option.some.injEq] at this
    exact this
   rw [List.getElem_map, List.getElem_map] at e
   exact condW_S (f1 _ (List.mem_map_of_mem hw)) (bl_inj e)
theorem words_le {s : ByteArray} (hs : s.size ≤ 1048576) : (∀ w ∈ wordsP s, w.length ≤ 1048576) ∧ (wordsP s).length ≤ 1048577 := by
 refine ⟨fun w hw => Nat.le_trans (spl_word 44 (bl s) w hw) hs, ?_⟩
 unfold wordsP
 rw [spl_len 44 _ _ rfl]
 have := List.count_le_length (a := (44 : UInt8)) (l := bl s)
 rw [bl_len] at this
 omega
theorem keyW_le (w : List UInt8) : (keyW w).length ≤ w.length := by
 unfold keyW
 split
 ·rw [List.length_take]; omega
 ·exact Nat.le_refl _
theorem e_impl_FilterRead (s : ByteArray) (hs : s.size ≤ 1048576) : p_impl_FilterRead s = some (readP s) := by
 obtain ⟨w1, w2⟩ := words_le hs
 unfold p_impl_FilterRead readP
 by_cases h42 : s = (⟨#[42]⟩ : ByteArray)
 ·rw [decide_eq_true h42, cond_true, if_pos h42]
 ·have hl : ((wordsP s).map s2).length = (wordsP s).length := List.length_map ..
  have key : lp (p_impl_FilterRead_b0 ((wordsP s).map s2)) (([] : List Cond), 0) = some ((wordsP s).map condW) := lp_for (body := p_impl_FilterRead_b0 ((wordsP s).map s2)) (fun k => (((wordsP s).take k).map condW, (k : Int))) (wordsP s).length ((wordsP s).map condW) (fun k hk => by
   have hw := w1 _ (nth_mem hk)
   have hkw := keyW_le (nth (wordsP s) k)
   have hlt : (((wordsP s).take k).map condW).length ≤ k := by rw [List.length_map, List.length_take]; omega
   unfold p_impl_FilterRead_b0
   rw [hl, dlt hk, cond_true, gd.yes (ixN hk)]
   simp only [Int.toNat_natCast]
   rw [nth_s2 hk, bd.yes (e_Cut61 _ hw), bd.yes (e_CutSuffix _ (by omega)), gd.yes (by unfold room; omega), gd.yes (by unfold I64; omega), addI, take_succ_nth hk, List.map_append]
   rfl) (by
   unfold p_impl_FilterRead_b0
   rw [hl, decide_eq_false (show ¬ (((wordsP s).length : Int) < ((wordsP s).length : Int)) by omega), cond_false, List.take_length])
  rw [decide_eq_false h42, cond_false, if_neg h42, bd.yes (show p_strings_Split_k44 s = some ((wordsP s).map s2) from e_Split s hs), bd.yes key]
  by_cases h0 : s = (⟨#[]⟩ : ByteArray)
  ·rw [decide_eq_true h0, cond_true, bd_some, cond_true, if_neg (fun hg => ((good_text s).1 hg).1 h0)]
  ·rw [decide_eq_false h0, cond_false, bd.yes (e_FilterText _ (by rw [List.length_map]; exact w2)), bd_some]
   by_cases ht : textF ((wordsP s).map condW) = s
   ·rw [decide_eq_true ht, Bool.not_true, cond_false, if_pos ((good_text s).2 ⟨h0, ht⟩)]
   ·rw [decide_eq_false ht, Bool.not_false, cond_true, if_neg (fun hg => ht ((good_text s).1 hg).2)]
def tagW (w : List UInt8) : Tag := (s2 (keyW w), s2 (valW w))
theorem nameOk_parts {n : List Tag} (h : nameOk n = true) : (∀ t ∈ n, tagB t = true) ∧ 1 ≤ n.length ∧ n.length ≤ 3 := by
 refine ⟨nameOk_tags h, ?_⟩
 unfold nameOk at h
 rw [Bool.and_eq_true] at h
 have := h.2
 unfold inn at this
 simp only [Bool.and_eq_true, decide_eq_true_eq] at this
 omega
theorem tags_w {n : List Tag} (h : n.length ≤ 10) (ht : ∀ t ∈ n, tagB t = true) : Wt.w n ≤ 1000 := by
 have e : Wt.w n = n.length + sumN n.length fun i => Wt.w (nth n i) := rfl
 have e3 := sumN_c (f := fun i => Wt.w (nth n i)) (c := 2) (n := n.length) fun i hi => by
  obtain ⟨k1, k2⟩ := tagB_one (ht _ (nth_mem hi))
  have e : Wt.w (nth n i) = (nth n i).1.size + (nth n i).2.size := rfl
  rw [e, k1, k2]; exact Nat.le_refl _
 have e4 := Nat.mul_le_mul_right 2 h
 omega
def textM (n : List Tag) : ByteArray := if nameOk n then joinS (n.map tagT) (⟨#[44]⟩ : ByteArray) else (⟨#[]⟩ : ByteArray)
theorem e_NameTextM (n : List Tag) (hl : n.length ≤ 1048577) : p_impl_NameText n = some (textM n) := by
 unfold textM
 cases h : nameOk n with
 | true =>
  obtain ⟨h1, _, h3⟩ := nameOk_parts h
  rw [e_NameText n (by have := tags_w (by omega) h1; omega) h, joinS_text, if_pos rfl]
 | false =>
  unfold p_impl_NameText
  rw [bd.yes (e_impl_NameOk n (by unfold maxLen; omega)), h]; rfl
theorem e_spec_NameTextM (n : List Tag) (hl : n.length ≤ 1048577) : p_spec_NameText n = some (textM n) := by
 unfold p_spec_NameText textM
 rw [bd.yes (e_spec_NameOk n (by unfold maxLen; omega))]
 cases h : nameOk n with
 | false => rfl
 | true =>
  obtain ⟨h1, _, h3⟩ := nameOk_parts h
  rw [Bool.not_true, cond_false, bd.yes (e_spec_l3Text n (by have := tags_w (by omega) h1; omega)), joinS_text, if_pos rfl]
theorem textM_size (n : List Tag) : (textM n).size ≤ 2000 := by
 unfold textM
 cases h : nameOk n with
 | false => rw [if_neg (by decide)]; exact Nat.zero_le _
 | true =>
  obtain ⟨h1, _, h3⟩ := nameOk_parts h
  rw [if_pos rfl, joinS_text]
  have hw := tags_w (by omega) h1
  rw [w_name] at hw
  have hsz := textK_size n n.length
  unfold textN
  omega
theorem textM_empty {n : List Tag} (h : textM n ≠ (⟨#[]⟩ : ByteArray)) : nameOk n = true := by
 cases hn : nameOk n with
 | true => rfl
 | false => exact absurd (by unfold textM; rw [hn]; rfl) h
theorem tagT_word {t : Tag} (h : tagB t = true) : ∃ x y, t = (s2 [x], s2 [y]) ∧ bl (tagT t) = [x, 61, y] := by
 obtain ⟨k, v⟩ := t
 obtain ⟨h1, h2⟩ := tagB_one h
 obtain ⟨x, hx⟩ := size_one h1
 obtain ⟨y, hy⟩ := size_one h2
 have hx : k = s2 [x] := hx
 have hy : v = s2 [y] := hy
 subst hx hy
 exact ⟨x, y, rfl, rfl⟩
theorem words_text {n : List Tag} (h : nameOk n = true) : wordsP (textM n) = n.map fun t => bl (tagT t) := by
 obtain ⟨h1, h2, _⟩ := nameOk_parts h
 unfold wordsP textM
 rw [if_pos h]
 show spl 44 (Lib.join ((n.map tagT).map bl) [44]) = _
 rw [spl_join 44 _ (by intro e; rw [List.map_eq_nil_iff, List.map_eq_nil_iff] at e; rw [e] at h2; exact absurd h2 (by decide)) (fun x hx => by
  obtain ⟨b, hb, rfl⟩ := List.mem_map.1 hx
  obtain ⟨t, ht, rfl⟩ := List.mem_map.1 hb
  exact textW_no (c := (t, false)) (h1 t ht)), List.map_map]
 rfl
theorem tagW_tagT {t : Tag} (h : tagB t = true) : tagW (bl (tagT t)) = t ∧ condW (bl (tagT t)) = (t, false) ∧ condS (bl (tagT t)) = some (t, false) := by
 obtain ⟨x, y, rfl, e⟩ := tagT_word h
 have hc : condS [x, 61, y] = some ((s2 [x], s2 [y]), false) := by
  show (if (61 : UInt8) = 61 ∧ tagB (s2 [x], s2 [y]) = true then _ else _) = _
  rw [if_pos ⟨rfl, h⟩]
 obtain ⟨k1, _, _⟩ := condS_W hc
 rw [e]
 refine ⟨?_, k1, hc⟩
 have hn : notW (keyW [x, 61, y]) = false := congrArg Prod.snd k1
 have h2 := congrArg Prod.fst k1
 have h3 : (s2 (keyN (keyW [x, 61, y])), s2 (valW [x, 61, y])) = (s2 [x], s2 [y]) := h2
 unfold keyN at h3
 rw [hn] at h3
 exact h3
theorem textM_inj {a b : List Tag} (ha : nameOk a = true) (hb : nameOk b = true) (h : textM a = textM b) : a = b := by
 have e := congrArg wordsP h
 rw [words_text ha, words_text hb] at e
 have e2 := congrArg (List.map tagW) e
 rw [List.map_map, List.map_map] at e2
 have f : ∀ n : List Tag, nameOk n = true → n.map (tagW ∘ fun t => bl (tagT t)) = n := fun n hn => by
  conv => rhs; rw [← List.map_id n]
  exact List.map_congr_left fun t ht => (tagW_tagT ((nameOk_parts hn).1 t ht)).1
 rwa [f a ha, f b hb] at e2
theorem hasT_mem {n : List Tag} {t : Tag} (h : t ∈ n) : hasT n t = true := hasT_iff.2 h
theorem d_DrawNameText (c : List UInt8) : ∃ n, p_spec_DrawNameText c = some n ∧ smallN n := by
 obtain ⟨b, e0, hb⟩ := d_l6Open c
 obtain ⟨n, p1, e1, a1, b1, hn⟩ := d_l71Name b 0 hb (by omega) (by omega)
 unfold p_spec_DrawNameText
 rw [bd.yes e0, bd.yes e1]
 exact ⟨n, rfl, hn⟩
theorem d_DrawNameOk (c : List UInt8) : ∃ n, p_spec_DrawNameOk c = some n ∧ n.length ≤ 10 := by
 obtain ⟨b, e0, hb⟩ := d_l6Open c
 obtain ⟨n, p1, e1, a1, b1, hn⟩ := d_l71Name b 0 hb (by omega) (by omega)
 have hl := hn.1
 obtain ⟨m, e2, _, _⟩ := d_pick b p1 4 hb (by omega) (by omega) (by decide)
 unfold p_spec_DrawNameOk
 rw [bd.yes e0, bd.yes e1, bd.yes e2]
 dsimp only
 by_cases hm : m = 0
 ·obtain ⟨t, e3, _, _⟩ := d_l71Tag b (p1 + 1) hb (by omega) (by omega)
  rw [decide_eq_true hm, cond_true, bd.yes e3, gd.yes (by unfold room; omega)]
  exact ⟨_, rfl, by rw [List.length_append, List.length_singleton]; omega⟩
 ·rw [decide_eq_false hm, cond_false]
  exact ⟨_, rfl, by omega⟩
theorem e_FnNameOne (c : List UInt8) (m : List UInt8) (_ : Dp.ok c) (_ : Dp.ok m) : p_laws_FnNameOne c m = some true := by
 unfold p_laws_FnNameOne
 by_cases hs : 1048576 < (c.length : Int)
 ·rw [decide_eq_true hs, cond_true, bd_some, cond_true]
 ·rw [decide_eq_false hs, cond_false, bd_some]
  by_cases hs2 : 1048576 < (m.length : Int)
  ·rw [decide_eq_true hs2, cond_true]
  ·obtain ⟨a, e0, ha⟩ := d_DrawNameText c
   obtain ⟨b, e1, hb⟩ := d_DrawNameOk m
   have hal := ha.1
   have hsz := textM_size a
   rw [decide_eq_false hs2, cond_false, bd.yes e0, bd.yes e1, bd.yes (e_NameTextM a (by omega)), bd.yes (e_NameTextM b (by omega)), bd.yes (e_spec_NameTextM a (by omega)), decide_eq_true rfl, Bool.not_true, cond_false]
   by_cases h1 : textM a = (⟨#[]⟩ : ByteArray)
   ·rw [decide_eq_true h1, cond_true, bd_some, cond_true, bd.yes (e_spec_NameTextM a (by omega)), decide_eq_true rfl]
   ·rw [decide_eq_false h1, cond_false, bd_some]
    by_cases h2 : textM b = (⟨#[]⟩ : ByteArray)
    ·rw [decide_eq_true h2, cond_true, bd.yes (e_spec_NameTextM a (by omega)), decide_eq_true rfl]
    ·have na := textM_empty h1
     have nb := textM_empty h2
     have hwa := words_text na
     obtain ⟨ta, l1, l3⟩ := nameOk_parts na
     have hgood : goodP (textM a) = true := (goodP_iff _).2 ⟨fun w hw => by
      rw [hwa] at hw
      obtain ⟨t, ht, rfl⟩ := List.mem_map.1 hw
      obtain ⟨_, k1, k2⟩ := tagW_tagT (ta t ht)
      rw [k1, k2], by rw [hwa, List.length_map]; exact l3⟩
     have hne : textM a ≠ (⟨#[42]⟩ : ByteArray) := fun e => by
      have e3 := congrArg wordsP e
      rw [hwa] at e3
      have e4 : wordsP (⟨#[42]⟩ : ByteArray) = [[42]] := by unfold wordsP; show spl 44 [42] = _; simp [spl, consH]
      rw [e4] at e3
      cases a with
      | nil => simp at l1
      | cons t a =>
       obtain ⟨x, y, _, e5⟩ := tagT_word (ta t (List.mem_cons_self ..))
       rw [List.map_cons, e5] at e3
       cases (List.cons.inj e3).1
     have er : readP (textM a) = (a.map fun t => (t, false), true) := by
      unfold readP
      rw [if_neg hne, if_pos hgood, hwa, List.map_map]
      congr 1
      exact List.map_congr_left fun t ht => (tagW_tagT (ta t ht)).2.1
     have hst : decide (textM a = textM b) = decide (a = b) := decide_eq_decide.2 ⟨textM_inj na nb, fun e => by rw [e]⟩
     have hfo : filterOk (a.map fun t => ((t, false) : Cond)) = true := filterOk_iff.2 ⟨fun c hc => by
      obtain ⟨t, ht, rfl⟩ := List.mem_map.1 hc
      exact ta t ht, by rw [List.length_map]; exact l3⟩
     have hfit : fitsP (a.map fun t => ((t, false) : Cond)) a = true := by
      unfold fitsP
      refine allN_iff.2 fun k hk => ?_
      rw [List.length_map] at hk
      rw [nth_eq _ k (by rw [List.length_map]; exact hk), List.getElem_map, hasT_mem (List.getElem_mem hk)]
      rfl
     rw [decide_eq_false h2, cond_false, bd.yes (e_impl_FilterRead (textM a) (by omega)), er, bd.yes (e_lyNames a b (by omega)), hst, decide_eq_true rfl, cond_true, cond_true, bd.yes (e_impl_FilterFits _ a (by rw [List.length_map]; unfold maxLen; omega) (by unfold maxLen; omega)), hfo, na, hfit]
     rfl
end Go.Proofs.YtchccgdjelhenaaDoor
