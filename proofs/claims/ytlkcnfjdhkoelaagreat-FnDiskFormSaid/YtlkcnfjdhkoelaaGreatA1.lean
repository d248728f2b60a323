/- The walks and the plain laws, part 1: each function that the law reaches computes what its plain function tells, and what the plain functions answer. Conditions: lengths that memory can hold. -/
import Derived.Test.YtlkcnfjdhkoelaaGreatSxB
import Derived.Test.YtlkcnfjdhkoelaaGreatProg
namespace Go.Proofs.YtlkcnfjdhkoelaaGreat
open Go Go.Sx Tryz
abbrev aA := @Del.here
abbrev aB := @Has.here
abbrev aC := @EntsB.cons
abbrev aD := @Tr.seq
abbrev aE := @p_move
abbrev aF := @Rg.m
abbrev aG := @Rg.p
abbrev aH := @Rg.a
abbrev aI := @Rg.o
abbrev aJ := @Rg.nl
abbrev aK := @Rg.g
abbrev aL := @Bool.eq_false_or_eq_true
abbrev aM := @Ent.b
abbrev aN := @PdOk.anc
abbrev aO := @EntB.flat
abbrev aP := @EntsB.nil
abbrev aQ := @Tr.region
abbrev aR := @Tr.block
abbrev aS := @Ent.z
abbrev aT := @Ent.dimm
abbrev aU := @Ent.darr
abbrev aV := @Ent.dsnd
abbrev aW := @Ent.dfst
abbrev aX := @Ent.del
abbrev aY := @Lin.p
abbrev aZ := @Lin.h
abbrev bA := @Lin.o
abbrev bB := @Lin.i
abbrev bC := @Lin.m
abbrev bD := @Lin.e_
abbrev bE := @Lin.f_
abbrev bF := @Lin.sk
abbrev bG := @Solo.tree
abbrev bH := @Solo.nil
abbrev bI := @tSkip
abbrev bJ := @q_ldb
abbrev bK := @q_ldbA
abbrev bL := @Take.nil
abbrev bM := @EntB.tree
abbrev bN := @Tr.openD
abbrev bO := @q_call
abbrev bP := @p_pickF
abbrev bQ := @p_pickT
abbrev bR := @tRet
abbrev bS := @p_add
abbrev bT := @p_len
abbrev bU := @Ents.refl
abbrev bV := @PdOk.nil
abbrev bW := @PdOk.q
abbrev bX := @q_ixg
abbrev bY := @q_ixO'
abbrev bZ := @q_faeE
abbrev cA := @q_lde
abbrev cB := @q_ldeA
abbrev cC := @p_fabE
abbrev cD := @e_box
abbrev cE := @e_alloc
abbrev cF := @n_callB
abbrev cG := @e_callB
abbrev cI := @e_callM
abbrev cJ := @w_skip
abbrev cK := @w_ed
abbrev cL := @w_en
abbrev cM := @w_nil
abbrev cN := @Ents.cons
abbrev cO := @Ents.nil
abbrev cP := @Rdy.nil
abbrev cQ := @Rdy.cons
abbrev cR := @Pu.qo
abbrev cS := @p_lss
abbrev cT := @p_sub
abbrev cU := @p_neq
abbrev cV := @p_eql
abbrev cW := @p_gtr
abbrev cX := @p_not
abbrev cY := @ShpT.wfa
abbrev cZ := @Upd.here
abbrev dA := @p_extract
abbrev dB := @tExit
abbrev dC := @tMidNC
abbrev dD := @tMidI
abbrev dE := @tMid1
abbrev dF := @tLoopI
abbrev dG := @tLinS
abbrev dH := @tNwS
abbrev dI := @tLinT
abbrev dJ := @List.nodup_nil
abbrev dK := @underlying105
abbrev dL := @underlying159
abbrev dM := @underlying240
abbrev dN := @underlying3
abbrev dO := @underlying35
abbrev dP := @underlying36
abbrev dQ := @underlying39
abbrev dR := @underlying40
abbrev dS := @underlying44
abbrev dT := @underlying5
abbrev dU := @underlying53
abbrev dV := @underlying63
abbrev dW := @underlying69
abbrev dX := @underlying70
abbrev dY := @underlying74
abbrev dZ := @underlying9
theorem mixed : prog.follows .mixedOrders = true := by kernel_rfl
abbrev Tag := ByteArray × ByteArray
abbrev PostH := Tag × HV
abbrev Post := Tag × (List Int)
abbrev Index := (List (List Tag)) × (List Post)
abbrev Row := Int × Int
abbrev Part := (List Int) × (List (List Row))
abbrev Sample := Int × Row
abbrev Store := Index × (List Part) × (List Sample)
abbrev Cond := Tag × Bool
abbrev L6Rd := (List UInt8) × Int
abbrev File := Int × Part
abbrev Disk := (List File) × (List Int) × (List (List Tag)) × Int
abbrev World := Store × Disk
abbrev Event := Int × Int × Int × (List Tag) × Row
abbrev Step := Int × Int × Part × (List Int) × (List (List Tag))
instance : DecidableEq Tag := inferInstanceAs (DecidableEq (ByteArray × ByteArray))
instance : DecidableEq Post := inferInstanceAs (DecidableEq (Tag × (List Int)))
instance : DecidableEq Index := inferInstanceAs (DecidableEq ((List (List Tag)) × (List Post)))
instance : DecidableEq Row := inferInstanceAs (DecidableEq (Int × Int))
instance : DecidableEq Part := inferInstanceAs (DecidableEq ((List Int) × (List (List Row))))
instance : DecidableEq Sample := inferInstanceAs (DecidableEq (Int × Row))
instance : DecidableEq Store := inferInstanceAs (DecidableEq (Index × (List Part) × (List Sample)))
instance : DecidableEq Cond := inferInstanceAs (DecidableEq (Tag × Bool))
instance : DecidableEq L6Rd := inferInstanceAs (DecidableEq ((List UInt8) × Int))
instance : DecidableEq File := inferInstanceAs (DecidableEq (Int × Part))
instance : DecidableEq Disk := inferInstanceAs (DecidableEq ((List File) × (List Int) × (List (List Tag)) × Int))
instance : DecidableEq World := inferInstanceAs (DecidableEq (Store × Disk))
instance : DecidableEq Event := @instDecidableEqProd _ _ inferInstance (@instDecidableEqProd _ _ inferInstance (@instDecidableEqProd _ _ inferInstance (@instDecidableEqProd _ _ inferInstance (inferInstance))))
instance : DecidableEq Step := @instDecidableEqProd _ _ inferInstance (@instDecidableEqProd _ _ inferInstance (@instDecidableEqProd _ _ inferInstance (@instDecidableEqProd _ _ inferInstance (inferInstance))))
theorem ty3 : TyI prog 3 false 1 (.int .i64 0) 8 := ⟨by kernel_rfl, by kernel_rfl, rfl⟩
theorem ty4 : TyI prog 4 false 1 (.bool false) 1 := ⟨by kernel_rfl, by kernel_rfl, rfl⟩
theorem ty5 : TyI prog 5 false 1 (.int .u8 0) 1 := ⟨by kernel_rfl, by kernel_rfl, rfl⟩
theorem ty9 : TyI prog 9 false 1 (.string ⟨#[]⟩) 16 := ⟨by kernel_rfl, by kernel_rfl, rfl⟩
theorem ty35 : TyI prog 35 false 1 (.slice none 0 0) 24 := ⟨by kernel_rfl, by kernel_rfl, rfl⟩
theorem ty36 : TyI prog 36 false 1 (.slice none 0 0) 24 := ⟨by kernel_rfl, by kernel_rfl, rfl⟩
theorem ty38 : TyI prog 38 true 2 (.agg #[.slice none 0 0, .slice none 0 0]) 48 := ⟨by kernel_rfl, by kernel_rfl, rfl⟩
theorem fa38_0 : FA prog 38 0 0 := ⟨_, underlying38, _, rfl, rfl, by obtain ⟨i, hi, _, hn, _⟩ := ty35.info'; exact ⟨i, hi, by rw [hn]; decide⟩⟩
theorem fa38_1 : FA prog 38 1 1 := ⟨_, underlying38, _, rfl, rfl, by obtain ⟨i, hi, _, hn, _⟩ := ty36.info'; exact ⟨i, hi, by rw [hn]; decide⟩⟩
theorem ty39 : TyI prog 39 false 1 (.slice none 0 0) 24 := ⟨by kernel_rfl, by kernel_rfl, rfl⟩
theorem ty40 : TyI prog 40 false 1 (.slice none 0 0) 24 := ⟨by kernel_rfl, by kernel_rfl, rfl⟩
theorem ty42 : TyI prog 42 true 4 (.agg #[.slice none 0 0, .slice none 0 0, .slice none 0 0, .slice none 0 0]) 96 := ⟨by kernel_rfl, by kernel_rfl, rfl⟩
theorem fa42_0 : FA prog 42 0 0 := ⟨_, underlying42, _, rfl, rfl, by obtain ⟨i, hi, _, hn, _⟩ := ty38.info'; exact ⟨i, hi, by rw [hn]; decide⟩⟩
theorem fa42_1 : FA prog 42 1 2 := ⟨_, underlying42, _, rfl, rfl, by obtain ⟨i, hi, _, hn, _⟩ := ty39.info'; exact ⟨i, hi, by rw [hn]; decide⟩⟩
theorem fa42_2 : FA prog 42 2 3 := ⟨_, underlying42, _, rfl, rfl, by obtain ⟨i, hi, _, hn, _⟩ := ty40.info'; exact ⟨i, hi, by rw [hn]; decide⟩⟩
theorem ty53 : TyI prog 53 false 1 (.slice none 0 0) 24 := ⟨by kernel_rfl, by kernel_rfl, rfl⟩
theorem ty57 : TyI prog 57 true 2 (.agg #[.int .i64 0, .int .i64 0]) 16 := ⟨by kernel_rfl, by kernel_rfl, rfl⟩
theorem fa57_0 : FA prog 57 0 0 := ⟨_, underlying57, _, rfl, rfl, by obtain ⟨i, hi, _, hn, _⟩ := ty3.info'; exact ⟨i, hi, by rw [hn]; decide⟩⟩
theorem fa57_1 : FA prog 57 1 1 := ⟨_, underlying57, _, rfl, rfl, by obtain ⟨i, hi, _, hn, _⟩ := ty3.info'; exact ⟨i, hi, by rw [hn]; decide⟩⟩
theorem ty59 : TyI prog 59 true 3 (.agg #[.int .i64 0, .int .i64 0, .int .i64 0]) 24 := ⟨by kernel_rfl, by kernel_rfl, rfl⟩
theorem fa59_0 : FA prog 59 0 0 := ⟨_, underlying59, _, rfl, rfl, by obtain ⟨i, hi, _, hn, _⟩ := ty3.info'; exact ⟨i, hi, by rw [hn]; decide⟩⟩
theorem fa59_1 : FA prog 59 1 1 := ⟨_, underlying59, _, rfl, rfl, by obtain ⟨i, hi, _, hn, _⟩ := ty57.info'; exact ⟨i, hi, by rw [hn]; decide⟩⟩
theorem ty63 : TyI prog 63 false 1 (.slice none 0 0) 24 := ⟨by kernel_rfl, by kernel_rfl, rfl⟩
theorem ty69 : TyI prog 69 false 1 (.slice none 0 0) 24 := ⟨by kernel_rfl, by kernel_rfl, rfl⟩
theorem ty70 : TyI prog 70 false 1 (.slice none 0 0) 24 := ⟨by kernel_rfl, by kernel_rfl, rfl⟩
theorem ty72 : TyI prog 72 true 2 (.agg #[.slice none 0 0, .slice none 0 0]) 48 := ⟨by kernel_rfl, by kernel_rfl, rfl⟩
theorem fa72_0 : FA prog 72 0 0 := ⟨_, underlying72, _, rfl, rfl, by obtain ⟨i, hi, _, hn, _⟩ := ty69.info'; exact ⟨i, hi, by rw [hn]; decide⟩⟩
theorem fa72_1 : FA prog 72 1 1 := ⟨_, underlying72, _, rfl, rfl, by obtain ⟨i, hi, _, hn, _⟩ := ty70.info'; exact ⟨i, hi, by rw [hn]; decide⟩⟩
theorem ty74 : TyI prog 74 false 1 (.slice none 0 0) 24 := ⟨by kernel_rfl, by kernel_rfl, rfl⟩
theorem ty76 : TyI prog 76 true 4 (.agg #[.slice none 0 0, .slice none 0 0, .slice none 0 0, .int .i64 0]) 80 := ⟨by kernel_rfl, by kernel_rfl, rfl⟩
theorem fa76_0 : FA prog 76 0 0 := ⟨_, underlying76, _, rfl, rfl, by obtain ⟨i, hi, _, hn, _⟩ := ty74.info'; exact ⟨i, hi, by rw [hn]; decide⟩⟩
theorem fa76_1 : FA prog 76 1 1 := ⟨_, underlying76, _, rfl, rfl, by obtain ⟨i, hi, _, hn, _⟩ := ty69.info'; exact ⟨i, hi, by rw [hn]; decide⟩⟩
theorem fa76_2 : FA prog 76 2 2 := ⟨_, underlying76, _, rfl, rfl, by obtain ⟨i, hi, _, hn, _⟩ := ty35.info'; exact ⟨i, hi, by rw [hn]; decide⟩⟩
theorem fa76_3 : FA prog 76 3 3 := ⟨_, underlying76, _, rfl, rfl, by obtain ⟨i, hi, _, hn, _⟩ := ty3.info'; exact ⟨i, hi, by rw [hn]; decide⟩⟩
theorem ty80 : TyI prog 80 true 3 (.agg #[.int .i64 0, .slice none 0 0, .slice none 0 0]) 56 := ⟨by kernel_rfl, by kernel_rfl, rfl⟩
theorem fa80_0 : FA prog 80 0 0 := ⟨_, underlying80, _, rfl, rfl, by obtain ⟨i, hi, _, hn, _⟩ := ty3.info'; exact ⟨i, hi, by rw [hn]; decide⟩⟩
theorem fa80_1 : FA prog 80 1 1 := ⟨_, underlying80, _, rfl, rfl, by obtain ⟨i, hi, _, hn, _⟩ := ty72.info'; exact ⟨i, hi, by rw [hn]; decide⟩⟩
theorem ty97 : TyI prog 97 true 2 (.agg #[.string ⟨#[]⟩, .string ⟨#[]⟩]) 32 := ⟨by kernel_rfl, by kernel_rfl, rfl⟩
theorem fa97_0 : FA prog 97 0 0 := ⟨_, underlying97, _, rfl, rfl, by obtain ⟨i, hi, _, hn, _⟩ := ty9.info'; exact ⟨i, hi, by rw [hn]; decide⟩⟩
theorem fa97_1 : FA prog 97 1 1 := ⟨_, underlying97, _, rfl, rfl, by obtain ⟨i, hi, _, hn, _⟩ := ty9.info'; exact ⟨i, hi, by rw [hn]; decide⟩⟩
theorem ty99 : TyI prog 99 true 3 (.agg #[.string ⟨#[]⟩, .string ⟨#[]⟩, .bool false]) 40 := ⟨by kernel_rfl, by kernel_rfl, rfl⟩
theorem fa99_0 : FA prog 99 0 0 := ⟨_, underlying99, _, rfl, rfl, by obtain ⟨i, hi, _, hn, _⟩ := ty97.info'; exact ⟨i, hi, by rw [hn]; decide⟩⟩
theorem fa99_1 : FA prog 99 1 2 := ⟨_, underlying99, _, rfl, rfl, by obtain ⟨i, hi, _, hn, _⟩ := ty4.info'; exact ⟨i, hi, by rw [hn]; decide⟩⟩
theorem ty105 : TyI prog 105 false 1 (.slice none 0 0) 24 := ⟨by kernel_rfl, by kernel_rfl, rfl⟩
theorem ty121 : TyI prog 121 true 8 (.agg #[.slice none 0 0, .slice none 0 0, .slice none 0 0, .slice none 0 0, .slice none 0 0, .slice none 0 0, .slice none 0 0, .int .i64 0]) 176 := ⟨by kernel_rfl, by kernel_rfl, rfl⟩
theorem fa121_0 : FA prog 121 0 0 := ⟨_, underlying121, _, rfl, rfl, by obtain ⟨i, hi, _, hn, _⟩ := ty42.info'; exact ⟨i, hi, by rw [hn]; decide⟩⟩
theorem fa121_1 : FA prog 121 1 4 := ⟨_, underlying121, _, rfl, rfl, by obtain ⟨i, hi, _, hn, _⟩ := ty76.info'; exact ⟨i, hi, by rw [hn]; decide⟩⟩
theorem ty169 : TyI prog 169 true 2 (.agg #[.slice none 0 0, .int .i64 0]) 32 := ⟨by kernel_rfl, by kernel_rfl, rfl⟩
theorem fa169_0 : FA prog 169 0 0 := ⟨_, underlying169, _, rfl, rfl, by obtain ⟨i, hi, _, hn, _⟩ := ty53.info'; exact ⟨i, hi, by rw [hn]; decide⟩⟩
theorem fa169_1 : FA prog 169 1 1 := ⟨_, underlying169, _, rfl, rfl, by obtain ⟨i, hi, _, hn, _⟩ := ty3.info'; exact ⟨i, hi, by rw [hn]; decide⟩⟩
theorem ty177 : TyI prog 177 true 3 (.agg #[.string ⟨#[]⟩, .string ⟨#[]⟩, .slice none 0 0]) 56 := ⟨by kernel_rfl, by kernel_rfl, rfl⟩
theorem fa177_0 : FA prog 177 0 0 := ⟨_, underlying177, _, rfl, rfl, by obtain ⟨i, hi, _, hn, _⟩ := ty97.info'; exact ⟨i, hi, by rw [hn]; decide⟩⟩
theorem fa177_1 : FA prog 177 1 2 := ⟨_, underlying177, _, rfl, rfl, by obtain ⟨i, hi, _, hn, _⟩ := ty69.info'; exact ⟨i, hi, by rw [hn]; decide⟩⟩
theorem ty218 : TyI prog 218 true 6 (.agg #[.int .i64 0, .int .i64 0, .int .i64 0, .slice none 0 0, .int .i64 0, .int .i64 0]) 64 := ⟨by kernel_rfl, by kernel_rfl, rfl⟩
theorem fa218_0 : FA prog 218 0 0 := ⟨_, underlying218, _, rfl, rfl, by obtain ⟨i, hi, _, hn, _⟩ := ty3.info'; exact ⟨i, hi, by rw [hn]; decide⟩⟩
theorem fa218_1 : FA prog 218 1 1 := ⟨_, underlying218, _, rfl, rfl, by obtain ⟨i, hi, _, hn, _⟩ := ty3.info'; exact ⟨i, hi, by rw [hn]; decide⟩⟩
theorem fa218_2 : FA prog 218 2 2 := ⟨_, underlying218, _, rfl, rfl, by obtain ⟨i, hi, _, hn, _⟩ := ty3.info'; exact ⟨i, hi, by rw [hn]; decide⟩⟩
theorem fa218_3 : FA prog 218 3 3 := ⟨_, underlying218, _, rfl, rfl, by obtain ⟨i, hi, _, hn, _⟩ := ty105.info'; exact ⟨i, hi, by rw [hn]; decide⟩⟩
theorem fa218_4 : FA prog 218 4 4 := ⟨_, underlying218, _, rfl, rfl, by obtain ⟨i, hi, _, hn, _⟩ := ty57.info'; exact ⟨i, hi, by rw [hn]; decide⟩⟩
theorem ty260 : TyI prog 260 true 6 (.agg #[.int .i64 0, .int .i64 0, .slice none 0 0, .slice none 0 0, .slice none 0 0, .slice none 0 0]) 112 := ⟨by kernel_rfl, by kernel_rfl, rfl⟩
theorem fa260_0 : FA prog 260 0 0 := ⟨_, underlying260, _, rfl, rfl, by obtain ⟨i, hi, _, hn, _⟩ := ty3.info'; exact ⟨i, hi, by rw [hn]; decide⟩⟩
theorem fa260_1 : FA prog 260 1 1 := ⟨_, underlying260, _, rfl, rfl, by obtain ⟨i, hi, _, hn, _⟩ := ty3.info'; exact ⟨i, hi, by rw [hn]; decide⟩⟩
theorem fa260_2 : FA prog 260 2 2 := ⟨_, underlying260, _, rfl, rfl, by obtain ⟨i, hi, _, hn, _⟩ := ty72.info'; exact ⟨i, hi, by rw [hn]; decide⟩⟩
theorem fa260_3 : FA prog 260 3 4 := ⟨_, underlying260, _, rfl, rfl, by obtain ⟨i, hi, _, hn, _⟩ := ty69.info'; exact ⟨i, hi, by rw [hn]; decide⟩⟩
theorem fa260_4 : FA prog 260 4 5 := ⟨_, underlying260, _, rfl, rfl, by obtain ⟨i, hi, _, hn, _⟩ := ty35.info'; exact ⟨i, hi, by rw [hn]; decide⟩⟩
theorem pl38 : PL prog 38 #[(0, 1), (1, 1)] := ⟨_, underlying38, fun w => by simp [ty35.sizeOf w]⟩
theorem pl42 : PL prog 42 #[(0, 2), (2, 1), (3, 1)] := ⟨_, underlying42, fun w => by simp [ty38.sizeOf w]⟩
theorem pl57 : PL prog 57 #[(0, 1), (1, 1)] := ⟨_, underlying57, fun w => by simp [ty3.sizeOf w]⟩
theorem pl59 : PL prog 59 #[(0, 1), (1, 2)] := ⟨_, underlying59, fun w => by simp [ty3.sizeOf w]⟩
theorem pl72 : PL prog 72 #[(0, 1), (1, 1)] := ⟨_, underlying72, fun w => by simp [ty69.sizeOf w]⟩
theorem pl76 : PL prog 76 #[(0, 1), (1, 1), (2, 1), (3, 1)] := ⟨_, underlying76, fun w => by simp [ty74.sizeOf w]⟩
theorem pl80 : PL prog 80 #[(0, 1), (1, 2)] := ⟨_, underlying80, fun w => by simp [ty3.sizeOf w]⟩
theorem pl97 : PL prog 97 #[(0, 1), (1, 1)] := ⟨_, underlying97, fun w => by simp [ty9.sizeOf w]⟩
theorem pl99 : PL prog 99 #[(0, 2), (2, 1)] := ⟨_, underlying99, fun w => by simp [ty97.sizeOf w]⟩
theorem pl121 : PL prog 121 #[(0, 4), (4, 4)] := ⟨_, underlying121, fun w => by simp [ty42.sizeOf w]⟩
theorem pl169 : PL prog 169 #[(0, 1), (1, 1)] := ⟨_, underlying169, fun w => by simp [ty53.sizeOf w]⟩
theorem pl177 : PL prog 177 #[(0, 2), (2, 1)] := ⟨_, underlying177, fun w => by simp [ty97.sizeOf w]⟩
theorem pl218 : PL prog 218 #[(0, 1), (1, 1), (2, 1), (3, 1), (4, 2)] := ⟨_, underlying218, fun w => by simp [ty3.sizeOf w]⟩
theorem pl260 : PL prog 260 #[(0, 1), (1, 1), (2, 2), (4, 1), (5, 1)] := ⟨_, underlying260, fun w => by simp [ty3.sizeOf w]⟩
theorem ae97 : AEq prog 97 Tag := ⟨by kernel_rfl, fun d a b w => by
 rw [run_equalIn_agg w (d + 2) 97 _ _ (by kernel_rfl) (by kernel_rfl)]
 simp only [Program.fieldsOf, underlying97, Flat.enc, List.cons_append, List.nil_append]
 simp [Op.eqFields, part, ty9.isAgg, ty9.sizeOf, run_equalIn_string w (d + 1) 9 _ _ underlying9, seq_dec]
 by_cases h0 : a.1 = b.1 <;> by_cases h1 : a.2 = b.2 <;> simp [h0, h1, Prod.ext_iff]⟩
noncomputable def p_spec_l6In (v0 : Int) (v1 : Int) (v2 : Int) : Option (Bool) := bd (cond (decide (v1 ≤ v0)) (some (decide (v0 ≤ v2))) (some (false))) fun b1 => some b1
theorem c_spec_l6In {r : Bool} (v0 : Int) (v1 : Int) (v2 : Int) (H : p_spec_l6In v0 v1 v2 = some r) : Fn' prog 75 #[.int .i64 (v0), .int .i64 (v1), .int .i64 (v2)] [] [] (ι := Unit) (fun _ => .bool (r)) (fun _ => []) (fun _ => []) := by
 refine cof (args := [_, _, _]) func75 ntmps75 fun c => ?_
 unfold p_spec_l6In at H
 refine sr (aH (v := .bool (false)) rfl (nl (bdo H fun b1 j2 H => (dE [(6, .bool (b1))] ?_ ?_))))
 ·refine dI [(0, .int .i64 (v0)), (1, .int .i64 (v1)), (2, .int .i64 (v2))] ⟨rfl, rfl, rfl, trivial⟩ (bC rfl (bC rfl (aY (p_geq rfl rfl) ?_)))
  rcases aL (decide (v1 ≤ v0)) with h3 | h3
  ·have j2 := cdT h3 j2
   refine bD (aE rfl) h3 (aZ rfl (aE rfl) (aZ rfl (aE rfl) (aZ rfl (p_leq rfl rfl) (aY (bQ rfl rfl) (aY (p_assign rfl) ?_)))))
   obtain rfl := si j2
   show At _ _ _ _ _ _
   exact n1 ⟨rfl, trivial⟩
  ·have j2 := cdF h3 j2
   refine bD (aE rfl) h3 ?_
   iterate 3 refine bF rfl ?_
   refine aY (v := .bool (false)) (bP rfl rfl) (aY (v := .bool (false)) (p_assign rfl) ?_)
   obtain rfl := si j2
   show At _ _ _ _ _ _
   exact n1 ⟨rfl, trivial⟩
 obtain rfl := si H
 exact bR bk
noncomputable def p_spec_l3Tag (v0 : Tag) : Option (Bool) := bd (cond (decide ((v0.1.size : Int) = 1)) (cond (decide ((v0.2.size : Int) = 1)) (gd (ix 0 v0.1.size) <| bd (p_spec_l6In ((sb v0.1 0).toNat : Int) 97 100) fun r7 => cond (r7) (gd (ix 0 v0.2.size) <| bd (p_spec_l6In ((sb v0.2 0).toNat : Int) 112 122) fun r11 => some (r11)) (some (false))) (some (false))) (some (false))) fun b2 => some b2
theorem c_spec_l3Tag {r : Bool} (v0 : Tag) (H : p_spec_l3Tag v0 = some r) : Fn' prog 98 #[.agg #[.string (v0.1), .string (v0.2)]] [] [] (ι := Unit) (fun _ => .bool (r)) (fun _ => []) (fun _ => []) := by
 refine cof (args := [_]) func98 ntmps98 fun c => ?_
 unfold p_spec_l3Tag at H
 refine sr (f1 (cD (t := 97) rfl) fun g1 => (aH (v := .bool (false)) rfl (nl (bdo H fun b2 j3 H => (dE [(2, .bool (b2))] ?_ ?_)))))
 ·refine dI [(1, .pointer (some ⟨g1, 0, none⟩))] ⟨rfl, trivial⟩ (aY (cC fa97_0 rfl rfl) (bA (bJ ty9 rfl aB rfl) (aY (p_slen dZ rfl) (aY (cV rfl rfl) ?_))))
  rcases aL (decide ((v0.1.size : Int) = 1)) with h4 | h4
  ·have j3 := cdT h4 j3
   refine bD (aE rfl) h4 (aZ rfl (cC fa97_1 rfl rfl) (bB rfl (bJ ty9 rfl aB rfl) (aZ rfl (p_slen dZ rfl) (aZ rfl (cV rfl rfl) (aY (bQ rfl rfl) ?_)))))
   rcases aL (decide ((v0.2.size : Int) = 1)) with h5 | h5
   ·have j3 := cdT h5 j3
    refine bD (aE rfl) h5 (aZ rfl (cC fa97_0 rfl rfl) (bB rfl (bJ ty9 rfl aB rfl) (gdo j3 fun h6 j3 => (aZ rfl (p_six dZ rfl rfl h6) (aZ rfl (p_i8 dT dN rfl) (bdo j3 fun r7 h8 j3 => (bB rfl (bO (c_spec_l6In ((sb v0.1 0).toNat : Int) 97 100 h8) rfl aP) (aY (bQ rfl rfl) ?_))))))))
    rcases aL (r7) with h9 | h9
    ·have j3 := cdT h9 j3
     refine bD (aE rfl) h9 (aZ rfl (cC fa97_1 rfl rfl) (bB rfl (bJ ty9 rfl aB rfl) (gdo j3 fun h10 j3 => (aZ rfl (p_six dZ rfl rfl h10) (aZ rfl (p_i8 dT dN rfl) (bdo j3 fun r11 h12 j3 => (bB rfl (bO (c_spec_l6In ((sb v0.2 0).toNat : Int) 112 122 h12) rfl aP) (aY (bQ rfl rfl) (aY (p_assign rfl) ?_)))))))))
     obtain rfl := si j3
     show At _ _ _ _ _ _
     exact n1 ⟨rfl, trivial⟩
    ·have j3 := cdF h9 j3
     refine bD (aE rfl) h9 ?_
     iterate 5 refine bF rfl ?_
     refine aY (v := .bool (false)) (bP rfl rfl) (aY (v := .bool (false)) (p_assign rfl) ?_)
     obtain rfl := si j3
     show At _ _ _ _ _ _
     exact n1 ⟨rfl, trivial⟩
   ·have j3 := cdF h5 j3
    refine bD (aE rfl) h5 ?_
    iterate 5 refine bF rfl ?_
    refine aY (v := .bool (false)) (bP rfl rfl) (bC (v := .bool (false)) rfl ?_)
    iterate 5 refine bF rfl ?_
    refine aY (v := .bool (false)) (bP rfl rfl) (aY (v := .bool (false)) (p_assign rfl) ?_)
    obtain rfl := si j3
    show At _ _ _ _ _ _
    exact n1 ⟨rfl, trivial⟩
  ·have j3 := cdF h4 j3
   refine bD (aE rfl) h4 ?_
   iterate 4 refine bF rfl ?_
   refine aY (v := .bool (false)) (bP rfl rfl) (bC (v := .bool (false)) rfl ?_)
   iterate 5 refine bF rfl ?_
   refine aY (v := .bool (false)) (bP rfl rfl) (bC (v := .bool (false)) rfl ?_)
   iterate 5 refine bF rfl ?_
   refine aY (v := .bool (false)) (bP rfl rfl) (aY (v := .bool (false)) (p_assign rfl) ?_)
   obtain rfl := si j3
   show At _ _ _ _ _ _
   exact n1 ⟨rfl, trivial⟩
 obtain rfl := si H
 exact bR bk
noncomputable def p_spec_NameOk_b0 (v0 : (List Tag)) (Q5 : Int) : Option ((Int) ⊕ (Unit ⊕ Bool)) := cond (decide (Q5 < (v0.length : Int))) (bd (gd (ix Q5 v0.length) <| bd (p_spec_l3Tag (nth v0 Q5.toNat)) fun r17 => cond (!r17) (some (true)) (cond (decide (0 < Q5)) (gd (I64 (Q5 - 1)) <| gd (ix (Q5 - 1) v0.length) <| some (!sless ((nth v0 ((Q5 - 1).toNat)).1) ((nth v0 Q5.toNat).1))) (some (false)))) fun b14 => cond (b14) (some (.inr (.inr false))) (gd (I64 (Q5 + 1)) <| some (.inl (Q5 + 1)))) (some (.inr (.inl ())))
noncomputable def p_spec_NameOk (v0 : (List Tag)) : Option (Bool) := bd (lp (p_spec_NameOk_b0 v0) 0) <| sw (fun _ => bd (p_spec_l6In (v0.length : Int) 1 3) fun r26 => some r26) (fun q => some q)
theorem c_spec_NameOk {r : Bool} (v0 : (List Tag)) (x_v0 : Option Addr × Nat) (H : p_spec_NameOk v0 = some r) : Fn' prog 127 #[.slice x_v0.1 v0.length x_v0.2] [imm (.slice x_v0.1 v0.length x_v0.2) v0] [] (ι := Unit) (fun _ => .bool (r)) (fun _ => []) (fun _ => []) := by
 refine cof (args := [_]) func127 ntmps127 fun c => ?_
 unfold p_spec_NameOk at H
 refine sr (aH (v := .bool (false)) rfl (nl (aD (sr (aH (v := .int .i64 (0)) rfl (nl (bdo H fun x1 hx2 H => (dD (Λ := Unit) H (fun _ _ => [(0, .slice x_v0.1 v0.length x_v0.2)]) (fun _ _ => []) ?_ ?_))))))))
 ·refine aR (dF hx2 () (fun Q5 _ => [(0, .slice x_v0.1 v0.length x_v0.2), (3, .int .i64 (Q5))]) (fun _ _ => []) bL ?_)
  rintro _ Q5 z6 t8 H1 hi9 hb10
  unfold p_spec_NameOk_b0 at H1
  refine aD (sr (aF rfl (aF rfl (aG (bT 97 dK rfl) (aG (cS rfl rfl) (nl (cH H1 rfl (fun h13 H1 => ?_) (fun h13 H1 => ?_))))))))
  ·refine bI (nT (aD (aR (bdo H1 fun b14 j15 H1 => (dE [(33, .bool (b14)), (0, .slice x_v0.1 v0.length x_v0.2), (3, .int .i64 (Q5))] ?_ ?_)))))
   ·refine dG [(0, .slice x_v0.1 v0.length x_v0.2), (3, .int .i64 (Q5))] mixed (.inr (by kernel_rfl)) ⟨rfl, rfl, trivial⟩ rfl (bC rfl (bC rfl (gdo j15 fun h16 j15 => (bA (bX dK ty97 rfl rfl h16 rfl (aO (aM aS))) (bA (v := .agg #[.string ((nth v0 Q5.toNat).1), .string ((nth v0 Q5.toNat).2)]) (cB (i := Q5.toNat) ty97 rfl (aO (aM aS)) h16.lt) (bdo j15 fun r17 h18 j15 => (bA (bO (c_spec_l3Tag (nth v0 Q5.toNat) h18) rfl aP) (aY (cX rfl) ?_))))))))
    rcases aL (!r17) with h19 | h19
    ·have j15 := cdT h19 j15
     refine bD (aE rfl) h19 ?_
     iterate 16 refine bF rfl ?_
     refine aY (v := .bool (true)) (bQ rfl rfl) ?_
     obtain rfl := si j15
     show At _ _ _ _ _ _
     exact n1 ⟨rfl, rfl, rfl, trivial⟩
    ·have j15 := cdF h19 j15
     refine bD (aE rfl) h19 (aZ rfl (aE rfl) (aZ rfl (cW rfl rfl) ?_))
     rcases aL (decide (0 < Q5)) with h20 | h20
     ·have j15 := cdT h20 j15
      refine bE rfl (aE rfl) h20 (aZ rfl (aE rfl) (aZ rfl (aE rfl) (gdo j15 fun h21 j15 => (aZ rfl (cT rfl rfl h21) (gdo j15 fun h22 j15 => (bB rfl (bX dK ty97 rfl rfl h22 rfl (aO (aM aS))) (bB rfl (bZ (j := 0) ((Q5 - 1).toNat) fa97_0 rfl (aO (aM aS)) h22.lt rfl) (bB rfl (cA (i := (Q5 - 1).toNat) (j := 0) ty9 rfl (aO (aM aS)) h22.lt rfl) (aZ rfl (aE rfl) ?_)))))))))
      refine aZ rfl (aE rfl) (bB rfl (bX dK ty97 rfl rfl h16 rfl (aO (aM aS))) (bB rfl (bZ (j := 0) Q5.toNat fa97_0 rfl (aO (aM aS)) h16.lt rfl) (bB rfl (cA (i := Q5.toNat) (j := 0) ty9 rfl (aO (aM aS)) h16.lt rfl) (aZ rfl (p_sgeq rfl rfl) (aZ rfl (bQ rfl rfl) (aY (bP rfl rfl) ?_))))))
      obtain rfl := si j15
      show At _ _ _ _ _ _
      exact n1 ⟨rfl, rfl, rfl, trivial⟩
     ·have j15 := cdF h20 j15
      refine bE rfl (aE rfl) h20 ?_
      iterate 12 refine bF rfl ?_
      refine aZ (v := .bool (false)) rfl (bP rfl rfl) (aY (v := .bool (false)) (bP rfl rfl) ?_)
      obtain rfl := si j15
      show At _ _ _ _ _ _
      exact n1 ⟨rfl, rfl, rfl, trivial⟩
   refine cH H1 rfl (fun h23 H1 => ?_) (fun h23 H1 => ?_)
   ·refine sr (aH (v := .bool (false)) rfl (nl (bR (rB (rT (rT (rB (rT (rT (?_))))))))))
    obtain rfl := hb10 _ (sm H1)
    replace H := sw.r H
    obtain rfl := si H
    exact bk
   ·exact bI (nB (nT (aQ (aF rfl (gdo H1 fun h24 H1 => (aG (bS rfl rfl h24) (aH rfl (aJ (nLI () (hi9 _ (sm H1)) bL)))))))))
  ·exact dB (xT (xT (xE (nMI () (hb10 _ (sm H1)) bL))))
 ·rintro e25 y7 H
  refine nT (sr (aF rfl (aG (bT 97 dK rfl) (bdo H fun r26 h27 H => (aI (bO (c_spec_l6In (v0.length : Int) 1 3 h27) rfl aP) (aH rfl (nl ?_)))))))
  obtain rfl := si H
  exact bR bk
noncomputable def p_spec_l3Text_b0 (v0 : (List Tag)) (Q5 : ByteArray × Int) : Option ((ByteArray × Int) ⊕ (ByteArray)) := cond (decide (Q5.2 < (v0.length : Int))) (cond (decide (0 < Q5.2)) (gd (room (Q5.1.size + (⟨#[44]⟩ : ByteArray).size)) <| gd (ix Q5.2 v0.length) <| gd (room ((Q5.1 ++ (⟨#[44]⟩ : ByteArray)).size + ((nth v0 Q5.2.toNat).1).size)) <| gd (room (((Q5.1 ++ (⟨#[44]⟩ : ByteArray)) ++ ((nth v0 Q5.2.toNat).1)).size + (⟨#[61]⟩ : ByteArray).size)) <| gd (room ((((Q5.1 ++ (⟨#[44]⟩ : ByteArray)) ++ ((nth v0 Q5.2.toNat).1)) ++ (⟨#[61]⟩ : ByteArray)).size + ((nth v0 Q5.2.toNat).2).size)) <| gd (I64 (Q5.2 + 1)) <| some (.inl ((((Q5.1 ++ (⟨#[44]⟩ : ByteArray)) ++ ((nth v0 Q5.2.toNat).1)) ++ (⟨#[61]⟩ : ByteArray)) ++ ((nth v0 Q5.2.toNat).2), Q5.2 + 1))) (gd (ix Q5.2 v0.length) <| gd (room (Q5.1.size + ((nth v0 Q5.2.toNat).1).size)) <| gd (room ((Q5.1 ++ ((nth v0 Q5.2.toNat).1)).size + (⟨#[61]⟩ : ByteArray).size)) <| gd (room (((Q5.1 ++ ((nth v0 Q5.2.toNat).1)) ++ (⟨#[61]⟩ : ByteArray)).size + ((nth v0 Q5.2.toNat).2).size)) <| gd (I64 (Q5.2 + 1)) <| some (.inl (((Q5.1 ++ ((nth v0 Q5.2.toNat).1)) ++ (⟨#[61]⟩ : ByteArray)) ++ ((nth v0 Q5.2.toNat).2), Q5.2 + 1)))) (some (.inr Q5.1))
noncomputable def p_spec_l3Text (v0 : (List Tag)) : Option (ByteArray) := bd (lp (p_spec_l3Text_b0 v0) ((⟨#[]⟩ : ByteArray), 0)) fun x1 => some x1
theorem c_spec_l3Text {r : ByteArray} (v0 : (List Tag)) (x_v0 : Option Addr × Nat) (H : p_spec_l3Text v0 = some r) : Fn' prog 101 #[.slice x_v0.1 v0.length x_v0.2] [imm (.slice x_v0.1 v0.length x_v0.2) v0] [] (ι := Unit) (fun _ => .string (r)) (fun _ => []) (fun _ => []) := by
 refine cof (args := [_]) func101 ntmps101 fun c => ?_
 unfold p_spec_l3Text at H
 refine sr (aH (v := .string ((⟨#[]⟩ : ByteArray))) rfl (nl (sr (aH (v := .string ((⟨#[]⟩ : ByteArray))) rfl (nl (aD (sr (aH (v := .int .i64 (0)) rfl (nl (bdo H fun x1 hx2 H => (dC (ι := Unit) (fun ψ => [(3, .string (x1))]) (fun ψ => []) ?_ ?_)))))))))))
 ·refine aR (dF hx2 () (fun Q5 _ => [(0, .slice x_v0.1 v0.length x_v0.2), (3, .string (Q5.1)), (4, .int .i64 (Q5.2))]) (fun _ _ => []) bL ?_)
  rintro _ Q5 z6 t8 H1 hi9 hb10
  unfold p_spec_l3Text_b0 at H1
  refine aD (sr (aF rfl (aF rfl (aG (bT 97 dK rfl) (aG (cS rfl rfl) (nl (cH H1 rfl (fun h13 H1 => ?_) (fun h13 H1 => ?_))))))))
  ·refine bI (nT (aD (aR (aD (sr (aF rfl (aG (cW rfl rfl) (nl (cH H1 rfl (fun h14 H1 => ?_) (fun h14 H1 => ?_))))))))))
   ·refine aQ (aF rfl (gdo H1 fun h15 H1 => (aG (p_cat rfl rfl h15) (aH rfl (nl (tNwL [(3, .string (Q5.1 ++ (⟨#[44]⟩ : ByteArray))), (0, .slice x_v0.1 v0.length x_v0.2), (4, .int .i64 (Q5.2))] 1 [0, 1, 2, 3, 4, 5, 6, 7, 8, 9, 10, 11, 12, 13] [] [] mixed rfl (by kernel_rfl) (by kernel_rfl) (by decide) dJ ⟨rfl, rfl, rfl, trivial⟩ rfl okNil (w_p rfl (aE rfl) (w_p rfl (aE rfl) (w_p rfl (aE rfl) (gdo H1 fun h16 H1 => ?_))))))))))
    refine w_o rfl (fun F => (bX dK ty97 rfl rfl h16 rfl (aO (aM aS)))) ?_
    refine w_o rfl (fun F => (bZ (j := 0) Q5.2.toNat fa97_0 rfl (aO (aM aS)) h16.lt rfl)) ?_
    refine w_o rfl (fun F => (cA (i := Q5.2.toNat) (j := 0) ty9 rfl (aO (aM aS)) h16.lt rfl)) (gdo H1 fun h17 H1 => (w_p rfl (p_cat rfl rfl h17) (gdo H1 fun h18 H1 => (w_p rfl (p_cat rfl rfl h18) (w_p rfl (aE rfl) (w_p rfl (aE rfl) ?_))))))
    refine w_o rfl (fun F => (bX dK ty97 rfl rfl h16 rfl (aO (aM aS)))) ?_
    refine w_o rfl (fun F => (bZ (j := 0) Q5.2.toNat fa97_1 rfl (aO (aM aS)) h16.lt rfl)) ?_
    refine w_o rfl (fun F => (cA (i := Q5.2.toNat) (j := 1) ty9 rfl (aO (aM aS)) h16.lt rfl)) (gdo H1 fun h19 H1 => (w_p rfl (p_cat rfl rfl h19) (cM ?_)))
    show Rg _ _ _ _ _ _ _ _ _
    exact aH rfl (aJ (nB (nT (aQ (aF rfl (gdo H1 fun h20 H1 => (aG (bS rfl rfl h20) (aH rfl (aJ (nLI () (hi9 _ (sm H1)) bL))))))))))
   ·refine bI (nT (tNwL [(0, .slice x_v0.1 v0.length x_v0.2), (3, .string (Q5.1)), (4, .int .i64 (Q5.2))] 1 [0, 1, 2, 3, 4, 5, 6, 7, 8, 9, 10, 11, 12, 13] [] [] mixed rfl (by kernel_rfl) (by kernel_rfl) (by decide) dJ ⟨rfl, rfl, rfl, trivial⟩ rfl okNil (w_p rfl (aE rfl) (w_p rfl (aE rfl) (w_p rfl (aE rfl) (gdo H1 fun h21 H1 => ?_))))))
    refine w_o rfl (fun F => (bX dK ty97 rfl rfl h21 rfl (aO (aM aS)))) ?_
    refine w_o rfl (fun F => (bZ (j := 0) Q5.2.toNat fa97_0 rfl (aO (aM aS)) h21.lt rfl)) ?_
    refine w_o rfl (fun F => (cA (i := Q5.2.toNat) (j := 0) ty9 rfl (aO (aM aS)) h21.lt rfl)) (gdo H1 fun h22 H1 => (w_p rfl (p_cat rfl rfl h22) (gdo H1 fun h23 H1 => (w_p rfl (p_cat rfl rfl h23) (w_p rfl (aE rfl) (w_p rfl (aE rfl) ?_))))))
    refine w_o rfl (fun F => (bX dK ty97 rfl rfl h21 rfl (aO (aM aS)))) ?_
    refine w_o rfl (fun F => (bZ (j := 0) Q5.2.toNat fa97_1 rfl (aO (aM aS)) h21.lt rfl)) ?_
    refine w_o rfl (fun F => (cA (i := Q5.2.toNat) (j := 1) ty9 rfl (aO (aM aS)) h21.lt rfl)) (gdo H1 fun h24 H1 => (w_p rfl (p_cat rfl rfl h24) (cM ?_)))
    show Rg _ _ _ _ _ _ _ _ _
    exact aH rfl (aJ (nB (nT (aQ (aF rfl (gdo H1 fun h25 H1 => (aG (bS rfl rfl h25) (aH rfl (aJ (nLI () (hi9 _ (sm H1)) bL))))))))))
  ·refine dB (xT (xT (xE (?_))))
   obtain rfl := hb10 _ (sm H1)
   exact nMC () ⟨rfl, trivial⟩ bU bL
 ·intro y7
  show At _ _ [(3, .string (x1))] _ [] _
  refine nT (sr (aF rfl (aH rfl (nl ?_))))
  obtain rfl := si H
  exact bR bk
noncomputable def p_spec_l3Has_b0 (v0 : (List Tag)) (v1 : Tag) (Q6 : Int) : Option ((Int) ⊕ (Unit ⊕ Bool)) := cond (decide (Q6 < (v0.length : Int))) (gd (ix Q6 v0.length) <| cond (decide (nth v0 Q6.toNat = v1)) (some (.inr (.inr true))) (gd (I64 (Q6 + 1)) <| some (.inl (Q6 + 1)))) (some (.inr (.inl ())))
noncomputable def p_spec_l3Has (v0 : (List Tag)) (v1 : Tag) : Option (Bool) := bd (lp (p_spec_l3Has_b0 v0 v1) 0) <| sw (fun _ => some false) (fun q => some q)
theorem c_spec_l3Has {r : Bool} (v0 : (List Tag)) (x_v0 : Option Addr × Nat) (v1 : Tag) (H : p_spec_l3Has v0 v1 = some r) : Fn' prog 182 #[.slice x_v0.1 v0.length x_v0.2, .agg #[.string (v1.1), .string (v1.2)]] [imm (.slice x_v0.1 v0.length x_v0.2) v0] [] (ι := Unit) (fun _ => .bool (r)) (fun _ => []) (fun _ => []) := by
 refine cof (args := [_, _]) func182 ntmps182 fun c => ?_
 unfold p_spec_l3Has at H
 refine sr (f1 (cD (t := 97) rfl) fun g1 => (aH (v := .bool (false)) rfl (nl (aD (sr (aH (v := .int .i64 (0)) rfl (nl (bdo H fun x2 hx3 H => (dD (Λ := Unit) H (fun _ _ => []) (fun _ _ => []) ?_ ?_)))))))))
 ·refine aR (dF hx3 () (fun Q6 _ => [(0, .slice x_v0.1 v0.length x_v0.2), (3, .pointer (some ⟨g1, 0, none⟩)), (5, .int .i64 (Q6))]) (fun _ _ => [box g1 97 [.string (v1.1), .string (v1.2)]]) (.cons aA .nil) ?_)
  rintro _ Q6 z7 t9 H1 hi10 hb11
  unfold p_spec_l3Has_b0 at H1
  refine aD (sr (aF rfl (aF rfl (aG (bT 97 dK rfl) (aG (cS rfl rfl) (nl (cH H1 rfl (fun h14 H1 => ?_) (fun h14 H1 => ?_))))))))
  ·refine bI (nT (aD (aR (aD (dG [(0, .slice x_v0.1 v0.length x_v0.2), (3, .pointer (some ⟨g1, 0, none⟩)), (5, .int .i64 (Q6))] mixed (.inr (by kernel_rfl)) ⟨rfl, rfl, rfl, trivial⟩ rfl (bC rfl (bC rfl (gdo H1 fun h15 H1 => (bA (bX dK ty97 rfl rfl h15 rfl (aO (aM aS))) (bA (v := .agg #[.string ((nth v0 Q6.toNat).1), .string ((nth v0 Q6.toNat).2)]) (cB (i := Q6.toNat) ty97 rfl (aO (aM aS)) h15.lt) ?_))))))))))
   refine bA (bK ty97 rfl aB rfl) (aY (v := .bool (decide (nth v0 Q6.toNat = v1))) (p_aeql (a := nth v0 Q6.toNat) (b := v1) ae97 rfl rfl rfl rfl) (nT (cH H1 rfl (fun h16 H1 => ?_) (fun h16 H1 => ?_))))
   ·refine sr (aH (v := .bool (true)) rfl (nl (bR (rB (rT (rT (rB (rT (rT (?_))))))))))
    obtain rfl := hb11 _ (sm H1)
    replace H := sw.r H
    obtain rfl := si H
    exact bk
   ·exact bI (nB (nT (aQ (aF rfl (gdo H1 fun h17 H1 => (aG (bS rfl rfl h17) (aH rfl (aJ (nLI () (hi10 _ (sm H1)) (.cons aA .nil))))))))))
  ·exact dB (xT (xT (xE (nMI () (hb11 _ (sm H1)) bL))))
 ·rintro e18 y8 H
  refine nT (sr (aH (v := .bool (false)) rfl (nl ?_)))
  obtain rfl := si H
  exact bR bk
noncomputable def p_spec_l11Ids_b0 (v0 : (List (List Tag))) (v1 : Tag) (Q9 : (List Int) × Int) : Option (((List Int) × Int) ⊕ ((List Int))) := cond (decide (Q9.2 < (v0.length : Int))) (gd (ix Q9.2 v0.length) <| bd (p_spec_l3Has (nth v0 Q9.2.toNat) v1) fun r19 => cond (r19) (gd (I64 (Q9.2 + 1)) <| gd (room (Q9.1.length + 1)) <| some (.inl ((Q9.1 ++ [Q9.2 + 1]), Q9.2 + 1))) (gd (I64 (Q9.2 + 1)) <| some (.inl (Q9.1, Q9.2 + 1)))) (some (.inr Q9.1))
noncomputable def p_spec_l11Ids (v0 : (List (List Tag))) (v1 : Tag) : Option ((List Int)) := bd (lp (p_spec_l11Ids_b0 v0 v1) (([] : List Int), 0)) fun x5 => some x5
theorem c_spec_l11Ids {r : (List Int)} (v0 : (List (List Tag))) (x_v0 : Option Addr × Nat) (v1 : Tag) (H : p_spec_l11Ids v0 v1 = some r) : Fn' prog 129 #[.slice x_v0.1 v0.length x_v0.2, .agg #[.string (v1.1), .string (v1.2)]] [imm (.slice x_v0.1 v0.length x_v0.2) v0] [] (ι := Option Addr × Nat) (fun x => .slice x.1 r.length x.2) (fun _ => []) (fun x => [tree (.slice x.1 r.length x.2) r]) := by
 refine cof (args := [_, _]) func129 ntmps129 fun c => ?_
 unfold p_spec_l11Ids at H
 refine bN aS fun X1 => (sr (f1 (cD (t := 97) rfl) fun g2 => (aH (v := .slice none 0 0) rfl (nl (sr (f2 (e_lit0 Int dW ty3) fun a3 c4 => (aH rfl (nl (aD (sr (aH (v := .int .i64 (0)) rfl (nl (bdo H fun x5 hx6 H => ?_)))))))))))))
 refine dC (ι := Option Addr × Nat) (fun ψ => [(5, .slice ψ.1 x5.length ψ.2)]) (fun ψ => [tree (.slice ψ.1 x5.length ψ.2) x5]) ?_ ?_
 ·refine aR (dF hx6 (a3, c4) (fun Q9 z10 => [(0, .slice x_v0.1 v0.length x_v0.2), (3, .pointer (some ⟨g2, 0, none⟩)), (5, .slice z10.1 Q9.1.length z10.2), (6, .int .i64 (Q9.2))]) (fun Q9 z10 => [box g2 97 [.string (v1.1), .string (v1.2)], tree (.slice z10.1 Q9.1.length z10.2) Q9.1]) (.cons dl1 (.cons aA .nil)) ?_)
  rintro _ Q9 z10 t12 H1 hi13 hb14
  unfold p_spec_l11Ids_b0 at H1
  refine aD (sr (aF rfl (aF rfl (aG (bT 105 dO rfl) (aG (cS rfl rfl) (nl (cH H1 rfl (fun h17 H1 => ?_) (fun h17 H1 => ?_))))))))
  ·refine bI (nT (aD (aR (aD (dG [(0, .slice x_v0.1 v0.length x_v0.2), (3, .pointer (some ⟨g2, 0, none⟩)), (5, .slice z10.1 Q9.1.length z10.2), (6, .int .i64 (Q9.2))] mixed (.inr (by kernel_rfl)) ⟨rfl, rfl, rfl, rfl, trivial⟩ rfl (bC rfl (bC rfl (gdo H1 fun h18 H1 => (bA (bX dO ty105 rfl rfl h18 rfl (aM (aU aS))) (bA (cA (i := Q9.2.toNat) (j := 0) ty105 rfl (aM (aU aS)) h18.lt rfl) ?_))))))))))
   refine bA (bK ty97 rfl aB rfl) (bdo H1 fun r19 h20 H1 => (bA (bO (c_spec_l3Has (nth v0 Q9.2.toNat) ((X1 Q9.2.toNat).1, (X1 Q9.2.toNat).2.1) v1 h20) rfl (aC (aM (aT (aX aS h18.lt))) aP)) (nT (cH H1 rfl (fun h21 H1 => ?_) (fun h21 H1 => ?_)))))
   ·refine aQ (aF rfl (aF rfl (gdo H1 fun h22 H1 => (aG (bS rfl rfl h22) (f1 (e_lit (vs := [(0, .int .i64 (Q9.2 + 1))]) [.int .i64 (Q9.2 + 1)] dW ty3 rfl (by decide) (by decide) (by kernel_rfl)) fun g23 => (gdo H1 fun h26 H1 => (f2 (e_app1 (l := Q9.1) (α := Int) (Q9.2 + 1) () dW ty3 rfl rfl (h26.b (by decide)) h26.x rfl (cY _) (.cons dl2 (.cons aA .nil))) fun a24 c25 => (aH rfl (aJ (nB (nT (?_))))))))))))
    exact aQ (aF rfl (aG (bS rfl rfl h22) (aH rfl (aJ (nLI (a24, c25) (hi13 _ (sm H1)) (.cons dl1 (.cons aA .nil)))))))
   ·exact bI (nB (nT (aQ (aF rfl (gdo H1 fun h27 H1 => (aG (bS rfl rfl h27) (aH rfl (aJ (nLI (z10.1, z10.2) (hi13 _ (sm H1)) (.cons aA (.cons aA .nil)))))))))))
  ·refine dB (xT (xT (xE (?_))))
   obtain rfl := hb14 _ (sm H1)
   exact nMC (z10.1, z10.2) ⟨rfl, trivial⟩ bU (.cons dl1 .nil)
 ·intro y11
  show At _ _ [(5, .slice y11.1 x5.length y11.2)] _ [tree (.slice y11.1 x5.length y11.2) x5] _
  refine nT (sr (aF rfl (aH rfl (nl (bR ?_)))))
  obtain rfl := si H
  exact back1 y11 rfl (ResV.tmp (v := .slice y11.1 x5.length y11.2) rfl) rfl cO (.cons aA .nil)
noncomputable def p_spec_l11Less (v0 : Tag) (v1 : Tag) : Option (Bool) := bd (cond (sless v0.1 v1.1) (some (true)) (cond (decide (v0.1 = v1.1)) (some (sless v0.2 v1.2)) (some (false)))) fun b3 => some b3
theorem c_spec_l11Less {r : Bool} (v0 : Tag) (v1 : Tag) (H : p_spec_l11Less v0 v1 = some r) : Fn' prog 130 #[.agg #[.string (v0.1), .string (v0.2)], .agg #[.string (v1.1), .string (v1.2)]] [] [] (ι := Unit) (fun _ => .bool (r)) (fun _ => []) (fun _ => []) := by
 refine cof (args := [_, _]) func130 ntmps130 fun c => ?_
 unfold p_spec_l11Less at H
 refine sr (f1 (cD (t := 97) rfl) fun g1 => (f1 (cD (t := 97) rfl) fun g2 => (aH (v := .bool (false)) rfl (nl (bdo H fun b3 j4 H => (dE [(4, .bool (b3))] ?_ ?_))))))
 ·refine dI [(3, .pointer (some ⟨g2, 0, none⟩)), (2, .pointer (some ⟨g1, 0, none⟩))] ⟨rfl, rfl, trivial⟩ (aY (cC fa97_0 rfl rfl) (bA (bJ ty9 rfl hs1 rfl) (aY (cC fa97_0 rfl rfl) (bA (bJ ty9 rfl aB rfl) (aY (p_slss rfl rfl) ?_)))))
  rcases aL (sless v0.1 v1.1) with h5 | h5
  ·have j4 := cdT h5 j4
   refine bD (aE rfl) h5 ?_
   iterate 12 refine bF rfl ?_
   refine aY (v := .bool (true)) (bQ rfl rfl) (aY (v := .bool (true)) (p_assign rfl) ?_)
   obtain rfl := si j4
   show At _ _ _ _ _ _
   exact n1 ⟨rfl, trivial⟩
  ·have j4 := cdF h5 j4
   refine bD (aE rfl) h5 (aZ rfl (cC fa97_0 rfl rfl) (bB rfl (bJ ty9 rfl hs1 rfl) (aZ rfl (cC fa97_0 rfl rfl) (bB rfl (bJ ty9 rfl aB rfl) (aZ rfl (p_seql rfl rfl) ?_)))))
   rcases aL (decide (v0.1 = v1.1)) with h6 | h6
   ·have j4 := cdT h6 j4
    refine bE rfl (aE rfl) h6 (aZ rfl (cC fa97_1 rfl rfl) (bB rfl (bJ ty9 rfl hs1 rfl) (aZ rfl (cC fa97_1 rfl rfl) (bB rfl (bJ ty9 rfl aB rfl) (aZ rfl (p_slss rfl rfl) (aZ rfl (bQ rfl rfl) (aY (bP rfl rfl) (aY (p_assign rfl) ?_))))))))
    obtain rfl := si j4
    show At _ _ _ _ _ _
    exact n1 ⟨rfl, trivial⟩
   ·have j4 := cdF h6 j4
    refine bE rfl (aE rfl) h6 ?_
    iterate 5 refine bF rfl ?_
    refine aZ (v := .bool (false)) rfl (bP rfl rfl) (aY (v := .bool (false)) (bP rfl rfl) (aY (v := .bool (false)) (p_assign rfl) ?_))
    obtain rfl := si j4
    show At _ _ _ _ _ _
    exact n1 ⟨rfl, trivial⟩
 obtain rfl := si H
 exact bR bk
noncomputable def p_spec_l11Same_b0 (v0 : (List Int)) (v1 : (List Int)) (Q6 : Int) : Option ((Int) ⊕ (Unit ⊕ Bool)) := cond (decide (Q6 < (v0.length : Int))) (gd (ix Q6 v0.length) <| gd (ix Q6 v1.length) <| cond (!decide ((nth v0 Q6.toNat) = (nth v1 Q6.toNat))) (some (.inr (.inr false))) (gd (I64 (Q6 + 1)) <| some (.inl (Q6 + 1)))) (some (.inr (.inl ())))
noncomputable def p_spec_l11Same (v0 : (List Int)) (v1 : (List Int)) : Option (Bool) := cond (!decide ((v0.length : Int) = (v1.length : Int))) (some false) (bd (lp (p_spec_l11Same_b0 v0 v1) 0) <| sw (fun _ => some true) (fun q => some q))
theorem c_spec_l11Same {r : Bool} (v0 : (List Int)) (x_v0 : Option Addr × Nat) (v1 : (List Int)) (x_v1 : Option Addr × Nat) (H : p_spec_l11Same v0 v1 = some r) : Fn' prog 128 #[.slice x_v0.1 v0.length x_v0.2, .slice x_v1.1 v1.length x_v1.2] [imm (.slice x_v0.1 v0.length x_v0.2) v0, imm (.slice x_v1.1 v1.length x_v1.2) v1] [] (ι := Unit) (fun _ => .bool (r)) (fun _ => []) (fun _ => []) := by
 refine cof (args := [_, _]) func128 ntmps128 fun c => ?_
 unfold p_spec_l11Same at H
 refine sr (aH (v := .bool (false)) rfl (nl (aD (sr (aF rfl (aG (bT 3 dW rfl) (aF rfl (aG (bT 3 dW rfl) (aG (cU rfl rfl) (nl (cH H rfl (fun h1 H => ?_) (fun h1 H => ?_))))))))))))
 ·refine sr (aH (v := .bool (false)) rfl (nl (bR (rT (?_)))))
  obtain rfl := si H
  exact bk
 ·refine bI (nT (aD (sr (aH (v := .int .i64 (0)) rfl (nl (bdo H fun x2 hx3 H => (dD (Λ := Unit) H (fun _ _ => []) (fun _ _ => []) ?_ ?_)))))))
  ·refine aR (dF hx3 () (fun Q6 _ => [(0, .slice x_v0.1 v0.length x_v0.2), (1, .slice x_v1.1 v1.length x_v1.2), (5, .int .i64 (Q6))]) (fun _ _ => []) bL ?_)
   rintro _ Q6 z7 t9 H1 hi10 hb11
   unfold p_spec_l11Same_b0 at H1
   refine aD (sr (aF rfl (aF rfl (aG (bT 3 dW rfl) (aG (cS rfl rfl) (nl (cH H1 rfl (fun h14 H1 => ?_) (fun h14 H1 => ?_))))))))
   ·refine bI (nT (aD (aR (aD (dG [(0, .slice x_v0.1 v0.length x_v0.2), (1, .slice x_v1.1 v1.length x_v1.2), (5, .int .i64 (Q6))] mixed (.inr (by kernel_rfl)) ⟨rfl, rfl, rfl, trivial⟩ rfl (bC rfl (bC rfl (gdo H1 fun h15 H1 => (bA (bX dW ty3 rfl rfl h15 rfl (aO (aM aS))) (bA (cA (i := Q6.toNat) (j := 0) ty3 rfl (aO (aM aS)) h15.lt rfl) ?_))))))))))
    refine bC rfl (bC rfl (gdo H1 fun h16 H1 => (bA (bX dW ty3 rfl rfl h16 rfl (aO (aM aS.s))) (bA (cA (i := Q6.toNat) (j := 0) ty3 rfl (aO (aM aS.s)) h16.lt rfl) (aY (cU rfl rfl) (nT (cH H1 rfl (fun h17 H1 => ?_) (fun h17 H1 => ?_))))))))
    ·refine sr (aH (v := .bool (false)) rfl (nl (bR (rB (rT (rT (rB (rT (rT (?_))))))))))
     obtain rfl := hb11 _ (sm H1)
     replace H := sw.r H
     obtain rfl := si H
     exact bk
    ·exact bI (nB (nT (aQ (aF rfl (gdo H1 fun h18 H1 => (aG (bS rfl rfl h18) (aH rfl (aJ (nLI () (hi10 _ (sm H1)) bL)))))))))
   ·exact dB (xT (xT (xE (nMI () (hb11 _ (sm H1)) bL))))
  ·rintro e19 y8 H
   refine nT (sr (aH (v := .bool (true)) rfl (nl ?_)))
   obtain rfl := si H
   exact bR bk
noncomputable def p_spec_IndexOk_b1 (v0 : Index) (Q9 : Int × Int) (Q26 : Int) : Option ((Int) ⊕ (Unit ⊕ Bool)) := cond (decide (Q26 < Q9.2)) (bd (p_spec_l3Text (nth v0.1 Q9.2.toNat)) fun r35 => gd (ix Q26 v0.1.length) <| bd (p_spec_l3Text (nth v0.1 Q26.toNat)) fun r38 => cond (decide (r35 = r38)) (some (.inr (.inr false))) (gd (I64 (Q26 + 1)) <| some (.inl (Q26 + 1)))) (some (.inr (.inl ())))
noncomputable def p_spec_IndexOk_b0 (v0 : Index) (Q9 : Int × Int) : Option ((Int × Int) ⊕ (Int ⊕ Bool)) := cond (decide (Q9.2 < (v0.1.length : Int))) (gd (ix Q9.2 v0.1.length) <| bd (p_spec_NameOk (nth v0.1 Q9.2.toNat)) fun r19 => cond (!r19) (some (.inr (.inr false))) (bd (lp (p_spec_IndexOk_b1 v0 Q9) 0) <| sw (fun _ => gd (I64 (Q9.1 + ((nth v0.1 Q9.2.toNat).length : Int))) <| gd (I64 (Q9.2 + 1)) <| some (.inl (Q9.1 + ((nth v0.1 Q9.2.toNat).length : Int), Q9.2 + 1))) (fun q => some (.inr (.inr q))))) (some (.inr (.inl Q9.1)))
noncomputable def p_spec_IndexOk_b2 (v0 : Index) (Q50 : Int × Int) : Option ((Int × Int) ⊕ (Int ⊕ Bool)) := cond (decide (Q50.2 < (v0.2.length : Int))) (gd (ix Q50.2 v0.2.length) <| cond (decide ((((nth v0.2 Q50.2.toNat).2).length : Int) = 0)) (some (.inr (.inr false))) (bd (p_spec_l11Ids v0.1 ((nth v0.2 Q50.2.toNat).1)) fun r62 => bd (p_spec_l11Same ((nth v0.2 Q50.2.toNat).2) r62) fun r65 => cond (!r65) (some (.inr (.inr false))) (cond (decide (0 < Q50.2)) (gd (I64 (Q50.2 - 1)) <| gd (ix (Q50.2 - 1) v0.2.length) <| bd (p_spec_l11Less ((nth v0.2 ((Q50.2 - 1).toNat)).1) ((nth v0.2 Q50.2.toNat).1)) fun r71 => cond (!r71) (some (.inr (.inr false))) (gd (I64 (Q50.1 - (((nth v0.2 Q50.2.toNat).2).length : Int))) <| gd (I64 (Q50.2 + 1)) <| some (.inl (Q50.1 - (((nth v0.2 Q50.2.toNat).2).length : Int), Q50.2 + 1)))) (gd (I64 (Q50.1 - (((nth v0.2 Q50.2.toNat).2).length : Int))) <| gd (I64 (Q50.2 + 1)) <| some (.inl (Q50.1 - (((nth v0.2 Q50.2.toNat).2).length : Int), Q50.2 + 1)))))) (some (.inr (.inl Q50.1)))
noncomputable def p_spec_IndexOk (v0 : Index) : Option (Bool) := cond (decide (6 < (v0.1.length : Int))) (some false) (bd (lp (p_spec_IndexOk_b0 v0) (0, 0)) <| sw (fun e45 => bd (lp (p_spec_IndexOk_b2 v0) (e45, 0)) <| sw (fun e78 => some (decide (e78 = 0))) (fun q => some q)) (fun q => some q))
theorem c_spec_IndexOk {r : Bool} (v0 : Index) (x_v0 : (Option Addr × Nat) × (Option Addr × Nat)) (H : p_spec_IndexOk v0 = some r) : Fn' prog 73 #[.agg #[.slice x_v0.1.1 v0.1.length x_v0.1.2, .slice x_v0.2.1 v0.2.length x_v0.2.2]] [imm (.slice x_v0.1.1 v0.1.length x_v0.1.2) v0.1, imm (.slice x_v0.2.1 v0.2.length x_v0.2.2) v0.2] [] (ι := Unit) (fun _ => .bool (r)) (fun _ => []) (fun _ => []) := by
 refine cof (args := [_]) func73 ntmps73 fun c => ?_
 unfold p_spec_IndexOk at H
 refine bN aS fun X1 => (bN aS.s.s fun X2 => (sr (f1 (cD (t := 38) rfl) fun g3 => (aH (v := .bool (false)) rfl (nl (aD (sr (aG (cC fa38_0 rfl rfl) (aI (bJ ty35 rfl aB rfl) (aG (bT 105 dO rfl) (aG (cW rfl rfl) (nl ?_))))))))))))
 refine cH H rfl (fun h4 H => ?_) (fun h4 H => ?_)
 ·refine sr (aH (v := .bool (false)) rfl (nl (bR (rT (?_)))))
  obtain rfl := si H
  exact bk
 ·refine bI (nT (sr (aH (v := .int .i64 (0)) rfl (nl (aD (sr (aH (v := .int .i64 (0)) rfl (nl (bdo H fun x5 hx6 H => (dD (Λ := Unit) H (fun e45 _ => [(1, .pointer (some ⟨g3, 0, none⟩)), (3, .int .i64 (e45))]) (fun _ _ => [box g3 38 [.slice x_v0.1.1 v0.1.length x_v0.1.2, .slice x_v0.2.1 v0.2.length x_v0.2.2]]) ?_ ?_))))))))))
  ·refine aR (dF hx6 () (fun Q9 _ => [(1, .pointer (some ⟨g3, 0, none⟩)), (3, .int .i64 (Q9.1)), (4, .int .i64 (Q9.2))]) (fun _ _ => [box g3 38 [.slice x_v0.1.1 v0.1.length x_v0.1.2, .slice x_v0.2.1 v0.2.length x_v0.2.2]]) (.cons aA .nil) ?_)
   rintro _ Q9 z10 t12 H1 hi13 hb14
   unfold p_spec_IndexOk_b0 at H1
   refine aD (sr (aF rfl (aG (cC fa38_0 rfl rfl) (aI (bJ ty35 rfl aB rfl) (aG (bT 105 dO rfl) (aG (cS rfl rfl) (nl (cH H1 rfl (fun h17 H1 => ?_) (fun h17 H1 => ?_)))))))))
   ·refine bI (nT (aD (aR (aD (sr (aG (cC fa38_0 rfl rfl) (aI (bJ ty35 rfl aB rfl) (aF rfl (gdo H1 fun h18 H1 => (aI (bX dO ty105 rfl rfl h18 rfl (aM (aU aS.s))) (aI (cA (i := Q9.2.toNat) (j := 0) ty105 rfl (aM (aU aS.s)) h18.lt rfl) ?_)))))))))))
    refine bdo H1 fun r19 h20 H1 => (aI (bO (c_spec_NameOk (nth v0.1 Q9.2.toNat) ((X1 Q9.2.toNat).1, (X1 Q9.2.toNat).2.1) h20) rfl (aC (aM (aT (aX aS.s h18.lt))) aP)) (aG (cX rfl) (nl (cH H1 rfl (fun h21 H1 => ?_) (fun h21 H1 => ?_)))))
    ·refine sr (aH (v := .bool (false)) rfl (nl (bR (rT (rB (rT (rT (rB (rT (rT (?_)))))))))))
     obtain rfl := hb14 _ (sm H1)
     replace H := sw.r H
     obtain rfl := si H
     exact bk
    ·refine bI (nT (aD (sr (aH (v := .int .i64 (0)) rfl (nl (bdo H1 fun x22 hx23 H1 => (dD (Λ := Unit) H1 (fun _ _ => [(1, .pointer (some ⟨g3, 0, none⟩)), (3, .int .i64 (Q9.1)), (4, .int .i64 (Q9.2))]) (fun _ _ => [box g3 38 [.slice x_v0.1.1 v0.1.length x_v0.1.2, .slice x_v0.2.1 v0.2.length x_v0.2.2]]) ?_ ?_)))))))
     ·refine aR (dF hx23 () (fun Q26 _ => [(1, .pointer (some ⟨g3, 0, none⟩)), (3, .int .i64 (Q9.1)), (4, .int .i64 (Q9.2)), (5, .int .i64 (Q26))]) (fun _ _ => [box g3 38 [.slice x_v0.1.1 v0.1.length x_v0.1.2, .slice x_v0.2.1 v0.2.length x_v0.2.2]]) (.cons aA .nil) ?_)
      rintro _ Q26 z27 t29 H2 hi30 hb31
      unfold p_spec_IndexOk_b1 at H2
      refine aD (sr (aF rfl (aF rfl (aG (cS rfl rfl) (nl (cH H2 rfl (fun h34 H2 => ?_) (fun h34 H2 => ?_)))))))
      ·refine bI (nT (aD (aR (aD (dG [(1, .pointer (some ⟨g3, 0, none⟩)), (3, .int .i64 (Q9.1)), (4, .int .i64 (Q9.2)), (5, .int .i64 (Q26))] mixed (.inr (by kernel_rfl)) ⟨rfl, rfl, rfl, rfl, trivial⟩ rfl (aY (cC fa38_0 rfl rfl) (bA (bJ ty35 rfl aB rfl) (bC rfl (bA (bX dO ty105 rfl rfl h18 rfl (aM (aU aS.s))) (bA (cA (i := Q9.2.toNat) (j := 0) ty105 rfl (aM (aU aS.s)) h18.lt rfl) ?_))))))))))
       refine bdo H2 fun r35 h36 H2 => (bA (bO (c_spec_l3Text (nth v0.1 Q9.2.toNat) ((X1 Q9.2.toNat).1, (X1 Q9.2.toNat).2.1) h36) rfl (aC (aM (aT (aX aS.s h18.lt))) aP)) (aY (cC fa38_0 rfl rfl) (bA (bJ ty35 rfl aB rfl) (bC rfl (gdo H2 fun h37 H2 => (bA (bX dO ty105 rfl rfl h37 rfl (aM (aU aS.s))) (bA (cA (i := Q26.toNat) (j := 0) ty105 rfl (aM (aU aS.s)) h37.lt rfl) (bdo H2 fun r38 h39 H2 => (bA (bO (c_spec_l3Text (nth v0.1 Q26.toNat) ((X1 Q26.toNat).1, (X1 Q26.toNat).2.1) h39) rfl (aC (aM (aT (aX aS.s h37.lt))) aP)) ?_)))))))))
       refine aY (p_seql rfl rfl) (nT (cH H2 rfl (fun h40 H2 => ?_) (fun h40 H2 => ?_)))
       ·refine sr (aH (v := .bool (false)) rfl (nl (bR (rB (rT (rT (rB (rT (rT (rB (rT (rT (rB (rT (rT (?_))))))))))))))))
        obtain rfl := hb31 _ (sm H2)
        replace H1 := sw.r H1
        obtain rfl := hb14 _ (sm H1)
        replace H := sw.r H
        obtain rfl := si H
        exact bk
       ·exact bI (nB (nT (aQ (aF rfl (gdo H2 fun h41 H2 => (aG (bS rfl rfl h41) (aH rfl (aJ (nLI () (hi30 _ (sm H2)) (.cons aA .nil))))))))))
      ·exact dB (xT (xT (xE (nMI () (hb31 _ (sm H2)) (.cons aA .nil)))))
     ·rintro e42 y28 H1
      refine nT (aQ (aF rfl (aG (cC fa38_0 rfl rfl) (aI (bJ ty35 rfl aB rfl) (aF rfl (aI (bX dO ty105 rfl rfl h18 rfl (aM (aU aS.s))) (aI (cA (i := Q9.2.toNat) (j := 0) ty105 rfl (aM (aU aS.s)) h18.lt rfl) (aG (bT 97 dK rfl) (gdo H1 fun h43 H1 => ?_)))))))))
      exact aG (bS rfl rfl h43) (aH rfl (aJ (nB (nT (aQ (aF rfl (gdo H1 fun h44 H1 => (aG (bS rfl rfl h44) (aH rfl (aJ (nLI () (hi13 _ (sm H1)) (.cons aA .nil))))))))))))
   ·exact dB (xT (xT (xE (nMI () (hb14 _ (sm H1)) (.cons aA .nil)))))
  ·rintro e45 y11 H
   refine nT (aD (sr (aH (v := .int .i64 (0)) rfl (nl (bdo H fun x46 hx47 H => (dD (Λ := Unit) H (fun e78 _ => [(3, .int .i64 (e78))]) (fun _ _ => []) ?_ ?_))))))
   ·refine aR (dF hx47 () (fun Q50 _ => [(1, .pointer (some ⟨g3, 0, none⟩)), (3, .int .i64 (Q50.1)), (6, .int .i64 (Q50.2))]) (fun _ _ => [box g3 38 [.slice x_v0.1.1 v0.1.length x_v0.1.2, .slice x_v0.2.1 v0.2.length x_v0.2.2]]) (.cons aA .nil) ?_)
    rintro _ Q50 z51 t53 H1 hi54 hb55
    unfold p_spec_IndexOk_b2 at H1
    refine aD (sr (aF rfl (aG (cC fa38_1 rfl rfl) (aI (bJ ty36 rfl aB rfl) (aG (bT 177 dP rfl) (aG (cS rfl rfl) (nl (cH H1 rfl (fun h58 H1 => ?_) (fun h58 H1 => ?_)))))))))
    ·refine bI (nT (aD (aR (sr (aG (cC fa38_1 rfl rfl) (aI (bJ ty36 rfl aB rfl) (aF rfl (gdo H1 fun h59 H1 => (aI (bX dP ty177 rfl rfl h59 rfl (aM (aU aS))) (aI (v := .agg #[.string (((nth v0.2 Q50.2.toNat).1).1), .string (((nth v0.2 Q50.2.toNat).1).2), .slice (((X2 Q50.2.toNat).2).1) (((nth v0.2 Q50.2.toNat).2).length) (((X2 Q50.2.toNat).2).2.1)]) (cB (i := Q50.2.toNat) ty177 rfl (aM (aU aS)) h59.lt) ?_))))))))))
     refine f1 (cE ty177) fun g60 => (stb (cs' := [.string (((nth v0.2 Q50.2.toNat).1).1), .string (((nth v0.2 Q50.2.toNat).1).2), .slice (((X2 Q50.2.toNat).2).1) (((nth v0.2 Q50.2.toNat).2).length) (((X2 Q50.2.toNat).2).2.1)]) ty177 cZ (nl (aD (aD ?_))))
     rcases aL (decide ((((nth v0.2 Q50.2.toNat).2).length : Int) = 0)) with h61 | h61
     ·have H1 := cdT h61 H1
      refine dH [(7, .pointer (some ⟨g60, 0, none⟩)), (1, .pointer (some ⟨g3, 0, none⟩)), (3, .int .i64 (Q50.1)), (6, .int .i64 (Q50.2))] 1 [0, 1, 2, 3, 4, 5, 6, 7, 8, 9, 10, 11, 12, 13, 14, 15, 16, 17, 18, 19, 20, 21, 22, 23, 24, 25, 26, 27, 28, 29, 30, 31] [] [] mixed (by kernel_rfl) (by decide) dJ ⟨rfl, rfl, rfl, rfl, trivial⟩ rfl okNil (w_p rfl (cC fa177_1 rfl rfl) ?_)
      refine w_o rfl (fun F => (bJ ty69 rfl (aB.app F) rfl)) (w_p rfl (bT 3 dW rfl) (w_p rfl (cV rfl rfl) (w_p (v := .bool (true)) rfl ((Pu.eqv (v := .bool (decide ((((nth v0.2 Q50.2.toNat).2).length : Int) = 0))) (aE rfl) (congrArg Value.bool h61))) (cJ rfl (by decide) rfl rfl rfl (cJ rfl (by decide) rfl rfl rfl (cJ rfl (by decide) rfl rfl rfl (cJ rfl (by decide) rfl rfl rfl (cJ rfl (by decide) rfl rfl rfl (cJ rfl (by decide) rfl rfl rfl ?_)))))))))
      refine cJ rfl (by decide) rfl rfl rfl (cJ rfl (by decide) rfl rfl rfl (cJ rfl (by decide) rfl rfl rfl (w_p (v := .bool (true)) rfl (bQ rfl rfl) (w_p (v := .bool (true)) rfl (aE rfl) (cJ rfl (by decide) rfl rfl rfl (cJ rfl (by decide) rfl rfl rfl (cJ rfl (by decide) rfl rfl rfl (cJ rfl (by decide) rfl rfl rfl (cJ rfl (by decide) rfl rfl rfl ?_)))))))))
      refine cJ rfl (by decide) rfl rfl rfl (cJ rfl (by decide) rfl rfl rfl (cJ rfl (by decide) rfl rfl rfl (cJ rfl (by decide) rfl rfl rfl (cJ rfl (by decide) rfl rfl rfl (cJ rfl (by decide) rfl rfl rfl (cJ rfl (by decide) rfl rfl rfl (cJ rfl (by decide) rfl rfl rfl (cJ rfl (by decide) rfl rfl rfl (cJ rfl (by decide) rfl rfl rfl ?_)))))))))
      refine w_p (v := .bool (true)) rfl (bQ rfl rfl) (cM (nT (Tr.condT rfl (sr (aH (v := .bool (false)) rfl (nl (bR (rT (rB (rT (rT (rB (rT (rT (?_)))))))))))))))
      obtain rfl := hb55 _ (sm H1)
      replace H := sw.r H
      obtain rfl := si H
      exact bk
     ·have H1 := cdF h61 H1
      refine dH [(7, .pointer (some ⟨g60, 0, none⟩)), (1, .pointer (some ⟨g3, 0, none⟩)), (3, .int .i64 (Q50.1)), (6, .int .i64 (Q50.2))] 4 [0, 1, 2, 3, 4, 5, 6, 7, 8, 9, 10, 11, 12, 13, 14, 15, 16, 17, 18, 19, 20, 21, 22, 23, 24, 25, 26, 27, 28, 29, 30, 31] [11] [] mixed (by kernel_rfl) (by decide) dJ ⟨rfl, rfl, rfl, rfl, trivial⟩ rfl okNil (w_p rfl (cC fa177_1 rfl rfl) ?_)
      refine w_o rfl (fun F => (bJ ty69 rfl (aB.app F) rfl)) (w_p rfl (bT 3 dW rfl) (w_p rfl (cV rfl rfl) (w_p (v := .bool (false)) rfl ((Pu.eqv (v := .bool (decide ((((nth v0.2 Q50.2.toNat).2).length : Int) = 0))) (aE rfl) (congrArg Value.bool h61))) (w_p rfl (cC fa177_1 rfl rfl) ?_))))
      refine w_o rfl (fun F => (bJ ty69 rfl (aB.app F) rfl)) (w_p rfl (cC fa38_0 rfl rfl) ?_)
      refine w_o rfl (fun F => (bJ ty35 rfl (hs1.app F) rfl)) (w_p rfl (cC fa177_0 rfl rfl) ?_)
      refine w_o (v := .agg #[.string (((nth v0.2 Q50.2.toNat).1).1), .string (((nth v0.2 Q50.2.toNat).1).2)]) rfl (fun F => (q_ldbP [.string (((nth v0.2 Q50.2.toNat).1).1), .string (((nth v0.2 Q50.2.toNat).1).2)] ty97 rfl (aB.app F) rfl rfl)) (bdo H1 fun r62 h63 H1 => (cK rfl (by decide) rfl cP rfl (cF (c_spec_l11Ids v0.1 x_v0.1 ((nth v0.2 Q50.2.toNat).1) h63) (fun _ => (bG bH)) rfl (aC (aM (aT aS.s)) aP)) ?_))
      rintro _ _ _ ⟨x64, rfl, rfl, rfl⟩
      refine ⟨(aN (by kernel_rfl) (aN (by kernel_rfl) (bW rfl rfl (fun F => (bJ ty69 rfl (hs1.app F) rfl)) (aN (by kernel_rfl) bV)))), ?_⟩
      refine bdo H1 fun r65 h66 H1 => ?_
      refine w_o rfl (fun F => (bO (c_spec_l11Same ((nth v0.2 Q50.2.toNat).2) (((X2 Q50.2.toNat).2).1, ((X2 Q50.2.toNat).2).2.1) r62 x64 h66) rfl (aC (aM (aT (aV (aX aS h59.lt)))) (aC (bM (aB.app F)) aP)))) (w_p rfl (cX rfl) (w_p rfl (bP rfl rfl) ?_))
      rcases aL (!r65) with h67 | h67
      ·have H1 := cdT h67 H1
       refine w_p (v := .bool (true)) rfl ((Pu.eqv (v := .bool (!r65)) (aE rfl) (congrArg Value.bool h67))) (cJ rfl (by decide) rfl rfl rfl (cJ rfl (by decide) rfl rfl rfl (cJ rfl (by decide) rfl rfl rfl (cJ rfl (by decide) rfl rfl rfl (cJ rfl (by decide) rfl rfl rfl (cJ rfl (by decide) rfl rfl rfl (cJ rfl (by decide) rfl rfl rfl (cJ rfl (by decide) rfl rfl rfl (cJ rfl (by decide) rfl rfl rfl ?_)))))))))
       refine cJ rfl (by decide) rfl rfl rfl (cJ rfl (by decide) rfl rfl rfl (cJ rfl (by decide) rfl rfl rfl (cJ rfl (by decide) rfl rfl rfl (cJ rfl (by decide) rfl rfl rfl (cJ rfl (by decide) rfl rfl rfl (w_p (v := .bool (true)) rfl (bQ rfl rfl) (cM (nT (Tr.condT rfl ?_)))))))))
       refine sr (aH (v := .bool (false)) rfl (nl (bR (rT (rB (rT (rT (rB (rT (rT (?_)))))))))))
       obtain rfl := hb55 _ (sm H1)
       replace H := sw.r H
       obtain rfl := si H
       exact bk
      ·have H1 := cdF h67 H1
       refine w_p (v := .bool (false)) rfl ((Pu.eqv (v := .bool (!r65)) (aE rfl) (congrArg Value.bool h67))) (w_p rfl (aE rfl) (w_p rfl (cW rfl rfl) ?_))
       rcases aL (decide (0 < Q50.2)) with h68 | h68
       ·have H1 := cdT h68 H1
        refine w_p (v := .bool (true)) rfl ((Pu.eqv (v := .bool (decide (0 < Q50.2))) (aE rfl) (congrArg Value.bool h68))) (w_p rfl (cC fa38_1 rfl rfl) ?_)
        refine w_o rfl (fun F => (bJ ty36 rfl (hs2.app F) rfl)) (w_p rfl (aE rfl) (gdo H1 fun h69 H1 => (w_p rfl (cT rfl rfl h69) (gdo H1 fun h70 H1 => ?_))))
        refine w_o rfl (fun F => (bX dP ty177 rfl rfl h70 rfl (aM (aU aS)))) ?_
        refine w_o rfl (fun F => (bZ (j := 0) ((Q50.2 - 1).toNat) fa177_0 rfl (aM (aU aS)) h70.lt rfl)) ?_
        refine w_o (v := .agg #[.string (((nth v0.2 ((Q50.2 - 1).toNat)).1).1), .string (((nth v0.2 ((Q50.2 - 1).toNat)).1).2)]) rfl (fun F => (q_ldeP [.string (((nth v0.2 ((Q50.2 - 1).toNat)).1).1), .string (((nth v0.2 ((Q50.2 - 1).toNat)).1).2)] (l := v0.2) (E := fun i => Dp.denc (nth v0.2 i) (X2 i)) (oa := x_v0.2.1) (i := (Q50.2 - 1).toNat) (j := 0) ty97 rfl (aM (aU aS)) h70.lt rfl rfl)) (w_p rfl (cC fa177_0 rfl rfl) ?_)
        refine w_o (v := .agg #[.string (((nth v0.2 Q50.2.toNat).1).1), .string (((nth v0.2 Q50.2.toNat).1).2)]) rfl (fun F => (q_ldbP [.string (((nth v0.2 Q50.2.toNat).1).1), .string (((nth v0.2 Q50.2.toNat).1).2)] ty97 rfl (hs1.app F) rfl rfl)) (bdo H1 fun r71 h72 H1 => ?_)
        refine w_o rfl (fun F => (bO (c_spec_l11Less ((nth v0.2 ((Q50.2 - 1).toNat)).1) ((nth v0.2 Q50.2.toNat).1) h72) rfl aP)) (w_p rfl (cX rfl) (w_p rfl (bQ rfl rfl) (w_p rfl (bP rfl rfl) (cM (nT (cH H1 rfl (fun h73 H1 => ?_) (fun h73 H1 => ?_)))))))
        ·refine sr (aH (v := .bool (false)) rfl (nl (bR (rT (rB (rT (rT (rB (rT (rT (?_)))))))))))
         obtain rfl := hb55 _ (sm H1)
         replace H := sw.r H
         obtain rfl := si H
         exact bk
        ·refine bI (nT (aQ (aF rfl (aG (cC fa177_1 rfl rfl) (aI (bJ ty69 rfl hs1 rfl) (aG (bT 3 dW rfl) (gdo H1 fun h74 H1 => (aG (cT rfl rfl h74) (aH rfl (aJ ?_))))))))))
         exact nB (nT (aQ (aF rfl (gdo H1 fun h75 H1 => (aG (bS rfl rfl h75) (aH rfl (aJ (nLI () (hi54 _ (sm H1)) (.cons dl2 .nil)))))))))
       ·have H1 := cdF h68 H1
        refine w_p (v := .bool (false)) rfl ((Pu.eqv (v := .bool (decide (0 < Q50.2))) (aE rfl) (congrArg Value.bool h68))) (cJ rfl (by decide) rfl rfl rfl (cJ rfl (by decide) rfl rfl rfl (cJ rfl (by decide) rfl rfl rfl (cJ rfl (by decide) rfl rfl rfl (cJ rfl (by decide) rfl rfl rfl (cJ rfl (by decide) rfl rfl rfl (cJ rfl (by decide) rfl rfl rfl (cJ rfl (by decide) rfl rfl rfl (cJ rfl (by decide) rfl rfl rfl ?_)))))))))
        refine cJ rfl (by decide) rfl rfl rfl (cJ rfl (by decide) rfl rfl rfl (w_p (v := .bool (false)) rfl (bP rfl rfl) (w_p (v := .bool (false)) rfl (bP rfl rfl) (cM (nT (Tr.condF rfl (bI (nT (aQ ?_)))))))))
        refine aF rfl (aG (cC fa177_1 rfl rfl) (aI (bJ ty69 rfl hs1 rfl) (aG (bT 3 dW rfl) (gdo H1 fun h76 H1 => (aG (cT rfl rfl h76) (aH rfl (aJ (nB (nT (aQ (aF rfl ?_)))))))))))
        exact gdo H1 fun h77 H1 => (aG (bS rfl rfl h77) (aH rfl (aJ (nLI () (hi54 _ (sm H1)) (.cons dl2 .nil)))))
    ·exact dB (xT (xT (xE (nMI () (hb55 _ (sm H1)) bL))))
   ·rintro e78 y52 H
    refine nT (sr (aF rfl (aG (cV rfl rfl) (aH rfl (nl ?_)))))
    obtain rfl := si H
    exact bR bk
noncomputable def p_spec_l2Row (v0 : Row) : Option (Bool) := bd (bd (p_spec_l6In v0.1 0 99) fun r4 => cond (r4) (bd (p_spec_l6In v0.2 (-99) 99) fun r7 => some (r7)) (some (false))) fun b2 => some b2
theorem c_spec_l2Row {r : Bool} (v0 : Row) (H : p_spec_l2Row v0 = some r) : Fn' prog 76 #[.agg #[.int .i64 (v0.1), .int .i64 (v0.2)]] [] [] (ι := Unit) (fun _ => .bool (r)) (fun _ => []) (fun _ => []) := by
 refine cof (args := [_]) func76 ntmps76 fun c => ?_
 unfold p_spec_l2Row at H
 refine sr (f1 (cD (t := 57) rfl) fun g1 => (aH (v := .bool (false)) rfl (nl (bdo H fun b2 j3 H => (dE [(2, .bool (b2))] ?_ ?_)))))
 ·refine dI [(1, .pointer (some ⟨g1, 0, none⟩))] ⟨rfl, trivial⟩ (aY (cC fa57_0 rfl rfl) (bA (bJ ty3 rfl aB rfl) (bdo j3 fun r4 h5 j3 => (bA (bO (c_spec_l6In v0.1 0 99 h5) rfl aP) ?_))))
  rcases aL (r4) with h6 | h6
  ·have j3 := cdT h6 j3
   refine bD (aE rfl) h6 (aZ rfl (cC fa57_1 rfl rfl) (bB rfl (bJ ty3 rfl aB rfl) (bdo j3 fun r7 h8 j3 => (bB rfl (bO (c_spec_l6In v0.2 (-99) 99 h8) rfl aP) (aY (bQ rfl rfl) (aY (p_assign rfl) ?_))))))
   obtain rfl := si j3
   show At _ _ _ _ _ _
   exact n1 ⟨rfl, trivial⟩
  ·have j3 := cdF h6 j3
   refine bD (aE rfl) h6 ?_
   iterate 3 refine bF rfl ?_
   refine aY (v := .bool (false)) (bP rfl rfl) (aY (v := .bool (false)) (p_assign rfl) ?_)
   obtain rfl := si j3
   show At _ _ _ _ _ _
   exact n1 ⟨rfl, trivial⟩
 obtain rfl := si H
 exact bR bk
noncomputable def p_spec_BlockOk_b0 (v0 : (List Row)) (Q5 : Int) : Option ((Int) ⊕ (Unit ⊕ Bool)) := cond (decide (Q5 < (v0.length : Int))) (bd (gd (ix Q5 v0.length) <| bd (p_spec_l2Row (nth v0 Q5.toNat)) fun r17 => cond (!r17) (some (true)) (cond (decide (0 < Q5)) (gd (I64 (Q5 - 1)) <| gd (ix (Q5 - 1) v0.length) <| some (decide (((nth v0 Q5.toNat).1) ≤ ((nth v0 ((Q5 - 1).toNat)).1)))) (some (false)))) fun b14 => cond (b14) (some (.inr (.inr false))) (gd (I64 (Q5 + 1)) <| some (.inl (Q5 + 1)))) (some (.inr (.inl ())))
noncomputable def p_spec_BlockOk (v0 : (List Row)) : Option (Bool) := bd (lp (p_spec_BlockOk_b0 v0) 0) <| sw (fun _ => some (decide ((v0.length : Int) ≤ 24))) (fun q => some q)
theorem c_spec_BlockOk {r : Bool} (v0 : (List Row)) (x_v0 : Option Addr × Nat) (H : p_spec_BlockOk v0 = some r) : Fn' prog 140 #[.slice x_v0.1 v0.length x_v0.2] [imm (.slice x_v0.1 v0.length x_v0.2) v0] [] (ι := Unit) (fun _ => .bool (r)) (fun _ => []) (fun _ => []) := by
 refine cof (args := [_]) func140 ntmps140 fun c => ?_
 unfold p_spec_BlockOk at H
 refine sr (aH (v := .bool (false)) rfl (nl (aD (sr (aH (v := .int .i64 (0)) rfl (nl (bdo H fun x1 hx2 H => (dD (Λ := Unit) H (fun _ _ => [(0, .slice x_v0.1 v0.length x_v0.2)]) (fun _ _ => []) ?_ ?_))))))))
 ·refine aR (dF hx2 () (fun Q5 _ => [(0, .slice x_v0.1 v0.length x_v0.2), (3, .int .i64 (Q5))]) (fun _ _ => []) bL ?_)
  rintro _ Q5 z6 t8 H1 hi9 hb10
  unfold p_spec_BlockOk_b0 at H1
  refine aD (sr (aF rfl (aF rfl (aG (bT 57 dV rfl) (aG (cS rfl rfl) (nl (cH H1 rfl (fun h13 H1 => ?_) (fun h13 H1 => ?_))))))))
  ·refine bI (nT (aD (aR (bdo H1 fun b14 j15 H1 => (dE [(33, .bool (b14)), (0, .slice x_v0.1 v0.length x_v0.2), (3, .int .i64 (Q5))] ?_ ?_)))))
   ·refine dG [(0, .slice x_v0.1 v0.length x_v0.2), (3, .int .i64 (Q5))] mixed (.inr (by kernel_rfl)) ⟨rfl, rfl, trivial⟩ rfl (bC rfl (bC rfl (gdo j15 fun h16 j15 => (bA (bX dV ty57 rfl rfl h16 rfl (aO (aM aS))) (bA (v := .agg #[.int .i64 ((nth v0 Q5.toNat).1), .int .i64 ((nth v0 Q5.toNat).2)]) (cB (i := Q5.toNat) ty57 rfl (aO (aM aS)) h16.lt) (bdo j15 fun r17 h18 j15 => (bA (bO (c_spec_l2Row (nth v0 Q5.toNat) h18) rfl aP) (aY (cX rfl) ?_))))))))
    rcases aL (!r17) with h19 | h19
    ·have j15 := cdT h19 j15
     refine bD (aE rfl) h19 ?_
     iterate 16 refine bF rfl ?_
     refine aY (v := .bool (true)) (bQ rfl rfl) ?_
     obtain rfl := si j15
     show At _ _ _ _ _ _
     exact n1 ⟨rfl, rfl, rfl, trivial⟩
    ·have j15 := cdF h19 j15
     refine bD (aE rfl) h19 (aZ rfl (aE rfl) (aZ rfl (cW rfl rfl) ?_))
     rcases aL (decide (0 < Q5)) with h20 | h20
     ·have j15 := cdT h20 j15
      refine bE rfl (aE rfl) h20 (aZ rfl (aE rfl) (aZ rfl (aE rfl) (gdo j15 fun h21 j15 => (aZ rfl (cT rfl rfl h21) (gdo j15 fun h22 j15 => (bB rfl (bX dV ty57 rfl rfl h22 rfl (aO (aM aS))) (bB rfl (bZ (j := 0) ((Q5 - 1).toNat) fa57_0 rfl (aO (aM aS)) h22.lt rfl) (bB rfl (cA (i := (Q5 - 1).toNat) (j := 0) ty3 rfl (aO (aM aS)) h22.lt rfl) (aZ rfl (aE rfl) ?_)))))))))
      refine aZ rfl (aE rfl) (bB rfl (bX dV ty57 rfl rfl h16 rfl (aO (aM aS))) (bB rfl (bZ (j := 0) Q5.toNat fa57_0 rfl (aO (aM aS)) h16.lt rfl) (bB rfl (cA (i := Q5.toNat) (j := 0) ty3 rfl (aO (aM aS)) h16.lt rfl) (aZ rfl (p_geq rfl rfl) (aZ rfl (bQ rfl rfl) (aY (bP rfl rfl) ?_))))))
      obtain rfl := si j15
      show At _ _ _ _ _ _
      exact n1 ⟨rfl, rfl, rfl, trivial⟩
     ·have j15 := cdF h20 j15
      refine bE rfl (aE rfl) h20 ?_
      iterate 12 refine bF rfl ?_
      refine aZ (v := .bool (false)) rfl (bP rfl rfl) (aY (v := .bool (false)) (bP rfl rfl) ?_)
      obtain rfl := si j15
      show At _ _ _ _ _ _
      exact n1 ⟨rfl, rfl, rfl, trivial⟩
   refine cH H1 rfl (fun h23 H1 => ?_) (fun h23 H1 => ?_)
   ·refine sr (aH (v := .bool (false)) rfl (nl (bR (rB (rT (rT (rB (rT (rT (?_))))))))))
    obtain rfl := hb10 _ (sm H1)
    replace H := sw.r H
    obtain rfl := si H
    exact bk
   ·exact bI (nB (nT (aQ (aF rfl (gdo H1 fun h24 H1 => (aG (bS rfl rfl h24) (aH rfl (aJ (nLI () (hi9 _ (sm H1)) bL)))))))))
  ·exact dB (xT (xT (xE (nMI () (hb10 _ (sm H1)) bL))))
 ·rintro e25 y7 H
  refine nT (sr (aF rfl (aG (bT 57 dV rfl) (aG (p_leq rfl rfl) (aH rfl (nl ?_))))))
  obtain rfl := si H
  exact bR bk
noncomputable def p_spec_PartOk_b0 (v0 : Part) (Q8 : Int) : Option ((Int) ⊕ (Unit ⊕ Bool)) := cond (decide (Q8 < (v0.1.length : Int))) (bd (gd (ix Q8 v0.1.length) <| bd (p_spec_l6In (nth v0.1 Q8.toNat) 1 6) fun r20 => cond (!r20) (some (true)) (cond (decide (0 < Q8)) (gd (I64 (Q8 - 1)) <| gd (ix (Q8 - 1) v0.1.length) <| cond (decide ((nth v0.1 Q8.toNat) ≤ (nth v0.1 ((Q8 - 1).toNat)))) (some (true)) (gd (ix Q8 v0.2.length) <| cond (decide (((nth v0.2 Q8.toNat).length : Int) = 0)) (some (true)) (bd (p_spec_BlockOk (nth v0.2 Q8.toNat)) fun r29 => some (!r29)))) (gd (ix Q8 v0.2.length) <| cond (decide (((nth v0.2 Q8.toNat).length : Int) = 0)) (some (true)) (bd (p_spec_BlockOk (nth v0.2 Q8.toNat)) fun r33 => some (!r33))))) fun b17 => cond (b17) (some (.inr (.inr false))) (gd (I64 (Q8 + 1)) <| some (.inl (Q8 + 1)))) (some (.inr (.inl ())))
noncomputable def p_spec_PartOk (v0 : Part) : Option (Bool) := cond (!decide ((v0.1.length : Int) = (v0.2.length : Int))) (some false) (bd (lp (p_spec_PartOk_b0 v0) 0) <| sw (fun _ => some true) (fun q => some q))
theorem c_spec_PartOk {r : Bool} (v0 : Part) (x_v0 : (Option Addr × Nat) × (Option Addr × Nat)) (H : p_spec_PartOk v0 = some r) : Fn' prog 85 #[.agg #[.slice x_v0.1.1 v0.1.length x_v0.1.2, .slice x_v0.2.1 v0.2.length x_v0.2.2]] [imm (.slice x_v0.1.1 v0.1.length x_v0.1.2) v0.1, imm (.slice x_v0.2.1 v0.2.length x_v0.2.2) v0.2] [] (ι := Unit) (fun _ => .bool (r)) (fun _ => []) (fun _ => []) := by
 refine cof (args := [_]) func85 ntmps85 fun c => ?_
 unfold p_spec_PartOk at H
 refine bN aS.s fun X1 => (sr (f1 (cD (t := 72) rfl) fun g2 => (aH (v := .bool (false)) rfl (nl (aD (sr (aG (cC fa72_0 rfl rfl) (aI (bJ ty69 rfl aB rfl) (aG (bT 3 dW rfl) (aG (cC fa72_1 rfl rfl) (aI (bJ ty70 rfl aB rfl) ?_)))))))))))
 refine aG (bT 63 dX rfl) (aG (cU rfl rfl) (nl (cH H rfl (fun h3 H => ?_) (fun h3 H => ?_))))
 ·refine sr (aH (v := .bool (false)) rfl (nl (bR (rT (?_)))))
  obtain rfl := si H
  exact bk
 ·refine bI (nT (aD (sr (aH (v := .int .i64 (0)) rfl (nl (bdo H fun x4 hx5 H => (dD (Λ := Unit) H (fun _ _ => []) (fun _ _ => []) ?_ ?_)))))))
  ·refine aR (dF hx5 () (fun Q8 _ => [(1, .pointer (some ⟨g2, 0, none⟩)), (3, .int .i64 (Q8))]) (fun _ _ => [box g2 72 [.slice x_v0.1.1 v0.1.length x_v0.1.2, .slice x_v0.2.1 v0.2.length x_v0.2.2]]) (.cons aA .nil) ?_)
   rintro _ Q8 z9 t11 H1 hi12 hb13
   unfold p_spec_PartOk_b0 at H1
   refine aD (sr (aF rfl (aG (cC fa72_0 rfl rfl) (aI (bJ ty69 rfl aB rfl) (aG (bT 3 dW rfl) (aG (cS rfl rfl) (nl (cH H1 rfl (fun h16 H1 => ?_) (fun h16 H1 => ?_)))))))))
   ·refine bI (nT (aD (aR (bdo H1 fun b17 j18 H1 => (dE [(60, .bool (b17)), (1, .pointer (some ⟨g2, 0, none⟩)), (3, .int .i64 (Q8))] ?_ ?_)))))
    ·refine dG [(1, .pointer (some ⟨g2, 0, none⟩)), (3, .int .i64 (Q8))] mixed (.inr (by kernel_rfl)) ⟨rfl, rfl, trivial⟩ rfl (aY (cC fa72_0 rfl rfl) (bA (bJ ty69 rfl aB rfl) (bC rfl (gdo j18 fun h19 j18 => (bA (bX dW ty3 rfl rfl h19 rfl (aO (aM aS.s))) (bA (cA (i := Q8.toNat) (j := 0) ty3 rfl (aO (aM aS.s)) h19.lt rfl) (bdo j18 fun r20 h21 j18 => (bA (bO (c_spec_l6In (nth v0.1 Q8.toNat) 1 6 h21) rfl aP) (aY (cX rfl) ?_)))))))))
     rcases aL (!r20) with h22 | h22
     ·have j18 := cdT h22 j18
      refine bD (aE rfl) h22 ?_
      iterate 16 refine bF rfl ?_
      refine aY (v := .bool (true)) (bQ rfl rfl) (bC (v := .bool (true)) rfl ?_)
      iterate 7 refine bF rfl ?_
      refine aY (v := .bool (true)) (bQ rfl rfl) (bC (v := .bool (true)) rfl ?_)
      iterate 7 refine bF rfl ?_
      refine aY (v := .bool (true)) (bQ rfl rfl) ?_
      obtain rfl := si j18
      show At _ _ _ _ _ _
      exact n1 ⟨rfl, rfl, rfl, trivial⟩
     ·have j18 := cdF h22 j18
      refine bD (aE rfl) h22 (aZ rfl (aE rfl) (aZ rfl (cW rfl rfl) ?_))
      rcases aL (decide (0 < Q8)) with h23 | h23
      ·have j18 := cdT h23 j18
       refine bE rfl (aE rfl) h23 (aZ rfl (cC fa72_0 rfl rfl) (bB rfl (bJ ty69 rfl aB rfl) (aZ rfl (aE rfl) (gdo j18 fun h24 j18 => (aZ rfl (cT rfl rfl h24) (gdo j18 fun h25 j18 => (bB rfl (bX dW ty3 rfl rfl h25 rfl (aO (aM aS.s))) (bB rfl (cA (i := (Q8 - 1).toNat) (j := 0) ty3 rfl (aO (aM aS.s)) h25.lt rfl) (aZ rfl (cC fa72_0 rfl rfl) ?_)))))))))
       refine bB rfl (bJ ty69 rfl aB rfl) (aZ rfl (aE rfl) (bB rfl (bX dW ty3 rfl rfl h19 rfl (aO (aM aS.s))) (bB rfl (cA (i := Q8.toNat) (j := 0) ty3 rfl (aO (aM aS.s)) h19.lt rfl) (aZ rfl (p_geq rfl rfl) (aZ rfl (bQ rfl rfl) (aY (bP rfl rfl) ?_))))))
       rcases aL (decide ((nth v0.1 Q8.toNat) ≤ (nth v0.1 ((Q8 - 1).toNat)))) with h26 | h26
       ·have j18 := cdT h26 j18
        refine bD (aE rfl) h26 ?_
        iterate 7 refine bF rfl ?_
        refine aY (v := .bool (true)) (bQ rfl rfl) (bC (v := .bool (true)) rfl ?_)
        iterate 7 refine bF rfl ?_
        refine aY (v := .bool (true)) (bQ rfl rfl) ?_
        obtain rfl := si j18
        show At _ _ _ _ _ _
        exact n1 ⟨rfl, rfl, rfl, trivial⟩
       ·have j18 := cdF h26 j18
        refine bD (aE rfl) h26 (aZ rfl (cC fa72_1 rfl rfl) (bB rfl (bJ ty70 rfl aB rfl) (aZ rfl (aE rfl) (gdo j18 fun h27 j18 => (bB rfl (bX dX ty63 rfl rfl h27 rfl (aM (aU aS))) (bB rfl (cA (i := Q8.toNat) (j := 0) ty63 rfl (aM (aU aS)) h27.lt rfl) (aZ rfl (bT 57 dV rfl) (aZ rfl (cV rfl rfl) (aY (bP rfl rfl) ?_)))))))))
        rcases aL (decide (((nth v0.2 Q8.toNat).length : Int) = 0)) with h28 | h28
        ·have j18 := cdT h28 j18
         refine bD (aE rfl) h28 ?_
         iterate 7 refine bF rfl ?_
         refine aY (v := .bool (true)) (bQ rfl rfl) ?_
         obtain rfl := si j18
         show At _ _ _ _ _ _
         exact n1 ⟨rfl, rfl, rfl, trivial⟩
        ·have j18 := cdF h28 j18
         refine bD (aE rfl) h28 (aZ rfl (cC fa72_1 rfl rfl) (bB rfl (bJ ty70 rfl aB rfl) (aZ rfl (aE rfl) (bB rfl (bX dX ty63 rfl rfl h27 rfl (aM (aU aS))) (bB rfl (cA (i := Q8.toNat) (j := 0) ty63 rfl (aM (aU aS)) h27.lt rfl) (bdo j18 fun r29 h30 j18 => (bB rfl (bO (c_spec_BlockOk (nth v0.2 Q8.toNat) ((X1 Q8.toNat).1, (X1 Q8.toNat).2.1) h30) rfl (aC (aM (aT (aX aS h27.lt))) aP)) (aZ rfl (cX rfl) (aY (bP rfl rfl) ?_)))))))))
         obtain rfl := si j18
         show At _ _ _ _ _ _
         exact n1 ⟨rfl, rfl, rfl, trivial⟩
      ·have j18 := cdF h23 j18
       refine bE rfl (aE rfl) h23 ?_
       iterate 12 refine bF rfl ?_
       refine aZ (v := .bool (false)) rfl (bP rfl rfl) (aY (v := .bool (false)) (bP rfl rfl) (bC (v := .bool (false)) rfl (aZ rfl (cC fa72_1 rfl rfl) (bB rfl (bJ ty70 rfl aB rfl) (aZ rfl (aE rfl) (gdo j18 fun h31 j18 => (bB rfl (bX dX ty63 rfl rfl h31 rfl (aM (aU aS))) (bB rfl (cA (i := Q8.toNat) (j := 0) ty63 rfl (aM (aU aS)) h31.lt rfl) (aZ rfl (bT 57 dV rfl) ?_)))))))))
       refine aZ rfl (cV rfl rfl) (aY (bP rfl rfl) ?_)
       rcases aL (decide (((nth v0.2 Q8.toNat).length : Int) = 0)) with h32 | h32
       ·have j18 := cdT h32 j18
        refine bD (aE rfl) h32 ?_
        iterate 7 refine bF rfl ?_
        refine aY (v := .bool (true)) (bQ rfl rfl) ?_
        obtain rfl := si j18
        show At _ _ _ _ _ _
        exact n1 ⟨rfl, rfl, rfl, trivial⟩
       ·have j18 := cdF h32 j18
        refine bD (aE rfl) h32 (aZ rfl (cC fa72_1 rfl rfl) (bB rfl (bJ ty70 rfl aB rfl) (aZ rfl (aE rfl) (bB rfl (bX dX ty63 rfl rfl h31 rfl (aM (aU aS))) (bB rfl (cA (i := Q8.toNat) (j := 0) ty63 rfl (aM (aU aS)) h31.lt rfl) (bdo j18 fun r33 h34 j18 => (bB rfl (bO (c_spec_BlockOk (nth v0.2 Q8.toNat) ((X1 Q8.toNat).1, (X1 Q8.toNat).2.1) h34) rfl (aC (aM (aT (aX aS h31.lt))) aP)) (aZ rfl (cX rfl) (aY (bP rfl rfl) ?_)))))))))
        obtain rfl := si j18
        show At _ _ _ _ _ _
        exact n1 ⟨rfl, rfl, rfl, trivial⟩
    refine cH H1 rfl (fun h35 H1 => ?_) (fun h35 H1 => ?_)
    ·refine sr (aH (v := .bool (false)) rfl (nl (bR (rB (rT (rT (rB (rT (rT (?_))))))))))
     obtain rfl := hb13 _ (sm H1)
     replace H := sw.r H
     obtain rfl := si H
     exact bk
    ·exact bI (nB (nT (aQ (aF rfl (gdo H1 fun h36 H1 => (aG (bS rfl rfl h36) (aH rfl (aJ (nLI () (hi12 _ (sm H1)) (.cons aA .nil))))))))))
   ·exact dB (xT (xT (xE (nMI () (hb13 _ (sm H1)) bL))))
  ·rintro e37 y10 H
   refine nT (sr (aH (v := .bool (true)) rfl (nl ?_)))
   obtain rfl := si H
   exact bR bk
noncomputable def p_spec_l13Part (v0 : Part) (v1 : Int) : Option (Bool) := bd (bd (p_spec_PartOk v0) fun r5 => cond (r5) (cond (decide (0 < (v0.1.length : Int))) (gd (I64 ((v0.1.length : Int) - 1)) <| gd (ix ((v0.1.length : Int) - 1) v0.1.length) <| some (decide ((nth v0.1 (((v0.1.length : Int) - 1).toNat)) ≤ v1))) (some (false))) (some (false))) fun b3 => some b3
theorem c_spec_l13Part {r : Bool} (v0 : Part) (x_v0 : (Option Addr × Nat) × (Option Addr × Nat)) (v1 : Int) (H : p_spec_l13Part v0 v1 = some r) : Fn' prog 74 #[.agg #[.slice x_v0.1.1 v0.1.length x_v0.1.2, .slice x_v0.2.1 v0.2.length x_v0.2.2], .int .i64 (v1)] [imm (.slice x_v0.1.1 v0.1.length x_v0.1.2) v0.1, imm (.slice x_v0.2.1 v0.2.length x_v0.2.2) v0.2] [] (ι := Unit) (fun _ => .bool (r)) (fun _ => []) (fun _ => []) := by
 refine cof (args := [_, _]) func74 ntmps74 fun c => ?_
 unfold p_spec_l13Part at H
 refine bN aS.s fun X1 => (sr (f1 (cD (t := 72) rfl) fun g2 => (aH (v := .bool (false)) rfl (nl (bdo H fun b3 j4 H => (dE [(4, .bool (b3))] ?_ ?_))))))
 ·refine dI [(2, .pointer (some ⟨g2, 0, none⟩)), (1, .int .i64 (v1))] ⟨rfl, rfl, trivial⟩ (bA (bK ty72 rfl aB rfl) (bdo j4 fun r5 h6 j4 => (bA (bO (c_spec_PartOk v0 x_v0 h6) rfl (aC (aM aS.s) (aC (aM (aT aS)) aP))) ?_)))
  rcases aL (r5) with h7 | h7
  ·have j4 := cdT h7 j4
   refine bD (aE rfl) h7 (aZ rfl (cC fa72_0 rfl rfl) (bB rfl (bJ ty69 rfl aB rfl) (aZ rfl (bT 3 dW rfl) (aZ rfl (cW rfl rfl) (aY (bQ rfl rfl) ?_)))))
   rcases aL (decide (0 < (v0.1.length : Int))) with h8 | h8
   ·have j4 := cdT h8 j4
    refine bD (aE rfl) h8 (aZ rfl (cC fa72_0 rfl rfl) (bB rfl (bJ ty69 rfl aB rfl) (aZ rfl (cC fa72_0 rfl rfl) (bB rfl (bJ ty69 rfl aB rfl) (aZ rfl (bT 3 dW rfl) (gdo j4 fun h9 j4 => (aZ rfl (cT rfl rfl h9) (gdo j4 fun h10 j4 => (bB rfl (bX dW ty3 rfl rfl h10 rfl (aO (aM aS.s))) ?_)))))))))
    refine bB rfl (cA (i := ((v0.1.length : Int) - 1).toNat) (j := 0) ty3 rfl (aO (aM aS.s)) h10.lt rfl) (aZ rfl (aE rfl) (aZ rfl (p_leq rfl rfl) (aY (bQ rfl rfl) (aY (p_assign rfl) ?_))))
    obtain rfl := si j4
    show At _ _ _ _ _ _
    exact n1 ⟨rfl, trivial⟩
   ·have j4 := cdF h8 j4
    refine bD (aE rfl) h8 ?_
    iterate 10 refine bF rfl ?_
    refine aY (v := .bool (false)) (bP rfl rfl) (aY (v := .bool (false)) (p_assign rfl) ?_)
    obtain rfl := si j4
    show At _ _ _ _ _ _
    exact n1 ⟨rfl, trivial⟩
  ·have j4 := cdF h7 j4
   refine bD (aE rfl) h7 ?_
   iterate 4 refine bF rfl ?_
   refine aY (v := .bool (false)) (bP rfl rfl) (bC (v := .bool (false)) rfl ?_)
   iterate 10 refine bF rfl ?_
   refine aY (v := .bool (false)) (bP rfl rfl) (aY (v := .bool (false)) (p_assign rfl) ?_)
   obtain rfl := si j4
   show At _ _ _ _ _ _
   exact n1 ⟨rfl, trivial⟩
 obtain rfl := si H
 exact bR bk
noncomputable def p_spec_l12Of_b0 (v0 : Part) (v1 : Int) (Q7 : Int) : Option ((Int) ⊕ (Unit ⊕ (List Row))) := cond (decide (Q7 < (v0.1.length : Int))) (gd (ix Q7 v0.1.length) <| cond (decide ((nth v0.1 Q7.toNat) = v1)) (gd (ix Q7 v0.2.length) <| some (.inr (.inr (nth v0.2 Q7.toNat)))) (gd (I64 (Q7 + 1)) <| some (.inl (Q7 + 1)))) (some (.inr (.inl ())))
noncomputable def p_spec_l12Of (v0 : Part) (v1 : Int) : Option ((List Row)) := bd (lp (p_spec_l12Of_b0 v0 v1) 0) <| sw (fun _ => some ([] : List Row)) (fun q => some q)
theorem c_spec_l12Of {r : (List Row)} (v0 : Part) (x_v0 : (Option Addr × Nat) × (Option Addr × Nat)) (v1 : Int) (H : p_spec_l12Of v0 v1 = some r) : Fn' prog 132 #[.agg #[.slice x_v0.1.1 v0.1.length x_v0.1.2, .slice x_v0.2.1 v0.2.length x_v0.2.2], .int .i64 (v1)] [imm (.slice x_v0.1.1 v0.1.length x_v0.1.2) v0.1, imm (.slice x_v0.2.1 v0.2.length x_v0.2.2) v0.2] [] (ι := Option Addr × Nat) (fun x => .slice x.1 r.length x.2) (fun x => [imm (.slice x.1 r.length x.2) r]) (fun _ => []) := by
 refine cof (args := [_, _]) func132 ntmps132 fun c => ?_
 unfold p_spec_l12Of at H
 refine bN aS.s fun X1 => (sr (f1 (cD (t := 72) rfl) fun g2 => (aH (v := .slice none 0 0) rfl (nl (aD (sr (aH (v := .int .i64 (0)) rfl (nl (bdo H fun x3 hx4 H => (dD (Λ := Unit) H (fun _ _ => []) (fun _ _ => []) ?_ ?_))))))))))
 ·refine aR (dF hx4 () (fun Q7 _ => [(1, .int .i64 (v1)), (2, .pointer (some ⟨g2, 0, none⟩)), (5, .int .i64 (Q7))]) (fun _ _ => [box g2 72 [.slice x_v0.1.1 v0.1.length x_v0.1.2, .slice x_v0.2.1 v0.2.length x_v0.2.2]]) (.cons aA .nil) ?_)
  rintro _ Q7 z8 t10 H1 hi11 hb12
  unfold p_spec_l12Of_b0 at H1
  refine aD (sr (aF rfl (aG (cC fa72_0 rfl rfl) (aI (bJ ty69 rfl aB rfl) (aG (bT 3 dW rfl) (aG (cS rfl rfl) (nl (cH H1 rfl (fun h15 H1 => ?_) (fun h15 H1 => ?_)))))))))
  ·refine bI (nT (aD (aR (sr (aG (cC fa72_0 rfl rfl) (aI (bJ ty69 rfl aB rfl) (aF rfl (gdo H1 fun h16 H1 => (aI (bX dW ty3 rfl rfl h16 rfl (aO (aM aS.s))) (aI (cA (i := Q7.toNat) (j := 0) ty3 rfl (aO (aM aS.s)) h16.lt rfl) ?_))))))))))
   refine aF rfl (aG (cV rfl rfl) (nl (cH H1 rfl (fun h17 H1 => ?_) (fun h17 H1 => ?_))))
   ·refine sr (aG (cC fa72_1 rfl rfl) (aI (bJ ty70 rfl aB rfl) (aF rfl (gdo H1 fun h18 H1 => (aI (bX dX ty63 rfl rfl h18 rfl (aM (aU aS))) (aI (cA (i := Q7.toNat) (j := 0) ty63 rfl (aM (aU aS)) h18.lt rfl) (aH rfl (nl (bR (rB (rT (rT (rB (rT (rT (?_))))))))))))))))
    obtain rfl := hb12 _ (sm H1)
    replace H := sw.r H
    obtain rfl := si H
    exact back1 ((X1 Q7.toNat).1, (X1 Q7.toNat).2.1) rfl (ResV.tmp (v := .slice ((X1 Q7.toNat).1) ((nth v0.2 Q7.toNat).length) ((X1 Q7.toNat).2.1)) rfl) rfl (cN (aT (aX aS h18.lt)) cO) bL
   ·exact bI (nB (nT (aQ (aF rfl (gdo H1 fun h19 H1 => (aG (bS rfl rfl h19) (aH rfl (aJ (nLI () (hi11 _ (sm H1)) (.cons aA .nil))))))))))
  ·exact dB (xT (xT (xE (nMI () (hb12 _ (sm H1)) bL))))
 ·rintro e20 y9 H
  refine nT (sr (f2 (e_lit0 Row dV ty57) fun a21 c22 => (aH rfl (nl (Tr.freeze (.cons aA .nil) (bR ?_))))))
  obtain rfl := si H
  exact back1 (a21, c22) rfl (ResV.tmp (v := .slice a21 (([] : List Row).length) c22) rfl) rfl (cN aS cO) bL
noncomputable def p_spec_l2Put_b0 (v0 : (List Row)) (v1 : Row) (Q8 : (List Row) × Bool × Int) : Option (((List Row) × Bool × Int) ⊕ ((List Row) × Bool)) := cond (decide (Q8.2.2 < (v0.length : Int))) (bd (cond (!Q8.2.1) (gd (ix Q8.2.2 v0.length) <| some (decide (v1.1 ≤ ((nth v0 Q8.2.2.toNat).1)))) (some (false))) fun b17 => cond (b17) (gd (room (Q8.1.length + 1)) <| gd (ix Q8.2.2 v0.length) <| cond (!decide (((nth v0 Q8.2.2.toNat).1) = v1.1)) (gd (room ((Q8.1 ++ [v1]).length + 1)) <| gd (I64 (Q8.2.2 + 1)) <| some (.inl (((Q8.1 ++ [v1]) ++ [nth v0 Q8.2.2.toNat]), true, Q8.2.2 + 1))) (gd (I64 (Q8.2.2 + 1)) <| some (.inl ((Q8.1 ++ [v1]), true, Q8.2.2 + 1)))) (gd (ix Q8.2.2 v0.length) <| cond (!decide (((nth v0 Q8.2.2.toNat).1) = v1.1)) (gd (room (Q8.1.length + 1)) <| gd (I64 (Q8.2.2 + 1)) <| some (.inl ((Q8.1 ++ [nth v0 Q8.2.2.toNat]), Q8.2.1, Q8.2.2 + 1))) (gd (I64 (Q8.2.2 + 1)) <| some (.inl (Q8.1, Q8.2.1, Q8.2.2 + 1))))) (some (.inr (Q8.1, Q8.2.1)))
noncomputable def p_spec_l2Put (v0 : (List Row)) (v1 : Row) : Option ((List Row)) := bd (lp (p_spec_l2Put_b0 v0 v1) (([] : List Row), false, 0)) fun x4 => cond (!x4.2) (gd (room (x4.1.length + 1)) <| some (x4.1 ++ [v1])) (some x4.1)
theorem c_spec_l2Put {r : (List Row)} (v0 : (List Row)) (x_v0 : Option Addr × Nat) (v1 : Row) (H : p_spec_l2Put v0 v1 = some r) : Fn' prog 133 #[.slice x_v0.1 v0.length x_v0.2, .agg #[.int .i64 (v1.1), .int .i64 (v1.2)]] [imm (.slice x_v0.1 v0.length x_v0.2) v0] [] (ι := Option Addr × Nat) (fun x => .slice x.1 r.length x.2) (fun _ => []) (fun x => [tree (.slice x.1 r.length x.2) r]) := by
 refine cof (args := [_, _]) func133 ntmps133 fun c => ?_
 unfold p_spec_l2Put at H
 refine sr (f1 (cD (t := 57) rfl) fun g1 => (aH (v := .slice none 0 0) rfl (nl (sr (f2 (e_lit0 Row dV ty57) fun a2 c3 => (aH rfl (nl (sr (aH (v := .bool (false)) rfl (nl (aD (sr (aH (v := .int .i64 (0)) rfl (nl ?_))))))))))))))
 refine bdo H fun x4 hx5 H => (dC (ι := Option Addr × Nat) (fun ψ => [(3, .pointer (some ⟨g1, 0, none⟩)), (5, .slice ψ.1 x4.1.length ψ.2), (6, .bool (x4.2))]) (fun ψ => [box g1 57 [.int .i64 (v1.1), .int .i64 (v1.2)], tree (.slice ψ.1 x4.1.length ψ.2) x4.1]) ?_ ?_)
 ·refine aR (dF hx5 (a2, c3) (fun Q8 z9 => [(0, .slice x_v0.1 v0.length x_v0.2), (3, .pointer (some ⟨g1, 0, none⟩)), (5, .slice z9.1 Q8.1.length z9.2), (6, .bool (Q8.2.1)), (7, .int .i64 (Q8.2.2))]) (fun Q8 z9 => [box g1 57 [.int .i64 (v1.1), .int .i64 (v1.2)], tree (.slice z9.1 Q8.1.length z9.2) Q8.1]) (.cons dl1 (.cons aA .nil)) ?_)
  rintro _ Q8 z9 t11 H1 hi12 hb13
  unfold p_spec_l2Put_b0 at H1
  refine aD (sr (aF rfl (aF rfl (aG (bT 57 dV rfl) (aG (cS rfl rfl) (nl (cH H1 rfl (fun h16 H1 => ?_) (fun h16 H1 => ?_))))))))
  ·refine bI (nT (aD (aR (aD (bdo H1 fun b17 j18 H1 => (dE [(26, .bool (b17)), (0, .slice x_v0.1 v0.length x_v0.2), (3, .pointer (some ⟨g1, 0, none⟩)), (5, .slice z9.1 Q8.1.length z9.2), (6, .bool (Q8.2.1)), (7, .int .i64 (Q8.2.2))] ?_ ?_))))))
   ·refine dG [(0, .slice x_v0.1 v0.length x_v0.2), (3, .pointer (some ⟨g1, 0, none⟩)), (5, .slice z9.1 Q8.1.length z9.2), (6, .bool (Q8.2.1)), (7, .int .i64 (Q8.2.2))] mixed (.inr (by kernel_rfl)) ⟨rfl, rfl, rfl, rfl, rfl, trivial⟩ rfl (bC rfl (aY (cX rfl) ?_))
    rcases aL (!Q8.2.1) with h19 | h19
    ·have j18 := cdT h19 j18
     refine bD (aE rfl) h19 (aZ rfl (aE rfl) (aZ rfl (aE rfl) (gdo j18 fun h20 j18 => (bB rfl (bX dV ty57 rfl rfl h20 rfl (aO (aM aS))) (bB rfl (bZ (j := 0) Q8.2.2.toNat fa57_0 rfl (aO (aM aS)) h20.lt rfl) (bB rfl (cA (i := Q8.2.2.toNat) (j := 0) ty3 rfl (aO (aM aS)) h20.lt rfl) (aZ rfl (cC fa57_0 rfl rfl) (bB rfl (bJ ty3 rfl aB rfl) (aZ rfl (p_geq rfl rfl) ?_)))))))))
     refine aY (bQ rfl rfl) ?_
     obtain rfl := si j18
     show At _ _ _ _ _ _
     exact n1 ⟨rfl, rfl, rfl, rfl, rfl, rfl, trivial⟩
    ·have j18 := cdF h19 j18
     refine bD (aE rfl) h19 ?_
     iterate 8 refine bF rfl ?_
     refine aY (v := .bool (false)) (bP rfl rfl) ?_
     obtain rfl := si j18
     show At _ _ _ _ _ _
     exact n1 ⟨rfl, rfl, rfl, rfl, rfl, rfl, trivial⟩
   refine cH H1 rfl (fun h21 H1 => ?_) (fun h21 H1 => ?_)
   ·refine sr (aF rfl (aI (bK ty57 rfl aB rfl) (f1 (e_lit (vs := [(0, .agg #[.int .i64 (v1.1), .int .i64 (v1.2)])]) [.int .i64 (v1.1), .int .i64 (v1.2)] dV ty57 rfl (by decide) (by decide) (by kernel_rfl)) fun g22 => (gdo H1 fun h25 H1 => (f2 (e_app1 (l := Q8.1) (α := Row) v1 ((), ()) dV ty57 rfl rfl (h25.b (by decide)) h25.x rfl (cY _) (.cons dl2 (.cons aA .nil))) fun a23 c24 => (aH rfl (nl (aQ (aH (v := .bool (true)) rfl (nl (aD ?_)))))))))))
    refine dG [(6, .bool (true)), (5, .slice a23 ((Q8.1 ++ [v1]).length) c24), (0, .slice x_v0.1 v0.length x_v0.2), (3, .pointer (some ⟨g1, 0, none⟩)), (7, .int .i64 (Q8.2.2))] mixed (.inr (by kernel_rfl)) ⟨rfl, rfl, rfl, rfl, rfl, trivial⟩ rfl (bC rfl (bC rfl (gdo H1 fun h26 H1 => (bA (bX dV ty57 rfl rfl h26 rfl (aO (aM aS))) (bA (bZ (j := 0) Q8.2.2.toNat fa57_0 rfl (aO (aM aS)) h26.lt rfl) (bA (cA (i := Q8.2.2.toNat) (j := 0) ty3 rfl (aO (aM aS)) h26.lt rfl) (aY (cC fa57_0 rfl rfl) (bA (bJ ty3 rfl hs1 rfl) (aY (cU rfl rfl) ?_)))))))))
    refine nT (cH H1 rfl (fun h27 H1 => ?_) (fun h27 H1 => ?_))
    ·refine aQ (aF rfl (aF rfl (aF rfl (aI (bX dV ty57 rfl rfl h26 rfl (aO (aM aS))) (aI (v := .agg #[.int .i64 ((nth v0 Q8.2.2.toNat).1), .int .i64 ((nth v0 Q8.2.2.toNat).2)]) (cB (i := Q8.2.2.toNat) ty57 rfl (aO (aM aS)) h26.lt) (f1 (e_lit (vs := [(0, .agg #[.int .i64 ((nth v0 Q8.2.2.toNat).1), .int .i64 ((nth v0 Q8.2.2.toNat).2)])]) [.int .i64 ((nth v0 Q8.2.2.toNat).1), .int .i64 ((nth v0 Q8.2.2.toNat).2)] dV ty57 rfl (by decide) (by decide) (by kernel_rfl)) fun g28 => (gdo H1 fun h31 H1 => (f2 (e_app1 (l := (Q8.1 ++ [v1])) (α := Row) (nth v0 Q8.2.2.toNat) ((), ()) dV ty57 rfl rfl (h31.b (by decide)) h31.x rfl (cY _) (.cons dl1 (.cons aA .nil))) fun a29 c30 => (aH rfl (aJ ?_))))))))))
     exact nB (nT (aQ (aF rfl (gdo H1 fun h32 H1 => (aG (bS rfl rfl h32) (aH rfl (aJ (nLI (a29, c30) (hi12 _ (sm H1)) (.cons dl1 (.cons aA .nil))))))))))
    ·exact bI (nB (nT (aQ (aF rfl (gdo H1 fun h33 H1 => (aG (bS rfl rfl h33) (aH rfl (aJ (nLI (a23, c24) (hi12 _ (sm H1)) (.cons dl1 (.cons aA .nil)))))))))))
   ·refine bI (nT (aD (dG [(0, .slice x_v0.1 v0.length x_v0.2), (3, .pointer (some ⟨g1, 0, none⟩)), (5, .slice z9.1 Q8.1.length z9.2), (6, .bool (Q8.2.1)), (7, .int .i64 (Q8.2.2))] mixed (.inr (by kernel_rfl)) ⟨rfl, rfl, rfl, rfl, rfl, trivial⟩ rfl (bC rfl (bC rfl (gdo H1 fun h34 H1 => (bA (bX dV ty57 rfl rfl h34 rfl (aO (aM aS))) (bA (bZ (j := 0) Q8.2.2.toNat fa57_0 rfl (aO (aM aS)) h34.lt rfl) (bA (cA (i := Q8.2.2.toNat) (j := 0) ty3 rfl (aO (aM aS)) h34.lt rfl) (aY (cC fa57_0 rfl rfl) ?_))))))))))
    refine bA (bJ ty3 rfl aB rfl) (aY (cU rfl rfl) (nT (cH H1 rfl (fun h35 H1 => ?_) (fun h35 H1 => ?_))))
    ·refine aQ (aF rfl (aF rfl (aF rfl (aI (bX dV ty57 rfl rfl h34 rfl (aO (aM aS))) (aI (v := .agg #[.int .i64 ((nth v0 Q8.2.2.toNat).1), .int .i64 ((nth v0 Q8.2.2.toNat).2)]) (cB (i := Q8.2.2.toNat) ty57 rfl (aO (aM aS)) h34.lt) (f1 (e_lit (vs := [(0, .agg #[.int .i64 ((nth v0 Q8.2.2.toNat).1), .int .i64 ((nth v0 Q8.2.2.toNat).2)])]) [.int .i64 ((nth v0 Q8.2.2.toNat).1), .int .i64 ((nth v0 Q8.2.2.toNat).2)] dV ty57 rfl (by decide) (by decide) (by kernel_rfl)) fun g36 => (gdo H1 fun h39 H1 => (f2 (e_app1 (l := Q8.1) (α := Row) (nth v0 Q8.2.2.toNat) ((), ()) dV ty57 rfl rfl (h39.b (by decide)) h39.x rfl (cY _) (.cons dl2 (.cons aA .nil))) fun a37 c38 => (aH rfl (aJ ?_))))))))))
     exact nB (nT (aQ (aF rfl (gdo H1 fun h40 H1 => (aG (bS rfl rfl h40) (aH rfl (aJ (nLI (a37, c38) (hi12 _ (sm H1)) (.cons dl1 (.cons aA .nil))))))))))
    ·exact bI (nB (nT (aQ (aF rfl (gdo H1 fun h41 H1 => (aG (bS rfl rfl h41) (aH rfl (aJ (nLI (z9.1, z9.2) (hi12 _ (sm H1)) (.cons aA (.cons aA .nil)))))))))))
  ·refine dB (xT (xT (xE (?_))))
   obtain rfl := hb13 _ (sm H1)
   exact nMC (z9.1, z9.2) ⟨rfl, rfl, rfl, trivial⟩ bU (.cons aA (.cons aA .nil))
 ·intro y10
  show At _ _ [(3, .pointer (some ⟨g1, 0, none⟩)), (5, .slice y10.1 x4.1.length y10.2), (6, .bool (x4.2))] _ [box g1 57 [.int .i64 (v1.1), .int .i64 (v1.2)], tree (.slice y10.1 x4.1.length y10.2) x4.1] _
  refine nT (aD (sr (aF rfl (aG (cX rfl) (nl (cH H rfl (fun h42 H => ?_) (fun h42 H => ?_)))))))
  ·refine aQ (aF rfl (aI (bK ty57 rfl aB rfl) (f1 (e_lit (vs := [(0, .agg #[.int .i64 (v1.1), .int .i64 (v1.2)])]) [.int .i64 (v1.1), .int .i64 (v1.2)] dV ty57 rfl (by decide) (by decide) (by kernel_rfl)) fun g43 => (gdo H fun h46 H => (f2 (e_app1 (l := x4.1) (α := Row) v1 ((), ()) dV ty57 rfl rfl (h46.b (by decide)) h46.x rfl (cY _) (.cons dl2 (.cons aA .nil))) fun a44 c45 => (aH rfl (nl (sr (aF rfl (aH rfl (nl ?_)))))))))))
   refine bR ?_
   obtain rfl := si H
   exact back1 (a44, c45) rfl (ResV.tmp (v := .slice a44 ((x4.1 ++ [v1]).length) c45) rfl) rfl cO (.cons aA .nil)
  ·refine bI (nT (sr (aF rfl (aH rfl (nl (bR ?_))))))
   obtain rfl := si H
   exact back1 y10 rfl (ResV.tmp (v := .slice y10.1 x4.1.length y10.2) rfl) rfl cO (.cons dl1 .nil)
noncomputable def p_spec_l2Merge_b0 (v1 : (List Row)) (Q10 : (List Row) × Int) : Option (((List Row) × Int) ⊕ ((List Row))) := cond (decide (Q10.2 < (v1.length : Int))) (gd (ix Q10.2 v1.length) <| bd (p_spec_l2Put Q10.1 (nth v1 Q10.2.toNat)) fun r20 => gd (I64 (Q10.2 + 1)) <| some (.inl (r20, Q10.2 + 1))) (some (.inr Q10.1))
noncomputable def p_spec_l2Merge (v0 : (List Row)) (v1 : (List Row)) : Option ((List Row)) := gd (room (([] : List Row).length + v0.length)) <| bd (lp (p_spec_l2Merge_b0 v1) ((([] : List Row) ++ v0), 0)) fun x6 => some x6
theorem c_spec_l2Merge {r : (List Row)} (v0 : (List Row)) (x_v0 : Option Addr × Nat) (v1 : (List Row)) (x_v1 : Option Addr × Nat) (H : p_spec_l2Merge v0 v1 = some r) : Fn' prog 131 #[.slice x_v0.1 v0.length x_v0.2, .slice x_v1.1 v1.length x_v1.2] [imm (.slice x_v0.1 v0.length x_v0.2) v0, imm (.slice x_v1.1 v1.length x_v1.2) v1] [] (ι := Option Addr × Nat) (fun x => .slice x.1 r.length x.2) (fun _ => []) (fun x => [tree (.slice x.1 r.length x.2) r]) := by
 refine cof (args := [_, _]) func131 ntmps131 fun c => ?_
 unfold p_spec_l2Merge at H
 refine sr (aH (v := .slice none 0 0) rfl (nl (sr (f2 (e_lit0 Row dV ty57) fun a1 c2 => (aF rfl (gdo H fun h5 H => (f2 (e_appF (l := ([] : List Row)) (k := v0) (α := Row) dV ty57 rfl rfl (h5.b (by decide)) h5.x (.cons aA .nil) (aM aS)) fun a3 c4 => (aH rfl (nl (aD (sr (aH (v := .int .i64 (0)) rfl (nl ?_)))))))))))))
 refine bdo H fun x6 hx7 H => (dC (ι := Option Addr × Nat) (fun ψ => [(5, .slice ψ.1 x6.length ψ.2)]) (fun ψ => [tree (.slice ψ.1 x6.length ψ.2) x6]) ?_ ?_)
 ·refine aR (dF hx7 (a3, c4) (fun Q10 z11 => [(1, .slice x_v1.1 v1.length x_v1.2), (5, .slice z11.1 Q10.1.length z11.2), (6, .int .i64 (Q10.2))]) (fun Q10 z11 => [tree (.slice z11.1 Q10.1.length z11.2) Q10.1]) (.cons aA .nil) ?_)
  rintro _ Q10 z11 t13 H1 hi14 hb15
  unfold p_spec_l2Merge_b0 at H1
  refine aD (sr (aF rfl (aF rfl (aG (bT 57 dV rfl) (aG (cS rfl rfl) (nl (cH H1 rfl (fun h18 H1 => ?_) (fun h18 H1 => ?_))))))))
  ·refine bI (nT (aD (aR (aQ (aF rfl (aF rfl (aF rfl (gdo H1 fun h19 H1 => (aI (bX dV ty57 rfl rfl h19 rfl (aO (aM aS.s))) (aI (v := .agg #[.int .i64 ((nth v1 Q10.2.toNat).1), .int .i64 ((nth v1 Q10.2.toNat).2)]) (cB (i := Q10.2.toNat) ty57 rfl (aO (aM aS.s)) h19.lt) ?_))))))))))
   exact bdo H1 fun r20 h21 H1 => (f1 (cG (c_spec_l2Put Q10.1 z11 (nth v1 Q10.2.toNat) h21) (fun _ => (bG bH)) rfl (aC (bM aB) aP)) fun x22 => (aH rfl (aJ (nB (nT (aQ (aF rfl (gdo H1 fun h23 H1 => (aG (bS rfl rfl h23) (aH rfl (aJ (nLI (x22.1, x22.2) (hi14 _ (sm H1)) (.cons aA .nil)))))))))))))
  ·refine dB (xT (xT (xE (?_))))
   obtain rfl := hb15 _ (sm H1)
   exact nMC (z11.1, z11.2) ⟨rfl, trivial⟩ bU (.cons aA .nil)
 ·intro y12
  show At _ _ [(5, .slice y12.1 x6.length y12.2)] _ [tree (.slice y12.1 x6.length y12.2) x6] _
  refine nT (sr (aF rfl (aH rfl (nl (bR ?_)))))
  obtain rfl := si H
  exact back1 y12 rfl (ResV.tmp (v := .slice y12.1 x6.length y12.2) rfl) rfl cO (.cons aA .nil)
noncomputable def p_spec_l13Rows_b0 (v0 : Store) (v1 : Int) (Q11 : (List Row) × Int) : Option (((List Row) × Int) ⊕ ((List Row))) := cond (decide (Q11.2 < (v0.2.1.length : Int))) (gd (ix Q11.2 v0.2.1.length) <| bd (p_spec_l12Of (nth v0.2.1 Q11.2.toNat) v1) fun r21 => bd (p_spec_l2Merge Q11.1 r21) fun r24 => gd (I64 (Q11.2 + 1)) <| some (.inl (r24, Q11.2 + 1))) (some (.inr Q11.1))
noncomputable def p_spec_l13Rows_b1 (v0 : Store) (v1 : Int) (Q32 : (List Row) × Int) : Option (((List Row) × Int) ⊕ ((List Row))) := cond (decide (Q32.2 < (v0.2.2.length : Int))) (gd (ix Q32.2 v0.2.2.length) <| cond (decide (((nth v0.2.2 Q32.2.toNat).1) = v1)) (bd (p_spec_l2Put Q32.1 ((nth v0.2.2 Q32.2.toNat).2)) fun r43 => gd (I64 (Q32.2 + 1)) <| some (.inl (r43, Q32.2 + 1))) (gd (I64 (Q32.2 + 1)) <| some (.inl (Q32.1, Q32.2 + 1)))) (some (.inr Q32.1))
noncomputable def p_spec_l13Rows (v0 : Store) (v1 : Int) : Option ((List Row)) := bd (lp (p_spec_l13Rows_b0 v0 v1) (([] : List Row), 0)) fun x7 => bd (lp (p_spec_l13Rows_b1 v0 v1) (x7, 0)) fun x28 => some x28
theorem c_spec_l13Rows {r : (List Row)} (v0 : Store) (x_v0 : ((Option Addr × Nat) × (Option Addr × Nat)) × (Option Addr × Nat) × (Option Addr × Nat)) (v1 : Int) (H : p_spec_l13Rows v0 v1 = some r) : Fn' prog 77 #[.agg #[.slice x_v0.1.1.1 v0.1.1.length x_v0.1.1.2, .slice x_v0.1.2.1 v0.1.2.length x_v0.1.2.2, .slice x_v0.2.1.1 v0.2.1.length x_v0.2.1.2, .slice x_v0.2.2.1 v0.2.2.length x_v0.2.2.2], .int .i64 (v1)] [imm (.slice x_v0.1.1.1 v0.1.1.length x_v0.1.1.2) v0.1.1, imm (.slice x_v0.1.2.1 v0.1.2.length x_v0.1.2.2) v0.1.2, imm (.slice x_v0.2.1.1 v0.2.1.length x_v0.2.1.2) v0.2.1, imm (.slice x_v0.2.2.1 v0.2.2.length x_v0.2.2.2) v0.2.2] [] (ι := Option Addr × Nat) (fun x => .slice x.1 r.length x.2) (fun _ => []) (fun x => [tree (.slice x.1 r.length x.2) r]) := by
 refine cof (args := [_, _]) func77 ntmps77 fun c => ?_
 unfold p_spec_l13Rows at H
 refine bN aS fun X1 => (bN aS.s.s fun X2 => (bN aS.s.s.s.s fun X3 => (sr (f1 (cD (t := 42) rfl) fun g4 => (aH (v := .slice none 0 0) rfl (nl (sr (f2 (e_lit0 Row dV ty57) fun a5 c6 => (aH rfl (nl (aD (sr ?_))))))))))))
 refine aH (v := .int .i64 (0)) rfl (nl (bdo H fun x7 hx8 H => (dC (ι := Option Addr × Nat) (fun ψ => [(1, .int .i64 (v1)), (2, .pointer (some ⟨g4, 0, none⟩)), (5, .slice ψ.1 x7.length ψ.2)]) (fun ψ => [box g4 42 [.slice x_v0.1.1.1 v0.1.1.length x_v0.1.1.2, .slice x_v0.1.2.1 v0.1.2.length x_v0.1.2.2, .slice x_v0.2.1.1 v0.2.1.length x_v0.2.1.2, .slice x_v0.2.2.1 v0.2.2.length x_v0.2.2.2], tree (.slice ψ.1 x7.length ψ.2) x7]) ?_ ?_)))
 ·refine aR (dF hx8 (a5, c6) (fun Q11 z12 => [(1, .int .i64 (v1)), (2, .pointer (some ⟨g4, 0, none⟩)), (5, .slice z12.1 Q11.1.length z12.2), (6, .int .i64 (Q11.2))]) (fun Q11 z12 => [box g4 42 [.slice x_v0.1.1.1 v0.1.1.length x_v0.1.1.2, .slice x_v0.1.2.1 v0.1.2.length x_v0.1.2.2, .slice x_v0.2.1.1 v0.2.1.length x_v0.2.1.2, .slice x_v0.2.2.1 v0.2.2.length x_v0.2.2.2], tree (.slice z12.1 Q11.1.length z12.2) Q11.1]) (.cons dl1 (.cons aA .nil)) ?_)
  rintro _ Q11 z12 t14 H1 hi15 hb16
  unfold p_spec_l13Rows_b0 at H1
  refine aD (sr (aF rfl (aG (cC fa42_1 rfl rfl) (aI (bJ ty39 rfl aB rfl) (aG (bT 72 dQ rfl) (aG (cS rfl rfl) (nl (cH H1 rfl (fun h19 H1 => ?_) (fun h19 H1 => ?_)))))))))
  ·refine bI (nT (aD (aR (aQ (aF rfl (aG (cC fa42_1 rfl rfl) (aI (bJ ty39 rfl aB rfl) (aF rfl (gdo H1 fun h20 H1 => (aI (bX dQ ty72 rfl rfl h20 rfl (aM (aU aS))) ?_))))))))))
   refine aI (v := .agg #[.slice (((X3 Q11.2.toNat).1).1) (((nth v0.2.1 Q11.2.toNat).1).length) (((X3 Q11.2.toNat).1).2.1), .slice (((X3 Q11.2.toNat).2).1) (((nth v0.2.1 Q11.2.toNat).2).length) (((X3 Q11.2.toNat).2).2.1)]) (cB (i := Q11.2.toNat) ty72 rfl (aM (aU aS)) h20.lt) (aF rfl (bdo H1 fun r21 h22 H1 => (f1 (e_call (c_spec_l12Of (nth v0.2.1 Q11.2.toNat) ((((X3 Q11.2.toNat).1).1, ((X3 Q11.2.toNat).1).2.1), (((X3 Q11.2.toNat).2).1, ((X3 Q11.2.toNat).2).2.1)) v1 h22) rfl (cN (aT (aW (aX aS h20.lt))) (cN (aT (aV (aX aS h20.lt))) cO)) bL) fun x23 => (bdo H1 fun r24 h25 H1 => (f1 (cG (c_spec_l2Merge Q11.1 z12 r21 x23 h25) (fun _ => (bG bH)) rfl (aC (bM hs1) (aC (aM aS) aP))) fun x26 => (aH rfl (aJ (nB (nT (aQ (aF rfl ?_)))))))))))
   exact gdo H1 fun h27 H1 => (aG (bS rfl rfl h27) (aH rfl (aJ (nLI (hf := bU.s) (x26.1, x26.2) (hi15 _ (sm H1)) (.cons dl1 (.cons aA .nil))))))
  ·refine dB (xT (xT (xE (?_))))
   obtain rfl := hb16 _ (sm H1)
   exact nMC (z12.1, z12.2) ⟨rfl, rfl, rfl, trivial⟩ bU (.cons aA (.cons aA .nil))
 ·intro y13
  show At _ _ [(1, .int .i64 (v1)), (2, .pointer (some ⟨g4, 0, none⟩)), (5, .slice y13.1 x7.length y13.2)] _ [box g4 42 [.slice x_v0.1.1.1 v0.1.1.length x_v0.1.1.2, .slice x_v0.1.2.1 v0.1.2.length x_v0.1.2.2, .slice x_v0.2.1.1 v0.2.1.length x_v0.2.1.2, .slice x_v0.2.2.1 v0.2.2.length x_v0.2.2.2], tree (.slice y13.1 x7.length y13.2) x7] _
  refine nT (aD (sr (aH (v := .int .i64 (0)) rfl (nl (bdo H fun x28 hx29 H => (dC (ι := Option Addr × Nat) (fun ψ => [(5, .slice ψ.1 x28.length ψ.2)]) (fun ψ => [tree (.slice ψ.1 x28.length ψ.2) x28]) ?_ ?_))))))
  ·refine aR (dF hx29 (y13.1, y13.2) (fun Q32 z33 => [(1, .int .i64 (v1)), (2, .pointer (some ⟨g4, 0, none⟩)), (5, .slice z33.1 Q32.1.length z33.2), (7, .int .i64 (Q32.2))]) (fun Q32 z33 => [box g4 42 [.slice x_v0.1.1.1 v0.1.1.length x_v0.1.1.2, .slice x_v0.1.2.1 v0.1.2.length x_v0.1.2.2, .slice x_v0.2.1.1 v0.2.1.length x_v0.2.1.2, .slice x_v0.2.2.1 v0.2.2.length x_v0.2.2.2], tree (.slice z33.1 Q32.1.length z33.2) Q32.1]) (.cons aA (.cons aA .nil)) ?_)
   rintro _ Q32 z33 t35 H1 hi36 hb37
   unfold p_spec_l13Rows_b1 at H1
   refine aD (sr (aF rfl (aG (cC fa42_2 rfl rfl) (aI (bJ ty40 rfl aB rfl) (aG (bT 59 dR rfl) (aG (cS rfl rfl) (nl (cH H1 rfl (fun h40 H1 => ?_) (fun h40 H1 => ?_)))))))))
   ·refine bI (nT (aD (aR (sr (aG (cC fa42_2 rfl rfl) (aI (bJ ty40 rfl aB rfl) (aF rfl (gdo H1 fun h41 H1 => (aI (bX dR ty59 rfl rfl h41 rfl (aO (aM aS.s.s.s.s.s.s))) (aI (bZ (j := 0) Q32.2.toNat fa59_0 rfl (aO (aM aS.s.s.s.s.s.s)) h41.lt rfl) ?_))))))))))
    refine aI (cA (i := Q32.2.toNat) (j := 0) ty3 rfl (aO (aM aS.s.s.s.s.s.s)) h41.lt rfl) (aF rfl (aG (cV rfl rfl) (nl (cH H1 rfl (fun h42 H1 => ?_) (fun h42 H1 => ?_)))))
    ·refine aQ (aF rfl (aG (cC fa42_2 rfl rfl) (aI (bJ ty40 rfl aB rfl) (aF rfl (aI (bX dR ty59 rfl rfl h41 rfl (aO (aM aS.s.s.s.s.s.s))) (aI (bZ (j := 0) Q32.2.toNat fa59_1 rfl (aO (aM aS.s.s.s.s.s.s)) h41.lt rfl) (aI (v := .agg #[.int .i64 (((nth v0.2.2 Q32.2.toNat).2).1), .int .i64 (((nth v0.2.2 Q32.2.toNat).2).2)]) (q_ldeP [.int .i64 (((nth v0.2.2 Q32.2.toNat).2).1), .int .i64 (((nth v0.2.2 Q32.2.toNat).2).2)] (l := v0.2.2) (E := fun i => Flat.enc (nth v0.2.2 i)) (oa := x_v0.2.2.1) (i := Q32.2.toNat) (j := 1) ty57 rfl (aO (aM aS.s.s.s.s.s.s)) h41.lt rfl rfl) (bdo H1 fun r43 h44 H1 => (f1 (cG (c_spec_l2Put Q32.1 z33 ((nth v0.2.2 Q32.2.toNat).2) h44) (fun _ => (bG bH)) rfl (aC (bM hs1) aP)) fun x45 => ?_)))))))))
     exact aH rfl (aJ (nB (nT (aQ (aF rfl (gdo H1 fun h46 H1 => (aG (bS rfl rfl h46) (aH rfl (aJ (nLI (x45.1, x45.2) (hi36 _ (sm H1)) (.cons dl1 (.cons aA .nil))))))))))))
    ·exact bI (nB (nT (aQ (aF rfl (gdo H1 fun h47 H1 => (aG (bS rfl rfl h47) (aH rfl (aJ (nLI (z33.1, z33.2) (hi36 _ (sm H1)) (.cons aA (.cons aA .nil)))))))))))
   ·refine dB (xT (xT (xE (?_))))
    obtain rfl := hb37 _ (sm H1)
    exact nMC (z33.1, z33.2) ⟨rfl, trivial⟩ bU (.cons dl1 .nil)
  ·intro y34
   show At _ _ [(5, .slice y34.1 x28.length y34.2)] _ [tree (.slice y34.1 x28.length y34.2) x28] _
   refine nT (sr (aF rfl (aH rfl (nl (bR ?_)))))
   obtain rfl := si H
   exact back1 y34 rfl (ResV.tmp (v := .slice y34.1 x28.length y34.2) rfl) rfl cO (.cons aA .nil)
noncomputable def p_spec_StoreOk_b0 (v0 : Store) (Q16 : Int) : Option ((Int) ⊕ (Unit ⊕ Bool)) := cond (decide (Q16 < (v0.2.1.length : Int))) (gd (ix Q16 v0.2.1.length) <| bd (p_spec_l13Part (nth v0.2.1 Q16.toNat) (v0.1.1.length : Int)) fun r26 => cond (!r26) (some (.inr (.inr false))) (gd (I64 (Q16 + 1)) <| some (.inl (Q16 + 1)))) (some (.inr (.inl ())))
noncomputable def p_spec_StoreOk_b1 (v0 : Store) (Q35 : Int) : Option ((Int) ⊕ (Unit ⊕ Bool)) := cond (decide (Q35 < (v0.2.2.length : Int))) (bd (gd (ix Q35 v0.2.2.length) <| bd (p_spec_l6In ((nth v0.2.2 Q35.toNat).1) 1 (v0.1.1.length : Int)) fun r47 => cond (!r47) (some (true)) (bd (p_spec_l2Row ((nth v0.2.2 Q35.toNat).2)) fun r50 => some (!r50))) fun b44 => cond (b44) (some (.inr (.inr false))) (gd (I64 (Q35 + 1)) <| some (.inl (Q35 + 1)))) (some (.inr (.inl ())))
noncomputable def p_spec_StoreOk_b2 (v0 : Store) (Q59 : Int) : Option ((Int) ⊕ (Unit ⊕ Bool)) := cond (decide (Q59 ≤ (v0.1.1.length : Int))) (bd (p_spec_l13Rows v0 Q59) fun r68 => cond (decide (24 < (r68.length : Int))) (some (.inr (.inr false))) (gd (I64 (Q59 + 1)) <| some (.inl (Q59 + 1)))) (some (.inr (.inl ())))
noncomputable def p_spec_StoreOk (v0 : Store) : Option (Bool) := bd (bd (p_spec_IndexOk v0.1) fun r7 => cond (!r7) (some (true)) (cond (decide (6 < (v0.2.1.length : Int))) (some (true)) (some (decide (20 < (v0.2.2.length : Int)))))) fun b5 => cond (b5) (some false) (bd (lp (p_spec_StoreOk_b0 v0) 0) <| sw (fun _ => bd (lp (p_spec_StoreOk_b1 v0) 0) <| sw (fun _ => bd (lp (p_spec_StoreOk_b2 v0) 1) <| sw (fun _ => some true) (fun q => some q)) (fun q => some q)) (fun q => some q))
theorem c_spec_StoreOk {r : Bool} (v0 : Store) (x_v0 : ((Option Addr × Nat) × (Option Addr × Nat)) × (Option Addr × Nat) × (Option Addr × Nat)) (H : p_spec_StoreOk v0 = some r) : Fn' prog 23 #[.agg #[.slice x_v0.1.1.1 v0.1.1.length x_v0.1.1.2, .slice x_v0.1.2.1 v0.1.2.length x_v0.1.2.2, .slice x_v0.2.1.1 v0.2.1.length x_v0.2.1.2, .slice x_v0.2.2.1 v0.2.2.length x_v0.2.2.2]] [imm (.slice x_v0.1.1.1 v0.1.1.length x_v0.1.1.2) v0.1.1, imm (.slice x_v0.1.2.1 v0.1.2.length x_v0.1.2.2) v0.1.2, imm (.slice x_v0.2.1.1 v0.2.1.length x_v0.2.1.2) v0.2.1, imm (.slice x_v0.2.2.1 v0.2.2.length x_v0.2.2.2) v0.2.2] [] (ι := Unit) (fun _ => .bool (r)) (fun _ => []) (fun _ => []) := by
 refine cof (args := [_]) func23 ntmps23 fun c => ?_
 unfold p_spec_StoreOk at H
 refine bN aS fun X1 => (bN aS.s.s fun X2 => (bN aS.s.s.s.s fun X3 => (sr (f1 (cD (t := 42) rfl) fun g4 => (aH (v := .bool (false)) rfl (nl (sr (aG (cC fa42_0 rfl rfl) (aG (cC fa38_0 rfl rfl) (aI (bJ ty35 rfl aB rfl) ?_))))))))))
 refine aG (bT 105 dO rfl) (aH rfl (nl (aD (bdo H fun b5 j6 H => (dE [(26, .bool (b5)), (3, .int .i64 ((v0.1.1.length : Int))), (1, .pointer (some ⟨g4, 0, none⟩))] ?_ ?_)))))
 ·refine dI [(3, .int .i64 ((v0.1.1.length : Int))), (1, .pointer (some ⟨g4, 0, none⟩))] ⟨rfl, rfl, trivial⟩ (aY (cC fa42_0 rfl rfl) (bA (v := .agg #[.slice x_v0.1.1.1 v0.1.1.length x_v0.1.1.2, .slice x_v0.1.2.1 v0.1.2.length x_v0.1.2.2]) (q_ldbP [.slice x_v0.1.1.1 v0.1.1.length x_v0.1.1.2, .slice x_v0.1.2.1 v0.1.2.length x_v0.1.2.2] ty38 rfl aB rfl rfl) (bdo j6 fun r7 h8 j6 => (bA (bO (c_spec_IndexOk v0.1 x_v0.1 h8) rfl (aC (aM (aT aS.s.s)) (aC (aM (aT aS.s)) aP))) (aY (cX rfl) ?_)))))
  rcases aL (!r7) with h9 | h9
  ·have j6 := cdT h9 j6
   refine bD (aE rfl) h9 ?_
   iterate 4 refine bF rfl ?_
   refine aY (v := .bool (true)) (bQ rfl rfl) (bC (v := .bool (true)) rfl ?_)
   iterate 4 refine bF rfl ?_
   refine aY (v := .bool (true)) (bQ rfl rfl) ?_
   obtain rfl := si j6
   show At _ _ _ _ _ _
   exact n1 ⟨rfl, rfl, rfl, trivial⟩
  ·have j6 := cdF h9 j6
   refine bD (aE rfl) h9 (aZ rfl (cC fa42_1 rfl rfl) (bB rfl (bJ ty39 rfl aB rfl) (aZ rfl (bT 72 dQ rfl) (aZ rfl (cW rfl rfl) (aY (bP rfl rfl) ?_)))))
   rcases aL (decide (6 < (v0.2.1.length : Int))) with h10 | h10
   ·have j6 := cdT h10 j6
    refine bD (aE rfl) h10 ?_
    iterate 4 refine bF rfl ?_
    refine aY (v := .bool (true)) (bQ rfl rfl) ?_
    obtain rfl := si j6
    show At _ _ _ _ _ _
    exact n1 ⟨rfl, rfl, rfl, trivial⟩
   ·have j6 := cdF h10 j6
    refine bD (aE rfl) h10 (aZ rfl (cC fa42_2 rfl rfl) (bB rfl (bJ ty40 rfl aB rfl) (aZ rfl (bT 59 dR rfl) (aZ rfl (cW rfl rfl) (aY (bP rfl rfl) ?_)))))
    obtain rfl := si j6
    show At _ _ _ _ _ _
    exact n1 ⟨rfl, rfl, rfl, trivial⟩
 refine cH H rfl (fun h11 H => ?_) (fun h11 H => ?_)
 ·refine sr (aH (v := .bool (false)) rfl (nl (bR (rT (?_)))))
  obtain rfl := si H
  exact bk
 ·refine bI (nT (aD (sr (aH (v := .int .i64 (0)) rfl (nl (bdo H fun x12 hx13 H => (dD (Λ := Unit) H (fun _ _ => [(1, .pointer (some ⟨g4, 0, none⟩)), (3, .int .i64 ((v0.1.1.length : Int)))]) (fun _ _ => [box g4 42 [.slice x_v0.1.1.1 v0.1.1.length x_v0.1.1.2, .slice x_v0.1.2.1 v0.1.2.length x_v0.1.2.2, .slice x_v0.2.1.1 v0.2.1.length x_v0.2.1.2, .slice x_v0.2.2.1 v0.2.2.length x_v0.2.2.2]]) ?_ ?_)))))))
  ·refine aR (dF hx13 () (fun Q16 _ => [(1, .pointer (some ⟨g4, 0, none⟩)), (3, .int .i64 ((v0.1.1.length : Int))), (4, .int .i64 (Q16))]) (fun _ _ => [box g4 42 [.slice x_v0.1.1.1 v0.1.1.length x_v0.1.1.2, .slice x_v0.1.2.1 v0.1.2.length x_v0.1.2.2, .slice x_v0.2.1.1 v0.2.1.length x_v0.2.1.2, .slice x_v0.2.2.1 v0.2.2.length x_v0.2.2.2]]) (.cons aA .nil) ?_)
   rintro _ Q16 z17 t19 H1 hi20 hb21
   unfold p_spec_StoreOk_b0 at H1
   refine aD (sr (aF rfl (aG (cC fa42_1 rfl rfl) (aI (bJ ty39 rfl aB rfl) (aG (bT 72 dQ rfl) (aG (cS rfl rfl) (nl (cH H1 rfl (fun h24 H1 => ?_) (fun h24 H1 => ?_)))))))))
   ·refine bI (nT (aD (aR (sr (aG (cC fa42_1 rfl rfl) (aI (bJ ty39 rfl aB rfl) (aF rfl (gdo H1 fun h25 H1 => (aI (bX dQ ty72 rfl rfl h25 rfl (aM (aU aS))) (aI (v := .agg #[.slice (((X3 Q16.toNat).1).1) (((nth v0.2.1 Q16.toNat).1).length) (((X3 Q16.toNat).1).2.1), .slice (((X3 Q16.toNat).2).1) (((nth v0.2.1 Q16.toNat).2).length) (((X3 Q16.toNat).2).2.1)]) (cB (i := Q16.toNat) ty72 rfl (aM (aU aS)) h25.lt) ?_))))))))))
    refine aF rfl (bdo H1 fun r26 h27 H1 => (aI (bO (c_spec_l13Part (nth v0.2.1 Q16.toNat) ((((X3 Q16.toNat).1).1, ((X3 Q16.toNat).1).2.1), (((X3 Q16.toNat).2).1, ((X3 Q16.toNat).2).2.1)) (v0.1.1.length : Int) h27) rfl (aC (aM (aT (aW (aX aS h25.lt)))) (aC (aM (aT (aV (aX aS h25.lt)))) aP))) (aG (cX rfl) (nl (cH H1 rfl (fun h28 H1 => ?_) (fun h28 H1 => ?_))))))
    ·refine sr (aH (v := .bool (false)) rfl (nl (bR (rB (rT (rT (rB (rT (rT (?_))))))))))
     obtain rfl := hb21 _ (sm H1)
     replace H := sw.r H
     obtain rfl := si H
     exact bk
    ·exact bI (nB (nT (aQ (aF rfl (gdo H1 fun h29 H1 => (aG (bS rfl rfl h29) (aH rfl (aJ (nLI () (hi20 _ (sm H1)) (.cons aA .nil))))))))))
   ·exact dB (xT (xT (xE (nMI () (hb21 _ (sm H1)) (.cons aA .nil)))))
  ·rintro e30 y18 H
   refine nT (aD (sr (aH (v := .int .i64 (0)) rfl (nl (bdo H fun x31 hx32 H => (dD (Λ := Unit) H (fun _ _ => [(1, .pointer (some ⟨g4, 0, none⟩)), (3, .int .i64 ((v0.1.1.length : Int)))]) (fun _ _ => [box g4 42 [.slice x_v0.1.1.1 v0.1.1.length x_v0.1.1.2, .slice x_v0.1.2.1 v0.1.2.length x_v0.1.2.2, .slice x_v0.2.1.1 v0.2.1.length x_v0.2.1.2, .slice x_v0.2.2.1 v0.2.2.length x_v0.2.2.2]]) ?_ ?_))))))
   ·refine aR (dF hx32 () (fun Q35 _ => [(1, .pointer (some ⟨g4, 0, none⟩)), (3, .int .i64 ((v0.1.1.length : Int))), (5, .int .i64 (Q35))]) (fun _ _ => [box g4 42 [.slice x_v0.1.1.1 v0.1.1.length x_v0.1.1.2, .slice x_v0.1.2.1 v0.1.2.length x_v0.1.2.2, .slice x_v0.2.1.1 v0.2.1.length x_v0.2.1.2, .slice x_v0.2.2.1 v0.2.2.length x_v0.2.2.2]]) (.cons aA .nil) ?_)
    rintro _ Q35 z36 t38 H1 hi39 hb40
    unfold p_spec_StoreOk_b1 at H1
    refine aD (sr (aF rfl (aG (cC fa42_2 rfl rfl) (aI (bJ ty40 rfl aB rfl) (aG (bT 59 dR rfl) (aG (cS rfl rfl) (nl (cH H1 rfl (fun h43 H1 => ?_) (fun h43 H1 => ?_)))))))))
    ·refine bI (nT (aD (aR (bdo H1 fun b44 j45 H1 => (dE [(67, .bool (b44)), (1, .pointer (some ⟨g4, 0, none⟩)), (3, .int .i64 ((v0.1.1.length : Int))), (5, .int .i64 (Q35))] ?_ ?_)))))
     ·refine dI [(1, .pointer (some ⟨g4, 0, none⟩)), (3, .int .i64 ((v0.1.1.length : Int))), (5, .int .i64 (Q35))] ⟨rfl, rfl, rfl, trivial⟩ (aY (cC fa42_2 rfl rfl) (bA (bJ ty40 rfl aB rfl) (bC rfl (gdo j45 fun h46 j45 => (bA (bX dR ty59 rfl rfl h46 rfl (aO (aM aS.s.s.s.s.s.s))) (bA (bZ (j := 0) Q35.toNat fa59_0 rfl (aO (aM aS.s.s.s.s.s.s)) h46.lt rfl) (bA (cA (i := Q35.toNat) (j := 0) ty3 rfl (aO (aM aS.s.s.s.s.s.s)) h46.lt rfl) (bC rfl (bdo j45 fun r47 h48 j45 => ?_)))))))))
      refine bA (bO (c_spec_l6In ((nth v0.2.2 Q35.toNat).1) 1 (v0.1.1.length : Int) h48) rfl aP) (aY (cX rfl) ?_)
      rcases aL (!r47) with h49 | h49
      ·have j45 := cdT h49 j45
       refine bD (aE rfl) h49 ?_
       iterate 8 refine bF rfl ?_
       refine aY (v := .bool (true)) (bQ rfl rfl) ?_
       obtain rfl := si j45
       show At _ _ _ _ _ _
       exact n1 ⟨rfl, rfl, rfl, rfl, trivial⟩
      ·have j45 := cdF h49 j45
       refine bD (aE rfl) h49 (aZ rfl (cC fa42_2 rfl rfl) (bB rfl (bJ ty40 rfl aB rfl) (aZ rfl (aE rfl) (bB rfl (bX dR ty59 rfl rfl h46 rfl (aO (aM aS.s.s.s.s.s.s))) (bB rfl (bZ (j := 0) Q35.toNat fa59_1 rfl (aO (aM aS.s.s.s.s.s.s)) h46.lt rfl) (bB (v := .agg #[.int .i64 (((nth v0.2.2 Q35.toNat).2).1), .int .i64 (((nth v0.2.2 Q35.toNat).2).2)]) rfl (q_ldeP [.int .i64 (((nth v0.2.2 Q35.toNat).2).1), .int .i64 (((nth v0.2.2 Q35.toNat).2).2)] (l := v0.2.2) (E := fun i => Flat.enc (nth v0.2.2 i)) (oa := x_v0.2.2.1) (i := Q35.toNat) (j := 1) ty57 rfl (aO (aM aS.s.s.s.s.s.s)) h46.lt rfl rfl) (bdo j45 fun r50 h51 j45 => (bB rfl (bO (c_spec_l2Row ((nth v0.2.2 Q35.toNat).2) h51) rfl aP) (aZ rfl (cX rfl) ?_)))))))))
       refine aY (bP rfl rfl) ?_
       obtain rfl := si j45
       show At _ _ _ _ _ _
       exact n1 ⟨rfl, rfl, rfl, rfl, trivial⟩
     refine cH H1 rfl (fun h52 H1 => ?_) (fun h52 H1 => ?_)
     ·refine sr (aH (v := .bool (false)) rfl (nl (bR (rB (rT (rT (rB (rT (rT (?_))))))))))
      obtain rfl := hb40 _ (sm H1)
      replace H := sw.r H
      obtain rfl := si H
      exact bk
     ·exact bI (nB (nT (aQ (aF rfl (gdo H1 fun h53 H1 => (aG (bS rfl rfl h53) (aH rfl (aJ (nLI () (hi39 _ (sm H1)) (.cons aA .nil))))))))))
    ·exact dB (xT (xT (xE (nMI () (hb40 _ (sm H1)) (.cons aA .nil)))))
   ·rintro e54 y37 H
    refine nT (aD (sr (aH (v := .int .i64 (1)) rfl (nl (bdo H fun x55 hx56 H => (dD (Λ := Unit) H (fun _ _ => []) (fun _ _ => []) ?_ ?_))))))
    ·refine aR (dF hx56 () (fun Q59 _ => [(1, .pointer (some ⟨g4, 0, none⟩)), (3, .int .i64 ((v0.1.1.length : Int))), (6, .int .i64 (Q59))]) (fun _ _ => [box g4 42 [.slice x_v0.1.1.1 v0.1.1.length x_v0.1.1.2, .slice x_v0.1.2.1 v0.1.2.length x_v0.1.2.2, .slice x_v0.2.1.1 v0.2.1.length x_v0.2.1.2, .slice x_v0.2.2.1 v0.2.2.length x_v0.2.2.2]]) (.cons aA .nil) ?_)
     rintro _ Q59 z60 t62 H1 hi63 hb64
     unfold p_spec_StoreOk_b2 at H1
     refine aD (sr (aF rfl (aF rfl (aG (p_leq rfl rfl) (nl (cH H1 rfl (fun h67 H1 => ?_) (fun h67 H1 => ?_)))))))
     ·refine bI (nT (aD (aR (sr (aI (bK ty42 rfl aB rfl) (aF rfl (bdo H1 fun r68 h69 H1 => (f1 (cG (c_spec_l13Rows v0 x_v0 Q59 h69) (fun _ => (bG bH)) rfl (aC (aM (aT aS.s.s)) (aC (aM (aT aS.s)) (aC (aM (aT aS)) (aC (aM aS.s.s.s.s.s.s) aP))))) fun x70 => (aG (bT 57 dV rfl) (aG (cW rfl rfl) (nl ?_)))))))))))
      refine cH H1 rfl (fun h71 H1 => ?_) (fun h71 H1 => ?_)
      ·refine sr (aH (v := .bool (false)) rfl (nl (bR (rB (rT (rT (rB (rT (rT (?_))))))))))
       obtain rfl := hb64 _ (sm H1)
       replace H := sw.r H
       obtain rfl := si H
       exact bk
      ·exact bI (nB (nT (aQ (aF rfl (gdo H1 fun h72 H1 => (aG (bS rfl rfl h72) (aH rfl (aJ (nLI () (hi63 _ (sm H1)) (.cons dl1 .nil))))))))))
     ·exact dB (xT (xT (xE (nMI () (hb64 _ (sm H1)) bL))))
    ·rintro e73 y61 H
     refine nT (sr (aH (v := .bool (true)) rfl (nl ?_)))
     obtain rfl := si H
     exact bR bk
noncomputable def p_impl_tagOk (v0 : Tag) : Option (Bool) := bd (cond (decide ((v0.1.size : Int) = 1)) (cond (!sless v0.1 (⟨#[97]⟩ : ByteArray)) (cond ((sless v0.1 (⟨#[100]⟩ : ByteArray) || decide (v0.1 = (⟨#[100]⟩ : ByteArray)))) (cond (decide ((v0.2.size : Int) = 1)) (cond (!sless v0.2 (⟨#[112]⟩ : ByteArray)) (some ((sless v0.2 (⟨#[122]⟩ : ByteArray) || decide (v0.2 = (⟨#[122]⟩ : ByteArray))))) (some (false))) (some (false))) (some (false))) (some (false))) (some (false))) fun b2 => some b2
theorem c_impl_tagOk {r : Bool} (v0 : Tag) (H : p_impl_tagOk v0 = some r) : Fn' prog 158 #[.agg #[.string (v0.1), .string (v0.2)]] [] [] (ι := Unit) (fun _ => .bool (r)) (fun _ => []) (fun _ => []) := by
 refine cof (args := [_]) func158 ntmps158 fun c => ?_
 unfold p_impl_tagOk at H
 refine sr (f1 (cD (t := 97) rfl) fun g1 => (aH (v := .bool (false)) rfl (nl (bdo H fun b2 j3 H => (dE [(2, .bool (b2))] ?_ ?_)))))
 ·refine dI [(1, .pointer (some ⟨g1, 0, none⟩))] ⟨rfl, trivial⟩ (aY (cC fa97_0 rfl rfl) (bA (bJ ty9 rfl aB rfl) (aY (p_slen dZ rfl) (aY (cV rfl rfl) ?_))))
  rcases aL (decide ((v0.1.size : Int) = 1)) with h4 | h4
  ·have j3 := cdT h4 j3
   refine bD (aE rfl) h4 (aZ rfl (cC fa97_0 rfl rfl) (bB rfl (bJ ty9 rfl aB rfl) (aZ rfl (p_sgeq rfl rfl) (aY (bQ rfl rfl) ?_))))
   rcases aL (!sless v0.1 (⟨#[97]⟩ : ByteArray)) with h5 | h5
   ·have j3 := cdT h5 j3
    refine bD (aE rfl) h5 (aZ rfl (cC fa97_0 rfl rfl) (bB rfl (bJ ty9 rfl aB rfl) (aZ rfl (p_sleq rfl rfl) (aY (bQ rfl rfl) ?_))))
    rcases aL ((sless v0.1 (⟨#[100]⟩ : ByteArray) || decide (v0.1 = (⟨#[100]⟩ : ByteArray)))) with h6 | h6
    ·have j3 := cdT h6 j3
     refine bD (aE rfl) h6 (aZ rfl (cC fa97_1 rfl rfl) (bB rfl (bJ ty9 rfl aB rfl) (aZ rfl (p_slen dZ rfl) (aZ rfl (cV rfl rfl) (aY (bQ rfl rfl) ?_)))))
     rcases aL (decide ((v0.2.size : Int) = 1)) with h7 | h7
     ·have j3 := cdT h7 j3
      refine bD (aE rfl) h7 (aZ rfl (cC fa97_1 rfl rfl) (bB rfl (bJ ty9 rfl aB rfl) (aZ rfl (p_sgeq rfl rfl) (aY (bQ rfl rfl) ?_))))
      rcases aL (!sless v0.2 (⟨#[112]⟩ : ByteArray)) with h8 | h8
      ·have j3 := cdT h8 j3
       refine bD (aE rfl) h8 (aZ rfl (cC fa97_1 rfl rfl) (bB rfl (bJ ty9 rfl aB rfl) (aZ rfl (p_sleq rfl rfl) (aY (bQ rfl rfl) (aY (p_assign rfl) ?_)))))
       obtain rfl := si j3
       show At _ _ _ _ _ _
       exact n1 ⟨rfl, trivial⟩
      ·have j3 := cdF h8 j3
       refine bD (aE rfl) h8 ?_
       iterate 3 refine bF rfl ?_
       refine aY (v := .bool (false)) (bP rfl rfl) (aY (v := .bool (false)) (p_assign rfl) ?_)
       obtain rfl := si j3
       show At _ _ _ _ _ _
       exact n1 ⟨rfl, trivial⟩
     ·have j3 := cdF h7 j3
      refine bD (aE rfl) h7 ?_
      iterate 3 refine bF rfl ?_
      refine aY (v := .bool (false)) (bP rfl rfl) (bC (v := .bool (false)) rfl ?_)
      iterate 3 refine bF rfl ?_
      refine aY (v := .bool (false)) (bP rfl rfl) (aY (v := .bool (false)) (p_assign rfl) ?_)
      obtain rfl := si j3
      show At _ _ _ _ _ _
      exact n1 ⟨rfl, trivial⟩
    ·have j3 := cdF h6 j3
     refine bD (aE rfl) h6 ?_
     iterate 4 refine bF rfl ?_
     refine aY (v := .bool (false)) (bP rfl rfl) (bC (v := .bool (false)) rfl ?_)
     iterate 3 refine bF rfl ?_
     refine aY (v := .bool (false)) (bP rfl rfl) (bC (v := .bool (false)) rfl ?_)
     iterate 3 refine bF rfl ?_
     refine aY (v := .bool (false)) (bP rfl rfl) (aY (v := .bool (false)) (p_assign rfl) ?_)
     obtain rfl := si j3
     show At _ _ _ _ _ _
     exact n1 ⟨rfl, trivial⟩
   ·have j3 := cdF h5 j3
    refine bD (aE rfl) h5 ?_
    iterate 3 refine bF rfl ?_
    refine aY (v := .bool (false)) (bP rfl rfl) (bC (v := .bool (false)) rfl ?_)
    iterate 4 refine bF rfl ?_
    refine aY (v := .bool (false)) (bP rfl rfl) (bC (v := .bool (false)) rfl ?_)
    iterate 3 refine bF rfl ?_
    refine aY (v := .bool (false)) (bP rfl rfl) (bC (v := .bool (false)) rfl ?_)
    iterate 3 refine bF rfl ?_
    refine aY (v := .bool (false)) (bP rfl rfl) (aY (v := .bool (false)) (p_assign rfl) ?_)
    obtain rfl := si j3
    show At _ _ _ _ _ _
    exact n1 ⟨rfl, trivial⟩
  ·have j3 := cdF h4 j3
   refine bD (aE rfl) h4 ?_
   iterate 3 refine bF rfl ?_
   refine aY (v := .bool (false)) (bP rfl rfl) (bC (v := .bool (false)) rfl ?_)
   iterate 3 refine bF rfl ?_
   refine aY (v := .bool (false)) (bP rfl rfl) (bC (v := .bool (false)) rfl ?_)
   iterate 4 refine bF rfl ?_
   refine aY (v := .bool (false)) (bP rfl rfl) (bC (v := .bool (false)) rfl ?_)
   iterate 3 refine bF rfl ?_
   refine aY (v := .bool (false)) (bP rfl rfl) (bC (v := .bool (false)) rfl ?_)
   iterate 3 refine bF rfl ?_
   refine aY (v := .bool (false)) (bP rfl rfl) (aY (v := .bool (false)) (p_assign rfl) ?_)
   obtain rfl := si j3
   show At _ _ _ _ _ _
   exact n1 ⟨rfl, trivial⟩
 obtain rfl := si H
 exact bR bk
noncomputable def p_impl_within (v0 : Int) (v1 : Int) (v2 : Int) : Option (Bool) := bd (cond (decide (v1 ≤ v0)) (some (decide (v0 ≤ v2))) (some (false))) fun b1 => some b1
theorem c_impl_within {r : Bool} (v0 : Int) (v1 : Int) (v2 : Int) (H : p_impl_within v0 v1 v2 = some r) : Fn' prog 71 #[.int .i64 (v0), .int .i64 (v1), .int .i64 (v2)] [] [] (ι := Unit) (fun _ => .bool (r)) (fun _ => []) (fun _ => []) := by
 refine cof (args := [_, _, _]) func71 ntmps71 fun c => ?_
 unfold p_impl_within at H
 refine sr (aH (v := .bool (false)) rfl (nl (bdo H fun b1 j2 H => (dE [(6, .bool (b1))] ?_ ?_))))
 ·refine dI [(0, .int .i64 (v0)), (1, .int .i64 (v1)), (2, .int .i64 (v2))] ⟨rfl, rfl, rfl, trivial⟩ (bC rfl (bC rfl (aY (p_geq rfl rfl) ?_)))
  rcases aL (decide (v1 ≤ v0)) with h3 | h3
  ·have j2 := cdT h3 j2
   refine bD (aE rfl) h3 (aZ rfl (aE rfl) (aZ rfl (aE rfl) (aZ rfl (p_leq rfl rfl) (aY (bQ rfl rfl) (aY (p_assign rfl) ?_)))))
   obtain rfl := si j2
   show At _ _ _ _ _ _
   exact n1 ⟨rfl, trivial⟩
  ·have j2 := cdF h3 j2
   refine bD (aE rfl) h3 ?_
   iterate 3 refine bF rfl ?_
   refine aY (v := .bool (false)) (bP rfl rfl) (aY (v := .bool (false)) (p_assign rfl) ?_)
   obtain rfl := si j2
   show At _ _ _ _ _ _
   exact n1 ⟨rfl, trivial⟩
 obtain rfl := si H
 exact bR bk
noncomputable def p_impl_NameOk_b0 (v0 : (List Tag)) (Q5 : Int) : Option ((Int) ⊕ (Unit ⊕ Bool)) := cond (decide (Q5 < (v0.length : Int))) (gd (ix Q5 v0.length) <| bd (bd (p_impl_tagOk (nth v0 Q5.toNat)) fun r18 => cond (!r18) (some (true)) (cond (decide (0 < Q5)) (gd (I64 (Q5 - 1)) <| gd (ix (Q5 - 1) v0.length) <| some (!sless ((nth v0 ((Q5 - 1).toNat)).1) ((nth v0 Q5.toNat).1))) (some (false)))) fun b16 => cond (b16) (some (.inr (.inr false))) (gd (I64 (Q5 + 1)) <| some (.inl (Q5 + 1)))) (some (.inr (.inl ())))
noncomputable def p_impl_NameOk (v0 : (List Tag)) : Option (Bool) := bd (lp (p_impl_NameOk_b0 v0) 0) <| sw (fun _ => bd (p_impl_within (v0.length : Int) 1 3) fun r27 => some r27) (fun q => some q)
theorem c_impl_NameOk {r : Bool} (v0 : (List Tag)) (x_v0 : Option Addr × Nat) (H : p_impl_NameOk v0 = some r) : Fn' prog 108 #[.slice x_v0.1 v0.length x_v0.2] [imm (.slice x_v0.1 v0.length x_v0.2) v0] [] (ι := Unit) (fun _ => .bool (r)) (fun _ => []) (fun _ => []) := by
 refine cof (args := [_]) func108 ntmps108 fun c => ?_
 unfold p_impl_NameOk at H
 refine sr (aH (v := .bool (false)) rfl (nl (aD (sr (aF rfl (aG (bT 97 dK rfl) (aF (v := .int .i64 (0)) rfl (nl (bdo H fun x1 hx2 H => (dD (Λ := Unit) H (fun _ _ => [(0, .slice x_v0.1 v0.length x_v0.2)]) (fun _ _ => []) ?_ ?_))))))))))
 ·refine aR (dF hx2 () (fun Q5 _ => [(0, .slice x_v0.1 v0.length x_v0.2), (5, .slice x_v0.1 v0.length x_v0.2), (6, .int .i64 ((v0.length : Int))), (7, .int .i64 (Q5))]) (fun _ _ => []) bL ?_)
  rintro _ Q5 z6 t8 H1 hi9 hb10
  unfold p_impl_NameOk_b0 at H1
  refine sr (aG (cS rfl rfl) (nl (aD (cH H1 rfl (fun h13 H1 => ?_) (fun h13 H1 => ?_)))))
  ·refine bI (nT (aD (aR (sr (aF rfl (gdo H1 fun h14 H1 => (aI (bX dK ty97 rfl rfl h14 rfl (aO (aM aS))) (aI (v := .agg #[.string ((nth v0 Q5.toNat).1), .string ((nth v0 Q5.toNat).2)]) (cB (i := Q5.toNat) ty97 rfl (aO (aM aS)) h14.lt) (f1 (cE ty97) fun g15 => (aH rfl ?_))))))))))
   refine stb (cs' := [.string ((nth v0 Q5.toNat).1), .string ((nth v0 Q5.toNat).2)]) ty97 cZ (nl (bdo H1 fun b16 j17 H1 => (dE [(29, .bool (b16)), (0, .slice x_v0.1 v0.length x_v0.2), (5, .slice x_v0.1 v0.length x_v0.2), (6, .int .i64 ((v0.length : Int))), (7, .int .i64 (Q5))] ?_ ?_)))
   ·refine dG [(3, .int .i64 (Q5)), (4, .pointer (some ⟨g15, 0, none⟩)), (0, .slice x_v0.1 v0.length x_v0.2), (5, .slice x_v0.1 v0.length x_v0.2), (6, .int .i64 ((v0.length : Int))), (7, .int .i64 (Q5))] mixed (.inr (by kernel_rfl)) ⟨rfl, rfl, rfl, rfl, rfl, rfl, trivial⟩ rfl (bA (bK ty97 rfl aB rfl) (bdo j17 fun r18 h19 j17 => (bA (bO (c_impl_tagOk (nth v0 Q5.toNat) h19) rfl aP) (aY (cX rfl) ?_))))
    rcases aL (!r18) with h20 | h20
    ·have j17 := cdT h20 j17
     refine bD (aE rfl) h20 ?_
     iterate 13 refine bF rfl ?_
     refine aY (v := .bool (true)) (bQ rfl rfl) ?_
     obtain rfl := si j17
     show At _ _ _ _ _ _
     exact n1 ⟨rfl, rfl, rfl, rfl, rfl, trivial⟩
    ·have j17 := cdF h20 j17
     refine bD (aE rfl) h20 (aZ rfl (aE rfl) (aZ rfl (cW rfl rfl) ?_))
     rcases aL (decide (0 < Q5)) with h21 | h21
     ·have j17 := cdT h21 j17
      refine bE rfl (aE rfl) h21 (aZ rfl (aE rfl) (aZ rfl (aE rfl) (gdo j17 fun h22 j17 => (aZ rfl (cT rfl rfl h22) (gdo j17 fun h23 j17 => (bB rfl (bX dK ty97 rfl rfl h23 rfl (aO (aM aS))) (bB rfl (bZ (j := 0) ((Q5 - 1).toNat) fa97_0 rfl (aO (aM aS)) h23.lt rfl) (bB rfl (cA (i := (Q5 - 1).toNat) (j := 0) ty9 rfl (aO (aM aS)) h23.lt rfl) (aZ rfl (cC fa97_0 rfl rfl) ?_)))))))))
      refine bB rfl (bJ ty9 rfl aB rfl) (aZ rfl (p_sgeq rfl rfl) (aZ rfl (bQ rfl rfl) (aY (bP rfl rfl) ?_)))
      obtain rfl := si j17
      show At _ _ _ _ _ _
      exact n1 ⟨rfl, rfl, rfl, rfl, rfl, trivial⟩
     ·have j17 := cdF h21 j17
      refine bE rfl (aE rfl) h21 ?_
      iterate 9 refine bF rfl ?_
      refine aZ (v := .bool (false)) rfl (bP rfl rfl) (aY (v := .bool (false)) (bP rfl rfl) ?_)
      obtain rfl := si j17
      show At _ _ _ _ _ _
      exact n1 ⟨rfl, rfl, rfl, rfl, rfl, trivial⟩
   refine cH H1 rfl (fun h24 H1 => ?_) (fun h24 H1 => ?_)
   ·refine sr (aH (v := .bool (false)) rfl (nl (bR (rB (rT (rT (rB (rT (rT (?_))))))))))
    obtain rfl := hb10 _ (sm H1)
    replace H := sw.r H
    obtain rfl := si H
    exact bk
   ·exact bI (nB (nT (aQ (gdo H1 fun h25 H1 => (aG (bS rfl rfl h25) (aF rfl (aJ (nLI () (hi9 _ (sm H1)) bL))))))))
  ·exact dB (xT (xT (xE (nMI () (hb10 _ (sm H1)) bL))))
 ·rintro e26 y7 H
  refine nT (sr (aF rfl (aG (bT 97 dK rfl) (bdo H fun r27 h28 H => (aI (bO (c_impl_within (v0.length : Int) 1 3 h28) rfl aP) (aH rfl (nl ?_)))))))
  obtain rfl := si H
  exact bR bk
noncomputable def p_slices_Equal_Tag_Tag_b0 (v0 : (List Tag)) (v1 : (List Tag)) (Q6 : Int) : Option ((Int) ⊕ (Unit ⊕ Bool)) := cond (decide (Q6 < (v0.length : Int))) (gd (ix Q6 v0.length) <| gd (ix Q6 v1.length) <| cond (!decide (nth v0 Q6.toNat = nth v1 Q6.toNat)) (some (.inr (.inr false))) (gd (I64 (Q6 + 1)) <| some (.inl (Q6 + 1)))) (some (.inr (.inl ())))
noncomputable def p_slices_Equal_Tag_Tag (v0 : (List Tag)) (v1 : (List Tag)) : Option (Bool) := cond (!decide ((v0.length : Int) = (v1.length : Int))) (some false) (bd (lp (p_slices_Equal_Tag_Tag_b0 v0 v1) 0) <| sw (fun _ => some true) (fun q => some q))
theorem c_slices_Equal_Tag_Tag {r : Bool} (v0 : (List Tag)) (x_v0 : Option Addr × Nat) (v1 : (List Tag)) (x_v1 : Option Addr × Nat) (H : p_slices_Equal_Tag_Tag v0 v1 = some r) : Fn' prog 203 #[.slice x_v0.1 v0.length x_v0.2, .slice x_v1.1 v1.length x_v1.2] [imm (.slice x_v0.1 v0.length x_v0.2) v0, imm (.slice x_v1.1 v1.length x_v1.2) v1] [] (ι := Unit) (fun _ => .bool (r)) (fun _ => []) (fun _ => []) := by
 refine cof (args := [_, _]) func203 ntmps203 fun c => ?_
 unfold p_slices_Equal_Tag_Tag at H
 refine sr (aH (v := .bool (false)) rfl (nl (aD (sr (aF rfl (aG (bT 97 dK rfl) (aF rfl (aG (bT 97 dK rfl) (aG (cU rfl rfl) (nl (cH H rfl (fun h1 H => ?_) (fun h1 H => ?_))))))))))))
 ·refine sr (aH (v := .bool (false)) rfl (nl (bR (rT (?_)))))
  obtain rfl := si H
  exact bk
 ·refine bI (nT (aD (sr (aF rfl (aG (bT 97 dK rfl) (aF (v := .int .i64 (0)) rfl (nl (bdo H fun x2 hx3 H => (dD (Λ := Unit) H (fun _ _ => []) (fun _ _ => []) ?_ ?_)))))))))
  ·refine aR (dF hx3 () (fun Q6 _ => [(0, .slice x_v0.1 v0.length x_v0.2), (1, .slice x_v1.1 v1.length x_v1.2), (12, .int .i64 ((v0.length : Int))), (13, .int .i64 (Q6))]) (fun _ _ => []) bL ?_)
   rintro _ Q6 z7 t9 H1 hi10 hb11
   unfold p_slices_Equal_Tag_Tag_b0 at H1
   refine sr (aG (cS rfl rfl) (nl (aD (cH H1 rfl (fun h14 H1 => ?_) (fun h14 H1 => ?_)))))
   ·refine bI (nT (aD (aR (sr (aF rfl (aH rfl (nl (aD (dG [(5, .int .i64 (Q6)), (0, .slice x_v0.1 v0.length x_v0.2), (1, .slice x_v1.1 v1.length x_v1.2), (12, .int .i64 ((v0.length : Int))), (13, .int .i64 (Q6))] mixed (.inr (by kernel_rfl)) ⟨rfl, rfl, rfl, rfl, rfl, trivial⟩ rfl (bC rfl (bC rfl ?_)))))))))))
    refine gdo H1 fun h15 H1 => (bA (bX dK ty97 rfl rfl h15 rfl (aO (aM aS))) (bA (v := .agg #[.string ((nth v0 Q6.toNat).1), .string ((nth v0 Q6.toNat).2)]) (cB (i := Q6.toNat) ty97 rfl (aO (aM aS)) h15.lt) (bC rfl (bC rfl (gdo H1 fun h16 H1 => (bA (bX dK ty97 rfl rfl h16 rfl (aO (aM aS.s))) (bA (v := .agg #[.string ((nth v1 Q6.toNat).1), .string ((nth v1 Q6.toNat).2)]) (cB (i := Q6.toNat) ty97 rfl (aO (aM aS.s)) h16.lt) (aY (v := .bool (!decide (nth v0 Q6.toNat = nth v1 Q6.toNat))) (p_aneq (a := nth v0 Q6.toNat) (b := nth v1 Q6.toNat) ae97 rfl rfl rfl rfl) (nT (?_))))))))))
    refine cH H1 rfl (fun h17 H1 => ?_) (fun h17 H1 => ?_)
    ·refine sr (aH (v := .bool (false)) rfl (nl (bR (rB (rT (rT (rB (rT (rT (?_))))))))))
     obtain rfl := hb11 _ (sm H1)
     replace H := sw.r H
     obtain rfl := si H
     exact bk
    ·exact bI (nB (nT (aQ (gdo H1 fun h18 H1 => (aG (bS rfl rfl h18) (aF rfl (aJ (nLI () (hi10 _ (sm H1)) bL))))))))
   ·exact dB (xT (xT (xE (nMI () (hb11 _ (sm H1)) bL))))
  ·rintro e19 y8 H
   refine nT (sr (aH (v := .bool (true)) rfl (nl ?_)))
   obtain rfl := si H
   exact bR bk
noncomputable def p_impl_numberOf_1 (v0 : (List Tag)) (k0 : (List Tag)) : Option (Bool) := bd (p_slices_Equal_Tag_Tag v0 k0) fun r1 => some r1
theorem c_impl_numberOf_1 {r : Bool} (v0 : (List Tag)) (x_v0 : Option Addr × Nat) (g_k0 : Nat) (k0 : (List Tag)) (x_k0 : Option Addr × Nat) (H : p_impl_numberOf_1 v0 k0 = some r) : Fn' prog 202 #[.slice x_v0.1 v0.length x_v0.2, .pointer (some ⟨g_k0, 0, none⟩)] [imm (.slice x_v0.1 v0.length x_v0.2) v0, imm (.slice x_k0.1 k0.length x_k0.2) k0] [box g_k0 105 [.slice x_k0.1 k0.length x_k0.2]] (ι := Unit) (fun _ => .bool (r)) (fun _ => []) (fun _ => [box g_k0 105 [.slice x_k0.1 k0.length x_k0.2]]) := by
 refine cof (args := [_, _]) func202 ntmps202 fun c => ?_
 unfold p_impl_numberOf_1 at H
 refine sr (aH (v := .bool (false)) rfl (nl (sr (aF rfl (aI (bJ ty105 rfl aB rfl) (bdo H fun r1 h2 H => (aI (bO (c_slices_Equal_Tag_Tag v0 x_v0 k0 x_k0 h2) rfl (aC (aM aS) (aC (aM aS.s) aP))) (aH rfl (nl ?_)))))))))
 obtain rfl := si H
 exact bR (bk (.cons aA .nil))
noncomputable def p_slices_IndexFunc_Tag_Tag_numberOf_1_b0 (v0 : (List (List Tag))) (v1_0 : (List Tag)) (Q6 : Int) : Option ((Int) ⊕ (Unit ⊕ Int)) := cond (decide (Q6 < (v0.length : Int))) (gd (ix Q6 v0.length) <| bd (p_impl_numberOf_1 (nth v0 Q6.toNat) v1_0) fun r16 => cond (r16) (some (.inr (.inr Q6))) (gd (I64 (Q6 + 1)) <| some (.inl (Q6 + 1)))) (some (.inr (.inl ())))
noncomputable def p_slices_IndexFunc_Tag_Tag_numberOf_1 (v0 : (List (List Tag))) (v1_0 : (List Tag)) : Option (Int) := bd (lp (p_slices_IndexFunc_Tag_Tag_numberOf_1_b0 v0 v1_0) 0) <| sw (fun _ => some (-1)) (fun q => some q)
theorem c_slices_IndexFunc_Tag_Tag_numberOf_1 {r : Int} (v0 : (List (List Tag))) (x_v0 : Option Addr × Nat) (g_v1_0 : Nat) (v1_0 : (List Tag)) (x_v1_0 : Option Addr × Nat) (H : p_slices_IndexFunc_Tag_Tag_numberOf_1 v0 v1_0 = some r) : Fn' prog 201 #[.slice x_v0.1 v0.length x_v0.2, .func (.func 202) #[] #[.pointer (some ⟨g_v1_0, 0, none⟩)]] [imm (.slice x_v0.1 v0.length x_v0.2) v0, imm (.slice x_v1_0.1 v1_0.length x_v1_0.2) v1_0] [box g_v1_0 105 [.slice x_v1_0.1 v1_0.length x_v1_0.2]] (ι := Unit) (fun _ => .int .i64 (r)) (fun _ => []) (fun _ => [box g_v1_0 105 [.slice x_v1_0.1 v1_0.length x_v1_0.2]]) := by
 refine cof (args := [_, _]) func201 ntmps201 fun c => ?_
 unfold p_slices_IndexFunc_Tag_Tag_numberOf_1 at H
 refine bN aS fun X1 => (sr (aH (v := .int .i64 (0)) rfl (nl (aD (sr (aF rfl (aG (bT 105 dO rfl) (aF (v := .int .i64 (0)) rfl (nl (bdo H fun x2 hx3 H => (dD (Λ := Unit) H (fun _ _ => []) (fun _ _ => [box g_v1_0 105 [.slice x_v1_0.1 v1_0.length x_v1_0.2]]) ?_ ?_)))))))))))
 ·refine aR (dF hx3 () (fun Q6 _ => [(0, .slice x_v0.1 v0.length x_v0.2), (1, .func (.func 202) #[] #[.pointer (some ⟨g_v1_0, 0, none⟩)]), (7, .int .i64 ((v0.length : Int))), (8, .int .i64 (Q6))]) (fun _ _ => [box g_v1_0 105 [.slice x_v1_0.1 v1_0.length x_v1_0.2]]) (.cons aA .nil) ?_)
  rintro _ Q6 z7 t9 H1 hi10 hb11
  unfold p_slices_IndexFunc_Tag_Tag_numberOf_1_b0 at H1
  refine sr (aG (cS rfl rfl) (nl (aD (cH H1 rfl (fun h14 H1 => ?_) (fun h14 H1 => ?_)))))
  ·refine bI (nT (aD (aR (sr (aF rfl (aH rfl (nl (sr (aF rfl (aF rfl (aF rfl ?_)))))))))))
   refine gdo H1 fun h15 H1 => (aI (bX dO ty105 rfl rfl h15 rfl (aM (aU aS))) (aI (cA (i := Q6.toNat) (j := 0) ty105 rfl (aM (aU aS)) h15.lt rfl) (bdo H1 fun r16 h17 H1 => (aI (v := .bool (r16)) (Ex.dyn (caps := [.pointer (some ⟨g_v1_0, 0, none⟩)]) (vs := [.slice ((X1 Q6.toNat).1) ((nth v0 Q6.toNat).length) ((X1 Q6.toNat).2.1)]) rfl rfl (q_callC (c_impl_numberOf_1 (nth v0 Q6.toNat) ((X1 Q6.toNat).1, (X1 Q6.toNat).2.1) g_v1_0 v1_0 x_v1_0 h17) (Solo.box bH) rfl (.cons aA .nil) (aC (aM (aT (aX aS h15.lt))) (aC (aM aS.s.s) aP)))) (nl (cH H1 rfl (fun h18 H1 => ?_) (fun h18 H1 => ?_)))))))
   ·refine sr (aF rfl (aH rfl (nl (bR (rB (rT (rT (rB (rT (rT (?_)))))))))))
    obtain rfl := hb11 _ (sm H1)
    replace H := sw.r H
    obtain rfl := si H
    exact bk (.cons aA .nil)
   ·exact bI (nB (nT (aQ (gdo H1 fun h19 H1 => (aG (bS rfl rfl h19) (aF rfl (aJ (nLI () (hi10 _ (sm H1)) (.cons aA .nil)))))))))
  ·exact dB (xT (xT (xE (nMI () (hb11 _ (sm H1)) (.cons aA .nil)))))
 ·rintro e20 y8 H
  refine nT (sr (aH (v := .int .i64 (-1)) rfl (nl ?_)))
  obtain rfl := si H
  exact bR (bk (.cons aA .nil))
noncomputable def p_impl_numberOf (v0 : (List (List Tag))) (v1 : (List Tag)) : Option (Int) := bd (p_slices_IndexFunc_Tag_Tag_numberOf_1 v0 v1) fun r3 => gd (I64 (r3 + 1)) <| some (r3 + 1)
theorem c_impl_numberOf {r : Int} (v0 : (List (List Tag))) (x_v0 : Option Addr × Nat) (v1 : (List Tag)) (x_v1 : Option Addr × Nat) (H : p_impl_numberOf v0 v1 = some r) : Fn' prog 174 #[.slice x_v0.1 v0.length x_v0.2, .slice x_v1.1 v1.length x_v1.2] [imm (.slice x_v0.1 v0.length x_v0.2) v0, imm (.slice x_v1.1 v1.length x_v1.2) v1] [] (ι := Unit) (fun _ => .int .i64 (r)) (fun _ => []) (fun _ => []) := by
 refine cof (args := [_, _]) func174 ntmps174 fun c => ?_
 unfold p_impl_numberOf at H
 refine bN aS fun X1 => (sr (f1 (cD (t := 105) rfl) fun g2 => (aH (v := .int .i64 (0)) rfl (nl (sr (aF rfl (aG (v := .func (.func 202) #[] #[.pointer (some ⟨g2, 0, none⟩)]) (p_mkfunc (vs := [.pointer (some ⟨g2, 0, none⟩)]) rfl rfl) (bdo H fun r3 h4 H => (aI (q_callC (c_slices_IndexFunc_Tag_Tag_numberOf_1 v0 x_v0 g2 v1 x_v1 h4) (Solo.box bH) rfl (.cons aA .nil) (aC (aM (aT aS)) (aC (aM aS.s.s) aP))) (gdo H fun h5 H => ?_))))))))))
 refine aG (bS rfl rfl h5) (aH rfl (nl ?_))
 obtain rfl := si H
 exact bR bk
noncomputable def p_impl_namesOk_b0 (v0 : (List (List Tag))) (Q6 : Int) : Option ((Int) ⊕ (Unit ⊕ Bool)) := cond (decide (Q6 < (v0.length : Int))) (gd (ix Q6 v0.length) <| bd (bd (p_impl_NameOk (nth v0 Q6.toNat)) fun r18 => cond (!r18) (some (true)) (bd (p_impl_numberOf v0 (nth v0 Q6.toNat)) fun r21 => gd (I64 (Q6 + 1)) <| some (!decide (r21 = (Q6 + 1))))) fun b16 => cond (b16) (some (.inr (.inr false))) (gd (I64 (Q6 + 1)) <| some (.inl (Q6 + 1)))) (some (.inr (.inl ())))
noncomputable def p_impl_namesOk (v0 : (List (List Tag))) : Option (Bool) := bd (lp (p_impl_namesOk_b0 v0) 0) <| sw (fun _ => some (decide ((v0.length : Int) ≤ 6))) (fun q => some q)
theorem c_impl_namesOk {r : Bool} (v0 : (List (List Tag))) (x_v0 : Option Addr × Nat) (H : p_impl_namesOk v0 = some r) : Fn' prog 122 #[.slice x_v0.1 v0.length x_v0.2] [imm (.slice x_v0.1 v0.length x_v0.2) v0] [] (ι := Unit) (fun _ => .bool (r)) (fun _ => []) (fun _ => []) := by
 refine cof (args := [_]) func122 ntmps122 fun c => ?_
 unfold p_impl_namesOk at H
 refine bN aS fun X1 => (sr (aH (v := .bool (false)) rfl (nl (aD (sr (aF rfl (aG (bT 105 dO rfl) (aF (v := .int .i64 (0)) rfl (nl (bdo H fun x2 hx3 H => (dD (Λ := Unit) H (fun _ _ => [(0, .slice x_v0.1 v0.length x_v0.2)]) (fun _ _ => []) ?_ ?_)))))))))))
 ·refine aR (dF hx3 () (fun Q6 _ => [(0, .slice x_v0.1 v0.length x_v0.2), (5, .slice x_v0.1 v0.length x_v0.2), (6, .int .i64 ((v0.length : Int))), (7, .int .i64 (Q6))]) (fun _ _ => []) bL ?_)
  rintro _ Q6 z7 t9 H1 hi10 hb11
  unfold p_impl_namesOk_b0 at H1
  refine sr (aG (cS rfl rfl) (nl (aD (cH H1 rfl (fun h14 H1 => ?_) (fun h14 H1 => ?_)))))
  ·refine bI (nT (aD (aR (sr (aF rfl (gdo H1 fun h15 H1 => (aI (bX dO ty105 rfl rfl h15 rfl (aM (aU aS))) (aI (cA (i := Q6.toNat) (j := 0) ty105 rfl (aM (aU aS)) h15.lt rfl) (aH rfl (aH rfl (nl ?_)))))))))))
   refine bdo H1 fun b16 j17 H1 => (dE [(22, .bool (b16)), (0, .slice x_v0.1 v0.length x_v0.2), (5, .slice x_v0.1 v0.length x_v0.2), (6, .int .i64 ((v0.length : Int))), (7, .int .i64 (Q6))] ?_ ?_)
   ·refine dI [(4, .slice ((X1 Q6.toNat).1) ((nth v0 Q6.toNat).length) ((X1 Q6.toNat).2.1)), (3, .int .i64 (Q6)), (0, .slice x_v0.1 v0.length x_v0.2), (5, .slice x_v0.1 v0.length x_v0.2), (6, .int .i64 ((v0.length : Int))), (7, .int .i64 (Q6))] ⟨rfl, rfl, rfl, rfl, rfl, rfl, trivial⟩ (bC rfl (bdo j17 fun r18 h19 j17 => (bA (bO (c_impl_NameOk (nth v0 Q6.toNat) ((X1 Q6.toNat).1, (X1 Q6.toNat).2.1) h19) rfl (aC (aM (aT (aX aS h15.lt))) aP)) (aY (cX rfl) ?_))))
    rcases aL (!r18) with h20 | h20
    ·have j17 := cdT h20 j17
     refine bD (aE rfl) h20 ?_
     iterate 6 refine bF rfl ?_
     refine aY (v := .bool (true)) (bQ rfl rfl) ?_
     obtain rfl := si j17
     show At _ _ _ _ _ _
     exact n1 ⟨rfl, rfl, rfl, rfl, rfl, trivial⟩
    ·have j17 := cdF h20 j17
     refine bD (aE rfl) h20 (aZ rfl (aE rfl) (aZ rfl (aE rfl) (bdo j17 fun r21 h22 j17 => (bB rfl (bO (c_impl_numberOf v0 x_v0 (nth v0 Q6.toNat) ((X1 Q6.toNat).1, (X1 Q6.toNat).2.1) h22) rfl (aC (aM (aT aS)) (aC (aM (aT (aX aS h15.lt))) aP))) (aZ rfl (aE rfl) (gdo j17 fun h23 j17 => (aZ rfl (bS rfl rfl h23) (aZ rfl (cU rfl rfl) (aY (bP rfl rfl) ?_)))))))))
     obtain rfl := si j17
     show At _ _ _ _ _ _
     exact n1 ⟨rfl, rfl, rfl, rfl, rfl, trivial⟩
   refine cH H1 rfl (fun h24 H1 => ?_) (fun h24 H1 => ?_)
   ·refine sr (aH (v := .bool (false)) rfl (nl (bR (rB (rT (rT (rB (rT (rT (?_))))))))))
    obtain rfl := hb11 _ (sm H1)
    replace H := sw.r H
    obtain rfl := si H
    exact bk
   ·exact bI (nB (nT (aQ (gdo H1 fun h25 H1 => (aG (bS rfl rfl h25) (aF rfl (aJ (nLI () (hi10 _ (sm H1)) bL))))))))
  ·exact dB (xT (xT (xE (nMI () (hb11 _ (sm H1)) bL))))
 ·rintro e26 y8 H
  refine nT (sr (aF rfl (aG (bT 105 dO rfl) (aG (p_leq rfl rfl) (aH rfl (nl ?_))))))
  obtain rfl := si H
  exact bR bk
noncomputable def p_impl_cloneNames_b0 (v0 : (List (List Tag))) (Q8 : (List (List Tag)) × Int) : Option (((List (List Tag)) × Int) ⊕ ((List (List Tag)))) := cond (decide (Q8.2 < (v0.length : Int))) (gd (ix Q8.2 v0.length) <| gd (room (([] : List Tag).length + (nth v0 Q8.2.toNat).length)) <| gd (room (Q8.1.length + 1)) <| gd (I64 (Q8.2 + 1)) <| some (.inl ((Q8.1 ++ [([] : List Tag) ++ (nth v0 Q8.2.toNat)]), Q8.2 + 1))) (some (.inr Q8.1))
noncomputable def p_impl_cloneNames (v0 : (List (List Tag))) : Option ((List (List Tag))) := bd (lp (p_impl_cloneNames_b0 v0) (([] : List (List Tag)), 0)) fun x4 => some x4
theorem c_impl_cloneNames {r : (List (List Tag))} (v0 : (List (List Tag))) (x_v0 : Option Addr × Nat) (H : p_impl_cloneNames v0 = some r) : Fn' prog 175 #[.slice x_v0.1 v0.length x_v0.2] [imm (.slice x_v0.1 v0.length x_v0.2) v0] [] (ι := Option Addr × Nat) (fun x => .slice x.1 r.length x.2) (fun _ => []) (fun x => [tree (.slice x.1 r.length x.2) r]) := by
 refine cof (args := [_]) func175 ntmps175 fun c => ?_
 unfold p_impl_cloneNames at H
 refine bN aS fun X1 => (sr (aH (v := .slice none 0 0) rfl (nl (sr (f2 (e_lit0 (List Tag) dO ty105) fun a2 c3 => (aH rfl (nl (aD (sr (aF rfl (aG (bT 105 dO rfl) (aF (v := .int .i64 (0)) rfl (nl ?_)))))))))))))
 refine bdo H fun x4 hx5 H => (dC (ι := Option Addr × Nat) (fun ψ => [(3, .slice ψ.1 x4.length ψ.2)]) (fun ψ => [tree (.slice ψ.1 x4.length ψ.2) x4]) ?_ ?_)
 ·refine aR (dF hx5 (a2, c3) (fun Q8 z9 => [(3, .slice z9.1 Q8.1.length z9.2), (7, .slice x_v0.1 v0.length x_v0.2), (8, .int .i64 ((v0.length : Int))), (9, .int .i64 (Q8.2))]) (fun Q8 z9 => [tree (.slice z9.1 Q8.1.length z9.2) Q8.1]) (.cons aA .nil) ?_)
  rintro _ Q8 z9 t11 H1 hi12 hb13
  unfold p_impl_cloneNames_b0 at H1
  refine sr (aG (cS rfl rfl) (nl (aD (cH H1 rfl (fun h16 H1 => ?_) (fun h16 H1 => ?_)))))
  ·refine bI (nT (aD (aR (sr (gdo H1 fun h17 H1 => (aI (bX dO ty105 rfl rfl h17 rfl (aM (aU aS))) (aI (cA (i := Q8.2.toNat) (j := 0) ty105 rfl (aM (aU aS)) h17.lt rfl) (aH rfl (nl (aQ (aF rfl ?_)))))))))))
   refine f2 (e_lit0 Tag dK ty97) fun a18 c19 => (aF rfl (gdo H1 fun h22 H1 => (f2 (e_appF (l := ([] : List Tag)) (k := nth v0 Q8.2.toNat) (α := Tag) dK ty97 rfl rfl (h22.b (by decide)) h22.x (.cons aA .nil) (aM (aT (aX aS h17.lt)))) fun a20 c21 => (f1 (e_lit (vs := [(0, .slice a20 ((([] : List Tag) ++ (nth v0 Q8.2.toNat)).length) c21)]) [.slice a20 ((([] : List Tag) ++ (nth v0 Q8.2.toNat)).length) c21] dO ty105 rfl (by decide) (by decide) (by kernel_rfl)) fun g23 => (gdo H1 fun h26 H1 => (f2 (e_app1 (l := Q8.1) (α := (List Tag)) (([] : List Tag) ++ (nth v0 Q8.2.toNat)) (a20, c21) dO ty105 rfl rfl (h26.b (by decide)) h26.x rfl (cY _) (.cons dl2 (.cons aA (.cons aA .nil)))) fun a24 c25 => (aH rfl (aJ (nB (nT (aQ ?_)))))))))))
   exact gdo H1 fun h27 H1 => (aG (bS rfl rfl h27) (aF rfl (aJ (nLI (a24, c25) (hi12 _ (sm H1)) (.cons aA .nil)))))
  ·refine dB (xT (xT (xE (?_))))
   obtain rfl := hb13 _ (sm H1)
   exact nMC (z9.1, z9.2) ⟨rfl, trivial⟩ bU (.cons aA .nil)
 ·intro y10
  show At _ _ [(3, .slice y10.1 x4.length y10.2)] _ [tree (.slice y10.1 x4.length y10.2) x4] _
  refine nT (sr (aF rfl (aH rfl (nl (bR ?_)))))
  obtain rfl := si H
  exact back1 y10 rfl (ResV.tmp (v := .slice y10.1 x4.length y10.2) rfl) rfl cO (.cons aA .nil)
noncomputable def p_impl_indexOf_1 (v0 : Post) (k0 : Tag) : Option (Bool) := some (decide (v0.1 = k0))
theorem c_impl_indexOf_1 {r : Bool} (v0 : Post) (x_v0 : (Unit × Unit) × (Option Addr × Nat)) (g_k0 : Nat) (k0 : Tag) (H : p_impl_indexOf_1 v0 k0 = some r) : Fn' prog 177 #[.agg #[.string (v0.1.1), .string (v0.1.2), .slice x_v0.2.1 v0.2.length x_v0.2.2], .pointer (some ⟨g_k0, 0, none⟩)] [imm (.slice x_v0.2.1 v0.2.length x_v0.2.2) v0.2] [box g_k0 97 [.string (k0.1), .string (k0.2)]] (ι := Unit) (fun _ => .bool (r)) (fun _ => []) (fun _ => [box g_k0 97 [.string (k0.1), .string (k0.2)]]) := by
 refine cof (args := [_, _]) func177 ntmps177 fun c => ?_
 unfold p_impl_indexOf_1 at H
 refine sr (f1 (cD (t := 177) rfl) fun g1 => (aH (v := .bool (false)) rfl (nl (sr (aG (cC fa177_0 rfl rfl) (aI (v := .agg #[.string (v0.1.1), .string (v0.1.2)]) (q_ldbP [.string (v0.1.1), .string (v0.1.2)] ty97 rfl aB rfl rfl) (aI (bK ty97 rfl hs1 rfl) (aG (v := .bool (decide (v0.1 = k0))) (p_aeql (a := v0.1) (b := k0) ae97 rfl rfl rfl rfl) (aH rfl (nl ?_))))))))))
 obtain rfl := si H
 exact bR (bk (.cons dl1 .nil))
noncomputable def p_slices_IndexFunc_Post_Post_indexOf_1_b0 (v0 : (List Post)) (v1_0 : Tag) (Q6 : Int) : Option ((Int) ⊕ (Unit ⊕ Int)) := cond (decide (Q6 < (v0.length : Int))) (gd (ix Q6 v0.length) <| bd (p_impl_indexOf_1 (nth v0 Q6.toNat) v1_0) fun r16 => cond (r16) (some (.inr (.inr Q6))) (gd (I64 (Q6 + 1)) <| some (.inl (Q6 + 1)))) (some (.inr (.inl ())))
noncomputable def p_slices_IndexFunc_Post_Post_indexOf_1 (v0 : (List Post)) (v1_0 : Tag) : Option (Int) := bd (lp (p_slices_IndexFunc_Post_Post_indexOf_1_b0 v0 v1_0) 0) <| sw (fun _ => some (-1)) (fun q => some q)
theorem c_slices_IndexFunc_Post_Post_indexOf_1 {r : Int} (v0 : (List Post)) (x_v0 : Option Addr × Nat) (g_v1_0 : Nat) (v1_0 : Tag) (H : p_slices_IndexFunc_Post_Post_indexOf_1 v0 v1_0 = some r) : Fn' prog 176 #[.slice x_v0.1 v0.length x_v0.2, .func (.func 177) #[] #[.pointer (some ⟨g_v1_0, 0, none⟩)]] [imm (.slice x_v0.1 v0.length x_v0.2) v0] [box g_v1_0 97 [.string (v1_0.1), .string (v1_0.2)]] (ι := Unit) (fun _ => .int .i64 (r)) (fun _ => []) (fun _ => [box g_v1_0 97 [.string (v1_0.1), .string (v1_0.2)]]) := by
 refine cof (args := [_, _]) func176 ntmps176 fun c => ?_
 unfold p_slices_IndexFunc_Post_Post_indexOf_1 at H
 refine bN aS fun X1 => (sr (aH (v := .int .i64 (0)) rfl (nl (aD (sr (aF rfl (aG (bT 177 dP rfl) (aF (v := .int .i64 (0)) rfl (nl (bdo H fun x2 hx3 H => (dD (Λ := Unit) H (fun _ _ => []) (fun _ _ => [box g_v1_0 97 [.string (v1_0.1), .string (v1_0.2)]]) ?_ ?_)))))))))))
 ·refine aR (dF hx3 () (fun Q6 _ => [(0, .slice x_v0.1 v0.length x_v0.2), (1, .func (.func 177) #[] #[.pointer (some ⟨g_v1_0, 0, none⟩)]), (7, .int .i64 ((v0.length : Int))), (8, .int .i64 (Q6))]) (fun _ _ => [box g_v1_0 97 [.string (v1_0.1), .string (v1_0.2)]]) (.cons aA .nil) ?_)
  rintro _ Q6 z7 t9 H1 hi10 hb11
  unfold p_slices_IndexFunc_Post_Post_indexOf_1_b0 at H1
  refine sr (aG (cS rfl rfl) (nl (aD (cH H1 rfl (fun h14 H1 => ?_) (fun h14 H1 => ?_)))))
  ·refine bI (nT (aD (aR (sr (aF rfl (aH rfl (nl (sr (aF rfl (aF rfl (aF rfl ?_)))))))))))
   refine gdo H1 fun h15 H1 => (aI (bX dP ty177 rfl rfl h15 rfl (aM (aU aS))) (aI (v := .agg #[.string (((nth v0 Q6.toNat).1).1), .string (((nth v0 Q6.toNat).1).2), .slice (((X1 Q6.toNat).2).1) (((nth v0 Q6.toNat).2).length) (((X1 Q6.toNat).2).2.1)]) (cB (i := Q6.toNat) ty177 rfl (aM (aU aS)) h15.lt) (bdo H1 fun r16 h17 H1 => (aI (v := .bool (r16)) (Ex.dyn (caps := [.pointer (some ⟨g_v1_0, 0, none⟩)]) (vs := [.agg #[.string (((nth v0 Q6.toNat).1).1), .string (((nth v0 Q6.toNat).1).2), .slice (((X1 Q6.toNat).2).1) (((nth v0 Q6.toNat).2).length) (((X1 Q6.toNat).2).2.1)]]) rfl rfl (q_callC (c_impl_indexOf_1 (nth v0 Q6.toNat) (((), ()), (((X1 Q6.toNat).2).1, ((X1 Q6.toNat).2).2.1)) g_v1_0 v1_0 h17) (Solo.box bH) rfl (.cons aA .nil) (aC (aM (aT (aV (aX aS h15.lt)))) aP))) (nl (cH H1 rfl (fun h18 H1 => ?_) (fun h18 H1 => ?_)))))))
   ·refine sr (aF rfl (aH rfl (nl (bR (rB (rT (rT (rB (rT (rT (?_)))))))))))
    obtain rfl := hb11 _ (sm H1)
    replace H := sw.r H
    obtain rfl := si H
    exact bk (.cons aA .nil)
   ·exact bI (nB (nT (aQ (gdo H1 fun h19 H1 => (aG (bS rfl rfl h19) (aF rfl (aJ (nLI () (hi10 _ (sm H1)) (.cons aA .nil)))))))))
  ·exact dB (xT (xT (xE (nMI () (hb11 _ (sm H1)) (.cons aA .nil)))))
 ·rintro e20 y8 H
  refine nT (sr (aH (v := .int .i64 (-1)) rfl (nl ?_)))
  obtain rfl := si H
  exact bR (bk (.cons aA .nil))
noncomputable def p_cmp_isNaN_string (v0 : ByteArray) : Option (Bool) := some (!decide (v0 = v0))
theorem c_cmp_isNaN_string {r : Bool} (v0 : ByteArray) (H : p_cmp_isNaN_string v0 = some r) : Fn' prog 206 #[.string (v0)] [] [] (ι := Unit) (fun _ => .bool (r)) (fun _ => []) (fun _ => []) := by
 refine cof (args := [_]) func206 ntmps206 fun c => ?_
 unfold p_cmp_isNaN_string at H
 refine sr (aH (v := .bool (false)) rfl (nl (sr (aF rfl (aF rfl (aG (p_sneq rfl rfl) (aH rfl (nl ?_))))))))
 obtain rfl := si H
 exact bR bk
noncomputable def p_cmp_Compare_string (v0 : ByteArray) (v1 : ByteArray) : Option (Int) := bd (p_cmp_isNaN_string v0) fun r1 => bd (p_cmp_isNaN_string v1) fun r3 => cond (r1) (cond (r3) (some 0) (some (-1))) (cond (r3) (some 1) (cond (sless v0 v1) (some (-1)) (cond (!(sless v0 v1 || decide (v0 = v1))) (some 1) (some 0))))
theorem c_cmp_Compare_string {r : Int} (v0 : ByteArray) (v1 : ByteArray) (H : p_cmp_Compare_string v0 v1 = some r) : Fn' prog 181 #[.string (v0), .string (v1)] [] [] (ι := Unit) (fun _ => .int .i64 (r)) (fun _ => []) (fun _ => []) := by
 refine cof (args := [_, _]) func181 ntmps181 fun c => ?_
 unfold p_cmp_Compare_string at H
 refine sr (aH (v := .int .i64 (0)) rfl (nl (sr (aF rfl (bdo H fun r1 h2 H => (aI (bO (c_cmp_isNaN_string v0 h2) rfl aP) (aH rfl (nl (sr (aF rfl (bdo H fun r3 h4 H => ?_)))))))))))
 refine aI (bO (c_cmp_isNaN_string v1 h4) rfl aP) (aH rfl (nl (aD (sr (aF rfl (nl (cH H rfl (fun h5 H => ?_) (fun h5 H => ?_))))))))
 ·refine aD (sr (aF rfl (nl (cH H rfl (fun h6 H => ?_) (fun h6 H => ?_)))))
  ·refine sr (aH (v := .int .i64 (0)) rfl (nl (bR (rT (rT (?_))))))
   obtain rfl := si H
   exact bk
  ·refine bI (nT (sr (aH (v := .int .i64 (-1)) rfl (nl (bR (rT (?_)))))))
   obtain rfl := si H
   exact bk
 ·refine bI (nT (aD (sr (aF rfl (nl (cH H rfl (fun h7 H => ?_) (fun h7 H => ?_)))))))
  ·refine sr (aH (v := .int .i64 (1)) rfl (nl (bR (rT (?_)))))
   obtain rfl := si H
   exact bk
  ·refine bI (nT (aD (sr (aF rfl (aF rfl (aG (p_slss rfl rfl) (nl (cH H rfl (fun h8 H => ?_) (fun h8 H => ?_)))))))))
   ·refine sr (aH (v := .int .i64 (-1)) rfl (nl (bR (rT (?_)))))
    obtain rfl := si H
    exact bk
   ·refine bI (nT (aD (sr (aF rfl (aF rfl (aG (p_sgtr rfl rfl) (nl (cH H rfl (fun h9 H => ?_) (fun h9 H => ?_)))))))))
    ·refine sr (aH (v := .int .i64 (1)) rfl (nl (bR (rT (?_)))))
     obtain rfl := si H
     exact bk
    ·refine bI (nT (sr (aH (v := .int .i64 (0)) rfl (nl ?_))))
     obtain rfl := si H
     exact bR bk
noncomputable def p_cmp_Or_int_b0 (v0 : (List Int)) (Q5 : Int) : Option ((Int) ⊕ (Unit ⊕ Int)) := cond (decide (Q5 < (v0.length : Int))) (gd (ix Q5 v0.length) <| cond (!decide ((nth v0 Q5.toNat) = 0)) (some (.inr (.inr (nth v0 Q5.toNat)))) (gd (I64 (Q5 + 1)) <| some (.inl (Q5 + 1)))) (some (.inr (.inl ())))
noncomputable def p_cmp_Or_int (v0 : (List Int)) : Option (Int) := bd (lp (p_cmp_Or_int_b0 v0) 0) <| sw (fun _ => some 0) (fun q => some q)
theorem c_cmp_Or_int {r : Int} (v0 : (List Int)) (x_v0 : Option Addr × Nat) (H : p_cmp_Or_int v0 = some r) : Fn' prog 180 #[.slice x_v0.1 v0.length x_v0.2] [imm (.slice x_v0.1 v0.length x_v0.2) v0] [] (ι := Unit) (fun _ => .int .i64 (r)) (fun _ => []) (fun _ => []) := by
 refine cof (args := [_]) func180 ntmps180 fun c => ?_
 unfold p_cmp_Or_int at H
 refine sr (aH (v := .int .i64 (0)) rfl (nl (sr (aH (v := .int .i64 (0)) rfl (nl (aD (sr (aF rfl (aG (bT 3 dW rfl) (aF (v := .int .i64 (0)) rfl (nl (bdo H fun x1 hx2 H => (dD (Λ := Unit) H (fun _ _ => [(3, .int .i64 (0))]) (fun _ _ => []) ?_ ?_)))))))))))))
 ·refine aR (dF hx2 () (fun Q5 _ => [(3, .int .i64 (0)), (6, .slice x_v0.1 v0.length x_v0.2), (7, .int .i64 ((v0.length : Int))), (8, .int .i64 (Q5))]) (fun _ _ => []) bL ?_)
  rintro _ Q5 z6 t8 H1 hi9 hb10
  unfold p_cmp_Or_int_b0 at H1
  refine sr (aG (cS rfl rfl) (nl (aD (cH H1 rfl (fun h13 H1 => ?_) (fun h13 H1 => ?_)))))
  ·refine bI (nT (aD (aR (sr (gdo H1 fun h14 H1 => (aI (bX dW ty3 rfl rfl h14 rfl (aO (aM aS))) (aI (cA (i := Q5.toNat) (j := 0) ty3 rfl (aO (aM aS)) h14.lt rfl) (aH rfl (nl (sr (aF rfl ?_)))))))))))
   refine aF (v := .int .i64 (0)) rfl (aG (cU rfl rfl) (nl (cH H1 rfl (fun h15 H1 => ?_) (fun h15 H1 => ?_))))
   ·refine sr (aF rfl (aH rfl (nl (bR (rB (rT (rT (rB (rT (rT (?_)))))))))))
    obtain rfl := hb10 _ (sm H1)
    replace H := sw.r H
    obtain rfl := si H
    exact bk
   ·exact bI (nB (nT (aQ (gdo H1 fun h16 H1 => (aG (bS rfl rfl h16) (aF rfl (aJ (nLI () (hi9 _ (sm H1)) bL))))))))
  ·exact dB (xT (xT (xE (nMI () (hb10 _ (sm H1)) bL))))
 ·rintro e17 y7 H
  refine nT (sr (aF (v := .int .i64 (0)) rfl (aH (v := .int .i64 (0)) rfl (nl ?_))))
  obtain rfl := si H
  exact bR bk
noncomputable def p_impl_indexOf_2 (v0 : PostH) (v1 : PostH) : Option (Int) := bd (p_cmp_Compare_string v0.1.1 v1.1.1) fun r3 => bd (p_cmp_Compare_string v0.1.2 v1.1.2) fun r5 => bd (p_cmp_Or_int ([r3, r5] : List Int)) fun r9 => some r9
theorem c_impl_indexOf_2 {r : Int} (v0 : PostH) (v1 : PostH) (H : p_impl_indexOf_2 v0 v1 = some r) : Fn' prog 179 #[.agg #[.string (v0.1.1), .string (v0.1.2), v0.2.1], .agg #[.string (v1.1.1), .string (v1.1.2), v1.2.1]] [] [] (ι := Unit) (fun _ => .int .i64 (r)) (fun _ => []) (fun _ => []) := by
 refine cof (args := [_, _]) func179 ntmps179 fun c => ?_
 unfold p_impl_indexOf_2 at H
 refine sr (f1 (cD (t := 177) rfl) fun g1 => (f1 (cD (t := 177) rfl) fun g2 => (aH (v := .int .i64 (0)) rfl (nl (aD (dH [(3, .pointer (some ⟨g2, 0, none⟩)), (2, .pointer (some ⟨g1, 0, none⟩))] 1 [0, 1, 2, 3, 4, 5, 6, 7, 8, 9, 10, 11, 12, 13, 14, 15, 16] [14] [] mixed (by kernel_rfl) (by decide) dJ ⟨rfl, rfl, trivial⟩ rfl okNil (w_p rfl (cC fa177_0 rfl rfl) (w_p rfl (cC fa97_0 rfl rfl) ?_))))))))
 refine w_o rfl (fun F => (bJ ty9 rfl (hs1.app F) rfl)) (w_p rfl (cC fa177_0 rfl rfl) (w_p rfl (cC fa97_0 rfl rfl) ?_))
 refine w_o rfl (fun F => (bJ ty9 rfl (aB.app F) rfl)) (bdo H fun r3 h4 H => ?_)
 refine w_o rfl (fun F => (bO (c_cmp_Compare_string v0.1.1 v1.1.1 h4) rfl aP)) (w_p rfl (cC fa177_0 rfl rfl) (w_p rfl (cC fa97_1 rfl rfl) ?_))
 refine w_o rfl (fun F => (bJ ty9 rfl (hs1.app F) rfl)) (w_p rfl (cC fa177_0 rfl rfl) (w_p rfl (cC fa97_1 rfl rfl) ?_))
 refine w_o rfl (fun F => (bJ ty9 rfl (aB.app F) rfl)) (bdo H fun r5 h6 H => ?_)
 refine w_o rfl (fun F => (bO (c_cmp_Compare_string v0.1.2 v1.1.2 h6) rfl aP)) (cK rfl (by decide) rfl cP rfl (n_litT (α := Int) (vs := [(0, .int .i64 (r3)), (1, .int .i64 (r5))]) [r3, r5] rfl (fun _ => rfl) (fun _ _ => by repeat constructor) dW ty3 rfl (by decide) (by decide) (by kernel_rfl)) ?_)
 rintro _ _ _ ⟨a7, c8, rfl, rfl, rfl⟩
 refine ⟨(aN (by kernel_rfl) (bW rfl rfl (fun F => (bJ ty9 rfl (hs1.app F) rfl)) (bW rfl rfl (fun F => (bJ ty9 rfl (hs2.app F) rfl)) (aN (by kernel_rfl) (bW rfl rfl (fun F => (bJ ty9 rfl (hs1.app F) rfl)) (bW rfl rfl (fun F => (bJ ty9 rfl (hs2.app F) rfl)) bV)))))), ?_⟩
 refine bdo H fun r9 h10 H => ?_
 refine w_o rfl (fun F => (bO (c_cmp_Or_int ([r3, r5] : List Int) (a7, c8) h10) rfl (aC (bM (aB.app F)) aP))) (w_p rfl (p_assign rfl) (cM (nT (?_))))
 obtain rfl := si H
 exact bR bk
noncomputable def cmS (x y : ByteArray) : Int := if sless x y then -1 else if sless y x then 1 else 0
theorem e_cmpS (x y : ByteArray) : p_cmp_Compare_string x y = some (cmS x y) := by
 unfold p_cmp_Compare_string p_cmp_isNaN_string cmS
 simp only [bd_some, decide_true, Bool.not_true, cond_false]
 cases h : sless x y with
 | true => simp
 | false =>
  cases h' : sless y x with
  | true =>
   have : x ≠ y := fun e => by subst e; rw [h] at h'; cases h'
   simp [this]
  | false =>
   have := sless_anti h h'
   simp [this]
noncomputable def cmH (x y : PostH) : Int := if cmS x.1.1 y.1.1 = 0 then cmS x.1.2 y.1.2 else cmS x.1.1 y.1.1
theorem e_cmpH (x y : PostH) : p_impl_indexOf_2 x y = some (cmH x y) := by
 unfold p_impl_indexOf_2 cmH
 simp only [e_cmpS, bd_some]
 have key : ∀ a b : Int, p_cmp_Or_int [a, b] = some (if a = 0 then b else a) := fun a b => by
  unfold p_cmp_Or_int
  by_cases ha : a = 0
  ·subst ha
   rw [lp.step (s' := 1) (by unfold p_cmp_Or_int_b0; simp [gd, ix, I64, nth])]
   by_cases hb : b = 0
   ·subst hb
    rw [lp.step (s' := 2) (by unfold p_cmp_Or_int_b0; simp [gd, ix, I64, nth])]
    rw [lp.stop (e := .inl ()) (by unfold p_cmp_Or_int_b0; simp)]
    rfl
   ·rw [lp.stop (e := .inr b) (by unfold p_cmp_Or_int_b0; simp [gd, ix, I64, nth, hb])]
    rfl
  ·rw [lp.stop (e := .inr a) (by unfold p_cmp_Or_int_b0; simp [gd, ix, I64, nth, ha])]
   simp [bd, sw, ha]
 rw [key]; rfl
theorem cmS_lt (x y : ByteArray) : decide (cmS x y < 0) = sless x y := by
 unfold cmS
 cases h : sless x y with
 | true => simp
 | false => cases h' : sless y x <;> simp
theorem cmS_0 {x y : ByteArray} : cmS x y = 0 ↔ x = y := by
 unfold cmS
 constructor
 ·intro h
  cases h1 : sless x y with
  | true => rw [h1] at h; simp at h
  | false =>
   cases h2 : sless y x with
   | true => rw [h1, h2] at h; simp at h
   | false => exact sless_anti h1 h2
 ·intro h; subst h; simp [sless_irr]
theorem cmH_lt (x y : PostH) : decide (cmH x y < 0) = ltP x y := by
 unfold cmH ltP ltTag
 by_cases h : x.1.1 = y.1.1
 ·rw [if_pos (cmS_0.2 h), cmS_lt, h, sless_irr]; simp
 ·rw [if_neg (fun e => h (cmS_0.1 e)), cmS_lt]; simp [h]
def srF : Nat → Nat
 | 6 => 178 | 14 => 204 | 15 => 205 | 20 => 216 | 21 => 217 | 22 => 218 | 23 => 219 | 24 => 220 | 25 => 221 | 26 => 222 | 27 => 223 | 28 => 224 | 29 => 225 | 46 => 231 | 47 => 232 | 48 => 233 | 49 => 234 | 50 => 235 | 57 => 238 | n => n
def srT : Nat → Nat
 | 0 => 0 | 3 => 3 | 4 => 4 | 5 => 5 | 9 => 9 | 22 => 36 | 24 => 177 | 25 => 231 | 39 => 248 | 45 => 263 | 46 => 264 | 50 => 268 | 53 => 271 | 55 => 273 | 66 => 280 | 70 => 284 | 76 => 289 | 77 => 290 | n => n
def srRen : Go.Shelf.Ren := ⟨srF, srT, fun n => n⟩
theorem srBears {f : Nat} {B fn : Func} (h : prog.funcs[f]? = some fn) (hn : (fn.name == "runtime.NumGoroutine") = false) (e : fn = { B with name := fn.name }) : Bears prog f B := ⟨fn.name, hn, h.trans (congrArg some e)⟩
theorem srLays : SlLaysF0.n6 prog srRen := by
 constructor
 ·exact mixed
 ·exact srBears func178 (by kernel_rfl) (by kernel_rfl)
 ·exact srBears func204 (by kernel_rfl) (by kernel_rfl)
 ·exact func205.trans (congrArg some (by kernel_rfl))
 ·exact srBears func216 (by kernel_rfl) (by kernel_rfl)
 ·exact srBears func217 (by kernel_rfl) (by kernel_rfl)
 ·exact srBears func218 (by kernel_rfl) (by kernel_rfl)
 ·exact srBears func219 (by kernel_rfl) (by kernel_rfl)
 ·exact srBears func220 (by kernel_rfl) (by kernel_rfl)
 ·exact srBears func221 (by kernel_rfl) (by kernel_rfl)
 ·exact srBears func222 (by kernel_rfl) (by kernel_rfl)
 ·exact srBears func223 (by kernel_rfl) (by kernel_rfl)
 ·exact func224.trans (congrArg some (by kernel_rfl))
 ·exact func225.trans (congrArg some (by kernel_rfl))
 ·exact srBears func231 (by kernel_rfl) (by kernel_rfl)
 ·exact func232.trans (congrArg some (by kernel_rfl))
 ·exact func233.trans (congrArg some (by kernel_rfl))
 ·exact srBears func234 (by kernel_rfl) (by kernel_rfl)
 ·exact srBears func235 (by kernel_rfl) (by kernel_rfl)
 ·exact srBears func238 (by kernel_rfl) (by kernel_rfl)
 all_goals first | kernel_rfl | (intro _; kernel_rfl)
theorem ltH : ltOf cmH = (ltP : PostH → PostH → Bool) := by
 funext x y
 exact cmH_lt x y
theorem oneH (x : PostH) : ∀ v ∈ Flat.enc x, v.oneCell' = true := fun v hv => by
 have hv : v ∈ [Value.string x.1.1, .string x.1.2, x.2.1] := hv
 simp only [List.mem_cons, List.not_mem_nil, or_false] at hv
 rcases hv with rfl | rfl | rfl
 ·rfl
 ·rfl
 ·exact x.2.2
noncomputable def p_slices_SortFunc_Post_Post_indexOf_2 (v0 : List Post) : Option (List Post) := sortP v0
theorem c_slices_SortFunc_Post_Post_indexOf_2 {r : List Post} (v0 : List Post) (x_v0 : Option Addr × Nat) (n_v0 : Nat) (e_v0 : n_v0 = v0.length) (H : p_slices_SortFunc_Post_Post_indexOf_2 v0 = some r) : Fn' prog 178 #[.slice x_v0.1 n_v0 x_v0.2, .func (.func 179) #[] #[]] [] [tree (.slice x_v0.1 n_v0 x_v0.2) v0] (ι := Unit) (fun _ => .tuple #[]) (fun _ => []) (fun _ => [tree (.slice x_v0.1 n_v0 x_v0.2) r]) := by
 subst e_v0
 have H : sortP v0 = some r := H
 refine Fn'.sortN H ⟨⟨_, func178, by kernel_rfl, by kernel_rfl⟩⟩ fun l' hl => ?_
 have hm : v0.length ≤ 1073741824 := (gd.of H).1
 obtain ⟨r', h1, h2, h3⟩ := Fn'.sortK srLays (fun _ => rfl) (fun _ => by kernel_rfl) (fun _ => by kernel_rfl) oneH cmH (ltH ▸ ltP_swo) (fun x y => c_impl_indexOf_2 x y (e_cmpH x y)) l' (by omega) x_v0 ⟨⟨_, func178, by kernel_rfl, by kernel_rfl⟩⟩
 refine ⟨r', h1, h2.imp fun h => by rw [← ltH]; exact h, ?_⟩
 rw [hl] at h3; exact h3
noncomputable def p_impl_indexOf_b1 (v0 : (List (List Tag))) (Q13 : (List Post) × Int) (Q27 : (List Post) × Int) : Option (((List Post) × Int) ⊕ ((List Post))) := cond (decide (Q27.2 < ((nth v0 Q13.2.toNat).length : Int))) (gd (ix Q27.2 (nth v0 Q13.2.toNat).length) <| bd (p_slices_IndexFunc_Post_Post_indexOf_1 Q27.1 (nth (nth v0 Q13.2.toNat) Q27.2.toNat)) fun r38 => cond (decide (r38 < 0)) (gd (room (Q27.1.length + 1)) <| gd (ix (Q27.1.length : Int) (Q27.1 ++ [((nth (nth v0 Q13.2.toNat) Q27.2.toNat), ([]))]).length) <| gd (I64 (Q13.2 + 1)) <| gd (room (((nth (Q27.1 ++ [((nth (nth v0 Q13.2.toNat) Q27.2.toNat), ([]))]) ((Q27.1.length : Int).toNat)).2).length + 1)) <| gd (I64 (Q27.2 + 1)) <| some (.inl (((Q27.1 ++ [((nth (nth v0 Q13.2.toNat) Q27.2.toNat), ([]))]).set ((Q27.1.length : Int).toNat) (((nth (Q27.1 ++ [((nth (nth v0 Q13.2.toNat) Q27.2.toNat), ([]))]) ((Q27.1.length : Int).toNat)).1), (((nth (Q27.1 ++ [((nth (nth v0 Q13.2.toNat) Q27.2.toNat), ([]))]) ((Q27.1.length : Int).toNat)).2) ++ [Q13.2 + 1]))), Q27.2 + 1))) (gd (ix r38 Q27.1.length) <| gd (I64 (Q13.2 + 1)) <| gd (room (((nth Q27.1 r38.toNat).2).length + 1)) <| gd (I64 (Q27.2 + 1)) <| some (.inl ((Q27.1.set r38.toNat (((nth Q27.1 r38.toNat).1), (((nth Q27.1 r38.toNat).2) ++ [Q13.2 + 1]))), Q27.2 + 1)))) (some (.inr Q27.1))
noncomputable def p_impl_indexOf_b0 (v0 : (List (List Tag))) (Q13 : (List Post) × Int) : Option (((List Post) × Int) ⊕ ((List Post))) := cond (decide (Q13.2 < (v0.length : Int))) (gd (ix Q13.2 v0.length) <| bd (lp (p_impl_indexOf_b1 v0 Q13) (Q13.1, 0)) fun x23 => gd (I64 (Q13.2 + 1)) <| some (.inl (x23, Q13.2 + 1))) (some (.inr Q13.1))
noncomputable def p_impl_indexOf (v0 : (List (List Tag))) : Option (Index) := bd (p_impl_cloneNames v0) fun r3 => bd (lp (p_impl_indexOf_b0 v0) (([] : List Post), 0)) fun x9 => bd (p_slices_SortFunc_Post_Post_indexOf_2 x9) fun r62 => some (r3, r62)
theorem c_impl_indexOf {r : Index} (v0 : (List (List Tag))) (x_v0 : Option Addr × Nat) (H : p_impl_indexOf v0 = some r) : Fn' prog 124 #[.slice x_v0.1 v0.length x_v0.2] [imm (.slice x_v0.1 v0.length x_v0.2) v0] [] (ι := (Option Addr × Nat) × (Option Addr × Nat)) (fun x => .agg #[.slice x.1.1 r.1.length x.1.2, .slice x.2.1 r.2.length x.2.2]) (fun _ => []) (fun x => [tree (.slice x.1.1 r.1.length x.1.2) r.1, tree (.slice x.2.1 r.2.length x.2.2) r.2]) := by
 refine cof (args := [_]) func124 ntmps124 fun c => ?_
 unfold p_impl_indexOf at H
 refine bN aS fun X1 => (sr (f1 (cE ty38) fun g2 => (nl (sr (aF rfl (bdo H fun r3 h4 H => (f1 (cG (c_impl_cloneNames v0 x_v0 h4) (fun _ => (bG bH)) rfl (aC (aM (aT aS)) aP)) fun x5 => (f2 (e_lit0 Post dP ty177) fun a6 c7 => (aG (v := .agg #[.slice x5.1 r3.length x5.2, .slice a6 (([] : List Post).length) c7]) (p_buildS (vs := [(0, .slice x5.1 r3.length x5.2), (1, .slice a6 (([] : List Post).length) c7)]) (cs := #[.slice x5.1 r3.length x5.2, .slice a6 (([] : List Post).length) c7]) ty38 pl38 rfl rfl) ?_)))))))))
 refine f1 (cE ty38) fun g8 => (stb (cs' := [.slice x5.1 r3.length x5.2, .slice a6 (([] : List Post).length) c7]) ty38 cZ (nl (aD (sr (aF rfl (aG (bT 105 dO rfl) (aF (v := .int .i64 (0)) rfl (nl (bdo H fun x9 hx10 H => (dC (ι := Option Addr × Nat) (fun ψ => [(2, .pointer (some ⟨g2, 0, none⟩)), (3, .pointer (some ⟨g8, 0, none⟩))]) (fun ψ => [box g2 38 [.slice none 0 0, .slice none 0 0], tree (.slice x5.1 r3.length x5.2) r3, tree (.slice ψ.1 x9.length ψ.2) x9, box g8 38 [.slice x5.1 r3.length x5.2, .slice ψ.1 x9.length ψ.2]]) ?_ ?_))))))))))
 ·refine aR (dF hx10 (a6, c7) (fun Q13 _ => [(2, .pointer (some ⟨g2, 0, none⟩)), (3, .pointer (some ⟨g8, 0, none⟩)), (13, .slice x_v0.1 v0.length x_v0.2), (14, .int .i64 ((v0.length : Int))), (15, .int .i64 (Q13.2))]) (fun Q13 z14 => [box g2 38 [.slice none 0 0, .slice none 0 0], tree (.slice x5.1 r3.length x5.2) r3, tree (.slice z14.1 Q13.1.length z14.2) Q13.1, box g8 38 [.slice x5.1 r3.length x5.2, .slice z14.1 Q13.1.length z14.2]]) (.cons dl3 (.cons dl2 (.cons dl1 (.cons aA .nil)))) ?_)
  rintro _ Q13 z14 t16 H1 hi17 hb18
  unfold p_impl_indexOf_b0 at H1
  refine sr (aG (cS rfl rfl) (nl (aD (cH H1 rfl (fun h21 H1 => ?_) (fun h21 H1 => ?_)))))
  ·refine bI (nT (aD (aR (sr (aF rfl (gdo H1 fun h22 H1 => (aI (bX dO ty105 rfl rfl h22 rfl (aM (aU aS))) (aI (cA (i := Q13.2.toNat) (j := 0) ty105 rfl (aM (aU aS)) h22.lt rfl) (aH rfl (aH rfl (nl ?_)))))))))))
   refine sr (aF rfl (aG (bT 97 dK rfl) (aF (v := .int .i64 (0)) rfl (nl (bdo H1 fun x23 hx24 H1 => (dC (ι := Option Addr × Nat) (fun ψ => [(2, .pointer (some ⟨g2, 0, none⟩)), (3, .pointer (some ⟨g8, 0, none⟩)), (13, .slice x_v0.1 v0.length x_v0.2), (14, .int .i64 ((v0.length : Int))), (15, .int .i64 (Q13.2))]) (fun ψ => [box g2 38 [.slice none 0 0, .slice none 0 0], tree (.slice x5.1 r3.length x5.2) r3, tree (.slice ψ.1 x23.length ψ.2) x23, box g8 38 [.slice x5.1 r3.length x5.2, .slice ψ.1 x23.length ψ.2]]) ?_ ?_))))))
   ·refine aR (dF hx24 (z14.1, z14.2) (fun Q27 _ => [(2, .pointer (some ⟨g2, 0, none⟩)), (3, .pointer (some ⟨g8, 0, none⟩)), (4, .int .i64 (Q13.2)), (13, .slice x_v0.1 v0.length x_v0.2), (14, .int .i64 ((v0.length : Int))), (15, .int .i64 (Q13.2)), (20, .slice ((X1 Q13.2.toNat).1) ((nth v0 Q13.2.toNat).length) ((X1 Q13.2.toNat).2.1)), (21, .int .i64 (((nth v0 Q13.2.toNat).length : Int))), (22, .int .i64 (Q27.2))]) (fun Q27 z28 => [box g2 38 [.slice none 0 0, .slice none 0 0], tree (.slice x5.1 r3.length x5.2) r3, tree (.slice z28.1 Q27.1.length z28.2) Q27.1, box g8 38 [.slice x5.1 r3.length x5.2, .slice z28.1 Q27.1.length z28.2]]) (.cons aA (.cons aA (.cons aA (.cons aA .nil)))) ?_)
    rintro _ Q27 z28 t30 H2 hi31 hb32
    unfold p_impl_indexOf_b1 at H2
    refine sr (aG (cS rfl rfl) (nl (aD (cH H2 rfl (fun h35 H2 => ?_) (fun h35 H2 => ?_)))))
    ·refine bI (nT (aD (aR (sr (gdo H2 fun h36 H2 => (aI (bX dK ty97 rfl rfl h36 rfl (aO (aM (aT (aX aS h22.lt))))) (aI (v := .agg #[.string ((nth (nth v0 Q13.2.toNat) Q27.2.toNat).1), .string ((nth (nth v0 Q13.2.toNat) Q27.2.toNat).2)]) (cB (i := Q27.2.toNat) ty97 rfl (aO (aM (aT (aX aS h22.lt)))) h36.lt) (f1 (cE ty97) fun g37 => (stb (cs' := [.string ((nth (nth v0 Q13.2.toNat) Q27.2.toNat).1), .string ((nth (nth v0 Q13.2.toNat) Q27.2.toNat).2)]) ty97 cZ (nl ?_))))))))))
     refine sr (aG (cC fa38_1 rfl rfl) (aI (bJ ty36 rfl hs4 rfl) (aG (v := .func (.func 177) #[] #[.pointer (some ⟨g37, 0, none⟩)]) (p_mkfunc (vs := [.pointer (some ⟨g37, 0, none⟩)]) rfl rfl) (bdo H2 fun r38 h39 H2 => (aI (q_callC (c_slices_IndexFunc_Post_Post_indexOf_1 Q27.1 z28 g37 (nth (nth v0 Q13.2.toNat) Q27.2.toNat) h39) (Solo.box bH) rfl (.cons aA .nil) (aC (bM hs2) aP)) (aH rfl (nl (aD (sr (aF rfl (aG (cS rfl rfl) (nl ?_))))))))))))
     refine cH H2 rfl (fun h40 H2 => ?_) (fun h40 H2 => ?_)
     ·refine sr (aG (cC fa38_1 rfl rfl) (aI (bJ ty36 rfl hs4 rfl) (aG (bT 177 dP rfl) (aH rfl (nl (Tr.nilT Int (aQ (aG (cC fa38_1 rfl rfl) (aI (bJ ty36 rfl hs5 rfl) (aI (bK ty97 rfl hs1 rfl) ?_))))))))))
      refine aG (v := .agg #[.string ((nth (nth v0 Q13.2.toNat) Q27.2.toNat).1), .string ((nth (nth v0 Q13.2.toNat) Q27.2.toNat).2), .slice none 0 0]) (p_buildS (vs := [(0, .agg #[.string ((nth (nth v0 Q13.2.toNat) Q27.2.toNat).1), .string ((nth (nth v0 Q13.2.toNat) Q27.2.toNat).2)])]) (cs := #[.string ((nth (nth v0 Q13.2.toNat) Q27.2.toNat).1), .string ((nth (nth v0 Q13.2.toNat) Q27.2.toNat).2), .slice none 0 0]) ty177 pl177 rfl rfl) (f1 (e_lit (vs := [(0, .agg #[.string ((nth (nth v0 Q13.2.toNat) Q27.2.toNat).1), .string ((nth (nth v0 Q13.2.toNat) Q27.2.toNat).2), .slice none 0 0])]) [.string ((nth (nth v0 Q13.2.toNat) Q27.2.toNat).1), .string ((nth (nth v0 Q13.2.toNat) Q27.2.toNat).2), .slice none 0 0] dP ty177 rfl (by decide) (by decide) (by kernel_rfl)) fun g41 => (gdo H2 fun h44 H2 => (f2 (e_app1 (l := Q27.1) (α := Post) ((nth (nth v0 Q13.2.toNat) Q27.2.toNat), ([])) (((), ()), (none, 0)) dP ty177 rfl rfl (h44.b (by decide)) h44.x rfl (cY _) (.cons dl5 (.cons aA (.cons aA .nil)))) fun a42 c43 => (aG (cC fa38_1 rfl rfl) (stb (cs' := [.slice x5.1 r3.length x5.2, .slice a42 ((Q27.1 ++ [((nth (nth v0 Q13.2.toNat) Q27.2.toNat), ([]))]).length) c43]) ty36 up4 (nl (gdo H2 fun h45 H2 => (Tr.zoom (k := (Q27.1.length : Int).toNat) h45.lt (.cons aA .nil) fun x46 => ?_))))))))
      show Tr _ _ _ _ _ _ _ (hole (.slice a42 ((Q27.1 ++ [((nth (nth v0 Q13.2.toNat) Q27.2.toNat), ([]))]).length) c43) (Q27.1 ++ [((nth (nth v0 Q13.2.toNat) Q27.2.toNat), ([]))]) ((Q27.1.length : Int).toNat) [.string (((nth (Q27.1 ++ [((nth (nth v0 Q13.2.toNat) Q27.2.toNat), ([]))]) ((Q27.1.length : Int).toNat)).1).1), .string (((nth (Q27.1 ++ [((nth (nth v0 Q13.2.toNat) Q27.2.toNat), ([]))]) ((Q27.1.length : Int).toNat)).1).2), .slice x46.2.1 (((nth (Q27.1 ++ [((nth (nth v0 Q13.2.toNat) Q27.2.toNat), ([]))]) ((Q27.1.length : Int).toNat)).2).length) x46.2.2] :: tree (.slice x46.2.1 (((nth (Q27.1 ++ [((nth (nth v0 Q13.2.toNat) Q27.2.toNat), ([]))]) ((Q27.1.length : Int).toNat)).2).length) x46.2.2) ((nth (Q27.1 ++ [((nth (nth v0 Q13.2.toNat) Q27.2.toNat), ([]))]) ((Q27.1.length : Int).toNat)).2) :: _)
      refine dH [(8, .int .i64 ((Q27.1.length : Int))), (2, .pointer (some ⟨g2, 0, none⟩)), (3, .pointer (some ⟨g8, 0, none⟩)), (4, .int .i64 (Q13.2)), (13, .slice x_v0.1 v0.length x_v0.2), (14, .int .i64 ((v0.length : Int))), (15, .int .i64 (Q13.2)), (20, .slice ((X1 Q13.2.toNat).1) ((nth v0 Q13.2.toNat).length) ((X1 Q13.2.toNat).2.1)), (21, .int .i64 (((nth v0 Q13.2.toNat).length : Int))), (22, .int .i64 (Q27.2))] 1 [0, 1, 2, 3, 4, 5, 6, 7, 8, 9, 10, 11, 12, 13, 14, 15] [11, 12, 15] [] mixed (by kernel_rfl) (by decide) dJ ⟨rfl, rfl, rfl, rfl, rfl, rfl, rfl, rfl, rfl, rfl, trivial⟩ rfl okNil (w_p rfl (cC fa38_1 rfl rfl) ?_)
      refine w_o rfl (fun F => (bJ ty36 rfl (hs5.app F) rfl)) (w_p rfl (aE rfl) (w_p rfl (cC fa38_1 rfl rfl) ?_))
      refine w_o rfl (fun F => (bJ ty36 rfl (hs5.app F) rfl)) (w_p rfl (aE rfl) ?_)
      refine w_o (v := elp a42 (((Q27.1.length : Int).toNat) * Enc.sz Post + 0)) rfl (fun F => (q_ixH (k := (Q27.1.length : Int).toNat) dP ty177 rfl rfl h45 rfl (aB.app F))) ?_
      refine w_o (v := elp a42 (((Q27.1.length : Int).toNat) * Enc.sz Post + 2)) rfl (fun F => (q_faH (j := 0) (i := (Q27.1.length : Int).toNat) fa177_1 rfl (aB.app F) rfl)) ?_
      refine w_o (v := .slice x46.2.1 (((nth (Q27.1 ++ [((nth (nth v0 Q13.2.toNat) Q27.2.toNat), ([]))]) ((Q27.1.length : Int).toNat)).2).length) x46.2.2) rfl (fun F => (q_ldH (i := (Q27.1.length : Int).toNat) (j := 2) ty69 rfl (aB.app F) rfl)) (w_p rfl (aE rfl) (gdo H2 fun h47 H2 => (w_p rfl (bS rfl rfl h47) (cK rfl (by decide) rfl cP rfl (n_lit (vs := [(0, .int .i64 (Q13.2 + 1))]) [.int .i64 (Q13.2 + 1)] dW ty3 rfl (by decide) (by decide) (by kernel_rfl)) ?_))))
      rintro _ _ _ ⟨g48, rfl, rfl, rfl⟩
      refine ⟨(bW rfl rfl (fun F => (q_ldH (i := (Q27.1.length : Int).toNat) (j := 2) ty69 rfl (hs1.app F) rfl)) (bW rfl rfl (fun F => (q_faH (j := 0) (i := (Q27.1.length : Int).toNat) fa177_1 rfl (hs1.app F) rfl)) (bW rfl rfl (fun F => (q_ixH (k := (Q27.1.length : Int).toNat) dP ty177 rfl rfl h45 rfl (hs1.app F))) (bW rfl rfl (fun F => (bJ ty36 rfl ((hs5t hs1).app F) rfl)) (bW rfl rfl (fun F => (bJ ty36 rfl ((hs5t hs1).app F) rfl)) bV))))), ?_⟩
      refine gdo H2 fun h51 H2 => (cK rfl (by decide) rfl cP rfl (n_app1 (l := (nth (Q27.1 ++ [((nth (nth v0 Q13.2.toNat) Q27.2.toNat), ([]))]) ((Q27.1.length : Int).toNat)).2) (α := Int) (Q13.2 + 1) () dW ty3 rfl rfl (h51.b (by decide)) h51.x rfl (cY _) (.cons dl2 (.cons aA .nil))) ?_)
      rintro _ _ _ ⟨a49, c50, rfl, rfl, rfl⟩
      refine ⟨(aN (by kernel_rfl) (bW rfl rfl (fun F => (q_faH (j := 0) (i := (Q27.1.length : Int).toNat) fa177_1 rfl (hs1.app F) rfl)) (bW rfl rfl (fun F => (q_ixH (k := (Q27.1.length : Int).toNat) dP ty177 rfl rfl h45 rfl (hs1.app F))) (bW rfl rfl (fun F => (bJ ty36 rfl (hs5.app F) rfl)) (bW rfl rfl (fun F => (bJ ty36 rfl (hs5.app F) rfl)) bV))))), ?_⟩
      refine w_o (v := elp a42 (((Q27.1.length : Int).toNat) * Enc.sz Post + 0)) rfl (fun F => (q_ixH (k := (Q27.1.length : Int).toNat) dP ty177 rfl rfl h45 rfl (hs1.app F))) ?_
      refine w_o (v := elp a42 (((Q27.1.length : Int).toNat) * Enc.sz Post + 2)) rfl (fun F => (q_faH (j := 0) (i := (Q27.1.length : Int).toNat) fa177_1 rfl (hs1.app F) rfl)) (cL rfl rfl cP rfl (n_stH (v := .slice a49 ((((nth (Q27.1 ++ [((nth (nth v0 Q13.2.toNat) Q27.2.toNat), ([]))]) ((Q27.1.length : Int).toNat)).2) ++ [Q13.2 + 1]).length) c50) (i := (Q27.1.length : Int).toNat) (j := 2) (cs' := [.string (((nth (Q27.1 ++ [((nth (nth v0 Q13.2.toNat) Q27.2.toNat), ([]))]) ((Q27.1.length : Int).toNat)).1).1), .string (((nth (Q27.1 ++ [((nth (nth v0 Q13.2.toNat) Q27.2.toNat), ([]))]) ((Q27.1.length : Int).toNat)).1).2), .slice a49 ((((nth (Q27.1 ++ [((nth (nth v0 Q13.2.toNat) Q27.2.toNat), ([]))]) ((Q27.1.length : Int).toNat)).2) ++ [Q13.2 + 1]).length) c50]) ty69 rfl rfl (.cons dl1 .nil) rfl (one_of rfl) (Nat.le_of_ble_eq_true rfl) rfl rfl) ?_)
      rintro _ _ _ ⟨rfl, rfl, rfl⟩
      refine ⟨(aN (by kernel_rfl) (bW rfl rfl (fun F => (q_ixH (k := (Q27.1.length : Int).toNat) dP ty177 rfl rfl h45 rfl (aB.app F))) (aN (by kernel_rfl) (aN (by kernel_rfl) (aN (by kernel_rfl) (aN (by kernel_rfl) (aN (by kernel_rfl) bV))))))), ?_⟩
      refine cM ?_
      show At _ _ _ _ _ _
      refine nB (nT (aQ (gdo H2 fun h52 H2 => (aG (bS rfl rfl h52) (aF rfl (aJ (At.unzoom (((nth (Q27.1 ++ [((nth (nth v0 Q13.2.toNat) Q27.2.toNat), ([]))]) ((Q27.1.length : Int).toNat)).1), (((nth (Q27.1 ++ [((nth (nth v0 Q13.2.toNat) Q27.2.toNat), ([]))]) ((Q27.1.length : Int).toNat)).2) ++ [Q13.2 + 1])) (((), ()), (a49, c50)) rfl (.cons aA (.cons aA .nil)) ?_)))))))
      refine At.olen aB fun hn => ?_; rw [hn]
      exact nLI (a42, c43) (hi31 _ (sm H2)) (.cons dl2 (.cons dl2 (.cons aA (.cons dl1 .nil))))
     ·refine bI (nT (gdo H2 fun h53 H2 => (Tr.zoom (k := r38.toNat) h53.lt (.cons dl3 .nil) fun x54 => ?_)))
      show Tr _ _ _ _ _ _ _ (hole (.slice z28.1 Q27.1.length z28.2) Q27.1 r38.toNat [.string (((nth Q27.1 r38.toNat).1).1), .string (((nth Q27.1 r38.toNat).1).2), .slice x54.2.1 (((nth Q27.1 r38.toNat).2).length) x54.2.2] :: tree (.slice x54.2.1 (((nth Q27.1 r38.toNat).2).length) x54.2.2) ((nth Q27.1 r38.toNat).2) :: _)
      refine dH [(8, .int .i64 (r38)), (2, .pointer (some ⟨g2, 0, none⟩)), (3, .pointer (some ⟨g8, 0, none⟩)), (4, .int .i64 (Q13.2)), (13, .slice x_v0.1 v0.length x_v0.2), (14, .int .i64 ((v0.length : Int))), (15, .int .i64 (Q13.2)), (20, .slice ((X1 Q13.2.toNat).1) ((nth v0 Q13.2.toNat).length) ((X1 Q13.2.toNat).2.1)), (21, .int .i64 (((nth v0 Q13.2.toNat).length : Int))), (22, .int .i64 (Q27.2))] 1 [0, 1, 2, 3, 4, 5, 6, 7, 8, 9, 10, 11, 12, 13, 14, 15] [11, 12, 15] [] mixed (by kernel_rfl) (by decide) dJ ⟨rfl, rfl, rfl, rfl, rfl, rfl, rfl, rfl, rfl, rfl, trivial⟩ rfl okNil (w_p rfl (cC fa38_1 rfl rfl) ?_)
      refine w_o rfl (fun F => (bJ ty36 rfl (hs5.app F) rfl)) (w_p rfl (aE rfl) (w_p rfl (cC fa38_1 rfl rfl) ?_))
      refine w_o rfl (fun F => (bJ ty36 rfl (hs5.app F) rfl)) (w_p rfl (aE rfl) ?_)
      refine w_o (v := elp z28.1 (r38.toNat * Enc.sz Post + 0)) rfl (fun F => (q_ixH (k := r38.toNat) dP ty177 rfl rfl h53 rfl (aB.app F))) ?_
      refine w_o (v := elp z28.1 (r38.toNat * Enc.sz Post + 2)) rfl (fun F => (q_faH (j := 0) (i := r38.toNat) fa177_1 rfl (aB.app F) rfl)) ?_
      refine w_o (v := .slice x54.2.1 (((nth Q27.1 r38.toNat).2).length) x54.2.2) rfl (fun F => (q_ldH (i := r38.toNat) (j := 2) ty69 rfl (aB.app F) rfl)) (w_p rfl (aE rfl) (gdo H2 fun h55 H2 => (w_p rfl (bS rfl rfl h55) (cK rfl (by decide) rfl cP rfl (n_lit (vs := [(0, .int .i64 (Q13.2 + 1))]) [.int .i64 (Q13.2 + 1)] dW ty3 rfl (by decide) (by decide) (by kernel_rfl)) ?_))))
      rintro _ _ _ ⟨g56, rfl, rfl, rfl⟩
      refine ⟨(bW rfl rfl (fun F => (q_ldH (i := r38.toNat) (j := 2) ty69 rfl (hs1.app F) rfl)) (bW rfl rfl (fun F => (q_faH (j := 0) (i := r38.toNat) fa177_1 rfl (hs1.app F) rfl)) (bW rfl rfl (fun F => (q_ixH (k := r38.toNat) dP ty177 rfl rfl h53 rfl (hs1.app F))) (bW rfl rfl (fun F => (bJ ty36 rfl ((hs5t hs1).app F) rfl)) (bW rfl rfl (fun F => (bJ ty36 rfl ((hs5t hs1).app F) rfl)) bV))))), ?_⟩
      refine gdo H2 fun h59 H2 => (cK rfl (by decide) rfl cP rfl (n_app1 (l := (nth Q27.1 r38.toNat).2) (α := Int) (Q13.2 + 1) () dW ty3 rfl rfl (h59.b (by decide)) h59.x rfl (cY _) (.cons dl2 (.cons aA .nil))) ?_)
      rintro _ _ _ ⟨a57, c58, rfl, rfl, rfl⟩
      refine ⟨(aN (by kernel_rfl) (bW rfl rfl (fun F => (q_faH (j := 0) (i := r38.toNat) fa177_1 rfl (hs1.app F) rfl)) (bW rfl rfl (fun F => (q_ixH (k := r38.toNat) dP ty177 rfl rfl h53 rfl (hs1.app F))) (bW rfl rfl (fun F => (bJ ty36 rfl (hs5.app F) rfl)) (bW rfl rfl (fun F => (bJ ty36 rfl (hs5.app F) rfl)) bV))))), ?_⟩
      refine w_o (v := elp z28.1 (r38.toNat * Enc.sz Post + 0)) rfl (fun F => (q_ixH (k := r38.toNat) dP ty177 rfl rfl h53 rfl (hs1.app F))) ?_
      refine w_o (v := elp z28.1 (r38.toNat * Enc.sz Post + 2)) rfl (fun F => (q_faH (j := 0) (i := r38.toNat) fa177_1 rfl (hs1.app F) rfl)) (cL rfl rfl cP rfl (n_stH (v := .slice a57 ((((nth Q27.1 r38.toNat).2) ++ [Q13.2 + 1]).length) c58) (i := r38.toNat) (j := 2) (cs' := [.string (((nth Q27.1 r38.toNat).1).1), .string (((nth Q27.1 r38.toNat).1).2), .slice a57 ((((nth Q27.1 r38.toNat).2) ++ [Q13.2 + 1]).length) c58]) ty69 rfl rfl (.cons dl1 .nil) rfl (one_of rfl) (Nat.le_of_ble_eq_true rfl) rfl rfl) ?_)
      rintro _ _ _ ⟨rfl, rfl, rfl⟩
      refine ⟨(aN (by kernel_rfl) (bW rfl rfl (fun F => (q_ixH (k := r38.toNat) dP ty177 rfl rfl h53 rfl (aB.app F))) (aN (by kernel_rfl) (aN (by kernel_rfl) (aN (by kernel_rfl) (aN (by kernel_rfl) (aN (by kernel_rfl) bV))))))), ?_⟩
      refine cM ?_
      show At _ _ _ _ _ _
      refine nB (nT (aQ (gdo H2 fun h60 H2 => (aG (bS rfl rfl h60) (aF rfl (aJ (At.unzoom (((nth Q27.1 r38.toNat).1), (((nth Q27.1 r38.toNat).2) ++ [Q13.2 + 1])) (((), ()), (a57, c58)) rfl (.cons aA (.cons aA .nil)) ?_)))))))
      refine At.olen aB fun hn => ?_; rw [hn]
      exact nLI (z28.1, z28.2) (hi31 _ (sm H2)) (.cons dl2 (.cons dl2 (.cons aA (.cons dl1 .nil))))
    ·refine dB (xT (xT (xE (?_))))
     obtain rfl := hb32 _ (sm H2)
     exact nMC (z28.1, z28.2) ⟨rfl, rfl, rfl, rfl, rfl, trivial⟩ bU (.cons aA (.cons aA (.cons aA (.cons aA .nil))))
   ·intro y29
    show At _ _ [(2, .pointer (some ⟨g2, 0, none⟩)), (3, .pointer (some ⟨g8, 0, none⟩)), (13, .slice x_v0.1 v0.length x_v0.2), (14, .int .i64 ((v0.length : Int))), (15, .int .i64 (Q13.2))] _ [box g2 38 [.slice none 0 0, .slice none 0 0], tree (.slice x5.1 r3.length x5.2) r3, tree (.slice y29.1 x23.length y29.2) x23, box g8 38 [.slice x5.1 r3.length x5.2, .slice y29.1 x23.length y29.2]] _
    exact nB (nT (aQ (gdo H1 fun h61 H1 => (aG (bS rfl rfl h61) (aF rfl (aJ (nLI (y29.1, y29.2) (hi17 _ (sm H1)) (.cons aA (.cons aA (.cons aA (.cons aA .nil)))))))))))
  ·refine dB (xT (xT (xE (?_))))
   obtain rfl := hb18 _ (sm H1)
   exact nMC (z14.1, z14.2) ⟨rfl, rfl, trivial⟩ bU (.cons aA (.cons aA (.cons aA (.cons aA .nil))))
 ·intro y15
  show At _ _ [(2, .pointer (some ⟨g2, 0, none⟩)), (3, .pointer (some ⟨g8, 0, none⟩))] _ [box g2 38 [.slice none 0 0, .slice none 0 0], tree (.slice x5.1 r3.length x5.2) r3, tree (.slice y15.1 x9.length y15.2) x9, box g8 38 [.slice x5.1 r3.length x5.2, .slice y15.1 x9.length y15.2]] _
  refine nT (sr (aG (cC fa38_1 rfl rfl) (aI (bJ ty36 rfl hs3 rfl) (bdo H fun r62 h63 H => (f1 (cI (c_slices_SortFunc_Post_Post_indexOf_2 x9 y15 x9.length rfl h63) (bG bH) (fun _ => (bG bH)) rfl (.cons dl2 .nil) aP) fun u64 => (nl (aD ?_)))))))
  refine Tr.olen aB fun hn => ?_; rw [hn]
  refine aQ (aI (bK ty38 rfl hs3 rfl) (stb (cs' := [.slice x5.1 r3.length x5.2, .slice y15.1 r62.length y15.2]) ty38 up1 (nl (bR ?_))))
  obtain rfl := si H
  exact back1 (x5, y15) rfl (ResV.agg ty38 rfl hs1 rfl) rfl cO (.cons dl2 (.cons aA .nil))
noncomputable def p_slices_Equal_int_int_b0 (v0 : (List Int)) (v1 : (List Int)) (Q6 : Int) : Option ((Int) ⊕ (Unit ⊕ Bool)) := cond (decide (Q6 < (v0.length : Int))) (gd (ix Q6 v0.length) <| gd (ix Q6 v1.length) <| cond (!decide ((nth v0 Q6.toNat) = (nth v1 Q6.toNat))) (some (.inr (.inr false))) (gd (I64 (Q6 + 1)) <| some (.inl (Q6 + 1)))) (some (.inr (.inl ())))
noncomputable def p_slices_Equal_int_int (v0 : (List Int)) (v1 : (List Int)) : Option (Bool) := cond (!decide ((v0.length : Int) = (v1.length : Int))) (some false) (bd (lp (p_slices_Equal_int_int_b0 v0 v1) 0) <| sw (fun _ => some true) (fun q => some q))
theorem c_slices_Equal_int_int {r : Bool} (v0 : (List Int)) (x_v0 : Option Addr × Nat) (v1 : (List Int)) (x_v1 : Option Addr × Nat) (H : p_slices_Equal_int_int v0 v1 = some r) : Fn' prog 126 #[.slice x_v0.1 v0.length x_v0.2, .slice x_v1.1 v1.length x_v1.2] [imm (.slice x_v0.1 v0.length x_v0.2) v0, imm (.slice x_v1.1 v1.length x_v1.2) v1] [] (ι := Unit) (fun _ => .bool (r)) (fun _ => []) (fun _ => []) := by
 refine cof (args := [_, _]) func126 ntmps126 fun c => ?_
 unfold p_slices_Equal_int_int at H
 refine sr (aH (v := .bool (false)) rfl (nl (aD (sr (aF rfl (aG (bT 3 dW rfl) (aF rfl (aG (bT 3 dW rfl) (aG (cU rfl rfl) (nl (cH H rfl (fun h1 H => ?_) (fun h1 H => ?_))))))))))))
 ·refine sr (aH (v := .bool (false)) rfl (nl (bR (rT (?_)))))
  obtain rfl := si H
  exact bk
 ·refine bI (nT (aD (sr (aF rfl (aG (bT 3 dW rfl) (aF (v := .int .i64 (0)) rfl (nl (bdo H fun x2 hx3 H => (dD (Λ := Unit) H (fun _ _ => []) (fun _ _ => []) ?_ ?_)))))))))
  ·refine aR (dF hx3 () (fun Q6 _ => [(0, .slice x_v0.1 v0.length x_v0.2), (1, .slice x_v1.1 v1.length x_v1.2), (12, .int .i64 ((v0.length : Int))), (13, .int .i64 (Q6))]) (fun _ _ => []) bL ?_)
   rintro _ Q6 z7 t9 H1 hi10 hb11
   unfold p_slices_Equal_int_int_b0 at H1
   refine sr (aG (cS rfl rfl) (nl (aD (cH H1 rfl (fun h14 H1 => ?_) (fun h14 H1 => ?_)))))
   ·refine bI (nT (aD (aR (sr (aF rfl (aH rfl (nl (aD (dG [(5, .int .i64 (Q6)), (0, .slice x_v0.1 v0.length x_v0.2), (1, .slice x_v1.1 v1.length x_v1.2), (12, .int .i64 ((v0.length : Int))), (13, .int .i64 (Q6))] mixed (.inr (by kernel_rfl)) ⟨rfl, rfl, rfl, rfl, rfl, trivial⟩ rfl (bC rfl (bC rfl ?_)))))))))))
    refine gdo H1 fun h15 H1 => (bA (bX dW ty3 rfl rfl h15 rfl (aO (aM aS))) (bA (cA (i := Q6.toNat) (j := 0) ty3 rfl (aO (aM aS)) h15.lt rfl) (bC rfl (bC rfl (gdo H1 fun h16 H1 => (bA (bX dW ty3 rfl rfl h16 rfl (aO (aM aS.s))) (bA (cA (i := Q6.toNat) (j := 0) ty3 rfl (aO (aM aS.s)) h16.lt rfl) (aY (cU rfl rfl) (nT (?_))))))))))
    refine cH H1 rfl (fun h17 H1 => ?_) (fun h17 H1 => ?_)
    ·refine sr (aH (v := .bool (false)) rfl (nl (bR (rB (rT (rT (rB (rT (rT (?_))))))))))
     obtain rfl := hb11 _ (sm H1)
     replace H := sw.r H
     obtain rfl := si H
     exact bk
    ·exact bI (nB (nT (aQ (gdo H1 fun h18 H1 => (aG (bS rfl rfl h18) (aF rfl (aJ (nLI () (hi10 _ (sm H1)) bL))))))))
   ·exact dB (xT (xT (xE (nMI () (hb11 _ (sm H1)) bL))))
  ·rintro e19 y8 H
   refine nT (sr (aH (v := .bool (true)) rfl (nl ?_)))
   obtain rfl := si H
   exact bR bk
noncomputable def p_impl_IndexOk_1 (v0 : Post) (v1 : Post) : Option (Bool) := bd (cond (decide (v0.1 = v1.1)) (bd (p_slices_Equal_int_int v0.2 v1.2) fun r6 => some (r6)) (some (false))) fun b3 => some b3
theorem c_impl_IndexOk_1 {r : Bool} (v0 : Post) (x_v0 : (Unit × Unit) × (Option Addr × Nat)) (v1 : Post) (x_v1 : (Unit × Unit) × (Option Addr × Nat)) (H : p_impl_IndexOk_1 v0 v1 = some r) : Fn' prog 125 #[.agg #[.string (v0.1.1), .string (v0.1.2), .slice x_v0.2.1 v0.2.length x_v0.2.2], .agg #[.string (v1.1.1), .string (v1.1.2), .slice x_v1.2.1 v1.2.length x_v1.2.2]] [imm (.slice x_v0.2.1 v0.2.length x_v0.2.2) v0.2, imm (.slice x_v1.2.1 v1.2.length x_v1.2.2) v1.2] [] (ι := Unit) (fun _ => .bool (r)) (fun _ => []) (fun _ => []) := by
 refine cof (args := [_, _]) func125 ntmps125 fun c => ?_
 unfold p_impl_IndexOk_1 at H
 refine sr (f1 (cD (t := 177) rfl) fun g1 => (f1 (cD (t := 177) rfl) fun g2 => (aH (v := .bool (false)) rfl (nl (bdo H fun b3 j4 H => (dE [(4, .bool (b3))] ?_ ?_))))))
 ·refine dI [(3, .pointer (some ⟨g2, 0, none⟩)), (2, .pointer (some ⟨g1, 0, none⟩))] ⟨rfl, rfl, trivial⟩ (aY (cC fa177_0 rfl rfl) (bA (v := .agg #[.string (v0.1.1), .string (v0.1.2)]) (q_ldbP [.string (v0.1.1), .string (v0.1.2)] ty97 rfl hs1 rfl rfl) (aY (cC fa177_0 rfl rfl) (bA (v := .agg #[.string (v1.1.1), .string (v1.1.2)]) (q_ldbP [.string (v1.1.1), .string (v1.1.2)] ty97 rfl aB rfl rfl) (aY (v := .bool (decide (v0.1 = v1.1))) (p_aeql (a := v0.1) (b := v1.1) ae97 rfl rfl rfl rfl) ?_)))))
  rcases aL (decide (v0.1 = v1.1)) with h5 | h5
  ·have j4 := cdT h5 j4
   refine bD (aE rfl) h5 (aZ rfl (cC fa177_1 rfl rfl) (bB rfl (bJ ty69 rfl hs1 rfl) (aZ rfl (cC fa177_1 rfl rfl) (bB rfl (bJ ty69 rfl aB rfl) (bdo j4 fun r6 h7 j4 => (bB rfl (bO (c_slices_Equal_int_int v0.2 x_v0.2 v1.2 x_v1.2 h7) rfl (aC (aM aS) (aC (aM aS.s) aP))) (aY (bQ rfl rfl) (aY (p_assign rfl) ?_))))))))
   obtain rfl := si j4
   show At _ _ _ _ _ _
   exact n1 ⟨rfl, trivial⟩
  ·have j4 := cdF h5 j4
   refine bD (aE rfl) h5 ?_
   iterate 5 refine bF rfl ?_
   refine aY (v := .bool (false)) (bP rfl rfl) (aY (v := .bool (false)) (p_assign rfl) ?_)
   obtain rfl := si j4
   show At _ _ _ _ _ _
   exact n1 ⟨rfl, trivial⟩
 obtain rfl := si H
 exact bR bk
noncomputable def p_slices_EqualFunc_Post_Post_Post_Post_IndexOk_1_b0 (v0 : (List Post)) (v1 : (List Post)) (Q8 : Int) : Option ((Int) ⊕ (Unit ⊕ Bool)) := cond (decide (Q8 < (v0.length : Int))) (gd (ix Q8 v0.length) <| gd (ix Q8 v1.length) <| bd (p_impl_IndexOk_1 (nth v0 Q8.toNat) (nth v1 Q8.toNat)) fun r21 => cond (!r21) (some (.inr (.inr false))) (gd (I64 (Q8 + 1)) <| some (.inl (Q8 + 1)))) (some (.inr (.inl ())))
noncomputable def p_slices_EqualFunc_Post_Post_Post_Post_IndexOk_1 (v0 : (List Post)) (v1 : (List Post)) : Option (Bool) := cond (!decide ((v0.length : Int) = (v1.length : Int))) (some false) (bd (lp (p_slices_EqualFunc_Post_Post_Post_Post_IndexOk_1_b0 v0 v1) 0) <| sw (fun _ => some true) (fun q => some q))
theorem c_slices_EqualFunc_Post_Post_Post_Post_IndexOk_1 {r : Bool} (v0 : (List Post)) (x_v0 : Option Addr × Nat) (v1 : (List Post)) (x_v1 : Option Addr × Nat) (H : p_slices_EqualFunc_Post_Post_Post_Post_IndexOk_1 v0 v1 = some r) : Fn' prog 123 #[.slice x_v0.1 v0.length x_v0.2, .slice x_v1.1 v1.length x_v1.2, .func (.func 125) #[] #[]] [imm (.slice x_v0.1 v0.length x_v0.2) v0, imm (.slice x_v1.1 v1.length x_v1.2) v1] [] (ι := Unit) (fun _ => .bool (r)) (fun _ => []) (fun _ => []) := by
 refine cof (args := [_, _, _]) func123 ntmps123 fun c => ?_
 unfold p_slices_EqualFunc_Post_Post_Post_Post_IndexOk_1 at H
 refine bN aS fun X1 => (bN aS.s.s fun X2 => (sr (aH (v := .bool (false)) rfl (nl (aD (sr (aF rfl (aG (bT 177 dP rfl) (aF rfl (aG (bT 177 dP rfl) (aG (cU rfl rfl) (nl ?_))))))))))))
 refine cH H rfl (fun h3 H => ?_) (fun h3 H => ?_)
 ·refine sr (aH (v := .bool (false)) rfl (nl (bR (rT (?_)))))
  obtain rfl := si H
  exact bk
 ·refine bI (nT (aD (sr (aF rfl (aG (bT 177 dP rfl) (aF (v := .int .i64 (0)) rfl (nl (bdo H fun x4 hx5 H => (dD (Λ := Unit) H (fun _ _ => []) (fun _ _ => []) ?_ ?_)))))))))
  ·refine aR (dF hx5 () (fun Q8 _ => [(1, .slice x_v1.1 v1.length x_v1.2), (2, .func (.func 125) #[] #[]), (15, .slice x_v0.1 v0.length x_v0.2), (16, .int .i64 ((v0.length : Int))), (17, .int .i64 (Q8))]) (fun _ _ => []) bL ?_)
   rintro _ Q8 z9 t11 H1 hi12 hb13
   unfold p_slices_EqualFunc_Post_Post_Post_Post_IndexOk_1_b0 at H1
   refine sr (aG (cS rfl rfl) (nl (aD (cH H1 rfl (fun h16 H1 => ?_) (fun h16 H1 => ?_)))))
   ·refine bI (nT (aD (aR (sr (aF rfl (gdo H1 fun h17 H1 => (aI (bX dP ty177 rfl rfl h17 rfl (aM (aU aS.s))) (aI (v := .agg #[.string (((nth v0 Q8.toNat).1).1), .string (((nth v0 Q8.toNat).1).2), .slice (((X1 Q8.toNat).2).1) (((nth v0 Q8.toNat).2).length) (((X1 Q8.toNat).2).2.1)]) (cB (i := Q8.toNat) ty177 rfl (aM (aU aS.s)) h17.lt) (f1 (cE ty177) fun g18 => (aH rfl ?_))))))))))
    refine stb (cs' := [.string (((nth v0 Q8.toNat).1).1), .string (((nth v0 Q8.toNat).1).2), .slice (((X1 Q8.toNat).2).1) (((nth v0 Q8.toNat).2).length) (((X1 Q8.toNat).2).2.1)]) ty177 cZ (nl (sr (aF rfl (aF rfl (gdo H1 fun h19 H1 => (aI (bX dP ty177 rfl rfl h19 rfl (aM (aU aS))) (aI (v := .agg #[.string (((nth v1 Q8.toNat).1).1), .string (((nth v1 Q8.toNat).1).2), .slice (((X2 Q8.toNat).2).1) (((nth v1 Q8.toNat).2).length) (((X2 Q8.toNat).2).2.1)]) (cB (i := Q8.toNat) ty177 rfl (aM (aU aS)) h19.lt) (f1 (cE ty177) fun g20 => (stb (cs' := [.string (((nth v1 Q8.toNat).1).1), .string (((nth v1 Q8.toNat).1).2), .slice (((X2 Q8.toNat).2).1) (((nth v1 Q8.toNat).2).length) (((X2 Q8.toNat).2).2.1)]) ty177 cZ ?_)))))))))
    refine nl (sr (aF rfl (aI (bK ty177 rfl hs1 rfl) (aI (bK ty177 rfl aB rfl) (bdo H1 fun r21 h22 H1 => (aI (v := .bool (r21)) (Ex.dyn (caps := []) (vs := [.agg #[.string (((nth v0 Q8.toNat).1).1), .string (((nth v0 Q8.toNat).1).2), .slice (((X1 Q8.toNat).2).1) (((nth v0 Q8.toNat).2).length) (((X1 Q8.toNat).2).2.1)], .agg #[.string (((nth v1 Q8.toNat).1).1), .string (((nth v1 Q8.toNat).1).2), .slice (((X2 Q8.toNat).2).1) (((nth v1 Q8.toNat).2).length) (((X2 Q8.toNat).2).2.1)]]) rfl rfl (bO (c_impl_IndexOk_1 (nth v0 Q8.toNat) (((), ()), (((X1 Q8.toNat).2).1, ((X1 Q8.toNat).2).2.1)) (nth v1 Q8.toNat) (((), ()), (((X2 Q8.toNat).2).1, ((X2 Q8.toNat).2).2.1)) h22) rfl (aC (aM (aT (aV (aX aS.s h17.lt)))) (aC (aM (aT (aV (aX aS h19.lt)))) aP)))) (aG (cX rfl) (nl (cH H1 rfl (fun h23 H1 => ?_) (fun h23 H1 => ?_))))))))))
    ·refine sr (aH (v := .bool (false)) rfl (nl (bR (rB (rT (rT (rB (rT (rT (?_))))))))))
     obtain rfl := hb13 _ (sm H1)
     replace H := sw.r H
     obtain rfl := si H
     exact bk
    ·exact bI (nB (nT (aQ (gdo H1 fun h24 H1 => (aG (bS rfl rfl h24) (aF rfl (aJ (nLI () (hi12 _ (sm H1)) bL))))))))
   ·exact dB (xT (xT (xE (nMI () (hb13 _ (sm H1)) bL))))
  ·rintro e25 y10 H
   refine nT (sr (aH (v := .bool (true)) rfl (nl ?_)))
   obtain rfl := si H
   exact bR bk
noncomputable def p_impl_IndexOk (v0 : Index) : Option (Bool) := bd (p_impl_namesOk v0.1) fun r4 => cond (r4) (bd (p_impl_indexOf v0.1) fun r7 => bd (p_slices_EqualFunc_Post_Post_Post_Post_IndexOk_1 v0.2 r7.2) fun r10 => some r10) (some false)
theorem c_impl_IndexOk {r : Bool} (v0 : Index) (x_v0 : (Option Addr × Nat) × (Option Addr × Nat)) (H : p_impl_IndexOk v0 = some r) : Fn' prog 69 #[.agg #[.slice x_v0.1.1 v0.1.length x_v0.1.2, .slice x_v0.2.1 v0.2.length x_v0.2.2]] [imm (.slice x_v0.1.1 v0.1.length x_v0.1.2) v0.1, imm (.slice x_v0.2.1 v0.2.length x_v0.2.2) v0.2] [] (ι := Unit) (fun _ => .bool (r)) (fun _ => []) (fun _ => []) := by
 refine cof (args := [_]) func69 ntmps69 fun c => ?_
 unfold p_impl_IndexOk at H
 refine bN aS fun X1 => (bN aS.s.s fun X2 => (sr (f1 (cD (t := 38) rfl) fun g3 => (aH (v := .bool (false)) rfl (nl (aD (bdo H fun r4 h5 H => ?_)))))))
 rcases aL (r4) with h6 | h6
 ·have H := cdT h6 H
  refine dH [(1, .pointer (some ⟨g3, 0, none⟩))] 2 [0, 1, 2, 3, 4, 5, 6, 7, 8, 9, 10, 11, 12] [8] [] mixed (by kernel_rfl) (by decide) dJ ⟨rfl, trivial⟩ rfl okNil (w_p rfl (cC fa38_0 rfl rfl) ?_)
  refine w_o rfl (fun F => (bJ ty35 rfl (aB.app F) rfl)) ?_
  refine w_o rfl (fun F => (bO (c_impl_namesOk v0.1 x_v0.1 h5) rfl (aC (aM (aT aS.s)) aP))) (w_p (v := .bool (true)) rfl ((Pu.eqv (v := .bool (r4)) (aE rfl) (congrArg Value.bool h6))) (w_p rfl (cC fa38_1 rfl rfl) ?_))
  refine w_o rfl (fun F => (bJ ty36 rfl (aB.app F) rfl)) (w_p rfl (cC fa38_0 rfl rfl) ?_)
  refine w_o rfl (fun F => (bJ ty35 rfl (aB.app F) rfl)) (bdo H fun r7 h8 H => (cK rfl (by decide) rfl cP rfl (cF (c_impl_indexOf v0.1 x_v0.1 h8) (fun _ => (bG (bG bH))) rfl (aC (aM (aT aS.s)) aP)) ?_))
  rintro _ _ _ ⟨x9, rfl, rfl, rfl⟩
  refine ⟨(aN (by kernel_rfl) (bW rfl rfl (fun F => (bJ ty36 rfl (hs2.app F) rfl)) (aN (by kernel_rfl) (bW rfl rfl (fun F => (bJ ty35 rfl (hs2.app F) rfl)) bV)))), ?_⟩
  refine w_p rfl ((p_field1 underlying38 rfl ty36 rfl rfl)) (bdo H fun r10 h11 H => ?_)
  refine w_o rfl (fun F => (bO (c_slices_EqualFunc_Post_Post_Post_Post_IndexOk_1 v0.2 x_v0.2 r7.2 x9.2 h11) rfl (aC (aM (aT aS)) (aC (bM (hs1.app F)) aP)))) (w_p rfl (bQ rfl rfl) (w_p rfl (p_assign rfl) (cM (nT (?_)))))
  obtain rfl := si H
  exact bR bk
 ·have H := cdF h6 H
  refine dH [(1, .pointer (some ⟨g3, 0, none⟩))] 1 [0, 1, 2, 3, 4, 5, 6, 7, 8, 9, 10, 11, 12] [] [] mixed (by kernel_rfl) (by decide) dJ ⟨rfl, trivial⟩ rfl okNil (w_p rfl (cC fa38_0 rfl rfl) ?_)
  refine w_o rfl (fun F => (bJ ty35 rfl (aB.app F) rfl)) ?_
  refine w_o rfl (fun F => (bO (c_impl_namesOk v0.1 x_v0.1 h5) rfl (aC (aM (aT aS.s)) aP))) (w_p (v := .bool (false)) rfl ((Pu.eqv (v := .bool (r4)) (aE rfl) (congrArg Value.bool h6))) (cJ rfl (by decide) rfl rfl rfl (cJ rfl (by decide) rfl rfl rfl (cJ rfl (by decide) rfl rfl rfl (cJ rfl (by decide) rfl rfl rfl (cJ rfl (by decide) rfl rfl rfl (cJ rfl (by decide) rfl rfl rfl (cJ rfl (by decide) rfl rfl rfl (w_p (v := .bool (false)) rfl (bP rfl rfl) ?_)))))))))
  refine w_p (v := .bool (false)) rfl (p_assign rfl) (cM (nT (?_)))
  obtain rfl := si H
  exact bR bk
noncomputable def p_impl_rowOk (v0 : Row) : Option (Bool) := bd (bd (p_impl_within v0.1 0 99) fun r4 => cond (r4) (bd (p_impl_within v0.2 (-99) 99) fun r7 => some (r7)) (some (false))) fun b2 => some b2
theorem c_impl_rowOk {r : Bool} (v0 : Row) (H : p_impl_rowOk v0 = some r) : Fn' prog 72 #[.agg #[.int .i64 (v0.1), .int .i64 (v0.2)]] [] [] (ι := Unit) (fun _ => .bool (r)) (fun _ => []) (fun _ => []) := by
 refine cof (args := [_]) func72 ntmps72 fun c => ?_
 unfold p_impl_rowOk at H
 refine sr (f1 (cD (t := 57) rfl) fun g1 => (aH (v := .bool (false)) rfl (nl (bdo H fun b2 j3 H => (dE [(2, .bool (b2))] ?_ ?_)))))
 ·refine dI [(1, .pointer (some ⟨g1, 0, none⟩))] ⟨rfl, trivial⟩ (aY (cC fa57_0 rfl rfl) (bA (bJ ty3 rfl aB rfl) (bdo j3 fun r4 h5 j3 => (bA (bO (c_impl_within v0.1 0 99 h5) rfl aP) ?_))))
  rcases aL (r4) with h6 | h6
  ·have j3 := cdT h6 j3
   refine bD (aE rfl) h6 (aZ rfl (cC fa57_1 rfl rfl) (bB rfl (bJ ty3 rfl aB rfl) (bdo j3 fun r7 h8 j3 => (bB rfl (bO (c_impl_within v0.2 (-99) 99 h8) rfl aP) (aY (bQ rfl rfl) (aY (p_assign rfl) ?_))))))
   obtain rfl := si j3
   show At _ _ _ _ _ _
   exact n1 ⟨rfl, trivial⟩
  ·have j3 := cdF h6 j3
   refine bD (aE rfl) h6 ?_
   iterate 3 refine bF rfl ?_
   refine aY (v := .bool (false)) (bP rfl rfl) (aY (v := .bool (false)) (p_assign rfl) ?_)
   obtain rfl := si j3
   show At _ _ _ _ _ _
   exact n1 ⟨rfl, trivial⟩
 obtain rfl := si H
 exact bR bk
noncomputable def p_impl_BlockOk_b0 (v0 : (List Row)) (Q5 : Int) : Option ((Int) ⊕ (Unit ⊕ Bool)) := cond (decide (Q5 < (v0.length : Int))) (gd (ix Q5 v0.length) <| bd (bd (p_impl_rowOk (nth v0 Q5.toNat)) fun r18 => cond (!r18) (some (true)) (cond (decide (0 < Q5)) (gd (I64 (Q5 - 1)) <| gd (ix (Q5 - 1) v0.length) <| some (decide (((nth v0 Q5.toNat).1) ≤ ((nth v0 ((Q5 - 1).toNat)).1)))) (some (false)))) fun b16 => cond (b16) (some (.inr (.inr false))) (gd (I64 (Q5 + 1)) <| some (.inl (Q5 + 1)))) (some (.inr (.inl ())))
noncomputable def p_impl_BlockOk (v0 : (List Row)) : Option (Bool) := bd (lp (p_impl_BlockOk_b0 v0) 0) <| sw (fun _ => some (decide ((v0.length : Int) ≤ 24))) (fun q => some q)
theorem c_impl_BlockOk {r : Bool} (v0 : (List Row)) (x_v0 : Option Addr × Nat) (H : p_impl_BlockOk v0 = some r) : Fn' prog 78 #[.slice x_v0.1 v0.length x_v0.2] [imm (.slice x_v0.1 v0.length x_v0.2) v0] [] (ι := Unit) (fun _ => .bool (r)) (fun _ => []) (fun _ => []) := by
 refine cof (args := [_]) func78 ntmps78 fun c => ?_
 unfold p_impl_BlockOk at H
 refine sr (aH (v := .bool (false)) rfl (nl (aD (sr (aF rfl (aG (bT 57 dV rfl) (aF (v := .int .i64 (0)) rfl (nl (bdo H fun x1 hx2 H => (dD (Λ := Unit) H (fun _ _ => [(0, .slice x_v0.1 v0.length x_v0.2)]) (fun _ _ => []) ?_ ?_))))))))))
 ·refine aR (dF hx2 () (fun Q5 _ => [(0, .slice x_v0.1 v0.length x_v0.2), (5, .slice x_v0.1 v0.length x_v0.2), (6, .int .i64 ((v0.length : Int))), (7, .int .i64 (Q5))]) (fun _ _ => []) bL ?_)
  rintro _ Q5 z6 t8 H1 hi9 hb10
  unfold p_impl_BlockOk_b0 at H1
  refine sr (aG (cS rfl rfl) (nl (aD (cH H1 rfl (fun h13 H1 => ?_) (fun h13 H1 => ?_)))))
  ·refine bI (nT (aD (aR (sr (aF rfl (gdo H1 fun h14 H1 => (aI (bX dV ty57 rfl rfl h14 rfl (aO (aM aS))) (aI (v := .agg #[.int .i64 ((nth v0 Q5.toNat).1), .int .i64 ((nth v0 Q5.toNat).2)]) (cB (i := Q5.toNat) ty57 rfl (aO (aM aS)) h14.lt) (f1 (cE ty57) fun g15 => (aH rfl ?_))))))))))
   refine stb (cs' := [.int .i64 ((nth v0 Q5.toNat).1), .int .i64 ((nth v0 Q5.toNat).2)]) ty57 cZ (nl (bdo H1 fun b16 j17 H1 => (dE [(29, .bool (b16)), (0, .slice x_v0.1 v0.length x_v0.2), (5, .slice x_v0.1 v0.length x_v0.2), (6, .int .i64 ((v0.length : Int))), (7, .int .i64 (Q5))] ?_ ?_)))
   ·refine dG [(3, .int .i64 (Q5)), (4, .pointer (some ⟨g15, 0, none⟩)), (0, .slice x_v0.1 v0.length x_v0.2), (5, .slice x_v0.1 v0.length x_v0.2), (6, .int .i64 ((v0.length : Int))), (7, .int .i64 (Q5))] mixed (.inr (by kernel_rfl)) ⟨rfl, rfl, rfl, rfl, rfl, rfl, trivial⟩ rfl (bA (bK ty57 rfl aB rfl) (bdo j17 fun r18 h19 j17 => (bA (bO (c_impl_rowOk (nth v0 Q5.toNat) h19) rfl aP) (aY (cX rfl) ?_))))
    rcases aL (!r18) with h20 | h20
    ·have j17 := cdT h20 j17
     refine bD (aE rfl) h20 ?_
     iterate 13 refine bF rfl ?_
     refine aY (v := .bool (true)) (bQ rfl rfl) ?_
     obtain rfl := si j17
     show At _ _ _ _ _ _
     exact n1 ⟨rfl, rfl, rfl, rfl, rfl, trivial⟩
    ·have j17 := cdF h20 j17
     refine bD (aE rfl) h20 (aZ rfl (aE rfl) (aZ rfl (cW rfl rfl) ?_))
     rcases aL (decide (0 < Q5)) with h21 | h21
     ·have j17 := cdT h21 j17
      refine bE rfl (aE rfl) h21 (aZ rfl (aE rfl) (aZ rfl (aE rfl) (gdo j17 fun h22 j17 => (aZ rfl (cT rfl rfl h22) (gdo j17 fun h23 j17 => (bB rfl (bX dV ty57 rfl rfl h23 rfl (aO (aM aS))) (bB rfl (bZ (j := 0) ((Q5 - 1).toNat) fa57_0 rfl (aO (aM aS)) h23.lt rfl) (bB rfl (cA (i := (Q5 - 1).toNat) (j := 0) ty3 rfl (aO (aM aS)) h23.lt rfl) (aZ rfl (cC fa57_0 rfl rfl) ?_)))))))))
      refine bB rfl (bJ ty3 rfl aB rfl) (aZ rfl (p_geq rfl rfl) (aZ rfl (bQ rfl rfl) (aY (bP rfl rfl) ?_)))
      obtain rfl := si j17
      show At _ _ _ _ _ _
      exact n1 ⟨rfl, rfl, rfl, rfl, rfl, trivial⟩
     ·have j17 := cdF h21 j17
      refine bE rfl (aE rfl) h21 ?_
      iterate 9 refine bF rfl ?_
      refine aZ (v := .bool (false)) rfl (bP rfl rfl) (aY (v := .bool (false)) (bP rfl rfl) ?_)
      obtain rfl := si j17
      show At _ _ _ _ _ _
      exact n1 ⟨rfl, rfl, rfl, rfl, rfl, trivial⟩
   refine cH H1 rfl (fun h24 H1 => ?_) (fun h24 H1 => ?_)
   ·refine sr (aH (v := .bool (false)) rfl (nl (bR (rB (rT (rT (rB (rT (rT (?_))))))))))
    obtain rfl := hb10 _ (sm H1)
    replace H := sw.r H
    obtain rfl := si H
    exact bk
   ·exact bI (nB (nT (aQ (gdo H1 fun h25 H1 => (aG (bS rfl rfl h25) (aF rfl (aJ (nLI () (hi9 _ (sm H1)) bL))))))))
  ·exact dB (xT (xT (xE (nMI () (hb10 _ (sm H1)) bL))))
 ·rintro e26 y7 H
  refine nT (sr (aF rfl (aG (bT 57 dV rfl) (aG (p_leq rfl rfl) (aH rfl (nl ?_))))))
  obtain rfl := si H
  exact bR bk
noncomputable def p_impl_PartOk_b0 (v0 : Part) (Q8 : Int) : Option ((Int) ⊕ (Unit ⊕ Bool)) := cond (decide (Q8 < (v0.1.length : Int))) (gd (ix Q8 v0.1.length) <| bd (bd (p_impl_within (nth v0.1 Q8.toNat) 1 6) fun r20 => cond (!r20) (some (true)) (cond (decide (0 < Q8)) (gd (I64 (Q8 - 1)) <| gd (ix (Q8 - 1) v0.1.length) <| cond (decide ((nth v0.1 Q8.toNat) ≤ (nth v0.1 ((Q8 - 1).toNat)))) (some (true)) (gd (ix Q8 v0.2.length) <| bd (p_impl_BlockOk (nth v0.2 Q8.toNat)) fun r28 => cond (!r28) (some (true)) (some (decide (((nth v0.2 Q8.toNat).length : Int) = 0))))) (gd (ix Q8 v0.2.length) <| bd (p_impl_BlockOk (nth v0.2 Q8.toNat)) fun r32 => cond (!r32) (some (true)) (some (decide (((nth v0.2 Q8.toNat).length : Int) = 0)))))) fun b18 => cond (b18) (some (.inr (.inr false))) (gd (I64 (Q8 + 1)) <| some (.inl (Q8 + 1)))) (some (.inr (.inl ())))
noncomputable def p_impl_PartOk (v0 : Part) : Option (Bool) := cond (!decide ((v0.1.length : Int) = (v0.2.length : Int))) (some false) (bd (lp (p_impl_PartOk_b0 v0) 0) <| sw (fun _ => some true) (fun q => some q))
theorem c_impl_PartOk {r : Bool} (v0 : Part) (x_v0 : (Option Addr × Nat) × (Option Addr × Nat)) (H : p_impl_PartOk v0 = some r) : Fn' prog 39 #[.agg #[.slice x_v0.1.1 v0.1.length x_v0.1.2, .slice x_v0.2.1 v0.2.length x_v0.2.2]] [imm (.slice x_v0.1.1 v0.1.length x_v0.1.2) v0.1, imm (.slice x_v0.2.1 v0.2.length x_v0.2.2) v0.2] [] (ι := Unit) (fun _ => .bool (r)) (fun _ => []) (fun _ => []) := by
 refine cof (args := [_]) func39 ntmps39 fun c => ?_
 unfold p_impl_PartOk at H
 refine bN aS.s fun X1 => (sr (f1 (cD (t := 72) rfl) fun g2 => (aH (v := .bool (false)) rfl (nl (aD (sr (aG (cC fa72_0 rfl rfl) (aI (bJ ty69 rfl aB rfl) (aG (bT 3 dW rfl) (aG (cC fa72_1 rfl rfl) (aI (bJ ty70 rfl aB rfl) ?_)))))))))))
 refine aG (bT 63 dX rfl) (aG (cU rfl rfl) (nl (cH H rfl (fun h3 H => ?_) (fun h3 H => ?_))))
 ·refine sr (aH (v := .bool (false)) rfl (nl (bR (rT (?_)))))
  obtain rfl := si H
  exact bk
 ·refine bI (nT (aD (sr (aG (cC fa72_0 rfl rfl) (aI (bJ ty69 rfl aB rfl) (aG (bT 3 dW rfl) (aF (v := .int .i64 (0)) rfl (nl (bdo H fun x4 hx5 H => (dD (Λ := Unit) H (fun _ _ => []) (fun _ _ => []) ?_ ?_))))))))))
  ·refine aR (dF hx5 () (fun Q8 _ => [(1, .pointer (some ⟨g2, 0, none⟩)), (13, .slice x_v0.1.1 v0.1.length x_v0.1.2), (14, .int .i64 ((v0.1.length : Int))), (15, .int .i64 (Q8))]) (fun _ _ => [box g2 72 [.slice x_v0.1.1 v0.1.length x_v0.1.2, .slice x_v0.2.1 v0.2.length x_v0.2.2]]) (.cons aA .nil) ?_)
   rintro _ Q8 z9 t11 H1 hi12 hb13
   unfold p_impl_PartOk_b0 at H1
   refine sr (aG (cS rfl rfl) (nl (aD (cH H1 rfl (fun h16 H1 => ?_) (fun h16 H1 => ?_)))))
   ·refine bI (nT (aD (aR (sr (aF rfl (gdo H1 fun h17 H1 => (aI (bX dW ty3 rfl rfl h17 rfl (aO (aM aS.s))) (aI (cA (i := Q8.toNat) (j := 0) ty3 rfl (aO (aM aS.s)) h17.lt rfl) (aH rfl (aH rfl (nl ?_)))))))))))
    refine bdo H1 fun b18 j19 H1 => (dE [(54, .bool (b18)), (1, .pointer (some ⟨g2, 0, none⟩)), (13, .slice x_v0.1.1 v0.1.length x_v0.1.2), (14, .int .i64 ((v0.1.length : Int))), (15, .int .i64 (Q8))] ?_ ?_)
    ·refine dI [(4, .int .i64 (nth v0.1 Q8.toNat)), (3, .int .i64 (Q8)), (1, .pointer (some ⟨g2, 0, none⟩)), (13, .slice x_v0.1.1 v0.1.length x_v0.1.2), (14, .int .i64 ((v0.1.length : Int))), (15, .int .i64 (Q8))] ⟨rfl, rfl, rfl, rfl, rfl, rfl, trivial⟩ (bC rfl (bdo j19 fun r20 h21 j19 => (bA (bO (c_impl_within (nth v0.1 Q8.toNat) 1 6 h21) rfl aP) (aY (cX rfl) ?_))))
     rcases aL (!r20) with h22 | h22
     ·have j19 := cdT h22 j19
      refine bD (aE rfl) h22 ?_
      iterate 12 refine bF rfl ?_
      refine aY (v := .bool (true)) (bQ rfl rfl) (bC (v := .bool (true)) rfl ?_)
      iterate 7 refine bF rfl ?_
      refine aY (v := .bool (true)) (bQ rfl rfl) (bC (v := .bool (true)) rfl ?_)
      iterate 7 refine bF rfl ?_
      refine aY (v := .bool (true)) (bQ rfl rfl) ?_
      obtain rfl := si j19
      show At _ _ _ _ _ _
      exact n1 ⟨rfl, rfl, rfl, rfl, rfl, trivial⟩
     ·have j19 := cdF h22 j19
      refine bD (aE rfl) h22 (aZ rfl (aE rfl) (aZ rfl (cW rfl rfl) ?_))
      rcases aL (decide (0 < Q8)) with h23 | h23
      ·have j19 := cdT h23 j19
       refine bE rfl (aE rfl) h23 (aZ rfl (cC fa72_0 rfl rfl) (bB rfl (bJ ty69 rfl aB rfl) (aZ rfl (aE rfl) (gdo j19 fun h24 j19 => (aZ rfl (cT rfl rfl h24) (gdo j19 fun h25 j19 => (bB rfl (bX dW ty3 rfl rfl h25 rfl (aO (aM aS.s))) (bB rfl (cA (i := (Q8 - 1).toNat) (j := 0) ty3 rfl (aO (aM aS.s)) h25.lt rfl) (aZ rfl (aE rfl) ?_)))))))))
       refine aZ rfl (p_geq rfl rfl) (aZ rfl (bQ rfl rfl) (aY (bP rfl rfl) ?_))
       rcases aL (decide ((nth v0.1 Q8.toNat) ≤ (nth v0.1 ((Q8 - 1).toNat)))) with h26 | h26
       ·have j19 := cdT h26 j19
        refine bD (aE rfl) h26 ?_
        iterate 7 refine bF rfl ?_
        refine aY (v := .bool (true)) (bQ rfl rfl) (bC (v := .bool (true)) rfl ?_)
        iterate 7 refine bF rfl ?_
        refine aY (v := .bool (true)) (bQ rfl rfl) ?_
        obtain rfl := si j19
        show At _ _ _ _ _ _
        exact n1 ⟨rfl, rfl, rfl, rfl, rfl, trivial⟩
       ·have j19 := cdF h26 j19
        refine bD (aE rfl) h26 (aZ rfl (cC fa72_1 rfl rfl) (bB rfl (bJ ty70 rfl aB rfl) (aZ rfl (aE rfl) (gdo j19 fun h27 j19 => (bB rfl (bX dX ty63 rfl rfl h27 rfl (aM (aU aS))) (bB rfl (cA (i := Q8.toNat) (j := 0) ty63 rfl (aM (aU aS)) h27.lt rfl) (bdo j19 fun r28 h29 j19 => (bB rfl (bO (c_impl_BlockOk (nth v0.2 Q8.toNat) ((X1 Q8.toNat).1, (X1 Q8.toNat).2.1) h29) rfl (aC (aM (aT (aX aS h27.lt))) aP)) (aZ rfl (cX rfl) ?_)))))))))
        refine aY (bP rfl rfl) ?_
        rcases aL (!r28) with h30 | h30
        ·have j19 := cdT h30 j19
         refine bD (aE rfl) h30 ?_
         iterate 7 refine bF rfl ?_
         refine aY (v := .bool (true)) (bQ rfl rfl) ?_
         obtain rfl := si j19
         show At _ _ _ _ _ _
         exact n1 ⟨rfl, rfl, rfl, rfl, rfl, trivial⟩
        ·have j19 := cdF h30 j19
         refine bD (aE rfl) h30 (aZ rfl (cC fa72_1 rfl rfl) (bB rfl (bJ ty70 rfl aB rfl) (aZ rfl (aE rfl) (bB rfl (bX dX ty63 rfl rfl h27 rfl (aM (aU aS))) (bB rfl (cA (i := Q8.toNat) (j := 0) ty63 rfl (aM (aU aS)) h27.lt rfl) (aZ rfl (bT 57 dV rfl) (aZ rfl (cV rfl rfl) (aY (bP rfl rfl) ?_))))))))
         obtain rfl := si j19
         show At _ _ _ _ _ _
         exact n1 ⟨rfl, rfl, rfl, rfl, rfl, trivial⟩
      ·have j19 := cdF h23 j19
       refine bE rfl (aE rfl) h23 ?_
       iterate 8 refine bF rfl ?_
       refine aZ (v := .bool (false)) rfl (bP rfl rfl) (aY (v := .bool (false)) (bP rfl rfl) (bC (v := .bool (false)) rfl (aZ rfl (cC fa72_1 rfl rfl) (bB rfl (bJ ty70 rfl aB rfl) (aZ rfl (aE rfl) (gdo j19 fun h31 j19 => (bB rfl (bX dX ty63 rfl rfl h31 rfl (aM (aU aS))) (bB rfl (cA (i := Q8.toNat) (j := 0) ty63 rfl (aM (aU aS)) h31.lt rfl) (bdo j19 fun r32 h33 j19 => ?_)))))))))
       refine bB rfl (bO (c_impl_BlockOk (nth v0.2 Q8.toNat) ((X1 Q8.toNat).1, (X1 Q8.toNat).2.1) h33) rfl (aC (aM (aT (aX aS h31.lt))) aP)) (aZ rfl (cX rfl) (aY (bP rfl rfl) ?_))
       rcases aL (!r32) with h34 | h34
       ·have j19 := cdT h34 j19
        refine bD (aE rfl) h34 ?_
        iterate 7 refine bF rfl ?_
        refine aY (v := .bool (true)) (bQ rfl rfl) ?_
        obtain rfl := si j19
        show At _ _ _ _ _ _
        exact n1 ⟨rfl, rfl, rfl, rfl, rfl, trivial⟩
       ·have j19 := cdF h34 j19
        refine bD (aE rfl) h34 (aZ rfl (cC fa72_1 rfl rfl) (bB rfl (bJ ty70 rfl aB rfl) (aZ rfl (aE rfl) (bB rfl (bX dX ty63 rfl rfl h31 rfl (aM (aU aS))) (bB rfl (cA (i := Q8.toNat) (j := 0) ty63 rfl (aM (aU aS)) h31.lt rfl) (aZ rfl (bT 57 dV rfl) (aZ rfl (cV rfl rfl) (aY (bP rfl rfl) ?_))))))))
        obtain rfl := si j19
        show At _ _ _ _ _ _
        exact n1 ⟨rfl, rfl, rfl, rfl, rfl, trivial⟩
    refine cH H1 rfl (fun h35 H1 => ?_) (fun h35 H1 => ?_)
    ·refine sr (aH (v := .bool (false)) rfl (nl (bR (rB (rT (rT (rB (rT (rT (?_))))))))))
     obtain rfl := hb13 _ (sm H1)
     replace H := sw.r H
     obtain rfl := si H
     exact bk
    ·exact bI (nB (nT (aQ (gdo H1 fun h36 H1 => (aG (bS rfl rfl h36) (aF rfl (aJ (nLI () (hi12 _ (sm H1)) (.cons aA .nil)))))))))
   ·exact dB (xT (xT (xE (nMI () (hb13 _ (sm H1)) bL))))
  ·rintro e37 y10 H
   refine nT (sr (aH (v := .bool (true)) rfl (nl ?_)))
   obtain rfl := si H
   exact bR bk
noncomputable def p_slices_Max_int_int_b0 (v0 : (List Int)) (Q7 : Int × Int) : Option ((Int × Int) ⊕ (Int)) := cond (decide (Q7.2 < (v0.length : Int))) (gd (ix Q7.2 v0.length) <| gd (I64 (Q7.2 + 1)) <| some (.inl (max Q7.1 (nth v0 Q7.2.toNat), Q7.2 + 1))) (some (.inr Q7.1))
noncomputable def p_slices_Max_int_int (v0 : (List Int)) : Option (Int) := cond (decide ((v0.length : Int) < 1)) (none) (gd (ix 0 v0.length) <| bd (lp (p_slices_Max_int_int_b0 v0) (nth v0 0, 1)) fun x3 => some x3)
theorem c_slices_Max_int_int {r : Int} (v0 : (List Int)) (x_v0 : Option Addr × Nat) (H : p_slices_Max_int_int v0 = some r) : Fn' prog 70 #[.slice x_v0.1 v0.length x_v0.2] [imm (.slice x_v0.1 v0.length x_v0.2) v0] [] (ι := Unit) (fun _ => .int .i64 (r)) (fun _ => []) (fun _ => []) := by
 refine cof (args := [_]) func70 ntmps70 fun c => ?_
 unfold p_slices_Max_int_int at H
 refine sr (aH (v := .int .i64 (0)) rfl (nl (aD (sr (aF rfl (aG (bT 3 dW rfl) (aG (cS rfl rfl) (nl (cH H rfl (fun h1 H => ?_) (fun h1 H => ?_))))))))))
 ·exact nomatch H
 ·refine bI (nT (sr (aF rfl (gdo H fun h2 H => (aI (bX dW ty3 rfl rfl h2 rfl (aO (aM aS))) (aI (cA (i := 0) (j := 0) ty3 rfl (aO (aM aS)) h2.lt rfl) (aH rfl (nl (aD (sr (aH (v := .int .i64 (1)) rfl (nl ?_))))))))))))
  refine bdo H fun x3 hx4 H => (dC (ι := Unit) (fun ψ => [(3, .int .i64 (x3))]) (fun ψ => []) ?_ ?_)
  ·refine aR (dF hx4 () (fun Q7 _ => [(0, .slice x_v0.1 v0.length x_v0.2), (3, .int .i64 (Q7.1)), (4, .int .i64 (Q7.2))]) (fun _ _ => []) bL ?_)
   rintro _ Q7 z8 t10 H1 hi11 hb12
   unfold p_slices_Max_int_int_b0 at H1
   refine aD (sr (aF rfl (aF rfl (aG (bT 3 dW rfl) (aG (cS rfl rfl) (nl (cH H1 rfl (fun h15 H1 => ?_) (fun h15 H1 => ?_))))))))
   ·refine bI (nT (aD (aR (aQ (aF rfl (aF rfl (aF rfl (gdo H1 fun h16 H1 => (aI (bX dW ty3 rfl rfl h16 rfl (aO (aM aS))) (aI (cA (i := Q7.2.toNat) (j := 0) ty3 rfl (aO (aM aS)) h16.lt rfl) ?_))))))))))
    exact aG (v := .int .i64 (max Q7.1 (nth v0 Q7.2.toNat))) (p_max rfl rfl) (aH rfl (aJ (nB (nT (aQ (aF rfl (gdo H1 fun h17 H1 => (aG (bS rfl rfl h17) (aH rfl (aJ (nLI () (hi11 _ (sm H1)) bL)))))))))))
   ·refine dB (xT (xT (xE (?_))))
    obtain rfl := hb12 _ (sm H1)
    exact nMC () ⟨rfl, trivial⟩ bU bL
  ·intro y9
   show At _ _ [(3, .int .i64 (x3))] _ [] _
   refine nT (sr (aF rfl (aH rfl (nl ?_))))
   obtain rfl := si H
   exact bR bk
noncomputable def p_slices_Index_int_int_b0 (v0 : (List Int)) (v1 : Int) (Q5 : Int) : Option ((Int) ⊕ (Unit ⊕ Int)) := cond (decide (Q5 < (v0.length : Int))) (gd (ix Q5 v0.length) <| cond (decide (v1 = (nth v0 Q5.toNat))) (some (.inr (.inr Q5))) (gd (I64 (Q5 + 1)) <| some (.inl (Q5 + 1)))) (some (.inr (.inl ())))
noncomputable def p_slices_Index_int_int (v0 : (List Int)) (v1 : Int) : Option (Int) := bd (lp (p_slices_Index_int_int_b0 v0 v1) 0) <| sw (fun _ => some (-1)) (fun q => some q)
theorem c_slices_Index_int_int {r : Int} (v0 : (List Int)) (x_v0 : Option Addr × Nat) (v1 : Int) (H : p_slices_Index_int_int v0 v1 = some r) : Fn' prog 80 #[.slice x_v0.1 v0.length x_v0.2, .int .i64 (v1)] [imm (.slice x_v0.1 v0.length x_v0.2) v0] [] (ι := Unit) (fun _ => .int .i64 (r)) (fun _ => []) (fun _ => []) := by
 refine cof (args := [_, _]) func80 ntmps80 fun c => ?_
 unfold p_slices_Index_int_int at H
 refine sr (aH (v := .int .i64 (0)) rfl (nl (aD (sr (aF rfl (aG (bT 3 dW rfl) (aF (v := .int .i64 (0)) rfl (nl (bdo H fun x1 hx2 H => (dD (Λ := Unit) H (fun _ _ => []) (fun _ _ => []) ?_ ?_))))))))))
 ·refine aR (dF hx2 () (fun Q5 _ => [(0, .slice x_v0.1 v0.length x_v0.2), (1, .int .i64 (v1)), (7, .int .i64 ((v0.length : Int))), (8, .int .i64 (Q5))]) (fun _ _ => []) bL ?_)
  rintro _ Q5 z6 t8 H1 hi9 hb10
  unfold p_slices_Index_int_int_b0 at H1
  refine sr (aG (cS rfl rfl) (nl (aD (cH H1 rfl (fun h13 H1 => ?_) (fun h13 H1 => ?_)))))
  ·refine bI (nT (aD (aR (sr (aF rfl (aH rfl (nl (sr (aF rfl (aF rfl (aF rfl ?_)))))))))))
   refine gdo H1 fun h14 H1 => (aI (bX dW ty3 rfl rfl h14 rfl (aO (aM aS))) (aI (cA (i := Q5.toNat) (j := 0) ty3 rfl (aO (aM aS)) h14.lt rfl) (aG (cV rfl rfl) (nl (cH H1 rfl (fun h15 H1 => ?_) (fun h15 H1 => ?_))))))
   ·refine sr (aF rfl (aH rfl (nl (bR (rB (rT (rT (rB (rT (rT (?_)))))))))))
    obtain rfl := hb10 _ (sm H1)
    replace H := sw.r H
    obtain rfl := si H
    exact bk
   ·exact bI (nB (nT (aQ (gdo H1 fun h16 H1 => (aG (bS rfl rfl h16) (aF rfl (aJ (nLI () (hi9 _ (sm H1)) bL))))))))
  ·exact dB (xT (xT (xE (nMI () (hb10 _ (sm H1)) bL))))
 ·rintro e17 y7 H
  refine nT (sr (aH (v := .int .i64 (-1)) rfl (nl ?_)))
  obtain rfl := si H
  exact bR bk
noncomputable def p_impl_PartOf (v0 : Part) (v1 : Int) : Option ((List Row)) := bd (p_slices_Index_int_int v0.1 v1) fun r3 => bd (bd (p_impl_PartOk v0) fun r7 => cond (!r7) (some (true)) (some (decide (r3 < 0)))) fun b5 => cond (b5) (some ([] : List Row)) (gd (ix r3 v0.2.length) <| gd (room (([] : List Row).length + (nth v0.2 r3.toNat).length)) <| some (([] : List Row) ++ (nth v0.2 r3.toNat)))
theorem c_impl_PartOf {r : (List Row)} (v0 : Part) (x_v0 : (Option Addr × Nat) × (Option Addr × Nat)) (v1 : Int) (H : p_impl_PartOf v0 v1 = some r) : Fn' prog 29 #[.agg #[.slice x_v0.1.1 v0.1.length x_v0.1.2, .slice x_v0.2.1 v0.2.length x_v0.2.2], .int .i64 (v1)] [imm (.slice x_v0.1.1 v0.1.length x_v0.1.2) v0.1, imm (.slice x_v0.2.1 v0.2.length x_v0.2.2) v0.2] [] (ι := Option Addr × Nat) (fun x => .slice x.1 r.length x.2) (fun _ => []) (fun x => [tree (.slice x.1 r.length x.2) r]) := by
 refine cof (args := [_, _]) func29 ntmps29 fun c => ?_
 unfold p_impl_PartOf at H
 refine bN aS.s fun X1 => (sr (f1 (cD (t := 72) rfl) fun g2 => (aH (v := .slice none 0 0) rfl (nl (sr (aG (cC fa72_0 rfl rfl) (aI (bJ ty69 rfl aB rfl) (aF rfl (bdo H fun r3 h4 H => (aI (bO (c_slices_Index_int_int v0.1 x_v0.1 v1 h4) rfl (aC (aM aS.s) aP)) ?_))))))))))
 refine aH rfl (nl (aD (bdo H fun b5 j6 H => (dE [(16, .bool (b5)), (5, .int .i64 (r3)), (2, .pointer (some ⟨g2, 0, none⟩))] ?_ ?_))))
 ·refine dI [(5, .int .i64 (r3)), (2, .pointer (some ⟨g2, 0, none⟩))] ⟨rfl, rfl, trivial⟩ (bA (bK ty72 rfl aB rfl) (bdo j6 fun r7 h8 j6 => (bA (bO (c_impl_PartOk v0 x_v0 h8) rfl (aC (aM aS.s) (aC (aM (aT aS)) aP))) (aY (cX rfl) ?_))))
  rcases aL (!r7) with h9 | h9
  ·have j6 := cdT h9 j6
   refine bD (aE rfl) h9 ?_
   iterate 2 refine bF rfl ?_
   refine aY (v := .bool (true)) (bQ rfl rfl) ?_
   obtain rfl := si j6
   show At _ _ _ _ _ _
   exact n1 ⟨rfl, rfl, rfl, trivial⟩
  ·have j6 := cdF h9 j6
   refine bD (aE rfl) h9 (aZ rfl (aE rfl) (aZ rfl (cS rfl rfl) (aY (bP rfl rfl) ?_)))
   obtain rfl := si j6
   show At _ _ _ _ _ _
   exact n1 ⟨rfl, rfl, rfl, trivial⟩
 refine cH H rfl (fun h10 H => ?_) (fun h10 H => ?_)
 ·refine sr (f2 (e_lit0 Row dV ty57) fun a11 c12 => (aH rfl (nl (bR (rT (?_))))))
  obtain rfl := si H
  exact back1 (a11, c12) rfl (ResV.tmp (v := .slice a11 (([] : List Row).length) c12) rfl) rfl cO (.cons aA .nil)
 ·refine bI (nT (sr (f2 (e_lit0 Row dV ty57) fun a13 c14 => (aG (cC fa72_1 rfl rfl) (aI (bJ ty70 rfl hs1 rfl) (aF rfl (gdo H fun h15 H => (aI (bX dX ty63 rfl rfl h15 rfl (aM (aU aS))) (aI (cA (i := r3.toNat) (j := 0) ty63 rfl (aM (aU aS)) h15.lt rfl) ?_)))))))))
  refine gdo H fun h18 H => (f2 (e_appF (l := ([] : List Row)) (k := nth v0.2 r3.toNat) (α := Row) dV ty57 rfl rfl (h18.b (by decide)) h18.x (.cons aA .nil) (aM (aT (aX aS h15.lt)))) fun a16 c17 => (aH rfl (nl (bR ?_))))
  obtain rfl := si H
  exact back1 (a16, c17) rfl (ResV.tmp (v := .slice a16 ((([] : List Row) ++ (nth v0.2 r3.toNat)).length) c17) rfl) rfl cO (.cons aA .nil)
def p_slices_Insert_Row_Row (v0 : List Row) (v1 : Int) (v2 : List Row) : Option (List Row) := p_insert v0 v1 v2
theorem c_slices_Insert_Row_Row {r : (List Row)} (v0 : (List Row)) (x_v0 : Option Addr × Nat) (v1 : Int) (v2 : (List Row)) (x_v2 : Option Addr × Nat) (H : p_slices_Insert_Row_Row v0 v1 v2 = some r) : Fn' prog 134 #[.slice x_v0.1 v0.length x_v0.2, .int .i64 (v1), .slice x_v2.1 v2.length x_v2.2] [] [tree (.slice x_v0.1 v0.length x_v0.2) v0, tree (.slice x_v2.1 v2.length x_v2.2) v2] (ι := Option Addr × Nat) (fun x => .slice x.1 r.length x.2) (fun _ => []) (fun x => [tree (.slice x.1 r.length x.2) r]) := by
 refine cof (args := [_, _, _]) func134 ntmps134 fun c => ?_
 unfold p_slices_Insert_Row_Row p_insert at H
 obtain ⟨h1, H⟩ := gd.of H; obtain ⟨h2, H⟩ := gd.of H; obtain ⟨h3, H⟩ := gd.of H
 obtain ⟨oa, cp⟩ := x_v0; obtain ⟨ob, cq⟩ := x_v2
 obtain ⟨i, rfl⟩ := Int.eq_ofNat_of_zero_le h1.1
 have hi : i ≤ v0.length := Int.ofNat_le.1 h1.2
 have hr : v0.take i ++ v2 ++ v0.drop i = r := Option.some.inj H
 subst hr
 have hrm : v0.length + v2.length ≤ 1073741824 := h2
 refine Tr.bnd aB fun _ b1 b2 => (sr (aH (v := .slice none 0 0) rfl (aJ (nT (sr (aF rfl (aF rfl (aG (v := .slice (subA oa cp (i : Int).toNat (Enc.sz Row)) (v0.length - (i : Int).toNat) (cp - (i : Int).toNat)) (p_slAny dV (show TyI _ _ _ (Enc.sz Row) _ _ from ty57) rfl rfl h1.1 h1.2 b1) (aJ (nT (sr ?_)))))))))))
 refine aF rfl (aG (bT 57 dV rfl) (aH rfl (aJ (nT (aD (sr (aF rfl (aG (cV rfl rfl) (aJ (nT (Tr.cond (b := decide ((v2.length : Int) = 0)) rfl (fun h => absurd (of_decide_eq_true h) (by omega)) (fun _ => (bI ?_)))))))))))))
 refine nT (sr (aF rfl (aG (bT 57 dV rfl) (aH rfl (aJ (nT (aD (sr (aF rfl (aF rfl (aG (cV rfl rfl) (aJ ?_))))))))))))
 refine nT (Tr.cond (b := decide ((i : Int) = (v0.length : Int))) rfl (fun h => ?_) (fun h => ?_))
 ·have hin : i = v0.length := Int.ofNat_inj.1 (of_decide_eq_true h)
  subst hin
  refine sr (aF rfl (aF rfl (f2 (e_appF (l := v0) (k := v2) (α := Row) dV ty57 rfl rfl (room.b h2 (by decide)) (room.x h2) (.cons aA .nil) (bM aB)) fun oa2 cp2 => (aH rfl (aJ (nT (bR ?_)))))))
  have hE : v0.take v0.length ++ v2 ++ v0.drop v0.length = v0 ++ v2 := by rw [List.take_length, List.drop_length, List.append_nil]
  rw [hE]
  exact back1 (oa2, cp2) rfl (ResV.tmp (v := .slice oa2 ((v0 ++ v2).length) (cp2)) rfl) rfl cO (.cons aA .nil)
 have hne : i < v0.length := Nat.lt_of_le_of_ne hi fun e => absurd (e ▸ h) (by simp)
 refine bI (nT (aD (sr (aF rfl (aF rfl ?_)))))
 refine aG (bS rfl rfl (by unfold I64; omega)) ?_
 refine aF rfl (aG (v := .int .i64 (cp : Int)) (p_cap 57 dV rfl) (aG (cW rfl rfl) (aJ (nT (Tr.unT (.cons aA .nil) (by omega) fun g bt js e1 _ _ _ l1 l2 l3 => ?_)))))
 subst e1
 have l2 : v0.length * Enc.sz Row + js.length = cp * Enc.sz Row := l2
 refine Tr.unT (.cons (Del.there aA) .nil) h3 fun g2 bt2 js2 e1 _ _ _ k1 k2 k3 => ?_
 subst e1
 have hA1 : ((v0.take i).flatMap Flat.enc).length = i * Enc.sz Row := by rw [flat_flen fun x hx => (l3 x (List.mem_of_mem_take hx)).2.1, List.length_take, Nat.min_eq_left hi]
 have hA2 : ((v0.drop i).flatMap Flat.enc).length = (v0.length - i) * Enc.sz Row := by rw [flat_flen fun x hx => (l3 x (List.mem_of_mem_drop hx)).2.1, List.length_drop]
 have hAA : v0.flatMap Flat.enc = (v0.take i).flatMap Flat.enc ++ (v0.drop i).flatMap Flat.enc := by rw [← List.flatMap_append, List.take_append_drop]
 have hall : ∀ x ∈ v0.take i ++ v2 ++ v0.drop i, Flat.wf x ∧ (Flat.enc x).length = Enc.sz Row := ins_all (fun x hx => ⟨(l3 x hx).1, (l3 x hx).2.1⟩) (fun x hx => ⟨(k3 x hx).1, (k3 x hx).2.1⟩)
 have hlen : (v0.take i ++ v2 ++ v0.drop i).length = v0.length + v2.length := by simp; omega
 have o1 : ∀ v ∈ (v0.drop i).flatMap Flat.enc, v.oneCell' = true := fun v hv => by obtain ⟨x, hx, hv⟩ := List.mem_flatMap.1 hv; exact (l3 x (List.mem_of_mem_drop hx)).2.2 v hv
 have o2 : ∀ v ∈ v2.flatMap Flat.enc, v.oneCell' = true := fun v hv => by obtain ⟨x, hx, hv⟩ := List.mem_flatMap.1 hv; exact (k3 x hx).2.2 v hv
 have q0 : i * Enc.sz Row + v2.length * Enc.sz Row = (i + v2.length) * Enc.sz Row := (Nat.add_mul _ _ _).symm
 have q1 : i * Enc.sz Row + (v0.length - i) * Enc.sz Row = v0.length * Enc.sz Row := by rw [← Nat.add_mul]; congr 1; omega
 have q2 : (v0.length + v2.length) * Enc.sz Row = v0.length * Enc.sz Row + v2.length * Enc.sz Row := Nat.add_mul _ _ _
 refine Tr.cond (b := decide ((cp : Int) < (v0.length : Int) + (v2.length : Int))) rfl (fun h => ?_) (fun h => ?_)
 ·have h := of_decide_eq_true h
  refine sr (aF rfl (aF rfl (aG (v := .slice (some ⟨g, 0, none⟩) (i) (cp)) (p_slHi i dV (show TyI _ _ _ (Enc.sz Row) _ _ from ty57) rfl rfl rfl (by omega)) (aF rfl (aF rfl ?_)))))
  refine aG (bS rfl rfl (by unfold I64; omega)) ?_
  refine aF rfl ?_
  refine aG (cT rfl rfl (by unfold I64; omega)) ?_
  refine Rg.ef (e_appZ (k := v0.length + v2.length - i) (olds := (v0.take i).flatMap Flat.enc) dV dN (show TyI _ _ _ (Enc.sz Row) _ _ from ty57) (Enc.pos (α := Row)) rfl rfl (by omega) (Has.there aB) (by rw [hAA, List.append_assoc, ← hA1]; exact List.take_left.symm) hA1 (by omega) (by omega) (by rw [show i + (v0.length + v2.length - i) = v0.length + v2.length by omega]; exact room.b h2 (by decide)) (by omega)) rfl ?_
  rintro _ _ _ ⟨g3, cp3, js3, rfl, m1, m2, m3, rfl, rfl⟩
  refine aH rfl (nl ?_)
  have hn3 : i + (v0.length + v2.length - i) = v0.length + v2.length := by omega
  have m4 := Nat.mul_le_mul_right (Enc.sz Row) m1
  rw [hn3] at m4
  refine sr (aF rfl (aF rfl (aG (v := .slice (some ⟨g3, i * Enc.sz Row, none⟩) (i + (v0.length + v2.length - i) - i) (cp3 - i)) (p_slLo i dV (show TyI _ _ _ (Enc.sz Row) _ _ from ty57) rfl rfl rfl (by omega) m1 (by omega)) (aF rfl ?_))))
  refine f0 (e_cpB (m := v2.length) (ks := v2.flatMap Flat.enc) dV (show TyI _ _ _ (Enc.sz Row) _ _ from ty57) rfl rfl (Nat.min_eq_left (by omega)) (by rw [List.drop_zero, ← k1]; exact List.take_left.symm) k1 cZ (Has.there aB) (by rw [List.length_append, hA1]; omega) o2) ?_
  refine aJ (nT (aD (tNw 2 [0, 1, 2, 3, 4, 5, 6, 7, 8] [8] [] mixed (by kernel_rfl) (by decide) dJ okNil (w_p rfl (aE rfl) (w_p rfl (aE rfl) (w_p rfl (aE rfl) ?_))))))
  refine w_p rfl (bS rfl rfl (by unfold I64; omega)) ?_
  refine w_p (v := .slice (some ⟨g3, (i + v2.length) * Enc.sz Row, none⟩) (i + (v0.length + v2.length - i) - (i + v2.length)) (cp3 - (i + v2.length))) rfl (p_slLo (i + v2.length) dV (show TyI _ _ _ (Enc.sz Row) _ _ from ty57) rfl rfl rfl (by omega) m1 (by omega)) (w_p rfl (aE rfl) (w_p rfl (aE rfl) (w_p (v := .slice (some ⟨g, i * Enc.sz Row, none⟩) (v0.length - i) (cp - i)) rfl (p_slLo i dV (show TyI _ _ _ (Enc.sz Row) _ _ from ty57) rfl rfl rfl (by omega) b1 (by omega)) ?_)))
  refine cK rfl (by decide) rfl cP rfl (n_cpB (m := v0.length - i) (ks := (v0.drop i).flatMap Flat.enc) dV (show TyI _ _ _ (Enc.sz Row) _ _ from ty57) rfl rfl (Nat.min_eq_left (by omega)) (by rw [hAA, List.append_assoc, ← hA1, List.drop_left, ← hA2]; exact List.take_left.symm) hA2 cZ (Has.there (Has.there aB)) (by rw [← q0, Nat.add_assoc]; exact hlenNew hA1 k1 (by omega)) o1) ?_
  rintro _ _ _ ⟨rfl, rfl, rfl⟩
  refine ⟨bV, ?_⟩
  refine cM (nT (sr (aF rfl (aH rfl (aJ (nT (bR ?_)))))))
  refine At.mkF (n := i + (v0.length + v2.length - i)) (v0.take i ++ v2 ++ v0.drop i) (js3.drop (v2.length * Enc.sz Row + (v0.length - i) * Enc.sz Row)) (.cons aA .nil) (by omega) (by rw [← q0, ins_new hA1 k1 hA2 (by omega), List.flatMap_append, List.flatMap_append]) (by omega) m2 (by rw [← q0, ins_new hA1 k1 hA2 (by omega)]; simp only [List.length_append, List.length_drop, hA1, k1, hA2]; omega) hall ?_
  exact back1 (some ⟨g3, 0, none⟩, cp3) rfl (ResV.tmp (v := .slice (some ⟨g3, 0, none⟩) (i + (v0.length + v2.length - i)) (cp3)) rfl) (by rw [hlen, hn3]) cO (.cons (by rw [hlen, hn3]; exact aA) .nil)
 have h := of_decide_eq_false h
 refine bI (nT ?_)
 have p4 := Nat.mul_le_mul_right (Enc.sz Row) (show v0.length + v2.length ≤ cp by omega)
 refine sr (aF rfl (aF rfl (aF rfl ?_)))
 refine aG (bS rfl rfl (by unfold I64; omega)) ?_
 refine aG (v := .slice (some ⟨g, 0, none⟩) (v0.length + v2.length) (cp)) (p_slHi (v0.length + v2.length) dV (show TyI _ _ _ (Enc.sz Row) _ _ from ty57) rfl rfl (by omega) (by omega)) (aH rfl (aJ (nT (aD (sr (aF rfl (aF rfl (aF rfl (aF rfl ?_)))))))))
 refine aG (bS rfl rfl (by unfold I64; omega)) ?_
 refine aG (v := .slice (some ⟨g, (i + v2.length) * Enc.sz Row, none⟩) (v0.length + v2.length - (i + v2.length)) (cp - (i + v2.length))) (p_slLo (i + v2.length) dV (show TyI _ _ _ (Enc.sz Row) _ _ from ty57) rfl rfl rfl (by omega) (by omega) (by omega)) ?_
 refine aI (v := .bool (false)) (q_ov (tR := 4) func183 (by kernel_rfl) (by kernel_rfl) (by kernel_rfl) (by kernel_rfl) dV (show TyI _ _ _ (Enc.sz Row) _ _ from ty57) rfl rfl (.cons aA (.cons aA .nil)) (cells_ne (by rw [l1]; have := Nat.mul_le_mul_right (Enc.sz Row) (show 1 ≤ v0.length by omega); have := Enc.pos (α := Row); omega))) ?_
 refine aG (cX rfl) (aJ (nT (Tr.condT rfl (aD (tNw 2 [0, 1, 2, 3, 4, 5, 6, 7, 8] [8] [] mixed (by kernel_rfl) (by decide) dJ okNil (w_p rfl (aE rfl) (w_p rfl (aE rfl) (w_p rfl (aE rfl) ?_))))))))
 refine w_p rfl (bS rfl rfl (by unfold I64; omega)) ?_
 refine w_p (v := .slice (some ⟨g, (i + v2.length) * Enc.sz Row, none⟩) (v0.length + v2.length - (i + v2.length)) (cp - (i + v2.length))) rfl (p_slLo (i + v2.length) dV (show TyI _ _ _ (Enc.sz Row) _ _ from ty57) rfl rfl rfl (by omega) (by omega) (by omega)) (w_p rfl (aE rfl) (w_p rfl (aE rfl) (w_p (v := .slice (some ⟨g, i * Enc.sz Row, none⟩) (v0.length + v2.length - i) (cp - i)) rfl (p_slLo i dV (show TyI _ _ _ (Enc.sz Row) _ _ from ty57) rfl rfl rfl (by omega) (by omega) (by omega)) ?_)))
 refine cK rfl (by decide) rfl cP rfl (n_cpB (m := v0.length - i) (ks := (v0.drop i).flatMap Flat.enc) dV (show TyI _ _ _ (Enc.sz Row) _ _ from ty57) rfl rfl (by show min _ _ = _; omega) (by rw [hAA, List.append_assoc, ← hA1, List.drop_left, ← hA2]; exact List.take_left.symm) hA2 (Upd.there cZ) (Has.there aB) (by rw [List.length_append, l1, ← q0]; omega) o1) ?_
 rintro _ _ _ ⟨rfl, rfl, rfl⟩
 refine ⟨bV, ?_⟩
 refine cM (nT (sr (aF rfl (aF rfl (aG (v := .slice (some ⟨g, i * Enc.sz Row, none⟩) (v0.length + v2.length - i) (cp - i)) (p_slLo i dV (show TyI _ _ _ (Enc.sz Row) _ _ from ty57) rfl rfl rfl (by omega) (by omega) (by omega)) (aF rfl ?_))))))
 refine f0 (e_cpB (m := v2.length) (ks := v2.flatMap Flat.enc) dV (show TyI _ _ _ (Enc.sz Row) _ _ from ty57) rfl rfl (by show min _ _ = _; omega) (by rw [List.drop_zero, ← k1]; exact List.take_left.symm) k1 (Upd.there cZ) aB (by rw [← q0, hAA]; exact hlenHere hA1 hA2 k1 (by omega)) o2) ?_
 refine aJ (nT (sr (aF rfl (aH rfl (aJ (nT (bR ?_)))))))
 have hX := ins_here (js := js) hA1 k1 hA2 (by omega)
 refine At.mkF (n := v0.length + v2.length) (v0.take i ++ v2 ++ v0.drop i) (((v0.take i).flatMap Flat.enc ++ (v0.drop i).flatMap Flat.enc ++ js).drop (i * Enc.sz Row + v2.length * Enc.sz Row + (v0.length - i) * Enc.sz Row)) (.cons (Del.there aA) .nil) (by omega) (by rw [← q0, hAA, hX, List.flatMap_append, List.flatMap_append]) (by omega) b2 (by rw [← q0, hAA, hX]; simp only [List.length_append, List.length_drop, hA1, k1, hA2]; omega) hall ?_
 exact back1 (some ⟨g, 0, none⟩, cp) rfl (ResV.tmp (v := .slice (some ⟨g, 0, none⟩) (v0.length + v2.length) (cp)) rfl) (by rw [hlen]) cO (.cons (by rw [hlen]; exact aA) .nil)
noncomputable def p_impl_put_b0 (v0 : (List Row)) (v1 : Row) (Q11 : Int) : Option ((Int) ⊕ (Int)) := bd (cond (decide (Q11 < ((([] : List Row) ++ v0).length : Int))) (gd (ix Q11 (([] : List Row) ++ v0).length) <| some (decide (((nth (([] : List Row) ++ v0) Q11.toNat).1) < v1.1))) (some (false))) fun b19 => cond (b19) (gd (I64 (Q11 + 1)) <| some (.inl (Q11 + 1))) (some (.inr Q11))
noncomputable def p_impl_put (v0 : (List Row)) (v1 : Row) : Option ((List Row)) := gd (room (([] : List Row).length + v0.length)) <| bd (lp (p_impl_put_b0 v0 v1) 0) fun x7 => bd (cond (decide (x7 < ((([] : List Row) ++ v0).length : Int))) (gd (ix x7 (([] : List Row) ++ v0).length) <| some (decide (((nth (([] : List Row) ++ v0) x7.toNat).1) = v1.1))) (some (false))) fun b25 => cond (b25) (gd (ix x7 (([] : List Row) ++ v0).length) <| some ((([] : List Row) ++ v0).set x7.toNat v1)) (bd (p_slices_Insert_Row_Row (([] : List Row) ++ v0) x7 ([v1] : List Row)) fun r35 => gd (room (([] : List Row).length + r35.length)) <| some (([] : List Row) ++ r35))
theorem c_impl_put {r : (List Row)} (v0 : (List Row)) (x_v0 : Option Addr × Nat) (v1 : Row) (H : p_impl_put v0 v1 = some r) : Fn' prog 79 #[.slice x_v0.1 v0.length x_v0.2, .agg #[.int .i64 (v1.1), .int .i64 (v1.2)]] [imm (.slice x_v0.1 v0.length x_v0.2) v0] [] (ι := Option Addr × Nat) (fun x => .slice x.1 r.length x.2) (fun _ => []) (fun x => [tree (.slice x.1 r.length x.2) r]) := by
 refine cof (args := [_, _]) func79 ntmps79 fun c => ?_
 unfold p_impl_put at H
 refine sr (f1 (cD (t := 57) rfl) fun g1 => (aH (v := .slice none 0 0) rfl (nl (sr (f2 (e_lit0 Row dV ty57) fun a2 c3 => (aF rfl (gdo H fun h6 H => (f2 (e_appF (l := ([] : List Row)) (k := v0) (α := Row) dV ty57 rfl rfl (h6.b (by decide)) h6.x (.cons aA .nil) (aM aS)) fun a4 c5 => (aH rfl (nl (sr ?_)))))))))))
 refine aH (v := .int .i64 (0)) rfl (nl (bdo H fun x7 hx8 H => (tMidC (ι := Unit) (fun ψ => [(3, .pointer (some ⟨g1, 0, none⟩)), (5, .slice a4 ((([] : List Row) ++ v0).length) c5), (6, .int .i64 (x7))]) (fun ψ => [box g1 57 [.int .i64 (v1.1), .int .i64 (v1.2)], tree (.slice a4 ((([] : List Row) ++ v0).length) c5) (([] : List Row) ++ v0)]) ?_ ?_)))
 ·refine aR (dF hx8 () (fun Q11 _ => [(3, .pointer (some ⟨g1, 0, none⟩)), (5, .slice a4 ((([] : List Row) ++ v0).length) c5), (6, .int .i64 (Q11))]) (fun _ _ => [box g1 57 [.int .i64 (v1.1), .int .i64 (v1.2)], tree (.slice a4 ((([] : List Row) ++ v0).length) c5) (([] : List Row) ++ v0)]) (.cons dl1 (.cons aA .nil)) ?_)
  rintro _ Q11 z12 t14 H1 hi15 hb16
  unfold p_impl_put_b0 at H1
  refine aD (bdo H1 fun b19 j20 H1 => (dE [(23, .bool (b19)), (3, .pointer (some ⟨g1, 0, none⟩)), (5, .slice a4 ((([] : List Row) ++ v0).length) c5), (6, .int .i64 (Q11))] ?_ ?_))
  ·refine dG [(3, .pointer (some ⟨g1, 0, none⟩)), (5, .slice a4 ((([] : List Row) ++ v0).length) c5), (6, .int .i64 (Q11))] mixed (.inr (by kernel_rfl)) ⟨rfl, rfl, rfl, trivial⟩ rfl (bC rfl (bC rfl (aY (bT 57 dV rfl) (aY (cS rfl rfl) ?_))))
   rcases aL (decide (Q11 < ((([] : List Row) ++ v0).length : Int))) with h21 | h21
   ·have j20 := cdT h21 j20
    refine bD (aE rfl) h21 (aZ rfl (aE rfl) (aZ rfl (aE rfl) (gdo j20 fun h22 j20 => (bB rfl (bY dV ty57 rfl rfl h22 hs1) (bB rfl (bZ (j := 0) Q11.toNat fa57_0 rfl (aO (bM hs1)) h22.lt rfl) (bB rfl (cA (i := Q11.toNat) (j := 0) ty3 rfl (aO (bM hs1)) h22.lt rfl) (aZ rfl (cC fa57_0 rfl rfl) (bB rfl (bJ ty3 rfl aB rfl) (aZ rfl (cS rfl rfl) ?_)))))))))
    refine aY (bQ rfl rfl) ?_
    obtain rfl := si j20
    show At _ _ _ _ _ _
    exact n1 ⟨rfl, rfl, rfl, rfl, trivial⟩
   ·have j20 := cdF h21 j20
    refine bD (aE rfl) h21 ?_
    iterate 8 refine bF rfl ?_
    refine aY (v := .bool (false)) (bP rfl rfl) ?_
    obtain rfl := si j20
    show At _ _ _ _ _ _
    exact n1 ⟨rfl, rfl, rfl, rfl, trivial⟩
  refine cH H1 rfl (fun h23 H1 => ?_) (fun h23 H1 => ?_)
  ·exact bI (nT (aR (aQ (aF rfl (gdo H1 fun h24 H1 => (aG (bS rfl rfl h24) (aH rfl (aJ (nB (nLI () (hi15 _ (sm H1)) (.cons aA (.cons aA .nil)) ))))))))))
  ·refine dB (xT (xT (xE (?_))))
   obtain rfl := hb16 _ (sm H1)
   exact nMC () ⟨rfl, rfl, rfl, trivial⟩ bU (.cons aA (.cons aA .nil))
 ·intro y13
  show Tr _ _ _ _ _ [(3, .pointer (some ⟨g1, 0, none⟩)), (5, .slice a4 ((([] : List Row) ++ v0).length) c5), (6, .int .i64 (x7))] _ [box g1 57 [.int .i64 (v1.1), .int .i64 (v1.2)], tree (.slice a4 ((([] : List Row) ++ v0).length) c5) (([] : List Row) ++ v0)]
  refine aD (bdo H fun b25 j26 H => (dE [(39, .bool (b25)), (3, .pointer (some ⟨g1, 0, none⟩)), (5, .slice a4 ((([] : List Row) ++ v0).length) c5), (6, .int .i64 (x7))] ?_ ?_))
  ·refine dG [(3, .pointer (some ⟨g1, 0, none⟩)), (5, .slice a4 ((([] : List Row) ++ v0).length) c5), (6, .int .i64 (x7))] mixed (.inr (by kernel_rfl)) ⟨rfl, rfl, rfl, trivial⟩ rfl (bC rfl (bC rfl (aY (bT 57 dV rfl) (aY (cS rfl rfl) ?_))))
   rcases aL (decide (x7 < ((([] : List Row) ++ v0).length : Int))) with h27 | h27
   ·have j26 := cdT h27 j26
    refine bD (aE rfl) h27 (aZ rfl (aE rfl) (aZ rfl (aE rfl) (gdo j26 fun h28 j26 => (bB rfl (bY dV ty57 rfl rfl h28 hs1) (bB rfl (bZ (j := 0) x7.toNat fa57_0 rfl (aO (bM hs1)) h28.lt rfl) (bB rfl (cA (i := x7.toNat) (j := 0) ty3 rfl (aO (bM hs1)) h28.lt rfl) (aZ rfl (cC fa57_0 rfl rfl) (bB rfl (bJ ty3 rfl aB rfl) (aZ rfl (cV rfl rfl) ?_)))))))))
    refine aY (bQ rfl rfl) ?_
    obtain rfl := si j26
    show At _ _ _ _ _ _
    exact n1 ⟨rfl, rfl, rfl, rfl, trivial⟩
   ·have j26 := cdF h27 j26
    refine bD (aE rfl) h27 ?_
    iterate 8 refine bF rfl ?_
    refine aY (v := .bool (false)) (bP rfl rfl) ?_
    obtain rfl := si j26
    show At _ _ _ _ _ _
    exact n1 ⟨rfl, rfl, rfl, rfl, trivial⟩
  refine cH H rfl (fun h29 H => ?_) (fun h29 H => ?_)
  ·refine sr (aF rfl (aF rfl (aI (bK ty57 rfl aB rfl) (gdo H fun h30 H => (aI (bY dV ty57 rfl rfl h30 hs1) (g0 (e_setT (l := (([] : List Row) ++ v0)) (α := Row) (oa := a4) x7.toNat v1 ((), ()) ty57 rfl rfl rfl h30.lt (cY _) (.cons dl1 .nil)) (nl (aD ?_))))))))
   refine Tr.olen aB fun hn => ?_; rw [hn]
   refine aQ (aF rfl (aH rfl (nl (bR (rT (?_))))))
   obtain rfl := si H
   exact back1 (a4, c5) rfl (ResV.tmp (v := .slice a4 (((([] : List Row) ++ v0).set x7.toNat v1).length) c5) rfl) rfl cO (.cons aA .nil)
  ·refine bI (nT (sr (f2 (e_lit0 Row dV ty57) fun a31 c32 => (aF rfl (aF rfl (aI (bK ty57 rfl hs1 rfl) (f2 (e_litT (α := Row) (vs := [(0, .agg #[.int .i64 (v1.1), .int .i64 (v1.2)])]) [v1] rfl (fun _ => rfl) (fun _ _ => by repeat constructor) dV ty57 rfl (by decide) (by decide) (by kernel_rfl)) fun a33 c34 => (bdo H fun r35 h36 H => (f1 (cI (c_slices_Insert_Row_Row (([] : List Row) ++ v0) (a4, c5) x7 ([v1] : List Row) (a33, c34) h36) (bG (bG bH)) (fun _ => (bG bH)) rfl (.cons dl3 (.cons aA .nil)) aP) fun x37 => ?_)))))))))
   refine gdo H fun h40 H => (f2 (e_appF (l := ([] : List Row)) (k := r35) (α := Row) dV ty57 rfl rfl (h40.b (by decide)) h40.x (.cons dl1 .nil) (bM aB)) fun a38 c39 => (aH rfl (nl (bR ?_))))
   obtain rfl := si H
   exact back1 (a38, c39) rfl (ResV.tmp (v := .slice a38 ((([] : List Row) ++ r35).length) c39) rfl) rfl cO (.cons aA .nil)
noncomputable def p_impl_Store_rows_b1 (r22 : (List Row)) (Q29 : (List Row) × Int) : Option (((List Row) × Int) ⊕ ((List Row))) := cond (decide (Q29.2 < (r22.length : Int))) (gd (ix Q29.2 r22.length) <| bd (p_impl_put Q29.1 (nth r22 Q29.2.toNat)) fun r40 => gd (I64 (Q29.2 + 1)) <| some (.inl (r40, Q29.2 + 1))) (some (.inr Q29.1))
noncomputable def p_impl_Store_rows_b0 (v0 : Store) (v1 : Int) (Q11 : (List Row) × Int) : Option (((List Row) × Int) ⊕ ((List Row))) := cond (decide (Q11.2 < (v0.2.1.length : Int))) (gd (ix Q11.2 v0.2.1.length) <| bd (p_impl_PartOf (nth v0.2.1 Q11.2.toNat) v1) fun r22 => bd (lp (p_impl_Store_rows_b1 r22) (Q11.1, 0)) fun x25 => gd (I64 (Q11.2 + 1)) <| some (.inl (x25, Q11.2 + 1))) (some (.inr Q11.1))
noncomputable def p_impl_Store_rows_b2 (v0 : Store) (v1 : Int) (Q49 : (List Row) × Int) : Option (((List Row) × Int) ⊕ ((List Row))) := cond (decide (Q49.2 < (v0.2.2.length : Int))) (gd (ix Q49.2 v0.2.2.length) <| cond (decide (((nth v0.2.2 Q49.2.toNat).1) = v1)) (bd (p_impl_put Q49.1 ((nth v0.2.2 Q49.2.toNat).2)) fun r61 => gd (I64 (Q49.2 + 1)) <| some (.inl (r61, Q49.2 + 1))) (gd (I64 (Q49.2 + 1)) <| some (.inl (Q49.1, Q49.2 + 1)))) (some (.inr Q49.1))
noncomputable def p_impl_Store_rows (v0 : Store) (v1 : Int) : Option ((List Row)) := bd (lp (p_impl_Store_rows_b0 v0 v1) (([] : List Row), 0)) fun x7 => bd (lp (p_impl_Store_rows_b2 v0 v1) (x7, 0)) fun x45 => some x45
theorem c_impl_Store_rows {r : (List Row)} (v0 : Store) (x_v0 : ((Option Addr × Nat) × (Option Addr × Nat)) × (Option Addr × Nat) × (Option Addr × Nat)) (v1 : Int) (H : p_impl_Store_rows v0 v1 = some r) : Fn' prog 52 #[.agg #[.slice x_v0.1.1.1 v0.1.1.length x_v0.1.1.2, .slice x_v0.1.2.1 v0.1.2.length x_v0.1.2.2, .slice x_v0.2.1.1 v0.2.1.length x_v0.2.1.2, .slice x_v0.2.2.1 v0.2.2.length x_v0.2.2.2], .int .i64 (v1)] [imm (.slice x_v0.1.1.1 v0.1.1.length x_v0.1.1.2) v0.1.1, imm (.slice x_v0.1.2.1 v0.1.2.length x_v0.1.2.2) v0.1.2, imm (.slice x_v0.2.1.1 v0.2.1.length x_v0.2.1.2) v0.2.1, imm (.slice x_v0.2.2.1 v0.2.2.length x_v0.2.2.2) v0.2.2] [] (ι := Option Addr × Nat) (fun x => .slice x.1 r.length x.2) (fun _ => []) (fun x => [tree (.slice x.1 r.length x.2) r]) := by
 refine cof (args := [_, _]) func52 ntmps52 fun c => ?_
 unfold p_impl_Store_rows at H
 refine bN aS fun X1 => (bN aS.s.s fun X2 => (bN aS.s.s.s.s fun X3 => (sr (f1 (cD (t := 42) rfl) fun g4 => (aH (v := .slice none 0 0) rfl (nl (sr (f2 (e_lit0 Row dV ty57) fun a5 c6 => (aH rfl (nl (aD (sr ?_))))))))))))
 refine aG (cC fa42_1 rfl rfl) (aI (bJ ty39 rfl hs1 rfl) (aG (bT 72 dQ rfl) (aF (v := .int .i64 (0)) rfl (nl (bdo H fun x7 hx8 H => (dC (ι := Option Addr × Nat) (fun ψ => [(1, .int .i64 (v1)), (2, .pointer (some ⟨g4, 0, none⟩)), (5, .slice ψ.1 x7.length ψ.2)]) (fun ψ => [box g4 42 [.slice x_v0.1.1.1 v0.1.1.length x_v0.1.1.2, .slice x_v0.1.2.1 v0.1.2.length x_v0.1.2.2, .slice x_v0.2.1.1 v0.2.1.length x_v0.2.1.2, .slice x_v0.2.2.1 v0.2.2.length x_v0.2.2.2], tree (.slice ψ.1 x7.length ψ.2) x7]) ?_ ?_))))))
 ·refine aR (dF hx8 (a5, c6) (fun Q11 z12 => [(1, .int .i64 (v1)), (2, .pointer (some ⟨g4, 0, none⟩)), (5, .slice z12.1 Q11.1.length z12.2), (14, .slice x_v0.2.1.1 v0.2.1.length x_v0.2.1.2), (15, .int .i64 ((v0.2.1.length : Int))), (16, .int .i64 (Q11.2))]) (fun Q11 z12 => [box g4 42 [.slice x_v0.1.1.1 v0.1.1.length x_v0.1.1.2, .slice x_v0.1.2.1 v0.1.2.length x_v0.1.2.2, .slice x_v0.2.1.1 v0.2.1.length x_v0.2.1.2, .slice x_v0.2.2.1 v0.2.2.length x_v0.2.2.2], tree (.slice z12.1 Q11.1.length z12.2) Q11.1]) (.cons dl1 (.cons aA .nil)) ?_)
  rintro _ Q11 z12 t14 H1 hi15 hb16
  unfold p_impl_Store_rows_b0 at H1
  refine sr (aG (cS rfl rfl) (nl (aD (cH H1 rfl (fun h19 H1 => ?_) (fun h19 H1 => ?_)))))
  ·refine bI (nT (aD (aR (sr (gdo H1 fun h20 H1 => (aI (bX dQ ty72 rfl rfl h20 rfl (aM (aU aS))) (aI (v := .agg #[.slice (((X3 Q11.2.toNat).1).1) (((nth v0.2.1 Q11.2.toNat).1).length) (((X3 Q11.2.toNat).1).2.1), .slice (((X3 Q11.2.toNat).2).1) (((nth v0.2.1 Q11.2.toNat).2).length) (((X3 Q11.2.toNat).2).2.1)]) (cB (i := Q11.2.toNat) ty72 rfl (aM (aU aS)) h20.lt) (f1 (cE ty72) fun g21 => (stb (cs' := [.slice (((X3 Q11.2.toNat).1).1) (((nth v0.2.1 Q11.2.toNat).1).length) (((X3 Q11.2.toNat).1).2.1), .slice (((X3 Q11.2.toNat).2).1) (((nth v0.2.1 Q11.2.toNat).2).length) (((X3 Q11.2.toNat).2).2.1)]) ty72 cZ (nl ?_))))))))))
   refine sr (aI (bK ty72 rfl aB rfl) (aF rfl (bdo H1 fun r22 h23 H1 => (f1 (cG (c_impl_PartOf (nth v0.2.1 Q11.2.toNat) ((((X3 Q11.2.toNat).1).1, ((X3 Q11.2.toNat).1).2.1), (((X3 Q11.2.toNat).2).1, ((X3 Q11.2.toNat).2).2.1)) v1 h23) (fun _ => (bG bH)) rfl (aC (aM (aT (aW (aX aS h20.lt)))) (aC (aM (aT (aV (aX aS h20.lt)))) aP))) fun x24 => (aG (bT 57 dV rfl) (aF (v := .int .i64 (0)) rfl (nl (bdo H1 fun x25 hx26 H1 => (dC (ι := Option Addr × Nat) (fun ψ => [(1, .int .i64 (v1)), (2, .pointer (some ⟨g4, 0, none⟩)), (5, .slice ψ.1 x25.length ψ.2), (14, .slice x_v0.2.1.1 v0.2.1.length x_v0.2.1.2), (15, .int .i64 ((v0.2.1.length : Int))), (16, .int .i64 (Q11.2))]) (fun ψ => [box g4 42 [.slice x_v0.1.1.1 v0.1.1.length x_v0.1.1.2, .slice x_v0.1.2.1 v0.1.2.length x_v0.1.2.2, .slice x_v0.2.1.1 v0.2.1.length x_v0.2.1.2, .slice x_v0.2.2.1 v0.2.2.length x_v0.2.2.2], tree (.slice ψ.1 x25.length ψ.2) x25]) ?_ ?_)))))))))
   ·refine aR (dF hx26 (z12.1, z12.2) (fun Q29 z30 => [(1, .int .i64 (v1)), (2, .pointer (some ⟨g4, 0, none⟩)), (5, .slice z30.1 Q29.1.length z30.2), (14, .slice x_v0.2.1.1 v0.2.1.length x_v0.2.1.2), (15, .int .i64 ((v0.2.1.length : Int))), (16, .int .i64 (Q11.2)), (22, .slice x24.1 r22.length x24.2), (23, .int .i64 ((r22.length : Int))), (24, .int .i64 (Q29.2))]) (fun Q29 z30 => [box g4 42 [.slice x_v0.1.1.1 v0.1.1.length x_v0.1.1.2, .slice x_v0.1.2.1 v0.1.2.length x_v0.1.2.2, .slice x_v0.2.1.1 v0.2.1.length x_v0.2.1.2, .slice x_v0.2.2.1 v0.2.2.length x_v0.2.2.2], tree (.slice z30.1 Q29.1.length z30.2) Q29.1, tree (.slice x24.1 r22.length x24.2) r22]) (.cons dl2 (.cons dl2 (.cons aA .nil))) ?_)
    rintro _ Q29 z30 t32 H2 hi33 hb34
    unfold p_impl_Store_rows_b1 at H2
    refine sr (aG (cS rfl rfl) (nl (aD (cH H2 rfl (fun h37 H2 => ?_) (fun h37 H2 => ?_)))))
    ·refine bI (nT (aD (aR (sr (gdo H2 fun h38 H2 => (aI (bY dV ty57 rfl rfl h38 hs2) (aI (v := .agg #[.int .i64 ((nth r22 Q29.2.toNat).1), .int .i64 ((nth r22 Q29.2.toNat).2)]) (cB (i := Q29.2.toNat) ty57 rfl (aO (bM hs2)) h38.lt) (f1 (cE ty57) fun g39 => (stb (cs' := [.int .i64 ((nth r22 Q29.2.toNat).1), .int .i64 ((nth r22 Q29.2.toNat).2)]) ty57 cZ (nl ?_))))))))))
     refine aQ (aF rfl (aI (bK ty57 rfl aB rfl) (bdo H2 fun r40 h41 H2 => (f1 (cG (c_impl_put Q29.1 z30 (nth r22 Q29.2.toNat) h41) (fun _ => (bG bH)) rfl (aC (bM hs2) aP)) fun x42 => (aH rfl (aJ (nB (nT (aQ (gdo H2 fun h43 H2 => (aG (bS rfl rfl h43) ?_)))))))))))
     exact aF rfl (aJ (nLI (x42.1, x42.2) (hi33 _ (sm H2)) (.cons dl2 (.cons aA (.cons dl2 .nil)))))
    ·refine dB (xT (xT (xE (?_))))
     obtain rfl := hb34 _ (sm H2)
     exact nMC (z30.1, z30.2) ⟨rfl, rfl, rfl, rfl, rfl, rfl, trivial⟩ bU (.cons aA (.cons aA .nil))
   ·intro y31
    show At _ _ [(1, .int .i64 (v1)), (2, .pointer (some ⟨g4, 0, none⟩)), (5, .slice y31.1 x25.length y31.2), (14, .slice x_v0.2.1.1 v0.2.1.length x_v0.2.1.2), (15, .int .i64 ((v0.2.1.length : Int))), (16, .int .i64 (Q11.2))] _ [box g4 42 [.slice x_v0.1.1.1 v0.1.1.length x_v0.1.1.2, .slice x_v0.1.2.1 v0.1.2.length x_v0.1.2.2, .slice x_v0.2.1.1 v0.2.1.length x_v0.2.1.2, .slice x_v0.2.2.1 v0.2.2.length x_v0.2.2.2], tree (.slice y31.1 x25.length y31.2) x25] _
    exact nB (nT (aQ (gdo H1 fun h44 H1 => (aG (bS rfl rfl h44) (aF rfl (aJ (nLI (y31.1, y31.2) (hi15 _ (sm H1)) (.cons aA (.cons aA .nil)))))))))
  ·refine dB (xT (xT (xE (?_))))
   obtain rfl := hb16 _ (sm H1)
   exact nMC (z12.1, z12.2) ⟨rfl, rfl, rfl, trivial⟩ bU (.cons aA (.cons aA .nil))
 ·intro y13
  show At _ _ [(1, .int .i64 (v1)), (2, .pointer (some ⟨g4, 0, none⟩)), (5, .slice y13.1 x7.length y13.2)] _ [box g4 42 [.slice x_v0.1.1.1 v0.1.1.length x_v0.1.1.2, .slice x_v0.1.2.1 v0.1.2.length x_v0.1.2.2, .slice x_v0.2.1.1 v0.2.1.length x_v0.2.1.2, .slice x_v0.2.2.1 v0.2.2.length x_v0.2.2.2], tree (.slice y13.1 x7.length y13.2) x7] _
  refine nT (aD (sr (aG (cC fa42_2 rfl rfl) (aI (bJ ty40 rfl aB rfl) (aG (bT 59 dR rfl) (aF (v := .int .i64 (0)) rfl (nl (bdo H fun x45 hx46 H => (dC (ι := Option Addr × Nat) (fun ψ => [(5, .slice ψ.1 x45.length ψ.2)]) (fun ψ => [tree (.slice ψ.1 x45.length ψ.2) x45]) ?_ ?_)))))))))
  ·refine aR (dF hx46 (y13.1, y13.2) (fun Q49 z50 => [(1, .int .i64 (v1)), (5, .slice z50.1 Q49.1.length z50.2), (34, .slice x_v0.2.2.1 v0.2.2.length x_v0.2.2.2), (35, .int .i64 ((v0.2.2.length : Int))), (36, .int .i64 (Q49.2))]) (fun Q49 z50 => [tree (.slice z50.1 Q49.1.length z50.2) Q49.1]) (.cons dl1 .nil) ?_)
   rintro _ Q49 z50 t52 H1 hi53 hb54
   unfold p_impl_Store_rows_b2 at H1
   refine sr (aG (cS rfl rfl) (nl (aD (cH H1 rfl (fun h57 H1 => ?_) (fun h57 H1 => ?_)))))
   ·refine bI (nT (aD (aR (sr (gdo H1 fun h58 H1 => (aI (bX dR ty59 rfl rfl h58 rfl (aO (aM aS.s.s.s.s.s.s))) (aI (v := .agg #[.int .i64 ((nth v0.2.2 Q49.2.toNat).1), .int .i64 (((nth v0.2.2 Q49.2.toNat).2).1), .int .i64 (((nth v0.2.2 Q49.2.toNat).2).2)]) (cB (i := Q49.2.toNat) ty59 rfl (aO (aM aS.s.s.s.s.s.s)) h58.lt) (f1 (cE ty59) fun g59 => (stb (cs' := [.int .i64 ((nth v0.2.2 Q49.2.toNat).1), .int .i64 (((nth v0.2.2 Q49.2.toNat).2).1), .int .i64 (((nth v0.2.2 Q49.2.toNat).2).2)]) ty59 cZ (nl ?_))))))))))
    refine sr (aG (cC fa59_0 rfl rfl) (aI (bJ ty3 rfl aB rfl) (aF rfl (aG (cV rfl rfl) (nl (cH H1 rfl (fun h60 H1 => ?_) (fun h60 H1 => ?_)))))))
    ·refine aQ (aF rfl (aG (cC fa59_1 rfl rfl) (aI (v := .agg #[.int .i64 (((nth v0.2.2 Q49.2.toNat).2).1), .int .i64 (((nth v0.2.2 Q49.2.toNat).2).2)]) (q_ldbP [.int .i64 (((nth v0.2.2 Q49.2.toNat).2).1), .int .i64 (((nth v0.2.2 Q49.2.toNat).2).2)] ty57 rfl aB rfl rfl) (bdo H1 fun r61 h62 H1 => (f1 (cG (c_impl_put Q49.1 z50 ((nth v0.2.2 Q49.2.toNat).2) h62) (fun _ => (bG bH)) rfl (aC (bM hs1) aP)) fun x63 => (aH rfl (aJ (nB (nT (aQ (gdo H1 fun h64 H1 => ?_)))))))))))
     exact aG (bS rfl rfl h64) (aF rfl (aJ (nLI (x63.1, x63.2) (hi53 _ (sm H1)) (.cons aA .nil))))
    ·exact bI (nB (nT (aQ (gdo H1 fun h65 H1 => (aG (bS rfl rfl h65) (aF rfl (aJ (nLI (z50.1, z50.2) (hi53 _ (sm H1)) (.cons dl1 .nil)))))))))
   ·refine dB (xT (xT (xE (?_))))
    obtain rfl := hb54 _ (sm H1)
    exact nMC (z50.1, z50.2) ⟨rfl, trivial⟩ bU (.cons aA .nil)
  ·intro y51
   show At _ _ [(5, .slice y51.1 x45.length y51.2)] _ [tree (.slice y51.1 x45.length y51.2) x45] _
   refine nT (sr (aF rfl (aH rfl (nl (bR ?_)))))
   obtain rfl := si H
   exact back1 y51 rfl (ResV.tmp (v := .slice y51.1 x45.length y51.2) rfl) rfl cO (.cons aA .nil)
noncomputable def p_impl_StoreOk_b0 (v0 : Store) (Q16 : Int) : Option ((Int) ⊕ (Unit ⊕ Bool)) := cond (decide (Q16 < (v0.2.1.length : Int))) (gd (ix Q16 v0.2.1.length) <| bd (bd (p_impl_PartOk (nth v0.2.1 Q16.toNat)) fun r29 => cond (!r29) (some (true)) (cond (decide ((((nth v0.2.1 Q16.toNat).1).length : Int) = 0)) (some (true)) (bd (p_slices_Max_int_int ((nth v0.2.1 Q16.toNat).1)) fun r33 => some (decide ((v0.1.1.length : Int) < r33))))) fun b27 => cond (b27) (some (.inr (.inr false))) (gd (I64 (Q16 + 1)) <| some (.inl (Q16 + 1)))) (some (.inr (.inl ())))
noncomputable def p_impl_StoreOk_b1 (v0 : Store) (Q42 : Int) : Option ((Int) ⊕ (Unit ⊕ Bool)) := cond (decide (Q42 < (v0.2.2.length : Int))) (gd (ix Q42 v0.2.2.length) <| bd (bd (p_impl_within ((nth v0.2.2 Q42.toNat).1) 1 (v0.1.1.length : Int)) fun r55 => cond (!r55) (some (true)) (bd (p_impl_rowOk ((nth v0.2.2 Q42.toNat).2)) fun r58 => some (!r58))) fun b53 => cond (b53) (some (.inr (.inr false))) (gd (I64 (Q42 + 1)) <| some (.inl (Q42 + 1)))) (some (.inr (.inl ())))
noncomputable def p_impl_StoreOk_b2 (v0 : Store) (Q67 : Int) : Option ((Int) ⊕ (Unit ⊕ Bool)) := cond (decide (Q67 ≤ (v0.1.1.length : Int))) (bd (p_impl_Store_rows v0 Q67) fun r76 => cond (decide (24 < (r76.length : Int))) (some (.inr (.inr false))) (gd (I64 (Q67 + 1)) <| some (.inl (Q67 + 1)))) (some (.inr (.inl ())))
noncomputable def p_impl_StoreOk (v0 : Store) : Option (Bool) := bd (bd (p_impl_IndexOk v0.1) fun r7 => cond (!r7) (some (true)) (cond (decide (6 < (v0.2.1.length : Int))) (some (true)) (some (decide (20 < (v0.2.2.length : Int)))))) fun b5 => cond (b5) (some false) (bd (lp (p_impl_StoreOk_b0 v0) 0) <| sw (fun _ => bd (lp (p_impl_StoreOk_b1 v0) 0) <| sw (fun _ => bd (lp (p_impl_StoreOk_b2 v0) 1) <| sw (fun _ => some true) (fun q => some q)) (fun q => some q)) (fun q => some q))
end Go.Proofs.YtlkcnfjdhkoelaaGreat
