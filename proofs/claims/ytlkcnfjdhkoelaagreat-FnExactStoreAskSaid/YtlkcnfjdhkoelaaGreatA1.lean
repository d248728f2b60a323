/- The walks and the plain laws, part 1: each function that the law reaches computes what its plain function tells, and what the plain functions answer. Conditions: lengths that memory can hold. -/
import Derived.Test.YtlkcnfjdhkoelaaGreatSxB
import Derived.Test.YtlkcnfjdhkoelaaGreatProg
namespace Go.Proofs.YtlkcnfjdhkoelaaGreat
open Go Go.Sx Tryz
abbrev aA := @Del.here
abbrev aB := @Has.here
abbrev aC := @EntsB.cons
abbrev aD := @Tr.seq
abbrev aE := @p_move
abbrev aF := @Rg.m
abbrev aG := @Rg.p
abbrev aH := @Rg.a
abbrev aI := @Rg.o
abbrev aJ := @Rg.nl
abbrev aK := @Bool.eq_false_or_eq_true
abbrev aL := @Ent.b
abbrev aM := @PdOk.anc
abbrev aN := @EntB.flat
abbrev aO := @EntsB.nil
abbrev aP := @Tr.region
abbrev aQ := @Tr.block
abbrev aR := @Ent.z
abbrev aS := @Ent.dimm
abbrev aT := @Ent.darr
abbrev aU := @Ent.dsnd
abbrev aV := @Ent.dfst
abbrev aW := @Ent.del
abbrev aX := @Lin.p
abbrev aY := @Lin.h
abbrev aZ := @Lin.o
abbrev bA := @Lin.i
abbrev bB := @Lin.m
abbrev bC := @Lin.e_
abbrev bD := @Lin.f_
abbrev bE := @Lin.sk
abbrev bF := @Solo.tree
abbrev bG := @Solo.nil
abbrev bH := @tSkip
abbrev bI := @q_ldb
abbrev bJ := @q_ldbA
abbrev bK := @Take.nil
abbrev bL := @EntB.tree
abbrev bM := @Tr.openD
abbrev bN := @q_call
abbrev bO := @p_pickF
abbrev bP := @p_pickT
abbrev bQ := @tRet
abbrev bR := @p_add
abbrev bS := @p_len
abbrev bT := @Ents.refl
abbrev bU := @PdOk.nil
abbrev bV := @PdOk.q
abbrev bW := @q_ixg
abbrev bX := @q_ixO'
abbrev bY := @q_faeE
abbrev bZ := @q_lde
abbrev cA := @q_ldeA
abbrev cB := @p_fabE
abbrev cC := @e_box
abbrev cD := @e_alloc
abbrev cE := @e_callB
abbrev cF := @e_callM
abbrev cG := @w_skip
abbrev cI := @w_nil
abbrev cJ := @Ents.cons
abbrev cK := @Ents.nil
abbrev cL := @Rdy.nil
abbrev cM := @p_lss
abbrev cN := @p_sub
abbrev cO := @p_neq
abbrev cP := @p_eql
abbrev cQ := @p_gtr
abbrev cR := @p_not
abbrev cS := @ShpT.wfa
abbrev cT := @Tr.olen
abbrev cU := @At.olen
abbrev cV := @Upd.here
abbrev cW := @tExit
abbrev cX := @tMidNC
abbrev cY := @tMidI
abbrev cZ := @tMid1
abbrev dA := @tLoopI
abbrev dB := @tLinS
abbrev dC := @tLinT
abbrev dD := @List.nodup_nil
abbrev dE := @underlying105
abbrev dF := @underlying144
abbrev dG := @underlying193
abbrev dH := @underlying22
abbrev dI := @underlying23
abbrev dJ := @underlying234
abbrev dK := @underlying26
abbrev dL := @underlying30
abbrev dM := @underlying33
abbrev dN := @underlying35
abbrev dO := @underlying36
abbrev dP := @underlying39
abbrev dQ := @underlying40
abbrev dR := @underlying44
abbrev dS := @underlying63
abbrev dT := @underlying69
abbrev dU := @underlying70
abbrev dV := @underlying9
theorem mixed : prog.follows .mixedOrders = true := by kernel_rfl
abbrev Tag := ByteArray × ByteArray
abbrev PostH := Tag × HV
abbrev Post := Tag × (List Int)
abbrev Index := (List (List Tag)) × (List Post)
abbrev Row := Int × Int
abbrev Part := (List Int) × (List (List Row))
abbrev Sample := Int × Row
abbrev Store := Index × (List Part) × (List Sample)
abbrev Cond := Tag × Bool
abbrev Hit := ByteArray × (List Row)
instance : DecidableEq Tag := inferInstanceAs (DecidableEq (ByteArray × ByteArray))
instance : DecidableEq Post := inferInstanceAs (DecidableEq (Tag × (List Int)))
instance : DecidableEq Index := inferInstanceAs (DecidableEq ((List (List Tag)) × (List Post)))
instance : DecidableEq Row := inferInstanceAs (DecidableEq (Int × Int))
instance : DecidableEq Part := inferInstanceAs (DecidableEq ((List Int) × (List (List Row))))
instance : DecidableEq Sample := inferInstanceAs (DecidableEq (Int × Row))
instance : DecidableEq Store := inferInstanceAs (DecidableEq (Index × (List Part) × (List Sample)))
instance : DecidableEq Cond := inferInstanceAs (DecidableEq (Tag × Bool))
instance : DecidableEq Hit := inferInstanceAs (DecidableEq (ByteArray × (List Row)))
theorem ty3 : TyI prog 3 false 1 (.int .i64 0) 8 := ⟨by kernel_rfl, by kernel_rfl, rfl⟩
theorem ty4 : TyI prog 4 false 1 (.bool false) 1 := ⟨by kernel_rfl, by kernel_rfl, rfl⟩
theorem ty5 : TyI prog 5 false 1 (.int .u8 0) 1 := ⟨by kernel_rfl, by kernel_rfl, rfl⟩
theorem ty9 : TyI prog 9 false 1 (.string ⟨#[]⟩) 16 := ⟨by kernel_rfl, by kernel_rfl, rfl⟩
theorem ty22 : TyI prog 22 false 1 (.slice none 0 0) 24 := ⟨by kernel_rfl, by kernel_rfl, rfl⟩
theorem ty23 : TyI prog 23 false 1 (.slice none 0 0) 24 := ⟨by kernel_rfl, by kernel_rfl, rfl⟩
theorem ty25 : TyI prog 25 true 2 (.agg #[.slice none 0 0, .slice none 0 0]) 48 := ⟨by kernel_rfl, by kernel_rfl, rfl⟩
theorem fa25_0 : FA prog 25 0 0 := ⟨_, underlying25, _, rfl, rfl, by obtain ⟨i, hi, _, hn, _⟩ := ty22.info'; exact ⟨i, hi, by rw [hn]; decide⟩⟩
theorem fa25_1 : FA prog 25 1 1 := ⟨_, underlying25, _, rfl, rfl, by obtain ⟨i, hi, _, hn, _⟩ := ty23.info'; exact ⟨i, hi, by rw [hn]; decide⟩⟩
theorem ty26 : TyI prog 26 false 1 (.slice none 0 0) 24 := ⟨by kernel_rfl, by kernel_rfl, rfl⟩
theorem ty27 : TyI prog 27 false 1 (.slice none 0 0) 24 := ⟨by kernel_rfl, by kernel_rfl, rfl⟩
theorem ty29 : TyI prog 29 true 4 (.agg #[.slice none 0 0, .slice none 0 0, .slice none 0 0, .slice none 0 0]) 96 := ⟨by kernel_rfl, by kernel_rfl, rfl⟩
theorem fa29_0 : FA prog 29 0 0 := ⟨_, underlying29, _, rfl, rfl, by obtain ⟨i, hi, _, hn, _⟩ := ty25.info'; exact ⟨i, hi, by rw [hn]; decide⟩⟩
theorem fa29_1 : FA prog 29 1 2 := ⟨_, underlying29, _, rfl, rfl, by obtain ⟨i, hi, _, hn, _⟩ := ty26.info'; exact ⟨i, hi, by rw [hn]; decide⟩⟩
theorem fa29_2 : FA prog 29 2 3 := ⟨_, underlying29, _, rfl, rfl, by obtain ⟨i, hi, _, hn, _⟩ := ty27.info'; exact ⟨i, hi, by rw [hn]; decide⟩⟩
theorem ty35 : TyI prog 35 false 1 (.slice none 0 0) 24 := ⟨by kernel_rfl, by kernel_rfl, rfl⟩
theorem ty36 : TyI prog 36 false 1 (.slice none 0 0) 24 := ⟨by kernel_rfl, by kernel_rfl, rfl⟩
theorem ty38 : TyI prog 38 true 2 (.agg #[.slice none 0 0, .slice none 0 0]) 48 := ⟨by kernel_rfl, by kernel_rfl, rfl⟩
theorem fa38_0 : FA prog 38 0 0 := ⟨_, underlying38, _, rfl, rfl, by obtain ⟨i, hi, _, hn, _⟩ := ty35.info'; exact ⟨i, hi, by rw [hn]; decide⟩⟩
theorem fa38_1 : FA prog 38 1 1 := ⟨_, underlying38, _, rfl, rfl, by obtain ⟨i, hi, _, hn, _⟩ := ty36.info'; exact ⟨i, hi, by rw [hn]; decide⟩⟩
theorem ty39 : TyI prog 39 false 1 (.slice none 0 0) 24 := ⟨by kernel_rfl, by kernel_rfl, rfl⟩
theorem ty40 : TyI prog 40 false 1 (.slice none 0 0) 24 := ⟨by kernel_rfl, by kernel_rfl, rfl⟩
theorem ty42 : TyI prog 42 true 4 (.agg #[.slice none 0 0, .slice none 0 0, .slice none 0 0, .slice none 0 0]) 96 := ⟨by kernel_rfl, by kernel_rfl, rfl⟩
theorem fa42_0 : FA prog 42 0 0 := ⟨_, underlying42, _, rfl, rfl, by obtain ⟨i, hi, _, hn, _⟩ := ty38.info'; exact ⟨i, hi, by rw [hn]; decide⟩⟩
theorem fa42_1 : FA prog 42 1 2 := ⟨_, underlying42, _, rfl, rfl, by obtain ⟨i, hi, _, hn, _⟩ := ty39.info'; exact ⟨i, hi, by rw [hn]; decide⟩⟩
theorem fa42_2 : FA prog 42 2 3 := ⟨_, underlying42, _, rfl, rfl, by obtain ⟨i, hi, _, hn, _⟩ := ty40.info'; exact ⟨i, hi, by rw [hn]; decide⟩⟩
theorem ty57 : TyI prog 57 true 2 (.agg #[.int .i64 0, .int .i64 0]) 16 := ⟨by kernel_rfl, by kernel_rfl, rfl⟩
theorem fa57_0 : FA prog 57 0 0 := ⟨_, underlying57, _, rfl, rfl, by obtain ⟨i, hi, _, hn, _⟩ := ty3.info'; exact ⟨i, hi, by rw [hn]; decide⟩⟩
theorem fa57_1 : FA prog 57 1 1 := ⟨_, underlying57, _, rfl, rfl, by obtain ⟨i, hi, _, hn, _⟩ := ty3.info'; exact ⟨i, hi, by rw [hn]; decide⟩⟩
theorem ty59 : TyI prog 59 true 3 (.agg #[.int .i64 0, .int .i64 0, .int .i64 0]) 24 := ⟨by kernel_rfl, by kernel_rfl, rfl⟩
theorem fa59_0 : FA prog 59 0 0 := ⟨_, underlying59, _, rfl, rfl, by obtain ⟨i, hi, _, hn, _⟩ := ty3.info'; exact ⟨i, hi, by rw [hn]; decide⟩⟩
theorem fa59_1 : FA prog 59 1 1 := ⟨_, underlying59, _, rfl, rfl, by obtain ⟨i, hi, _, hn, _⟩ := ty57.info'; exact ⟨i, hi, by rw [hn]; decide⟩⟩
theorem ty63 : TyI prog 63 false 1 (.slice none 0 0) 24 := ⟨by kernel_rfl, by kernel_rfl, rfl⟩
theorem ty69 : TyI prog 69 false 1 (.slice none 0 0) 24 := ⟨by kernel_rfl, by kernel_rfl, rfl⟩
theorem ty70 : TyI prog 70 false 1 (.slice none 0 0) 24 := ⟨by kernel_rfl, by kernel_rfl, rfl⟩
theorem ty72 : TyI prog 72 true 2 (.agg #[.slice none 0 0, .slice none 0 0]) 48 := ⟨by kernel_rfl, by kernel_rfl, rfl⟩
theorem fa72_0 : FA prog 72 0 0 := ⟨_, underlying72, _, rfl, rfl, by obtain ⟨i, hi, _, hn, _⟩ := ty69.info'; exact ⟨i, hi, by rw [hn]; decide⟩⟩
theorem fa72_1 : FA prog 72 1 1 := ⟨_, underlying72, _, rfl, rfl, by obtain ⟨i, hi, _, hn, _⟩ := ty70.info'; exact ⟨i, hi, by rw [hn]; decide⟩⟩
theorem ty90 : TyI prog 90 true 2 (.agg #[.string ⟨#[]⟩, .string ⟨#[]⟩]) 32 := ⟨by kernel_rfl, by kernel_rfl, rfl⟩
theorem fa90_0 : FA prog 90 0 0 := ⟨_, underlying90, _, rfl, rfl, by obtain ⟨i, hi, _, hn, _⟩ := ty9.info'; exact ⟨i, hi, by rw [hn]; decide⟩⟩
theorem fa90_1 : FA prog 90 1 1 := ⟨_, underlying90, _, rfl, rfl, by obtain ⟨i, hi, _, hn, _⟩ := ty9.info'; exact ⟨i, hi, by rw [hn]; decide⟩⟩
theorem ty92 : TyI prog 92 true 3 (.agg #[.string ⟨#[]⟩, .string ⟨#[]⟩, .bool false]) 40 := ⟨by kernel_rfl, by kernel_rfl, rfl⟩
theorem fa92_0 : FA prog 92 0 0 := ⟨_, underlying92, _, rfl, rfl, by obtain ⟨i, hi, _, hn, _⟩ := ty90.info'; exact ⟨i, hi, by rw [hn]; decide⟩⟩
theorem fa92_1 : FA prog 92 1 2 := ⟨_, underlying92, _, rfl, rfl, by obtain ⟨i, hi, _, hn, _⟩ := ty4.info'; exact ⟨i, hi, by rw [hn]; decide⟩⟩
theorem ty97 : TyI prog 97 true 2 (.agg #[.string ⟨#[]⟩, .string ⟨#[]⟩]) 32 := ⟨by kernel_rfl, by kernel_rfl, rfl⟩
theorem fa97_0 : FA prog 97 0 0 := ⟨_, underlying97, _, rfl, rfl, by obtain ⟨i, hi, _, hn, _⟩ := ty9.info'; exact ⟨i, hi, by rw [hn]; decide⟩⟩
theorem fa97_1 : FA prog 97 1 1 := ⟨_, underlying97, _, rfl, rfl, by obtain ⟨i, hi, _, hn, _⟩ := ty9.info'; exact ⟨i, hi, by rw [hn]; decide⟩⟩
theorem ty99 : TyI prog 99 true 3 (.agg #[.string ⟨#[]⟩, .string ⟨#[]⟩, .bool false]) 40 := ⟨by kernel_rfl, by kernel_rfl, rfl⟩
theorem fa99_0 : FA prog 99 0 0 := ⟨_, underlying99, _, rfl, rfl, by obtain ⟨i, hi, _, hn, _⟩ := ty97.info'; exact ⟨i, hi, by rw [hn]; decide⟩⟩
theorem fa99_1 : FA prog 99 1 2 := ⟨_, underlying99, _, rfl, rfl, by obtain ⟨i, hi, _, hn, _⟩ := ty4.info'; exact ⟨i, hi, by rw [hn]; decide⟩⟩
theorem ty105 : TyI prog 105 false 1 (.slice none 0 0) 24 := ⟨by kernel_rfl, by kernel_rfl, rfl⟩
theorem ty107 : TyI prog 107 true 2 (.agg #[.string ⟨#[]⟩, .slice none 0 0]) 40 := ⟨by kernel_rfl, by kernel_rfl, rfl⟩
theorem fa107_0 : FA prog 107 0 0 := ⟨_, underlying107, _, rfl, rfl, by obtain ⟨i, hi, _, hn, _⟩ := ty9.info'; exact ⟨i, hi, by rw [hn]; decide⟩⟩
theorem fa107_1 : FA prog 107 1 1 := ⟨_, underlying107, _, rfl, rfl, by obtain ⟨i, hi, _, hn, _⟩ := ty63.info'; exact ⟨i, hi, by rw [hn]; decide⟩⟩
theorem ty144 : TyI prog 144 false 1 (.slice none 0 0) 24 := ⟨by kernel_rfl, by kernel_rfl, rfl⟩
theorem ty146 : TyI prog 146 true 2 (.agg #[.slice none 0 0, .slice none 0 0]) 48 := ⟨by kernel_rfl, by kernel_rfl, rfl⟩
theorem fa146_0 : FA prog 146 0 0 := ⟨_, underlying146, _, rfl, rfl, by obtain ⟨i, hi, _, hn, _⟩ := ty69.info'; exact ⟨i, hi, by rw [hn]; decide⟩⟩
theorem fa146_1 : FA prog 146 1 1 := ⟨_, underlying146, _, rfl, rfl, by obtain ⟨i, hi, _, hn, _⟩ := ty144.info'; exact ⟨i, hi, by rw [hn]; decide⟩⟩
theorem ty153 : TyI prog 153 true 2 (.agg #[.int .i64 0, .int .i64 0]) 16 := ⟨by kernel_rfl, by kernel_rfl, rfl⟩
theorem fa153_0 : FA prog 153 0 0 := ⟨_, underlying153, _, rfl, rfl, by obtain ⟨i, hi, _, hn, _⟩ := ty3.info'; exact ⟨i, hi, by rw [hn]; decide⟩⟩
theorem fa153_1 : FA prog 153 1 1 := ⟨_, underlying153, _, rfl, rfl, by obtain ⟨i, hi, _, hn, _⟩ := ty3.info'; exact ⟨i, hi, by rw [hn]; decide⟩⟩
theorem ty155 : TyI prog 155 true 3 (.agg #[.int .i64 0, .int .i64 0, .int .i64 0]) 24 := ⟨by kernel_rfl, by kernel_rfl, rfl⟩
theorem fa155_0 : FA prog 155 0 0 := ⟨_, underlying155, _, rfl, rfl, by obtain ⟨i, hi, _, hn, _⟩ := ty3.info'; exact ⟨i, hi, by rw [hn]; decide⟩⟩
theorem fa155_1 : FA prog 155 1 1 := ⟨_, underlying155, _, rfl, rfl, by obtain ⟨i, hi, _, hn, _⟩ := ty153.info'; exact ⟨i, hi, by rw [hn]; decide⟩⟩
theorem ty177 : TyI prog 177 true 3 (.agg #[.string ⟨#[]⟩, .string ⟨#[]⟩, .slice none 0 0]) 56 := ⟨by kernel_rfl, by kernel_rfl, rfl⟩
theorem fa177_0 : FA prog 177 0 0 := ⟨_, underlying177, _, rfl, rfl, by obtain ⟨i, hi, _, hn, _⟩ := ty97.info'; exact ⟨i, hi, by rw [hn]; decide⟩⟩
theorem fa177_1 : FA prog 177 1 2 := ⟨_, underlying177, _, rfl, rfl, by obtain ⟨i, hi, _, hn, _⟩ := ty69.info'; exact ⟨i, hi, by rw [hn]; decide⟩⟩
theorem ty193 : TyI prog 193 false 1 (.slice none 0 0) 24 := ⟨by kernel_rfl, by kernel_rfl, rfl⟩
theorem ty196 : TyI prog 196 true 3 (.agg #[.string ⟨#[]⟩, .string ⟨#[]⟩, .slice none 0 0]) 56 := ⟨by kernel_rfl, by kernel_rfl, rfl⟩
theorem fa196_0 : FA prog 196 0 0 := ⟨_, underlying196, _, rfl, rfl, by obtain ⟨i, hi, _, hn, _⟩ := ty90.info'; exact ⟨i, hi, by rw [hn]; decide⟩⟩
theorem fa196_1 : FA prog 196 1 2 := ⟨_, underlying196, _, rfl, rfl, by obtain ⟨i, hi, _, hn, _⟩ := ty69.info'; exact ⟨i, hi, by rw [hn]; decide⟩⟩
theorem ty234 : TyI prog 234 false 1 (.slice none 0 0) 24 := ⟨by kernel_rfl, by kernel_rfl, rfl⟩
theorem pl38 : PL prog 38 #[(0, 1), (1, 1)] := ⟨_, underlying38, fun w => by simp [ty35.sizeOf w]⟩
theorem pl107 : PL prog 107 #[(0, 1), (1, 1)] := ⟨_, underlying107, fun w => by simp [ty9.sizeOf w]⟩
theorem pl177 : PL prog 177 #[(0, 2), (2, 1)] := ⟨_, underlying177, fun w => by simp [ty97.sizeOf w]⟩
theorem ae97 : AEq prog 97 Tag := ⟨by kernel_rfl, fun d a b w => by
 rw [run_equalIn_agg w (d + 2) 97 _ _ (by kernel_rfl) (by kernel_rfl)]
 simp only [Program.fieldsOf, underlying97, Flat.enc, List.cons_append, List.nil_append]
 simp [Op.eqFields, part, ty9.isAgg, ty9.sizeOf, run_equalIn_string w (d + 1) 9 _ _ underlying9, seq_dec]
 by_cases h0 : a.1 = b.1 <;> by_cases h1 : a.2 = b.2 <;> simp [h0, h1, Prod.ext_iff]⟩
noncomputable def p_laws_szTag (v0 : Tag) (v1 : Int) : Option (Int) := gd (I64 (v1 - (v0.1.size : Int))) <| cond (decide ((v1 - (v0.1.size : Int)) < 0)) (some (-1)) (gd (I64 ((v1 - (v0.1.size : Int)) - (v0.2.size : Int))) <| cond (decide (((v1 - (v0.1.size : Int)) - (v0.2.size : Int)) < 0)) (some (-1)) (some ((v1 - (v0.1.size : Int)) - (v0.2.size : Int))))
theorem c_laws_szTag {r : Int} (v0 : Tag) (v1 : Int) (H : p_laws_szTag v0 v1 = some r) : Fn' prog 97 #[.agg #[.string (v0.1), .string (v0.2)], .int .i64 (v1)] [] [] (ι := Unit) (fun _ => .int .i64 (r)) (fun _ => []) (fun _ => []) := by
 refine cof (args := [_, _]) func97 ntmps97 fun c => ?_
 unfold p_laws_szTag at H
 refine sr (f1 (cC (t := 90) rfl) fun g1 => (aH (v := .int .i64 (0)) rfl (nl (sr (aF rfl (aG (cB fa90_0 rfl rfl) (aI (bI ty9 rfl aB rfl) (aG (p_slen dV rfl) (gdo H fun h2 H => (aG (cN rfl rfl h2) ?_))))))))))
 refine aH rfl (nl (aD (sr (aF rfl (aG (cM rfl rfl) (nl (cH H rfl (fun h3 H => ?_) (fun h3 H => ?_))))))))
 ·refine sr (aH (v := .int .i64 (-1)) rfl (nl (bQ (rT (?_)))))
  obtain rfl := si H
  exact bk
 ·refine bH (nT (sr (aF rfl (aG (cB fa90_1 rfl rfl) (aI (bI ty9 rfl aB rfl) (aG (p_slen dV rfl) (gdo H fun h4 H => (aG (cN rfl rfl h4) (aH rfl (nl ?_))))))))))
  refine aD (sr (aF rfl (aG (cM rfl rfl) (nl (cH H rfl (fun h5 H => ?_) (fun h5 H => ?_))))))
  ·refine sr (aH (v := .int .i64 (-1)) rfl (nl (bQ (rT (?_)))))
   obtain rfl := si H
   exact bk
  ·refine bH (nT (sr (aF rfl (aH rfl (nl ?_)))))
   obtain rfl := si H
   exact bQ bk
noncomputable def p_laws_szTagS_b0 (v0 : (List Tag)) (Q7 : Int × Int) : Option ((Int × Int) ⊕ (Int ⊕ Int)) := cond (decide (Q7.2 < (v0.length : Int))) (gd (ix Q7.2 v0.length) <| bd (p_laws_szTag (nth v0 Q7.2.toNat) Q7.1) fun r17 => cond (decide (r17 < 0)) (some (.inr (.inr (-1)))) (gd (I64 (Q7.2 + 1)) <| some (.inl (r17, Q7.2 + 1)))) (some (.inr (.inl Q7.1)))
noncomputable def p_laws_szTagS (v0 : (List Tag)) (v1 : Int) : Option (Int) := gd (I64 (v1 - (v0.length : Int))) <| cond (decide ((v1 - (v0.length : Int)) < 0)) (some (-1)) (bd (lp (p_laws_szTagS_b0 v0) (v1 - (v0.length : Int), 0)) <| sw (fun e21 => some e21) (fun q => some q))
theorem c_laws_szTagS {r : Int} (v0 : (List Tag)) (x_v0 : Option Addr × Nat) (v1 : Int) (H : p_laws_szTagS v0 v1 = some r) : Fn' prog 146 #[.slice x_v0.1 v0.length x_v0.2, .int .i64 (v1)] [imm (.slice x_v0.1 v0.length x_v0.2) v0] [] (ι := Unit) (fun _ => .int .i64 (r)) (fun _ => []) (fun _ => []) := by
 refine cof (args := [_, _]) func146 ntmps146 fun c => ?_
 unfold p_laws_szTagS at H
 refine sr (aH (v := .int .i64 (0)) rfl (nl (sr (aF rfl (aF rfl (aG (bS 90 dG rfl) (gdo H fun h1 H => (aG (cN rfl rfl h1) (aH rfl (nl (aD (sr ?_))))))))))))
 refine aF rfl (aG (cM rfl rfl) (nl (cH H rfl (fun h2 H => ?_) (fun h2 H => ?_))))
 ·refine sr (aH (v := .int .i64 (-1)) rfl (nl (bQ (rT (?_)))))
  obtain rfl := si H
  exact bk
 ·refine bH (nT (aD (sr (aH (v := .int .i64 (0)) rfl (nl (bdo H fun x3 hx4 H => (cY (Λ := Unit) H (fun e21 _ => [(1, .int .i64 (e21))]) (fun _ _ => []) ?_ ?_)))))))
  ·refine aQ (dA hx4 () (fun Q7 _ => [(0, .slice x_v0.1 v0.length x_v0.2), (1, .int .i64 (Q7.1)), (5, .int .i64 (Q7.2))]) (fun _ _ => []) bK ?_)
   rintro _ Q7 z8 t10 H1 hi11 hb12
   unfold p_laws_szTagS_b0 at H1
   refine aD (sr (aF rfl (aF rfl (aG (bS 90 dG rfl) (aG (cM rfl rfl) (nl (cH H1 rfl (fun h15 H1 => ?_) (fun h15 H1 => ?_))))))))
   ·refine bH (nT (aD (aQ (sr (aF rfl (aF rfl (gdo H1 fun h16 H1 => (aI (bW dG ty90 rfl rfl h16 rfl (aN (aL aR))) (aI (v := .agg #[.string ((nth v0 Q7.2.toNat).1), .string ((nth v0 Q7.2.toNat).2)]) (cA (i := Q7.2.toNat) ty90 rfl (aN (aL aR)) h16.lt) (aF rfl ?_))))))))))
    refine bdo H1 fun r17 h18 H1 => (aI (bN (c_laws_szTag (nth v0 Q7.2.toNat) Q7.1 h18) rfl aO) (aH rfl (nl (sr (aF rfl (aG (cM rfl rfl) (nl (cH H1 rfl (fun h19 H1 => ?_) (fun h19 H1 => ?_)))))))))
    ·refine sr (aH (v := .int .i64 (-1)) rfl (nl (bQ (rB (rT (rT (rB (rT (rT (?_))))))))))
     obtain rfl := hb12 _ (sm H1)
     replace H := sw.r H
     obtain rfl := si H
     exact bk
    ·exact bH (nB (nT (aP (aF rfl (gdo H1 fun h20 H1 => (aG (bR rfl rfl h20) (aH rfl (aJ (nLI () (hi11 _ (sm H1)) bK)))))))))
   ·exact cW (xT (xT (xE (nMI () (hb12 _ (sm H1)) bK))))
  ·rintro e21 y9 H
   refine nT (sr (aF rfl (aH rfl (nl ?_))))
   obtain rfl := si H
   exact bQ bk
noncomputable def p_laws_szTagSS_b0 (v0 : (List (List Tag))) (Q8 : Int × Int) : Option ((Int × Int) ⊕ (Int ⊕ Int)) := cond (decide (Q8.2 < (v0.length : Int))) (gd (ix Q8.2 v0.length) <| bd (p_laws_szTagS (nth v0 Q8.2.toNat) Q8.1) fun r18 => cond (decide (r18 < 0)) (some (.inr (.inr (-1)))) (gd (I64 (Q8.2 + 1)) <| some (.inl (r18, Q8.2 + 1)))) (some (.inr (.inl Q8.1)))
noncomputable def p_laws_szTagSS (v0 : (List (List Tag))) (v1 : Int) : Option (Int) := gd (I64 (v1 - (v0.length : Int))) <| cond (decide ((v1 - (v0.length : Int)) < 0)) (some (-1)) (bd (lp (p_laws_szTagSS_b0 v0) (v1 - (v0.length : Int), 0)) <| sw (fun e22 => some e22) (fun q => some q))
theorem c_laws_szTagSS {r : Int} (v0 : (List (List Tag))) (x_v0 : Option Addr × Nat) (v1 : Int) (H : p_laws_szTagSS v0 v1 = some r) : Fn' prog 94 #[.slice x_v0.1 v0.length x_v0.2, .int .i64 (v1)] [imm (.slice x_v0.1 v0.length x_v0.2) v0] [] (ι := Unit) (fun _ => .int .i64 (r)) (fun _ => []) (fun _ => []) := by
 refine cof (args := [_, _]) func94 ntmps94 fun c => ?_
 unfold p_laws_szTagSS at H
 refine bM aR fun X1 => (sr (aH (v := .int .i64 (0)) rfl (nl (sr (aF rfl (aF rfl (aG (bS 193 dH rfl) (gdo H fun h2 H => (aG (cN rfl rfl h2) (aH rfl (nl ?_)))))))))))
 refine aD (sr (aF rfl (aG (cM rfl rfl) (nl (cH H rfl (fun h3 H => ?_) (fun h3 H => ?_))))))
 ·refine sr (aH (v := .int .i64 (-1)) rfl (nl (bQ (rT (?_)))))
  obtain rfl := si H
  exact bk
 ·refine bH (nT (aD (sr (aH (v := .int .i64 (0)) rfl (nl (bdo H fun x4 hx5 H => (cY (Λ := Unit) H (fun e22 _ => [(1, .int .i64 (e22))]) (fun _ _ => []) ?_ ?_)))))))
  ·refine aQ (dA hx5 () (fun Q8 _ => [(0, .slice x_v0.1 v0.length x_v0.2), (1, .int .i64 (Q8.1)), (5, .int .i64 (Q8.2))]) (fun _ _ => []) bK ?_)
   rintro _ Q8 z9 t11 H1 hi12 hb13
   unfold p_laws_szTagSS_b0 at H1
   refine aD (sr (aF rfl (aF rfl (aG (bS 193 dH rfl) (aG (cM rfl rfl) (nl (cH H1 rfl (fun h16 H1 => ?_) (fun h16 H1 => ?_))))))))
   ·refine bH (nT (aD (aQ (sr (aF rfl (aF rfl (gdo H1 fun h17 H1 => (aI (bW dH ty193 rfl rfl h17 rfl (aL (aT aR))) (aI (bZ (i := Q8.2.toNat) (j := 0) ty193 rfl (aL (aT aR)) h17.lt rfl) (aF rfl ?_))))))))))
    refine bdo H1 fun r18 h19 H1 => (aI (bN (c_laws_szTagS (nth v0 Q8.2.toNat) ((X1 Q8.2.toNat).1, (X1 Q8.2.toNat).2.1) Q8.1 h19) rfl (aC (aL (aS (aW aR h17.lt))) aO)) (aH rfl (nl (sr (aF rfl (aG (cM rfl rfl) (nl (cH H1 rfl (fun h20 H1 => ?_) (fun h20 H1 => ?_)))))))))
    ·refine sr (aH (v := .int .i64 (-1)) rfl (nl (bQ (rB (rT (rT (rB (rT (rT (?_))))))))))
     obtain rfl := hb13 _ (sm H1)
     replace H := sw.r H
     obtain rfl := si H
     exact bk
    ·exact bH (nB (nT (aP (aF rfl (gdo H1 fun h21 H1 => (aG (bR rfl rfl h21) (aH rfl (aJ (nLI () (hi12 _ (sm H1)) bK)))))))))
   ·exact cW (xT (xT (xE (nMI () (hb13 _ (sm H1)) bK))))
  ·rintro e22 y10 H
   refine nT (sr (aF rfl (aH rfl (nl ?_))))
   obtain rfl := si H
   exact bQ bk
noncomputable def p_laws_szIntS (v0 : (List Int)) (v1 : Int) : Option (Int) := gd (I64 (v1 - (v0.length : Int))) <| cond (decide ((v1 - (v0.length : Int)) < 0)) (some (-1)) (some (v1 - (v0.length : Int)))
theorem c_laws_szIntS {r : Int} (v0 : (List Int)) (x_v0 : Option Addr × Nat) (v1 : Int) (H : p_laws_szIntS v0 v1 = some r) : Fn' prog 148 #[.slice x_v0.1 v0.length x_v0.2, .int .i64 (v1)] [imm (.slice x_v0.1 v0.length x_v0.2) v0] [] (ι := Unit) (fun _ => .int .i64 (r)) (fun _ => []) (fun _ => []) := by
 refine cof (args := [_, _]) func148 ntmps148 fun c => ?_
 unfold p_laws_szIntS at H
 refine sr (aH (v := .int .i64 (0)) rfl (nl (sr (aF rfl (aF rfl (aG (bS 3 dT rfl) (gdo H fun h1 H => (aG (cN rfl rfl h1) (aH rfl (nl (aD (sr ?_))))))))))))
 refine aF rfl (aG (cM rfl rfl) (nl (cH H rfl (fun h2 H => ?_) (fun h2 H => ?_))))
 ·refine sr (aH (v := .int .i64 (-1)) rfl (nl (bQ (rT (?_)))))
  obtain rfl := si H
  exact bk
 ·refine bH (nT (sr (aF rfl (aH rfl (nl ?_)))))
  obtain rfl := si H
  exact bQ bk
noncomputable def p_laws_szPost (v0 : Post) (v1 : Int) : Option (Int) := bd (p_laws_szTag v0.1 v1) fun r2 => cond (decide (r2 < 0)) (some (-1)) (bd (p_laws_szIntS v0.2 r2) fun r5 => cond (decide (r5 < 0)) (some (-1)) (some r5))
theorem c_laws_szPost {r : Int} (v0 : Post) (x_v0 : (Unit × Unit) × (Option Addr × Nat)) (v1 : Int) (H : p_laws_szPost v0 v1 = some r) : Fn' prog 147 #[.agg #[.string (v0.1.1), .string (v0.1.2), .slice x_v0.2.1 v0.2.length x_v0.2.2], .int .i64 (v1)] [imm (.slice x_v0.2.1 v0.2.length x_v0.2.2) v0.2] [] (ι := Unit) (fun _ => .int .i64 (r)) (fun _ => []) (fun _ => []) := by
 refine cof (args := [_, _]) func147 ntmps147 fun c => ?_
 unfold p_laws_szPost at H
 refine sr (f1 (cC (t := 196) rfl) fun g1 => (aH (v := .int .i64 (0)) rfl (nl (sr (aG (cB fa196_0 rfl rfl) (aI (v := .agg #[.string (v0.1.1), .string (v0.1.2)]) (q_ldbP [.string (v0.1.1), .string (v0.1.2)] ty90 rfl aB rfl rfl) (aF rfl (bdo H fun r2 h3 H => (aI (bN (c_laws_szTag v0.1 v1 h3) rfl aO) (aH rfl (nl ?_)))))))))))
 refine aD (sr (aF rfl (aG (cM rfl rfl) (nl (cH H rfl (fun h4 H => ?_) (fun h4 H => ?_))))))
 ·refine sr (aH (v := .int .i64 (-1)) rfl (nl (bQ (rT (?_)))))
  obtain rfl := si H
  exact bk
 ·refine bH (nT (sr (aG (cB fa196_1 rfl rfl) (aI (bI ty69 rfl aB rfl) (aF rfl (bdo H fun r5 h6 H => (aI (bN (c_laws_szIntS v0.2 x_v0.2 r2 h6) rfl (aC (aL aR) aO)) (aH rfl (nl (aD (sr ?_)))))))))))
  refine aF rfl (aG (cM rfl rfl) (nl (cH H rfl (fun h7 H => ?_) (fun h7 H => ?_))))
  ·refine sr (aH (v := .int .i64 (-1)) rfl (nl (bQ (rT (?_)))))
   obtain rfl := si H
   exact bk
  ·refine bH (nT (sr (aF rfl (aH rfl (nl ?_)))))
   obtain rfl := si H
   exact bQ bk
noncomputable def p_laws_szPostS_b0 (v0 : (List Post)) (Q8 : Int × Int) : Option ((Int × Int) ⊕ (Int ⊕ Int)) := cond (decide (Q8.2 < (v0.length : Int))) (gd (ix Q8.2 v0.length) <| bd (p_laws_szPost (nth v0 Q8.2.toNat) Q8.1) fun r18 => cond (decide (r18 < 0)) (some (.inr (.inr (-1)))) (gd (I64 (Q8.2 + 1)) <| some (.inl (r18, Q8.2 + 1)))) (some (.inr (.inl Q8.1)))
noncomputable def p_laws_szPostS (v0 : (List Post)) (v1 : Int) : Option (Int) := gd (I64 (v1 - (v0.length : Int))) <| cond (decide ((v1 - (v0.length : Int)) < 0)) (some (-1)) (bd (lp (p_laws_szPostS_b0 v0) (v1 - (v0.length : Int), 0)) <| sw (fun e22 => some e22) (fun q => some q))
theorem c_laws_szPostS {r : Int} (v0 : (List Post)) (x_v0 : Option Addr × Nat) (v1 : Int) (H : p_laws_szPostS v0 v1 = some r) : Fn' prog 95 #[.slice x_v0.1 v0.length x_v0.2, .int .i64 (v1)] [imm (.slice x_v0.1 v0.length x_v0.2) v0] [] (ι := Unit) (fun _ => .int .i64 (r)) (fun _ => []) (fun _ => []) := by
 refine cof (args := [_, _]) func95 ntmps95 fun c => ?_
 unfold p_laws_szPostS at H
 refine bM aR fun X1 => (sr (aH (v := .int .i64 (0)) rfl (nl (sr (aF rfl (aF rfl (aG (bS 196 dI rfl) (gdo H fun h2 H => (aG (cN rfl rfl h2) (aH rfl (nl ?_)))))))))))
 refine aD (sr (aF rfl (aG (cM rfl rfl) (nl (cH H rfl (fun h3 H => ?_) (fun h3 H => ?_))))))
 ·refine sr (aH (v := .int .i64 (-1)) rfl (nl (bQ (rT (?_)))))
  obtain rfl := si H
  exact bk
 ·refine bH (nT (aD (sr (aH (v := .int .i64 (0)) rfl (nl (bdo H fun x4 hx5 H => (cY (Λ := Unit) H (fun e22 _ => [(1, .int .i64 (e22))]) (fun _ _ => []) ?_ ?_)))))))
  ·refine aQ (dA hx5 () (fun Q8 _ => [(0, .slice x_v0.1 v0.length x_v0.2), (1, .int .i64 (Q8.1)), (5, .int .i64 (Q8.2))]) (fun _ _ => []) bK ?_)
   rintro _ Q8 z9 t11 H1 hi12 hb13
   unfold p_laws_szPostS_b0 at H1
   refine aD (sr (aF rfl (aF rfl (aG (bS 196 dI rfl) (aG (cM rfl rfl) (nl (cH H1 rfl (fun h16 H1 => ?_) (fun h16 H1 => ?_))))))))
   ·refine bH (nT (aD (aQ (sr (aF rfl (aF rfl (gdo H1 fun h17 H1 => (aI (bW dI ty196 rfl rfl h17 rfl (aL (aT aR))) (aI (v := .agg #[.string (((nth v0 Q8.2.toNat).1).1), .string (((nth v0 Q8.2.toNat).1).2), .slice (((X1 Q8.2.toNat).2).1) (((nth v0 Q8.2.toNat).2).length) (((X1 Q8.2.toNat).2).2.1)]) (cA (i := Q8.2.toNat) ty196 rfl (aL (aT aR)) h17.lt) (aF rfl ?_))))))))))
    refine bdo H1 fun r18 h19 H1 => (aI (bN (c_laws_szPost (nth v0 Q8.2.toNat) (((), ()), (((X1 Q8.2.toNat).2).1, ((X1 Q8.2.toNat).2).2.1)) Q8.1 h19) rfl (aC (aL (aS (aU (aW aR h17.lt)))) aO)) (aH rfl (nl (sr (aF rfl (aG (cM rfl rfl) (nl (cH H1 rfl (fun h20 H1 => ?_) (fun h20 H1 => ?_)))))))))
    ·refine sr (aH (v := .int .i64 (-1)) rfl (nl (bQ (rB (rT (rT (rB (rT (rT (?_))))))))))
     obtain rfl := hb13 _ (sm H1)
     replace H := sw.r H
     obtain rfl := si H
     exact bk
    ·exact bH (nB (nT (aP (aF rfl (gdo H1 fun h21 H1 => (aG (bR rfl rfl h21) (aH rfl (aJ (nLI () (hi12 _ (sm H1)) bK)))))))))
   ·exact cW (xT (xT (xE (nMI () (hb13 _ (sm H1)) bK))))
  ·rintro e22 y10 H
   refine nT (sr (aF rfl (aH rfl (nl ?_))))
   obtain rfl := si H
   exact bQ bk
noncomputable def p_laws_szIndex (v0 : Index) (v1 : Int) : Option (Int) := bd (p_laws_szTagSS v0.1 v1) fun r4 => cond (decide (r4 < 0)) (some (-1)) (bd (p_laws_szPostS v0.2 r4) fun r7 => cond (decide (r7 < 0)) (some (-1)) (some r7))
theorem c_laws_szIndex {r : Int} (v0 : Index) (x_v0 : (Option Addr × Nat) × (Option Addr × Nat)) (v1 : Int) (H : p_laws_szIndex v0 v1 = some r) : Fn' prog 40 #[.agg #[.slice x_v0.1.1 v0.1.length x_v0.1.2, .slice x_v0.2.1 v0.2.length x_v0.2.2], .int .i64 (v1)] [imm (.slice x_v0.1.1 v0.1.length x_v0.1.2) v0.1, imm (.slice x_v0.2.1 v0.2.length x_v0.2.2) v0.2] [] (ι := Unit) (fun _ => .int .i64 (r)) (fun _ => []) (fun _ => []) := by
 refine cof (args := [_, _]) func40 ntmps40 fun c => ?_
 unfold p_laws_szIndex at H
 refine bM aR fun X1 => (bM aR.s.s fun X2 => (sr (f1 (cC (t := 25) rfl) fun g3 => (aH (v := .int .i64 (0)) rfl (nl (sr (aG (cB fa25_0 rfl rfl) (aI (bI ty22 rfl aB rfl) (aF rfl (bdo H fun r4 h5 H => ?_))))))))))
 refine aI (bN (c_laws_szTagSS v0.1 x_v0.1 v1 h5) rfl (aC (aL (aS aR.s)) aO)) (aH rfl (nl (aD (sr (aF rfl (aG (cM rfl rfl) (nl (cH H rfl (fun h6 H => ?_) (fun h6 H => ?_)))))))))
 ·refine sr (aH (v := .int .i64 (-1)) rfl (nl (bQ (rT (?_)))))
  obtain rfl := si H
  exact bk
 ·refine bH (nT (sr (aG (cB fa25_1 rfl rfl) (aI (bI ty23 rfl aB rfl) (aF rfl (bdo H fun r7 h8 H => (aI (bN (c_laws_szPostS v0.2 x_v0.2 r4 h8) rfl (aC (aL (aS aR)) aO)) (aH rfl (nl (aD (sr ?_)))))))))))
  refine aF rfl (aG (cM rfl rfl) (nl (cH H rfl (fun h9 H => ?_) (fun h9 H => ?_))))
  ·refine sr (aH (v := .int .i64 (-1)) rfl (nl (bQ (rT (?_)))))
   obtain rfl := si H
   exact bk
  ·refine bH (nT (sr (aF rfl (aH rfl (nl ?_)))))
   obtain rfl := si H
   exact bQ bk
noncomputable def p_laws_szRowS (v0 : (List Row)) (v1 : Int) : Option (Int) := gd (I64 (v1 - (v0.length : Int))) <| cond (decide ((v1 - (v0.length : Int)) < 0)) (some (-1)) (some (v1 - (v0.length : Int)))
theorem c_laws_szRowS {r : Int} (v0 : (List Row)) (x_v0 : Option Addr × Nat) (v1 : Int) (H : p_laws_szRowS v0 v1 = some r) : Fn' prog 186 #[.slice x_v0.1 v0.length x_v0.2, .int .i64 (v1)] [imm (.slice x_v0.1 v0.length x_v0.2) v0] [] (ι := Unit) (fun _ => .int .i64 (r)) (fun _ => []) (fun _ => []) := by
 refine cof (args := [_, _]) func186 ntmps186 fun c => ?_
 unfold p_laws_szRowS at H
 refine sr (aH (v := .int .i64 (0)) rfl (nl (sr (aF rfl (aF rfl (aG (bS 153 dJ rfl) (gdo H fun h1 H => (aG (cN rfl rfl h1) (aH rfl (nl (aD (sr ?_))))))))))))
 refine aF rfl (aG (cM rfl rfl) (nl (cH H rfl (fun h2 H => ?_) (fun h2 H => ?_))))
 ·refine sr (aH (v := .int .i64 (-1)) rfl (nl (bQ (rT (?_)))))
  obtain rfl := si H
  exact bk
 ·refine bH (nT (sr (aF rfl (aH rfl (nl ?_)))))
  obtain rfl := si H
  exact bQ bk
noncomputable def p_laws_szRowSS_b0 (v0 : (List (List Row))) (Q8 : Int × Int) : Option ((Int × Int) ⊕ (Int ⊕ Int)) := cond (decide (Q8.2 < (v0.length : Int))) (gd (ix Q8.2 v0.length) <| bd (p_laws_szRowS (nth v0 Q8.2.toNat) Q8.1) fun r18 => cond (decide (r18 < 0)) (some (.inr (.inr (-1)))) (gd (I64 (Q8.2 + 1)) <| some (.inl (r18, Q8.2 + 1)))) (some (.inr (.inl Q8.1)))
noncomputable def p_laws_szRowSS (v0 : (List (List Row))) (v1 : Int) : Option (Int) := gd (I64 (v1 - (v0.length : Int))) <| cond (decide ((v1 - (v0.length : Int)) < 0)) (some (-1)) (bd (lp (p_laws_szRowSS_b0 v0) (v1 - (v0.length : Int), 0)) <| sw (fun e22 => some e22) (fun q => some q))
theorem c_laws_szRowSS {r : Int} (v0 : (List (List Row))) (x_v0 : Option Addr × Nat) (v1 : Int) (H : p_laws_szRowSS v0 v1 = some r) : Fn' prog 149 #[.slice x_v0.1 v0.length x_v0.2, .int .i64 (v1)] [imm (.slice x_v0.1 v0.length x_v0.2) v0] [] (ι := Unit) (fun _ => .int .i64 (r)) (fun _ => []) (fun _ => []) := by
 refine cof (args := [_, _]) func149 ntmps149 fun c => ?_
 unfold p_laws_szRowSS at H
 refine bM aR fun X1 => (sr (aH (v := .int .i64 (0)) rfl (nl (sr (aF rfl (aF rfl (aG (bS 234 dF rfl) (gdo H fun h2 H => (aG (cN rfl rfl h2) (aH rfl (nl ?_)))))))))))
 refine aD (sr (aF rfl (aG (cM rfl rfl) (nl (cH H rfl (fun h3 H => ?_) (fun h3 H => ?_))))))
 ·refine sr (aH (v := .int .i64 (-1)) rfl (nl (bQ (rT (?_)))))
  obtain rfl := si H
  exact bk
 ·refine bH (nT (aD (sr (aH (v := .int .i64 (0)) rfl (nl (bdo H fun x4 hx5 H => (cY (Λ := Unit) H (fun e22 _ => [(1, .int .i64 (e22))]) (fun _ _ => []) ?_ ?_)))))))
  ·refine aQ (dA hx5 () (fun Q8 _ => [(0, .slice x_v0.1 v0.length x_v0.2), (1, .int .i64 (Q8.1)), (5, .int .i64 (Q8.2))]) (fun _ _ => []) bK ?_)
   rintro _ Q8 z9 t11 H1 hi12 hb13
   unfold p_laws_szRowSS_b0 at H1
   refine aD (sr (aF rfl (aF rfl (aG (bS 234 dF rfl) (aG (cM rfl rfl) (nl (cH H1 rfl (fun h16 H1 => ?_) (fun h16 H1 => ?_))))))))
   ·refine bH (nT (aD (aQ (sr (aF rfl (aF rfl (gdo H1 fun h17 H1 => (aI (bW dF ty234 rfl rfl h17 rfl (aL (aT aR))) (aI (bZ (i := Q8.2.toNat) (j := 0) ty234 rfl (aL (aT aR)) h17.lt rfl) (aF rfl ?_))))))))))
    refine bdo H1 fun r18 h19 H1 => (aI (bN (c_laws_szRowS (nth v0 Q8.2.toNat) ((X1 Q8.2.toNat).1, (X1 Q8.2.toNat).2.1) Q8.1 h19) rfl (aC (aL (aS (aW aR h17.lt))) aO)) (aH rfl (nl (sr (aF rfl (aG (cM rfl rfl) (nl (cH H1 rfl (fun h20 H1 => ?_) (fun h20 H1 => ?_)))))))))
    ·refine sr (aH (v := .int .i64 (-1)) rfl (nl (bQ (rB (rT (rT (rB (rT (rT (?_))))))))))
     obtain rfl := hb13 _ (sm H1)
     replace H := sw.r H
     obtain rfl := si H
     exact bk
    ·exact bH (nB (nT (aP (aF rfl (gdo H1 fun h21 H1 => (aG (bR rfl rfl h21) (aH rfl (aJ (nLI () (hi12 _ (sm H1)) bK)))))))))
   ·exact cW (xT (xT (xE (nMI () (hb13 _ (sm H1)) bK))))
  ·rintro e22 y10 H
   refine nT (sr (aF rfl (aH rfl (nl ?_))))
   obtain rfl := si H
   exact bQ bk
noncomputable def p_laws_szPart (v0 : Part) (v1 : Int) : Option (Int) := bd (p_laws_szIntS v0.1 v1) fun r3 => cond (decide (r3 < 0)) (some (-1)) (bd (p_laws_szRowSS v0.2 r3) fun r6 => cond (decide (r6 < 0)) (some (-1)) (some r6))
theorem c_laws_szPart {r : Int} (v0 : Part) (x_v0 : (Option Addr × Nat) × (Option Addr × Nat)) (v1 : Int) (H : p_laws_szPart v0 v1 = some r) : Fn' prog 96 #[.agg #[.slice x_v0.1.1 v0.1.length x_v0.1.2, .slice x_v0.2.1 v0.2.length x_v0.2.2], .int .i64 (v1)] [imm (.slice x_v0.1.1 v0.1.length x_v0.1.2) v0.1, imm (.slice x_v0.2.1 v0.2.length x_v0.2.2) v0.2] [] (ι := Unit) (fun _ => .int .i64 (r)) (fun _ => []) (fun _ => []) := by
 refine cof (args := [_, _]) func96 ntmps96 fun c => ?_
 unfold p_laws_szPart at H
 refine bM aR.s fun X1 => (sr (f1 (cC (t := 146) rfl) fun g2 => (aH (v := .int .i64 (0)) rfl (nl (sr (aG (cB fa146_0 rfl rfl) (aI (bI ty69 rfl aB rfl) (aF rfl (bdo H fun r3 h4 H => (aI (bN (c_laws_szIntS v0.1 x_v0.1 v1 h4) rfl (aC (aL aR.s) aO)) ?_))))))))))
 refine aH rfl (nl (aD (sr (aF rfl (aG (cM rfl rfl) (nl (cH H rfl (fun h5 H => ?_) (fun h5 H => ?_))))))))
 ·refine sr (aH (v := .int .i64 (-1)) rfl (nl (bQ (rT (?_)))))
  obtain rfl := si H
  exact bk
 ·refine bH (nT (sr (aG (cB fa146_1 rfl rfl) (aI (bI ty144 rfl aB rfl) (aF rfl (bdo H fun r6 h7 H => (aI (bN (c_laws_szRowSS v0.2 x_v0.2 r3 h7) rfl (aC (aL (aS aR)) aO)) (aH rfl (nl (aD (sr ?_)))))))))))
  refine aF rfl (aG (cM rfl rfl) (nl (cH H rfl (fun h8 H => ?_) (fun h8 H => ?_))))
  ·refine sr (aH (v := .int .i64 (-1)) rfl (nl (bQ (rT (?_)))))
   obtain rfl := si H
   exact bk
  ·refine bH (nT (sr (aF rfl (aH rfl (nl ?_)))))
   obtain rfl := si H
   exact bQ bk
noncomputable def p_laws_szPartS_b0 (v0 : (List Part)) (Q8 : Int × Int) : Option ((Int × Int) ⊕ (Int ⊕ Int)) := cond (decide (Q8.2 < (v0.length : Int))) (gd (ix Q8.2 v0.length) <| bd (p_laws_szPart (nth v0 Q8.2.toNat) Q8.1) fun r18 => cond (decide (r18 < 0)) (some (.inr (.inr (-1)))) (gd (I64 (Q8.2 + 1)) <| some (.inl (r18, Q8.2 + 1)))) (some (.inr (.inl Q8.1)))
noncomputable def p_laws_szPartS (v0 : (List Part)) (v1 : Int) : Option (Int) := gd (I64 (v1 - (v0.length : Int))) <| cond (decide ((v1 - (v0.length : Int)) < 0)) (some (-1)) (bd (lp (p_laws_szPartS_b0 v0) (v1 - (v0.length : Int), 0)) <| sw (fun e22 => some e22) (fun q => some q))
theorem c_laws_szPartS {r : Int} (v0 : (List Part)) (x_v0 : Option Addr × Nat) (v1 : Int) (H : p_laws_szPartS v0 v1 = some r) : Fn' prog 41 #[.slice x_v0.1 v0.length x_v0.2, .int .i64 (v1)] [imm (.slice x_v0.1 v0.length x_v0.2) v0] [] (ι := Unit) (fun _ => .int .i64 (r)) (fun _ => []) (fun _ => []) := by
 refine cof (args := [_, _]) func41 ntmps41 fun c => ?_
 unfold p_laws_szPartS at H
 refine bM aR fun X1 => (sr (aH (v := .int .i64 (0)) rfl (nl (sr (aF rfl (aF rfl (aG (bS 146 dK rfl) (gdo H fun h2 H => (aG (cN rfl rfl h2) (aH rfl (nl ?_)))))))))))
 refine aD (sr (aF rfl (aG (cM rfl rfl) (nl (cH H rfl (fun h3 H => ?_) (fun h3 H => ?_))))))
 ·refine sr (aH (v := .int .i64 (-1)) rfl (nl (bQ (rT (?_)))))
  obtain rfl := si H
  exact bk
 ·refine bH (nT (aD (sr (aH (v := .int .i64 (0)) rfl (nl (bdo H fun x4 hx5 H => (cY (Λ := Unit) H (fun e22 _ => [(1, .int .i64 (e22))]) (fun _ _ => []) ?_ ?_)))))))
  ·refine aQ (dA hx5 () (fun Q8 _ => [(0, .slice x_v0.1 v0.length x_v0.2), (1, .int .i64 (Q8.1)), (5, .int .i64 (Q8.2))]) (fun _ _ => []) bK ?_)
   rintro _ Q8 z9 t11 H1 hi12 hb13
   unfold p_laws_szPartS_b0 at H1
   refine aD (sr (aF rfl (aF rfl (aG (bS 146 dK rfl) (aG (cM rfl rfl) (nl (cH H1 rfl (fun h16 H1 => ?_) (fun h16 H1 => ?_))))))))
   ·refine bH (nT (aD (aQ (sr (aF rfl (aF rfl (gdo H1 fun h17 H1 => (aI (bW dK ty146 rfl rfl h17 rfl (aL (aT aR))) (aI (v := .agg #[.slice (((X1 Q8.2.toNat).1).1) (((nth v0 Q8.2.toNat).1).length) (((X1 Q8.2.toNat).1).2.1), .slice (((X1 Q8.2.toNat).2).1) (((nth v0 Q8.2.toNat).2).length) (((X1 Q8.2.toNat).2).2.1)]) (cA (i := Q8.2.toNat) ty146 rfl (aL (aT aR)) h17.lt) (aF rfl ?_))))))))))
    refine bdo H1 fun r18 h19 H1 => (aI (bN (c_laws_szPart (nth v0 Q8.2.toNat) ((((X1 Q8.2.toNat).1).1, ((X1 Q8.2.toNat).1).2.1), (((X1 Q8.2.toNat).2).1, ((X1 Q8.2.toNat).2).2.1)) Q8.1 h19) rfl (aC (aL (aS (aV (aW aR h17.lt)))) (aC (aL (aS (aU (aW aR h17.lt)))) aO))) (aH rfl (nl (sr (aF rfl (aG (cM rfl rfl) (nl (cH H1 rfl (fun h20 H1 => ?_) (fun h20 H1 => ?_)))))))))
    ·refine sr (aH (v := .int .i64 (-1)) rfl (nl (bQ (rB (rT (rT (rB (rT (rT (?_))))))))))
     obtain rfl := hb13 _ (sm H1)
     replace H := sw.r H
     obtain rfl := si H
     exact bk
    ·exact bH (nB (nT (aP (aF rfl (gdo H1 fun h21 H1 => (aG (bR rfl rfl h21) (aH rfl (aJ (nLI () (hi12 _ (sm H1)) bK)))))))))
   ·exact cW (xT (xT (xE (nMI () (hb13 _ (sm H1)) bK))))
  ·rintro e22 y10 H
   refine nT (sr (aF rfl (aH rfl (nl ?_))))
   obtain rfl := si H
   exact bQ bk
noncomputable def p_laws_szSampleS (v0 : (List Sample)) (v1 : Int) : Option (Int) := gd (I64 (v1 - (v0.length : Int))) <| cond (decide ((v1 - (v0.length : Int)) < 0)) (some (-1)) (some (v1 - (v0.length : Int)))
theorem c_laws_szSampleS {r : Int} (v0 : (List Sample)) (x_v0 : Option Addr × Nat) (v1 : Int) (H : p_laws_szSampleS v0 v1 = some r) : Fn' prog 42 #[.slice x_v0.1 v0.length x_v0.2, .int .i64 (v1)] [imm (.slice x_v0.1 v0.length x_v0.2) v0] [] (ι := Unit) (fun _ => .int .i64 (r)) (fun _ => []) (fun _ => []) := by
 refine cof (args := [_, _]) func42 ntmps42 fun c => ?_
 unfold p_laws_szSampleS at H
 refine sr (aH (v := .int .i64 (0)) rfl (nl (sr (aF rfl (aF rfl (aG (bS 155 underlying27 rfl) (gdo H fun h1 H => (aG (cN rfl rfl h1) (aH rfl (nl (aD (sr ?_))))))))))))
 refine aF rfl (aG (cM rfl rfl) (nl (cH H rfl (fun h2 H => ?_) (fun h2 H => ?_))))
 ·refine sr (aH (v := .int .i64 (-1)) rfl (nl (bQ (rT (?_)))))
  obtain rfl := si H
  exact bk
 ·refine bH (nT (sr (aF rfl (aH rfl (nl ?_)))))
  obtain rfl := si H
  exact bQ bk
noncomputable def p_laws_szStore (v0 : Store) (v1 : Int) : Option (Int) := bd (p_laws_szIndex v0.1 v1) fun r5 => cond (decide (r5 < 0)) (some (-1)) (bd (p_laws_szPartS v0.2.1 r5) fun r8 => cond (decide (r8 < 0)) (some (-1)) (bd (p_laws_szSampleS v0.2.2 r8) fun r11 => cond (decide (r11 < 0)) (some (-1)) (some r11)))
theorem c_laws_szStore {r : Int} (v0 : Store) (x_v0 : ((Option Addr × Nat) × (Option Addr × Nat)) × (Option Addr × Nat) × (Option Addr × Nat)) (v1 : Int) (H : p_laws_szStore v0 v1 = some r) : Fn' prog 8 #[.agg #[.slice x_v0.1.1.1 v0.1.1.length x_v0.1.1.2, .slice x_v0.1.2.1 v0.1.2.length x_v0.1.2.2, .slice x_v0.2.1.1 v0.2.1.length x_v0.2.1.2, .slice x_v0.2.2.1 v0.2.2.length x_v0.2.2.2], .int .i64 (v1)] [imm (.slice x_v0.1.1.1 v0.1.1.length x_v0.1.1.2) v0.1.1, imm (.slice x_v0.1.2.1 v0.1.2.length x_v0.1.2.2) v0.1.2, imm (.slice x_v0.2.1.1 v0.2.1.length x_v0.2.1.2) v0.2.1, imm (.slice x_v0.2.2.1 v0.2.2.length x_v0.2.2.2) v0.2.2] [] (ι := Unit) (fun _ => .int .i64 (r)) (fun _ => []) (fun _ => []) := by
 refine cof (args := [_, _]) func8 ntmps8 fun c => ?_
 unfold p_laws_szStore at H
 refine bM aR fun X1 => (bM aR.s.s fun X2 => (bM aR.s.s.s.s fun X3 => (sr (f1 (cC (t := 29) rfl) fun g4 => (aH (v := .int .i64 (0)) rfl (nl (sr (aG (cB fa29_0 rfl rfl) (aI (v := .agg #[.slice x_v0.1.1.1 v0.1.1.length x_v0.1.1.2, .slice x_v0.1.2.1 v0.1.2.length x_v0.1.2.2]) (q_ldbP [.slice x_v0.1.1.1 v0.1.1.length x_v0.1.1.2, .slice x_v0.1.2.1 v0.1.2.length x_v0.1.2.2] ty25 rfl aB rfl rfl) (aF rfl ?_))))))))))
 refine bdo H fun r5 h6 H => (aI (bN (c_laws_szIndex v0.1 x_v0.1 v1 h6) rfl (aC (aL (aS aR.s.s)) (aC (aL (aS aR.s)) aO))) (aH rfl (nl (aD (sr (aF rfl (aG (cM rfl rfl) (nl (cH H rfl (fun h7 H => ?_) (fun h7 H => ?_))))))))))
 ·refine sr (aH (v := .int .i64 (-1)) rfl (nl (bQ (rT (?_)))))
  obtain rfl := si H
  exact bk
 ·refine bH (nT (sr (aG (cB fa29_1 rfl rfl) (aI (bI ty26 rfl aB rfl) (aF rfl (bdo H fun r8 h9 H => (aI (bN (c_laws_szPartS v0.2.1 x_v0.2.1 r5 h9) rfl (aC (aL (aS aR)) aO)) (aH rfl (nl (aD (sr ?_)))))))))))
  refine aF rfl (aG (cM rfl rfl) (nl (cH H rfl (fun h10 H => ?_) (fun h10 H => ?_))))
  ·refine sr (aH (v := .int .i64 (-1)) rfl (nl (bQ (rT (?_)))))
   obtain rfl := si H
   exact bk
  ·refine bH (nT (sr (aG (cB fa29_2 rfl rfl) (aI (bI ty27 rfl aB rfl) (aF rfl (bdo H fun r11 h12 H => (aI (bN (c_laws_szSampleS v0.2.2 x_v0.2.2 r8 h12) rfl (aC (aL aR.s.s.s.s.s.s) aO)) (aH rfl (nl (aD (sr ?_)))))))))))
   refine aF rfl (aG (cM rfl rfl) (nl (cH H rfl (fun h13 H => ?_) (fun h13 H => ?_))))
   ·refine sr (aH (v := .int .i64 (-1)) rfl (nl (bQ (rT (?_)))))
    obtain rfl := si H
    exact bk
   ·refine bH (nT (sr (aF rfl (aH rfl (nl ?_)))))
    obtain rfl := si H
    exact bQ bk
noncomputable def p_laws_szCond (v0 : Cond) (v1 : Int) : Option (Int) := bd (p_laws_szTag v0.1 v1) fun r2 => cond (decide (r2 < 0)) (some (-1)) (some r2)
theorem c_laws_szCond {r : Int} (v0 : Cond) (v1 : Int) (H : p_laws_szCond v0 v1 = some r) : Fn' prog 43 #[.agg #[.string (v0.1.1), .string (v0.1.2), .bool (v0.2)], .int .i64 (v1)] [] [] (ι := Unit) (fun _ => .int .i64 (r)) (fun _ => []) (fun _ => []) := by
 refine cof (args := [_, _]) func43 ntmps43 fun c => ?_
 unfold p_laws_szCond at H
 refine sr (f1 (cC (t := 92) rfl) fun g1 => (aH (v := .int .i64 (0)) rfl (nl (sr (aG (cB fa92_0 rfl rfl) (aI (v := .agg #[.string (v0.1.1), .string (v0.1.2)]) (q_ldbP [.string (v0.1.1), .string (v0.1.2)] ty90 rfl aB rfl rfl) (aF rfl (bdo H fun r2 h3 H => (aI (bN (c_laws_szTag v0.1 v1 h3) rfl aO) (aH rfl (nl ?_)))))))))))
 refine aD (sr (aF rfl (aG (cM rfl rfl) (nl (cH H rfl (fun h4 H => ?_) (fun h4 H => ?_))))))
 ·refine sr (aH (v := .int .i64 (-1)) rfl (nl (bQ (rT (?_)))))
  obtain rfl := si H
  exact bk
 ·refine bH (nT (sr (aF rfl (aH rfl (nl ?_)))))
  obtain rfl := si H
  exact bQ bk
noncomputable def p_laws_szCondS_b0 (v0 : (List Cond)) (Q7 : Int × Int) : Option ((Int × Int) ⊕ (Int ⊕ Int)) := cond (decide (Q7.2 < (v0.length : Int))) (gd (ix Q7.2 v0.length) <| bd (p_laws_szCond (nth v0 Q7.2.toNat) Q7.1) fun r17 => cond (decide (r17 < 0)) (some (.inr (.inr (-1)))) (gd (I64 (Q7.2 + 1)) <| some (.inl (r17, Q7.2 + 1)))) (some (.inr (.inl Q7.1)))
noncomputable def p_laws_szCondS (v0 : (List Cond)) (v1 : Int) : Option (Int) := gd (I64 (v1 - (v0.length : Int))) <| cond (decide ((v1 - (v0.length : Int)) < 0)) (some (-1)) (bd (lp (p_laws_szCondS_b0 v0) (v1 - (v0.length : Int), 0)) <| sw (fun e21 => some e21) (fun q => some q))
theorem c_laws_szCondS {r : Int} (v0 : (List Cond)) (x_v0 : Option Addr × Nat) (v1 : Int) (H : p_laws_szCondS v0 v1 = some r) : Fn' prog 9 #[.slice x_v0.1 v0.length x_v0.2, .int .i64 (v1)] [imm (.slice x_v0.1 v0.length x_v0.2) v0] [] (ι := Unit) (fun _ => .int .i64 (r)) (fun _ => []) (fun _ => []) := by
 refine cof (args := [_, _]) func9 ntmps9 fun c => ?_
 unfold p_laws_szCondS at H
 refine sr (aH (v := .int .i64 (0)) rfl (nl (sr (aF rfl (aF rfl (aG (bS 92 dL rfl) (gdo H fun h1 H => (aG (cN rfl rfl h1) (aH rfl (nl (aD (sr ?_))))))))))))
 refine aF rfl (aG (cM rfl rfl) (nl (cH H rfl (fun h2 H => ?_) (fun h2 H => ?_))))
 ·refine sr (aH (v := .int .i64 (-1)) rfl (nl (bQ (rT (?_)))))
  obtain rfl := si H
  exact bk
 ·refine bH (nT (aD (sr (aH (v := .int .i64 (0)) rfl (nl (bdo H fun x3 hx4 H => (cY (Λ := Unit) H (fun e21 _ => [(1, .int .i64 (e21))]) (fun _ _ => []) ?_ ?_)))))))
  ·refine aQ (dA hx4 () (fun Q7 _ => [(0, .slice x_v0.1 v0.length x_v0.2), (1, .int .i64 (Q7.1)), (5, .int .i64 (Q7.2))]) (fun _ _ => []) bK ?_)
   rintro _ Q7 z8 t10 H1 hi11 hb12
   unfold p_laws_szCondS_b0 at H1
   refine aD (sr (aF rfl (aF rfl (aG (bS 92 dL rfl) (aG (cM rfl rfl) (nl (cH H1 rfl (fun h15 H1 => ?_) (fun h15 H1 => ?_))))))))
   ·refine bH (nT (aD (aQ (sr (aF rfl (aF rfl (gdo H1 fun h16 H1 => (aI (bW dL ty92 rfl rfl h16 rfl (aN (aL aR))) (aI (v := .agg #[.string (((nth v0 Q7.2.toNat).1).1), .string (((nth v0 Q7.2.toNat).1).2), .bool ((nth v0 Q7.2.toNat).2)]) (cA (i := Q7.2.toNat) ty92 rfl (aN (aL aR)) h16.lt) (aF rfl ?_))))))))))
    refine bdo H1 fun r17 h18 H1 => (aI (bN (c_laws_szCond (nth v0 Q7.2.toNat) Q7.1 h18) rfl aO) (aH rfl (nl (sr (aF rfl (aG (cM rfl rfl) (nl (cH H1 rfl (fun h19 H1 => ?_) (fun h19 H1 => ?_)))))))))
    ·refine sr (aH (v := .int .i64 (-1)) rfl (nl (bQ (rB (rT (rT (rB (rT (rT (?_))))))))))
     obtain rfl := hb12 _ (sm H1)
     replace H := sw.r H
     obtain rfl := si H
     exact bk
    ·exact bH (nB (nT (aP (aF rfl (gdo H1 fun h20 H1 => (aG (bR rfl rfl h20) (aH rfl (aJ (nLI () (hi11 _ (sm H1)) bK)))))))))
   ·exact cW (xT (xT (xE (nMI () (hb12 _ (sm H1)) bK))))
  ·rintro e21 y9 H
   refine nT (sr (aF rfl (aH rfl (nl ?_))))
   obtain rfl := si H
   exact bQ bk
noncomputable def p_laws_toTag (v0 : Tag) : Option (Tag) := some v0
theorem c_laws_toTag {r : Tag} (v0 : Tag) (H : p_laws_toTag v0 = some r) : Fn' prog 106 #[.agg #[.string (v0.1), .string (v0.2)]] [] [] (ι := Unit) (fun _ => .agg #[.string (r.1), .string (r.2)]) (fun _ => []) (fun _ => []) := by
 refine cof (args := [_]) func106 ntmps106 fun c => ?_
 unfold p_laws_toTag at H
 refine sr (f1 (cC (t := 90) rfl) fun g1 => (f1 (cD ty97) fun g2 => (nl (sr (f1 (cD ty97) fun g3 => (nl (sr (aG (cB fa90_0 rfl rfl) (aI (bI ty9 rfl hs2 rfl) ?_)))))))))
 refine aG (cB fa97_0 rfl rfl) (stb (cs' := [.string (v0.1), .string (⟨#[]⟩)]) ty9 cV (nl (sr (aG (cB fa90_1 rfl rfl) (aI (bI ty9 rfl hs2 rfl) (aG (cB fa97_1 rfl rfl) (stb (cs' := [.string (v0.1), .string (v0.2)]) ty9 cV (nl (sr ?_)))))))))
 refine aI (bJ ty97 rfl aB rfl) (stb (cs' := [.string (v0.1), .string (v0.2)]) ty97 up1 (nl (bQ ?_)))
 obtain rfl := si H
 exact back1 () rfl (ResV.agg ty97 rfl hs1 rfl) rfl cK bK
noncomputable def p_laws_toTagS_b0 (v0 : (List Tag)) (Q8 : (List Tag) × Int) : Option (((List Tag) × Int) ⊕ ((List Tag))) := cond (decide (Q8.2 < (v0.length : Int))) (gd (ix Q8.2 v0.length) <| bd (p_laws_toTag (nth v0 Q8.2.toNat)) fun r18 => gd (ix Q8.2 Q8.1.length) <| gd (I64 (Q8.2 + 1)) <| some (.inl ((Q8.1.set Q8.2.toNat r18), Q8.2 + 1))) (some (.inr Q8.1))
noncomputable def p_laws_toTagS (v0 : (List Tag)) : Option ((List Tag)) := gd (many (v0.length : Int)) <| bd (lp (p_laws_toTagS_b0 v0) ((List.replicate (v0.length : Int).toNat (Zr.z0 : Tag)), 0)) fun x4 => some x4
theorem c_laws_toTagS {r : (List Tag)} (v0 : (List Tag)) (x_v0 : Option Addr × Nat) (H : p_laws_toTagS v0 = some r) : Fn' prog 151 #[.slice x_v0.1 v0.length x_v0.2] [imm (.slice x_v0.1 v0.length x_v0.2) v0] [] (ι := Option Addr × Nat) (fun x => .slice x.1 r.length x.2) (fun _ => []) (fun x => [tree (.slice x.1 r.length x.2) r]) := by
 refine cof (args := [_]) func151 ntmps151 fun c => ?_
 unfold p_laws_toTagS at H
 refine sr (aH (v := .slice none 0 0) rfl (nl (sr (aF rfl (aG (bS 90 dG rfl) (gdo H fun h3 H => (f2 (e_makeR Tag dE ty97 rfl rfl rfl h3 (by decide)) fun a1 c2 => (aH rfl (nl (aD (sr (aH (v := .int .i64 (0)) rfl (nl ?_)))))))))))))
 refine bdo H fun x4 hx5 H => (cX (ι := Unit) (fun ψ => [(3, .slice a1 x4.length c2)]) (fun ψ => [tree (.slice a1 x4.length c2) x4]) ?_ ?_)
 ·refine aQ (dA hx5 () (fun Q8 _ => [(0, .slice x_v0.1 v0.length x_v0.2), (3, .slice a1 Q8.1.length c2), (4, .int .i64 (Q8.2))]) (fun Q8 _ => [tree (.slice a1 Q8.1.length c2) Q8.1]) (.cons aA .nil) ?_)
  rintro _ Q8 z9 t11 H1 hi12 hb13
  unfold p_laws_toTagS_b0 at H1
  refine aD (sr (aF rfl (aF rfl (aG (bS 90 dG rfl) (aG (cM rfl rfl) (nl (cH H1 rfl (fun h16 H1 => ?_) (fun h16 H1 => ?_))))))))
  ·refine bH (nT (aD (aQ (aP (aF rfl (aF rfl (aF rfl (aF rfl (gdo H1 fun h17 H1 => (aI (bW dG ty90 rfl rfl h17 rfl (aN (aL aR))) ?_))))))))))
   refine aI (v := .agg #[.string ((nth v0 Q8.2.toNat).1), .string ((nth v0 Q8.2.toNat).2)]) (cA (i := Q8.2.toNat) ty90 rfl (aN (aL aR)) h17.lt) (bdo H1 fun r18 h19 H1 => (aI (bN (c_laws_toTag (nth v0 Q8.2.toNat) h19) rfl aO) (gdo H1 fun h20 H1 => (aI (bX dE ty97 rfl rfl h20 aB) (g0 (e_setT (l := Q8.1) (α := Tag) (oa := a1) Q8.2.toNat r18 ((), ()) ty97 rfl rfl rfl h20.lt (cS _) (.cons aA .nil)) (aJ (nB (nT (?_)))))))))
   refine cT aB fun hn => ?_; rw [hn]
   exact aP (aF rfl (gdo H1 fun h21 H1 => (aG (bR rfl rfl h21) (aH rfl (aJ (nLI () (hi12 _ (sm H1)) (.cons aA .nil)))))))
  ·refine cW (xT (xT (xE (?_))))
   obtain rfl := hb13 _ (sm H1)
   exact nMC () ⟨rfl, trivial⟩ bT (.cons aA .nil)
 ·intro y10
  show At _ _ [(3, .slice a1 x4.length c2)] _ [tree (.slice a1 x4.length c2) x4] _
  refine nT (sr (aF rfl (aH rfl (nl (bQ ?_)))))
  obtain rfl := si H
  exact back1 (a1, c2) rfl (ResV.tmp (v := .slice a1 x4.length c2) rfl) rfl cK (.cons aA .nil)
noncomputable def p_laws_toTagSS_b0 (v0 : (List (List Tag))) (Q9 : (List (List Tag)) × Int) : Option (((List (List Tag)) × Int) ⊕ ((List (List Tag)))) := cond (decide (Q9.2 < (v0.length : Int))) (gd (ix Q9.2 v0.length) <| bd (p_laws_toTagS (nth v0 Q9.2.toNat)) fun r19 => gd (ix Q9.2 Q9.1.length) <| gd (I64 (Q9.2 + 1)) <| some (.inl ((Q9.1.set Q9.2.toNat r19), Q9.2 + 1))) (some (.inr Q9.1))
noncomputable def p_laws_toTagSS (v0 : (List (List Tag))) : Option ((List (List Tag))) := gd (many (v0.length : Int)) <| bd (lp (p_laws_toTagSS_b0 v0) ((List.replicate (v0.length : Int).toNat (Zr.z0 : (List Tag))), 0)) fun x5 => some x5
theorem c_laws_toTagSS {r : (List (List Tag))} (v0 : (List (List Tag))) (x_v0 : Option Addr × Nat) (H : p_laws_toTagSS v0 = some r) : Fn' prog 102 #[.slice x_v0.1 v0.length x_v0.2] [imm (.slice x_v0.1 v0.length x_v0.2) v0] [] (ι := Option Addr × Nat) (fun x => .slice x.1 r.length x.2) (fun _ => []) (fun x => [tree (.slice x.1 r.length x.2) r]) := by
 refine cof (args := [_]) func102 ntmps102 fun c => ?_
 unfold p_laws_toTagSS at H
 refine bM aR fun X1 => (sr (aH (v := .slice none 0 0) rfl (nl (sr (aF rfl (aG (bS 193 dH rfl) (gdo H fun h4 H => (f2 (e_makeR (List Tag) dN ty105 rfl rfl rfl h4 (by decide)) fun a2 c3 => (aH rfl (nl (aD (sr ?_))))))))))))
 refine aH (v := .int .i64 (0)) rfl (nl (bdo H fun x5 hx6 H => (cX (ι := Unit) (fun ψ => [(3, .slice a2 x5.length c3)]) (fun ψ => [tree (.slice a2 x5.length c3) x5]) ?_ ?_)))
 ·refine aQ (dA hx6 () (fun Q9 _ => [(0, .slice x_v0.1 v0.length x_v0.2), (3, .slice a2 Q9.1.length c3), (4, .int .i64 (Q9.2))]) (fun Q9 _ => [tree (.slice a2 Q9.1.length c3) Q9.1]) (.cons aA .nil) ?_)
  rintro _ Q9 z10 t12 H1 hi13 hb14
  unfold p_laws_toTagSS_b0 at H1
  refine aD (sr (aF rfl (aF rfl (aG (bS 193 dH rfl) (aG (cM rfl rfl) (nl (cH H1 rfl (fun h17 H1 => ?_) (fun h17 H1 => ?_))))))))
  ·refine bH (nT (aD (aQ (aP (aF rfl (aF rfl (aF rfl (aF rfl (gdo H1 fun h18 H1 => (aI (bW dH ty193 rfl rfl h18 rfl (aL (aT aR))) ?_))))))))))
   refine aI (bZ (i := Q9.2.toNat) (j := 0) ty193 rfl (aL (aT aR)) h18.lt rfl) (bdo H1 fun r19 h20 H1 => (f1 (cE (c_laws_toTagS (nth v0 Q9.2.toNat) ((X1 Q9.2.toNat).1, (X1 Q9.2.toNat).2.1) h20) (fun _ => (bF bG)) rfl (aC (aL (aS (aW aR h18.lt))) aO)) fun x21 => (gdo H1 fun h22 H1 => (aI (bX dN ty105 rfl rfl h22 hs1) (g0 (e_setT (l := Q9.1) (α := (List Tag)) (oa := a2) Q9.2.toNat r19 x21 ty105 rfl rfl rfl h22.lt (cS _) (.cons dl1 (.cons aA .nil))) (aJ (nB (nT (?_)))))))))
   refine cT aB fun hn => ?_; rw [hn]
   exact aP (aF rfl (gdo H1 fun h23 H1 => (aG (bR rfl rfl h23) (aH rfl (aJ (nLI () (hi13 _ (sm H1)) (.cons aA .nil)))))))
  ·refine cW (xT (xT (xE (?_))))
   obtain rfl := hb14 _ (sm H1)
   exact nMC () ⟨rfl, trivial⟩ bT (.cons aA .nil)
 ·intro y11
  show At _ _ [(3, .slice a2 x5.length c3)] _ [tree (.slice a2 x5.length c3) x5] _
  refine nT (sr (aF rfl (aH rfl (nl (bQ ?_)))))
  obtain rfl := si H
  exact back1 (a2, c3) rfl (ResV.tmp (v := .slice a2 x5.length c3) rfl) rfl cK (.cons aA .nil)
noncomputable def p_laws_toIntS_b0 (v0 : (List Int)) (Q8 : (List Int) × Int) : Option (((List Int) × Int) ⊕ ((List Int))) := cond (decide (Q8.2 < (v0.length : Int))) (gd (ix Q8.2 v0.length) <| gd (ix Q8.2 Q8.1.length) <| gd (I64 (Q8.2 + 1)) <| some (.inl ((Q8.1.set Q8.2.toNat (nth v0 Q8.2.toNat)), Q8.2 + 1))) (some (.inr Q8.1))
noncomputable def p_laws_toIntS (v0 : (List Int)) : Option ((List Int)) := gd (many (v0.length : Int)) <| bd (lp (p_laws_toIntS_b0 v0) ((List.replicate (v0.length : Int).toNat (Zr.z0 : Int)), 0)) fun x4 => some x4
theorem c_laws_toIntS {r : (List Int)} (v0 : (List Int)) (x_v0 : Option Addr × Nat) (H : p_laws_toIntS v0 = some r) : Fn' prog 153 #[.slice x_v0.1 v0.length x_v0.2] [imm (.slice x_v0.1 v0.length x_v0.2) v0] [] (ι := Option Addr × Nat) (fun x => .slice x.1 r.length x.2) (fun _ => []) (fun x => [tree (.slice x.1 r.length x.2) r]) := by
 refine cof (args := [_]) func153 ntmps153 fun c => ?_
 unfold p_laws_toIntS at H
 refine sr (aH (v := .slice none 0 0) rfl (nl (sr (aF rfl (aG (bS 3 dT rfl) (gdo H fun h3 H => (f2 (e_makeR Int dT ty3 rfl rfl rfl h3 (by decide)) fun a1 c2 => (aH rfl (nl (aD (sr (aH (v := .int .i64 (0)) rfl (nl ?_)))))))))))))
 refine bdo H fun x4 hx5 H => (cX (ι := Unit) (fun ψ => [(3, .slice a1 x4.length c2)]) (fun ψ => [tree (.slice a1 x4.length c2) x4]) ?_ ?_)
 ·refine aQ (dA hx5 () (fun Q8 _ => [(0, .slice x_v0.1 v0.length x_v0.2), (3, .slice a1 Q8.1.length c2), (4, .int .i64 (Q8.2))]) (fun Q8 _ => [tree (.slice a1 Q8.1.length c2) Q8.1]) (.cons aA .nil) ?_)
  rintro _ Q8 z9 t11 H1 hi12 hb13
  unfold p_laws_toIntS_b0 at H1
  refine aD (sr (aF rfl (aF rfl (aG (bS 3 dT rfl) (aG (cM rfl rfl) (nl (cH H1 rfl (fun h16 H1 => ?_) (fun h16 H1 => ?_))))))))
  ·refine bH (nT (aD (aQ (aP (aF rfl (aF rfl (aF rfl (aF rfl (gdo H1 fun h17 H1 => (aI (bW dT ty3 rfl rfl h17 rfl (aN (aL aR))) ?_))))))))))
   refine aI (bZ (i := Q8.2.toNat) (j := 0) ty3 rfl (aN (aL aR)) h17.lt rfl) (gdo H1 fun h18 H1 => (aI (bX dT ty3 rfl rfl h18 aB) (g0 (e_setT (l := Q8.1) (α := Int) (oa := a1) Q8.2.toNat (nth v0 Q8.2.toNat) () ty3 rfl rfl rfl h18.lt (cS _) (.cons aA .nil)) (aJ (nB (nT (?_)))))))
   refine cT aB fun hn => ?_; rw [hn]
   exact aP (aF rfl (gdo H1 fun h19 H1 => (aG (bR rfl rfl h19) (aH rfl (aJ (nLI () (hi12 _ (sm H1)) (.cons aA .nil)))))))
  ·refine cW (xT (xT (xE (?_))))
   obtain rfl := hb13 _ (sm H1)
   exact nMC () ⟨rfl, trivial⟩ bT (.cons aA .nil)
 ·intro y10
  show At _ _ [(3, .slice a1 x4.length c2)] _ [tree (.slice a1 x4.length c2) x4] _
  refine nT (sr (aF rfl (aH rfl (nl (bQ ?_)))))
  obtain rfl := si H
  exact back1 (a1, c2) rfl (ResV.tmp (v := .slice a1 x4.length c2) rfl) rfl cK (.cons aA .nil)
noncomputable def p_laws_toPost (v0 : Post) : Option (Post) := bd (p_laws_toTag v0.1) fun r4 => bd (p_laws_toIntS v0.2) fun r6 => some (r4, r6)
theorem c_laws_toPost {r : Post} (v0 : Post) (x_v0 : (Unit × Unit) × (Option Addr × Nat)) (H : p_laws_toPost v0 = some r) : Fn' prog 152 #[.agg #[.string (v0.1.1), .string (v0.1.2), .slice x_v0.2.1 v0.2.length x_v0.2.2]] [imm (.slice x_v0.2.1 v0.2.length x_v0.2.2) v0.2] [] (ι := (Unit × Unit) × (Option Addr × Nat)) (fun x => .agg #[.string (r.1.1), .string (r.1.2), .slice x.2.1 r.2.length x.2.2]) (fun _ => []) (fun x => [tree (.slice x.2.1 r.2.length x.2.2) r.2]) := by
 refine cof (args := [_]) func152 ntmps152 fun c => ?_
 unfold p_laws_toPost at H
 refine sr (f1 (cC (t := 196) rfl) fun g1 => (f1 (cD ty177) fun g2 => (nl (sr (f1 (cD ty177) fun g3 => (nl (sr (aG (cB fa196_0 rfl rfl) (aI (v := .agg #[.string (v0.1.1), .string (v0.1.2)]) (q_ldbP [.string (v0.1.1), .string (v0.1.2)] ty90 rfl hs2 rfl rfl) ?_)))))))))
 refine bdo H fun r4 h5 H => (aI (bN (c_laws_toTag v0.1 h5) rfl aO) (aG (cB fa177_0 rfl rfl) (stb (cs' := [.string (r4.1), .string (r4.2), .slice none 0 0]) ty97 cV (nl (sr (aG (cB fa196_1 rfl rfl) (aI (bI ty69 rfl hs2 rfl) (bdo H fun r6 h7 H => (f1 (cE (c_laws_toIntS v0.2 x_v0.2 h7) (fun _ => (bF bG)) rfl (aC (aL aR) aO)) fun x8 => ?_)))))))))
 refine aG (cB fa177_1 rfl rfl) (stb (cs' := [.string (r4.1), .string (r4.2), .slice x8.1 r6.length x8.2]) ty69 up1 (nl (sr (aI (bJ ty177 rfl hs1 rfl) (stb (cs' := [.string (r4.1), .string (r4.2), .slice x8.1 r6.length x8.2]) ty177 up2 (nl (bQ ?_)))))))
 obtain rfl := si H
 exact back1 (((), ()), x8) rfl (ResV.agg ty177 rfl hs2 rfl) rfl cK (.cons aA .nil)
noncomputable def p_laws_toPostS_b0 (v0 : (List Post)) (Q9 : (List Post) × Int) : Option (((List Post) × Int) ⊕ ((List Post))) := cond (decide (Q9.2 < (v0.length : Int))) (gd (ix Q9.2 v0.length) <| bd (p_laws_toPost (nth v0 Q9.2.toNat)) fun r19 => gd (ix Q9.2 Q9.1.length) <| gd (I64 (Q9.2 + 1)) <| some (.inl ((Q9.1.set Q9.2.toNat r19), Q9.2 + 1))) (some (.inr Q9.1))
noncomputable def p_laws_toPostS (v0 : (List Post)) : Option ((List Post)) := gd (many (v0.length : Int)) <| bd (lp (p_laws_toPostS_b0 v0) ((List.replicate (v0.length : Int).toNat (Zr.z0 : Post)), 0)) fun x5 => some x5
theorem c_laws_toPostS {r : (List Post)} (v0 : (List Post)) (x_v0 : Option Addr × Nat) (H : p_laws_toPostS v0 = some r) : Fn' prog 103 #[.slice x_v0.1 v0.length x_v0.2] [imm (.slice x_v0.1 v0.length x_v0.2) v0] [] (ι := Option Addr × Nat) (fun x => .slice x.1 r.length x.2) (fun _ => []) (fun x => [tree (.slice x.1 r.length x.2) r]) := by
 refine cof (args := [_]) func103 ntmps103 fun c => ?_
 unfold p_laws_toPostS at H
 refine bM aR fun X1 => (sr (aH (v := .slice none 0 0) rfl (nl (sr (aF rfl (aG (bS 196 dI rfl) (gdo H fun h4 H => (f2 (e_makeR Post dO ty177 rfl rfl rfl h4 (by decide)) fun a2 c3 => (aH rfl (nl (aD (sr ?_))))))))))))
 refine aH (v := .int .i64 (0)) rfl (nl (bdo H fun x5 hx6 H => (cX (ι := Unit) (fun ψ => [(3, .slice a2 x5.length c3)]) (fun ψ => [tree (.slice a2 x5.length c3) x5]) ?_ ?_)))
 ·refine aQ (dA hx6 () (fun Q9 _ => [(0, .slice x_v0.1 v0.length x_v0.2), (3, .slice a2 Q9.1.length c3), (4, .int .i64 (Q9.2))]) (fun Q9 _ => [tree (.slice a2 Q9.1.length c3) Q9.1]) (.cons aA .nil) ?_)
  rintro _ Q9 z10 t12 H1 hi13 hb14
  unfold p_laws_toPostS_b0 at H1
  refine aD (sr (aF rfl (aF rfl (aG (bS 196 dI rfl) (aG (cM rfl rfl) (nl (cH H1 rfl (fun h17 H1 => ?_) (fun h17 H1 => ?_))))))))
  ·refine bH (nT (aD (aQ (aP (aF rfl (aF rfl (aF rfl (aF rfl (gdo H1 fun h18 H1 => (aI (bW dI ty196 rfl rfl h18 rfl (aL (aT aR))) ?_))))))))))
   refine aI (v := .agg #[.string (((nth v0 Q9.2.toNat).1).1), .string (((nth v0 Q9.2.toNat).1).2), .slice (((X1 Q9.2.toNat).2).1) (((nth v0 Q9.2.toNat).2).length) (((X1 Q9.2.toNat).2).2.1)]) (cA (i := Q9.2.toNat) ty196 rfl (aL (aT aR)) h18.lt) (bdo H1 fun r19 h20 H1 => (f1 (cE (c_laws_toPost (nth v0 Q9.2.toNat) (((), ()), (((X1 Q9.2.toNat).2).1, ((X1 Q9.2.toNat).2).2.1)) h20) (fun _ => (bF bG)) rfl (aC (aL (aS (aU (aW aR h18.lt)))) aO)) fun x21 => (gdo H1 fun h22 H1 => (aI (bX dO ty177 rfl rfl h22 hs1) (g0 (e_setT (l := Q9.1) (α := Post) (oa := a2) Q9.2.toNat r19 (((), ()), x21.2) ty177 rfl rfl rfl h22.lt (cS _) (.cons dl1 (.cons aA .nil))) (aJ (nB (nT (?_)))))))))
   refine cT aB fun hn => ?_; rw [hn]
   exact aP (aF rfl (gdo H1 fun h23 H1 => (aG (bR rfl rfl h23) (aH rfl (aJ (nLI () (hi13 _ (sm H1)) (.cons aA .nil)))))))
  ·refine cW (xT (xT (xE (?_))))
   obtain rfl := hb14 _ (sm H1)
   exact nMC () ⟨rfl, trivial⟩ bT (.cons aA .nil)
 ·intro y11
  show At _ _ [(3, .slice a2 x5.length c3)] _ [tree (.slice a2 x5.length c3) x5] _
  refine nT (sr (aF rfl (aH rfl (nl (bQ ?_)))))
  obtain rfl := si H
  exact back1 (a2, c3) rfl (ResV.tmp (v := .slice a2 x5.length c3) rfl) rfl cK (.cons aA .nil)
noncomputable def p_laws_toIndex (v0 : Index) : Option (Index) := bd (p_laws_toTagSS v0.1) fun r6 => bd (p_laws_toPostS v0.2) fun r9 => some (r6, r9)
theorem c_laws_toIndex {r : Index} (v0 : Index) (x_v0 : (Option Addr × Nat) × (Option Addr × Nat)) (H : p_laws_toIndex v0 = some r) : Fn' prog 46 #[.agg #[.slice x_v0.1.1 v0.1.length x_v0.1.2, .slice x_v0.2.1 v0.2.length x_v0.2.2]] [imm (.slice x_v0.1.1 v0.1.length x_v0.1.2) v0.1, imm (.slice x_v0.2.1 v0.2.length x_v0.2.2) v0.2] [] (ι := (Option Addr × Nat) × (Option Addr × Nat)) (fun x => .agg #[.slice x.1.1 r.1.length x.1.2, .slice x.2.1 r.2.length x.2.2]) (fun _ => []) (fun x => [tree (.slice x.1.1 r.1.length x.1.2) r.1, tree (.slice x.2.1 r.2.length x.2.2) r.2]) := by
 refine cof (args := [_]) func46 ntmps46 fun c => ?_
 unfold p_laws_toIndex at H
 refine bM aR fun X1 => (bM aR.s.s fun X2 => (sr (f1 (cC (t := 25) rfl) fun g3 => (f1 (cD ty38) fun g4 => (nl (sr (f1 (cD ty38) fun g5 => (nl (sr ?_)))))))))
 refine aG (cB fa25_0 rfl rfl) (aI (bI ty22 rfl hs2 rfl) (bdo H fun r6 h7 H => (f1 (cE (c_laws_toTagSS v0.1 x_v0.1 h7) (fun _ => (bF bG)) rfl (aC (aL (aS aR.s)) aO)) fun x8 => (aG (cB fa38_0 rfl rfl) (stb (cs' := [.slice x8.1 r6.length x8.2, .slice none 0 0]) ty35 up1 (nl (sr (aG (cB fa25_1 rfl rfl) (aI (bI ty23 rfl hs3 rfl) ?_)))))))))
 refine bdo H fun r9 h10 H => (f1 (cE (c_laws_toPostS v0.2 x_v0.2 h10) (fun _ => (bF bG)) rfl (aC (aL (aS aR)) aO)) fun x11 => (aG (cB fa38_1 rfl rfl) (stb (cs' := [.slice x8.1 r6.length x8.2, .slice x11.1 r9.length x11.2]) ty36 up2 (nl (sr (aI (bJ ty38 rfl hs2 rfl) (stb (cs' := [.slice x8.1 r6.length x8.2, .slice x11.1 r9.length x11.2]) ty38 up3 (nl (bQ ?_)))))))))
 obtain rfl := si H
 exact back1 (x8, x11) rfl (ResV.agg ty38 rfl hs3 rfl) rfl cK (.cons dl1 (.cons aA .nil))
noncomputable def p_laws_toRow (v0 : Row) : Option (Row) := some v0
theorem c_laws_toRow {r : Row} (v0 : Row) (H : p_laws_toRow v0 = some r) : Fn' prog 155 #[.agg #[.int .i64 (v0.1), .int .i64 (v0.2)]] [] [] (ι := Unit) (fun _ => .agg #[.int .i64 (r.1), .int .i64 (r.2)]) (fun _ => []) (fun _ => []) := by
 refine cof (args := [_]) func155 ntmps155 fun c => ?_
 unfold p_laws_toRow at H
 refine sr (f1 (cC (t := 153) rfl) fun g1 => (f1 (cD ty57) fun g2 => (nl (sr (f1 (cD ty57) fun g3 => (nl (sr (aG (cB fa153_0 rfl rfl) (aI (bI ty3 rfl hs2 rfl) ?_)))))))))
 refine aG (cB fa57_0 rfl rfl) (stb (cs' := [.int .i64 (v0.1), .int .i64 (0)]) ty3 cV (nl (sr (aG (cB fa153_1 rfl rfl) (aI (bI ty3 rfl hs2 rfl) (aG (cB fa57_1 rfl rfl) (stb (cs' := [.int .i64 (v0.1), .int .i64 (v0.2)]) ty3 cV (nl (sr ?_)))))))))
 refine aI (bJ ty57 rfl aB rfl) (stb (cs' := [.int .i64 (v0.1), .int .i64 (v0.2)]) ty57 up1 (nl (bQ ?_)))
 obtain rfl := si H
 exact back1 () rfl (ResV.agg ty57 rfl hs1 rfl) rfl cK bK
noncomputable def p_laws_toRowS_b0 (v0 : (List Row)) (Q8 : (List Row) × Int) : Option (((List Row) × Int) ⊕ ((List Row))) := cond (decide (Q8.2 < (v0.length : Int))) (gd (ix Q8.2 v0.length) <| bd (p_laws_toRow (nth v0 Q8.2.toNat)) fun r18 => gd (ix Q8.2 Q8.1.length) <| gd (I64 (Q8.2 + 1)) <| some (.inl ((Q8.1.set Q8.2.toNat r18), Q8.2 + 1))) (some (.inr Q8.1))
noncomputable def p_laws_toRowS (v0 : (List Row)) : Option ((List Row)) := gd (many (v0.length : Int)) <| bd (lp (p_laws_toRowS_b0 v0) ((List.replicate (v0.length : Int).toNat (Zr.z0 : Row)), 0)) fun x4 => some x4
theorem c_laws_toRowS {r : (List Row)} (v0 : (List Row)) (x_v0 : Option Addr × Nat) (H : p_laws_toRowS v0 = some r) : Fn' prog 187 #[.slice x_v0.1 v0.length x_v0.2] [imm (.slice x_v0.1 v0.length x_v0.2) v0] [] (ι := Option Addr × Nat) (fun x => .slice x.1 r.length x.2) (fun _ => []) (fun x => [tree (.slice x.1 r.length x.2) r]) := by
 refine cof (args := [_]) func187 ntmps187 fun c => ?_
 unfold p_laws_toRowS at H
 refine sr (aH (v := .slice none 0 0) rfl (nl (sr (aF rfl (aG (bS 153 dJ rfl) (gdo H fun h3 H => (f2 (e_makeR Row dS ty57 rfl rfl rfl h3 (by decide)) fun a1 c2 => (aH rfl (nl (aD (sr (aH (v := .int .i64 (0)) rfl (nl ?_)))))))))))))
 refine bdo H fun x4 hx5 H => (cX (ι := Unit) (fun ψ => [(3, .slice a1 x4.length c2)]) (fun ψ => [tree (.slice a1 x4.length c2) x4]) ?_ ?_)
 ·refine aQ (dA hx5 () (fun Q8 _ => [(0, .slice x_v0.1 v0.length x_v0.2), (3, .slice a1 Q8.1.length c2), (4, .int .i64 (Q8.2))]) (fun Q8 _ => [tree (.slice a1 Q8.1.length c2) Q8.1]) (.cons aA .nil) ?_)
  rintro _ Q8 z9 t11 H1 hi12 hb13
  unfold p_laws_toRowS_b0 at H1
  refine aD (sr (aF rfl (aF rfl (aG (bS 153 dJ rfl) (aG (cM rfl rfl) (nl (cH H1 rfl (fun h16 H1 => ?_) (fun h16 H1 => ?_))))))))
  ·refine bH (nT (aD (aQ (aP (aF rfl (aF rfl (aF rfl (aF rfl (gdo H1 fun h17 H1 => (aI (bW dJ ty153 rfl rfl h17 rfl (aN (aL aR))) ?_))))))))))
   refine aI (v := .agg #[.int .i64 ((nth v0 Q8.2.toNat).1), .int .i64 ((nth v0 Q8.2.toNat).2)]) (cA (i := Q8.2.toNat) ty153 rfl (aN (aL aR)) h17.lt) (bdo H1 fun r18 h19 H1 => (aI (bN (c_laws_toRow (nth v0 Q8.2.toNat) h19) rfl aO) (gdo H1 fun h20 H1 => (aI (bX dS ty57 rfl rfl h20 aB) (g0 (e_setT (l := Q8.1) (α := Row) (oa := a1) Q8.2.toNat r18 ((), ()) ty57 rfl rfl rfl h20.lt (cS _) (.cons aA .nil)) (aJ (nB (nT (?_)))))))))
   refine cT aB fun hn => ?_; rw [hn]
   exact aP (aF rfl (gdo H1 fun h21 H1 => (aG (bR rfl rfl h21) (aH rfl (aJ (nLI () (hi12 _ (sm H1)) (.cons aA .nil)))))))
  ·refine cW (xT (xT (xE (?_))))
   obtain rfl := hb13 _ (sm H1)
   exact nMC () ⟨rfl, trivial⟩ bT (.cons aA .nil)
 ·intro y10
  show At _ _ [(3, .slice a1 x4.length c2)] _ [tree (.slice a1 x4.length c2) x4] _
  refine nT (sr (aF rfl (aH rfl (nl (bQ ?_)))))
  obtain rfl := si H
  exact back1 (a1, c2) rfl (ResV.tmp (v := .slice a1 x4.length c2) rfl) rfl cK (.cons aA .nil)
noncomputable def p_laws_toRowSS_b0 (v0 : (List (List Row))) (Q9 : (List (List Row)) × Int) : Option (((List (List Row)) × Int) ⊕ ((List (List Row)))) := cond (decide (Q9.2 < (v0.length : Int))) (gd (ix Q9.2 v0.length) <| bd (p_laws_toRowS (nth v0 Q9.2.toNat)) fun r19 => gd (ix Q9.2 Q9.1.length) <| gd (I64 (Q9.2 + 1)) <| some (.inl ((Q9.1.set Q9.2.toNat r19), Q9.2 + 1))) (some (.inr Q9.1))
noncomputable def p_laws_toRowSS (v0 : (List (List Row))) : Option ((List (List Row))) := gd (many (v0.length : Int)) <| bd (lp (p_laws_toRowSS_b0 v0) ((List.replicate (v0.length : Int).toNat (Zr.z0 : (List Row))), 0)) fun x5 => some x5
theorem c_laws_toRowSS {r : (List (List Row))} (v0 : (List (List Row))) (x_v0 : Option Addr × Nat) (H : p_laws_toRowSS v0 = some r) : Fn' prog 154 #[.slice x_v0.1 v0.length x_v0.2] [imm (.slice x_v0.1 v0.length x_v0.2) v0] [] (ι := Option Addr × Nat) (fun x => .slice x.1 r.length x.2) (fun _ => []) (fun x => [tree (.slice x.1 r.length x.2) r]) := by
 refine cof (args := [_]) func154 ntmps154 fun c => ?_
 unfold p_laws_toRowSS at H
 refine bM aR fun X1 => (sr (aH (v := .slice none 0 0) rfl (nl (sr (aF rfl (aG (bS 234 dF rfl) (gdo H fun h4 H => (f2 (e_makeR (List Row) dU ty63 rfl rfl rfl h4 (by decide)) fun a2 c3 => (aH rfl (nl (aD (sr ?_))))))))))))
 refine aH (v := .int .i64 (0)) rfl (nl (bdo H fun x5 hx6 H => (cX (ι := Unit) (fun ψ => [(3, .slice a2 x5.length c3)]) (fun ψ => [tree (.slice a2 x5.length c3) x5]) ?_ ?_)))
 ·refine aQ (dA hx6 () (fun Q9 _ => [(0, .slice x_v0.1 v0.length x_v0.2), (3, .slice a2 Q9.1.length c3), (4, .int .i64 (Q9.2))]) (fun Q9 _ => [tree (.slice a2 Q9.1.length c3) Q9.1]) (.cons aA .nil) ?_)
  rintro _ Q9 z10 t12 H1 hi13 hb14
  unfold p_laws_toRowSS_b0 at H1
  refine aD (sr (aF rfl (aF rfl (aG (bS 234 dF rfl) (aG (cM rfl rfl) (nl (cH H1 rfl (fun h17 H1 => ?_) (fun h17 H1 => ?_))))))))
  ·refine bH (nT (aD (aQ (aP (aF rfl (aF rfl (aF rfl (aF rfl (gdo H1 fun h18 H1 => (aI (bW dF ty234 rfl rfl h18 rfl (aL (aT aR))) ?_))))))))))
   refine aI (bZ (i := Q9.2.toNat) (j := 0) ty234 rfl (aL (aT aR)) h18.lt rfl) (bdo H1 fun r19 h20 H1 => (f1 (cE (c_laws_toRowS (nth v0 Q9.2.toNat) ((X1 Q9.2.toNat).1, (X1 Q9.2.toNat).2.1) h20) (fun _ => (bF bG)) rfl (aC (aL (aS (aW aR h18.lt))) aO)) fun x21 => (gdo H1 fun h22 H1 => (aI (bX dU ty63 rfl rfl h22 hs1) (g0 (e_setT (l := Q9.1) (α := (List Row)) (oa := a2) Q9.2.toNat r19 x21 ty63 rfl rfl rfl h22.lt (cS _) (.cons dl1 (.cons aA .nil))) (aJ (nB (nT (?_)))))))))
   refine cT aB fun hn => ?_; rw [hn]
   exact aP (aF rfl (gdo H1 fun h23 H1 => (aG (bR rfl rfl h23) (aH rfl (aJ (nLI () (hi13 _ (sm H1)) (.cons aA .nil)))))))
  ·refine cW (xT (xT (xE (?_))))
   obtain rfl := hb14 _ (sm H1)
   exact nMC () ⟨rfl, trivial⟩ bT (.cons aA .nil)
 ·intro y11
  show At _ _ [(3, .slice a2 x5.length c3)] _ [tree (.slice a2 x5.length c3) x5] _
  refine nT (sr (aF rfl (aH rfl (nl (bQ ?_)))))
  obtain rfl := si H
  exact back1 (a2, c3) rfl (ResV.tmp (v := .slice a2 x5.length c3) rfl) rfl cK (.cons aA .nil)
noncomputable def p_laws_toPart (v0 : Part) : Option (Part) := bd (p_laws_toIntS v0.1) fun r5 => bd (p_laws_toRowSS v0.2) fun r8 => some (r5, r8)
theorem c_laws_toPart {r : Part} (v0 : Part) (x_v0 : (Option Addr × Nat) × (Option Addr × Nat)) (H : p_laws_toPart v0 = some r) : Fn' prog 104 #[.agg #[.slice x_v0.1.1 v0.1.length x_v0.1.2, .slice x_v0.2.1 v0.2.length x_v0.2.2]] [imm (.slice x_v0.1.1 v0.1.length x_v0.1.2) v0.1, imm (.slice x_v0.2.1 v0.2.length x_v0.2.2) v0.2] [] (ι := (Option Addr × Nat) × (Option Addr × Nat)) (fun x => .agg #[.slice x.1.1 r.1.length x.1.2, .slice x.2.1 r.2.length x.2.2]) (fun _ => []) (fun x => [tree (.slice x.1.1 r.1.length x.1.2) r.1, tree (.slice x.2.1 r.2.length x.2.2) r.2]) := by
 refine cof (args := [_]) func104 ntmps104 fun c => ?_
 unfold p_laws_toPart at H
 refine bM aR.s fun X1 => (sr (f1 (cC (t := 146) rfl) fun g2 => (f1 (cD ty72) fun g3 => (nl (sr (f1 (cD ty72) fun g4 => (nl (sr (aG (cB fa146_0 rfl rfl) ?_)))))))))
 refine aI (bI ty69 rfl hs2 rfl) (bdo H fun r5 h6 H => (f1 (cE (c_laws_toIntS v0.1 x_v0.1 h6) (fun _ => (bF bG)) rfl (aC (aL aR.s) aO)) fun x7 => (aG (cB fa72_0 rfl rfl) (stb (cs' := [.slice x7.1 r5.length x7.2, .slice none 0 0]) ty69 up1 (nl (sr (aG (cB fa146_1 rfl rfl) (aI (bI ty144 rfl hs3 rfl) (bdo H fun r8 h9 H => ?_)))))))))
 refine f1 (cE (c_laws_toRowSS v0.2 x_v0.2 h9) (fun _ => (bF bG)) rfl (aC (aL (aS aR)) aO)) fun x10 => (aG (cB fa72_1 rfl rfl) (stb (cs' := [.slice x7.1 r5.length x7.2, .slice x10.1 r8.length x10.2]) ty70 up2 (nl (sr (aI (bJ ty72 rfl hs2 rfl) (stb (cs' := [.slice x7.1 r5.length x7.2, .slice x10.1 r8.length x10.2]) ty72 up3 (nl (bQ ?_))))))))
 obtain rfl := si H
 exact back1 (x7, x10) rfl (ResV.agg ty72 rfl hs3 rfl) rfl cK (.cons dl1 (.cons aA .nil))
noncomputable def p_laws_toPartS_b0 (v0 : (List Part)) (Q9 : (List Part) × Int) : Option (((List Part) × Int) ⊕ ((List Part))) := cond (decide (Q9.2 < (v0.length : Int))) (gd (ix Q9.2 v0.length) <| bd (p_laws_toPart (nth v0 Q9.2.toNat)) fun r19 => gd (ix Q9.2 Q9.1.length) <| gd (I64 (Q9.2 + 1)) <| some (.inl ((Q9.1.set Q9.2.toNat r19), Q9.2 + 1))) (some (.inr Q9.1))
noncomputable def p_laws_toPartS (v0 : (List Part)) : Option ((List Part)) := gd (many (v0.length : Int)) <| bd (lp (p_laws_toPartS_b0 v0) ((List.replicate (v0.length : Int).toNat (Zr.z0 : Part)), 0)) fun x5 => some x5
theorem c_laws_toPartS {r : (List Part)} (v0 : (List Part)) (x_v0 : Option Addr × Nat) (H : p_laws_toPartS v0 = some r) : Fn' prog 47 #[.slice x_v0.1 v0.length x_v0.2] [imm (.slice x_v0.1 v0.length x_v0.2) v0] [] (ι := Option Addr × Nat) (fun x => .slice x.1 r.length x.2) (fun _ => []) (fun x => [tree (.slice x.1 r.length x.2) r]) := by
 refine cof (args := [_]) func47 ntmps47 fun c => ?_
 unfold p_laws_toPartS at H
 refine bM aR fun X1 => (sr (aH (v := .slice none 0 0) rfl (nl (sr (aF rfl (aG (bS 146 dK rfl) (gdo H fun h4 H => (f2 (e_makeR Part dP ty72 rfl rfl rfl h4 (by decide)) fun a2 c3 => (aH rfl (nl (aD (sr ?_))))))))))))
 refine aH (v := .int .i64 (0)) rfl (nl (bdo H fun x5 hx6 H => (cX (ι := Unit) (fun ψ => [(3, .slice a2 x5.length c3)]) (fun ψ => [tree (.slice a2 x5.length c3) x5]) ?_ ?_)))
 ·refine aQ (dA hx6 () (fun Q9 _ => [(0, .slice x_v0.1 v0.length x_v0.2), (3, .slice a2 Q9.1.length c3), (4, .int .i64 (Q9.2))]) (fun Q9 _ => [tree (.slice a2 Q9.1.length c3) Q9.1]) (.cons aA .nil) ?_)
  rintro _ Q9 z10 t12 H1 hi13 hb14
  unfold p_laws_toPartS_b0 at H1
  refine aD (sr (aF rfl (aF rfl (aG (bS 146 dK rfl) (aG (cM rfl rfl) (nl (cH H1 rfl (fun h17 H1 => ?_) (fun h17 H1 => ?_))))))))
  ·refine bH (nT (aD (aQ (aP (aF rfl (aF rfl (aF rfl (aF rfl (gdo H1 fun h18 H1 => (aI (bW dK ty146 rfl rfl h18 rfl (aL (aT aR))) ?_))))))))))
   refine aI (v := .agg #[.slice (((X1 Q9.2.toNat).1).1) (((nth v0 Q9.2.toNat).1).length) (((X1 Q9.2.toNat).1).2.1), .slice (((X1 Q9.2.toNat).2).1) (((nth v0 Q9.2.toNat).2).length) (((X1 Q9.2.toNat).2).2.1)]) (cA (i := Q9.2.toNat) ty146 rfl (aL (aT aR)) h18.lt) (bdo H1 fun r19 h20 H1 => (f1 (cE (c_laws_toPart (nth v0 Q9.2.toNat) ((((X1 Q9.2.toNat).1).1, ((X1 Q9.2.toNat).1).2.1), (((X1 Q9.2.toNat).2).1, ((X1 Q9.2.toNat).2).2.1)) h20) (fun _ => (bF (bF bG))) rfl (aC (aL (aS (aV (aW aR h18.lt)))) (aC (aL (aS (aU (aW aR h18.lt)))) aO))) fun x21 => (gdo H1 fun h22 H1 => (aI (bX dP ty72 rfl rfl h22 hs2) (g0 (e_setT (l := Q9.1) (α := Part) (oa := a2) Q9.2.toNat r19 x21 ty72 rfl rfl rfl h22.lt (cS _) (.cons dl2 (.cons aA (.cons aA .nil)))) (aJ (nB (nT (?_)))))))))
   refine cT aB fun hn => ?_; rw [hn]
   exact aP (aF rfl (gdo H1 fun h23 H1 => (aG (bR rfl rfl h23) (aH rfl (aJ (nLI () (hi13 _ (sm H1)) (.cons aA .nil)))))))
  ·refine cW (xT (xT (xE (?_))))
   obtain rfl := hb14 _ (sm H1)
   exact nMC () ⟨rfl, trivial⟩ bT (.cons aA .nil)
 ·intro y11
  show At _ _ [(3, .slice a2 x5.length c3)] _ [tree (.slice a2 x5.length c3) x5] _
  refine nT (sr (aF rfl (aH rfl (nl (bQ ?_)))))
  obtain rfl := si H
  exact back1 (a2, c3) rfl (ResV.tmp (v := .slice a2 x5.length c3) rfl) rfl cK (.cons aA .nil)
noncomputable def p_laws_toSample (v0 : Sample) : Option (Sample) := bd (p_laws_toRow v0.2) fun r4 => some (v0.1, r4)
theorem c_laws_toSample {r : Sample} (v0 : Sample) (H : p_laws_toSample v0 = some r) : Fn' prog 105 #[.agg #[.int .i64 (v0.1), .int .i64 (v0.2.1), .int .i64 (v0.2.2)]] [] [] (ι := Unit) (fun _ => .agg #[.int .i64 (r.1), .int .i64 (r.2.1), .int .i64 (r.2.2)]) (fun _ => []) (fun _ => []) := by
 refine cof (args := [_]) func105 ntmps105 fun c => ?_
 unfold p_laws_toSample at H
 refine sr (f1 (cC (t := 155) rfl) fun g1 => (f1 (cD ty59) fun g2 => (nl (sr (f1 (cD ty59) fun g3 => (nl (sr (aG (cB fa155_0 rfl rfl) (aI (bI ty3 rfl hs2 rfl) ?_)))))))))
 refine aG (cB fa59_0 rfl rfl) (stb (cs' := [.int .i64 (v0.1), .int .i64 (0), .int .i64 (0)]) ty3 cV (nl (sr (aG (cB fa155_1 rfl rfl) (aI (v := .agg #[.int .i64 (v0.2.1), .int .i64 (v0.2.2)]) (q_ldbP [.int .i64 (v0.2.1), .int .i64 (v0.2.2)] ty153 rfl hs2 rfl rfl) (bdo H fun r4 h5 H => (aI (bN (c_laws_toRow v0.2 h5) rfl aO) (aG (cB fa59_1 rfl rfl) (stb (cs' := [.int .i64 (v0.1), .int .i64 (r4.1), .int .i64 (r4.2)]) ty57 cV ?_)))))))))
 refine nl (sr (aI (bJ ty59 rfl aB rfl) (stb (cs' := [.int .i64 (v0.1), .int .i64 (r4.1), .int .i64 (r4.2)]) ty59 up1 (nl (bQ ?_)))))
 obtain rfl := si H
 exact back1 () rfl (ResV.agg ty59 rfl hs1 rfl) rfl cK bK
noncomputable def p_laws_toSampleS_b0 (v0 : (List Sample)) (Q8 : (List Sample) × Int) : Option (((List Sample) × Int) ⊕ ((List Sample))) := cond (decide (Q8.2 < (v0.length : Int))) (gd (ix Q8.2 v0.length) <| bd (p_laws_toSample (nth v0 Q8.2.toNat)) fun r18 => gd (ix Q8.2 Q8.1.length) <| gd (I64 (Q8.2 + 1)) <| some (.inl ((Q8.1.set Q8.2.toNat r18), Q8.2 + 1))) (some (.inr Q8.1))
noncomputable def p_laws_toSampleS (v0 : (List Sample)) : Option ((List Sample)) := gd (many (v0.length : Int)) <| bd (lp (p_laws_toSampleS_b0 v0) ((List.replicate (v0.length : Int).toNat (Zr.z0 : Sample)), 0)) fun x4 => some x4
theorem c_laws_toSampleS {r : (List Sample)} (v0 : (List Sample)) (x_v0 : Option Addr × Nat) (H : p_laws_toSampleS v0 = some r) : Fn' prog 48 #[.slice x_v0.1 v0.length x_v0.2] [imm (.slice x_v0.1 v0.length x_v0.2) v0] [] (ι := Option Addr × Nat) (fun x => .slice x.1 r.length x.2) (fun _ => []) (fun x => [tree (.slice x.1 r.length x.2) r]) := by
 refine cof (args := [_]) func48 ntmps48 fun c => ?_
 unfold p_laws_toSampleS at H
 refine sr (aH (v := .slice none 0 0) rfl (nl (sr (aF rfl (aG (bS 155 underlying27 rfl) (gdo H fun h3 H => (f2 (e_makeR Sample dQ ty59 rfl rfl rfl h3 (by decide)) fun a1 c2 => (aH rfl (nl (aD (sr (aH (v := .int .i64 (0)) rfl (nl ?_)))))))))))))
 refine bdo H fun x4 hx5 H => (cX (ι := Unit) (fun ψ => [(3, .slice a1 x4.length c2)]) (fun ψ => [tree (.slice a1 x4.length c2) x4]) ?_ ?_)
 ·refine aQ (dA hx5 () (fun Q8 _ => [(0, .slice x_v0.1 v0.length x_v0.2), (3, .slice a1 Q8.1.length c2), (4, .int .i64 (Q8.2))]) (fun Q8 _ => [tree (.slice a1 Q8.1.length c2) Q8.1]) (.cons aA .nil) ?_)
  rintro _ Q8 z9 t11 H1 hi12 hb13
  unfold p_laws_toSampleS_b0 at H1
  refine aD (sr (aF rfl (aF rfl (aG (bS 155 underlying27 rfl) (aG (cM rfl rfl) (nl (cH H1 rfl (fun h16 H1 => ?_) (fun h16 H1 => ?_))))))))
  ·refine bH (nT (aD (aQ (aP (aF rfl (aF rfl (aF rfl (aF rfl (gdo H1 fun h17 H1 => (aI (bW underlying27 ty155 rfl rfl h17 rfl (aN (aL aR))) ?_))))))))))
   refine aI (v := .agg #[.int .i64 ((nth v0 Q8.2.toNat).1), .int .i64 (((nth v0 Q8.2.toNat).2).1), .int .i64 (((nth v0 Q8.2.toNat).2).2)]) (cA (i := Q8.2.toNat) ty155 rfl (aN (aL aR)) h17.lt) (bdo H1 fun r18 h19 H1 => (aI (bN (c_laws_toSample (nth v0 Q8.2.toNat) h19) rfl aO) (gdo H1 fun h20 H1 => (aI (bX dQ ty59 rfl rfl h20 aB) (g0 (e_setT (l := Q8.1) (α := Sample) (oa := a1) Q8.2.toNat r18 ((), ((), ())) ty59 rfl rfl rfl h20.lt (cS _) (.cons aA .nil)) (aJ (nB (nT (?_)))))))))
   refine cT aB fun hn => ?_; rw [hn]
   exact aP (aF rfl (gdo H1 fun h21 H1 => (aG (bR rfl rfl h21) (aH rfl (aJ (nLI () (hi12 _ (sm H1)) (.cons aA .nil)))))))
  ·refine cW (xT (xT (xE (?_))))
   obtain rfl := hb13 _ (sm H1)
   exact nMC () ⟨rfl, trivial⟩ bT (.cons aA .nil)
 ·intro y10
  show At _ _ [(3, .slice a1 x4.length c2)] _ [tree (.slice a1 x4.length c2) x4] _
  refine nT (sr (aF rfl (aH rfl (nl (bQ ?_)))))
  obtain rfl := si H
  exact back1 (a1, c2) rfl (ResV.tmp (v := .slice a1 x4.length c2) rfl) rfl cK (.cons aA .nil)
noncomputable def p_laws_toStore (v0 : Store) : Option (Store) := bd (p_laws_toIndex v0.1) fun r7 => bd (p_laws_toPartS v0.2.1) fun r10 => bd (p_laws_toSampleS v0.2.2) fun r13 => some (r7, r10, r13)
theorem c_laws_toStore {r : Store} (v0 : Store) (x_v0 : ((Option Addr × Nat) × (Option Addr × Nat)) × (Option Addr × Nat) × (Option Addr × Nat)) (H : p_laws_toStore v0 = some r) : Fn' prog 11 #[.agg #[.slice x_v0.1.1.1 v0.1.1.length x_v0.1.1.2, .slice x_v0.1.2.1 v0.1.2.length x_v0.1.2.2, .slice x_v0.2.1.1 v0.2.1.length x_v0.2.1.2, .slice x_v0.2.2.1 v0.2.2.length x_v0.2.2.2]] [imm (.slice x_v0.1.1.1 v0.1.1.length x_v0.1.1.2) v0.1.1, imm (.slice x_v0.1.2.1 v0.1.2.length x_v0.1.2.2) v0.1.2, imm (.slice x_v0.2.1.1 v0.2.1.length x_v0.2.1.2) v0.2.1, imm (.slice x_v0.2.2.1 v0.2.2.length x_v0.2.2.2) v0.2.2] [] (ι := ((Option Addr × Nat) × (Option Addr × Nat)) × (Option Addr × Nat) × (Option Addr × Nat)) (fun x => .agg #[.slice x.1.1.1 r.1.1.length x.1.1.2, .slice x.1.2.1 r.1.2.length x.1.2.2, .slice x.2.1.1 r.2.1.length x.2.1.2, .slice x.2.2.1 r.2.2.length x.2.2.2]) (fun _ => []) (fun x => [tree (.slice x.1.1.1 r.1.1.length x.1.1.2) r.1.1, tree (.slice x.1.2.1 r.1.2.length x.1.2.2) r.1.2, tree (.slice x.2.1.1 r.2.1.length x.2.1.2) r.2.1, tree (.slice x.2.2.1 r.2.2.length x.2.2.2) r.2.2]) := by
 refine cof (args := [_]) func11 ntmps11 fun c => ?_
 unfold p_laws_toStore at H
 refine bM aR fun X1 => (bM aR.s.s fun X2 => (bM aR.s.s.s.s fun X3 => (sr (f1 (cC (t := 29) rfl) fun g4 => (f1 (cD ty42) fun g5 => (nl (sr (f1 (cD ty42) fun g6 => (nl ?_)))))))))
 refine sr (aG (cB fa29_0 rfl rfl) (aI (v := .agg #[.slice x_v0.1.1.1 v0.1.1.length x_v0.1.1.2, .slice x_v0.1.2.1 v0.1.2.length x_v0.1.2.2]) (q_ldbP [.slice x_v0.1.1.1 v0.1.1.length x_v0.1.1.2, .slice x_v0.1.2.1 v0.1.2.length x_v0.1.2.2] ty25 rfl hs2 rfl rfl) (bdo H fun r7 h8 H => (f1 (cE (c_laws_toIndex v0.1 x_v0.1 h8) (fun _ => (bF (bF bG))) rfl (aC (aL (aS aR.s.s)) (aC (aL (aS aR.s)) aO))) fun x9 => (aG (cB fa42_0 rfl rfl) (stb (cs' := [.slice x9.1.1 r7.1.length x9.1.2, .slice x9.2.1 r7.2.length x9.2.2, .slice none 0 0, .slice none 0 0]) ty38 up2 (nl (sr (aG (cB fa29_1 rfl rfl) ?_)))))))))
 refine aI (bI ty26 rfl hs4 rfl) (bdo H fun r10 h11 H => (f1 (cE (c_laws_toPartS v0.2.1 x_v0.2.1 h11) (fun _ => (bF bG)) rfl (aC (aL (aS aR)) aO)) fun x12 => (aG (cB fa42_1 rfl rfl) (stb (cs' := [.slice x9.1.1 r7.1.length x9.1.2, .slice x9.2.1 r7.2.length x9.2.2, .slice x12.1 r10.length x12.2, .slice none 0 0]) ty39 up3 (nl (sr (aG (cB fa29_2 rfl rfl) (aI (bI ty27 rfl hs5 rfl) (bdo H fun r13 h14 H => ?_)))))))))
 refine f1 (cE (c_laws_toSampleS v0.2.2 x_v0.2.2 h14) (fun _ => (bF bG)) rfl (aC (aL aR.s.s.s.s.s.s) aO)) fun x15 => (aG (cB fa42_2 rfl rfl) (stb (cs' := [.slice x9.1.1 r7.1.length x9.1.2, .slice x9.2.1 r7.2.length x9.2.2, .slice x12.1 r10.length x12.2, .slice x15.1 r13.length x15.2]) ty40 up4 (nl (sr (aI (bJ ty42 rfl hs4 rfl) (stb (cs' := [.slice x9.1.1 r7.1.length x9.1.2, .slice x9.2.1 r7.2.length x9.2.2, .slice x12.1 r10.length x12.2, .slice x15.1 r13.length x15.2]) ty42 up5 (nl (bQ ?_))))))))
 obtain rfl := si H
 exact back1 (x9, x12, x15) rfl (ResV.agg ty42 rfl hs5 rfl) rfl cK (.cons dl2 (.cons dl2 (.cons dl1 (.cons aA .nil))))
noncomputable def p_laws_toCond (v0 : Cond) : Option (Cond) := bd (p_laws_toTag v0.1) fun r4 => some (r4, v0.2)
theorem c_laws_toCond {r : Cond} (v0 : Cond) (H : p_laws_toCond v0 = some r) : Fn' prog 49 #[.agg #[.string (v0.1.1), .string (v0.1.2), .bool (v0.2)]] [] [] (ι := Unit) (fun _ => .agg #[.string (r.1.1), .string (r.1.2), .bool (r.2)]) (fun _ => []) (fun _ => []) := by
 refine cof (args := [_]) func49 ntmps49 fun c => ?_
 unfold p_laws_toCond at H
 refine sr (f1 (cC (t := 92) rfl) fun g1 => (f1 (cD ty99) fun g2 => (nl (sr (f1 (cD ty99) fun g3 => (nl (sr (aG (cB fa92_0 rfl rfl) (aI (v := .agg #[.string (v0.1.1), .string (v0.1.2)]) (q_ldbP [.string (v0.1.1), .string (v0.1.2)] ty90 rfl hs2 rfl rfl) ?_)))))))))
 refine bdo H fun r4 h5 H => (aI (bN (c_laws_toTag v0.1 h5) rfl aO) (aG (cB fa99_0 rfl rfl) (stb (cs' := [.string (r4.1), .string (r4.2), .bool (false)]) ty97 cV (nl (sr (aG (cB fa92_1 rfl rfl) (aI (bI ty4 rfl hs2 rfl) (aG (cB fa99_1 rfl rfl) (stb (cs' := [.string (r4.1), .string (r4.2), .bool (v0.2)]) ty4 cV ?_)))))))))
 refine nl (sr (aI (bJ ty99 rfl aB rfl) (stb (cs' := [.string (r4.1), .string (r4.2), .bool (v0.2)]) ty99 up1 (nl (bQ ?_)))))
 obtain rfl := si H
 exact back1 () rfl (ResV.agg ty99 rfl hs1 rfl) rfl cK bK
noncomputable def p_laws_toCondS_b0 (v0 : (List Cond)) (Q8 : (List Cond) × Int) : Option (((List Cond) × Int) ⊕ ((List Cond))) := cond (decide (Q8.2 < (v0.length : Int))) (gd (ix Q8.2 v0.length) <| bd (p_laws_toCond (nth v0 Q8.2.toNat)) fun r18 => gd (ix Q8.2 Q8.1.length) <| gd (I64 (Q8.2 + 1)) <| some (.inl ((Q8.1.set Q8.2.toNat r18), Q8.2 + 1))) (some (.inr Q8.1))
noncomputable def p_laws_toCondS (v0 : (List Cond)) : Option ((List Cond)) := gd (many (v0.length : Int)) <| bd (lp (p_laws_toCondS_b0 v0) ((List.replicate (v0.length : Int).toNat (Zr.z0 : Cond)), 0)) fun x4 => some x4
theorem c_laws_toCondS {r : (List Cond)} (v0 : (List Cond)) (x_v0 : Option Addr × Nat) (H : p_laws_toCondS v0 = some r) : Fn' prog 12 #[.slice x_v0.1 v0.length x_v0.2] [imm (.slice x_v0.1 v0.length x_v0.2) v0] [] (ι := Option Addr × Nat) (fun x => .slice x.1 r.length x.2) (fun _ => []) (fun x => [tree (.slice x.1 r.length x.2) r]) := by
 refine cof (args := [_]) func12 ntmps12 fun c => ?_
 unfold p_laws_toCondS at H
 refine sr (aH (v := .slice none 0 0) rfl (nl (sr (aF rfl (aG (bS 92 dL rfl) (gdo H fun h3 H => (f2 (e_makeR Cond dR ty99 rfl rfl rfl h3 (by decide)) fun a1 c2 => (aH rfl (nl (aD (sr (aH (v := .int .i64 (0)) rfl (nl ?_)))))))))))))
 refine bdo H fun x4 hx5 H => (cX (ι := Unit) (fun ψ => [(3, .slice a1 x4.length c2)]) (fun ψ => [tree (.slice a1 x4.length c2) x4]) ?_ ?_)
 ·refine aQ (dA hx5 () (fun Q8 _ => [(0, .slice x_v0.1 v0.length x_v0.2), (3, .slice a1 Q8.1.length c2), (4, .int .i64 (Q8.2))]) (fun Q8 _ => [tree (.slice a1 Q8.1.length c2) Q8.1]) (.cons aA .nil) ?_)
  rintro _ Q8 z9 t11 H1 hi12 hb13
  unfold p_laws_toCondS_b0 at H1
  refine aD (sr (aF rfl (aF rfl (aG (bS 92 dL rfl) (aG (cM rfl rfl) (nl (cH H1 rfl (fun h16 H1 => ?_) (fun h16 H1 => ?_))))))))
  ·refine bH (nT (aD (aQ (aP (aF rfl (aF rfl (aF rfl (aF rfl (gdo H1 fun h17 H1 => (aI (bW dL ty92 rfl rfl h17 rfl (aN (aL aR))) ?_))))))))))
   refine aI (v := .agg #[.string (((nth v0 Q8.2.toNat).1).1), .string (((nth v0 Q8.2.toNat).1).2), .bool ((nth v0 Q8.2.toNat).2)]) (cA (i := Q8.2.toNat) ty92 rfl (aN (aL aR)) h17.lt) (bdo H1 fun r18 h19 H1 => (aI (bN (c_laws_toCond (nth v0 Q8.2.toNat) h19) rfl aO) (gdo H1 fun h20 H1 => (aI (bX dR ty99 rfl rfl h20 aB) (g0 (e_setT (l := Q8.1) (α := Cond) (oa := a1) Q8.2.toNat r18 (((), ()), ()) ty99 rfl rfl rfl h20.lt (cS _) (.cons aA .nil)) (aJ (nB (nT (?_)))))))))
   refine cT aB fun hn => ?_; rw [hn]
   exact aP (aF rfl (gdo H1 fun h21 H1 => (aG (bR rfl rfl h21) (aH rfl (aJ (nLI () (hi12 _ (sm H1)) (.cons aA .nil)))))))
  ·refine cW (xT (xT (xE (?_))))
   obtain rfl := hb13 _ (sm H1)
   exact nMC () ⟨rfl, trivial⟩ bT (.cons aA .nil)
 ·intro y10
  show At _ _ [(3, .slice a1 x4.length c2)] _ [tree (.slice a1 x4.length c2) x4] _
  refine nT (sr (aF rfl (aH rfl (nl (bQ ?_)))))
  obtain rfl := si H
  exact back1 (a1, c2) rfl (ResV.tmp (v := .slice a1 x4.length c2) rfl) rfl cK (.cons aA .nil)
noncomputable def p_spec_l6In (v0 : Int) (v1 : Int) (v2 : Int) : Option (Bool) := bd (cond (decide (v1 ≤ v0)) (some (decide (v0 ≤ v2))) (some (false))) fun b1 => some b1
theorem c_spec_l6In {r : Bool} (v0 : Int) (v1 : Int) (v2 : Int) (H : p_spec_l6In v0 v1 v2 = some r) : Fn' prog 75 #[.int .i64 (v0), .int .i64 (v1), .int .i64 (v2)] [] [] (ι := Unit) (fun _ => .bool (r)) (fun _ => []) (fun _ => []) := by
 refine cof (args := [_, _, _]) func75 ntmps75 fun c => ?_
 unfold p_spec_l6In at H
 refine sr (aH (v := .bool (false)) rfl (nl (bdo H fun b1 j2 H => (cZ [(6, .bool (b1))] ?_ ?_))))
 ·refine dC [(0, .int .i64 (v0)), (1, .int .i64 (v1)), (2, .int .i64 (v2))] ⟨rfl, rfl, rfl, trivial⟩ (bB rfl (bB rfl (aX (p_geq rfl rfl) ?_)))
  rcases aK (decide (v1 ≤ v0)) with h3 | h3
  ·have j2 := cdT h3 j2
   refine bC (aE rfl) h3 (aY rfl (aE rfl) (aY rfl (aE rfl) (aY rfl (p_leq rfl rfl) (aX (bP rfl rfl) (aX (p_assign rfl) ?_)))))
   obtain rfl := si j2
   show At _ _ _ _ _ _
   exact n1 ⟨rfl, trivial⟩
  ·have j2 := cdF h3 j2
   refine bC (aE rfl) h3 ?_
   iterate 3 refine bE rfl ?_
   refine aX (v := .bool (false)) (bO rfl rfl) (aX (v := .bool (false)) (p_assign rfl) ?_)
   obtain rfl := si j2
   show At _ _ _ _ _ _
   exact n1 ⟨rfl, trivial⟩
 obtain rfl := si H
 exact bQ bk
noncomputable def p_spec_l3Tag (v0 : Tag) : Option (Bool) := bd (cond (decide ((v0.1.size : Int) = 1)) (cond (decide ((v0.2.size : Int) = 1)) (gd (ix 0 v0.1.size) <| bd (p_spec_l6In ((sb v0.1 0).toNat : Int) 97 100) fun r7 => cond (r7) (gd (ix 0 v0.2.size) <| bd (p_spec_l6In ((sb v0.2 0).toNat : Int) 112 122) fun r11 => some (r11)) (some (false))) (some (false))) (some (false))) fun b2 => some b2
theorem c_spec_l3Tag {r : Bool} (v0 : Tag) (H : p_spec_l3Tag v0 = some r) : Fn' prog 98 #[.agg #[.string (v0.1), .string (v0.2)]] [] [] (ι := Unit) (fun _ => .bool (r)) (fun _ => []) (fun _ => []) := by
 refine cof (args := [_]) func98 ntmps98 fun c => ?_
 unfold p_spec_l3Tag at H
 refine sr (f1 (cC (t := 97) rfl) fun g1 => (aH (v := .bool (false)) rfl (nl (bdo H fun b2 j3 H => (cZ [(2, .bool (b2))] ?_ ?_)))))
 ·refine dC [(1, .pointer (some ⟨g1, 0, none⟩))] ⟨rfl, trivial⟩ (aX (cB fa97_0 rfl rfl) (aZ (bI ty9 rfl aB rfl) (aX (p_slen dV rfl) (aX (cP rfl rfl) ?_))))
  rcases aK (decide ((v0.1.size : Int) = 1)) with h4 | h4
  ·have j3 := cdT h4 j3
   refine bC (aE rfl) h4 (aY rfl (cB fa97_1 rfl rfl) (bA rfl (bI ty9 rfl aB rfl) (aY rfl (p_slen dV rfl) (aY rfl (cP rfl rfl) (aX (bP rfl rfl) ?_)))))
   rcases aK (decide ((v0.2.size : Int) = 1)) with h5 | h5
   ·have j3 := cdT h5 j3
    refine bC (aE rfl) h5 (aY rfl (cB fa97_0 rfl rfl) (bA rfl (bI ty9 rfl aB rfl) (gdo j3 fun h6 j3 => (aY rfl (p_six dV rfl rfl h6) (aY rfl (p_i8 underlying5 underlying3 rfl) (bdo j3 fun r7 h8 j3 => (bA rfl (bN (c_spec_l6In ((sb v0.1 0).toNat : Int) 97 100 h8) rfl aO) (aX (bP rfl rfl) ?_))))))))
    rcases aK (r7) with h9 | h9
    ·have j3 := cdT h9 j3
     refine bC (aE rfl) h9 (aY rfl (cB fa97_1 rfl rfl) (bA rfl (bI ty9 rfl aB rfl) (gdo j3 fun h10 j3 => (aY rfl (p_six dV rfl rfl h10) (aY rfl (p_i8 underlying5 underlying3 rfl) (bdo j3 fun r11 h12 j3 => (bA rfl (bN (c_spec_l6In ((sb v0.2 0).toNat : Int) 112 122 h12) rfl aO) (aX (bP rfl rfl) (aX (p_assign rfl) ?_)))))))))
     obtain rfl := si j3
     show At _ _ _ _ _ _
     exact n1 ⟨rfl, trivial⟩
    ·have j3 := cdF h9 j3
     refine bC (aE rfl) h9 ?_
     iterate 5 refine bE rfl ?_
     refine aX (v := .bool (false)) (bO rfl rfl) (aX (v := .bool (false)) (p_assign rfl) ?_)
     obtain rfl := si j3
     show At _ _ _ _ _ _
     exact n1 ⟨rfl, trivial⟩
   ·have j3 := cdF h5 j3
    refine bC (aE rfl) h5 ?_
    iterate 5 refine bE rfl ?_
    refine aX (v := .bool (false)) (bO rfl rfl) (bB (v := .bool (false)) rfl ?_)
    iterate 5 refine bE rfl ?_
    refine aX (v := .bool (false)) (bO rfl rfl) (aX (v := .bool (false)) (p_assign rfl) ?_)
    obtain rfl := si j3
    show At _ _ _ _ _ _
    exact n1 ⟨rfl, trivial⟩
  ·have j3 := cdF h4 j3
   refine bC (aE rfl) h4 ?_
   iterate 4 refine bE rfl ?_
   refine aX (v := .bool (false)) (bO rfl rfl) (bB (v := .bool (false)) rfl ?_)
   iterate 5 refine bE rfl ?_
   refine aX (v := .bool (false)) (bO rfl rfl) (bB (v := .bool (false)) rfl ?_)
   iterate 5 refine bE rfl ?_
   refine aX (v := .bool (false)) (bO rfl rfl) (aX (v := .bool (false)) (p_assign rfl) ?_)
   obtain rfl := si j3
   show At _ _ _ _ _ _
   exact n1 ⟨rfl, trivial⟩
 obtain rfl := si H
 exact bQ bk
noncomputable def p_spec_NameOk_b0 (v0 : (List Tag)) (Q5 : Int) : Option ((Int) ⊕ (Unit ⊕ Bool)) := cond (decide (Q5 < (v0.length : Int))) (bd (gd (ix Q5 v0.length) <| bd (p_spec_l3Tag (nth v0 Q5.toNat)) fun r17 => cond (!r17) (some (true)) (cond (decide (0 < Q5)) (gd (I64 (Q5 - 1)) <| gd (ix (Q5 - 1) v0.length) <| some (!sless ((nth v0 ((Q5 - 1).toNat)).1) ((nth v0 Q5.toNat).1))) (some (false)))) fun b14 => cond (b14) (some (.inr (.inr false))) (gd (I64 (Q5 + 1)) <| some (.inl (Q5 + 1)))) (some (.inr (.inl ())))
noncomputable def p_spec_NameOk (v0 : (List Tag)) : Option (Bool) := bd (lp (p_spec_NameOk_b0 v0) 0) <| sw (fun _ => bd (p_spec_l6In (v0.length : Int) 1 3) fun r26 => some r26) (fun q => some q)
theorem c_spec_NameOk {r : Bool} (v0 : (List Tag)) (x_v0 : Option Addr × Nat) (H : p_spec_NameOk v0 = some r) : Fn' prog 127 #[.slice x_v0.1 v0.length x_v0.2] [imm (.slice x_v0.1 v0.length x_v0.2) v0] [] (ι := Unit) (fun _ => .bool (r)) (fun _ => []) (fun _ => []) := by
 refine cof (args := [_]) func127 ntmps127 fun c => ?_
 unfold p_spec_NameOk at H
 refine sr (aH (v := .bool (false)) rfl (nl (aD (sr (aH (v := .int .i64 (0)) rfl (nl (bdo H fun x1 hx2 H => (cY (Λ := Unit) H (fun _ _ => [(0, .slice x_v0.1 v0.length x_v0.2)]) (fun _ _ => []) ?_ ?_))))))))
 ·refine aQ (dA hx2 () (fun Q5 _ => [(0, .slice x_v0.1 v0.length x_v0.2), (3, .int .i64 (Q5))]) (fun _ _ => []) bK ?_)
  rintro _ Q5 z6 t8 H1 hi9 hb10
  unfold p_spec_NameOk_b0 at H1
  refine aD (sr (aF rfl (aF rfl (aG (bS 97 dE rfl) (aG (cM rfl rfl) (nl (cH H1 rfl (fun h13 H1 => ?_) (fun h13 H1 => ?_))))))))
  ·refine bH (nT (aD (aQ (bdo H1 fun b14 j15 H1 => (cZ [(33, .bool (b14)), (0, .slice x_v0.1 v0.length x_v0.2), (3, .int .i64 (Q5))] ?_ ?_)))))
   ·refine dB [(0, .slice x_v0.1 v0.length x_v0.2), (3, .int .i64 (Q5))] mixed (.inr (by kernel_rfl)) ⟨rfl, rfl, trivial⟩ rfl (bB rfl (bB rfl (gdo j15 fun h16 j15 => (aZ (bW dE ty97 rfl rfl h16 rfl (aN (aL aR))) (aZ (v := .agg #[.string ((nth v0 Q5.toNat).1), .string ((nth v0 Q5.toNat).2)]) (cA (i := Q5.toNat) ty97 rfl (aN (aL aR)) h16.lt) (bdo j15 fun r17 h18 j15 => (aZ (bN (c_spec_l3Tag (nth v0 Q5.toNat) h18) rfl aO) (aX (cR rfl) ?_))))))))
    rcases aK (!r17) with h19 | h19
    ·have j15 := cdT h19 j15
     refine bC (aE rfl) h19 ?_
     iterate 16 refine bE rfl ?_
     refine aX (v := .bool (true)) (bP rfl rfl) ?_
     obtain rfl := si j15
     show At _ _ _ _ _ _
     exact n1 ⟨rfl, rfl, rfl, trivial⟩
    ·have j15 := cdF h19 j15
     refine bC (aE rfl) h19 (aY rfl (aE rfl) (aY rfl (cQ rfl rfl) ?_))
     rcases aK (decide (0 < Q5)) with h20 | h20
     ·have j15 := cdT h20 j15
      refine bD rfl (aE rfl) h20 (aY rfl (aE rfl) (aY rfl (aE rfl) (gdo j15 fun h21 j15 => (aY rfl (cN rfl rfl h21) (gdo j15 fun h22 j15 => (bA rfl (bW dE ty97 rfl rfl h22 rfl (aN (aL aR))) (bA rfl (bY (j := 0) ((Q5 - 1).toNat) fa97_0 rfl (aN (aL aR)) h22.lt rfl) (bA rfl (bZ (i := (Q5 - 1).toNat) (j := 0) ty9 rfl (aN (aL aR)) h22.lt rfl) (aY rfl (aE rfl) ?_)))))))))
      refine aY rfl (aE rfl) (bA rfl (bW dE ty97 rfl rfl h16 rfl (aN (aL aR))) (bA rfl (bY (j := 0) Q5.toNat fa97_0 rfl (aN (aL aR)) h16.lt rfl) (bA rfl (bZ (i := Q5.toNat) (j := 0) ty9 rfl (aN (aL aR)) h16.lt rfl) (aY rfl (p_sgeq rfl rfl) (aY rfl (bP rfl rfl) (aX (bO rfl rfl) ?_))))))
      obtain rfl := si j15
      show At _ _ _ _ _ _
      exact n1 ⟨rfl, rfl, rfl, trivial⟩
     ·have j15 := cdF h20 j15
      refine bD rfl (aE rfl) h20 ?_
      iterate 12 refine bE rfl ?_
      refine aY (v := .bool (false)) rfl (bO rfl rfl) (aX (v := .bool (false)) (bO rfl rfl) ?_)
      obtain rfl := si j15
      show At _ _ _ _ _ _
      exact n1 ⟨rfl, rfl, rfl, trivial⟩
   refine cH H1 rfl (fun h23 H1 => ?_) (fun h23 H1 => ?_)
   ·refine sr (aH (v := .bool (false)) rfl (nl (bQ (rB (rT (rT (rB (rT (rT (?_))))))))))
    obtain rfl := hb10 _ (sm H1)
    replace H := sw.r H
    obtain rfl := si H
    exact bk
   ·exact bH (nB (nT (aP (aF rfl (gdo H1 fun h24 H1 => (aG (bR rfl rfl h24) (aH rfl (aJ (nLI () (hi9 _ (sm H1)) bK)))))))))
  ·exact cW (xT (xT (xE (nMI () (hb10 _ (sm H1)) bK))))
 ·rintro e25 y7 H
  refine nT (sr (aF rfl (aG (bS 97 dE rfl) (bdo H fun r26 h27 H => (aI (bN (c_spec_l6In (v0.length : Int) 1 3 h27) rfl aO) (aH rfl (nl ?_)))))))
  obtain rfl := si H
  exact bQ bk
noncomputable def p_spec_l3Text_b0 (v0 : (List Tag)) (Q5 : ByteArray × Int) : Option ((ByteArray × Int) ⊕ (ByteArray)) := cond (decide (Q5.2 < (v0.length : Int))) (cond (decide (0 < Q5.2)) (gd (room (Q5.1.size + (⟨#[44]⟩ : ByteArray).size)) <| gd (ix Q5.2 v0.length) <| gd (room ((Q5.1 ++ (⟨#[44]⟩ : ByteArray)).size + ((nth v0 Q5.2.toNat).1).size)) <| gd (room (((Q5.1 ++ (⟨#[44]⟩ : ByteArray)) ++ ((nth v0 Q5.2.toNat).1)).size + (⟨#[61]⟩ : ByteArray).size)) <| gd (room ((((Q5.1 ++ (⟨#[44]⟩ : ByteArray)) ++ ((nth v0 Q5.2.toNat).1)) ++ (⟨#[61]⟩ : ByteArray)).size + ((nth v0 Q5.2.toNat).2).size)) <| gd (I64 (Q5.2 + 1)) <| some (.inl ((((Q5.1 ++ (⟨#[44]⟩ : ByteArray)) ++ ((nth v0 Q5.2.toNat).1)) ++ (⟨#[61]⟩ : ByteArray)) ++ ((nth v0 Q5.2.toNat).2), Q5.2 + 1))) (gd (ix Q5.2 v0.length) <| gd (room (Q5.1.size + ((nth v0 Q5.2.toNat).1).size)) <| gd (room ((Q5.1 ++ ((nth v0 Q5.2.toNat).1)).size + (⟨#[61]⟩ : ByteArray).size)) <| gd (room (((Q5.1 ++ ((nth v0 Q5.2.toNat).1)) ++ (⟨#[61]⟩ : ByteArray)).size + ((nth v0 Q5.2.toNat).2).size)) <| gd (I64 (Q5.2 + 1)) <| some (.inl (((Q5.1 ++ ((nth v0 Q5.2.toNat).1)) ++ (⟨#[61]⟩ : ByteArray)) ++ ((nth v0 Q5.2.toNat).2), Q5.2 + 1)))) (some (.inr Q5.1))
noncomputable def p_spec_l3Text (v0 : (List Tag)) : Option (ByteArray) := bd (lp (p_spec_l3Text_b0 v0) ((⟨#[]⟩ : ByteArray), 0)) fun x1 => some x1
theorem c_spec_l3Text {r : ByteArray} (v0 : (List Tag)) (x_v0 : Option Addr × Nat) (H : p_spec_l3Text v0 = some r) : Fn' prog 101 #[.slice x_v0.1 v0.length x_v0.2] [imm (.slice x_v0.1 v0.length x_v0.2) v0] [] (ι := Unit) (fun _ => .string (r)) (fun _ => []) (fun _ => []) := by
 refine cof (args := [_]) func101 ntmps101 fun c => ?_
 unfold p_spec_l3Text at H
 refine sr (aH (v := .string ((⟨#[]⟩ : ByteArray))) rfl (nl (sr (aH (v := .string ((⟨#[]⟩ : ByteArray))) rfl (nl (aD (sr (aH (v := .int .i64 (0)) rfl (nl (bdo H fun x1 hx2 H => (cX (ι := Unit) (fun ψ => [(3, .string (x1))]) (fun ψ => []) ?_ ?_)))))))))))
 ·refine aQ (dA hx2 () (fun Q5 _ => [(0, .slice x_v0.1 v0.length x_v0.2), (3, .string (Q5.1)), (4, .int .i64 (Q5.2))]) (fun _ _ => []) bK ?_)
  rintro _ Q5 z6 t8 H1 hi9 hb10
  unfold p_spec_l3Text_b0 at H1
  refine aD (sr (aF rfl (aF rfl (aG (bS 97 dE rfl) (aG (cM rfl rfl) (nl (cH H1 rfl (fun h13 H1 => ?_) (fun h13 H1 => ?_))))))))
  ·refine bH (nT (aD (aQ (aD (sr (aF rfl (aG (cQ rfl rfl) (nl (cH H1 rfl (fun h14 H1 => ?_) (fun h14 H1 => ?_))))))))))
   ·refine aP (aF rfl (gdo H1 fun h15 H1 => (aG (p_cat rfl rfl h15) (aH rfl (nl (tNwL [(3, .string (Q5.1 ++ (⟨#[44]⟩ : ByteArray))), (0, .slice x_v0.1 v0.length x_v0.2), (4, .int .i64 (Q5.2))] 1 [0, 1, 2, 3, 4, 5, 6, 7, 8, 9, 10, 11, 12, 13] [] [] mixed rfl (by kernel_rfl) (by kernel_rfl) (by decide) dD ⟨rfl, rfl, rfl, trivial⟩ rfl okNil (w_p rfl (aE rfl) (w_p rfl (aE rfl) (w_p rfl (aE rfl) (gdo H1 fun h16 H1 => ?_))))))))))
    refine w_o rfl (fun F => (bW dE ty97 rfl rfl h16 rfl (aN (aL aR)))) ?_
    refine w_o rfl (fun F => (bY (j := 0) Q5.2.toNat fa97_0 rfl (aN (aL aR)) h16.lt rfl)) ?_
    refine w_o rfl (fun F => (bZ (i := Q5.2.toNat) (j := 0) ty9 rfl (aN (aL aR)) h16.lt rfl)) (gdo H1 fun h17 H1 => (w_p rfl (p_cat rfl rfl h17) (gdo H1 fun h18 H1 => (w_p rfl (p_cat rfl rfl h18) (w_p rfl (aE rfl) (w_p rfl (aE rfl) ?_))))))
    refine w_o rfl (fun F => (bW dE ty97 rfl rfl h16 rfl (aN (aL aR)))) ?_
    refine w_o rfl (fun F => (bY (j := 0) Q5.2.toNat fa97_1 rfl (aN (aL aR)) h16.lt rfl)) ?_
    refine w_o rfl (fun F => (bZ (i := Q5.2.toNat) (j := 1) ty9 rfl (aN (aL aR)) h16.lt rfl)) (gdo H1 fun h19 H1 => (w_p rfl (p_cat rfl rfl h19) (cI ?_)))
    show Rg _ _ _ _ _ _ _ _ _
    exact aH rfl (aJ (nB (nT (aP (aF rfl (gdo H1 fun h20 H1 => (aG (bR rfl rfl h20) (aH rfl (aJ (nLI () (hi9 _ (sm H1)) bK))))))))))
   ·refine bH (nT (tNwL [(0, .slice x_v0.1 v0.length x_v0.2), (3, .string (Q5.1)), (4, .int .i64 (Q5.2))] 1 [0, 1, 2, 3, 4, 5, 6, 7, 8, 9, 10, 11, 12, 13] [] [] mixed rfl (by kernel_rfl) (by kernel_rfl) (by decide) dD ⟨rfl, rfl, rfl, trivial⟩ rfl okNil (w_p rfl (aE rfl) (w_p rfl (aE rfl) (w_p rfl (aE rfl) (gdo H1 fun h21 H1 => ?_))))))
    refine w_o rfl (fun F => (bW dE ty97 rfl rfl h21 rfl (aN (aL aR)))) ?_
    refine w_o rfl (fun F => (bY (j := 0) Q5.2.toNat fa97_0 rfl (aN (aL aR)) h21.lt rfl)) ?_
    refine w_o rfl (fun F => (bZ (i := Q5.2.toNat) (j := 0) ty9 rfl (aN (aL aR)) h21.lt rfl)) (gdo H1 fun h22 H1 => (w_p rfl (p_cat rfl rfl h22) (gdo H1 fun h23 H1 => (w_p rfl (p_cat rfl rfl h23) (w_p rfl (aE rfl) (w_p rfl (aE rfl) ?_))))))
    refine w_o rfl (fun F => (bW dE ty97 rfl rfl h21 rfl (aN (aL aR)))) ?_
    refine w_o rfl (fun F => (bY (j := 0) Q5.2.toNat fa97_1 rfl (aN (aL aR)) h21.lt rfl)) ?_
    refine w_o rfl (fun F => (bZ (i := Q5.2.toNat) (j := 1) ty9 rfl (aN (aL aR)) h21.lt rfl)) (gdo H1 fun h24 H1 => (w_p rfl (p_cat rfl rfl h24) (cI ?_)))
    show Rg _ _ _ _ _ _ _ _ _
    exact aH rfl (aJ (nB (nT (aP (aF rfl (gdo H1 fun h25 H1 => (aG (bR rfl rfl h25) (aH rfl (aJ (nLI () (hi9 _ (sm H1)) bK))))))))))
  ·refine cW (xT (xT (xE (?_))))
   obtain rfl := hb10 _ (sm H1)
   exact nMC () ⟨rfl, trivial⟩ bT bK
 ·intro y7
  show At _ _ [(3, .string (x1))] _ [] _
  refine nT (sr (aF rfl (aH rfl (nl ?_))))
  obtain rfl := si H
  exact bQ bk
noncomputable def p_spec_l3Has_b0 (v0 : (List Tag)) (v1 : Tag) (Q6 : Int) : Option ((Int) ⊕ (Unit ⊕ Bool)) := cond (decide (Q6 < (v0.length : Int))) (gd (ix Q6 v0.length) <| cond (decide (nth v0 Q6.toNat = v1)) (some (.inr (.inr true))) (gd (I64 (Q6 + 1)) <| some (.inl (Q6 + 1)))) (some (.inr (.inl ())))
noncomputable def p_spec_l3Has (v0 : (List Tag)) (v1 : Tag) : Option (Bool) := bd (lp (p_spec_l3Has_b0 v0 v1) 0) <| sw (fun _ => some false) (fun q => some q)
theorem c_spec_l3Has {r : Bool} (v0 : (List Tag)) (x_v0 : Option Addr × Nat) (v1 : Tag) (H : p_spec_l3Has v0 v1 = some r) : Fn' prog 182 #[.slice x_v0.1 v0.length x_v0.2, .agg #[.string (v1.1), .string (v1.2)]] [imm (.slice x_v0.1 v0.length x_v0.2) v0] [] (ι := Unit) (fun _ => .bool (r)) (fun _ => []) (fun _ => []) := by
 refine cof (args := [_, _]) func182 ntmps182 fun c => ?_
 unfold p_spec_l3Has at H
 refine sr (f1 (cC (t := 97) rfl) fun g1 => (aH (v := .bool (false)) rfl (nl (aD (sr (aH (v := .int .i64 (0)) rfl (nl (bdo H fun x2 hx3 H => (cY (Λ := Unit) H (fun _ _ => []) (fun _ _ => []) ?_ ?_)))))))))
 ·refine aQ (dA hx3 () (fun Q6 _ => [(0, .slice x_v0.1 v0.length x_v0.2), (3, .pointer (some ⟨g1, 0, none⟩)), (5, .int .i64 (Q6))]) (fun _ _ => [box g1 97 [.string (v1.1), .string (v1.2)]]) (.cons aA .nil) ?_)
  rintro _ Q6 z7 t9 H1 hi10 hb11
  unfold p_spec_l3Has_b0 at H1
  refine aD (sr (aF rfl (aF rfl (aG (bS 97 dE rfl) (aG (cM rfl rfl) (nl (cH H1 rfl (fun h14 H1 => ?_) (fun h14 H1 => ?_))))))))
  ·refine bH (nT (aD (aQ (aD (dB [(0, .slice x_v0.1 v0.length x_v0.2), (3, .pointer (some ⟨g1, 0, none⟩)), (5, .int .i64 (Q6))] mixed (.inr (by kernel_rfl)) ⟨rfl, rfl, rfl, trivial⟩ rfl (bB rfl (bB rfl (gdo H1 fun h15 H1 => (aZ (bW dE ty97 rfl rfl h15 rfl (aN (aL aR))) (aZ (v := .agg #[.string ((nth v0 Q6.toNat).1), .string ((nth v0 Q6.toNat).2)]) (cA (i := Q6.toNat) ty97 rfl (aN (aL aR)) h15.lt) ?_))))))))))
   refine aZ (bJ ty97 rfl aB rfl) (aX (v := .bool (decide (nth v0 Q6.toNat = v1))) (p_aeql (a := nth v0 Q6.toNat) (b := v1) ae97 rfl rfl rfl rfl) (nT (cH H1 rfl (fun h16 H1 => ?_) (fun h16 H1 => ?_))))
   ·refine sr (aH (v := .bool (true)) rfl (nl (bQ (rB (rT (rT (rB (rT (rT (?_))))))))))
    obtain rfl := hb11 _ (sm H1)
    replace H := sw.r H
    obtain rfl := si H
    exact bk
   ·exact bH (nB (nT (aP (aF rfl (gdo H1 fun h17 H1 => (aG (bR rfl rfl h17) (aH rfl (aJ (nLI () (hi10 _ (sm H1)) (.cons aA .nil))))))))))
  ·exact cW (xT (xT (xE (nMI () (hb11 _ (sm H1)) bK))))
 ·rintro e18 y8 H
  refine nT (sr (aH (v := .bool (false)) rfl (nl ?_)))
  obtain rfl := si H
  exact bQ bk
noncomputable def p_spec_l11Ids_b0 (v0 : (List (List Tag))) (v1 : Tag) (Q9 : (List Int) × Int) : Option (((List Int) × Int) ⊕ ((List Int))) := cond (decide (Q9.2 < (v0.length : Int))) (gd (ix Q9.2 v0.length) <| bd (p_spec_l3Has (nth v0 Q9.2.toNat) v1) fun r19 => cond (r19) (gd (I64 (Q9.2 + 1)) <| gd (room (Q9.1.length + 1)) <| some (.inl ((Q9.1 ++ [Q9.2 + 1]), Q9.2 + 1))) (gd (I64 (Q9.2 + 1)) <| some (.inl (Q9.1, Q9.2 + 1)))) (some (.inr Q9.1))
noncomputable def p_spec_l11Ids (v0 : (List (List Tag))) (v1 : Tag) : Option ((List Int)) := bd (lp (p_spec_l11Ids_b0 v0 v1) (([] : List Int), 0)) fun x5 => some x5
theorem c_spec_l11Ids {r : (List Int)} (v0 : (List (List Tag))) (x_v0 : Option Addr × Nat) (v1 : Tag) (H : p_spec_l11Ids v0 v1 = some r) : Fn' prog 129 #[.slice x_v0.1 v0.length x_v0.2, .agg #[.string (v1.1), .string (v1.2)]] [imm (.slice x_v0.1 v0.length x_v0.2) v0] [] (ι := Option Addr × Nat) (fun x => .slice x.1 r.length x.2) (fun _ => []) (fun x => [tree (.slice x.1 r.length x.2) r]) := by
 refine cof (args := [_, _]) func129 ntmps129 fun c => ?_
 unfold p_spec_l11Ids at H
 refine bM aR fun X1 => (sr (f1 (cC (t := 97) rfl) fun g2 => (aH (v := .slice none 0 0) rfl (nl (sr (f2 (e_lit0 Int dT ty3) fun a3 c4 => (aH rfl (nl (aD (sr (aH (v := .int .i64 (0)) rfl (nl (bdo H fun x5 hx6 H => ?_)))))))))))))
 refine cX (ι := Option Addr × Nat) (fun ψ => [(5, .slice ψ.1 x5.length ψ.2)]) (fun ψ => [tree (.slice ψ.1 x5.length ψ.2) x5]) ?_ ?_
 ·refine aQ (dA hx6 (a3, c4) (fun Q9 z10 => [(0, .slice x_v0.1 v0.length x_v0.2), (3, .pointer (some ⟨g2, 0, none⟩)), (5, .slice z10.1 Q9.1.length z10.2), (6, .int .i64 (Q9.2))]) (fun Q9 z10 => [box g2 97 [.string (v1.1), .string (v1.2)], tree (.slice z10.1 Q9.1.length z10.2) Q9.1]) (.cons dl1 (.cons aA .nil)) ?_)
  rintro _ Q9 z10 t12 H1 hi13 hb14
  unfold p_spec_l11Ids_b0 at H1
  refine aD (sr (aF rfl (aF rfl (aG (bS 105 dN rfl) (aG (cM rfl rfl) (nl (cH H1 rfl (fun h17 H1 => ?_) (fun h17 H1 => ?_))))))))
  ·refine bH (nT (aD (aQ (aD (dB [(0, .slice x_v0.1 v0.length x_v0.2), (3, .pointer (some ⟨g2, 0, none⟩)), (5, .slice z10.1 Q9.1.length z10.2), (6, .int .i64 (Q9.2))] mixed (.inr (by kernel_rfl)) ⟨rfl, rfl, rfl, rfl, trivial⟩ rfl (bB rfl (bB rfl (gdo H1 fun h18 H1 => (aZ (bW dN ty105 rfl rfl h18 rfl (aL (aT aR))) (aZ (bZ (i := Q9.2.toNat) (j := 0) ty105 rfl (aL (aT aR)) h18.lt rfl) ?_))))))))))
   refine aZ (bJ ty97 rfl aB rfl) (bdo H1 fun r19 h20 H1 => (aZ (bN (c_spec_l3Has (nth v0 Q9.2.toNat) ((X1 Q9.2.toNat).1, (X1 Q9.2.toNat).2.1) v1 h20) rfl (aC (aL (aS (aW aR h18.lt))) aO)) (nT (cH H1 rfl (fun h21 H1 => ?_) (fun h21 H1 => ?_)))))
   ·refine aP (aF rfl (aF rfl (gdo H1 fun h22 H1 => (aG (bR rfl rfl h22) (f1 (e_lit (vs := [(0, .int .i64 (Q9.2 + 1))]) [.int .i64 (Q9.2 + 1)] dT ty3 rfl (by decide) (by decide) (by kernel_rfl)) fun g23 => (gdo H1 fun h26 H1 => (f2 (e_app1 (l := Q9.1) (α := Int) (Q9.2 + 1) () dT ty3 rfl rfl (h26.b (by decide)) h26.x rfl (cS _) (.cons dl2 (.cons aA .nil))) fun a24 c25 => (aH rfl (aJ (nB (nT (?_))))))))))))
    exact aP (aF rfl (aG (bR rfl rfl h22) (aH rfl (aJ (nLI (a24, c25) (hi13 _ (sm H1)) (.cons dl1 (.cons aA .nil)))))))
   ·exact bH (nB (nT (aP (aF rfl (gdo H1 fun h27 H1 => (aG (bR rfl rfl h27) (aH rfl (aJ (nLI (z10.1, z10.2) (hi13 _ (sm H1)) (.cons aA (.cons aA .nil)))))))))))
  ·refine cW (xT (xT (xE (?_))))
   obtain rfl := hb14 _ (sm H1)
   exact nMC (z10.1, z10.2) ⟨rfl, trivial⟩ bT (.cons dl1 .nil)
 ·intro y11
  show At _ _ [(5, .slice y11.1 x5.length y11.2)] _ [tree (.slice y11.1 x5.length y11.2) x5] _
  refine nT (sr (aF rfl (aH rfl (nl (bQ ?_)))))
  obtain rfl := si H
  exact back1 y11 rfl (ResV.tmp (v := .slice y11.1 x5.length y11.2) rfl) rfl cK (.cons aA .nil)
noncomputable def p_spec_l11Less (v0 : Tag) (v1 : Tag) : Option (Bool) := bd (cond (sless v0.1 v1.1) (some (true)) (cond (decide (v0.1 = v1.1)) (some (sless v0.2 v1.2)) (some (false)))) fun b3 => some b3
theorem c_spec_l11Less {r : Bool} (v0 : Tag) (v1 : Tag) (H : p_spec_l11Less v0 v1 = some r) : Fn' prog 130 #[.agg #[.string (v0.1), .string (v0.2)], .agg #[.string (v1.1), .string (v1.2)]] [] [] (ι := Unit) (fun _ => .bool (r)) (fun _ => []) (fun _ => []) := by
 refine cof (args := [_, _]) func130 ntmps130 fun c => ?_
 unfold p_spec_l11Less at H
 refine sr (f1 (cC (t := 97) rfl) fun g1 => (f1 (cC (t := 97) rfl) fun g2 => (aH (v := .bool (false)) rfl (nl (bdo H fun b3 j4 H => (cZ [(4, .bool (b3))] ?_ ?_))))))
 ·refine dC [(3, .pointer (some ⟨g2, 0, none⟩)), (2, .pointer (some ⟨g1, 0, none⟩))] ⟨rfl, rfl, trivial⟩ (aX (cB fa97_0 rfl rfl) (aZ (bI ty9 rfl hs1 rfl) (aX (cB fa97_0 rfl rfl) (aZ (bI ty9 rfl aB rfl) (aX (p_slss rfl rfl) ?_)))))
  rcases aK (sless v0.1 v1.1) with h5 | h5
  ·have j4 := cdT h5 j4
   refine bC (aE rfl) h5 ?_
   iterate 12 refine bE rfl ?_
   refine aX (v := .bool (true)) (bP rfl rfl) (aX (v := .bool (true)) (p_assign rfl) ?_)
   obtain rfl := si j4
   show At _ _ _ _ _ _
   exact n1 ⟨rfl, trivial⟩
  ·have j4 := cdF h5 j4
   refine bC (aE rfl) h5 (aY rfl (cB fa97_0 rfl rfl) (bA rfl (bI ty9 rfl hs1 rfl) (aY rfl (cB fa97_0 rfl rfl) (bA rfl (bI ty9 rfl aB rfl) (aY rfl (p_seql rfl rfl) ?_)))))
   rcases aK (decide (v0.1 = v1.1)) with h6 | h6
   ·have j4 := cdT h6 j4
    refine bD rfl (aE rfl) h6 (aY rfl (cB fa97_1 rfl rfl) (bA rfl (bI ty9 rfl hs1 rfl) (aY rfl (cB fa97_1 rfl rfl) (bA rfl (bI ty9 rfl aB rfl) (aY rfl (p_slss rfl rfl) (aY rfl (bP rfl rfl) (aX (bO rfl rfl) (aX (p_assign rfl) ?_))))))))
    obtain rfl := si j4
    show At _ _ _ _ _ _
    exact n1 ⟨rfl, trivial⟩
   ·have j4 := cdF h6 j4
    refine bD rfl (aE rfl) h6 ?_
    iterate 5 refine bE rfl ?_
    refine aY (v := .bool (false)) rfl (bO rfl rfl) (aX (v := .bool (false)) (bO rfl rfl) (aX (v := .bool (false)) (p_assign rfl) ?_))
    obtain rfl := si j4
    show At _ _ _ _ _ _
    exact n1 ⟨rfl, trivial⟩
 obtain rfl := si H
 exact bQ bk
noncomputable def p_spec_l11Same_b0 (v0 : (List Int)) (v1 : (List Int)) (Q6 : Int) : Option ((Int) ⊕ (Unit ⊕ Bool)) := cond (decide (Q6 < (v0.length : Int))) (gd (ix Q6 v0.length) <| gd (ix Q6 v1.length) <| cond (!decide ((nth v0 Q6.toNat) = (nth v1 Q6.toNat))) (some (.inr (.inr false))) (gd (I64 (Q6 + 1)) <| some (.inl (Q6 + 1)))) (some (.inr (.inl ())))
noncomputable def p_spec_l11Same (v0 : (List Int)) (v1 : (List Int)) : Option (Bool) := cond (!decide ((v0.length : Int) = (v1.length : Int))) (some false) (bd (lp (p_spec_l11Same_b0 v0 v1) 0) <| sw (fun _ => some true) (fun q => some q))
theorem c_spec_l11Same {r : Bool} (v0 : (List Int)) (x_v0 : Option Addr × Nat) (v1 : (List Int)) (x_v1 : Option Addr × Nat) (H : p_spec_l11Same v0 v1 = some r) : Fn' prog 128 #[.slice x_v0.1 v0.length x_v0.2, .slice x_v1.1 v1.length x_v1.2] [imm (.slice x_v0.1 v0.length x_v0.2) v0, imm (.slice x_v1.1 v1.length x_v1.2) v1] [] (ι := Unit) (fun _ => .bool (r)) (fun _ => []) (fun _ => []) := by
 refine cof (args := [_, _]) func128 ntmps128 fun c => ?_
 unfold p_spec_l11Same at H
 refine sr (aH (v := .bool (false)) rfl (nl (aD (sr (aF rfl (aG (bS 3 dT rfl) (aF rfl (aG (bS 3 dT rfl) (aG (cO rfl rfl) (nl (cH H rfl (fun h1 H => ?_) (fun h1 H => ?_))))))))))))
 ·refine sr (aH (v := .bool (false)) rfl (nl (bQ (rT (?_)))))
  obtain rfl := si H
  exact bk
 ·refine bH (nT (aD (sr (aH (v := .int .i64 (0)) rfl (nl (bdo H fun x2 hx3 H => (cY (Λ := Unit) H (fun _ _ => []) (fun _ _ => []) ?_ ?_)))))))
  ·refine aQ (dA hx3 () (fun Q6 _ => [(0, .slice x_v0.1 v0.length x_v0.2), (1, .slice x_v1.1 v1.length x_v1.2), (5, .int .i64 (Q6))]) (fun _ _ => []) bK ?_)
   rintro _ Q6 z7 t9 H1 hi10 hb11
   unfold p_spec_l11Same_b0 at H1
   refine aD (sr (aF rfl (aF rfl (aG (bS 3 dT rfl) (aG (cM rfl rfl) (nl (cH H1 rfl (fun h14 H1 => ?_) (fun h14 H1 => ?_))))))))
   ·refine bH (nT (aD (aQ (aD (dB [(0, .slice x_v0.1 v0.length x_v0.2), (1, .slice x_v1.1 v1.length x_v1.2), (5, .int .i64 (Q6))] mixed (.inr (by kernel_rfl)) ⟨rfl, rfl, rfl, trivial⟩ rfl (bB rfl (bB rfl (gdo H1 fun h15 H1 => (aZ (bW dT ty3 rfl rfl h15 rfl (aN (aL aR))) (aZ (bZ (i := Q6.toNat) (j := 0) ty3 rfl (aN (aL aR)) h15.lt rfl) ?_))))))))))
    refine bB rfl (bB rfl (gdo H1 fun h16 H1 => (aZ (bW dT ty3 rfl rfl h16 rfl (aN (aL aR.s))) (aZ (bZ (i := Q6.toNat) (j := 0) ty3 rfl (aN (aL aR.s)) h16.lt rfl) (aX (cO rfl rfl) (nT (cH H1 rfl (fun h17 H1 => ?_) (fun h17 H1 => ?_))))))))
    ·refine sr (aH (v := .bool (false)) rfl (nl (bQ (rB (rT (rT (rB (rT (rT (?_))))))))))
     obtain rfl := hb11 _ (sm H1)
     replace H := sw.r H
     obtain rfl := si H
     exact bk
    ·exact bH (nB (nT (aP (aF rfl (gdo H1 fun h18 H1 => (aG (bR rfl rfl h18) (aH rfl (aJ (nLI () (hi10 _ (sm H1)) bK)))))))))
   ·exact cW (xT (xT (xE (nMI () (hb11 _ (sm H1)) bK))))
  ·rintro e19 y8 H
   refine nT (sr (aH (v := .bool (true)) rfl (nl ?_)))
   obtain rfl := si H
   exact bQ bk
noncomputable def p_spec_IndexOk_b1 (v0 : Index) (Q9 : Int × Int) (Q26 : Int) : Option ((Int) ⊕ (Unit ⊕ Bool)) := cond (decide (Q26 < Q9.2)) (bd (p_spec_l3Text (nth v0.1 Q9.2.toNat)) fun r35 => gd (ix Q26 v0.1.length) <| bd (p_spec_l3Text (nth v0.1 Q26.toNat)) fun r38 => cond (decide (r35 = r38)) (some (.inr (.inr false))) (gd (I64 (Q26 + 1)) <| some (.inl (Q26 + 1)))) (some (.inr (.inl ())))
noncomputable def p_spec_IndexOk_b0 (v0 : Index) (Q9 : Int × Int) : Option ((Int × Int) ⊕ (Int ⊕ Bool)) := cond (decide (Q9.2 < (v0.1.length : Int))) (gd (ix Q9.2 v0.1.length) <| bd (p_spec_NameOk (nth v0.1 Q9.2.toNat)) fun r19 => cond (!r19) (some (.inr (.inr false))) (bd (lp (p_spec_IndexOk_b1 v0 Q9) 0) <| sw (fun _ => gd (I64 (Q9.1 + ((nth v0.1 Q9.2.toNat).length : Int))) <| gd (I64 (Q9.2 + 1)) <| some (.inl (Q9.1 + ((nth v0.1 Q9.2.toNat).length : Int), Q9.2 + 1))) (fun q => some (.inr (.inr q))))) (some (.inr (.inl Q9.1)))
noncomputable def p_spec_IndexOk_b2 (v0 : Index) (Q50 : Int × Int) : Option ((Int × Int) ⊕ (Int ⊕ Bool)) := cond (decide (Q50.2 < (v0.2.length : Int))) (gd (ix Q50.2 v0.2.length) <| cond (decide ((((nth v0.2 Q50.2.toNat).2).length : Int) = 0)) (some (.inr (.inr false))) (bd (p_spec_l11Ids v0.1 ((nth v0.2 Q50.2.toNat).1)) fun r62 => bd (p_spec_l11Same ((nth v0.2 Q50.2.toNat).2) r62) fun r65 => cond (!r65) (some (.inr (.inr false))) (cond (decide (0 < Q50.2)) (gd (I64 (Q50.2 - 1)) <| gd (ix (Q50.2 - 1) v0.2.length) <| bd (p_spec_l11Less ((nth v0.2 ((Q50.2 - 1).toNat)).1) ((nth v0.2 Q50.2.toNat).1)) fun r71 => cond (!r71) (some (.inr (.inr false))) (gd (I64 (Q50.1 - (((nth v0.2 Q50.2.toNat).2).length : Int))) <| gd (I64 (Q50.2 + 1)) <| some (.inl (Q50.1 - (((nth v0.2 Q50.2.toNat).2).length : Int), Q50.2 + 1)))) (gd (I64 (Q50.1 - (((nth v0.2 Q50.2.toNat).2).length : Int))) <| gd (I64 (Q50.2 + 1)) <| some (.inl (Q50.1 - (((nth v0.2 Q50.2.toNat).2).length : Int), Q50.2 + 1)))))) (some (.inr (.inl Q50.1)))
noncomputable def p_spec_IndexOk (v0 : Index) : Option (Bool) := cond (decide (6 < (v0.1.length : Int))) (some false) (bd (lp (p_spec_IndexOk_b0 v0) (0, 0)) <| sw (fun e45 => bd (lp (p_spec_IndexOk_b2 v0) (e45, 0)) <| sw (fun e78 => some (decide (e78 = 0))) (fun q => some q)) (fun q => some q))
theorem c_spec_IndexOk {r : Bool} (v0 : Index) (x_v0 : (Option Addr × Nat) × (Option Addr × Nat)) (H : p_spec_IndexOk v0 = some r) : Fn' prog 73 #[.agg #[.slice x_v0.1.1 v0.1.length x_v0.1.2, .slice x_v0.2.1 v0.2.length x_v0.2.2]] [imm (.slice x_v0.1.1 v0.1.length x_v0.1.2) v0.1, imm (.slice x_v0.2.1 v0.2.length x_v0.2.2) v0.2] [] (ι := Unit) (fun _ => .bool (r)) (fun _ => []) (fun _ => []) := by
 refine cof (args := [_]) func73 ntmps73 fun c => ?_
 unfold p_spec_IndexOk at H
 refine bM aR fun X1 => (bM aR.s.s fun X2 => (sr (f1 (cC (t := 38) rfl) fun g3 => (aH (v := .bool (false)) rfl (nl (aD (sr (aG (cB fa38_0 rfl rfl) (aI (bI ty35 rfl aB rfl) (aG (bS 105 dN rfl) (aG (cQ rfl rfl) (nl ?_))))))))))))
 refine cH H rfl (fun h4 H => ?_) (fun h4 H => ?_)
 ·refine sr (aH (v := .bool (false)) rfl (nl (bQ (rT (?_)))))
  obtain rfl := si H
  exact bk
 ·refine bH (nT (sr (aH (v := .int .i64 (0)) rfl (nl (aD (sr (aH (v := .int .i64 (0)) rfl (nl (bdo H fun x5 hx6 H => (cY (Λ := Unit) H (fun e45 _ => [(1, .pointer (some ⟨g3, 0, none⟩)), (3, .int .i64 (e45))]) (fun _ _ => [box g3 38 [.slice x_v0.1.1 v0.1.length x_v0.1.2, .slice x_v0.2.1 v0.2.length x_v0.2.2]]) ?_ ?_))))))))))
  ·refine aQ (dA hx6 () (fun Q9 _ => [(1, .pointer (some ⟨g3, 0, none⟩)), (3, .int .i64 (Q9.1)), (4, .int .i64 (Q9.2))]) (fun _ _ => [box g3 38 [.slice x_v0.1.1 v0.1.length x_v0.1.2, .slice x_v0.2.1 v0.2.length x_v0.2.2]]) (.cons aA .nil) ?_)
   rintro _ Q9 z10 t12 H1 hi13 hb14
   unfold p_spec_IndexOk_b0 at H1
   refine aD (sr (aF rfl (aG (cB fa38_0 rfl rfl) (aI (bI ty35 rfl aB rfl) (aG (bS 105 dN rfl) (aG (cM rfl rfl) (nl (cH H1 rfl (fun h17 H1 => ?_) (fun h17 H1 => ?_)))))))))
   ·refine bH (nT (aD (aQ (aD (sr (aG (cB fa38_0 rfl rfl) (aI (bI ty35 rfl aB rfl) (aF rfl (gdo H1 fun h18 H1 => (aI (bW dN ty105 rfl rfl h18 rfl (aL (aT aR.s))) (aI (bZ (i := Q9.2.toNat) (j := 0) ty105 rfl (aL (aT aR.s)) h18.lt rfl) ?_)))))))))))
    refine bdo H1 fun r19 h20 H1 => (aI (bN (c_spec_NameOk (nth v0.1 Q9.2.toNat) ((X1 Q9.2.toNat).1, (X1 Q9.2.toNat).2.1) h20) rfl (aC (aL (aS (aW aR.s h18.lt))) aO)) (aG (cR rfl) (nl (cH H1 rfl (fun h21 H1 => ?_) (fun h21 H1 => ?_)))))
    ·refine sr (aH (v := .bool (false)) rfl (nl (bQ (rT (rB (rT (rT (rB (rT (rT (?_)))))))))))
     obtain rfl := hb14 _ (sm H1)
     replace H := sw.r H
     obtain rfl := si H
     exact bk
    ·refine bH (nT (aD (sr (aH (v := .int .i64 (0)) rfl (nl (bdo H1 fun x22 hx23 H1 => (cY (Λ := Unit) H1 (fun _ _ => [(1, .pointer (some ⟨g3, 0, none⟩)), (3, .int .i64 (Q9.1)), (4, .int .i64 (Q9.2))]) (fun _ _ => [box g3 38 [.slice x_v0.1.1 v0.1.length x_v0.1.2, .slice x_v0.2.1 v0.2.length x_v0.2.2]]) ?_ ?_)))))))
     ·refine aQ (dA hx23 () (fun Q26 _ => [(1, .pointer (some ⟨g3, 0, none⟩)), (3, .int .i64 (Q9.1)), (4, .int .i64 (Q9.2)), (5, .int .i64 (Q26))]) (fun _ _ => [box g3 38 [.slice x_v0.1.1 v0.1.length x_v0.1.2, .slice x_v0.2.1 v0.2.length x_v0.2.2]]) (.cons aA .nil) ?_)
      rintro _ Q26 z27 t29 H2 hi30 hb31
      unfold p_spec_IndexOk_b1 at H2
      refine aD (sr (aF rfl (aF rfl (aG (cM rfl rfl) (nl (cH H2 rfl (fun h34 H2 => ?_) (fun h34 H2 => ?_)))))))
      ·refine bH (nT (aD (aQ (aD (dB [(1, .pointer (some ⟨g3, 0, none⟩)), (3, .int .i64 (Q9.1)), (4, .int .i64 (Q9.2)), (5, .int .i64 (Q26))] mixed (.inr (by kernel_rfl)) ⟨rfl, rfl, rfl, rfl, trivial⟩ rfl (aX (cB fa38_0 rfl rfl) (aZ (bI ty35 rfl aB rfl) (bB rfl (aZ (bW dN ty105 rfl rfl h18 rfl (aL (aT aR.s))) (aZ (bZ (i := Q9.2.toNat) (j := 0) ty105 rfl (aL (aT aR.s)) h18.lt rfl) ?_))))))))))
       refine bdo H2 fun r35 h36 H2 => (aZ (bN (c_spec_l3Text (nth v0.1 Q9.2.toNat) ((X1 Q9.2.toNat).1, (X1 Q9.2.toNat).2.1) h36) rfl (aC (aL (aS (aW aR.s h18.lt))) aO)) (aX (cB fa38_0 rfl rfl) (aZ (bI ty35 rfl aB rfl) (bB rfl (gdo H2 fun h37 H2 => (aZ (bW dN ty105 rfl rfl h37 rfl (aL (aT aR.s))) (aZ (bZ (i := Q26.toNat) (j := 0) ty105 rfl (aL (aT aR.s)) h37.lt rfl) (bdo H2 fun r38 h39 H2 => (aZ (bN (c_spec_l3Text (nth v0.1 Q26.toNat) ((X1 Q26.toNat).1, (X1 Q26.toNat).2.1) h39) rfl (aC (aL (aS (aW aR.s h37.lt))) aO)) ?_)))))))))
       refine aX (p_seql rfl rfl) (nT (cH H2 rfl (fun h40 H2 => ?_) (fun h40 H2 => ?_)))
       ·refine sr (aH (v := .bool (false)) rfl (nl (bQ (rB (rT (rT (rB (rT (rT (rB (rT (rT (rB (rT (rT (?_))))))))))))))))
        obtain rfl := hb31 _ (sm H2)
        replace H1 := sw.r H1
        obtain rfl := hb14 _ (sm H1)
        replace H := sw.r H
        obtain rfl := si H
        exact bk
       ·exact bH (nB (nT (aP (aF rfl (gdo H2 fun h41 H2 => (aG (bR rfl rfl h41) (aH rfl (aJ (nLI () (hi30 _ (sm H2)) (.cons aA .nil))))))))))
      ·exact cW (xT (xT (xE (nMI () (hb31 _ (sm H2)) (.cons aA .nil)))))
     ·rintro e42 y28 H1
      refine nT (aP (aF rfl (aG (cB fa38_0 rfl rfl) (aI (bI ty35 rfl aB rfl) (aF rfl (aI (bW dN ty105 rfl rfl h18 rfl (aL (aT aR.s))) (aI (bZ (i := Q9.2.toNat) (j := 0) ty105 rfl (aL (aT aR.s)) h18.lt rfl) (aG (bS 97 dE rfl) (gdo H1 fun h43 H1 => ?_)))))))))
      exact aG (bR rfl rfl h43) (aH rfl (aJ (nB (nT (aP (aF rfl (gdo H1 fun h44 H1 => (aG (bR rfl rfl h44) (aH rfl (aJ (nLI () (hi13 _ (sm H1)) (.cons aA .nil))))))))))))
   ·exact cW (xT (xT (xE (nMI () (hb14 _ (sm H1)) (.cons aA .nil)))))
  ·rintro e45 y11 H
   refine nT (aD (sr (aH (v := .int .i64 (0)) rfl (nl (bdo H fun x46 hx47 H => (cY (Λ := Unit) H (fun e78 _ => [(3, .int .i64 (e78))]) (fun _ _ => []) ?_ ?_))))))
   ·refine aQ (dA hx47 () (fun Q50 _ => [(1, .pointer (some ⟨g3, 0, none⟩)), (3, .int .i64 (Q50.1)), (6, .int .i64 (Q50.2))]) (fun _ _ => [box g3 38 [.slice x_v0.1.1 v0.1.length x_v0.1.2, .slice x_v0.2.1 v0.2.length x_v0.2.2]]) (.cons aA .nil) ?_)
    rintro _ Q50 z51 t53 H1 hi54 hb55
    unfold p_spec_IndexOk_b2 at H1
    refine aD (sr (aF rfl (aG (cB fa38_1 rfl rfl) (aI (bI ty36 rfl aB rfl) (aG (bS 177 dO rfl) (aG (cM rfl rfl) (nl (cH H1 rfl (fun h58 H1 => ?_) (fun h58 H1 => ?_)))))))))
    ·refine bH (nT (aD (aQ (sr (aG (cB fa38_1 rfl rfl) (aI (bI ty36 rfl aB rfl) (aF rfl (gdo H1 fun h59 H1 => (aI (bW dO ty177 rfl rfl h59 rfl (aL (aT aR))) (aI (v := .agg #[.string (((nth v0.2 Q50.2.toNat).1).1), .string (((nth v0.2 Q50.2.toNat).1).2), .slice (((X2 Q50.2.toNat).2).1) (((nth v0.2 Q50.2.toNat).2).length) (((X2 Q50.2.toNat).2).2.1)]) (cA (i := Q50.2.toNat) ty177 rfl (aL (aT aR)) h59.lt) ?_))))))))))
     refine f1 (cD ty177) fun g60 => (stb (cs' := [.string (((nth v0.2 Q50.2.toNat).1).1), .string (((nth v0.2 Q50.2.toNat).1).2), .slice (((X2 Q50.2.toNat).2).1) (((nth v0.2 Q50.2.toNat).2).length) (((X2 Q50.2.toNat).2).2.1)]) ty177 cV (nl (aD (aD ?_))))
     rcases aK (decide ((((nth v0.2 Q50.2.toNat).2).length : Int) = 0)) with h61 | h61
     ·have H1 := cdT h61 H1
      refine tNwS [(7, .pointer (some ⟨g60, 0, none⟩)), (1, .pointer (some ⟨g3, 0, none⟩)), (3, .int .i64 (Q50.1)), (6, .int .i64 (Q50.2))] 1 [0, 1, 2, 3, 4, 5, 6, 7, 8, 9, 10, 11, 12, 13, 14, 15, 16, 17, 18, 19, 20, 21, 22, 23, 24, 25, 26, 27, 28, 29, 30, 31] [] [] mixed (by kernel_rfl) (by decide) dD ⟨rfl, rfl, rfl, rfl, trivial⟩ rfl okNil (w_p rfl (cB fa177_1 rfl rfl) ?_)
      refine w_o rfl (fun F => (bI ty69 rfl (aB.app F) rfl)) (w_p rfl (bS 3 dT rfl) (w_p rfl (cP rfl rfl) (w_p (v := .bool (true)) rfl ((Pu.eqv (v := .bool (decide ((((nth v0.2 Q50.2.toNat).2).length : Int) = 0))) (aE rfl) (congrArg Value.bool h61))) (cG rfl (by decide) rfl rfl rfl (cG rfl (by decide) rfl rfl rfl (cG rfl (by decide) rfl rfl rfl (cG rfl (by decide) rfl rfl rfl (cG rfl (by decide) rfl rfl rfl (cG rfl (by decide) rfl rfl rfl ?_)))))))))
      refine cG rfl (by decide) rfl rfl rfl (cG rfl (by decide) rfl rfl rfl (cG rfl (by decide) rfl rfl rfl (w_p (v := .bool (true)) rfl (bP rfl rfl) (w_p (v := .bool (true)) rfl (aE rfl) (cG rfl (by decide) rfl rfl rfl (cG rfl (by decide) rfl rfl rfl (cG rfl (by decide) rfl rfl rfl (cG rfl (by decide) rfl rfl rfl (cG rfl (by decide) rfl rfl rfl ?_)))))))))
      refine cG rfl (by decide) rfl rfl rfl (cG rfl (by decide) rfl rfl rfl (cG rfl (by decide) rfl rfl rfl (cG rfl (by decide) rfl rfl rfl (cG rfl (by decide) rfl rfl rfl (cG rfl (by decide) rfl rfl rfl (cG rfl (by decide) rfl rfl rfl (cG rfl (by decide) rfl rfl rfl (cG rfl (by decide) rfl rfl rfl (cG rfl (by decide) rfl rfl rfl ?_)))))))))
      refine w_p (v := .bool (true)) rfl (bP rfl rfl) (cI (nT (Tr.condT rfl (sr (aH (v := .bool (false)) rfl (nl (bQ (rT (rB (rT (rT (rB (rT (rT (?_)))))))))))))))
      obtain rfl := hb55 _ (sm H1)
      replace H := sw.r H
      obtain rfl := si H
      exact bk
     ·have H1 := cdF h61 H1
      refine tNwS [(7, .pointer (some ⟨g60, 0, none⟩)), (1, .pointer (some ⟨g3, 0, none⟩)), (3, .int .i64 (Q50.1)), (6, .int .i64 (Q50.2))] 4 [0, 1, 2, 3, 4, 5, 6, 7, 8, 9, 10, 11, 12, 13, 14, 15, 16, 17, 18, 19, 20, 21, 22, 23, 24, 25, 26, 27, 28, 29, 30, 31] [11] [] mixed (by kernel_rfl) (by decide) dD ⟨rfl, rfl, rfl, rfl, trivial⟩ rfl okNil (w_p rfl (cB fa177_1 rfl rfl) ?_)
      refine w_o rfl (fun F => (bI ty69 rfl (aB.app F) rfl)) (w_p rfl (bS 3 dT rfl) (w_p rfl (cP rfl rfl) (w_p (v := .bool (false)) rfl ((Pu.eqv (v := .bool (decide ((((nth v0.2 Q50.2.toNat).2).length : Int) = 0))) (aE rfl) (congrArg Value.bool h61))) (w_p rfl (cB fa177_1 rfl rfl) ?_))))
      refine w_o rfl (fun F => (bI ty69 rfl (aB.app F) rfl)) (w_p rfl (cB fa38_0 rfl rfl) ?_)
      refine w_o rfl (fun F => (bI ty35 rfl (hs1.app F) rfl)) (w_p rfl (cB fa177_0 rfl rfl) ?_)
      refine w_o (v := .agg #[.string (((nth v0.2 Q50.2.toNat).1).1), .string (((nth v0.2 Q50.2.toNat).1).2)]) rfl (fun F => (q_ldbP [.string (((nth v0.2 Q50.2.toNat).1).1), .string (((nth v0.2 Q50.2.toNat).1).2)] ty97 rfl (aB.app F) rfl rfl)) (bdo H1 fun r62 h63 H1 => (w_ed rfl (by decide) rfl cL rfl (n_callB (c_spec_l11Ids v0.1 x_v0.1 ((nth v0.2 Q50.2.toNat).1) h63) (fun _ => (bF bG)) rfl (aC (aL (aS aR.s)) aO)) ?_))
      rintro _ _ _ ⟨x64, rfl, rfl, rfl⟩
      refine ⟨(aM (by kernel_rfl) (aM (by kernel_rfl) (bV rfl rfl (fun F => (bI ty69 rfl (hs1.app F) rfl)) (aM (by kernel_rfl) bU)))), ?_⟩
      refine bdo H1 fun r65 h66 H1 => ?_
      refine w_o rfl (fun F => (bN (c_spec_l11Same ((nth v0.2 Q50.2.toNat).2) (((X2 Q50.2.toNat).2).1, ((X2 Q50.2.toNat).2).2.1) r62 x64 h66) rfl (aC (aL (aS (aU (aW aR h59.lt)))) (aC (bL (aB.app F)) aO)))) (w_p rfl (cR rfl) (w_p rfl (bO rfl rfl) ?_))
      rcases aK (!r65) with h67 | h67
      ·have H1 := cdT h67 H1
       refine w_p (v := .bool (true)) rfl ((Pu.eqv (v := .bool (!r65)) (aE rfl) (congrArg Value.bool h67))) (cG rfl (by decide) rfl rfl rfl (cG rfl (by decide) rfl rfl rfl (cG rfl (by decide) rfl rfl rfl (cG rfl (by decide) rfl rfl rfl (cG rfl (by decide) rfl rfl rfl (cG rfl (by decide) rfl rfl rfl (cG rfl (by decide) rfl rfl rfl (cG rfl (by decide) rfl rfl rfl (cG rfl (by decide) rfl rfl rfl ?_)))))))))
       refine cG rfl (by decide) rfl rfl rfl (cG rfl (by decide) rfl rfl rfl (cG rfl (by decide) rfl rfl rfl (cG rfl (by decide) rfl rfl rfl (cG rfl (by decide) rfl rfl rfl (cG rfl (by decide) rfl rfl rfl (w_p (v := .bool (true)) rfl (bP rfl rfl) (cI (nT (Tr.condT rfl ?_)))))))))
       refine sr (aH (v := .bool (false)) rfl (nl (bQ (rT (rB (rT (rT (rB (rT (rT (?_)))))))))))
       obtain rfl := hb55 _ (sm H1)
       replace H := sw.r H
       obtain rfl := si H
       exact bk
      ·have H1 := cdF h67 H1
       refine w_p (v := .bool (false)) rfl ((Pu.eqv (v := .bool (!r65)) (aE rfl) (congrArg Value.bool h67))) (w_p rfl (aE rfl) (w_p rfl (cQ rfl rfl) ?_))
       rcases aK (decide (0 < Q50.2)) with h68 | h68
       ·have H1 := cdT h68 H1
        refine w_p (v := .bool (true)) rfl ((Pu.eqv (v := .bool (decide (0 < Q50.2))) (aE rfl) (congrArg Value.bool h68))) (w_p rfl (cB fa38_1 rfl rfl) ?_)
        refine w_o rfl (fun F => (bI ty36 rfl (hs2.app F) rfl)) (w_p rfl (aE rfl) (gdo H1 fun h69 H1 => (w_p rfl (cN rfl rfl h69) (gdo H1 fun h70 H1 => ?_))))
        refine w_o rfl (fun F => (bW dO ty177 rfl rfl h70 rfl (aL (aT aR)))) ?_
        refine w_o rfl (fun F => (bY (j := 0) ((Q50.2 - 1).toNat) fa177_0 rfl (aL (aT aR)) h70.lt rfl)) ?_
        refine w_o (v := .agg #[.string (((nth v0.2 ((Q50.2 - 1).toNat)).1).1), .string (((nth v0.2 ((Q50.2 - 1).toNat)).1).2)]) rfl (fun F => (q_ldeP [.string (((nth v0.2 ((Q50.2 - 1).toNat)).1).1), .string (((nth v0.2 ((Q50.2 - 1).toNat)).1).2)] (l := v0.2) (E := fun i => Dp.denc (nth v0.2 i) (X2 i)) (oa := x_v0.2.1) (i := (Q50.2 - 1).toNat) (j := 0) ty97 rfl (aL (aT aR)) h70.lt rfl rfl)) (w_p rfl (cB fa177_0 rfl rfl) ?_)
        refine w_o (v := .agg #[.string (((nth v0.2 Q50.2.toNat).1).1), .string (((nth v0.2 Q50.2.toNat).1).2)]) rfl (fun F => (q_ldbP [.string (((nth v0.2 Q50.2.toNat).1).1), .string (((nth v0.2 Q50.2.toNat).1).2)] ty97 rfl (hs1.app F) rfl rfl)) (bdo H1 fun r71 h72 H1 => ?_)
        refine w_o rfl (fun F => (bN (c_spec_l11Less ((nth v0.2 ((Q50.2 - 1).toNat)).1) ((nth v0.2 Q50.2.toNat).1) h72) rfl aO)) (w_p rfl (cR rfl) (w_p rfl (bP rfl rfl) (w_p rfl (bO rfl rfl) (cI (nT (cH H1 rfl (fun h73 H1 => ?_) (fun h73 H1 => ?_)))))))
        ·refine sr (aH (v := .bool (false)) rfl (nl (bQ (rT (rB (rT (rT (rB (rT (rT (?_)))))))))))
         obtain rfl := hb55 _ (sm H1)
         replace H := sw.r H
         obtain rfl := si H
         exact bk
        ·refine bH (nT (aP (aF rfl (aG (cB fa177_1 rfl rfl) (aI (bI ty69 rfl hs1 rfl) (aG (bS 3 dT rfl) (gdo H1 fun h74 H1 => (aG (cN rfl rfl h74) (aH rfl (aJ ?_))))))))))
         exact nB (nT (aP (aF rfl (gdo H1 fun h75 H1 => (aG (bR rfl rfl h75) (aH rfl (aJ (nLI () (hi54 _ (sm H1)) (.cons dl2 .nil)))))))))
       ·have H1 := cdF h68 H1
        refine w_p (v := .bool (false)) rfl ((Pu.eqv (v := .bool (decide (0 < Q50.2))) (aE rfl) (congrArg Value.bool h68))) (cG rfl (by decide) rfl rfl rfl (cG rfl (by decide) rfl rfl rfl (cG rfl (by decide) rfl rfl rfl (cG rfl (by decide) rfl rfl rfl (cG rfl (by decide) rfl rfl rfl (cG rfl (by decide) rfl rfl rfl (cG rfl (by decide) rfl rfl rfl (cG rfl (by decide) rfl rfl rfl (cG rfl (by decide) rfl rfl rfl ?_)))))))))
        refine cG rfl (by decide) rfl rfl rfl (cG rfl (by decide) rfl rfl rfl (w_p (v := .bool (false)) rfl (bO rfl rfl) (w_p (v := .bool (false)) rfl (bO rfl rfl) (cI (nT (Tr.condF rfl (bH (nT (aP ?_)))))))))
        refine aF rfl (aG (cB fa177_1 rfl rfl) (aI (bI ty69 rfl hs1 rfl) (aG (bS 3 dT rfl) (gdo H1 fun h76 H1 => (aG (cN rfl rfl h76) (aH rfl (aJ (nB (nT (aP (aF rfl ?_)))))))))))
        exact gdo H1 fun h77 H1 => (aG (bR rfl rfl h77) (aH rfl (aJ (nLI () (hi54 _ (sm H1)) (.cons dl2 .nil)))))
    ·exact cW (xT (xT (xE (nMI () (hb55 _ (sm H1)) bK))))
   ·rintro e78 y52 H
    refine nT (sr (aF rfl (aG (cP rfl rfl) (aH rfl (nl ?_)))))
    obtain rfl := si H
    exact bQ bk
noncomputable def p_spec_l2Row (v0 : Row) : Option (Bool) := bd (bd (p_spec_l6In v0.1 0 99) fun r4 => cond (r4) (bd (p_spec_l6In v0.2 (-99) 99) fun r7 => some (r7)) (some (false))) fun b2 => some b2
theorem c_spec_l2Row {r : Bool} (v0 : Row) (H : p_spec_l2Row v0 = some r) : Fn' prog 76 #[.agg #[.int .i64 (v0.1), .int .i64 (v0.2)]] [] [] (ι := Unit) (fun _ => .bool (r)) (fun _ => []) (fun _ => []) := by
 refine cof (args := [_]) func76 ntmps76 fun c => ?_
 unfold p_spec_l2Row at H
 refine sr (f1 (cC (t := 57) rfl) fun g1 => (aH (v := .bool (false)) rfl (nl (bdo H fun b2 j3 H => (cZ [(2, .bool (b2))] ?_ ?_)))))
 ·refine dC [(1, .pointer (some ⟨g1, 0, none⟩))] ⟨rfl, trivial⟩ (aX (cB fa57_0 rfl rfl) (aZ (bI ty3 rfl aB rfl) (bdo j3 fun r4 h5 j3 => (aZ (bN (c_spec_l6In v0.1 0 99 h5) rfl aO) ?_))))
  rcases aK (r4) with h6 | h6
  ·have j3 := cdT h6 j3
   refine bC (aE rfl) h6 (aY rfl (cB fa57_1 rfl rfl) (bA rfl (bI ty3 rfl aB rfl) (bdo j3 fun r7 h8 j3 => (bA rfl (bN (c_spec_l6In v0.2 (-99) 99 h8) rfl aO) (aX (bP rfl rfl) (aX (p_assign rfl) ?_))))))
   obtain rfl := si j3
   show At _ _ _ _ _ _
   exact n1 ⟨rfl, trivial⟩
  ·have j3 := cdF h6 j3
   refine bC (aE rfl) h6 ?_
   iterate 3 refine bE rfl ?_
   refine aX (v := .bool (false)) (bO rfl rfl) (aX (v := .bool (false)) (p_assign rfl) ?_)
   obtain rfl := si j3
   show At _ _ _ _ _ _
   exact n1 ⟨rfl, trivial⟩
 obtain rfl := si H
 exact bQ bk
noncomputable def p_spec_BlockOk_b0 (v0 : (List Row)) (Q5 : Int) : Option ((Int) ⊕ (Unit ⊕ Bool)) := cond (decide (Q5 < (v0.length : Int))) (bd (gd (ix Q5 v0.length) <| bd (p_spec_l2Row (nth v0 Q5.toNat)) fun r17 => cond (!r17) (some (true)) (cond (decide (0 < Q5)) (gd (I64 (Q5 - 1)) <| gd (ix (Q5 - 1) v0.length) <| some (decide (((nth v0 Q5.toNat).1) ≤ ((nth v0 ((Q5 - 1).toNat)).1)))) (some (false)))) fun b14 => cond (b14) (some (.inr (.inr false))) (gd (I64 (Q5 + 1)) <| some (.inl (Q5 + 1)))) (some (.inr (.inl ())))
noncomputable def p_spec_BlockOk (v0 : (List Row)) : Option (Bool) := bd (lp (p_spec_BlockOk_b0 v0) 0) <| sw (fun _ => some (decide ((v0.length : Int) ≤ 24))) (fun q => some q)
theorem c_spec_BlockOk {r : Bool} (v0 : (List Row)) (x_v0 : Option Addr × Nat) (H : p_spec_BlockOk v0 = some r) : Fn' prog 140 #[.slice x_v0.1 v0.length x_v0.2] [imm (.slice x_v0.1 v0.length x_v0.2) v0] [] (ι := Unit) (fun _ => .bool (r)) (fun _ => []) (fun _ => []) := by
 refine cof (args := [_]) func140 ntmps140 fun c => ?_
 unfold p_spec_BlockOk at H
 refine sr (aH (v := .bool (false)) rfl (nl (aD (sr (aH (v := .int .i64 (0)) rfl (nl (bdo H fun x1 hx2 H => (cY (Λ := Unit) H (fun _ _ => [(0, .slice x_v0.1 v0.length x_v0.2)]) (fun _ _ => []) ?_ ?_))))))))
 ·refine aQ (dA hx2 () (fun Q5 _ => [(0, .slice x_v0.1 v0.length x_v0.2), (3, .int .i64 (Q5))]) (fun _ _ => []) bK ?_)
  rintro _ Q5 z6 t8 H1 hi9 hb10
  unfold p_spec_BlockOk_b0 at H1
  refine aD (sr (aF rfl (aF rfl (aG (bS 57 dS rfl) (aG (cM rfl rfl) (nl (cH H1 rfl (fun h13 H1 => ?_) (fun h13 H1 => ?_))))))))
  ·refine bH (nT (aD (aQ (bdo H1 fun b14 j15 H1 => (cZ [(33, .bool (b14)), (0, .slice x_v0.1 v0.length x_v0.2), (3, .int .i64 (Q5))] ?_ ?_)))))
   ·refine dB [(0, .slice x_v0.1 v0.length x_v0.2), (3, .int .i64 (Q5))] mixed (.inr (by kernel_rfl)) ⟨rfl, rfl, trivial⟩ rfl (bB rfl (bB rfl (gdo j15 fun h16 j15 => (aZ (bW dS ty57 rfl rfl h16 rfl (aN (aL aR))) (aZ (v := .agg #[.int .i64 ((nth v0 Q5.toNat).1), .int .i64 ((nth v0 Q5.toNat).2)]) (cA (i := Q5.toNat) ty57 rfl (aN (aL aR)) h16.lt) (bdo j15 fun r17 h18 j15 => (aZ (bN (c_spec_l2Row (nth v0 Q5.toNat) h18) rfl aO) (aX (cR rfl) ?_))))))))
    rcases aK (!r17) with h19 | h19
    ·have j15 := cdT h19 j15
     refine bC (aE rfl) h19 ?_
     iterate 16 refine bE rfl ?_
     refine aX (v := .bool (true)) (bP rfl rfl) ?_
     obtain rfl := si j15
     show At _ _ _ _ _ _
     exact n1 ⟨rfl, rfl, rfl, trivial⟩
    ·have j15 := cdF h19 j15
     refine bC (aE rfl) h19 (aY rfl (aE rfl) (aY rfl (cQ rfl rfl) ?_))
     rcases aK (decide (0 < Q5)) with h20 | h20
     ·have j15 := cdT h20 j15
      refine bD rfl (aE rfl) h20 (aY rfl (aE rfl) (aY rfl (aE rfl) (gdo j15 fun h21 j15 => (aY rfl (cN rfl rfl h21) (gdo j15 fun h22 j15 => (bA rfl (bW dS ty57 rfl rfl h22 rfl (aN (aL aR))) (bA rfl (bY (j := 0) ((Q5 - 1).toNat) fa57_0 rfl (aN (aL aR)) h22.lt rfl) (bA rfl (bZ (i := (Q5 - 1).toNat) (j := 0) ty3 rfl (aN (aL aR)) h22.lt rfl) (aY rfl (aE rfl) ?_)))))))))
      refine aY rfl (aE rfl) (bA rfl (bW dS ty57 rfl rfl h16 rfl (aN (aL aR))) (bA rfl (bY (j := 0) Q5.toNat fa57_0 rfl (aN (aL aR)) h16.lt rfl) (bA rfl (bZ (i := Q5.toNat) (j := 0) ty3 rfl (aN (aL aR)) h16.lt rfl) (aY rfl (p_geq rfl rfl) (aY rfl (bP rfl rfl) (aX (bO rfl rfl) ?_))))))
      obtain rfl := si j15
      show At _ _ _ _ _ _
      exact n1 ⟨rfl, rfl, rfl, trivial⟩
     ·have j15 := cdF h20 j15
      refine bD rfl (aE rfl) h20 ?_
      iterate 12 refine bE rfl ?_
      refine aY (v := .bool (false)) rfl (bO rfl rfl) (aX (v := .bool (false)) (bO rfl rfl) ?_)
      obtain rfl := si j15
      show At _ _ _ _ _ _
      exact n1 ⟨rfl, rfl, rfl, trivial⟩
   refine cH H1 rfl (fun h23 H1 => ?_) (fun h23 H1 => ?_)
   ·refine sr (aH (v := .bool (false)) rfl (nl (bQ (rB (rT (rT (rB (rT (rT (?_))))))))))
    obtain rfl := hb10 _ (sm H1)
    replace H := sw.r H
    obtain rfl := si H
    exact bk
   ·exact bH (nB (nT (aP (aF rfl (gdo H1 fun h24 H1 => (aG (bR rfl rfl h24) (aH rfl (aJ (nLI () (hi9 _ (sm H1)) bK)))))))))
  ·exact cW (xT (xT (xE (nMI () (hb10 _ (sm H1)) bK))))
 ·rintro e25 y7 H
  refine nT (sr (aF rfl (aG (bS 57 dS rfl) (aG (p_leq rfl rfl) (aH rfl (nl ?_))))))
  obtain rfl := si H
  exact bQ bk
noncomputable def p_spec_PartOk_b0 (v0 : Part) (Q8 : Int) : Option ((Int) ⊕ (Unit ⊕ Bool)) := cond (decide (Q8 < (v0.1.length : Int))) (bd (gd (ix Q8 v0.1.length) <| bd (p_spec_l6In (nth v0.1 Q8.toNat) 1 6) fun r20 => cond (!r20) (some (true)) (cond (decide (0 < Q8)) (gd (I64 (Q8 - 1)) <| gd (ix (Q8 - 1) v0.1.length) <| cond (decide ((nth v0.1 Q8.toNat) ≤ (nth v0.1 ((Q8 - 1).toNat)))) (some (true)) (gd (ix Q8 v0.2.length) <| cond (decide (((nth v0.2 Q8.toNat).length : Int) = 0)) (some (true)) (bd (p_spec_BlockOk (nth v0.2 Q8.toNat)) fun r29 => some (!r29)))) (gd (ix Q8 v0.2.length) <| cond (decide (((nth v0.2 Q8.toNat).length : Int) = 0)) (some (true)) (bd (p_spec_BlockOk (nth v0.2 Q8.toNat)) fun r33 => some (!r33))))) fun b17 => cond (b17) (some (.inr (.inr false))) (gd (I64 (Q8 + 1)) <| some (.inl (Q8 + 1)))) (some (.inr (.inl ())))
noncomputable def p_spec_PartOk (v0 : Part) : Option (Bool) := cond (!decide ((v0.1.length : Int) = (v0.2.length : Int))) (some false) (bd (lp (p_spec_PartOk_b0 v0) 0) <| sw (fun _ => some true) (fun q => some q))
theorem c_spec_PartOk {r : Bool} (v0 : Part) (x_v0 : (Option Addr × Nat) × (Option Addr × Nat)) (H : p_spec_PartOk v0 = some r) : Fn' prog 85 #[.agg #[.slice x_v0.1.1 v0.1.length x_v0.1.2, .slice x_v0.2.1 v0.2.length x_v0.2.2]] [imm (.slice x_v0.1.1 v0.1.length x_v0.1.2) v0.1, imm (.slice x_v0.2.1 v0.2.length x_v0.2.2) v0.2] [] (ι := Unit) (fun _ => .bool (r)) (fun _ => []) (fun _ => []) := by
 refine cof (args := [_]) func85 ntmps85 fun c => ?_
 unfold p_spec_PartOk at H
 refine bM aR.s fun X1 => (sr (f1 (cC (t := 72) rfl) fun g2 => (aH (v := .bool (false)) rfl (nl (aD (sr (aG (cB fa72_0 rfl rfl) (aI (bI ty69 rfl aB rfl) (aG (bS 3 dT rfl) (aG (cB fa72_1 rfl rfl) (aI (bI ty70 rfl aB rfl) ?_)))))))))))
 refine aG (bS 63 dU rfl) (aG (cO rfl rfl) (nl (cH H rfl (fun h3 H => ?_) (fun h3 H => ?_))))
 ·refine sr (aH (v := .bool (false)) rfl (nl (bQ (rT (?_)))))
  obtain rfl := si H
  exact bk
 ·refine bH (nT (aD (sr (aH (v := .int .i64 (0)) rfl (nl (bdo H fun x4 hx5 H => (cY (Λ := Unit) H (fun _ _ => []) (fun _ _ => []) ?_ ?_)))))))
  ·refine aQ (dA hx5 () (fun Q8 _ => [(1, .pointer (some ⟨g2, 0, none⟩)), (3, .int .i64 (Q8))]) (fun _ _ => [box g2 72 [.slice x_v0.1.1 v0.1.length x_v0.1.2, .slice x_v0.2.1 v0.2.length x_v0.2.2]]) (.cons aA .nil) ?_)
   rintro _ Q8 z9 t11 H1 hi12 hb13
   unfold p_spec_PartOk_b0 at H1
   refine aD (sr (aF rfl (aG (cB fa72_0 rfl rfl) (aI (bI ty69 rfl aB rfl) (aG (bS 3 dT rfl) (aG (cM rfl rfl) (nl (cH H1 rfl (fun h16 H1 => ?_) (fun h16 H1 => ?_)))))))))
   ·refine bH (nT (aD (aQ (bdo H1 fun b17 j18 H1 => (cZ [(60, .bool (b17)), (1, .pointer (some ⟨g2, 0, none⟩)), (3, .int .i64 (Q8))] ?_ ?_)))))
    ·refine dB [(1, .pointer (some ⟨g2, 0, none⟩)), (3, .int .i64 (Q8))] mixed (.inr (by kernel_rfl)) ⟨rfl, rfl, trivial⟩ rfl (aX (cB fa72_0 rfl rfl) (aZ (bI ty69 rfl aB rfl) (bB rfl (gdo j18 fun h19 j18 => (aZ (bW dT ty3 rfl rfl h19 rfl (aN (aL aR.s))) (aZ (bZ (i := Q8.toNat) (j := 0) ty3 rfl (aN (aL aR.s)) h19.lt rfl) (bdo j18 fun r20 h21 j18 => (aZ (bN (c_spec_l6In (nth v0.1 Q8.toNat) 1 6 h21) rfl aO) (aX (cR rfl) ?_)))))))))
     rcases aK (!r20) with h22 | h22
     ·have j18 := cdT h22 j18
      refine bC (aE rfl) h22 ?_
      iterate 16 refine bE rfl ?_
      refine aX (v := .bool (true)) (bP rfl rfl) (bB (v := .bool (true)) rfl ?_)
      iterate 7 refine bE rfl ?_
      refine aX (v := .bool (true)) (bP rfl rfl) (bB (v := .bool (true)) rfl ?_)
      iterate 7 refine bE rfl ?_
      refine aX (v := .bool (true)) (bP rfl rfl) ?_
      obtain rfl := si j18
      show At _ _ _ _ _ _
      exact n1 ⟨rfl, rfl, rfl, trivial⟩
     ·have j18 := cdF h22 j18
      refine bC (aE rfl) h22 (aY rfl (aE rfl) (aY rfl (cQ rfl rfl) ?_))
      rcases aK (decide (0 < Q8)) with h23 | h23
      ·have j18 := cdT h23 j18
       refine bD rfl (aE rfl) h23 (aY rfl (cB fa72_0 rfl rfl) (bA rfl (bI ty69 rfl aB rfl) (aY rfl (aE rfl) (gdo j18 fun h24 j18 => (aY rfl (cN rfl rfl h24) (gdo j18 fun h25 j18 => (bA rfl (bW dT ty3 rfl rfl h25 rfl (aN (aL aR.s))) (bA rfl (bZ (i := (Q8 - 1).toNat) (j := 0) ty3 rfl (aN (aL aR.s)) h25.lt rfl) (aY rfl (cB fa72_0 rfl rfl) ?_)))))))))
       refine bA rfl (bI ty69 rfl aB rfl) (aY rfl (aE rfl) (bA rfl (bW dT ty3 rfl rfl h19 rfl (aN (aL aR.s))) (bA rfl (bZ (i := Q8.toNat) (j := 0) ty3 rfl (aN (aL aR.s)) h19.lt rfl) (aY rfl (p_geq rfl rfl) (aY rfl (bP rfl rfl) (aX (bO rfl rfl) ?_))))))
       rcases aK (decide ((nth v0.1 Q8.toNat) ≤ (nth v0.1 ((Q8 - 1).toNat)))) with h26 | h26
       ·have j18 := cdT h26 j18
        refine bC (aE rfl) h26 ?_
        iterate 7 refine bE rfl ?_
        refine aX (v := .bool (true)) (bP rfl rfl) (bB (v := .bool (true)) rfl ?_)
        iterate 7 refine bE rfl ?_
        refine aX (v := .bool (true)) (bP rfl rfl) ?_
        obtain rfl := si j18
        show At _ _ _ _ _ _
        exact n1 ⟨rfl, rfl, rfl, trivial⟩
       ·have j18 := cdF h26 j18
        refine bC (aE rfl) h26 (aY rfl (cB fa72_1 rfl rfl) (bA rfl (bI ty70 rfl aB rfl) (aY rfl (aE rfl) (gdo j18 fun h27 j18 => (bA rfl (bW dU ty63 rfl rfl h27 rfl (aL (aT aR))) (bA rfl (bZ (i := Q8.toNat) (j := 0) ty63 rfl (aL (aT aR)) h27.lt rfl) (aY rfl (bS 57 dS rfl) (aY rfl (cP rfl rfl) (aX (bO rfl rfl) ?_)))))))))
        rcases aK (decide (((nth v0.2 Q8.toNat).length : Int) = 0)) with h28 | h28
        ·have j18 := cdT h28 j18
         refine bC (aE rfl) h28 ?_
         iterate 7 refine bE rfl ?_
         refine aX (v := .bool (true)) (bP rfl rfl) ?_
         obtain rfl := si j18
         show At _ _ _ _ _ _
         exact n1 ⟨rfl, rfl, rfl, trivial⟩
        ·have j18 := cdF h28 j18
         refine bC (aE rfl) h28 (aY rfl (cB fa72_1 rfl rfl) (bA rfl (bI ty70 rfl aB rfl) (aY rfl (aE rfl) (bA rfl (bW dU ty63 rfl rfl h27 rfl (aL (aT aR))) (bA rfl (bZ (i := Q8.toNat) (j := 0) ty63 rfl (aL (aT aR)) h27.lt rfl) (bdo j18 fun r29 h30 j18 => (bA rfl (bN (c_spec_BlockOk (nth v0.2 Q8.toNat) ((X1 Q8.toNat).1, (X1 Q8.toNat).2.1) h30) rfl (aC (aL (aS (aW aR h27.lt))) aO)) (aY rfl (cR rfl) (aX (bO rfl rfl) ?_)))))))))
         obtain rfl := si j18
         show At _ _ _ _ _ _
         exact n1 ⟨rfl, rfl, rfl, trivial⟩
      ·have j18 := cdF h23 j18
       refine bD rfl (aE rfl) h23 ?_
       iterate 12 refine bE rfl ?_
       refine aY (v := .bool (false)) rfl (bO rfl rfl) (aX (v := .bool (false)) (bO rfl rfl) (bB (v := .bool (false)) rfl (aY rfl (cB fa72_1 rfl rfl) (bA rfl (bI ty70 rfl aB rfl) (aY rfl (aE rfl) (gdo j18 fun h31 j18 => (bA rfl (bW dU ty63 rfl rfl h31 rfl (aL (aT aR))) (bA rfl (bZ (i := Q8.toNat) (j := 0) ty63 rfl (aL (aT aR)) h31.lt rfl) (aY rfl (bS 57 dS rfl) ?_)))))))))
       refine aY rfl (cP rfl rfl) (aX (bO rfl rfl) ?_)
       rcases aK (decide (((nth v0.2 Q8.toNat).length : Int) = 0)) with h32 | h32
       ·have j18 := cdT h32 j18
        refine bC (aE rfl) h32 ?_
        iterate 7 refine bE rfl ?_
        refine aX (v := .bool (true)) (bP rfl rfl) ?_
        obtain rfl := si j18
        show At _ _ _ _ _ _
        exact n1 ⟨rfl, rfl, rfl, trivial⟩
       ·have j18 := cdF h32 j18
        refine bC (aE rfl) h32 (aY rfl (cB fa72_1 rfl rfl) (bA rfl (bI ty70 rfl aB rfl) (aY rfl (aE rfl) (bA rfl (bW dU ty63 rfl rfl h31 rfl (aL (aT aR))) (bA rfl (bZ (i := Q8.toNat) (j := 0) ty63 rfl (aL (aT aR)) h31.lt rfl) (bdo j18 fun r33 h34 j18 => (bA rfl (bN (c_spec_BlockOk (nth v0.2 Q8.toNat) ((X1 Q8.toNat).1, (X1 Q8.toNat).2.1) h34) rfl (aC (aL (aS (aW aR h31.lt))) aO)) (aY rfl (cR rfl) (aX (bO rfl rfl) ?_)))))))))
        obtain rfl := si j18
        show At _ _ _ _ _ _
        exact n1 ⟨rfl, rfl, rfl, trivial⟩
    refine cH H1 rfl (fun h35 H1 => ?_) (fun h35 H1 => ?_)
    ·refine sr (aH (v := .bool (false)) rfl (nl (bQ (rB (rT (rT (rB (rT (rT (?_))))))))))
     obtain rfl := hb13 _ (sm H1)
     replace H := sw.r H
     obtain rfl := si H
     exact bk
    ·exact bH (nB (nT (aP (aF rfl (gdo H1 fun h36 H1 => (aG (bR rfl rfl h36) (aH rfl (aJ (nLI () (hi12 _ (sm H1)) (.cons aA .nil))))))))))
   ·exact cW (xT (xT (xE (nMI () (hb13 _ (sm H1)) bK))))
  ·rintro e37 y10 H
   refine nT (sr (aH (v := .bool (true)) rfl (nl ?_)))
   obtain rfl := si H
   exact bQ bk
noncomputable def p_spec_l13Part (v0 : Part) (v1 : Int) : Option (Bool) := bd (bd (p_spec_PartOk v0) fun r5 => cond (r5) (cond (decide (0 < (v0.1.length : Int))) (gd (I64 ((v0.1.length : Int) - 1)) <| gd (ix ((v0.1.length : Int) - 1) v0.1.length) <| some (decide ((nth v0.1 (((v0.1.length : Int) - 1).toNat)) ≤ v1))) (some (false))) (some (false))) fun b3 => some b3
theorem c_spec_l13Part {r : Bool} (v0 : Part) (x_v0 : (Option Addr × Nat) × (Option Addr × Nat)) (v1 : Int) (H : p_spec_l13Part v0 v1 = some r) : Fn' prog 74 #[.agg #[.slice x_v0.1.1 v0.1.length x_v0.1.2, .slice x_v0.2.1 v0.2.length x_v0.2.2], .int .i64 (v1)] [imm (.slice x_v0.1.1 v0.1.length x_v0.1.2) v0.1, imm (.slice x_v0.2.1 v0.2.length x_v0.2.2) v0.2] [] (ι := Unit) (fun _ => .bool (r)) (fun _ => []) (fun _ => []) := by
 refine cof (args := [_, _]) func74 ntmps74 fun c => ?_
 unfold p_spec_l13Part at H
 refine bM aR.s fun X1 => (sr (f1 (cC (t := 72) rfl) fun g2 => (aH (v := .bool (false)) rfl (nl (bdo H fun b3 j4 H => (cZ [(4, .bool (b3))] ?_ ?_))))))
 ·refine dC [(2, .pointer (some ⟨g2, 0, none⟩)), (1, .int .i64 (v1))] ⟨rfl, rfl, trivial⟩ (aZ (bJ ty72 rfl aB rfl) (bdo j4 fun r5 h6 j4 => (aZ (bN (c_spec_PartOk v0 x_v0 h6) rfl (aC (aL aR.s) (aC (aL (aS aR)) aO))) ?_)))
  rcases aK (r5) with h7 | h7
  ·have j4 := cdT h7 j4
   refine bC (aE rfl) h7 (aY rfl (cB fa72_0 rfl rfl) (bA rfl (bI ty69 rfl aB rfl) (aY rfl (bS 3 dT rfl) (aY rfl (cQ rfl rfl) (aX (bP rfl rfl) ?_)))))
   rcases aK (decide (0 < (v0.1.length : Int))) with h8 | h8
   ·have j4 := cdT h8 j4
    refine bC (aE rfl) h8 (aY rfl (cB fa72_0 rfl rfl) (bA rfl (bI ty69 rfl aB rfl) (aY rfl (cB fa72_0 rfl rfl) (bA rfl (bI ty69 rfl aB rfl) (aY rfl (bS 3 dT rfl) (gdo j4 fun h9 j4 => (aY rfl (cN rfl rfl h9) (gdo j4 fun h10 j4 => (bA rfl (bW dT ty3 rfl rfl h10 rfl (aN (aL aR.s))) ?_)))))))))
    refine bA rfl (bZ (i := ((v0.1.length : Int) - 1).toNat) (j := 0) ty3 rfl (aN (aL aR.s)) h10.lt rfl) (aY rfl (aE rfl) (aY rfl (p_leq rfl rfl) (aX (bP rfl rfl) (aX (p_assign rfl) ?_))))
    obtain rfl := si j4
    show At _ _ _ _ _ _
    exact n1 ⟨rfl, trivial⟩
   ·have j4 := cdF h8 j4
    refine bC (aE rfl) h8 ?_
    iterate 10 refine bE rfl ?_
    refine aX (v := .bool (false)) (bO rfl rfl) (aX (v := .bool (false)) (p_assign rfl) ?_)
    obtain rfl := si j4
    show At _ _ _ _ _ _
    exact n1 ⟨rfl, trivial⟩
  ·have j4 := cdF h7 j4
   refine bC (aE rfl) h7 ?_
   iterate 4 refine bE rfl ?_
   refine aX (v := .bool (false)) (bO rfl rfl) (bB (v := .bool (false)) rfl ?_)
   iterate 10 refine bE rfl ?_
   refine aX (v := .bool (false)) (bO rfl rfl) (aX (v := .bool (false)) (p_assign rfl) ?_)
   obtain rfl := si j4
   show At _ _ _ _ _ _
   exact n1 ⟨rfl, trivial⟩
 obtain rfl := si H
 exact bQ bk
noncomputable def p_spec_l12Of_b0 (v0 : Part) (v1 : Int) (Q7 : Int) : Option ((Int) ⊕ (Unit ⊕ (List Row))) := cond (decide (Q7 < (v0.1.length : Int))) (gd (ix Q7 v0.1.length) <| cond (decide ((nth v0.1 Q7.toNat) = v1)) (gd (ix Q7 v0.2.length) <| some (.inr (.inr (nth v0.2 Q7.toNat)))) (gd (I64 (Q7 + 1)) <| some (.inl (Q7 + 1)))) (some (.inr (.inl ())))
noncomputable def p_spec_l12Of (v0 : Part) (v1 : Int) : Option ((List Row)) := bd (lp (p_spec_l12Of_b0 v0 v1) 0) <| sw (fun _ => some ([] : List Row)) (fun q => some q)
theorem c_spec_l12Of {r : (List Row)} (v0 : Part) (x_v0 : (Option Addr × Nat) × (Option Addr × Nat)) (v1 : Int) (H : p_spec_l12Of v0 v1 = some r) : Fn' prog 132 #[.agg #[.slice x_v0.1.1 v0.1.length x_v0.1.2, .slice x_v0.2.1 v0.2.length x_v0.2.2], .int .i64 (v1)] [imm (.slice x_v0.1.1 v0.1.length x_v0.1.2) v0.1, imm (.slice x_v0.2.1 v0.2.length x_v0.2.2) v0.2] [] (ι := Option Addr × Nat) (fun x => .slice x.1 r.length x.2) (fun x => [imm (.slice x.1 r.length x.2) r]) (fun _ => []) := by
 refine cof (args := [_, _]) func132 ntmps132 fun c => ?_
 unfold p_spec_l12Of at H
 refine bM aR.s fun X1 => (sr (f1 (cC (t := 72) rfl) fun g2 => (aH (v := .slice none 0 0) rfl (nl (aD (sr (aH (v := .int .i64 (0)) rfl (nl (bdo H fun x3 hx4 H => (cY (Λ := Unit) H (fun _ _ => []) (fun _ _ => []) ?_ ?_))))))))))
 ·refine aQ (dA hx4 () (fun Q7 _ => [(1, .int .i64 (v1)), (2, .pointer (some ⟨g2, 0, none⟩)), (5, .int .i64 (Q7))]) (fun _ _ => [box g2 72 [.slice x_v0.1.1 v0.1.length x_v0.1.2, .slice x_v0.2.1 v0.2.length x_v0.2.2]]) (.cons aA .nil) ?_)
  rintro _ Q7 z8 t10 H1 hi11 hb12
  unfold p_spec_l12Of_b0 at H1
  refine aD (sr (aF rfl (aG (cB fa72_0 rfl rfl) (aI (bI ty69 rfl aB rfl) (aG (bS 3 dT rfl) (aG (cM rfl rfl) (nl (cH H1 rfl (fun h15 H1 => ?_) (fun h15 H1 => ?_)))))))))
  ·refine bH (nT (aD (aQ (sr (aG (cB fa72_0 rfl rfl) (aI (bI ty69 rfl aB rfl) (aF rfl (gdo H1 fun h16 H1 => (aI (bW dT ty3 rfl rfl h16 rfl (aN (aL aR.s))) (aI (bZ (i := Q7.toNat) (j := 0) ty3 rfl (aN (aL aR.s)) h16.lt rfl) ?_))))))))))
   refine aF rfl (aG (cP rfl rfl) (nl (cH H1 rfl (fun h17 H1 => ?_) (fun h17 H1 => ?_))))
   ·refine sr (aG (cB fa72_1 rfl rfl) (aI (bI ty70 rfl aB rfl) (aF rfl (gdo H1 fun h18 H1 => (aI (bW dU ty63 rfl rfl h18 rfl (aL (aT aR))) (aI (bZ (i := Q7.toNat) (j := 0) ty63 rfl (aL (aT aR)) h18.lt rfl) (aH rfl (nl (bQ (rB (rT (rT (rB (rT (rT (?_))))))))))))))))
    obtain rfl := hb12 _ (sm H1)
    replace H := sw.r H
    obtain rfl := si H
    exact back1 ((X1 Q7.toNat).1, (X1 Q7.toNat).2.1) rfl (ResV.tmp (v := .slice ((X1 Q7.toNat).1) ((nth v0.2 Q7.toNat).length) ((X1 Q7.toNat).2.1)) rfl) rfl (cJ (aS (aW aR h18.lt)) cK) bK
   ·exact bH (nB (nT (aP (aF rfl (gdo H1 fun h19 H1 => (aG (bR rfl rfl h19) (aH rfl (aJ (nLI () (hi11 _ (sm H1)) (.cons aA .nil))))))))))
  ·exact cW (xT (xT (xE (nMI () (hb12 _ (sm H1)) bK))))
 ·rintro e20 y9 H
  refine nT (sr (f2 (e_lit0 Row dS ty57) fun a21 c22 => (aH rfl (nl (Tr.freeze (.cons aA .nil) (bQ ?_))))))
  obtain rfl := si H
  exact back1 (a21, c22) rfl (ResV.tmp (v := .slice a21 (([] : List Row).length) c22) rfl) rfl (cJ aR cK) bK
noncomputable def p_spec_l2Put_b0 (v0 : (List Row)) (v1 : Row) (Q8 : (List Row) × Bool × Int) : Option (((List Row) × Bool × Int) ⊕ ((List Row) × Bool)) := cond (decide (Q8.2.2 < (v0.length : Int))) (bd (cond (!Q8.2.1) (gd (ix Q8.2.2 v0.length) <| some (decide (v1.1 ≤ ((nth v0 Q8.2.2.toNat).1)))) (some (false))) fun b17 => cond (b17) (gd (room (Q8.1.length + 1)) <| gd (ix Q8.2.2 v0.length) <| cond (!decide (((nth v0 Q8.2.2.toNat).1) = v1.1)) (gd (room ((Q8.1 ++ [v1]).length + 1)) <| gd (I64 (Q8.2.2 + 1)) <| some (.inl (((Q8.1 ++ [v1]) ++ [nth v0 Q8.2.2.toNat]), true, Q8.2.2 + 1))) (gd (I64 (Q8.2.2 + 1)) <| some (.inl ((Q8.1 ++ [v1]), true, Q8.2.2 + 1)))) (gd (ix Q8.2.2 v0.length) <| cond (!decide (((nth v0 Q8.2.2.toNat).1) = v1.1)) (gd (room (Q8.1.length + 1)) <| gd (I64 (Q8.2.2 + 1)) <| some (.inl ((Q8.1 ++ [nth v0 Q8.2.2.toNat]), Q8.2.1, Q8.2.2 + 1))) (gd (I64 (Q8.2.2 + 1)) <| some (.inl (Q8.1, Q8.2.1, Q8.2.2 + 1))))) (some (.inr (Q8.1, Q8.2.1)))
noncomputable def p_spec_l2Put (v0 : (List Row)) (v1 : Row) : Option ((List Row)) := bd (lp (p_spec_l2Put_b0 v0 v1) (([] : List Row), false, 0)) fun x4 => cond (!x4.2) (gd (room (x4.1.length + 1)) <| some (x4.1 ++ [v1])) (some x4.1)
theorem c_spec_l2Put {r : (List Row)} (v0 : (List Row)) (x_v0 : Option Addr × Nat) (v1 : Row) (H : p_spec_l2Put v0 v1 = some r) : Fn' prog 133 #[.slice x_v0.1 v0.length x_v0.2, .agg #[.int .i64 (v1.1), .int .i64 (v1.2)]] [imm (.slice x_v0.1 v0.length x_v0.2) v0] [] (ι := Option Addr × Nat) (fun x => .slice x.1 r.length x.2) (fun _ => []) (fun x => [tree (.slice x.1 r.length x.2) r]) := by
 refine cof (args := [_, _]) func133 ntmps133 fun c => ?_
 unfold p_spec_l2Put at H
 refine sr (f1 (cC (t := 57) rfl) fun g1 => (aH (v := .slice none 0 0) rfl (nl (sr (f2 (e_lit0 Row dS ty57) fun a2 c3 => (aH rfl (nl (sr (aH (v := .bool (false)) rfl (nl (aD (sr (aH (v := .int .i64 (0)) rfl (nl ?_))))))))))))))
 refine bdo H fun x4 hx5 H => (cX (ι := Option Addr × Nat) (fun ψ => [(3, .pointer (some ⟨g1, 0, none⟩)), (5, .slice ψ.1 x4.1.length ψ.2), (6, .bool (x4.2))]) (fun ψ => [box g1 57 [.int .i64 (v1.1), .int .i64 (v1.2)], tree (.slice ψ.1 x4.1.length ψ.2) x4.1]) ?_ ?_)
 ·refine aQ (dA hx5 (a2, c3) (fun Q8 z9 => [(0, .slice x_v0.1 v0.length x_v0.2), (3, .pointer (some ⟨g1, 0, none⟩)), (5, .slice z9.1 Q8.1.length z9.2), (6, .bool (Q8.2.1)), (7, .int .i64 (Q8.2.2))]) (fun Q8 z9 => [box g1 57 [.int .i64 (v1.1), .int .i64 (v1.2)], tree (.slice z9.1 Q8.1.length z9.2) Q8.1]) (.cons dl1 (.cons aA .nil)) ?_)
  rintro _ Q8 z9 t11 H1 hi12 hb13
  unfold p_spec_l2Put_b0 at H1
  refine aD (sr (aF rfl (aF rfl (aG (bS 57 dS rfl) (aG (cM rfl rfl) (nl (cH H1 rfl (fun h16 H1 => ?_) (fun h16 H1 => ?_))))))))
  ·refine bH (nT (aD (aQ (aD (bdo H1 fun b17 j18 H1 => (cZ [(26, .bool (b17)), (0, .slice x_v0.1 v0.length x_v0.2), (3, .pointer (some ⟨g1, 0, none⟩)), (5, .slice z9.1 Q8.1.length z9.2), (6, .bool (Q8.2.1)), (7, .int .i64 (Q8.2.2))] ?_ ?_))))))
   ·refine dB [(0, .slice x_v0.1 v0.length x_v0.2), (3, .pointer (some ⟨g1, 0, none⟩)), (5, .slice z9.1 Q8.1.length z9.2), (6, .bool (Q8.2.1)), (7, .int .i64 (Q8.2.2))] mixed (.inr (by kernel_rfl)) ⟨rfl, rfl, rfl, rfl, rfl, trivial⟩ rfl (bB rfl (aX (cR rfl) ?_))
    rcases aK (!Q8.2.1) with h19 | h19
    ·have j18 := cdT h19 j18
     refine bC (aE rfl) h19 (aY rfl (aE rfl) (aY rfl (aE rfl) (gdo j18 fun h20 j18 => (bA rfl (bW dS ty57 rfl rfl h20 rfl (aN (aL aR))) (bA rfl (bY (j := 0) Q8.2.2.toNat fa57_0 rfl (aN (aL aR)) h20.lt rfl) (bA rfl (bZ (i := Q8.2.2.toNat) (j := 0) ty3 rfl (aN (aL aR)) h20.lt rfl) (aY rfl (cB fa57_0 rfl rfl) (bA rfl (bI ty3 rfl aB rfl) (aY rfl (p_geq rfl rfl) ?_)))))))))
     refine aX (bP rfl rfl) ?_
     obtain rfl := si j18
     show At _ _ _ _ _ _
     exact n1 ⟨rfl, rfl, rfl, rfl, rfl, rfl, trivial⟩
    ·have j18 := cdF h19 j18
     refine bC (aE rfl) h19 ?_
     iterate 8 refine bE rfl ?_
     refine aX (v := .bool (false)) (bO rfl rfl) ?_
     obtain rfl := si j18
     show At _ _ _ _ _ _
     exact n1 ⟨rfl, rfl, rfl, rfl, rfl, rfl, trivial⟩
   refine cH H1 rfl (fun h21 H1 => ?_) (fun h21 H1 => ?_)
   ·refine sr (aF rfl (aI (bJ ty57 rfl aB rfl) (f1 (e_lit (vs := [(0, .agg #[.int .i64 (v1.1), .int .i64 (v1.2)])]) [.int .i64 (v1.1), .int .i64 (v1.2)] dS ty57 rfl (by decide) (by decide) (by kernel_rfl)) fun g22 => (gdo H1 fun h25 H1 => (f2 (e_app1 (l := Q8.1) (α := Row) v1 ((), ()) dS ty57 rfl rfl (h25.b (by decide)) h25.x rfl (cS _) (.cons dl2 (.cons aA .nil))) fun a23 c24 => (aH rfl (nl (aP (aH (v := .bool (true)) rfl (nl (aD ?_)))))))))))
    refine dB [(6, .bool (true)), (5, .slice a23 ((Q8.1 ++ [v1]).length) c24), (0, .slice x_v0.1 v0.length x_v0.2), (3, .pointer (some ⟨g1, 0, none⟩)), (7, .int .i64 (Q8.2.2))] mixed (.inr (by kernel_rfl)) ⟨rfl, rfl, rfl, rfl, rfl, trivial⟩ rfl (bB rfl (bB rfl (gdo H1 fun h26 H1 => (aZ (bW dS ty57 rfl rfl h26 rfl (aN (aL aR))) (aZ (bY (j := 0) Q8.2.2.toNat fa57_0 rfl (aN (aL aR)) h26.lt rfl) (aZ (bZ (i := Q8.2.2.toNat) (j := 0) ty3 rfl (aN (aL aR)) h26.lt rfl) (aX (cB fa57_0 rfl rfl) (aZ (bI ty3 rfl hs1 rfl) (aX (cO rfl rfl) ?_)))))))))
    refine nT (cH H1 rfl (fun h27 H1 => ?_) (fun h27 H1 => ?_))
    ·refine aP (aF rfl (aF rfl (aF rfl (aI (bW dS ty57 rfl rfl h26 rfl (aN (aL aR))) (aI (v := .agg #[.int .i64 ((nth v0 Q8.2.2.toNat).1), .int .i64 ((nth v0 Q8.2.2.toNat).2)]) (cA (i := Q8.2.2.toNat) ty57 rfl (aN (aL aR)) h26.lt) (f1 (e_lit (vs := [(0, .agg #[.int .i64 ((nth v0 Q8.2.2.toNat).1), .int .i64 ((nth v0 Q8.2.2.toNat).2)])]) [.int .i64 ((nth v0 Q8.2.2.toNat).1), .int .i64 ((nth v0 Q8.2.2.toNat).2)] dS ty57 rfl (by decide) (by decide) (by kernel_rfl)) fun g28 => (gdo H1 fun h31 H1 => (f2 (e_app1 (l := (Q8.1 ++ [v1])) (α := Row) (nth v0 Q8.2.2.toNat) ((), ()) dS ty57 rfl rfl (h31.b (by decide)) h31.x rfl (cS _) (.cons dl1 (.cons aA .nil))) fun a29 c30 => (aH rfl (aJ ?_))))))))))
     exact nB (nT (aP (aF rfl (gdo H1 fun h32 H1 => (aG (bR rfl rfl h32) (aH rfl (aJ (nLI (a29, c30) (hi12 _ (sm H1)) (.cons dl1 (.cons aA .nil))))))))))
    ·exact bH (nB (nT (aP (aF rfl (gdo H1 fun h33 H1 => (aG (bR rfl rfl h33) (aH rfl (aJ (nLI (a23, c24) (hi12 _ (sm H1)) (.cons dl1 (.cons aA .nil)))))))))))
   ·refine bH (nT (aD (dB [(0, .slice x_v0.1 v0.length x_v0.2), (3, .pointer (some ⟨g1, 0, none⟩)), (5, .slice z9.1 Q8.1.length z9.2), (6, .bool (Q8.2.1)), (7, .int .i64 (Q8.2.2))] mixed (.inr (by kernel_rfl)) ⟨rfl, rfl, rfl, rfl, rfl, trivial⟩ rfl (bB rfl (bB rfl (gdo H1 fun h34 H1 => (aZ (bW dS ty57 rfl rfl h34 rfl (aN (aL aR))) (aZ (bY (j := 0) Q8.2.2.toNat fa57_0 rfl (aN (aL aR)) h34.lt rfl) (aZ (bZ (i := Q8.2.2.toNat) (j := 0) ty3 rfl (aN (aL aR)) h34.lt rfl) (aX (cB fa57_0 rfl rfl) ?_))))))))))
    refine aZ (bI ty3 rfl aB rfl) (aX (cO rfl rfl) (nT (cH H1 rfl (fun h35 H1 => ?_) (fun h35 H1 => ?_))))
    ·refine aP (aF rfl (aF rfl (aF rfl (aI (bW dS ty57 rfl rfl h34 rfl (aN (aL aR))) (aI (v := .agg #[.int .i64 ((nth v0 Q8.2.2.toNat).1), .int .i64 ((nth v0 Q8.2.2.toNat).2)]) (cA (i := Q8.2.2.toNat) ty57 rfl (aN (aL aR)) h34.lt) (f1 (e_lit (vs := [(0, .agg #[.int .i64 ((nth v0 Q8.2.2.toNat).1), .int .i64 ((nth v0 Q8.2.2.toNat).2)])]) [.int .i64 ((nth v0 Q8.2.2.toNat).1), .int .i64 ((nth v0 Q8.2.2.toNat).2)] dS ty57 rfl (by decide) (by decide) (by kernel_rfl)) fun g36 => (gdo H1 fun h39 H1 => (f2 (e_app1 (l := Q8.1) (α := Row) (nth v0 Q8.2.2.toNat) ((), ()) dS ty57 rfl rfl (h39.b (by decide)) h39.x rfl (cS _) (.cons dl2 (.cons aA .nil))) fun a37 c38 => (aH rfl (aJ ?_))))))))))
     exact nB (nT (aP (aF rfl (gdo H1 fun h40 H1 => (aG (bR rfl rfl h40) (aH rfl (aJ (nLI (a37, c38) (hi12 _ (sm H1)) (.cons dl1 (.cons aA .nil))))))))))
    ·exact bH (nB (nT (aP (aF rfl (gdo H1 fun h41 H1 => (aG (bR rfl rfl h41) (aH rfl (aJ (nLI (z9.1, z9.2) (hi12 _ (sm H1)) (.cons aA (.cons aA .nil)))))))))))
  ·refine cW (xT (xT (xE (?_))))
   obtain rfl := hb13 _ (sm H1)
   exact nMC (z9.1, z9.2) ⟨rfl, rfl, rfl, trivial⟩ bT (.cons aA (.cons aA .nil))
 ·intro y10
  show At _ _ [(3, .pointer (some ⟨g1, 0, none⟩)), (5, .slice y10.1 x4.1.length y10.2), (6, .bool (x4.2))] _ [box g1 57 [.int .i64 (v1.1), .int .i64 (v1.2)], tree (.slice y10.1 x4.1.length y10.2) x4.1] _
  refine nT (aD (sr (aF rfl (aG (cR rfl) (nl (cH H rfl (fun h42 H => ?_) (fun h42 H => ?_)))))))
  ·refine aP (aF rfl (aI (bJ ty57 rfl aB rfl) (f1 (e_lit (vs := [(0, .agg #[.int .i64 (v1.1), .int .i64 (v1.2)])]) [.int .i64 (v1.1), .int .i64 (v1.2)] dS ty57 rfl (by decide) (by decide) (by kernel_rfl)) fun g43 => (gdo H fun h46 H => (f2 (e_app1 (l := x4.1) (α := Row) v1 ((), ()) dS ty57 rfl rfl (h46.b (by decide)) h46.x rfl (cS _) (.cons dl2 (.cons aA .nil))) fun a44 c45 => (aH rfl (nl (sr (aF rfl (aH rfl (nl ?_)))))))))))
   refine bQ ?_
   obtain rfl := si H
   exact back1 (a44, c45) rfl (ResV.tmp (v := .slice a44 ((x4.1 ++ [v1]).length) c45) rfl) rfl cK (.cons aA .nil)
  ·refine bH (nT (sr (aF rfl (aH rfl (nl (bQ ?_))))))
   obtain rfl := si H
   exact back1 y10 rfl (ResV.tmp (v := .slice y10.1 x4.1.length y10.2) rfl) rfl cK (.cons dl1 .nil)
noncomputable def p_spec_l2Merge_b0 (v1 : (List Row)) (Q10 : (List Row) × Int) : Option (((List Row) × Int) ⊕ ((List Row))) := cond (decide (Q10.2 < (v1.length : Int))) (gd (ix Q10.2 v1.length) <| bd (p_spec_l2Put Q10.1 (nth v1 Q10.2.toNat)) fun r20 => gd (I64 (Q10.2 + 1)) <| some (.inl (r20, Q10.2 + 1))) (some (.inr Q10.1))
noncomputable def p_spec_l2Merge (v0 : (List Row)) (v1 : (List Row)) : Option ((List Row)) := gd (room (([] : List Row).length + v0.length)) <| bd (lp (p_spec_l2Merge_b0 v1) ((([] : List Row) ++ v0), 0)) fun x6 => some x6
theorem c_spec_l2Merge {r : (List Row)} (v0 : (List Row)) (x_v0 : Option Addr × Nat) (v1 : (List Row)) (x_v1 : Option Addr × Nat) (H : p_spec_l2Merge v0 v1 = some r) : Fn' prog 131 #[.slice x_v0.1 v0.length x_v0.2, .slice x_v1.1 v1.length x_v1.2] [imm (.slice x_v0.1 v0.length x_v0.2) v0, imm (.slice x_v1.1 v1.length x_v1.2) v1] [] (ι := Option Addr × Nat) (fun x => .slice x.1 r.length x.2) (fun _ => []) (fun x => [tree (.slice x.1 r.length x.2) r]) := by
 refine cof (args := [_, _]) func131 ntmps131 fun c => ?_
 unfold p_spec_l2Merge at H
 refine sr (aH (v := .slice none 0 0) rfl (nl (sr (f2 (e_lit0 Row dS ty57) fun a1 c2 => (aF rfl (gdo H fun h5 H => (f2 (e_appF (l := ([] : List Row)) (k := v0) (α := Row) dS ty57 rfl rfl (h5.b (by decide)) h5.x (.cons aA .nil) (aL aR)) fun a3 c4 => (aH rfl (nl (aD (sr (aH (v := .int .i64 (0)) rfl (nl ?_)))))))))))))
 refine bdo H fun x6 hx7 H => (cX (ι := Option Addr × Nat) (fun ψ => [(5, .slice ψ.1 x6.length ψ.2)]) (fun ψ => [tree (.slice ψ.1 x6.length ψ.2) x6]) ?_ ?_)
 ·refine aQ (dA hx7 (a3, c4) (fun Q10 z11 => [(1, .slice x_v1.1 v1.length x_v1.2), (5, .slice z11.1 Q10.1.length z11.2), (6, .int .i64 (Q10.2))]) (fun Q10 z11 => [tree (.slice z11.1 Q10.1.length z11.2) Q10.1]) (.cons aA .nil) ?_)
  rintro _ Q10 z11 t13 H1 hi14 hb15
  unfold p_spec_l2Merge_b0 at H1
  refine aD (sr (aF rfl (aF rfl (aG (bS 57 dS rfl) (aG (cM rfl rfl) (nl (cH H1 rfl (fun h18 H1 => ?_) (fun h18 H1 => ?_))))))))
  ·refine bH (nT (aD (aQ (aP (aF rfl (aF rfl (aF rfl (gdo H1 fun h19 H1 => (aI (bW dS ty57 rfl rfl h19 rfl (aN (aL aR.s))) (aI (v := .agg #[.int .i64 ((nth v1 Q10.2.toNat).1), .int .i64 ((nth v1 Q10.2.toNat).2)]) (cA (i := Q10.2.toNat) ty57 rfl (aN (aL aR.s)) h19.lt) ?_))))))))))
   exact bdo H1 fun r20 h21 H1 => (f1 (cE (c_spec_l2Put Q10.1 z11 (nth v1 Q10.2.toNat) h21) (fun _ => (bF bG)) rfl (aC (bL aB) aO)) fun x22 => (aH rfl (aJ (nB (nT (aP (aF rfl (gdo H1 fun h23 H1 => (aG (bR rfl rfl h23) (aH rfl (aJ (nLI (x22.1, x22.2) (hi14 _ (sm H1)) (.cons aA .nil)))))))))))))
  ·refine cW (xT (xT (xE (?_))))
   obtain rfl := hb15 _ (sm H1)
   exact nMC (z11.1, z11.2) ⟨rfl, trivial⟩ bT (.cons aA .nil)
 ·intro y12
  show At _ _ [(5, .slice y12.1 x6.length y12.2)] _ [tree (.slice y12.1 x6.length y12.2) x6] _
  refine nT (sr (aF rfl (aH rfl (nl (bQ ?_)))))
  obtain rfl := si H
  exact back1 y12 rfl (ResV.tmp (v := .slice y12.1 x6.length y12.2) rfl) rfl cK (.cons aA .nil)
noncomputable def p_spec_l13Rows_b0 (v0 : Store) (v1 : Int) (Q11 : (List Row) × Int) : Option (((List Row) × Int) ⊕ ((List Row))) := cond (decide (Q11.2 < (v0.2.1.length : Int))) (gd (ix Q11.2 v0.2.1.length) <| bd (p_spec_l12Of (nth v0.2.1 Q11.2.toNat) v1) fun r21 => bd (p_spec_l2Merge Q11.1 r21) fun r24 => gd (I64 (Q11.2 + 1)) <| some (.inl (r24, Q11.2 + 1))) (some (.inr Q11.1))
noncomputable def p_spec_l13Rows_b1 (v0 : Store) (v1 : Int) (Q32 : (List Row) × Int) : Option (((List Row) × Int) ⊕ ((List Row))) := cond (decide (Q32.2 < (v0.2.2.length : Int))) (gd (ix Q32.2 v0.2.2.length) <| cond (decide (((nth v0.2.2 Q32.2.toNat).1) = v1)) (bd (p_spec_l2Put Q32.1 ((nth v0.2.2 Q32.2.toNat).2)) fun r43 => gd (I64 (Q32.2 + 1)) <| some (.inl (r43, Q32.2 + 1))) (gd (I64 (Q32.2 + 1)) <| some (.inl (Q32.1, Q32.2 + 1)))) (some (.inr Q32.1))
noncomputable def p_spec_l13Rows (v0 : Store) (v1 : Int) : Option ((List Row)) := bd (lp (p_spec_l13Rows_b0 v0 v1) (([] : List Row), 0)) fun x7 => bd (lp (p_spec_l13Rows_b1 v0 v1) (x7, 0)) fun x28 => some x28
theorem c_spec_l13Rows {r : (List Row)} (v0 : Store) (x_v0 : ((Option Addr × Nat) × (Option Addr × Nat)) × (Option Addr × Nat) × (Option Addr × Nat)) (v1 : Int) (H : p_spec_l13Rows v0 v1 = some r) : Fn' prog 77 #[.agg #[.slice x_v0.1.1.1 v0.1.1.length x_v0.1.1.2, .slice x_v0.1.2.1 v0.1.2.length x_v0.1.2.2, .slice x_v0.2.1.1 v0.2.1.length x_v0.2.1.2, .slice x_v0.2.2.1 v0.2.2.length x_v0.2.2.2], .int .i64 (v1)] [imm (.slice x_v0.1.1.1 v0.1.1.length x_v0.1.1.2) v0.1.1, imm (.slice x_v0.1.2.1 v0.1.2.length x_v0.1.2.2) v0.1.2, imm (.slice x_v0.2.1.1 v0.2.1.length x_v0.2.1.2) v0.2.1, imm (.slice x_v0.2.2.1 v0.2.2.length x_v0.2.2.2) v0.2.2] [] (ι := Option Addr × Nat) (fun x => .slice x.1 r.length x.2) (fun _ => []) (fun x => [tree (.slice x.1 r.length x.2) r]) := by
 refine cof (args := [_, _]) func77 ntmps77 fun c => ?_
 unfold p_spec_l13Rows at H
 refine bM aR fun X1 => (bM aR.s.s fun X2 => (bM aR.s.s.s.s fun X3 => (sr (f1 (cC (t := 42) rfl) fun g4 => (aH (v := .slice none 0 0) rfl (nl (sr (f2 (e_lit0 Row dS ty57) fun a5 c6 => (aH rfl (nl (aD (sr ?_))))))))))))
 refine aH (v := .int .i64 (0)) rfl (nl (bdo H fun x7 hx8 H => (cX (ι := Option Addr × Nat) (fun ψ => [(1, .int .i64 (v1)), (2, .pointer (some ⟨g4, 0, none⟩)), (5, .slice ψ.1 x7.length ψ.2)]) (fun ψ => [box g4 42 [.slice x_v0.1.1.1 v0.1.1.length x_v0.1.1.2, .slice x_v0.1.2.1 v0.1.2.length x_v0.1.2.2, .slice x_v0.2.1.1 v0.2.1.length x_v0.2.1.2, .slice x_v0.2.2.1 v0.2.2.length x_v0.2.2.2], tree (.slice ψ.1 x7.length ψ.2) x7]) ?_ ?_)))
 ·refine aQ (dA hx8 (a5, c6) (fun Q11 z12 => [(1, .int .i64 (v1)), (2, .pointer (some ⟨g4, 0, none⟩)), (5, .slice z12.1 Q11.1.length z12.2), (6, .int .i64 (Q11.2))]) (fun Q11 z12 => [box g4 42 [.slice x_v0.1.1.1 v0.1.1.length x_v0.1.1.2, .slice x_v0.1.2.1 v0.1.2.length x_v0.1.2.2, .slice x_v0.2.1.1 v0.2.1.length x_v0.2.1.2, .slice x_v0.2.2.1 v0.2.2.length x_v0.2.2.2], tree (.slice z12.1 Q11.1.length z12.2) Q11.1]) (.cons dl1 (.cons aA .nil)) ?_)
  rintro _ Q11 z12 t14 H1 hi15 hb16
  unfold p_spec_l13Rows_b0 at H1
  refine aD (sr (aF rfl (aG (cB fa42_1 rfl rfl) (aI (bI ty39 rfl aB rfl) (aG (bS 72 dP rfl) (aG (cM rfl rfl) (nl (cH H1 rfl (fun h19 H1 => ?_) (fun h19 H1 => ?_)))))))))
  ·refine bH (nT (aD (aQ (aP (aF rfl (aG (cB fa42_1 rfl rfl) (aI (bI ty39 rfl aB rfl) (aF rfl (gdo H1 fun h20 H1 => (aI (bW dP ty72 rfl rfl h20 rfl (aL (aT aR))) ?_))))))))))
   refine aI (v := .agg #[.slice (((X3 Q11.2.toNat).1).1) (((nth v0.2.1 Q11.2.toNat).1).length) (((X3 Q11.2.toNat).1).2.1), .slice (((X3 Q11.2.toNat).2).1) (((nth v0.2.1 Q11.2.toNat).2).length) (((X3 Q11.2.toNat).2).2.1)]) (cA (i := Q11.2.toNat) ty72 rfl (aL (aT aR)) h20.lt) (aF rfl (bdo H1 fun r21 h22 H1 => (f1 (e_call (c_spec_l12Of (nth v0.2.1 Q11.2.toNat) ((((X3 Q11.2.toNat).1).1, ((X3 Q11.2.toNat).1).2.1), (((X3 Q11.2.toNat).2).1, ((X3 Q11.2.toNat).2).2.1)) v1 h22) rfl (cJ (aS (aV (aW aR h20.lt))) (cJ (aS (aU (aW aR h20.lt))) cK)) bK) fun x23 => (bdo H1 fun r24 h25 H1 => (f1 (cE (c_spec_l2Merge Q11.1 z12 r21 x23 h25) (fun _ => (bF bG)) rfl (aC (bL hs1) (aC (aL aR) aO))) fun x26 => (aH rfl (aJ (nB (nT (aP (aF rfl ?_)))))))))))
   exact gdo H1 fun h27 H1 => (aG (bR rfl rfl h27) (aH rfl (aJ (nLI (hf := bT.s) (x26.1, x26.2) (hi15 _ (sm H1)) (.cons dl1 (.cons aA .nil))))))
  ·refine cW (xT (xT (xE (?_))))
   obtain rfl := hb16 _ (sm H1)
   exact nMC (z12.1, z12.2) ⟨rfl, rfl, rfl, trivial⟩ bT (.cons aA (.cons aA .nil))
 ·intro y13
  show At _ _ [(1, .int .i64 (v1)), (2, .pointer (some ⟨g4, 0, none⟩)), (5, .slice y13.1 x7.length y13.2)] _ [box g4 42 [.slice x_v0.1.1.1 v0.1.1.length x_v0.1.1.2, .slice x_v0.1.2.1 v0.1.2.length x_v0.1.2.2, .slice x_v0.2.1.1 v0.2.1.length x_v0.2.1.2, .slice x_v0.2.2.1 v0.2.2.length x_v0.2.2.2], tree (.slice y13.1 x7.length y13.2) x7] _
  refine nT (aD (sr (aH (v := .int .i64 (0)) rfl (nl (bdo H fun x28 hx29 H => (cX (ι := Option Addr × Nat) (fun ψ => [(5, .slice ψ.1 x28.length ψ.2)]) (fun ψ => [tree (.slice ψ.1 x28.length ψ.2) x28]) ?_ ?_))))))
  ·refine aQ (dA hx29 (y13.1, y13.2) (fun Q32 z33 => [(1, .int .i64 (v1)), (2, .pointer (some ⟨g4, 0, none⟩)), (5, .slice z33.1 Q32.1.length z33.2), (7, .int .i64 (Q32.2))]) (fun Q32 z33 => [box g4 42 [.slice x_v0.1.1.1 v0.1.1.length x_v0.1.1.2, .slice x_v0.1.2.1 v0.1.2.length x_v0.1.2.2, .slice x_v0.2.1.1 v0.2.1.length x_v0.2.1.2, .slice x_v0.2.2.1 v0.2.2.length x_v0.2.2.2], tree (.slice z33.1 Q32.1.length z33.2) Q32.1]) (.cons aA (.cons aA .nil)) ?_)
   rintro _ Q32 z33 t35 H1 hi36 hb37
   unfold p_spec_l13Rows_b1 at H1
   refine aD (sr (aF rfl (aG (cB fa42_2 rfl rfl) (aI (bI ty40 rfl aB rfl) (aG (bS 59 dQ rfl) (aG (cM rfl rfl) (nl (cH H1 rfl (fun h40 H1 => ?_) (fun h40 H1 => ?_)))))))))
   ·refine bH (nT (aD (aQ (sr (aG (cB fa42_2 rfl rfl) (aI (bI ty40 rfl aB rfl) (aF rfl (gdo H1 fun h41 H1 => (aI (bW dQ ty59 rfl rfl h41 rfl (aN (aL aR.s.s.s.s.s.s))) (aI (bY (j := 0) Q32.2.toNat fa59_0 rfl (aN (aL aR.s.s.s.s.s.s)) h41.lt rfl) ?_))))))))))
    refine aI (bZ (i := Q32.2.toNat) (j := 0) ty3 rfl (aN (aL aR.s.s.s.s.s.s)) h41.lt rfl) (aF rfl (aG (cP rfl rfl) (nl (cH H1 rfl (fun h42 H1 => ?_) (fun h42 H1 => ?_)))))
    ·refine aP (aF rfl (aG (cB fa42_2 rfl rfl) (aI (bI ty40 rfl aB rfl) (aF rfl (aI (bW dQ ty59 rfl rfl h41 rfl (aN (aL aR.s.s.s.s.s.s))) (aI (bY (j := 0) Q32.2.toNat fa59_1 rfl (aN (aL aR.s.s.s.s.s.s)) h41.lt rfl) (aI (v := .agg #[.int .i64 (((nth v0.2.2 Q32.2.toNat).2).1), .int .i64 (((nth v0.2.2 Q32.2.toNat).2).2)]) (q_ldeP [.int .i64 (((nth v0.2.2 Q32.2.toNat).2).1), .int .i64 (((nth v0.2.2 Q32.2.toNat).2).2)] (l := v0.2.2) (E := fun i => Flat.enc (nth v0.2.2 i)) (oa := x_v0.2.2.1) (i := Q32.2.toNat) (j := 1) ty57 rfl (aN (aL aR.s.s.s.s.s.s)) h41.lt rfl rfl) (bdo H1 fun r43 h44 H1 => (f1 (cE (c_spec_l2Put Q32.1 z33 ((nth v0.2.2 Q32.2.toNat).2) h44) (fun _ => (bF bG)) rfl (aC (bL hs1) aO)) fun x45 => ?_)))))))))
     exact aH rfl (aJ (nB (nT (aP (aF rfl (gdo H1 fun h46 H1 => (aG (bR rfl rfl h46) (aH rfl (aJ (nLI (x45.1, x45.2) (hi36 _ (sm H1)) (.cons dl1 (.cons aA .nil))))))))))))
    ·exact bH (nB (nT (aP (aF rfl (gdo H1 fun h47 H1 => (aG (bR rfl rfl h47) (aH rfl (aJ (nLI (z33.1, z33.2) (hi36 _ (sm H1)) (.cons aA (.cons aA .nil)))))))))))
   ·refine cW (xT (xT (xE (?_))))
    obtain rfl := hb37 _ (sm H1)
    exact nMC (z33.1, z33.2) ⟨rfl, trivial⟩ bT (.cons dl1 .nil)
  ·intro y34
   show At _ _ [(5, .slice y34.1 x28.length y34.2)] _ [tree (.slice y34.1 x28.length y34.2) x28] _
   refine nT (sr (aF rfl (aH rfl (nl (bQ ?_)))))
   obtain rfl := si H
   exact back1 y34 rfl (ResV.tmp (v := .slice y34.1 x28.length y34.2) rfl) rfl cK (.cons aA .nil)
noncomputable def p_spec_StoreOk_b0 (v0 : Store) (Q16 : Int) : Option ((Int) ⊕ (Unit ⊕ Bool)) := cond (decide (Q16 < (v0.2.1.length : Int))) (gd (ix Q16 v0.2.1.length) <| bd (p_spec_l13Part (nth v0.2.1 Q16.toNat) (v0.1.1.length : Int)) fun r26 => cond (!r26) (some (.inr (.inr false))) (gd (I64 (Q16 + 1)) <| some (.inl (Q16 + 1)))) (some (.inr (.inl ())))
noncomputable def p_spec_StoreOk_b1 (v0 : Store) (Q35 : Int) : Option ((Int) ⊕ (Unit ⊕ Bool)) := cond (decide (Q35 < (v0.2.2.length : Int))) (bd (gd (ix Q35 v0.2.2.length) <| bd (p_spec_l6In ((nth v0.2.2 Q35.toNat).1) 1 (v0.1.1.length : Int)) fun r47 => cond (!r47) (some (true)) (bd (p_spec_l2Row ((nth v0.2.2 Q35.toNat).2)) fun r50 => some (!r50))) fun b44 => cond (b44) (some (.inr (.inr false))) (gd (I64 (Q35 + 1)) <| some (.inl (Q35 + 1)))) (some (.inr (.inl ())))
noncomputable def p_spec_StoreOk_b2 (v0 : Store) (Q59 : Int) : Option ((Int) ⊕ (Unit ⊕ Bool)) := cond (decide (Q59 ≤ (v0.1.1.length : Int))) (bd (p_spec_l13Rows v0 Q59) fun r68 => cond (decide (24 < (r68.length : Int))) (some (.inr (.inr false))) (gd (I64 (Q59 + 1)) <| some (.inl (Q59 + 1)))) (some (.inr (.inl ())))
noncomputable def p_spec_StoreOk (v0 : Store) : Option (Bool) := bd (bd (p_spec_IndexOk v0.1) fun r7 => cond (!r7) (some (true)) (cond (decide (6 < (v0.2.1.length : Int))) (some (true)) (some (decide (20 < (v0.2.2.length : Int)))))) fun b5 => cond (b5) (some false) (bd (lp (p_spec_StoreOk_b0 v0) 0) <| sw (fun _ => bd (lp (p_spec_StoreOk_b1 v0) 0) <| sw (fun _ => bd (lp (p_spec_StoreOk_b2 v0) 1) <| sw (fun _ => some true) (fun q => some q)) (fun q => some q)) (fun q => some q))
theorem c_spec_StoreOk {r : Bool} (v0 : Store) (x_v0 : ((Option Addr × Nat) × (Option Addr × Nat)) × (Option Addr × Nat) × (Option Addr × Nat)) (H : p_spec_StoreOk v0 = some r) : Fn' prog 23 #[.agg #[.slice x_v0.1.1.1 v0.1.1.length x_v0.1.1.2, .slice x_v0.1.2.1 v0.1.2.length x_v0.1.2.2, .slice x_v0.2.1.1 v0.2.1.length x_v0.2.1.2, .slice x_v0.2.2.1 v0.2.2.length x_v0.2.2.2]] [imm (.slice x_v0.1.1.1 v0.1.1.length x_v0.1.1.2) v0.1.1, imm (.slice x_v0.1.2.1 v0.1.2.length x_v0.1.2.2) v0.1.2, imm (.slice x_v0.2.1.1 v0.2.1.length x_v0.2.1.2) v0.2.1, imm (.slice x_v0.2.2.1 v0.2.2.length x_v0.2.2.2) v0.2.2] [] (ι := Unit) (fun _ => .bool (r)) (fun _ => []) (fun _ => []) := by
 refine cof (args := [_]) func23 ntmps23 fun c => ?_
 unfold p_spec_StoreOk at H
 refine bM aR fun X1 => (bM aR.s.s fun X2 => (bM aR.s.s.s.s fun X3 => (sr (f1 (cC (t := 42) rfl) fun g4 => (aH (v := .bool (false)) rfl (nl (sr (aG (cB fa42_0 rfl rfl) (aG (cB fa38_0 rfl rfl) (aI (bI ty35 rfl aB rfl) ?_))))))))))
 refine aG (bS 105 dN rfl) (aH rfl (nl (aD (bdo H fun b5 j6 H => (cZ [(26, .bool (b5)), (3, .int .i64 ((v0.1.1.length : Int))), (1, .pointer (some ⟨g4, 0, none⟩))] ?_ ?_)))))
 ·refine dC [(3, .int .i64 ((v0.1.1.length : Int))), (1, .pointer (some ⟨g4, 0, none⟩))] ⟨rfl, rfl, trivial⟩ (aX (cB fa42_0 rfl rfl) (aZ (v := .agg #[.slice x_v0.1.1.1 v0.1.1.length x_v0.1.1.2, .slice x_v0.1.2.1 v0.1.2.length x_v0.1.2.2]) (q_ldbP [.slice x_v0.1.1.1 v0.1.1.length x_v0.1.1.2, .slice x_v0.1.2.1 v0.1.2.length x_v0.1.2.2] ty38 rfl aB rfl rfl) (bdo j6 fun r7 h8 j6 => (aZ (bN (c_spec_IndexOk v0.1 x_v0.1 h8) rfl (aC (aL (aS aR.s.s)) (aC (aL (aS aR.s)) aO))) (aX (cR rfl) ?_)))))
  rcases aK (!r7) with h9 | h9
  ·have j6 := cdT h9 j6
   refine bC (aE rfl) h9 ?_
   iterate 4 refine bE rfl ?_
   refine aX (v := .bool (true)) (bP rfl rfl) (bB (v := .bool (true)) rfl ?_)
   iterate 4 refine bE rfl ?_
   refine aX (v := .bool (true)) (bP rfl rfl) ?_
   obtain rfl := si j6
   show At _ _ _ _ _ _
   exact n1 ⟨rfl, rfl, rfl, trivial⟩
  ·have j6 := cdF h9 j6
   refine bC (aE rfl) h9 (aY rfl (cB fa42_1 rfl rfl) (bA rfl (bI ty39 rfl aB rfl) (aY rfl (bS 72 dP rfl) (aY rfl (cQ rfl rfl) (aX (bO rfl rfl) ?_)))))
   rcases aK (decide (6 < (v0.2.1.length : Int))) with h10 | h10
   ·have j6 := cdT h10 j6
    refine bC (aE rfl) h10 ?_
    iterate 4 refine bE rfl ?_
    refine aX (v := .bool (true)) (bP rfl rfl) ?_
    obtain rfl := si j6
    show At _ _ _ _ _ _
    exact n1 ⟨rfl, rfl, rfl, trivial⟩
   ·have j6 := cdF h10 j6
    refine bC (aE rfl) h10 (aY rfl (cB fa42_2 rfl rfl) (bA rfl (bI ty40 rfl aB rfl) (aY rfl (bS 59 dQ rfl) (aY rfl (cQ rfl rfl) (aX (bO rfl rfl) ?_)))))
    obtain rfl := si j6
    show At _ _ _ _ _ _
    exact n1 ⟨rfl, rfl, rfl, trivial⟩
 refine cH H rfl (fun h11 H => ?_) (fun h11 H => ?_)
 ·refine sr (aH (v := .bool (false)) rfl (nl (bQ (rT (?_)))))
  obtain rfl := si H
  exact bk
 ·refine bH (nT (aD (sr (aH (v := .int .i64 (0)) rfl (nl (bdo H fun x12 hx13 H => (cY (Λ := Unit) H (fun _ _ => [(1, .pointer (some ⟨g4, 0, none⟩)), (3, .int .i64 ((v0.1.1.length : Int)))]) (fun _ _ => [box g4 42 [.slice x_v0.1.1.1 v0.1.1.length x_v0.1.1.2, .slice x_v0.1.2.1 v0.1.2.length x_v0.1.2.2, .slice x_v0.2.1.1 v0.2.1.length x_v0.2.1.2, .slice x_v0.2.2.1 v0.2.2.length x_v0.2.2.2]]) ?_ ?_)))))))
  ·refine aQ (dA hx13 () (fun Q16 _ => [(1, .pointer (some ⟨g4, 0, none⟩)), (3, .int .i64 ((v0.1.1.length : Int))), (4, .int .i64 (Q16))]) (fun _ _ => [box g4 42 [.slice x_v0.1.1.1 v0.1.1.length x_v0.1.1.2, .slice x_v0.1.2.1 v0.1.2.length x_v0.1.2.2, .slice x_v0.2.1.1 v0.2.1.length x_v0.2.1.2, .slice x_v0.2.2.1 v0.2.2.length x_v0.2.2.2]]) (.cons aA .nil) ?_)
   rintro _ Q16 z17 t19 H1 hi20 hb21
   unfold p_spec_StoreOk_b0 at H1
   refine aD (sr (aF rfl (aG (cB fa42_1 rfl rfl) (aI (bI ty39 rfl aB rfl) (aG (bS 72 dP rfl) (aG (cM rfl rfl) (nl (cH H1 rfl (fun h24 H1 => ?_) (fun h24 H1 => ?_)))))))))
   ·refine bH (nT (aD (aQ (sr (aG (cB fa42_1 rfl rfl) (aI (bI ty39 rfl aB rfl) (aF rfl (gdo H1 fun h25 H1 => (aI (bW dP ty72 rfl rfl h25 rfl (aL (aT aR))) (aI (v := .agg #[.slice (((X3 Q16.toNat).1).1) (((nth v0.2.1 Q16.toNat).1).length) (((X3 Q16.toNat).1).2.1), .slice (((X3 Q16.toNat).2).1) (((nth v0.2.1 Q16.toNat).2).length) (((X3 Q16.toNat).2).2.1)]) (cA (i := Q16.toNat) ty72 rfl (aL (aT aR)) h25.lt) ?_))))))))))
    refine aF rfl (bdo H1 fun r26 h27 H1 => (aI (bN (c_spec_l13Part (nth v0.2.1 Q16.toNat) ((((X3 Q16.toNat).1).1, ((X3 Q16.toNat).1).2.1), (((X3 Q16.toNat).2).1, ((X3 Q16.toNat).2).2.1)) (v0.1.1.length : Int) h27) rfl (aC (aL (aS (aV (aW aR h25.lt)))) (aC (aL (aS (aU (aW aR h25.lt)))) aO))) (aG (cR rfl) (nl (cH H1 rfl (fun h28 H1 => ?_) (fun h28 H1 => ?_))))))
    ·refine sr (aH (v := .bool (false)) rfl (nl (bQ (rB (rT (rT (rB (rT (rT (?_))))))))))
     obtain rfl := hb21 _ (sm H1)
     replace H := sw.r H
     obtain rfl := si H
     exact bk
    ·exact bH (nB (nT (aP (aF rfl (gdo H1 fun h29 H1 => (aG (bR rfl rfl h29) (aH rfl (aJ (nLI () (hi20 _ (sm H1)) (.cons aA .nil))))))))))
   ·exact cW (xT (xT (xE (nMI () (hb21 _ (sm H1)) (.cons aA .nil)))))
  ·rintro e30 y18 H
   refine nT (aD (sr (aH (v := .int .i64 (0)) rfl (nl (bdo H fun x31 hx32 H => (cY (Λ := Unit) H (fun _ _ => [(1, .pointer (some ⟨g4, 0, none⟩)), (3, .int .i64 ((v0.1.1.length : Int)))]) (fun _ _ => [box g4 42 [.slice x_v0.1.1.1 v0.1.1.length x_v0.1.1.2, .slice x_v0.1.2.1 v0.1.2.length x_v0.1.2.2, .slice x_v0.2.1.1 v0.2.1.length x_v0.2.1.2, .slice x_v0.2.2.1 v0.2.2.length x_v0.2.2.2]]) ?_ ?_))))))
   ·refine aQ (dA hx32 () (fun Q35 _ => [(1, .pointer (some ⟨g4, 0, none⟩)), (3, .int .i64 ((v0.1.1.length : Int))), (5, .int .i64 (Q35))]) (fun _ _ => [box g4 42 [.slice x_v0.1.1.1 v0.1.1.length x_v0.1.1.2, .slice x_v0.1.2.1 v0.1.2.length x_v0.1.2.2, .slice x_v0.2.1.1 v0.2.1.length x_v0.2.1.2, .slice x_v0.2.2.1 v0.2.2.length x_v0.2.2.2]]) (.cons aA .nil) ?_)
    rintro _ Q35 z36 t38 H1 hi39 hb40
    unfold p_spec_StoreOk_b1 at H1
    refine aD (sr (aF rfl (aG (cB fa42_2 rfl rfl) (aI (bI ty40 rfl aB rfl) (aG (bS 59 dQ rfl) (aG (cM rfl rfl) (nl (cH H1 rfl (fun h43 H1 => ?_) (fun h43 H1 => ?_)))))))))
    ·refine bH (nT (aD (aQ (bdo H1 fun b44 j45 H1 => (cZ [(67, .bool (b44)), (1, .pointer (some ⟨g4, 0, none⟩)), (3, .int .i64 ((v0.1.1.length : Int))), (5, .int .i64 (Q35))] ?_ ?_)))))
     ·refine dC [(1, .pointer (some ⟨g4, 0, none⟩)), (3, .int .i64 ((v0.1.1.length : Int))), (5, .int .i64 (Q35))] ⟨rfl, rfl, rfl, trivial⟩ (aX (cB fa42_2 rfl rfl) (aZ (bI ty40 rfl aB rfl) (bB rfl (gdo j45 fun h46 j45 => (aZ (bW dQ ty59 rfl rfl h46 rfl (aN (aL aR.s.s.s.s.s.s))) (aZ (bY (j := 0) Q35.toNat fa59_0 rfl (aN (aL aR.s.s.s.s.s.s)) h46.lt rfl) (aZ (bZ (i := Q35.toNat) (j := 0) ty3 rfl (aN (aL aR.s.s.s.s.s.s)) h46.lt rfl) (bB rfl (bdo j45 fun r47 h48 j45 => ?_)))))))))
      refine aZ (bN (c_spec_l6In ((nth v0.2.2 Q35.toNat).1) 1 (v0.1.1.length : Int) h48) rfl aO) (aX (cR rfl) ?_)
      rcases aK (!r47) with h49 | h49
      ·have j45 := cdT h49 j45
       refine bC (aE rfl) h49 ?_
       iterate 8 refine bE rfl ?_
       refine aX (v := .bool (true)) (bP rfl rfl) ?_
       obtain rfl := si j45
       show At _ _ _ _ _ _
       exact n1 ⟨rfl, rfl, rfl, rfl, trivial⟩
      ·have j45 := cdF h49 j45
       refine bC (aE rfl) h49 (aY rfl (cB fa42_2 rfl rfl) (bA rfl (bI ty40 rfl aB rfl) (aY rfl (aE rfl) (bA rfl (bW dQ ty59 rfl rfl h46 rfl (aN (aL aR.s.s.s.s.s.s))) (bA rfl (bY (j := 0) Q35.toNat fa59_1 rfl (aN (aL aR.s.s.s.s.s.s)) h46.lt rfl) (bA (v := .agg #[.int .i64 (((nth v0.2.2 Q35.toNat).2).1), .int .i64 (((nth v0.2.2 Q35.toNat).2).2)]) rfl (q_ldeP [.int .i64 (((nth v0.2.2 Q35.toNat).2).1), .int .i64 (((nth v0.2.2 Q35.toNat).2).2)] (l := v0.2.2) (E := fun i => Flat.enc (nth v0.2.2 i)) (oa := x_v0.2.2.1) (i := Q35.toNat) (j := 1) ty57 rfl (aN (aL aR.s.s.s.s.s.s)) h46.lt rfl rfl) (bdo j45 fun r50 h51 j45 => (bA rfl (bN (c_spec_l2Row ((nth v0.2.2 Q35.toNat).2) h51) rfl aO) (aY rfl (cR rfl) ?_)))))))))
       refine aX (bO rfl rfl) ?_
       obtain rfl := si j45
       show At _ _ _ _ _ _
       exact n1 ⟨rfl, rfl, rfl, rfl, trivial⟩
     refine cH H1 rfl (fun h52 H1 => ?_) (fun h52 H1 => ?_)
     ·refine sr (aH (v := .bool (false)) rfl (nl (bQ (rB (rT (rT (rB (rT (rT (?_))))))))))
      obtain rfl := hb40 _ (sm H1)
      replace H := sw.r H
      obtain rfl := si H
      exact bk
     ·exact bH (nB (nT (aP (aF rfl (gdo H1 fun h53 H1 => (aG (bR rfl rfl h53) (aH rfl (aJ (nLI () (hi39 _ (sm H1)) (.cons aA .nil))))))))))
    ·exact cW (xT (xT (xE (nMI () (hb40 _ (sm H1)) (.cons aA .nil)))))
   ·rintro e54 y37 H
    refine nT (aD (sr (aH (v := .int .i64 (1)) rfl (nl (bdo H fun x55 hx56 H => (cY (Λ := Unit) H (fun _ _ => []) (fun _ _ => []) ?_ ?_))))))
    ·refine aQ (dA hx56 () (fun Q59 _ => [(1, .pointer (some ⟨g4, 0, none⟩)), (3, .int .i64 ((v0.1.1.length : Int))), (6, .int .i64 (Q59))]) (fun _ _ => [box g4 42 [.slice x_v0.1.1.1 v0.1.1.length x_v0.1.1.2, .slice x_v0.1.2.1 v0.1.2.length x_v0.1.2.2, .slice x_v0.2.1.1 v0.2.1.length x_v0.2.1.2, .slice x_v0.2.2.1 v0.2.2.length x_v0.2.2.2]]) (.cons aA .nil) ?_)
     rintro _ Q59 z60 t62 H1 hi63 hb64
     unfold p_spec_StoreOk_b2 at H1
     refine aD (sr (aF rfl (aF rfl (aG (p_leq rfl rfl) (nl (cH H1 rfl (fun h67 H1 => ?_) (fun h67 H1 => ?_)))))))
     ·refine bH (nT (aD (aQ (sr (aI (bJ ty42 rfl aB rfl) (aF rfl (bdo H1 fun r68 h69 H1 => (f1 (cE (c_spec_l13Rows v0 x_v0 Q59 h69) (fun _ => (bF bG)) rfl (aC (aL (aS aR.s.s)) (aC (aL (aS aR.s)) (aC (aL (aS aR)) (aC (aL aR.s.s.s.s.s.s) aO))))) fun x70 => (aG (bS 57 dS rfl) (aG (cQ rfl rfl) (nl ?_)))))))))))
      refine cH H1 rfl (fun h71 H1 => ?_) (fun h71 H1 => ?_)
      ·refine sr (aH (v := .bool (false)) rfl (nl (bQ (rB (rT (rT (rB (rT (rT (?_))))))))))
       obtain rfl := hb64 _ (sm H1)
       replace H := sw.r H
       obtain rfl := si H
       exact bk
      ·exact bH (nB (nT (aP (aF rfl (gdo H1 fun h72 H1 => (aG (bR rfl rfl h72) (aH rfl (aJ (nLI () (hi63 _ (sm H1)) (.cons dl1 .nil))))))))))
     ·exact cW (xT (xT (xE (nMI () (hb64 _ (sm H1)) bK))))
    ·rintro e73 y61 H
     refine nT (sr (aH (v := .bool (true)) rfl (nl ?_)))
     obtain rfl := si H
     exact bQ bk
noncomputable def p_spec_FilterOk_b0 (v0 : (List Cond)) (Q5 : Int) : Option ((Int) ⊕ (Unit ⊕ Bool)) := cond (decide (Q5 < (v0.length : Int))) (gd (ix Q5 v0.length) <| bd (p_spec_l3Tag ((nth v0 Q5.toNat).1)) fun r15 => cond (!r15) (some (.inr (.inr false))) (gd (I64 (Q5 + 1)) <| some (.inl (Q5 + 1)))) (some (.inr (.inl ())))
noncomputable def p_spec_FilterOk (v0 : (List Cond)) : Option (Bool) := bd (lp (p_spec_FilterOk_b0 v0) 0) <| sw (fun _ => some (decide ((v0.length : Int) ≤ 3))) (fun q => some q)
theorem c_spec_FilterOk {r : Bool} (v0 : (List Cond)) (x_v0 : Option Addr × Nat) (H : p_spec_FilterOk v0 = some r) : Fn' prog 44 #[.slice x_v0.1 v0.length x_v0.2] [imm (.slice x_v0.1 v0.length x_v0.2) v0] [] (ι := Unit) (fun _ => .bool (r)) (fun _ => []) (fun _ => []) := by
 refine cof (args := [_]) func44 ntmps44 fun c => ?_
 unfold p_spec_FilterOk at H
 refine sr (aH (v := .bool (false)) rfl (nl (aD (sr (aH (v := .int .i64 (0)) rfl (nl (bdo H fun x1 hx2 H => (cY (Λ := Unit) H (fun _ _ => [(0, .slice x_v0.1 v0.length x_v0.2)]) (fun _ _ => []) ?_ ?_))))))))
 ·refine aQ (dA hx2 () (fun Q5 _ => [(0, .slice x_v0.1 v0.length x_v0.2), (3, .int .i64 (Q5))]) (fun _ _ => []) bK ?_)
  rintro _ Q5 z6 t8 H1 hi9 hb10
  unfold p_spec_FilterOk_b0 at H1
  refine aD (sr (aF rfl (aF rfl (aG (bS 99 dR rfl) (aG (cM rfl rfl) (nl (cH H1 rfl (fun h13 H1 => ?_) (fun h13 H1 => ?_))))))))
  ·refine bH (nT (aD (aQ (sr (aF rfl (aF rfl (gdo H1 fun h14 H1 => (aI (bW dR ty99 rfl rfl h14 rfl (aN (aL aR))) (aI (bY (j := 0) Q5.toNat fa99_0 rfl (aN (aL aR)) h14.lt rfl) (aI (v := .agg #[.string (((nth v0 Q5.toNat).1).1), .string (((nth v0 Q5.toNat).1).2)]) (q_ldeP [.string (((nth v0 Q5.toNat).1).1), .string (((nth v0 Q5.toNat).1).2)] (l := v0) (E := fun i => Flat.enc (nth v0 i)) (oa := x_v0.1) (i := Q5.toNat) (j := 0) ty97 rfl (aN (aL aR)) h14.lt rfl rfl) ?_))))))))))
   refine bdo H1 fun r15 h16 H1 => (aI (bN (c_spec_l3Tag ((nth v0 Q5.toNat).1) h16) rfl aO) (aG (cR rfl) (nl (cH H1 rfl (fun h17 H1 => ?_) (fun h17 H1 => ?_)))))
   ·refine sr (aH (v := .bool (false)) rfl (nl (bQ (rB (rT (rT (rB (rT (rT (?_))))))))))
    obtain rfl := hb10 _ (sm H1)
    replace H := sw.r H
    obtain rfl := si H
    exact bk
   ·exact bH (nB (nT (aP (aF rfl (gdo H1 fun h18 H1 => (aG (bR rfl rfl h18) (aH rfl (aJ (nLI () (hi9 _ (sm H1)) bK)))))))))
  ·exact cW (xT (xT (xE (nMI () (hb10 _ (sm H1)) bK))))
 ·rintro e19 y7 H
  refine nT (sr (aF rfl (aG (bS 99 dR rfl) (aG (p_leq rfl rfl) (aH rfl (nl ?_))))))
  obtain rfl := si H
  exact bQ bk
noncomputable def p_spec_l3Fits_b0 (v0 : (List Cond)) (v1 : (List Tag)) (Q5 : Int) : Option ((Int) ⊕ (Unit ⊕ Bool)) := cond (decide (Q5 < (v0.length : Int))) (gd (ix Q5 v0.length) <| bd (p_spec_l3Has v1 ((nth v0 Q5.toNat).1)) fun r15 => cond (decide (r15 = ((nth v0 Q5.toNat).2))) (some (.inr (.inr false))) (gd (I64 (Q5 + 1)) <| some (.inl (Q5 + 1)))) (some (.inr (.inl ())))
noncomputable def p_spec_l3Fits (v0 : (List Cond)) (v1 : (List Tag)) : Option (Bool) := bd (lp (p_spec_l3Fits_b0 v0 v1) 0) <| sw (fun _ => some true) (fun q => some q)
theorem c_spec_l3Fits {r : Bool} (v0 : (List Cond)) (x_v0 : Option Addr × Nat) (v1 : (List Tag)) (x_v1 : Option Addr × Nat) (H : p_spec_l3Fits v0 v1 = some r) : Fn' prog 150 #[.slice x_v0.1 v0.length x_v0.2, .slice x_v1.1 v1.length x_v1.2] [imm (.slice x_v0.1 v0.length x_v0.2) v0, imm (.slice x_v1.1 v1.length x_v1.2) v1] [] (ι := Unit) (fun _ => .bool (r)) (fun _ => []) (fun _ => []) := by
 refine cof (args := [_, _]) func150 ntmps150 fun c => ?_
 unfold p_spec_l3Fits at H
 refine sr (aH (v := .bool (false)) rfl (nl (aD (sr (aH (v := .int .i64 (0)) rfl (nl (bdo H fun x1 hx2 H => (cY (Λ := Unit) H (fun _ _ => []) (fun _ _ => []) ?_ ?_))))))))
 ·refine aQ (dA hx2 () (fun Q5 _ => [(0, .slice x_v0.1 v0.length x_v0.2), (1, .slice x_v1.1 v1.length x_v1.2), (5, .int .i64 (Q5))]) (fun _ _ => []) bK ?_)
  rintro _ Q5 z6 t8 H1 hi9 hb10
  unfold p_spec_l3Fits_b0 at H1
  refine aD (sr (aF rfl (aF rfl (aG (bS 99 dR rfl) (aG (cM rfl rfl) (nl (cH H1 rfl (fun h13 H1 => ?_) (fun h13 H1 => ?_))))))))
  ·refine bH (nT (aD (aQ (aD (dB [(0, .slice x_v0.1 v0.length x_v0.2), (1, .slice x_v1.1 v1.length x_v1.2), (5, .int .i64 (Q5))] mixed (.inr (by kernel_rfl)) ⟨rfl, rfl, rfl, trivial⟩ rfl (bB rfl (bB rfl (bB rfl (gdo H1 fun h14 H1 => (aZ (bW dR ty99 rfl rfl h14 rfl (aN (aL aR))) ?_))))))))))
   refine aZ (bY (j := 0) Q5.toNat fa99_0 rfl (aN (aL aR)) h14.lt rfl) (aZ (v := .agg #[.string (((nth v0 Q5.toNat).1).1), .string (((nth v0 Q5.toNat).1).2)]) (q_ldeP [.string (((nth v0 Q5.toNat).1).1), .string (((nth v0 Q5.toNat).1).2)] (l := v0) (E := fun i => Flat.enc (nth v0 i)) (oa := x_v0.1) (i := Q5.toNat) (j := 0) ty97 rfl (aN (aL aR)) h14.lt rfl rfl) (bdo H1 fun r15 h16 H1 => (aZ (bN (c_spec_l3Has v1 x_v1 ((nth v0 Q5.toNat).1) h16) rfl (aC (aL aR.s) aO)) (bB rfl (bB rfl (aZ (bW dR ty99 rfl rfl h14 rfl (aN (aL aR))) (aZ (bY (j := 0) Q5.toNat fa99_1 rfl (aN (aL aR)) h14.lt rfl) (aZ (bZ (i := Q5.toNat) (j := 2) ty4 rfl (aN (aL aR)) h14.lt rfl) (aX (p_beql underlying4 rfl rfl) ?_)))))))))
   refine nT (cH H1 rfl (fun h17 H1 => ?_) (fun h17 H1 => ?_))
   ·refine sr (aH (v := .bool (false)) rfl (nl (bQ (rB (rT (rT (rB (rT (rT (?_))))))))))
    obtain rfl := hb10 _ (sm H1)
    replace H := sw.r H
    obtain rfl := si H
    exact bk
   ·exact bH (nB (nT (aP (aF rfl (gdo H1 fun h18 H1 => (aG (bR rfl rfl h18) (aH rfl (aJ (nLI () (hi9 _ (sm H1)) bK)))))))))
  ·exact cW (xT (xT (xE (nMI () (hb10 _ (sm H1)) bK))))
 ·rintro e19 y7 H
  refine nT (sr (aH (v := .bool (true)) rfl (nl ?_)))
  obtain rfl := si H
  exact bQ bk
noncomputable def p_spec_l11Find_b0 (v0 : Index) (v1 : (List Cond)) (Q10 : (List Int) × Int) : Option (((List Int) × Int) ⊕ ((List Int))) := cond (decide (Q10.2 < (v0.1.length : Int))) (gd (ix Q10.2 v0.1.length) <| bd (p_spec_l3Fits v1 (nth v0.1 Q10.2.toNat)) fun r20 => cond (r20) (gd (I64 (Q10.2 + 1)) <| gd (room (Q10.1.length + 1)) <| some (.inl ((Q10.1 ++ [Q10.2 + 1]), Q10.2 + 1))) (gd (I64 (Q10.2 + 1)) <| some (.inl (Q10.1, Q10.2 + 1)))) (some (.inr Q10.1))
noncomputable def p_spec_l11Find (v0 : Index) (v1 : (List Cond)) : Option ((List Int)) := bd (lp (p_spec_l11Find_b0 v0 v1) (([] : List Int), 0)) fun x6 => some x6
theorem c_spec_l11Find {r : (List Int)} (v0 : Index) (x_v0 : (Option Addr × Nat) × (Option Addr × Nat)) (v1 : (List Cond)) (x_v1 : Option Addr × Nat) (H : p_spec_l11Find v0 v1 = some r) : Fn' prog 99 #[.agg #[.slice x_v0.1.1 v0.1.length x_v0.1.2, .slice x_v0.2.1 v0.2.length x_v0.2.2], .slice x_v1.1 v1.length x_v1.2] [imm (.slice x_v0.1.1 v0.1.length x_v0.1.2) v0.1, imm (.slice x_v0.2.1 v0.2.length x_v0.2.2) v0.2, imm (.slice x_v1.1 v1.length x_v1.2) v1] [] (ι := Option Addr × Nat) (fun x => .slice x.1 r.length x.2) (fun _ => []) (fun x => [tree (.slice x.1 r.length x.2) r]) := by
 refine cof (args := [_, _]) func99 ntmps99 fun c => ?_
 unfold p_spec_l11Find at H
 refine bM aR fun X1 => (bM aR.s.s fun X2 => (sr (f1 (cC (t := 38) rfl) fun g3 => (aH (v := .slice none 0 0) rfl (nl (sr (f2 (e_lit0 Int dT ty3) fun a4 c5 => (aH rfl (nl (aD (sr (aH (v := .int .i64 (0)) rfl (nl ?_)))))))))))))
 refine bdo H fun x6 hx7 H => (cX (ι := Option Addr × Nat) (fun ψ => [(5, .slice ψ.1 x6.length ψ.2)]) (fun ψ => [tree (.slice ψ.1 x6.length ψ.2) x6]) ?_ ?_)
 ·refine aQ (dA hx7 (a4, c5) (fun Q10 z11 => [(1, .slice x_v1.1 v1.length x_v1.2), (2, .pointer (some ⟨g3, 0, none⟩)), (5, .slice z11.1 Q10.1.length z11.2), (6, .int .i64 (Q10.2))]) (fun Q10 z11 => [box g3 38 [.slice x_v0.1.1 v0.1.length x_v0.1.2, .slice x_v0.2.1 v0.2.length x_v0.2.2], tree (.slice z11.1 Q10.1.length z11.2) Q10.1]) (.cons dl1 (.cons aA .nil)) ?_)
  rintro _ Q10 z11 t13 H1 hi14 hb15
  unfold p_spec_l11Find_b0 at H1
  refine aD (sr (aF rfl (aG (cB fa38_0 rfl rfl) (aI (bI ty35 rfl aB rfl) (aG (bS 105 dN rfl) (aG (cM rfl rfl) (nl (cH H1 rfl (fun h18 H1 => ?_) (fun h18 H1 => ?_)))))))))
  ·refine bH (nT (aD (aQ (sr (aF rfl (aG (cB fa38_0 rfl rfl) (aI (bI ty35 rfl aB rfl) (aF rfl (gdo H1 fun h19 H1 => (aI (bW dN ty105 rfl rfl h19 rfl (aL (aT aR.s))) ?_))))))))))
   refine aI (bZ (i := Q10.2.toNat) (j := 0) ty105 rfl (aL (aT aR.s)) h19.lt rfl) (bdo H1 fun r20 h21 H1 => (aI (bN (c_spec_l3Fits v1 x_v1 (nth v0.1 Q10.2.toNat) ((X1 Q10.2.toNat).1, (X1 Q10.2.toNat).2.1) h21) rfl (aC (aL aR.s.s.s.s) (aC (aL (aS (aW aR.s h19.lt))) aO))) (nl (cH H1 rfl (fun h22 H1 => ?_) (fun h22 H1 => ?_)))))
   ·refine aP (aF rfl (aF rfl (gdo H1 fun h23 H1 => (aG (bR rfl rfl h23) (f1 (e_lit (vs := [(0, .int .i64 (Q10.2 + 1))]) [.int .i64 (Q10.2 + 1)] dT ty3 rfl (by decide) (by decide) (by kernel_rfl)) fun g24 => (gdo H1 fun h27 H1 => (f2 (e_app1 (l := Q10.1) (α := Int) (Q10.2 + 1) () dT ty3 rfl rfl (h27.b (by decide)) h27.x rfl (cS _) (.cons dl2 (.cons aA .nil))) fun a25 c26 => (aH rfl (aJ (nB (nT (?_))))))))))))
    exact aP (aF rfl (aG (bR rfl rfl h23) (aH rfl (aJ (nLI (a25, c26) (hi14 _ (sm H1)) (.cons dl1 (.cons aA .nil)))))))
   ·exact bH (nB (nT (aP (aF rfl (gdo H1 fun h28 H1 => (aG (bR rfl rfl h28) (aH rfl (aJ (nLI (z11.1, z11.2) (hi14 _ (sm H1)) (.cons aA (.cons aA .nil)))))))))))
  ·refine cW (xT (xT (xE (?_))))
   obtain rfl := hb15 _ (sm H1)
   exact nMC (z11.1, z11.2) ⟨rfl, trivial⟩ bT (.cons dl1 .nil)
 ·intro y12
  show At _ _ [(5, .slice y12.1 x6.length y12.2)] _ [tree (.slice y12.1 x6.length y12.2) x6] _
  refine nT (sr (aF rfl (aH rfl (nl (bQ ?_)))))
  obtain rfl := si H
  exact back1 y12 rfl (ResV.tmp (v := .slice y12.1 x6.length y12.2) rfl) rfl cK (.cons aA .nil)
noncomputable def p_spec_l2Cut_b0 (v0 : (List Row)) (v1 : Int) (v2 : Int) (Q7 : (List Row) × Int) : Option (((List Row) × Int) ⊕ ((List Row))) := cond (decide (Q7.2 < (v0.length : Int))) (gd (ix Q7.2 v0.length) <| bd (p_spec_l6In ((nth v0 Q7.2.toNat).1) v1 v2) fun r17 => cond (r17) (gd (room (Q7.1.length + 1)) <| gd (I64 (Q7.2 + 1)) <| some (.inl ((Q7.1 ++ [nth v0 Q7.2.toNat]), Q7.2 + 1))) (gd (I64 (Q7.2 + 1)) <| some (.inl (Q7.1, Q7.2 + 1)))) (some (.inr Q7.1))
noncomputable def p_spec_l2Cut (v0 : (List Row)) (v1 : Int) (v2 : Int) : Option ((List Row)) := bd (lp (p_spec_l2Cut_b0 v0 v1 v2) (([] : List Row), 0)) fun x3 => some x3
theorem c_spec_l2Cut {r : (List Row)} (v0 : (List Row)) (x_v0 : Option Addr × Nat) (v1 : Int) (v2 : Int) (H : p_spec_l2Cut v0 v1 v2 = some r) : Fn' prog 100 #[.slice x_v0.1 v0.length x_v0.2, .int .i64 (v1), .int .i64 (v2)] [imm (.slice x_v0.1 v0.length x_v0.2) v0] [] (ι := Option Addr × Nat) (fun x => .slice x.1 r.length x.2) (fun _ => []) (fun x => [tree (.slice x.1 r.length x.2) r]) := by
 refine cof (args := [_, _, _]) func100 ntmps100 fun c => ?_
 unfold p_spec_l2Cut at H
 refine sr (aH (v := .slice none 0 0) rfl (nl (sr (f2 (e_lit0 Row dS ty57) fun a1 c2 => (aH rfl (nl (aD (sr (aH (v := .int .i64 (0)) rfl (nl (bdo H fun x3 hx4 H => (cX (ι := Option Addr × Nat) (fun ψ => [(7, .slice ψ.1 x3.length ψ.2)]) (fun ψ => [tree (.slice ψ.1 x3.length ψ.2) x3]) ?_ ?_))))))))))))
 ·refine aQ (dA hx4 (a1, c2) (fun Q7 z8 => [(0, .slice x_v0.1 v0.length x_v0.2), (1, .int .i64 (v1)), (2, .int .i64 (v2)), (7, .slice z8.1 Q7.1.length z8.2), (8, .int .i64 (Q7.2))]) (fun Q7 z8 => [tree (.slice z8.1 Q7.1.length z8.2) Q7.1]) (.cons aA .nil) ?_)
  rintro _ Q7 z8 t10 H1 hi11 hb12
  unfold p_spec_l2Cut_b0 at H1
  refine aD (sr (aF rfl (aF rfl (aG (bS 57 dS rfl) (aG (cM rfl rfl) (nl (cH H1 rfl (fun h15 H1 => ?_) (fun h15 H1 => ?_))))))))
  ·refine bH (nT (aD (aQ (sr (aF rfl (aF rfl (gdo H1 fun h16 H1 => (aI (bW dS ty57 rfl rfl h16 rfl (aN (aL aR))) (aI (bY (j := 0) Q7.2.toNat fa57_0 rfl (aN (aL aR)) h16.lt rfl) (aI (bZ (i := Q7.2.toNat) (j := 0) ty3 rfl (aN (aL aR)) h16.lt rfl) ?_))))))))))
   refine aF rfl (aF rfl (bdo H1 fun r17 h18 H1 => (aI (bN (c_spec_l6In ((nth v0 Q7.2.toNat).1) v1 v2 h18) rfl aO) (nl (cH H1 rfl (fun h19 H1 => ?_) (fun h19 H1 => ?_))))))
   ·refine aP (aF rfl (aF rfl (aF rfl (aI (bW dS ty57 rfl rfl h16 rfl (aN (aL aR))) (aI (v := .agg #[.int .i64 ((nth v0 Q7.2.toNat).1), .int .i64 ((nth v0 Q7.2.toNat).2)]) (cA (i := Q7.2.toNat) ty57 rfl (aN (aL aR)) h16.lt) (f1 (e_lit (vs := [(0, .agg #[.int .i64 ((nth v0 Q7.2.toNat).1), .int .i64 ((nth v0 Q7.2.toNat).2)])]) [.int .i64 ((nth v0 Q7.2.toNat).1), .int .i64 ((nth v0 Q7.2.toNat).2)] dS ty57 rfl (by decide) (by decide) (by kernel_rfl)) fun g20 => (gdo H1 fun h23 H1 => (f2 (e_app1 (l := Q7.1) (α := Row) (nth v0 Q7.2.toNat) ((), ()) dS ty57 rfl rfl (h23.b (by decide)) h23.x rfl (cS _) (.cons dl1 (.cons aA .nil))) fun a21 c22 => (aH rfl (aJ ?_))))))))))
    exact nB (nT (aP (aF rfl (gdo H1 fun h24 H1 => (aG (bR rfl rfl h24) (aH rfl (aJ (nLI (a21, c22) (hi11 _ (sm H1)) (.cons aA .nil)))))))))
   ·exact bH (nB (nT (aP (aF rfl (gdo H1 fun h25 H1 => (aG (bR rfl rfl h25) (aH rfl (aJ (nLI (z8.1, z8.2) (hi11 _ (sm H1)) (.cons aA .nil))))))))))
  ·refine cW (xT (xT (xE (?_))))
   obtain rfl := hb12 _ (sm H1)
   exact nMC (z8.1, z8.2) ⟨rfl, trivial⟩ bT (.cons aA .nil)
 ·intro y9
  show At _ _ [(7, .slice y9.1 x3.length y9.2)] _ [tree (.slice y9.1 x3.length y9.2) x3] _
  refine nT (sr (aF rfl (aH rfl (nl (bQ ?_)))))
  obtain rfl := si H
  exact back1 y9 rfl (ResV.tmp (v := .slice y9.1 x3.length y9.2) rfl) rfl cK (.cons aA .nil)
noncomputable def p_spec_l13Ask_b0 (v0 : Store) (v2 : Int) (v3 : Int) (r7 : (List Int)) (Q14 : (List Hit) × Int) : Option (((List Hit) × Int) ⊕ ((List Hit))) := cond (decide (Q14.2 < (r7.length : Int))) (gd (ix Q14.2 r7.length) <| bd (p_spec_l13Rows v0 (nth r7 Q14.2.toNat)) fun r24 => bd (p_spec_l2Cut r24 v2 v3) fun r27 => cond (decide (0 < (r27.length : Int))) (gd (I64 ((nth r7 Q14.2.toNat) - 1)) <| gd (ix ((nth r7 Q14.2.toNat) - 1) v0.1.1.length) <| bd (p_spec_l3Text (nth v0.1.1 (((nth r7 Q14.2.toNat) - 1).toNat))) fun r33 => gd (room (Q14.1.length + 1)) <| gd (I64 (Q14.2 + 1)) <| some (.inl ((Q14.1 ++ [(r33, r27)]), Q14.2 + 1))) (gd (I64 (Q14.2 + 1)) <| some (.inl (Q14.1, Q14.2 + 1)))) (some (.inr Q14.1))
noncomputable def p_spec_l13Ask (v0 : Store) (v1 : (List Cond)) (v2 : Int) (v3 : Int) : Option ((List Hit)) := bd (p_spec_l11Find v0.1 v1) fun r7 => bd (lp (p_spec_l13Ask_b0 v0 v2 v3 r7) (([] : List Hit), 0)) fun x10 => some x10
theorem c_spec_l13Ask {r : (List Hit)} (v0 : Store) (x_v0 : ((Option Addr × Nat) × (Option Addr × Nat)) × (Option Addr × Nat) × (Option Addr × Nat)) (v1 : (List Cond)) (x_v1 : Option Addr × Nat) (v2 : Int) (v3 : Int) (H : p_spec_l13Ask v0 v1 v2 v3 = some r) : Fn' prog 45 #[.agg #[.slice x_v0.1.1.1 v0.1.1.length x_v0.1.1.2, .slice x_v0.1.2.1 v0.1.2.length x_v0.1.2.2, .slice x_v0.2.1.1 v0.2.1.length x_v0.2.1.2, .slice x_v0.2.2.1 v0.2.2.length x_v0.2.2.2], .slice x_v1.1 v1.length x_v1.2, .int .i64 (v2), .int .i64 (v3)] [imm (.slice x_v0.1.1.1 v0.1.1.length x_v0.1.1.2) v0.1.1, imm (.slice x_v0.1.2.1 v0.1.2.length x_v0.1.2.2) v0.1.2, imm (.slice x_v0.2.1.1 v0.2.1.length x_v0.2.1.2) v0.2.1, imm (.slice x_v0.2.2.1 v0.2.2.length x_v0.2.2.2) v0.2.2, imm (.slice x_v1.1 v1.length x_v1.2) v1] [] (ι := Option Addr × Nat) (fun x => .slice x.1 r.length x.2) (fun _ => []) (fun x => [tree (.slice x.1 r.length x.2) r]) := by
 refine cof (args := [_, _, _, _]) func45 ntmps45 fun c => ?_
 unfold p_spec_l13Ask at H
 refine bM aR fun X1 => (bM aR.s.s fun X2 => (bM aR.s.s.s.s fun X3 => (sr (f1 (cC (t := 42) rfl) fun g4 => (aH (v := .slice none 0 0) rfl (nl (sr (f2 (e_lit0 Hit dM ty107) fun a5 c6 => (aH rfl (nl (sr ?_)))))))))))
 refine aG (cB fa42_0 rfl rfl) (aI (v := .agg #[.slice x_v0.1.1.1 v0.1.1.length x_v0.1.1.2, .slice x_v0.1.2.1 v0.1.2.length x_v0.1.2.2]) (q_ldbP [.slice x_v0.1.1.1 v0.1.1.length x_v0.1.1.2, .slice x_v0.1.2.1 v0.1.2.length x_v0.1.2.2] ty38 rfl hs1 rfl rfl) (aF rfl (bdo H fun r7 h8 H => (f1 (cE (c_spec_l11Find v0.1 x_v0.1 v1 x_v1 h8) (fun _ => (bF bG)) rfl (aC (aL (aS aR.s.s)) (aC (aL (aS aR.s)) (aC (aL aR.s.s.s.s.s.s.s) aO)))) fun x9 => (aH rfl (nl (aD (sr (aH (v := .int .i64 (0)) rfl (nl (bdo H fun x10 hx11 H => (cX (ι := Option Addr × Nat) (fun ψ => [(9, .slice ψ.1 x10.length ψ.2)]) (fun ψ => [tree (.slice ψ.1 x10.length ψ.2) x10]) ?_ ?_))))))))))))
 ·refine aQ (dA hx11 (a5, c6) (fun Q14 z15 => [(2, .int .i64 (v2)), (3, .int .i64 (v3)), (4, .pointer (some ⟨g4, 0, none⟩)), (9, .slice z15.1 Q14.1.length z15.2), (10, .slice x9.1 r7.length x9.2), (11, .int .i64 (Q14.2))]) (fun Q14 z15 => [box g4 42 [.slice x_v0.1.1.1 v0.1.1.length x_v0.1.1.2, .slice x_v0.1.2.1 v0.1.2.length x_v0.1.2.2, .slice x_v0.2.1.1 v0.2.1.length x_v0.2.1.2, .slice x_v0.2.2.1 v0.2.2.length x_v0.2.2.2], tree (.slice z15.1 Q14.1.length z15.2) Q14.1, tree (.slice x9.1 r7.length x9.2) r7]) (.cons dl2 (.cons dl1 (.cons aA .nil))) ?_)
  rintro _ Q14 z15 t17 H1 hi18 hb19
  unfold p_spec_l13Ask_b0 at H1
  refine aD (sr (aF rfl (aF rfl (aG (bS 3 dT rfl) (aG (cM rfl rfl) (nl (cH H1 rfl (fun h22 H1 => ?_) (fun h22 H1 => ?_))))))))
  ·refine bH (nT (aD (aQ (aD (tNwS [(2, .int .i64 (v2)), (3, .int .i64 (v3)), (4, .pointer (some ⟨g4, 0, none⟩)), (9, .slice z15.1 Q14.1.length z15.2), (10, .slice x9.1 r7.length x9.2), (11, .int .i64 (Q14.2))] 1 [0, 1, 2, 3, 4, 6, 7, 5, 8, 9] [5, 8] [] mixed (by kernel_rfl) (by decide) dD ⟨rfl, rfl, rfl, rfl, rfl, rfl, trivial⟩ rfl okNil ?_)))))
   refine w_o rfl (fun F => (bJ ty42 rfl (aB.app F) rfl)) (w_p rfl (aE rfl) (w_p rfl (aE rfl) (gdo H1 fun h23 H1 => ?_)))
   refine w_o rfl (fun F => (bX dT ty3 rfl rfl h23 (hs2.app F))) ?_
   refine w_o rfl (fun F => (bZ (i := Q14.2.toNat) (j := 0) ty3 rfl (aN (bL (hs2.app F))) h23.lt rfl)) (w_p rfl (aE rfl) (w_p rfl (aE rfl) (bdo H1 fun r24 h25 H1 => (w_ed rfl (by decide) rfl cL rfl (n_callB (c_spec_l13Rows v0 x_v0 (nth r7 Q14.2.toNat) h25) (fun _ => (bF bG)) rfl (aC (aL (aS aR.s.s)) (aC (aL (aS aR.s)) (aC (aL (aS aR)) (aC (aL aR.s.s.s.s.s.s) aO))))) ?_))))
   rintro _ _ _ ⟨x26, rfl, rfl, rfl⟩
   refine ⟨(aM (by kernel_rfl) (bV rfl rfl (fun F => (bX dT ty3 rfl rfl h23 (hs3.app F))) (aM (by kernel_rfl) bU))), ?_⟩
   refine bdo H1 fun r27 h28 H1 => (w_ed rfl (by decide) rfl cL rfl (n_callB (c_spec_l2Cut r24 x26 v2 v3 h28) (fun _ => (bF bG)) rfl (aC (bL aB) aO)) ?_)
   rintro _ _ _ ⟨x29, rfl, rfl, rfl⟩
   refine ⟨(bV rfl rfl (fun F => (bZ (i := Q14.2.toNat) (j := 0) ty3 rfl (aN (bL (hs4.app F))) h23.lt rfl)) (bV rfl rfl (fun F => (bX dT ty3 rfl rfl h23 (hs4.app F))) (bV rfl rfl (fun F => (bJ ty42 rfl (hs2.app F) rfl)) bU))), ?_⟩
   refine w_p rfl (p_assign rfl) (cI (nT (sr (aF rfl (aG (bS 57 dS rfl) (aG (cQ rfl rfl) (nl (cH H1 rfl (fun h30 H1 => ?_) (fun h30 H1 => ?_)))))))))
   ·refine tNwL [(12, .slice x29.1 r27.length x29.2), (2, .int .i64 (v2)), (3, .int .i64 (v3)), (4, .pointer (some ⟨g4, 0, none⟩)), (9, .slice z15.1 Q14.1.length z15.2), (10, .slice x9.1 r7.length x9.2), (11, .int .i64 (Q14.2))] 1 [0, 1, 2, 3, 4, 5, 6, 7, 8, 9, 10, 11, 12, 13, 14, 15] [14, 15] [] mixed rfl (by kernel_rfl) (by kernel_rfl) (by decide) dD ⟨rfl, rfl, rfl, rfl, rfl, rfl, rfl, trivial⟩ rfl okNil (w_p rfl (aE rfl) (w_p rfl (cB fa42_0 rfl rfl) (w_p rfl (cB fa38_0 rfl rfl) ?_)))
    refine w_o rfl (fun F => (bI ty35 rfl (hs2.app F) rfl)) (w_p rfl (aE rfl) (w_p rfl (aE rfl) ?_))
    refine w_o rfl (fun F => (bX dT ty3 rfl rfl h23 (hs4.app F))) ?_
    refine w_o rfl (fun F => (bZ (i := Q14.2.toNat) (j := 0) ty3 rfl (aN (bL (hs4.app F))) h23.lt rfl)) (gdo H1 fun h31 H1 => (w_p rfl (cN rfl rfl h31) (gdo H1 fun h32 H1 => ?_)))
    refine w_o rfl (fun F => (bW dN ty105 rfl rfl h32 rfl (aL (aT aR.s.s)))) ?_
    refine w_o rfl (fun F => (bZ (i := ((nth r7 Q14.2.toNat) - 1).toNat) (j := 0) ty105 rfl (aL (aT aR.s.s)) h32.lt rfl)) (bdo H1 fun r33 h34 H1 => ?_)
    refine w_o rfl (fun F => (bN (c_spec_l3Text (nth v0.1.1 (((nth r7 Q14.2.toNat) - 1).toNat)) ((X1 (((nth r7 Q14.2.toNat) - 1).toNat)).1, (X1 (((nth r7 Q14.2.toNat) - 1).toNat)).2.1) h34) rfl (aC (aL (aS (aW aR.s.s h32.lt))) aO))) (w_p rfl (aE rfl) (w_p (v := .agg #[.string (r33), .slice x29.1 r27.length x29.2]) rfl (p_buildS (vs := [(0, .string (r33)), (1, .slice x29.1 r27.length x29.2)]) (cs := #[.string (r33), .slice x29.1 r27.length x29.2]) ty107 pl107 rfl rfl) (w_ed rfl (by decide) rfl cL rfl (n_lit (vs := [(0, .agg #[.string (r33), .slice x29.1 r27.length x29.2])]) [.string (r33), .slice x29.1 r27.length x29.2] dM ty107 rfl (by decide) (by decide) (by kernel_rfl)) ?_)))
    rintro _ _ _ ⟨g35, rfl, rfl, rfl⟩
    refine ⟨(bV rfl rfl (fun F => (bN (c_spec_l3Text (nth v0.1.1 (((nth r7 Q14.2.toNat) - 1).toNat)) ((X1 (((nth r7 Q14.2.toNat) - 1).toNat)).1, (X1 (((nth r7 Q14.2.toNat) - 1).toNat)).2.1) h34) rfl (aC (aL (aS (aW aR.s.s h32.lt))) aO))) (bV rfl rfl (fun F => (bZ (i := ((nth r7 Q14.2.toNat) - 1).toNat) (j := 0) ty105 rfl (aL (aT aR.s.s)) h32.lt rfl)) (bV rfl rfl (fun F => (bW dN ty105 rfl rfl h32 rfl (aL (aT aR.s.s)))) (bV rfl rfl (fun F => (bZ (i := Q14.2.toNat) (j := 0) ty3 rfl (aN (bL (hs5.app F))) h23.lt rfl)) (bV rfl rfl (fun F => (bX dT ty3 rfl rfl h23 (hs5.app F))) (bV rfl rfl (fun F => (bI ty35 rfl (hs3.app F) rfl)) bU)))))), ?_⟩
    refine gdo H1 fun h38 H1 => (w_ed rfl (by decide) rfl cL rfl (n_app1 (l := Q14.1) (α := Hit) (r33, r27) ((), x29) dM ty107 rfl rfl (h38.b (by decide)) h38.x rfl (cS _) (.cons dl4 (.cons aA (.cons aA .nil)))) ?_)
    rintro _ _ _ ⟨a36, c37, rfl, rfl, rfl⟩
    refine ⟨(aM (by kernel_rfl) (bV rfl rfl (fun F => (bZ (i := ((nth r7 Q14.2.toNat) - 1).toNat) (j := 0) ty105 rfl (aL (aT aR.s.s)) h32.lt rfl)) (bV rfl rfl (fun F => (bW dN ty105 rfl rfl h32 rfl (aL (aT aR.s.s)))) (bV rfl rfl (fun F => (bZ (i := Q14.2.toNat) (j := 0) ty3 rfl (aN (bL (hs3.app F))) h23.lt rfl)) (bV rfl rfl (fun F => (bX dT ty3 rfl rfl h23 (hs3.app F))) (bV rfl rfl (fun F => (bI ty35 rfl (hs2.app F) rfl)) bU)))))), ?_⟩
    refine cI ?_
    show Rg _ _ _ _ _ _ _ _ _
    exact aH rfl (aJ (nB (nT (aP (aF rfl (gdo H1 fun h39 H1 => (aG (bR rfl rfl h39) (aH rfl (aJ (nLI (a36, c37) (hi18 _ (sm H1)) (.cons dl2 (.cons aA (.cons dl1 .nil)))))))))))))
   ·exact bH (nB (nT (aP (aF rfl (gdo H1 fun h40 H1 => (aG (bR rfl rfl h40) (aH rfl (aJ (nLI (z15.1, z15.2) (hi18 _ (sm H1)) (.cons dl2 (.cons dl2 (.cons dl2 .nil))))))))))))
  ·refine cW (xT (xT (xE (?_))))
   obtain rfl := hb19 _ (sm H1)
   exact nMC (z15.1, z15.2) ⟨rfl, trivial⟩ bT (.cons dl1 .nil)
 ·intro y16
  show At _ _ [(9, .slice y16.1 x10.length y16.2)] _ [tree (.slice y16.1 x10.length y16.2) x10] _
  refine nT (sr (aF rfl (aH rfl (nl (bQ ?_)))))
  obtain rfl := si H
  exact back1 y16 rfl (ResV.tmp (v := .slice y16.1 x10.length y16.2) rfl) rfl cK (.cons aA .nil)
noncomputable def p_spec_StoreAsk (v0 : Store) (v1 : (List Cond)) (v2 : Int) (v3 : Int) : Option ((List Hit)) := bd (bd (p_spec_StoreOk v0) fun r7 => cond (!r7) (some (true)) (bd (p_spec_FilterOk v1) fun r10 => some (!r10))) fun b5 => cond (b5) (some ([] : List Hit)) (bd (p_spec_l13Ask v0 v1 v2 v3) fun r15 => some r15)
theorem c_spec_StoreAsk {r : (List Hit)} (v0 : Store) (x_v0 : ((Option Addr × Nat) × (Option Addr × Nat)) × (Option Addr × Nat) × (Option Addr × Nat)) (v1 : (List Cond)) (x_v1 : Option Addr × Nat) (v2 : Int) (v3 : Int) (H : p_spec_StoreAsk v0 v1 v2 v3 = some r) : Fn' prog 10 #[.agg #[.slice x_v0.1.1.1 v0.1.1.length x_v0.1.1.2, .slice x_v0.1.2.1 v0.1.2.length x_v0.1.2.2, .slice x_v0.2.1.1 v0.2.1.length x_v0.2.1.2, .slice x_v0.2.2.1 v0.2.2.length x_v0.2.2.2], .slice x_v1.1 v1.length x_v1.2, .int .i64 (v2), .int .i64 (v3)] [imm (.slice x_v0.1.1.1 v0.1.1.length x_v0.1.1.2) v0.1.1, imm (.slice x_v0.1.2.1 v0.1.2.length x_v0.1.2.2) v0.1.2, imm (.slice x_v0.2.1.1 v0.2.1.length x_v0.2.1.2) v0.2.1, imm (.slice x_v0.2.2.1 v0.2.2.length x_v0.2.2.2) v0.2.2, imm (.slice x_v1.1 v1.length x_v1.2) v1] [] (ι := Option Addr × Nat) (fun x => .slice x.1 r.length x.2) (fun x => [imm (.slice x.1 r.length x.2) r]) (fun _ => []) := by
 refine cof (args := [_, _, _, _]) func10 ntmps10 fun c => ?_
 unfold p_spec_StoreAsk at H
 refine bM aR fun X1 => (bM aR.s.s fun X2 => (bM aR.s.s.s.s fun X3 => (sr (f1 (cC (t := 42) rfl) fun g4 => (aH (v := .slice none 0 0) rfl (nl (aD (bdo H fun b5 j6 H => (cZ [(16, .bool (b5)), (4, .pointer (some ⟨g4, 0, none⟩)), (1, .slice x_v1.1 v1.length x_v1.2), (2, .int .i64 (v2)), (3, .int .i64 (v3))] ?_ ?_)))))))))
 ·refine dC [(4, .pointer (some ⟨g4, 0, none⟩)), (1, .slice x_v1.1 v1.length x_v1.2), (2, .int .i64 (v2)), (3, .int .i64 (v3))] ⟨rfl, rfl, rfl, rfl, trivial⟩ (aZ (bJ ty42 rfl aB rfl) (bdo j6 fun r7 h8 j6 => (aZ (bN (c_spec_StoreOk v0 x_v0 h8) rfl (aC (aL (aS aR.s.s)) (aC (aL (aS aR.s)) (aC (aL (aS aR)) (aC (aL aR.s.s.s.s.s.s) aO))))) (aX (cR rfl) ?_))))
  rcases aK (!r7) with h9 | h9
  ·have j6 := cdT h9 j6
   refine bC (aE rfl) h9 ?_
   iterate 3 refine bE rfl ?_
   refine aX (v := .bool (true)) (bP rfl rfl) ?_
   obtain rfl := si j6
   show At _ _ _ _ _ _
   exact n1 ⟨rfl, rfl, rfl, rfl, rfl, trivial⟩
  ·have j6 := cdF h9 j6
   refine bC (aE rfl) h9 (aY rfl (aE rfl) (bdo j6 fun r10 h11 j6 => (bA rfl (bN (c_spec_FilterOk v1 x_v1 h11) rfl (aC (aL aR.s.s.s.s.s.s.s) aO)) (aY rfl (cR rfl) (aX (bO rfl rfl) ?_)))))
   obtain rfl := si j6
   show At _ _ _ _ _ _
   exact n1 ⟨rfl, rfl, rfl, rfl, rfl, trivial⟩
 refine cH H rfl (fun h12 H => ?_) (fun h12 H => ?_)
 ·refine sr (f2 (e_lit0 Hit dM ty107) fun a13 c14 => (aH rfl (nl (Tr.freeze (.cons aA .nil) (bQ (rT (?_)))))))
  obtain rfl := si H
  exact back1 (a13, c14) rfl (ResV.tmp (v := .slice a13 (([] : List Hit).length) c14) rfl) rfl (cJ aR cK) bK
 ·refine bH (nT (sr (aI (bJ ty42 rfl aB rfl) (aF rfl (aF rfl (aF rfl (bdo H fun r15 h16 H => (f1 (cE (c_spec_l13Ask v0 x_v0 v1 x_v1 v2 v3 h16) (fun _ => (bF bG)) rfl (aC (aL (aS aR.s.s)) (aC (aL (aS aR.s)) (aC (aL (aS aR)) (aC (aL aR.s.s.s.s.s.s) (aC (aL aR.s.s.s.s.s.s.s) aO)))))) fun x17 => (aH rfl (nl ?_))))))))))
  refine Tr.freeze (.cons aA .nil) (bQ ?_)
  obtain rfl := si H
  exact back1 x17 rfl (ResV.tmp (v := .slice x17.1 r15.length x17.2) rfl) rfl (cJ aR cK) bK
noncomputable def p_impl_tagOk (v0 : Tag) : Option (Bool) := bd (cond (decide ((v0.1.size : Int) = 1)) (cond (!sless v0.1 (⟨#[97]⟩ : ByteArray)) (cond ((sless v0.1 (⟨#[100]⟩ : ByteArray) || decide (v0.1 = (⟨#[100]⟩ : ByteArray)))) (cond (decide ((v0.2.size : Int) = 1)) (cond (!sless v0.2 (⟨#[112]⟩ : ByteArray)) (some ((sless v0.2 (⟨#[122]⟩ : ByteArray) || decide (v0.2 = (⟨#[122]⟩ : ByteArray))))) (some (false))) (some (false))) (some (false))) (some (false))) (some (false))) fun b2 => some b2
theorem c_impl_tagOk {r : Bool} (v0 : Tag) (H : p_impl_tagOk v0 = some r) : Fn' prog 158 #[.agg #[.string (v0.1), .string (v0.2)]] [] [] (ι := Unit) (fun _ => .bool (r)) (fun _ => []) (fun _ => []) := by
 refine cof (args := [_]) func158 ntmps158 fun c => ?_
 unfold p_impl_tagOk at H
 refine sr (f1 (cC (t := 97) rfl) fun g1 => (aH (v := .bool (false)) rfl (nl (bdo H fun b2 j3 H => (cZ [(2, .bool (b2))] ?_ ?_)))))
 ·refine dC [(1, .pointer (some ⟨g1, 0, none⟩))] ⟨rfl, trivial⟩ (aX (cB fa97_0 rfl rfl) (aZ (bI ty9 rfl aB rfl) (aX (p_slen dV rfl) (aX (cP rfl rfl) ?_))))
  rcases aK (decide ((v0.1.size : Int) = 1)) with h4 | h4
  ·have j3 := cdT h4 j3
   refine bC (aE rfl) h4 (aY rfl (cB fa97_0 rfl rfl) (bA rfl (bI ty9 rfl aB rfl) (aY rfl (p_sgeq rfl rfl) (aX (bP rfl rfl) ?_))))
   rcases aK (!sless v0.1 (⟨#[97]⟩ : ByteArray)) with h5 | h5
   ·have j3 := cdT h5 j3
    refine bC (aE rfl) h5 (aY rfl (cB fa97_0 rfl rfl) (bA rfl (bI ty9 rfl aB rfl) (aY rfl (p_sleq rfl rfl) (aX (bP rfl rfl) ?_))))
    rcases aK ((sless v0.1 (⟨#[100]⟩ : ByteArray) || decide (v0.1 = (⟨#[100]⟩ : ByteArray)))) with h6 | h6
    ·have j3 := cdT h6 j3
     refine bC (aE rfl) h6 (aY rfl (cB fa97_1 rfl rfl) (bA rfl (bI ty9 rfl aB rfl) (aY rfl (p_slen dV rfl) (aY rfl (cP rfl rfl) (aX (bP rfl rfl) ?_)))))
     rcases aK (decide ((v0.2.size : Int) = 1)) with h7 | h7
     ·have j3 := cdT h7 j3
      refine bC (aE rfl) h7 (aY rfl (cB fa97_1 rfl rfl) (bA rfl (bI ty9 rfl aB rfl) (aY rfl (p_sgeq rfl rfl) (aX (bP rfl rfl) ?_))))
      rcases aK (!sless v0.2 (⟨#[112]⟩ : ByteArray)) with h8 | h8
      ·have j3 := cdT h8 j3
       refine bC (aE rfl) h8 (aY rfl (cB fa97_1 rfl rfl) (bA rfl (bI ty9 rfl aB rfl) (aY rfl (p_sleq rfl rfl) (aX (bP rfl rfl) (aX (p_assign rfl) ?_)))))
       obtain rfl := si j3
       show At _ _ _ _ _ _
       exact n1 ⟨rfl, trivial⟩
      ·have j3 := cdF h8 j3
       refine bC (aE rfl) h8 ?_
       iterate 3 refine bE rfl ?_
       refine aX (v := .bool (false)) (bO rfl rfl) (aX (v := .bool (false)) (p_assign rfl) ?_)
       obtain rfl := si j3
       show At _ _ _ _ _ _
       exact n1 ⟨rfl, trivial⟩
     ·have j3 := cdF h7 j3
      refine bC (aE rfl) h7 ?_
      iterate 3 refine bE rfl ?_
      refine aX (v := .bool (false)) (bO rfl rfl) (bB (v := .bool (false)) rfl ?_)
      iterate 3 refine bE rfl ?_
      refine aX (v := .bool (false)) (bO rfl rfl) (aX (v := .bool (false)) (p_assign rfl) ?_)
      obtain rfl := si j3
      show At _ _ _ _ _ _
      exact n1 ⟨rfl, trivial⟩
    ·have j3 := cdF h6 j3
     refine bC (aE rfl) h6 ?_
     iterate 4 refine bE rfl ?_
     refine aX (v := .bool (false)) (bO rfl rfl) (bB (v := .bool (false)) rfl ?_)
     iterate 3 refine bE rfl ?_
     refine aX (v := .bool (false)) (bO rfl rfl) (bB (v := .bool (false)) rfl ?_)
     iterate 3 refine bE rfl ?_
     refine aX (v := .bool (false)) (bO rfl rfl) (aX (v := .bool (false)) (p_assign rfl) ?_)
     obtain rfl := si j3
     show At _ _ _ _ _ _
     exact n1 ⟨rfl, trivial⟩
   ·have j3 := cdF h5 j3
    refine bC (aE rfl) h5 ?_
    iterate 3 refine bE rfl ?_
    refine aX (v := .bool (false)) (bO rfl rfl) (bB (v := .bool (false)) rfl ?_)
    iterate 4 refine bE rfl ?_
    refine aX (v := .bool (false)) (bO rfl rfl) (bB (v := .bool (false)) rfl ?_)
    iterate 3 refine bE rfl ?_
    refine aX (v := .bool (false)) (bO rfl rfl) (bB (v := .bool (false)) rfl ?_)
    iterate 3 refine bE rfl ?_
    refine aX (v := .bool (false)) (bO rfl rfl) (aX (v := .bool (false)) (p_assign rfl) ?_)
    obtain rfl := si j3
    show At _ _ _ _ _ _
    exact n1 ⟨rfl, trivial⟩
  ·have j3 := cdF h4 j3
   refine bC (aE rfl) h4 ?_
   iterate 3 refine bE rfl ?_
   refine aX (v := .bool (false)) (bO rfl rfl) (bB (v := .bool (false)) rfl ?_)
   iterate 3 refine bE rfl ?_
   refine aX (v := .bool (false)) (bO rfl rfl) (bB (v := .bool (false)) rfl ?_)
   iterate 4 refine bE rfl ?_
   refine aX (v := .bool (false)) (bO rfl rfl) (bB (v := .bool (false)) rfl ?_)
   iterate 3 refine bE rfl ?_
   refine aX (v := .bool (false)) (bO rfl rfl) (bB (v := .bool (false)) rfl ?_)
   iterate 3 refine bE rfl ?_
   refine aX (v := .bool (false)) (bO rfl rfl) (aX (v := .bool (false)) (p_assign rfl) ?_)
   obtain rfl := si j3
   show At _ _ _ _ _ _
   exact n1 ⟨rfl, trivial⟩
 obtain rfl := si H
 exact bQ bk
noncomputable def p_impl_within (v0 : Int) (v1 : Int) (v2 : Int) : Option (Bool) := bd (cond (decide (v1 ≤ v0)) (some (decide (v0 ≤ v2))) (some (false))) fun b1 => some b1
theorem c_impl_within {r : Bool} (v0 : Int) (v1 : Int) (v2 : Int) (H : p_impl_within v0 v1 v2 = some r) : Fn' prog 71 #[.int .i64 (v0), .int .i64 (v1), .int .i64 (v2)] [] [] (ι := Unit) (fun _ => .bool (r)) (fun _ => []) (fun _ => []) := by
 refine cof (args := [_, _, _]) func71 ntmps71 fun c => ?_
 unfold p_impl_within at H
 refine sr (aH (v := .bool (false)) rfl (nl (bdo H fun b1 j2 H => (cZ [(6, .bool (b1))] ?_ ?_))))
 ·refine dC [(0, .int .i64 (v0)), (1, .int .i64 (v1)), (2, .int .i64 (v2))] ⟨rfl, rfl, rfl, trivial⟩ (bB rfl (bB rfl (aX (p_geq rfl rfl) ?_)))
  rcases aK (decide (v1 ≤ v0)) with h3 | h3
  ·have j2 := cdT h3 j2
   refine bC (aE rfl) h3 (aY rfl (aE rfl) (aY rfl (aE rfl) (aY rfl (p_leq rfl rfl) (aX (bP rfl rfl) (aX (p_assign rfl) ?_)))))
   obtain rfl := si j2
   show At _ _ _ _ _ _
   exact n1 ⟨rfl, trivial⟩
  ·have j2 := cdF h3 j2
   refine bC (aE rfl) h3 ?_
   iterate 3 refine bE rfl ?_
   refine aX (v := .bool (false)) (bO rfl rfl) (aX (v := .bool (false)) (p_assign rfl) ?_)
   obtain rfl := si j2
   show At _ _ _ _ _ _
   exact n1 ⟨rfl, trivial⟩
 obtain rfl := si H
 exact bQ bk
noncomputable def p_impl_NameOk_b0 (v0 : (List Tag)) (Q5 : Int) : Option ((Int) ⊕ (Unit ⊕ Bool)) := cond (decide (Q5 < (v0.length : Int))) (gd (ix Q5 v0.length) <| bd (bd (p_impl_tagOk (nth v0 Q5.toNat)) fun r18 => cond (!r18) (some (true)) (cond (decide (0 < Q5)) (gd (I64 (Q5 - 1)) <| gd (ix (Q5 - 1) v0.length) <| some (!sless ((nth v0 ((Q5 - 1).toNat)).1) ((nth v0 Q5.toNat).1))) (some (false)))) fun b16 => cond (b16) (some (.inr (.inr false))) (gd (I64 (Q5 + 1)) <| some (.inl (Q5 + 1)))) (some (.inr (.inl ())))
noncomputable def p_impl_NameOk (v0 : (List Tag)) : Option (Bool) := bd (lp (p_impl_NameOk_b0 v0) 0) <| sw (fun _ => bd (p_impl_within (v0.length : Int) 1 3) fun r27 => some r27) (fun q => some q)
theorem c_impl_NameOk {r : Bool} (v0 : (List Tag)) (x_v0 : Option Addr × Nat) (H : p_impl_NameOk v0 = some r) : Fn' prog 108 #[.slice x_v0.1 v0.length x_v0.2] [imm (.slice x_v0.1 v0.length x_v0.2) v0] [] (ι := Unit) (fun _ => .bool (r)) (fun _ => []) (fun _ => []) := by
 refine cof (args := [_]) func108 ntmps108 fun c => ?_
 unfold p_impl_NameOk at H
 refine sr (aH (v := .bool (false)) rfl (nl (aD (sr (aF rfl (aG (bS 97 dE rfl) (aF (v := .int .i64 (0)) rfl (nl (bdo H fun x1 hx2 H => (cY (Λ := Unit) H (fun _ _ => [(0, .slice x_v0.1 v0.length x_v0.2)]) (fun _ _ => []) ?_ ?_))))))))))
 ·refine aQ (dA hx2 () (fun Q5 _ => [(0, .slice x_v0.1 v0.length x_v0.2), (5, .slice x_v0.1 v0.length x_v0.2), (6, .int .i64 ((v0.length : Int))), (7, .int .i64 (Q5))]) (fun _ _ => []) bK ?_)
  rintro _ Q5 z6 t8 H1 hi9 hb10
  unfold p_impl_NameOk_b0 at H1
  refine sr (aG (cM rfl rfl) (nl (aD (cH H1 rfl (fun h13 H1 => ?_) (fun h13 H1 => ?_)))))
  ·refine bH (nT (aD (aQ (sr (aF rfl (gdo H1 fun h14 H1 => (aI (bW dE ty97 rfl rfl h14 rfl (aN (aL aR))) (aI (v := .agg #[.string ((nth v0 Q5.toNat).1), .string ((nth v0 Q5.toNat).2)]) (cA (i := Q5.toNat) ty97 rfl (aN (aL aR)) h14.lt) (f1 (cD ty97) fun g15 => (aH rfl ?_))))))))))
   refine stb (cs' := [.string ((nth v0 Q5.toNat).1), .string ((nth v0 Q5.toNat).2)]) ty97 cV (nl (bdo H1 fun b16 j17 H1 => (cZ [(29, .bool (b16)), (0, .slice x_v0.1 v0.length x_v0.2), (5, .slice x_v0.1 v0.length x_v0.2), (6, .int .i64 ((v0.length : Int))), (7, .int .i64 (Q5))] ?_ ?_)))
   ·refine dB [(3, .int .i64 (Q5)), (4, .pointer (some ⟨g15, 0, none⟩)), (0, .slice x_v0.1 v0.length x_v0.2), (5, .slice x_v0.1 v0.length x_v0.2), (6, .int .i64 ((v0.length : Int))), (7, .int .i64 (Q5))] mixed (.inr (by kernel_rfl)) ⟨rfl, rfl, rfl, rfl, rfl, rfl, trivial⟩ rfl (aZ (bJ ty97 rfl aB rfl) (bdo j17 fun r18 h19 j17 => (aZ (bN (c_impl_tagOk (nth v0 Q5.toNat) h19) rfl aO) (aX (cR rfl) ?_))))
    rcases aK (!r18) with h20 | h20
    ·have j17 := cdT h20 j17
     refine bC (aE rfl) h20 ?_
     iterate 13 refine bE rfl ?_
     refine aX (v := .bool (true)) (bP rfl rfl) ?_
     obtain rfl := si j17
     show At _ _ _ _ _ _
     exact n1 ⟨rfl, rfl, rfl, rfl, rfl, trivial⟩
    ·have j17 := cdF h20 j17
     refine bC (aE rfl) h20 (aY rfl (aE rfl) (aY rfl (cQ rfl rfl) ?_))
     rcases aK (decide (0 < Q5)) with h21 | h21
     ·have j17 := cdT h21 j17
      refine bD rfl (aE rfl) h21 (aY rfl (aE rfl) (aY rfl (aE rfl) (gdo j17 fun h22 j17 => (aY rfl (cN rfl rfl h22) (gdo j17 fun h23 j17 => (bA rfl (bW dE ty97 rfl rfl h23 rfl (aN (aL aR))) (bA rfl (bY (j := 0) ((Q5 - 1).toNat) fa97_0 rfl (aN (aL aR)) h23.lt rfl) (bA rfl (bZ (i := (Q5 - 1).toNat) (j := 0) ty9 rfl (aN (aL aR)) h23.lt rfl) (aY rfl (cB fa97_0 rfl rfl) ?_)))))))))
      refine bA rfl (bI ty9 rfl aB rfl) (aY rfl (p_sgeq rfl rfl) (aY rfl (bP rfl rfl) (aX (bO rfl rfl) ?_)))
      obtain rfl := si j17
      show At _ _ _ _ _ _
      exact n1 ⟨rfl, rfl, rfl, rfl, rfl, trivial⟩
     ·have j17 := cdF h21 j17
      refine bD rfl (aE rfl) h21 ?_
      iterate 9 refine bE rfl ?_
      refine aY (v := .bool (false)) rfl (bO rfl rfl) (aX (v := .bool (false)) (bO rfl rfl) ?_)
      obtain rfl := si j17
      show At _ _ _ _ _ _
      exact n1 ⟨rfl, rfl, rfl, rfl, rfl, trivial⟩
   refine cH H1 rfl (fun h24 H1 => ?_) (fun h24 H1 => ?_)
   ·refine sr (aH (v := .bool (false)) rfl (nl (bQ (rB (rT (rT (rB (rT (rT (?_))))))))))
    obtain rfl := hb10 _ (sm H1)
    replace H := sw.r H
    obtain rfl := si H
    exact bk
   ·exact bH (nB (nT (aP (gdo H1 fun h25 H1 => (aG (bR rfl rfl h25) (aF rfl (aJ (nLI () (hi9 _ (sm H1)) bK))))))))
  ·exact cW (xT (xT (xE (nMI () (hb10 _ (sm H1)) bK))))
 ·rintro e26 y7 H
  refine nT (sr (aF rfl (aG (bS 97 dE rfl) (bdo H fun r27 h28 H => (aI (bN (c_impl_within (v0.length : Int) 1 3 h28) rfl aO) (aH rfl (nl ?_)))))))
  obtain rfl := si H
  exact bQ bk
noncomputable def p_slices_Equal_Tag_Tag_b0 (v0 : (List Tag)) (v1 : (List Tag)) (Q6 : Int) : Option ((Int) ⊕ (Unit ⊕ Bool)) := cond (decide (Q6 < (v0.length : Int))) (gd (ix Q6 v0.length) <| gd (ix Q6 v1.length) <| cond (!decide (nth v0 Q6.toNat = nth v1 Q6.toNat)) (some (.inr (.inr false))) (gd (I64 (Q6 + 1)) <| some (.inl (Q6 + 1)))) (some (.inr (.inl ())))
noncomputable def p_slices_Equal_Tag_Tag (v0 : (List Tag)) (v1 : (List Tag)) : Option (Bool) := cond (!decide ((v0.length : Int) = (v1.length : Int))) (some false) (bd (lp (p_slices_Equal_Tag_Tag_b0 v0 v1) 0) <| sw (fun _ => some true) (fun q => some q))
theorem c_slices_Equal_Tag_Tag {r : Bool} (v0 : (List Tag)) (x_v0 : Option Addr × Nat) (v1 : (List Tag)) (x_v1 : Option Addr × Nat) (H : p_slices_Equal_Tag_Tag v0 v1 = some r) : Fn' prog 203 #[.slice x_v0.1 v0.length x_v0.2, .slice x_v1.1 v1.length x_v1.2] [imm (.slice x_v0.1 v0.length x_v0.2) v0, imm (.slice x_v1.1 v1.length x_v1.2) v1] [] (ι := Unit) (fun _ => .bool (r)) (fun _ => []) (fun _ => []) := by
 refine cof (args := [_, _]) func203 ntmps203 fun c => ?_
 unfold p_slices_Equal_Tag_Tag at H
 refine sr (aH (v := .bool (false)) rfl (nl (aD (sr (aF rfl (aG (bS 97 dE rfl) (aF rfl (aG (bS 97 dE rfl) (aG (cO rfl rfl) (nl (cH H rfl (fun h1 H => ?_) (fun h1 H => ?_))))))))))))
 ·refine sr (aH (v := .bool (false)) rfl (nl (bQ (rT (?_)))))
  obtain rfl := si H
  exact bk
 ·refine bH (nT (aD (sr (aF rfl (aG (bS 97 dE rfl) (aF (v := .int .i64 (0)) rfl (nl (bdo H fun x2 hx3 H => (cY (Λ := Unit) H (fun _ _ => []) (fun _ _ => []) ?_ ?_)))))))))
  ·refine aQ (dA hx3 () (fun Q6 _ => [(0, .slice x_v0.1 v0.length x_v0.2), (1, .slice x_v1.1 v1.length x_v1.2), (12, .int .i64 ((v0.length : Int))), (13, .int .i64 (Q6))]) (fun _ _ => []) bK ?_)
   rintro _ Q6 z7 t9 H1 hi10 hb11
   unfold p_slices_Equal_Tag_Tag_b0 at H1
   refine sr (aG (cM rfl rfl) (nl (aD (cH H1 rfl (fun h14 H1 => ?_) (fun h14 H1 => ?_)))))
   ·refine bH (nT (aD (aQ (sr (aF rfl (aH rfl (nl (aD (dB [(5, .int .i64 (Q6)), (0, .slice x_v0.1 v0.length x_v0.2), (1, .slice x_v1.1 v1.length x_v1.2), (12, .int .i64 ((v0.length : Int))), (13, .int .i64 (Q6))] mixed (.inr (by kernel_rfl)) ⟨rfl, rfl, rfl, rfl, rfl, trivial⟩ rfl (bB rfl (bB rfl ?_)))))))))))
    refine gdo H1 fun h15 H1 => (aZ (bW dE ty97 rfl rfl h15 rfl (aN (aL aR))) (aZ (v := .agg #[.string ((nth v0 Q6.toNat).1), .string ((nth v0 Q6.toNat).2)]) (cA (i := Q6.toNat) ty97 rfl (aN (aL aR)) h15.lt) (bB rfl (bB rfl (gdo H1 fun h16 H1 => (aZ (bW dE ty97 rfl rfl h16 rfl (aN (aL aR.s))) (aZ (v := .agg #[.string ((nth v1 Q6.toNat).1), .string ((nth v1 Q6.toNat).2)]) (cA (i := Q6.toNat) ty97 rfl (aN (aL aR.s)) h16.lt) (aX (v := .bool (!decide (nth v0 Q6.toNat = nth v1 Q6.toNat))) (p_aneq (a := nth v0 Q6.toNat) (b := nth v1 Q6.toNat) ae97 rfl rfl rfl rfl) (nT (?_))))))))))
    refine cH H1 rfl (fun h17 H1 => ?_) (fun h17 H1 => ?_)
    ·refine sr (aH (v := .bool (false)) rfl (nl (bQ (rB (rT (rT (rB (rT (rT (?_))))))))))
     obtain rfl := hb11 _ (sm H1)
     replace H := sw.r H
     obtain rfl := si H
     exact bk
    ·exact bH (nB (nT (aP (gdo H1 fun h18 H1 => (aG (bR rfl rfl h18) (aF rfl (aJ (nLI () (hi10 _ (sm H1)) bK))))))))
   ·exact cW (xT (xT (xE (nMI () (hb11 _ (sm H1)) bK))))
  ·rintro e19 y8 H
   refine nT (sr (aH (v := .bool (true)) rfl (nl ?_)))
   obtain rfl := si H
   exact bQ bk
noncomputable def p_impl_numberOf_1 (v0 : (List Tag)) (k0 : (List Tag)) : Option (Bool) := bd (p_slices_Equal_Tag_Tag v0 k0) fun r1 => some r1
theorem c_impl_numberOf_1 {r : Bool} (v0 : (List Tag)) (x_v0 : Option Addr × Nat) (g_k0 : Nat) (k0 : (List Tag)) (x_k0 : Option Addr × Nat) (H : p_impl_numberOf_1 v0 k0 = some r) : Fn' prog 202 #[.slice x_v0.1 v0.length x_v0.2, .pointer (some ⟨g_k0, 0, none⟩)] [imm (.slice x_v0.1 v0.length x_v0.2) v0, imm (.slice x_k0.1 k0.length x_k0.2) k0] [box g_k0 105 [.slice x_k0.1 k0.length x_k0.2]] (ι := Unit) (fun _ => .bool (r)) (fun _ => []) (fun _ => [box g_k0 105 [.slice x_k0.1 k0.length x_k0.2]]) := by
 refine cof (args := [_, _]) func202 ntmps202 fun c => ?_
 unfold p_impl_numberOf_1 at H
 refine sr (aH (v := .bool (false)) rfl (nl (sr (aF rfl (aI (bI ty105 rfl aB rfl) (bdo H fun r1 h2 H => (aI (bN (c_slices_Equal_Tag_Tag v0 x_v0 k0 x_k0 h2) rfl (aC (aL aR) (aC (aL aR.s) aO))) (aH rfl (nl ?_)))))))))
 obtain rfl := si H
 exact bQ (bk (.cons aA .nil))
noncomputable def p_slices_IndexFunc_Tag_Tag_numberOf_1_b0 (v0 : (List (List Tag))) (v1_0 : (List Tag)) (Q6 : Int) : Option ((Int) ⊕ (Unit ⊕ Int)) := cond (decide (Q6 < (v0.length : Int))) (gd (ix Q6 v0.length) <| bd (p_impl_numberOf_1 (nth v0 Q6.toNat) v1_0) fun r16 => cond (r16) (some (.inr (.inr Q6))) (gd (I64 (Q6 + 1)) <| some (.inl (Q6 + 1)))) (some (.inr (.inl ())))
noncomputable def p_slices_IndexFunc_Tag_Tag_numberOf_1 (v0 : (List (List Tag))) (v1_0 : (List Tag)) : Option (Int) := bd (lp (p_slices_IndexFunc_Tag_Tag_numberOf_1_b0 v0 v1_0) 0) <| sw (fun _ => some (-1)) (fun q => some q)
theorem c_slices_IndexFunc_Tag_Tag_numberOf_1 {r : Int} (v0 : (List (List Tag))) (x_v0 : Option Addr × Nat) (g_v1_0 : Nat) (v1_0 : (List Tag)) (x_v1_0 : Option Addr × Nat) (H : p_slices_IndexFunc_Tag_Tag_numberOf_1 v0 v1_0 = some r) : Fn' prog 201 #[.slice x_v0.1 v0.length x_v0.2, .func (.func 202) #[] #[.pointer (some ⟨g_v1_0, 0, none⟩)]] [imm (.slice x_v0.1 v0.length x_v0.2) v0, imm (.slice x_v1_0.1 v1_0.length x_v1_0.2) v1_0] [box g_v1_0 105 [.slice x_v1_0.1 v1_0.length x_v1_0.2]] (ι := Unit) (fun _ => .int .i64 (r)) (fun _ => []) (fun _ => [box g_v1_0 105 [.slice x_v1_0.1 v1_0.length x_v1_0.2]]) := by
 refine cof (args := [_, _]) func201 ntmps201 fun c => ?_
 unfold p_slices_IndexFunc_Tag_Tag_numberOf_1 at H
 refine bM aR fun X1 => (sr (aH (v := .int .i64 (0)) rfl (nl (aD (sr (aF rfl (aG (bS 105 dN rfl) (aF (v := .int .i64 (0)) rfl (nl (bdo H fun x2 hx3 H => (cY (Λ := Unit) H (fun _ _ => []) (fun _ _ => [box g_v1_0 105 [.slice x_v1_0.1 v1_0.length x_v1_0.2]]) ?_ ?_)))))))))))
 ·refine aQ (dA hx3 () (fun Q6 _ => [(0, .slice x_v0.1 v0.length x_v0.2), (1, .func (.func 202) #[] #[.pointer (some ⟨g_v1_0, 0, none⟩)]), (7, .int .i64 ((v0.length : Int))), (8, .int .i64 (Q6))]) (fun _ _ => [box g_v1_0 105 [.slice x_v1_0.1 v1_0.length x_v1_0.2]]) (.cons aA .nil) ?_)
  rintro _ Q6 z7 t9 H1 hi10 hb11
  unfold p_slices_IndexFunc_Tag_Tag_numberOf_1_b0 at H1
  refine sr (aG (cM rfl rfl) (nl (aD (cH H1 rfl (fun h14 H1 => ?_) (fun h14 H1 => ?_)))))
  ·refine bH (nT (aD (aQ (sr (aF rfl (aH rfl (nl (sr (aF rfl (aF rfl (aF rfl ?_)))))))))))
   refine gdo H1 fun h15 H1 => (aI (bW dN ty105 rfl rfl h15 rfl (aL (aT aR))) (aI (bZ (i := Q6.toNat) (j := 0) ty105 rfl (aL (aT aR)) h15.lt rfl) (bdo H1 fun r16 h17 H1 => (aI (v := .bool (r16)) (Ex.dyn (caps := [.pointer (some ⟨g_v1_0, 0, none⟩)]) (vs := [.slice ((X1 Q6.toNat).1) ((nth v0 Q6.toNat).length) ((X1 Q6.toNat).2.1)]) rfl rfl (q_callC (c_impl_numberOf_1 (nth v0 Q6.toNat) ((X1 Q6.toNat).1, (X1 Q6.toNat).2.1) g_v1_0 v1_0 x_v1_0 h17) (Solo.box bG) rfl (.cons aA .nil) (aC (aL (aS (aW aR h15.lt))) (aC (aL aR.s.s) aO)))) (nl (cH H1 rfl (fun h18 H1 => ?_) (fun h18 H1 => ?_)))))))
   ·refine sr (aF rfl (aH rfl (nl (bQ (rB (rT (rT (rB (rT (rT (?_)))))))))))
    obtain rfl := hb11 _ (sm H1)
    replace H := sw.r H
    obtain rfl := si H
    exact bk (.cons aA .nil)
   ·exact bH (nB (nT (aP (gdo H1 fun h19 H1 => (aG (bR rfl rfl h19) (aF rfl (aJ (nLI () (hi10 _ (sm H1)) (.cons aA .nil)))))))))
  ·exact cW (xT (xT (xE (nMI () (hb11 _ (sm H1)) (.cons aA .nil)))))
 ·rintro e20 y8 H
  refine nT (sr (aH (v := .int .i64 (-1)) rfl (nl ?_)))
  obtain rfl := si H
  exact bQ (bk (.cons aA .nil))
noncomputable def p_impl_numberOf (v0 : (List (List Tag))) (v1 : (List Tag)) : Option (Int) := bd (p_slices_IndexFunc_Tag_Tag_numberOf_1 v0 v1) fun r3 => gd (I64 (r3 + 1)) <| some (r3 + 1)
theorem c_impl_numberOf {r : Int} (v0 : (List (List Tag))) (x_v0 : Option Addr × Nat) (v1 : (List Tag)) (x_v1 : Option Addr × Nat) (H : p_impl_numberOf v0 v1 = some r) : Fn' prog 174 #[.slice x_v0.1 v0.length x_v0.2, .slice x_v1.1 v1.length x_v1.2] [imm (.slice x_v0.1 v0.length x_v0.2) v0, imm (.slice x_v1.1 v1.length x_v1.2) v1] [] (ι := Unit) (fun _ => .int .i64 (r)) (fun _ => []) (fun _ => []) := by
 refine cof (args := [_, _]) func174 ntmps174 fun c => ?_
 unfold p_impl_numberOf at H
 refine bM aR fun X1 => (sr (f1 (cC (t := 105) rfl) fun g2 => (aH (v := .int .i64 (0)) rfl (nl (sr (aF rfl (aG (v := .func (.func 202) #[] #[.pointer (some ⟨g2, 0, none⟩)]) (p_mkfunc (vs := [.pointer (some ⟨g2, 0, none⟩)]) rfl rfl) (bdo H fun r3 h4 H => (aI (q_callC (c_slices_IndexFunc_Tag_Tag_numberOf_1 v0 x_v0 g2 v1 x_v1 h4) (Solo.box bG) rfl (.cons aA .nil) (aC (aL (aS aR)) (aC (aL aR.s.s) aO))) (gdo H fun h5 H => ?_))))))))))
 refine aG (bR rfl rfl h5) (aH rfl (nl ?_))
 obtain rfl := si H
 exact bQ bk
noncomputable def p_impl_namesOk_b0 (v0 : (List (List Tag))) (Q6 : Int) : Option ((Int) ⊕ (Unit ⊕ Bool)) := cond (decide (Q6 < (v0.length : Int))) (gd (ix Q6 v0.length) <| bd (bd (p_impl_NameOk (nth v0 Q6.toNat)) fun r18 => cond (!r18) (some (true)) (bd (p_impl_numberOf v0 (nth v0 Q6.toNat)) fun r21 => gd (I64 (Q6 + 1)) <| some (!decide (r21 = (Q6 + 1))))) fun b16 => cond (b16) (some (.inr (.inr false))) (gd (I64 (Q6 + 1)) <| some (.inl (Q6 + 1)))) (some (.inr (.inl ())))
noncomputable def p_impl_namesOk (v0 : (List (List Tag))) : Option (Bool) := bd (lp (p_impl_namesOk_b0 v0) 0) <| sw (fun _ => some (decide ((v0.length : Int) ≤ 6))) (fun q => some q)
theorem c_impl_namesOk {r : Bool} (v0 : (List (List Tag))) (x_v0 : Option Addr × Nat) (H : p_impl_namesOk v0 = some r) : Fn' prog 122 #[.slice x_v0.1 v0.length x_v0.2] [imm (.slice x_v0.1 v0.length x_v0.2) v0] [] (ι := Unit) (fun _ => .bool (r)) (fun _ => []) (fun _ => []) := by
 refine cof (args := [_]) func122 ntmps122 fun c => ?_
 unfold p_impl_namesOk at H
 refine bM aR fun X1 => (sr (aH (v := .bool (false)) rfl (nl (aD (sr (aF rfl (aG (bS 105 dN rfl) (aF (v := .int .i64 (0)) rfl (nl (bdo H fun x2 hx3 H => (cY (Λ := Unit) H (fun _ _ => [(0, .slice x_v0.1 v0.length x_v0.2)]) (fun _ _ => []) ?_ ?_)))))))))))
 ·refine aQ (dA hx3 () (fun Q6 _ => [(0, .slice x_v0.1 v0.length x_v0.2), (5, .slice x_v0.1 v0.length x_v0.2), (6, .int .i64 ((v0.length : Int))), (7, .int .i64 (Q6))]) (fun _ _ => []) bK ?_)
  rintro _ Q6 z7 t9 H1 hi10 hb11
  unfold p_impl_namesOk_b0 at H1
  refine sr (aG (cM rfl rfl) (nl (aD (cH H1 rfl (fun h14 H1 => ?_) (fun h14 H1 => ?_)))))
  ·refine bH (nT (aD (aQ (sr (aF rfl (gdo H1 fun h15 H1 => (aI (bW dN ty105 rfl rfl h15 rfl (aL (aT aR))) (aI (bZ (i := Q6.toNat) (j := 0) ty105 rfl (aL (aT aR)) h15.lt rfl) (aH rfl (aH rfl (nl ?_)))))))))))
   refine bdo H1 fun b16 j17 H1 => (cZ [(22, .bool (b16)), (0, .slice x_v0.1 v0.length x_v0.2), (5, .slice x_v0.1 v0.length x_v0.2), (6, .int .i64 ((v0.length : Int))), (7, .int .i64 (Q6))] ?_ ?_)
   ·refine dC [(4, .slice ((X1 Q6.toNat).1) ((nth v0 Q6.toNat).length) ((X1 Q6.toNat).2.1)), (3, .int .i64 (Q6)), (0, .slice x_v0.1 v0.length x_v0.2), (5, .slice x_v0.1 v0.length x_v0.2), (6, .int .i64 ((v0.length : Int))), (7, .int .i64 (Q6))] ⟨rfl, rfl, rfl, rfl, rfl, rfl, trivial⟩ (bB rfl (bdo j17 fun r18 h19 j17 => (aZ (bN (c_impl_NameOk (nth v0 Q6.toNat) ((X1 Q6.toNat).1, (X1 Q6.toNat).2.1) h19) rfl (aC (aL (aS (aW aR h15.lt))) aO)) (aX (cR rfl) ?_))))
    rcases aK (!r18) with h20 | h20
    ·have j17 := cdT h20 j17
     refine bC (aE rfl) h20 ?_
     iterate 6 refine bE rfl ?_
     refine aX (v := .bool (true)) (bP rfl rfl) ?_
     obtain rfl := si j17
     show At _ _ _ _ _ _
     exact n1 ⟨rfl, rfl, rfl, rfl, rfl, trivial⟩
    ·have j17 := cdF h20 j17
     refine bC (aE rfl) h20 (aY rfl (aE rfl) (aY rfl (aE rfl) (bdo j17 fun r21 h22 j17 => (bA rfl (bN (c_impl_numberOf v0 x_v0 (nth v0 Q6.toNat) ((X1 Q6.toNat).1, (X1 Q6.toNat).2.1) h22) rfl (aC (aL (aS aR)) (aC (aL (aS (aW aR h15.lt))) aO))) (aY rfl (aE rfl) (gdo j17 fun h23 j17 => (aY rfl (bR rfl rfl h23) (aY rfl (cO rfl rfl) (aX (bO rfl rfl) ?_)))))))))
     obtain rfl := si j17
     show At _ _ _ _ _ _
     exact n1 ⟨rfl, rfl, rfl, rfl, rfl, trivial⟩
   refine cH H1 rfl (fun h24 H1 => ?_) (fun h24 H1 => ?_)
   ·refine sr (aH (v := .bool (false)) rfl (nl (bQ (rB (rT (rT (rB (rT (rT (?_))))))))))
    obtain rfl := hb11 _ (sm H1)
    replace H := sw.r H
    obtain rfl := si H
    exact bk
   ·exact bH (nB (nT (aP (gdo H1 fun h25 H1 => (aG (bR rfl rfl h25) (aF rfl (aJ (nLI () (hi10 _ (sm H1)) bK))))))))
  ·exact cW (xT (xT (xE (nMI () (hb11 _ (sm H1)) bK))))
 ·rintro e26 y8 H
  refine nT (sr (aF rfl (aG (bS 105 dN rfl) (aG (p_leq rfl rfl) (aH rfl (nl ?_))))))
  obtain rfl := si H
  exact bQ bk
noncomputable def p_impl_cloneNames_b0 (v0 : (List (List Tag))) (Q8 : (List (List Tag)) × Int) : Option (((List (List Tag)) × Int) ⊕ ((List (List Tag)))) := cond (decide (Q8.2 < (v0.length : Int))) (gd (ix Q8.2 v0.length) <| gd (room (([] : List Tag).length + (nth v0 Q8.2.toNat).length)) <| gd (room (Q8.1.length + 1)) <| gd (I64 (Q8.2 + 1)) <| some (.inl ((Q8.1 ++ [([] : List Tag) ++ (nth v0 Q8.2.toNat)]), Q8.2 + 1))) (some (.inr Q8.1))
noncomputable def p_impl_cloneNames (v0 : (List (List Tag))) : Option ((List (List Tag))) := bd (lp (p_impl_cloneNames_b0 v0) (([] : List (List Tag)), 0)) fun x4 => some x4
theorem c_impl_cloneNames {r : (List (List Tag))} (v0 : (List (List Tag))) (x_v0 : Option Addr × Nat) (H : p_impl_cloneNames v0 = some r) : Fn' prog 175 #[.slice x_v0.1 v0.length x_v0.2] [imm (.slice x_v0.1 v0.length x_v0.2) v0] [] (ι := Option Addr × Nat) (fun x => .slice x.1 r.length x.2) (fun _ => []) (fun x => [tree (.slice x.1 r.length x.2) r]) := by
 refine cof (args := [_]) func175 ntmps175 fun c => ?_
 unfold p_impl_cloneNames at H
 refine bM aR fun X1 => (sr (aH (v := .slice none 0 0) rfl (nl (sr (f2 (e_lit0 (List Tag) dN ty105) fun a2 c3 => (aH rfl (nl (aD (sr (aF rfl (aG (bS 105 dN rfl) (aF (v := .int .i64 (0)) rfl (nl ?_)))))))))))))
 refine bdo H fun x4 hx5 H => (cX (ι := Option Addr × Nat) (fun ψ => [(3, .slice ψ.1 x4.length ψ.2)]) (fun ψ => [tree (.slice ψ.1 x4.length ψ.2) x4]) ?_ ?_)
 ·refine aQ (dA hx5 (a2, c3) (fun Q8 z9 => [(3, .slice z9.1 Q8.1.length z9.2), (7, .slice x_v0.1 v0.length x_v0.2), (8, .int .i64 ((v0.length : Int))), (9, .int .i64 (Q8.2))]) (fun Q8 z9 => [tree (.slice z9.1 Q8.1.length z9.2) Q8.1]) (.cons aA .nil) ?_)
  rintro _ Q8 z9 t11 H1 hi12 hb13
  unfold p_impl_cloneNames_b0 at H1
  refine sr (aG (cM rfl rfl) (nl (aD (cH H1 rfl (fun h16 H1 => ?_) (fun h16 H1 => ?_)))))
  ·refine bH (nT (aD (aQ (sr (gdo H1 fun h17 H1 => (aI (bW dN ty105 rfl rfl h17 rfl (aL (aT aR))) (aI (bZ (i := Q8.2.toNat) (j := 0) ty105 rfl (aL (aT aR)) h17.lt rfl) (aH rfl (nl (aP (aF rfl ?_)))))))))))
   refine f2 (e_lit0 Tag dE ty97) fun a18 c19 => (aF rfl (gdo H1 fun h22 H1 => (f2 (e_appF (l := ([] : List Tag)) (k := nth v0 Q8.2.toNat) (α := Tag) dE ty97 rfl rfl (h22.b (by decide)) h22.x (.cons aA .nil) (aL (aS (aW aR h17.lt)))) fun a20 c21 => (f1 (e_lit (vs := [(0, .slice a20 ((([] : List Tag) ++ (nth v0 Q8.2.toNat)).length) c21)]) [.slice a20 ((([] : List Tag) ++ (nth v0 Q8.2.toNat)).length) c21] dN ty105 rfl (by decide) (by decide) (by kernel_rfl)) fun g23 => (gdo H1 fun h26 H1 => (f2 (e_app1 (l := Q8.1) (α := (List Tag)) (([] : List Tag) ++ (nth v0 Q8.2.toNat)) (a20, c21) dN ty105 rfl rfl (h26.b (by decide)) h26.x rfl (cS _) (.cons dl2 (.cons aA (.cons aA .nil)))) fun a24 c25 => (aH rfl (aJ (nB (nT (aP ?_)))))))))))
   exact gdo H1 fun h27 H1 => (aG (bR rfl rfl h27) (aF rfl (aJ (nLI (a24, c25) (hi12 _ (sm H1)) (.cons aA .nil)))))
  ·refine cW (xT (xT (xE (?_))))
   obtain rfl := hb13 _ (sm H1)
   exact nMC (z9.1, z9.2) ⟨rfl, trivial⟩ bT (.cons aA .nil)
 ·intro y10
  show At _ _ [(3, .slice y10.1 x4.length y10.2)] _ [tree (.slice y10.1 x4.length y10.2) x4] _
  refine nT (sr (aF rfl (aH rfl (nl (bQ ?_)))))
  obtain rfl := si H
  exact back1 y10 rfl (ResV.tmp (v := .slice y10.1 x4.length y10.2) rfl) rfl cK (.cons aA .nil)
noncomputable def p_impl_indexOf_1 (v0 : Post) (k0 : Tag) : Option (Bool) := some (decide (v0.1 = k0))
theorem c_impl_indexOf_1 {r : Bool} (v0 : Post) (x_v0 : (Unit × Unit) × (Option Addr × Nat)) (g_k0 : Nat) (k0 : Tag) (H : p_impl_indexOf_1 v0 k0 = some r) : Fn' prog 177 #[.agg #[.string (v0.1.1), .string (v0.1.2), .slice x_v0.2.1 v0.2.length x_v0.2.2], .pointer (some ⟨g_k0, 0, none⟩)] [imm (.slice x_v0.2.1 v0.2.length x_v0.2.2) v0.2] [box g_k0 97 [.string (k0.1), .string (k0.2)]] (ι := Unit) (fun _ => .bool (r)) (fun _ => []) (fun _ => [box g_k0 97 [.string (k0.1), .string (k0.2)]]) := by
 refine cof (args := [_, _]) func177 ntmps177 fun c => ?_
 unfold p_impl_indexOf_1 at H
 refine sr (f1 (cC (t := 177) rfl) fun g1 => (aH (v := .bool (false)) rfl (nl (sr (aG (cB fa177_0 rfl rfl) (aI (v := .agg #[.string (v0.1.1), .string (v0.1.2)]) (q_ldbP [.string (v0.1.1), .string (v0.1.2)] ty97 rfl aB rfl rfl) (aI (bJ ty97 rfl hs1 rfl) (aG (v := .bool (decide (v0.1 = k0))) (p_aeql (a := v0.1) (b := k0) ae97 rfl rfl rfl rfl) (aH rfl (nl ?_))))))))))
 obtain rfl := si H
 exact bQ (bk (.cons dl1 .nil))
noncomputable def p_slices_IndexFunc_Post_Post_indexOf_1_b0 (v0 : (List Post)) (v1_0 : Tag) (Q6 : Int) : Option ((Int) ⊕ (Unit ⊕ Int)) := cond (decide (Q6 < (v0.length : Int))) (gd (ix Q6 v0.length) <| bd (p_impl_indexOf_1 (nth v0 Q6.toNat) v1_0) fun r16 => cond (r16) (some (.inr (.inr Q6))) (gd (I64 (Q6 + 1)) <| some (.inl (Q6 + 1)))) (some (.inr (.inl ())))
noncomputable def p_slices_IndexFunc_Post_Post_indexOf_1 (v0 : (List Post)) (v1_0 : Tag) : Option (Int) := bd (lp (p_slices_IndexFunc_Post_Post_indexOf_1_b0 v0 v1_0) 0) <| sw (fun _ => some (-1)) (fun q => some q)
theorem c_slices_IndexFunc_Post_Post_indexOf_1 {r : Int} (v0 : (List Post)) (x_v0 : Option Addr × Nat) (g_v1_0 : Nat) (v1_0 : Tag) (H : p_slices_IndexFunc_Post_Post_indexOf_1 v0 v1_0 = some r) : Fn' prog 176 #[.slice x_v0.1 v0.length x_v0.2, .func (.func 177) #[] #[.pointer (some ⟨g_v1_0, 0, none⟩)]] [imm (.slice x_v0.1 v0.length x_v0.2) v0] [box g_v1_0 97 [.string (v1_0.1), .string (v1_0.2)]] (ι := Unit) (fun _ => .int .i64 (r)) (fun _ => []) (fun _ => [box g_v1_0 97 [.string (v1_0.1), .string (v1_0.2)]]) := by
 refine cof (args := [_, _]) func176 ntmps176 fun c => ?_
 unfold p_slices_IndexFunc_Post_Post_indexOf_1 at H
 refine bM aR fun X1 => (sr (aH (v := .int .i64 (0)) rfl (nl (aD (sr (aF rfl (aG (bS 177 dO rfl) (aF (v := .int .i64 (0)) rfl (nl (bdo H fun x2 hx3 H => (cY (Λ := Unit) H (fun _ _ => []) (fun _ _ => [box g_v1_0 97 [.string (v1_0.1), .string (v1_0.2)]]) ?_ ?_)))))))))))
 ·refine aQ (dA hx3 () (fun Q6 _ => [(0, .slice x_v0.1 v0.length x_v0.2), (1, .func (.func 177) #[] #[.pointer (some ⟨g_v1_0, 0, none⟩)]), (7, .int .i64 ((v0.length : Int))), (8, .int .i64 (Q6))]) (fun _ _ => [box g_v1_0 97 [.string (v1_0.1), .string (v1_0.2)]]) (.cons aA .nil) ?_)
  rintro _ Q6 z7 t9 H1 hi10 hb11
  unfold p_slices_IndexFunc_Post_Post_indexOf_1_b0 at H1
  refine sr (aG (cM rfl rfl) (nl (aD (cH H1 rfl (fun h14 H1 => ?_) (fun h14 H1 => ?_)))))
  ·refine bH (nT (aD (aQ (sr (aF rfl (aH rfl (nl (sr (aF rfl (aF rfl (aF rfl ?_)))))))))))
   refine gdo H1 fun h15 H1 => (aI (bW dO ty177 rfl rfl h15 rfl (aL (aT aR))) (aI (v := .agg #[.string (((nth v0 Q6.toNat).1).1), .string (((nth v0 Q6.toNat).1).2), .slice (((X1 Q6.toNat).2).1) (((nth v0 Q6.toNat).2).length) (((X1 Q6.toNat).2).2.1)]) (cA (i := Q6.toNat) ty177 rfl (aL (aT aR)) h15.lt) (bdo H1 fun r16 h17 H1 => (aI (v := .bool (r16)) (Ex.dyn (caps := [.pointer (some ⟨g_v1_0, 0, none⟩)]) (vs := [.agg #[.string (((nth v0 Q6.toNat).1).1), .string (((nth v0 Q6.toNat).1).2), .slice (((X1 Q6.toNat).2).1) (((nth v0 Q6.toNat).2).length) (((X1 Q6.toNat).2).2.1)]]) rfl rfl (q_callC (c_impl_indexOf_1 (nth v0 Q6.toNat) (((), ()), (((X1 Q6.toNat).2).1, ((X1 Q6.toNat).2).2.1)) g_v1_0 v1_0 h17) (Solo.box bG) rfl (.cons aA .nil) (aC (aL (aS (aU (aW aR h15.lt)))) aO))) (nl (cH H1 rfl (fun h18 H1 => ?_) (fun h18 H1 => ?_)))))))
   ·refine sr (aF rfl (aH rfl (nl (bQ (rB (rT (rT (rB (rT (rT (?_)))))))))))
    obtain rfl := hb11 _ (sm H1)
    replace H := sw.r H
    obtain rfl := si H
    exact bk (.cons aA .nil)
   ·exact bH (nB (nT (aP (gdo H1 fun h19 H1 => (aG (bR rfl rfl h19) (aF rfl (aJ (nLI () (hi10 _ (sm H1)) (.cons aA .nil)))))))))
  ·exact cW (xT (xT (xE (nMI () (hb11 _ (sm H1)) (.cons aA .nil)))))
 ·rintro e20 y8 H
  refine nT (sr (aH (v := .int .i64 (-1)) rfl (nl ?_)))
  obtain rfl := si H
  exact bQ (bk (.cons aA .nil))
noncomputable def p_cmp_isNaN_string (v0 : ByteArray) : Option (Bool) := some (!decide (v0 = v0))
theorem c_cmp_isNaN_string {r : Bool} (v0 : ByteArray) (H : p_cmp_isNaN_string v0 = some r) : Fn' prog 206 #[.string (v0)] [] [] (ι := Unit) (fun _ => .bool (r)) (fun _ => []) (fun _ => []) := by
 refine cof (args := [_]) func206 ntmps206 fun c => ?_
 unfold p_cmp_isNaN_string at H
 refine sr (aH (v := .bool (false)) rfl (nl (sr (aF rfl (aF rfl (aG (p_sneq rfl rfl) (aH rfl (nl ?_))))))))
 obtain rfl := si H
 exact bQ bk
noncomputable def p_cmp_Compare_string (v0 : ByteArray) (v1 : ByteArray) : Option (Int) := bd (p_cmp_isNaN_string v0) fun r1 => bd (p_cmp_isNaN_string v1) fun r3 => cond (r1) (cond (r3) (some 0) (some (-1))) (cond (r3) (some 1) (cond (sless v0 v1) (some (-1)) (cond (!(sless v0 v1 || decide (v0 = v1))) (some 1) (some 0))))
theorem c_cmp_Compare_string {r : Int} (v0 : ByteArray) (v1 : ByteArray) (H : p_cmp_Compare_string v0 v1 = some r) : Fn' prog 181 #[.string (v0), .string (v1)] [] [] (ι := Unit) (fun _ => .int .i64 (r)) (fun _ => []) (fun _ => []) := by
 refine cof (args := [_, _]) func181 ntmps181 fun c => ?_
 unfold p_cmp_Compare_string at H
 refine sr (aH (v := .int .i64 (0)) rfl (nl (sr (aF rfl (bdo H fun r1 h2 H => (aI (bN (c_cmp_isNaN_string v0 h2) rfl aO) (aH rfl (nl (sr (aF rfl (bdo H fun r3 h4 H => ?_)))))))))))
 refine aI (bN (c_cmp_isNaN_string v1 h4) rfl aO) (aH rfl (nl (aD (sr (aF rfl (nl (cH H rfl (fun h5 H => ?_) (fun h5 H => ?_))))))))
 ·refine aD (sr (aF rfl (nl (cH H rfl (fun h6 H => ?_) (fun h6 H => ?_)))))
  ·refine sr (aH (v := .int .i64 (0)) rfl (nl (bQ (rT (rT (?_))))))
   obtain rfl := si H
   exact bk
  ·refine bH (nT (sr (aH (v := .int .i64 (-1)) rfl (nl (bQ (rT (?_)))))))
   obtain rfl := si H
   exact bk
 ·refine bH (nT (aD (sr (aF rfl (nl (cH H rfl (fun h7 H => ?_) (fun h7 H => ?_)))))))
  ·refine sr (aH (v := .int .i64 (1)) rfl (nl (bQ (rT (?_)))))
   obtain rfl := si H
   exact bk
  ·refine bH (nT (aD (sr (aF rfl (aF rfl (aG (p_slss rfl rfl) (nl (cH H rfl (fun h8 H => ?_) (fun h8 H => ?_)))))))))
   ·refine sr (aH (v := .int .i64 (-1)) rfl (nl (bQ (rT (?_)))))
    obtain rfl := si H
    exact bk
   ·refine bH (nT (aD (sr (aF rfl (aF rfl (aG (p_sgtr rfl rfl) (nl (cH H rfl (fun h9 H => ?_) (fun h9 H => ?_)))))))))
    ·refine sr (aH (v := .int .i64 (1)) rfl (nl (bQ (rT (?_)))))
     obtain rfl := si H
     exact bk
    ·refine bH (nT (sr (aH (v := .int .i64 (0)) rfl (nl ?_))))
     obtain rfl := si H
     exact bQ bk
noncomputable def p_cmp_Or_int_b0 (v0 : (List Int)) (Q5 : Int) : Option ((Int) ⊕ (Unit ⊕ Int)) := cond (decide (Q5 < (v0.length : Int))) (gd (ix Q5 v0.length) <| cond (!decide ((nth v0 Q5.toNat) = 0)) (some (.inr (.inr (nth v0 Q5.toNat)))) (gd (I64 (Q5 + 1)) <| some (.inl (Q5 + 1)))) (some (.inr (.inl ())))
noncomputable def p_cmp_Or_int (v0 : (List Int)) : Option (Int) := bd (lp (p_cmp_Or_int_b0 v0) 0) <| sw (fun _ => some 0) (fun q => some q)
end Go.Proofs.YtlkcnfjdhkoelaaGreat
