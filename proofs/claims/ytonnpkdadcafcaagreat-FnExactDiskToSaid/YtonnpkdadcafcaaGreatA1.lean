/- The walks and the plain laws, part 1: each function that the law reaches computes what its plain function tells, and what the plain functions answer. Conditions: lengths that memory can hold. -/
import Derived.Test.YtonnpkdadcafcaaGreatSxB
import Derived.Test.YtonnpkdadcafcaaGreatProg
namespace Go.Proofs.YtonnpkdadcafcaaGreat
open Go Go.Sx Tryz
abbrev aA := @Del.here
abbrev aB := @Has.here
abbrev aC := @EntsB.cons
abbrev aD := @Tr.seq
abbrev aE := @p_move
abbrev aF := @Rg.m
abbrev aG := @Rg.p
abbrev aH := @Rg.a
abbrev aI := @Rg.o
abbrev aJ := @Rg.nl
abbrev aK := @Bool.eq_false_or_eq_true
abbrev aL := @Ent.b
abbrev aM := @PdOk.anc
abbrev aN := @EntB.flat
abbrev aO := @EntsB.nil
abbrev aP := @Tr.region
abbrev aQ := @Tr.block
abbrev aR := @Ent.z
abbrev aS := @Ent.dimm
abbrev aT := @Ent.darr
abbrev aU := @Ent.dsnd
abbrev aV := @Ent.dfst
abbrev aW := @Ent.del
abbrev aX := @Lin.p
abbrev aY := @Lin.h
abbrev aZ := @Lin.o
abbrev bA := @Lin.i
abbrev bB := @Lin.m
abbrev bC := @Lin.e_
abbrev bD := @Lin.f_
abbrev bE := @Lin.sk
abbrev bF := @Solo.tree
abbrev bG := @Solo.nil
abbrev bH := @tSkip
abbrev bI := @q_ldb
abbrev bJ := @q_ldbA
abbrev bK := @Take.nil
abbrev bL := @EntB.tree
abbrev bM := @Tr.openD
abbrev bN := @q_call
abbrev bO := @p_pickF
abbrev bP := @p_pickT
abbrev bQ := @tRet
abbrev bR := @p_add
abbrev bS := @p_len
abbrev bT := @Ents.refl
abbrev bU := @PdOk.nil
abbrev bV := @PdOk.q
abbrev bW := @q_ixg
abbrev bX := @q_ixO'
abbrev bY := @q_faeE
abbrev bZ := @q_lde
abbrev cA := @q_ldeA
abbrev cB := @p_fabE
abbrev cC := @e_box
abbrev cD := @e_alloc
abbrev cE := @n_callB
abbrev cF := @e_callB
abbrev cG := @e_callM
abbrev cI := @w_skip
abbrev cJ := @w_ed
abbrev cK := @w_nil
abbrev cL := @Ents.cons
abbrev cM := @Ents.nil
abbrev cN := @Rdy.nil
abbrev cO := @Rdy.cons
abbrev cP := @p_lss
abbrev cQ := @p_sub
abbrev cR := @p_neq
abbrev cS := @p_eql
abbrev cT := @p_leq
abbrev cU := @p_gtr
abbrev cV := @p_not
abbrev cW := @ShpT.wfa
abbrev cX := @Tr.olen
abbrev cY := @At.olen
abbrev cZ := @Upd.here
abbrev dA := @tExit
abbrev dB := @tMidNC
abbrev dC := @tMidI
abbrev dD := @tMid1
abbrev dE := @tLoopI
abbrev dF := @tLinS
abbrev dG := @tNwS
abbrev dH := @tLinT
abbrev dI := @List.nodup_nil
abbrev dJ := @underlying118
abbrev dK := @underlying129
abbrev dL := @underlying130
abbrev dM := @underlying142
abbrev dN := @underlying22
abbrev dO := @underlying222
abbrev dP := @underlying23
abbrev dQ := @underlying24
abbrev dR := @underlying29
abbrev dS := @underlying30
abbrev dT := @underlying36
abbrev dU := @underlying39
abbrev dV := @underlying40
abbrev dW := @underlying56
abbrev dX := @underlying64
abbrev dY := @underlying73
abbrev dZ := @underlying9
theorem mixed : prog.follows .mixedOrders = true := by kernel_rfl
abbrev Tag := ByteArray × ByteArray
abbrev PostH := Tag × HV
abbrev Row := Int × Int
abbrev Part := (List Int) × (List (List Row))
abbrev File := Int × Part
abbrev Disk := (List File) × (List Int) × (List (List Tag)) × Int
abbrev Post := Tag × (List Int)
abbrev Index := (List (List Tag)) × (List Post)
abbrev Sample := Int × Row
abbrev Store := Index × (List Part) × (List Sample)
abbrev Step := Int × Int × Part × (List Int) × (List (List Tag))
instance : DecidableEq Tag := inferInstanceAs (DecidableEq (ByteArray × ByteArray))
instance : DecidableEq Row := inferInstanceAs (DecidableEq (Int × Int))
instance : DecidableEq Part := inferInstanceAs (DecidableEq ((List Int) × (List (List Row))))
instance : DecidableEq File := inferInstanceAs (DecidableEq (Int × Part))
instance : DecidableEq Disk := inferInstanceAs (DecidableEq ((List File) × (List Int) × (List (List Tag)) × Int))
instance : DecidableEq Post := inferInstanceAs (DecidableEq (Tag × (List Int)))
instance : DecidableEq Index := inferInstanceAs (DecidableEq ((List (List Tag)) × (List Post)))
instance : DecidableEq Sample := inferInstanceAs (DecidableEq (Int × Row))
instance : DecidableEq Store := inferInstanceAs (DecidableEq (Index × (List Part) × (List Sample)))
instance : DecidableEq Step := @instDecidableEqProd _ _ inferInstance (@instDecidableEqProd _ _ inferInstance (@instDecidableEqProd _ _ inferInstance (@instDecidableEqProd _ _ inferInstance (inferInstance))))
theorem ty3 : TyI prog 3 false 1 (.int .i64 0) 8 := ⟨by kernel_rfl, by kernel_rfl, rfl⟩
theorem ty5 : TyI prog 5 false 1 (.int .u8 0) 1 := ⟨by kernel_rfl, by kernel_rfl, rfl⟩
theorem ty9 : TyI prog 9 false 1 (.string ⟨#[]⟩) 16 := ⟨by kernel_rfl, by kernel_rfl, rfl⟩
theorem ty22 : TyI prog 22 false 1 (.slice none 0 0) 24 := ⟨by kernel_rfl, by kernel_rfl, rfl⟩
theorem ty23 : TyI prog 23 false 1 (.slice none 0 0) 24 := ⟨by kernel_rfl, by kernel_rfl, rfl⟩
theorem ty24 : TyI prog 24 false 1 (.slice none 0 0) 24 := ⟨by kernel_rfl, by kernel_rfl, rfl⟩
theorem ty26 : TyI prog 26 true 4 (.agg #[.slice none 0 0, .slice none 0 0, .slice none 0 0, .int .i64 0]) 80 := ⟨by kernel_rfl, by kernel_rfl, rfl⟩
theorem fa26_0 : FA prog 26 0 0 := ⟨_, underlying26, _, rfl, rfl, by obtain ⟨i, hi, _, hn, _⟩ := ty22.info'; exact ⟨i, hi, by rw [hn]; decide⟩⟩
theorem fa26_1 : FA prog 26 1 1 := ⟨_, underlying26, _, rfl, rfl, by obtain ⟨i, hi, _, hn, _⟩ := ty23.info'; exact ⟨i, hi, by rw [hn]; decide⟩⟩
theorem fa26_2 : FA prog 26 2 2 := ⟨_, underlying26, _, rfl, rfl, by obtain ⟨i, hi, _, hn, _⟩ := ty24.info'; exact ⟨i, hi, by rw [hn]; decide⟩⟩
theorem fa26_3 : FA prog 26 3 3 := ⟨_, underlying26, _, rfl, rfl, by obtain ⟨i, hi, _, hn, _⟩ := ty3.info'; exact ⟨i, hi, by rw [hn]; decide⟩⟩
theorem ty29 : TyI prog 29 false 1 (.slice none 0 0) 24 := ⟨by kernel_rfl, by kernel_rfl, rfl⟩
theorem ty30 : TyI prog 30 false 1 (.slice none 0 0) 24 := ⟨by kernel_rfl, by kernel_rfl, rfl⟩
theorem ty32 : TyI prog 32 true 4 (.agg #[.slice none 0 0, .slice none 0 0, .slice none 0 0, .int .i64 0]) 80 := ⟨by kernel_rfl, by kernel_rfl, rfl⟩
theorem fa32_0 : FA prog 32 0 0 := ⟨_, underlying32, _, rfl, rfl, by obtain ⟨i, hi, _, hn, _⟩ := ty29.info'; exact ⟨i, hi, by rw [hn]; decide⟩⟩
theorem fa32_1 : FA prog 32 1 1 := ⟨_, underlying32, _, rfl, rfl, by obtain ⟨i, hi, _, hn, _⟩ := ty23.info'; exact ⟨i, hi, by rw [hn]; decide⟩⟩
theorem fa32_2 : FA prog 32 2 2 := ⟨_, underlying32, _, rfl, rfl, by obtain ⟨i, hi, _, hn, _⟩ := ty30.info'; exact ⟨i, hi, by rw [hn]; decide⟩⟩
theorem fa32_3 : FA prog 32 3 3 := ⟨_, underlying32, _, rfl, rfl, by obtain ⟨i, hi, _, hn, _⟩ := ty3.info'; exact ⟨i, hi, by rw [hn]; decide⟩⟩
theorem ty36 : TyI prog 36 false 1 (.slice none 0 0) 24 := ⟨by kernel_rfl, by kernel_rfl, rfl⟩
theorem ty38 : TyI prog 38 true 2 (.agg #[.slice none 0 0, .slice none 0 0]) 48 := ⟨by kernel_rfl, by kernel_rfl, rfl⟩
theorem fa38_0 : FA prog 38 0 0 := ⟨_, underlying38, _, rfl, rfl, by obtain ⟨i, hi, _, hn, _⟩ := ty30.info'; exact ⟨i, hi, by rw [hn]; decide⟩⟩
theorem fa38_1 : FA prog 38 1 1 := ⟨_, underlying38, _, rfl, rfl, by obtain ⟨i, hi, _, hn, _⟩ := ty36.info'; exact ⟨i, hi, by rw [hn]; decide⟩⟩
theorem ty39 : TyI prog 39 false 1 (.slice none 0 0) 24 := ⟨by kernel_rfl, by kernel_rfl, rfl⟩
theorem ty40 : TyI prog 40 false 1 (.slice none 0 0) 24 := ⟨by kernel_rfl, by kernel_rfl, rfl⟩
theorem ty42 : TyI prog 42 true 4 (.agg #[.slice none 0 0, .slice none 0 0, .slice none 0 0, .slice none 0 0]) 96 := ⟨by kernel_rfl, by kernel_rfl, rfl⟩
theorem fa42_0 : FA prog 42 0 0 := ⟨_, underlying42, _, rfl, rfl, by obtain ⟨i, hi, _, hn, _⟩ := ty38.info'; exact ⟨i, hi, by rw [hn]; decide⟩⟩
theorem fa42_1 : FA prog 42 1 2 := ⟨_, underlying42, _, rfl, rfl, by obtain ⟨i, hi, _, hn, _⟩ := ty39.info'; exact ⟨i, hi, by rw [hn]; decide⟩⟩
theorem fa42_2 : FA prog 42 2 3 := ⟨_, underlying42, _, rfl, rfl, by obtain ⟨i, hi, _, hn, _⟩ := ty40.info'; exact ⟨i, hi, by rw [hn]; decide⟩⟩
theorem ty73 : TyI prog 73 false 1 (.slice none 0 0) 24 := ⟨by kernel_rfl, by kernel_rfl, rfl⟩
theorem ty75 : TyI prog 75 true 2 (.agg #[.slice none 0 0, .slice none 0 0]) 48 := ⟨by kernel_rfl, by kernel_rfl, rfl⟩
theorem fa75_0 : FA prog 75 0 0 := ⟨_, underlying75, _, rfl, rfl, by obtain ⟨i, hi, _, hn, _⟩ := ty23.info'; exact ⟨i, hi, by rw [hn]; decide⟩⟩
theorem fa75_1 : FA prog 75 1 1 := ⟨_, underlying75, _, rfl, rfl, by obtain ⟨i, hi, _, hn, _⟩ := ty73.info'; exact ⟨i, hi, by rw [hn]; decide⟩⟩
theorem ty77 : TyI prog 77 true 3 (.agg #[.int .i64 0, .slice none 0 0, .slice none 0 0]) 56 := ⟨by kernel_rfl, by kernel_rfl, rfl⟩
theorem fa77_0 : FA prog 77 0 0 := ⟨_, underlying77, _, rfl, rfl, by obtain ⟨i, hi, _, hn, _⟩ := ty3.info'; exact ⟨i, hi, by rw [hn]; decide⟩⟩
theorem fa77_1 : FA prog 77 1 1 := ⟨_, underlying77, _, rfl, rfl, by obtain ⟨i, hi, _, hn, _⟩ := ty75.info'; exact ⟨i, hi, by rw [hn]; decide⟩⟩
theorem ty111 : TyI prog 111 true 6 (.agg #[.int .i64 0, .int .i64 0, .slice none 0 0, .slice none 0 0, .slice none 0 0, .slice none 0 0]) 112 := ⟨by kernel_rfl, by kernel_rfl, rfl⟩
theorem fa111_0 : FA prog 111 0 0 := ⟨_, underlying111, _, rfl, rfl, by obtain ⟨i, hi, _, hn, _⟩ := ty3.info'; exact ⟨i, hi, by rw [hn]; decide⟩⟩
theorem fa111_1 : FA prog 111 1 1 := ⟨_, underlying111, _, rfl, rfl, by obtain ⟨i, hi, _, hn, _⟩ := ty3.info'; exact ⟨i, hi, by rw [hn]; decide⟩⟩
theorem fa111_2 : FA prog 111 2 2 := ⟨_, underlying111, _, rfl, rfl, by obtain ⟨i, hi, _, hn, _⟩ := ty75.info'; exact ⟨i, hi, by rw [hn]; decide⟩⟩
theorem fa111_3 : FA prog 111 3 4 := ⟨_, underlying111, _, rfl, rfl, by obtain ⟨i, hi, _, hn, _⟩ := ty23.info'; exact ⟨i, hi, by rw [hn]; decide⟩⟩
theorem fa111_4 : FA prog 111 4 5 := ⟨_, underlying111, _, rfl, rfl, by obtain ⟨i, hi, _, hn, _⟩ := ty30.info'; exact ⟨i, hi, by rw [hn]; decide⟩⟩
theorem ty118 : TyI prog 118 false 1 (.slice none 0 0) 24 := ⟨by kernel_rfl, by kernel_rfl, rfl⟩
theorem ty120 : TyI prog 120 true 2 (.agg #[.slice none 0 0, .slice none 0 0]) 48 := ⟨by kernel_rfl, by kernel_rfl, rfl⟩
theorem fa120_0 : FA prog 120 0 0 := ⟨_, underlying120, _, rfl, rfl, by obtain ⟨i, hi, _, hn, _⟩ := ty23.info'; exact ⟨i, hi, by rw [hn]; decide⟩⟩
theorem fa120_1 : FA prog 120 1 1 := ⟨_, underlying120, _, rfl, rfl, by obtain ⟨i, hi, _, hn, _⟩ := ty118.info'; exact ⟨i, hi, by rw [hn]; decide⟩⟩
theorem ty122 : TyI prog 122 true 6 (.agg #[.int .i64 0, .int .i64 0, .slice none 0 0, .slice none 0 0, .slice none 0 0, .slice none 0 0]) 112 := ⟨by kernel_rfl, by kernel_rfl, rfl⟩
theorem fa122_0 : FA prog 122 0 0 := ⟨_, underlying122, _, rfl, rfl, by obtain ⟨i, hi, _, hn, _⟩ := ty3.info'; exact ⟨i, hi, by rw [hn]; decide⟩⟩
theorem fa122_1 : FA prog 122 1 1 := ⟨_, underlying122, _, rfl, rfl, by obtain ⟨i, hi, _, hn, _⟩ := ty3.info'; exact ⟨i, hi, by rw [hn]; decide⟩⟩
theorem fa122_2 : FA prog 122 2 2 := ⟨_, underlying122, _, rfl, rfl, by obtain ⟨i, hi, _, hn, _⟩ := ty120.info'; exact ⟨i, hi, by rw [hn]; decide⟩⟩
theorem fa122_3 : FA prog 122 3 4 := ⟨_, underlying122, _, rfl, rfl, by obtain ⟨i, hi, _, hn, _⟩ := ty23.info'; exact ⟨i, hi, by rw [hn]; decide⟩⟩
theorem fa122_4 : FA prog 122 4 5 := ⟨_, underlying122, _, rfl, rfl, by obtain ⟨i, hi, _, hn, _⟩ := ty24.info'; exact ⟨i, hi, by rw [hn]; decide⟩⟩
theorem ty127 : TyI prog 127 true 3 (.agg #[.int .i64 0, .slice none 0 0, .slice none 0 0]) 56 := ⟨by kernel_rfl, by kernel_rfl, rfl⟩
theorem fa127_0 : FA prog 127 0 0 := ⟨_, underlying127, _, rfl, rfl, by obtain ⟨i, hi, _, hn, _⟩ := ty3.info'; exact ⟨i, hi, by rw [hn]; decide⟩⟩
theorem fa127_1 : FA prog 127 1 1 := ⟨_, underlying127, _, rfl, rfl, by obtain ⟨i, hi, _, hn, _⟩ := ty120.info'; exact ⟨i, hi, by rw [hn]; decide⟩⟩
theorem ty129 : TyI prog 129 false 1 (.slice none 0 0) 24 := ⟨by kernel_rfl, by kernel_rfl, rfl⟩
theorem ty130 : TyI prog 130 false 1 (.slice none 0 0) 24 := ⟨by kernel_rfl, by kernel_rfl, rfl⟩
theorem ty135 : TyI prog 135 true 2 (.agg #[.int .i64 0, .int .i64 0]) 16 := ⟨by kernel_rfl, by kernel_rfl, rfl⟩
theorem fa135_0 : FA prog 135 0 0 := ⟨_, underlying135, _, rfl, rfl, by obtain ⟨i, hi, _, hn, _⟩ := ty3.info'; exact ⟨i, hi, by rw [hn]; decide⟩⟩
theorem fa135_1 : FA prog 135 1 1 := ⟨_, underlying135, _, rfl, rfl, by obtain ⟨i, hi, _, hn, _⟩ := ty3.info'; exact ⟨i, hi, by rw [hn]; decide⟩⟩
theorem ty137 : TyI prog 137 true 3 (.agg #[.int .i64 0, .int .i64 0, .int .i64 0]) 24 := ⟨by kernel_rfl, by kernel_rfl, rfl⟩
theorem fa137_0 : FA prog 137 0 0 := ⟨_, underlying137, _, rfl, rfl, by obtain ⟨i, hi, _, hn, _⟩ := ty3.info'; exact ⟨i, hi, by rw [hn]; decide⟩⟩
theorem fa137_1 : FA prog 137 1 1 := ⟨_, underlying137, _, rfl, rfl, by obtain ⟨i, hi, _, hn, _⟩ := ty135.info'; exact ⟨i, hi, by rw [hn]; decide⟩⟩
theorem ty142 : TyI prog 142 false 1 (.slice none 0 0) 24 := ⟨by kernel_rfl, by kernel_rfl, rfl⟩
theorem ty166 : TyI prog 166 true 2 (.agg #[.int .i64 0, .int .i64 0]) 16 := ⟨by kernel_rfl, by kernel_rfl, rfl⟩
theorem fa166_0 : FA prog 166 0 0 := ⟨_, underlying166, _, rfl, rfl, by obtain ⟨i, hi, _, hn, _⟩ := ty3.info'; exact ⟨i, hi, by rw [hn]; decide⟩⟩
theorem fa166_1 : FA prog 166 1 1 := ⟨_, underlying166, _, rfl, rfl, by obtain ⟨i, hi, _, hn, _⟩ := ty3.info'; exact ⟨i, hi, by rw [hn]; decide⟩⟩
theorem ty172 : TyI prog 172 true 2 (.agg #[.string ⟨#[]⟩, .string ⟨#[]⟩]) 32 := ⟨by kernel_rfl, by kernel_rfl, rfl⟩
theorem fa172_0 : FA prog 172 0 0 := ⟨_, underlying172, _, rfl, rfl, by obtain ⟨i, hi, _, hn, _⟩ := ty9.info'; exact ⟨i, hi, by rw [hn]; decide⟩⟩
theorem fa172_1 : FA prog 172 1 1 := ⟨_, underlying172, _, rfl, rfl, by obtain ⟨i, hi, _, hn, _⟩ := ty9.info'; exact ⟨i, hi, by rw [hn]; decide⟩⟩
theorem ty180 : TyI prog 180 true 2 (.agg #[.string ⟨#[]⟩, .string ⟨#[]⟩]) 32 := ⟨by kernel_rfl, by kernel_rfl, rfl⟩
theorem fa180_0 : FA prog 180 0 0 := ⟨_, underlying180, _, rfl, rfl, by obtain ⟨i, hi, _, hn, _⟩ := ty9.info'; exact ⟨i, hi, by rw [hn]; decide⟩⟩
theorem fa180_1 : FA prog 180 1 1 := ⟨_, underlying180, _, rfl, rfl, by obtain ⟨i, hi, _, hn, _⟩ := ty9.info'; exact ⟨i, hi, by rw [hn]; decide⟩⟩
theorem ty183 : TyI prog 183 true 3 (.agg #[.string ⟨#[]⟩, .string ⟨#[]⟩, .slice none 0 0]) 56 := ⟨by kernel_rfl, by kernel_rfl, rfl⟩
theorem fa183_0 : FA prog 183 0 0 := ⟨_, underlying183, _, rfl, rfl, by obtain ⟨i, hi, _, hn, _⟩ := ty172.info'; exact ⟨i, hi, by rw [hn]; decide⟩⟩
theorem fa183_1 : FA prog 183 1 2 := ⟨_, underlying183, _, rfl, rfl, by obtain ⟨i, hi, _, hn, _⟩ := ty23.info'; exact ⟨i, hi, by rw [hn]; decide⟩⟩
theorem ty222 : TyI prog 222 false 1 (.slice none 0 0) 24 := ⟨by kernel_rfl, by kernel_rfl, rfl⟩
theorem pl32 : PL prog 32 #[(0, 1), (1, 1), (2, 1), (3, 1)] := ⟨_, underlying32, fun w => by simp [ty29.sizeOf w]⟩
theorem pl38 : PL prog 38 #[(0, 1), (1, 1)] := ⟨_, underlying38, fun w => by simp [ty30.sizeOf w]⟩
theorem pl42 : PL prog 42 #[(0, 2), (2, 1), (3, 1)] := ⟨_, underlying42, fun w => by simp [ty38.sizeOf w]⟩
theorem pl75 : PL prog 75 #[(0, 1), (1, 1)] := ⟨_, underlying75, fun w => by simp [ty23.sizeOf w]⟩
theorem pl77 : PL prog 77 #[(0, 1), (1, 2)] := ⟨_, underlying77, fun w => by simp [ty3.sizeOf w]⟩
theorem pl172 : PL prog 172 #[(0, 1), (1, 1)] := ⟨_, underlying172, fun w => by simp [ty9.sizeOf w]⟩
theorem pl183 : PL prog 183 #[(0, 2), (2, 1)] := ⟨_, underlying183, fun w => by simp [ty172.sizeOf w]⟩
theorem ae172 : AEq prog 172 Tag := ⟨by kernel_rfl, fun d a b w => by
 rw [run_equalIn_agg w (d + 2) 172 _ _ (by kernel_rfl) (by kernel_rfl)]
 simp only [Program.fieldsOf, underlying172, Flat.enc, List.cons_append, List.nil_append]
 simp [Op.eqFields, part, ty9.isAgg, ty9.sizeOf, run_equalIn_string w (d + 1) 9 _ _ underlying9, seq_dec]
 by_cases h0 : a.1 = b.1 <;> by_cases h1 : a.2 = b.2 <;> simp [h0, h1, Prod.ext_iff]⟩
noncomputable def p_laws_szIntS (v0 : (List Int)) (v1 : Int) : Option (Int) := gd (I64 (v1 - (v0.length : Int))) <| cond (decide ((v1 - (v0.length : Int)) < 0)) (some (-1)) (some (v1 - (v0.length : Int)))
theorem c_laws_szIntS {r : Int} (v0 : (List Int)) (x_v0 : Option Addr × Nat) (v1 : Int) (H : p_laws_szIntS v0 v1 = some r) : Fn' prog 37 #[.slice x_v0.1 v0.length x_v0.2, .int .i64 (v1)] [imm (.slice x_v0.1 v0.length x_v0.2) v0] [] (ι := Unit) (fun _ => .int .i64 (r)) (fun _ => []) (fun _ => []) := by
 refine cof (args := [_, _]) func37 ntmps37 fun c => ?_
 unfold p_laws_szIntS at H
 refine sr (aH (v := .int .i64 (0)) rfl (nl (sr (aF rfl (aF rfl (aG (bS 3 dP rfl) (gdo H fun h1 H => (aG (cQ rfl rfl h1) (aH rfl (nl (aD (sr ?_))))))))))))
 refine aF rfl (aG (cP rfl rfl) (nl (cH H rfl (fun h2 H => ?_) (fun h2 H => ?_))))
 ·refine sr (aH (v := .int .i64 (-1)) rfl (nl (bQ (rT (?_)))))
  obtain rfl := si H
  exact bk
 ·refine bH (nT (sr (aF rfl (aH rfl (nl ?_)))))
  obtain rfl := si H
  exact bQ bk
noncomputable def p_laws_szRowS (v0 : (List Row)) (v1 : Int) : Option (Int) := gd (I64 (v1 - (v0.length : Int))) <| cond (decide ((v1 - (v0.length : Int)) < 0)) (some (-1)) (some (v1 - (v0.length : Int)))
theorem c_laws_szRowS {r : Int} (v0 : (List Row)) (x_v0 : Option Addr × Nat) (v1 : Int) (H : p_laws_szRowS v0 v1 = some r) : Fn' prog 192 #[.slice x_v0.1 v0.length x_v0.2, .int .i64 (v1)] [imm (.slice x_v0.1 v0.length x_v0.2) v0] [] (ι := Unit) (fun _ => .int .i64 (r)) (fun _ => []) (fun _ => []) := by
 refine cof (args := [_, _]) func192 ntmps192 fun c => ?_
 unfold p_laws_szRowS at H
 refine sr (aH (v := .int .i64 (0)) rfl (nl (sr (aF rfl (aF rfl (aG (bS 166 dO rfl) (gdo H fun h1 H => (aG (cQ rfl rfl h1) (aH rfl (nl (aD (sr ?_))))))))))))
 refine aF rfl (aG (cP rfl rfl) (nl (cH H rfl (fun h2 H => ?_) (fun h2 H => ?_))))
 ·refine sr (aH (v := .int .i64 (-1)) rfl (nl (bQ (rT (?_)))))
  obtain rfl := si H
  exact bk
 ·refine bH (nT (sr (aF rfl (aH rfl (nl ?_)))))
  obtain rfl := si H
  exact bQ bk
noncomputable def p_laws_szRowSS_b0 (v0 : (List (List Row))) (Q8 : Int × Int) : Option ((Int × Int) ⊕ (Int ⊕ Int)) := cond (decide (Q8.2 < (v0.length : Int))) (gd (ix Q8.2 v0.length) <| bd (p_laws_szRowS (nth v0 Q8.2.toNat) Q8.1) fun r18 => cond (decide (r18 < 0)) (some (.inr (.inr (-1)))) (gd (I64 (Q8.2 + 1)) <| some (.inl (r18, Q8.2 + 1)))) (some (.inr (.inl Q8.1)))
noncomputable def p_laws_szRowSS (v0 : (List (List Row))) (v1 : Int) : Option (Int) := gd (I64 (v1 - (v0.length : Int))) <| cond (decide ((v1 - (v0.length : Int)) < 0)) (some (-1)) (bd (lp (p_laws_szRowSS_b0 v0) (v1 - (v0.length : Int), 0)) <| sw (fun e22 => some e22) (fun q => some q))
theorem c_laws_szRowSS {r : Int} (v0 : (List (List Row))) (x_v0 : Option Addr × Nat) (v1 : Int) (H : p_laws_szRowSS v0 v1 = some r) : Fn' prog 175 #[.slice x_v0.1 v0.length x_v0.2, .int .i64 (v1)] [imm (.slice x_v0.1 v0.length x_v0.2) v0] [] (ι := Unit) (fun _ => .int .i64 (r)) (fun _ => []) (fun _ => []) := by
 refine cof (args := [_, _]) func175 ntmps175 fun c => ?_
 unfold p_laws_szRowSS at H
 refine bM aR fun X1 => (sr (aH (v := .int .i64 (0)) rfl (nl (sr (aF rfl (aF rfl (aG (bS 222 dJ rfl) (gdo H fun h2 H => (aG (cQ rfl rfl h2) (aH rfl (nl ?_)))))))))))
 refine aD (sr (aF rfl (aG (cP rfl rfl) (nl (cH H rfl (fun h3 H => ?_) (fun h3 H => ?_))))))
 ·refine sr (aH (v := .int .i64 (-1)) rfl (nl (bQ (rT (?_)))))
  obtain rfl := si H
  exact bk
 ·refine bH (nT (aD (sr (aH (v := .int .i64 (0)) rfl (nl (bdo H fun x4 hx5 H => (dC (Λ := Unit) H (fun e22 _ => [(1, .int .i64 (e22))]) (fun _ _ => []) ?_ ?_)))))))
  ·refine aQ (dE hx5 () (fun Q8 _ => [(0, .slice x_v0.1 v0.length x_v0.2), (1, .int .i64 (Q8.1)), (5, .int .i64 (Q8.2))]) (fun _ _ => []) bK ?_)
   rintro _ Q8 z9 t11 H1 hi12 hb13
   unfold p_laws_szRowSS_b0 at H1
   refine aD (sr (aF rfl (aF rfl (aG (bS 222 dJ rfl) (aG (cP rfl rfl) (nl (cH H1 rfl (fun h16 H1 => ?_) (fun h16 H1 => ?_))))))))
   ·refine bH (nT (aD (aQ (sr (aF rfl (aF rfl (gdo H1 fun h17 H1 => (aI (bW dJ ty222 rfl rfl h17 rfl (aL (aT aR))) (aI (bZ (i := Q8.2.toNat) (j := 0) ty222 rfl (aL (aT aR)) h17.lt rfl) (aF rfl ?_))))))))))
    refine bdo H1 fun r18 h19 H1 => (aI (bN (c_laws_szRowS (nth v0 Q8.2.toNat) ((X1 Q8.2.toNat).1, (X1 Q8.2.toNat).2.1) Q8.1 h19) rfl (aC (aL (aS (aW aR h17.lt))) aO)) (aH rfl (nl (sr (aF rfl (aG (cP rfl rfl) (nl (cH H1 rfl (fun h20 H1 => ?_) (fun h20 H1 => ?_)))))))))
    ·refine sr (aH (v := .int .i64 (-1)) rfl (nl (bQ (rB (rT (rT (rB (rT (rT (?_))))))))))
     obtain rfl := hb13 _ (sm H1)
     replace H := sw.r H
     obtain rfl := si H
     exact bk
    ·exact bH (nB (nT (aP (aF rfl (gdo H1 fun h21 H1 => (aG (bR rfl rfl h21) (aH rfl (aJ (nLI () (hi12 _ (sm H1)) bK)))))))))
   ·exact dA (xT (xT (xE (nMI () (hb13 _ (sm H1)) bK))))
  ·rintro e22 y10 H
   refine nT (sr (aF rfl (aH rfl (nl ?_))))
   obtain rfl := si H
   exact bQ bk
noncomputable def p_laws_szPart (v0 : Part) (v1 : Int) : Option (Int) := bd (p_laws_szIntS v0.1 v1) fun r3 => cond (decide (r3 < 0)) (some (-1)) (bd (p_laws_szRowSS v0.2 r3) fun r6 => cond (decide (r6 < 0)) (some (-1)) (some r6))
theorem c_laws_szPart {r : Int} (v0 : Part) (x_v0 : (Option Addr × Nat) × (Option Addr × Nat)) (v1 : Int) (H : p_laws_szPart v0 v1 = some r) : Fn' prog 131 #[.agg #[.slice x_v0.1.1 v0.1.length x_v0.1.2, .slice x_v0.2.1 v0.2.length x_v0.2.2], .int .i64 (v1)] [imm (.slice x_v0.1.1 v0.1.length x_v0.1.2) v0.1, imm (.slice x_v0.2.1 v0.2.length x_v0.2.2) v0.2] [] (ι := Unit) (fun _ => .int .i64 (r)) (fun _ => []) (fun _ => []) := by
 refine cof (args := [_, _]) func131 ntmps131 fun c => ?_
 unfold p_laws_szPart at H
 refine bM aR.s fun X1 => (sr (f1 (cC (t := 120) rfl) fun g2 => (aH (v := .int .i64 (0)) rfl (nl (sr (aG (cB fa120_0 rfl rfl) (aI (bI ty23 rfl aB rfl) (aF rfl (bdo H fun r3 h4 H => (aI (bN (c_laws_szIntS v0.1 x_v0.1 v1 h4) rfl (aC (aL aR.s) aO)) ?_))))))))))
 refine aH rfl (nl (aD (sr (aF rfl (aG (cP rfl rfl) (nl (cH H rfl (fun h5 H => ?_) (fun h5 H => ?_))))))))
 ·refine sr (aH (v := .int .i64 (-1)) rfl (nl (bQ (rT (?_)))))
  obtain rfl := si H
  exact bk
 ·refine bH (nT (sr (aG (cB fa120_1 rfl rfl) (aI (bI ty118 rfl aB rfl) (aF rfl (bdo H fun r6 h7 H => (aI (bN (c_laws_szRowSS v0.2 x_v0.2 r3 h7) rfl (aC (aL (aS aR)) aO)) (aH rfl (nl (aD (sr ?_)))))))))))
  refine aF rfl (aG (cP rfl rfl) (nl (cH H rfl (fun h8 H => ?_) (fun h8 H => ?_))))
  ·refine sr (aH (v := .int .i64 (-1)) rfl (nl (bQ (rT (?_)))))
   obtain rfl := si H
   exact bk
  ·refine bH (nT (sr (aF rfl (aH rfl (nl ?_)))))
   obtain rfl := si H
   exact bQ bk
noncomputable def p_laws_szFile (v0 : File) (v1 : Int) : Option (Int) := bd (p_laws_szPart v0.2 v1) fun r3 => cond (decide (r3 < 0)) (some (-1)) (some r3)
theorem c_laws_szFile {r : Int} (v0 : File) (x_v0 : Unit × ((Option Addr × Nat) × (Option Addr × Nat))) (v1 : Int) (H : p_laws_szFile v0 v1 = some r) : Fn' prog 98 #[.agg #[.int .i64 (v0.1), .slice x_v0.2.1.1 v0.2.1.length x_v0.2.1.2, .slice x_v0.2.2.1 v0.2.2.length x_v0.2.2.2], .int .i64 (v1)] [imm (.slice x_v0.2.1.1 v0.2.1.length x_v0.2.1.2) v0.2.1, imm (.slice x_v0.2.2.1 v0.2.2.length x_v0.2.2.2) v0.2.2] [] (ι := Unit) (fun _ => .int .i64 (r)) (fun _ => []) (fun _ => []) := by
 refine cof (args := [_, _]) func98 ntmps98 fun c => ?_
 unfold p_laws_szFile at H
 refine bM aR.s fun X1 => (sr (f1 (cC (t := 127) rfl) fun g2 => (aH (v := .int .i64 (0)) rfl (nl (sr (aG (cB fa127_1 rfl rfl) (aI (v := .agg #[.slice x_v0.2.1.1 v0.2.1.length x_v0.2.1.2, .slice x_v0.2.2.1 v0.2.2.length x_v0.2.2.2]) (q_ldbP [.slice x_v0.2.1.1 v0.2.1.length x_v0.2.1.2, .slice x_v0.2.2.1 v0.2.2.length x_v0.2.2.2] ty120 rfl aB rfl rfl) (aF rfl (bdo H fun r3 h4 H => (aI (bN (c_laws_szPart v0.2 x_v0.2 v1 h4) rfl (aC (aL aR.s) (aC (aL (aS aR)) aO))) ?_))))))))))
 refine aH rfl (nl (aD (sr (aF rfl (aG (cP rfl rfl) (nl (cH H rfl (fun h5 H => ?_) (fun h5 H => ?_))))))))
 ·refine sr (aH (v := .int .i64 (-1)) rfl (nl (bQ (rT (?_)))))
  obtain rfl := si H
  exact bk
 ·refine bH (nT (sr (aF rfl (aH rfl (nl ?_)))))
  obtain rfl := si H
  exact bQ bk
noncomputable def p_laws_szFileS_b0 (v0 : (List File)) (Q8 : Int × Int) : Option ((Int × Int) ⊕ (Int ⊕ Int)) := cond (decide (Q8.2 < (v0.length : Int))) (gd (ix Q8.2 v0.length) <| bd (p_laws_szFile (nth v0 Q8.2.toNat) Q8.1) fun r18 => cond (decide (r18 < 0)) (some (.inr (.inr (-1)))) (gd (I64 (Q8.2 + 1)) <| some (.inl (r18, Q8.2 + 1)))) (some (.inr (.inl Q8.1)))
noncomputable def p_laws_szFileS (v0 : (List File)) (v1 : Int) : Option (Int) := gd (I64 (v1 - (v0.length : Int))) <| cond (decide ((v1 - (v0.length : Int)) < 0)) (some (-1)) (bd (lp (p_laws_szFileS_b0 v0) (v1 - (v0.length : Int), 0)) <| sw (fun e22 => some e22) (fun q => some q))
theorem c_laws_szFileS {r : Int} (v0 : (List File)) (x_v0 : Option Addr × Nat) (v1 : Int) (H : p_laws_szFileS v0 v1 = some r) : Fn' prog 36 #[.slice x_v0.1 v0.length x_v0.2, .int .i64 (v1)] [imm (.slice x_v0.1 v0.length x_v0.2) v0] [] (ι := Unit) (fun _ => .int .i64 (r)) (fun _ => []) (fun _ => []) := by
 refine cof (args := [_, _]) func36 ntmps36 fun c => ?_
 unfold p_laws_szFileS at H
 refine bM aR fun X1 => (sr (aH (v := .int .i64 (0)) rfl (nl (sr (aF rfl (aF rfl (aG (bS 127 dN rfl) (gdo H fun h2 H => (aG (cQ rfl rfl h2) (aH rfl (nl ?_)))))))))))
 refine aD (sr (aF rfl (aG (cP rfl rfl) (nl (cH H rfl (fun h3 H => ?_) (fun h3 H => ?_))))))
 ·refine sr (aH (v := .int .i64 (-1)) rfl (nl (bQ (rT (?_)))))
  obtain rfl := si H
  exact bk
 ·refine bH (nT (aD (sr (aH (v := .int .i64 (0)) rfl (nl (bdo H fun x4 hx5 H => (dC (Λ := Unit) H (fun e22 _ => [(1, .int .i64 (e22))]) (fun _ _ => []) ?_ ?_)))))))
  ·refine aQ (dE hx5 () (fun Q8 _ => [(0, .slice x_v0.1 v0.length x_v0.2), (1, .int .i64 (Q8.1)), (5, .int .i64 (Q8.2))]) (fun _ _ => []) bK ?_)
   rintro _ Q8 z9 t11 H1 hi12 hb13
   unfold p_laws_szFileS_b0 at H1
   refine aD (sr (aF rfl (aF rfl (aG (bS 127 dN rfl) (aG (cP rfl rfl) (nl (cH H1 rfl (fun h16 H1 => ?_) (fun h16 H1 => ?_))))))))
   ·refine bH (nT (aD (aQ (sr (aF rfl (aF rfl (gdo H1 fun h17 H1 => (aI (bW dN ty127 rfl rfl h17 rfl (aL (aT aR))) (aI (v := .agg #[.int .i64 ((nth v0 Q8.2.toNat).1), .slice ((((X1 Q8.2.toNat).2).1).1) ((((nth v0 Q8.2.toNat).2).1).length) ((((X1 Q8.2.toNat).2).1).2.1), .slice ((((X1 Q8.2.toNat).2).2).1) ((((nth v0 Q8.2.toNat).2).2).length) ((((X1 Q8.2.toNat).2).2).2.1)]) (cA (i := Q8.2.toNat) ty127 rfl (aL (aT aR)) h17.lt) (aF rfl ?_))))))))))
    refine bdo H1 fun r18 h19 H1 => (aI (bN (c_laws_szFile (nth v0 Q8.2.toNat) ((), (((((X1 Q8.2.toNat).2).1).1, (((X1 Q8.2.toNat).2).1).2.1), ((((X1 Q8.2.toNat).2).2).1, (((X1 Q8.2.toNat).2).2).2.1))) Q8.1 h19) rfl (aC (aL (aS (aV (aU (aW aR h17.lt))))) (aC (aL (aS (aU (aU (aW aR h17.lt))))) aO))) (aH rfl (nl (sr (aF rfl (aG (cP rfl rfl) (nl (cH H1 rfl (fun h20 H1 => ?_) (fun h20 H1 => ?_)))))))))
    ·refine sr (aH (v := .int .i64 (-1)) rfl (nl (bQ (rB (rT (rT (rB (rT (rT (?_))))))))))
     obtain rfl := hb13 _ (sm H1)
     replace H := sw.r H
     obtain rfl := si H
     exact bk
    ·exact bH (nB (nT (aP (aF rfl (gdo H1 fun h21 H1 => (aG (bR rfl rfl h21) (aH rfl (aJ (nLI () (hi12 _ (sm H1)) bK)))))))))
   ·exact dA (xT (xT (xE (nMI () (hb13 _ (sm H1)) bK))))
  ·rintro e22 y10 H
   refine nT (sr (aF rfl (aH rfl (nl ?_))))
   obtain rfl := si H
   exact bQ bk
noncomputable def p_laws_szTag (v0 : Tag) (v1 : Int) : Option (Int) := gd (I64 (v1 - (v0.1.size : Int))) <| cond (decide ((v1 - (v0.1.size : Int)) < 0)) (some (-1)) (gd (I64 ((v1 - (v0.1.size : Int)) - (v0.2.size : Int))) <| cond (decide (((v1 - (v0.1.size : Int)) - (v0.2.size : Int)) < 0)) (some (-1)) (some ((v1 - (v0.1.size : Int)) - (v0.2.size : Int))))
theorem c_laws_szTag {r : Int} (v0 : Tag) (v1 : Int) (H : p_laws_szTag v0 v1 = some r) : Fn' prog 149 #[.agg #[.string (v0.1), .string (v0.2)], .int .i64 (v1)] [] [] (ι := Unit) (fun _ => .int .i64 (r)) (fun _ => []) (fun _ => []) := by
 refine cof (args := [_, _]) func149 ntmps149 fun c => ?_
 unfold p_laws_szTag at H
 refine sr (f1 (cC (t := 180) rfl) fun g1 => (aH (v := .int .i64 (0)) rfl (nl (sr (aF rfl (aG (cB fa180_0 rfl rfl) (aI (bI ty9 rfl aB rfl) (aG (p_slen dZ rfl) (gdo H fun h2 H => (aG (cQ rfl rfl h2) ?_))))))))))
 refine aH rfl (nl (aD (sr (aF rfl (aG (cP rfl rfl) (nl (cH H rfl (fun h3 H => ?_) (fun h3 H => ?_))))))))
 ·refine sr (aH (v := .int .i64 (-1)) rfl (nl (bQ (rT (?_)))))
  obtain rfl := si H
  exact bk
 ·refine bH (nT (sr (aF rfl (aG (cB fa180_1 rfl rfl) (aI (bI ty9 rfl aB rfl) (aG (p_slen dZ rfl) (gdo H fun h4 H => (aG (cQ rfl rfl h4) (aH rfl (nl ?_))))))))))
  refine aD (sr (aF rfl (aG (cP rfl rfl) (nl (cH H rfl (fun h5 H => ?_) (fun h5 H => ?_))))))
  ·refine sr (aH (v := .int .i64 (-1)) rfl (nl (bQ (rT (?_)))))
   obtain rfl := si H
   exact bk
  ·refine bH (nT (sr (aF rfl (aH rfl (nl ?_)))))
   obtain rfl := si H
   exact bQ bk
noncomputable def p_laws_szTagS_b0 (v0 : (List Tag)) (Q7 : Int × Int) : Option ((Int × Int) ⊕ (Int ⊕ Int)) := cond (decide (Q7.2 < (v0.length : Int))) (gd (ix Q7.2 v0.length) <| bd (p_laws_szTag (nth v0 Q7.2.toNat) Q7.1) fun r17 => cond (decide (r17 < 0)) (some (.inr (.inr (-1)))) (gd (I64 (Q7.2 + 1)) <| some (.inl (r17, Q7.2 + 1)))) (some (.inr (.inl Q7.1)))
noncomputable def p_laws_szTagS (v0 : (List Tag)) (v1 : Int) : Option (Int) := gd (I64 (v1 - (v0.length : Int))) <| cond (decide ((v1 - (v0.length : Int)) < 0)) (some (-1)) (bd (lp (p_laws_szTagS_b0 v0) (v1 - (v0.length : Int), 0)) <| sw (fun e21 => some e21) (fun q => some q))
theorem c_laws_szTagS {r : Int} (v0 : (List Tag)) (x_v0 : Option Addr × Nat) (v1 : Int) (H : p_laws_szTagS v0 v1 = some r) : Fn' prog 99 #[.slice x_v0.1 v0.length x_v0.2, .int .i64 (v1)] [imm (.slice x_v0.1 v0.length x_v0.2) v0] [] (ι := Unit) (fun _ => .int .i64 (r)) (fun _ => []) (fun _ => []) := by
 refine cof (args := [_, _]) func99 ntmps99 fun c => ?_
 unfold p_laws_szTagS at H
 refine sr (aH (v := .int .i64 (0)) rfl (nl (sr (aF rfl (aF rfl (aG (bS 180 dK rfl) (gdo H fun h1 H => (aG (cQ rfl rfl h1) (aH rfl (nl (aD (sr ?_))))))))))))
 refine aF rfl (aG (cP rfl rfl) (nl (cH H rfl (fun h2 H => ?_) (fun h2 H => ?_))))
 ·refine sr (aH (v := .int .i64 (-1)) rfl (nl (bQ (rT (?_)))))
  obtain rfl := si H
  exact bk
 ·refine bH (nT (aD (sr (aH (v := .int .i64 (0)) rfl (nl (bdo H fun x3 hx4 H => (dC (Λ := Unit) H (fun e21 _ => [(1, .int .i64 (e21))]) (fun _ _ => []) ?_ ?_)))))))
  ·refine aQ (dE hx4 () (fun Q7 _ => [(0, .slice x_v0.1 v0.length x_v0.2), (1, .int .i64 (Q7.1)), (5, .int .i64 (Q7.2))]) (fun _ _ => []) bK ?_)
   rintro _ Q7 z8 t10 H1 hi11 hb12
   unfold p_laws_szTagS_b0 at H1
   refine aD (sr (aF rfl (aF rfl (aG (bS 180 dK rfl) (aG (cP rfl rfl) (nl (cH H1 rfl (fun h15 H1 => ?_) (fun h15 H1 => ?_))))))))
   ·refine bH (nT (aD (aQ (sr (aF rfl (aF rfl (gdo H1 fun h16 H1 => (aI (bW dK ty180 rfl rfl h16 rfl (aN (aL aR))) (aI (v := .agg #[.string ((nth v0 Q7.2.toNat).1), .string ((nth v0 Q7.2.toNat).2)]) (cA (i := Q7.2.toNat) ty180 rfl (aN (aL aR)) h16.lt) (aF rfl ?_))))))))))
    refine bdo H1 fun r17 h18 H1 => (aI (bN (c_laws_szTag (nth v0 Q7.2.toNat) Q7.1 h18) rfl aO) (aH rfl (nl (sr (aF rfl (aG (cP rfl rfl) (nl (cH H1 rfl (fun h19 H1 => ?_) (fun h19 H1 => ?_)))))))))
    ·refine sr (aH (v := .int .i64 (-1)) rfl (nl (bQ (rB (rT (rT (rB (rT (rT (?_))))))))))
     obtain rfl := hb12 _ (sm H1)
     replace H := sw.r H
     obtain rfl := si H
     exact bk
    ·exact bH (nB (nT (aP (aF rfl (gdo H1 fun h20 H1 => (aG (bR rfl rfl h20) (aH rfl (aJ (nLI () (hi11 _ (sm H1)) bK)))))))))
   ·exact dA (xT (xT (xE (nMI () (hb12 _ (sm H1)) bK))))
  ·rintro e21 y9 H
   refine nT (sr (aF rfl (aH rfl (nl ?_))))
   obtain rfl := si H
   exact bQ bk
noncomputable def p_laws_szTagSS_b0 (v0 : (List (List Tag))) (Q8 : Int × Int) : Option ((Int × Int) ⊕ (Int ⊕ Int)) := cond (decide (Q8.2 < (v0.length : Int))) (gd (ix Q8.2 v0.length) <| bd (p_laws_szTagS (nth v0 Q8.2.toNat) Q8.1) fun r18 => cond (decide (r18 < 0)) (some (.inr (.inr (-1)))) (gd (I64 (Q8.2 + 1)) <| some (.inl (r18, Q8.2 + 1)))) (some (.inr (.inl Q8.1)))
noncomputable def p_laws_szTagSS (v0 : (List (List Tag))) (v1 : Int) : Option (Int) := gd (I64 (v1 - (v0.length : Int))) <| cond (decide ((v1 - (v0.length : Int)) < 0)) (some (-1)) (bd (lp (p_laws_szTagSS_b0 v0) (v1 - (v0.length : Int), 0)) <| sw (fun e22 => some e22) (fun q => some q))
theorem c_laws_szTagSS {r : Int} (v0 : (List (List Tag))) (x_v0 : Option Addr × Nat) (v1 : Int) (H : p_laws_szTagSS v0 v1 = some r) : Fn' prog 38 #[.slice x_v0.1 v0.length x_v0.2, .int .i64 (v1)] [imm (.slice x_v0.1 v0.length x_v0.2) v0] [] (ι := Unit) (fun _ => .int .i64 (r)) (fun _ => []) (fun _ => []) := by
 refine cof (args := [_, _]) func38 ntmps38 fun c => ?_
 unfold p_laws_szTagSS at H
 refine bM aR fun X1 => (sr (aH (v := .int .i64 (0)) rfl (nl (sr (aF rfl (aF rfl (aG (bS 129 dQ rfl) (gdo H fun h2 H => (aG (cQ rfl rfl h2) (aH rfl (nl ?_)))))))))))
 refine aD (sr (aF rfl (aG (cP rfl rfl) (nl (cH H rfl (fun h3 H => ?_) (fun h3 H => ?_))))))
 ·refine sr (aH (v := .int .i64 (-1)) rfl (nl (bQ (rT (?_)))))
  obtain rfl := si H
  exact bk
 ·refine bH (nT (aD (sr (aH (v := .int .i64 (0)) rfl (nl (bdo H fun x4 hx5 H => (dC (Λ := Unit) H (fun e22 _ => [(1, .int .i64 (e22))]) (fun _ _ => []) ?_ ?_)))))))
  ·refine aQ (dE hx5 () (fun Q8 _ => [(0, .slice x_v0.1 v0.length x_v0.2), (1, .int .i64 (Q8.1)), (5, .int .i64 (Q8.2))]) (fun _ _ => []) bK ?_)
   rintro _ Q8 z9 t11 H1 hi12 hb13
   unfold p_laws_szTagSS_b0 at H1
   refine aD (sr (aF rfl (aF rfl (aG (bS 129 dQ rfl) (aG (cP rfl rfl) (nl (cH H1 rfl (fun h16 H1 => ?_) (fun h16 H1 => ?_))))))))
   ·refine bH (nT (aD (aQ (sr (aF rfl (aF rfl (gdo H1 fun h17 H1 => (aI (bW dQ ty129 rfl rfl h17 rfl (aL (aT aR))) (aI (bZ (i := Q8.2.toNat) (j := 0) ty129 rfl (aL (aT aR)) h17.lt rfl) (aF rfl ?_))))))))))
    refine bdo H1 fun r18 h19 H1 => (aI (bN (c_laws_szTagS (nth v0 Q8.2.toNat) ((X1 Q8.2.toNat).1, (X1 Q8.2.toNat).2.1) Q8.1 h19) rfl (aC (aL (aS (aW aR h17.lt))) aO)) (aH rfl (nl (sr (aF rfl (aG (cP rfl rfl) (nl (cH H1 rfl (fun h20 H1 => ?_) (fun h20 H1 => ?_)))))))))
    ·refine sr (aH (v := .int .i64 (-1)) rfl (nl (bQ (rB (rT (rT (rB (rT (rT (?_))))))))))
     obtain rfl := hb13 _ (sm H1)
     replace H := sw.r H
     obtain rfl := si H
     exact bk
    ·exact bH (nB (nT (aP (aF rfl (gdo H1 fun h21 H1 => (aG (bR rfl rfl h21) (aH rfl (aJ (nLI () (hi12 _ (sm H1)) bK)))))))))
   ·exact dA (xT (xT (xE (nMI () (hb13 _ (sm H1)) bK))))
  ·rintro e22 y10 H
   refine nT (sr (aF rfl (aH rfl (nl ?_))))
   obtain rfl := si H
   exact bQ bk
noncomputable def p_laws_szDisk (v0 : Disk) (v1 : Int) : Option (Int) := bd (p_laws_szFileS v0.1 v1) fun r4 => cond (decide (r4 < 0)) (some (-1)) (bd (p_laws_szIntS v0.2.1 r4) fun r7 => cond (decide (r7 < 0)) (some (-1)) (bd (p_laws_szTagSS v0.2.2.1 r7) fun r10 => cond (decide (r10 < 0)) (some (-1)) (some r10)))
theorem c_laws_szDisk {r : Int} (v0 : Disk) (x_v0 : (Option Addr × Nat) × (Option Addr × Nat) × (Option Addr × Nat) × Unit) (v1 : Int) (H : p_laws_szDisk v0 v1 = some r) : Fn' prog 9 #[.agg #[.slice x_v0.1.1 v0.1.length x_v0.1.2, .slice x_v0.2.1.1 v0.2.1.length x_v0.2.1.2, .slice x_v0.2.2.1.1 v0.2.2.1.length x_v0.2.2.1.2, .int .i64 (v0.2.2.2)], .int .i64 (v1)] [imm (.slice x_v0.1.1 v0.1.length x_v0.1.2) v0.1, imm (.slice x_v0.2.1.1 v0.2.1.length x_v0.2.1.2) v0.2.1, imm (.slice x_v0.2.2.1.1 v0.2.2.1.length x_v0.2.2.1.2) v0.2.2.1] [] (ι := Unit) (fun _ => .int .i64 (r)) (fun _ => []) (fun _ => []) := by
 refine cof (args := [_, _]) func9 ntmps9 fun c => ?_
 unfold p_laws_szDisk at H
 refine bM aR fun X1 => (bM aR.s.s.s fun X2 => (sr (f1 (cC (t := 26) rfl) fun g3 => (aH (v := .int .i64 (0)) rfl (nl (sr (aG (cB fa26_0 rfl rfl) (aI (bI ty22 rfl aB rfl) (aF rfl (bdo H fun r4 h5 H => ?_))))))))))
 refine aI (bN (c_laws_szFileS v0.1 x_v0.1 v1 h5) rfl (aC (aL (aS aR.s)) aO)) (aH rfl (nl (aD (sr (aF rfl (aG (cP rfl rfl) (nl (cH H rfl (fun h6 H => ?_) (fun h6 H => ?_)))))))))
 ·refine sr (aH (v := .int .i64 (-1)) rfl (nl (bQ (rT (?_)))))
  obtain rfl := si H
  exact bk
 ·refine bH (nT (sr (aG (cB fa26_1 rfl rfl) (aI (bI ty23 rfl aB rfl) (aF rfl (bdo H fun r7 h8 H => (aI (bN (c_laws_szIntS v0.2.1 x_v0.2.1 r4 h8) rfl (aC (aL aR.s.s.s) aO)) (aH rfl (nl (aD (sr ?_)))))))))))
  refine aF rfl (aG (cP rfl rfl) (nl (cH H rfl (fun h9 H => ?_) (fun h9 H => ?_))))
  ·refine sr (aH (v := .int .i64 (-1)) rfl (nl (bQ (rT (?_)))))
   obtain rfl := si H
   exact bk
  ·refine bH (nT (sr (aG (cB fa26_2 rfl rfl) (aI (bI ty24 rfl aB rfl) (aF rfl (bdo H fun r10 h11 H => (aI (bN (c_laws_szTagSS v0.2.2.1 x_v0.2.2.1 r7 h11) rfl (aC (aL (aS aR)) aO)) (aH rfl (nl (aD (sr ?_)))))))))))
   refine aF rfl (aG (cP rfl rfl) (nl (cH H rfl (fun h12 H => ?_) (fun h12 H => ?_))))
   ·refine sr (aH (v := .int .i64 (-1)) rfl (nl (bQ (rT (?_)))))
    obtain rfl := si H
    exact bk
   ·refine bH (nT (sr (aF rfl (aH rfl (nl ?_)))))
    obtain rfl := si H
    exact bQ bk
noncomputable def p_laws_toIntS_b0 (v0 : (List Int)) (Q8 : (List Int) × Int) : Option (((List Int) × Int) ⊕ ((List Int))) := cond (decide (Q8.2 < (v0.length : Int))) (gd (ix Q8.2 v0.length) <| gd (ix Q8.2 Q8.1.length) <| gd (I64 (Q8.2 + 1)) <| some (.inl ((Q8.1.set Q8.2.toNat (nth v0 Q8.2.toNat)), Q8.2 + 1))) (some (.inr Q8.1))
noncomputable def p_laws_toIntS (v0 : (List Int)) : Option ((List Int)) := gd (many (v0.length : Int)) <| bd (lp (p_laws_toIntS_b0 v0) ((List.replicate (v0.length : Int).toNat (Zr.z0 : Int)), 0)) fun x4 => some x4
theorem c_laws_toIntS {r : (List Int)} (v0 : (List Int)) (x_v0 : Option Addr × Nat) (H : p_laws_toIntS v0 = some r) : Fn' prog 45 #[.slice x_v0.1 v0.length x_v0.2] [imm (.slice x_v0.1 v0.length x_v0.2) v0] [] (ι := Option Addr × Nat) (fun x => .slice x.1 r.length x.2) (fun _ => []) (fun x => [tree (.slice x.1 r.length x.2) r]) := by
 refine cof (args := [_]) func45 ntmps45 fun c => ?_
 unfold p_laws_toIntS at H
 refine sr (aH (v := .slice none 0 0) rfl (nl (sr (aF rfl (aG (bS 3 dP rfl) (gdo H fun h3 H => (f2 (e_makeR Int dP ty3 rfl rfl rfl h3 (by decide)) fun a1 c2 => (aH rfl (nl (aD (sr (aH (v := .int .i64 (0)) rfl (nl ?_)))))))))))))
 refine bdo H fun x4 hx5 H => (dB (ι := Unit) (fun ψ => [(3, .slice a1 x4.length c2)]) (fun ψ => [tree (.slice a1 x4.length c2) x4]) ?_ ?_)
 ·refine aQ (dE hx5 () (fun Q8 _ => [(0, .slice x_v0.1 v0.length x_v0.2), (3, .slice a1 Q8.1.length c2), (4, .int .i64 (Q8.2))]) (fun Q8 _ => [tree (.slice a1 Q8.1.length c2) Q8.1]) (.cons aA .nil) ?_)
  rintro _ Q8 z9 t11 H1 hi12 hb13
  unfold p_laws_toIntS_b0 at H1
  refine aD (sr (aF rfl (aF rfl (aG (bS 3 dP rfl) (aG (cP rfl rfl) (nl (cH H1 rfl (fun h16 H1 => ?_) (fun h16 H1 => ?_))))))))
  ·refine bH (nT (aD (aQ (aP (aF rfl (aF rfl (aF rfl (aF rfl (gdo H1 fun h17 H1 => (aI (bW dP ty3 rfl rfl h17 rfl (aN (aL aR))) ?_))))))))))
   refine aI (bZ (i := Q8.2.toNat) (j := 0) ty3 rfl (aN (aL aR)) h17.lt rfl) (gdo H1 fun h18 H1 => (aI (bX dP ty3 rfl rfl h18 aB) (g0 (e_setT (l := Q8.1) (α := Int) (oa := a1) Q8.2.toNat (nth v0 Q8.2.toNat) () ty3 rfl rfl rfl h18.lt (cW _) (.cons aA .nil)) (aJ (nB (nT (?_)))))))
   refine cX aB fun hn => ?_; rw [hn]
   exact aP (aF rfl (gdo H1 fun h19 H1 => (aG (bR rfl rfl h19) (aH rfl (aJ (nLI () (hi12 _ (sm H1)) (.cons aA .nil)))))))
  ·refine dA (xT (xT (xE (?_))))
   obtain rfl := hb13 _ (sm H1)
   exact nMC () ⟨rfl, trivial⟩ bT (.cons aA .nil)
 ·intro y10
  show At _ _ [(3, .slice a1 x4.length c2)] _ [tree (.slice a1 x4.length c2) x4] _
  refine nT (sr (aF rfl (aH rfl (nl (bQ ?_)))))
  obtain rfl := si H
  exact back1 (a1, c2) rfl (ResV.tmp (v := .slice a1 x4.length c2) rfl) rfl cM (.cons aA .nil)
noncomputable def p_laws_toRow (v0 : Row) : Option (Row) := some v0
theorem c_laws_toRow {r : Row} (v0 : Row) (H : p_laws_toRow v0 = some r) : Fn' prog 180 #[.agg #[.int .i64 (v0.1), .int .i64 (v0.2)]] [] [] (ι := Unit) (fun _ => .agg #[.int .i64 (r.1), .int .i64 (r.2)]) (fun _ => []) (fun _ => []) := by
 refine cof (args := [_]) func180 ntmps180 fun c => ?_
 unfold p_laws_toRow at H
 refine sr (f1 (cC (t := 166) rfl) fun g1 => (f1 (cD ty135) fun g2 => (nl (sr (f1 (cD ty135) fun g3 => (nl (sr (aG (cB fa166_0 rfl rfl) (aI (bI ty3 rfl hs2 rfl) ?_)))))))))
 refine aG (cB fa135_0 rfl rfl) (stb (cs' := [.int .i64 (v0.1), .int .i64 (0)]) ty3 cZ (nl (sr (aG (cB fa166_1 rfl rfl) (aI (bI ty3 rfl hs2 rfl) (aG (cB fa135_1 rfl rfl) (stb (cs' := [.int .i64 (v0.1), .int .i64 (v0.2)]) ty3 cZ (nl (sr ?_)))))))))
 refine aI (bJ ty135 rfl aB rfl) (stb (cs' := [.int .i64 (v0.1), .int .i64 (v0.2)]) ty135 up1 (nl (bQ ?_)))
 obtain rfl := si H
 exact back1 () rfl (ResV.agg ty135 rfl hs1 rfl) rfl cM bK
noncomputable def p_laws_toRowS_b0 (v0 : (List Row)) (Q8 : (List Row) × Int) : Option (((List Row) × Int) ⊕ ((List Row))) := cond (decide (Q8.2 < (v0.length : Int))) (gd (ix Q8.2 v0.length) <| bd (p_laws_toRow (nth v0 Q8.2.toNat)) fun r18 => gd (ix Q8.2 Q8.1.length) <| gd (I64 (Q8.2 + 1)) <| some (.inl ((Q8.1.set Q8.2.toNat r18), Q8.2 + 1))) (some (.inr Q8.1))
noncomputable def p_laws_toRowS (v0 : (List Row)) : Option ((List Row)) := gd (many (v0.length : Int)) <| bd (lp (p_laws_toRowS_b0 v0) ((List.replicate (v0.length : Int).toNat (Zr.z0 : Row)), 0)) fun x4 => some x4
theorem c_laws_toRowS {r : (List Row)} (v0 : (List Row)) (x_v0 : Option Addr × Nat) (H : p_laws_toRowS v0 = some r) : Fn' prog 195 #[.slice x_v0.1 v0.length x_v0.2] [imm (.slice x_v0.1 v0.length x_v0.2) v0] [] (ι := Option Addr × Nat) (fun x => .slice x.1 r.length x.2) (fun _ => []) (fun x => [tree (.slice x.1 r.length x.2) r]) := by
 refine cof (args := [_]) func195 ntmps195 fun c => ?_
 unfold p_laws_toRowS at H
 refine sr (aH (v := .slice none 0 0) rfl (nl (sr (aF rfl (aG (bS 166 dO rfl) (gdo H fun h3 H => (f2 (e_makeR Row dL ty135 rfl rfl rfl h3 (by decide)) fun a1 c2 => (aH rfl (nl (aD (sr (aH (v := .int .i64 (0)) rfl (nl ?_)))))))))))))
 refine bdo H fun x4 hx5 H => (dB (ι := Unit) (fun ψ => [(3, .slice a1 x4.length c2)]) (fun ψ => [tree (.slice a1 x4.length c2) x4]) ?_ ?_)
 ·refine aQ (dE hx5 () (fun Q8 _ => [(0, .slice x_v0.1 v0.length x_v0.2), (3, .slice a1 Q8.1.length c2), (4, .int .i64 (Q8.2))]) (fun Q8 _ => [tree (.slice a1 Q8.1.length c2) Q8.1]) (.cons aA .nil) ?_)
  rintro _ Q8 z9 t11 H1 hi12 hb13
  unfold p_laws_toRowS_b0 at H1
  refine aD (sr (aF rfl (aF rfl (aG (bS 166 dO rfl) (aG (cP rfl rfl) (nl (cH H1 rfl (fun h16 H1 => ?_) (fun h16 H1 => ?_))))))))
  ·refine bH (nT (aD (aQ (aP (aF rfl (aF rfl (aF rfl (aF rfl (gdo H1 fun h17 H1 => (aI (bW dO ty166 rfl rfl h17 rfl (aN (aL aR))) ?_))))))))))
   refine aI (v := .agg #[.int .i64 ((nth v0 Q8.2.toNat).1), .int .i64 ((nth v0 Q8.2.toNat).2)]) (cA (i := Q8.2.toNat) ty166 rfl (aN (aL aR)) h17.lt) (bdo H1 fun r18 h19 H1 => (aI (bN (c_laws_toRow (nth v0 Q8.2.toNat) h19) rfl aO) (gdo H1 fun h20 H1 => (aI (bX dL ty135 rfl rfl h20 aB) (g0 (e_setT (l := Q8.1) (α := Row) (oa := a1) Q8.2.toNat r18 ((), ()) ty135 rfl rfl rfl h20.lt (cW _) (.cons aA .nil)) (aJ (nB (nT (?_)))))))))
   refine cX aB fun hn => ?_; rw [hn]
   exact aP (aF rfl (gdo H1 fun h21 H1 => (aG (bR rfl rfl h21) (aH rfl (aJ (nLI () (hi12 _ (sm H1)) (.cons aA .nil)))))))
  ·refine dA (xT (xT (xE (?_))))
   obtain rfl := hb13 _ (sm H1)
   exact nMC () ⟨rfl, trivial⟩ bT (.cons aA .nil)
 ·intro y10
  show At _ _ [(3, .slice a1 x4.length c2)] _ [tree (.slice a1 x4.length c2) x4] _
  refine nT (sr (aF rfl (aH rfl (nl (bQ ?_)))))
  obtain rfl := si H
  exact back1 (a1, c2) rfl (ResV.tmp (v := .slice a1 x4.length c2) rfl) rfl cM (.cons aA .nil)
noncomputable def p_laws_toRowSS_b0 (v0 : (List (List Row))) (Q9 : (List (List Row)) × Int) : Option (((List (List Row)) × Int) ⊕ ((List (List Row)))) := cond (decide (Q9.2 < (v0.length : Int))) (gd (ix Q9.2 v0.length) <| bd (p_laws_toRowS (nth v0 Q9.2.toNat)) fun r19 => gd (ix Q9.2 Q9.1.length) <| gd (I64 (Q9.2 + 1)) <| some (.inl ((Q9.1.set Q9.2.toNat r19), Q9.2 + 1))) (some (.inr Q9.1))
noncomputable def p_laws_toRowSS (v0 : (List (List Row))) : Option ((List (List Row))) := gd (many (v0.length : Int)) <| bd (lp (p_laws_toRowSS_b0 v0) ((List.replicate (v0.length : Int).toNat (Zr.z0 : (List Row))), 0)) fun x5 => some x5
theorem c_laws_toRowSS {r : (List (List Row))} (v0 : (List (List Row))) (x_v0 : Option Addr × Nat) (H : p_laws_toRowSS v0 = some r) : Fn' prog 179 #[.slice x_v0.1 v0.length x_v0.2] [imm (.slice x_v0.1 v0.length x_v0.2) v0] [] (ι := Option Addr × Nat) (fun x => .slice x.1 r.length x.2) (fun _ => []) (fun x => [tree (.slice x.1 r.length x.2) r]) := by
 refine cof (args := [_]) func179 ntmps179 fun c => ?_
 unfold p_laws_toRowSS at H
 refine bM aR fun X1 => (sr (aH (v := .slice none 0 0) rfl (nl (sr (aF rfl (aG (bS 222 dJ rfl) (gdo H fun h4 H => (f2 (e_makeR (List Row) dY ty130 rfl rfl rfl h4 (by decide)) fun a2 c3 => (aH rfl (nl (aD (sr ?_))))))))))))
 refine aH (v := .int .i64 (0)) rfl (nl (bdo H fun x5 hx6 H => (dB (ι := Unit) (fun ψ => [(3, .slice a2 x5.length c3)]) (fun ψ => [tree (.slice a2 x5.length c3) x5]) ?_ ?_)))
 ·refine aQ (dE hx6 () (fun Q9 _ => [(0, .slice x_v0.1 v0.length x_v0.2), (3, .slice a2 Q9.1.length c3), (4, .int .i64 (Q9.2))]) (fun Q9 _ => [tree (.slice a2 Q9.1.length c3) Q9.1]) (.cons aA .nil) ?_)
  rintro _ Q9 z10 t12 H1 hi13 hb14
  unfold p_laws_toRowSS_b0 at H1
  refine aD (sr (aF rfl (aF rfl (aG (bS 222 dJ rfl) (aG (cP rfl rfl) (nl (cH H1 rfl (fun h17 H1 => ?_) (fun h17 H1 => ?_))))))))
  ·refine bH (nT (aD (aQ (aP (aF rfl (aF rfl (aF rfl (aF rfl (gdo H1 fun h18 H1 => (aI (bW dJ ty222 rfl rfl h18 rfl (aL (aT aR))) ?_))))))))))
   refine aI (bZ (i := Q9.2.toNat) (j := 0) ty222 rfl (aL (aT aR)) h18.lt rfl) (bdo H1 fun r19 h20 H1 => (f1 (cF (c_laws_toRowS (nth v0 Q9.2.toNat) ((X1 Q9.2.toNat).1, (X1 Q9.2.toNat).2.1) h20) (fun _ => (bF bG)) rfl (aC (aL (aS (aW aR h18.lt))) aO)) fun x21 => (gdo H1 fun h22 H1 => (aI (bX dY ty130 rfl rfl h22 hs1) (g0 (e_setT (l := Q9.1) (α := (List Row)) (oa := a2) Q9.2.toNat r19 x21 ty130 rfl rfl rfl h22.lt (cW _) (.cons dl1 (.cons aA .nil))) (aJ (nB (nT (?_)))))))))
   refine cX aB fun hn => ?_; rw [hn]
   exact aP (aF rfl (gdo H1 fun h23 H1 => (aG (bR rfl rfl h23) (aH rfl (aJ (nLI () (hi13 _ (sm H1)) (.cons aA .nil)))))))
  ·refine dA (xT (xT (xE (?_))))
   obtain rfl := hb14 _ (sm H1)
   exact nMC () ⟨rfl, trivial⟩ bT (.cons aA .nil)
 ·intro y11
  show At _ _ [(3, .slice a2 x5.length c3)] _ [tree (.slice a2 x5.length c3) x5] _
  refine nT (sr (aF rfl (aH rfl (nl (bQ ?_)))))
  obtain rfl := si H
  exact back1 (a2, c3) rfl (ResV.tmp (v := .slice a2 x5.length c3) rfl) rfl cM (.cons aA .nil)
noncomputable def p_laws_toPart (v0 : Part) : Option (Part) := bd (p_laws_toIntS v0.1) fun r5 => bd (p_laws_toRowSS v0.2) fun r8 => some (r5, r8)
theorem c_laws_toPart {r : Part} (v0 : Part) (x_v0 : (Option Addr × Nat) × (Option Addr × Nat)) (H : p_laws_toPart v0 = some r) : Fn' prog 137 #[.agg #[.slice x_v0.1.1 v0.1.length x_v0.1.2, .slice x_v0.2.1 v0.2.length x_v0.2.2]] [imm (.slice x_v0.1.1 v0.1.length x_v0.1.2) v0.1, imm (.slice x_v0.2.1 v0.2.length x_v0.2.2) v0.2] [] (ι := (Option Addr × Nat) × (Option Addr × Nat)) (fun x => .agg #[.slice x.1.1 r.1.length x.1.2, .slice x.2.1 r.2.length x.2.2]) (fun _ => []) (fun x => [tree (.slice x.1.1 r.1.length x.1.2) r.1, tree (.slice x.2.1 r.2.length x.2.2) r.2]) := by
 refine cof (args := [_]) func137 ntmps137 fun c => ?_
 unfold p_laws_toPart at H
 refine bM aR.s fun X1 => (sr (f1 (cC (t := 120) rfl) fun g2 => (f1 (cD ty75) fun g3 => (nl (sr (f1 (cD ty75) fun g4 => (nl (sr (aG (cB fa120_0 rfl rfl) ?_)))))))))
 refine aI (bI ty23 rfl hs2 rfl) (bdo H fun r5 h6 H => (f1 (cF (c_laws_toIntS v0.1 x_v0.1 h6) (fun _ => (bF bG)) rfl (aC (aL aR.s) aO)) fun x7 => (aG (cB fa75_0 rfl rfl) (stb (cs' := [.slice x7.1 r5.length x7.2, .slice none 0 0]) ty23 up1 (nl (sr (aG (cB fa120_1 rfl rfl) (aI (bI ty118 rfl hs3 rfl) (bdo H fun r8 h9 H => ?_)))))))))
 refine f1 (cF (c_laws_toRowSS v0.2 x_v0.2 h9) (fun _ => (bF bG)) rfl (aC (aL (aS aR)) aO)) fun x10 => (aG (cB fa75_1 rfl rfl) (stb (cs' := [.slice x7.1 r5.length x7.2, .slice x10.1 r8.length x10.2]) ty73 up2 (nl (sr (aI (bJ ty75 rfl hs2 rfl) (stb (cs' := [.slice x7.1 r5.length x7.2, .slice x10.1 r8.length x10.2]) ty75 up3 (nl (bQ ?_))))))))
 obtain rfl := si H
 exact back1 (x7, x10) rfl (ResV.agg ty75 rfl hs3 rfl) rfl cM (.cons dl1 (.cons aA .nil))
noncomputable def p_laws_toFile (v0 : File) : Option (File) := bd (p_laws_toPart v0.2) fun r5 => some (v0.1, r5)
theorem c_laws_toFile {r : File} (v0 : File) (x_v0 : Unit × ((Option Addr × Nat) × (Option Addr × Nat))) (H : p_laws_toFile v0 = some r) : Fn' prog 106 #[.agg #[.int .i64 (v0.1), .slice x_v0.2.1.1 v0.2.1.length x_v0.2.1.2, .slice x_v0.2.2.1 v0.2.2.length x_v0.2.2.2]] [imm (.slice x_v0.2.1.1 v0.2.1.length x_v0.2.1.2) v0.2.1, imm (.slice x_v0.2.2.1 v0.2.2.length x_v0.2.2.2) v0.2.2] [] (ι := Unit × ((Option Addr × Nat) × (Option Addr × Nat))) (fun x => .agg #[.int .i64 (r.1), .slice x.2.1.1 r.2.1.length x.2.1.2, .slice x.2.2.1 r.2.2.length x.2.2.2]) (fun _ => []) (fun x => [tree (.slice x.2.1.1 r.2.1.length x.2.1.2) r.2.1, tree (.slice x.2.2.1 r.2.2.length x.2.2.2) r.2.2]) := by
 refine cof (args := [_]) func106 ntmps106 fun c => ?_
 unfold p_laws_toFile at H
 refine bM aR.s fun X1 => (sr (f1 (cC (t := 127) rfl) fun g2 => (f1 (cD ty77) fun g3 => (nl (sr (f1 (cD ty77) fun g4 => (nl (sr (aG (cB fa127_0 rfl rfl) ?_)))))))))
 refine aI (bI ty3 rfl hs2 rfl) (aG (cB fa77_0 rfl rfl) (stb (cs' := [.int .i64 (v0.1), .slice none 0 0, .slice none 0 0]) ty3 cZ (nl (sr (aG (cB fa127_1 rfl rfl) (aI (v := .agg #[.slice x_v0.2.1.1 v0.2.1.length x_v0.2.1.2, .slice x_v0.2.2.1 v0.2.2.length x_v0.2.2.2]) (q_ldbP [.slice x_v0.2.1.1 v0.2.1.length x_v0.2.1.2, .slice x_v0.2.2.1 v0.2.2.length x_v0.2.2.2] ty120 rfl hs2 rfl rfl) (bdo H fun r5 h6 H => (f1 (cF (c_laws_toPart v0.2 x_v0.2 h6) (fun _ => (bF (bF bG))) rfl (aC (aL aR.s) (aC (aL (aS aR)) aO))) fun x7 => (aG (cB fa77_1 rfl rfl) ?_)))))))))
 refine stb (cs' := [.int .i64 (v0.1), .slice x7.1.1 r5.1.length x7.1.2, .slice x7.2.1 r5.2.length x7.2.2]) ty75 up2 (nl (sr (aI (bJ ty77 rfl hs2 rfl) (stb (cs' := [.int .i64 (v0.1), .slice x7.1.1 r5.1.length x7.1.2, .slice x7.2.1 r5.2.length x7.2.2]) ty77 up3 (nl (bQ ?_))))))
 obtain rfl := si H
 exact back1 ((), x7) rfl (ResV.agg ty77 rfl hs3 rfl) rfl cM (.cons aA (.cons aA .nil))
noncomputable def p_laws_toFileS_b0 (v0 : (List File)) (Q9 : (List File) × Int) : Option (((List File) × Int) ⊕ ((List File))) := cond (decide (Q9.2 < (v0.length : Int))) (gd (ix Q9.2 v0.length) <| bd (p_laws_toFile (nth v0 Q9.2.toNat)) fun r19 => gd (ix Q9.2 Q9.1.length) <| gd (I64 (Q9.2 + 1)) <| some (.inl ((Q9.1.set Q9.2.toNat r19), Q9.2 + 1))) (some (.inr Q9.1))
noncomputable def p_laws_toFileS (v0 : (List File)) : Option ((List File)) := gd (many (v0.length : Int)) <| bd (lp (p_laws_toFileS_b0 v0) ((List.replicate (v0.length : Int).toNat (Zr.z0 : File)), 0)) fun x5 => some x5
theorem c_laws_toFileS {r : (List File)} (v0 : (List File)) (x_v0 : Option Addr × Nat) (H : p_laws_toFileS v0 = some r) : Fn' prog 44 #[.slice x_v0.1 v0.length x_v0.2] [imm (.slice x_v0.1 v0.length x_v0.2) v0] [] (ι := Option Addr × Nat) (fun x => .slice x.1 r.length x.2) (fun _ => []) (fun x => [tree (.slice x.1 r.length x.2) r]) := by
 refine cof (args := [_]) func44 ntmps44 fun c => ?_
 unfold p_laws_toFileS at H
 refine bM aR fun X1 => (sr (aH (v := .slice none 0 0) rfl (nl (sr (aF rfl (aG (bS 127 dN rfl) (gdo H fun h4 H => (f2 (e_makeR File dR ty77 rfl rfl rfl h4 (by decide)) fun a2 c3 => (aH rfl (nl (aD (sr ?_))))))))))))
 refine aH (v := .int .i64 (0)) rfl (nl (bdo H fun x5 hx6 H => (dB (ι := Unit) (fun ψ => [(3, .slice a2 x5.length c3)]) (fun ψ => [tree (.slice a2 x5.length c3) x5]) ?_ ?_)))
 ·refine aQ (dE hx6 () (fun Q9 _ => [(0, .slice x_v0.1 v0.length x_v0.2), (3, .slice a2 Q9.1.length c3), (4, .int .i64 (Q9.2))]) (fun Q9 _ => [tree (.slice a2 Q9.1.length c3) Q9.1]) (.cons aA .nil) ?_)
  rintro _ Q9 z10 t12 H1 hi13 hb14
  unfold p_laws_toFileS_b0 at H1
  refine aD (sr (aF rfl (aF rfl (aG (bS 127 dN rfl) (aG (cP rfl rfl) (nl (cH H1 rfl (fun h17 H1 => ?_) (fun h17 H1 => ?_))))))))
  ·refine bH (nT (aD (aQ (aP (aF rfl (aF rfl (aF rfl (aF rfl (gdo H1 fun h18 H1 => (aI (bW dN ty127 rfl rfl h18 rfl (aL (aT aR))) ?_))))))))))
   refine aI (v := .agg #[.int .i64 ((nth v0 Q9.2.toNat).1), .slice ((((X1 Q9.2.toNat).2).1).1) ((((nth v0 Q9.2.toNat).2).1).length) ((((X1 Q9.2.toNat).2).1).2.1), .slice ((((X1 Q9.2.toNat).2).2).1) ((((nth v0 Q9.2.toNat).2).2).length) ((((X1 Q9.2.toNat).2).2).2.1)]) (cA (i := Q9.2.toNat) ty127 rfl (aL (aT aR)) h18.lt) (bdo H1 fun r19 h20 H1 => (f1 (cF (c_laws_toFile (nth v0 Q9.2.toNat) ((), (((((X1 Q9.2.toNat).2).1).1, (((X1 Q9.2.toNat).2).1).2.1), ((((X1 Q9.2.toNat).2).2).1, (((X1 Q9.2.toNat).2).2).2.1))) h20) (fun _ => (bF (bF bG))) rfl (aC (aL (aS (aV (aU (aW aR h18.lt))))) (aC (aL (aS (aU (aU (aW aR h18.lt))))) aO))) fun x21 => (gdo H1 fun h22 H1 => (aI (bX dR ty77 rfl rfl h22 hs2) (g0 (e_setT (l := Q9.1) (α := File) (oa := a2) Q9.2.toNat r19 ((), x21.2) ty77 rfl rfl rfl h22.lt (cW _) (.cons dl2 (.cons aA (.cons aA .nil)))) (aJ (nB (nT (?_)))))))))
   refine cX aB fun hn => ?_; rw [hn]
   exact aP (aF rfl (gdo H1 fun h23 H1 => (aG (bR rfl rfl h23) (aH rfl (aJ (nLI () (hi13 _ (sm H1)) (.cons aA .nil)))))))
  ·refine dA (xT (xT (xE (?_))))
   obtain rfl := hb14 _ (sm H1)
   exact nMC () ⟨rfl, trivial⟩ bT (.cons aA .nil)
 ·intro y11
  show At _ _ [(3, .slice a2 x5.length c3)] _ [tree (.slice a2 x5.length c3) x5] _
  refine nT (sr (aF rfl (aH rfl (nl (bQ ?_)))))
  obtain rfl := si H
  exact back1 (a2, c3) rfl (ResV.tmp (v := .slice a2 x5.length c3) rfl) rfl cM (.cons aA .nil)
noncomputable def p_laws_toTag (v0 : Tag) : Option (Tag) := some v0
theorem c_laws_toTag {r : Tag} (v0 : Tag) (H : p_laws_toTag v0 = some r) : Fn' prog 156 #[.agg #[.string (v0.1), .string (v0.2)]] [] [] (ι := Unit) (fun _ => .agg #[.string (r.1), .string (r.2)]) (fun _ => []) (fun _ => []) := by
 refine cof (args := [_]) func156 ntmps156 fun c => ?_
 unfold p_laws_toTag at H
 refine sr (f1 (cC (t := 180) rfl) fun g1 => (f1 (cD ty172) fun g2 => (nl (sr (f1 (cD ty172) fun g3 => (nl (sr (aG (cB fa180_0 rfl rfl) (aI (bI ty9 rfl hs2 rfl) ?_)))))))))
 refine aG (cB fa172_0 rfl rfl) (stb (cs' := [.string (v0.1), .string (⟨#[]⟩)]) ty9 cZ (nl (sr (aG (cB fa180_1 rfl rfl) (aI (bI ty9 rfl hs2 rfl) (aG (cB fa172_1 rfl rfl) (stb (cs' := [.string (v0.1), .string (v0.2)]) ty9 cZ (nl (sr ?_)))))))))
 refine aI (bJ ty172 rfl aB rfl) (stb (cs' := [.string (v0.1), .string (v0.2)]) ty172 up1 (nl (bQ ?_)))
 obtain rfl := si H
 exact back1 () rfl (ResV.agg ty172 rfl hs1 rfl) rfl cM bK
noncomputable def p_laws_toTagS_b0 (v0 : (List Tag)) (Q8 : (List Tag) × Int) : Option (((List Tag) × Int) ⊕ ((List Tag))) := cond (decide (Q8.2 < (v0.length : Int))) (gd (ix Q8.2 v0.length) <| bd (p_laws_toTag (nth v0 Q8.2.toNat)) fun r18 => gd (ix Q8.2 Q8.1.length) <| gd (I64 (Q8.2 + 1)) <| some (.inl ((Q8.1.set Q8.2.toNat r18), Q8.2 + 1))) (some (.inr Q8.1))
noncomputable def p_laws_toTagS (v0 : (List Tag)) : Option ((List Tag)) := gd (many (v0.length : Int)) <| bd (lp (p_laws_toTagS_b0 v0) ((List.replicate (v0.length : Int).toNat (Zr.z0 : Tag)), 0)) fun x4 => some x4
theorem c_laws_toTagS {r : (List Tag)} (v0 : (List Tag)) (x_v0 : Option Addr × Nat) (H : p_laws_toTagS v0 = some r) : Fn' prog 107 #[.slice x_v0.1 v0.length x_v0.2] [imm (.slice x_v0.1 v0.length x_v0.2) v0] [] (ι := Option Addr × Nat) (fun x => .slice x.1 r.length x.2) (fun _ => []) (fun x => [tree (.slice x.1 r.length x.2) r]) := by
 refine cof (args := [_]) func107 ntmps107 fun c => ?_
 unfold p_laws_toTagS at H
 refine sr (aH (v := .slice none 0 0) rfl (nl (sr (aF rfl (aG (bS 180 dK rfl) (gdo H fun h3 H => (f2 (e_makeR Tag dM ty172 rfl rfl rfl h3 (by decide)) fun a1 c2 => (aH rfl (nl (aD (sr (aH (v := .int .i64 (0)) rfl (nl ?_)))))))))))))
 refine bdo H fun x4 hx5 H => (dB (ι := Unit) (fun ψ => [(3, .slice a1 x4.length c2)]) (fun ψ => [tree (.slice a1 x4.length c2) x4]) ?_ ?_)
 ·refine aQ (dE hx5 () (fun Q8 _ => [(0, .slice x_v0.1 v0.length x_v0.2), (3, .slice a1 Q8.1.length c2), (4, .int .i64 (Q8.2))]) (fun Q8 _ => [tree (.slice a1 Q8.1.length c2) Q8.1]) (.cons aA .nil) ?_)
  rintro _ Q8 z9 t11 H1 hi12 hb13
  unfold p_laws_toTagS_b0 at H1
  refine aD (sr (aF rfl (aF rfl (aG (bS 180 dK rfl) (aG (cP rfl rfl) (nl (cH H1 rfl (fun h16 H1 => ?_) (fun h16 H1 => ?_))))))))
  ·refine bH (nT (aD (aQ (aP (aF rfl (aF rfl (aF rfl (aF rfl (gdo H1 fun h17 H1 => (aI (bW dK ty180 rfl rfl h17 rfl (aN (aL aR))) ?_))))))))))
   refine aI (v := .agg #[.string ((nth v0 Q8.2.toNat).1), .string ((nth v0 Q8.2.toNat).2)]) (cA (i := Q8.2.toNat) ty180 rfl (aN (aL aR)) h17.lt) (bdo H1 fun r18 h19 H1 => (aI (bN (c_laws_toTag (nth v0 Q8.2.toNat) h19) rfl aO) (gdo H1 fun h20 H1 => (aI (bX dM ty172 rfl rfl h20 aB) (g0 (e_setT (l := Q8.1) (α := Tag) (oa := a1) Q8.2.toNat r18 ((), ()) ty172 rfl rfl rfl h20.lt (cW _) (.cons aA .nil)) (aJ (nB (nT (?_)))))))))
   refine cX aB fun hn => ?_; rw [hn]
   exact aP (aF rfl (gdo H1 fun h21 H1 => (aG (bR rfl rfl h21) (aH rfl (aJ (nLI () (hi12 _ (sm H1)) (.cons aA .nil)))))))
  ·refine dA (xT (xT (xE (?_))))
   obtain rfl := hb13 _ (sm H1)
   exact nMC () ⟨rfl, trivial⟩ bT (.cons aA .nil)
 ·intro y10
  show At _ _ [(3, .slice a1 x4.length c2)] _ [tree (.slice a1 x4.length c2) x4] _
  refine nT (sr (aF rfl (aH rfl (nl (bQ ?_)))))
  obtain rfl := si H
  exact back1 (a1, c2) rfl (ResV.tmp (v := .slice a1 x4.length c2) rfl) rfl cM (.cons aA .nil)
noncomputable def p_laws_toTagSS_b0 (v0 : (List (List Tag))) (Q9 : (List (List Tag)) × Int) : Option (((List (List Tag)) × Int) ⊕ ((List (List Tag)))) := cond (decide (Q9.2 < (v0.length : Int))) (gd (ix Q9.2 v0.length) <| bd (p_laws_toTagS (nth v0 Q9.2.toNat)) fun r19 => gd (ix Q9.2 Q9.1.length) <| gd (I64 (Q9.2 + 1)) <| some (.inl ((Q9.1.set Q9.2.toNat r19), Q9.2 + 1))) (some (.inr Q9.1))
noncomputable def p_laws_toTagSS (v0 : (List (List Tag))) : Option ((List (List Tag))) := gd (many (v0.length : Int)) <| bd (lp (p_laws_toTagSS_b0 v0) ((List.replicate (v0.length : Int).toNat (Zr.z0 : (List Tag))), 0)) fun x5 => some x5
theorem c_laws_toTagSS {r : (List (List Tag))} (v0 : (List (List Tag))) (x_v0 : Option Addr × Nat) (H : p_laws_toTagSS v0 = some r) : Fn' prog 46 #[.slice x_v0.1 v0.length x_v0.2] [imm (.slice x_v0.1 v0.length x_v0.2) v0] [] (ι := Option Addr × Nat) (fun x => .slice x.1 r.length x.2) (fun _ => []) (fun x => [tree (.slice x.1 r.length x.2) r]) := by
 refine cof (args := [_]) func46 ntmps46 fun c => ?_
 unfold p_laws_toTagSS at H
 refine bM aR fun X1 => (sr (aH (v := .slice none 0 0) rfl (nl (sr (aF rfl (aG (bS 129 dQ rfl) (gdo H fun h4 H => (f2 (e_makeR (List Tag) dS ty142 rfl rfl rfl h4 (by decide)) fun a2 c3 => (aH rfl (nl (aD (sr ?_))))))))))))
 refine aH (v := .int .i64 (0)) rfl (nl (bdo H fun x5 hx6 H => (dB (ι := Unit) (fun ψ => [(3, .slice a2 x5.length c3)]) (fun ψ => [tree (.slice a2 x5.length c3) x5]) ?_ ?_)))
 ·refine aQ (dE hx6 () (fun Q9 _ => [(0, .slice x_v0.1 v0.length x_v0.2), (3, .slice a2 Q9.1.length c3), (4, .int .i64 (Q9.2))]) (fun Q9 _ => [tree (.slice a2 Q9.1.length c3) Q9.1]) (.cons aA .nil) ?_)
  rintro _ Q9 z10 t12 H1 hi13 hb14
  unfold p_laws_toTagSS_b0 at H1
  refine aD (sr (aF rfl (aF rfl (aG (bS 129 dQ rfl) (aG (cP rfl rfl) (nl (cH H1 rfl (fun h17 H1 => ?_) (fun h17 H1 => ?_))))))))
  ·refine bH (nT (aD (aQ (aP (aF rfl (aF rfl (aF rfl (aF rfl (gdo H1 fun h18 H1 => (aI (bW dQ ty129 rfl rfl h18 rfl (aL (aT aR))) ?_))))))))))
   refine aI (bZ (i := Q9.2.toNat) (j := 0) ty129 rfl (aL (aT aR)) h18.lt rfl) (bdo H1 fun r19 h20 H1 => (f1 (cF (c_laws_toTagS (nth v0 Q9.2.toNat) ((X1 Q9.2.toNat).1, (X1 Q9.2.toNat).2.1) h20) (fun _ => (bF bG)) rfl (aC (aL (aS (aW aR h18.lt))) aO)) fun x21 => (gdo H1 fun h22 H1 => (aI (bX dS ty142 rfl rfl h22 hs1) (g0 (e_setT (l := Q9.1) (α := (List Tag)) (oa := a2) Q9.2.toNat r19 x21 ty142 rfl rfl rfl h22.lt (cW _) (.cons dl1 (.cons aA .nil))) (aJ (nB (nT (?_)))))))))
   refine cX aB fun hn => ?_; rw [hn]
   exact aP (aF rfl (gdo H1 fun h23 H1 => (aG (bR rfl rfl h23) (aH rfl (aJ (nLI () (hi13 _ (sm H1)) (.cons aA .nil)))))))
  ·refine dA (xT (xT (xE (?_))))
   obtain rfl := hb14 _ (sm H1)
   exact nMC () ⟨rfl, trivial⟩ bT (.cons aA .nil)
 ·intro y11
  show At _ _ [(3, .slice a2 x5.length c3)] _ [tree (.slice a2 x5.length c3) x5] _
  refine nT (sr (aF rfl (aH rfl (nl (bQ ?_)))))
  obtain rfl := si H
  exact back1 (a2, c3) rfl (ResV.tmp (v := .slice a2 x5.length c3) rfl) rfl cM (.cons aA .nil)
noncomputable def p_laws_toDisk (v0 : Disk) : Option (Disk) := bd (p_laws_toFileS v0.1) fun r6 => bd (p_laws_toIntS v0.2.1) fun r9 => bd (p_laws_toTagSS v0.2.2.1) fun r12 => some (r6, r9, r12, v0.2.2.2)
theorem c_laws_toDisk {r : Disk} (v0 : Disk) (x_v0 : (Option Addr × Nat) × (Option Addr × Nat) × (Option Addr × Nat) × Unit) (H : p_laws_toDisk v0 = some r) : Fn' prog 11 #[.agg #[.slice x_v0.1.1 v0.1.length x_v0.1.2, .slice x_v0.2.1.1 v0.2.1.length x_v0.2.1.2, .slice x_v0.2.2.1.1 v0.2.2.1.length x_v0.2.2.1.2, .int .i64 (v0.2.2.2)]] [imm (.slice x_v0.1.1 v0.1.length x_v0.1.2) v0.1, imm (.slice x_v0.2.1.1 v0.2.1.length x_v0.2.1.2) v0.2.1, imm (.slice x_v0.2.2.1.1 v0.2.2.1.length x_v0.2.2.1.2) v0.2.2.1] [] (ι := (Option Addr × Nat) × (Option Addr × Nat) × (Option Addr × Nat) × Unit) (fun x => .agg #[.slice x.1.1 r.1.length x.1.2, .slice x.2.1.1 r.2.1.length x.2.1.2, .slice x.2.2.1.1 r.2.2.1.length x.2.2.1.2, .int .i64 (r.2.2.2)]) (fun _ => []) (fun x => [tree (.slice x.1.1 r.1.length x.1.2) r.1, tree (.slice x.2.1.1 r.2.1.length x.2.1.2) r.2.1, tree (.slice x.2.2.1.1 r.2.2.1.length x.2.2.1.2) r.2.2.1]) := by
 refine cof (args := [_]) func11 ntmps11 fun c => ?_
 unfold p_laws_toDisk at H
 refine bM aR fun X1 => (bM aR.s.s.s fun X2 => (sr (f1 (cC (t := 26) rfl) fun g3 => (f1 (cD ty32) fun g4 => (nl (sr (f1 (cD ty32) fun g5 => (nl (sr ?_)))))))))
 refine aG (cB fa26_0 rfl rfl) (aI (bI ty22 rfl hs2 rfl) (bdo H fun r6 h7 H => (f1 (cF (c_laws_toFileS v0.1 x_v0.1 h7) (fun _ => (bF bG)) rfl (aC (aL (aS aR.s)) aO)) fun x8 => (aG (cB fa32_0 rfl rfl) (stb (cs' := [.slice x8.1 r6.length x8.2, .slice none 0 0, .slice none 0 0, .int .i64 (0)]) ty29 up1 (nl (sr (aG (cB fa26_1 rfl rfl) (aI (bI ty23 rfl hs3 rfl) ?_)))))))))
 refine bdo H fun r9 h10 H => (f1 (cF (c_laws_toIntS v0.2.1 x_v0.2.1 h10) (fun _ => (bF bG)) rfl (aC (aL aR.s.s.s) aO)) fun x11 => (aG (cB fa32_1 rfl rfl) (stb (cs' := [.slice x8.1 r6.length x8.2, .slice x11.1 r9.length x11.2, .slice none 0 0, .int .i64 (0)]) ty23 up2 (nl (sr (aG (cB fa26_2 rfl rfl) (aI (bI ty24 rfl hs4 rfl) (bdo H fun r12 h13 H => (f1 (cF (c_laws_toTagSS v0.2.2.1 x_v0.2.2.1 h13) (fun _ => (bF bG)) rfl (aC (aL (aS aR)) aO)) fun x14 => ?_)))))))))
 refine aG (cB fa32_2 rfl rfl) (stb (cs' := [.slice x8.1 r6.length x8.2, .slice x11.1 r9.length x11.2, .slice x14.1 r12.length x14.2, .int .i64 (0)]) ty30 up3 (nl (sr (aG (cB fa26_3 rfl rfl) (aI (bI ty3 rfl hs5 rfl) (aG (cB fa32_3 rfl rfl) (stb (cs' := [.slice x8.1 r6.length x8.2, .slice x11.1 r9.length x11.2, .slice x14.1 r12.length x14.2, .int .i64 (v0.2.2.2)]) ty3 up3 (nl (sr ?_)))))))))
 refine aI (bJ ty32 rfl hs3 rfl) (stb (cs' := [.slice x8.1 r6.length x8.2, .slice x11.1 r9.length x11.2, .slice x14.1 r12.length x14.2, .int .i64 (v0.2.2.2)]) ty32 up4 (nl (bQ ?_)))
 obtain rfl := si H
 exact back1 (x8, x11, x14, ()) rfl (ResV.agg ty32 rfl hs4 rfl) rfl cM (.cons dl2 (.cons dl1 (.cons aA .nil)))
noncomputable def p_spec_l6In (v0 : Int) (v1 : Int) (v2 : Int) : Option (Bool) := bd (cond (decide (v1 ≤ v0)) (some (decide (v0 ≤ v2))) (some (false))) fun b1 => some b1
theorem c_spec_l6In {r : Bool} (v0 : Int) (v1 : Int) (v2 : Int) (H : p_spec_l6In v0 v1 v2 = some r) : Fn' prog 39 #[.int .i64 (v0), .int .i64 (v1), .int .i64 (v2)] [] [] (ι := Unit) (fun _ => .bool (r)) (fun _ => []) (fun _ => []) := by
 refine cof (args := [_, _, _]) func39 ntmps39 fun c => ?_
 unfold p_spec_l6In at H
 refine sr (aH (v := .bool (false)) rfl (nl (bdo H fun b1 j2 H => (dD [(6, .bool (b1))] ?_ ?_))))
 ·refine dH [(0, .int .i64 (v0)), (1, .int .i64 (v1)), (2, .int .i64 (v2))] ⟨rfl, rfl, rfl, trivial⟩ (bB rfl (bB rfl (aX (p_geq rfl rfl) ?_)))
  rcases aK (decide (v1 ≤ v0)) with h3 | h3
  ·have j2 := cdT h3 j2
   refine bC (aE rfl) h3 (aY rfl (aE rfl) (aY rfl (aE rfl) (aY rfl (cT rfl rfl) (aX (bP rfl rfl) (aX (p_assign rfl) ?_)))))
   obtain rfl := si j2
   show At _ _ _ _ _ _
   exact n1 ⟨rfl, trivial⟩
  ·have j2 := cdF h3 j2
   refine bC (aE rfl) h3 ?_
   iterate 3 refine bE rfl ?_
   refine aX (v := .bool (false)) (bO rfl rfl) (aX (v := .bool (false)) (p_assign rfl) ?_)
   obtain rfl := si j2
   show At _ _ _ _ _ _
   exact n1 ⟨rfl, trivial⟩
 obtain rfl := si H
 exact bQ bk
noncomputable def p_spec_l2Row (v0 : Row) : Option (Bool) := bd (bd (p_spec_l6In v0.1 0 99) fun r4 => cond (r4) (bd (p_spec_l6In v0.2 (-99) 99) fun r7 => some (r7)) (some (false))) fun b2 => some b2
theorem c_spec_l2Row {r : Bool} (v0 : Row) (H : p_spec_l2Row v0 = some r) : Fn' prog 103 #[.agg #[.int .i64 (v0.1), .int .i64 (v0.2)]] [] [] (ι := Unit) (fun _ => .bool (r)) (fun _ => []) (fun _ => []) := by
 refine cof (args := [_]) func103 ntmps103 fun c => ?_
 unfold p_spec_l2Row at H
 refine sr (f1 (cC (t := 135) rfl) fun g1 => (aH (v := .bool (false)) rfl (nl (bdo H fun b2 j3 H => (dD [(2, .bool (b2))] ?_ ?_)))))
 ·refine dH [(1, .pointer (some ⟨g1, 0, none⟩))] ⟨rfl, trivial⟩ (aX (cB fa135_0 rfl rfl) (aZ (bI ty3 rfl aB rfl) (bdo j3 fun r4 h5 j3 => (aZ (bN (c_spec_l6In v0.1 0 99 h5) rfl aO) ?_))))
  rcases aK (r4) with h6 | h6
  ·have j3 := cdT h6 j3
   refine bC (aE rfl) h6 (aY rfl (cB fa135_1 rfl rfl) (bA rfl (bI ty3 rfl aB rfl) (bdo j3 fun r7 h8 j3 => (bA rfl (bN (c_spec_l6In v0.2 (-99) 99 h8) rfl aO) (aX (bP rfl rfl) (aX (p_assign rfl) ?_))))))
   obtain rfl := si j3
   show At _ _ _ _ _ _
   exact n1 ⟨rfl, trivial⟩
  ·have j3 := cdF h6 j3
   refine bC (aE rfl) h6 ?_
   iterate 3 refine bE rfl ?_
   refine aX (v := .bool (false)) (bO rfl rfl) (aX (v := .bool (false)) (p_assign rfl) ?_)
   obtain rfl := si j3
   show At _ _ _ _ _ _
   exact n1 ⟨rfl, trivial⟩
 obtain rfl := si H
 exact bQ bk
noncomputable def p_spec_BlockOk_b0 (v0 : (List Row)) (Q5 : Int) : Option ((Int) ⊕ (Unit ⊕ Bool)) := cond (decide (Q5 < (v0.length : Int))) (bd (gd (ix Q5 v0.length) <| bd (p_spec_l2Row (nth v0 Q5.toNat)) fun r17 => cond (!r17) (some (true)) (cond (decide (0 < Q5)) (gd (I64 (Q5 - 1)) <| gd (ix (Q5 - 1) v0.length) <| some (decide (((nth v0 Q5.toNat).1) ≤ ((nth v0 ((Q5 - 1).toNat)).1)))) (some (false)))) fun b14 => cond (b14) (some (.inr (.inr false))) (gd (I64 (Q5 + 1)) <| some (.inl (Q5 + 1)))) (some (.inr (.inl ())))
noncomputable def p_spec_BlockOk (v0 : (List Row)) : Option (Bool) := bd (lp (p_spec_BlockOk_b0 v0) 0) <| sw (fun _ => some (decide ((v0.length : Int) ≤ 24))) (fun q => some q)
theorem c_spec_BlockOk {r : Bool} (v0 : (List Row)) (x_v0 : Option Addr × Nat) (H : p_spec_BlockOk v0 = some r) : Fn' prog 100 #[.slice x_v0.1 v0.length x_v0.2] [imm (.slice x_v0.1 v0.length x_v0.2) v0] [] (ι := Unit) (fun _ => .bool (r)) (fun _ => []) (fun _ => []) := by
 refine cof (args := [_]) func100 ntmps100 fun c => ?_
 unfold p_spec_BlockOk at H
 refine sr (aH (v := .bool (false)) rfl (nl (aD (sr (aH (v := .int .i64 (0)) rfl (nl (bdo H fun x1 hx2 H => (dC (Λ := Unit) H (fun _ _ => [(0, .slice x_v0.1 v0.length x_v0.2)]) (fun _ _ => []) ?_ ?_))))))))
 ·refine aQ (dE hx2 () (fun Q5 _ => [(0, .slice x_v0.1 v0.length x_v0.2), (3, .int .i64 (Q5))]) (fun _ _ => []) bK ?_)
  rintro _ Q5 z6 t8 H1 hi9 hb10
  unfold p_spec_BlockOk_b0 at H1
  refine aD (sr (aF rfl (aF rfl (aG (bS 135 dL rfl) (aG (cP rfl rfl) (nl (cH H1 rfl (fun h13 H1 => ?_) (fun h13 H1 => ?_))))))))
  ·refine bH (nT (aD (aQ (bdo H1 fun b14 j15 H1 => (dD [(33, .bool (b14)), (0, .slice x_v0.1 v0.length x_v0.2), (3, .int .i64 (Q5))] ?_ ?_)))))
   ·refine dF [(0, .slice x_v0.1 v0.length x_v0.2), (3, .int .i64 (Q5))] mixed (.inr (by kernel_rfl)) ⟨rfl, rfl, trivial⟩ rfl (bB rfl (bB rfl (gdo j15 fun h16 j15 => (aZ (bW dL ty135 rfl rfl h16 rfl (aN (aL aR))) (aZ (v := .agg #[.int .i64 ((nth v0 Q5.toNat).1), .int .i64 ((nth v0 Q5.toNat).2)]) (cA (i := Q5.toNat) ty135 rfl (aN (aL aR)) h16.lt) (bdo j15 fun r17 h18 j15 => (aZ (bN (c_spec_l2Row (nth v0 Q5.toNat) h18) rfl aO) (aX (cV rfl) ?_))))))))
    rcases aK (!r17) with h19 | h19
    ·have j15 := cdT h19 j15
     refine bC (aE rfl) h19 ?_
     iterate 16 refine bE rfl ?_
     refine aX (v := .bool (true)) (bP rfl rfl) ?_
     obtain rfl := si j15
     show At _ _ _ _ _ _
     exact n1 ⟨rfl, rfl, rfl, trivial⟩
    ·have j15 := cdF h19 j15
     refine bC (aE rfl) h19 (aY rfl (aE rfl) (aY rfl (cU rfl rfl) ?_))
     rcases aK (decide (0 < Q5)) with h20 | h20
     ·have j15 := cdT h20 j15
      refine bD rfl (aE rfl) h20 (aY rfl (aE rfl) (aY rfl (aE rfl) (gdo j15 fun h21 j15 => (aY rfl (cQ rfl rfl h21) (gdo j15 fun h22 j15 => (bA rfl (bW dL ty135 rfl rfl h22 rfl (aN (aL aR))) (bA rfl (bY (j := 0) ((Q5 - 1).toNat) fa135_0 rfl (aN (aL aR)) h22.lt rfl) (bA rfl (bZ (i := (Q5 - 1).toNat) (j := 0) ty3 rfl (aN (aL aR)) h22.lt rfl) (aY rfl (aE rfl) ?_)))))))))
      refine aY rfl (aE rfl) (bA rfl (bW dL ty135 rfl rfl h16 rfl (aN (aL aR))) (bA rfl (bY (j := 0) Q5.toNat fa135_0 rfl (aN (aL aR)) h16.lt rfl) (bA rfl (bZ (i := Q5.toNat) (j := 0) ty3 rfl (aN (aL aR)) h16.lt rfl) (aY rfl (p_geq rfl rfl) (aY rfl (bP rfl rfl) (aX (bO rfl rfl) ?_))))))
      obtain rfl := si j15
      show At _ _ _ _ _ _
      exact n1 ⟨rfl, rfl, rfl, trivial⟩
     ·have j15 := cdF h20 j15
      refine bD rfl (aE rfl) h20 ?_
      iterate 12 refine bE rfl ?_
      refine aY (v := .bool (false)) rfl (bO rfl rfl) (aX (v := .bool (false)) (bO rfl rfl) ?_)
      obtain rfl := si j15
      show At _ _ _ _ _ _
      exact n1 ⟨rfl, rfl, rfl, trivial⟩
   refine cH H1 rfl (fun h23 H1 => ?_) (fun h23 H1 => ?_)
   ·refine sr (aH (v := .bool (false)) rfl (nl (bQ (rB (rT (rT (rB (rT (rT (?_))))))))))
    obtain rfl := hb10 _ (sm H1)
    replace H := sw.r H
    obtain rfl := si H
    exact bk
   ·exact bH (nB (nT (aP (aF rfl (gdo H1 fun h24 H1 => (aG (bR rfl rfl h24) (aH rfl (aJ (nLI () (hi9 _ (sm H1)) bK)))))))))
  ·exact dA (xT (xT (xE (nMI () (hb10 _ (sm H1)) bK))))
 ·rintro e25 y7 H
  refine nT (sr (aF rfl (aG (bS 135 dL rfl) (aG (cT rfl rfl) (aH rfl (nl ?_))))))
  obtain rfl := si H
  exact bQ bk
noncomputable def p_spec_PartOk_b0 (v0 : Part) (Q8 : Int) : Option ((Int) ⊕ (Unit ⊕ Bool)) := cond (decide (Q8 < (v0.1.length : Int))) (bd (gd (ix Q8 v0.1.length) <| bd (p_spec_l6In (nth v0.1 Q8.toNat) 1 6) fun r20 => cond (!r20) (some (true)) (cond (decide (0 < Q8)) (gd (I64 (Q8 - 1)) <| gd (ix (Q8 - 1) v0.1.length) <| cond (decide ((nth v0.1 Q8.toNat) ≤ (nth v0.1 ((Q8 - 1).toNat)))) (some (true)) (gd (ix Q8 v0.2.length) <| cond (decide (((nth v0.2 Q8.toNat).length : Int) = 0)) (some (true)) (bd (p_spec_BlockOk (nth v0.2 Q8.toNat)) fun r29 => some (!r29)))) (gd (ix Q8 v0.2.length) <| cond (decide (((nth v0.2 Q8.toNat).length : Int) = 0)) (some (true)) (bd (p_spec_BlockOk (nth v0.2 Q8.toNat)) fun r33 => some (!r33))))) fun b17 => cond (b17) (some (.inr (.inr false))) (gd (I64 (Q8 + 1)) <| some (.inl (Q8 + 1)))) (some (.inr (.inl ())))
noncomputable def p_spec_PartOk (v0 : Part) : Option (Bool) := cond (!decide ((v0.1.length : Int) = (v0.2.length : Int))) (some false) (bd (lp (p_spec_PartOk_b0 v0) 0) <| sw (fun _ => some true) (fun q => some q))
theorem c_spec_PartOk {r : Bool} (v0 : Part) (x_v0 : (Option Addr × Nat) × (Option Addr × Nat)) (H : p_spec_PartOk v0 = some r) : Fn' prog 40 #[.agg #[.slice x_v0.1.1 v0.1.length x_v0.1.2, .slice x_v0.2.1 v0.2.length x_v0.2.2]] [imm (.slice x_v0.1.1 v0.1.length x_v0.1.2) v0.1, imm (.slice x_v0.2.1 v0.2.length x_v0.2.2) v0.2] [] (ι := Unit) (fun _ => .bool (r)) (fun _ => []) (fun _ => []) := by
 refine cof (args := [_]) func40 ntmps40 fun c => ?_
 unfold p_spec_PartOk at H
 refine bM aR.s fun X1 => (sr (f1 (cC (t := 75) rfl) fun g2 => (aH (v := .bool (false)) rfl (nl (aD (sr (aG (cB fa75_0 rfl rfl) (aI (bI ty23 rfl aB rfl) (aG (bS 3 dP rfl) (aG (cB fa75_1 rfl rfl) (aI (bI ty73 rfl aB rfl) ?_)))))))))))
 refine aG (bS 130 dY rfl) (aG (cR rfl rfl) (nl (cH H rfl (fun h3 H => ?_) (fun h3 H => ?_))))
 ·refine sr (aH (v := .bool (false)) rfl (nl (bQ (rT (?_)))))
  obtain rfl := si H
  exact bk
 ·refine bH (nT (aD (sr (aH (v := .int .i64 (0)) rfl (nl (bdo H fun x4 hx5 H => (dC (Λ := Unit) H (fun _ _ => []) (fun _ _ => []) ?_ ?_)))))))
  ·refine aQ (dE hx5 () (fun Q8 _ => [(1, .pointer (some ⟨g2, 0, none⟩)), (3, .int .i64 (Q8))]) (fun _ _ => [box g2 75 [.slice x_v0.1.1 v0.1.length x_v0.1.2, .slice x_v0.2.1 v0.2.length x_v0.2.2]]) (.cons aA .nil) ?_)
   rintro _ Q8 z9 t11 H1 hi12 hb13
   unfold p_spec_PartOk_b0 at H1
   refine aD (sr (aF rfl (aG (cB fa75_0 rfl rfl) (aI (bI ty23 rfl aB rfl) (aG (bS 3 dP rfl) (aG (cP rfl rfl) (nl (cH H1 rfl (fun h16 H1 => ?_) (fun h16 H1 => ?_)))))))))
   ·refine bH (nT (aD (aQ (bdo H1 fun b17 j18 H1 => (dD [(60, .bool (b17)), (1, .pointer (some ⟨g2, 0, none⟩)), (3, .int .i64 (Q8))] ?_ ?_)))))
    ·refine dF [(1, .pointer (some ⟨g2, 0, none⟩)), (3, .int .i64 (Q8))] mixed (.inr (by kernel_rfl)) ⟨rfl, rfl, trivial⟩ rfl (aX (cB fa75_0 rfl rfl) (aZ (bI ty23 rfl aB rfl) (bB rfl (gdo j18 fun h19 j18 => (aZ (bW dP ty3 rfl rfl h19 rfl (aN (aL aR.s))) (aZ (bZ (i := Q8.toNat) (j := 0) ty3 rfl (aN (aL aR.s)) h19.lt rfl) (bdo j18 fun r20 h21 j18 => (aZ (bN (c_spec_l6In (nth v0.1 Q8.toNat) 1 6 h21) rfl aO) (aX (cV rfl) ?_)))))))))
     rcases aK (!r20) with h22 | h22
     ·have j18 := cdT h22 j18
      refine bC (aE rfl) h22 ?_
      iterate 16 refine bE rfl ?_
      refine aX (v := .bool (true)) (bP rfl rfl) (bB (v := .bool (true)) rfl ?_)
      iterate 7 refine bE rfl ?_
      refine aX (v := .bool (true)) (bP rfl rfl) (bB (v := .bool (true)) rfl ?_)
      iterate 7 refine bE rfl ?_
      refine aX (v := .bool (true)) (bP rfl rfl) ?_
      obtain rfl := si j18
      show At _ _ _ _ _ _
      exact n1 ⟨rfl, rfl, rfl, trivial⟩
     ·have j18 := cdF h22 j18
      refine bC (aE rfl) h22 (aY rfl (aE rfl) (aY rfl (cU rfl rfl) ?_))
      rcases aK (decide (0 < Q8)) with h23 | h23
      ·have j18 := cdT h23 j18
       refine bD rfl (aE rfl) h23 (aY rfl (cB fa75_0 rfl rfl) (bA rfl (bI ty23 rfl aB rfl) (aY rfl (aE rfl) (gdo j18 fun h24 j18 => (aY rfl (cQ rfl rfl h24) (gdo j18 fun h25 j18 => (bA rfl (bW dP ty3 rfl rfl h25 rfl (aN (aL aR.s))) (bA rfl (bZ (i := (Q8 - 1).toNat) (j := 0) ty3 rfl (aN (aL aR.s)) h25.lt rfl) (aY rfl (cB fa75_0 rfl rfl) ?_)))))))))
       refine bA rfl (bI ty23 rfl aB rfl) (aY rfl (aE rfl) (bA rfl (bW dP ty3 rfl rfl h19 rfl (aN (aL aR.s))) (bA rfl (bZ (i := Q8.toNat) (j := 0) ty3 rfl (aN (aL aR.s)) h19.lt rfl) (aY rfl (p_geq rfl rfl) (aY rfl (bP rfl rfl) (aX (bO rfl rfl) ?_))))))
       rcases aK (decide ((nth v0.1 Q8.toNat) ≤ (nth v0.1 ((Q8 - 1).toNat)))) with h26 | h26
       ·have j18 := cdT h26 j18
        refine bC (aE rfl) h26 ?_
        iterate 7 refine bE rfl ?_
        refine aX (v := .bool (true)) (bP rfl rfl) (bB (v := .bool (true)) rfl ?_)
        iterate 7 refine bE rfl ?_
        refine aX (v := .bool (true)) (bP rfl rfl) ?_
        obtain rfl := si j18
        show At _ _ _ _ _ _
        exact n1 ⟨rfl, rfl, rfl, trivial⟩
       ·have j18 := cdF h26 j18
        refine bC (aE rfl) h26 (aY rfl (cB fa75_1 rfl rfl) (bA rfl (bI ty73 rfl aB rfl) (aY rfl (aE rfl) (gdo j18 fun h27 j18 => (bA rfl (bW dY ty130 rfl rfl h27 rfl (aL (aT aR))) (bA rfl (bZ (i := Q8.toNat) (j := 0) ty130 rfl (aL (aT aR)) h27.lt rfl) (aY rfl (bS 135 dL rfl) (aY rfl (cS rfl rfl) (aX (bO rfl rfl) ?_)))))))))
        rcases aK (decide (((nth v0.2 Q8.toNat).length : Int) = 0)) with h28 | h28
        ·have j18 := cdT h28 j18
         refine bC (aE rfl) h28 ?_
         iterate 7 refine bE rfl ?_
         refine aX (v := .bool (true)) (bP rfl rfl) ?_
         obtain rfl := si j18
         show At _ _ _ _ _ _
         exact n1 ⟨rfl, rfl, rfl, trivial⟩
        ·have j18 := cdF h28 j18
         refine bC (aE rfl) h28 (aY rfl (cB fa75_1 rfl rfl) (bA rfl (bI ty73 rfl aB rfl) (aY rfl (aE rfl) (bA rfl (bW dY ty130 rfl rfl h27 rfl (aL (aT aR))) (bA rfl (bZ (i := Q8.toNat) (j := 0) ty130 rfl (aL (aT aR)) h27.lt rfl) (bdo j18 fun r29 h30 j18 => (bA rfl (bN (c_spec_BlockOk (nth v0.2 Q8.toNat) ((X1 Q8.toNat).1, (X1 Q8.toNat).2.1) h30) rfl (aC (aL (aS (aW aR h27.lt))) aO)) (aY rfl (cV rfl) (aX (bO rfl rfl) ?_)))))))))
         obtain rfl := si j18
         show At _ _ _ _ _ _
         exact n1 ⟨rfl, rfl, rfl, trivial⟩
      ·have j18 := cdF h23 j18
       refine bD rfl (aE rfl) h23 ?_
       iterate 12 refine bE rfl ?_
       refine aY (v := .bool (false)) rfl (bO rfl rfl) (aX (v := .bool (false)) (bO rfl rfl) (bB (v := .bool (false)) rfl (aY rfl (cB fa75_1 rfl rfl) (bA rfl (bI ty73 rfl aB rfl) (aY rfl (aE rfl) (gdo j18 fun h31 j18 => (bA rfl (bW dY ty130 rfl rfl h31 rfl (aL (aT aR))) (bA rfl (bZ (i := Q8.toNat) (j := 0) ty130 rfl (aL (aT aR)) h31.lt rfl) (aY rfl (bS 135 dL rfl) ?_)))))))))
       refine aY rfl (cS rfl rfl) (aX (bO rfl rfl) ?_)
       rcases aK (decide (((nth v0.2 Q8.toNat).length : Int) = 0)) with h32 | h32
       ·have j18 := cdT h32 j18
        refine bC (aE rfl) h32 ?_
        iterate 7 refine bE rfl ?_
        refine aX (v := .bool (true)) (bP rfl rfl) ?_
        obtain rfl := si j18
        show At _ _ _ _ _ _
        exact n1 ⟨rfl, rfl, rfl, trivial⟩
       ·have j18 := cdF h32 j18
        refine bC (aE rfl) h32 (aY rfl (cB fa75_1 rfl rfl) (bA rfl (bI ty73 rfl aB rfl) (aY rfl (aE rfl) (bA rfl (bW dY ty130 rfl rfl h31 rfl (aL (aT aR))) (bA rfl (bZ (i := Q8.toNat) (j := 0) ty130 rfl (aL (aT aR)) h31.lt rfl) (bdo j18 fun r33 h34 j18 => (bA rfl (bN (c_spec_BlockOk (nth v0.2 Q8.toNat) ((X1 Q8.toNat).1, (X1 Q8.toNat).2.1) h34) rfl (aC (aL (aS (aW aR h31.lt))) aO)) (aY rfl (cV rfl) (aX (bO rfl rfl) ?_)))))))))
        obtain rfl := si j18
        show At _ _ _ _ _ _
        exact n1 ⟨rfl, rfl, rfl, trivial⟩
    refine cH H1 rfl (fun h35 H1 => ?_) (fun h35 H1 => ?_)
    ·refine sr (aH (v := .bool (false)) rfl (nl (bQ (rB (rT (rT (rB (rT (rT (?_))))))))))
     obtain rfl := hb13 _ (sm H1)
     replace H := sw.r H
     obtain rfl := si H
     exact bk
    ·exact bH (nB (nT (aP (aF rfl (gdo H1 fun h36 H1 => (aG (bR rfl rfl h36) (aH rfl (aJ (nLI () (hi12 _ (sm H1)) (.cons aA .nil))))))))))
   ·exact dA (xT (xT (xE (nMI () (hb13 _ (sm H1)) bK))))
  ·rintro e37 y10 H
   refine nT (sr (aH (v := .bool (true)) rfl (nl ?_)))
   obtain rfl := si H
   exact bQ bk
noncomputable def p_spec_l21At_b0 (v0 : Disk) (v1 : Int) (Q8 : Int) : Option ((Int) ⊕ (Unit ⊕ Int)) := cond (decide (Q8 < (v0.1.length : Int))) (gd (ix Q8 v0.1.length) <| cond (decide (((nth v0.1 Q8.toNat).1) = v1)) (some (.inr (.inr Q8))) (gd (I64 (Q8 + 1)) <| some (.inl (Q8 + 1)))) (some (.inr (.inl ())))
noncomputable def p_spec_l21At (v0 : Disk) (v1 : Int) : Option (Int) := bd (lp (p_spec_l21At_b0 v0 v1) 0) <| sw (fun _ => some (-1)) (fun q => some q)
theorem c_spec_l21At {r : Int} (v0 : Disk) (x_v0 : (Option Addr × Nat) × (Option Addr × Nat) × (Option Addr × Nat) × Unit) (v1 : Int) (H : p_spec_l21At v0 v1 = some r) : Fn' prog 41 #[.agg #[.slice x_v0.1.1 v0.1.length x_v0.1.2, .slice x_v0.2.1.1 v0.2.1.length x_v0.2.1.2, .slice x_v0.2.2.1.1 v0.2.2.1.length x_v0.2.2.1.2, .int .i64 (v0.2.2.2)], .int .i64 (v1)] [imm (.slice x_v0.1.1 v0.1.length x_v0.1.2) v0.1, imm (.slice x_v0.2.1.1 v0.2.1.length x_v0.2.1.2) v0.2.1, imm (.slice x_v0.2.2.1.1 v0.2.2.1.length x_v0.2.2.1.2) v0.2.2.1] [] (ι := Unit) (fun _ => .int .i64 (r)) (fun _ => []) (fun _ => []) := by
 refine cof (args := [_, _]) func41 ntmps41 fun c => ?_
 unfold p_spec_l21At at H
 refine bM aR fun X1 => (bM aR.s.s.s fun X2 => (sr (f1 (cC (t := 32) rfl) fun g3 => (aH (v := .int .i64 (0)) rfl (nl (aD (sr (aH (v := .int .i64 (0)) rfl (nl (bdo H fun x4 hx5 H => (dC (Λ := Unit) H (fun _ _ => []) (fun _ _ => []) ?_ ?_)))))))))))
 ·refine aQ (dE hx5 () (fun Q8 _ => [(1, .int .i64 (v1)), (2, .pointer (some ⟨g3, 0, none⟩)), (5, .int .i64 (Q8))]) (fun _ _ => [box g3 32 [.slice x_v0.1.1 v0.1.length x_v0.1.2, .slice x_v0.2.1.1 v0.2.1.length x_v0.2.1.2, .slice x_v0.2.2.1.1 v0.2.2.1.length x_v0.2.2.1.2, .int .i64 (v0.2.2.2)]]) (.cons aA .nil) ?_)
  rintro _ Q8 z9 t11 H1 hi12 hb13
  unfold p_spec_l21At_b0 at H1
  refine aD (sr (aF rfl (aG (cB fa32_0 rfl rfl) (aI (bI ty29 rfl aB rfl) (aG (bS 77 dR rfl) (aG (cP rfl rfl) (nl (cH H1 rfl (fun h16 H1 => ?_) (fun h16 H1 => ?_)))))))))
  ·refine bH (nT (aD (aQ (sr (aG (cB fa32_0 rfl rfl) (aI (bI ty29 rfl aB rfl) (aF rfl (gdo H1 fun h17 H1 => (aI (bW dR ty77 rfl rfl h17 rfl (aL (aT aR.s))) (aI (bY (j := 0) Q8.toNat fa77_0 rfl (aL (aT aR.s)) h17.lt rfl) ?_))))))))))
   refine aI (bZ (i := Q8.toNat) (j := 0) ty3 rfl (aL (aT aR.s)) h17.lt rfl) (aF rfl (aG (cS rfl rfl) (nl (cH H1 rfl (fun h18 H1 => ?_) (fun h18 H1 => ?_)))))
   ·refine sr (aF rfl (aH rfl (nl (bQ (rB (rT (rT (rB (rT (rT (?_)))))))))))
    obtain rfl := hb13 _ (sm H1)
    replace H := sw.r H
    obtain rfl := si H
    exact bk
   ·exact bH (nB (nT (aP (aF rfl (gdo H1 fun h19 H1 => (aG (bR rfl rfl h19) (aH rfl (aJ (nLI () (hi12 _ (sm H1)) (.cons aA .nil))))))))))
  ·exact dA (xT (xT (xE (nMI () (hb13 _ (sm H1)) bK))))
 ·rintro e20 y10 H
  refine nT (sr (aH (v := .int .i64 (-1)) rfl (nl ?_)))
  obtain rfl := si H
  exact bQ bk
noncomputable def p_spec_l3Has_b0 (v0 : (List Tag)) (v1 : Tag) (Q6 : Int) : Option ((Int) ⊕ (Unit ⊕ Bool)) := cond (decide (Q6 < (v0.length : Int))) (gd (ix Q6 v0.length) <| cond (decide (nth v0 Q6.toNat = v1)) (some (.inr (.inr true))) (gd (I64 (Q6 + 1)) <| some (.inl (Q6 + 1)))) (some (.inr (.inl ())))
noncomputable def p_spec_l3Has (v0 : (List Tag)) (v1 : Tag) : Option (Bool) := bd (lp (p_spec_l3Has_b0 v0 v1) 0) <| sw (fun _ => some false) (fun q => some q)
theorem c_spec_l3Has {r : Bool} (v0 : (List Tag)) (x_v0 : Option Addr × Nat) (v1 : Tag) (H : p_spec_l3Has v0 v1 = some r) : Fn' prog 184 #[.slice x_v0.1 v0.length x_v0.2, .agg #[.string (v1.1), .string (v1.2)]] [imm (.slice x_v0.1 v0.length x_v0.2) v0] [] (ι := Unit) (fun _ => .bool (r)) (fun _ => []) (fun _ => []) := by
 refine cof (args := [_, _]) func184 ntmps184 fun c => ?_
 unfold p_spec_l3Has at H
 refine sr (f1 (cC (t := 172) rfl) fun g1 => (aH (v := .bool (false)) rfl (nl (aD (sr (aH (v := .int .i64 (0)) rfl (nl (bdo H fun x2 hx3 H => (dC (Λ := Unit) H (fun _ _ => []) (fun _ _ => []) ?_ ?_)))))))))
 ·refine aQ (dE hx3 () (fun Q6 _ => [(0, .slice x_v0.1 v0.length x_v0.2), (3, .pointer (some ⟨g1, 0, none⟩)), (5, .int .i64 (Q6))]) (fun _ _ => [box g1 172 [.string (v1.1), .string (v1.2)]]) (.cons aA .nil) ?_)
  rintro _ Q6 z7 t9 H1 hi10 hb11
  unfold p_spec_l3Has_b0 at H1
  refine aD (sr (aF rfl (aF rfl (aG (bS 172 dM rfl) (aG (cP rfl rfl) (nl (cH H1 rfl (fun h14 H1 => ?_) (fun h14 H1 => ?_))))))))
  ·refine bH (nT (aD (aQ (aD (dF [(0, .slice x_v0.1 v0.length x_v0.2), (3, .pointer (some ⟨g1, 0, none⟩)), (5, .int .i64 (Q6))] mixed (.inr (by kernel_rfl)) ⟨rfl, rfl, rfl, trivial⟩ rfl (bB rfl (bB rfl (gdo H1 fun h15 H1 => (aZ (bW dM ty172 rfl rfl h15 rfl (aN (aL aR))) (aZ (v := .agg #[.string ((nth v0 Q6.toNat).1), .string ((nth v0 Q6.toNat).2)]) (cA (i := Q6.toNat) ty172 rfl (aN (aL aR)) h15.lt) ?_))))))))))
   refine aZ (bJ ty172 rfl aB rfl) (aX (v := .bool (decide (nth v0 Q6.toNat = v1))) (p_aeql (a := nth v0 Q6.toNat) (b := v1) ae172 rfl rfl rfl rfl) (nT (cH H1 rfl (fun h16 H1 => ?_) (fun h16 H1 => ?_))))
   ·refine sr (aH (v := .bool (true)) rfl (nl (bQ (rB (rT (rT (rB (rT (rT (?_))))))))))
    obtain rfl := hb11 _ (sm H1)
    replace H := sw.r H
    obtain rfl := si H
    exact bk
   ·exact bH (nB (nT (aP (aF rfl (gdo H1 fun h17 H1 => (aG (bR rfl rfl h17) (aH rfl (aJ (nLI () (hi10 _ (sm H1)) (.cons aA .nil))))))))))
  ·exact dA (xT (xT (xE (nMI () (hb11 _ (sm H1)) bK))))
 ·rintro e18 y8 H
  refine nT (sr (aH (v := .bool (false)) rfl (nl ?_)))
  obtain rfl := si H
  exact bQ bk
noncomputable def p_spec_l11Ids_b0 (v0 : (List (List Tag))) (v1 : Tag) (Q9 : (List Int) × Int) : Option (((List Int) × Int) ⊕ ((List Int))) := cond (decide (Q9.2 < (v0.length : Int))) (gd (ix Q9.2 v0.length) <| bd (p_spec_l3Has (nth v0 Q9.2.toNat) v1) fun r19 => cond (r19) (gd (I64 (Q9.2 + 1)) <| gd (room (Q9.1.length + 1)) <| some (.inl ((Q9.1 ++ [Q9.2 + 1]), Q9.2 + 1))) (gd (I64 (Q9.2 + 1)) <| some (.inl (Q9.1, Q9.2 + 1)))) (some (.inr Q9.1))
noncomputable def p_spec_l11Ids (v0 : (List (List Tag))) (v1 : Tag) : Option ((List Int)) := bd (lp (p_spec_l11Ids_b0 v0 v1) (([] : List Int), 0)) fun x5 => some x5
theorem c_spec_l11Ids {r : (List Int)} (v0 : (List (List Tag))) (x_v0 : Option Addr × Nat) (v1 : Tag) (H : p_spec_l11Ids v0 v1 = some r) : Fn' prog 152 #[.slice x_v0.1 v0.length x_v0.2, .agg #[.string (v1.1), .string (v1.2)]] [imm (.slice x_v0.1 v0.length x_v0.2) v0] [] (ι := Option Addr × Nat) (fun x => .slice x.1 r.length x.2) (fun _ => []) (fun x => [tree (.slice x.1 r.length x.2) r]) := by
 refine cof (args := [_, _]) func152 ntmps152 fun c => ?_
 unfold p_spec_l11Ids at H
 refine bM aR fun X1 => (sr (f1 (cC (t := 172) rfl) fun g2 => (aH (v := .slice none 0 0) rfl (nl (sr (f2 (e_lit0 Int dP ty3) fun a3 c4 => (aH rfl (nl (aD (sr (aH (v := .int .i64 (0)) rfl (nl (bdo H fun x5 hx6 H => ?_)))))))))))))
 refine dB (ι := Option Addr × Nat) (fun ψ => [(5, .slice ψ.1 x5.length ψ.2)]) (fun ψ => [tree (.slice ψ.1 x5.length ψ.2) x5]) ?_ ?_
 ·refine aQ (dE hx6 (a3, c4) (fun Q9 z10 => [(0, .slice x_v0.1 v0.length x_v0.2), (3, .pointer (some ⟨g2, 0, none⟩)), (5, .slice z10.1 Q9.1.length z10.2), (6, .int .i64 (Q9.2))]) (fun Q9 z10 => [box g2 172 [.string (v1.1), .string (v1.2)], tree (.slice z10.1 Q9.1.length z10.2) Q9.1]) (.cons dl1 (.cons aA .nil)) ?_)
  rintro _ Q9 z10 t12 H1 hi13 hb14
  unfold p_spec_l11Ids_b0 at H1
  refine aD (sr (aF rfl (aF rfl (aG (bS 142 dS rfl) (aG (cP rfl rfl) (nl (cH H1 rfl (fun h17 H1 => ?_) (fun h17 H1 => ?_))))))))
  ·refine bH (nT (aD (aQ (aD (dF [(0, .slice x_v0.1 v0.length x_v0.2), (3, .pointer (some ⟨g2, 0, none⟩)), (5, .slice z10.1 Q9.1.length z10.2), (6, .int .i64 (Q9.2))] mixed (.inr (by kernel_rfl)) ⟨rfl, rfl, rfl, rfl, trivial⟩ rfl (bB rfl (bB rfl (gdo H1 fun h18 H1 => (aZ (bW dS ty142 rfl rfl h18 rfl (aL (aT aR))) (aZ (bZ (i := Q9.2.toNat) (j := 0) ty142 rfl (aL (aT aR)) h18.lt rfl) ?_))))))))))
   refine aZ (bJ ty172 rfl aB rfl) (bdo H1 fun r19 h20 H1 => (aZ (bN (c_spec_l3Has (nth v0 Q9.2.toNat) ((X1 Q9.2.toNat).1, (X1 Q9.2.toNat).2.1) v1 h20) rfl (aC (aL (aS (aW aR h18.lt))) aO)) (nT (cH H1 rfl (fun h21 H1 => ?_) (fun h21 H1 => ?_)))))
   ·refine aP (aF rfl (aF rfl (gdo H1 fun h22 H1 => (aG (bR rfl rfl h22) (f1 (e_lit (vs := [(0, .int .i64 (Q9.2 + 1))]) [.int .i64 (Q9.2 + 1)] dP ty3 rfl (by decide) (by decide) (by kernel_rfl)) fun g23 => (gdo H1 fun h26 H1 => (f2 (e_app1 (l := Q9.1) (α := Int) (Q9.2 + 1) () dP ty3 rfl rfl (h26.b (by decide)) h26.x rfl (cW _) (.cons dl2 (.cons aA .nil))) fun a24 c25 => (aH rfl (aJ (nB (nT (?_))))))))))))
    exact aP (aF rfl (aG (bR rfl rfl h22) (aH rfl (aJ (nLI (a24, c25) (hi13 _ (sm H1)) (.cons dl1 (.cons aA .nil)))))))
   ·exact bH (nB (nT (aP (aF rfl (gdo H1 fun h27 H1 => (aG (bR rfl rfl h27) (aH rfl (aJ (nLI (z10.1, z10.2) (hi13 _ (sm H1)) (.cons aA (.cons aA .nil)))))))))))
  ·refine dA (xT (xT (xE (?_))))
   obtain rfl := hb14 _ (sm H1)
   exact nMC (z10.1, z10.2) ⟨rfl, trivial⟩ bT (.cons dl1 .nil)
 ·intro y11
  show At _ _ [(5, .slice y11.1 x5.length y11.2)] _ [tree (.slice y11.1 x5.length y11.2) x5] _
  refine nT (sr (aF rfl (aH rfl (nl (bQ ?_)))))
  obtain rfl := si H
  exact back1 y11 rfl (ResV.tmp (v := .slice y11.1 x5.length y11.2) rfl) rfl cM (.cons aA .nil)
noncomputable def p_spec_l11Names_b0 (v0 : (List (List Tag))) (Q8 : (List (List Tag)) × Int) : Option (((List (List Tag)) × Int) ⊕ ((List (List Tag)))) := cond (decide (Q8.2 < (v0.length : Int))) (gd (ix Q8.2 v0.length) <| gd (room (([] : List Tag).length + (nth v0 Q8.2.toNat).length)) <| gd (room (Q8.1.length + 1)) <| gd (I64 (Q8.2 + 1)) <| some (.inl ((Q8.1 ++ [([] : List Tag) ++ (nth v0 Q8.2.toNat)]), Q8.2 + 1))) (some (.inr Q8.1))
noncomputable def p_spec_l11Names (v0 : (List (List Tag))) : Option ((List (List Tag))) := bd (lp (p_spec_l11Names_b0 v0) (([] : List (List Tag)), 0)) fun x4 => some x4
theorem c_spec_l11Names {r : (List (List Tag))} (v0 : (List (List Tag))) (x_v0 : Option Addr × Nat) (H : p_spec_l11Names v0 = some r) : Fn' prog 128 #[.slice x_v0.1 v0.length x_v0.2] [imm (.slice x_v0.1 v0.length x_v0.2) v0] [] (ι := Option Addr × Nat) (fun x => .slice x.1 r.length x.2) (fun _ => []) (fun x => [tree (.slice x.1 r.length x.2) r]) := by
 refine cof (args := [_]) func128 ntmps128 fun c => ?_
 unfold p_spec_l11Names at H
 refine bM aR fun X1 => (sr (aH (v := .slice none 0 0) rfl (nl (sr (f2 (e_lit0 (List Tag) dS ty142) fun a2 c3 => (aH rfl (nl (aD (sr (aH (v := .int .i64 (0)) rfl (nl (bdo H fun x4 hx5 H => (dB (ι := Option Addr × Nat) (fun ψ => [(3, .slice ψ.1 x4.length ψ.2)]) (fun ψ => [tree (.slice ψ.1 x4.length ψ.2) x4]) ?_ ?_)))))))))))))
 ·refine aQ (dE hx5 (a2, c3) (fun Q8 z9 => [(0, .slice x_v0.1 v0.length x_v0.2), (3, .slice z9.1 Q8.1.length z9.2), (4, .int .i64 (Q8.2))]) (fun Q8 z9 => [tree (.slice z9.1 Q8.1.length z9.2) Q8.1]) (.cons aA .nil) ?_)
  rintro _ Q8 z9 t11 H1 hi12 hb13
  unfold p_spec_l11Names_b0 at H1
  refine aD (sr (aF rfl (aF rfl (aG (bS 142 dS rfl) (aG (cP rfl rfl) (nl (cH H1 rfl (fun h16 H1 => ?_) (fun h16 H1 => ?_))))))))
  ·refine bH (nT (aD (aQ (aP (aF rfl (f2 (e_lit0 Tag dM ty172) fun a17 c18 => (aF rfl (aF rfl (gdo H1 fun h19 H1 => (aI (bW dS ty142 rfl rfl h19 rfl (aL (aT aR))) ?_))))))))))
   refine aI (bZ (i := Q8.2.toNat) (j := 0) ty142 rfl (aL (aT aR)) h19.lt rfl) (gdo H1 fun h22 H1 => (f2 (e_appF (l := ([] : List Tag)) (k := nth v0 Q8.2.toNat) (α := Tag) dM ty172 rfl rfl (h22.b (by decide)) h22.x (.cons aA .nil) (aL (aS (aW aR h19.lt)))) fun a20 c21 => (f1 (e_lit (vs := [(0, .slice a20 ((([] : List Tag) ++ (nth v0 Q8.2.toNat)).length) c21)]) [.slice a20 ((([] : List Tag) ++ (nth v0 Q8.2.toNat)).length) c21] dS ty142 rfl (by decide) (by decide) (by kernel_rfl)) fun g23 => (gdo H1 fun h26 H1 => (f2 (e_app1 (l := Q8.1) (α := (List Tag)) (([] : List Tag) ++ (nth v0 Q8.2.toNat)) (a20, c21) dS ty142 rfl rfl (h26.b (by decide)) h26.x rfl (cW _) (.cons dl2 (.cons aA (.cons aA .nil)))) fun a24 c25 => (aH rfl (aJ (nB (nT (aP (aF rfl ?_)))))))))))
   exact gdo H1 fun h27 H1 => (aG (bR rfl rfl h27) (aH rfl (aJ (nLI (a24, c25) (hi12 _ (sm H1)) (.cons aA .nil)))))
  ·refine dA (xT (xT (xE (?_))))
   obtain rfl := hb13 _ (sm H1)
   exact nMC (z9.1, z9.2) ⟨rfl, trivial⟩ bT (.cons aA .nil)
 ·intro y10
  show At _ _ [(3, .slice y10.1 x4.length y10.2)] _ [tree (.slice y10.1 x4.length y10.2) x4] _
  refine nT (sr (aF rfl (aH rfl (nl (bQ ?_)))))
  obtain rfl := si H
  exact back1 y10 rfl (ResV.tmp (v := .slice y10.1 x4.length y10.2) rfl) rfl cM (.cons aA .nil)
noncomputable def p_spec_l11Of_b1 (v0 : (List (List Tag))) (Q9 : (List Post) × Int) (Q22 : (List Post) × Int) : Option (((List Post) × Int) ⊕ ((List Post))) := cond (decide (Q22.2 ≤ 122)) (gd (asc Q9.2) <| gd (asc Q22.2) <| bd (p_spec_l11Ids v0 ((s1 Q9.2), (s1 Q22.2))) fun r34 => cond (decide (0 < (r34.length : Int))) (gd (room (Q22.1.length + 1)) <| gd (I32 (Q22.2 + 1)) <| some (.inl ((Q22.1 ++ [(((s1 Q9.2), (s1 Q22.2)), r34)]), Q22.2 + 1))) (gd (I32 (Q22.2 + 1)) <| some (.inl (Q22.1, Q22.2 + 1)))) (some (.inr Q22.1))
noncomputable def p_spec_l11Of_b0 (v0 : (List (List Tag))) (Q9 : (List Post) × Int) : Option (((List Post) × Int) ⊕ ((List Post))) := cond (decide (Q9.2 ≤ 100)) (bd (lp (p_spec_l11Of_b1 v0 Q9) (Q9.1, 112)) fun x18 => gd (I32 (Q9.2 + 1)) <| some (.inl (x18, Q9.2 + 1))) (some (.inr Q9.1))
noncomputable def p_spec_l11Of (v0 : (List (List Tag))) : Option (Index) := bd (lp (p_spec_l11Of_b0 v0) (([] : List Post), 97)) fun x5 => bd (p_spec_l11Names v0) fun r45 => some (r45, x5)
theorem c_spec_l11Of {r : Index} (v0 : (List (List Tag))) (x_v0 : Option Addr × Nat) (H : p_spec_l11Of v0 = some r) : Fn' prog 105 #[.slice x_v0.1 v0.length x_v0.2] [imm (.slice x_v0.1 v0.length x_v0.2) v0] [] (ι := (Option Addr × Nat) × (Option Addr × Nat)) (fun x => .agg #[.slice x.1.1 r.1.length x.1.2, .slice x.2.1 r.2.length x.2.2]) (fun _ => []) (fun x => [tree (.slice x.1.1 r.1.length x.1.2) r.1, tree (.slice x.2.1 r.2.length x.2.2) r.2]) := by
 refine cof (args := [_]) func105 ntmps105 fun c => ?_
 unfold p_spec_l11Of at H
 refine bM aR fun X1 => (sr (f1 (cD ty38) fun g2 => (nl (sr (f2 (e_lit0 Post dT ty183) fun a3 c4 => (aH rfl (nl (aD (sr (aH (v := .int .i32 (97)) rfl (nl (bdo H fun x5 hx6 H => ?_))))))))))))
 refine dB (ι := Option Addr × Nat) (fun ψ => [(0, .slice x_v0.1 v0.length x_v0.2), (2, .pointer (some ⟨g2, 0, none⟩)), (3, .slice ψ.1 x5.length ψ.2)]) (fun ψ => [box g2 38 [.slice none 0 0, .slice none 0 0], tree (.slice ψ.1 x5.length ψ.2) x5]) ?_ ?_
 ·refine aQ (dE hx6 (a3, c4) (fun Q9 z10 => [(0, .slice x_v0.1 v0.length x_v0.2), (2, .pointer (some ⟨g2, 0, none⟩)), (3, .slice z10.1 Q9.1.length z10.2), (4, .int .i32 (Q9.2))]) (fun Q9 z10 => [box g2 38 [.slice none 0 0, .slice none 0 0], tree (.slice z10.1 Q9.1.length z10.2) Q9.1]) (.cons dl1 (.cons aA .nil)) ?_)
  rintro _ Q9 z10 t12 H1 hi13 hb14
  unfold p_spec_l11Of_b0 at H1
  refine aD (sr (aF rfl (aG (cT rfl rfl) (nl (cH H1 rfl (fun h17 H1 => ?_) (fun h17 H1 => ?_))))))
  ·refine bH (nT (aD (aQ (sr (aH (v := .int .i32 (112)) rfl (nl (bdo H1 fun x18 hx19 H1 => (dB (ι := Option Addr × Nat) (fun ψ => [(0, .slice x_v0.1 v0.length x_v0.2), (2, .pointer (some ⟨g2, 0, none⟩)), (3, .slice ψ.1 x18.length ψ.2), (4, .int .i32 (Q9.2))]) (fun ψ => [box g2 38 [.slice none 0 0, .slice none 0 0], tree (.slice ψ.1 x18.length ψ.2) x18]) ?_ ?_))))))))
   ·refine aQ (dE hx19 (z10.1, z10.2) (fun Q22 z23 => [(0, .slice x_v0.1 v0.length x_v0.2), (2, .pointer (some ⟨g2, 0, none⟩)), (3, .slice z23.1 Q22.1.length z23.2), (4, .int .i32 (Q9.2)), (5, .int .i32 (Q22.2))]) (fun Q22 z23 => [box g2 38 [.slice none 0 0, .slice none 0 0], tree (.slice z23.1 Q22.1.length z23.2) Q22.1]) (.cons aA (.cons aA .nil)) ?_)
    rintro _ Q22 z23 t25 H2 hi26 hb27
    unfold p_spec_l11Of_b1 at H2
    refine aD (sr (aF rfl (aG (cT rfl rfl) (nl (cH H2 rfl (fun h30 H2 => ?_) (fun h30 H2 => ?_))))))
    ·refine bH (nT (aD (aQ (sr (aF rfl (gdo H2 fun h31 H2 => (aG (v := .string (s1 Q9.2)) (p_r2s underlying21 dZ rfl h31) (aF rfl (gdo H2 fun h32 H2 => (aG (v := .string (s1 Q22.2)) (p_r2s underlying21 dZ rfl h32) ?_))))))))))
     refine aG (v := .agg #[.string (s1 Q9.2), .string (s1 Q22.2)]) (p_buildS (vs := [(0, .string (s1 Q9.2)), (1, .string (s1 Q22.2))]) (cs := #[.string (s1 Q9.2), .string (s1 Q22.2)]) ty172 pl172 rfl rfl) (f1 (cD ty172) fun g33 => (stb (cs' := [.string (s1 Q9.2), .string (s1 Q22.2)]) ty172 cZ (nl (sr (aF rfl (aI (bJ ty172 rfl aB rfl) (bdo H2 fun r34 h35 H2 => (f1 (cF (c_spec_l11Ids v0 x_v0 ((s1 Q9.2), (s1 Q22.2)) h35) (fun _ => (bF bG)) rfl (aC (aL (aS aR)) aO)) fun x36 => (aH rfl (nl ?_))))))))))
     refine sr (aF rfl (aG (bS 3 dP rfl) (aG (cU rfl rfl) (nl (cH H2 rfl (fun h37 H2 => ?_) (fun h37 H2 => ?_))))))
     ·refine aP (aF rfl (aI (bJ ty172 rfl hs1 rfl) (aF rfl (aG (v := .agg #[.string (s1 Q9.2), .string (s1 Q22.2), .slice x36.1 r34.length x36.2]) (p_buildS (vs := [(0, .agg #[.string (s1 Q9.2), .string (s1 Q22.2)]), (1, .slice x36.1 r34.length x36.2)]) (cs := #[.string (s1 Q9.2), .string (s1 Q22.2), .slice x36.1 r34.length x36.2]) ty183 pl183 rfl rfl) (f1 (e_lit (vs := [(0, .agg #[.string (s1 Q9.2), .string (s1 Q22.2), .slice x36.1 r34.length x36.2])]) [.string (s1 Q9.2), .string (s1 Q22.2), .slice x36.1 r34.length x36.2] dT ty183 rfl (by decide) (by decide) (by kernel_rfl)) fun g38 => (gdo H2 fun h41 H2 => (f2 (e_app1 (l := Q22.1) (α := Post) (((s1 Q9.2), (s1 Q22.2)), r34) (((), ()), x36) dT ty183 rfl rfl (h41.b (by decide)) h41.x rfl (cW _) (.cons dl4 (.cons aA (.cons aA .nil)))) fun a39 c40 => (aH rfl (aJ (nB (nT (?_))))))))))))
      exact aP (aF rfl (gdo H2 fun h42 H2 => (aG (v := .int .i32 (Q22.2 + 1)) (p_add32 rfl rfl h42) (aH rfl (aJ (nLI (a39, c40) (hi26 _ (sm H2)) (.cons dl2 (.cons aA .nil))))))))
     ·exact bH (nB (nT (aP (aF rfl (gdo H2 fun h43 H2 => (aG (v := .int .i32 (Q22.2 + 1)) (p_add32 rfl rfl h43) (aH rfl (aJ (nLI (z23.1, z23.2) (hi26 _ (sm H2)) (.cons dl2 (.cons dl2 .nil)))))))))))
    ·refine dA (xT (xT (xE (?_))))
     obtain rfl := hb27 _ (sm H2)
     exact nMC (z23.1, z23.2) ⟨rfl, rfl, rfl, rfl, trivial⟩ bT (.cons aA (.cons aA .nil))
   ·intro y24
    show At _ _ [(0, .slice x_v0.1 v0.length x_v0.2), (2, .pointer (some ⟨g2, 0, none⟩)), (3, .slice y24.1 x18.length y24.2), (4, .int .i32 (Q9.2))] _ [box g2 38 [.slice none 0 0, .slice none 0 0], tree (.slice y24.1 x18.length y24.2) x18] _
    exact nB (nT (aP (aF rfl (gdo H1 fun h44 H1 => (aG (v := .int .i32 (Q9.2 + 1)) (p_add32 rfl rfl h44) (aH rfl (aJ (nLI (y24.1, y24.2) (hi13 _ (sm H1)) (.cons aA (.cons aA .nil))))))))))
  ·refine dA (xT (xT (xE (?_))))
   obtain rfl := hb14 _ (sm H1)
   exact nMC (z10.1, z10.2) ⟨rfl, rfl, rfl, trivial⟩ bT (.cons aA (.cons aA .nil))
 ·intro y11
  show At _ _ [(0, .slice x_v0.1 v0.length x_v0.2), (2, .pointer (some ⟨g2, 0, none⟩)), (3, .slice y11.1 x5.length y11.2)] _ [box g2 38 [.slice none 0 0, .slice none 0 0], tree (.slice y11.1 x5.length y11.2) x5] _
  refine nT (sr (aF rfl (bdo H fun r45 h46 H => (f1 (cF (c_spec_l11Names v0 x_v0 h46) (fun _ => (bF bG)) rfl (aC (aL (aS aR)) aO)) fun x47 => (aF rfl (aG (v := .agg #[.slice x47.1 r45.length x47.2, .slice y11.1 x5.length y11.2]) (p_buildS (vs := [(0, .slice x47.1 r45.length x47.2), (1, .slice y11.1 x5.length y11.2)]) (cs := #[.slice x47.1 r45.length x47.2, .slice y11.1 x5.length y11.2]) ty38 pl38 rfl rfl) (stb (cs' := [.slice x47.1 r45.length x47.2, .slice y11.1 x5.length y11.2]) ty38 up1 (nl (bQ ?_)))))))))
  obtain rfl := si H
  exact back1 (x47, y11) rfl (ResV.agg ty38 rfl hs1 rfl) rfl cM (.cons aA (.cons dl1 .nil))
noncomputable def p_spec_l21Open_b0 (v0 : Disk) (Q17 : (List Part) × Int) : Option (((List Part) × Int) ⊕ ((List Part))) := cond (decide (Q17.2 < (v0.2.1.length : Int))) (gd (ix Q17.2 v0.2.1.length) <| bd (p_spec_l21At v0 (nth v0.2.1 Q17.2.toNat)) fun r27 => gd (ix r27 v0.1.length) <| gd (room (Q17.1.length + 1)) <| gd (I64 (Q17.2 + 1)) <| some (.inl ((Q17.1 ++ [(nth v0.1 r27.toNat).2]), Q17.2 + 1))) (some (.inr Q17.1))
noncomputable def p_spec_l21Open (v0 : Disk) : Option (Store) := bd (p_spec_l11Of v0.2.2.1) fun r5 => bd (lp (p_spec_l21Open_b0 v0) (([] : List Part), 0)) fun x13 => some (r5, x13, ([] : List Sample))
theorem c_spec_l21Open {r : Store} (v0 : Disk) (x_v0 : (Option Addr × Nat) × (Option Addr × Nat) × (Option Addr × Nat) × Unit) (H : p_spec_l21Open v0 = some r) : Fn' prog 43 #[.agg #[.slice x_v0.1.1 v0.1.length x_v0.1.2, .slice x_v0.2.1.1 v0.2.1.length x_v0.2.1.2, .slice x_v0.2.2.1.1 v0.2.2.1.length x_v0.2.2.1.2, .int .i64 (v0.2.2.2)]] [imm (.slice x_v0.1.1 v0.1.length x_v0.1.2) v0.1, imm (.slice x_v0.2.1.1 v0.2.1.length x_v0.2.1.2) v0.2.1, imm (.slice x_v0.2.2.1.1 v0.2.2.1.length x_v0.2.2.1.2) v0.2.2.1] [] (ι := ((Option Addr × Nat) × (Option Addr × Nat)) × (Option Addr × Nat) × (Option Addr × Nat)) (fun x => .agg #[.slice x.1.1.1 r.1.1.length x.1.1.2, .slice x.1.2.1 r.1.2.length x.1.2.2, .slice x.2.1.1 r.2.1.length x.2.1.2, .slice x.2.2.1 r.2.2.length x.2.2.2]) (fun x => [imm (.slice x.1.1.1 r.1.1.length x.1.1.2) r.1.1, imm (.slice x.1.2.1 r.1.2.length x.1.2.2) r.1.2, imm (.slice x.2.1.1 r.2.1.length x.2.1.2) r.2.1, imm (.slice x.2.2.1 r.2.2.length x.2.2.2) r.2.2]) (fun _ => []) := by
 refine cof (args := [_]) func43 ntmps43 fun c => ?_
 unfold p_spec_l21Open at H
 refine bM aR fun X1 => (bM aR.s.s.s fun X2 => (sr (f1 (cC (t := 32) rfl) fun g3 => (f1 (cD ty42) fun g4 => (nl (sr (aG (cB fa32_2 rfl rfl) (aI (bI ty30 rfl hs1 rfl) (bdo H fun r5 h6 H => ?_)))))))))
 refine f1 (cF (c_spec_l11Of v0.2.2.1 x_v0.2.2.1 h6) (fun _ => (bF (bF bG))) rfl (aC (aL (aS aR)) aO)) fun x7 => (f2 (e_lit0r Part dU ty75) fun a8 c9 => (f2 (e_lit0 Sample dV ty137) fun a10 c11 => (aG (v := .agg #[.slice x7.1.1 r5.1.length x7.1.2, .slice x7.2.1 r5.2.length x7.2.2, .slice a8 (([] : List Part).length) c9, .slice a10 (([] : List Sample).length) c11]) (p_buildS (vs := [(0, .agg #[.slice x7.1.1 r5.1.length x7.1.2, .slice x7.2.1 r5.2.length x7.2.2]), (1, .slice a8 (([] : List Part).length) c9), (2, .slice a10 (([] : List Sample).length) c11)]) (cs := #[.slice x7.1.1 r5.1.length x7.1.2, .slice x7.2.1 r5.2.length x7.2.2, .slice a8 (([] : List Part).length) c9, .slice a10 (([] : List Sample).length) c11]) ty42 pl42 rfl rfl) (f1 (cD ty42) fun g12 => (stb (cs' := [.slice x7.1.1 r5.1.length x7.1.2, .slice x7.2.1 r5.2.length x7.2.2, .slice a8 (([] : List Part).length) c9, .slice a10 (([] : List Sample).length) c11]) ty42 cZ (nl (aD (sr (aH (v := .int .i64 (0)) rfl (nl (bdo H fun x13 hx14 H => ?_)))))))))))
 refine dB (ι := Option Addr × Nat) (fun ψ => [(2, .pointer (some ⟨g4, 0, none⟩)), (3, .pointer (some ⟨g12, 0, none⟩))]) (fun ψ => [box g4 42 [.slice none 0 0, .slice none 0 0, .slice none 0 0, .slice none 0 0], tree (.slice x7.1.1 r5.1.length x7.1.2) r5.1, tree (.slice x7.2.1 r5.2.length x7.2.2) r5.2, row (.slice ψ.1 x13.length ψ.2) x13, tree (.slice a10 (([] : List Sample).length) c11) ([] : List Sample), box g12 42 [.slice x7.1.1 r5.1.length x7.1.2, .slice x7.2.1 r5.2.length x7.2.2, .slice ψ.1 x13.length ψ.2, .slice a10 (([] : List Sample).length) c11]]) ?_ ?_
 ·refine aQ (dE hx14 (a8, c9) (fun Q17 _ => [(1, .pointer (some ⟨g3, 0, none⟩)), (2, .pointer (some ⟨g4, 0, none⟩)), (3, .pointer (some ⟨g12, 0, none⟩)), (4, .int .i64 (Q17.2))]) (fun Q17 z18 => [box g3 32 [.slice x_v0.1.1 v0.1.length x_v0.1.2, .slice x_v0.2.1.1 v0.2.1.length x_v0.2.1.2, .slice x_v0.2.2.1.1 v0.2.2.1.length x_v0.2.2.1.2, .int .i64 (v0.2.2.2)], box g4 42 [.slice none 0 0, .slice none 0 0, .slice none 0 0, .slice none 0 0], tree (.slice x7.1.1 r5.1.length x7.1.2) r5.1, tree (.slice x7.2.1 r5.2.length x7.2.2) r5.2, row (.slice z18.1 Q17.1.length z18.2) Q17.1, tree (.slice a10 (([] : List Sample).length) c11) ([] : List Sample), box g12 42 [.slice x7.1.1 r5.1.length x7.1.2, .slice x7.2.1 r5.2.length x7.2.2, .slice z18.1 Q17.1.length z18.2, .slice a10 (([] : List Sample).length) c11]]) (.cons (dl5t dl1) (.cons dl5 (.cons dl3 (.cons dl3 (.cons dl2 (.cons dl1 (.cons aA .nil))))))) ?_)
  rintro _ Q17 z18 t20 H1 hi21 hb22
  unfold p_spec_l21Open_b0 at H1
  refine aD (sr (aF rfl (aG (cB fa32_1 rfl rfl) (aI (bI ty23 rfl aB rfl) (aG (bS 3 dP rfl) (aG (cP rfl rfl) (nl (cH H1 rfl (fun h25 H1 => ?_) (fun h25 H1 => ?_)))))))))
  ·refine bH (nT (aD (aQ (dG [(1, .pointer (some ⟨g3, 0, none⟩)), (2, .pointer (some ⟨g4, 0, none⟩)), (3, .pointer (some ⟨g12, 0, none⟩)), (4, .int .i64 (Q17.2))] 1 [0, 1, 2, 3, 4, 5, 6, 7, 8, 9, 10, 11, 12, 13, 14, 15, 16, 17] [14, 15, 17] [] mixed (by kernel_rfl) (by decide) dI ⟨rfl, rfl, rfl, rfl, trivial⟩ rfl okNil (w_p rfl (cB fa42_1 rfl rfl) ?_)))))
   refine w_o rfl (fun F => (bI ty39 rfl ((hs5t hs1).app F) rfl)) (w_p rfl (cB fa32_0 rfl rfl) ?_)
   refine w_o rfl (fun F => (bI ty29 rfl (aB.app F) rfl)) ?_
   refine w_o rfl (fun F => (bJ ty32 rfl (aB.app F) rfl)) (w_p rfl (cB fa32_1 rfl rfl) ?_)
   refine w_o rfl (fun F => (bI ty23 rfl (aB.app F) rfl)) (w_p rfl (aE rfl) (gdo H1 fun h26 H1 => ?_))
   refine w_o rfl (fun F => (bW dP ty3 rfl rfl h26 rfl (aN (aL aR.s.s.s)))) ?_
   refine w_o rfl (fun F => (bZ (i := Q17.2.toNat) (j := 0) ty3 rfl (aN (aL aR.s.s.s)) h26.lt rfl)) (bdo H1 fun r27 h28 H1 => ?_)
   refine w_o rfl (fun F => (bN (c_spec_l21At v0 (x_v0.1, x_v0.2.1, x_v0.2.2.1, ()) (nth v0.2.1 Q17.2.toNat) h28) rfl (aC (aL (aS aR.s)) (aC (aL aR.s.s.s) (aC (aL (aS aR)) aO))))) (gdo H1 fun h29 H1 => ?_)
   refine w_o rfl (fun F => (bW dR ty77 rfl rfl h29 rfl (aL (aT aR.s)))) ?_
   refine w_o rfl (fun F => (bY (j := 0) r27.toNat fa77_1 rfl (aL (aT aR.s)) h29.lt rfl)) ?_
   refine w_o (v := .agg #[.slice ((((X1 r27.toNat).2).1).1) ((((nth v0.1 r27.toNat).2).1).length) ((((X1 r27.toNat).2).1).2.1), .slice ((((X1 r27.toNat).2).2).1) ((((nth v0.1 r27.toNat).2).2).length) ((((X1 r27.toNat).2).2).2.1)]) rfl (fun F => (q_ldeP [.slice ((((X1 r27.toNat).2).1).1) ((((nth v0.1 r27.toNat).2).1).length) ((((X1 r27.toNat).2).1).2.1), .slice ((((X1 r27.toNat).2).2).1) ((((nth v0.1 r27.toNat).2).2).length) ((((X1 r27.toNat).2).2).2.1)] (l := v0.1) (E := fun i => Dp.denc (nth v0.1 i) (X1 i)) (oa := x_v0.1.1) (i := r27.toNat) (j := 1) ty75 rfl (aL (aT aR.s)) h29.lt rfl rfl)) (cJ rfl (by decide) rfl cN rfl (n_lit (vs := [(0, .agg #[.slice ((((X1 r27.toNat).2).1).1) ((((nth v0.1 r27.toNat).2).1).length) ((((X1 r27.toNat).2).1).2.1), .slice ((((X1 r27.toNat).2).2).1) ((((nth v0.1 r27.toNat).2).2).length) ((((X1 r27.toNat).2).2).2.1)])]) [.slice ((((X1 r27.toNat).2).1).1) ((((nth v0.1 r27.toNat).2).1).length) ((((X1 r27.toNat).2).1).2.1), .slice ((((X1 r27.toNat).2).2).1) ((((nth v0.1 r27.toNat).2).2).length) ((((X1 r27.toNat).2).2).2.1)] dU ty75 rfl (by decide) (by decide) (by kernel_rfl)) ?_)
   rintro _ _ _ ⟨g30, rfl, rfl, rfl⟩
   refine ⟨(aM (by kernel_rfl) (bV rfl rfl (fun F => (bY (j := 0) r27.toNat fa77_1 rfl (aL (aT aR.s)) h29.lt rfl)) (bV rfl rfl (fun F => (bW dR ty77 rfl rfl h29 rfl (aL (aT aR.s)))) (bV rfl rfl (fun F => (bN (c_spec_l21At v0 (x_v0.1, x_v0.2.1, x_v0.2.2.1, ()) (nth v0.2.1 Q17.2.toNat) h28) rfl (aC (aL (aS aR.s)) (aC (aL aR.s.s.s) (aC (aL (aS aR)) aO))))) (bV rfl rfl (fun F => (bZ (i := Q17.2.toNat) (j := 0) ty3 rfl (aN (aL aR.s.s.s)) h26.lt rfl)) (bV rfl rfl (fun F => (bW dP ty3 rfl rfl h26 rfl (aN (aL aR.s.s.s)))) (bV rfl rfl (fun F => (bI ty23 rfl (hs1.app F) rfl)) (bV rfl rfl (fun F => (bJ ty32 rfl (hs1.app F) rfl)) (bV rfl rfl (fun F => (bI ty29 rfl (hs1.app F) rfl)) (bV rfl rfl (fun F => (bI ty39 rfl ((hs5t hs2).app F) rfl)) bU)))))))))), ?_⟩
   refine gdo H1 fun h33 H1 => (cJ rfl (by decide) rfl cN rfl (n_app1R (l := Q17.1) (α := Part) ((nth v0.1 r27.toNat).2) (((((X1 r27.toNat).2).1).1, (((X1 r27.toNat).2).1).2.1), ((((X1 r27.toNat).2).2).1, (((X1 r27.toNat).2).2).2.1)) dU ty75 rfl rfl (h33.b (by decide)) h33.x rfl (.cons dl5 (.cons aA .nil)) (cL (aS (aV (aU (aW aR.s h29.lt)))) (cL (aS (aU (aU (aW aR.s h29.lt)))) cM))) ?_)
   rintro _ _ _ ⟨a31, c32, rfl, rfl, rfl⟩
   refine ⟨(bV rfl rfl (fun F => (q_ldeP [.slice ((((X1 r27.toNat).2).1).1) ((((nth v0.1 r27.toNat).2).1).length) ((((X1 r27.toNat).2).1).2.1), .slice ((((X1 r27.toNat).2).2).1) ((((nth v0.1 r27.toNat).2).2).length) ((((X1 r27.toNat).2).2).2.1)] (l := v0.1) (E := fun i => Dp.denc (nth v0.1 i) (X1 i)) (oa := x_v0.1.1) (i := r27.toNat) (j := 1) ty75 rfl (aL (aT aR.s)) h29.lt rfl rfl)) (bV rfl rfl (fun F => (bY (j := 0) r27.toNat fa77_1 rfl (aL (aT aR.s)) h29.lt rfl)) (bV rfl rfl (fun F => (bW dR ty77 rfl rfl h29 rfl (aL (aT aR.s)))) (aM (by kernel_rfl) (bV rfl rfl (fun F => (bZ (i := Q17.2.toNat) (j := 0) ty3 rfl (aN (aL aR.s.s.s)) h26.lt rfl)) (bV rfl rfl (fun F => (bW dP ty3 rfl rfl h26 rfl (aN (aL aR.s.s.s)))) (bV rfl rfl (fun F => (bI ty23 rfl (hs1.app F) rfl)) (bV rfl rfl (fun F => (bJ ty32 rfl (hs1.app F) rfl)) (bV rfl rfl (fun F => (bI ty29 rfl (hs1.app F) rfl)) (aM (by kernel_rfl) bU)))))))))), ?_⟩
   refine w_p rfl (cB fa42_1 rfl rfl) (w_en rfl rfl cN rfl (n_store (cs' := [.slice x7.1.1 r5.1.length x7.1.2, .slice x7.2.1 r5.2.length x7.2.2, .slice a31 ((Q17.1 ++ [(nth v0.1 r27.toNat).2]).length) c32, .slice a10 (([] : List Sample).length) c11]) ty39 rfl rfl (up5t up1) rfl (one_of rfl) (Nat.le_of_ble_eq_true rfl) rfl) ?_)
   rintro _ _ _ ⟨rfl, rfl, rfl⟩
   refine ⟨(aM (by kernel_rfl) (aM (by kernel_rfl) (aM (by kernel_rfl) (aM (by kernel_rfl) (aM (by kernel_rfl) (aM (by kernel_rfl) (aM (by kernel_rfl) (aM (by kernel_rfl) (aM (by kernel_rfl) (aM (by kernel_rfl) bU)))))))))), ?_⟩
   refine cK ?_
   show At _ _ _ _ _ _
   exact nB (nT (aP (aF rfl (gdo H1 fun h34 H1 => (aG (bR rfl rfl h34) (aH rfl (aJ (nLI (a31, c32) (hi21 _ (sm H1)) (.cons dl1 (.cons dl1 (.cons dl1 (.cons dl1 (.cons aA (.cons aA (.cons aA .nil)))))))))))))))
  ·refine dA (xT (xT (xE (?_))))
   obtain rfl := hb22 _ (sm H1)
   exact nMC (z18.1, z18.2) ⟨rfl, rfl, trivial⟩ bT (.cons dl1 (.cons dl1 (.cons dl1 (.cons dl1 (.cons dl1 (.cons dl1 .nil))))))
 ·intro y19
  show At _ _ [(2, .pointer (some ⟨g4, 0, none⟩)), (3, .pointer (some ⟨g12, 0, none⟩))] _ [box g4 42 [.slice none 0 0, .slice none 0 0, .slice none 0 0, .slice none 0 0], tree (.slice x7.1.1 r5.1.length x7.1.2) r5.1, tree (.slice x7.2.1 r5.2.length x7.2.2) r5.2, row (.slice y19.1 x13.length y19.2) x13, tree (.slice a10 (([] : List Sample).length) c11) ([] : List Sample), box g12 42 [.slice x7.1.1 r5.1.length x7.1.2, .slice x7.2.1 r5.2.length x7.2.2, .slice y19.1 x13.length y19.2, .slice a10 (([] : List Sample).length) c11]] _
  refine nT (sr (aI (bJ ty42 rfl hs5 rfl) (stb (cs' := [.slice x7.1.1 r5.1.length x7.1.2, .slice x7.2.1 r5.2.length x7.2.2, .slice y19.1 x13.length y19.2, .slice a10 (([] : List Sample).length) c11]) ty42 cZ (nl (Tr.freeze (.cons dl1 .nil) (Tr.freeze (.cons dl1 .nil) (Tr.freezeR (.cons dl1 .nil) (Tr.freeze (.cons dl1 .nil) (bQ ?_)))))))))
  obtain rfl := si H
  exact back1 (x7, y19, (a10, c11)) rfl (ResV.agg ty42 rfl aB rfl) rfl (cL aR.s.s.s (cL aR.s.s (cL aR.s (cL aR cM)))) bK
noncomputable def p_spec_l3Tag (v0 : Tag) : Option (Bool) := bd (cond (decide ((v0.1.size : Int) = 1)) (cond (decide ((v0.2.size : Int) = 1)) (gd (ix 0 v0.1.size) <| bd (p_spec_l6In ((sb v0.1 0).toNat : Int) 97 100) fun r7 => cond (r7) (gd (ix 0 v0.2.size) <| bd (p_spec_l6In ((sb v0.2 0).toNat : Int) 112 122) fun r11 => some (r11)) (some (false))) (some (false))) (some (false))) fun b2 => some b2
theorem c_spec_l3Tag {r : Bool} (v0 : Tag) (H : p_spec_l3Tag v0 = some r) : Fn' prog 183 #[.agg #[.string (v0.1), .string (v0.2)]] [] [] (ι := Unit) (fun _ => .bool (r)) (fun _ => []) (fun _ => []) := by
 refine cof (args := [_]) func183 ntmps183 fun c => ?_
 unfold p_spec_l3Tag at H
 refine sr (f1 (cC (t := 172) rfl) fun g1 => (aH (v := .bool (false)) rfl (nl (bdo H fun b2 j3 H => (dD [(2, .bool (b2))] ?_ ?_)))))
 ·refine dH [(1, .pointer (some ⟨g1, 0, none⟩))] ⟨rfl, trivial⟩ (aX (cB fa172_0 rfl rfl) (aZ (bI ty9 rfl aB rfl) (aX (p_slen dZ rfl) (aX (cS rfl rfl) ?_))))
  rcases aK (decide ((v0.1.size : Int) = 1)) with h4 | h4
  ·have j3 := cdT h4 j3
   refine bC (aE rfl) h4 (aY rfl (cB fa172_1 rfl rfl) (bA rfl (bI ty9 rfl aB rfl) (aY rfl (p_slen dZ rfl) (aY rfl (cS rfl rfl) (aX (bP rfl rfl) ?_)))))
   rcases aK (decide ((v0.2.size : Int) = 1)) with h5 | h5
   ·have j3 := cdT h5 j3
    refine bC (aE rfl) h5 (aY rfl (cB fa172_0 rfl rfl) (bA rfl (bI ty9 rfl aB rfl) (gdo j3 fun h6 j3 => (aY rfl (p_six dZ rfl rfl h6) (aY rfl (p_i8 underlying5 underlying3 rfl) (bdo j3 fun r7 h8 j3 => (bA rfl (bN (c_spec_l6In ((sb v0.1 0).toNat : Int) 97 100 h8) rfl aO) (aX (bP rfl rfl) ?_))))))))
    rcases aK (r7) with h9 | h9
    ·have j3 := cdT h9 j3
     refine bC (aE rfl) h9 (aY rfl (cB fa172_1 rfl rfl) (bA rfl (bI ty9 rfl aB rfl) (gdo j3 fun h10 j3 => (aY rfl (p_six dZ rfl rfl h10) (aY rfl (p_i8 underlying5 underlying3 rfl) (bdo j3 fun r11 h12 j3 => (bA rfl (bN (c_spec_l6In ((sb v0.2 0).toNat : Int) 112 122 h12) rfl aO) (aX (bP rfl rfl) (aX (p_assign rfl) ?_)))))))))
     obtain rfl := si j3
     show At _ _ _ _ _ _
     exact n1 ⟨rfl, trivial⟩
    ·have j3 := cdF h9 j3
     refine bC (aE rfl) h9 ?_
     iterate 5 refine bE rfl ?_
     refine aX (v := .bool (false)) (bO rfl rfl) (aX (v := .bool (false)) (p_assign rfl) ?_)
     obtain rfl := si j3
     show At _ _ _ _ _ _
     exact n1 ⟨rfl, trivial⟩
   ·have j3 := cdF h5 j3
    refine bC (aE rfl) h5 ?_
    iterate 5 refine bE rfl ?_
    refine aX (v := .bool (false)) (bO rfl rfl) (bB (v := .bool (false)) rfl ?_)
    iterate 5 refine bE rfl ?_
    refine aX (v := .bool (false)) (bO rfl rfl) (aX (v := .bool (false)) (p_assign rfl) ?_)
    obtain rfl := si j3
    show At _ _ _ _ _ _
    exact n1 ⟨rfl, trivial⟩
  ·have j3 := cdF h4 j3
   refine bC (aE rfl) h4 ?_
   iterate 4 refine bE rfl ?_
   refine aX (v := .bool (false)) (bO rfl rfl) (bB (v := .bool (false)) rfl ?_)
   iterate 5 refine bE rfl ?_
   refine aX (v := .bool (false)) (bO rfl rfl) (bB (v := .bool (false)) rfl ?_)
   iterate 5 refine bE rfl ?_
   refine aX (v := .bool (false)) (bO rfl rfl) (aX (v := .bool (false)) (p_assign rfl) ?_)
   obtain rfl := si j3
   show At _ _ _ _ _ _
   exact n1 ⟨rfl, trivial⟩
 obtain rfl := si H
 exact bQ bk
noncomputable def p_spec_NameOk_b0 (v0 : (List Tag)) (Q5 : Int) : Option ((Int) ⊕ (Unit ⊕ Bool)) := cond (decide (Q5 < (v0.length : Int))) (bd (gd (ix Q5 v0.length) <| bd (p_spec_l3Tag (nth v0 Q5.toNat)) fun r17 => cond (!r17) (some (true)) (cond (decide (0 < Q5)) (gd (I64 (Q5 - 1)) <| gd (ix (Q5 - 1) v0.length) <| some (!sless ((nth v0 ((Q5 - 1).toNat)).1) ((nth v0 Q5.toNat).1))) (some (false)))) fun b14 => cond (b14) (some (.inr (.inr false))) (gd (I64 (Q5 + 1)) <| some (.inl (Q5 + 1)))) (some (.inr (.inl ())))
noncomputable def p_spec_NameOk (v0 : (List Tag)) : Option (Bool) := bd (lp (p_spec_NameOk_b0 v0) 0) <| sw (fun _ => bd (p_spec_l6In (v0.length : Int) 1 3) fun r26 => some r26) (fun q => some q)
theorem c_spec_NameOk {r : Bool} (v0 : (List Tag)) (x_v0 : Option Addr × Nat) (H : p_spec_NameOk v0 = some r) : Fn' prog 150 #[.slice x_v0.1 v0.length x_v0.2] [imm (.slice x_v0.1 v0.length x_v0.2) v0] [] (ι := Unit) (fun _ => .bool (r)) (fun _ => []) (fun _ => []) := by
 refine cof (args := [_]) func150 ntmps150 fun c => ?_
 unfold p_spec_NameOk at H
 refine sr (aH (v := .bool (false)) rfl (nl (aD (sr (aH (v := .int .i64 (0)) rfl (nl (bdo H fun x1 hx2 H => (dC (Λ := Unit) H (fun _ _ => [(0, .slice x_v0.1 v0.length x_v0.2)]) (fun _ _ => []) ?_ ?_))))))))
 ·refine aQ (dE hx2 () (fun Q5 _ => [(0, .slice x_v0.1 v0.length x_v0.2), (3, .int .i64 (Q5))]) (fun _ _ => []) bK ?_)
  rintro _ Q5 z6 t8 H1 hi9 hb10
  unfold p_spec_NameOk_b0 at H1
  refine aD (sr (aF rfl (aF rfl (aG (bS 172 dM rfl) (aG (cP rfl rfl) (nl (cH H1 rfl (fun h13 H1 => ?_) (fun h13 H1 => ?_))))))))
  ·refine bH (nT (aD (aQ (bdo H1 fun b14 j15 H1 => (dD [(33, .bool (b14)), (0, .slice x_v0.1 v0.length x_v0.2), (3, .int .i64 (Q5))] ?_ ?_)))))
   ·refine dF [(0, .slice x_v0.1 v0.length x_v0.2), (3, .int .i64 (Q5))] mixed (.inr (by kernel_rfl)) ⟨rfl, rfl, trivial⟩ rfl (bB rfl (bB rfl (gdo j15 fun h16 j15 => (aZ (bW dM ty172 rfl rfl h16 rfl (aN (aL aR))) (aZ (v := .agg #[.string ((nth v0 Q5.toNat).1), .string ((nth v0 Q5.toNat).2)]) (cA (i := Q5.toNat) ty172 rfl (aN (aL aR)) h16.lt) (bdo j15 fun r17 h18 j15 => (aZ (bN (c_spec_l3Tag (nth v0 Q5.toNat) h18) rfl aO) (aX (cV rfl) ?_))))))))
    rcases aK (!r17) with h19 | h19
    ·have j15 := cdT h19 j15
     refine bC (aE rfl) h19 ?_
     iterate 16 refine bE rfl ?_
     refine aX (v := .bool (true)) (bP rfl rfl) ?_
     obtain rfl := si j15
     show At _ _ _ _ _ _
     exact n1 ⟨rfl, rfl, rfl, trivial⟩
    ·have j15 := cdF h19 j15
     refine bC (aE rfl) h19 (aY rfl (aE rfl) (aY rfl (cU rfl rfl) ?_))
     rcases aK (decide (0 < Q5)) with h20 | h20
     ·have j15 := cdT h20 j15
      refine bD rfl (aE rfl) h20 (aY rfl (aE rfl) (aY rfl (aE rfl) (gdo j15 fun h21 j15 => (aY rfl (cQ rfl rfl h21) (gdo j15 fun h22 j15 => (bA rfl (bW dM ty172 rfl rfl h22 rfl (aN (aL aR))) (bA rfl (bY (j := 0) ((Q5 - 1).toNat) fa172_0 rfl (aN (aL aR)) h22.lt rfl) (bA rfl (bZ (i := (Q5 - 1).toNat) (j := 0) ty9 rfl (aN (aL aR)) h22.lt rfl) (aY rfl (aE rfl) ?_)))))))))
      refine aY rfl (aE rfl) (bA rfl (bW dM ty172 rfl rfl h16 rfl (aN (aL aR))) (bA rfl (bY (j := 0) Q5.toNat fa172_0 rfl (aN (aL aR)) h16.lt rfl) (bA rfl (bZ (i := Q5.toNat) (j := 0) ty9 rfl (aN (aL aR)) h16.lt rfl) (aY rfl (p_sgeq rfl rfl) (aY rfl (bP rfl rfl) (aX (bO rfl rfl) ?_))))))
      obtain rfl := si j15
      show At _ _ _ _ _ _
      exact n1 ⟨rfl, rfl, rfl, trivial⟩
     ·have j15 := cdF h20 j15
      refine bD rfl (aE rfl) h20 ?_
      iterate 12 refine bE rfl ?_
      refine aY (v := .bool (false)) rfl (bO rfl rfl) (aX (v := .bool (false)) (bO rfl rfl) ?_)
      obtain rfl := si j15
      show At _ _ _ _ _ _
      exact n1 ⟨rfl, rfl, rfl, trivial⟩
   refine cH H1 rfl (fun h23 H1 => ?_) (fun h23 H1 => ?_)
   ·refine sr (aH (v := .bool (false)) rfl (nl (bQ (rB (rT (rT (rB (rT (rT (?_))))))))))
    obtain rfl := hb10 _ (sm H1)
    replace H := sw.r H
    obtain rfl := si H
    exact bk
   ·exact bH (nB (nT (aP (aF rfl (gdo H1 fun h24 H1 => (aG (bR rfl rfl h24) (aH rfl (aJ (nLI () (hi9 _ (sm H1)) bK)))))))))
  ·exact dA (xT (xT (xE (nMI () (hb10 _ (sm H1)) bK))))
 ·rintro e25 y7 H
  refine nT (sr (aF rfl (aG (bS 172 dM rfl) (bdo H fun r26 h27 H => (aI (bN (c_spec_l6In (v0.length : Int) 1 3 h27) rfl aO) (aH rfl (nl ?_)))))))
  obtain rfl := si H
  exact bQ bk
noncomputable def p_spec_l3Text_b0 (v0 : (List Tag)) (Q5 : ByteArray × Int) : Option ((ByteArray × Int) ⊕ (ByteArray)) := cond (decide (Q5.2 < (v0.length : Int))) (cond (decide (0 < Q5.2)) (gd (room (Q5.1.size + (⟨#[44]⟩ : ByteArray).size)) <| gd (ix Q5.2 v0.length) <| gd (room ((Q5.1 ++ (⟨#[44]⟩ : ByteArray)).size + ((nth v0 Q5.2.toNat).1).size)) <| gd (room (((Q5.1 ++ (⟨#[44]⟩ : ByteArray)) ++ ((nth v0 Q5.2.toNat).1)).size + (⟨#[61]⟩ : ByteArray).size)) <| gd (room ((((Q5.1 ++ (⟨#[44]⟩ : ByteArray)) ++ ((nth v0 Q5.2.toNat).1)) ++ (⟨#[61]⟩ : ByteArray)).size + ((nth v0 Q5.2.toNat).2).size)) <| gd (I64 (Q5.2 + 1)) <| some (.inl ((((Q5.1 ++ (⟨#[44]⟩ : ByteArray)) ++ ((nth v0 Q5.2.toNat).1)) ++ (⟨#[61]⟩ : ByteArray)) ++ ((nth v0 Q5.2.toNat).2), Q5.2 + 1))) (gd (ix Q5.2 v0.length) <| gd (room (Q5.1.size + ((nth v0 Q5.2.toNat).1).size)) <| gd (room ((Q5.1 ++ ((nth v0 Q5.2.toNat).1)).size + (⟨#[61]⟩ : ByteArray).size)) <| gd (room (((Q5.1 ++ ((nth v0 Q5.2.toNat).1)) ++ (⟨#[61]⟩ : ByteArray)).size + ((nth v0 Q5.2.toNat).2).size)) <| gd (I64 (Q5.2 + 1)) <| some (.inl (((Q5.1 ++ ((nth v0 Q5.2.toNat).1)) ++ (⟨#[61]⟩ : ByteArray)) ++ ((nth v0 Q5.2.toNat).2), Q5.2 + 1)))) (some (.inr Q5.1))
noncomputable def p_spec_l3Text (v0 : (List Tag)) : Option (ByteArray) := bd (lp (p_spec_l3Text_b0 v0) ((⟨#[]⟩ : ByteArray), 0)) fun x1 => some x1
theorem c_spec_l3Text {r : ByteArray} (v0 : (List Tag)) (x_v0 : Option Addr × Nat) (H : p_spec_l3Text v0 = some r) : Fn' prog 132 #[.slice x_v0.1 v0.length x_v0.2] [imm (.slice x_v0.1 v0.length x_v0.2) v0] [] (ι := Unit) (fun _ => .string (r)) (fun _ => []) (fun _ => []) := by
 refine cof (args := [_]) func132 ntmps132 fun c => ?_
 unfold p_spec_l3Text at H
 refine sr (aH (v := .string ((⟨#[]⟩ : ByteArray))) rfl (nl (sr (aH (v := .string ((⟨#[]⟩ : ByteArray))) rfl (nl (aD (sr (aH (v := .int .i64 (0)) rfl (nl (bdo H fun x1 hx2 H => (dB (ι := Unit) (fun ψ => [(3, .string (x1))]) (fun ψ => []) ?_ ?_)))))))))))
 ·refine aQ (dE hx2 () (fun Q5 _ => [(0, .slice x_v0.1 v0.length x_v0.2), (3, .string (Q5.1)), (4, .int .i64 (Q5.2))]) (fun _ _ => []) bK ?_)
  rintro _ Q5 z6 t8 H1 hi9 hb10
  unfold p_spec_l3Text_b0 at H1
  refine aD (sr (aF rfl (aF rfl (aG (bS 172 dM rfl) (aG (cP rfl rfl) (nl (cH H1 rfl (fun h13 H1 => ?_) (fun h13 H1 => ?_))))))))
  ·refine bH (nT (aD (aQ (aD (sr (aF rfl (aG (cU rfl rfl) (nl (cH H1 rfl (fun h14 H1 => ?_) (fun h14 H1 => ?_))))))))))
   ·refine aP (aF rfl (gdo H1 fun h15 H1 => (aG (p_cat rfl rfl h15) (aH rfl (nl (tNwL [(3, .string (Q5.1 ++ (⟨#[44]⟩ : ByteArray))), (0, .slice x_v0.1 v0.length x_v0.2), (4, .int .i64 (Q5.2))] 1 [0, 1, 2, 3, 4, 5, 6, 7, 8, 9, 10, 11, 12, 13] [] [] mixed rfl (by kernel_rfl) (by kernel_rfl) (by decide) dI ⟨rfl, rfl, rfl, trivial⟩ rfl okNil (w_p rfl (aE rfl) (w_p rfl (aE rfl) (w_p rfl (aE rfl) (gdo H1 fun h16 H1 => ?_))))))))))
    refine w_o rfl (fun F => (bW dM ty172 rfl rfl h16 rfl (aN (aL aR)))) ?_
    refine w_o rfl (fun F => (bY (j := 0) Q5.2.toNat fa172_0 rfl (aN (aL aR)) h16.lt rfl)) ?_
    refine w_o rfl (fun F => (bZ (i := Q5.2.toNat) (j := 0) ty9 rfl (aN (aL aR)) h16.lt rfl)) (gdo H1 fun h17 H1 => (w_p rfl (p_cat rfl rfl h17) (gdo H1 fun h18 H1 => (w_p rfl (p_cat rfl rfl h18) (w_p rfl (aE rfl) (w_p rfl (aE rfl) ?_))))))
    refine w_o rfl (fun F => (bW dM ty172 rfl rfl h16 rfl (aN (aL aR)))) ?_
    refine w_o rfl (fun F => (bY (j := 0) Q5.2.toNat fa172_1 rfl (aN (aL aR)) h16.lt rfl)) ?_
    refine w_o rfl (fun F => (bZ (i := Q5.2.toNat) (j := 1) ty9 rfl (aN (aL aR)) h16.lt rfl)) (gdo H1 fun h19 H1 => (w_p rfl (p_cat rfl rfl h19) (cK ?_)))
    show Rg _ _ _ _ _ _ _ _ _
    exact aH rfl (aJ (nB (nT (aP (aF rfl (gdo H1 fun h20 H1 => (aG (bR rfl rfl h20) (aH rfl (aJ (nLI () (hi9 _ (sm H1)) bK))))))))))
   ·refine bH (nT (tNwL [(0, .slice x_v0.1 v0.length x_v0.2), (3, .string (Q5.1)), (4, .int .i64 (Q5.2))] 1 [0, 1, 2, 3, 4, 5, 6, 7, 8, 9, 10, 11, 12, 13] [] [] mixed rfl (by kernel_rfl) (by kernel_rfl) (by decide) dI ⟨rfl, rfl, rfl, trivial⟩ rfl okNil (w_p rfl (aE rfl) (w_p rfl (aE rfl) (w_p rfl (aE rfl) (gdo H1 fun h21 H1 => ?_))))))
    refine w_o rfl (fun F => (bW dM ty172 rfl rfl h21 rfl (aN (aL aR)))) ?_
    refine w_o rfl (fun F => (bY (j := 0) Q5.2.toNat fa172_0 rfl (aN (aL aR)) h21.lt rfl)) ?_
    refine w_o rfl (fun F => (bZ (i := Q5.2.toNat) (j := 0) ty9 rfl (aN (aL aR)) h21.lt rfl)) (gdo H1 fun h22 H1 => (w_p rfl (p_cat rfl rfl h22) (gdo H1 fun h23 H1 => (w_p rfl (p_cat rfl rfl h23) (w_p rfl (aE rfl) (w_p rfl (aE rfl) ?_))))))
    refine w_o rfl (fun F => (bW dM ty172 rfl rfl h21 rfl (aN (aL aR)))) ?_
    refine w_o rfl (fun F => (bY (j := 0) Q5.2.toNat fa172_1 rfl (aN (aL aR)) h21.lt rfl)) ?_
    refine w_o rfl (fun F => (bZ (i := Q5.2.toNat) (j := 1) ty9 rfl (aN (aL aR)) h21.lt rfl)) (gdo H1 fun h24 H1 => (w_p rfl (p_cat rfl rfl h24) (cK ?_)))
    show Rg _ _ _ _ _ _ _ _ _
    exact aH rfl (aJ (nB (nT (aP (aF rfl (gdo H1 fun h25 H1 => (aG (bR rfl rfl h25) (aH rfl (aJ (nLI () (hi9 _ (sm H1)) bK))))))))))
  ·refine dA (xT (xT (xE (?_))))
   obtain rfl := hb10 _ (sm H1)
   exact nMC () ⟨rfl, trivial⟩ bT bK
 ·intro y7
  show At _ _ [(3, .string (x1))] _ [] _
  refine nT (sr (aF rfl (aH rfl (nl ?_))))
  obtain rfl := si H
  exact bQ bk
noncomputable def p_spec_l11Less (v0 : Tag) (v1 : Tag) : Option (Bool) := bd (cond (sless v0.1 v1.1) (some (true)) (cond (decide (v0.1 = v1.1)) (some (sless v0.2 v1.2)) (some (false)))) fun b3 => some b3
theorem c_spec_l11Less {r : Bool} (v0 : Tag) (v1 : Tag) (H : p_spec_l11Less v0 v1 = some r) : Fn' prog 153 #[.agg #[.string (v0.1), .string (v0.2)], .agg #[.string (v1.1), .string (v1.2)]] [] [] (ι := Unit) (fun _ => .bool (r)) (fun _ => []) (fun _ => []) := by
 refine cof (args := [_, _]) func153 ntmps153 fun c => ?_
 unfold p_spec_l11Less at H
 refine sr (f1 (cC (t := 172) rfl) fun g1 => (f1 (cC (t := 172) rfl) fun g2 => (aH (v := .bool (false)) rfl (nl (bdo H fun b3 j4 H => (dD [(4, .bool (b3))] ?_ ?_))))))
 ·refine dH [(3, .pointer (some ⟨g2, 0, none⟩)), (2, .pointer (some ⟨g1, 0, none⟩))] ⟨rfl, rfl, trivial⟩ (aX (cB fa172_0 rfl rfl) (aZ (bI ty9 rfl hs1 rfl) (aX (cB fa172_0 rfl rfl) (aZ (bI ty9 rfl aB rfl) (aX (p_slss rfl rfl) ?_)))))
  rcases aK (sless v0.1 v1.1) with h5 | h5
  ·have j4 := cdT h5 j4
   refine bC (aE rfl) h5 ?_
   iterate 12 refine bE rfl ?_
   refine aX (v := .bool (true)) (bP rfl rfl) (aX (v := .bool (true)) (p_assign rfl) ?_)
   obtain rfl := si j4
   show At _ _ _ _ _ _
   exact n1 ⟨rfl, trivial⟩
  ·have j4 := cdF h5 j4
   refine bC (aE rfl) h5 (aY rfl (cB fa172_0 rfl rfl) (bA rfl (bI ty9 rfl hs1 rfl) (aY rfl (cB fa172_0 rfl rfl) (bA rfl (bI ty9 rfl aB rfl) (aY rfl (p_seql rfl rfl) ?_)))))
   rcases aK (decide (v0.1 = v1.1)) with h6 | h6
   ·have j4 := cdT h6 j4
    refine bD rfl (aE rfl) h6 (aY rfl (cB fa172_1 rfl rfl) (bA rfl (bI ty9 rfl hs1 rfl) (aY rfl (cB fa172_1 rfl rfl) (bA rfl (bI ty9 rfl aB rfl) (aY rfl (p_slss rfl rfl) (aY rfl (bP rfl rfl) (aX (bO rfl rfl) (aX (p_assign rfl) ?_))))))))
    obtain rfl := si j4
    show At _ _ _ _ _ _
    exact n1 ⟨rfl, trivial⟩
   ·have j4 := cdF h6 j4
    refine bD rfl (aE rfl) h6 ?_
    iterate 5 refine bE rfl ?_
    refine aY (v := .bool (false)) rfl (bO rfl rfl) (aX (v := .bool (false)) (bO rfl rfl) (aX (v := .bool (false)) (p_assign rfl) ?_))
    obtain rfl := si j4
    show At _ _ _ _ _ _
    exact n1 ⟨rfl, trivial⟩
 obtain rfl := si H
 exact bQ bk
noncomputable def p_spec_l11Same_b0 (v0 : (List Int)) (v1 : (List Int)) (Q6 : Int) : Option ((Int) ⊕ (Unit ⊕ Bool)) := cond (decide (Q6 < (v0.length : Int))) (gd (ix Q6 v0.length) <| gd (ix Q6 v1.length) <| cond (!decide ((nth v0 Q6.toNat) = (nth v1 Q6.toNat))) (some (.inr (.inr false))) (gd (I64 (Q6 + 1)) <| some (.inl (Q6 + 1)))) (some (.inr (.inl ())))
noncomputable def p_spec_l11Same (v0 : (List Int)) (v1 : (List Int)) : Option (Bool) := cond (!decide ((v0.length : Int) = (v1.length : Int))) (some false) (bd (lp (p_spec_l11Same_b0 v0 v1) 0) <| sw (fun _ => some true) (fun q => some q))
theorem c_spec_l11Same {r : Bool} (v0 : (List Int)) (x_v0 : Option Addr × Nat) (v1 : (List Int)) (x_v1 : Option Addr × Nat) (H : p_spec_l11Same v0 v1 = some r) : Fn' prog 151 #[.slice x_v0.1 v0.length x_v0.2, .slice x_v1.1 v1.length x_v1.2] [imm (.slice x_v0.1 v0.length x_v0.2) v0, imm (.slice x_v1.1 v1.length x_v1.2) v1] [] (ι := Unit) (fun _ => .bool (r)) (fun _ => []) (fun _ => []) := by
 refine cof (args := [_, _]) func151 ntmps151 fun c => ?_
 unfold p_spec_l11Same at H
 refine sr (aH (v := .bool (false)) rfl (nl (aD (sr (aF rfl (aG (bS 3 dP rfl) (aF rfl (aG (bS 3 dP rfl) (aG (cR rfl rfl) (nl (cH H rfl (fun h1 H => ?_) (fun h1 H => ?_))))))))))))
 ·refine sr (aH (v := .bool (false)) rfl (nl (bQ (rT (?_)))))
  obtain rfl := si H
  exact bk
 ·refine bH (nT (aD (sr (aH (v := .int .i64 (0)) rfl (nl (bdo H fun x2 hx3 H => (dC (Λ := Unit) H (fun _ _ => []) (fun _ _ => []) ?_ ?_)))))))
  ·refine aQ (dE hx3 () (fun Q6 _ => [(0, .slice x_v0.1 v0.length x_v0.2), (1, .slice x_v1.1 v1.length x_v1.2), (5, .int .i64 (Q6))]) (fun _ _ => []) bK ?_)
   rintro _ Q6 z7 t9 H1 hi10 hb11
   unfold p_spec_l11Same_b0 at H1
   refine aD (sr (aF rfl (aF rfl (aG (bS 3 dP rfl) (aG (cP rfl rfl) (nl (cH H1 rfl (fun h14 H1 => ?_) (fun h14 H1 => ?_))))))))
   ·refine bH (nT (aD (aQ (aD (dF [(0, .slice x_v0.1 v0.length x_v0.2), (1, .slice x_v1.1 v1.length x_v1.2), (5, .int .i64 (Q6))] mixed (.inr (by kernel_rfl)) ⟨rfl, rfl, rfl, trivial⟩ rfl (bB rfl (bB rfl (gdo H1 fun h15 H1 => (aZ (bW dP ty3 rfl rfl h15 rfl (aN (aL aR))) (aZ (bZ (i := Q6.toNat) (j := 0) ty3 rfl (aN (aL aR)) h15.lt rfl) ?_))))))))))
    refine bB rfl (bB rfl (gdo H1 fun h16 H1 => (aZ (bW dP ty3 rfl rfl h16 rfl (aN (aL aR.s))) (aZ (bZ (i := Q6.toNat) (j := 0) ty3 rfl (aN (aL aR.s)) h16.lt rfl) (aX (cR rfl rfl) (nT (cH H1 rfl (fun h17 H1 => ?_) (fun h17 H1 => ?_))))))))
    ·refine sr (aH (v := .bool (false)) rfl (nl (bQ (rB (rT (rT (rB (rT (rT (?_))))))))))
     obtain rfl := hb11 _ (sm H1)
     replace H := sw.r H
     obtain rfl := si H
     exact bk
    ·exact bH (nB (nT (aP (aF rfl (gdo H1 fun h18 H1 => (aG (bR rfl rfl h18) (aH rfl (aJ (nLI () (hi10 _ (sm H1)) bK)))))))))
   ·exact dA (xT (xT (xE (nMI () (hb11 _ (sm H1)) bK))))
  ·rintro e19 y8 H
   refine nT (sr (aH (v := .bool (true)) rfl (nl ?_)))
   obtain rfl := si H
   exact bQ bk
noncomputable def p_spec_IndexOk_b1 (v0 : Index) (Q9 : Int × Int) (Q26 : Int) : Option ((Int) ⊕ (Unit ⊕ Bool)) := cond (decide (Q26 < Q9.2)) (bd (p_spec_l3Text (nth v0.1 Q9.2.toNat)) fun r35 => gd (ix Q26 v0.1.length) <| bd (p_spec_l3Text (nth v0.1 Q26.toNat)) fun r38 => cond (decide (r35 = r38)) (some (.inr (.inr false))) (gd (I64 (Q26 + 1)) <| some (.inl (Q26 + 1)))) (some (.inr (.inl ())))
noncomputable def p_spec_IndexOk_b0 (v0 : Index) (Q9 : Int × Int) : Option ((Int × Int) ⊕ (Int ⊕ Bool)) := cond (decide (Q9.2 < (v0.1.length : Int))) (gd (ix Q9.2 v0.1.length) <| bd (p_spec_NameOk (nth v0.1 Q9.2.toNat)) fun r19 => cond (!r19) (some (.inr (.inr false))) (bd (lp (p_spec_IndexOk_b1 v0 Q9) 0) <| sw (fun _ => gd (I64 (Q9.1 + ((nth v0.1 Q9.2.toNat).length : Int))) <| gd (I64 (Q9.2 + 1)) <| some (.inl (Q9.1 + ((nth v0.1 Q9.2.toNat).length : Int), Q9.2 + 1))) (fun q => some (.inr (.inr q))))) (some (.inr (.inl Q9.1)))
noncomputable def p_spec_IndexOk_b2 (v0 : Index) (Q50 : Int × Int) : Option ((Int × Int) ⊕ (Int ⊕ Bool)) := cond (decide (Q50.2 < (v0.2.length : Int))) (gd (ix Q50.2 v0.2.length) <| cond (decide ((((nth v0.2 Q50.2.toNat).2).length : Int) = 0)) (some (.inr (.inr false))) (bd (p_spec_l11Ids v0.1 ((nth v0.2 Q50.2.toNat).1)) fun r62 => bd (p_spec_l11Same ((nth v0.2 Q50.2.toNat).2) r62) fun r65 => cond (!r65) (some (.inr (.inr false))) (cond (decide (0 < Q50.2)) (gd (I64 (Q50.2 - 1)) <| gd (ix (Q50.2 - 1) v0.2.length) <| bd (p_spec_l11Less ((nth v0.2 ((Q50.2 - 1).toNat)).1) ((nth v0.2 Q50.2.toNat).1)) fun r71 => cond (!r71) (some (.inr (.inr false))) (gd (I64 (Q50.1 - (((nth v0.2 Q50.2.toNat).2).length : Int))) <| gd (I64 (Q50.2 + 1)) <| some (.inl (Q50.1 - (((nth v0.2 Q50.2.toNat).2).length : Int), Q50.2 + 1)))) (gd (I64 (Q50.1 - (((nth v0.2 Q50.2.toNat).2).length : Int))) <| gd (I64 (Q50.2 + 1)) <| some (.inl (Q50.1 - (((nth v0.2 Q50.2.toNat).2).length : Int), Q50.2 + 1)))))) (some (.inr (.inl Q50.1)))
noncomputable def p_spec_IndexOk (v0 : Index) : Option (Bool) := cond (decide (6 < (v0.1.length : Int))) (some false) (bd (lp (p_spec_IndexOk_b0 v0) (0, 0)) <| sw (fun e45 => bd (lp (p_spec_IndexOk_b2 v0) (e45, 0)) <| sw (fun e78 => some (decide (e78 = 0))) (fun q => some q)) (fun q => some q))
theorem c_spec_IndexOk {r : Bool} (v0 : Index) (x_v0 : (Option Addr × Nat) × (Option Addr × Nat)) (H : p_spec_IndexOk v0 = some r) : Fn' prog 101 #[.agg #[.slice x_v0.1.1 v0.1.length x_v0.1.2, .slice x_v0.2.1 v0.2.length x_v0.2.2]] [imm (.slice x_v0.1.1 v0.1.length x_v0.1.2) v0.1, imm (.slice x_v0.2.1 v0.2.length x_v0.2.2) v0.2] [] (ι := Unit) (fun _ => .bool (r)) (fun _ => []) (fun _ => []) := by
 refine cof (args := [_]) func101 ntmps101 fun c => ?_
 unfold p_spec_IndexOk at H
 refine bM aR fun X1 => (bM aR.s.s fun X2 => (sr (f1 (cC (t := 38) rfl) fun g3 => (aH (v := .bool (false)) rfl (nl (aD (sr (aG (cB fa38_0 rfl rfl) (aI (bI ty30 rfl aB rfl) (aG (bS 142 dS rfl) (aG (cU rfl rfl) (nl ?_))))))))))))
 refine cH H rfl (fun h4 H => ?_) (fun h4 H => ?_)
 ·refine sr (aH (v := .bool (false)) rfl (nl (bQ (rT (?_)))))
  obtain rfl := si H
  exact bk
 ·refine bH (nT (sr (aH (v := .int .i64 (0)) rfl (nl (aD (sr (aH (v := .int .i64 (0)) rfl (nl (bdo H fun x5 hx6 H => (dC (Λ := Unit) H (fun e45 _ => [(1, .pointer (some ⟨g3, 0, none⟩)), (3, .int .i64 (e45))]) (fun _ _ => [box g3 38 [.slice x_v0.1.1 v0.1.length x_v0.1.2, .slice x_v0.2.1 v0.2.length x_v0.2.2]]) ?_ ?_))))))))))
  ·refine aQ (dE hx6 () (fun Q9 _ => [(1, .pointer (some ⟨g3, 0, none⟩)), (3, .int .i64 (Q9.1)), (4, .int .i64 (Q9.2))]) (fun _ _ => [box g3 38 [.slice x_v0.1.1 v0.1.length x_v0.1.2, .slice x_v0.2.1 v0.2.length x_v0.2.2]]) (.cons aA .nil) ?_)
   rintro _ Q9 z10 t12 H1 hi13 hb14
   unfold p_spec_IndexOk_b0 at H1
   refine aD (sr (aF rfl (aG (cB fa38_0 rfl rfl) (aI (bI ty30 rfl aB rfl) (aG (bS 142 dS rfl) (aG (cP rfl rfl) (nl (cH H1 rfl (fun h17 H1 => ?_) (fun h17 H1 => ?_)))))))))
   ·refine bH (nT (aD (aQ (aD (sr (aG (cB fa38_0 rfl rfl) (aI (bI ty30 rfl aB rfl) (aF rfl (gdo H1 fun h18 H1 => (aI (bW dS ty142 rfl rfl h18 rfl (aL (aT aR.s))) (aI (bZ (i := Q9.2.toNat) (j := 0) ty142 rfl (aL (aT aR.s)) h18.lt rfl) ?_)))))))))))
    refine bdo H1 fun r19 h20 H1 => (aI (bN (c_spec_NameOk (nth v0.1 Q9.2.toNat) ((X1 Q9.2.toNat).1, (X1 Q9.2.toNat).2.1) h20) rfl (aC (aL (aS (aW aR.s h18.lt))) aO)) (aG (cV rfl) (nl (cH H1 rfl (fun h21 H1 => ?_) (fun h21 H1 => ?_)))))
    ·refine sr (aH (v := .bool (false)) rfl (nl (bQ (rT (rB (rT (rT (rB (rT (rT (?_)))))))))))
     obtain rfl := hb14 _ (sm H1)
     replace H := sw.r H
     obtain rfl := si H
     exact bk
    ·refine bH (nT (aD (sr (aH (v := .int .i64 (0)) rfl (nl (bdo H1 fun x22 hx23 H1 => (dC (Λ := Unit) H1 (fun _ _ => [(1, .pointer (some ⟨g3, 0, none⟩)), (3, .int .i64 (Q9.1)), (4, .int .i64 (Q9.2))]) (fun _ _ => [box g3 38 [.slice x_v0.1.1 v0.1.length x_v0.1.2, .slice x_v0.2.1 v0.2.length x_v0.2.2]]) ?_ ?_)))))))
     ·refine aQ (dE hx23 () (fun Q26 _ => [(1, .pointer (some ⟨g3, 0, none⟩)), (3, .int .i64 (Q9.1)), (4, .int .i64 (Q9.2)), (5, .int .i64 (Q26))]) (fun _ _ => [box g3 38 [.slice x_v0.1.1 v0.1.length x_v0.1.2, .slice x_v0.2.1 v0.2.length x_v0.2.2]]) (.cons aA .nil) ?_)
      rintro _ Q26 z27 t29 H2 hi30 hb31
      unfold p_spec_IndexOk_b1 at H2
      refine aD (sr (aF rfl (aF rfl (aG (cP rfl rfl) (nl (cH H2 rfl (fun h34 H2 => ?_) (fun h34 H2 => ?_)))))))
      ·refine bH (nT (aD (aQ (aD (dF [(1, .pointer (some ⟨g3, 0, none⟩)), (3, .int .i64 (Q9.1)), (4, .int .i64 (Q9.2)), (5, .int .i64 (Q26))] mixed (.inr (by kernel_rfl)) ⟨rfl, rfl, rfl, rfl, trivial⟩ rfl (aX (cB fa38_0 rfl rfl) (aZ (bI ty30 rfl aB rfl) (bB rfl (aZ (bW dS ty142 rfl rfl h18 rfl (aL (aT aR.s))) (aZ (bZ (i := Q9.2.toNat) (j := 0) ty142 rfl (aL (aT aR.s)) h18.lt rfl) ?_))))))))))
       refine bdo H2 fun r35 h36 H2 => (aZ (bN (c_spec_l3Text (nth v0.1 Q9.2.toNat) ((X1 Q9.2.toNat).1, (X1 Q9.2.toNat).2.1) h36) rfl (aC (aL (aS (aW aR.s h18.lt))) aO)) (aX (cB fa38_0 rfl rfl) (aZ (bI ty30 rfl aB rfl) (bB rfl (gdo H2 fun h37 H2 => (aZ (bW dS ty142 rfl rfl h37 rfl (aL (aT aR.s))) (aZ (bZ (i := Q26.toNat) (j := 0) ty142 rfl (aL (aT aR.s)) h37.lt rfl) (bdo H2 fun r38 h39 H2 => (aZ (bN (c_spec_l3Text (nth v0.1 Q26.toNat) ((X1 Q26.toNat).1, (X1 Q26.toNat).2.1) h39) rfl (aC (aL (aS (aW aR.s h37.lt))) aO)) ?_)))))))))
       refine aX (p_seql rfl rfl) (nT (cH H2 rfl (fun h40 H2 => ?_) (fun h40 H2 => ?_)))
       ·refine sr (aH (v := .bool (false)) rfl (nl (bQ (rB (rT (rT (rB (rT (rT (rB (rT (rT (rB (rT (rT (?_))))))))))))))))
        obtain rfl := hb31 _ (sm H2)
        replace H1 := sw.r H1
        obtain rfl := hb14 _ (sm H1)
        replace H := sw.r H
        obtain rfl := si H
        exact bk
       ·exact bH (nB (nT (aP (aF rfl (gdo H2 fun h41 H2 => (aG (bR rfl rfl h41) (aH rfl (aJ (nLI () (hi30 _ (sm H2)) (.cons aA .nil))))))))))
      ·exact dA (xT (xT (xE (nMI () (hb31 _ (sm H2)) (.cons aA .nil)))))
     ·rintro e42 y28 H1
      refine nT (aP (aF rfl (aG (cB fa38_0 rfl rfl) (aI (bI ty30 rfl aB rfl) (aF rfl (aI (bW dS ty142 rfl rfl h18 rfl (aL (aT aR.s))) (aI (bZ (i := Q9.2.toNat) (j := 0) ty142 rfl (aL (aT aR.s)) h18.lt rfl) (aG (bS 172 dM rfl) (gdo H1 fun h43 H1 => ?_)))))))))
      exact aG (bR rfl rfl h43) (aH rfl (aJ (nB (nT (aP (aF rfl (gdo H1 fun h44 H1 => (aG (bR rfl rfl h44) (aH rfl (aJ (nLI () (hi13 _ (sm H1)) (.cons aA .nil))))))))))))
   ·exact dA (xT (xT (xE (nMI () (hb14 _ (sm H1)) (.cons aA .nil)))))
  ·rintro e45 y11 H
   refine nT (aD (sr (aH (v := .int .i64 (0)) rfl (nl (bdo H fun x46 hx47 H => (dC (Λ := Unit) H (fun e78 _ => [(3, .int .i64 (e78))]) (fun _ _ => []) ?_ ?_))))))
   ·refine aQ (dE hx47 () (fun Q50 _ => [(1, .pointer (some ⟨g3, 0, none⟩)), (3, .int .i64 (Q50.1)), (6, .int .i64 (Q50.2))]) (fun _ _ => [box g3 38 [.slice x_v0.1.1 v0.1.length x_v0.1.2, .slice x_v0.2.1 v0.2.length x_v0.2.2]]) (.cons aA .nil) ?_)
    rintro _ Q50 z51 t53 H1 hi54 hb55
    unfold p_spec_IndexOk_b2 at H1
    refine aD (sr (aF rfl (aG (cB fa38_1 rfl rfl) (aI (bI ty36 rfl aB rfl) (aG (bS 183 dT rfl) (aG (cP rfl rfl) (nl (cH H1 rfl (fun h58 H1 => ?_) (fun h58 H1 => ?_)))))))))
    ·refine bH (nT (aD (aQ (sr (aG (cB fa38_1 rfl rfl) (aI (bI ty36 rfl aB rfl) (aF rfl (gdo H1 fun h59 H1 => (aI (bW dT ty183 rfl rfl h59 rfl (aL (aT aR))) (aI (v := .agg #[.string (((nth v0.2 Q50.2.toNat).1).1), .string (((nth v0.2 Q50.2.toNat).1).2), .slice (((X2 Q50.2.toNat).2).1) (((nth v0.2 Q50.2.toNat).2).length) (((X2 Q50.2.toNat).2).2.1)]) (cA (i := Q50.2.toNat) ty183 rfl (aL (aT aR)) h59.lt) ?_))))))))))
     refine f1 (cD ty183) fun g60 => (stb (cs' := [.string (((nth v0.2 Q50.2.toNat).1).1), .string (((nth v0.2 Q50.2.toNat).1).2), .slice (((X2 Q50.2.toNat).2).1) (((nth v0.2 Q50.2.toNat).2).length) (((X2 Q50.2.toNat).2).2.1)]) ty183 cZ (nl (aD (aD ?_))))
     rcases aK (decide ((((nth v0.2 Q50.2.toNat).2).length : Int) = 0)) with h61 | h61
     ·have H1 := cdT h61 H1
      refine dG [(7, .pointer (some ⟨g60, 0, none⟩)), (1, .pointer (some ⟨g3, 0, none⟩)), (3, .int .i64 (Q50.1)), (6, .int .i64 (Q50.2))] 1 [0, 1, 2, 3, 4, 5, 6, 7, 8, 9, 10, 11, 12, 13, 14, 15, 16, 17, 18, 19, 20, 21, 22, 23, 24, 25, 26, 27, 28, 29, 30, 31] [] [] mixed (by kernel_rfl) (by decide) dI ⟨rfl, rfl, rfl, rfl, trivial⟩ rfl okNil (w_p rfl (cB fa183_1 rfl rfl) ?_)
      refine w_o rfl (fun F => (bI ty23 rfl (aB.app F) rfl)) (w_p rfl (bS 3 dP rfl) (w_p rfl (cS rfl rfl) (w_p (v := .bool (true)) rfl ((Pu.eqv (v := .bool (decide ((((nth v0.2 Q50.2.toNat).2).length : Int) = 0))) (aE rfl) (congrArg Value.bool h61))) (cI rfl (by decide) rfl rfl rfl (cI rfl (by decide) rfl rfl rfl (cI rfl (by decide) rfl rfl rfl (cI rfl (by decide) rfl rfl rfl (cI rfl (by decide) rfl rfl rfl (cI rfl (by decide) rfl rfl rfl ?_)))))))))
      refine cI rfl (by decide) rfl rfl rfl (cI rfl (by decide) rfl rfl rfl (cI rfl (by decide) rfl rfl rfl (w_p (v := .bool (true)) rfl (bP rfl rfl) (w_p (v := .bool (true)) rfl (aE rfl) (cI rfl (by decide) rfl rfl rfl (cI rfl (by decide) rfl rfl rfl (cI rfl (by decide) rfl rfl rfl (cI rfl (by decide) rfl rfl rfl (cI rfl (by decide) rfl rfl rfl ?_)))))))))
      refine cI rfl (by decide) rfl rfl rfl (cI rfl (by decide) rfl rfl rfl (cI rfl (by decide) rfl rfl rfl (cI rfl (by decide) rfl rfl rfl (cI rfl (by decide) rfl rfl rfl (cI rfl (by decide) rfl rfl rfl (cI rfl (by decide) rfl rfl rfl (cI rfl (by decide) rfl rfl rfl (cI rfl (by decide) rfl rfl rfl (cI rfl (by decide) rfl rfl rfl ?_)))))))))
      refine w_p (v := .bool (true)) rfl (bP rfl rfl) (cK (nT (Tr.condT rfl (sr (aH (v := .bool (false)) rfl (nl (bQ (rT (rB (rT (rT (rB (rT (rT (?_)))))))))))))))
      obtain rfl := hb55 _ (sm H1)
      replace H := sw.r H
      obtain rfl := si H
      exact bk
     ·have H1 := cdF h61 H1
      refine dG [(7, .pointer (some ⟨g60, 0, none⟩)), (1, .pointer (some ⟨g3, 0, none⟩)), (3, .int .i64 (Q50.1)), (6, .int .i64 (Q50.2))] 4 [0, 1, 2, 3, 4, 5, 6, 7, 8, 9, 10, 11, 12, 13, 14, 15, 16, 17, 18, 19, 20, 21, 22, 23, 24, 25, 26, 27, 28, 29, 30, 31] [11] [] mixed (by kernel_rfl) (by decide) dI ⟨rfl, rfl, rfl, rfl, trivial⟩ rfl okNil (w_p rfl (cB fa183_1 rfl rfl) ?_)
      refine w_o rfl (fun F => (bI ty23 rfl (aB.app F) rfl)) (w_p rfl (bS 3 dP rfl) (w_p rfl (cS rfl rfl) (w_p (v := .bool (false)) rfl ((Pu.eqv (v := .bool (decide ((((nth v0.2 Q50.2.toNat).2).length : Int) = 0))) (aE rfl) (congrArg Value.bool h61))) (w_p rfl (cB fa183_1 rfl rfl) ?_))))
      refine w_o rfl (fun F => (bI ty23 rfl (aB.app F) rfl)) (w_p rfl (cB fa38_0 rfl rfl) ?_)
      refine w_o rfl (fun F => (bI ty30 rfl (hs1.app F) rfl)) (w_p rfl (cB fa183_0 rfl rfl) ?_)
      refine w_o (v := .agg #[.string (((nth v0.2 Q50.2.toNat).1).1), .string (((nth v0.2 Q50.2.toNat).1).2)]) rfl (fun F => (q_ldbP [.string (((nth v0.2 Q50.2.toNat).1).1), .string (((nth v0.2 Q50.2.toNat).1).2)] ty172 rfl (aB.app F) rfl rfl)) (bdo H1 fun r62 h63 H1 => (cJ rfl (by decide) rfl cN rfl (cE (c_spec_l11Ids v0.1 x_v0.1 ((nth v0.2 Q50.2.toNat).1) h63) (fun _ => (bF bG)) rfl (aC (aL (aS aR.s)) aO)) ?_))
      rintro _ _ _ ⟨x64, rfl, rfl, rfl⟩
      refine ⟨(aM (by kernel_rfl) (aM (by kernel_rfl) (bV rfl rfl (fun F => (bI ty23 rfl (hs1.app F) rfl)) (aM (by kernel_rfl) bU)))), ?_⟩
      refine bdo H1 fun r65 h66 H1 => ?_
      refine w_o rfl (fun F => (bN (c_spec_l11Same ((nth v0.2 Q50.2.toNat).2) (((X2 Q50.2.toNat).2).1, ((X2 Q50.2.toNat).2).2.1) r62 x64 h66) rfl (aC (aL (aS (aU (aW aR h59.lt)))) (aC (bL (aB.app F)) aO)))) (w_p rfl (cV rfl) (w_p rfl (bO rfl rfl) ?_))
      rcases aK (!r65) with h67 | h67
      ·have H1 := cdT h67 H1
       refine w_p (v := .bool (true)) rfl ((Pu.eqv (v := .bool (!r65)) (aE rfl) (congrArg Value.bool h67))) (cI rfl (by decide) rfl rfl rfl (cI rfl (by decide) rfl rfl rfl (cI rfl (by decide) rfl rfl rfl (cI rfl (by decide) rfl rfl rfl (cI rfl (by decide) rfl rfl rfl (cI rfl (by decide) rfl rfl rfl (cI rfl (by decide) rfl rfl rfl (cI rfl (by decide) rfl rfl rfl (cI rfl (by decide) rfl rfl rfl ?_)))))))))
       refine cI rfl (by decide) rfl rfl rfl (cI rfl (by decide) rfl rfl rfl (cI rfl (by decide) rfl rfl rfl (cI rfl (by decide) rfl rfl rfl (cI rfl (by decide) rfl rfl rfl (cI rfl (by decide) rfl rfl rfl (w_p (v := .bool (true)) rfl (bP rfl rfl) (cK (nT (Tr.condT rfl ?_)))))))))
       refine sr (aH (v := .bool (false)) rfl (nl (bQ (rT (rB (rT (rT (rB (rT (rT (?_)))))))))))
       obtain rfl := hb55 _ (sm H1)
       replace H := sw.r H
       obtain rfl := si H
       exact bk
      ·have H1 := cdF h67 H1
       refine w_p (v := .bool (false)) rfl ((Pu.eqv (v := .bool (!r65)) (aE rfl) (congrArg Value.bool h67))) (w_p rfl (aE rfl) (w_p rfl (cU rfl rfl) ?_))
       rcases aK (decide (0 < Q50.2)) with h68 | h68
       ·have H1 := cdT h68 H1
        refine w_p (v := .bool (true)) rfl ((Pu.eqv (v := .bool (decide (0 < Q50.2))) (aE rfl) (congrArg Value.bool h68))) (w_p rfl (cB fa38_1 rfl rfl) ?_)
        refine w_o rfl (fun F => (bI ty36 rfl (hs2.app F) rfl)) (w_p rfl (aE rfl) (gdo H1 fun h69 H1 => (w_p rfl (cQ rfl rfl h69) (gdo H1 fun h70 H1 => ?_))))
        refine w_o rfl (fun F => (bW dT ty183 rfl rfl h70 rfl (aL (aT aR)))) ?_
        refine w_o rfl (fun F => (bY (j := 0) ((Q50.2 - 1).toNat) fa183_0 rfl (aL (aT aR)) h70.lt rfl)) ?_
        refine w_o (v := .agg #[.string (((nth v0.2 ((Q50.2 - 1).toNat)).1).1), .string (((nth v0.2 ((Q50.2 - 1).toNat)).1).2)]) rfl (fun F => (q_ldeP [.string (((nth v0.2 ((Q50.2 - 1).toNat)).1).1), .string (((nth v0.2 ((Q50.2 - 1).toNat)).1).2)] (l := v0.2) (E := fun i => Dp.denc (nth v0.2 i) (X2 i)) (oa := x_v0.2.1) (i := (Q50.2 - 1).toNat) (j := 0) ty172 rfl (aL (aT aR)) h70.lt rfl rfl)) (w_p rfl (cB fa183_0 rfl rfl) ?_)
        refine w_o (v := .agg #[.string (((nth v0.2 Q50.2.toNat).1).1), .string (((nth v0.2 Q50.2.toNat).1).2)]) rfl (fun F => (q_ldbP [.string (((nth v0.2 Q50.2.toNat).1).1), .string (((nth v0.2 Q50.2.toNat).1).2)] ty172 rfl (hs1.app F) rfl rfl)) (bdo H1 fun r71 h72 H1 => ?_)
        refine w_o rfl (fun F => (bN (c_spec_l11Less ((nth v0.2 ((Q50.2 - 1).toNat)).1) ((nth v0.2 Q50.2.toNat).1) h72) rfl aO)) (w_p rfl (cV rfl) (w_p rfl (bP rfl rfl) (w_p rfl (bO rfl rfl) (cK (nT (cH H1 rfl (fun h73 H1 => ?_) (fun h73 H1 => ?_)))))))
        ·refine sr (aH (v := .bool (false)) rfl (nl (bQ (rT (rB (rT (rT (rB (rT (rT (?_)))))))))))
         obtain rfl := hb55 _ (sm H1)
         replace H := sw.r H
         obtain rfl := si H
         exact bk
        ·refine bH (nT (aP (aF rfl (aG (cB fa183_1 rfl rfl) (aI (bI ty23 rfl hs1 rfl) (aG (bS 3 dP rfl) (gdo H1 fun h74 H1 => (aG (cQ rfl rfl h74) (aH rfl (aJ ?_))))))))))
         exact nB (nT (aP (aF rfl (gdo H1 fun h75 H1 => (aG (bR rfl rfl h75) (aH rfl (aJ (nLI () (hi54 _ (sm H1)) (.cons dl2 .nil)))))))))
       ·have H1 := cdF h68 H1
        refine w_p (v := .bool (false)) rfl ((Pu.eqv (v := .bool (decide (0 < Q50.2))) (aE rfl) (congrArg Value.bool h68))) (cI rfl (by decide) rfl rfl rfl (cI rfl (by decide) rfl rfl rfl (cI rfl (by decide) rfl rfl rfl (cI rfl (by decide) rfl rfl rfl (cI rfl (by decide) rfl rfl rfl (cI rfl (by decide) rfl rfl rfl (cI rfl (by decide) rfl rfl rfl (cI rfl (by decide) rfl rfl rfl (cI rfl (by decide) rfl rfl rfl ?_)))))))))
        refine cI rfl (by decide) rfl rfl rfl (cI rfl (by decide) rfl rfl rfl (w_p (v := .bool (false)) rfl (bO rfl rfl) (w_p (v := .bool (false)) rfl (bO rfl rfl) (cK (nT (Tr.condF rfl (bH (nT (aP ?_)))))))))
        refine aF rfl (aG (cB fa183_1 rfl rfl) (aI (bI ty23 rfl hs1 rfl) (aG (bS 3 dP rfl) (gdo H1 fun h76 H1 => (aG (cQ rfl rfl h76) (aH rfl (aJ (nB (nT (aP (aF rfl ?_)))))))))))
        exact gdo H1 fun h77 H1 => (aG (bR rfl rfl h77) (aH rfl (aJ (nLI () (hi54 _ (sm H1)) (.cons dl2 .nil)))))
    ·exact dA (xT (xT (xE (nMI () (hb55 _ (sm H1)) bK))))
   ·rintro e78 y52 H
    refine nT (sr (aF rfl (aG (cS rfl rfl) (aH rfl (nl ?_)))))
    obtain rfl := si H
    exact bQ bk
noncomputable def p_spec_l13Part (v0 : Part) (v1 : Int) : Option (Bool) := bd (bd (p_spec_PartOk v0) fun r5 => cond (r5) (cond (decide (0 < (v0.1.length : Int))) (gd (I64 ((v0.1.length : Int) - 1)) <| gd (ix ((v0.1.length : Int) - 1) v0.1.length) <| some (decide ((nth v0.1 (((v0.1.length : Int) - 1).toNat)) ≤ v1))) (some (false))) (some (false))) fun b3 => some b3
theorem c_spec_l13Part {r : Bool} (v0 : Part) (x_v0 : (Option Addr × Nat) × (Option Addr × Nat)) (v1 : Int) (H : p_spec_l13Part v0 v1 = some r) : Fn' prog 102 #[.agg #[.slice x_v0.1.1 v0.1.length x_v0.1.2, .slice x_v0.2.1 v0.2.length x_v0.2.2], .int .i64 (v1)] [imm (.slice x_v0.1.1 v0.1.length x_v0.1.2) v0.1, imm (.slice x_v0.2.1 v0.2.length x_v0.2.2) v0.2] [] (ι := Unit) (fun _ => .bool (r)) (fun _ => []) (fun _ => []) := by
 refine cof (args := [_, _]) func102 ntmps102 fun c => ?_
 unfold p_spec_l13Part at H
 refine bM aR.s fun X1 => (sr (f1 (cC (t := 75) rfl) fun g2 => (aH (v := .bool (false)) rfl (nl (bdo H fun b3 j4 H => (dD [(4, .bool (b3))] ?_ ?_))))))
 ·refine dH [(2, .pointer (some ⟨g2, 0, none⟩)), (1, .int .i64 (v1))] ⟨rfl, rfl, trivial⟩ (aZ (bJ ty75 rfl aB rfl) (bdo j4 fun r5 h6 j4 => (aZ (bN (c_spec_PartOk v0 x_v0 h6) rfl (aC (aL aR.s) (aC (aL (aS aR)) aO))) ?_)))
  rcases aK (r5) with h7 | h7
  ·have j4 := cdT h7 j4
   refine bC (aE rfl) h7 (aY rfl (cB fa75_0 rfl rfl) (bA rfl (bI ty23 rfl aB rfl) (aY rfl (bS 3 dP rfl) (aY rfl (cU rfl rfl) (aX (bP rfl rfl) ?_)))))
   rcases aK (decide (0 < (v0.1.length : Int))) with h8 | h8
   ·have j4 := cdT h8 j4
    refine bC (aE rfl) h8 (aY rfl (cB fa75_0 rfl rfl) (bA rfl (bI ty23 rfl aB rfl) (aY rfl (cB fa75_0 rfl rfl) (bA rfl (bI ty23 rfl aB rfl) (aY rfl (bS 3 dP rfl) (gdo j4 fun h9 j4 => (aY rfl (cQ rfl rfl h9) (gdo j4 fun h10 j4 => (bA rfl (bW dP ty3 rfl rfl h10 rfl (aN (aL aR.s))) ?_)))))))))
    refine bA rfl (bZ (i := ((v0.1.length : Int) - 1).toNat) (j := 0) ty3 rfl (aN (aL aR.s)) h10.lt rfl) (aY rfl (aE rfl) (aY rfl (cT rfl rfl) (aX (bP rfl rfl) (aX (p_assign rfl) ?_))))
    obtain rfl := si j4
    show At _ _ _ _ _ _
    exact n1 ⟨rfl, trivial⟩
   ·have j4 := cdF h8 j4
    refine bC (aE rfl) h8 ?_
    iterate 10 refine bE rfl ?_
    refine aX (v := .bool (false)) (bO rfl rfl) (aX (v := .bool (false)) (p_assign rfl) ?_)
    obtain rfl := si j4
    show At _ _ _ _ _ _
    exact n1 ⟨rfl, trivial⟩
  ·have j4 := cdF h7 j4
   refine bC (aE rfl) h7 ?_
   iterate 4 refine bE rfl ?_
   refine aX (v := .bool (false)) (bO rfl rfl) (bB (v := .bool (false)) rfl ?_)
   iterate 10 refine bE rfl ?_
   refine aX (v := .bool (false)) (bO rfl rfl) (aX (v := .bool (false)) (p_assign rfl) ?_)
   obtain rfl := si j4
   show At _ _ _ _ _ _
   exact n1 ⟨rfl, trivial⟩
 obtain rfl := si H
 exact bQ bk
noncomputable def p_spec_l12Of_b0 (v0 : Part) (v1 : Int) (Q7 : Int) : Option ((Int) ⊕ (Unit ⊕ (List Row))) := cond (decide (Q7 < (v0.1.length : Int))) (gd (ix Q7 v0.1.length) <| cond (decide ((nth v0.1 Q7.toNat) = v1)) (gd (ix Q7 v0.2.length) <| some (.inr (.inr (nth v0.2 Q7.toNat)))) (gd (I64 (Q7 + 1)) <| some (.inl (Q7 + 1)))) (some (.inr (.inl ())))
noncomputable def p_spec_l12Of (v0 : Part) (v1 : Int) : Option ((List Row)) := bd (lp (p_spec_l12Of_b0 v0 v1) 0) <| sw (fun _ => some ([] : List Row)) (fun q => some q)
theorem c_spec_l12Of {r : (List Row)} (v0 : Part) (x_v0 : (Option Addr × Nat) × (Option Addr × Nat)) (v1 : Int) (H : p_spec_l12Of v0 v1 = some r) : Fn' prog 134 #[.agg #[.slice x_v0.1.1 v0.1.length x_v0.1.2, .slice x_v0.2.1 v0.2.length x_v0.2.2], .int .i64 (v1)] [imm (.slice x_v0.1.1 v0.1.length x_v0.1.2) v0.1, imm (.slice x_v0.2.1 v0.2.length x_v0.2.2) v0.2] [] (ι := Option Addr × Nat) (fun x => .slice x.1 r.length x.2) (fun x => [imm (.slice x.1 r.length x.2) r]) (fun _ => []) := by
 refine cof (args := [_, _]) func134 ntmps134 fun c => ?_
 unfold p_spec_l12Of at H
 refine bM aR.s fun X1 => (sr (f1 (cC (t := 75) rfl) fun g2 => (aH (v := .slice none 0 0) rfl (nl (aD (sr (aH (v := .int .i64 (0)) rfl (nl (bdo H fun x3 hx4 H => (dC (Λ := Unit) H (fun _ _ => []) (fun _ _ => []) ?_ ?_))))))))))
 ·refine aQ (dE hx4 () (fun Q7 _ => [(1, .int .i64 (v1)), (2, .pointer (some ⟨g2, 0, none⟩)), (5, .int .i64 (Q7))]) (fun _ _ => [box g2 75 [.slice x_v0.1.1 v0.1.length x_v0.1.2, .slice x_v0.2.1 v0.2.length x_v0.2.2]]) (.cons aA .nil) ?_)
  rintro _ Q7 z8 t10 H1 hi11 hb12
  unfold p_spec_l12Of_b0 at H1
  refine aD (sr (aF rfl (aG (cB fa75_0 rfl rfl) (aI (bI ty23 rfl aB rfl) (aG (bS 3 dP rfl) (aG (cP rfl rfl) (nl (cH H1 rfl (fun h15 H1 => ?_) (fun h15 H1 => ?_)))))))))
  ·refine bH (nT (aD (aQ (sr (aG (cB fa75_0 rfl rfl) (aI (bI ty23 rfl aB rfl) (aF rfl (gdo H1 fun h16 H1 => (aI (bW dP ty3 rfl rfl h16 rfl (aN (aL aR.s))) (aI (bZ (i := Q7.toNat) (j := 0) ty3 rfl (aN (aL aR.s)) h16.lt rfl) ?_))))))))))
   refine aF rfl (aG (cS rfl rfl) (nl (cH H1 rfl (fun h17 H1 => ?_) (fun h17 H1 => ?_))))
   ·refine sr (aG (cB fa75_1 rfl rfl) (aI (bI ty73 rfl aB rfl) (aF rfl (gdo H1 fun h18 H1 => (aI (bW dY ty130 rfl rfl h18 rfl (aL (aT aR))) (aI (bZ (i := Q7.toNat) (j := 0) ty130 rfl (aL (aT aR)) h18.lt rfl) (aH rfl (nl (bQ (rB (rT (rT (rB (rT (rT (?_))))))))))))))))
    obtain rfl := hb12 _ (sm H1)
    replace H := sw.r H
    obtain rfl := si H
    exact back1 ((X1 Q7.toNat).1, (X1 Q7.toNat).2.1) rfl (ResV.tmp (v := .slice ((X1 Q7.toNat).1) ((nth v0.2 Q7.toNat).length) ((X1 Q7.toNat).2.1)) rfl) rfl (cL (aS (aW aR h18.lt)) cM) bK
   ·exact bH (nB (nT (aP (aF rfl (gdo H1 fun h19 H1 => (aG (bR rfl rfl h19) (aH rfl (aJ (nLI () (hi11 _ (sm H1)) (.cons aA .nil))))))))))
  ·exact dA (xT (xT (xE (nMI () (hb12 _ (sm H1)) bK))))
 ·rintro e20 y9 H
  refine nT (sr (f2 (e_lit0 Row dL ty135) fun a21 c22 => (aH rfl (nl (Tr.freeze (.cons aA .nil) (bQ ?_))))))
  obtain rfl := si H
  exact back1 (a21, c22) rfl (ResV.tmp (v := .slice a21 (([] : List Row).length) c22) rfl) rfl (cL aR cM) bK
noncomputable def p_spec_l2Put_b0 (v0 : (List Row)) (v1 : Row) (Q8 : (List Row) × Bool × Int) : Option (((List Row) × Bool × Int) ⊕ ((List Row) × Bool)) := cond (decide (Q8.2.2 < (v0.length : Int))) (bd (cond (!Q8.2.1) (gd (ix Q8.2.2 v0.length) <| some (decide (v1.1 ≤ ((nth v0 Q8.2.2.toNat).1)))) (some (false))) fun b17 => cond (b17) (gd (room (Q8.1.length + 1)) <| gd (ix Q8.2.2 v0.length) <| cond (!decide (((nth v0 Q8.2.2.toNat).1) = v1.1)) (gd (room ((Q8.1 ++ [v1]).length + 1)) <| gd (I64 (Q8.2.2 + 1)) <| some (.inl (((Q8.1 ++ [v1]) ++ [nth v0 Q8.2.2.toNat]), true, Q8.2.2 + 1))) (gd (I64 (Q8.2.2 + 1)) <| some (.inl ((Q8.1 ++ [v1]), true, Q8.2.2 + 1)))) (gd (ix Q8.2.2 v0.length) <| cond (!decide (((nth v0 Q8.2.2.toNat).1) = v1.1)) (gd (room (Q8.1.length + 1)) <| gd (I64 (Q8.2.2 + 1)) <| some (.inl ((Q8.1 ++ [nth v0 Q8.2.2.toNat]), Q8.2.1, Q8.2.2 + 1))) (gd (I64 (Q8.2.2 + 1)) <| some (.inl (Q8.1, Q8.2.1, Q8.2.2 + 1))))) (some (.inr (Q8.1, Q8.2.1)))
noncomputable def p_spec_l2Put (v0 : (List Row)) (v1 : Row) : Option ((List Row)) := bd (lp (p_spec_l2Put_b0 v0 v1) (([] : List Row), false, 0)) fun x4 => cond (!x4.2) (gd (room (x4.1.length + 1)) <| some (x4.1 ++ [v1])) (some x4.1)
theorem c_spec_l2Put {r : (List Row)} (v0 : (List Row)) (x_v0 : Option Addr × Nat) (v1 : Row) (H : p_spec_l2Put v0 v1 = some r) : Fn' prog 155 #[.slice x_v0.1 v0.length x_v0.2, .agg #[.int .i64 (v1.1), .int .i64 (v1.2)]] [imm (.slice x_v0.1 v0.length x_v0.2) v0] [] (ι := Option Addr × Nat) (fun x => .slice x.1 r.length x.2) (fun _ => []) (fun x => [tree (.slice x.1 r.length x.2) r]) := by
 refine cof (args := [_, _]) func155 ntmps155 fun c => ?_
 unfold p_spec_l2Put at H
 refine sr (f1 (cC (t := 135) rfl) fun g1 => (aH (v := .slice none 0 0) rfl (nl (sr (f2 (e_lit0 Row dL ty135) fun a2 c3 => (aH rfl (nl (sr (aH (v := .bool (false)) rfl (nl (aD (sr (aH (v := .int .i64 (0)) rfl (nl ?_))))))))))))))
 refine bdo H fun x4 hx5 H => (dB (ι := Option Addr × Nat) (fun ψ => [(3, .pointer (some ⟨g1, 0, none⟩)), (5, .slice ψ.1 x4.1.length ψ.2), (6, .bool (x4.2))]) (fun ψ => [box g1 135 [.int .i64 (v1.1), .int .i64 (v1.2)], tree (.slice ψ.1 x4.1.length ψ.2) x4.1]) ?_ ?_)
 ·refine aQ (dE hx5 (a2, c3) (fun Q8 z9 => [(0, .slice x_v0.1 v0.length x_v0.2), (3, .pointer (some ⟨g1, 0, none⟩)), (5, .slice z9.1 Q8.1.length z9.2), (6, .bool (Q8.2.1)), (7, .int .i64 (Q8.2.2))]) (fun Q8 z9 => [box g1 135 [.int .i64 (v1.1), .int .i64 (v1.2)], tree (.slice z9.1 Q8.1.length z9.2) Q8.1]) (.cons dl1 (.cons aA .nil)) ?_)
  rintro _ Q8 z9 t11 H1 hi12 hb13
  unfold p_spec_l2Put_b0 at H1
  refine aD (sr (aF rfl (aF rfl (aG (bS 135 dL rfl) (aG (cP rfl rfl) (nl (cH H1 rfl (fun h16 H1 => ?_) (fun h16 H1 => ?_))))))))
  ·refine bH (nT (aD (aQ (aD (bdo H1 fun b17 j18 H1 => (dD [(26, .bool (b17)), (0, .slice x_v0.1 v0.length x_v0.2), (3, .pointer (some ⟨g1, 0, none⟩)), (5, .slice z9.1 Q8.1.length z9.2), (6, .bool (Q8.2.1)), (7, .int .i64 (Q8.2.2))] ?_ ?_))))))
   ·refine dF [(0, .slice x_v0.1 v0.length x_v0.2), (3, .pointer (some ⟨g1, 0, none⟩)), (5, .slice z9.1 Q8.1.length z9.2), (6, .bool (Q8.2.1)), (7, .int .i64 (Q8.2.2))] mixed (.inr (by kernel_rfl)) ⟨rfl, rfl, rfl, rfl, rfl, trivial⟩ rfl (bB rfl (aX (cV rfl) ?_))
    rcases aK (!Q8.2.1) with h19 | h19
    ·have j18 := cdT h19 j18
     refine bC (aE rfl) h19 (aY rfl (aE rfl) (aY rfl (aE rfl) (gdo j18 fun h20 j18 => (bA rfl (bW dL ty135 rfl rfl h20 rfl (aN (aL aR))) (bA rfl (bY (j := 0) Q8.2.2.toNat fa135_0 rfl (aN (aL aR)) h20.lt rfl) (bA rfl (bZ (i := Q8.2.2.toNat) (j := 0) ty3 rfl (aN (aL aR)) h20.lt rfl) (aY rfl (cB fa135_0 rfl rfl) (bA rfl (bI ty3 rfl aB rfl) (aY rfl (p_geq rfl rfl) ?_)))))))))
     refine aX (bP rfl rfl) ?_
     obtain rfl := si j18
     show At _ _ _ _ _ _
     exact n1 ⟨rfl, rfl, rfl, rfl, rfl, rfl, trivial⟩
    ·have j18 := cdF h19 j18
     refine bC (aE rfl) h19 ?_
     iterate 8 refine bE rfl ?_
     refine aX (v := .bool (false)) (bO rfl rfl) ?_
     obtain rfl := si j18
     show At _ _ _ _ _ _
     exact n1 ⟨rfl, rfl, rfl, rfl, rfl, rfl, trivial⟩
   refine cH H1 rfl (fun h21 H1 => ?_) (fun h21 H1 => ?_)
   ·refine sr (aF rfl (aI (bJ ty135 rfl aB rfl) (f1 (e_lit (vs := [(0, .agg #[.int .i64 (v1.1), .int .i64 (v1.2)])]) [.int .i64 (v1.1), .int .i64 (v1.2)] dL ty135 rfl (by decide) (by decide) (by kernel_rfl)) fun g22 => (gdo H1 fun h25 H1 => (f2 (e_app1 (l := Q8.1) (α := Row) v1 ((), ()) dL ty135 rfl rfl (h25.b (by decide)) h25.x rfl (cW _) (.cons dl2 (.cons aA .nil))) fun a23 c24 => (aH rfl (nl (aP (aH (v := .bool (true)) rfl (nl (aD ?_)))))))))))
    refine dF [(6, .bool (true)), (5, .slice a23 ((Q8.1 ++ [v1]).length) c24), (0, .slice x_v0.1 v0.length x_v0.2), (3, .pointer (some ⟨g1, 0, none⟩)), (7, .int .i64 (Q8.2.2))] mixed (.inr (by kernel_rfl)) ⟨rfl, rfl, rfl, rfl, rfl, trivial⟩ rfl (bB rfl (bB rfl (gdo H1 fun h26 H1 => (aZ (bW dL ty135 rfl rfl h26 rfl (aN (aL aR))) (aZ (bY (j := 0) Q8.2.2.toNat fa135_0 rfl (aN (aL aR)) h26.lt rfl) (aZ (bZ (i := Q8.2.2.toNat) (j := 0) ty3 rfl (aN (aL aR)) h26.lt rfl) (aX (cB fa135_0 rfl rfl) (aZ (bI ty3 rfl hs1 rfl) (aX (cR rfl rfl) ?_)))))))))
    refine nT (cH H1 rfl (fun h27 H1 => ?_) (fun h27 H1 => ?_))
    ·refine aP (aF rfl (aF rfl (aF rfl (aI (bW dL ty135 rfl rfl h26 rfl (aN (aL aR))) (aI (v := .agg #[.int .i64 ((nth v0 Q8.2.2.toNat).1), .int .i64 ((nth v0 Q8.2.2.toNat).2)]) (cA (i := Q8.2.2.toNat) ty135 rfl (aN (aL aR)) h26.lt) (f1 (e_lit (vs := [(0, .agg #[.int .i64 ((nth v0 Q8.2.2.toNat).1), .int .i64 ((nth v0 Q8.2.2.toNat).2)])]) [.int .i64 ((nth v0 Q8.2.2.toNat).1), .int .i64 ((nth v0 Q8.2.2.toNat).2)] dL ty135 rfl (by decide) (by decide) (by kernel_rfl)) fun g28 => (gdo H1 fun h31 H1 => (f2 (e_app1 (l := (Q8.1 ++ [v1])) (α := Row) (nth v0 Q8.2.2.toNat) ((), ()) dL ty135 rfl rfl (h31.b (by decide)) h31.x rfl (cW _) (.cons dl1 (.cons aA .nil))) fun a29 c30 => (aH rfl (aJ ?_))))))))))
     exact nB (nT (aP (aF rfl (gdo H1 fun h32 H1 => (aG (bR rfl rfl h32) (aH rfl (aJ (nLI (a29, c30) (hi12 _ (sm H1)) (.cons dl1 (.cons aA .nil))))))))))
    ·exact bH (nB (nT (aP (aF rfl (gdo H1 fun h33 H1 => (aG (bR rfl rfl h33) (aH rfl (aJ (nLI (a23, c24) (hi12 _ (sm H1)) (.cons dl1 (.cons aA .nil)))))))))))
   ·refine bH (nT (aD (dF [(0, .slice x_v0.1 v0.length x_v0.2), (3, .pointer (some ⟨g1, 0, none⟩)), (5, .slice z9.1 Q8.1.length z9.2), (6, .bool (Q8.2.1)), (7, .int .i64 (Q8.2.2))] mixed (.inr (by kernel_rfl)) ⟨rfl, rfl, rfl, rfl, rfl, trivial⟩ rfl (bB rfl (bB rfl (gdo H1 fun h34 H1 => (aZ (bW dL ty135 rfl rfl h34 rfl (aN (aL aR))) (aZ (bY (j := 0) Q8.2.2.toNat fa135_0 rfl (aN (aL aR)) h34.lt rfl) (aZ (bZ (i := Q8.2.2.toNat) (j := 0) ty3 rfl (aN (aL aR)) h34.lt rfl) (aX (cB fa135_0 rfl rfl) ?_))))))))))
    refine aZ (bI ty3 rfl aB rfl) (aX (cR rfl rfl) (nT (cH H1 rfl (fun h35 H1 => ?_) (fun h35 H1 => ?_))))
    ·refine aP (aF rfl (aF rfl (aF rfl (aI (bW dL ty135 rfl rfl h34 rfl (aN (aL aR))) (aI (v := .agg #[.int .i64 ((nth v0 Q8.2.2.toNat).1), .int .i64 ((nth v0 Q8.2.2.toNat).2)]) (cA (i := Q8.2.2.toNat) ty135 rfl (aN (aL aR)) h34.lt) (f1 (e_lit (vs := [(0, .agg #[.int .i64 ((nth v0 Q8.2.2.toNat).1), .int .i64 ((nth v0 Q8.2.2.toNat).2)])]) [.int .i64 ((nth v0 Q8.2.2.toNat).1), .int .i64 ((nth v0 Q8.2.2.toNat).2)] dL ty135 rfl (by decide) (by decide) (by kernel_rfl)) fun g36 => (gdo H1 fun h39 H1 => (f2 (e_app1 (l := Q8.1) (α := Row) (nth v0 Q8.2.2.toNat) ((), ()) dL ty135 rfl rfl (h39.b (by decide)) h39.x rfl (cW _) (.cons dl2 (.cons aA .nil))) fun a37 c38 => (aH rfl (aJ ?_))))))))))
     exact nB (nT (aP (aF rfl (gdo H1 fun h40 H1 => (aG (bR rfl rfl h40) (aH rfl (aJ (nLI (a37, c38) (hi12 _ (sm H1)) (.cons dl1 (.cons aA .nil))))))))))
    ·exact bH (nB (nT (aP (aF rfl (gdo H1 fun h41 H1 => (aG (bR rfl rfl h41) (aH rfl (aJ (nLI (z9.1, z9.2) (hi12 _ (sm H1)) (.cons aA (.cons aA .nil)))))))))))
  ·refine dA (xT (xT (xE (?_))))
   obtain rfl := hb13 _ (sm H1)
   exact nMC (z9.1, z9.2) ⟨rfl, rfl, rfl, trivial⟩ bT (.cons aA (.cons aA .nil))
 ·intro y10
  show At _ _ [(3, .pointer (some ⟨g1, 0, none⟩)), (5, .slice y10.1 x4.1.length y10.2), (6, .bool (x4.2))] _ [box g1 135 [.int .i64 (v1.1), .int .i64 (v1.2)], tree (.slice y10.1 x4.1.length y10.2) x4.1] _
  refine nT (aD (sr (aF rfl (aG (cV rfl) (nl (cH H rfl (fun h42 H => ?_) (fun h42 H => ?_)))))))
  ·refine aP (aF rfl (aI (bJ ty135 rfl aB rfl) (f1 (e_lit (vs := [(0, .agg #[.int .i64 (v1.1), .int .i64 (v1.2)])]) [.int .i64 (v1.1), .int .i64 (v1.2)] dL ty135 rfl (by decide) (by decide) (by kernel_rfl)) fun g43 => (gdo H fun h46 H => (f2 (e_app1 (l := x4.1) (α := Row) v1 ((), ()) dL ty135 rfl rfl (h46.b (by decide)) h46.x rfl (cW _) (.cons dl2 (.cons aA .nil))) fun a44 c45 => (aH rfl (nl (sr (aF rfl (aH rfl (nl ?_)))))))))))
   refine bQ ?_
   obtain rfl := si H
   exact back1 (a44, c45) rfl (ResV.tmp (v := .slice a44 ((x4.1 ++ [v1]).length) c45) rfl) rfl cM (.cons aA .nil)
  ·refine bH (nT (sr (aF rfl (aH rfl (nl (bQ ?_))))))
   obtain rfl := si H
   exact back1 y10 rfl (ResV.tmp (v := .slice y10.1 x4.1.length y10.2) rfl) rfl cM (.cons dl1 .nil)
noncomputable def p_spec_l2Merge_b0 (v1 : (List Row)) (Q10 : (List Row) × Int) : Option (((List Row) × Int) ⊕ ((List Row))) := cond (decide (Q10.2 < (v1.length : Int))) (gd (ix Q10.2 v1.length) <| bd (p_spec_l2Put Q10.1 (nth v1 Q10.2.toNat)) fun r20 => gd (I64 (Q10.2 + 1)) <| some (.inl (r20, Q10.2 + 1))) (some (.inr Q10.1))
noncomputable def p_spec_l2Merge (v0 : (List Row)) (v1 : (List Row)) : Option ((List Row)) := gd (room (([] : List Row).length + v0.length)) <| bd (lp (p_spec_l2Merge_b0 v1) ((([] : List Row) ++ v0), 0)) fun x6 => some x6
theorem c_spec_l2Merge {r : (List Row)} (v0 : (List Row)) (x_v0 : Option Addr × Nat) (v1 : (List Row)) (x_v1 : Option Addr × Nat) (H : p_spec_l2Merge v0 v1 = some r) : Fn' prog 154 #[.slice x_v0.1 v0.length x_v0.2, .slice x_v1.1 v1.length x_v1.2] [imm (.slice x_v0.1 v0.length x_v0.2) v0, imm (.slice x_v1.1 v1.length x_v1.2) v1] [] (ι := Option Addr × Nat) (fun x => .slice x.1 r.length x.2) (fun _ => []) (fun x => [tree (.slice x.1 r.length x.2) r]) := by
 refine cof (args := [_, _]) func154 ntmps154 fun c => ?_
 unfold p_spec_l2Merge at H
 refine sr (aH (v := .slice none 0 0) rfl (nl (sr (f2 (e_lit0 Row dL ty135) fun a1 c2 => (aF rfl (gdo H fun h5 H => (f2 (e_appF (l := ([] : List Row)) (k := v0) (α := Row) dL ty135 rfl rfl (h5.b (by decide)) h5.x (.cons aA .nil) (aL aR)) fun a3 c4 => (aH rfl (nl (aD (sr (aH (v := .int .i64 (0)) rfl (nl ?_)))))))))))))
 refine bdo H fun x6 hx7 H => (dB (ι := Option Addr × Nat) (fun ψ => [(5, .slice ψ.1 x6.length ψ.2)]) (fun ψ => [tree (.slice ψ.1 x6.length ψ.2) x6]) ?_ ?_)
 ·refine aQ (dE hx7 (a3, c4) (fun Q10 z11 => [(1, .slice x_v1.1 v1.length x_v1.2), (5, .slice z11.1 Q10.1.length z11.2), (6, .int .i64 (Q10.2))]) (fun Q10 z11 => [tree (.slice z11.1 Q10.1.length z11.2) Q10.1]) (.cons aA .nil) ?_)
  rintro _ Q10 z11 t13 H1 hi14 hb15
  unfold p_spec_l2Merge_b0 at H1
  refine aD (sr (aF rfl (aF rfl (aG (bS 135 dL rfl) (aG (cP rfl rfl) (nl (cH H1 rfl (fun h18 H1 => ?_) (fun h18 H1 => ?_))))))))
  ·refine bH (nT (aD (aQ (aP (aF rfl (aF rfl (aF rfl (gdo H1 fun h19 H1 => (aI (bW dL ty135 rfl rfl h19 rfl (aN (aL aR.s))) (aI (v := .agg #[.int .i64 ((nth v1 Q10.2.toNat).1), .int .i64 ((nth v1 Q10.2.toNat).2)]) (cA (i := Q10.2.toNat) ty135 rfl (aN (aL aR.s)) h19.lt) ?_))))))))))
   exact bdo H1 fun r20 h21 H1 => (f1 (cF (c_spec_l2Put Q10.1 z11 (nth v1 Q10.2.toNat) h21) (fun _ => (bF bG)) rfl (aC (bL aB) aO)) fun x22 => (aH rfl (aJ (nB (nT (aP (aF rfl (gdo H1 fun h23 H1 => (aG (bR rfl rfl h23) (aH rfl (aJ (nLI (x22.1, x22.2) (hi14 _ (sm H1)) (.cons aA .nil)))))))))))))
  ·refine dA (xT (xT (xE (?_))))
   obtain rfl := hb15 _ (sm H1)
   exact nMC (z11.1, z11.2) ⟨rfl, trivial⟩ bT (.cons aA .nil)
 ·intro y12
  show At _ _ [(5, .slice y12.1 x6.length y12.2)] _ [tree (.slice y12.1 x6.length y12.2) x6] _
  refine nT (sr (aF rfl (aH rfl (nl (bQ ?_)))))
  obtain rfl := si H
  exact back1 y12 rfl (ResV.tmp (v := .slice y12.1 x6.length y12.2) rfl) rfl cM (.cons aA .nil)
noncomputable def p_spec_l13Rows_b0 (v0 : Store) (v1 : Int) (Q11 : (List Row) × Int) : Option (((List Row) × Int) ⊕ ((List Row))) := cond (decide (Q11.2 < (v0.2.1.length : Int))) (gd (ix Q11.2 v0.2.1.length) <| bd (p_spec_l12Of (nth v0.2.1 Q11.2.toNat) v1) fun r21 => bd (p_spec_l2Merge Q11.1 r21) fun r24 => gd (I64 (Q11.2 + 1)) <| some (.inl (r24, Q11.2 + 1))) (some (.inr Q11.1))
noncomputable def p_spec_l13Rows_b1 (v0 : Store) (v1 : Int) (Q32 : (List Row) × Int) : Option (((List Row) × Int) ⊕ ((List Row))) := cond (decide (Q32.2 < (v0.2.2.length : Int))) (gd (ix Q32.2 v0.2.2.length) <| cond (decide (((nth v0.2.2 Q32.2.toNat).1) = v1)) (bd (p_spec_l2Put Q32.1 ((nth v0.2.2 Q32.2.toNat).2)) fun r43 => gd (I64 (Q32.2 + 1)) <| some (.inl (r43, Q32.2 + 1))) (gd (I64 (Q32.2 + 1)) <| some (.inl (Q32.1, Q32.2 + 1)))) (some (.inr Q32.1))
noncomputable def p_spec_l13Rows (v0 : Store) (v1 : Int) : Option ((List Row)) := bd (lp (p_spec_l13Rows_b0 v0 v1) (([] : List Row), 0)) fun x7 => bd (lp (p_spec_l13Rows_b1 v0 v1) (x7, 0)) fun x28 => some x28
theorem c_spec_l13Rows {r : (List Row)} (v0 : Store) (x_v0 : ((Option Addr × Nat) × (Option Addr × Nat)) × (Option Addr × Nat) × (Option Addr × Nat)) (v1 : Int) (H : p_spec_l13Rows v0 v1 = some r) : Fn' prog 104 #[.agg #[.slice x_v0.1.1.1 v0.1.1.length x_v0.1.1.2, .slice x_v0.1.2.1 v0.1.2.length x_v0.1.2.2, .slice x_v0.2.1.1 v0.2.1.length x_v0.2.1.2, .slice x_v0.2.2.1 v0.2.2.length x_v0.2.2.2], .int .i64 (v1)] [imm (.slice x_v0.1.1.1 v0.1.1.length x_v0.1.1.2) v0.1.1, imm (.slice x_v0.1.2.1 v0.1.2.length x_v0.1.2.2) v0.1.2, imm (.slice x_v0.2.1.1 v0.2.1.length x_v0.2.1.2) v0.2.1, imm (.slice x_v0.2.2.1 v0.2.2.length x_v0.2.2.2) v0.2.2] [] (ι := Option Addr × Nat) (fun x => .slice x.1 r.length x.2) (fun _ => []) (fun x => [tree (.slice x.1 r.length x.2) r]) := by
 refine cof (args := [_, _]) func104 ntmps104 fun c => ?_
 unfold p_spec_l13Rows at H
 refine bM aR fun X1 => (bM aR.s.s fun X2 => (bM aR.s.s.s.s fun X3 => (sr (f1 (cC (t := 42) rfl) fun g4 => (aH (v := .slice none 0 0) rfl (nl (sr (f2 (e_lit0 Row dL ty135) fun a5 c6 => (aH rfl (nl (aD (sr ?_))))))))))))
 refine aH (v := .int .i64 (0)) rfl (nl (bdo H fun x7 hx8 H => (dB (ι := Option Addr × Nat) (fun ψ => [(1, .int .i64 (v1)), (2, .pointer (some ⟨g4, 0, none⟩)), (5, .slice ψ.1 x7.length ψ.2)]) (fun ψ => [box g4 42 [.slice x_v0.1.1.1 v0.1.1.length x_v0.1.1.2, .slice x_v0.1.2.1 v0.1.2.length x_v0.1.2.2, .slice x_v0.2.1.1 v0.2.1.length x_v0.2.1.2, .slice x_v0.2.2.1 v0.2.2.length x_v0.2.2.2], tree (.slice ψ.1 x7.length ψ.2) x7]) ?_ ?_)))
 ·refine aQ (dE hx8 (a5, c6) (fun Q11 z12 => [(1, .int .i64 (v1)), (2, .pointer (some ⟨g4, 0, none⟩)), (5, .slice z12.1 Q11.1.length z12.2), (6, .int .i64 (Q11.2))]) (fun Q11 z12 => [box g4 42 [.slice x_v0.1.1.1 v0.1.1.length x_v0.1.1.2, .slice x_v0.1.2.1 v0.1.2.length x_v0.1.2.2, .slice x_v0.2.1.1 v0.2.1.length x_v0.2.1.2, .slice x_v0.2.2.1 v0.2.2.length x_v0.2.2.2], tree (.slice z12.1 Q11.1.length z12.2) Q11.1]) (.cons dl1 (.cons aA .nil)) ?_)
  rintro _ Q11 z12 t14 H1 hi15 hb16
  unfold p_spec_l13Rows_b0 at H1
  refine aD (sr (aF rfl (aG (cB fa42_1 rfl rfl) (aI (bI ty39 rfl aB rfl) (aG (bS 75 dU rfl) (aG (cP rfl rfl) (nl (cH H1 rfl (fun h19 H1 => ?_) (fun h19 H1 => ?_)))))))))
  ·refine bH (nT (aD (aQ (aP (aF rfl (aG (cB fa42_1 rfl rfl) (aI (bI ty39 rfl aB rfl) (aF rfl (gdo H1 fun h20 H1 => (aI (bW dU ty75 rfl rfl h20 rfl (aL (aT aR))) ?_))))))))))
   refine aI (v := .agg #[.slice (((X3 Q11.2.toNat).1).1) (((nth v0.2.1 Q11.2.toNat).1).length) (((X3 Q11.2.toNat).1).2.1), .slice (((X3 Q11.2.toNat).2).1) (((nth v0.2.1 Q11.2.toNat).2).length) (((X3 Q11.2.toNat).2).2.1)]) (cA (i := Q11.2.toNat) ty75 rfl (aL (aT aR)) h20.lt) (aF rfl (bdo H1 fun r21 h22 H1 => (f1 (e_call (c_spec_l12Of (nth v0.2.1 Q11.2.toNat) ((((X3 Q11.2.toNat).1).1, ((X3 Q11.2.toNat).1).2.1), (((X3 Q11.2.toNat).2).1, ((X3 Q11.2.toNat).2).2.1)) v1 h22) rfl (cL (aS (aV (aW aR h20.lt))) (cL (aS (aU (aW aR h20.lt))) cM)) bK) fun x23 => (bdo H1 fun r24 h25 H1 => (f1 (cF (c_spec_l2Merge Q11.1 z12 r21 x23 h25) (fun _ => (bF bG)) rfl (aC (bL hs1) (aC (aL aR) aO))) fun x26 => (aH rfl (aJ (nB (nT (aP (aF rfl ?_)))))))))))
   exact gdo H1 fun h27 H1 => (aG (bR rfl rfl h27) (aH rfl (aJ (nLI (hf := bT.s) (x26.1, x26.2) (hi15 _ (sm H1)) (.cons dl1 (.cons aA .nil))))))
  ·refine dA (xT (xT (xE (?_))))
   obtain rfl := hb16 _ (sm H1)
   exact nMC (z12.1, z12.2) ⟨rfl, rfl, rfl, trivial⟩ bT (.cons aA (.cons aA .nil))
 ·intro y13
  show At _ _ [(1, .int .i64 (v1)), (2, .pointer (some ⟨g4, 0, none⟩)), (5, .slice y13.1 x7.length y13.2)] _ [box g4 42 [.slice x_v0.1.1.1 v0.1.1.length x_v0.1.1.2, .slice x_v0.1.2.1 v0.1.2.length x_v0.1.2.2, .slice x_v0.2.1.1 v0.2.1.length x_v0.2.1.2, .slice x_v0.2.2.1 v0.2.2.length x_v0.2.2.2], tree (.slice y13.1 x7.length y13.2) x7] _
  refine nT (aD (sr (aH (v := .int .i64 (0)) rfl (nl (bdo H fun x28 hx29 H => (dB (ι := Option Addr × Nat) (fun ψ => [(5, .slice ψ.1 x28.length ψ.2)]) (fun ψ => [tree (.slice ψ.1 x28.length ψ.2) x28]) ?_ ?_))))))
  ·refine aQ (dE hx29 (y13.1, y13.2) (fun Q32 z33 => [(1, .int .i64 (v1)), (2, .pointer (some ⟨g4, 0, none⟩)), (5, .slice z33.1 Q32.1.length z33.2), (7, .int .i64 (Q32.2))]) (fun Q32 z33 => [box g4 42 [.slice x_v0.1.1.1 v0.1.1.length x_v0.1.1.2, .slice x_v0.1.2.1 v0.1.2.length x_v0.1.2.2, .slice x_v0.2.1.1 v0.2.1.length x_v0.2.1.2, .slice x_v0.2.2.1 v0.2.2.length x_v0.2.2.2], tree (.slice z33.1 Q32.1.length z33.2) Q32.1]) (.cons aA (.cons aA .nil)) ?_)
   rintro _ Q32 z33 t35 H1 hi36 hb37
   unfold p_spec_l13Rows_b1 at H1
   refine aD (sr (aF rfl (aG (cB fa42_2 rfl rfl) (aI (bI ty40 rfl aB rfl) (aG (bS 137 dV rfl) (aG (cP rfl rfl) (nl (cH H1 rfl (fun h40 H1 => ?_) (fun h40 H1 => ?_)))))))))
   ·refine bH (nT (aD (aQ (sr (aG (cB fa42_2 rfl rfl) (aI (bI ty40 rfl aB rfl) (aF rfl (gdo H1 fun h41 H1 => (aI (bW dV ty137 rfl rfl h41 rfl (aN (aL aR.s.s.s.s.s.s))) (aI (bY (j := 0) Q32.2.toNat fa137_0 rfl (aN (aL aR.s.s.s.s.s.s)) h41.lt rfl) ?_))))))))))
    refine aI (bZ (i := Q32.2.toNat) (j := 0) ty3 rfl (aN (aL aR.s.s.s.s.s.s)) h41.lt rfl) (aF rfl (aG (cS rfl rfl) (nl (cH H1 rfl (fun h42 H1 => ?_) (fun h42 H1 => ?_)))))
    ·refine aP (aF rfl (aG (cB fa42_2 rfl rfl) (aI (bI ty40 rfl aB rfl) (aF rfl (aI (bW dV ty137 rfl rfl h41 rfl (aN (aL aR.s.s.s.s.s.s))) (aI (bY (j := 0) Q32.2.toNat fa137_1 rfl (aN (aL aR.s.s.s.s.s.s)) h41.lt rfl) (aI (v := .agg #[.int .i64 (((nth v0.2.2 Q32.2.toNat).2).1), .int .i64 (((nth v0.2.2 Q32.2.toNat).2).2)]) (q_ldeP [.int .i64 (((nth v0.2.2 Q32.2.toNat).2).1), .int .i64 (((nth v0.2.2 Q32.2.toNat).2).2)] (l := v0.2.2) (E := fun i => Flat.enc (nth v0.2.2 i)) (oa := x_v0.2.2.1) (i := Q32.2.toNat) (j := 1) ty135 rfl (aN (aL aR.s.s.s.s.s.s)) h41.lt rfl rfl) (bdo H1 fun r43 h44 H1 => (f1 (cF (c_spec_l2Put Q32.1 z33 ((nth v0.2.2 Q32.2.toNat).2) h44) (fun _ => (bF bG)) rfl (aC (bL hs1) aO)) fun x45 => ?_)))))))))
     exact aH rfl (aJ (nB (nT (aP (aF rfl (gdo H1 fun h46 H1 => (aG (bR rfl rfl h46) (aH rfl (aJ (nLI (x45.1, x45.2) (hi36 _ (sm H1)) (.cons dl1 (.cons aA .nil))))))))))))
    ·exact bH (nB (nT (aP (aF rfl (gdo H1 fun h47 H1 => (aG (bR rfl rfl h47) (aH rfl (aJ (nLI (z33.1, z33.2) (hi36 _ (sm H1)) (.cons aA (.cons aA .nil)))))))))))
   ·refine dA (xT (xT (xE (?_))))
    obtain rfl := hb37 _ (sm H1)
    exact nMC (z33.1, z33.2) ⟨rfl, trivial⟩ bT (.cons dl1 .nil)
  ·intro y34
   show At _ _ [(5, .slice y34.1 x28.length y34.2)] _ [tree (.slice y34.1 x28.length y34.2) x28] _
   refine nT (sr (aF rfl (aH rfl (nl (bQ ?_)))))
   obtain rfl := si H
   exact back1 y34 rfl (ResV.tmp (v := .slice y34.1 x28.length y34.2) rfl) rfl cM (.cons aA .nil)
noncomputable def p_spec_StoreOk_b0 (v0 : Store) (Q16 : Int) : Option ((Int) ⊕ (Unit ⊕ Bool)) := cond (decide (Q16 < (v0.2.1.length : Int))) (gd (ix Q16 v0.2.1.length) <| bd (p_spec_l13Part (nth v0.2.1 Q16.toNat) (v0.1.1.length : Int)) fun r26 => cond (!r26) (some (.inr (.inr false))) (gd (I64 (Q16 + 1)) <| some (.inl (Q16 + 1)))) (some (.inr (.inl ())))
noncomputable def p_spec_StoreOk_b1 (v0 : Store) (Q35 : Int) : Option ((Int) ⊕ (Unit ⊕ Bool)) := cond (decide (Q35 < (v0.2.2.length : Int))) (bd (gd (ix Q35 v0.2.2.length) <| bd (p_spec_l6In ((nth v0.2.2 Q35.toNat).1) 1 (v0.1.1.length : Int)) fun r47 => cond (!r47) (some (true)) (bd (p_spec_l2Row ((nth v0.2.2 Q35.toNat).2)) fun r50 => some (!r50))) fun b44 => cond (b44) (some (.inr (.inr false))) (gd (I64 (Q35 + 1)) <| some (.inl (Q35 + 1)))) (some (.inr (.inl ())))
noncomputable def p_spec_StoreOk_b2 (v0 : Store) (Q59 : Int) : Option ((Int) ⊕ (Unit ⊕ Bool)) := cond (decide (Q59 ≤ (v0.1.1.length : Int))) (bd (p_spec_l13Rows v0 Q59) fun r68 => cond (decide (24 < (r68.length : Int))) (some (.inr (.inr false))) (gd (I64 (Q59 + 1)) <| some (.inl (Q59 + 1)))) (some (.inr (.inl ())))
noncomputable def p_spec_StoreOk (v0 : Store) : Option (Bool) := bd (bd (p_spec_IndexOk v0.1) fun r7 => cond (!r7) (some (true)) (cond (decide (6 < (v0.2.1.length : Int))) (some (true)) (some (decide (20 < (v0.2.2.length : Int)))))) fun b5 => cond (b5) (some false) (bd (lp (p_spec_StoreOk_b0 v0) 0) <| sw (fun _ => bd (lp (p_spec_StoreOk_b1 v0) 0) <| sw (fun _ => bd (lp (p_spec_StoreOk_b2 v0) 1) <| sw (fun _ => some true) (fun q => some q)) (fun q => some q)) (fun q => some q))
theorem c_spec_StoreOk {r : Bool} (v0 : Store) (x_v0 : ((Option Addr × Nat) × (Option Addr × Nat)) × (Option Addr × Nat) × (Option Addr × Nat)) (H : p_spec_StoreOk v0 = some r) : Fn' prog 42 #[.agg #[.slice x_v0.1.1.1 v0.1.1.length x_v0.1.1.2, .slice x_v0.1.2.1 v0.1.2.length x_v0.1.2.2, .slice x_v0.2.1.1 v0.2.1.length x_v0.2.1.2, .slice x_v0.2.2.1 v0.2.2.length x_v0.2.2.2]] [imm (.slice x_v0.1.1.1 v0.1.1.length x_v0.1.1.2) v0.1.1, imm (.slice x_v0.1.2.1 v0.1.2.length x_v0.1.2.2) v0.1.2, imm (.slice x_v0.2.1.1 v0.2.1.length x_v0.2.1.2) v0.2.1, imm (.slice x_v0.2.2.1 v0.2.2.length x_v0.2.2.2) v0.2.2] [] (ι := Unit) (fun _ => .bool (r)) (fun _ => []) (fun _ => []) := by
 refine cof (args := [_]) func42 ntmps42 fun c => ?_
 unfold p_spec_StoreOk at H
 refine bM aR fun X1 => (bM aR.s.s fun X2 => (bM aR.s.s.s.s fun X3 => (sr (f1 (cC (t := 42) rfl) fun g4 => (aH (v := .bool (false)) rfl (nl (sr (aG (cB fa42_0 rfl rfl) (aG (cB fa38_0 rfl rfl) (aI (bI ty30 rfl aB rfl) ?_))))))))))
 refine aG (bS 142 dS rfl) (aH rfl (nl (aD (bdo H fun b5 j6 H => (dD [(26, .bool (b5)), (3, .int .i64 ((v0.1.1.length : Int))), (1, .pointer (some ⟨g4, 0, none⟩))] ?_ ?_)))))
 ·refine dH [(3, .int .i64 ((v0.1.1.length : Int))), (1, .pointer (some ⟨g4, 0, none⟩))] ⟨rfl, rfl, trivial⟩ (aX (cB fa42_0 rfl rfl) (aZ (v := .agg #[.slice x_v0.1.1.1 v0.1.1.length x_v0.1.1.2, .slice x_v0.1.2.1 v0.1.2.length x_v0.1.2.2]) (q_ldbP [.slice x_v0.1.1.1 v0.1.1.length x_v0.1.1.2, .slice x_v0.1.2.1 v0.1.2.length x_v0.1.2.2] ty38 rfl aB rfl rfl) (bdo j6 fun r7 h8 j6 => (aZ (bN (c_spec_IndexOk v0.1 x_v0.1 h8) rfl (aC (aL (aS aR.s.s)) (aC (aL (aS aR.s)) aO))) (aX (cV rfl) ?_)))))
  rcases aK (!r7) with h9 | h9
  ·have j6 := cdT h9 j6
   refine bC (aE rfl) h9 ?_
   iterate 4 refine bE rfl ?_
   refine aX (v := .bool (true)) (bP rfl rfl) (bB (v := .bool (true)) rfl ?_)
   iterate 4 refine bE rfl ?_
   refine aX (v := .bool (true)) (bP rfl rfl) ?_
   obtain rfl := si j6
   show At _ _ _ _ _ _
   exact n1 ⟨rfl, rfl, rfl, trivial⟩
  ·have j6 := cdF h9 j6
   refine bC (aE rfl) h9 (aY rfl (cB fa42_1 rfl rfl) (bA rfl (bI ty39 rfl aB rfl) (aY rfl (bS 75 dU rfl) (aY rfl (cU rfl rfl) (aX (bO rfl rfl) ?_)))))
   rcases aK (decide (6 < (v0.2.1.length : Int))) with h10 | h10
   ·have j6 := cdT h10 j6
    refine bC (aE rfl) h10 ?_
    iterate 4 refine bE rfl ?_
    refine aX (v := .bool (true)) (bP rfl rfl) ?_
    obtain rfl := si j6
    show At _ _ _ _ _ _
    exact n1 ⟨rfl, rfl, rfl, trivial⟩
   ·have j6 := cdF h10 j6
    refine bC (aE rfl) h10 (aY rfl (cB fa42_2 rfl rfl) (bA rfl (bI ty40 rfl aB rfl) (aY rfl (bS 137 dV rfl) (aY rfl (cU rfl rfl) (aX (bO rfl rfl) ?_)))))
    obtain rfl := si j6
    show At _ _ _ _ _ _
    exact n1 ⟨rfl, rfl, rfl, trivial⟩
 refine cH H rfl (fun h11 H => ?_) (fun h11 H => ?_)
 ·refine sr (aH (v := .bool (false)) rfl (nl (bQ (rT (?_)))))
  obtain rfl := si H
  exact bk
 ·refine bH (nT (aD (sr (aH (v := .int .i64 (0)) rfl (nl (bdo H fun x12 hx13 H => (dC (Λ := Unit) H (fun _ _ => [(1, .pointer (some ⟨g4, 0, none⟩)), (3, .int .i64 ((v0.1.1.length : Int)))]) (fun _ _ => [box g4 42 [.slice x_v0.1.1.1 v0.1.1.length x_v0.1.1.2, .slice x_v0.1.2.1 v0.1.2.length x_v0.1.2.2, .slice x_v0.2.1.1 v0.2.1.length x_v0.2.1.2, .slice x_v0.2.2.1 v0.2.2.length x_v0.2.2.2]]) ?_ ?_)))))))
  ·refine aQ (dE hx13 () (fun Q16 _ => [(1, .pointer (some ⟨g4, 0, none⟩)), (3, .int .i64 ((v0.1.1.length : Int))), (4, .int .i64 (Q16))]) (fun _ _ => [box g4 42 [.slice x_v0.1.1.1 v0.1.1.length x_v0.1.1.2, .slice x_v0.1.2.1 v0.1.2.length x_v0.1.2.2, .slice x_v0.2.1.1 v0.2.1.length x_v0.2.1.2, .slice x_v0.2.2.1 v0.2.2.length x_v0.2.2.2]]) (.cons aA .nil) ?_)
   rintro _ Q16 z17 t19 H1 hi20 hb21
   unfold p_spec_StoreOk_b0 at H1
   refine aD (sr (aF rfl (aG (cB fa42_1 rfl rfl) (aI (bI ty39 rfl aB rfl) (aG (bS 75 dU rfl) (aG (cP rfl rfl) (nl (cH H1 rfl (fun h24 H1 => ?_) (fun h24 H1 => ?_)))))))))
   ·refine bH (nT (aD (aQ (sr (aG (cB fa42_1 rfl rfl) (aI (bI ty39 rfl aB rfl) (aF rfl (gdo H1 fun h25 H1 => (aI (bW dU ty75 rfl rfl h25 rfl (aL (aT aR))) (aI (v := .agg #[.slice (((X3 Q16.toNat).1).1) (((nth v0.2.1 Q16.toNat).1).length) (((X3 Q16.toNat).1).2.1), .slice (((X3 Q16.toNat).2).1) (((nth v0.2.1 Q16.toNat).2).length) (((X3 Q16.toNat).2).2.1)]) (cA (i := Q16.toNat) ty75 rfl (aL (aT aR)) h25.lt) ?_))))))))))
    refine aF rfl (bdo H1 fun r26 h27 H1 => (aI (bN (c_spec_l13Part (nth v0.2.1 Q16.toNat) ((((X3 Q16.toNat).1).1, ((X3 Q16.toNat).1).2.1), (((X3 Q16.toNat).2).1, ((X3 Q16.toNat).2).2.1)) (v0.1.1.length : Int) h27) rfl (aC (aL (aS (aV (aW aR h25.lt)))) (aC (aL (aS (aU (aW aR h25.lt)))) aO))) (aG (cV rfl) (nl (cH H1 rfl (fun h28 H1 => ?_) (fun h28 H1 => ?_))))))
    ·refine sr (aH (v := .bool (false)) rfl (nl (bQ (rB (rT (rT (rB (rT (rT (?_))))))))))
     obtain rfl := hb21 _ (sm H1)
     replace H := sw.r H
     obtain rfl := si H
     exact bk
    ·exact bH (nB (nT (aP (aF rfl (gdo H1 fun h29 H1 => (aG (bR rfl rfl h29) (aH rfl (aJ (nLI () (hi20 _ (sm H1)) (.cons aA .nil))))))))))
   ·exact dA (xT (xT (xE (nMI () (hb21 _ (sm H1)) (.cons aA .nil)))))
  ·rintro e30 y18 H
   refine nT (aD (sr (aH (v := .int .i64 (0)) rfl (nl (bdo H fun x31 hx32 H => (dC (Λ := Unit) H (fun _ _ => [(1, .pointer (some ⟨g4, 0, none⟩)), (3, .int .i64 ((v0.1.1.length : Int)))]) (fun _ _ => [box g4 42 [.slice x_v0.1.1.1 v0.1.1.length x_v0.1.1.2, .slice x_v0.1.2.1 v0.1.2.length x_v0.1.2.2, .slice x_v0.2.1.1 v0.2.1.length x_v0.2.1.2, .slice x_v0.2.2.1 v0.2.2.length x_v0.2.2.2]]) ?_ ?_))))))
   ·refine aQ (dE hx32 () (fun Q35 _ => [(1, .pointer (some ⟨g4, 0, none⟩)), (3, .int .i64 ((v0.1.1.length : Int))), (5, .int .i64 (Q35))]) (fun _ _ => [box g4 42 [.slice x_v0.1.1.1 v0.1.1.length x_v0.1.1.2, .slice x_v0.1.2.1 v0.1.2.length x_v0.1.2.2, .slice x_v0.2.1.1 v0.2.1.length x_v0.2.1.2, .slice x_v0.2.2.1 v0.2.2.length x_v0.2.2.2]]) (.cons aA .nil) ?_)
    rintro _ Q35 z36 t38 H1 hi39 hb40
    unfold p_spec_StoreOk_b1 at H1
    refine aD (sr (aF rfl (aG (cB fa42_2 rfl rfl) (aI (bI ty40 rfl aB rfl) (aG (bS 137 dV rfl) (aG (cP rfl rfl) (nl (cH H1 rfl (fun h43 H1 => ?_) (fun h43 H1 => ?_)))))))))
    ·refine bH (nT (aD (aQ (bdo H1 fun b44 j45 H1 => (dD [(67, .bool (b44)), (1, .pointer (some ⟨g4, 0, none⟩)), (3, .int .i64 ((v0.1.1.length : Int))), (5, .int .i64 (Q35))] ?_ ?_)))))
     ·refine dH [(1, .pointer (some ⟨g4, 0, none⟩)), (3, .int .i64 ((v0.1.1.length : Int))), (5, .int .i64 (Q35))] ⟨rfl, rfl, rfl, trivial⟩ (aX (cB fa42_2 rfl rfl) (aZ (bI ty40 rfl aB rfl) (bB rfl (gdo j45 fun h46 j45 => (aZ (bW dV ty137 rfl rfl h46 rfl (aN (aL aR.s.s.s.s.s.s))) (aZ (bY (j := 0) Q35.toNat fa137_0 rfl (aN (aL aR.s.s.s.s.s.s)) h46.lt rfl) (aZ (bZ (i := Q35.toNat) (j := 0) ty3 rfl (aN (aL aR.s.s.s.s.s.s)) h46.lt rfl) (bB rfl (bdo j45 fun r47 h48 j45 => ?_)))))))))
      refine aZ (bN (c_spec_l6In ((nth v0.2.2 Q35.toNat).1) 1 (v0.1.1.length : Int) h48) rfl aO) (aX (cV rfl) ?_)
      rcases aK (!r47) with h49 | h49
      ·have j45 := cdT h49 j45
       refine bC (aE rfl) h49 ?_
       iterate 8 refine bE rfl ?_
       refine aX (v := .bool (true)) (bP rfl rfl) ?_
       obtain rfl := si j45
       show At _ _ _ _ _ _
       exact n1 ⟨rfl, rfl, rfl, rfl, trivial⟩
      ·have j45 := cdF h49 j45
       refine bC (aE rfl) h49 (aY rfl (cB fa42_2 rfl rfl) (bA rfl (bI ty40 rfl aB rfl) (aY rfl (aE rfl) (bA rfl (bW dV ty137 rfl rfl h46 rfl (aN (aL aR.s.s.s.s.s.s))) (bA rfl (bY (j := 0) Q35.toNat fa137_1 rfl (aN (aL aR.s.s.s.s.s.s)) h46.lt rfl) (bA (v := .agg #[.int .i64 (((nth v0.2.2 Q35.toNat).2).1), .int .i64 (((nth v0.2.2 Q35.toNat).2).2)]) rfl (q_ldeP [.int .i64 (((nth v0.2.2 Q35.toNat).2).1), .int .i64 (((nth v0.2.2 Q35.toNat).2).2)] (l := v0.2.2) (E := fun i => Flat.enc (nth v0.2.2 i)) (oa := x_v0.2.2.1) (i := Q35.toNat) (j := 1) ty135 rfl (aN (aL aR.s.s.s.s.s.s)) h46.lt rfl rfl) (bdo j45 fun r50 h51 j45 => (bA rfl (bN (c_spec_l2Row ((nth v0.2.2 Q35.toNat).2) h51) rfl aO) (aY rfl (cV rfl) ?_)))))))))
       refine aX (bO rfl rfl) ?_
       obtain rfl := si j45
       show At _ _ _ _ _ _
       exact n1 ⟨rfl, rfl, rfl, rfl, trivial⟩
     refine cH H1 rfl (fun h52 H1 => ?_) (fun h52 H1 => ?_)
     ·refine sr (aH (v := .bool (false)) rfl (nl (bQ (rB (rT (rT (rB (rT (rT (?_))))))))))
      obtain rfl := hb40 _ (sm H1)
      replace H := sw.r H
      obtain rfl := si H
      exact bk
     ·exact bH (nB (nT (aP (aF rfl (gdo H1 fun h53 H1 => (aG (bR rfl rfl h53) (aH rfl (aJ (nLI () (hi39 _ (sm H1)) (.cons aA .nil))))))))))
    ·exact dA (xT (xT (xE (nMI () (hb40 _ (sm H1)) (.cons aA .nil)))))
   ·rintro e54 y37 H
    refine nT (aD (sr (aH (v := .int .i64 (1)) rfl (nl (bdo H fun x55 hx56 H => (dC (Λ := Unit) H (fun _ _ => []) (fun _ _ => []) ?_ ?_))))))
    ·refine aQ (dE hx56 () (fun Q59 _ => [(1, .pointer (some ⟨g4, 0, none⟩)), (3, .int .i64 ((v0.1.1.length : Int))), (6, .int .i64 (Q59))]) (fun _ _ => [box g4 42 [.slice x_v0.1.1.1 v0.1.1.length x_v0.1.1.2, .slice x_v0.1.2.1 v0.1.2.length x_v0.1.2.2, .slice x_v0.2.1.1 v0.2.1.length x_v0.2.1.2, .slice x_v0.2.2.1 v0.2.2.length x_v0.2.2.2]]) (.cons aA .nil) ?_)
     rintro _ Q59 z60 t62 H1 hi63 hb64
     unfold p_spec_StoreOk_b2 at H1
     refine aD (sr (aF rfl (aF rfl (aG (cT rfl rfl) (nl (cH H1 rfl (fun h67 H1 => ?_) (fun h67 H1 => ?_)))))))
     ·refine bH (nT (aD (aQ (sr (aI (bJ ty42 rfl aB rfl) (aF rfl (bdo H1 fun r68 h69 H1 => (f1 (cF (c_spec_l13Rows v0 x_v0 Q59 h69) (fun _ => (bF bG)) rfl (aC (aL (aS aR.s.s)) (aC (aL (aS aR.s)) (aC (aL (aS aR)) (aC (aL aR.s.s.s.s.s.s) aO))))) fun x70 => (aG (bS 135 dL rfl) (aG (cU rfl rfl) (nl ?_)))))))))))
      refine cH H1 rfl (fun h71 H1 => ?_) (fun h71 H1 => ?_)
      ·refine sr (aH (v := .bool (false)) rfl (nl (bQ (rB (rT (rT (rB (rT (rT (?_))))))))))
       obtain rfl := hb64 _ (sm H1)
       replace H := sw.r H
       obtain rfl := si H
       exact bk
      ·exact bH (nB (nT (aP (aF rfl (gdo H1 fun h72 H1 => (aG (bR rfl rfl h72) (aH rfl (aJ (nLI () (hi63 _ (sm H1)) (.cons dl1 .nil))))))))))
     ·exact dA (xT (xT (xE (nMI () (hb64 _ (sm H1)) bK))))
    ·rintro e73 y61 H
     refine nT (sr (aH (v := .bool (true)) rfl (nl ?_)))
     obtain rfl := si H
     exact bQ bk
noncomputable def p_spec_DiskOk_b0 (v0 : Disk) (Q16 : Int) : Option ((Int) ⊕ (Unit ⊕ Bool)) := cond (decide (Q16 < (v0.1.length : Int))) (bd (gd (ix Q16 v0.1.length) <| gd (I64 (v0.2.2.2 - 1)) <| bd (p_spec_l6In ((nth v0.1 Q16.toNat).1) 1 (v0.2.2.2 - 1)) fun r29 => cond (!r29) (some (true)) (cond (decide (0 < Q16)) (gd (I64 (Q16 - 1)) <| gd (ix (Q16 - 1) v0.1.length) <| cond (decide (((nth v0.1 Q16.toNat).1) ≤ ((nth v0.1 ((Q16 - 1).toNat)).1))) (some (true)) (bd (p_spec_PartOk ((nth v0.1 Q16.toNat).2)) fun r36 => some (!r36))) (bd (p_spec_PartOk ((nth v0.1 Q16.toNat).2)) fun r38 => some (!r38)))) fun b25 => cond (b25) (some (.inr (.inr false))) (gd (I64 (Q16 + 1)) <| some (.inl (Q16 + 1)))) (some (.inr (.inl ())))
noncomputable def p_spec_DiskOk_b2 (v0 : Disk) (Q47 : Int) (Q64 : Int) : Option ((Int) ⊕ (Unit ⊕ Bool)) := cond (decide (Q64 < Q47)) (gd (ix Q64 v0.2.1.length) <| cond (decide ((nth v0.2.1 Q64.toNat) = (nth v0.2.1 Q47.toNat))) (some (.inr (.inr false))) (gd (I64 (Q64 + 1)) <| some (.inl (Q64 + 1)))) (some (.inr (.inl ())))
noncomputable def p_spec_DiskOk_b1 (v0 : Disk) (Q47 : Int) : Option ((Int) ⊕ (Unit ⊕ Bool)) := cond (decide (Q47 < (v0.2.1.length : Int))) (gd (ix Q47 v0.2.1.length) <| bd (p_spec_l21At v0 (nth v0.2.1 Q47.toNat)) fun r57 => cond (decide (r57 < 0)) (some (.inr (.inr false))) (bd (lp (p_spec_DiskOk_b2 v0 Q47) 0) <| sw (fun _ => gd (I64 (Q47 + 1)) <| some (.inl (Q47 + 1))) (fun q => some (.inr (.inr q))))) (some (.inr (.inl ())))
noncomputable def p_spec_DiskOk (v0 : Disk) : Option (Bool) := bd (bd (p_spec_l6In v0.2.2.2 1 999) fun r6 => cond (!r6) (some (true)) (cond (decide (20 < (v0.1.length : Int))) (some (true)) (cond (decide (6 < (v0.2.1.length : Int))) (some (true)) (some (decide (6 < (v0.2.2.1.length : Int))))))) fun b4 => cond (b4) (some false) (bd (lp (p_spec_DiskOk_b0 v0) 0) <| sw (fun _ => bd (lp (p_spec_DiskOk_b1 v0) 0) <| sw (fun _ => bd (p_spec_l21Open v0) fun r79 => bd (p_spec_StoreOk r79) fun r82 => some r82) (fun q => some q)) (fun q => some q))
theorem c_spec_DiskOk {r : Bool} (v0 : Disk) (x_v0 : (Option Addr × Nat) × (Option Addr × Nat) × (Option Addr × Nat) × Unit) (H : p_spec_DiskOk v0 = some r) : Fn' prog 10 #[.agg #[.slice x_v0.1.1 v0.1.length x_v0.1.2, .slice x_v0.2.1.1 v0.2.1.length x_v0.2.1.2, .slice x_v0.2.2.1.1 v0.2.2.1.length x_v0.2.2.1.2, .int .i64 (v0.2.2.2)]] [imm (.slice x_v0.1.1 v0.1.length x_v0.1.2) v0.1, imm (.slice x_v0.2.1.1 v0.2.1.length x_v0.2.1.2) v0.2.1, imm (.slice x_v0.2.2.1.1 v0.2.2.1.length x_v0.2.2.1.2) v0.2.2.1] [] (ι := Unit) (fun _ => .bool (r)) (fun _ => []) (fun _ => []) := by
 refine cof (args := [_]) func10 ntmps10 fun c => ?_
 unfold p_spec_DiskOk at H
 refine bM aR fun X1 => (bM aR.s.s.s fun X2 => (sr (f1 (cC (t := 32) rfl) fun g3 => (aH (v := .bool (false)) rfl (nl (aD (bdo H fun b4 j5 H => (dD [(27, .bool (b4)), (1, .pointer (some ⟨g3, 0, none⟩))] ?_ ?_))))))))
 ·refine dH [(1, .pointer (some ⟨g3, 0, none⟩))] ⟨rfl, trivial⟩ (aX (cB fa32_3 rfl rfl) (aZ (bI ty3 rfl aB rfl) (bdo j5 fun r6 h7 j5 => (aZ (bN (c_spec_l6In v0.2.2.2 1 999 h7) rfl aO) (aX (cV rfl) ?_)))))
  rcases aK (!r6) with h8 | h8
  ·have j5 := cdT h8 j5
   refine bC (aE rfl) h8 ?_
   iterate 4 refine bE rfl ?_
   refine aX (v := .bool (true)) (bP rfl rfl) (bB (v := .bool (true)) rfl ?_)
   iterate 4 refine bE rfl ?_
   refine aX (v := .bool (true)) (bP rfl rfl) (bB (v := .bool (true)) rfl ?_)
   iterate 4 refine bE rfl ?_
   refine aX (v := .bool (true)) (bP rfl rfl) ?_
   obtain rfl := si j5
   show At _ _ _ _ _ _
   exact n1 ⟨rfl, rfl, trivial⟩
  ·have j5 := cdF h8 j5
   refine bC (aE rfl) h8 (aY rfl (cB fa32_0 rfl rfl) (bA rfl (bI ty29 rfl aB rfl) (aY rfl (bS 77 dR rfl) (aY rfl (cU rfl rfl) (aX (bO rfl rfl) ?_)))))
   rcases aK (decide (20 < (v0.1.length : Int))) with h9 | h9
   ·have j5 := cdT h9 j5
    refine bC (aE rfl) h9 ?_
    iterate 4 refine bE rfl ?_
    refine aX (v := .bool (true)) (bP rfl rfl) (bB (v := .bool (true)) rfl ?_)
    iterate 4 refine bE rfl ?_
    refine aX (v := .bool (true)) (bP rfl rfl) ?_
    obtain rfl := si j5
    show At _ _ _ _ _ _
    exact n1 ⟨rfl, rfl, trivial⟩
   ·have j5 := cdF h9 j5
    refine bC (aE rfl) h9 (aY rfl (cB fa32_1 rfl rfl) (bA rfl (bI ty23 rfl aB rfl) (aY rfl (bS 3 dP rfl) (aY rfl (cU rfl rfl) (aX (bO rfl rfl) ?_)))))
    rcases aK (decide (6 < (v0.2.1.length : Int))) with h10 | h10
    ·have j5 := cdT h10 j5
     refine bC (aE rfl) h10 ?_
     iterate 4 refine bE rfl ?_
     refine aX (v := .bool (true)) (bP rfl rfl) ?_
     obtain rfl := si j5
     show At _ _ _ _ _ _
     exact n1 ⟨rfl, rfl, trivial⟩
    ·have j5 := cdF h10 j5
     refine bC (aE rfl) h10 (aY rfl (cB fa32_2 rfl rfl) (bA rfl (bI ty30 rfl aB rfl) (aY rfl (bS 142 dS rfl) (aY rfl (cU rfl rfl) (aX (bO rfl rfl) ?_)))))
     obtain rfl := si j5
     show At _ _ _ _ _ _
     exact n1 ⟨rfl, rfl, trivial⟩
 refine cH H rfl (fun h11 H => ?_) (fun h11 H => ?_)
 ·refine sr (aH (v := .bool (false)) rfl (nl (bQ (rT (?_)))))
  obtain rfl := si H
  exact bk
 ·refine bH (nT (aD (sr (aH (v := .int .i64 (0)) rfl (nl (bdo H fun x12 hx13 H => (dC (Λ := Unit) H (fun _ _ => [(1, .pointer (some ⟨g3, 0, none⟩))]) (fun _ _ => [box g3 32 [.slice x_v0.1.1 v0.1.length x_v0.1.2, .slice x_v0.2.1.1 v0.2.1.length x_v0.2.1.2, .slice x_v0.2.2.1.1 v0.2.2.1.length x_v0.2.2.1.2, .int .i64 (v0.2.2.2)]]) ?_ ?_)))))))
  ·refine aQ (dE hx13 () (fun Q16 _ => [(1, .pointer (some ⟨g3, 0, none⟩)), (3, .int .i64 (Q16))]) (fun _ _ => [box g3 32 [.slice x_v0.1.1 v0.1.length x_v0.1.2, .slice x_v0.2.1.1 v0.2.1.length x_v0.2.1.2, .slice x_v0.2.2.1.1 v0.2.2.1.length x_v0.2.2.1.2, .int .i64 (v0.2.2.2)]]) (.cons aA .nil) ?_)
   rintro _ Q16 z17 t19 H1 hi20 hb21
   unfold p_spec_DiskOk_b0 at H1
   refine aD (sr (aF rfl (aG (cB fa32_0 rfl rfl) (aI (bI ty29 rfl aB rfl) (aG (bS 77 dR rfl) (aG (cP rfl rfl) (nl (cH H1 rfl (fun h24 H1 => ?_) (fun h24 H1 => ?_)))))))))
   ·refine bH (nT (aD (aQ (bdo H1 fun b25 j26 H1 => (dD [(75, .bool (b25)), (1, .pointer (some ⟨g3, 0, none⟩)), (3, .int .i64 (Q16))] ?_ ?_)))))
    ·refine dF [(1, .pointer (some ⟨g3, 0, none⟩)), (3, .int .i64 (Q16))] mixed (.inr (by kernel_rfl)) ⟨rfl, rfl, trivial⟩ rfl (aX (cB fa32_0 rfl rfl) (aZ (bI ty29 rfl aB rfl) (bB rfl (gdo j26 fun h27 j26 => (aZ (bW dR ty77 rfl rfl h27 rfl (aL (aT aR.s))) (aZ (bY (j := 0) Q16.toNat fa77_0 rfl (aL (aT aR.s)) h27.lt rfl) (aZ (bZ (i := Q16.toNat) (j := 0) ty3 rfl (aL (aT aR.s)) h27.lt rfl) (aX (cB fa32_3 rfl rfl) (aZ (bI ty3 rfl aB rfl) ?_)))))))))
     refine gdo j26 fun h28 j26 => (aX (cQ rfl rfl h28) (bdo j26 fun r29 h30 j26 => (aZ (bN (c_spec_l6In ((nth v0.1 Q16.toNat).1) 1 (v0.2.2.2 - 1) h30) rfl aO) (aX (cV rfl) ?_))))
     rcases aK (!r29) with h31 | h31
     ·have j26 := cdT h31 j26
      refine bC (aE rfl) h31 ?_
      iterate 18 refine bE rfl ?_
      refine aX (v := .bool (true)) (bP rfl rfl) (bB (v := .bool (true)) rfl ?_)
      iterate 8 refine bE rfl ?_
      refine aX (v := .bool (true)) (bP rfl rfl) ?_
      obtain rfl := si j26
      show At _ _ _ _ _ _
      exact n1 ⟨rfl, rfl, rfl, trivial⟩
     ·have j26 := cdF h31 j26
      refine bC (aE rfl) h31 (aY rfl (aE rfl) (aY rfl (cU rfl rfl) ?_))
      rcases aK (decide (0 < Q16)) with h32 | h32
      ·have j26 := cdT h32 j26
       refine bD rfl (aE rfl) h32 (aY rfl (cB fa32_0 rfl rfl) (bA rfl (bI ty29 rfl aB rfl) (aY rfl (aE rfl) (gdo j26 fun h33 j26 => (aY rfl (cQ rfl rfl h33) (gdo j26 fun h34 j26 => (bA rfl (bW dR ty77 rfl rfl h34 rfl (aL (aT aR.s))) (bA rfl (bY (j := 0) ((Q16 - 1).toNat) fa77_0 rfl (aL (aT aR.s)) h34.lt rfl) (bA rfl (bZ (i := (Q16 - 1).toNat) (j := 0) ty3 rfl (aL (aT aR.s)) h34.lt rfl) ?_)))))))))
       refine aY rfl (cB fa32_0 rfl rfl) (bA rfl (bI ty29 rfl aB rfl) (aY rfl (aE rfl) (bA rfl (bW dR ty77 rfl rfl h27 rfl (aL (aT aR.s))) (bA rfl (bY (j := 0) Q16.toNat fa77_0 rfl (aL (aT aR.s)) h27.lt rfl) (bA rfl (bZ (i := Q16.toNat) (j := 0) ty3 rfl (aL (aT aR.s)) h27.lt rfl) (aY rfl (p_geq rfl rfl) (aY rfl (bP rfl rfl) (aX (bO rfl rfl) ?_))))))))
       rcases aK (decide (((nth v0.1 Q16.toNat).1) ≤ ((nth v0.1 ((Q16 - 1).toNat)).1))) with h35 | h35
       ·have j26 := cdT h35 j26
        refine bC (aE rfl) h35 ?_
        iterate 8 refine bE rfl ?_
        refine aX (v := .bool (true)) (bP rfl rfl) ?_
        obtain rfl := si j26
        show At _ _ _ _ _ _
        exact n1 ⟨rfl, rfl, rfl, trivial⟩
       ·have j26 := cdF h35 j26
        refine bC (aE rfl) h35 (aY rfl (cB fa32_0 rfl rfl) (bA rfl (bI ty29 rfl aB rfl) (aY rfl (aE rfl) (bA rfl (bW dR ty77 rfl rfl h27 rfl (aL (aT aR.s))) (bA rfl (bY (j := 0) Q16.toNat fa77_1 rfl (aL (aT aR.s)) h27.lt rfl) (bA (v := .agg #[.slice ((((X1 Q16.toNat).2).1).1) ((((nth v0.1 Q16.toNat).2).1).length) ((((X1 Q16.toNat).2).1).2.1), .slice ((((X1 Q16.toNat).2).2).1) ((((nth v0.1 Q16.toNat).2).2).length) ((((X1 Q16.toNat).2).2).2.1)]) rfl (q_ldeP [.slice ((((X1 Q16.toNat).2).1).1) ((((nth v0.1 Q16.toNat).2).1).length) ((((X1 Q16.toNat).2).1).2.1), .slice ((((X1 Q16.toNat).2).2).1) ((((nth v0.1 Q16.toNat).2).2).length) ((((X1 Q16.toNat).2).2).2.1)] (l := v0.1) (E := fun i => Dp.denc (nth v0.1 i) (X1 i)) (oa := x_v0.1.1) (i := Q16.toNat) (j := 1) ty75 rfl (aL (aT aR.s)) h27.lt rfl rfl) (bdo j26 fun r36 h37 j26 => (bA rfl (bN (c_spec_PartOk ((nth v0.1 Q16.toNat).2) (((((X1 Q16.toNat).2).1).1, (((X1 Q16.toNat).2).1).2.1), ((((X1 Q16.toNat).2).2).1, (((X1 Q16.toNat).2).2).2.1)) h37) rfl (aC (aL (aS (aV (aU (aW aR.s h27.lt))))) (aC (aL (aS (aU (aU (aW aR.s h27.lt))))) aO))) (aY rfl (cV rfl) ?_)))))))))
        refine aX (bO rfl rfl) ?_
        obtain rfl := si j26
        show At _ _ _ _ _ _
        exact n1 ⟨rfl, rfl, rfl, trivial⟩
      ·have j26 := cdF h32 j26
       refine bD rfl (aE rfl) h32 ?_
       iterate 14 refine bE rfl ?_
       refine aY (v := .bool (false)) rfl (bO rfl rfl) (aX (v := .bool (false)) (bO rfl rfl) (bB (v := .bool (false)) rfl (aY rfl (cB fa32_0 rfl rfl) (bA rfl (bI ty29 rfl aB rfl) (aY rfl (aE rfl) (bA rfl (bW dR ty77 rfl rfl h27 rfl (aL (aT aR.s))) (bA rfl (bY (j := 0) Q16.toNat fa77_1 rfl (aL (aT aR.s)) h27.lt rfl) (bA (v := .agg #[.slice ((((X1 Q16.toNat).2).1).1) ((((nth v0.1 Q16.toNat).2).1).length) ((((X1 Q16.toNat).2).1).2.1), .slice ((((X1 Q16.toNat).2).2).1) ((((nth v0.1 Q16.toNat).2).2).length) ((((X1 Q16.toNat).2).2).2.1)]) rfl (q_ldeP [.slice ((((X1 Q16.toNat).2).1).1) ((((nth v0.1 Q16.toNat).2).1).length) ((((X1 Q16.toNat).2).1).2.1), .slice ((((X1 Q16.toNat).2).2).1) ((((nth v0.1 Q16.toNat).2).2).length) ((((X1 Q16.toNat).2).2).2.1)] (l := v0.1) (E := fun i => Dp.denc (nth v0.1 i) (X1 i)) (oa := x_v0.1.1) (i := Q16.toNat) (j := 1) ty75 rfl (aL (aT aR.s)) h27.lt rfl rfl) (bdo j26 fun r38 h39 j26 => ?_)))))))))
       refine bA rfl (bN (c_spec_PartOk ((nth v0.1 Q16.toNat).2) (((((X1 Q16.toNat).2).1).1, (((X1 Q16.toNat).2).1).2.1), ((((X1 Q16.toNat).2).2).1, (((X1 Q16.toNat).2).2).2.1)) h39) rfl (aC (aL (aS (aV (aU (aW aR.s h27.lt))))) (aC (aL (aS (aU (aU (aW aR.s h27.lt))))) aO))) (aY rfl (cV rfl) (aX (bO rfl rfl) ?_))
       obtain rfl := si j26
       show At _ _ _ _ _ _
       exact n1 ⟨rfl, rfl, rfl, trivial⟩
    refine cH H1 rfl (fun h40 H1 => ?_) (fun h40 H1 => ?_)
    ·refine sr (aH (v := .bool (false)) rfl (nl (bQ (rB (rT (rT (rB (rT (rT (?_))))))))))
     obtain rfl := hb21 _ (sm H1)
     replace H := sw.r H
     obtain rfl := si H
     exact bk
    ·exact bH (nB (nT (aP (aF rfl (gdo H1 fun h41 H1 => (aG (bR rfl rfl h41) (aH rfl (aJ (nLI () (hi20 _ (sm H1)) (.cons aA .nil))))))))))
   ·exact dA (xT (xT (xE (nMI () (hb21 _ (sm H1)) (.cons aA .nil)))))
  ·rintro e42 y18 H
   refine nT (aD (sr (aH (v := .int .i64 (0)) rfl (nl (bdo H fun x43 hx44 H => (dC (Λ := Unit) H (fun _ _ => [(1, .pointer (some ⟨g3, 0, none⟩))]) (fun _ _ => [box g3 32 [.slice x_v0.1.1 v0.1.length x_v0.1.2, .slice x_v0.2.1.1 v0.2.1.length x_v0.2.1.2, .slice x_v0.2.2.1.1 v0.2.2.1.length x_v0.2.2.1.2, .int .i64 (v0.2.2.2)]]) ?_ ?_))))))
   ·refine aQ (dE hx44 () (fun Q47 _ => [(1, .pointer (some ⟨g3, 0, none⟩)), (4, .int .i64 (Q47))]) (fun _ _ => [box g3 32 [.slice x_v0.1.1 v0.1.length x_v0.1.2, .slice x_v0.2.1.1 v0.2.1.length x_v0.2.1.2, .slice x_v0.2.2.1.1 v0.2.2.1.length x_v0.2.2.1.2, .int .i64 (v0.2.2.2)]]) (.cons aA .nil) ?_)
    rintro _ Q47 z48 t50 H1 hi51 hb52
    unfold p_spec_DiskOk_b1 at H1
    refine aD (sr (aF rfl (aG (cB fa32_1 rfl rfl) (aI (bI ty23 rfl aB rfl) (aG (bS 3 dP rfl) (aG (cP rfl rfl) (nl (cH H1 rfl (fun h55 H1 => ?_) (fun h55 H1 => ?_)))))))))
    ·refine bH (nT (aD (aQ (aD (aD (dF [(1, .pointer (some ⟨g3, 0, none⟩)), (4, .int .i64 (Q47))] mixed (.inr (by kernel_rfl)) ⟨rfl, rfl, trivial⟩ rfl (aZ (bJ ty32 rfl aB rfl) (aX (cB fa32_1 rfl rfl) (aZ (bI ty23 rfl aB rfl) (bB rfl ?_))))))))))
     refine gdo H1 fun h56 H1 => (aZ (bW dP ty3 rfl rfl h56 rfl (aN (aL aR.s.s.s))) (aZ (bZ (i := Q47.toNat) (j := 0) ty3 rfl (aN (aL aR.s.s.s)) h56.lt rfl) (bdo H1 fun r57 h58 H1 => (aZ (bN (c_spec_l21At v0 (x_v0.1, x_v0.2.1, x_v0.2.2.1, ()) (nth v0.2.1 Q47.toNat) h58) rfl (aC (aL (aS aR.s)) (aC (aL aR.s.s.s) (aC (aL (aS aR)) aO)))) (aX (cP rfl rfl) (nT (cH H1 rfl (fun h59 H1 => ?_) (fun h59 H1 => ?_))))))))
     ·refine sr (aH (v := .bool (false)) rfl (nl (bQ (rT (rB (rT (rT (rB (rT (rT (?_)))))))))))
      obtain rfl := hb52 _ (sm H1)
      replace H := sw.r H
      obtain rfl := si H
      exact bk
     ·refine bH (nT (sr (aH (v := .int .i64 (0)) rfl (nl (bdo H1 fun x60 hx61 H1 => (dC (Λ := Unit) H1 (fun _ _ => [(1, .pointer (some ⟨g3, 0, none⟩)), (4, .int .i64 (Q47))]) (fun _ _ => [box g3 32 [.slice x_v0.1.1 v0.1.length x_v0.1.2, .slice x_v0.2.1.1 v0.2.1.length x_v0.2.1.2, .slice x_v0.2.2.1.1 v0.2.2.1.length x_v0.2.2.1.2, .int .i64 (v0.2.2.2)]]) ?_ ?_))))))
      ·refine aQ (dE hx61 () (fun Q64 _ => [(1, .pointer (some ⟨g3, 0, none⟩)), (4, .int .i64 (Q47)), (5, .int .i64 (Q64))]) (fun _ _ => [box g3 32 [.slice x_v0.1.1 v0.1.length x_v0.1.2, .slice x_v0.2.1.1 v0.2.1.length x_v0.2.1.2, .slice x_v0.2.2.1.1 v0.2.2.1.length x_v0.2.2.1.2, .int .i64 (v0.2.2.2)]]) (.cons aA .nil) ?_)
       rintro _ Q64 z65 t67 H2 hi68 hb69
       unfold p_spec_DiskOk_b2 at H2
       refine aD (sr (aF rfl (aF rfl (aG (cP rfl rfl) (nl (cH H2 rfl (fun h72 H2 => ?_) (fun h72 H2 => ?_)))))))
       ·refine bH (nT (aD (aQ (aD (dF [(1, .pointer (some ⟨g3, 0, none⟩)), (4, .int .i64 (Q47)), (5, .int .i64 (Q64))] mixed (.inr (by kernel_rfl)) ⟨rfl, rfl, rfl, trivial⟩ rfl (aX (cB fa32_1 rfl rfl) (aZ (bI ty23 rfl aB rfl) (bB rfl (gdo H2 fun h73 H2 => (aZ (bW dP ty3 rfl rfl h73 rfl (aN (aL aR.s.s.s))) ?_))))))))))
        refine aZ (bZ (i := Q64.toNat) (j := 0) ty3 rfl (aN (aL aR.s.s.s)) h73.lt rfl) (aX (cB fa32_1 rfl rfl) (aZ (bI ty23 rfl aB rfl) (bB rfl (aZ (bW dP ty3 rfl rfl h56 rfl (aN (aL aR.s.s.s))) (aZ (bZ (i := Q47.toNat) (j := 0) ty3 rfl (aN (aL aR.s.s.s)) h56.lt rfl) (aX (cS rfl rfl) (nT (cH H2 rfl (fun h74 H2 => ?_) (fun h74 H2 => ?_)))))))))
        ·refine sr (aH (v := .bool (false)) rfl (nl (bQ (rB (rT (rT (rB (rT (rB (rT (rT (rB (rT (rT (?_)))))))))))))))
         obtain rfl := hb69 _ (sm H2)
         replace H1 := sw.r H1
         obtain rfl := hb52 _ (sm H1)
         replace H := sw.r H
         obtain rfl := si H
         exact bk
        ·exact bH (nB (nT (aP (aF rfl (gdo H2 fun h75 H2 => (aG (bR rfl rfl h75) (aH rfl (aJ (nLI () (hi68 _ (sm H2)) (.cons aA .nil))))))))))
       ·exact dA (xT (xT (xE (nMI () (hb69 _ (sm H2)) (.cons aA .nil)))))
      ·rintro e76 y66 H1
       exact nB (nT (aP (aF rfl (gdo H1 fun h77 H1 => (aG (bR rfl rfl h77) (aH rfl (aJ (nLI () (hi51 _ (sm H1)) (.cons aA .nil)))))))))
    ·exact dA (xT (xT (xE (nMI () (hb52 _ (sm H1)) (.cons aA .nil)))))
   ·rintro e78 y49 H
    refine nT (sr (aI (bJ ty32 rfl aB rfl) (bdo H fun r79 h80 H => (f1 (e_call (c_spec_l21Open v0 (x_v0.1, x_v0.2.1, x_v0.2.2.1, ()) h80) rfl (cL (aS aR.s) (cL aR.s.s.s (cL (aS aR) cM))) bK) fun x81 => (bdo H fun r82 h83 H => (aI (bN (c_spec_StoreOk r79 x81 h83) rfl (aC (aL aR) (aC (aL aR.s) (aC (aL aR.s.s) (aC (aL aR.s.s.s) aO))))) (aH rfl (nl ?_))))))))
    obtain rfl := si H
    exact bQ bk
noncomputable def p_impl_within (v0 : Int) (v1 : Int) (v2 : Int) : Option (Bool) := bd (cond (decide (v1 ≤ v0)) (some (decide (v0 ≤ v2))) (some (false))) fun b1 => some b1
theorem c_impl_within {r : Bool} (v0 : Int) (v1 : Int) (v2 : Int) (H : p_impl_within v0 v1 v2 = some r) : Fn' prog 47 #[.int .i64 (v0), .int .i64 (v1), .int .i64 (v2)] [] [] (ι := Unit) (fun _ => .bool (r)) (fun _ => []) (fun _ => []) := by
 refine cof (args := [_, _, _]) func47 ntmps47 fun c => ?_
 unfold p_impl_within at H
 refine sr (aH (v := .bool (false)) rfl (nl (bdo H fun b1 j2 H => (dD [(6, .bool (b1))] ?_ ?_))))
 ·refine dH [(0, .int .i64 (v0)), (1, .int .i64 (v1)), (2, .int .i64 (v2))] ⟨rfl, rfl, rfl, trivial⟩ (bB rfl (bB rfl (aX (p_geq rfl rfl) ?_)))
  rcases aK (decide (v1 ≤ v0)) with h3 | h3
  ·have j2 := cdT h3 j2
   refine bC (aE rfl) h3 (aY rfl (aE rfl) (aY rfl (aE rfl) (aY rfl (cT rfl rfl) (aX (bP rfl rfl) (aX (p_assign rfl) ?_)))))
   obtain rfl := si j2
   show At _ _ _ _ _ _
   exact n1 ⟨rfl, trivial⟩
  ·have j2 := cdF h3 j2
   refine bC (aE rfl) h3 ?_
   iterate 3 refine bE rfl ?_
   refine aX (v := .bool (false)) (bO rfl rfl) (aX (v := .bool (false)) (p_assign rfl) ?_)
   obtain rfl := si j2
   show At _ _ _ _ _ _
   exact n1 ⟨rfl, trivial⟩
 obtain rfl := si H
 exact bQ bk
noncomputable def p_impl_rowOk (v0 : Row) : Option (Bool) := bd (bd (p_impl_within v0.1 0 99) fun r4 => cond (r4) (bd (p_impl_within v0.2 (-99) 99) fun r7 => some (r7)) (some (false))) fun b2 => some b2
theorem c_impl_rowOk {r : Bool} (v0 : Row) (H : p_impl_rowOk v0 = some r) : Fn' prog 114 #[.agg #[.int .i64 (v0.1), .int .i64 (v0.2)]] [] [] (ι := Unit) (fun _ => .bool (r)) (fun _ => []) (fun _ => []) := by
 refine cof (args := [_]) func114 ntmps114 fun c => ?_
 unfold p_impl_rowOk at H
 refine sr (f1 (cC (t := 135) rfl) fun g1 => (aH (v := .bool (false)) rfl (nl (bdo H fun b2 j3 H => (dD [(2, .bool (b2))] ?_ ?_)))))
 ·refine dH [(1, .pointer (some ⟨g1, 0, none⟩))] ⟨rfl, trivial⟩ (aX (cB fa135_0 rfl rfl) (aZ (bI ty3 rfl aB rfl) (bdo j3 fun r4 h5 j3 => (aZ (bN (c_impl_within v0.1 0 99 h5) rfl aO) ?_))))
  rcases aK (r4) with h6 | h6
  ·have j3 := cdT h6 j3
   refine bC (aE rfl) h6 (aY rfl (cB fa135_1 rfl rfl) (bA rfl (bI ty3 rfl aB rfl) (bdo j3 fun r7 h8 j3 => (bA rfl (bN (c_impl_within v0.2 (-99) 99 h8) rfl aO) (aX (bP rfl rfl) (aX (p_assign rfl) ?_))))))
   obtain rfl := si j3
   show At _ _ _ _ _ _
   exact n1 ⟨rfl, trivial⟩
  ·have j3 := cdF h6 j3
   refine bC (aE rfl) h6 ?_
   iterate 3 refine bE rfl ?_
   refine aX (v := .bool (false)) (bO rfl rfl) (aX (v := .bool (false)) (p_assign rfl) ?_)
   obtain rfl := si j3
   show At _ _ _ _ _ _
   exact n1 ⟨rfl, trivial⟩
 obtain rfl := si H
 exact bQ bk
noncomputable def p_impl_BlockOk_b0 (v0 : (List Row)) (Q5 : Int) : Option ((Int) ⊕ (Unit ⊕ Bool)) := cond (decide (Q5 < (v0.length : Int))) (gd (ix Q5 v0.length) <| bd (bd (p_impl_rowOk (nth v0 Q5.toNat)) fun r18 => cond (!r18) (some (true)) (cond (decide (0 < Q5)) (gd (I64 (Q5 - 1)) <| gd (ix (Q5 - 1) v0.length) <| some (decide (((nth v0 Q5.toNat).1) ≤ ((nth v0 ((Q5 - 1).toNat)).1)))) (some (false)))) fun b16 => cond (b16) (some (.inr (.inr false))) (gd (I64 (Q5 + 1)) <| some (.inl (Q5 + 1)))) (some (.inr (.inl ())))
noncomputable def p_impl_BlockOk (v0 : (List Row)) : Option (Bool) := bd (lp (p_impl_BlockOk_b0 v0) 0) <| sw (fun _ => some (decide ((v0.length : Int) ≤ 24))) (fun q => some q)
theorem c_impl_BlockOk {r : Bool} (v0 : (List Row)) (x_v0 : Option Addr × Nat) (H : p_impl_BlockOk v0 = some r) : Fn' prog 108 #[.slice x_v0.1 v0.length x_v0.2] [imm (.slice x_v0.1 v0.length x_v0.2) v0] [] (ι := Unit) (fun _ => .bool (r)) (fun _ => []) (fun _ => []) := by
 refine cof (args := [_]) func108 ntmps108 fun c => ?_
 unfold p_impl_BlockOk at H
 refine sr (aH (v := .bool (false)) rfl (nl (aD (sr (aF rfl (aG (bS 135 dL rfl) (aF (v := .int .i64 (0)) rfl (nl (bdo H fun x1 hx2 H => (dC (Λ := Unit) H (fun _ _ => [(0, .slice x_v0.1 v0.length x_v0.2)]) (fun _ _ => []) ?_ ?_))))))))))
 ·refine aQ (dE hx2 () (fun Q5 _ => [(0, .slice x_v0.1 v0.length x_v0.2), (5, .slice x_v0.1 v0.length x_v0.2), (6, .int .i64 ((v0.length : Int))), (7, .int .i64 (Q5))]) (fun _ _ => []) bK ?_)
  rintro _ Q5 z6 t8 H1 hi9 hb10
  unfold p_impl_BlockOk_b0 at H1
  refine sr (aG (cP rfl rfl) (nl (aD (cH H1 rfl (fun h13 H1 => ?_) (fun h13 H1 => ?_)))))
  ·refine bH (nT (aD (aQ (sr (aF rfl (gdo H1 fun h14 H1 => (aI (bW dL ty135 rfl rfl h14 rfl (aN (aL aR))) (aI (v := .agg #[.int .i64 ((nth v0 Q5.toNat).1), .int .i64 ((nth v0 Q5.toNat).2)]) (cA (i := Q5.toNat) ty135 rfl (aN (aL aR)) h14.lt) (f1 (cD ty135) fun g15 => (aH rfl ?_))))))))))
   refine stb (cs' := [.int .i64 ((nth v0 Q5.toNat).1), .int .i64 ((nth v0 Q5.toNat).2)]) ty135 cZ (nl (bdo H1 fun b16 j17 H1 => (dD [(29, .bool (b16)), (0, .slice x_v0.1 v0.length x_v0.2), (5, .slice x_v0.1 v0.length x_v0.2), (6, .int .i64 ((v0.length : Int))), (7, .int .i64 (Q5))] ?_ ?_)))
   ·refine dF [(3, .int .i64 (Q5)), (4, .pointer (some ⟨g15, 0, none⟩)), (0, .slice x_v0.1 v0.length x_v0.2), (5, .slice x_v0.1 v0.length x_v0.2), (6, .int .i64 ((v0.length : Int))), (7, .int .i64 (Q5))] mixed (.inr (by kernel_rfl)) ⟨rfl, rfl, rfl, rfl, rfl, rfl, trivial⟩ rfl (aZ (bJ ty135 rfl aB rfl) (bdo j17 fun r18 h19 j17 => (aZ (bN (c_impl_rowOk (nth v0 Q5.toNat) h19) rfl aO) (aX (cV rfl) ?_))))
    rcases aK (!r18) with h20 | h20
    ·have j17 := cdT h20 j17
     refine bC (aE rfl) h20 ?_
     iterate 13 refine bE rfl ?_
     refine aX (v := .bool (true)) (bP rfl rfl) ?_
     obtain rfl := si j17
     show At _ _ _ _ _ _
     exact n1 ⟨rfl, rfl, rfl, rfl, rfl, trivial⟩
    ·have j17 := cdF h20 j17
     refine bC (aE rfl) h20 (aY rfl (aE rfl) (aY rfl (cU rfl rfl) ?_))
     rcases aK (decide (0 < Q5)) with h21 | h21
     ·have j17 := cdT h21 j17
      refine bD rfl (aE rfl) h21 (aY rfl (aE rfl) (aY rfl (aE rfl) (gdo j17 fun h22 j17 => (aY rfl (cQ rfl rfl h22) (gdo j17 fun h23 j17 => (bA rfl (bW dL ty135 rfl rfl h23 rfl (aN (aL aR))) (bA rfl (bY (j := 0) ((Q5 - 1).toNat) fa135_0 rfl (aN (aL aR)) h23.lt rfl) (bA rfl (bZ (i := (Q5 - 1).toNat) (j := 0) ty3 rfl (aN (aL aR)) h23.lt rfl) (aY rfl (cB fa135_0 rfl rfl) ?_)))))))))
      refine bA rfl (bI ty3 rfl aB rfl) (aY rfl (p_geq rfl rfl) (aY rfl (bP rfl rfl) (aX (bO rfl rfl) ?_)))
      obtain rfl := si j17
      show At _ _ _ _ _ _
      exact n1 ⟨rfl, rfl, rfl, rfl, rfl, trivial⟩
     ·have j17 := cdF h21 j17
      refine bD rfl (aE rfl) h21 ?_
      iterate 9 refine bE rfl ?_
      refine aY (v := .bool (false)) rfl (bO rfl rfl) (aX (v := .bool (false)) (bO rfl rfl) ?_)
      obtain rfl := si j17
      show At _ _ _ _ _ _
      exact n1 ⟨rfl, rfl, rfl, rfl, rfl, trivial⟩
   refine cH H1 rfl (fun h24 H1 => ?_) (fun h24 H1 => ?_)
   ·refine sr (aH (v := .bool (false)) rfl (nl (bQ (rB (rT (rT (rB (rT (rT (?_))))))))))
    obtain rfl := hb10 _ (sm H1)
    replace H := sw.r H
    obtain rfl := si H
    exact bk
   ·exact bH (nB (nT (aP (gdo H1 fun h25 H1 => (aG (bR rfl rfl h25) (aF rfl (aJ (nLI () (hi9 _ (sm H1)) bK))))))))
  ·exact dA (xT (xT (xE (nMI () (hb10 _ (sm H1)) bK))))
 ·rintro e26 y7 H
  refine nT (sr (aF rfl (aG (bS 135 dL rfl) (aG (cT rfl rfl) (aH rfl (nl ?_))))))
  obtain rfl := si H
  exact bQ bk
noncomputable def p_impl_PartOk_b0 (v0 : Part) (Q8 : Int) : Option ((Int) ⊕ (Unit ⊕ Bool)) := cond (decide (Q8 < (v0.1.length : Int))) (gd (ix Q8 v0.1.length) <| bd (bd (p_impl_within (nth v0.1 Q8.toNat) 1 6) fun r20 => cond (!r20) (some (true)) (cond (decide (0 < Q8)) (gd (I64 (Q8 - 1)) <| gd (ix (Q8 - 1) v0.1.length) <| cond (decide ((nth v0.1 Q8.toNat) ≤ (nth v0.1 ((Q8 - 1).toNat)))) (some (true)) (gd (ix Q8 v0.2.length) <| bd (p_impl_BlockOk (nth v0.2 Q8.toNat)) fun r28 => cond (!r28) (some (true)) (some (decide (((nth v0.2 Q8.toNat).length : Int) = 0))))) (gd (ix Q8 v0.2.length) <| bd (p_impl_BlockOk (nth v0.2 Q8.toNat)) fun r32 => cond (!r32) (some (true)) (some (decide (((nth v0.2 Q8.toNat).length : Int) = 0)))))) fun b18 => cond (b18) (some (.inr (.inr false))) (gd (I64 (Q8 + 1)) <| some (.inl (Q8 + 1)))) (some (.inr (.inl ())))
noncomputable def p_impl_PartOk (v0 : Part) : Option (Bool) := cond (!decide ((v0.1.length : Int) = (v0.2.length : Int))) (some false) (bd (lp (p_impl_PartOk_b0 v0) 0) <| sw (fun _ => some true) (fun q => some q))
theorem c_impl_PartOk {r : Bool} (v0 : Part) (x_v0 : (Option Addr × Nat) × (Option Addr × Nat)) (H : p_impl_PartOk v0 = some r) : Fn' prog 48 #[.agg #[.slice x_v0.1.1 v0.1.length x_v0.1.2, .slice x_v0.2.1 v0.2.length x_v0.2.2]] [imm (.slice x_v0.1.1 v0.1.length x_v0.1.2) v0.1, imm (.slice x_v0.2.1 v0.2.length x_v0.2.2) v0.2] [] (ι := Unit) (fun _ => .bool (r)) (fun _ => []) (fun _ => []) := by
 refine cof (args := [_]) func48 ntmps48 fun c => ?_
 unfold p_impl_PartOk at H
 refine bM aR.s fun X1 => (sr (f1 (cC (t := 75) rfl) fun g2 => (aH (v := .bool (false)) rfl (nl (aD (sr (aG (cB fa75_0 rfl rfl) (aI (bI ty23 rfl aB rfl) (aG (bS 3 dP rfl) (aG (cB fa75_1 rfl rfl) (aI (bI ty73 rfl aB rfl) ?_)))))))))))
 refine aG (bS 130 dY rfl) (aG (cR rfl rfl) (nl (cH H rfl (fun h3 H => ?_) (fun h3 H => ?_))))
 ·refine sr (aH (v := .bool (false)) rfl (nl (bQ (rT (?_)))))
  obtain rfl := si H
  exact bk
 ·refine bH (nT (aD (sr (aG (cB fa75_0 rfl rfl) (aI (bI ty23 rfl aB rfl) (aG (bS 3 dP rfl) (aF (v := .int .i64 (0)) rfl (nl (bdo H fun x4 hx5 H => (dC (Λ := Unit) H (fun _ _ => []) (fun _ _ => []) ?_ ?_))))))))))
  ·refine aQ (dE hx5 () (fun Q8 _ => [(1, .pointer (some ⟨g2, 0, none⟩)), (13, .slice x_v0.1.1 v0.1.length x_v0.1.2), (14, .int .i64 ((v0.1.length : Int))), (15, .int .i64 (Q8))]) (fun _ _ => [box g2 75 [.slice x_v0.1.1 v0.1.length x_v0.1.2, .slice x_v0.2.1 v0.2.length x_v0.2.2]]) (.cons aA .nil) ?_)
   rintro _ Q8 z9 t11 H1 hi12 hb13
   unfold p_impl_PartOk_b0 at H1
   refine sr (aG (cP rfl rfl) (nl (aD (cH H1 rfl (fun h16 H1 => ?_) (fun h16 H1 => ?_)))))
   ·refine bH (nT (aD (aQ (sr (aF rfl (gdo H1 fun h17 H1 => (aI (bW dP ty3 rfl rfl h17 rfl (aN (aL aR.s))) (aI (bZ (i := Q8.toNat) (j := 0) ty3 rfl (aN (aL aR.s)) h17.lt rfl) (aH rfl (aH rfl (nl ?_)))))))))))
    refine bdo H1 fun b18 j19 H1 => (dD [(54, .bool (b18)), (1, .pointer (some ⟨g2, 0, none⟩)), (13, .slice x_v0.1.1 v0.1.length x_v0.1.2), (14, .int .i64 ((v0.1.length : Int))), (15, .int .i64 (Q8))] ?_ ?_)
    ·refine dH [(4, .int .i64 (nth v0.1 Q8.toNat)), (3, .int .i64 (Q8)), (1, .pointer (some ⟨g2, 0, none⟩)), (13, .slice x_v0.1.1 v0.1.length x_v0.1.2), (14, .int .i64 ((v0.1.length : Int))), (15, .int .i64 (Q8))] ⟨rfl, rfl, rfl, rfl, rfl, rfl, trivial⟩ (bB rfl (bdo j19 fun r20 h21 j19 => (aZ (bN (c_impl_within (nth v0.1 Q8.toNat) 1 6 h21) rfl aO) (aX (cV rfl) ?_))))
     rcases aK (!r20) with h22 | h22
     ·have j19 := cdT h22 j19
      refine bC (aE rfl) h22 ?_
      iterate 12 refine bE rfl ?_
      refine aX (v := .bool (true)) (bP rfl rfl) (bB (v := .bool (true)) rfl ?_)
      iterate 7 refine bE rfl ?_
      refine aX (v := .bool (true)) (bP rfl rfl) (bB (v := .bool (true)) rfl ?_)
      iterate 7 refine bE rfl ?_
      refine aX (v := .bool (true)) (bP rfl rfl) ?_
      obtain rfl := si j19
      show At _ _ _ _ _ _
      exact n1 ⟨rfl, rfl, rfl, rfl, rfl, trivial⟩
     ·have j19 := cdF h22 j19
      refine bC (aE rfl) h22 (aY rfl (aE rfl) (aY rfl (cU rfl rfl) ?_))
      rcases aK (decide (0 < Q8)) with h23 | h23
      ·have j19 := cdT h23 j19
       refine bD rfl (aE rfl) h23 (aY rfl (cB fa75_0 rfl rfl) (bA rfl (bI ty23 rfl aB rfl) (aY rfl (aE rfl) (gdo j19 fun h24 j19 => (aY rfl (cQ rfl rfl h24) (gdo j19 fun h25 j19 => (bA rfl (bW dP ty3 rfl rfl h25 rfl (aN (aL aR.s))) (bA rfl (bZ (i := (Q8 - 1).toNat) (j := 0) ty3 rfl (aN (aL aR.s)) h25.lt rfl) (aY rfl (aE rfl) ?_)))))))))
       refine aY rfl (p_geq rfl rfl) (aY rfl (bP rfl rfl) (aX (bO rfl rfl) ?_))
       rcases aK (decide ((nth v0.1 Q8.toNat) ≤ (nth v0.1 ((Q8 - 1).toNat)))) with h26 | h26
       ·have j19 := cdT h26 j19
        refine bC (aE rfl) h26 ?_
        iterate 7 refine bE rfl ?_
        refine aX (v := .bool (true)) (bP rfl rfl) (bB (v := .bool (true)) rfl ?_)
        iterate 7 refine bE rfl ?_
        refine aX (v := .bool (true)) (bP rfl rfl) ?_
        obtain rfl := si j19
        show At _ _ _ _ _ _
        exact n1 ⟨rfl, rfl, rfl, rfl, rfl, trivial⟩
       ·have j19 := cdF h26 j19
        refine bC (aE rfl) h26 (aY rfl (cB fa75_1 rfl rfl) (bA rfl (bI ty73 rfl aB rfl) (aY rfl (aE rfl) (gdo j19 fun h27 j19 => (bA rfl (bW dY ty130 rfl rfl h27 rfl (aL (aT aR))) (bA rfl (bZ (i := Q8.toNat) (j := 0) ty130 rfl (aL (aT aR)) h27.lt rfl) (bdo j19 fun r28 h29 j19 => (bA rfl (bN (c_impl_BlockOk (nth v0.2 Q8.toNat) ((X1 Q8.toNat).1, (X1 Q8.toNat).2.1) h29) rfl (aC (aL (aS (aW aR h27.lt))) aO)) (aY rfl (cV rfl) ?_)))))))))
        refine aX (bO rfl rfl) ?_
        rcases aK (!r28) with h30 | h30
        ·have j19 := cdT h30 j19
         refine bC (aE rfl) h30 ?_
         iterate 7 refine bE rfl ?_
         refine aX (v := .bool (true)) (bP rfl rfl) ?_
         obtain rfl := si j19
         show At _ _ _ _ _ _
         exact n1 ⟨rfl, rfl, rfl, rfl, rfl, trivial⟩
        ·have j19 := cdF h30 j19
         refine bC (aE rfl) h30 (aY rfl (cB fa75_1 rfl rfl) (bA rfl (bI ty73 rfl aB rfl) (aY rfl (aE rfl) (bA rfl (bW dY ty130 rfl rfl h27 rfl (aL (aT aR))) (bA rfl (bZ (i := Q8.toNat) (j := 0) ty130 rfl (aL (aT aR)) h27.lt rfl) (aY rfl (bS 135 dL rfl) (aY rfl (cS rfl rfl) (aX (bO rfl rfl) ?_))))))))
         obtain rfl := si j19
         show At _ _ _ _ _ _
         exact n1 ⟨rfl, rfl, rfl, rfl, rfl, trivial⟩
      ·have j19 := cdF h23 j19
       refine bD rfl (aE rfl) h23 ?_
       iterate 8 refine bE rfl ?_
       refine aY (v := .bool (false)) rfl (bO rfl rfl) (aX (v := .bool (false)) (bO rfl rfl) (bB (v := .bool (false)) rfl (aY rfl (cB fa75_1 rfl rfl) (bA rfl (bI ty73 rfl aB rfl) (aY rfl (aE rfl) (gdo j19 fun h31 j19 => (bA rfl (bW dY ty130 rfl rfl h31 rfl (aL (aT aR))) (bA rfl (bZ (i := Q8.toNat) (j := 0) ty130 rfl (aL (aT aR)) h31.lt rfl) (bdo j19 fun r32 h33 j19 => ?_)))))))))
       refine bA rfl (bN (c_impl_BlockOk (nth v0.2 Q8.toNat) ((X1 Q8.toNat).1, (X1 Q8.toNat).2.1) h33) rfl (aC (aL (aS (aW aR h31.lt))) aO)) (aY rfl (cV rfl) (aX (bO rfl rfl) ?_))
       rcases aK (!r32) with h34 | h34
       ·have j19 := cdT h34 j19
        refine bC (aE rfl) h34 ?_
        iterate 7 refine bE rfl ?_
        refine aX (v := .bool (true)) (bP rfl rfl) ?_
        obtain rfl := si j19
        show At _ _ _ _ _ _
        exact n1 ⟨rfl, rfl, rfl, rfl, rfl, trivial⟩
       ·have j19 := cdF h34 j19
        refine bC (aE rfl) h34 (aY rfl (cB fa75_1 rfl rfl) (bA rfl (bI ty73 rfl aB rfl) (aY rfl (aE rfl) (bA rfl (bW dY ty130 rfl rfl h31 rfl (aL (aT aR))) (bA rfl (bZ (i := Q8.toNat) (j := 0) ty130 rfl (aL (aT aR)) h31.lt rfl) (aY rfl (bS 135 dL rfl) (aY rfl (cS rfl rfl) (aX (bO rfl rfl) ?_))))))))
        obtain rfl := si j19
        show At _ _ _ _ _ _
        exact n1 ⟨rfl, rfl, rfl, rfl, rfl, trivial⟩
    refine cH H1 rfl (fun h35 H1 => ?_) (fun h35 H1 => ?_)
    ·refine sr (aH (v := .bool (false)) rfl (nl (bQ (rB (rT (rT (rB (rT (rT (?_))))))))))
     obtain rfl := hb13 _ (sm H1)
     replace H := sw.r H
     obtain rfl := si H
     exact bk
    ·exact bH (nB (nT (aP (gdo H1 fun h36 H1 => (aG (bR rfl rfl h36) (aF rfl (aJ (nLI () (hi12 _ (sm H1)) (.cons aA .nil)))))))))
   ·exact dA (xT (xT (xE (nMI () (hb13 _ (sm H1)) bK))))
  ·rintro e37 y10 H
   refine nT (sr (aH (v := .bool (true)) rfl (nl ?_)))
   obtain rfl := si H
   exact bQ bk
noncomputable def p_impl_Disk_file_1 (v0 : File) (k0 : Int) : Option (Bool) := some (decide (v0.1 = k0))
theorem c_impl_Disk_file_1 {r : Bool} (v0 : File) (x_v0 : Unit × ((Option Addr × Nat) × (Option Addr × Nat))) (g_k0 : Nat) (k0 : Int) (H : p_impl_Disk_file_1 v0 k0 = some r) : Fn' prog 110 #[.agg #[.int .i64 (v0.1), .slice x_v0.2.1.1 v0.2.1.length x_v0.2.1.2, .slice x_v0.2.2.1 v0.2.2.length x_v0.2.2.2], .pointer (some ⟨g_k0, 0, none⟩)] [imm (.slice x_v0.2.1.1 v0.2.1.length x_v0.2.1.2) v0.2.1, imm (.slice x_v0.2.2.1 v0.2.2.length x_v0.2.2.2) v0.2.2] [box g_k0 3 [.int .i64 (k0)]] (ι := Unit) (fun _ => .bool (r)) (fun _ => []) (fun _ => [box g_k0 3 [.int .i64 (k0)]]) := by
 refine cof (args := [_, _]) func110 ntmps110 fun c => ?_
 unfold p_impl_Disk_file_1 at H
 refine bM aR.s fun X1 => (sr (f1 (cC (t := 77) rfl) fun g2 => (aH (v := .bool (false)) rfl (nl (sr (aG (cB fa77_0 rfl rfl) (aI (bI ty3 rfl aB rfl) (aI (bI ty3 rfl hs1 rfl) (aG (cS rfl rfl) (aH rfl (nl ?_)))))))))))
 obtain rfl := si H
 exact bQ (bk (.cons dl1 .nil))
noncomputable def p_slices_IndexFunc_File_File_Disk_file_1_b0 (v0 : (List File)) (v1_0 : Int) (Q6 : Int) : Option ((Int) ⊕ (Unit ⊕ Int)) := cond (decide (Q6 < (v0.length : Int))) (gd (ix Q6 v0.length) <| bd (p_impl_Disk_file_1 (nth v0 Q6.toNat) v1_0) fun r16 => cond (r16) (some (.inr (.inr Q6))) (gd (I64 (Q6 + 1)) <| some (.inl (Q6 + 1)))) (some (.inr (.inl ())))
noncomputable def p_slices_IndexFunc_File_File_Disk_file_1 (v0 : (List File)) (v1_0 : Int) : Option (Int) := bd (lp (p_slices_IndexFunc_File_File_Disk_file_1_b0 v0 v1_0) 0) <| sw (fun _ => some (-1)) (fun q => some q)
theorem c_slices_IndexFunc_File_File_Disk_file_1 {r : Int} (v0 : (List File)) (x_v0 : Option Addr × Nat) (g_v1_0 : Nat) (v1_0 : Int) (H : p_slices_IndexFunc_File_File_Disk_file_1 v0 v1_0 = some r) : Fn' prog 109 #[.slice x_v0.1 v0.length x_v0.2, .func (.func 110) #[] #[.pointer (some ⟨g_v1_0, 0, none⟩)]] [imm (.slice x_v0.1 v0.length x_v0.2) v0] [box g_v1_0 3 [.int .i64 (v1_0)]] (ι := Unit) (fun _ => .int .i64 (r)) (fun _ => []) (fun _ => [box g_v1_0 3 [.int .i64 (v1_0)]]) := by
 refine cof (args := [_, _]) func109 ntmps109 fun c => ?_
 unfold p_slices_IndexFunc_File_File_Disk_file_1 at H
 refine bM aR fun X1 => (sr (aH (v := .int .i64 (0)) rfl (nl (aD (sr (aF rfl (aG (bS 77 dR rfl) (aF (v := .int .i64 (0)) rfl (nl (bdo H fun x2 hx3 H => (dC (Λ := Unit) H (fun _ _ => []) (fun _ _ => [box g_v1_0 3 [.int .i64 (v1_0)]]) ?_ ?_)))))))))))
 ·refine aQ (dE hx3 () (fun Q6 _ => [(0, .slice x_v0.1 v0.length x_v0.2), (1, .func (.func 110) #[] #[.pointer (some ⟨g_v1_0, 0, none⟩)]), (7, .int .i64 ((v0.length : Int))), (8, .int .i64 (Q6))]) (fun _ _ => [box g_v1_0 3 [.int .i64 (v1_0)]]) (.cons aA .nil) ?_)
  rintro _ Q6 z7 t9 H1 hi10 hb11
  unfold p_slices_IndexFunc_File_File_Disk_file_1_b0 at H1
  refine sr (aG (cP rfl rfl) (nl (aD (cH H1 rfl (fun h14 H1 => ?_) (fun h14 H1 => ?_)))))
  ·refine bH (nT (aD (aQ (sr (aF rfl (aH rfl (nl (sr (aF rfl (aF rfl (aF rfl ?_)))))))))))
   refine gdo H1 fun h15 H1 => (aI (bW dR ty77 rfl rfl h15 rfl (aL (aT aR))) (aI (v := .agg #[.int .i64 ((nth v0 Q6.toNat).1), .slice ((((X1 Q6.toNat).2).1).1) ((((nth v0 Q6.toNat).2).1).length) ((((X1 Q6.toNat).2).1).2.1), .slice ((((X1 Q6.toNat).2).2).1) ((((nth v0 Q6.toNat).2).2).length) ((((X1 Q6.toNat).2).2).2.1)]) (cA (i := Q6.toNat) ty77 rfl (aL (aT aR)) h15.lt) (bdo H1 fun r16 h17 H1 => (aI (v := .bool (r16)) (Ex.dyn (caps := [.pointer (some ⟨g_v1_0, 0, none⟩)]) (vs := [.agg #[.int .i64 ((nth v0 Q6.toNat).1), .slice ((((X1 Q6.toNat).2).1).1) ((((nth v0 Q6.toNat).2).1).length) ((((X1 Q6.toNat).2).1).2.1), .slice ((((X1 Q6.toNat).2).2).1) ((((nth v0 Q6.toNat).2).2).length) ((((X1 Q6.toNat).2).2).2.1)]]) rfl rfl (q_callC (c_impl_Disk_file_1 (nth v0 Q6.toNat) ((), (((((X1 Q6.toNat).2).1).1, (((X1 Q6.toNat).2).1).2.1), ((((X1 Q6.toNat).2).2).1, (((X1 Q6.toNat).2).2).2.1))) g_v1_0 v1_0 h17) (Solo.box bG) rfl (.cons aA .nil) (aC (aL (aS (aV (aU (aW aR h15.lt))))) (aC (aL (aS (aU (aU (aW aR h15.lt))))) aO)))) (nl (cH H1 rfl (fun h18 H1 => ?_) (fun h18 H1 => ?_)))))))
   ·refine sr (aF rfl (aH rfl (nl (bQ (rB (rT (rT (rB (rT (rT (?_)))))))))))
    obtain rfl := hb11 _ (sm H1)
    replace H := sw.r H
    obtain rfl := si H
    exact bk (.cons aA .nil)
   ·exact bH (nB (nT (aP (gdo H1 fun h19 H1 => (aG (bR rfl rfl h19) (aF rfl (aJ (nLI () (hi10 _ (sm H1)) (.cons aA .nil)))))))))
  ·exact dA (xT (xT (xE (nMI () (hb11 _ (sm H1)) (.cons aA .nil)))))
 ·rintro e20 y8 H
  refine nT (sr (aH (v := .int .i64 (-1)) rfl (nl ?_)))
  obtain rfl := si H
  exact bQ (bk (.cons aA .nil))
noncomputable def p_impl_Disk_file (v0 : Disk) (v1 : Int) : Option (Int) := bd (p_slices_IndexFunc_File_File_Disk_file_1 v0.1 v1) fun r5 => some r5
theorem c_impl_Disk_file {r : Int} (v0 : Disk) (x_v0 : (Option Addr × Nat) × (Option Addr × Nat) × (Option Addr × Nat) × Unit) (v1 : Int) (H : p_impl_Disk_file v0 v1 = some r) : Fn' prog 49 #[.agg #[.slice x_v0.1.1 v0.1.length x_v0.1.2, .slice x_v0.2.1.1 v0.2.1.length x_v0.2.1.2, .slice x_v0.2.2.1.1 v0.2.2.1.length x_v0.2.2.1.2, .int .i64 (v0.2.2.2)], .int .i64 (v1)] [imm (.slice x_v0.1.1 v0.1.length x_v0.1.2) v0.1, imm (.slice x_v0.2.1.1 v0.2.1.length x_v0.2.1.2) v0.2.1, imm (.slice x_v0.2.2.1.1 v0.2.2.1.length x_v0.2.2.1.2) v0.2.2.1] [] (ι := Unit) (fun _ => .int .i64 (r)) (fun _ => []) (fun _ => []) := by
 refine cof (args := [_, _]) func49 ntmps49 fun c => ?_
 unfold p_impl_Disk_file at H
 refine bM aR fun X1 => (bM aR.s.s.s fun X2 => (sr (f1 (cC (t := 32) rfl) fun g3 => (f1 (cC (t := 3) rfl) fun g4 => (aH (v := .int .i64 (0)) rfl (nl (sr (aG (cB fa32_0 rfl rfl) (aI (bI ty29 rfl hs1 rfl) (aG (v := .func (.func 110) #[] #[.pointer (some ⟨g4, 0, none⟩)]) (p_mkfunc (vs := [.pointer (some ⟨g4, 0, none⟩)]) rfl rfl) ?_))))))))))
 refine bdo H fun r5 h6 H => (aI (q_callC (c_slices_IndexFunc_File_File_Disk_file_1 v0.1 x_v0.1 g4 v1 h6) (Solo.box bG) rfl (.cons aA .nil) (aC (aL (aS aR.s)) aO)) (aH rfl (nl ?_)))
 obtain rfl := si H
 exact bQ bk
noncomputable def p_slices_Index_int_int_b0 (v0 : (List Int)) (v1 : Int) (Q5 : Int) : Option ((Int) ⊕ (Unit ⊕ Int)) := cond (decide (Q5 < (v0.length : Int))) (gd (ix Q5 v0.length) <| cond (decide (v1 = (nth v0 Q5.toNat))) (some (.inr (.inr Q5))) (gd (I64 (Q5 + 1)) <| some (.inl (Q5 + 1)))) (some (.inr (.inl ())))
noncomputable def p_slices_Index_int_int (v0 : (List Int)) (v1 : Int) : Option (Int) := bd (lp (p_slices_Index_int_int_b0 v0 v1) 0) <| sw (fun _ => some (-1)) (fun q => some q)
theorem c_slices_Index_int_int {r : Int} (v0 : (List Int)) (x_v0 : Option Addr × Nat) (v1 : Int) (H : p_slices_Index_int_int v0 v1 = some r) : Fn' prog 111 #[.slice x_v0.1 v0.length x_v0.2, .int .i64 (v1)] [imm (.slice x_v0.1 v0.length x_v0.2) v0] [] (ι := Unit) (fun _ => .int .i64 (r)) (fun _ => []) (fun _ => []) := by
 refine cof (args := [_, _]) func111 ntmps111 fun c => ?_
 unfold p_slices_Index_int_int at H
 refine sr (aH (v := .int .i64 (0)) rfl (nl (aD (sr (aF rfl (aG (bS 3 dP rfl) (aF (v := .int .i64 (0)) rfl (nl (bdo H fun x1 hx2 H => (dC (Λ := Unit) H (fun _ _ => []) (fun _ _ => []) ?_ ?_))))))))))
 ·refine aQ (dE hx2 () (fun Q5 _ => [(0, .slice x_v0.1 v0.length x_v0.2), (1, .int .i64 (v1)), (7, .int .i64 ((v0.length : Int))), (8, .int .i64 (Q5))]) (fun _ _ => []) bK ?_)
  rintro _ Q5 z6 t8 H1 hi9 hb10
  unfold p_slices_Index_int_int_b0 at H1
  refine sr (aG (cP rfl rfl) (nl (aD (cH H1 rfl (fun h13 H1 => ?_) (fun h13 H1 => ?_)))))
  ·refine bH (nT (aD (aQ (sr (aF rfl (aH rfl (nl (sr (aF rfl (aF rfl (aF rfl ?_)))))))))))
   refine gdo H1 fun h14 H1 => (aI (bW dP ty3 rfl rfl h14 rfl (aN (aL aR))) (aI (bZ (i := Q5.toNat) (j := 0) ty3 rfl (aN (aL aR)) h14.lt rfl) (aG (cS rfl rfl) (nl (cH H1 rfl (fun h15 H1 => ?_) (fun h15 H1 => ?_))))))
   ·refine sr (aF rfl (aH rfl (nl (bQ (rB (rT (rT (rB (rT (rT (?_)))))))))))
    obtain rfl := hb10 _ (sm H1)
    replace H := sw.r H
    obtain rfl := si H
    exact bk
   ·exact bH (nB (nT (aP (gdo H1 fun h16 H1 => (aG (bR rfl rfl h16) (aF rfl (aJ (nLI () (hi9 _ (sm H1)) bK))))))))
  ·exact dA (xT (xT (xE (nMI () (hb10 _ (sm H1)) bK))))
 ·rintro e17 y7 H
  refine nT (sr (aH (v := .int .i64 (-1)) rfl (nl ?_)))
  obtain rfl := si H
  exact bQ bk
noncomputable def p_slices_Contains_int_int (v0 : (List Int)) (v1 : Int) : Option (Bool) := bd (p_slices_Index_int_int v0 v1) fun r1 => some (decide (0 ≤ r1))
theorem c_slices_Contains_int_int {r : Bool} (v0 : (List Int)) (x_v0 : Option Addr × Nat) (v1 : Int) (H : p_slices_Contains_int_int v0 v1 = some r) : Fn' prog 50 #[.slice x_v0.1 v0.length x_v0.2, .int .i64 (v1)] [imm (.slice x_v0.1 v0.length x_v0.2) v0] [] (ι := Unit) (fun _ => .bool (r)) (fun _ => []) (fun _ => []) := by
 refine cof (args := [_, _]) func50 ntmps50 fun c => ?_
 unfold p_slices_Contains_int_int at H
 refine sr (aH (v := .bool (false)) rfl (nl (sr (aF rfl (aF rfl (bdo H fun r1 h2 H => (aI (bN (c_slices_Index_int_int v0 x_v0 v1 h2) rfl (aC (aL aR) aO)) (aG (p_geq rfl rfl) (aH rfl (nl ?_))))))))))
 obtain rfl := si H
 exact bQ bk
noncomputable def p_impl_cloneNames_b0 (v0 : (List (List Tag))) (Q8 : (List (List Tag)) × Int) : Option (((List (List Tag)) × Int) ⊕ ((List (List Tag)))) := cond (decide (Q8.2 < (v0.length : Int))) (gd (ix Q8.2 v0.length) <| gd (room (([] : List Tag).length + (nth v0 Q8.2.toNat).length)) <| gd (room (Q8.1.length + 1)) <| gd (I64 (Q8.2 + 1)) <| some (.inl ((Q8.1 ++ [([] : List Tag) ++ (nth v0 Q8.2.toNat)]), Q8.2 + 1))) (some (.inr Q8.1))
noncomputable def p_impl_cloneNames (v0 : (List (List Tag))) : Option ((List (List Tag))) := bd (lp (p_impl_cloneNames_b0 v0) (([] : List (List Tag)), 0)) fun x4 => some x4
theorem c_impl_cloneNames {r : (List (List Tag))} (v0 : (List (List Tag))) (x_v0 : Option Addr × Nat) (H : p_impl_cloneNames v0 = some r) : Fn' prog 88 #[.slice x_v0.1 v0.length x_v0.2] [imm (.slice x_v0.1 v0.length x_v0.2) v0] [] (ι := Option Addr × Nat) (fun x => .slice x.1 r.length x.2) (fun _ => []) (fun x => [tree (.slice x.1 r.length x.2) r]) := by
 refine cof (args := [_]) func88 ntmps88 fun c => ?_
 unfold p_impl_cloneNames at H
 refine bM aR fun X1 => (sr (aH (v := .slice none 0 0) rfl (nl (sr (f2 (e_lit0 (List Tag) dS ty142) fun a2 c3 => (aH rfl (nl (aD (sr (aF rfl (aG (bS 142 dS rfl) (aF (v := .int .i64 (0)) rfl (nl ?_)))))))))))))
 refine bdo H fun x4 hx5 H => (dB (ι := Option Addr × Nat) (fun ψ => [(3, .slice ψ.1 x4.length ψ.2)]) (fun ψ => [tree (.slice ψ.1 x4.length ψ.2) x4]) ?_ ?_)
 ·refine aQ (dE hx5 (a2, c3) (fun Q8 z9 => [(3, .slice z9.1 Q8.1.length z9.2), (7, .slice x_v0.1 v0.length x_v0.2), (8, .int .i64 ((v0.length : Int))), (9, .int .i64 (Q8.2))]) (fun Q8 z9 => [tree (.slice z9.1 Q8.1.length z9.2) Q8.1]) (.cons aA .nil) ?_)
  rintro _ Q8 z9 t11 H1 hi12 hb13
  unfold p_impl_cloneNames_b0 at H1
  refine sr (aG (cP rfl rfl) (nl (aD (cH H1 rfl (fun h16 H1 => ?_) (fun h16 H1 => ?_)))))
  ·refine bH (nT (aD (aQ (sr (gdo H1 fun h17 H1 => (aI (bW dS ty142 rfl rfl h17 rfl (aL (aT aR))) (aI (bZ (i := Q8.2.toNat) (j := 0) ty142 rfl (aL (aT aR)) h17.lt rfl) (aH rfl (nl (aP (aF rfl ?_)))))))))))
   refine f2 (e_lit0 Tag dM ty172) fun a18 c19 => (aF rfl (gdo H1 fun h22 H1 => (f2 (e_appF (l := ([] : List Tag)) (k := nth v0 Q8.2.toNat) (α := Tag) dM ty172 rfl rfl (h22.b (by decide)) h22.x (.cons aA .nil) (aL (aS (aW aR h17.lt)))) fun a20 c21 => (f1 (e_lit (vs := [(0, .slice a20 ((([] : List Tag) ++ (nth v0 Q8.2.toNat)).length) c21)]) [.slice a20 ((([] : List Tag) ++ (nth v0 Q8.2.toNat)).length) c21] dS ty142 rfl (by decide) (by decide) (by kernel_rfl)) fun g23 => (gdo H1 fun h26 H1 => (f2 (e_app1 (l := Q8.1) (α := (List Tag)) (([] : List Tag) ++ (nth v0 Q8.2.toNat)) (a20, c21) dS ty142 rfl rfl (h26.b (by decide)) h26.x rfl (cW _) (.cons dl2 (.cons aA (.cons aA .nil)))) fun a24 c25 => (aH rfl (aJ (nB (nT (aP ?_)))))))))))
   exact gdo H1 fun h27 H1 => (aG (bR rfl rfl h27) (aF rfl (aJ (nLI (a24, c25) (hi12 _ (sm H1)) (.cons aA .nil)))))
  ·refine dA (xT (xT (xE (?_))))
   obtain rfl := hb13 _ (sm H1)
   exact nMC (z9.1, z9.2) ⟨rfl, trivial⟩ bT (.cons aA .nil)
 ·intro y10
  show At _ _ [(3, .slice y10.1 x4.length y10.2)] _ [tree (.slice y10.1 x4.length y10.2) x4] _
  refine nT (sr (aF rfl (aH rfl (nl (bQ ?_)))))
  obtain rfl := si H
  exact back1 y10 rfl (ResV.tmp (v := .slice y10.1 x4.length y10.2) rfl) rfl cM (.cons aA .nil)
noncomputable def p_impl_indexOf_1 (v0 : Post) (k0 : Tag) : Option (Bool) := some (decide (v0.1 = k0))
theorem c_impl_indexOf_1 {r : Bool} (v0 : Post) (x_v0 : (Unit × Unit) × (Option Addr × Nat)) (g_k0 : Nat) (k0 : Tag) (H : p_impl_indexOf_1 v0 k0 = some r) : Fn' prog 163 #[.agg #[.string (v0.1.1), .string (v0.1.2), .slice x_v0.2.1 v0.2.length x_v0.2.2], .pointer (some ⟨g_k0, 0, none⟩)] [imm (.slice x_v0.2.1 v0.2.length x_v0.2.2) v0.2] [box g_k0 172 [.string (k0.1), .string (k0.2)]] (ι := Unit) (fun _ => .bool (r)) (fun _ => []) (fun _ => [box g_k0 172 [.string (k0.1), .string (k0.2)]]) := by
 refine cof (args := [_, _]) func163 ntmps163 fun c => ?_
 unfold p_impl_indexOf_1 at H
 refine sr (f1 (cC (t := 183) rfl) fun g1 => (aH (v := .bool (false)) rfl (nl (sr (aG (cB fa183_0 rfl rfl) (aI (v := .agg #[.string (v0.1.1), .string (v0.1.2)]) (q_ldbP [.string (v0.1.1), .string (v0.1.2)] ty172 rfl aB rfl rfl) (aI (bJ ty172 rfl hs1 rfl) (aG (v := .bool (decide (v0.1 = k0))) (p_aeql (a := v0.1) (b := k0) ae172 rfl rfl rfl rfl) (aH rfl (nl ?_))))))))))
 obtain rfl := si H
 exact bQ (bk (.cons dl1 .nil))
noncomputable def p_slices_IndexFunc_Post_Post_indexOf_1_b0 (v0 : (List Post)) (v1_0 : Tag) (Q6 : Int) : Option ((Int) ⊕ (Unit ⊕ Int)) := cond (decide (Q6 < (v0.length : Int))) (gd (ix Q6 v0.length) <| bd (p_impl_indexOf_1 (nth v0 Q6.toNat) v1_0) fun r16 => cond (r16) (some (.inr (.inr Q6))) (gd (I64 (Q6 + 1)) <| some (.inl (Q6 + 1)))) (some (.inr (.inl ())))
noncomputable def p_slices_IndexFunc_Post_Post_indexOf_1 (v0 : (List Post)) (v1_0 : Tag) : Option (Int) := bd (lp (p_slices_IndexFunc_Post_Post_indexOf_1_b0 v0 v1_0) 0) <| sw (fun _ => some (-1)) (fun q => some q)
theorem c_slices_IndexFunc_Post_Post_indexOf_1 {r : Int} (v0 : (List Post)) (x_v0 : Option Addr × Nat) (g_v1_0 : Nat) (v1_0 : Tag) (H : p_slices_IndexFunc_Post_Post_indexOf_1 v0 v1_0 = some r) : Fn' prog 162 #[.slice x_v0.1 v0.length x_v0.2, .func (.func 163) #[] #[.pointer (some ⟨g_v1_0, 0, none⟩)]] [imm (.slice x_v0.1 v0.length x_v0.2) v0] [box g_v1_0 172 [.string (v1_0.1), .string (v1_0.2)]] (ι := Unit) (fun _ => .int .i64 (r)) (fun _ => []) (fun _ => [box g_v1_0 172 [.string (v1_0.1), .string (v1_0.2)]]) := by
 refine cof (args := [_, _]) func162 ntmps162 fun c => ?_
 unfold p_slices_IndexFunc_Post_Post_indexOf_1 at H
 refine bM aR fun X1 => (sr (aH (v := .int .i64 (0)) rfl (nl (aD (sr (aF rfl (aG (bS 183 dT rfl) (aF (v := .int .i64 (0)) rfl (nl (bdo H fun x2 hx3 H => (dC (Λ := Unit) H (fun _ _ => []) (fun _ _ => [box g_v1_0 172 [.string (v1_0.1), .string (v1_0.2)]]) ?_ ?_)))))))))))
 ·refine aQ (dE hx3 () (fun Q6 _ => [(0, .slice x_v0.1 v0.length x_v0.2), (1, .func (.func 163) #[] #[.pointer (some ⟨g_v1_0, 0, none⟩)]), (7, .int .i64 ((v0.length : Int))), (8, .int .i64 (Q6))]) (fun _ _ => [box g_v1_0 172 [.string (v1_0.1), .string (v1_0.2)]]) (.cons aA .nil) ?_)
  rintro _ Q6 z7 t9 H1 hi10 hb11
  unfold p_slices_IndexFunc_Post_Post_indexOf_1_b0 at H1
  refine sr (aG (cP rfl rfl) (nl (aD (cH H1 rfl (fun h14 H1 => ?_) (fun h14 H1 => ?_)))))
  ·refine bH (nT (aD (aQ (sr (aF rfl (aH rfl (nl (sr (aF rfl (aF rfl (aF rfl ?_)))))))))))
   refine gdo H1 fun h15 H1 => (aI (bW dT ty183 rfl rfl h15 rfl (aL (aT aR))) (aI (v := .agg #[.string (((nth v0 Q6.toNat).1).1), .string (((nth v0 Q6.toNat).1).2), .slice (((X1 Q6.toNat).2).1) (((nth v0 Q6.toNat).2).length) (((X1 Q6.toNat).2).2.1)]) (cA (i := Q6.toNat) ty183 rfl (aL (aT aR)) h15.lt) (bdo H1 fun r16 h17 H1 => (aI (v := .bool (r16)) (Ex.dyn (caps := [.pointer (some ⟨g_v1_0, 0, none⟩)]) (vs := [.agg #[.string (((nth v0 Q6.toNat).1).1), .string (((nth v0 Q6.toNat).1).2), .slice (((X1 Q6.toNat).2).1) (((nth v0 Q6.toNat).2).length) (((X1 Q6.toNat).2).2.1)]]) rfl rfl (q_callC (c_impl_indexOf_1 (nth v0 Q6.toNat) (((), ()), (((X1 Q6.toNat).2).1, ((X1 Q6.toNat).2).2.1)) g_v1_0 v1_0 h17) (Solo.box bG) rfl (.cons aA .nil) (aC (aL (aS (aU (aW aR h15.lt)))) aO))) (nl (cH H1 rfl (fun h18 H1 => ?_) (fun h18 H1 => ?_)))))))
   ·refine sr (aF rfl (aH rfl (nl (bQ (rB (rT (rT (rB (rT (rT (?_)))))))))))
    obtain rfl := hb11 _ (sm H1)
    replace H := sw.r H
    obtain rfl := si H
    exact bk (.cons aA .nil)
   ·exact bH (nB (nT (aP (gdo H1 fun h19 H1 => (aG (bR rfl rfl h19) (aF rfl (aJ (nLI () (hi10 _ (sm H1)) (.cons aA .nil)))))))))
  ·exact dA (xT (xT (xE (nMI () (hb11 _ (sm H1)) (.cons aA .nil)))))
 ·rintro e20 y8 H
  refine nT (sr (aH (v := .int .i64 (-1)) rfl (nl ?_)))
  obtain rfl := si H
  exact bQ (bk (.cons aA .nil))
noncomputable def p_cmp_isNaN_string (v0 : ByteArray) : Option (Bool) := some (!decide (v0 = v0))
theorem c_cmp_isNaN_string {r : Bool} (v0 : ByteArray) (H : p_cmp_isNaN_string v0 = some r) : Fn' prog 190 #[.string (v0)] [] [] (ι := Unit) (fun _ => .bool (r)) (fun _ => []) (fun _ => []) := by
 refine cof (args := [_]) func190 ntmps190 fun c => ?_
 unfold p_cmp_isNaN_string at H
 refine sr (aH (v := .bool (false)) rfl (nl (sr (aF rfl (aF rfl (aG (p_sneq rfl rfl) (aH rfl (nl ?_))))))))
 obtain rfl := si H
 exact bQ bk
noncomputable def p_cmp_Compare_string (v0 : ByteArray) (v1 : ByteArray) : Option (Int) := bd (p_cmp_isNaN_string v0) fun r1 => bd (p_cmp_isNaN_string v1) fun r3 => cond (r1) (cond (r3) (some 0) (some (-1))) (cond (r3) (some 1) (cond (sless v0 v1) (some (-1)) (cond (!(sless v0 v1 || decide (v0 = v1))) (some 1) (some 0))))
theorem c_cmp_Compare_string {r : Int} (v0 : ByteArray) (v1 : ByteArray) (H : p_cmp_Compare_string v0 v1 = some r) : Fn' prog 167 #[.string (v0), .string (v1)] [] [] (ι := Unit) (fun _ => .int .i64 (r)) (fun _ => []) (fun _ => []) := by
 refine cof (args := [_, _]) func167 ntmps167 fun c => ?_
 unfold p_cmp_Compare_string at H
 refine sr (aH (v := .int .i64 (0)) rfl (nl (sr (aF rfl (bdo H fun r1 h2 H => (aI (bN (c_cmp_isNaN_string v0 h2) rfl aO) (aH rfl (nl (sr (aF rfl (bdo H fun r3 h4 H => ?_)))))))))))
 refine aI (bN (c_cmp_isNaN_string v1 h4) rfl aO) (aH rfl (nl (aD (sr (aF rfl (nl (cH H rfl (fun h5 H => ?_) (fun h5 H => ?_))))))))
 ·refine aD (sr (aF rfl (nl (cH H rfl (fun h6 H => ?_) (fun h6 H => ?_)))))
  ·refine sr (aH (v := .int .i64 (0)) rfl (nl (bQ (rT (rT (?_))))))
   obtain rfl := si H
   exact bk
  ·refine bH (nT (sr (aH (v := .int .i64 (-1)) rfl (nl (bQ (rT (?_)))))))
   obtain rfl := si H
   exact bk
 ·refine bH (nT (aD (sr (aF rfl (nl (cH H rfl (fun h7 H => ?_) (fun h7 H => ?_)))))))
  ·refine sr (aH (v := .int .i64 (1)) rfl (nl (bQ (rT (?_)))))
   obtain rfl := si H
   exact bk
  ·refine bH (nT (aD (sr (aF rfl (aF rfl (aG (p_slss rfl rfl) (nl (cH H rfl (fun h8 H => ?_) (fun h8 H => ?_)))))))))
   ·refine sr (aH (v := .int .i64 (-1)) rfl (nl (bQ (rT (?_)))))
    obtain rfl := si H
    exact bk
   ·refine bH (nT (aD (sr (aF rfl (aF rfl (aG (p_sgtr rfl rfl) (nl (cH H rfl (fun h9 H => ?_) (fun h9 H => ?_)))))))))
    ·refine sr (aH (v := .int .i64 (1)) rfl (nl (bQ (rT (?_)))))
     obtain rfl := si H
     exact bk
    ·refine bH (nT (sr (aH (v := .int .i64 (0)) rfl (nl ?_))))
     obtain rfl := si H
     exact bQ bk
noncomputable def p_cmp_Or_int_b0 (v0 : (List Int)) (Q5 : Int) : Option ((Int) ⊕ (Unit ⊕ Int)) := cond (decide (Q5 < (v0.length : Int))) (gd (ix Q5 v0.length) <| cond (!decide ((nth v0 Q5.toNat) = 0)) (some (.inr (.inr (nth v0 Q5.toNat)))) (gd (I64 (Q5 + 1)) <| some (.inl (Q5 + 1)))) (some (.inr (.inl ())))
noncomputable def p_cmp_Or_int (v0 : (List Int)) : Option (Int) := bd (lp (p_cmp_Or_int_b0 v0) 0) <| sw (fun _ => some 0) (fun q => some q)
theorem c_cmp_Or_int {r : Int} (v0 : (List Int)) (x_v0 : Option Addr × Nat) (H : p_cmp_Or_int v0 = some r) : Fn' prog 166 #[.slice x_v0.1 v0.length x_v0.2] [imm (.slice x_v0.1 v0.length x_v0.2) v0] [] (ι := Unit) (fun _ => .int .i64 (r)) (fun _ => []) (fun _ => []) := by
 refine cof (args := [_]) func166 ntmps166 fun c => ?_
 unfold p_cmp_Or_int at H
 refine sr (aH (v := .int .i64 (0)) rfl (nl (sr (aH (v := .int .i64 (0)) rfl (nl (aD (sr (aF rfl (aG (bS 3 dP rfl) (aF (v := .int .i64 (0)) rfl (nl (bdo H fun x1 hx2 H => (dC (Λ := Unit) H (fun _ _ => [(3, .int .i64 (0))]) (fun _ _ => []) ?_ ?_)))))))))))))
 ·refine aQ (dE hx2 () (fun Q5 _ => [(3, .int .i64 (0)), (6, .slice x_v0.1 v0.length x_v0.2), (7, .int .i64 ((v0.length : Int))), (8, .int .i64 (Q5))]) (fun _ _ => []) bK ?_)
  rintro _ Q5 z6 t8 H1 hi9 hb10
  unfold p_cmp_Or_int_b0 at H1
  refine sr (aG (cP rfl rfl) (nl (aD (cH H1 rfl (fun h13 H1 => ?_) (fun h13 H1 => ?_)))))
  ·refine bH (nT (aD (aQ (sr (gdo H1 fun h14 H1 => (aI (bW dP ty3 rfl rfl h14 rfl (aN (aL aR))) (aI (bZ (i := Q5.toNat) (j := 0) ty3 rfl (aN (aL aR)) h14.lt rfl) (aH rfl (nl (sr (aF rfl ?_)))))))))))
   refine aF (v := .int .i64 (0)) rfl (aG (cR rfl rfl) (nl (cH H1 rfl (fun h15 H1 => ?_) (fun h15 H1 => ?_))))
   ·refine sr (aF rfl (aH rfl (nl (bQ (rB (rT (rT (rB (rT (rT (?_)))))))))))
    obtain rfl := hb10 _ (sm H1)
    replace H := sw.r H
    obtain rfl := si H
    exact bk
   ·exact bH (nB (nT (aP (gdo H1 fun h16 H1 => (aG (bR rfl rfl h16) (aF rfl (aJ (nLI () (hi9 _ (sm H1)) bK))))))))
  ·exact dA (xT (xT (xE (nMI () (hb10 _ (sm H1)) bK))))
 ·rintro e17 y7 H
  refine nT (sr (aF (v := .int .i64 (0)) rfl (aH (v := .int .i64 (0)) rfl (nl ?_))))
  obtain rfl := si H
  exact bQ bk
noncomputable def p_impl_indexOf_2 (v0 : PostH) (v1 : PostH) : Option (Int) := bd (p_cmp_Compare_string v0.1.1 v1.1.1) fun r3 => bd (p_cmp_Compare_string v0.1.2 v1.1.2) fun r5 => bd (p_cmp_Or_int ([r3, r5] : List Int)) fun r9 => some r9
theorem c_impl_indexOf_2 {r : Int} (v0 : PostH) (v1 : PostH) (H : p_impl_indexOf_2 v0 v1 = some r) : Fn' prog 165 #[.agg #[.string (v0.1.1), .string (v0.1.2), v0.2.1], .agg #[.string (v1.1.1), .string (v1.1.2), v1.2.1]] [] [] (ι := Unit) (fun _ => .int .i64 (r)) (fun _ => []) (fun _ => []) := by
 refine cof (args := [_, _]) func165 ntmps165 fun c => ?_
 unfold p_impl_indexOf_2 at H
 refine sr (f1 (cC (t := 183) rfl) fun g1 => (f1 (cC (t := 183) rfl) fun g2 => (aH (v := .int .i64 (0)) rfl (nl (aD (dG [(3, .pointer (some ⟨g2, 0, none⟩)), (2, .pointer (some ⟨g1, 0, none⟩))] 1 [0, 1, 2, 3, 4, 5, 6, 7, 8, 9, 10, 11, 12, 13, 14, 15, 16] [14] [] mixed (by kernel_rfl) (by decide) dI ⟨rfl, rfl, trivial⟩ rfl okNil (w_p rfl (cB fa183_0 rfl rfl) (w_p rfl (cB fa172_0 rfl rfl) ?_))))))))
 refine w_o rfl (fun F => (bI ty9 rfl (hs1.app F) rfl)) (w_p rfl (cB fa183_0 rfl rfl) (w_p rfl (cB fa172_0 rfl rfl) ?_))
 refine w_o rfl (fun F => (bI ty9 rfl (aB.app F) rfl)) (bdo H fun r3 h4 H => ?_)
 refine w_o rfl (fun F => (bN (c_cmp_Compare_string v0.1.1 v1.1.1 h4) rfl aO)) (w_p rfl (cB fa183_0 rfl rfl) (w_p rfl (cB fa172_1 rfl rfl) ?_))
 refine w_o rfl (fun F => (bI ty9 rfl (hs1.app F) rfl)) (w_p rfl (cB fa183_0 rfl rfl) (w_p rfl (cB fa172_1 rfl rfl) ?_))
 refine w_o rfl (fun F => (bI ty9 rfl (aB.app F) rfl)) (bdo H fun r5 h6 H => ?_)
 refine w_o rfl (fun F => (bN (c_cmp_Compare_string v0.1.2 v1.1.2 h6) rfl aO)) (cJ rfl (by decide) rfl cN rfl (n_litT (α := Int) (vs := [(0, .int .i64 (r3)), (1, .int .i64 (r5))]) [r3, r5] rfl (fun _ => rfl) (fun _ _ => by repeat constructor) dP ty3 rfl (by decide) (by decide) (by kernel_rfl)) ?_)
 rintro _ _ _ ⟨a7, c8, rfl, rfl, rfl⟩
 refine ⟨(aM (by kernel_rfl) (bV rfl rfl (fun F => (bI ty9 rfl (hs1.app F) rfl)) (bV rfl rfl (fun F => (bI ty9 rfl (hs2.app F) rfl)) (aM (by kernel_rfl) (bV rfl rfl (fun F => (bI ty9 rfl (hs1.app F) rfl)) (bV rfl rfl (fun F => (bI ty9 rfl (hs2.app F) rfl)) bU)))))), ?_⟩
 refine bdo H fun r9 h10 H => ?_
 refine w_o rfl (fun F => (bN (c_cmp_Or_int ([r3, r5] : List Int) (a7, c8) h10) rfl (aC (bL (aB.app F)) aO))) (w_p rfl (p_assign rfl) (cK (nT (?_))))
 obtain rfl := si H
 exact bQ bk
noncomputable def cmS (x y : ByteArray) : Int := if sless x y then -1 else if sless y x then 1 else 0
theorem e_cmpS (x y : ByteArray) : p_cmp_Compare_string x y = some (cmS x y) := by
 unfold p_cmp_Compare_string p_cmp_isNaN_string cmS
 simp only [bd_some, decide_true, Bool.not_true, cond_false]
 cases h : sless x y with
 | true => simp
 | false =>
  cases h' : sless y x with
  | true =>
   have : x ≠ y := fun e => by subst e; rw [h] at h'; cases h'
   simp [this]
  | false =>
   have := sless_anti h h'
   simp [this]
noncomputable def cmH (x y : PostH) : Int := if cmS x.1.1 y.1.1 = 0 then cmS x.1.2 y.1.2 else cmS x.1.1 y.1.1
theorem e_cmpH (x y : PostH) : p_impl_indexOf_2 x y = some (cmH x y) := by
 unfold p_impl_indexOf_2 cmH
 simp only [e_cmpS, bd_some]
 have key : ∀ a b : Int, p_cmp_Or_int [a, b] = some (if a = 0 then b else a) := fun a b => by
  unfold p_cmp_Or_int
  by_cases ha : a = 0
  ·subst ha
   rw [lp.step (s' := 1) (by unfold p_cmp_Or_int_b0; simp [gd, ix, I64, nth])]
   by_cases hb : b = 0
   ·subst hb
    rw [lp.step (s' := 2) (by unfold p_cmp_Or_int_b0; simp [gd, ix, I64, nth])]
    rw [lp.stop (e := .inl ()) (by unfold p_cmp_Or_int_b0; simp)]
    rfl
   ·rw [lp.stop (e := .inr b) (by unfold p_cmp_Or_int_b0; simp [gd, ix, I64, nth, hb])]
    rfl
  ·rw [lp.stop (e := .inr a) (by unfold p_cmp_Or_int_b0; simp [gd, ix, I64, nth, ha])]
   simp [bd, sw, ha]
 rw [key]; rfl
theorem cmS_lt (x y : ByteArray) : decide (cmS x y < 0) = sless x y := by
 unfold cmS
 cases h : sless x y with
 | true => simp
 | false => cases h' : sless y x <;> simp
theorem cmS_0 {x y : ByteArray} : cmS x y = 0 ↔ x = y := by
 unfold cmS
 constructor
 ·intro h
  cases h1 : sless x y with
  | true => rw [h1] at h; simp at h
  | false =>
   cases h2 : sless y x with
   | true => rw [h1, h2] at h; simp at h
   | false => exact sless_anti h1 h2
 ·intro h; subst h; simp [sless_irr]
theorem cmH_lt (x y : PostH) : decide (cmH x y < 0) = ltP x y := by
 unfold cmH ltP ltTag
 by_cases h : x.1.1 = y.1.1
 ·rw [if_pos (cmS_0.2 h), cmS_lt, h, sless_irr]; simp
 ·rw [if_neg (fun e => h (cmS_0.1 e)), cmS_lt]; simp [h]
def srF : Nat → Nat
 | 6 => 164 | 14 => 188 | 15 => 189 | 20 => 201 | 21 => 202 | 22 => 203 | 23 => 204 | 24 => 205 | 25 => 206 | 26 => 207 | 27 => 208 | 28 => 209 | 29 => 210 | 46 => 212 | 47 => 213 | 48 => 214 | 49 => 215 | 50 => 216 | 57 => 218 | n => n
def srT : Nat → Nat
 | 0 => 0 | 3 => 3 | 4 => 4 | 5 => 5 | 9 => 9 | 22 => 36 | 24 => 183 | 25 => 197 | 39 => 218 | 45 => 227 | 46 => 228 | 50 => 232 | 53 => 235 | 55 => 237 | 66 => 238 | 70 => 242 | 76 => 245 | 77 => 246 | n => n
def srRen : Go.Shelf.Ren := ⟨srF, srT, fun n => n⟩
end Go.Proofs.YtonnpkdadcafcaaGreat
