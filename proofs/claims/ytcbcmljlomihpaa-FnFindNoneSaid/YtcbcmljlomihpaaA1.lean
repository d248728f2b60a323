/- The walks and the plain laws, part 1: each function that the law reaches computes what its plain function tells, and what the plain functions answer. Conditions: lengths that memory can hold. -/
import Derived.Test.YtcbcmljlomihpaaSxB
import Derived.Test.YtcbcmljlomihpaaProg
namespace Go.Proofs.Ytcbcmljlomihpaa
open Go Go.Sx Try
abbrev aA := @Del.here
abbrev aB := @Has.here
abbrev aC := @EntsB.cons
abbrev aD := @Tr.seq
abbrev aE := @p_move
abbrev aF := @Rg.m
abbrev aG := @Rg.p
abbrev aH := @Rg.a
abbrev aI := @Rg.o
abbrev aJ := @Rg.nl
abbrev aK := @Bool.eq_false_or_eq_true
abbrev aL := @Ent.b
abbrev aM := @PdOk.anc
abbrev aN := @EntB.flat
abbrev aO := @EntsB.nil
abbrev aP := @Tr.region
abbrev aQ := @Tr.block
abbrev aR := @Ent.z
abbrev aS := @Ent.dimm
abbrev aT := @Ent.darr
abbrev aU := @Ent.del
abbrev aV := @Lin.p
abbrev aW := @Lin.h
abbrev aX := @Lin.o
abbrev aY := @Lin.i
abbrev aZ := @Lin.m
abbrev bA := @Lin.e_
abbrev bB := @Lin.sk
abbrev bC := @Solo.tree
abbrev bD := @Solo.nil
abbrev bE := @tSkip
abbrev bF := @q_ldb
abbrev bG := @q_ldbA
abbrev bH := @Take.nil
abbrev bI := @EntB.tree
abbrev bJ := @Tr.openD
abbrev bK := @q_call
abbrev bL := @p_pickF
abbrev bM := @p_pickT
abbrev bN := @tRet
abbrev bO := @p_add
abbrev bP := @p_len
abbrev bQ := @Ents.refl
abbrev bR := @PdOk.nil
abbrev bS := @PdOk.q
abbrev bT := @q_ixg
abbrev bU := @q_faeE
abbrev bV := @q_lde
abbrev bW := @q_ldeA
abbrev bX := @p_fabE
abbrev bY := @e_box
abbrev bZ := @e_alloc
abbrev cA := @e_callB
abbrev cB := @e_callM
abbrev cC := @w_skip
abbrev cD := @w_ed
abbrev cE := @w_nil
abbrev cF := @Ents.cons
abbrev cG := @Ents.nil
abbrev cI := @Rdy.nil
abbrev cJ := @Rdy.cons
abbrev cK := @Pu.eqv
abbrev cL := @p_lss
abbrev cM := @p_eql
abbrev cN := @p_gtr
abbrev cO := @p_not
abbrev cP := @ShpT.wfa
abbrev cQ := @Upd.here
abbrev cR := @tExit
abbrev cS := @tMidNC
abbrev cT := @tMidI
abbrev cU := @tMid1
abbrev cV := @tLoopI
abbrev cW := @tLinS
abbrev cX := @tLinT
abbrev cY := @List.nodup_nil
abbrev cZ := @underlying22
abbrev dA := @underlying23
abbrev dB := @underlying24
abbrev dC := @underlying27
abbrev dD := @underlying3
abbrev dE := @underlying30
abbrev dF := @underlying34
abbrev dG := @underlying46
abbrev dH := @underlying5
abbrev dI := @underlying9
theorem mixed : prog.follows .mixedOrders = true := by kernel_rfl
abbrev Tag := ByteArray × ByteArray
abbrev PostH := Tag × HV
abbrev Post := Tag × (List Int)
abbrev Index := (List (List Tag)) × (List Post)
abbrev Cond := Tag × Bool
abbrev L6Rd := (List UInt8) × Int
instance : DecidableEq Tag := inferInstanceAs (DecidableEq (ByteArray × ByteArray))
instance : DecidableEq Post := inferInstanceAs (DecidableEq (Tag × (List Int)))
instance : DecidableEq Index := inferInstanceAs (DecidableEq ((List (List Tag)) × (List Post)))
instance : DecidableEq Cond := inferInstanceAs (DecidableEq (Tag × Bool))
instance : DecidableEq L6Rd := inferInstanceAs (DecidableEq ((List UInt8) × Int))
theorem ty3 : TyI prog 3 false 1 (.int .i64 0) 8 := ⟨by kernel_rfl, by kernel_rfl, rfl⟩
theorem ty4 : TyI prog 4 false 1 (.bool false) 1 := ⟨by kernel_rfl, by kernel_rfl, rfl⟩
theorem ty5 : TyI prog 5 false 1 (.int .u8 0) 1 := ⟨by kernel_rfl, by kernel_rfl, rfl⟩
theorem ty9 : TyI prog 9 false 1 (.string ⟨#[]⟩) 16 := ⟨by kernel_rfl, by kernel_rfl, rfl⟩
theorem ty22 : TyI prog 22 false 1 (.slice none 0 0) 24 := ⟨by kernel_rfl, by kernel_rfl, rfl⟩
theorem ty23 : TyI prog 23 false 1 (.slice none 0 0) 24 := ⟨by kernel_rfl, by kernel_rfl, rfl⟩
theorem ty24 : TyI prog 24 false 1 (.slice none 0 0) 24 := ⟨by kernel_rfl, by kernel_rfl, rfl⟩
theorem ty26 : TyI prog 26 true 2 (.agg #[.slice none 0 0, .slice none 0 0]) 48 := ⟨by kernel_rfl, by kernel_rfl, rfl⟩
theorem fa26_0 : FA prog 26 0 0 := ⟨_, underlying26, _, rfl, rfl, by obtain ⟨i, hi, _, hn, _⟩ := ty23.info'; exact ⟨i, hi, by rw [hn]; decide⟩⟩
theorem fa26_1 : FA prog 26 1 1 := ⟨_, underlying26, _, rfl, rfl, by obtain ⟨i, hi, _, hn, _⟩ := ty24.info'; exact ⟨i, hi, by rw [hn]; decide⟩⟩
theorem ty30 : TyI prog 30 false 1 (.slice none 0 0) 24 := ⟨by kernel_rfl, by kernel_rfl, rfl⟩
theorem ty36 : TyI prog 36 true 2 (.agg #[.string ⟨#[]⟩, .string ⟨#[]⟩]) 32 := ⟨by kernel_rfl, by kernel_rfl, rfl⟩
theorem fa36_0 : FA prog 36 0 0 := ⟨_, underlying36, _, rfl, rfl, by obtain ⟨i, hi, _, hn, _⟩ := ty9.info'; exact ⟨i, hi, by rw [hn]; decide⟩⟩
theorem fa36_1 : FA prog 36 1 1 := ⟨_, underlying36, _, rfl, rfl, by obtain ⟨i, hi, _, hn, _⟩ := ty9.info'; exact ⟨i, hi, by rw [hn]; decide⟩⟩
theorem ty38 : TyI prog 38 true 3 (.agg #[.string ⟨#[]⟩, .string ⟨#[]⟩, .bool false]) 40 := ⟨by kernel_rfl, by kernel_rfl, rfl⟩
theorem fa38_0 : FA prog 38 0 0 := ⟨_, underlying38, _, rfl, rfl, by obtain ⟨i, hi, _, hn, _⟩ := ty36.info'; exact ⟨i, hi, by rw [hn]; decide⟩⟩
theorem fa38_1 : FA prog 38 1 2 := ⟨_, underlying38, _, rfl, rfl, by obtain ⟨i, hi, _, hn, _⟩ := ty4.info'; exact ⟨i, hi, by rw [hn]; decide⟩⟩
theorem ty46 : TyI prog 46 false 1 (.slice none 0 0) 24 := ⟨by kernel_rfl, by kernel_rfl, rfl⟩
theorem ty52 : TyI prog 52 true 3 (.agg #[.string ⟨#[]⟩, .string ⟨#[]⟩, .slice none 0 0]) 56 := ⟨by kernel_rfl, by kernel_rfl, rfl⟩
theorem fa52_0 : FA prog 52 0 0 := ⟨_, underlying52, _, rfl, rfl, by obtain ⟨i, hi, _, hn, _⟩ := ty36.info'; exact ⟨i, hi, by rw [hn]; decide⟩⟩
theorem fa52_1 : FA prog 52 1 2 := ⟨_, underlying52, _, rfl, rfl, by obtain ⟨i, hi, _, hn, _⟩ := ty30.info'; exact ⟨i, hi, by rw [hn]; decide⟩⟩
theorem ty56 : TyI prog 56 true 2 (.agg #[.slice none 0 0, .int .i64 0]) 32 := ⟨by kernel_rfl, by kernel_rfl, rfl⟩
theorem fa56_0 : FA prog 56 0 0 := ⟨_, underlying56, _, rfl, rfl, by obtain ⟨i, hi, _, hn, _⟩ := ty22.info'; exact ⟨i, hi, by rw [hn]; decide⟩⟩
theorem fa56_1 : FA prog 56 1 1 := ⟨_, underlying56, _, rfl, rfl, by obtain ⟨i, hi, _, hn, _⟩ := ty3.info'; exact ⟨i, hi, by rw [hn]; decide⟩⟩
theorem pl26 : PL prog 26 #[(0, 1), (1, 1)] := ⟨_, underlying26, fun w => by simp [ty23.sizeOf w]⟩
theorem pl36 : PL prog 36 #[(0, 1), (1, 1)] := ⟨_, underlying36, fun w => by simp [ty9.sizeOf w]⟩
theorem pl38 : PL prog 38 #[(0, 2), (2, 1)] := ⟨_, underlying38, fun w => by simp [ty36.sizeOf w]⟩
theorem pl52 : PL prog 52 #[(0, 2), (2, 1)] := ⟨_, underlying52, fun w => by simp [ty36.sizeOf w]⟩
theorem pl56 : PL prog 56 #[(0, 1), (1, 1)] := ⟨_, underlying56, fun w => by simp [ty22.sizeOf w]⟩
theorem ae36 : AEq prog 36 Tag := ⟨by kernel_rfl, fun d a b w => by
 rw [run_equalIn_agg w (d + 2) 36 _ _ (by kernel_rfl) (by kernel_rfl)]
 simp only [Program.fieldsOf, underlying36, Flat.enc, List.cons_append, List.nil_append]
 simp [Op.eqFields, part, ty9.isAgg, ty9.sizeOf, run_equalIn_string w (d + 1) 9 _ _ underlying9, seq_dec]
 by_cases h0 : a.1 = b.1 <;> by_cases h1 : a.2 = b.2 <;> simp [h0, h1, Prod.ext_iff]⟩
noncomputable def p_spec_l6Open (v0 : (List UInt8)) : Option (L6Rd) := cond (decide (2000 < (v0.length : Int))) (gd (sl2 0 2000 v0.length) <| some (((v0.take 2000).drop 0), 0)) (some (v0, 0))
theorem c_spec_l6Open {r : L6Rd} (v0 : (List UInt8)) (x_v0 : Option Addr × Nat) (H : p_spec_l6Open v0 = some r) : Fn' prog 10 #[.slice x_v0.1 v0.length x_v0.2] [imm (.slice x_v0.1 v0.length x_v0.2) v0] [] (ι := Nat × ((Option Addr × Nat) × Unit)) (fun x => .pointer (some ⟨x.1, 0, none⟩)) (fun x => [imm (.slice x.2.1.1 r.1.length x.2.1.2) r.1]) (fun x => [box x.1 56 [.slice x.2.1.1 r.1.length x.2.1.2, .int .i64 (r.2)]]) := by
 refine cof (args := [_]) func10 ntmps10 fun c => ?_
 unfold p_spec_l6Open at H
 refine sr (aH rfl (nl (aD (sr (aF rfl (aG (bP 5 cZ rfl) (aG (cN rfl rfl) (nl (cH H rfl (fun h1 H => ?_) (fun h1 H => ?_))))))))))
 ·refine aP (aF rfl (gdo H fun h2 H => (aI (v := .slice (subA x_v0.1 x_v0.2 0 (Enc.sz UInt8)) (((v0.take 2000).drop 0).length) (x_v0.2 - 0)) (q_slF (l := v0) (α := UInt8) 0 2000 cZ ty5 rfl rfl (fun _ => rfl) rfl (fun h => nomatch h) h2 (aL aR)) (aH rfl (nl (sr (aF rfl (aG (v := .agg #[.slice (subA x_v0.1 x_v0.2 0 (Enc.sz UInt8)) (((v0.take 2000).drop 0).length) (x_v0.2 - 0), .int .i64 (0)]) (p_buildS (vs := [(0, .slice (subA x_v0.1 x_v0.2 0 (Enc.sz UInt8)) (((v0.take 2000).drop 0).length) (x_v0.2 - 0))]) (cs := #[.slice (subA x_v0.1 x_v0.2 0 (Enc.sz UInt8)) (((v0.take 2000).drop 0).length) (x_v0.2 - 0), .int .i64 (0)]) ty56 pl56 rfl rfl) (f1 (bY (t := 56) rfl) fun g3 => (aH rfl (nl ?_)))))))))))
  refine bN ?_
  obtain rfl := si H
  exact back1 (g3, ((subA x_v0.1 x_v0.2 0 (Enc.sz UInt8), (x_v0.2 - 0)), ())) rfl (ResV.tmp (v := .pointer (some ⟨g3, 0, none⟩)) rfl) rfl (cF (Ent.sub aR h2.le h2.lt) cG) (.cons aA .nil)
 ·refine bE (nT (sr (aF rfl (aG (v := .agg #[.slice x_v0.1 v0.length x_v0.2, .int .i64 (0)]) (p_buildS (vs := [(0, .slice x_v0.1 v0.length x_v0.2)]) (cs := #[.slice x_v0.1 v0.length x_v0.2, .int .i64 (0)]) ty56 pl56 rfl rfl) (f1 (bY (t := 56) rfl) fun g4 => (aH rfl (nl (bN ?_))))))))
  obtain rfl := si H
  exact back1 (g4, (x_v0, ())) rfl (ResV.tmp (v := .pointer (some ⟨g4, 0, none⟩)) rfl) rfl (cF aR cG) (.cons aA .nil)
noncomputable def p_spec_l11New : Option (Index) := some (([] : List (List Tag)), ([] : List Post))
theorem c_spec_l11New {r : Index}  (H : p_spec_l11New = some r) : Fn' prog 23 #[] [] [] (ι := (Option Addr × Nat) × (Option Addr × Nat)) (fun x => .agg #[.slice x.1.1 r.1.length x.1.2, .slice x.2.1 r.2.length x.2.2]) (fun _ => []) (fun x => [tree (.slice x.1.1 r.1.length x.1.2) r.1, tree (.slice x.2.1 r.2.length x.2.2) r.2]) := by
 refine cof (args := []) func23 ntmps23 fun c => ?_
 unfold p_spec_l11New at H
 refine sr (f1 (bZ ty26) fun g1 => (nl (sr (f2 (e_lit0 (List Tag) dA ty46) fun a2 c3 => (f2 (e_lit0 Post dB ty52) fun a4 c5 => (aG (v := .agg #[.slice a2 (([] : List (List Tag)).length) c3, .slice a4 (([] : List Post).length) c5]) (p_buildS (vs := [(0, .slice a2 (([] : List (List Tag)).length) c3), (1, .slice a4 (([] : List Post).length) c5)]) (cs := #[.slice a2 (([] : List (List Tag)).length) c3, .slice a4 (([] : List Post).length) c5]) ty26 pl26 rfl rfl) (stb (cs' := [.slice a2 (([] : List (List Tag)).length) c3, .slice a4 (([] : List Post).length) c5]) ty26 up2 (nl (bN ?_)))))))))
 obtain rfl := si H
 exact back1 ((a2, c3), (a4, c5)) rfl (ResV.agg ty26 rfl hs2 rfl) rfl cG (.cons dl1 (.cons aA .nil))
noncomputable def p_spec_l6Rd_pick (v0 : L6Rd) (v1 : Int) : Option (Int × Int) := gd (I64 (v0.2 + 1)) <| bd (cond (decide (v1 < 1)) (some (true)) (some (decide ((v0.1.length : Int) = 0)))) fun b2 => cond (b2) (some (0, v0.2 + 1)) (gd (I64 ((v0.2 + 1) - 1)) <| cond (decide (((v0.2 + 1) - 1) < (v0.1.length : Int))) (gd (ix ((v0.2 + 1) - 1) v0.1.length) <| gd (v1 ≠ 0) <| gd (I64 (((nth v0.1 (((v0.2 + 1) - 1).toNat)).toNat : Int).tmod v1)) <| some (((nth v0.1 (((v0.2 + 1) - 1).toNat)).toNat : Int).tmod v1, v0.2 + 1)) (gd ((v0.1.length : Int) ≠ 0) <| gd (I64 (((v0.2 + 1) - 1).tmod (v0.1.length : Int))) <| gd (ix (((v0.2 + 1) - 1).tmod (v0.1.length : Int)) v0.1.length) <| gd (I64 (((nth v0.1 ((((v0.2 + 1) - 1).tmod (v0.1.length : Int)).toNat)).toNat : Int) * 131)) <| gd (I64 (((v0.2 + 1) - 1) * 7)) <| gd (I64 ((((v0.2 + 1) - 1) * 7) + 3)) <| gd (I64 (((((v0.2 + 1) - 1) * 7) + 3).tmod (v0.1.length : Int))) <| gd (ix (((((v0.2 + 1) - 1) * 7) + 3).tmod (v0.1.length : Int)) v0.1.length) <| gd (I64 (((nth v0.1 ((((((v0.2 + 1) - 1) * 7) + 3).tmod (v0.1.length : Int)).toNat)).toNat : Int) * 1117)) <| gd (I64 ((((nth v0.1 ((((v0.2 + 1) - 1).tmod (v0.1.length : Int)).toNat)).toNat : Int) * 131) + (((nth v0.1 ((((((v0.2 + 1) - 1) * 7) + 3).tmod (v0.1.length : Int)).toNat)).toNat : Int) * 1117))) <| gd (I64 (((v0.2 + 1) - 1) * 29)) <| gd (I64 (((((nth v0.1 ((((v0.2 + 1) - 1).tmod (v0.1.length : Int)).toNat)).toNat : Int) * 131) + (((nth v0.1 ((((((v0.2 + 1) - 1) * 7) + 3).tmod (v0.1.length : Int)).toNat)).toNat : Int) * 1117)) + (((v0.2 + 1) - 1) * 29))) <| gd (I64 (((v0.2 + 1) - 1).tdiv (v0.1.length : Int))) <| gd (I64 ((((v0.2 + 1) - 1).tdiv (v0.1.length : Int)) * 53)) <| gd (I64 ((((((nth v0.1 ((((v0.2 + 1) - 1).tmod (v0.1.length : Int)).toNat)).toNat : Int) * 131) + (((nth v0.1 ((((((v0.2 + 1) - 1) * 7) + 3).tmod (v0.1.length : Int)).toNat)).toNat : Int) * 1117)) + (((v0.2 + 1) - 1) * 29)) + ((((v0.2 + 1) - 1).tdiv (v0.1.length : Int)) * 53))) <| gd (I64 (((((((nth v0.1 ((((v0.2 + 1) - 1).tmod (v0.1.length : Int)).toNat)).toNat : Int) * 131) + (((nth v0.1 ((((((v0.2 + 1) - 1) * 7) + 3).tmod (v0.1.length : Int)).toNat)).toNat : Int) * 1117)) + (((v0.2 + 1) - 1) * 29)) + ((((v0.2 + 1) - 1).tdiv (v0.1.length : Int)) * 53)).tdiv 64)) <| gd (nn ((((((nth v0.1 ((((v0.2 + 1) - 1).tmod (v0.1.length : Int)).toNat)).toNat : Int) * 131) + (((nth v0.1 ((((((v0.2 + 1) - 1) * 7) + 3).tmod (v0.1.length : Int)).toNat)).toNat : Int) * 1117)) + (((v0.2 + 1) - 1) * 29)) + ((((v0.2 + 1) - 1).tdiv (v0.1.length : Int)) * 53))) <| gd (nn (((((((nth v0.1 ((((v0.2 + 1) - 1).tmod (v0.1.length : Int)).toNat)).toNat : Int) * 131) + (((nth v0.1 ((((((v0.2 + 1) - 1) * 7) + 3).tmod (v0.1.length : Int)).toNat)).toNat : Int) * 1117)) + (((v0.2 + 1) - 1) * 29)) + ((((v0.2 + 1) - 1).tdiv (v0.1.length : Int)) * 53)).tdiv 64)) <| gd (v1 ≠ 0) <| gd (I64 ((xr ((((((nth v0.1 ((((v0.2 + 1) - 1).tmod (v0.1.length : Int)).toNat)).toNat : Int) * 131) + (((nth v0.1 ((((((v0.2 + 1) - 1) * 7) + 3).tmod (v0.1.length : Int)).toNat)).toNat : Int) * 1117)) + (((v0.2 + 1) - 1) * 29)) + ((((v0.2 + 1) - 1).tdiv (v0.1.length : Int)) * 53)) (((((((nth v0.1 ((((v0.2 + 1) - 1).tmod (v0.1.length : Int)).toNat)).toNat : Int) * 131) + (((nth v0.1 ((((((v0.2 + 1) - 1) * 7) + 3).tmod (v0.1.length : Int)).toNat)).toNat : Int) * 1117)) + (((v0.2 + 1) - 1) * 29)) + ((((v0.2 + 1) - 1).tdiv (v0.1.length : Int)) * 53)).tdiv 64)).tmod v1)) <| some ((xr ((((((nth v0.1 ((((v0.2 + 1) - 1).tmod (v0.1.length : Int)).toNat)).toNat : Int) * 131) + (((nth v0.1 ((((((v0.2 + 1) - 1) * 7) + 3).tmod (v0.1.length : Int)).toNat)).toNat : Int) * 1117)) + (((v0.2 + 1) - 1) * 29)) + ((((v0.2 + 1) - 1).tdiv (v0.1.length : Int)) * 53)) (((((((nth v0.1 ((((v0.2 + 1) - 1).tmod (v0.1.length : Int)).toNat)).toNat : Int) * 131) + (((nth v0.1 ((((((v0.2 + 1) - 1) * 7) + 3).tmod (v0.1.length : Int)).toNat)).toNat : Int) * 1117)) + (((v0.2 + 1) - 1) * 29)) + ((((v0.2 + 1) - 1).tdiv (v0.1.length : Int)) * 53)).tdiv 64)).tmod v1, v0.2 + 1)))
theorem c_spec_l6Rd_pick {r : Int × Int} (g_v0 : Nat) (v0 : L6Rd) (x_v0 : (Option Addr × Nat) × Unit) (v1 : Int) (H : p_spec_l6Rd_pick v0 v1 = some r) : Fn' prog 13 #[.pointer (some ⟨g_v0, 0, none⟩), .int .i64 (v1)] [imm (.slice x_v0.1.1 v0.1.length x_v0.1.2) v0.1] [box g_v0 56 [.slice x_v0.1.1 v0.1.length x_v0.1.2, .int .i64 (v0.2)]] (ι := Unit) (fun _ => .int .i64 (r.1)) (fun _ => []) (fun _ => [box g_v0 56 [.slice x_v0.1.1 v0.1.length x_v0.1.2, .int .i64 (r.2)]]) := by
 refine cof (args := [_, _]) func13 ntmps13 fun c => ?_
 unfold p_spec_l6Rd_pick at H
 refine sr (aH (v := .int .i64 (0)) rfl (nl (sr (aF rfl (aF rfl (aG (p_nil rfl) (aG (bX fa56_1 rfl rfl) (aI (bF ty3 rfl aB rfl) (gdo H fun h1 H => (aG (bO rfl rfl h1) ?_))))))))))
 refine aG (p_nil rfl) (aG (bX fa56_1 rfl rfl) (stb (cs' := [.slice x_v0.1.1 v0.1.length x_v0.1.2, .int .i64 (v0.2 + 1)]) ty3 cQ (nl (aD (bdo H fun b2 j3 H => (cU [(24, .bool (b2)), (0, .pointer (some ⟨g_v0, 0, none⟩)), (1, .int .i64 (v1))] ?_ ?_))))))
 ·refine cX [(0, .pointer (some ⟨g_v0, 0, none⟩)), (1, .int .i64 (v1))] ⟨rfl, rfl, trivial⟩ (aZ rfl (aV (cL rfl rfl) ?_))
  rcases aK (decide (v1 < 1)) with h4 | h4
  ·have j3 := cdT h4 j3
   refine bA (aE rfl) h4 ?_
   iterate 6 refine bB rfl ?_
   refine aV (v := .bool (true)) (bM rfl rfl) ?_
   obtain rfl := si j3
   show At _ _ _ _ _ _
   exact n1 ⟨rfl, rfl, rfl, trivial⟩
  ·have j3 := cdF h4 j3
   refine bA (aE rfl) h4 (aW rfl (aE rfl) (aW rfl (p_nil rfl) (aW rfl (bX fa56_0 rfl rfl) (aY rfl (bF ty22 rfl aB rfl) (aW rfl (bP 5 cZ rfl) (aW rfl (cM rfl rfl) (aV (bL rfl rfl) ?_)))))))
   obtain rfl := si j3
   show At _ _ _ _ _ _
   exact n1 ⟨rfl, rfl, rfl, trivial⟩
 refine cH H rfl (fun h5 H => ?_) (fun h5 H => ?_)
 ·refine sr (aH (v := .int .i64 (0)) rfl (nl (bN (rT (?_)))))
  obtain rfl := si H
  exact bk (.cons aA .nil)
 ·refine bE (nT (sr (aF rfl (aG (p_nil rfl) (aG (bX fa56_1 rfl rfl) (aI (bF ty3 rfl aB rfl) (gdo H fun h6 H => (aG (p_sub rfl rfl h6) (aH rfl (nl ?_))))))))))
  refine aD (sr (aF rfl (aF rfl (aG (p_nil rfl) (aG (bX fa56_0 rfl rfl) (aI (bF ty22 rfl aB rfl) (aG (bP 5 cZ rfl) (aG (cL rfl rfl) (nl (cH H rfl (fun h7 H => ?_) (fun h7 H => ?_)))))))))))
  ·refine sr (aF rfl (aG (p_nil rfl) (aG (bX fa56_0 rfl rfl) (aI (bF ty22 rfl aB rfl) (aF rfl (gdo H fun h8 H => (aI (bT cZ ty5 rfl rfl h8 rfl (aN (aL aR))) (aI (bV (i := ((v0.2 + 1) - 1).toNat) (j := 0) ty5 rfl (aN (aL aR)) h8.lt rfl) (aG (p_i8 dH dD rfl) ?_)))))))))
   refine aF rfl (gdo H fun h9 H => (gdo H fun h10 H => (aG (p_rem rfl rfl h9 h10) (aH rfl (nl (bN (rT (?_))))))))
   obtain rfl := si H
   exact back1 () rfl (ResV.tmp (v := .int .i64 (((nth v0.1 (((v0.2 + 1) - 1).toNat)).toNat : Int).tmod v1)) rfl) rfl cG (.cons aA .nil)
  ·refine bE (nT (aD (cW [(5, .int .i64 ((v0.2 + 1) - 1)), (0, .pointer (some ⟨g_v0, 0, none⟩)), (1, .int .i64 (v1))] mixed (.inr (by kernel_rfl)) ⟨rfl, rfl, rfl, trivial⟩ rfl (aZ rfl (aV (p_nil rfl) (aV (bX fa56_0 rfl rfl) (aX (bF ty22 rfl aB rfl) (aZ rfl (aZ rfl (aV (p_nil rfl) ?_))))))))))
   refine aV (bX fa56_0 rfl rfl) (aX (bF ty22 rfl aB rfl) (aV (bP 5 cZ rfl) (gdo H fun h11 H => (gdo H fun h12 H => (aV (p_rem rfl rfl h11 h12) (gdo H fun h13 H => (aX (bT cZ ty5 rfl rfl h13 rfl (aN (aL aR))) (aX (bV (i := (((v0.2 + 1) - 1).tmod (v0.1.length : Int)).toNat) (j := 0) ty5 rfl (aN (aL aR)) h13.lt rfl) (aV (p_i8 dH dD rfl) ?_)))))))))
   refine gdo H fun h14 H => (aV (p_mul rfl rfl h14) (aZ rfl (aV (p_nil rfl) (aV (bX fa56_0 rfl rfl) (aX (bF ty22 rfl aB rfl) (aZ rfl (gdo H fun h15 H => (aV (p_mul rfl rfl h15) (gdo H fun h16 H => ?_)))))))))
   refine aV (bO rfl rfl h16) (aZ rfl (aV (p_nil rfl) (aV (bX fa56_0 rfl rfl) (aX (bF ty22 rfl aB rfl) (aV (bP 5 cZ rfl) (gdo H fun h17 H => (aV (p_rem rfl rfl h11 h17) (gdo H fun h18 H => (aX (bT cZ ty5 rfl rfl h18 rfl (aN (aL aR))) ?_)))))))))
   refine aX (bV (i := (((((v0.2 + 1) - 1) * 7) + 3).tmod (v0.1.length : Int)).toNat) (j := 0) ty5 rfl (aN (aL aR)) h18.lt rfl) (aV (p_i8 dH dD rfl) (gdo H fun h19 H => (aV (p_mul rfl rfl h19) (gdo H fun h20 H => (aV (bO rfl rfl h20) (aZ rfl (gdo H fun h21 H => (aV (p_mul rfl rfl h21) (gdo H fun h22 H => ?_)))))))))
   refine aV (bO rfl rfl h22) (aZ rfl (aZ rfl (aV (p_nil rfl) (aV (bX fa56_0 rfl rfl) (aX (bF ty22 rfl aB rfl) (aV (bP 5 cZ rfl) (gdo H fun h23 H => (aV (p_quo rfl rfl h11 h23) (gdo H fun h24 H => ?_)))))))))
   refine aV (p_mul rfl rfl h24) (gdo H fun h25 H => (aV (bO rfl rfl h25) (aV (p_assign rfl) (nT (sr (aF rfl (aF rfl (gdo H fun h26 H => (aG (p_quo rfl rfl (by decide) h26) ?_)))))))))
   refine gdo H fun h27 H => (gdo H fun h28 H => (aG (v := .int .i64 (xr ((((((nth v0.1 ((((v0.2 + 1) - 1).tmod (v0.1.length : Int)).toNat)).toNat : Int) * 131) + (((nth v0.1 ((((((v0.2 + 1) - 1) * 7) + 3).tmod (v0.1.length : Int)).toNat)).toNat : Int) * 1117)) + (((v0.2 + 1) - 1) * 29)) + ((((v0.2 + 1) - 1).tdiv (v0.1.length : Int)) * 53)) (((((((nth v0.1 ((((v0.2 + 1) - 1).tmod (v0.1.length : Int)).toNat)).toNat : Int) * 131) + (((nth v0.1 ((((((v0.2 + 1) - 1) * 7) + 3).tmod (v0.1.length : Int)).toNat)).toNat : Int) * 1117)) + (((v0.2 + 1) - 1) * 29)) + ((((v0.2 + 1) - 1).tdiv (v0.1.length : Int)) * 53)).tdiv 64))) (p_xor rfl rfl h27 h28) (aH rfl (nl (sr (aF rfl (aF rfl (gdo H fun h29 H => (gdo H fun h30 H => (aG (p_rem rfl rfl h29 h30) ?_))))))))))
   refine aH rfl (nl (bN ?_))
   obtain rfl := si H
   exact back1 () rfl (ResV.tmp (v := .int .i64 ((xr ((((((nth v0.1 ((((v0.2 + 1) - 1).tmod (v0.1.length : Int)).toNat)).toNat : Int) * 131) + (((nth v0.1 ((((((v0.2 + 1) - 1) * 7) + 3).tmod (v0.1.length : Int)).toNat)).toNat : Int) * 1117)) + (((v0.2 + 1) - 1) * 29)) + ((((v0.2 + 1) - 1).tdiv (v0.1.length : Int)) * 53)) (((((((nth v0.1 ((((v0.2 + 1) - 1).tmod (v0.1.length : Int)).toNat)).toNat : Int) * 131) + (((nth v0.1 ((((((v0.2 + 1) - 1) * 7) + 3).tmod (v0.1.length : Int)).toNat)).toNat : Int) * 1117)) + (((v0.2 + 1) - 1) * 29)) + ((((v0.2 + 1) - 1).tdiv (v0.1.length : Int)) * 53)).tdiv 64)).tmod v1)) rfl) rfl cG (.cons aA .nil)
noncomputable def p_spec_l6Rd_of (v0 : L6Rd) (v1 : (List ByteArray)) : Option (ByteArray × Int) := bd (p_spec_l6Rd_pick v0 (v1.length : Int)) fun r1 => gd (ix r1.1 v1.length) <| some (nth v1 r1.1.toNat, r1.2)
theorem c_spec_l6Rd_of {r : ByteArray × Int} (g_v0 : Nat) (v0 : L6Rd) (x_v0 : (Option Addr × Nat) × Unit) (v1 : (List ByteArray)) (x_v1 : Option Addr × Nat) (H : p_spec_l6Rd_of v0 v1 = some r) : Fn' prog 42 #[.pointer (some ⟨g_v0, 0, none⟩), .slice x_v1.1 v1.length x_v1.2] [imm (.slice x_v0.1.1 v0.1.length x_v0.1.2) v0.1, imm (.slice x_v1.1 v1.length x_v1.2) v1] [box g_v0 56 [.slice x_v0.1.1 v0.1.length x_v0.1.2, .int .i64 (v0.2)]] (ι := Unit) (fun _ => .string (r.1)) (fun _ => []) (fun _ => [box g_v0 56 [.slice x_v0.1.1 v0.1.length x_v0.1.2, .int .i64 (r.2)]]) := by
 refine cof (args := [_, _]) func42 ntmps42 fun c => ?_
 unfold p_spec_l6Rd_of at H
 refine sr (aH (v := .string ((⟨#[]⟩ : ByteArray))) rfl (nl (sr (aF rfl (aF rfl (aF rfl (aG (bP 9 dF rfl) (bdo H fun r1 h2 H => (f1 (cB (c_spec_l6Rd_pick g_v0 v0 (x_v0.1, ()) (v1.length : Int) h2) (Solo.box bD) (fun _ => (Solo.box bD)) rfl (.cons aA .nil) (aC (aL aR) aO)) fun u3 => (gdo H fun h4 H => ?_))))))))))
 refine aI (bT dF ty9 rfl rfl h4 rfl (aN (aL aR.s))) (aI (bV (i := r1.1.toNat) (j := 0) ty9 rfl (aN (aL aR.s)) h4.lt rfl) (aH rfl (nl ?_)))
 obtain rfl := si H
 exact bN (bk (.cons aA .nil))
noncomputable def p_spec_l71Tag (v0 : L6Rd) : Option (Tag × Int) := bd (p_spec_l6Rd_of v0 ([(⟨#[97]⟩ : ByteArray), (⟨#[98]⟩ : ByteArray), (⟨#[99]⟩ : ByteArray)] : List ByteArray)) fun r4 => bd (p_spec_l6Rd_of (v0.1, r4.2) ([(⟨#[112]⟩ : ByteArray), (⟨#[113]⟩ : ByteArray), (⟨#[122]⟩ : ByteArray)] : List ByteArray)) fun r9 => some ((r4.1, r9.1), r9.2)
theorem c_spec_l71Tag {r : Tag × Int} (g_v0 : Nat) (v0 : L6Rd) (x_v0 : (Option Addr × Nat) × Unit) (H : p_spec_l71Tag v0 = some r) : Fn' prog 26 #[.pointer (some ⟨g_v0, 0, none⟩)] [imm (.slice x_v0.1.1 v0.1.length x_v0.1.2) v0.1] [box g_v0 56 [.slice x_v0.1.1 v0.1.length x_v0.1.2, .int .i64 (v0.2)]] (ι := Unit) (fun _ => .agg #[.string (r.1.1), .string (r.1.2)]) (fun _ => []) (fun _ => [box g_v0 56 [.slice x_v0.1.1 v0.1.length x_v0.1.2, .int .i64 (r.2)]]) := by
 refine cof (args := [_]) func26 ntmps26 fun c => ?_
 unfold p_spec_l71Tag at H
 refine sr (f1 (bZ ty36) fun g1 => (nl (sr (aF rfl (f2 (e_litT (α := ByteArray) (vs := [(0, .string ((⟨#[97]⟩ : ByteArray))), (1, .string ((⟨#[98]⟩ : ByteArray))), (2, .string ((⟨#[99]⟩ : ByteArray)))]) [(⟨#[97]⟩ : ByteArray), (⟨#[98]⟩ : ByteArray), (⟨#[99]⟩ : ByteArray)] rfl (fun _ => rfl) (fun _ _ => by repeat constructor) dF ty9 rfl (by decide) (by decide) (by kernel_rfl)) fun a2 c3 => (bdo H fun r4 h5 H => (f1 (cB (c_spec_l6Rd_of g_v0 v0 (x_v0.1, ()) ([(⟨#[97]⟩ : ByteArray), (⟨#[98]⟩ : ByteArray), (⟨#[99]⟩ : ByteArray)] : List ByteArray) (a2, c3) h5) (Solo.box bD) (fun _ => (Solo.box bD)) rfl (.cons dl2 .nil) (aC (aL aR) (aC (bI aB) aO))) fun u6 => (aF rfl (f2 (e_litT (α := ByteArray) (vs := [(0, .string ((⟨#[112]⟩ : ByteArray))), (1, .string ((⟨#[113]⟩ : ByteArray))), (2, .string ((⟨#[122]⟩ : ByteArray)))]) [(⟨#[112]⟩ : ByteArray), (⟨#[113]⟩ : ByteArray), (⟨#[122]⟩ : ByteArray)] rfl (fun _ => rfl) (fun _ _ => by repeat constructor) dF ty9 rfl (by decide) (by decide) (by kernel_rfl)) fun a7 c8 => ?_)))))))))
 refine bdo H fun r9 h10 H => (f1 (cB (c_spec_l6Rd_of g_v0 (v0.1, r4.2) (x_v0.1, ()) ([(⟨#[112]⟩ : ByteArray), (⟨#[113]⟩ : ByteArray), (⟨#[122]⟩ : ByteArray)] : List ByteArray) (a7, c8) h10) (Solo.box bD) (fun _ => (Solo.box bD)) rfl (.cons dl1 .nil) (aC (aL aR) (aC (bI aB) aO))) fun u11 => (aG (v := .agg #[.string (r4.1), .string (r9.1)]) (p_buildS (vs := [(0, .string (r4.1)), (1, .string (r9.1))]) (cs := #[.string (r4.1), .string (r9.1)]) ty36 pl36 rfl rfl) (stb (cs' := [.string (r4.1), .string (r9.1)]) ty36 up3 (nl (bN ?_)))))
 obtain rfl := si H
 exact back1 () rfl (ResV.agg ty36 rfl hs3 rfl) rfl cG (.cons aA .nil)
noncomputable def p_spec_l71Name_b0 (v0 : L6Rd) (Q9 : Int × (List Tag) × Int) : Option ((Int × (List Tag) × Int) ⊕ (Int × (List Tag))) := cond (decide (Q9.2.2 < (([(⟨#[97]⟩ : ByteArray), (⟨#[98]⟩ : ByteArray), (⟨#[99]⟩ : ByteArray)] : List ByteArray).length : Int))) (gd (ix Q9.2.2 ([(⟨#[97]⟩ : ByteArray), (⟨#[98]⟩ : ByteArray), (⟨#[99]⟩ : ByteArray)] : List ByteArray).length) <| bd (p_spec_l6Rd_pick (v0.1, Q9.1) 2) fun r19 => cond (decide (r19.1 = 0)) (bd (p_spec_l6Rd_of (v0.1, r19.2) ([(⟨#[112]⟩ : ByteArray), (⟨#[113]⟩ : ByteArray), (⟨#[122]⟩ : ByteArray)] : List ByteArray)) fun r25 => gd (room (Q9.2.1.length + 1)) <| gd (I64 (Q9.2.2 + 1)) <| some (.inl (r25.2, (Q9.2.1 ++ [((nth ([(⟨#[97]⟩ : ByteArray), (⟨#[98]⟩ : ByteArray), (⟨#[99]⟩ : ByteArray)] : List ByteArray) Q9.2.2.toNat), r25.1)]), Q9.2.2 + 1))) (gd (I64 (Q9.2.2 + 1)) <| some (.inl (r19.2, Q9.2.1, Q9.2.2 + 1)))) (some (.inr (Q9.1, Q9.2.1)))
noncomputable def p_spec_l71Name (v0 : L6Rd) : Option ((List Tag) × Int) := bd (lp (p_spec_l71Name_b0 v0) (v0.2, ([] : List Tag), 0)) fun x5 => cond (decide ((x5.2.length : Int) = 0)) (bd (p_spec_l71Tag (v0.1, x5.1)) fun r35 => gd (room (x5.2.length + 1)) <| bd (p_spec_l6Rd_pick (v0.1, r35.2) 40) fun r42 => cond (decide (r42.1 = 0)) (bd (p_spec_l71Tag (v0.1, r42.2)) fun r46 => gd (room ((x5.2 ++ [r35.1]).length + 1)) <| some ((x5.2 ++ [r35.1]) ++ [r46.1], r46.2)) (cond (decide (r42.1 = 1)) (gd (ix 0 (x5.2 ++ [r35.1]).length) <| bd (p_spec_l6Rd_of (v0.1, r42.2) ([(⟨#[]⟩ : ByteArray), (⟨#[111]⟩ : ByteArray), (⟨#[112, 112]⟩ : ByteArray)] : List ByteArray)) fun r58 => some ((x5.2 ++ [r35.1]).set 0 (((nth (x5.2 ++ [r35.1]) 0).1), r58.1), r58.2)) (some (x5.2 ++ [r35.1], r42.2)))) (bd (p_spec_l6Rd_pick (v0.1, x5.1) 40) fun r61 => cond (decide (r61.1 = 0)) (bd (p_spec_l71Tag (v0.1, r61.2)) fun r65 => gd (room (x5.2.length + 1)) <| some (x5.2 ++ [r65.1], r65.2)) (cond (decide (r61.1 = 1)) (gd (ix 0 x5.2.length) <| bd (p_spec_l6Rd_of (v0.1, r61.2) ([(⟨#[]⟩ : ByteArray), (⟨#[111]⟩ : ByteArray), (⟨#[112, 112]⟩ : ByteArray)] : List ByteArray)) fun r77 => some (x5.2.set 0 (((nth x5.2 0).1), r77.1), r77.2)) (some (x5.2, r61.2))))
theorem c_spec_l71Name {r : (List Tag) × Int} (g_v0 : Nat) (v0 : L6Rd) (x_v0 : (Option Addr × Nat) × Unit) (H : p_spec_l71Name v0 = some r) : Fn' prog 25 #[.pointer (some ⟨g_v0, 0, none⟩)] [imm (.slice x_v0.1.1 v0.1.length x_v0.1.2) v0.1] [box g_v0 56 [.slice x_v0.1.1 v0.1.length x_v0.1.2, .int .i64 (v0.2)]] (ι := Option Addr × Nat) (fun x => .slice x.1 r.1.length x.2) (fun _ => []) (fun x => [tree (.slice x.1 r.1.length x.2) r.1, box g_v0 56 [.slice x_v0.1.1 v0.1.length x_v0.1.2, .int .i64 (r.2)]]) := by
 refine cof (args := [_]) func25 ntmps25 fun c => ?_
 unfold p_spec_l71Name at H
 refine sr (aH (v := .slice none 0 0) rfl (nl (sr (f2 (e_lit0 Tag dG ty36) fun a1 c2 => (aH rfl (nl (aD (sr (f2 (e_litT (α := ByteArray) (vs := [(0, .string ((⟨#[97]⟩ : ByteArray))), (1, .string ((⟨#[98]⟩ : ByteArray))), (2, .string ((⟨#[99]⟩ : ByteArray)))]) [(⟨#[97]⟩ : ByteArray), (⟨#[98]⟩ : ByteArray), (⟨#[99]⟩ : ByteArray)] rfl (fun _ => rfl) (fun _ _ => by repeat constructor) dF ty9 rfl (by decide) (by decide) (by kernel_rfl)) fun a3 c4 => (aG (bP 9 dF rfl) (aF (v := .int .i64 (0)) rfl (nl (bdo H fun x5 hx6 H => ?_)))))))))))))
 refine cS (ι := Option Addr × Nat) (fun ψ => [(0, .pointer (some ⟨g_v0, 0, none⟩)), (3, .slice ψ.1 x5.2.length ψ.2)]) (fun ψ => [box g_v0 56 [.slice x_v0.1.1 v0.1.length x_v0.1.2, .int .i64 (x5.1)], tree (.slice ψ.1 x5.2.length ψ.2) x5.2]) ?_ ?_
 ·refine aQ (cV hx6 (a1, c2) (fun Q9 z10 => [(0, .pointer (some ⟨g_v0, 0, none⟩)), (3, .slice z10.1 Q9.2.1.length z10.2), (7, .slice a3 (([(⟨#[97]⟩ : ByteArray), (⟨#[98]⟩ : ByteArray), (⟨#[99]⟩ : ByteArray)] : List ByteArray).length) c4), (8, .int .i64 ((([(⟨#[97]⟩ : ByteArray), (⟨#[98]⟩ : ByteArray), (⟨#[99]⟩ : ByteArray)] : List ByteArray).length : Int))), (9, .int .i64 (Q9.2.2))]) (fun Q9 z10 => [box g_v0 56 [.slice x_v0.1.1 v0.1.length x_v0.1.2, .int .i64 (Q9.1)], tree (.slice z10.1 Q9.2.1.length z10.2) Q9.2.1, tree (.slice a3 (([(⟨#[97]⟩ : ByteArray), (⟨#[98]⟩ : ByteArray), (⟨#[99]⟩ : ByteArray)] : List ByteArray).length) c4) ([(⟨#[97]⟩ : ByteArray), (⟨#[98]⟩ : ByteArray), (⟨#[99]⟩ : ByteArray)] : List ByteArray)]) (.cons dl2 (.cons dl1 (.cons aA .nil))) ?_)
  rintro _ Q9 z10 t12 H1 hi13 hb14
  unfold p_spec_l71Name_b0 at H1
  refine sr (aG (cL rfl rfl) (nl (aD (cH H1 rfl (fun h17 H1 => ?_) (fun h17 H1 => ?_)))))
  ·refine bE (nT (aD (aQ (sr (gdo H1 fun h18 H1 => (aI (q_ixO' dF ty9 rfl rfl h18 hs2) (aI (bV (i := Q9.2.2.toNat) (j := 0) ty9 rfl (aN (bI hs2)) h18.lt rfl) (aH rfl (nl (sr (aF rfl ?_)))))))))))
   refine bdo H1 fun r19 h20 H1 => (f1 (cB (c_spec_l6Rd_pick g_v0 (v0.1, Q9.1) (x_v0.1, ()) 2 h20) (Solo.box bD) (fun _ => (Solo.box bD)) rfl (.cons aA .nil) (aC (aL aR) aO)) fun u21 => (aG (cM rfl rfl) (nl (cH H1 rfl (fun h22 H1 => ?_) (fun h22 H1 => ?_)))))
   ·refine aP (aF rfl (aF rfl (aF rfl (f2 (e_litT (α := ByteArray) (vs := [(0, .string ((⟨#[112]⟩ : ByteArray))), (1, .string ((⟨#[113]⟩ : ByteArray))), (2, .string ((⟨#[122]⟩ : ByteArray)))]) [(⟨#[112]⟩ : ByteArray), (⟨#[113]⟩ : ByteArray), (⟨#[122]⟩ : ByteArray)] rfl (fun _ => rfl) (fun _ _ => by repeat constructor) dF ty9 rfl (by decide) (by decide) (by kernel_rfl)) fun a23 c24 => (bdo H1 fun r25 h26 H1 => (f1 (cB (c_spec_l6Rd_of g_v0 (v0.1, r19.2) (x_v0.1, ()) ([(⟨#[112]⟩ : ByteArray), (⟨#[113]⟩ : ByteArray), (⟨#[122]⟩ : ByteArray)] : List ByteArray) (a23, c24) h26) (Solo.box bD) (fun _ => (Solo.box bD)) rfl (.cons dl1 .nil) (aC (aL aR) (aC (bI aB) aO))) fun u27 => (aG (v := .agg #[.string (nth ([(⟨#[97]⟩ : ByteArray), (⟨#[98]⟩ : ByteArray), (⟨#[99]⟩ : ByteArray)] : List ByteArray) Q9.2.2.toNat), .string (r25.1)]) (p_buildS (vs := [(0, .string (nth ([(⟨#[97]⟩ : ByteArray), (⟨#[98]⟩ : ByteArray), (⟨#[99]⟩ : ByteArray)] : List ByteArray) Q9.2.2.toNat)), (1, .string (r25.1))]) (cs := #[.string (nth ([(⟨#[97]⟩ : ByteArray), (⟨#[98]⟩ : ByteArray), (⟨#[99]⟩ : ByteArray)] : List ByteArray) Q9.2.2.toNat), .string (r25.1)]) ty36 pl36 rfl rfl) (f1 (e_lit (vs := [(0, .agg #[.string (nth ([(⟨#[97]⟩ : ByteArray), (⟨#[98]⟩ : ByteArray), (⟨#[99]⟩ : ByteArray)] : List ByteArray) Q9.2.2.toNat), .string (r25.1)])]) [.string (nth ([(⟨#[97]⟩ : ByteArray), (⟨#[98]⟩ : ByteArray), (⟨#[99]⟩ : ByteArray)] : List ByteArray) Q9.2.2.toNat), .string (r25.1)] dG ty36 rfl (by decide) (by decide) (by kernel_rfl)) fun g28 => (gdo H1 fun h31 H1 => ?_)))))))))
    exact f2 (e_app1 (l := Q9.2.1) (α := Tag) ((nth ([(⟨#[97]⟩ : ByteArray), (⟨#[98]⟩ : ByteArray), (⟨#[99]⟩ : ByteArray)] : List ByteArray) Q9.2.2.toNat), r25.1) ((), ()) dG ty36 rfl rfl (h31.b (by decide)) h31.x rfl (cP _) (.cons dl3 (.cons aA .nil))) fun a29 c30 => (aH rfl (aJ (nB (nT (aP (gdo H1 fun h32 H1 => (aG (bO rfl rfl h32) (aF rfl (aJ (nLI (a29, c30) (hi13 _ (sm H1)) (.cons dl1 (.cons aA (.cons dl1 .nil)))))))))))))
   ·exact bE (nB (nT (aP (gdo H1 fun h33 H1 => (aG (bO rfl rfl h33) (aF rfl (aJ (nLI (z10.1, z10.2) (hi13 _ (sm H1)) (.cons aA (.cons aA (.cons aA .nil)))))))))))
  ·refine cR (xT (xT (xE (?_))))
   obtain rfl := hb14 _ (sm H1)
   exact nMC (z10.1, z10.2) ⟨rfl, rfl, trivial⟩ bQ (.cons aA (.cons aA .nil))
 ·intro y11
  show At _ _ [(0, .pointer (some ⟨g_v0, 0, none⟩)), (3, .slice y11.1 x5.2.length y11.2)] _ [box g_v0 56 [.slice x_v0.1.1 v0.1.length x_v0.1.2, .int .i64 (x5.1)], tree (.slice y11.1 x5.2.length y11.2) x5.2] _
  refine nT (aD (sr (aF rfl (aG (bP 36 dG rfl) (aG (cM rfl rfl) (nl (cH H rfl (fun h34 H => ?_) (fun h34 H => ?_))))))))
  ·refine aP (aF rfl (aF rfl (bdo H fun r35 h36 H => (f1 (cB (c_spec_l71Tag g_v0 (v0.1, x5.1) (x_v0.1, ()) h36) (Solo.box bD) (fun _ => (Solo.box bD)) rfl (.cons aA .nil) (aC (aL aR) aO)) fun u37 => (f1 (e_lit (vs := [(0, .agg #[.string (r35.1.1), .string (r35.1.2)])]) [.string (r35.1.1), .string (r35.1.2)] dG ty36 rfl (by decide) (by decide) (by kernel_rfl)) fun g38 => (gdo H fun h41 H => (f2 (e_app1 (l := x5.2) (α := Tag) r35.1 ((), ()) dG ty36 rfl rfl (h41.b (by decide)) h41.x rfl (cP _) (.cons dl2 (.cons aA .nil))) fun a39 c40 => (aH rfl (nl (aD (sr ?_)))))))))))
   refine aF rfl (bdo H fun r42 h43 H => (f1 (cB (c_spec_l6Rd_pick g_v0 (v0.1, r35.2) (x_v0.1, ()) 40 h43) (Solo.box bD) (fun _ => (Solo.box bD)) rfl (.cons dl1 .nil) (aC (aL aR) aO)) fun u44 => (nl (aQ (sr (aG (cM rfl rfl) (aH rfl (nl (cH H rfl (fun h45 H => ?_) (fun h45 H => ?_))))))))))
   ·refine sr (aF rfl (aF rfl (bdo H fun r46 h47 H => (f1 (cB (c_spec_l71Tag g_v0 (v0.1, r42.2) (x_v0.1, ()) h47) (Solo.box bD) (fun _ => (Solo.box bD)) rfl (.cons aA .nil) (aC (aL aR) aO)) fun u48 => (f1 (e_lit (vs := [(0, .agg #[.string (r46.1.1), .string (r46.1.2)])]) [.string (r46.1.1), .string (r46.1.2)] dG ty36 rfl (by decide) (by decide) (by kernel_rfl)) fun g49 => (gdo H fun h52 H => (f2 (e_app1 (l := (x5.2 ++ [r35.1])) (α := Tag) r46.1 ((), ()) dG ty36 rfl rfl (h52.b (by decide)) h52.x rfl (cP _) (.cons dl2 (.cons aA .nil))) fun a50 c51 => (aH rfl (nl (bN ?_))))))))))
    refine rB (rT (?_))
    obtain rfl := si H
    exact back1 (a50, c51) rfl (ResV.tmp (v := .slice a50 (((x5.2 ++ [r35.1]) ++ [r46.1]).length) c51) rfl) rfl cG (.cons aA (.cons aA .nil))
   ·refine sr (aG (cM rfl rfl) (aH rfl (nl (cH H rfl (fun h53 H => ?_) (fun h53 H => ?_)))))
    ·refine gdo H fun h54 H => (Tr.zoom (k := 0) h54.lt (.cons dl1 .nil) fun x55 => ?_)
     show Tr _ _ _ _ _ _ _ (hole (.slice a39 ((x5.2 ++ [r35.1]).length) c40) (x5.2 ++ [r35.1]) 0 [.string ((nth (x5.2 ++ [r35.1]) 0).1), .string ((nth (x5.2 ++ [r35.1]) 0).2)] :: _)
     refine aP (aF rfl (aF rfl (f2 (e_litT (α := ByteArray) (vs := [(0, .string ((⟨#[]⟩ : ByteArray))), (1, .string ((⟨#[111]⟩ : ByteArray))), (2, .string ((⟨#[112, 112]⟩ : ByteArray)))]) [(⟨#[]⟩ : ByteArray), (⟨#[111]⟩ : ByteArray), (⟨#[112, 112]⟩ : ByteArray)] rfl (fun _ => rfl) (fun _ _ => by repeat constructor) dF ty9 rfl (by decide) (by decide) (by kernel_rfl)) fun a56 c57 => (bdo H fun r58 h59 H => (f1 (cB (c_spec_l6Rd_of g_v0 (v0.1, r42.2) (x_v0.1, ()) ([(⟨#[]⟩ : ByteArray), (⟨#[111]⟩ : ByteArray), (⟨#[112, 112]⟩ : ByteArray)] : List ByteArray) (a56, c57) h59) (Solo.box bD) (fun _ => (Solo.box bD)) rfl (.cons dl2 .nil) (aC (aL aR) (aC (bI aB) aO))) fun u60 => (aI (v := elp a39 (0 * Enc.sz Tag + 0)) (q_ixH (k := 0) dG ty36 rfl rfl h54 rfl hs2) (aI (v := elp a39 (0 * Enc.sz Tag + 1)) (q_faH (j := 0) (i := 0) fa36_1 rfl hs2 rfl) (g0 (e_stH (v := .string (r58.1)) (i := 0) (j := 1) (cs' := [.string ((nth (x5.2 ++ [r35.1]) 0).1), .string (r58.1)]) ty9 rfl rfl (.cons dl2 .nil) rfl (by simp [Value.cells, Value.oneCell']) (Nat.le_of_ble_eq_true rfl) rfl rfl) (aJ ?_)))))))))
     refine nB (nT (sr (aF rfl (aH rfl (nl (Tr.unzoom (((nth (x5.2 ++ [r35.1]) 0).1), r58.1) ((), ()) rfl (.cons aA .nil) ?_))))))
     refine Tr.olen aB fun hn => ?_; rw [hn]
     refine bN ?_
     obtain rfl := si H
     exact back1 (a39, c40) rfl (ResV.tmp (v := .slice a39 (((x5.2 ++ [r35.1]).set 0 (((nth (x5.2 ++ [r35.1]) 0).1), r58.1)).length) c40) rfl) rfl cG (.cons aA (.cons aA .nil))
    ·refine bE (nB (nT (sr (aF rfl (aH rfl (nl (bN ?_)))))))
     obtain rfl := si H
     exact back1 (a39, c40) rfl (ResV.tmp (v := .slice a39 ((x5.2 ++ [r35.1]).length) c40) rfl) rfl cG (.cons dl1 (.cons aA .nil))
  ·refine bE (nT (aD (sr (aF rfl (bdo H fun r61 h62 H => (f1 (cB (c_spec_l6Rd_pick g_v0 (v0.1, x5.1) (x_v0.1, ()) 40 h62) (Solo.box bD) (fun _ => (Solo.box bD)) rfl (.cons aA .nil) (aC (aL aR) aO)) fun u63 => (nl (aQ (sr (aG (cM rfl rfl) ?_))))))))))
   refine aH rfl (nl (cH H rfl (fun h64 H => ?_) (fun h64 H => ?_)))
   ·refine sr (aF rfl (aF rfl (bdo H fun r65 h66 H => (f1 (cB (c_spec_l71Tag g_v0 (v0.1, r61.2) (x_v0.1, ()) h66) (Solo.box bD) (fun _ => (Solo.box bD)) rfl (.cons aA .nil) (aC (aL aR) aO)) fun u67 => (f1 (e_lit (vs := [(0, .agg #[.string (r65.1.1), .string (r65.1.2)])]) [.string (r65.1.1), .string (r65.1.2)] dG ty36 rfl (by decide) (by decide) (by kernel_rfl)) fun g68 => (gdo H fun h71 H => (f2 (e_app1 (l := x5.2) (α := Tag) r65.1 ((), ()) dG ty36 rfl rfl (h71.b (by decide)) h71.x rfl (cP _) (.cons dl2 (.cons aA .nil))) fun a69 c70 => (aH rfl (nl (bN ?_))))))))))
    refine rB (rT (?_))
    obtain rfl := si H
    exact back1 (a69, c70) rfl (ResV.tmp (v := .slice a69 ((x5.2 ++ [r65.1]).length) c70) rfl) rfl cG (.cons aA (.cons aA .nil))
   ·refine sr (aG (cM rfl rfl) (aH rfl (nl (cH H rfl (fun h72 H => ?_) (fun h72 H => ?_)))))
    ·refine gdo H fun h73 H => (Tr.zoom (k := 0) h73.lt (.cons dl1 .nil) fun x74 => ?_)
     show Tr _ _ _ _ _ _ _ (hole (.slice y11.1 x5.2.length y11.2) x5.2 0 [.string ((nth x5.2 0).1), .string ((nth x5.2 0).2)] :: _)
     refine aP (aF rfl (aF rfl (f2 (e_litT (α := ByteArray) (vs := [(0, .string ((⟨#[]⟩ : ByteArray))), (1, .string ((⟨#[111]⟩ : ByteArray))), (2, .string ((⟨#[112, 112]⟩ : ByteArray)))]) [(⟨#[]⟩ : ByteArray), (⟨#[111]⟩ : ByteArray), (⟨#[112, 112]⟩ : ByteArray)] rfl (fun _ => rfl) (fun _ _ => by repeat constructor) dF ty9 rfl (by decide) (by decide) (by kernel_rfl)) fun a75 c76 => (bdo H fun r77 h78 H => (f1 (cB (c_spec_l6Rd_of g_v0 (v0.1, r61.2) (x_v0.1, ()) ([(⟨#[]⟩ : ByteArray), (⟨#[111]⟩ : ByteArray), (⟨#[112, 112]⟩ : ByteArray)] : List ByteArray) (a75, c76) h78) (Solo.box bD) (fun _ => (Solo.box bD)) rfl (.cons dl2 .nil) (aC (aL aR) (aC (bI aB) aO))) fun u79 => (aI (v := elp y11.1 (0 * Enc.sz Tag + 0)) (q_ixH (k := 0) dG ty36 rfl rfl h73 rfl hs2) (aI (v := elp y11.1 (0 * Enc.sz Tag + 1)) (q_faH (j := 0) (i := 0) fa36_1 rfl hs2 rfl) (g0 (e_stH (v := .string (r77.1)) (i := 0) (j := 1) (cs' := [.string ((nth x5.2 0).1), .string (r77.1)]) ty9 rfl rfl (.cons dl2 .nil) rfl (one_of rfl) (Nat.le_of_ble_eq_true rfl) rfl rfl) (aJ ?_)))))))))
     refine nB (nT (sr (aF rfl (aH rfl (nl (Tr.unzoom (((nth x5.2 0).1), r77.1) ((), ()) rfl (.cons aA .nil) ?_))))))
     refine Tr.olen aB fun hn => ?_; rw [hn]
     refine bN ?_
     obtain rfl := si H
     exact back1 y11 rfl (ResV.tmp (v := .slice y11.1 ((x5.2.set 0 (((nth x5.2 0).1), r77.1)).length) y11.2) rfl) rfl cG (.cons aA (.cons aA .nil))
    ·refine bE (nB (nT (sr (aF rfl (aH rfl (nl (bN ?_)))))))
     obtain rfl := si H
     exact back1 y11 rfl (ResV.tmp (v := .slice y11.1 x5.2.length y11.2) rfl) rfl cG (.cons dl1 (.cons aA .nil))
noncomputable def p_spec_l3Text_b0 (v0 : (List Tag)) (Q5 : ByteArray × Int) : Option ((ByteArray × Int) ⊕ (ByteArray)) := cond (decide (Q5.2 < (v0.length : Int))) (cond (decide (0 < Q5.2)) (gd (room (Q5.1.size + (⟨#[44]⟩ : ByteArray).size)) <| gd (ix Q5.2 v0.length) <| gd (room ((Q5.1 ++ (⟨#[44]⟩ : ByteArray)).size + ((nth v0 Q5.2.toNat).1).size)) <| gd (room (((Q5.1 ++ (⟨#[44]⟩ : ByteArray)) ++ ((nth v0 Q5.2.toNat).1)).size + (⟨#[61]⟩ : ByteArray).size)) <| gd (room ((((Q5.1 ++ (⟨#[44]⟩ : ByteArray)) ++ ((nth v0 Q5.2.toNat).1)) ++ (⟨#[61]⟩ : ByteArray)).size + ((nth v0 Q5.2.toNat).2).size)) <| gd (I64 (Q5.2 + 1)) <| some (.inl ((((Q5.1 ++ (⟨#[44]⟩ : ByteArray)) ++ ((nth v0 Q5.2.toNat).1)) ++ (⟨#[61]⟩ : ByteArray)) ++ ((nth v0 Q5.2.toNat).2), Q5.2 + 1))) (gd (ix Q5.2 v0.length) <| gd (room (Q5.1.size + ((nth v0 Q5.2.toNat).1).size)) <| gd (room ((Q5.1 ++ ((nth v0 Q5.2.toNat).1)).size + (⟨#[61]⟩ : ByteArray).size)) <| gd (room (((Q5.1 ++ ((nth v0 Q5.2.toNat).1)) ++ (⟨#[61]⟩ : ByteArray)).size + ((nth v0 Q5.2.toNat).2).size)) <| gd (I64 (Q5.2 + 1)) <| some (.inl (((Q5.1 ++ ((nth v0 Q5.2.toNat).1)) ++ (⟨#[61]⟩ : ByteArray)) ++ ((nth v0 Q5.2.toNat).2), Q5.2 + 1)))) (some (.inr Q5.1))
noncomputable def p_spec_l3Text (v0 : (List Tag)) : Option (ByteArray) := bd (lp (p_spec_l3Text_b0 v0) ((⟨#[]⟩ : ByteArray), 0)) fun x1 => some x1
theorem c_spec_l3Text {r : ByteArray} (v0 : (List Tag)) (x_v0 : Option Addr × Nat) (H : p_spec_l3Text v0 = some r) : Fn' prog 19 #[.slice x_v0.1 v0.length x_v0.2] [imm (.slice x_v0.1 v0.length x_v0.2) v0] [] (ι := Unit) (fun _ => .string (r)) (fun _ => []) (fun _ => []) := by
 refine cof (args := [_]) func19 ntmps19 fun c => ?_
 unfold p_spec_l3Text at H
 refine sr (aH (v := .string ((⟨#[]⟩ : ByteArray))) rfl (nl (sr (aH (v := .string ((⟨#[]⟩ : ByteArray))) rfl (nl (aD (sr (aH (v := .int .i64 (0)) rfl (nl (bdo H fun x1 hx2 H => (cS (ι := Unit) (fun ψ => [(3, .string (x1))]) (fun ψ => []) ?_ ?_)))))))))))
 ·refine aQ (cV hx2 () (fun Q5 _ => [(0, .slice x_v0.1 v0.length x_v0.2), (3, .string (Q5.1)), (4, .int .i64 (Q5.2))]) (fun _ _ => []) bH ?_)
  rintro _ Q5 z6 t8 H1 hi9 hb10
  unfold p_spec_l3Text_b0 at H1
  refine aD (sr (aF rfl (aF rfl (aG (bP 36 dG rfl) (aG (cL rfl rfl) (nl (cH H1 rfl (fun h13 H1 => ?_) (fun h13 H1 => ?_))))))))
  ·refine bE (nT (aD (aQ (aD (sr (aF rfl (aG (cN rfl rfl) (nl (cH H1 rfl (fun h14 H1 => ?_) (fun h14 H1 => ?_))))))))))
   ·refine aP (aF rfl (gdo H1 fun h15 H1 => (aG (p_cat rfl rfl h15) (aH rfl (nl (tNwL [(3, .string (Q5.1 ++ (⟨#[44]⟩ : ByteArray))), (0, .slice x_v0.1 v0.length x_v0.2), (4, .int .i64 (Q5.2))] 1 [0, 1, 2, 3, 4, 5, 6, 7, 8, 9, 10, 11, 12, 13] [] [] mixed rfl (by kernel_rfl) (by kernel_rfl) (by decide) cY ⟨rfl, rfl, rfl, trivial⟩ rfl okNil (w_p rfl (aE rfl) (w_p rfl (aE rfl) (w_p rfl (aE rfl) (gdo H1 fun h16 H1 => ?_))))))))))
    refine w_o rfl (fun F => (bT dG ty36 rfl rfl h16 rfl (aN (aL aR)))) ?_
    refine w_o rfl (fun F => (bU (j := 0) Q5.2.toNat fa36_0 rfl (aN (aL aR)) h16.lt rfl)) ?_
    refine w_o rfl (fun F => (bV (i := Q5.2.toNat) (j := 0) ty9 rfl (aN (aL aR)) h16.lt rfl)) (gdo H1 fun h17 H1 => (w_p rfl (p_cat rfl rfl h17) (gdo H1 fun h18 H1 => (w_p rfl (p_cat rfl rfl h18) (w_p rfl (aE rfl) (w_p rfl (aE rfl) ?_))))))
    refine w_o rfl (fun F => (bT dG ty36 rfl rfl h16 rfl (aN (aL aR)))) ?_
    refine w_o rfl (fun F => (bU (j := 0) Q5.2.toNat fa36_1 rfl (aN (aL aR)) h16.lt rfl)) ?_
    refine w_o rfl (fun F => (bV (i := Q5.2.toNat) (j := 1) ty9 rfl (aN (aL aR)) h16.lt rfl)) (gdo H1 fun h19 H1 => (w_p rfl (p_cat rfl rfl h19) (cE ?_)))
    show Rg _ _ _ _ _ _ _ _ _
    exact aH rfl (aJ (nB (nT (aP (aF rfl (gdo H1 fun h20 H1 => (aG (bO rfl rfl h20) (aH rfl (aJ (nLI () (hi9 _ (sm H1)) bH))))))))))
   ·refine bE (nT (tNwL [(0, .slice x_v0.1 v0.length x_v0.2), (3, .string (Q5.1)), (4, .int .i64 (Q5.2))] 1 [0, 1, 2, 3, 4, 5, 6, 7, 8, 9, 10, 11, 12, 13] [] [] mixed rfl (by kernel_rfl) (by kernel_rfl) (by decide) cY ⟨rfl, rfl, rfl, trivial⟩ rfl okNil (w_p rfl (aE rfl) (w_p rfl (aE rfl) (w_p rfl (aE rfl) (gdo H1 fun h21 H1 => ?_))))))
    refine w_o rfl (fun F => (bT dG ty36 rfl rfl h21 rfl (aN (aL aR)))) ?_
    refine w_o rfl (fun F => (bU (j := 0) Q5.2.toNat fa36_0 rfl (aN (aL aR)) h21.lt rfl)) ?_
    refine w_o rfl (fun F => (bV (i := Q5.2.toNat) (j := 0) ty9 rfl (aN (aL aR)) h21.lt rfl)) (gdo H1 fun h22 H1 => (w_p rfl (p_cat rfl rfl h22) (gdo H1 fun h23 H1 => (w_p rfl (p_cat rfl rfl h23) (w_p rfl (aE rfl) (w_p rfl (aE rfl) ?_))))))
    refine w_o rfl (fun F => (bT dG ty36 rfl rfl h21 rfl (aN (aL aR)))) ?_
    refine w_o rfl (fun F => (bU (j := 0) Q5.2.toNat fa36_1 rfl (aN (aL aR)) h21.lt rfl)) ?_
    refine w_o rfl (fun F => (bV (i := Q5.2.toNat) (j := 1) ty9 rfl (aN (aL aR)) h21.lt rfl)) (gdo H1 fun h24 H1 => (w_p rfl (p_cat rfl rfl h24) (cE ?_)))
    show Rg _ _ _ _ _ _ _ _ _
    exact aH rfl (aJ (nB (nT (aP (aF rfl (gdo H1 fun h25 H1 => (aG (bO rfl rfl h25) (aH rfl (aJ (nLI () (hi9 _ (sm H1)) bH))))))))))
  ·refine cR (xT (xT (xE (?_))))
   obtain rfl := hb10 _ (sm H1)
   exact nMC () ⟨rfl, trivial⟩ bQ bH
 ·intro y7
  show At _ _ [(3, .string (x1))] _ [] _
  refine nT (sr (aF rfl (aH rfl (nl ?_))))
  obtain rfl := si H
  exact bN bk
noncomputable def p_spec_l11At_b0 (v0 : Index) (v1 : (List Tag)) (Q8 : Int) : Option ((Int) ⊕ (Unit ⊕ Int)) := cond (decide (Q8 < (v0.1.length : Int))) (gd (ix Q8 v0.1.length) <| bd (p_spec_l3Text (nth v0.1 Q8.toNat)) fun r18 => bd (p_spec_l3Text v1) fun r20 => cond (decide (r18 = r20)) (gd (I64 (Q8 + 1)) <| some (.inr (.inr (Q8 + 1)))) (gd (I64 (Q8 + 1)) <| some (.inl (Q8 + 1)))) (some (.inr (.inl ())))
noncomputable def p_spec_l11At (v0 : Index) (v1 : (List Tag)) : Option (Int) := bd (lp (p_spec_l11At_b0 v0 v1) 0) <| sw (fun _ => some 0) (fun q => some q)
theorem c_spec_l11At {r : Int} (v0 : Index) (x_v0 : (Option Addr × Nat) × (Option Addr × Nat)) (v1 : (List Tag)) (x_v1 : Option Addr × Nat) (H : p_spec_l11At v0 v1 = some r) : Fn' prog 39 #[.agg #[.slice x_v0.1.1 v0.1.length x_v0.1.2, .slice x_v0.2.1 v0.2.length x_v0.2.2], .slice x_v1.1 v1.length x_v1.2] [imm (.slice x_v0.1.1 v0.1.length x_v0.1.2) v0.1, imm (.slice x_v0.2.1 v0.2.length x_v0.2.2) v0.2, imm (.slice x_v1.1 v1.length x_v1.2) v1] [] (ι := Unit) (fun _ => .int .i64 (r)) (fun _ => []) (fun _ => []) := by
 refine cof (args := [_, _]) func39 ntmps39 fun c => ?_
 unfold p_spec_l11At at H
 refine bJ aR fun X1 => (bJ aR.s.s fun X2 => (sr (f1 (bY (t := 26) rfl) fun g3 => (aH (v := .int .i64 (0)) rfl (nl (aD (sr (aH (v := .int .i64 (0)) rfl (nl (bdo H fun x4 hx5 H => (cT (Λ := Unit) H (fun _ _ => []) (fun _ _ => []) ?_ ?_)))))))))))
 ·refine aQ (cV hx5 () (fun Q8 _ => [(1, .slice x_v1.1 v1.length x_v1.2), (2, .pointer (some ⟨g3, 0, none⟩)), (5, .int .i64 (Q8))]) (fun _ _ => [box g3 26 [.slice x_v0.1.1 v0.1.length x_v0.1.2, .slice x_v0.2.1 v0.2.length x_v0.2.2]]) (.cons aA .nil) ?_)
  rintro _ Q8 z9 t11 H1 hi12 hb13
  unfold p_spec_l11At_b0 at H1
  refine aD (sr (aF rfl (aG (bX fa26_0 rfl rfl) (aI (bF ty23 rfl aB rfl) (aG (bP 46 dA rfl) (aG (cL rfl rfl) (nl (cH H1 rfl (fun h16 H1 => ?_) (fun h16 H1 => ?_)))))))))
  ·refine bE (nT (aD (aQ (sr (aG (bX fa26_0 rfl rfl) (aI (bF ty23 rfl aB rfl) (aF rfl (gdo H1 fun h17 H1 => (aI (bT dA ty46 rfl rfl h17 rfl (aL (aT aR.s))) (aI (bV (i := Q8.toNat) (j := 0) ty46 rfl (aL (aT aR.s)) h17.lt rfl) ?_))))))))))
   refine bdo H1 fun r18 h19 H1 => (aI (bK (c_spec_l3Text (nth v0.1 Q8.toNat) ((X1 Q8.toNat).1, (X1 Q8.toNat).2.1) h19) rfl (aC (aL (aS (aU aR.s h17.lt))) aO)) (aF rfl (bdo H1 fun r20 h21 H1 => (aI (bK (c_spec_l3Text v1 x_v1 h21) rfl (aC (aL aR.s.s.s.s) aO)) (aG (p_seql rfl rfl) (nl (cH H1 rfl (fun h22 H1 => ?_) (fun h22 H1 => ?_))))))))
   ·refine sr (aF rfl (gdo H1 fun h23 H1 => (aG (bO rfl rfl h23) (aH rfl (nl (bN (rB (rT (rT (rB (rT (rT (?_)))))))))))))
    obtain rfl := hb13 _ (sm H1)
    replace H := sw.r H
    obtain rfl := si H
    exact bk
   ·exact bE (nB (nT (aP (aF rfl (gdo H1 fun h24 H1 => (aG (bO rfl rfl h24) (aH rfl (aJ (nLI () (hi12 _ (sm H1)) (.cons aA .nil))))))))))
  ·exact cR (xT (xT (xE (nMI () (hb13 _ (sm H1)) bH))))
 ·rintro e25 y10 H
  refine nT (sr (aH (v := .int .i64 (0)) rfl (nl ?_)))
  obtain rfl := si H
  exact bN bk
noncomputable def p_spec_l6In (v0 : Int) (v1 : Int) (v2 : Int) : Option (Bool) := bd (cond (decide (v1 ≤ v0)) (some (decide (v0 ≤ v2))) (some (false))) fun b1 => some b1
theorem c_spec_l6In {r : Bool} (v0 : Int) (v1 : Int) (v2 : Int) (H : p_spec_l6In v0 v1 v2 = some r) : Fn' prog 37 #[.int .i64 (v0), .int .i64 (v1), .int .i64 (v2)] [] [] (ι := Unit) (fun _ => .bool (r)) (fun _ => []) (fun _ => []) := by
 refine cof (args := [_, _, _]) func37 ntmps37 fun c => ?_
 unfold p_spec_l6In at H
 refine sr (aH (v := .bool (false)) rfl (nl (bdo H fun b1 j2 H => (cU [(6, .bool (b1))] ?_ ?_))))
 ·refine cX [(0, .int .i64 (v0)), (1, .int .i64 (v1)), (2, .int .i64 (v2))] ⟨rfl, rfl, rfl, trivial⟩ (aZ rfl (aZ rfl (aV (p_geq rfl rfl) ?_)))
  rcases aK (decide (v1 ≤ v0)) with h3 | h3
  ·have j2 := cdT h3 j2
   refine bA (aE rfl) h3 (aW rfl (aE rfl) (aW rfl (aE rfl) (aW rfl (p_leq rfl rfl) (aV (bM rfl rfl) (aV (p_assign rfl) ?_)))))
   obtain rfl := si j2
   show At _ _ _ _ _ _
   exact n1 ⟨rfl, trivial⟩
  ·have j2 := cdF h3 j2
   refine bA (aE rfl) h3 ?_
   iterate 3 refine bB rfl ?_
   refine aV (v := .bool (false)) (bL rfl rfl) (aV (v := .bool (false)) (p_assign rfl) ?_)
   obtain rfl := si j2
   show At _ _ _ _ _ _
   exact n1 ⟨rfl, trivial⟩
 obtain rfl := si H
 exact bN bk
noncomputable def p_spec_l3Tag (v0 : Tag) : Option (Bool) := bd (cond (decide ((v0.1.size : Int) = 1)) (cond (decide ((v0.2.size : Int) = 1)) (gd (ix 0 v0.1.size) <| bd (p_spec_l6In ((sb v0.1 0).toNat : Int) 97 100) fun r7 => cond (r7) (gd (ix 0 v0.2.size) <| bd (p_spec_l6In ((sb v0.2 0).toNat : Int) 112 122) fun r11 => some (r11)) (some (false))) (some (false))) (some (false))) fun b2 => some b2
theorem c_spec_l3Tag {r : Bool} (v0 : Tag) (H : p_spec_l3Tag v0 = some r) : Fn' prog 35 #[.agg #[.string (v0.1), .string (v0.2)]] [] [] (ι := Unit) (fun _ => .bool (r)) (fun _ => []) (fun _ => []) := by
 refine cof (args := [_]) func35 ntmps35 fun c => ?_
 unfold p_spec_l3Tag at H
 refine sr (f1 (bY (t := 36) rfl) fun g1 => (aH (v := .bool (false)) rfl (nl (bdo H fun b2 j3 H => (cU [(2, .bool (b2))] ?_ ?_)))))
 ·refine cX [(1, .pointer (some ⟨g1, 0, none⟩))] ⟨rfl, trivial⟩ (aV (bX fa36_0 rfl rfl) (aX (bF ty9 rfl aB rfl) (aV (p_slen dI rfl) (aV (cM rfl rfl) ?_))))
  rcases aK (decide ((v0.1.size : Int) = 1)) with h4 | h4
  ·have j3 := cdT h4 j3
   refine bA (aE rfl) h4 (aW rfl (bX fa36_1 rfl rfl) (aY rfl (bF ty9 rfl aB rfl) (aW rfl (p_slen dI rfl) (aW rfl (cM rfl rfl) (aV (bM rfl rfl) ?_)))))
   rcases aK (decide ((v0.2.size : Int) = 1)) with h5 | h5
   ·have j3 := cdT h5 j3
    refine bA (aE rfl) h5 (aW rfl (bX fa36_0 rfl rfl) (aY rfl (bF ty9 rfl aB rfl) (gdo j3 fun h6 j3 => (aW rfl (p_six dI rfl rfl h6) (aW rfl (p_i8 dH dD rfl) (bdo j3 fun r7 h8 j3 => (aY rfl (bK (c_spec_l6In ((sb v0.1 0).toNat : Int) 97 100 h8) rfl aO) (aV (bM rfl rfl) ?_))))))))
    rcases aK (r7) with h9 | h9
    ·have j3 := cdT h9 j3
     refine bA (aE rfl) h9 (aW rfl (bX fa36_1 rfl rfl) (aY rfl (bF ty9 rfl aB rfl) (gdo j3 fun h10 j3 => (aW rfl (p_six dI rfl rfl h10) (aW rfl (p_i8 dH dD rfl) (bdo j3 fun r11 h12 j3 => (aY rfl (bK (c_spec_l6In ((sb v0.2 0).toNat : Int) 112 122 h12) rfl aO) (aV (bM rfl rfl) (aV (p_assign rfl) ?_)))))))))
     obtain rfl := si j3
     show At _ _ _ _ _ _
     exact n1 ⟨rfl, trivial⟩
    ·have j3 := cdF h9 j3
     refine bA (aE rfl) h9 ?_
     iterate 5 refine bB rfl ?_
     refine aV (v := .bool (false)) (bL rfl rfl) (aV (v := .bool (false)) (p_assign rfl) ?_)
     obtain rfl := si j3
     show At _ _ _ _ _ _
     exact n1 ⟨rfl, trivial⟩
   ·have j3 := cdF h5 j3
    refine bA (aE rfl) h5 ?_
    iterate 5 refine bB rfl ?_
    refine aV (v := .bool (false)) (bL rfl rfl) (aZ (v := .bool (false)) rfl ?_)
    iterate 5 refine bB rfl ?_
    refine aV (v := .bool (false)) (bL rfl rfl) (aV (v := .bool (false)) (p_assign rfl) ?_)
    obtain rfl := si j3
    show At _ _ _ _ _ _
    exact n1 ⟨rfl, trivial⟩
  ·have j3 := cdF h4 j3
   refine bA (aE rfl) h4 ?_
   iterate 4 refine bB rfl ?_
   refine aV (v := .bool (false)) (bL rfl rfl) (aZ (v := .bool (false)) rfl ?_)
   iterate 5 refine bB rfl ?_
   refine aV (v := .bool (false)) (bL rfl rfl) (aZ (v := .bool (false)) rfl ?_)
   iterate 5 refine bB rfl ?_
   refine aV (v := .bool (false)) (bL rfl rfl) (aV (v := .bool (false)) (p_assign rfl) ?_)
   obtain rfl := si j3
   show At _ _ _ _ _ _
   exact n1 ⟨rfl, trivial⟩
 obtain rfl := si H
 exact bN bk
noncomputable def p_spec_NameOk_b0 (v0 : (List Tag)) (Q5 : Int) : Option ((Int) ⊕ (Unit ⊕ Bool)) := cond (decide (Q5 < (v0.length : Int))) (bd (gd (ix Q5 v0.length) <| bd (p_spec_l3Tag (nth v0 Q5.toNat)) fun r17 => cond (!r17) (some (true)) (cond (decide (0 < Q5)) (gd (I64 (Q5 - 1)) <| gd (ix (Q5 - 1) v0.length) <| some (!sless ((nth v0 ((Q5 - 1).toNat)).1) ((nth v0 Q5.toNat).1))) (some (false)))) fun b14 => cond (b14) (some (.inr (.inr false))) (gd (I64 (Q5 + 1)) <| some (.inl (Q5 + 1)))) (some (.inr (.inl ())))
noncomputable def p_spec_NameOk (v0 : (List Tag)) : Option (Bool) := bd (lp (p_spec_NameOk_b0 v0) 0) <| sw (fun _ => bd (p_spec_l6In (v0.length : Int) 1 3) fun r26 => some r26) (fun q => some q)
theorem c_spec_NameOk {r : Bool} (v0 : (List Tag)) (x_v0 : Option Addr × Nat) (H : p_spec_NameOk v0 = some r) : Fn' prog 18 #[.slice x_v0.1 v0.length x_v0.2] [imm (.slice x_v0.1 v0.length x_v0.2) v0] [] (ι := Unit) (fun _ => .bool (r)) (fun _ => []) (fun _ => []) := by
 refine cof (args := [_]) func18 ntmps18 fun c => ?_
 unfold p_spec_NameOk at H
 refine sr (aH (v := .bool (false)) rfl (nl (aD (sr (aH (v := .int .i64 (0)) rfl (nl (bdo H fun x1 hx2 H => (cT (Λ := Unit) H (fun _ _ => [(0, .slice x_v0.1 v0.length x_v0.2)]) (fun _ _ => []) ?_ ?_))))))))
 ·refine aQ (cV hx2 () (fun Q5 _ => [(0, .slice x_v0.1 v0.length x_v0.2), (3, .int .i64 (Q5))]) (fun _ _ => []) bH ?_)
  rintro _ Q5 z6 t8 H1 hi9 hb10
  unfold p_spec_NameOk_b0 at H1
  refine aD (sr (aF rfl (aF rfl (aG (bP 36 dG rfl) (aG (cL rfl rfl) (nl (cH H1 rfl (fun h13 H1 => ?_) (fun h13 H1 => ?_))))))))
  ·refine bE (nT (aD (aQ (bdo H1 fun b14 j15 H1 => (cU [(33, .bool (b14)), (0, .slice x_v0.1 v0.length x_v0.2), (3, .int .i64 (Q5))] ?_ ?_)))))
   ·refine cW [(0, .slice x_v0.1 v0.length x_v0.2), (3, .int .i64 (Q5))] mixed (.inr (by kernel_rfl)) ⟨rfl, rfl, trivial⟩ rfl (aZ rfl (aZ rfl (gdo j15 fun h16 j15 => (aX (bT dG ty36 rfl rfl h16 rfl (aN (aL aR))) (aX (v := .agg #[.string ((nth v0 Q5.toNat).1), .string ((nth v0 Q5.toNat).2)]) (bW (i := Q5.toNat) ty36 rfl (aN (aL aR)) h16.lt) (bdo j15 fun r17 h18 j15 => (aX (bK (c_spec_l3Tag (nth v0 Q5.toNat) h18) rfl aO) (aV (cO rfl) ?_))))))))
    rcases aK (!r17) with h19 | h19
    ·have j15 := cdT h19 j15
     refine bA (aE rfl) h19 ?_
     iterate 16 refine bB rfl ?_
     refine aV (v := .bool (true)) (bM rfl rfl) ?_
     obtain rfl := si j15
     show At _ _ _ _ _ _
     exact n1 ⟨rfl, rfl, rfl, trivial⟩
    ·have j15 := cdF h19 j15
     refine bA (aE rfl) h19 (aW rfl (aE rfl) (aW rfl (cN rfl rfl) ?_))
     rcases aK (decide (0 < Q5)) with h20 | h20
     ·have j15 := cdT h20 j15
      refine Lin.f_ rfl (aE rfl) h20 (aW rfl (aE rfl) (aW rfl (aE rfl) (gdo j15 fun h21 j15 => (aW rfl (p_sub rfl rfl h21) (gdo j15 fun h22 j15 => (aY rfl (bT dG ty36 rfl rfl h22 rfl (aN (aL aR))) (aY rfl (bU (j := 0) ((Q5 - 1).toNat) fa36_0 rfl (aN (aL aR)) h22.lt rfl) (aY rfl (bV (i := (Q5 - 1).toNat) (j := 0) ty9 rfl (aN (aL aR)) h22.lt rfl) (aW rfl (aE rfl) ?_)))))))))
      refine aW rfl (aE rfl) (aY rfl (bT dG ty36 rfl rfl h16 rfl (aN (aL aR))) (aY rfl (bU (j := 0) Q5.toNat fa36_0 rfl (aN (aL aR)) h16.lt rfl) (aY rfl (bV (i := Q5.toNat) (j := 0) ty9 rfl (aN (aL aR)) h16.lt rfl) (aW rfl (p_sgeq rfl rfl) (aW rfl (bM rfl rfl) (aV (bL rfl rfl) ?_))))))
      obtain rfl := si j15
      show At _ _ _ _ _ _
      exact n1 ⟨rfl, rfl, rfl, trivial⟩
     ·have j15 := cdF h20 j15
      refine Lin.f_ rfl (aE rfl) h20 ?_
      iterate 12 refine bB rfl ?_
      refine aW (v := .bool (false)) rfl (bL rfl rfl) (aV (v := .bool (false)) (bL rfl rfl) ?_)
      obtain rfl := si j15
      show At _ _ _ _ _ _
      exact n1 ⟨rfl, rfl, rfl, trivial⟩
   refine cH H1 rfl (fun h23 H1 => ?_) (fun h23 H1 => ?_)
   ·refine sr (aH (v := .bool (false)) rfl (nl (bN (rB (rT (rT (rB (rT (rT (?_))))))))))
    obtain rfl := hb10 _ (sm H1)
    replace H := sw.r H
    obtain rfl := si H
    exact bk
   ·exact bE (nB (nT (aP (aF rfl (gdo H1 fun h24 H1 => (aG (bO rfl rfl h24) (aH rfl (aJ (nLI () (hi9 _ (sm H1)) bH)))))))))
  ·exact cR (xT (xT (xE (nMI () (hb10 _ (sm H1)) bH))))
 ·rintro e25 y7 H
  refine nT (sr (aF rfl (aG (bP 36 dG rfl) (bdo H fun r26 h27 H => (aI (bK (c_spec_l6In (v0.length : Int) 1 3 h27) rfl aO) (aH rfl (nl ?_)))))))
  obtain rfl := si H
  exact bN bk
noncomputable def p_spec_l11Names_b0 (v0 : (List (List Tag))) (Q8 : (List (List Tag)) × Int) : Option (((List (List Tag)) × Int) ⊕ ((List (List Tag)))) := cond (decide (Q8.2 < (v0.length : Int))) (gd (ix Q8.2 v0.length) <| gd (room (([] : List Tag).length + (nth v0 Q8.2.toNat).length)) <| gd (room (Q8.1.length + 1)) <| gd (I64 (Q8.2 + 1)) <| some (.inl ((Q8.1 ++ [([] : List Tag) ++ (nth v0 Q8.2.toNat)]), Q8.2 + 1))) (some (.inr Q8.1))
noncomputable def p_spec_l11Names (v0 : (List (List Tag))) : Option ((List (List Tag))) := bd (lp (p_spec_l11Names_b0 v0) (([] : List (List Tag)), 0)) fun x4 => some x4
theorem c_spec_l11Names {r : (List (List Tag))} (v0 : (List (List Tag))) (x_v0 : Option Addr × Nat) (H : p_spec_l11Names v0 = some r) : Fn' prog 41 #[.slice x_v0.1 v0.length x_v0.2] [imm (.slice x_v0.1 v0.length x_v0.2) v0] [] (ι := Option Addr × Nat) (fun x => .slice x.1 r.length x.2) (fun _ => []) (fun x => [tree (.slice x.1 r.length x.2) r]) := by
 refine cof (args := [_]) func41 ntmps41 fun c => ?_
 unfold p_spec_l11Names at H
 refine bJ aR fun X1 => (sr (aH (v := .slice none 0 0) rfl (nl (sr (f2 (e_lit0 (List Tag) dA ty46) fun a2 c3 => (aH rfl (nl (aD (sr (aH (v := .int .i64 (0)) rfl (nl (bdo H fun x4 hx5 H => (cS (ι := Option Addr × Nat) (fun ψ => [(3, .slice ψ.1 x4.length ψ.2)]) (fun ψ => [tree (.slice ψ.1 x4.length ψ.2) x4]) ?_ ?_)))))))))))))
 ·refine aQ (cV hx5 (a2, c3) (fun Q8 z9 => [(0, .slice x_v0.1 v0.length x_v0.2), (3, .slice z9.1 Q8.1.length z9.2), (4, .int .i64 (Q8.2))]) (fun Q8 z9 => [tree (.slice z9.1 Q8.1.length z9.2) Q8.1]) (.cons aA .nil) ?_)
  rintro _ Q8 z9 t11 H1 hi12 hb13
  unfold p_spec_l11Names_b0 at H1
  refine aD (sr (aF rfl (aF rfl (aG (bP 46 dA rfl) (aG (cL rfl rfl) (nl (cH H1 rfl (fun h16 H1 => ?_) (fun h16 H1 => ?_))))))))
  ·refine bE (nT (aD (aQ (aP (aF rfl (f2 (e_lit0 Tag dG ty36) fun a17 c18 => (aF rfl (aF rfl (gdo H1 fun h19 H1 => (aI (bT dA ty46 rfl rfl h19 rfl (aL (aT aR))) ?_))))))))))
   refine aI (bV (i := Q8.2.toNat) (j := 0) ty46 rfl (aL (aT aR)) h19.lt rfl) (gdo H1 fun h22 H1 => (f2 (e_appF (l := ([] : List Tag)) (k := nth v0 Q8.2.toNat) (α := Tag) dG ty36 rfl rfl (h22.b (by decide)) h22.x (.cons aA .nil) (aL (aS (aU aR h19.lt)))) fun a20 c21 => (f1 (e_lit (vs := [(0, .slice a20 ((([] : List Tag) ++ (nth v0 Q8.2.toNat)).length) c21)]) [.slice a20 ((([] : List Tag) ++ (nth v0 Q8.2.toNat)).length) c21] dA ty46 rfl (by decide) (by decide) (by kernel_rfl)) fun g23 => (gdo H1 fun h26 H1 => (f2 (e_app1 (l := Q8.1) (α := (List Tag)) (([] : List Tag) ++ (nth v0 Q8.2.toNat)) (a20, c21) dA ty46 rfl rfl (h26.b (by decide)) h26.x rfl (cP _) (.cons dl2 (.cons aA (.cons aA .nil)))) fun a24 c25 => (aH rfl (aJ (nB (nT (aP (aF rfl ?_)))))))))))
   exact gdo H1 fun h27 H1 => (aG (bO rfl rfl h27) (aH rfl (aJ (nLI (a24, c25) (hi12 _ (sm H1)) (.cons aA .nil)))))
  ·refine cR (xT (xT (xE (?_))))
   obtain rfl := hb13 _ (sm H1)
   exact nMC (z9.1, z9.2) ⟨rfl, trivial⟩ bQ (.cons aA .nil)
 ·intro y10
  show At _ _ [(3, .slice y10.1 x4.length y10.2)] _ [tree (.slice y10.1 x4.length y10.2) x4] _
  refine nT (sr (aF rfl (aH rfl (nl (bN ?_)))))
  obtain rfl := si H
  exact back1 y10 rfl (ResV.tmp (v := .slice y10.1 x4.length y10.2) rfl) rfl cG (.cons aA .nil)
noncomputable def p_spec_l3Has_b0 (v0 : (List Tag)) (v1 : Tag) (Q6 : Int) : Option ((Int) ⊕ (Unit ⊕ Bool)) := cond (decide (Q6 < (v0.length : Int))) (gd (ix Q6 v0.length) <| cond (decide (nth v0 Q6.toNat = v1)) (some (.inr (.inr true))) (gd (I64 (Q6 + 1)) <| some (.inl (Q6 + 1)))) (some (.inr (.inl ())))
noncomputable def p_spec_l3Has (v0 : (List Tag)) (v1 : Tag) : Option (Bool) := bd (lp (p_spec_l3Has_b0 v0 v1) 0) <| sw (fun _ => some false) (fun q => some q)
theorem c_spec_l3Has {r : Bool} (v0 : (List Tag)) (x_v0 : Option Addr × Nat) (v1 : Tag) (H : p_spec_l3Has v0 v1 = some r) : Fn' prog 38 #[.slice x_v0.1 v0.length x_v0.2, .agg #[.string (v1.1), .string (v1.2)]] [imm (.slice x_v0.1 v0.length x_v0.2) v0] [] (ι := Unit) (fun _ => .bool (r)) (fun _ => []) (fun _ => []) := by
 refine cof (args := [_, _]) func38 ntmps38 fun c => ?_
 unfold p_spec_l3Has at H
 refine sr (f1 (bY (t := 36) rfl) fun g1 => (aH (v := .bool (false)) rfl (nl (aD (sr (aH (v := .int .i64 (0)) rfl (nl (bdo H fun x2 hx3 H => (cT (Λ := Unit) H (fun _ _ => []) (fun _ _ => []) ?_ ?_)))))))))
 ·refine aQ (cV hx3 () (fun Q6 _ => [(0, .slice x_v0.1 v0.length x_v0.2), (3, .pointer (some ⟨g1, 0, none⟩)), (5, .int .i64 (Q6))]) (fun _ _ => [box g1 36 [.string (v1.1), .string (v1.2)]]) (.cons aA .nil) ?_)
  rintro _ Q6 z7 t9 H1 hi10 hb11
  unfold p_spec_l3Has_b0 at H1
  refine aD (sr (aF rfl (aF rfl (aG (bP 36 dG rfl) (aG (cL rfl rfl) (nl (cH H1 rfl (fun h14 H1 => ?_) (fun h14 H1 => ?_))))))))
  ·refine bE (nT (aD (aQ (aD (cW [(0, .slice x_v0.1 v0.length x_v0.2), (3, .pointer (some ⟨g1, 0, none⟩)), (5, .int .i64 (Q6))] mixed (.inr (by kernel_rfl)) ⟨rfl, rfl, rfl, trivial⟩ rfl (aZ rfl (aZ rfl (gdo H1 fun h15 H1 => (aX (bT dG ty36 rfl rfl h15 rfl (aN (aL aR))) (aX (v := .agg #[.string ((nth v0 Q6.toNat).1), .string ((nth v0 Q6.toNat).2)]) (bW (i := Q6.toNat) ty36 rfl (aN (aL aR)) h15.lt) ?_))))))))))
   refine aX (bG ty36 rfl aB rfl) (aV (v := .bool (decide (nth v0 Q6.toNat = v1))) (p_aeql (a := nth v0 Q6.toNat) (b := v1) ae36 rfl rfl rfl rfl) (nT (cH H1 rfl (fun h16 H1 => ?_) (fun h16 H1 => ?_))))
   ·refine sr (aH (v := .bool (true)) rfl (nl (bN (rB (rT (rT (rB (rT (rT (?_))))))))))
    obtain rfl := hb11 _ (sm H1)
    replace H := sw.r H
    obtain rfl := si H
    exact bk
   ·exact bE (nB (nT (aP (aF rfl (gdo H1 fun h17 H1 => (aG (bO rfl rfl h17) (aH rfl (aJ (nLI () (hi10 _ (sm H1)) (.cons aA .nil))))))))))
  ·exact cR (xT (xT (xE (nMI () (hb11 _ (sm H1)) bH))))
 ·rintro e18 y8 H
  refine nT (sr (aH (v := .bool (false)) rfl (nl ?_)))
  obtain rfl := si H
  exact bN bk
noncomputable def p_spec_l11Ids_b0 (v0 : (List (List Tag))) (v1 : Tag) (Q9 : (List Int) × Int) : Option (((List Int) × Int) ⊕ ((List Int))) := cond (decide (Q9.2 < (v0.length : Int))) (gd (ix Q9.2 v0.length) <| bd (p_spec_l3Has (nth v0 Q9.2.toNat) v1) fun r19 => cond (r19) (gd (I64 (Q9.2 + 1)) <| gd (room (Q9.1.length + 1)) <| some (.inl ((Q9.1 ++ [Q9.2 + 1]), Q9.2 + 1))) (gd (I64 (Q9.2 + 1)) <| some (.inl (Q9.1, Q9.2 + 1)))) (some (.inr Q9.1))
noncomputable def p_spec_l11Ids (v0 : (List (List Tag))) (v1 : Tag) : Option ((List Int)) := bd (lp (p_spec_l11Ids_b0 v0 v1) (([] : List Int), 0)) fun x5 => some x5
theorem c_spec_l11Ids {r : (List Int)} (v0 : (List (List Tag))) (x_v0 : Option Addr × Nat) (v1 : Tag) (H : p_spec_l11Ids v0 v1 = some r) : Fn' prog 21 #[.slice x_v0.1 v0.length x_v0.2, .agg #[.string (v1.1), .string (v1.2)]] [imm (.slice x_v0.1 v0.length x_v0.2) v0] [] (ι := Option Addr × Nat) (fun x => .slice x.1 r.length x.2) (fun _ => []) (fun x => [tree (.slice x.1 r.length x.2) r]) := by
 refine cof (args := [_, _]) func21 ntmps21 fun c => ?_
 unfold p_spec_l11Ids at H
 refine bJ aR fun X1 => (sr (f1 (bY (t := 36) rfl) fun g2 => (aH (v := .slice none 0 0) rfl (nl (sr (f2 (e_lit0 Int dE ty3) fun a3 c4 => (aH rfl (nl (aD (sr (aH (v := .int .i64 (0)) rfl (nl (bdo H fun x5 hx6 H => ?_)))))))))))))
 refine cS (ι := Option Addr × Nat) (fun ψ => [(5, .slice ψ.1 x5.length ψ.2)]) (fun ψ => [tree (.slice ψ.1 x5.length ψ.2) x5]) ?_ ?_
 ·refine aQ (cV hx6 (a3, c4) (fun Q9 z10 => [(0, .slice x_v0.1 v0.length x_v0.2), (3, .pointer (some ⟨g2, 0, none⟩)), (5, .slice z10.1 Q9.1.length z10.2), (6, .int .i64 (Q9.2))]) (fun Q9 z10 => [box g2 36 [.string (v1.1), .string (v1.2)], tree (.slice z10.1 Q9.1.length z10.2) Q9.1]) (.cons dl1 (.cons aA .nil)) ?_)
  rintro _ Q9 z10 t12 H1 hi13 hb14
  unfold p_spec_l11Ids_b0 at H1
  refine aD (sr (aF rfl (aF rfl (aG (bP 46 dA rfl) (aG (cL rfl rfl) (nl (cH H1 rfl (fun h17 H1 => ?_) (fun h17 H1 => ?_))))))))
  ·refine bE (nT (aD (aQ (aD (cW [(0, .slice x_v0.1 v0.length x_v0.2), (3, .pointer (some ⟨g2, 0, none⟩)), (5, .slice z10.1 Q9.1.length z10.2), (6, .int .i64 (Q9.2))] mixed (.inr (by kernel_rfl)) ⟨rfl, rfl, rfl, rfl, trivial⟩ rfl (aZ rfl (aZ rfl (gdo H1 fun h18 H1 => (aX (bT dA ty46 rfl rfl h18 rfl (aL (aT aR))) (aX (bV (i := Q9.2.toNat) (j := 0) ty46 rfl (aL (aT aR)) h18.lt rfl) ?_))))))))))
   refine aX (bG ty36 rfl aB rfl) (bdo H1 fun r19 h20 H1 => (aX (bK (c_spec_l3Has (nth v0 Q9.2.toNat) ((X1 Q9.2.toNat).1, (X1 Q9.2.toNat).2.1) v1 h20) rfl (aC (aL (aS (aU aR h18.lt))) aO)) (nT (cH H1 rfl (fun h21 H1 => ?_) (fun h21 H1 => ?_)))))
   ·refine aP (aF rfl (aF rfl (gdo H1 fun h22 H1 => (aG (bO rfl rfl h22) (f1 (e_lit (vs := [(0, .int .i64 (Q9.2 + 1))]) [.int .i64 (Q9.2 + 1)] dE ty3 rfl (by decide) (by decide) (by kernel_rfl)) fun g23 => (gdo H1 fun h26 H1 => (f2 (e_app1 (l := Q9.1) (α := Int) (Q9.2 + 1) () dE ty3 rfl rfl (h26.b (by decide)) h26.x rfl (cP _) (.cons dl2 (.cons aA .nil))) fun a24 c25 => (aH rfl (aJ (nB (nT (?_))))))))))))
    exact aP (aF rfl (aG (bO rfl rfl h22) (aH rfl (aJ (nLI (a24, c25) (hi13 _ (sm H1)) (.cons dl1 (.cons aA .nil)))))))
   ·exact bE (nB (nT (aP (aF rfl (gdo H1 fun h27 H1 => (aG (bO rfl rfl h27) (aH rfl (aJ (nLI (z10.1, z10.2) (hi13 _ (sm H1)) (.cons aA (.cons aA .nil)))))))))))
  ·refine cR (xT (xT (xE (?_))))
   obtain rfl := hb14 _ (sm H1)
   exact nMC (z10.1, z10.2) ⟨rfl, trivial⟩ bQ (.cons dl1 .nil)
 ·intro y11
  show At _ _ [(5, .slice y11.1 x5.length y11.2)] _ [tree (.slice y11.1 x5.length y11.2) x5] _
  refine nT (sr (aF rfl (aH rfl (nl (bN ?_)))))
  obtain rfl := si H
  exact back1 y11 rfl (ResV.tmp (v := .slice y11.1 x5.length y11.2) rfl) rfl cG (.cons aA .nil)
noncomputable def p_spec_l11Of_b1 (v0 : (List (List Tag))) (Q9 : (List Post) × Int) (Q22 : (List Post) × Int) : Option (((List Post) × Int) ⊕ ((List Post))) := cond (decide (Q22.2 ≤ 122)) (gd (asc Q9.2) <| gd (asc Q22.2) <| bd (p_spec_l11Ids v0 ((s1 Q9.2), (s1 Q22.2))) fun r34 => cond (decide (0 < (r34.length : Int))) (gd (room (Q22.1.length + 1)) <| gd (I32 (Q22.2 + 1)) <| some (.inl ((Q22.1 ++ [(((s1 Q9.2), (s1 Q22.2)), r34)]), Q22.2 + 1))) (gd (I32 (Q22.2 + 1)) <| some (.inl (Q22.1, Q22.2 + 1)))) (some (.inr Q22.1))
noncomputable def p_spec_l11Of_b0 (v0 : (List (List Tag))) (Q9 : (List Post) × Int) : Option (((List Post) × Int) ⊕ ((List Post))) := cond (decide (Q9.2 ≤ 100)) (bd (lp (p_spec_l11Of_b1 v0 Q9) (Q9.1, 112)) fun x18 => gd (I32 (Q9.2 + 1)) <| some (.inl (x18, Q9.2 + 1))) (some (.inr Q9.1))
noncomputable def p_spec_l11Of (v0 : (List (List Tag))) : Option (Index) := bd (lp (p_spec_l11Of_b0 v0) (([] : List Post), 97)) fun x5 => bd (p_spec_l11Names v0) fun r45 => some (r45, x5)
theorem c_spec_l11Of {r : Index} (v0 : (List (List Tag))) (x_v0 : Option Addr × Nat) (H : p_spec_l11Of v0 = some r) : Fn' prog 40 #[.slice x_v0.1 v0.length x_v0.2] [imm (.slice x_v0.1 v0.length x_v0.2) v0] [] (ι := (Option Addr × Nat) × (Option Addr × Nat)) (fun x => .agg #[.slice x.1.1 r.1.length x.1.2, .slice x.2.1 r.2.length x.2.2]) (fun _ => []) (fun x => [tree (.slice x.1.1 r.1.length x.1.2) r.1, tree (.slice x.2.1 r.2.length x.2.2) r.2]) := by
 refine cof (args := [_]) func40 ntmps40 fun c => ?_
 unfold p_spec_l11Of at H
 refine bJ aR fun X1 => (sr (f1 (bZ ty26) fun g2 => (nl (sr (f2 (e_lit0 Post dB ty52) fun a3 c4 => (aH rfl (nl (aD (sr (aH (v := .int .i32 (97)) rfl (nl (bdo H fun x5 hx6 H => ?_))))))))))))
 refine cS (ι := Option Addr × Nat) (fun ψ => [(0, .slice x_v0.1 v0.length x_v0.2), (2, .pointer (some ⟨g2, 0, none⟩)), (3, .slice ψ.1 x5.length ψ.2)]) (fun ψ => [box g2 26 [.slice none 0 0, .slice none 0 0], tree (.slice ψ.1 x5.length ψ.2) x5]) ?_ ?_
 ·refine aQ (cV hx6 (a3, c4) (fun Q9 z10 => [(0, .slice x_v0.1 v0.length x_v0.2), (2, .pointer (some ⟨g2, 0, none⟩)), (3, .slice z10.1 Q9.1.length z10.2), (4, .int .i32 (Q9.2))]) (fun Q9 z10 => [box g2 26 [.slice none 0 0, .slice none 0 0], tree (.slice z10.1 Q9.1.length z10.2) Q9.1]) (.cons dl1 (.cons aA .nil)) ?_)
  rintro _ Q9 z10 t12 H1 hi13 hb14
  unfold p_spec_l11Of_b0 at H1
  refine aD (sr (aF rfl (aG (p_leq rfl rfl) (nl (cH H1 rfl (fun h17 H1 => ?_) (fun h17 H1 => ?_))))))
  ·refine bE (nT (aD (aQ (sr (aH (v := .int .i32 (112)) rfl (nl (bdo H1 fun x18 hx19 H1 => (cS (ι := Option Addr × Nat) (fun ψ => [(0, .slice x_v0.1 v0.length x_v0.2), (2, .pointer (some ⟨g2, 0, none⟩)), (3, .slice ψ.1 x18.length ψ.2), (4, .int .i32 (Q9.2))]) (fun ψ => [box g2 26 [.slice none 0 0, .slice none 0 0], tree (.slice ψ.1 x18.length ψ.2) x18]) ?_ ?_))))))))
   ·refine aQ (cV hx19 (z10.1, z10.2) (fun Q22 z23 => [(0, .slice x_v0.1 v0.length x_v0.2), (2, .pointer (some ⟨g2, 0, none⟩)), (3, .slice z23.1 Q22.1.length z23.2), (4, .int .i32 (Q9.2)), (5, .int .i32 (Q22.2))]) (fun Q22 z23 => [box g2 26 [.slice none 0 0, .slice none 0 0], tree (.slice z23.1 Q22.1.length z23.2) Q22.1]) (.cons aA (.cons aA .nil)) ?_)
    rintro _ Q22 z23 t25 H2 hi26 hb27
    unfold p_spec_l11Of_b1 at H2
    refine aD (sr (aF rfl (aG (p_leq rfl rfl) (nl (cH H2 rfl (fun h30 H2 => ?_) (fun h30 H2 => ?_))))))
    ·refine bE (nT (aD (aQ (sr (aF rfl (gdo H2 fun h31 H2 => (aG (v := .string (s1 Q9.2)) (p_r2s underlying21 dI rfl h31) (aF rfl (gdo H2 fun h32 H2 => (aG (v := .string (s1 Q22.2)) (p_r2s underlying21 dI rfl h32) ?_))))))))))
     refine aG (v := .agg #[.string (s1 Q9.2), .string (s1 Q22.2)]) (p_buildS (vs := [(0, .string (s1 Q9.2)), (1, .string (s1 Q22.2))]) (cs := #[.string (s1 Q9.2), .string (s1 Q22.2)]) ty36 pl36 rfl rfl) (f1 (bZ ty36) fun g33 => (stb (cs' := [.string (s1 Q9.2), .string (s1 Q22.2)]) ty36 cQ (nl (sr (aF rfl (aI (bG ty36 rfl aB rfl) (bdo H2 fun r34 h35 H2 => (f1 (cA (c_spec_l11Ids v0 x_v0 ((s1 Q9.2), (s1 Q22.2)) h35) (fun _ => (bC bD)) rfl (aC (aL (aS aR)) aO)) fun x36 => (aH rfl (nl ?_))))))))))
     refine sr (aF rfl (aG (bP 3 dE rfl) (aG (cN rfl rfl) (nl (cH H2 rfl (fun h37 H2 => ?_) (fun h37 H2 => ?_))))))
     ·refine aP (aF rfl (aI (bG ty36 rfl hs1 rfl) (aF rfl (aG (v := .agg #[.string (s1 Q9.2), .string (s1 Q22.2), .slice x36.1 r34.length x36.2]) (p_buildS (vs := [(0, .agg #[.string (s1 Q9.2), .string (s1 Q22.2)]), (1, .slice x36.1 r34.length x36.2)]) (cs := #[.string (s1 Q9.2), .string (s1 Q22.2), .slice x36.1 r34.length x36.2]) ty52 pl52 rfl rfl) (f1 (e_lit (vs := [(0, .agg #[.string (s1 Q9.2), .string (s1 Q22.2), .slice x36.1 r34.length x36.2])]) [.string (s1 Q9.2), .string (s1 Q22.2), .slice x36.1 r34.length x36.2] dB ty52 rfl (by decide) (by decide) (by kernel_rfl)) fun g38 => (gdo H2 fun h41 H2 => (f2 (e_app1 (l := Q22.1) (α := Post) (((s1 Q9.2), (s1 Q22.2)), r34) (((), ()), x36) dB ty52 rfl rfl (h41.b (by decide)) h41.x rfl (cP _) (.cons dl4 (.cons aA (.cons aA .nil)))) fun a39 c40 => (aH rfl (aJ (nB (nT (?_))))))))))))
      exact aP (aF rfl (gdo H2 fun h42 H2 => (aG (v := .int .i32 (Q22.2 + 1)) (p_add32 rfl rfl h42) (aH rfl (aJ (nLI (a39, c40) (hi26 _ (sm H2)) (.cons dl2 (.cons aA .nil))))))))
     ·exact bE (nB (nT (aP (aF rfl (gdo H2 fun h43 H2 => (aG (v := .int .i32 (Q22.2 + 1)) (p_add32 rfl rfl h43) (aH rfl (aJ (nLI (z23.1, z23.2) (hi26 _ (sm H2)) (.cons dl2 (.cons dl2 .nil)))))))))))
    ·refine cR (xT (xT (xE (?_))))
     obtain rfl := hb27 _ (sm H2)
     exact nMC (z23.1, z23.2) ⟨rfl, rfl, rfl, rfl, trivial⟩ bQ (.cons aA (.cons aA .nil))
   ·intro y24
    show At _ _ [(0, .slice x_v0.1 v0.length x_v0.2), (2, .pointer (some ⟨g2, 0, none⟩)), (3, .slice y24.1 x18.length y24.2), (4, .int .i32 (Q9.2))] _ [box g2 26 [.slice none 0 0, .slice none 0 0], tree (.slice y24.1 x18.length y24.2) x18] _
    exact nB (nT (aP (aF rfl (gdo H1 fun h44 H1 => (aG (v := .int .i32 (Q9.2 + 1)) (p_add32 rfl rfl h44) (aH rfl (aJ (nLI (y24.1, y24.2) (hi13 _ (sm H1)) (.cons aA (.cons aA .nil))))))))))
  ·refine cR (xT (xT (xE (?_))))
   obtain rfl := hb14 _ (sm H1)
   exact nMC (z10.1, z10.2) ⟨rfl, rfl, rfl, trivial⟩ bQ (.cons aA (.cons aA .nil))
 ·intro y11
  show At _ _ [(0, .slice x_v0.1 v0.length x_v0.2), (2, .pointer (some ⟨g2, 0, none⟩)), (3, .slice y11.1 x5.length y11.2)] _ [box g2 26 [.slice none 0 0, .slice none 0 0], tree (.slice y11.1 x5.length y11.2) x5] _
  refine nT (sr (aF rfl (bdo H fun r45 h46 H => (f1 (cA (c_spec_l11Names v0 x_v0 h46) (fun _ => (bC bD)) rfl (aC (aL (aS aR)) aO)) fun x47 => (aF rfl (aG (v := .agg #[.slice x47.1 r45.length x47.2, .slice y11.1 x5.length y11.2]) (p_buildS (vs := [(0, .slice x47.1 r45.length x47.2), (1, .slice y11.1 x5.length y11.2)]) (cs := #[.slice x47.1 r45.length x47.2, .slice y11.1 x5.length y11.2]) ty26 pl26 rfl rfl) (stb (cs' := [.slice x47.1 r45.length x47.2, .slice y11.1 x5.length y11.2]) ty26 up1 (nl (bN ?_)))))))))
  obtain rfl := si H
  exact back1 (x47, y11) rfl (ResV.agg ty26 rfl hs1 rfl) rfl cG (.cons aA (.cons dl1 .nil))
noncomputable def p_spec_l11Add (v0 : Index) (v1 : (List Tag)) : Option (Index × Int × Bool) := bd (p_spec_l11At v0 v1) fun r3 => cond (decide (0 < r3)) (some (v0, r3, true)) (bd (bd (p_spec_NameOk v1) fun r8 => cond (!r8) (some (true)) (some (decide (6 ≤ (v0.1.length : Int))))) fun b6 => cond (b6) (some (v0, 0, false)) (bd (p_spec_l11Names v0.1) fun r12 => gd (room (([] : List Tag).length + v1.length)) <| gd (room (r12.length + 1)) <| bd (p_spec_l11Of (r12 ++ [([] : List Tag) ++ v1])) fun r24 => some (r24, (r24.1.length : Int), true)))
theorem c_spec_l11Add {r : Index × Int × Bool} (v0 : Index) (x_v0 : (Option Addr × Nat) × (Option Addr × Nat)) (v1 : (List Tag)) (x_v1 : Option Addr × Nat) (H : p_spec_l11Add v0 v1 = some r) : Fn' prog 24 #[.agg #[.slice x_v0.1.1 v0.1.length x_v0.1.2, .slice x_v0.2.1 v0.2.length x_v0.2.2], .slice x_v1.1 v1.length x_v1.2] [imm (.slice x_v1.1 v1.length x_v1.2) v1] [tree (.slice x_v0.1.1 v0.1.length x_v0.1.2) v0.1, tree (.slice x_v0.2.1 v0.2.length x_v0.2.2) v0.2] (ι := ((Option Addr × Nat) × (Option Addr × Nat)) × Unit × Unit) (fun x => .tuple #[.agg #[.slice x.1.1.1 r.1.1.length x.1.1.2, .slice x.1.2.1 r.1.2.length x.1.2.2], .int .i64 (r.2.1), .bool (r.2.2)]) (fun _ => []) (fun x => [tree (.slice x.1.1.1 r.1.1.length x.1.1.2) r.1.1, tree (.slice x.1.2.1 r.1.2.length x.1.2.2) r.1.2]) := by
 refine cof (args := [_, _]) func24 ntmps24 fun c => ?_
 unfold p_spec_l11Add at H
 refine sr (f1 (bY (t := 26) rfl) fun g1 => (f1 (bZ ty26) fun g2 => (aH (v := .int .i64 (0)) rfl (aH (v := .bool (false)) rfl (nl (sr (aI (bG ty26 rfl hs1 rfl) (aF rfl (bdo H fun r3 h4 H => (aI (bK (c_spec_l11At v0 x_v0 v1 x_v1 h4) rfl (aC (bI hs2) (aC (bI hs3) (aC (aL aR) aO)))) ?_))))))))))
 refine aH rfl (nl (aD (sr (aF rfl (aG (cN rfl rfl) (nl (cH H rfl (fun h5 H => ?_) (fun h5 H => ?_))))))))
 ·refine sr (aI (bG ty26 rfl hs1 rfl) (aF rfl (stb (cs' := [.slice x_v0.1.1 v0.1.length x_v0.1.2, .slice x_v0.2.1 v0.2.length x_v0.2.2]) ty26 cQ (aH rfl (aH (v := .bool (true)) rfl (nl (bN (rT (?_)))))))))
  obtain rfl := si H
  exact back3 (x_v0, (), ()) rfl (ResV.agg ty26 rfl aB rfl) (ResV.tmp (v := .int .i64 (r3)) rfl) (ResV.tmp (v := .bool (true)) rfl) rfl cG (.cons dl2 (.cons dl2 .nil))
 ·refine bE (nT (aD (bdo H fun b6 j7 H => (cU [(24, .bool (b6)), (4, .pointer (some ⟨g2, 0, none⟩)), (2, .pointer (some ⟨g1, 0, none⟩)), (1, .slice x_v1.1 v1.length x_v1.2)] ?_ ?_))))
  ·refine cX [(4, .pointer (some ⟨g2, 0, none⟩)), (2, .pointer (some ⟨g1, 0, none⟩)), (1, .slice x_v1.1 v1.length x_v1.2)] ⟨rfl, rfl, rfl, trivial⟩ (aZ rfl (bdo j7 fun r8 h9 j7 => (aX (bK (c_spec_NameOk v1 x_v1 h9) rfl (aC (aL aR) aO)) (aV (cO rfl) ?_))))
   rcases aK (!r8) with h10 | h10
   ·have j7 := cdT h10 j7
    refine bA (aE rfl) h10 ?_
    iterate 4 refine bB rfl ?_
    refine aV (v := .bool (true)) (bM rfl rfl) ?_
    obtain rfl := si j7
    show At _ _ _ _ _ _
    exact n1 ⟨rfl, rfl, rfl, rfl, trivial⟩
   ·have j7 := cdF h10 j7
    refine bA (aE rfl) h10 (aW rfl (bX fa26_0 rfl rfl) (aY rfl (bF ty23 rfl hs1 rfl) (aW rfl (bP 46 dA rfl) (aW rfl (p_geq rfl rfl) (aV (bL rfl rfl) ?_)))))
    obtain rfl := si j7
    show At _ _ _ _ _ _
    exact n1 ⟨rfl, rfl, rfl, rfl, trivial⟩
  refine cH H rfl (fun h11 H => ?_) (fun h11 H => ?_)
  ·refine sr (aI (bG ty26 rfl hs1 rfl) (stb (cs' := [.slice x_v0.1.1 v0.1.length x_v0.1.2, .slice x_v0.2.1 v0.2.length x_v0.2.2]) ty26 cQ (aH (v := .int .i64 (0)) rfl (aH (v := .bool (false)) rfl (nl (bN (rT (?_))))))))
   obtain rfl := si H
   exact back3 (x_v0, (), ()) rfl (ResV.agg ty26 rfl aB rfl) (ResV.tmp (v := .int .i64 (0)) rfl) (ResV.tmp (v := .bool (false)) rfl) rfl cG (.cons dl2 (.cons dl2 .nil))
  ·refine bE (nT (sr (aG (bX fa26_0 rfl rfl) (aI (bF ty23 rfl hs1 rfl) (bdo H fun r12 h13 H => (f1 (cA (c_spec_l11Names v0.1 x_v0.1 h13) (fun _ => (bC bD)) rfl (aC (bI hs2) aO)) fun x14 => (f2 (e_lit0 Tag dG ty36) fun a15 c16 => (aF rfl (gdo H fun h19 H => ?_)))))))))
   refine f2 (e_appF (l := ([] : List Tag)) (k := v1) (α := Tag) dG ty36 rfl rfl (h19.b (by decide)) h19.x (.cons aA .nil) (aL aR)) fun a17 c18 => (f1 (e_lit (vs := [(0, .slice a17 ((([] : List Tag) ++ v1).length) c18)]) [.slice a17 ((([] : List Tag) ++ v1).length) c18] dA ty46 rfl (by decide) (by decide) (by kernel_rfl)) fun g20 => (gdo H fun h23 H => (f2 (e_app1 (l := r12) (α := (List Tag)) (([] : List Tag) ++ v1) (a17, c18) dA ty46 rfl rfl (h23.b (by decide)) h23.x rfl (cP _) (.cons dl2 (.cons aA (.cons aA .nil)))) fun a21 c22 => (bdo H fun r24 h25 H => (f1 (cA (c_spec_l11Of (r12 ++ [([] : List Tag) ++ v1]) (a21, c22) h25) (fun _ => (bC (bC bD))) rfl (aC (bI aB) aO)) fun x26 => (f1 (bZ ty26) fun g27 => (stb (cs' := [.slice x26.1.1 r24.1.length x26.1.2, .slice x26.2.1 r24.2.length x26.2.2]) ty26 cQ (nl (aD ?_)))))))))
   refine tNwS [(8, .pointer (some ⟨g27, 0, none⟩)), (4, .pointer (some ⟨g2, 0, none⟩))] 1 [0, 1, 2, 3, 4, 5, 6] [4] [] mixed (by kernel_rfl) (by decide) cY ⟨rfl, rfl, trivial⟩ rfl okNil ?_
   refine w_o rfl (fun F => (bG ty26 rfl (aB.app F) rfl)) (w_p rfl (bX fa26_0 rfl rfl) ?_)
   refine w_o rfl (fun F => (bF ty23 rfl (aB.app F) rfl)) (w_p rfl (bP 46 dA rfl) (w_en rfl rfl cI rfl (n_store (cs' := [.slice x26.1.1 r24.1.length x26.1.2, .slice x26.2.1 r24.2.length x26.2.2]) ty26 rfl rfl up4 rfl (one_of rfl) (Nat.le_of_ble_eq_true rfl) rfl) ?_))
   rintro _ _ _ ⟨rfl, rfl, rfl⟩
   refine ⟨(bS rfl rfl (fun F => (bF ty23 rfl (aB.app F) rfl)) (aM (by kernel_rfl) bR)), ?_⟩
   refine w_p rfl (p_assign rfl) (w_p (v := .bool (true)) rfl (p_assign rfl) (cE (nT (bN ?_))))
   obtain rfl := si H
   exact back3 (x26, (), ()) rfl (ResV.agg ty26 rfl hs4 rfl) (ResV.tmp (v := .int .i64 ((r24.1.length : Int))) rfl) (ResV.tmp (v := .bool (true)) rfl) rfl cG (.cons dl1 (.cons dl1 .nil))
noncomputable def p_spec_l71Index_b0 (v0 : L6Rd) (Q13 : Int × (List (List Tag)) × (List Post) × Int) : Option ((Int × (List (List Tag)) × (List Post) × Int) ⊕ (Int × (List (List Tag)) × (List Post))) := cond (decide (0 < Q13.2.2.2)) (bd (p_spec_l71Name (v0.1, Q13.1)) fun r22 => bd (p_spec_l11Add (Q13.2.1, Q13.2.2.1) r22.1) fun r25 => gd (I64 (Q13.2.2.2 - 1)) <| some (.inl (r22.2, r25.1.1, r25.1.2, Q13.2.2.2 - 1))) (some (.inr (Q13.1, Q13.2.1, Q13.2.2.1)))
noncomputable def p_spec_l71Index (v0 : L6Rd) : Option (Index × Int) := bd (p_spec_l11New) fun r2 => bd (p_spec_l6Rd_pick v0 9) fun r6 => bd (lp (p_spec_l71Index_b0 v0) (r6.2, r2.1, r2.2, r6.1)) fun x9 => bd (p_spec_l6Rd_pick (v0.1, x9.1) 24) fun r29 => cond (decide (r29.1 = 0)) (bd (p_spec_l71Name (v0.1, r29.2)) fun r33 => gd (room (x9.2.1.length + 1)) <| some (((x9.2.1 ++ [r33.1]), x9.2.2), r33.2)) (cond (decide (r29.1 = 1)) (cond (decide (0 < (x9.2.2.length : Int))) (bd (p_spec_l6Rd_pick (v0.1, r29.2) (x9.2.2.length : Int)) fun r42 => bd (p_spec_l6Rd_pick (v0.1, r42.2) 3) fun r45 => gd (I64 (1 + r45.1)) <| gd (ix r42.1 x9.2.2.length) <| some ((x9.2.1, (x9.2.2.set r42.1.toNat ((nth x9.2.2 r42.1.toNat).1, ([1 + r45.1] : List Int)))), r45.2)) (some (x9.2, r29.2))) (cond (decide (r29.1 = 2)) (cond (decide (0 < (x9.2.2.length : Int))) (gd (sl2 1 (x9.2.2.length : Int) x9.2.2.length) <| some ((x9.2.1, ((x9.2.2.take (x9.2.2.length : Int).toNat).drop 1)), r29.2)) (some (x9.2, r29.2))) (some (x9.2, r29.2))))
theorem c_spec_l71Index {r : Index × Int} (g_v0 : Nat) (v0 : L6Rd) (x_v0 : (Option Addr × Nat) × Unit) (H : p_spec_l71Index v0 = some r) : Fn' prog 11 #[.pointer (some ⟨g_v0, 0, none⟩)] [imm (.slice x_v0.1.1 v0.1.length x_v0.1.2) v0.1] [box g_v0 56 [.slice x_v0.1.1 v0.1.length x_v0.1.2, .int .i64 (v0.2)]] (ι := (Option Addr × Nat) × (Option Addr × Nat)) (fun x => .agg #[.slice x.1.1 r.1.1.length x.1.2, .slice x.2.1 r.1.2.length x.2.2]) (fun x => [imm (.slice x.1.1 r.1.1.length x.1.2) r.1.1]) (fun x => [orow (.slice x.2.1 r.1.2.length x.2.2) r.1.2, box g_v0 56 [.slice x_v0.1.1 v0.1.length x_v0.1.2, .int .i64 (r.2)]]) := by
 refine cof (args := [_]) func11 ntmps11 fun c => ?_
 unfold p_spec_l71Index at H
 refine sr (f1 (bZ ty26) fun g1 => (nl (sr (bdo H fun r2 h3 H => (f1 (cA (c_spec_l11New h3) (fun _ => (bC (bC bD))) rfl aO) fun x4 => (f1 (bZ ty26) fun g5 => (stb (cs' := [.slice x4.1.1 r2.1.length x4.1.2, .slice x4.2.1 r2.2.length x4.2.2]) ty26 cQ (nl (aD (sr ?_))))))))))
 refine aF rfl (bdo H fun r6 h7 H => (f1 (cB (c_spec_l6Rd_pick g_v0 v0 (x_v0.1, ()) 9 h7) (Solo.box bD) (fun _ => (Solo.box bD)) rfl (.cons dl4 .nil) (aC (aL aR) aO)) fun u8 => (aH rfl (nl (bdo H fun x9 hx10 H => (cS (ι := (Option Addr × Nat) × (Option Addr × Nat)) (fun ψ => [(0, .pointer (some ⟨g_v0, 0, none⟩)), (2, .pointer (some ⟨g1, 0, none⟩)), (3, .pointer (some ⟨g5, 0, none⟩))]) (fun ψ => [box g_v0 56 [.slice x_v0.1.1 v0.1.length x_v0.1.2, .int .i64 (x9.1)], box g1 26 [.slice none 0 0, .slice none 0 0], tree (.slice ψ.1.1 x9.2.1.length ψ.1.2) x9.2.1, tree (.slice ψ.2.1 x9.2.2.length ψ.2.2) x9.2.2, box g5 26 [.slice ψ.1.1 x9.2.1.length ψ.1.2, .slice ψ.2.1 x9.2.2.length ψ.2.2]]) ?_ ?_))))))
 ·refine aQ (cV (Λ := ((Option Addr × Nat) × (Option Addr × Nat))) hx10 ((x4.1.1, x4.1.2), (x4.2.1, x4.2.2)) (fun Q13 _ => [(0, .pointer (some ⟨g_v0, 0, none⟩)), (2, .pointer (some ⟨g1, 0, none⟩)), (3, .pointer (some ⟨g5, 0, none⟩)), (4, .int .i64 (Q13.2.2.2))]) (fun Q13 z14 => [box g_v0 56 [.slice x_v0.1.1 v0.1.length x_v0.1.2, .int .i64 (Q13.1)], box g1 26 [.slice none 0 0, .slice none 0 0], tree (.slice z14.1.1 Q13.2.1.length z14.1.2) Q13.2.1, tree (.slice z14.2.1 Q13.2.2.1.length z14.2.2) Q13.2.2.1, box g5 26 [.slice z14.1.1 Q13.2.1.length z14.1.2, .slice z14.2.1 Q13.2.2.1.length z14.2.2]]) (.cons aA (.cons dl3 (.cons dl1 (.cons dl1 (.cons aA .nil))))) ?_)
  rintro _ Q13 z14 t16 H1 hi17 hb18
  unfold p_spec_l71Index_b0 at H1
  refine aD (sr (aF rfl (aG (cN rfl rfl) (nl (cH H1 rfl (fun h21 H1 => ?_) (fun h21 H1 => ?_))))))
  ·refine bE (nT (aD (aQ (tNwS [(0, .pointer (some ⟨g_v0, 0, none⟩)), (2, .pointer (some ⟨g1, 0, none⟩)), (3, .pointer (some ⟨g5, 0, none⟩)), (4, .int .i64 (Q13.2.2.2))] 2 [0, 1, 2, 3, 4, 5, 6, 7, 8] [2, 3, 8] [] mixed (by kernel_rfl) (by decide) cY ⟨rfl, rfl, rfl, rfl, trivial⟩ rfl okNil ?_))))
   refine w_o rfl (fun F => (bG ty26 rfl (hs4.app F) rfl)) (w_p rfl (aE rfl) (bdo H1 fun r22 h23 H1 => (cD rfl (by decide) rfl cI rfl (n_callM (c_spec_l71Name g_v0 (v0.1, Q13.1) (x_v0.1, ()) h23) (Solo.box bD) (fun _ => (bC (Solo.box bD))) rfl (.cons aA .nil) (aC (aL aR) aO)) ?_)))
   rintro _ _ _ ⟨x24, rfl, rfl, rfl⟩
   refine ⟨(bS rfl rfl (fun F => (bG ty26 rfl (hs5.app F) rfl)) bR), ?_⟩
   refine bdo H1 fun r25 h26 H1 => (cD rfl (by decide) rfl cI rfl (n_callM (c_spec_l11Add (Q13.2.1, Q13.2.2.1) z14 r22.1 x24 h26) (bC (bC bD)) (fun _ => (bC (bC bD))) rfl (.cons dl3 (.cons dl3 .nil)) (aC (bI aB) aO)) ?_)
   rintro _ _ _ ⟨x27, rfl, rfl, rfl⟩
   refine ⟨(aM (by kernel_rfl) bR), ?_⟩
   refine w_p rfl (aE rfl) (w_p rfl (p_extract rfl rfl) (w_p rfl (p_extract rfl rfl) (w_p rfl (p_extract rfl rfl) (w_en rfl rfl cI rfl (n_store (cs' := [.slice x27.1.1.1 r25.1.1.length x27.1.1.2, .slice x27.1.2.1 r25.1.2.length x27.1.2.2]) ty26 rfl rfl up5 rfl (one_of rfl) (Nat.le_of_ble_eq_true rfl) rfl) ?_))))
   rintro _ _ _ ⟨rfl, rfl, rfl⟩
   refine ⟨(aM (by kernel_rfl) bR), ?_⟩
   refine cE ?_
   show At _ _ _ _ _ _
   exact nB (nT (aP (aF rfl (gdo H1 fun h28 H1 => (aG (p_sub rfl rfl h28) (aH rfl (aJ (nLI ((x27.1.1.1, x27.1.1.2), (x27.1.2.1, x27.1.2.2)) (hi17 _ (sm H1)) (.cons dl3 (.cons dl3 (.cons aA (.cons aA (.cons dl1 .nil)))))))))))))
  ·refine cR (xT (xT (xE (?_))))
   obtain rfl := hb18 _ (sm H1)
   exact nMC ((z14.1.1, z14.1.2), (z14.2.1, z14.2.2)) ⟨rfl, rfl, rfl, trivial⟩ bQ (.cons aA (.cons aA (.cons aA (.cons aA (.cons aA .nil)))))
 ·intro y15
  show At _ _ [(0, .pointer (some ⟨g_v0, 0, none⟩)), (2, .pointer (some ⟨g1, 0, none⟩)), (3, .pointer (some ⟨g5, 0, none⟩))] _ [box g_v0 56 [.slice x_v0.1.1 v0.1.length x_v0.1.2, .int .i64 (x9.1)], box g1 26 [.slice none 0 0, .slice none 0 0], tree (.slice y15.1.1 x9.2.1.length y15.1.2) x9.2.1, tree (.slice y15.2.1 x9.2.2.length y15.2.2) x9.2.2, box g5 26 [.slice y15.1.1 x9.2.1.length y15.1.2, .slice y15.2.1 x9.2.2.length y15.2.2]] _
  refine nT (aD (sr (aF rfl (bdo H fun r29 h30 H => (f1 (cB (c_spec_l6Rd_pick g_v0 (v0.1, x9.1) (x_v0.1, ()) 24 h30) (Solo.box bD) (fun _ => (Solo.box bD)) rfl (.cons aA .nil) (aC (aL aR) aO)) fun u31 => (nl (aQ (sr (aG (cM rfl rfl) (aH rfl (nl ?_)))))))))))
  refine cH H rfl (fun h32 H => ?_) (fun h32 H => ?_)
  ·refine tNwS [(0, .pointer (some ⟨g_v0, 0, none⟩)), (2, .pointer (some ⟨g1, 0, none⟩)), (3, .pointer (some ⟨g5, 0, none⟩))] 1 [0, 1, 2, 3, 4, 5, 6, 7] [3, 4, 5, 7] [] mixed (by kernel_rfl) (by decide) cY ⟨rfl, rfl, rfl, trivial⟩ rfl okNil (w_p rfl (bX fa26_0 rfl rfl) ?_)
   refine w_o rfl (fun F => (bF ty23 rfl (hs4.app F) rfl)) (w_p rfl (aE rfl) (bdo H fun r33 h34 H => (cD rfl (by decide) rfl cI rfl (n_callM (c_spec_l71Name g_v0 (v0.1, r29.2) (x_v0.1, ()) h34) (Solo.box bD) (fun _ => (bC (Solo.box bD))) rfl (.cons aA .nil) (aC (aL aR) aO)) ?_)))
   rintro _ _ _ ⟨x35, rfl, rfl, rfl⟩
   refine ⟨(bS rfl rfl (fun F => (bF ty23 rfl (hs5.app F) rfl)) bR), ?_⟩
   refine cD rfl (by decide) rfl cI rfl (n_lit (vs := [(0, .slice x35.1 r33.1.length x35.2)]) [.slice x35.1 r33.1.length x35.2] dA ty46 rfl (by decide) (by decide) (by kernel_rfl)) ?_
   rintro _ _ _ ⟨g36, rfl, rfl, rfl⟩
   refine ⟨(bS rfl rfl (fun F => (bF ty23 rfl ((hs5t hs1).app F) rfl)) bR), ?_⟩
   refine gdo H fun h39 H => (cD rfl (by decide) rfl cI rfl (n_app1 (l := x9.2.1) (α := (List Tag)) r33.1 x35 dA ty46 rfl rfl (h39.b (by decide)) h39.x rfl (cP _) (.cons dl4 (.cons aA (.cons aA .nil)))) ?_)
   rintro _ _ _ ⟨a37, c38, rfl, rfl, rfl⟩
   refine ⟨(aM (by kernel_rfl) bR), ?_⟩
   refine w_p rfl (bX fa26_0 rfl rfl) (w_en rfl rfl cI rfl (n_store (cs' := [.slice a37 ((x9.2.1 ++ [r33.1]).length) c38, .slice y15.2.1 x9.2.2.length y15.2.2]) ty23 rfl rfl up4 rfl (by simp [Value.cells, Value.oneCell']) (Nat.le_of_ble_eq_true rfl) rfl) ?_)
   rintro _ _ _ ⟨rfl, rfl, rfl⟩
   refine ⟨(aM (by kernel_rfl) bR), ?_⟩
   refine cE ?_
   show At _ _ _ _ _ _
   refine nB (nT (sr (aI (bG ty26 rfl hs4 rfl) (g0 (e_store (cs' := [.slice a37 ((x9.2.1 ++ [r33.1]).length) c38, .slice y15.2.1 x9.2.2.length y15.2.2]) ty26 rfl rfl up2 rfl (by simp [Value.cells, Value.oneCell']) (Nat.le_of_ble_eq_true rfl) rfl) (nl (Tr.freeze (.cons aA .nil) (Tr.treeO (.cons dl2 .nil) (bN ?_))))))))
   obtain rfl := si H
   exact back1 ((a37, c38), y15.2) rfl (ResV.agg ty26 rfl hs2 rfl) rfl (cF aR cG) (.cons aA (.cons aA .nil))
  ·refine sr (aG (cM rfl rfl) (aH rfl (nl (cH H rfl (fun h40 H => ?_) (fun h40 H => ?_)))))
   ·refine sr (aG (bX fa26_1 rfl rfl) (aI (bF ty24 rfl hs4 rfl) (aG (bP 52 dB rfl) (aG (cN rfl rfl) (nl (cH H rfl (fun h41 H => ?_) (fun h41 H => ?_)))))))
    ·refine tNwS [(0, .pointer (some ⟨g_v0, 0, none⟩)), (2, .pointer (some ⟨g1, 0, none⟩)), (3, .pointer (some ⟨g5, 0, none⟩))] 3 [0, 1, 2, 3, 4, 5, 7, 6, 8, 9, 10, 11, 12, 13] [6, 8, 10, 13] [] mixed (by kernel_rfl) (by decide) cY ⟨rfl, rfl, rfl, trivial⟩ rfl okNil (w_p rfl (bX fa26_1 rfl rfl) ?_)
     refine w_o rfl (fun F => (bF ty24 rfl (hs4.app F) rfl)) (w_p rfl (aE rfl) (w_p rfl (bX fa26_1 rfl rfl) ?_))
     refine w_o rfl (fun F => (bF ty24 rfl (hs4.app F) rfl)) (w_p rfl (bP 52 dB rfl) (w_p rfl (aE rfl) (bdo H fun r42 h43 H => (cD rfl (by decide) rfl cI rfl (n_callM (c_spec_l6Rd_pick g_v0 (v0.1, r29.2) (x_v0.1, ()) (x9.2.2.length : Int) h43) (Solo.box bD) (fun _ => (Solo.box bD)) rfl (.cons aA .nil) (aC (aL aR) aO)) ?_))))
     rintro _ _ _ ⟨u44, rfl, rfl, rfl⟩
     refine ⟨(aM (by kernel_rfl) (bS rfl rfl (fun F => (bF ty24 rfl (hs4.app F) rfl)) bR)), ?_⟩
     refine bdo H fun r45 h46 H => (cD rfl (by decide) rfl cI rfl (n_callM (c_spec_l6Rd_pick g_v0 (v0.1, r42.2) (x_v0.1, ()) 3 h46) (Solo.box bD) (fun _ => (Solo.box bD)) rfl (.cons aA .nil) (aC (aL aR) aO)) ?_)
     rintro _ _ _ ⟨u47, rfl, rfl, rfl⟩
     refine ⟨(aM (by kernel_rfl) (bS rfl rfl (fun F => (bF ty24 rfl (hs4.app F) rfl)) bR)), ?_⟩
     refine gdo H fun h48 H => (w_p rfl (bO rfl rfl h48) (cD rfl (by decide) rfl cI rfl (n_litT (α := Int) (vs := [(0, .int .i64 (1 + r45.1))]) [1 + r45.1] rfl (fun _ => rfl) (fun _ _ => by repeat constructor) dE ty3 rfl (by decide) (by decide) (by kernel_rfl)) ?_))
     rintro _ _ _ ⟨a49, c50, rfl, rfl, rfl⟩
     refine ⟨(bS rfl rfl (fun F => (bF ty24 rfl (hs5.app F) rfl)) (bS rfl rfl (fun F => (bF ty24 rfl (hs5.app F) rfl)) bR)), ?_⟩
     refine gdo H fun h51 H => ?_
     refine w_o rfl (fun F => (q_ixO' dB ty52 rfl rfl h51 (hs4.app F))) ?_
     refine w_o (v := elp y15.2.1 (r42.1.toNat * Enc.sz Post + 2)) rfl (fun F => (q_faT (j := 0) r42.1.toNat fa52_1 rfl (hs4.app F) h51.lt rfl)) (w_en rfl rfl cI rfl (n_setF (l := x9.2.2) (α := Post) (oa := y15.2.1) (j := 2) r42.1.toNat ((nth x9.2.2 r42.1.toNat).1, ([1 + r45.1] : List Int)) (((), ()), (a49, c50)) ty30 rfl rfl h51.lt (.cons dl4 .nil) rfl (by simp [Value.cells, Value.oneCell']) (Nat.le_of_ble_eq_true rfl) (fun _ => rfl) (.cons aA .nil)) ?_)
     rintro _ _ _ ⟨rfl, rfl, rfl⟩
     refine ⟨(aM (by kernel_rfl) (aM (by kernel_rfl) (aM (by kernel_rfl) (aM (by kernel_rfl) bR)))), ?_⟩
     refine cE ?_
     show At _ _ _ _ _ _
     refine nB (nT (aD ?_))
     refine Tr.olen aB fun hn => ?_; rw [hn]
     refine aP (aI (bG ty26 rfl hs4 rfl) (g0 (e_store (cs' := [.slice y15.1.1 x9.2.1.length y15.1.2, .slice y15.2.1 ((x9.2.2.set r42.1.toNat ((nth x9.2.2 r42.1.toNat).1, ([1 + r45.1] : List Int))).length) y15.2.2]) ty26 rfl rfl up2 rfl (by simp [Value.cells, Value.oneCell']) (Nat.le_of_ble_eq_true rfl) rfl) (nl (Tr.freeze (.cons dl3 .nil) (Tr.treeO (.cons aA .nil) (bN ?_))))))
     obtain rfl := si H
     exact back1 y15 rfl (ResV.agg ty26 rfl hs2 rfl) rfl (cF aR cG) (.cons aA (.cons aA .nil))
    ·refine bE (nB (nT (sr (aI (bG ty26 rfl hs4 rfl) (stb (cs' := [.slice y15.1.1 x9.2.1.length y15.1.2, .slice y15.2.1 x9.2.2.length y15.2.2]) ty26 up1 (nl (Tr.freeze (.cons dl2 .nil) (Tr.treeO (.cons dl2 .nil) (bN ?_)))))))))
     obtain rfl := si H
     exact back1 y15 rfl (ResV.agg ty26 rfl hs2 rfl) rfl (cF aR cG) (.cons aA (.cons aA .nil))
   ·refine sr (aG (cM rfl rfl) (aH rfl (nl (cH H rfl (fun h52 H => ?_) (fun h52 H => ?_)))))
    ·refine sr (aG (bX fa26_1 rfl rfl) (aI (bF ty24 rfl hs4 rfl) (aG (bP 52 dB rfl) (aG (cN rfl rfl) (nl (cH H rfl (fun h53 H => ?_) (fun h53 H => ?_)))))))
     ·refine Tr.treeO (.cons dl3 .nil) (aP (aG (bX fa26_1 rfl rfl) (aI (bF ty24 rfl hs4 rfl) (gdo H fun h54 H => (f2 (e_slO (l := x9.2.2) (α := Post) 1 (x9.2.2.length : Int) dB ty52 rfl rfl (fun h => nomatch h) rfl (fun _ => rfl) h54 (.cons aA .nil) aB) fun a55 c56 => (aG (bX fa26_1 rfl rfl) (stb (cs' := [.slice y15.1.1 x9.2.1.length y15.1.2, .slice a55 (((x9.2.2.take (x9.2.2.length : Int).toNat).drop 1).length) c56]) ty24 up4 (aJ (nB (nT (?_)))))))))))
      refine sr (aI (bG ty26 rfl hs4 rfl) (stb (cs' := [.slice y15.1.1 x9.2.1.length y15.1.2, .slice a55 (((x9.2.2.take (x9.2.2.length : Int).toNat).drop 1).length) c56]) ty26 up2 (nl (Tr.freeze (.cons dl3 .nil) (bN ?_)))))
      obtain rfl := si H
      exact back1 (y15.1, (a55, c56)) rfl (ResV.agg ty26 rfl hs2 rfl) rfl (cF aR cG) (.cons aA (.cons aA .nil))
     ·refine bE (nB (nT (sr (aI (bG ty26 rfl hs4 rfl) (stb (cs' := [.slice y15.1.1 x9.2.1.length y15.1.2, .slice y15.2.1 x9.2.2.length y15.2.2]) ty26 up1 (nl (Tr.freeze (.cons dl2 .nil) (Tr.treeO (.cons dl2 .nil) (bN ?_)))))))))
      obtain rfl := si H
      exact back1 y15 rfl (ResV.agg ty26 rfl hs2 rfl) rfl (cF aR cG) (.cons aA (.cons aA .nil))
    ·refine bE (nB (nT (sr (aI (bG ty26 rfl hs4 rfl) (stb (cs' := [.slice y15.1.1 x9.2.1.length y15.1.2, .slice y15.2.1 x9.2.2.length y15.2.2]) ty26 up1 (nl (Tr.freeze (.cons dl2 .nil) (Tr.treeO (.cons dl2 .nil) (bN ?_)))))))))
     obtain rfl := si H
     exact back1 y15 rfl (ResV.agg ty26 rfl hs2 rfl) rfl (cF aR cG) (.cons aA (.cons aA .nil))
noncomputable def p_spec_l71Filter_b0 (v0 : L6Rd) (Q10 : Int × (List Cond) × Int) : Option ((Int × (List Cond) × Int) ⊕ (Int × (List Cond))) := cond (decide (0 < Q10.2.2)) (bd (p_spec_l71Tag (v0.1, Q10.1)) fun r19 => bd (p_spec_l6Rd_pick (v0.1, r19.2) 3) fun r22 => gd (room (Q10.2.1.length + 1)) <| gd (I64 (Q10.2.2 - 1)) <| some (.inl (r22.2, (Q10.2.1 ++ [(r19.1, (decide (r22.1 = 0)))]), Q10.2.2 - 1))) (some (.inr (Q10.1, Q10.2.1)))
noncomputable def p_spec_l71Filter_b1 (v0 : L6Rd) (Q38 : Int × (List Cond)) : Option ((Int × (List Cond)) ⊕ ((List Cond) × Int)) := cond (decide ((Q38.2.length : Int) ≤ 3)) (bd (p_spec_l71Tag (v0.1, Q38.1)) fun r47 => gd (room (Q38.2.length + 1)) <| some (.inl (r47.2, (Q38.2 ++ [(r47.1, false)])))) (some (.inr (Q38.2, Q38.1)))
noncomputable def p_spec_l71Filter (v0 : L6Rd) : Option ((List Cond) × Int) := bd (p_spec_l6Rd_pick v0 3) fun r3 => bd (lp (p_spec_l71Filter_b0 v0) (r3.2, ([] : List Cond), r3.1)) fun x6 => bd (p_spec_l6Rd_pick (v0.1, x6.1) 30) fun r30 => cond (decide (r30.1 = 0)) (bd (lp (p_spec_l71Filter_b1 v0) (r30.2, x6.2)) fun x34 => some (x34.1, x34.2)) (cond (decide (r30.1 = 1)) (gd (room (x6.2.length + 1)) <| some (x6.2 ++ [(((⟨#[101]⟩ : ByteArray), (⟨#[112]⟩ : ByteArray)), false)], r30.2)) (some (x6.2, r30.2)))
theorem c_spec_l71Filter {r : (List Cond) × Int} (g_v0 : Nat) (v0 : L6Rd) (x_v0 : (Option Addr × Nat) × Unit) (H : p_spec_l71Filter v0 = some r) : Fn' prog 12 #[.pointer (some ⟨g_v0, 0, none⟩)] [imm (.slice x_v0.1.1 v0.1.length x_v0.1.2) v0.1] [box g_v0 56 [.slice x_v0.1.1 v0.1.length x_v0.1.2, .int .i64 (v0.2)]] (ι := Option Addr × Nat) (fun x => .slice x.1 r.1.length x.2) (fun _ => []) (fun x => [tree (.slice x.1 r.1.length x.2) r.1, box g_v0 56 [.slice x_v0.1.1 v0.1.length x_v0.1.2, .int .i64 (r.2)]]) := by
 refine cof (args := [_]) func12 ntmps12 fun c => ?_
 unfold p_spec_l71Filter at H
 refine sr (aH (v := .slice none 0 0) rfl (nl (sr (f2 (e_lit0 Cond dC ty38) fun a1 c2 => (aH rfl (nl (aD (sr (aF rfl (bdo H fun r3 h4 H => (f1 (cB (c_spec_l6Rd_pick g_v0 v0 (x_v0.1, ()) 3 h4) (Solo.box bD) (fun _ => (Solo.box bD)) rfl (.cons dl1 .nil) (aC (aL aR) aO)) fun u5 => (aH rfl (nl ?_)))))))))))))
 refine bdo H fun x6 hx7 H => (cS (ι := Option Addr × Nat) (fun ψ => [(0, .pointer (some ⟨g_v0, 0, none⟩)), (3, .slice ψ.1 x6.2.length ψ.2)]) (fun ψ => [box g_v0 56 [.slice x_v0.1.1 v0.1.length x_v0.1.2, .int .i64 (x6.1)], tree (.slice ψ.1 x6.2.length ψ.2) x6.2]) ?_ ?_)
 ·refine aQ (cV hx7 (a1, c2) (fun Q10 z11 => [(0, .pointer (some ⟨g_v0, 0, none⟩)), (3, .slice z11.1 Q10.2.1.length z11.2), (4, .int .i64 (Q10.2.2))]) (fun Q10 z11 => [box g_v0 56 [.slice x_v0.1.1 v0.1.length x_v0.1.2, .int .i64 (Q10.1)], tree (.slice z11.1 Q10.2.1.length z11.2) Q10.2.1]) (.cons aA (.cons aA .nil)) ?_)
  rintro _ Q10 z11 t13 H1 hi14 hb15
  unfold p_spec_l71Filter_b0 at H1
  refine aD (sr (aF rfl (aG (cN rfl rfl) (nl (cH H1 rfl (fun h18 H1 => ?_) (fun h18 H1 => ?_))))))
  ·refine bE (nT (aD (aQ (aP (aF rfl (aF rfl (bdo H1 fun r19 h20 H1 => (f1 (cB (c_spec_l71Tag g_v0 (v0.1, Q10.1) (x_v0.1, ()) h20) (Solo.box bD) (fun _ => (Solo.box bD)) rfl (.cons aA .nil) (aC (aL aR) aO)) fun u21 => (aF rfl (bdo H1 fun r22 h23 H1 => ?_))))))))))
   refine f1 (cB (c_spec_l6Rd_pick g_v0 (v0.1, r19.2) (x_v0.1, ()) 3 h23) (Solo.box bD) (fun _ => (Solo.box bD)) rfl (.cons aA .nil) (aC (aL aR) aO)) fun u24 => (aG (cM rfl rfl) (aG (v := .agg #[.string (r19.1.1), .string (r19.1.2), .bool (decide (r22.1 = 0))]) (p_buildS (vs := [(0, .agg #[.string (r19.1.1), .string (r19.1.2)]), (1, .bool (decide (r22.1 = 0)))]) (cs := #[.string (r19.1.1), .string (r19.1.2), .bool (decide (r22.1 = 0))]) ty38 pl38 rfl rfl) (f1 (e_lit (vs := [(0, .agg #[.string (r19.1.1), .string (r19.1.2), .bool (decide (r22.1 = 0))])]) [.string (r19.1.1), .string (r19.1.2), .bool (decide (r22.1 = 0))] dC ty38 rfl (by decide) (by decide) (by kernel_rfl)) fun g25 => (gdo H1 fun h28 H1 => (f2 (e_app1 (l := Q10.2.1) (α := Cond) (r19.1, (decide (r22.1 = 0))) (((), ()), ()) dC ty38 rfl rfl (h28.b (by decide)) h28.x rfl (cP _) (.cons dl2 (.cons aA .nil))) fun a26 c27 => (aH rfl (aJ (nB (nT (aP (aF rfl ?_)))))))))))
   exact gdo H1 fun h29 H1 => (aG (p_sub rfl rfl h29) (aH rfl (aJ (nLI (a26, c27) (hi14 _ (sm H1)) (.cons dl1 (.cons aA .nil))))))
  ·refine cR (xT (xT (xE (?_))))
   obtain rfl := hb15 _ (sm H1)
   exact nMC (z11.1, z11.2) ⟨rfl, rfl, trivial⟩ bQ (.cons aA (.cons aA .nil))
 ·intro y12
  show At _ _ [(0, .pointer (some ⟨g_v0, 0, none⟩)), (3, .slice y12.1 x6.2.length y12.2)] _ [box g_v0 56 [.slice x_v0.1.1 v0.1.length x_v0.1.2, .int .i64 (x6.1)], tree (.slice y12.1 x6.2.length y12.2) x6.2] _
  refine nT (aD (sr (aF rfl (bdo H fun r30 h31 H => (f1 (cB (c_spec_l6Rd_pick g_v0 (v0.1, x6.1) (x_v0.1, ()) 30 h31) (Solo.box bD) (fun _ => (Solo.box bD)) rfl (.cons aA .nil) (aC (aL aR) aO)) fun u32 => (nl (aQ (sr (aG (cM rfl rfl) (aH rfl (nl ?_)))))))))))
  refine cH H rfl (fun h33 H => ?_) (fun h33 H => ?_)
  ·refine bdo H fun x34 hx35 H => (cS (ι := Option Addr × Nat) (fun ψ => [(3, .slice ψ.1 x34.1.length ψ.2)]) (fun ψ => [tree (.slice ψ.1 x34.1.length ψ.2) x34.1, box g_v0 56 [.slice x_v0.1.1 v0.1.length x_v0.1.2, .int .i64 (x34.2)]]) ?_ ?_)
   ·refine aQ (cV hx35 (y12.1, y12.2) (fun Q38 z39 => [(0, .pointer (some ⟨g_v0, 0, none⟩)), (3, .slice z39.1 Q38.2.length z39.2)]) (fun Q38 z39 => [box g_v0 56 [.slice x_v0.1.1 v0.1.length x_v0.1.2, .int .i64 (Q38.1)], tree (.slice z39.1 Q38.2.length z39.2) Q38.2]) (.cons aA (.cons aA .nil)) ?_)
    rintro _ Q38 z39 t41 H1 hi42 hb43
    unfold p_spec_l71Filter_b1 at H1
    refine aD (sr (aF rfl (aG (bP 38 dC rfl) (aG (p_leq rfl rfl) (nl (cH H1 rfl (fun h46 H1 => ?_) (fun h46 H1 => ?_)))))))
    ·refine bE (nT (aQ (aP (aF rfl (aF rfl (bdo H1 fun r47 h48 H1 => (f1 (cB (c_spec_l71Tag g_v0 (v0.1, Q38.1) (x_v0.1, ()) h48) (Solo.box bD) (fun _ => (Solo.box bD)) rfl (.cons aA .nil) (aC (aL aR) aO)) fun u49 => (aG (v := .agg #[.string (r47.1.1), .string (r47.1.2), .bool (false)]) (p_buildS (vs := [(0, .agg #[.string (r47.1.1), .string (r47.1.2)])]) (cs := #[.string (r47.1.1), .string (r47.1.2), .bool (false)]) ty38 pl38 rfl rfl) (f1 (e_lit (vs := [(0, .agg #[.string (r47.1.1), .string (r47.1.2), .bool (false)])]) [.string (r47.1.1), .string (r47.1.2), .bool (false)] dC ty38 rfl (by decide) (by decide) (by kernel_rfl)) fun g50 => ?_)))))))))
     exact gdo H1 fun h53 H1 => (f2 (e_app1 (l := Q38.2) (α := Cond) (r47.1, false) (((), ()), ()) dC ty38 rfl rfl (h53.b (by decide)) h53.x rfl (cP _) (.cons dl2 (.cons aA .nil))) fun a51 c52 => (aH rfl (aJ (nB (nLI (a51, c52) (hi42 _ (sm H1)) (.cons dl1 (.cons aA .nil)) )))))
    ·refine cR (xT (xT (xE (?_))))
     obtain rfl := hb43 _ (sm H1)
     exact nMC (z39.1, z39.2) ⟨rfl, trivial⟩ bQ (.cons dl1 (.cons aA .nil))
   ·intro y40
    show At _ _ [(3, .slice y40.1 x34.1.length y40.2)] _ [tree (.slice y40.1 x34.1.length y40.2) x34.1, box g_v0 56 [.slice x_v0.1.1 v0.1.length x_v0.1.2, .int .i64 (x34.2)]] _
    refine nB (nT (sr (aF rfl (aH rfl (nl (bN ?_))))))
    obtain rfl := si H
    exact back1 y40 rfl (ResV.tmp (v := .slice y40.1 x34.1.length y40.2) rfl) rfl cG (.cons aA (.cons aA .nil))
  ·refine sr (aG (cM rfl rfl) (aH rfl (nl (cH H rfl (fun h54 H => ?_) (fun h54 H => ?_)))))
   ·refine aP (aF rfl (aG (v := .agg #[.string ((⟨#[101]⟩ : ByteArray)), .string ((⟨#[112]⟩ : ByteArray))]) (p_buildS (vs := [(0, .string ((⟨#[101]⟩ : ByteArray))), (1, .string ((⟨#[112]⟩ : ByteArray)))]) (cs := #[.string ((⟨#[101]⟩ : ByteArray)), .string ((⟨#[112]⟩ : ByteArray))]) ty36 pl36 rfl rfl) (aG (v := .agg #[.string ((⟨#[101]⟩ : ByteArray)), .string ((⟨#[112]⟩ : ByteArray)), .bool (false)]) (p_buildS (vs := [(0, .agg #[.string ((⟨#[101]⟩ : ByteArray)), .string ((⟨#[112]⟩ : ByteArray))])]) (cs := #[.string ((⟨#[101]⟩ : ByteArray)), .string ((⟨#[112]⟩ : ByteArray)), .bool (false)]) ty38 pl38 rfl rfl) (f1 (e_lit (vs := [(0, .agg #[.string ((⟨#[101]⟩ : ByteArray)), .string ((⟨#[112]⟩ : ByteArray)), .bool (false)])]) [.string ((⟨#[101]⟩ : ByteArray)), .string ((⟨#[112]⟩ : ByteArray)), .bool (false)] dC ty38 rfl (by decide) (by decide) (by kernel_rfl)) fun g55 => (gdo H fun h58 H => (f2 (e_app1 (l := x6.2) (α := Cond) (((⟨#[101]⟩ : ByteArray), (⟨#[112]⟩ : ByteArray)), false) (((), ()), ()) dC ty38 rfl rfl (h58.b (by decide)) h58.x rfl (cP _) (.cons dl2 (.cons aA .nil))) fun a56 c57 => (aH rfl (aJ (nB (nT (sr ?_)))))))))))
    refine aF rfl (aH rfl (nl (bN ?_)))
    obtain rfl := si H
    exact back1 (a56, c57) rfl (ResV.tmp (v := .slice a56 ((x6.2 ++ [(((⟨#[101]⟩ : ByteArray), (⟨#[112]⟩ : ByteArray)), false)]).length) c57) rfl) rfl cG (.cons aA (.cons aA .nil))
   ·refine bE (nB (nT (sr (aF rfl (aH rfl (nl (bN ?_)))))))
    obtain rfl := si H
    exact back1 y12 rfl (ResV.tmp (v := .slice y12.1 x6.2.length y12.2) rfl) rfl cG (.cons dl1 (.cons aA .nil))
noncomputable def p_spec_l11Less (v0 : Tag) (v1 : Tag) : Option (Bool) := bd (cond (sless v0.1 v1.1) (some (true)) (cond (decide (v0.1 = v1.1)) (some (sless v0.2 v1.2)) (some (false)))) fun b3 => some b3
theorem c_spec_l11Less {r : Bool} (v0 : Tag) (v1 : Tag) (H : p_spec_l11Less v0 v1 = some r) : Fn' prog 22 #[.agg #[.string (v0.1), .string (v0.2)], .agg #[.string (v1.1), .string (v1.2)]] [] [] (ι := Unit) (fun _ => .bool (r)) (fun _ => []) (fun _ => []) := by
 refine cof (args := [_, _]) func22 ntmps22 fun c => ?_
 unfold p_spec_l11Less at H
 refine sr (f1 (bY (t := 36) rfl) fun g1 => (f1 (bY (t := 36) rfl) fun g2 => (aH (v := .bool (false)) rfl (nl (bdo H fun b3 j4 H => (cU [(4, .bool (b3))] ?_ ?_))))))
 ·refine cX [(3, .pointer (some ⟨g2, 0, none⟩)), (2, .pointer (some ⟨g1, 0, none⟩))] ⟨rfl, rfl, trivial⟩ (aV (bX fa36_0 rfl rfl) (aX (bF ty9 rfl hs1 rfl) (aV (bX fa36_0 rfl rfl) (aX (bF ty9 rfl aB rfl) (aV (p_slss rfl rfl) ?_)))))
  rcases aK (sless v0.1 v1.1) with h5 | h5
  ·have j4 := cdT h5 j4
   refine bA (aE rfl) h5 ?_
   iterate 12 refine bB rfl ?_
   refine aV (v := .bool (true)) (bM rfl rfl) (aV (v := .bool (true)) (p_assign rfl) ?_)
   obtain rfl := si j4
   show At _ _ _ _ _ _
   exact n1 ⟨rfl, trivial⟩
  ·have j4 := cdF h5 j4
   refine bA (aE rfl) h5 (aW rfl (bX fa36_0 rfl rfl) (aY rfl (bF ty9 rfl hs1 rfl) (aW rfl (bX fa36_0 rfl rfl) (aY rfl (bF ty9 rfl aB rfl) (aW rfl (p_seql rfl rfl) ?_)))))
   rcases aK (decide (v0.1 = v1.1)) with h6 | h6
   ·have j4 := cdT h6 j4
    refine Lin.f_ rfl (aE rfl) h6 (aW rfl (bX fa36_1 rfl rfl) (aY rfl (bF ty9 rfl hs1 rfl) (aW rfl (bX fa36_1 rfl rfl) (aY rfl (bF ty9 rfl aB rfl) (aW rfl (p_slss rfl rfl) (aW rfl (bM rfl rfl) (aV (bL rfl rfl) (aV (p_assign rfl) ?_))))))))
    obtain rfl := si j4
    show At _ _ _ _ _ _
    exact n1 ⟨rfl, trivial⟩
   ·have j4 := cdF h6 j4
    refine Lin.f_ rfl (aE rfl) h6 ?_
    iterate 5 refine bB rfl ?_
    refine aW (v := .bool (false)) rfl (bL rfl rfl) (aV (v := .bool (false)) (bL rfl rfl) (aV (v := .bool (false)) (p_assign rfl) ?_))
    obtain rfl := si j4
    show At _ _ _ _ _ _
    exact n1 ⟨rfl, trivial⟩
 obtain rfl := si H
 exact bN bk
noncomputable def p_spec_l11Same_b0 (v0 : (List Int)) (v1 : (List Int)) (Q6 : Int) : Option ((Int) ⊕ (Unit ⊕ Bool)) := cond (decide (Q6 < (v0.length : Int))) (gd (ix Q6 v0.length) <| gd (ix Q6 v1.length) <| cond (!decide ((nth v0 Q6.toNat) = (nth v1 Q6.toNat))) (some (.inr (.inr false))) (gd (I64 (Q6 + 1)) <| some (.inl (Q6 + 1)))) (some (.inr (.inl ())))
noncomputable def p_spec_l11Same (v0 : (List Int)) (v1 : (List Int)) : Option (Bool) := cond (!decide ((v0.length : Int) = (v1.length : Int))) (some false) (bd (lp (p_spec_l11Same_b0 v0 v1) 0) <| sw (fun _ => some true) (fun q => some q))
theorem c_spec_l11Same {r : Bool} (v0 : (List Int)) (x_v0 : Option Addr × Nat) (v1 : (List Int)) (x_v1 : Option Addr × Nat) (H : p_spec_l11Same v0 v1 = some r) : Fn' prog 20 #[.slice x_v0.1 v0.length x_v0.2, .slice x_v1.1 v1.length x_v1.2] [imm (.slice x_v0.1 v0.length x_v0.2) v0, imm (.slice x_v1.1 v1.length x_v1.2) v1] [] (ι := Unit) (fun _ => .bool (r)) (fun _ => []) (fun _ => []) := by
 refine cof (args := [_, _]) func20 ntmps20 fun c => ?_
 unfold p_spec_l11Same at H
 refine sr (aH (v := .bool (false)) rfl (nl (aD (sr (aF rfl (aG (bP 3 dE rfl) (aF rfl (aG (bP 3 dE rfl) (aG (p_neq rfl rfl) (nl (cH H rfl (fun h1 H => ?_) (fun h1 H => ?_))))))))))))
 ·refine sr (aH (v := .bool (false)) rfl (nl (bN (rT (?_)))))
  obtain rfl := si H
  exact bk
 ·refine bE (nT (aD (sr (aH (v := .int .i64 (0)) rfl (nl (bdo H fun x2 hx3 H => (cT (Λ := Unit) H (fun _ _ => []) (fun _ _ => []) ?_ ?_)))))))
  ·refine aQ (cV hx3 () (fun Q6 _ => [(0, .slice x_v0.1 v0.length x_v0.2), (1, .slice x_v1.1 v1.length x_v1.2), (5, .int .i64 (Q6))]) (fun _ _ => []) bH ?_)
   rintro _ Q6 z7 t9 H1 hi10 hb11
   unfold p_spec_l11Same_b0 at H1
   refine aD (sr (aF rfl (aF rfl (aG (bP 3 dE rfl) (aG (cL rfl rfl) (nl (cH H1 rfl (fun h14 H1 => ?_) (fun h14 H1 => ?_))))))))
   ·refine bE (nT (aD (aQ (aD (cW [(0, .slice x_v0.1 v0.length x_v0.2), (1, .slice x_v1.1 v1.length x_v1.2), (5, .int .i64 (Q6))] mixed (.inr (by kernel_rfl)) ⟨rfl, rfl, rfl, trivial⟩ rfl (aZ rfl (aZ rfl (gdo H1 fun h15 H1 => (aX (bT dE ty3 rfl rfl h15 rfl (aN (aL aR))) (aX (bV (i := Q6.toNat) (j := 0) ty3 rfl (aN (aL aR)) h15.lt rfl) ?_))))))))))
    refine aZ rfl (aZ rfl (gdo H1 fun h16 H1 => (aX (bT dE ty3 rfl rfl h16 rfl (aN (aL aR.s))) (aX (bV (i := Q6.toNat) (j := 0) ty3 rfl (aN (aL aR.s)) h16.lt rfl) (aV (p_neq rfl rfl) (nT (cH H1 rfl (fun h17 H1 => ?_) (fun h17 H1 => ?_))))))))
    ·refine sr (aH (v := .bool (false)) rfl (nl (bN (rB (rT (rT (rB (rT (rT (?_))))))))))
     obtain rfl := hb11 _ (sm H1)
     replace H := sw.r H
     obtain rfl := si H
     exact bk
    ·exact bE (nB (nT (aP (aF rfl (gdo H1 fun h18 H1 => (aG (bO rfl rfl h18) (aH rfl (aJ (nLI () (hi10 _ (sm H1)) bH)))))))))
   ·exact cR (xT (xT (xE (nMI () (hb11 _ (sm H1)) bH))))
  ·rintro e19 y8 H
   refine nT (sr (aH (v := .bool (true)) rfl (nl ?_)))
   obtain rfl := si H
   exact bN bk
noncomputable def p_spec_IndexOk_b1 (v0 : Index) (Q9 : Int × Int) (Q26 : Int) : Option ((Int) ⊕ (Unit ⊕ Bool)) := cond (decide (Q26 < Q9.2)) (bd (p_spec_l3Text (nth v0.1 Q9.2.toNat)) fun r35 => gd (ix Q26 v0.1.length) <| bd (p_spec_l3Text (nth v0.1 Q26.toNat)) fun r38 => cond (decide (r35 = r38)) (some (.inr (.inr false))) (gd (I64 (Q26 + 1)) <| some (.inl (Q26 + 1)))) (some (.inr (.inl ())))
noncomputable def p_spec_IndexOk_b0 (v0 : Index) (Q9 : Int × Int) : Option ((Int × Int) ⊕ (Int ⊕ Bool)) := cond (decide (Q9.2 < (v0.1.length : Int))) (gd (ix Q9.2 v0.1.length) <| bd (p_spec_NameOk (nth v0.1 Q9.2.toNat)) fun r19 => cond (!r19) (some (.inr (.inr false))) (bd (lp (p_spec_IndexOk_b1 v0 Q9) 0) <| sw (fun _ => gd (I64 (Q9.1 + ((nth v0.1 Q9.2.toNat).length : Int))) <| gd (I64 (Q9.2 + 1)) <| some (.inl (Q9.1 + ((nth v0.1 Q9.2.toNat).length : Int), Q9.2 + 1))) (fun q => some (.inr (.inr q))))) (some (.inr (.inl Q9.1)))
noncomputable def p_spec_IndexOk_b2 (v0 : Index) (Q50 : Int × Int) : Option ((Int × Int) ⊕ (Int ⊕ Bool)) := cond (decide (Q50.2 < (v0.2.length : Int))) (gd (ix Q50.2 v0.2.length) <| cond (decide ((((nth v0.2 Q50.2.toNat).2).length : Int) = 0)) (some (.inr (.inr false))) (bd (p_spec_l11Ids v0.1 ((nth v0.2 Q50.2.toNat).1)) fun r62 => bd (p_spec_l11Same ((nth v0.2 Q50.2.toNat).2) r62) fun r65 => cond (!r65) (some (.inr (.inr false))) (cond (decide (0 < Q50.2)) (gd (I64 (Q50.2 - 1)) <| gd (ix (Q50.2 - 1) v0.2.length) <| bd (p_spec_l11Less ((nth v0.2 ((Q50.2 - 1).toNat)).1) ((nth v0.2 Q50.2.toNat).1)) fun r71 => cond (!r71) (some (.inr (.inr false))) (gd (I64 (Q50.1 - (((nth v0.2 Q50.2.toNat).2).length : Int))) <| gd (I64 (Q50.2 + 1)) <| some (.inl (Q50.1 - (((nth v0.2 Q50.2.toNat).2).length : Int), Q50.2 + 1)))) (gd (I64 (Q50.1 - (((nth v0.2 Q50.2.toNat).2).length : Int))) <| gd (I64 (Q50.2 + 1)) <| some (.inl (Q50.1 - (((nth v0.2 Q50.2.toNat).2).length : Int), Q50.2 + 1)))))) (some (.inr (.inl Q50.1)))
noncomputable def p_spec_IndexOk (v0 : Index) : Option (Bool) := cond (decide (6 < (v0.1.length : Int))) (some false) (bd (lp (p_spec_IndexOk_b0 v0) (0, 0)) <| sw (fun e45 => bd (lp (p_spec_IndexOk_b2 v0) (e45, 0)) <| sw (fun e78 => some (decide (e78 = 0))) (fun q => some q)) (fun q => some q))
theorem c_spec_IndexOk {r : Bool} (v0 : Index) (x_v0 : (Option Addr × Nat) × (Option Addr × Nat)) (H : p_spec_IndexOk v0 = some r) : Fn' prog 8 #[.agg #[.slice x_v0.1.1 v0.1.length x_v0.1.2, .slice x_v0.2.1 v0.2.length x_v0.2.2]] [imm (.slice x_v0.1.1 v0.1.length x_v0.1.2) v0.1, imm (.slice x_v0.2.1 v0.2.length x_v0.2.2) v0.2] [] (ι := Unit) (fun _ => .bool (r)) (fun _ => []) (fun _ => []) := by
 refine cof (args := [_]) func8 ntmps8 fun c => ?_
 unfold p_spec_IndexOk at H
 refine bJ aR fun X1 => (bJ aR.s.s fun X2 => (sr (f1 (bY (t := 26) rfl) fun g3 => (aH (v := .bool (false)) rfl (nl (aD (sr (aG (bX fa26_0 rfl rfl) (aI (bF ty23 rfl aB rfl) (aG (bP 46 dA rfl) (aG (cN rfl rfl) (nl ?_))))))))))))
 refine cH H rfl (fun h4 H => ?_) (fun h4 H => ?_)
 ·refine sr (aH (v := .bool (false)) rfl (nl (bN (rT (?_)))))
  obtain rfl := si H
  exact bk
 ·refine bE (nT (sr (aH (v := .int .i64 (0)) rfl (nl (aD (sr (aH (v := .int .i64 (0)) rfl (nl (bdo H fun x5 hx6 H => (cT (Λ := Unit) H (fun e45 _ => [(1, .pointer (some ⟨g3, 0, none⟩)), (3, .int .i64 (e45))]) (fun _ _ => [box g3 26 [.slice x_v0.1.1 v0.1.length x_v0.1.2, .slice x_v0.2.1 v0.2.length x_v0.2.2]]) ?_ ?_))))))))))
  ·refine aQ (cV hx6 () (fun Q9 _ => [(1, .pointer (some ⟨g3, 0, none⟩)), (3, .int .i64 (Q9.1)), (4, .int .i64 (Q9.2))]) (fun _ _ => [box g3 26 [.slice x_v0.1.1 v0.1.length x_v0.1.2, .slice x_v0.2.1 v0.2.length x_v0.2.2]]) (.cons aA .nil) ?_)
   rintro _ Q9 z10 t12 H1 hi13 hb14
   unfold p_spec_IndexOk_b0 at H1
   refine aD (sr (aF rfl (aG (bX fa26_0 rfl rfl) (aI (bF ty23 rfl aB rfl) (aG (bP 46 dA rfl) (aG (cL rfl rfl) (nl (cH H1 rfl (fun h17 H1 => ?_) (fun h17 H1 => ?_)))))))))
   ·refine bE (nT (aD (aQ (aD (sr (aG (bX fa26_0 rfl rfl) (aI (bF ty23 rfl aB rfl) (aF rfl (gdo H1 fun h18 H1 => (aI (bT dA ty46 rfl rfl h18 rfl (aL (aT aR.s))) (aI (bV (i := Q9.2.toNat) (j := 0) ty46 rfl (aL (aT aR.s)) h18.lt rfl) ?_)))))))))))
    refine bdo H1 fun r19 h20 H1 => (aI (bK (c_spec_NameOk (nth v0.1 Q9.2.toNat) ((X1 Q9.2.toNat).1, (X1 Q9.2.toNat).2.1) h20) rfl (aC (aL (aS (aU aR.s h18.lt))) aO)) (aG (cO rfl) (nl (cH H1 rfl (fun h21 H1 => ?_) (fun h21 H1 => ?_)))))
    ·refine sr (aH (v := .bool (false)) rfl (nl (bN (rT (rB (rT (rT (rB (rT (rT (?_)))))))))))
     obtain rfl := hb14 _ (sm H1)
     replace H := sw.r H
     obtain rfl := si H
     exact bk
    ·refine bE (nT (aD (sr (aH (v := .int .i64 (0)) rfl (nl (bdo H1 fun x22 hx23 H1 => (cT (Λ := Unit) H1 (fun _ _ => [(1, .pointer (some ⟨g3, 0, none⟩)), (3, .int .i64 (Q9.1)), (4, .int .i64 (Q9.2))]) (fun _ _ => [box g3 26 [.slice x_v0.1.1 v0.1.length x_v0.1.2, .slice x_v0.2.1 v0.2.length x_v0.2.2]]) ?_ ?_)))))))
     ·refine aQ (cV hx23 () (fun Q26 _ => [(1, .pointer (some ⟨g3, 0, none⟩)), (3, .int .i64 (Q9.1)), (4, .int .i64 (Q9.2)), (5, .int .i64 (Q26))]) (fun _ _ => [box g3 26 [.slice x_v0.1.1 v0.1.length x_v0.1.2, .slice x_v0.2.1 v0.2.length x_v0.2.2]]) (.cons aA .nil) ?_)
      rintro _ Q26 z27 t29 H2 hi30 hb31
      unfold p_spec_IndexOk_b1 at H2
      refine aD (sr (aF rfl (aF rfl (aG (cL rfl rfl) (nl (cH H2 rfl (fun h34 H2 => ?_) (fun h34 H2 => ?_)))))))
      ·refine bE (nT (aD (aQ (aD (cW [(1, .pointer (some ⟨g3, 0, none⟩)), (3, .int .i64 (Q9.1)), (4, .int .i64 (Q9.2)), (5, .int .i64 (Q26))] mixed (.inr (by kernel_rfl)) ⟨rfl, rfl, rfl, rfl, trivial⟩ rfl (aV (bX fa26_0 rfl rfl) (aX (bF ty23 rfl aB rfl) (aZ rfl (aX (bT dA ty46 rfl rfl h18 rfl (aL (aT aR.s))) (aX (bV (i := Q9.2.toNat) (j := 0) ty46 rfl (aL (aT aR.s)) h18.lt rfl) ?_))))))))))
       refine bdo H2 fun r35 h36 H2 => (aX (bK (c_spec_l3Text (nth v0.1 Q9.2.toNat) ((X1 Q9.2.toNat).1, (X1 Q9.2.toNat).2.1) h36) rfl (aC (aL (aS (aU aR.s h18.lt))) aO)) (aV (bX fa26_0 rfl rfl) (aX (bF ty23 rfl aB rfl) (aZ rfl (gdo H2 fun h37 H2 => (aX (bT dA ty46 rfl rfl h37 rfl (aL (aT aR.s))) (aX (bV (i := Q26.toNat) (j := 0) ty46 rfl (aL (aT aR.s)) h37.lt rfl) (bdo H2 fun r38 h39 H2 => (aX (bK (c_spec_l3Text (nth v0.1 Q26.toNat) ((X1 Q26.toNat).1, (X1 Q26.toNat).2.1) h39) rfl (aC (aL (aS (aU aR.s h37.lt))) aO)) ?_)))))))))
       refine aV (p_seql rfl rfl) (nT (cH H2 rfl (fun h40 H2 => ?_) (fun h40 H2 => ?_)))
       ·refine sr (aH (v := .bool (false)) rfl (nl (bN (rB (rT (rT (rB (rT (rT (rB (rT (rT (rB (rT (rT (?_))))))))))))))))
        obtain rfl := hb31 _ (sm H2)
        replace H1 := sw.r H1
        obtain rfl := hb14 _ (sm H1)
        replace H := sw.r H
        obtain rfl := si H
        exact bk
       ·exact bE (nB (nT (aP (aF rfl (gdo H2 fun h41 H2 => (aG (bO rfl rfl h41) (aH rfl (aJ (nLI () (hi30 _ (sm H2)) (.cons aA .nil))))))))))
      ·exact cR (xT (xT (xE (nMI () (hb31 _ (sm H2)) (.cons aA .nil)))))
     ·rintro e42 y28 H1
      refine nT (aP (aF rfl (aG (bX fa26_0 rfl rfl) (aI (bF ty23 rfl aB rfl) (aF rfl (aI (bT dA ty46 rfl rfl h18 rfl (aL (aT aR.s))) (aI (bV (i := Q9.2.toNat) (j := 0) ty46 rfl (aL (aT aR.s)) h18.lt rfl) (aG (bP 36 dG rfl) (gdo H1 fun h43 H1 => ?_)))))))))
      exact aG (bO rfl rfl h43) (aH rfl (aJ (nB (nT (aP (aF rfl (gdo H1 fun h44 H1 => (aG (bO rfl rfl h44) (aH rfl (aJ (nLI () (hi13 _ (sm H1)) (.cons aA .nil))))))))))))
   ·exact cR (xT (xT (xE (nMI () (hb14 _ (sm H1)) (.cons aA .nil)))))
  ·rintro e45 y11 H
   refine nT (aD (sr (aH (v := .int .i64 (0)) rfl (nl (bdo H fun x46 hx47 H => (cT (Λ := Unit) H (fun e78 _ => [(3, .int .i64 (e78))]) (fun _ _ => []) ?_ ?_))))))
   ·refine aQ (cV hx47 () (fun Q50 _ => [(1, .pointer (some ⟨g3, 0, none⟩)), (3, .int .i64 (Q50.1)), (6, .int .i64 (Q50.2))]) (fun _ _ => [box g3 26 [.slice x_v0.1.1 v0.1.length x_v0.1.2, .slice x_v0.2.1 v0.2.length x_v0.2.2]]) (.cons aA .nil) ?_)
    rintro _ Q50 z51 t53 H1 hi54 hb55
    unfold p_spec_IndexOk_b2 at H1
    refine aD (sr (aF rfl (aG (bX fa26_1 rfl rfl) (aI (bF ty24 rfl aB rfl) (aG (bP 52 dB rfl) (aG (cL rfl rfl) (nl (cH H1 rfl (fun h58 H1 => ?_) (fun h58 H1 => ?_)))))))))
    ·refine bE (nT (aD (aQ (sr (aG (bX fa26_1 rfl rfl) (aI (bF ty24 rfl aB rfl) (aF rfl (gdo H1 fun h59 H1 => (aI (bT dB ty52 rfl rfl h59 rfl (aL (aT aR))) (aI (v := .agg #[.string (((nth v0.2 Q50.2.toNat).1).1), .string (((nth v0.2 Q50.2.toNat).1).2), .slice (((X2 Q50.2.toNat).2).1) (((nth v0.2 Q50.2.toNat).2).length) (((X2 Q50.2.toNat).2).2.1)]) (bW (i := Q50.2.toNat) ty52 rfl (aL (aT aR)) h59.lt) ?_))))))))))
     refine f1 (bZ ty52) fun g60 => (stb (cs' := [.string (((nth v0.2 Q50.2.toNat).1).1), .string (((nth v0.2 Q50.2.toNat).1).2), .slice (((X2 Q50.2.toNat).2).1) (((nth v0.2 Q50.2.toNat).2).length) (((X2 Q50.2.toNat).2).2.1)]) ty52 cQ (nl (aD (aD ?_))))
     rcases aK (decide ((((nth v0.2 Q50.2.toNat).2).length : Int) = 0)) with h61 | h61
     ·have H1 := cdT h61 H1
      refine tNwS [(7, .pointer (some ⟨g60, 0, none⟩)), (1, .pointer (some ⟨g3, 0, none⟩)), (3, .int .i64 (Q50.1)), (6, .int .i64 (Q50.2))] 1 [0, 1, 2, 3, 4, 5, 6, 7, 8, 9, 10, 11, 12, 13, 14, 15, 16, 17, 18, 19, 20, 21, 22, 23, 24, 25, 26, 27, 28, 29, 30, 31] [] [] mixed (by kernel_rfl) (by decide) cY ⟨rfl, rfl, rfl, rfl, trivial⟩ rfl okNil (w_p rfl (bX fa52_1 rfl rfl) ?_)
      refine w_o rfl (fun F => (bF ty30 rfl (aB.app F) rfl)) (w_p rfl (bP 3 dE rfl) (w_p rfl (cM rfl rfl) (w_p (v := .bool (true)) rfl ((cK (v := .bool (decide ((((nth v0.2 Q50.2.toNat).2).length : Int) = 0))) (aE rfl) (congrArg Value.bool h61))) (cC rfl (by decide) rfl rfl rfl (cC rfl (by decide) rfl rfl rfl (cC rfl (by decide) rfl rfl rfl (cC rfl (by decide) rfl rfl rfl (cC rfl (by decide) rfl rfl rfl (cC rfl (by decide) rfl rfl rfl ?_)))))))))
      refine cC rfl (by decide) rfl rfl rfl (cC rfl (by decide) rfl rfl rfl (cC rfl (by decide) rfl rfl rfl (w_p (v := .bool (true)) rfl (bM rfl rfl) (w_p (v := .bool (true)) rfl (aE rfl) (cC rfl (by decide) rfl rfl rfl (cC rfl (by decide) rfl rfl rfl (cC rfl (by decide) rfl rfl rfl (cC rfl (by decide) rfl rfl rfl (cC rfl (by decide) rfl rfl rfl ?_)))))))))
      refine cC rfl (by decide) rfl rfl rfl (cC rfl (by decide) rfl rfl rfl (cC rfl (by decide) rfl rfl rfl (cC rfl (by decide) rfl rfl rfl (cC rfl (by decide) rfl rfl rfl (cC rfl (by decide) rfl rfl rfl (cC rfl (by decide) rfl rfl rfl (cC rfl (by decide) rfl rfl rfl (cC rfl (by decide) rfl rfl rfl (cC rfl (by decide) rfl rfl rfl ?_)))))))))
      refine w_p (v := .bool (true)) rfl (bM rfl rfl) (cE (nT (Tr.condT rfl (sr (aH (v := .bool (false)) rfl (nl (bN (rT (rB (rT (rT (rB (rT (rT (?_)))))))))))))))
      obtain rfl := hb55 _ (sm H1)
      replace H := sw.r H
      obtain rfl := si H
      exact bk
     ·have H1 := cdF h61 H1
      refine tNwS [(7, .pointer (some ⟨g60, 0, none⟩)), (1, .pointer (some ⟨g3, 0, none⟩)), (3, .int .i64 (Q50.1)), (6, .int .i64 (Q50.2))] 4 [0, 1, 2, 3, 4, 5, 6, 7, 8, 9, 10, 11, 12, 13, 14, 15, 16, 17, 18, 19, 20, 21, 22, 23, 24, 25, 26, 27, 28, 29, 30, 31] [11] [] mixed (by kernel_rfl) (by decide) cY ⟨rfl, rfl, rfl, rfl, trivial⟩ rfl okNil (w_p rfl (bX fa52_1 rfl rfl) ?_)
      refine w_o rfl (fun F => (bF ty30 rfl (aB.app F) rfl)) (w_p rfl (bP 3 dE rfl) (w_p rfl (cM rfl rfl) (w_p (v := .bool (false)) rfl ((cK (v := .bool (decide ((((nth v0.2 Q50.2.toNat).2).length : Int) = 0))) (aE rfl) (congrArg Value.bool h61))) (w_p rfl (bX fa52_1 rfl rfl) ?_))))
      refine w_o rfl (fun F => (bF ty30 rfl (aB.app F) rfl)) (w_p rfl (bX fa26_0 rfl rfl) ?_)
      refine w_o rfl (fun F => (bF ty23 rfl (hs1.app F) rfl)) (w_p rfl (bX fa52_0 rfl rfl) ?_)
      refine w_o (v := .agg #[.string (((nth v0.2 Q50.2.toNat).1).1), .string (((nth v0.2 Q50.2.toNat).1).2)]) rfl (fun F => (q_ldbP [.string (((nth v0.2 Q50.2.toNat).1).1), .string (((nth v0.2 Q50.2.toNat).1).2)] ty36 rfl (aB.app F) rfl rfl)) (bdo H1 fun r62 h63 H1 => (cD rfl (by decide) rfl cI rfl (n_callB (c_spec_l11Ids v0.1 x_v0.1 ((nth v0.2 Q50.2.toNat).1) h63) (fun _ => (bC bD)) rfl (aC (aL (aS aR.s)) aO)) ?_))
      rintro _ _ _ ⟨x64, rfl, rfl, rfl⟩
      refine ⟨(aM (by kernel_rfl) (aM (by kernel_rfl) (bS rfl rfl (fun F => (bF ty30 rfl (hs1.app F) rfl)) (aM (by kernel_rfl) bR)))), ?_⟩
      refine bdo H1 fun r65 h66 H1 => ?_
      refine w_o rfl (fun F => (bK (c_spec_l11Same ((nth v0.2 Q50.2.toNat).2) (((X2 Q50.2.toNat).2).1, ((X2 Q50.2.toNat).2).2.1) r62 x64 h66) rfl (aC (aL (aS (Ent.dsnd (aU aR h59.lt)))) (aC (bI (aB.app F)) aO)))) (w_p rfl (cO rfl) (w_p rfl (bL rfl rfl) ?_))
      rcases aK (!r65) with h67 | h67
      ·have H1 := cdT h67 H1
       refine w_p (v := .bool (true)) rfl ((cK (v := .bool (!r65)) (aE rfl) (congrArg Value.bool h67))) (cC rfl (by decide) rfl rfl rfl (cC rfl (by decide) rfl rfl rfl (cC rfl (by decide) rfl rfl rfl (cC rfl (by decide) rfl rfl rfl (cC rfl (by decide) rfl rfl rfl (cC rfl (by decide) rfl rfl rfl (cC rfl (by decide) rfl rfl rfl (cC rfl (by decide) rfl rfl rfl (cC rfl (by decide) rfl rfl rfl ?_)))))))))
       refine cC rfl (by decide) rfl rfl rfl (cC rfl (by decide) rfl rfl rfl (cC rfl (by decide) rfl rfl rfl (cC rfl (by decide) rfl rfl rfl (cC rfl (by decide) rfl rfl rfl (cC rfl (by decide) rfl rfl rfl (w_p (v := .bool (true)) rfl (bM rfl rfl) (cE (nT (Tr.condT rfl ?_)))))))))
       refine sr (aH (v := .bool (false)) rfl (nl (bN (rT (rB (rT (rT (rB (rT (rT (?_)))))))))))
       obtain rfl := hb55 _ (sm H1)
       replace H := sw.r H
       obtain rfl := si H
       exact bk
      ·have H1 := cdF h67 H1
       refine w_p (v := .bool (false)) rfl ((cK (v := .bool (!r65)) (aE rfl) (congrArg Value.bool h67))) (w_p rfl (aE rfl) (w_p rfl (cN rfl rfl) ?_))
       rcases aK (decide (0 < Q50.2)) with h68 | h68
       ·have H1 := cdT h68 H1
        refine w_p (v := .bool (true)) rfl ((cK (v := .bool (decide (0 < Q50.2))) (aE rfl) (congrArg Value.bool h68))) (w_p rfl (bX fa26_1 rfl rfl) ?_)
        refine w_o rfl (fun F => (bF ty24 rfl (hs2.app F) rfl)) (w_p rfl (aE rfl) (gdo H1 fun h69 H1 => (w_p rfl (p_sub rfl rfl h69) (gdo H1 fun h70 H1 => ?_))))
        refine w_o rfl (fun F => (bT dB ty52 rfl rfl h70 rfl (aL (aT aR)))) ?_
        refine w_o rfl (fun F => (bU (j := 0) ((Q50.2 - 1).toNat) fa52_0 rfl (aL (aT aR)) h70.lt rfl)) ?_
        refine w_o (v := .agg #[.string (((nth v0.2 ((Q50.2 - 1).toNat)).1).1), .string (((nth v0.2 ((Q50.2 - 1).toNat)).1).2)]) rfl (fun F => (q_ldeP [.string (((nth v0.2 ((Q50.2 - 1).toNat)).1).1), .string (((nth v0.2 ((Q50.2 - 1).toNat)).1).2)] (l := v0.2) (E := fun i => Dp.denc (nth v0.2 i) (X2 i)) (oa := x_v0.2.1) (i := (Q50.2 - 1).toNat) (j := 0) ty36 rfl (aL (aT aR)) h70.lt rfl rfl)) (w_p rfl (bX fa52_0 rfl rfl) ?_)
        refine w_o (v := .agg #[.string (((nth v0.2 Q50.2.toNat).1).1), .string (((nth v0.2 Q50.2.toNat).1).2)]) rfl (fun F => (q_ldbP [.string (((nth v0.2 Q50.2.toNat).1).1), .string (((nth v0.2 Q50.2.toNat).1).2)] ty36 rfl (hs1.app F) rfl rfl)) (bdo H1 fun r71 h72 H1 => ?_)
        refine w_o rfl (fun F => (bK (c_spec_l11Less ((nth v0.2 ((Q50.2 - 1).toNat)).1) ((nth v0.2 Q50.2.toNat).1) h72) rfl aO)) (w_p rfl (cO rfl) (w_p rfl (bM rfl rfl) (w_p rfl (bL rfl rfl) (cE (nT (cH H1 rfl (fun h73 H1 => ?_) (fun h73 H1 => ?_)))))))
        ·refine sr (aH (v := .bool (false)) rfl (nl (bN (rT (rB (rT (rT (rB (rT (rT (?_)))))))))))
         obtain rfl := hb55 _ (sm H1)
         replace H := sw.r H
         obtain rfl := si H
         exact bk
        ·refine bE (nT (aP (aF rfl (aG (bX fa52_1 rfl rfl) (aI (bF ty30 rfl hs1 rfl) (aG (bP 3 dE rfl) (gdo H1 fun h74 H1 => (aG (p_sub rfl rfl h74) (aH rfl (aJ ?_))))))))))
         exact nB (nT (aP (aF rfl (gdo H1 fun h75 H1 => (aG (bO rfl rfl h75) (aH rfl (aJ (nLI () (hi54 _ (sm H1)) (.cons dl2 .nil)))))))))
       ·have H1 := cdF h68 H1
        refine w_p (v := .bool (false)) rfl ((cK (v := .bool (decide (0 < Q50.2))) (aE rfl) (congrArg Value.bool h68))) (cC rfl (by decide) rfl rfl rfl (cC rfl (by decide) rfl rfl rfl (cC rfl (by decide) rfl rfl rfl (cC rfl (by decide) rfl rfl rfl (cC rfl (by decide) rfl rfl rfl (cC rfl (by decide) rfl rfl rfl (cC rfl (by decide) rfl rfl rfl (cC rfl (by decide) rfl rfl rfl (cC rfl (by decide) rfl rfl rfl ?_)))))))))
        refine cC rfl (by decide) rfl rfl rfl (cC rfl (by decide) rfl rfl rfl (w_p (v := .bool (false)) rfl (bL rfl rfl) (w_p (v := .bool (false)) rfl (bL rfl rfl) (cE (nT (Tr.condF rfl (bE (nT (aP ?_)))))))))
        refine aF rfl (aG (bX fa52_1 rfl rfl) (aI (bF ty30 rfl hs1 rfl) (aG (bP 3 dE rfl) (gdo H1 fun h76 H1 => (aG (p_sub rfl rfl h76) (aH rfl (aJ (nB (nT (aP (aF rfl ?_)))))))))))
        exact gdo H1 fun h77 H1 => (aG (bO rfl rfl h77) (aH rfl (aJ (nLI () (hi54 _ (sm H1)) (.cons dl2 .nil)))))
    ·exact cR (xT (xT (xE (nMI () (hb55 _ (sm H1)) bH))))
   ·rintro e78 y52 H
    refine nT (sr (aF rfl (aG (cM rfl rfl) (aH rfl (nl ?_)))))
    obtain rfl := si H
    exact bN bk
noncomputable def p_spec_FilterOk_b0 (v0 : (List Cond)) (Q5 : Int) : Option ((Int) ⊕ (Unit ⊕ Bool)) := cond (decide (Q5 < (v0.length : Int))) (gd (ix Q5 v0.length) <| bd (p_spec_l3Tag ((nth v0 Q5.toNat).1)) fun r15 => cond (!r15) (some (.inr (.inr false))) (gd (I64 (Q5 + 1)) <| some (.inl (Q5 + 1)))) (some (.inr (.inl ())))
noncomputable def p_spec_FilterOk (v0 : (List Cond)) : Option (Bool) := bd (lp (p_spec_FilterOk_b0 v0) 0) <| sw (fun _ => some (decide ((v0.length : Int) ≤ 3))) (fun q => some q)
theorem c_spec_FilterOk {r : Bool} (v0 : (List Cond)) (x_v0 : Option Addr × Nat) (H : p_spec_FilterOk v0 = some r) : Fn' prog 16 #[.slice x_v0.1 v0.length x_v0.2] [imm (.slice x_v0.1 v0.length x_v0.2) v0] [] (ι := Unit) (fun _ => .bool (r)) (fun _ => []) (fun _ => []) := by
 refine cof (args := [_]) func16 ntmps16 fun c => ?_
 unfold p_spec_FilterOk at H
 refine sr (aH (v := .bool (false)) rfl (nl (aD (sr (aH (v := .int .i64 (0)) rfl (nl (bdo H fun x1 hx2 H => (cT (Λ := Unit) H (fun _ _ => [(0, .slice x_v0.1 v0.length x_v0.2)]) (fun _ _ => []) ?_ ?_))))))))
 ·refine aQ (cV hx2 () (fun Q5 _ => [(0, .slice x_v0.1 v0.length x_v0.2), (3, .int .i64 (Q5))]) (fun _ _ => []) bH ?_)
  rintro _ Q5 z6 t8 H1 hi9 hb10
  unfold p_spec_FilterOk_b0 at H1
  refine aD (sr (aF rfl (aF rfl (aG (bP 38 dC rfl) (aG (cL rfl rfl) (nl (cH H1 rfl (fun h13 H1 => ?_) (fun h13 H1 => ?_))))))))
  ·refine bE (nT (aD (aQ (sr (aF rfl (aF rfl (gdo H1 fun h14 H1 => (aI (bT dC ty38 rfl rfl h14 rfl (aN (aL aR))) (aI (bU (j := 0) Q5.toNat fa38_0 rfl (aN (aL aR)) h14.lt rfl) (aI (v := .agg #[.string (((nth v0 Q5.toNat).1).1), .string (((nth v0 Q5.toNat).1).2)]) (q_ldeP [.string (((nth v0 Q5.toNat).1).1), .string (((nth v0 Q5.toNat).1).2)] (l := v0) (E := fun i => Flat.enc (nth v0 i)) (oa := x_v0.1) (i := Q5.toNat) (j := 0) ty36 rfl (aN (aL aR)) h14.lt rfl rfl) ?_))))))))))
   refine bdo H1 fun r15 h16 H1 => (aI (bK (c_spec_l3Tag ((nth v0 Q5.toNat).1) h16) rfl aO) (aG (cO rfl) (nl (cH H1 rfl (fun h17 H1 => ?_) (fun h17 H1 => ?_)))))
   ·refine sr (aH (v := .bool (false)) rfl (nl (bN (rB (rT (rT (rB (rT (rT (?_))))))))))
    obtain rfl := hb10 _ (sm H1)
    replace H := sw.r H
    obtain rfl := si H
    exact bk
   ·exact bE (nB (nT (aP (aF rfl (gdo H1 fun h18 H1 => (aG (bO rfl rfl h18) (aH rfl (aJ (nLI () (hi9 _ (sm H1)) bH)))))))))
  ·exact cR (xT (xT (xE (nMI () (hb10 _ (sm H1)) bH))))
 ·rintro e19 y7 H
  refine nT (sr (aF rfl (aG (bP 38 dC rfl) (aG (p_leq rfl rfl) (aH rfl (nl ?_))))))
  obtain rfl := si H
  exact bN bk
noncomputable def p_spec_l3Fits_b0 (v0 : (List Cond)) (v1 : (List Tag)) (Q5 : Int) : Option ((Int) ⊕ (Unit ⊕ Bool)) := cond (decide (Q5 < (v0.length : Int))) (gd (ix Q5 v0.length) <| bd (p_spec_l3Has v1 ((nth v0 Q5.toNat).1)) fun r15 => cond (decide (r15 = ((nth v0 Q5.toNat).2))) (some (.inr (.inr false))) (gd (I64 (Q5 + 1)) <| some (.inl (Q5 + 1)))) (some (.inr (.inl ())))
noncomputable def p_spec_l3Fits (v0 : (List Cond)) (v1 : (List Tag)) : Option (Bool) := bd (lp (p_spec_l3Fits_b0 v0 v1) 0) <| sw (fun _ => some true) (fun q => some q)
theorem c_spec_l3Fits {r : Bool} (v0 : (List Cond)) (x_v0 : Option Addr × Nat) (v1 : (List Tag)) (x_v1 : Option Addr × Nat) (H : p_spec_l3Fits v0 v1 = some r) : Fn' prog 36 #[.slice x_v0.1 v0.length x_v0.2, .slice x_v1.1 v1.length x_v1.2] [imm (.slice x_v0.1 v0.length x_v0.2) v0, imm (.slice x_v1.1 v1.length x_v1.2) v1] [] (ι := Unit) (fun _ => .bool (r)) (fun _ => []) (fun _ => []) := by
 refine cof (args := [_, _]) func36 ntmps36 fun c => ?_
 unfold p_spec_l3Fits at H
 refine sr (aH (v := .bool (false)) rfl (nl (aD (sr (aH (v := .int .i64 (0)) rfl (nl (bdo H fun x1 hx2 H => (cT (Λ := Unit) H (fun _ _ => []) (fun _ _ => []) ?_ ?_))))))))
 ·refine aQ (cV hx2 () (fun Q5 _ => [(0, .slice x_v0.1 v0.length x_v0.2), (1, .slice x_v1.1 v1.length x_v1.2), (5, .int .i64 (Q5))]) (fun _ _ => []) bH ?_)
  rintro _ Q5 z6 t8 H1 hi9 hb10
  unfold p_spec_l3Fits_b0 at H1
  refine aD (sr (aF rfl (aF rfl (aG (bP 38 dC rfl) (aG (cL rfl rfl) (nl (cH H1 rfl (fun h13 H1 => ?_) (fun h13 H1 => ?_))))))))
  ·refine bE (nT (aD (aQ (aD (cW [(0, .slice x_v0.1 v0.length x_v0.2), (1, .slice x_v1.1 v1.length x_v1.2), (5, .int .i64 (Q5))] mixed (.inr (by kernel_rfl)) ⟨rfl, rfl, rfl, trivial⟩ rfl (aZ rfl (aZ rfl (aZ rfl (gdo H1 fun h14 H1 => (aX (bT dC ty38 rfl rfl h14 rfl (aN (aL aR))) ?_))))))))))
   refine aX (bU (j := 0) Q5.toNat fa38_0 rfl (aN (aL aR)) h14.lt rfl) (aX (v := .agg #[.string (((nth v0 Q5.toNat).1).1), .string (((nth v0 Q5.toNat).1).2)]) (q_ldeP [.string (((nth v0 Q5.toNat).1).1), .string (((nth v0 Q5.toNat).1).2)] (l := v0) (E := fun i => Flat.enc (nth v0 i)) (oa := x_v0.1) (i := Q5.toNat) (j := 0) ty36 rfl (aN (aL aR)) h14.lt rfl rfl) (bdo H1 fun r15 h16 H1 => (aX (bK (c_spec_l3Has v1 x_v1 ((nth v0 Q5.toNat).1) h16) rfl (aC (aL aR.s) aO)) (aZ rfl (aZ rfl (aX (bT dC ty38 rfl rfl h14 rfl (aN (aL aR))) (aX (bU (j := 0) Q5.toNat fa38_1 rfl (aN (aL aR)) h14.lt rfl) (aX (bV (i := Q5.toNat) (j := 2) ty4 rfl (aN (aL aR)) h14.lt rfl) (aV (p_beql underlying4 rfl rfl) ?_)))))))))
   refine nT (cH H1 rfl (fun h17 H1 => ?_) (fun h17 H1 => ?_))
   ·refine sr (aH (v := .bool (false)) rfl (nl (bN (rB (rT (rT (rB (rT (rT (?_))))))))))
    obtain rfl := hb10 _ (sm H1)
    replace H := sw.r H
    obtain rfl := si H
    exact bk
   ·exact bE (nB (nT (aP (aF rfl (gdo H1 fun h18 H1 => (aG (bO rfl rfl h18) (aH rfl (aJ (nLI () (hi9 _ (sm H1)) bH)))))))))
  ·exact cR (xT (xT (xE (nMI () (hb10 _ (sm H1)) bH))))
 ·rintro e19 y7 H
  refine nT (sr (aH (v := .bool (true)) rfl (nl ?_)))
  obtain rfl := si H
  exact bN bk
noncomputable def p_spec_l11Find_b0 (v0 : Index) (v1 : (List Cond)) (Q10 : (List Int) × Int) : Option (((List Int) × Int) ⊕ ((List Int))) := cond (decide (Q10.2 < (v0.1.length : Int))) (gd (ix Q10.2 v0.1.length) <| bd (p_spec_l3Fits v1 (nth v0.1 Q10.2.toNat)) fun r20 => cond (r20) (gd (I64 (Q10.2 + 1)) <| gd (room (Q10.1.length + 1)) <| some (.inl ((Q10.1 ++ [Q10.2 + 1]), Q10.2 + 1))) (gd (I64 (Q10.2 + 1)) <| some (.inl (Q10.1, Q10.2 + 1)))) (some (.inr Q10.1))
noncomputable def p_spec_l11Find (v0 : Index) (v1 : (List Cond)) : Option ((List Int)) := bd (lp (p_spec_l11Find_b0 v0 v1) (([] : List Int), 0)) fun x6 => some x6
theorem c_spec_l11Find {r : (List Int)} (v0 : Index) (x_v0 : (Option Addr × Nat) × (Option Addr × Nat)) (v1 : (List Cond)) (x_v1 : Option Addr × Nat) (H : p_spec_l11Find v0 v1 = some r) : Fn' prog 17 #[.agg #[.slice x_v0.1.1 v0.1.length x_v0.1.2, .slice x_v0.2.1 v0.2.length x_v0.2.2], .slice x_v1.1 v1.length x_v1.2] [imm (.slice x_v0.1.1 v0.1.length x_v0.1.2) v0.1, imm (.slice x_v0.2.1 v0.2.length x_v0.2.2) v0.2, imm (.slice x_v1.1 v1.length x_v1.2) v1] [] (ι := Option Addr × Nat) (fun x => .slice x.1 r.length x.2) (fun _ => []) (fun x => [tree (.slice x.1 r.length x.2) r]) := by
 refine cof (args := [_, _]) func17 ntmps17 fun c => ?_
 unfold p_spec_l11Find at H
 refine bJ aR fun X1 => (bJ aR.s.s fun X2 => (sr (f1 (bY (t := 26) rfl) fun g3 => (aH (v := .slice none 0 0) rfl (nl (sr (f2 (e_lit0 Int dE ty3) fun a4 c5 => (aH rfl (nl (aD (sr (aH (v := .int .i64 (0)) rfl (nl ?_)))))))))))))
 refine bdo H fun x6 hx7 H => (cS (ι := Option Addr × Nat) (fun ψ => [(5, .slice ψ.1 x6.length ψ.2)]) (fun ψ => [tree (.slice ψ.1 x6.length ψ.2) x6]) ?_ ?_)
 ·refine aQ (cV hx7 (a4, c5) (fun Q10 z11 => [(1, .slice x_v1.1 v1.length x_v1.2), (2, .pointer (some ⟨g3, 0, none⟩)), (5, .slice z11.1 Q10.1.length z11.2), (6, .int .i64 (Q10.2))]) (fun Q10 z11 => [box g3 26 [.slice x_v0.1.1 v0.1.length x_v0.1.2, .slice x_v0.2.1 v0.2.length x_v0.2.2], tree (.slice z11.1 Q10.1.length z11.2) Q10.1]) (.cons dl1 (.cons aA .nil)) ?_)
  rintro _ Q10 z11 t13 H1 hi14 hb15
  unfold p_spec_l11Find_b0 at H1
  refine aD (sr (aF rfl (aG (bX fa26_0 rfl rfl) (aI (bF ty23 rfl aB rfl) (aG (bP 46 dA rfl) (aG (cL rfl rfl) (nl (cH H1 rfl (fun h18 H1 => ?_) (fun h18 H1 => ?_)))))))))
  ·refine bE (nT (aD (aQ (sr (aF rfl (aG (bX fa26_0 rfl rfl) (aI (bF ty23 rfl aB rfl) (aF rfl (gdo H1 fun h19 H1 => (aI (bT dA ty46 rfl rfl h19 rfl (aL (aT aR.s))) ?_))))))))))
   refine aI (bV (i := Q10.2.toNat) (j := 0) ty46 rfl (aL (aT aR.s)) h19.lt rfl) (bdo H1 fun r20 h21 H1 => (aI (bK (c_spec_l3Fits v1 x_v1 (nth v0.1 Q10.2.toNat) ((X1 Q10.2.toNat).1, (X1 Q10.2.toNat).2.1) h21) rfl (aC (aL aR.s.s.s.s) (aC (aL (aS (aU aR.s h19.lt))) aO))) (nl (cH H1 rfl (fun h22 H1 => ?_) (fun h22 H1 => ?_)))))
   ·refine aP (aF rfl (aF rfl (gdo H1 fun h23 H1 => (aG (bO rfl rfl h23) (f1 (e_lit (vs := [(0, .int .i64 (Q10.2 + 1))]) [.int .i64 (Q10.2 + 1)] dE ty3 rfl (by decide) (by decide) (by kernel_rfl)) fun g24 => (gdo H1 fun h27 H1 => (f2 (e_app1 (l := Q10.1) (α := Int) (Q10.2 + 1) () dE ty3 rfl rfl (h27.b (by decide)) h27.x rfl (cP _) (.cons dl2 (.cons aA .nil))) fun a25 c26 => (aH rfl (aJ (nB (nT (?_))))))))))))
    exact aP (aF rfl (aG (bO rfl rfl h23) (aH rfl (aJ (nLI (a25, c26) (hi14 _ (sm H1)) (.cons dl1 (.cons aA .nil)))))))
   ·exact bE (nB (nT (aP (aF rfl (gdo H1 fun h28 H1 => (aG (bO rfl rfl h28) (aH rfl (aJ (nLI (z11.1, z11.2) (hi14 _ (sm H1)) (.cons aA (.cons aA .nil)))))))))))
  ·refine cR (xT (xT (xE (?_))))
   obtain rfl := hb15 _ (sm H1)
   exact nMC (z11.1, z11.2) ⟨rfl, trivial⟩ bQ (.cons dl1 .nil)
 ·intro y12
  show At _ _ [(5, .slice y12.1 x6.length y12.2)] _ [tree (.slice y12.1 x6.length y12.2) x6] _
  refine nT (sr (aF rfl (aH rfl (nl (bN ?_)))))
  obtain rfl := si H
  exact back1 y12 rfl (ResV.tmp (v := .slice y12.1 x6.length y12.2) rfl) rfl cG (.cons aA .nil)
noncomputable def p_spec_IndexFind (v0 : Index) (v1 : (List Cond)) : Option ((List Int)) := bd (bd (p_spec_IndexOk v0) fun r6 => cond (!r6) (some (true)) (bd (p_spec_FilterOk v1) fun r9 => some (!r9))) fun b4 => cond (b4) (some ([] : List Int)) (bd (p_spec_l11Find v0 v1) fun r14 => some r14)
theorem c_spec_IndexFind {r : (List Int)} (v0 : Index) (x_v0 : (Option Addr × Nat) × (Option Addr × Nat)) (v1 : (List Cond)) (x_v1 : Option Addr × Nat) (H : p_spec_IndexFind v0 v1 = some r) : Fn' prog 7 #[.agg #[.slice x_v0.1.1 v0.1.length x_v0.1.2, .slice x_v0.2.1 v0.2.length x_v0.2.2], .slice x_v1.1 v1.length x_v1.2] [imm (.slice x_v0.1.1 v0.1.length x_v0.1.2) v0.1, imm (.slice x_v0.2.1 v0.2.length x_v0.2.2) v0.2, imm (.slice x_v1.1 v1.length x_v1.2) v1] [] (ι := Option Addr × Nat) (fun x => .slice x.1 r.length x.2) (fun _ => []) (fun x => [tree (.slice x.1 r.length x.2) r]) := by
 refine cof (args := [_, _]) func7 ntmps7 fun c => ?_
 unfold p_spec_IndexFind at H
 refine bJ aR fun X1 => (bJ aR.s.s fun X2 => (sr (f1 (bY (t := 26) rfl) fun g3 => (aH (v := .slice none 0 0) rfl (nl (aD (bdo H fun b4 j5 H => (cU [(12, .bool (b4)), (2, .pointer (some ⟨g3, 0, none⟩)), (1, .slice x_v1.1 v1.length x_v1.2)] ?_ ?_))))))))
 ·refine cX [(2, .pointer (some ⟨g3, 0, none⟩)), (1, .slice x_v1.1 v1.length x_v1.2)] ⟨rfl, rfl, trivial⟩ (aX (bG ty26 rfl aB rfl) (bdo j5 fun r6 h7 j5 => (aX (bK (c_spec_IndexOk v0 x_v0 h7) rfl (aC (aL (aS aR.s)) (aC (aL (aS aR)) aO))) (aV (cO rfl) ?_))))
  rcases aK (!r6) with h8 | h8
  ·have j5 := cdT h8 j5
   refine bA (aE rfl) h8 ?_
   iterate 3 refine bB rfl ?_
   refine aV (v := .bool (true)) (bM rfl rfl) ?_
   obtain rfl := si j5
   show At _ _ _ _ _ _
   exact n1 ⟨rfl, rfl, rfl, trivial⟩
  ·have j5 := cdF h8 j5
   refine bA (aE rfl) h8 (aW rfl (aE rfl) (bdo j5 fun r9 h10 j5 => (aY rfl (bK (c_spec_FilterOk v1 x_v1 h10) rfl (aC (aL aR.s.s.s.s) aO)) (aW rfl (cO rfl) (aV (bL rfl rfl) ?_)))))
   obtain rfl := si j5
   show At _ _ _ _ _ _
   exact n1 ⟨rfl, rfl, rfl, trivial⟩
 refine cH H rfl (fun h11 H => ?_) (fun h11 H => ?_)
 ·refine sr (f2 (e_lit0 Int dE ty3) fun a12 c13 => (aH rfl (nl (bN (rT (?_))))))
  obtain rfl := si H
  exact back1 (a12, c13) rfl (ResV.tmp (v := .slice a12 (([] : List Int).length) c13) rfl) rfl cG (.cons aA .nil)
 ·refine bE (nT (sr (aI (bG ty26 rfl aB rfl) (aF rfl (bdo H fun r14 h15 H => (f1 (cA (c_spec_l11Find v0 x_v0 v1 x_v1 h15) (fun _ => (bC bD)) rfl (aC (aL (aS aR.s)) (aC (aL (aS aR)) (aC (aL aR.s.s.s.s) aO)))) fun x16 => (aH rfl (nl (bN ?_)))))))))
  obtain rfl := si H
  exact back1 x16 rfl (ResV.tmp (v := .slice x16.1 r14.length x16.2) rfl) rfl cG (.cons aA .nil)
noncomputable def p_spec_DrawIndexFind_b0 (r2 : L6Rd) (Q16 : Int × (List (List Tag)) × (List Post) × (List Cond) × Int) : Option ((Int × (List (List Tag)) × (List Post) × (List Cond) × Int) ⊕ ((List (List Tag)) × (List Post) × (List Cond))) := cond (decide (Q16.2.2.2.2 < 4)) (bd (p_spec_l6Rd_pick (r2.1, Q16.1) 5) fun r25 => cond (decide (0 < r25.1)) (bd (p_spec_IndexFind (Q16.2.1, Q16.2.2.1) Q16.2.2.2.1) fun r29 => cond (decide ((r29.length : Int) = 0)) (bd (p_spec_l71Index (r2.1, r25.2)) fun r33 => bd (p_spec_l71Filter (r2.1, r33.2)) fun r36 => gd (I64 (Q16.2.2.2.2 + 1)) <| some (.inl (r36.2, r33.1.1, r33.1.2, r36.1, Q16.2.2.2.2 + 1))) (some (.inr (Q16.2.1, Q16.2.2.1, Q16.2.2.2.1)))) (some (.inr (Q16.2.1, Q16.2.2.1, Q16.2.2.2.1)))) (some (.inr (Q16.2.1, Q16.2.2.1, Q16.2.2.2.1)))
noncomputable def p_spec_DrawIndexFind (v0 : (List UInt8)) : Option (Index × (List Cond)) := bd (p_spec_l6Open v0) fun r2 => bd (p_spec_l71Index r2) fun r5 => bd (p_spec_l71Filter (r2.1, r5.2)) fun r9 => bd (lp (p_spec_DrawIndexFind_b0 r2) (r9.2, r5.1.1, r5.1.2, r9.1, 0)) fun x12 => some ((x12.1, x12.2.1), x12.2.2)
theorem c_spec_DrawIndexFind {r : Index × (List Cond)} (v0 : (List UInt8)) (x_v0 : Option Addr × Nat) (H : p_spec_DrawIndexFind v0 = some r) : Fn' prog 4 #[.slice x_v0.1 v0.length x_v0.2] [imm (.slice x_v0.1 v0.length x_v0.2) v0] [] (ι := ((Option Addr × Nat) × (Option Addr × Nat)) × (Option Addr × Nat)) (fun x => .tuple #[.agg #[.slice x.1.1.1 r.1.1.length x.1.1.2, .slice x.1.2.1 r.1.2.length x.1.2.2], .slice x.2.1 r.2.length x.2.2]) (fun x => [imm (.slice x.1.1.1 r.1.1.length x.1.1.2) r.1.1, imm (.slice x.1.2.1 r.1.2.length x.1.2.2) r.1.2, imm (.slice x.2.1 r.2.length x.2.2) r.2]) (fun _ => []) := by
 refine cof (args := [_]) func4 ntmps4 fun c => ?_
 unfold p_spec_DrawIndexFind at H
 refine sr (f1 (bZ ty26) fun g1 => (aH (v := .slice none 0 0) rfl (nl (sr (aF rfl (bdo H fun r2 h3 H => (f1 (e_call (c_spec_l6Open v0 x_v0 h3) rfl (cF aR cG) bH) fun x4 => (aH rfl (nl (sr (aF rfl ?_)))))))))))
 refine bdo H fun r5 h6 H => (f1 (e_call (c_spec_l71Index x4.1 r2 (x4.2.1, ()) h6) rfl (cF aR cG) (.cons aA .nil)) fun x7 => (f1 (bZ ty26) fun g8 => (stb (cs' := [.slice x7.1.1 r5.1.1.length x7.1.2, .slice x7.2.1 r5.1.2.length x7.2.2]) ty26 cQ (nl (sr (aF rfl (bdo H fun r9 h10 H => (f1 (cB (c_spec_l71Filter x4.1 (r2.1, r5.2) (x4.2.1, ()) h10) (Solo.box bD) (fun _ => (bC (Solo.box bD))) rfl (.cons dl2 .nil) (aC (aL aR.s) aO)) fun x11 => (aH rfl (nl ?_))))))))))
 refine aD (sr (aH (v := .int .i64 (0)) rfl (nl (bdo H fun x12 hx13 H => ?_))))
 obtain ⟨n14, hx13⟩ := lp.of hx13
 refine tMidNF (ι := (Option Addr × Nat) × (Option Addr × Nat) × (Option Addr × Nat)) (fun ψ => [(2, .pointer (some ⟨g1, 0, none⟩)), (5, .pointer (some ⟨g8, 0, none⟩)), (6, .slice ψ.2.2.1 x12.2.2.length ψ.2.2.2)]) (fun ψ => [imm (.slice ψ.1.1 x12.1.length ψ.1.2) x12.1]) (fun ψ => [box g1 26 [.slice none 0 0, .slice none 0 0], orow (.slice ψ.2.1.1 x12.2.1.length ψ.2.1.2) x12.2.1, box g8 26 [.slice ψ.1.1 x12.1.length ψ.1.2, .slice ψ.2.1.1 x12.2.1.length ψ.2.1.2], tree (.slice ψ.2.2.1 x12.2.2.length ψ.2.2.2) x12.2.2]) ?_ ?_
 ·refine aQ (tLoopF (ι := { q : Nat × (Int × (List (List Tag)) × (List Post) × (List Cond) × Int) × ((Option Addr × Nat) × (Option Addr × Nat) × (Option Addr × Nat)) // itr (p_spec_DrawIndexFind_b0 r2) q.1 q.2.1 = some x12 }) (fun ζ => [(2, .pointer (some ⟨g1, 0, none⟩)), (4, .pointer (some ⟨x4.1, 0, none⟩)), (5, .pointer (some ⟨g8, 0, none⟩)), (6, .slice ζ.1.2.2.2.2.1 ζ.1.2.1.2.2.2.1.length ζ.1.2.2.2.2.2), (7, .int .i64 (ζ.1.2.1.2.2.2.2))]) (fun ζ => [imm (.slice ζ.1.2.2.1.1 ζ.1.2.1.2.1.length ζ.1.2.2.1.2) ζ.1.2.1.2.1]) (fun ζ => [box g1 26 [.slice none 0 0, .slice none 0 0], box x4.1 56 [.slice x4.2.1.1 r2.1.length x4.2.1.2, .int .i64 (ζ.1.2.1.1)], orow (.slice ζ.1.2.2.2.1.1 ζ.1.2.1.2.2.1.length ζ.1.2.2.2.1.2) ζ.1.2.1.2.2.1, box g8 26 [.slice ζ.1.2.2.1.1 ζ.1.2.1.2.1.length ζ.1.2.2.1.2, .slice ζ.1.2.2.2.1.1 ζ.1.2.1.2.2.1.length ζ.1.2.2.2.1.2], tree (.slice ζ.1.2.2.2.2.1 ζ.1.2.1.2.2.2.1.length ζ.1.2.2.2.2.2) ζ.1.2.1.2.2.2.1]) (fun ζ => ζ.1.1) ⟨(n14, (r9.2, r5.1.1, r5.1.2, r9.1, 0), ((x7.1.1, x7.1.2), (x7.2.1, x7.2.2), (x11.1, x11.2))), hx13⟩ ⟨rfl, rfl, rfl, rfl, rfl, trivial⟩ (cF aR cG) (.cons dl4 (.cons dl1 (.cons dl2 (.cons dl1 (.cons aA .nil))))) ?_)
  rintro ⟨⟨m15, Q16, z17⟩, hk22⟩
  obtain ⟨m23, t19, e, H1, hi20, hb21⟩ := itr.of (n := m15) (s := Q16) hk22
  subst e; unfold p_spec_DrawIndexFind_b0 at H1
  show Tr _ _ _ _ _ [(2, .pointer (some ⟨g1, 0, none⟩)), (4, .pointer (some ⟨x4.1, 0, none⟩)), (5, .pointer (some ⟨g8, 0, none⟩)), (6, .slice z17.2.2.1 Q16.2.2.2.1.length z17.2.2.2), (7, .int .i64 (Q16.2.2.2.2))] (imm (.slice z17.1.1 Q16.2.1.length z17.1.2) Q16.2.1 :: _) [box g1 26 [.slice none 0 0, .slice none 0 0], box x4.1 56 [.slice x4.2.1.1 r2.1.length x4.2.1.2, .int .i64 (Q16.1)], orow (.slice z17.2.1.1 Q16.2.2.1.length z17.2.1.2) Q16.2.2.1, box g8 26 [.slice z17.1.1 Q16.2.1.length z17.1.2, .slice z17.2.1.1 Q16.2.2.1.length z17.2.1.2], tree (.slice z17.2.2.1 Q16.2.2.2.1.length z17.2.2.2) Q16.2.2.2.1]
  refine aD (sr (aF rfl (aG (cL rfl rfl) ?_)))
  rcases aK (decide (Q16.2.2.2.2 < 4)) with h24 | h24
  ·have H1 := cdT h24 H1
   refine Rg.e_ (aE rfl) h24 (Rg.g (v := .pointer (some ⟨x4.1, 0, none⟩)) rfl (Pu.qo (aE rfl)) (by decide) (bdo H1 fun r25 h26 H1 => (f1 (cB (c_spec_l6Rd_pick x4.1 (r2.1, Q16.1) (x4.2.1, ()) 5 h26) (Solo.box bD) (fun _ => (Solo.box bD)) rfl (.cons dl1 .nil) (aC (aL aR.s.s) aO)) fun u27 => (Rg.g (v := .bool (decide (0 < r25.1))) rfl (Pu.qo (cN rfl rfl)) (by decide) (aG (bM rfl rfl) ?_)))))
   rcases aK (decide (0 < r25.1)) with h28 | h28
   ·have H1 := cdT h28 H1
    refine Rg.e_ (aE rfl) h28 (Rg.g (v := .agg #[.slice z17.1.1 Q16.2.1.length z17.1.2, .slice z17.2.1.1 Q16.2.2.1.length z17.2.1.2]) rfl (bG ty26 rfl hs3 rfl) (by decide) (Rg.g (v := .slice z17.2.2.1 Q16.2.2.2.1.length z17.2.2.2) rfl (Pu.qo (aE rfl)) (by decide) (bdo H1 fun r29 h30 H1 => (f1 (cA (c_spec_IndexFind (Q16.2.1, Q16.2.2.1) (z17.1, z17.2.1) Q16.2.2.2.1 z17.2.2 h30) (fun _ => (bC bD)) rfl (aC (aL aR) (aC (EntB.orow hs2) (aC (bI hs4) aO)))) fun x31 => (Rg.g (v := .int .i64 ((r29.length : Int))) rfl (Pu.qo (bP 3 dE rfl)) (by decide) (Rg.g (v := .bool (decide ((r29.length : Int) = 0))) rfl (Pu.qo (cM rfl rfl)) (by decide) (aG (bM rfl rfl) (nl (cH H1 rfl (fun h32 H1 => ?_) (fun h32 H1 => ?_))))))))))
    ·refine bE (nT (aD (aQ (sr (aF rfl (bdo H1 fun r33 h34 H1 => (f1 (e_call (c_spec_l71Index x4.1 (r2.1, r25.2) (x4.2.1, ()) h34) rfl (cF aR.s.s cG) (.cons dl1 .nil)) fun x35 => (stb (cs' := [.slice x35.1.1 r33.1.1.length x35.1.2, .slice x35.2.1 r33.1.2.length x35.2.2]) ty26 up5 (nl (aP ?_))))))))))
     refine aF rfl (bdo H1 fun r36 h37 H1 => (f1 (cB (c_spec_l71Filter x4.1 (r2.1, r33.2) (x4.2.1, ()) h37) (Solo.box bD) (fun _ => (bC (Solo.box bD))) rfl (.cons dl1 .nil) (aC (aL aR.s.s.s) aO)) fun x38 => (aH rfl (aJ (nB (nT (aP (aF rfl (gdo H1 fun h39 H1 => (aG (bO rfl rfl h39) (aH rfl (aJ ?_))))))))))))
     exact nLF ⟨(m23, (r36.2, r33.1.1, r33.1.2, r36.1, Q16.2.2.2.2 + 1), ((x35.1.1, x35.1.2), (x35.2.1, x35.2.2), (x38.1, x38.2))), hi20 _ (sm H1)⟩ (Nat.lt_succ_self _) ⟨rfl, rfl, rfl, rfl, rfl, trivial⟩ (cF aR cG) bQ.s.s (.cons dl4 (.cons dl1 (.cons dl1 (.cons dl3 (.cons aA .nil)))))
    ·refine cR (xT (xT (xE (?_))))
     obtain rfl := hb21 _ (sm H1)
     exact nMF ((z17.1.1, z17.1.2), (z17.2.1.1, z17.2.1.2), (z17.2.2.1, z17.2.2.2)) ⟨rfl, rfl, rfl, trivial⟩ (cF aR cG) bQ.s (.cons dl2 (.cons dl2 (.cons dl2 (.cons dl2 .nil))))
   ·have H1 := cdF h28 H1
    refine Rg.e_ (aE rfl) h28 (Rg.skip rfl (by decide) (Rg.skip rfl (by decide) (Rg.skip rfl (by decide) (Rg.skip rfl (by decide) (Rg.skip rfl (by decide) (aG (v := .bool (false)) (bL rfl rfl) (nl (Tr.condF rfl (cR (xT (xT (xE (?_)))))))))))))
    obtain rfl := hb21 _ (sm H1)
    exact nMF ((z17.1.1, z17.1.2), (z17.2.1.1, z17.2.1.2), (z17.2.2.1, z17.2.2.2)) ⟨rfl, rfl, rfl, trivial⟩ (cF aR cG) bQ.s (.cons dl1 (.cons dl1 (.cons dl1 (.cons dl1 .nil))))
  ·have H1 := cdF h24 H1
   refine Rg.e_ (aE rfl) h24 (Rg.skip rfl (by decide) (Rg.skip rfl (by decide) (Rg.skip rfl (by decide) (aG (v := .bool (false)) (bL rfl rfl) (aF (v := .bool (false)) rfl (Rg.skip rfl (by decide) (Rg.skip rfl (by decide) (Rg.skip rfl (by decide) (Rg.skip rfl (by decide) ?_)))))))))
   refine Rg.skip rfl (by decide) (aG (v := .bool (false)) (bL rfl rfl) (nl (Tr.condF rfl (cR (xT (xT (xE (?_))))))))
   obtain rfl := hb21 _ (sm H1)
   exact nMF ((z17.1.1, z17.1.2), (z17.2.1.1, z17.2.1.2), (z17.2.2.1, z17.2.2.2)) ⟨rfl, rfl, rfl, trivial⟩ (cF aR cG) bQ.s (.cons aA (.cons dl1 (.cons dl1 (.cons dl1 .nil))))
 ·intro y18
  show At _ _ [(2, .pointer (some ⟨g1, 0, none⟩)), (5, .pointer (some ⟨g8, 0, none⟩)), (6, .slice y18.2.2.1 x12.2.2.length y18.2.2.2)] (imm (.slice y18.1.1 x12.1.length y18.1.2) x12.1 :: _) [box g1 26 [.slice none 0 0, .slice none 0 0], orow (.slice y18.2.1.1 x12.2.1.length y18.2.1.2) x12.2.1, box g8 26 [.slice y18.1.1 x12.1.length y18.1.2, .slice y18.2.1.1 x12.2.1.length y18.2.1.2], tree (.slice y18.2.2.1 x12.2.2.length y18.2.2.2) x12.2.2] _
  refine nT (sr (aI (bG ty26 rfl hs2 rfl) (aF rfl (stb (cs' := [.slice y18.1.1 x12.1.length y18.1.2, .slice y18.2.1.1 x12.2.1.length y18.2.1.2]) ty26 cQ (aH rfl (nl (Tr.freezeO (.cons dl1 .nil) (Tr.freeze (.cons dl2 .nil) (bN ?_)))))))))
  obtain rfl := si H
  exact back2 ((y18.1, y18.2.1), y18.2.2) rfl (ResV.agg ty26 rfl aB rfl) (ResV.tmp (v := .slice y18.2.2.1 x12.2.2.length y18.2.2.2) rfl) rfl (cF aR.s.s (cF aR.s (cF aR cG))) bH
noncomputable def p_impl_tagOk (v0 : Tag) : Option (Bool) := bd (cond (decide ((v0.1.size : Int) = 1)) (cond (!sless v0.1 (⟨#[97]⟩ : ByteArray)) (cond ((sless v0.1 (⟨#[100]⟩ : ByteArray) || decide (v0.1 = (⟨#[100]⟩ : ByteArray)))) (cond (decide ((v0.2.size : Int) = 1)) (cond (!sless v0.2 (⟨#[112]⟩ : ByteArray)) (some ((sless v0.2 (⟨#[122]⟩ : ByteArray) || decide (v0.2 = (⟨#[122]⟩ : ByteArray))))) (some (false))) (some (false))) (some (false))) (some (false))) (some (false))) fun b2 => some b2
theorem c_impl_tagOk {r : Bool} (v0 : Tag) (H : p_impl_tagOk v0 = some r) : Fn' prog 51 #[.agg #[.string (v0.1), .string (v0.2)]] [] [] (ι := Unit) (fun _ => .bool (r)) (fun _ => []) (fun _ => []) := by
 refine cof (args := [_]) func51 ntmps51 fun c => ?_
 unfold p_impl_tagOk at H
 refine sr (f1 (bY (t := 36) rfl) fun g1 => (aH (v := .bool (false)) rfl (nl (bdo H fun b2 j3 H => (cU [(2, .bool (b2))] ?_ ?_)))))
 ·refine cX [(1, .pointer (some ⟨g1, 0, none⟩))] ⟨rfl, trivial⟩ (aV (bX fa36_0 rfl rfl) (aX (bF ty9 rfl aB rfl) (aV (p_slen dI rfl) (aV (cM rfl rfl) ?_))))
  rcases aK (decide ((v0.1.size : Int) = 1)) with h4 | h4
  ·have j3 := cdT h4 j3
   refine bA (aE rfl) h4 (aW rfl (bX fa36_0 rfl rfl) (aY rfl (bF ty9 rfl aB rfl) (aW rfl (p_sgeq rfl rfl) (aV (bM rfl rfl) ?_))))
   rcases aK (!sless v0.1 (⟨#[97]⟩ : ByteArray)) with h5 | h5
   ·have j3 := cdT h5 j3
    refine bA (aE rfl) h5 (aW rfl (bX fa36_0 rfl rfl) (aY rfl (bF ty9 rfl aB rfl) (aW rfl (p_sleq rfl rfl) (aV (bM rfl rfl) ?_))))
    rcases aK ((sless v0.1 (⟨#[100]⟩ : ByteArray) || decide (v0.1 = (⟨#[100]⟩ : ByteArray)))) with h6 | h6
    ·have j3 := cdT h6 j3
     refine bA (aE rfl) h6 (aW rfl (bX fa36_1 rfl rfl) (aY rfl (bF ty9 rfl aB rfl) (aW rfl (p_slen dI rfl) (aW rfl (cM rfl rfl) (aV (bM rfl rfl) ?_)))))
     rcases aK (decide ((v0.2.size : Int) = 1)) with h7 | h7
     ·have j3 := cdT h7 j3
      refine bA (aE rfl) h7 (aW rfl (bX fa36_1 rfl rfl) (aY rfl (bF ty9 rfl aB rfl) (aW rfl (p_sgeq rfl rfl) (aV (bM rfl rfl) ?_))))
      rcases aK (!sless v0.2 (⟨#[112]⟩ : ByteArray)) with h8 | h8
      ·have j3 := cdT h8 j3
       refine bA (aE rfl) h8 (aW rfl (bX fa36_1 rfl rfl) (aY rfl (bF ty9 rfl aB rfl) (aW rfl (p_sleq rfl rfl) (aV (bM rfl rfl) (aV (p_assign rfl) ?_)))))
       obtain rfl := si j3
       show At _ _ _ _ _ _
       exact n1 ⟨rfl, trivial⟩
      ·have j3 := cdF h8 j3
       refine bA (aE rfl) h8 ?_
       iterate 3 refine bB rfl ?_
       refine aV (v := .bool (false)) (bL rfl rfl) (aV (v := .bool (false)) (p_assign rfl) ?_)
       obtain rfl := si j3
       show At _ _ _ _ _ _
       exact n1 ⟨rfl, trivial⟩
     ·have j3 := cdF h7 j3
      refine bA (aE rfl) h7 ?_
      iterate 3 refine bB rfl ?_
      refine aV (v := .bool (false)) (bL rfl rfl) (aZ (v := .bool (false)) rfl ?_)
      iterate 3 refine bB rfl ?_
      refine aV (v := .bool (false)) (bL rfl rfl) (aV (v := .bool (false)) (p_assign rfl) ?_)
      obtain rfl := si j3
      show At _ _ _ _ _ _
      exact n1 ⟨rfl, trivial⟩
    ·have j3 := cdF h6 j3
     refine bA (aE rfl) h6 ?_
     iterate 4 refine bB rfl ?_
     refine aV (v := .bool (false)) (bL rfl rfl) (aZ (v := .bool (false)) rfl ?_)
     iterate 3 refine bB rfl ?_
     refine aV (v := .bool (false)) (bL rfl rfl) (aZ (v := .bool (false)) rfl ?_)
     iterate 3 refine bB rfl ?_
     refine aV (v := .bool (false)) (bL rfl rfl) (aV (v := .bool (false)) (p_assign rfl) ?_)
     obtain rfl := si j3
     show At _ _ _ _ _ _
     exact n1 ⟨rfl, trivial⟩
   ·have j3 := cdF h5 j3
    refine bA (aE rfl) h5 ?_
    iterate 3 refine bB rfl ?_
    refine aV (v := .bool (false)) (bL rfl rfl) (aZ (v := .bool (false)) rfl ?_)
    iterate 4 refine bB rfl ?_
    refine aV (v := .bool (false)) (bL rfl rfl) (aZ (v := .bool (false)) rfl ?_)
    iterate 3 refine bB rfl ?_
    refine aV (v := .bool (false)) (bL rfl rfl) (aZ (v := .bool (false)) rfl ?_)
    iterate 3 refine bB rfl ?_
    refine aV (v := .bool (false)) (bL rfl rfl) (aV (v := .bool (false)) (p_assign rfl) ?_)
    obtain rfl := si j3
    show At _ _ _ _ _ _
    exact n1 ⟨rfl, trivial⟩
  ·have j3 := cdF h4 j3
   refine bA (aE rfl) h4 ?_
   iterate 3 refine bB rfl ?_
   refine aV (v := .bool (false)) (bL rfl rfl) (aZ (v := .bool (false)) rfl ?_)
   iterate 3 refine bB rfl ?_
   refine aV (v := .bool (false)) (bL rfl rfl) (aZ (v := .bool (false)) rfl ?_)
   iterate 4 refine bB rfl ?_
   refine aV (v := .bool (false)) (bL rfl rfl) (aZ (v := .bool (false)) rfl ?_)
   iterate 3 refine bB rfl ?_
   refine aV (v := .bool (false)) (bL rfl rfl) (aZ (v := .bool (false)) rfl ?_)
   iterate 3 refine bB rfl ?_
   refine aV (v := .bool (false)) (bL rfl rfl) (aV (v := .bool (false)) (p_assign rfl) ?_)
   obtain rfl := si j3
   show At _ _ _ _ _ _
   exact n1 ⟨rfl, trivial⟩
 obtain rfl := si H
 exact bN bk
noncomputable def p_impl_within (v0 : Int) (v1 : Int) (v2 : Int) : Option (Bool) := bd (cond (decide (v1 ≤ v0)) (some (decide (v0 ≤ v2))) (some (false))) fun b1 => some b1
theorem c_impl_within {r : Bool} (v0 : Int) (v1 : Int) (v2 : Int) (H : p_impl_within v0 v1 v2 = some r) : Fn' prog 52 #[.int .i64 (v0), .int .i64 (v1), .int .i64 (v2)] [] [] (ι := Unit) (fun _ => .bool (r)) (fun _ => []) (fun _ => []) := by
 refine cof (args := [_, _, _]) func52 ntmps52 fun c => ?_
 unfold p_impl_within at H
 refine sr (aH (v := .bool (false)) rfl (nl (bdo H fun b1 j2 H => (cU [(6, .bool (b1))] ?_ ?_))))
 ·refine cX [(0, .int .i64 (v0)), (1, .int .i64 (v1)), (2, .int .i64 (v2))] ⟨rfl, rfl, rfl, trivial⟩ (aZ rfl (aZ rfl (aV (p_geq rfl rfl) ?_)))
  rcases aK (decide (v1 ≤ v0)) with h3 | h3
  ·have j2 := cdT h3 j2
   refine bA (aE rfl) h3 (aW rfl (aE rfl) (aW rfl (aE rfl) (aW rfl (p_leq rfl rfl) (aV (bM rfl rfl) (aV (p_assign rfl) ?_)))))
   obtain rfl := si j2
   show At _ _ _ _ _ _
   exact n1 ⟨rfl, trivial⟩
  ·have j2 := cdF h3 j2
   refine bA (aE rfl) h3 ?_
   iterate 3 refine bB rfl ?_
   refine aV (v := .bool (false)) (bL rfl rfl) (aV (v := .bool (false)) (p_assign rfl) ?_)
   obtain rfl := si j2
   show At _ _ _ _ _ _
   exact n1 ⟨rfl, trivial⟩
 obtain rfl := si H
 exact bN bk
noncomputable def p_impl_NameOk_b0 (v0 : (List Tag)) (Q5 : Int) : Option ((Int) ⊕ (Unit ⊕ Bool)) := cond (decide (Q5 < (v0.length : Int))) (gd (ix Q5 v0.length) <| bd (bd (p_impl_tagOk (nth v0 Q5.toNat)) fun r18 => cond (!r18) (some (true)) (cond (decide (0 < Q5)) (gd (I64 (Q5 - 1)) <| gd (ix (Q5 - 1) v0.length) <| some (!sless ((nth v0 ((Q5 - 1).toNat)).1) ((nth v0 Q5.toNat).1))) (some (false)))) fun b16 => cond (b16) (some (.inr (.inr false))) (gd (I64 (Q5 + 1)) <| some (.inl (Q5 + 1)))) (some (.inr (.inl ())))
noncomputable def p_impl_NameOk (v0 : (List Tag)) : Option (Bool) := bd (lp (p_impl_NameOk_b0 v0) 0) <| sw (fun _ => bd (p_impl_within (v0.length : Int) 1 3) fun r27 => some r27) (fun q => some q)
theorem c_impl_NameOk {r : Bool} (v0 : (List Tag)) (x_v0 : Option Addr × Nat) (H : p_impl_NameOk v0 = some r) : Fn' prog 33 #[.slice x_v0.1 v0.length x_v0.2] [imm (.slice x_v0.1 v0.length x_v0.2) v0] [] (ι := Unit) (fun _ => .bool (r)) (fun _ => []) (fun _ => []) := by
 refine cof (args := [_]) func33 ntmps33 fun c => ?_
 unfold p_impl_NameOk at H
 refine sr (aH (v := .bool (false)) rfl (nl (aD (sr (aF rfl (aG (bP 36 dG rfl) (aF (v := .int .i64 (0)) rfl (nl (bdo H fun x1 hx2 H => (cT (Λ := Unit) H (fun _ _ => [(0, .slice x_v0.1 v0.length x_v0.2)]) (fun _ _ => []) ?_ ?_))))))))))
 ·refine aQ (cV hx2 () (fun Q5 _ => [(0, .slice x_v0.1 v0.length x_v0.2), (5, .slice x_v0.1 v0.length x_v0.2), (6, .int .i64 ((v0.length : Int))), (7, .int .i64 (Q5))]) (fun _ _ => []) bH ?_)
  rintro _ Q5 z6 t8 H1 hi9 hb10
  unfold p_impl_NameOk_b0 at H1
  refine sr (aG (cL rfl rfl) (nl (aD (cH H1 rfl (fun h13 H1 => ?_) (fun h13 H1 => ?_)))))
  ·refine bE (nT (aD (aQ (sr (aF rfl (gdo H1 fun h14 H1 => (aI (bT dG ty36 rfl rfl h14 rfl (aN (aL aR))) (aI (v := .agg #[.string ((nth v0 Q5.toNat).1), .string ((nth v0 Q5.toNat).2)]) (bW (i := Q5.toNat) ty36 rfl (aN (aL aR)) h14.lt) (f1 (bZ ty36) fun g15 => (aH rfl ?_))))))))))
   refine stb (cs' := [.string ((nth v0 Q5.toNat).1), .string ((nth v0 Q5.toNat).2)]) ty36 cQ (nl (bdo H1 fun b16 j17 H1 => (cU [(29, .bool (b16)), (0, .slice x_v0.1 v0.length x_v0.2), (5, .slice x_v0.1 v0.length x_v0.2), (6, .int .i64 ((v0.length : Int))), (7, .int .i64 (Q5))] ?_ ?_)))
   ·refine cW [(3, .int .i64 (Q5)), (4, .pointer (some ⟨g15, 0, none⟩)), (0, .slice x_v0.1 v0.length x_v0.2), (5, .slice x_v0.1 v0.length x_v0.2), (6, .int .i64 ((v0.length : Int))), (7, .int .i64 (Q5))] mixed (.inr (by kernel_rfl)) ⟨rfl, rfl, rfl, rfl, rfl, rfl, trivial⟩ rfl (aX (bG ty36 rfl aB rfl) (bdo j17 fun r18 h19 j17 => (aX (bK (c_impl_tagOk (nth v0 Q5.toNat) h19) rfl aO) (aV (cO rfl) ?_))))
    rcases aK (!r18) with h20 | h20
    ·have j17 := cdT h20 j17
     refine bA (aE rfl) h20 ?_
     iterate 13 refine bB rfl ?_
     refine aV (v := .bool (true)) (bM rfl rfl) ?_
     obtain rfl := si j17
     show At _ _ _ _ _ _
     exact n1 ⟨rfl, rfl, rfl, rfl, rfl, trivial⟩
    ·have j17 := cdF h20 j17
     refine bA (aE rfl) h20 (aW rfl (aE rfl) (aW rfl (cN rfl rfl) ?_))
     rcases aK (decide (0 < Q5)) with h21 | h21
     ·have j17 := cdT h21 j17
      refine Lin.f_ rfl (aE rfl) h21 (aW rfl (aE rfl) (aW rfl (aE rfl) (gdo j17 fun h22 j17 => (aW rfl (p_sub rfl rfl h22) (gdo j17 fun h23 j17 => (aY rfl (bT dG ty36 rfl rfl h23 rfl (aN (aL aR))) (aY rfl (bU (j := 0) ((Q5 - 1).toNat) fa36_0 rfl (aN (aL aR)) h23.lt rfl) (aY rfl (bV (i := (Q5 - 1).toNat) (j := 0) ty9 rfl (aN (aL aR)) h23.lt rfl) (aW rfl (bX fa36_0 rfl rfl) ?_)))))))))
      refine aY rfl (bF ty9 rfl aB rfl) (aW rfl (p_sgeq rfl rfl) (aW rfl (bM rfl rfl) (aV (bL rfl rfl) ?_)))
      obtain rfl := si j17
      show At _ _ _ _ _ _
      exact n1 ⟨rfl, rfl, rfl, rfl, rfl, trivial⟩
     ·have j17 := cdF h21 j17
      refine Lin.f_ rfl (aE rfl) h21 ?_
      iterate 9 refine bB rfl ?_
      refine aW (v := .bool (false)) rfl (bL rfl rfl) (aV (v := .bool (false)) (bL rfl rfl) ?_)
      obtain rfl := si j17
      show At _ _ _ _ _ _
      exact n1 ⟨rfl, rfl, rfl, rfl, rfl, trivial⟩
   refine cH H1 rfl (fun h24 H1 => ?_) (fun h24 H1 => ?_)
   ·refine sr (aH (v := .bool (false)) rfl (nl (bN (rB (rT (rT (rB (rT (rT (?_))))))))))
    obtain rfl := hb10 _ (sm H1)
    replace H := sw.r H
    obtain rfl := si H
    exact bk
   ·exact bE (nB (nT (aP (gdo H1 fun h25 H1 => (aG (bO rfl rfl h25) (aF rfl (aJ (nLI () (hi9 _ (sm H1)) bH))))))))
  ·exact cR (xT (xT (xE (nMI () (hb10 _ (sm H1)) bH))))
 ·rintro e26 y7 H
  refine nT (sr (aF rfl (aG (bP 36 dG rfl) (bdo H fun r27 h28 H => (aI (bK (c_impl_within (v0.length : Int) 1 3 h28) rfl aO) (aH rfl (nl ?_)))))))
  obtain rfl := si H
  exact bN bk
noncomputable def p_slices_Equal_Tag_Tag_b0 (v0 : (List Tag)) (v1 : (List Tag)) (Q6 : Int) : Option ((Int) ⊕ (Unit ⊕ Bool)) := cond (decide (Q6 < (v0.length : Int))) (gd (ix Q6 v0.length) <| gd (ix Q6 v1.length) <| cond (!decide (nth v0 Q6.toNat = nth v1 Q6.toNat)) (some (.inr (.inr false))) (gd (I64 (Q6 + 1)) <| some (.inl (Q6 + 1)))) (some (.inr (.inl ())))
noncomputable def p_slices_Equal_Tag_Tag (v0 : (List Tag)) (v1 : (List Tag)) : Option (Bool) := cond (!decide ((v0.length : Int) = (v1.length : Int))) (some false) (bd (lp (p_slices_Equal_Tag_Tag_b0 v0 v1) 0) <| sw (fun _ => some true) (fun q => some q))
theorem c_slices_Equal_Tag_Tag {r : Bool} (v0 : (List Tag)) (x_v0 : Option Addr × Nat) (v1 : (List Tag)) (x_v1 : Option Addr × Nat) (H : p_slices_Equal_Tag_Tag v0 v1 = some r) : Fn' prog 56 #[.slice x_v0.1 v0.length x_v0.2, .slice x_v1.1 v1.length x_v1.2] [imm (.slice x_v0.1 v0.length x_v0.2) v0, imm (.slice x_v1.1 v1.length x_v1.2) v1] [] (ι := Unit) (fun _ => .bool (r)) (fun _ => []) (fun _ => []) := by
 refine cof (args := [_, _]) func56 ntmps56 fun c => ?_
 unfold p_slices_Equal_Tag_Tag at H
 refine sr (aH (v := .bool (false)) rfl (nl (aD (sr (aF rfl (aG (bP 36 dG rfl) (aF rfl (aG (bP 36 dG rfl) (aG (p_neq rfl rfl) (nl (cH H rfl (fun h1 H => ?_) (fun h1 H => ?_))))))))))))
 ·refine sr (aH (v := .bool (false)) rfl (nl (bN (rT (?_)))))
  obtain rfl := si H
  exact bk
 ·refine bE (nT (aD (sr (aF rfl (aG (bP 36 dG rfl) (aF (v := .int .i64 (0)) rfl (nl (bdo H fun x2 hx3 H => (cT (Λ := Unit) H (fun _ _ => []) (fun _ _ => []) ?_ ?_)))))))))
  ·refine aQ (cV hx3 () (fun Q6 _ => [(0, .slice x_v0.1 v0.length x_v0.2), (1, .slice x_v1.1 v1.length x_v1.2), (12, .int .i64 ((v0.length : Int))), (13, .int .i64 (Q6))]) (fun _ _ => []) bH ?_)
   rintro _ Q6 z7 t9 H1 hi10 hb11
   unfold p_slices_Equal_Tag_Tag_b0 at H1
   refine sr (aG (cL rfl rfl) (nl (aD (cH H1 rfl (fun h14 H1 => ?_) (fun h14 H1 => ?_)))))
   ·refine bE (nT (aD (aQ (sr (aF rfl (aH rfl (nl (aD (cW [(5, .int .i64 (Q6)), (0, .slice x_v0.1 v0.length x_v0.2), (1, .slice x_v1.1 v1.length x_v1.2), (12, .int .i64 ((v0.length : Int))), (13, .int .i64 (Q6))] mixed (.inr (by kernel_rfl)) ⟨rfl, rfl, rfl, rfl, rfl, trivial⟩ rfl (aZ rfl (aZ rfl ?_)))))))))))
    refine gdo H1 fun h15 H1 => (aX (bT dG ty36 rfl rfl h15 rfl (aN (aL aR))) (aX (v := .agg #[.string ((nth v0 Q6.toNat).1), .string ((nth v0 Q6.toNat).2)]) (bW (i := Q6.toNat) ty36 rfl (aN (aL aR)) h15.lt) (aZ rfl (aZ rfl (gdo H1 fun h16 H1 => (aX (bT dG ty36 rfl rfl h16 rfl (aN (aL aR.s))) (aX (v := .agg #[.string ((nth v1 Q6.toNat).1), .string ((nth v1 Q6.toNat).2)]) (bW (i := Q6.toNat) ty36 rfl (aN (aL aR.s)) h16.lt) (aV (v := .bool (!decide (nth v0 Q6.toNat = nth v1 Q6.toNat))) (p_aneq (a := nth v0 Q6.toNat) (b := nth v1 Q6.toNat) ae36 rfl rfl rfl rfl) (nT (?_))))))))))
    refine cH H1 rfl (fun h17 H1 => ?_) (fun h17 H1 => ?_)
    ·refine sr (aH (v := .bool (false)) rfl (nl (bN (rB (rT (rT (rB (rT (rT (?_))))))))))
     obtain rfl := hb11 _ (sm H1)
     replace H := sw.r H
     obtain rfl := si H
     exact bk
    ·exact bE (nB (nT (aP (gdo H1 fun h18 H1 => (aG (bO rfl rfl h18) (aF rfl (aJ (nLI () (hi10 _ (sm H1)) bH))))))))
   ·exact cR (xT (xT (xE (nMI () (hb11 _ (sm H1)) bH))))
  ·rintro e19 y8 H
   refine nT (sr (aH (v := .bool (true)) rfl (nl ?_)))
   obtain rfl := si H
   exact bN bk
noncomputable def p_impl_numberOf_1 (v0 : (List Tag)) (k0 : (List Tag)) : Option (Bool) := bd (p_slices_Equal_Tag_Tag v0 k0) fun r1 => some r1
theorem c_impl_numberOf_1 {r : Bool} (v0 : (List Tag)) (x_v0 : Option Addr × Nat) (g_k0 : Nat) (k0 : (List Tag)) (x_k0 : Option Addr × Nat) (H : p_impl_numberOf_1 v0 k0 = some r) : Fn' prog 55 #[.slice x_v0.1 v0.length x_v0.2, .pointer (some ⟨g_k0, 0, none⟩)] [imm (.slice x_v0.1 v0.length x_v0.2) v0, imm (.slice x_k0.1 k0.length x_k0.2) k0] [box g_k0 46 [.slice x_k0.1 k0.length x_k0.2]] (ι := Unit) (fun _ => .bool (r)) (fun _ => []) (fun _ => [box g_k0 46 [.slice x_k0.1 k0.length x_k0.2]]) := by
 refine cof (args := [_, _]) func55 ntmps55 fun c => ?_
 unfold p_impl_numberOf_1 at H
 refine sr (aH (v := .bool (false)) rfl (nl (sr (aF rfl (aI (bF ty46 rfl aB rfl) (bdo H fun r1 h2 H => (aI (bK (c_slices_Equal_Tag_Tag v0 x_v0 k0 x_k0 h2) rfl (aC (aL aR) (aC (aL aR.s) aO))) (aH rfl (nl ?_)))))))))
 obtain rfl := si H
 exact bN (bk (.cons aA .nil))
noncomputable def p_slices_IndexFunc_Tag_Tag_numberOf_1_b0 (v0 : (List (List Tag))) (v1_0 : (List Tag)) (Q6 : Int) : Option ((Int) ⊕ (Unit ⊕ Int)) := cond (decide (Q6 < (v0.length : Int))) (gd (ix Q6 v0.length) <| bd (p_impl_numberOf_1 (nth v0 Q6.toNat) v1_0) fun r16 => cond (r16) (some (.inr (.inr Q6))) (gd (I64 (Q6 + 1)) <| some (.inl (Q6 + 1)))) (some (.inr (.inl ())))
noncomputable def p_slices_IndexFunc_Tag_Tag_numberOf_1 (v0 : (List (List Tag))) (v1_0 : (List Tag)) : Option (Int) := bd (lp (p_slices_IndexFunc_Tag_Tag_numberOf_1_b0 v0 v1_0) 0) <| sw (fun _ => some (-1)) (fun q => some q)
theorem c_slices_IndexFunc_Tag_Tag_numberOf_1 {r : Int} (v0 : (List (List Tag))) (x_v0 : Option Addr × Nat) (g_v1_0 : Nat) (v1_0 : (List Tag)) (x_v1_0 : Option Addr × Nat) (H : p_slices_IndexFunc_Tag_Tag_numberOf_1 v0 v1_0 = some r) : Fn' prog 54 #[.slice x_v0.1 v0.length x_v0.2, .func (.func 55) #[] #[.pointer (some ⟨g_v1_0, 0, none⟩)]] [imm (.slice x_v0.1 v0.length x_v0.2) v0, imm (.slice x_v1_0.1 v1_0.length x_v1_0.2) v1_0] [box g_v1_0 46 [.slice x_v1_0.1 v1_0.length x_v1_0.2]] (ι := Unit) (fun _ => .int .i64 (r)) (fun _ => []) (fun _ => [box g_v1_0 46 [.slice x_v1_0.1 v1_0.length x_v1_0.2]]) := by
 refine cof (args := [_, _]) func54 ntmps54 fun c => ?_
 unfold p_slices_IndexFunc_Tag_Tag_numberOf_1 at H
 refine bJ aR fun X1 => (sr (aH (v := .int .i64 (0)) rfl (nl (aD (sr (aF rfl (aG (bP 46 dA rfl) (aF (v := .int .i64 (0)) rfl (nl (bdo H fun x2 hx3 H => (cT (Λ := Unit) H (fun _ _ => []) (fun _ _ => [box g_v1_0 46 [.slice x_v1_0.1 v1_0.length x_v1_0.2]]) ?_ ?_)))))))))))
 ·refine aQ (cV hx3 () (fun Q6 _ => [(0, .slice x_v0.1 v0.length x_v0.2), (1, .func (.func 55) #[] #[.pointer (some ⟨g_v1_0, 0, none⟩)]), (7, .int .i64 ((v0.length : Int))), (8, .int .i64 (Q6))]) (fun _ _ => [box g_v1_0 46 [.slice x_v1_0.1 v1_0.length x_v1_0.2]]) (.cons aA .nil) ?_)
  rintro _ Q6 z7 t9 H1 hi10 hb11
  unfold p_slices_IndexFunc_Tag_Tag_numberOf_1_b0 at H1
  refine sr (aG (cL rfl rfl) (nl (aD (cH H1 rfl (fun h14 H1 => ?_) (fun h14 H1 => ?_)))))
  ·refine bE (nT (aD (aQ (sr (aF rfl (aH rfl (nl (sr (aF rfl (aF rfl (aF rfl ?_)))))))))))
   refine gdo H1 fun h15 H1 => (aI (bT dA ty46 rfl rfl h15 rfl (aL (aT aR))) (aI (bV (i := Q6.toNat) (j := 0) ty46 rfl (aL (aT aR)) h15.lt rfl) (bdo H1 fun r16 h17 H1 => (aI (v := .bool (r16)) (Ex.dyn (caps := [.pointer (some ⟨g_v1_0, 0, none⟩)]) (vs := [.slice ((X1 Q6.toNat).1) ((nth v0 Q6.toNat).length) ((X1 Q6.toNat).2.1)]) rfl rfl (q_callC (c_impl_numberOf_1 (nth v0 Q6.toNat) ((X1 Q6.toNat).1, (X1 Q6.toNat).2.1) g_v1_0 v1_0 x_v1_0 h17) (Solo.box bD) rfl (.cons aA .nil) (aC (aL (aS (aU aR h15.lt))) (aC (aL aR.s.s) aO)))) (nl (cH H1 rfl (fun h18 H1 => ?_) (fun h18 H1 => ?_)))))))
   ·refine sr (aF rfl (aH rfl (nl (bN (rB (rT (rT (rB (rT (rT (?_)))))))))))
    obtain rfl := hb11 _ (sm H1)
    replace H := sw.r H
    obtain rfl := si H
    exact bk (.cons aA .nil)
   ·exact bE (nB (nT (aP (gdo H1 fun h19 H1 => (aG (bO rfl rfl h19) (aF rfl (aJ (nLI () (hi10 _ (sm H1)) (.cons aA .nil)))))))))
  ·exact cR (xT (xT (xE (nMI () (hb11 _ (sm H1)) (.cons aA .nil)))))
 ·rintro e20 y8 H
  refine nT (sr (aH (v := .int .i64 (-1)) rfl (nl ?_)))
  obtain rfl := si H
  exact bN (bk (.cons aA .nil))
noncomputable def p_impl_numberOf (v0 : (List (List Tag))) (v1 : (List Tag)) : Option (Int) := bd (p_slices_IndexFunc_Tag_Tag_numberOf_1 v0 v1) fun r3 => gd (I64 (r3 + 1)) <| some (r3 + 1)
theorem c_impl_numberOf {r : Int} (v0 : (List (List Tag))) (x_v0 : Option Addr × Nat) (v1 : (List Tag)) (x_v1 : Option Addr × Nat) (H : p_impl_numberOf v0 v1 = some r) : Fn' prog 43 #[.slice x_v0.1 v0.length x_v0.2, .slice x_v1.1 v1.length x_v1.2] [imm (.slice x_v0.1 v0.length x_v0.2) v0, imm (.slice x_v1.1 v1.length x_v1.2) v1] [] (ι := Unit) (fun _ => .int .i64 (r)) (fun _ => []) (fun _ => []) := by
 refine cof (args := [_, _]) func43 ntmps43 fun c => ?_
 unfold p_impl_numberOf at H
 refine bJ aR fun X1 => (sr (f1 (bY (t := 46) rfl) fun g2 => (aH (v := .int .i64 (0)) rfl (nl (sr (aF rfl (aG (v := .func (.func 55) #[] #[.pointer (some ⟨g2, 0, none⟩)]) (p_mkfunc (vs := [.pointer (some ⟨g2, 0, none⟩)]) rfl rfl) (bdo H fun r3 h4 H => (aI (q_callC (c_slices_IndexFunc_Tag_Tag_numberOf_1 v0 x_v0 g2 v1 x_v1 h4) (Solo.box bD) rfl (.cons aA .nil) (aC (aL (aS aR)) (aC (aL aR.s.s) aO))) (gdo H fun h5 H => ?_))))))))))
 refine aG (bO rfl rfl h5) (aH rfl (nl ?_))
 obtain rfl := si H
 exact bN bk
noncomputable def p_impl_namesOk_b0 (v0 : (List (List Tag))) (Q6 : Int) : Option ((Int) ⊕ (Unit ⊕ Bool)) := cond (decide (Q6 < (v0.length : Int))) (gd (ix Q6 v0.length) <| bd (bd (p_impl_NameOk (nth v0 Q6.toNat)) fun r18 => cond (!r18) (some (true)) (bd (p_impl_numberOf v0 (nth v0 Q6.toNat)) fun r21 => gd (I64 (Q6 + 1)) <| some (!decide (r21 = (Q6 + 1))))) fun b16 => cond (b16) (some (.inr (.inr false))) (gd (I64 (Q6 + 1)) <| some (.inl (Q6 + 1)))) (some (.inr (.inl ())))
noncomputable def p_impl_namesOk (v0 : (List (List Tag))) : Option (Bool) := bd (lp (p_impl_namesOk_b0 v0) 0) <| sw (fun _ => some (decide ((v0.length : Int) ≤ 6))) (fun q => some q)
theorem c_impl_namesOk {r : Bool} (v0 : (List (List Tag))) (x_v0 : Option Addr × Nat) (H : p_impl_namesOk v0 = some r) : Fn' prog 27 #[.slice x_v0.1 v0.length x_v0.2] [imm (.slice x_v0.1 v0.length x_v0.2) v0] [] (ι := Unit) (fun _ => .bool (r)) (fun _ => []) (fun _ => []) := by
 refine cof (args := [_]) func27 ntmps27 fun c => ?_
 unfold p_impl_namesOk at H
 refine bJ aR fun X1 => (sr (aH (v := .bool (false)) rfl (nl (aD (sr (aF rfl (aG (bP 46 dA rfl) (aF (v := .int .i64 (0)) rfl (nl (bdo H fun x2 hx3 H => (cT (Λ := Unit) H (fun _ _ => [(0, .slice x_v0.1 v0.length x_v0.2)]) (fun _ _ => []) ?_ ?_)))))))))))
 ·refine aQ (cV hx3 () (fun Q6 _ => [(0, .slice x_v0.1 v0.length x_v0.2), (5, .slice x_v0.1 v0.length x_v0.2), (6, .int .i64 ((v0.length : Int))), (7, .int .i64 (Q6))]) (fun _ _ => []) bH ?_)
  rintro _ Q6 z7 t9 H1 hi10 hb11
  unfold p_impl_namesOk_b0 at H1
  refine sr (aG (cL rfl rfl) (nl (aD (cH H1 rfl (fun h14 H1 => ?_) (fun h14 H1 => ?_)))))
  ·refine bE (nT (aD (aQ (sr (aF rfl (gdo H1 fun h15 H1 => (aI (bT dA ty46 rfl rfl h15 rfl (aL (aT aR))) (aI (bV (i := Q6.toNat) (j := 0) ty46 rfl (aL (aT aR)) h15.lt rfl) (aH rfl (aH rfl (nl ?_)))))))))))
   refine bdo H1 fun b16 j17 H1 => (cU [(22, .bool (b16)), (0, .slice x_v0.1 v0.length x_v0.2), (5, .slice x_v0.1 v0.length x_v0.2), (6, .int .i64 ((v0.length : Int))), (7, .int .i64 (Q6))] ?_ ?_)
   ·refine cX [(4, .slice ((X1 Q6.toNat).1) ((nth v0 Q6.toNat).length) ((X1 Q6.toNat).2.1)), (3, .int .i64 (Q6)), (0, .slice x_v0.1 v0.length x_v0.2), (5, .slice x_v0.1 v0.length x_v0.2), (6, .int .i64 ((v0.length : Int))), (7, .int .i64 (Q6))] ⟨rfl, rfl, rfl, rfl, rfl, rfl, trivial⟩ (aZ rfl (bdo j17 fun r18 h19 j17 => (aX (bK (c_impl_NameOk (nth v0 Q6.toNat) ((X1 Q6.toNat).1, (X1 Q6.toNat).2.1) h19) rfl (aC (aL (aS (aU aR h15.lt))) aO)) (aV (cO rfl) ?_))))
    rcases aK (!r18) with h20 | h20
    ·have j17 := cdT h20 j17
     refine bA (aE rfl) h20 ?_
     iterate 6 refine bB rfl ?_
     refine aV (v := .bool (true)) (bM rfl rfl) ?_
     obtain rfl := si j17
     show At _ _ _ _ _ _
     exact n1 ⟨rfl, rfl, rfl, rfl, rfl, trivial⟩
    ·have j17 := cdF h20 j17
     refine bA (aE rfl) h20 (aW rfl (aE rfl) (aW rfl (aE rfl) (bdo j17 fun r21 h22 j17 => (aY rfl (bK (c_impl_numberOf v0 x_v0 (nth v0 Q6.toNat) ((X1 Q6.toNat).1, (X1 Q6.toNat).2.1) h22) rfl (aC (aL (aS aR)) (aC (aL (aS (aU aR h15.lt))) aO))) (aW rfl (aE rfl) (gdo j17 fun h23 j17 => (aW rfl (bO rfl rfl h23) (aW rfl (p_neq rfl rfl) (aV (bL rfl rfl) ?_)))))))))
     obtain rfl := si j17
     show At _ _ _ _ _ _
     exact n1 ⟨rfl, rfl, rfl, rfl, rfl, trivial⟩
   refine cH H1 rfl (fun h24 H1 => ?_) (fun h24 H1 => ?_)
   ·refine sr (aH (v := .bool (false)) rfl (nl (bN (rB (rT (rT (rB (rT (rT (?_))))))))))
    obtain rfl := hb11 _ (sm H1)
    replace H := sw.r H
    obtain rfl := si H
    exact bk
   ·exact bE (nB (nT (aP (gdo H1 fun h25 H1 => (aG (bO rfl rfl h25) (aF rfl (aJ (nLI () (hi10 _ (sm H1)) bH))))))))
  ·exact cR (xT (xT (xE (nMI () (hb11 _ (sm H1)) bH))))
 ·rintro e26 y8 H
  refine nT (sr (aF rfl (aG (bP 46 dA rfl) (aG (p_leq rfl rfl) (aH rfl (nl ?_))))))
  obtain rfl := si H
  exact bN bk
noncomputable def p_impl_cloneNames_b0 (v0 : (List (List Tag))) (Q8 : (List (List Tag)) × Int) : Option (((List (List Tag)) × Int) ⊕ ((List (List Tag)))) := cond (decide (Q8.2 < (v0.length : Int))) (gd (ix Q8.2 v0.length) <| gd (room (([] : List Tag).length + (nth v0 Q8.2.toNat).length)) <| gd (room (Q8.1.length + 1)) <| gd (I64 (Q8.2 + 1)) <| some (.inl ((Q8.1 ++ [([] : List Tag) ++ (nth v0 Q8.2.toNat)]), Q8.2 + 1))) (some (.inr Q8.1))
noncomputable def p_impl_cloneNames (v0 : (List (List Tag))) : Option ((List (List Tag))) := bd (lp (p_impl_cloneNames_b0 v0) (([] : List (List Tag)), 0)) fun x4 => some x4
theorem c_impl_cloneNames {r : (List (List Tag))} (v0 : (List (List Tag))) (x_v0 : Option Addr × Nat) (H : p_impl_cloneNames v0 = some r) : Fn' prog 44 #[.slice x_v0.1 v0.length x_v0.2] [imm (.slice x_v0.1 v0.length x_v0.2) v0] [] (ι := Option Addr × Nat) (fun x => .slice x.1 r.length x.2) (fun _ => []) (fun x => [tree (.slice x.1 r.length x.2) r]) := by
 refine cof (args := [_]) func44 ntmps44 fun c => ?_
 unfold p_impl_cloneNames at H
 refine bJ aR fun X1 => (sr (aH (v := .slice none 0 0) rfl (nl (sr (f2 (e_lit0 (List Tag) dA ty46) fun a2 c3 => (aH rfl (nl (aD (sr (aF rfl (aG (bP 46 dA rfl) (aF (v := .int .i64 (0)) rfl (nl ?_)))))))))))))
 refine bdo H fun x4 hx5 H => (cS (ι := Option Addr × Nat) (fun ψ => [(3, .slice ψ.1 x4.length ψ.2)]) (fun ψ => [tree (.slice ψ.1 x4.length ψ.2) x4]) ?_ ?_)
 ·refine aQ (cV hx5 (a2, c3) (fun Q8 z9 => [(3, .slice z9.1 Q8.1.length z9.2), (7, .slice x_v0.1 v0.length x_v0.2), (8, .int .i64 ((v0.length : Int))), (9, .int .i64 (Q8.2))]) (fun Q8 z9 => [tree (.slice z9.1 Q8.1.length z9.2) Q8.1]) (.cons aA .nil) ?_)
  rintro _ Q8 z9 t11 H1 hi12 hb13
  unfold p_impl_cloneNames_b0 at H1
  refine sr (aG (cL rfl rfl) (nl (aD (cH H1 rfl (fun h16 H1 => ?_) (fun h16 H1 => ?_)))))
  ·refine bE (nT (aD (aQ (sr (gdo H1 fun h17 H1 => (aI (bT dA ty46 rfl rfl h17 rfl (aL (aT aR))) (aI (bV (i := Q8.2.toNat) (j := 0) ty46 rfl (aL (aT aR)) h17.lt rfl) (aH rfl (nl (aP (aF rfl ?_)))))))))))
   refine f2 (e_lit0 Tag dG ty36) fun a18 c19 => (aF rfl (gdo H1 fun h22 H1 => (f2 (e_appF (l := ([] : List Tag)) (k := nth v0 Q8.2.toNat) (α := Tag) dG ty36 rfl rfl (h22.b (by decide)) h22.x (.cons aA .nil) (aL (aS (aU aR h17.lt)))) fun a20 c21 => (f1 (e_lit (vs := [(0, .slice a20 ((([] : List Tag) ++ (nth v0 Q8.2.toNat)).length) c21)]) [.slice a20 ((([] : List Tag) ++ (nth v0 Q8.2.toNat)).length) c21] dA ty46 rfl (by decide) (by decide) (by kernel_rfl)) fun g23 => (gdo H1 fun h26 H1 => (f2 (e_app1 (l := Q8.1) (α := (List Tag)) (([] : List Tag) ++ (nth v0 Q8.2.toNat)) (a20, c21) dA ty46 rfl rfl (h26.b (by decide)) h26.x rfl (cP _) (.cons dl2 (.cons aA (.cons aA .nil)))) fun a24 c25 => (aH rfl (aJ (nB (nT (aP ?_)))))))))))
   exact gdo H1 fun h27 H1 => (aG (bO rfl rfl h27) (aF rfl (aJ (nLI (a24, c25) (hi12 _ (sm H1)) (.cons aA .nil)))))
  ·refine cR (xT (xT (xE (?_))))
   obtain rfl := hb13 _ (sm H1)
   exact nMC (z9.1, z9.2) ⟨rfl, trivial⟩ bQ (.cons aA .nil)
 ·intro y10
  show At _ _ [(3, .slice y10.1 x4.length y10.2)] _ [tree (.slice y10.1 x4.length y10.2) x4] _
  refine nT (sr (aF rfl (aH rfl (nl (bN ?_)))))
  obtain rfl := si H
  exact back1 y10 rfl (ResV.tmp (v := .slice y10.1 x4.length y10.2) rfl) rfl cG (.cons aA .nil)
noncomputable def p_impl_indexOf_1 (v0 : Post) (k0 : Tag) : Option (Bool) := some (decide (v0.1 = k0))
theorem c_impl_indexOf_1 {r : Bool} (v0 : Post) (x_v0 : (Unit × Unit) × (Option Addr × Nat)) (g_k0 : Nat) (k0 : Tag) (H : p_impl_indexOf_1 v0 k0 = some r) : Fn' prog 46 #[.agg #[.string (v0.1.1), .string (v0.1.2), .slice x_v0.2.1 v0.2.length x_v0.2.2], .pointer (some ⟨g_k0, 0, none⟩)] [imm (.slice x_v0.2.1 v0.2.length x_v0.2.2) v0.2] [box g_k0 36 [.string (k0.1), .string (k0.2)]] (ι := Unit) (fun _ => .bool (r)) (fun _ => []) (fun _ => [box g_k0 36 [.string (k0.1), .string (k0.2)]]) := by
 refine cof (args := [_, _]) func46 ntmps46 fun c => ?_
 unfold p_impl_indexOf_1 at H
 refine sr (f1 (bY (t := 52) rfl) fun g1 => (aH (v := .bool (false)) rfl (nl (sr (aG (bX fa52_0 rfl rfl) (aI (v := .agg #[.string (v0.1.1), .string (v0.1.2)]) (q_ldbP [.string (v0.1.1), .string (v0.1.2)] ty36 rfl aB rfl rfl) (aI (bG ty36 rfl hs1 rfl) (aG (v := .bool (decide (v0.1 = k0))) (p_aeql (a := v0.1) (b := k0) ae36 rfl rfl rfl rfl) (aH rfl (nl ?_))))))))))
 obtain rfl := si H
 exact bN (bk (.cons dl1 .nil))
noncomputable def p_slices_IndexFunc_Post_Post_indexOf_1_b0 (v0 : (List Post)) (v1_0 : Tag) (Q6 : Int) : Option ((Int) ⊕ (Unit ⊕ Int)) := cond (decide (Q6 < (v0.length : Int))) (gd (ix Q6 v0.length) <| bd (p_impl_indexOf_1 (nth v0 Q6.toNat) v1_0) fun r16 => cond (r16) (some (.inr (.inr Q6))) (gd (I64 (Q6 + 1)) <| some (.inl (Q6 + 1)))) (some (.inr (.inl ())))
noncomputable def p_slices_IndexFunc_Post_Post_indexOf_1 (v0 : (List Post)) (v1_0 : Tag) : Option (Int) := bd (lp (p_slices_IndexFunc_Post_Post_indexOf_1_b0 v0 v1_0) 0) <| sw (fun _ => some (-1)) (fun q => some q)
theorem c_slices_IndexFunc_Post_Post_indexOf_1 {r : Int} (v0 : (List Post)) (x_v0 : Option Addr × Nat) (g_v1_0 : Nat) (v1_0 : Tag) (H : p_slices_IndexFunc_Post_Post_indexOf_1 v0 v1_0 = some r) : Fn' prog 45 #[.slice x_v0.1 v0.length x_v0.2, .func (.func 46) #[] #[.pointer (some ⟨g_v1_0, 0, none⟩)]] [imm (.slice x_v0.1 v0.length x_v0.2) v0] [box g_v1_0 36 [.string (v1_0.1), .string (v1_0.2)]] (ι := Unit) (fun _ => .int .i64 (r)) (fun _ => []) (fun _ => [box g_v1_0 36 [.string (v1_0.1), .string (v1_0.2)]]) := by
 refine cof (args := [_, _]) func45 ntmps45 fun c => ?_
 unfold p_slices_IndexFunc_Post_Post_indexOf_1 at H
 refine bJ aR fun X1 => (sr (aH (v := .int .i64 (0)) rfl (nl (aD (sr (aF rfl (aG (bP 52 dB rfl) (aF (v := .int .i64 (0)) rfl (nl (bdo H fun x2 hx3 H => (cT (Λ := Unit) H (fun _ _ => []) (fun _ _ => [box g_v1_0 36 [.string (v1_0.1), .string (v1_0.2)]]) ?_ ?_)))))))))))
 ·refine aQ (cV hx3 () (fun Q6 _ => [(0, .slice x_v0.1 v0.length x_v0.2), (1, .func (.func 46) #[] #[.pointer (some ⟨g_v1_0, 0, none⟩)]), (7, .int .i64 ((v0.length : Int))), (8, .int .i64 (Q6))]) (fun _ _ => [box g_v1_0 36 [.string (v1_0.1), .string (v1_0.2)]]) (.cons aA .nil) ?_)
  rintro _ Q6 z7 t9 H1 hi10 hb11
  unfold p_slices_IndexFunc_Post_Post_indexOf_1_b0 at H1
  refine sr (aG (cL rfl rfl) (nl (aD (cH H1 rfl (fun h14 H1 => ?_) (fun h14 H1 => ?_)))))
  ·refine bE (nT (aD (aQ (sr (aF rfl (aH rfl (nl (sr (aF rfl (aF rfl (aF rfl ?_)))))))))))
   refine gdo H1 fun h15 H1 => (aI (bT dB ty52 rfl rfl h15 rfl (aL (aT aR))) (aI (v := .agg #[.string (((nth v0 Q6.toNat).1).1), .string (((nth v0 Q6.toNat).1).2), .slice (((X1 Q6.toNat).2).1) (((nth v0 Q6.toNat).2).length) (((X1 Q6.toNat).2).2.1)]) (bW (i := Q6.toNat) ty52 rfl (aL (aT aR)) h15.lt) (bdo H1 fun r16 h17 H1 => (aI (v := .bool (r16)) (Ex.dyn (caps := [.pointer (some ⟨g_v1_0, 0, none⟩)]) (vs := [.agg #[.string (((nth v0 Q6.toNat).1).1), .string (((nth v0 Q6.toNat).1).2), .slice (((X1 Q6.toNat).2).1) (((nth v0 Q6.toNat).2).length) (((X1 Q6.toNat).2).2.1)]]) rfl rfl (q_callC (c_impl_indexOf_1 (nth v0 Q6.toNat) (((), ()), (((X1 Q6.toNat).2).1, ((X1 Q6.toNat).2).2.1)) g_v1_0 v1_0 h17) (Solo.box bD) rfl (.cons aA .nil) (aC (aL (aS (Ent.dsnd (aU aR h15.lt)))) aO))) (nl (cH H1 rfl (fun h18 H1 => ?_) (fun h18 H1 => ?_)))))))
   ·refine sr (aF rfl (aH rfl (nl (bN (rB (rT (rT (rB (rT (rT (?_)))))))))))
    obtain rfl := hb11 _ (sm H1)
    replace H := sw.r H
    obtain rfl := si H
    exact bk (.cons aA .nil)
   ·exact bE (nB (nT (aP (gdo H1 fun h19 H1 => (aG (bO rfl rfl h19) (aF rfl (aJ (nLI () (hi10 _ (sm H1)) (.cons aA .nil)))))))))
  ·exact cR (xT (xT (xE (nMI () (hb11 _ (sm H1)) (.cons aA .nil)))))
 ·rintro e20 y8 H
  refine nT (sr (aH (v := .int .i64 (-1)) rfl (nl ?_)))
  obtain rfl := si H
  exact bN (bk (.cons aA .nil))
noncomputable def p_cmp_isNaN_string (v0 : ByteArray) : Option (Bool) := some (!decide (v0 = v0))
theorem c_cmp_isNaN_string {r : Bool} (v0 : ByteArray) (H : p_cmp_isNaN_string v0 = some r) : Fn' prog 59 #[.string (v0)] [] [] (ι := Unit) (fun _ => .bool (r)) (fun _ => []) (fun _ => []) := by
 refine cof (args := [_]) func59 ntmps59 fun c => ?_
 unfold p_cmp_isNaN_string at H
 refine sr (aH (v := .bool (false)) rfl (nl (sr (aF rfl (aF rfl (aG (p_sneq rfl rfl) (aH rfl (nl ?_))))))))
 obtain rfl := si H
 exact bN bk
noncomputable def p_cmp_Compare_string (v0 : ByteArray) (v1 : ByteArray) : Option (Int) := bd (p_cmp_isNaN_string v0) fun r1 => bd (p_cmp_isNaN_string v1) fun r3 => cond (r1) (cond (r3) (some 0) (some (-1))) (cond (r3) (some 1) (cond (sless v0 v1) (some (-1)) (cond (!(sless v0 v1 || decide (v0 = v1))) (some 1) (some 0))))
theorem c_cmp_Compare_string {r : Int} (v0 : ByteArray) (v1 : ByteArray) (H : p_cmp_Compare_string v0 v1 = some r) : Fn' prog 50 #[.string (v0), .string (v1)] [] [] (ι := Unit) (fun _ => .int .i64 (r)) (fun _ => []) (fun _ => []) := by
 refine cof (args := [_, _]) func50 ntmps50 fun c => ?_
 unfold p_cmp_Compare_string at H
 refine sr (aH (v := .int .i64 (0)) rfl (nl (sr (aF rfl (bdo H fun r1 h2 H => (aI (bK (c_cmp_isNaN_string v0 h2) rfl aO) (aH rfl (nl (sr (aF rfl (bdo H fun r3 h4 H => ?_)))))))))))
 refine aI (bK (c_cmp_isNaN_string v1 h4) rfl aO) (aH rfl (nl (aD (sr (aF rfl (nl (cH H rfl (fun h5 H => ?_) (fun h5 H => ?_))))))))
 ·refine aD (sr (aF rfl (nl (cH H rfl (fun h6 H => ?_) (fun h6 H => ?_)))))
  ·refine sr (aH (v := .int .i64 (0)) rfl (nl (bN (rT (rT (?_))))))
   obtain rfl := si H
   exact bk
  ·refine bE (nT (sr (aH (v := .int .i64 (-1)) rfl (nl (bN (rT (?_)))))))
   obtain rfl := si H
   exact bk
 ·refine bE (nT (aD (sr (aF rfl (nl (cH H rfl (fun h7 H => ?_) (fun h7 H => ?_)))))))
  ·refine sr (aH (v := .int .i64 (1)) rfl (nl (bN (rT (?_)))))
   obtain rfl := si H
   exact bk
  ·refine bE (nT (aD (sr (aF rfl (aF rfl (aG (p_slss rfl rfl) (nl (cH H rfl (fun h8 H => ?_) (fun h8 H => ?_)))))))))
   ·refine sr (aH (v := .int .i64 (-1)) rfl (nl (bN (rT (?_)))))
    obtain rfl := si H
    exact bk
   ·refine bE (nT (aD (sr (aF rfl (aF rfl (aG (p_sgtr rfl rfl) (nl (cH H rfl (fun h9 H => ?_) (fun h9 H => ?_)))))))))
    ·refine sr (aH (v := .int .i64 (1)) rfl (nl (bN (rT (?_)))))
     obtain rfl := si H
     exact bk
    ·refine bE (nT (sr (aH (v := .int .i64 (0)) rfl (nl ?_))))
     obtain rfl := si H
     exact bN bk
noncomputable def p_cmp_Or_int_b0 (v0 : (List Int)) (Q5 : Int) : Option ((Int) ⊕ (Unit ⊕ Int)) := cond (decide (Q5 < (v0.length : Int))) (gd (ix Q5 v0.length) <| cond (!decide ((nth v0 Q5.toNat) = 0)) (some (.inr (.inr (nth v0 Q5.toNat)))) (gd (I64 (Q5 + 1)) <| some (.inl (Q5 + 1)))) (some (.inr (.inl ())))
noncomputable def p_cmp_Or_int (v0 : (List Int)) : Option (Int) := bd (lp (p_cmp_Or_int_b0 v0) 0) <| sw (fun _ => some 0) (fun q => some q)
theorem c_cmp_Or_int {r : Int} (v0 : (List Int)) (x_v0 : Option Addr × Nat) (H : p_cmp_Or_int v0 = some r) : Fn' prog 49 #[.slice x_v0.1 v0.length x_v0.2] [imm (.slice x_v0.1 v0.length x_v0.2) v0] [] (ι := Unit) (fun _ => .int .i64 (r)) (fun _ => []) (fun _ => []) := by
 refine cof (args := [_]) func49 ntmps49 fun c => ?_
 unfold p_cmp_Or_int at H
 refine sr (aH (v := .int .i64 (0)) rfl (nl (sr (aH (v := .int .i64 (0)) rfl (nl (aD (sr (aF rfl (aG (bP 3 dE rfl) (aF (v := .int .i64 (0)) rfl (nl (bdo H fun x1 hx2 H => (cT (Λ := Unit) H (fun _ _ => [(3, .int .i64 (0))]) (fun _ _ => []) ?_ ?_)))))))))))))
 ·refine aQ (cV hx2 () (fun Q5 _ => [(3, .int .i64 (0)), (6, .slice x_v0.1 v0.length x_v0.2), (7, .int .i64 ((v0.length : Int))), (8, .int .i64 (Q5))]) (fun _ _ => []) bH ?_)
  rintro _ Q5 z6 t8 H1 hi9 hb10
  unfold p_cmp_Or_int_b0 at H1
  refine sr (aG (cL rfl rfl) (nl (aD (cH H1 rfl (fun h13 H1 => ?_) (fun h13 H1 => ?_)))))
  ·refine bE (nT (aD (aQ (sr (gdo H1 fun h14 H1 => (aI (bT dE ty3 rfl rfl h14 rfl (aN (aL aR))) (aI (bV (i := Q5.toNat) (j := 0) ty3 rfl (aN (aL aR)) h14.lt rfl) (aH rfl (nl (sr (aF rfl ?_)))))))))))
   refine aF (v := .int .i64 (0)) rfl (aG (p_neq rfl rfl) (nl (cH H1 rfl (fun h15 H1 => ?_) (fun h15 H1 => ?_))))
   ·refine sr (aF rfl (aH rfl (nl (bN (rB (rT (rT (rB (rT (rT (?_)))))))))))
    obtain rfl := hb10 _ (sm H1)
    replace H := sw.r H
    obtain rfl := si H
    exact bk
   ·exact bE (nB (nT (aP (gdo H1 fun h16 H1 => (aG (bO rfl rfl h16) (aF rfl (aJ (nLI () (hi9 _ (sm H1)) bH))))))))
  ·exact cR (xT (xT (xE (nMI () (hb10 _ (sm H1)) bH))))
 ·rintro e17 y7 H
  refine nT (sr (aF (v := .int .i64 (0)) rfl (aH (v := .int .i64 (0)) rfl (nl ?_))))
  obtain rfl := si H
  exact bN bk
noncomputable def p_impl_indexOf_2 (v0 : PostH) (v1 : PostH) : Option (Int) := bd (p_cmp_Compare_string v0.1.1 v1.1.1) fun r3 => bd (p_cmp_Compare_string v0.1.2 v1.1.2) fun r5 => bd (p_cmp_Or_int ([r3, r5] : List Int)) fun r9 => some r9
theorem c_impl_indexOf_2 {r : Int} (v0 : PostH) (v1 : PostH) (H : p_impl_indexOf_2 v0 v1 = some r) : Fn' prog 48 #[.agg #[.string (v0.1.1), .string (v0.1.2), v0.2.1], .agg #[.string (v1.1.1), .string (v1.1.2), v1.2.1]] [] [] (ι := Unit) (fun _ => .int .i64 (r)) (fun _ => []) (fun _ => []) := by
 refine cof (args := [_, _]) func48 ntmps48 fun c => ?_
 unfold p_impl_indexOf_2 at H
 refine sr (f1 (bY (t := 52) rfl) fun g1 => (f1 (bY (t := 52) rfl) fun g2 => (aH (v := .int .i64 (0)) rfl (nl (aD (tNwS [(3, .pointer (some ⟨g2, 0, none⟩)), (2, .pointer (some ⟨g1, 0, none⟩))] 1 [0, 1, 2, 3, 4, 5, 6, 7, 8, 9, 10, 11, 12, 13, 14, 15, 16] [14] [] mixed (by kernel_rfl) (by decide) cY ⟨rfl, rfl, trivial⟩ rfl okNil (w_p rfl (bX fa52_0 rfl rfl) (w_p rfl (bX fa36_0 rfl rfl) ?_))))))))
 refine w_o rfl (fun F => (bF ty9 rfl (hs1.app F) rfl)) (w_p rfl (bX fa52_0 rfl rfl) (w_p rfl (bX fa36_0 rfl rfl) ?_))
 refine w_o rfl (fun F => (bF ty9 rfl (aB.app F) rfl)) (bdo H fun r3 h4 H => ?_)
 refine w_o rfl (fun F => (bK (c_cmp_Compare_string v0.1.1 v1.1.1 h4) rfl aO)) (w_p rfl (bX fa52_0 rfl rfl) (w_p rfl (bX fa36_1 rfl rfl) ?_))
 refine w_o rfl (fun F => (bF ty9 rfl (hs1.app F) rfl)) (w_p rfl (bX fa52_0 rfl rfl) (w_p rfl (bX fa36_1 rfl rfl) ?_))
 refine w_o rfl (fun F => (bF ty9 rfl (aB.app F) rfl)) (bdo H fun r5 h6 H => ?_)
 refine w_o rfl (fun F => (bK (c_cmp_Compare_string v0.1.2 v1.1.2 h6) rfl aO)) (cD rfl (by decide) rfl cI rfl (n_litT (α := Int) (vs := [(0, .int .i64 (r3)), (1, .int .i64 (r5))]) [r3, r5] rfl (fun _ => rfl) (fun _ _ => by repeat constructor) dE ty3 rfl (by decide) (by decide) (by kernel_rfl)) ?_)
 rintro _ _ _ ⟨a7, c8, rfl, rfl, rfl⟩
 refine ⟨(aM (by kernel_rfl) (bS rfl rfl (fun F => (bF ty9 rfl (hs1.app F) rfl)) (bS rfl rfl (fun F => (bF ty9 rfl (hs2.app F) rfl)) (aM (by kernel_rfl) (bS rfl rfl (fun F => (bF ty9 rfl (hs1.app F) rfl)) (bS rfl rfl (fun F => (bF ty9 rfl (hs2.app F) rfl)) bR)))))), ?_⟩
 refine bdo H fun r9 h10 H => ?_
 refine w_o rfl (fun F => (bK (c_cmp_Or_int ([r3, r5] : List Int) (a7, c8) h10) rfl (aC (bI (aB.app F)) aO))) (w_p rfl (p_assign rfl) (cE (nT (?_))))
 obtain rfl := si H
 exact bN bk
noncomputable def cmS (x y : ByteArray) : Int := if sless x y then -1 else if sless y x then 1 else 0
theorem e_cmpS (x y : ByteArray) : p_cmp_Compare_string x y = some (cmS x y) := by
 unfold p_cmp_Compare_string p_cmp_isNaN_string cmS
 simp only [bd_some, decide_true, Bool.not_true, cond_false]
 cases h : sless x y with
 | true => simp
 | false =>
  cases h' : sless y x with
  | true =>
   have : x ≠ y := fun e => by subst e; rw [h] at h'; cases h'
   simp [this]
  | false =>
   have := sless_anti h h'
   simp [this]
noncomputable def cmH (x y : PostH) : Int := if cmS x.1.1 y.1.1 = 0 then cmS x.1.2 y.1.2 else cmS x.1.1 y.1.1
theorem e_cmpH (x y : PostH) : p_impl_indexOf_2 x y = some (cmH x y) := by
 unfold p_impl_indexOf_2 cmH
 simp only [e_cmpS, bd_some]
 have key : ∀ a b : Int, p_cmp_Or_int [a, b] = some (if a = 0 then b else a) := fun a b => by
  unfold p_cmp_Or_int
  by_cases ha : a = 0
  ·subst ha
   rw [lp.step (s' := 1) (by unfold p_cmp_Or_int_b0; simp [gd, ix, I64, nth])]
   by_cases hb : b = 0
   ·subst hb
    rw [lp.step (s' := 2) (by unfold p_cmp_Or_int_b0; simp [gd, ix, I64, nth])]
    rw [lp.stop (e := .inl ()) (by unfold p_cmp_Or_int_b0; simp)]
    rfl
   ·rw [lp.stop (e := .inr b) (by unfold p_cmp_Or_int_b0; simp [gd, ix, I64, nth, hb])]
    rfl
  ·rw [lp.stop (e := .inr a) (by unfold p_cmp_Or_int_b0; simp [gd, ix, I64, nth, ha])]
   simp [bd, sw, ha]
 rw [key]; rfl
theorem cmS_lt (x y : ByteArray) : decide (cmS x y < 0) = sless x y := by
 unfold cmS
 cases h : sless x y with
 | true => simp
 | false => cases h' : sless y x <;> simp
theorem cmS_0 {x y : ByteArray} : cmS x y = 0 ↔ x = y := by
 unfold cmS
 constructor
 ·intro h
  cases h1 : sless x y with
  | true => rw [h1] at h; simp at h
  | false =>
   cases h2 : sless y x with
   | true => rw [h1, h2] at h; simp at h
   | false => exact sless_anti h1 h2
 ·intro h; subst h; simp [sless_irr]
theorem cmH_lt (x y : PostH) : decide (cmH x y < 0) = ltP x y := by
 unfold cmH ltP ltTag
 by_cases h : x.1.1 = y.1.1
 ·rw [if_pos (cmS_0.2 h), cmS_lt, h, sless_irr]; simp
 ·rw [if_neg (fun e => h (cmS_0.1 e)), cmS_lt]; simp [h]
def srF : Nat → Nat
 | 6 => 47 | 14 => 57 | 15 => 58 | 20 => 60 | 21 => 61 | 22 => 62 | 23 => 63 | 24 => 64 | 25 => 65 | 26 => 66 | 27 => 67 | 28 => 68 | 29 => 69 | 46 => 70 | 47 => 71 | 48 => 72 | 49 => 73 | 50 => 74 | 57 => 75 | n => n
def srT : Nat → Nat
 | 0 => 0 | 3 => 3 | 4 => 4 | 5 => 5 | 9 => 9 | 22 => 24 | 24 => 52 | 25 => 78 | 39 => 84 | 45 => 87 | 46 => 88 | 50 => 92 | 53 => 95 | 55 => 97 | 66 => 98 | 70 => 102 | 76 => 104 | 77 => 105 | n => n
def srRen : Go.Shelf.Ren := ⟨srF, srT, fun n => n⟩
theorem srBears {f : Nat} {B fn : Func} (h : prog.funcs[f]? = some fn) (hn : (fn.name == "runtime.NumGoroutine") = false) (e : fn = { B with name := fn.name }) : Bears prog f B := ⟨fn.name, hn, h.trans (congrArg some e)⟩
theorem srLays : SlLaysF0.n6 prog srRen := by
 constructor
 ·exact mixed
 ·exact srBears func47 (by kernel_rfl) (by kernel_rfl)
 ·exact srBears func57 (by kernel_rfl) (by kernel_rfl)
 ·exact func58.trans (congrArg some (by kernel_rfl))
 ·exact srBears func60 (by kernel_rfl) (by kernel_rfl)
 ·exact srBears func61 (by kernel_rfl) (by kernel_rfl)
 ·exact srBears func62 (by kernel_rfl) (by kernel_rfl)
 ·exact srBears func63 (by kernel_rfl) (by kernel_rfl)
 ·exact srBears func64 (by kernel_rfl) (by kernel_rfl)
 ·exact srBears func65 (by kernel_rfl) (by kernel_rfl)
 ·exact srBears func66 (by kernel_rfl) (by kernel_rfl)
 ·exact srBears func67 (by kernel_rfl) (by kernel_rfl)
 ·exact func68.trans (congrArg some (by kernel_rfl))
 ·exact func69.trans (congrArg some (by kernel_rfl))
 ·exact srBears func70 (by kernel_rfl) (by kernel_rfl)
 ·exact func71.trans (congrArg some (by kernel_rfl))
 ·exact func72.trans (congrArg some (by kernel_rfl))
 ·exact srBears func73 (by kernel_rfl) (by kernel_rfl)
 ·exact srBears func74 (by kernel_rfl) (by kernel_rfl)
 ·exact srBears func75 (by kernel_rfl) (by kernel_rfl)
 all_goals first | kernel_rfl | (intro _; kernel_rfl)
theorem ltH : ltOf cmH = (ltP : PostH → PostH → Bool) := by
 funext x y
 exact cmH_lt x y
theorem oneH (x : PostH) : ∀ v ∈ Flat.enc x, v.oneCell' = true := fun v hv => by
 have hv : v ∈ [Value.string x.1.1, .string x.1.2, x.2.1] := hv
 simp only [List.mem_cons, List.not_mem_nil, or_false] at hv
 rcases hv with rfl | rfl | rfl
 ·rfl
 ·rfl
 ·exact x.2.2
noncomputable def p_slices_SortFunc_Post_Post_indexOf_2 (v0 : List Post) : Option (List Post) := sortP v0
theorem c_slices_SortFunc_Post_Post_indexOf_2 {r : List Post} (v0 : List Post) (x_v0 : Option Addr × Nat) (n_v0 : Nat) (e_v0 : n_v0 = v0.length) (H : p_slices_SortFunc_Post_Post_indexOf_2 v0 = some r) : Fn' prog 47 #[.slice x_v0.1 n_v0 x_v0.2, .func (.func 48) #[] #[]] [] [tree (.slice x_v0.1 n_v0 x_v0.2) v0] (ι := Unit) (fun _ => .tuple #[]) (fun _ => []) (fun _ => [tree (.slice x_v0.1 n_v0 x_v0.2) r]) := by
 subst e_v0
 have H : sortP v0 = some r := H
 refine Fn'.sortN H ⟨⟨_, func47, by kernel_rfl, by kernel_rfl⟩⟩ fun l' hl => ?_
 have hm : v0.length ≤ 1073741824 := (gd.of H).1
 obtain ⟨r', h1, h2, h3⟩ := Fn'.sortK srLays (fun _ => rfl) (fun _ => by kernel_rfl) (fun _ => by kernel_rfl) oneH cmH (ltH ▸ ltP_swo) (fun x y => c_impl_indexOf_2 x y (e_cmpH x y)) l' (by omega) x_v0 ⟨⟨_, func47, by kernel_rfl, by kernel_rfl⟩⟩
 refine ⟨r', h1, h2.imp fun h => by rw [← ltH]; exact h, ?_⟩
 rw [hl] at h3; exact h3
noncomputable def p_impl_indexOf_b1 (v0 : (List (List Tag))) (Q13 : (List Post) × Int) (Q27 : (List Post) × Int) : Option (((List Post) × Int) ⊕ ((List Post))) := cond (decide (Q27.2 < ((nth v0 Q13.2.toNat).length : Int))) (gd (ix Q27.2 (nth v0 Q13.2.toNat).length) <| bd (p_slices_IndexFunc_Post_Post_indexOf_1 Q27.1 (nth (nth v0 Q13.2.toNat) Q27.2.toNat)) fun r38 => cond (decide (r38 < 0)) (gd (room (Q27.1.length + 1)) <| gd (ix (Q27.1.length : Int) (Q27.1 ++ [((nth (nth v0 Q13.2.toNat) Q27.2.toNat), ([]))]).length) <| gd (I64 (Q13.2 + 1)) <| gd (room (((nth (Q27.1 ++ [((nth (nth v0 Q13.2.toNat) Q27.2.toNat), ([]))]) ((Q27.1.length : Int).toNat)).2).length + 1)) <| gd (I64 (Q27.2 + 1)) <| some (.inl (((Q27.1 ++ [((nth (nth v0 Q13.2.toNat) Q27.2.toNat), ([]))]).set ((Q27.1.length : Int).toNat) (((nth (Q27.1 ++ [((nth (nth v0 Q13.2.toNat) Q27.2.toNat), ([]))]) ((Q27.1.length : Int).toNat)).1), (((nth (Q27.1 ++ [((nth (nth v0 Q13.2.toNat) Q27.2.toNat), ([]))]) ((Q27.1.length : Int).toNat)).2) ++ [Q13.2 + 1]))), Q27.2 + 1))) (gd (ix r38 Q27.1.length) <| gd (I64 (Q13.2 + 1)) <| gd (room (((nth Q27.1 r38.toNat).2).length + 1)) <| gd (I64 (Q27.2 + 1)) <| some (.inl ((Q27.1.set r38.toNat (((nth Q27.1 r38.toNat).1), (((nth Q27.1 r38.toNat).2) ++ [Q13.2 + 1]))), Q27.2 + 1)))) (some (.inr Q27.1))
noncomputable def p_impl_indexOf_b0 (v0 : (List (List Tag))) (Q13 : (List Post) × Int) : Option (((List Post) × Int) ⊕ ((List Post))) := cond (decide (Q13.2 < (v0.length : Int))) (gd (ix Q13.2 v0.length) <| bd (lp (p_impl_indexOf_b1 v0 Q13) (Q13.1, 0)) fun x23 => gd (I64 (Q13.2 + 1)) <| some (.inl (x23, Q13.2 + 1))) (some (.inr Q13.1))
noncomputable def p_impl_indexOf (v0 : (List (List Tag))) : Option (Index) := bd (p_impl_cloneNames v0) fun r3 => bd (lp (p_impl_indexOf_b0 v0) (([] : List Post), 0)) fun x9 => bd (p_slices_SortFunc_Post_Post_indexOf_2 x9) fun r62 => some (r3, r62)
theorem c_impl_indexOf {r : Index} (v0 : (List (List Tag))) (x_v0 : Option Addr × Nat) (H : p_impl_indexOf v0 = some r) : Fn' prog 29 #[.slice x_v0.1 v0.length x_v0.2] [imm (.slice x_v0.1 v0.length x_v0.2) v0] [] (ι := (Option Addr × Nat) × (Option Addr × Nat)) (fun x => .agg #[.slice x.1.1 r.1.length x.1.2, .slice x.2.1 r.2.length x.2.2]) (fun _ => []) (fun x => [tree (.slice x.1.1 r.1.length x.1.2) r.1, tree (.slice x.2.1 r.2.length x.2.2) r.2]) := by
 refine cof (args := [_]) func29 ntmps29 fun c => ?_
 unfold p_impl_indexOf at H
 refine bJ aR fun X1 => (sr (f1 (bZ ty26) fun g2 => (nl (sr (aF rfl (bdo H fun r3 h4 H => (f1 (cA (c_impl_cloneNames v0 x_v0 h4) (fun _ => (bC bD)) rfl (aC (aL (aS aR)) aO)) fun x5 => (f2 (e_lit0 Post dB ty52) fun a6 c7 => (aG (v := .agg #[.slice x5.1 r3.length x5.2, .slice a6 (([] : List Post).length) c7]) (p_buildS (vs := [(0, .slice x5.1 r3.length x5.2), (1, .slice a6 (([] : List Post).length) c7)]) (cs := #[.slice x5.1 r3.length x5.2, .slice a6 (([] : List Post).length) c7]) ty26 pl26 rfl rfl) ?_)))))))))
 refine f1 (bZ ty26) fun g8 => (stb (cs' := [.slice x5.1 r3.length x5.2, .slice a6 (([] : List Post).length) c7]) ty26 cQ (nl (aD (sr (aF rfl (aG (bP 46 dA rfl) (aF (v := .int .i64 (0)) rfl (nl (bdo H fun x9 hx10 H => (cS (ι := Option Addr × Nat) (fun ψ => [(2, .pointer (some ⟨g2, 0, none⟩)), (3, .pointer (some ⟨g8, 0, none⟩))]) (fun ψ => [box g2 26 [.slice none 0 0, .slice none 0 0], tree (.slice x5.1 r3.length x5.2) r3, tree (.slice ψ.1 x9.length ψ.2) x9, box g8 26 [.slice x5.1 r3.length x5.2, .slice ψ.1 x9.length ψ.2]]) ?_ ?_))))))))))
 ·refine aQ (cV hx10 (a6, c7) (fun Q13 _ => [(2, .pointer (some ⟨g2, 0, none⟩)), (3, .pointer (some ⟨g8, 0, none⟩)), (13, .slice x_v0.1 v0.length x_v0.2), (14, .int .i64 ((v0.length : Int))), (15, .int .i64 (Q13.2))]) (fun Q13 z14 => [box g2 26 [.slice none 0 0, .slice none 0 0], tree (.slice x5.1 r3.length x5.2) r3, tree (.slice z14.1 Q13.1.length z14.2) Q13.1, box g8 26 [.slice x5.1 r3.length x5.2, .slice z14.1 Q13.1.length z14.2]]) (.cons dl3 (.cons dl2 (.cons dl1 (.cons aA .nil)))) ?_)
  rintro _ Q13 z14 t16 H1 hi17 hb18
  unfold p_impl_indexOf_b0 at H1
  refine sr (aG (cL rfl rfl) (nl (aD (cH H1 rfl (fun h21 H1 => ?_) (fun h21 H1 => ?_)))))
  ·refine bE (nT (aD (aQ (sr (aF rfl (gdo H1 fun h22 H1 => (aI (bT dA ty46 rfl rfl h22 rfl (aL (aT aR))) (aI (bV (i := Q13.2.toNat) (j := 0) ty46 rfl (aL (aT aR)) h22.lt rfl) (aH rfl (aH rfl (nl ?_)))))))))))
   refine sr (aF rfl (aG (bP 36 dG rfl) (aF (v := .int .i64 (0)) rfl (nl (bdo H1 fun x23 hx24 H1 => (cS (ι := Option Addr × Nat) (fun ψ => [(2, .pointer (some ⟨g2, 0, none⟩)), (3, .pointer (some ⟨g8, 0, none⟩)), (13, .slice x_v0.1 v0.length x_v0.2), (14, .int .i64 ((v0.length : Int))), (15, .int .i64 (Q13.2))]) (fun ψ => [box g2 26 [.slice none 0 0, .slice none 0 0], tree (.slice x5.1 r3.length x5.2) r3, tree (.slice ψ.1 x23.length ψ.2) x23, box g8 26 [.slice x5.1 r3.length x5.2, .slice ψ.1 x23.length ψ.2]]) ?_ ?_))))))
   ·refine aQ (cV hx24 (z14.1, z14.2) (fun Q27 _ => [(2, .pointer (some ⟨g2, 0, none⟩)), (3, .pointer (some ⟨g8, 0, none⟩)), (4, .int .i64 (Q13.2)), (13, .slice x_v0.1 v0.length x_v0.2), (14, .int .i64 ((v0.length : Int))), (15, .int .i64 (Q13.2)), (20, .slice ((X1 Q13.2.toNat).1) ((nth v0 Q13.2.toNat).length) ((X1 Q13.2.toNat).2.1)), (21, .int .i64 (((nth v0 Q13.2.toNat).length : Int))), (22, .int .i64 (Q27.2))]) (fun Q27 z28 => [box g2 26 [.slice none 0 0, .slice none 0 0], tree (.slice x5.1 r3.length x5.2) r3, tree (.slice z28.1 Q27.1.length z28.2) Q27.1, box g8 26 [.slice x5.1 r3.length x5.2, .slice z28.1 Q27.1.length z28.2]]) (.cons aA (.cons aA (.cons aA (.cons aA .nil)))) ?_)
    rintro _ Q27 z28 t30 H2 hi31 hb32
    unfold p_impl_indexOf_b1 at H2
    refine sr (aG (cL rfl rfl) (nl (aD (cH H2 rfl (fun h35 H2 => ?_) (fun h35 H2 => ?_)))))
    ·refine bE (nT (aD (aQ (sr (gdo H2 fun h36 H2 => (aI (bT dG ty36 rfl rfl h36 rfl (aN (aL (aS (aU aR h22.lt))))) (aI (v := .agg #[.string ((nth (nth v0 Q13.2.toNat) Q27.2.toNat).1), .string ((nth (nth v0 Q13.2.toNat) Q27.2.toNat).2)]) (bW (i := Q27.2.toNat) ty36 rfl (aN (aL (aS (aU aR h22.lt)))) h36.lt) (f1 (bZ ty36) fun g37 => (stb (cs' := [.string ((nth (nth v0 Q13.2.toNat) Q27.2.toNat).1), .string ((nth (nth v0 Q13.2.toNat) Q27.2.toNat).2)]) ty36 cQ (nl ?_))))))))))
     refine sr (aG (bX fa26_1 rfl rfl) (aI (bF ty24 rfl hs4 rfl) (aG (v := .func (.func 46) #[] #[.pointer (some ⟨g37, 0, none⟩)]) (p_mkfunc (vs := [.pointer (some ⟨g37, 0, none⟩)]) rfl rfl) (bdo H2 fun r38 h39 H2 => (aI (q_callC (c_slices_IndexFunc_Post_Post_indexOf_1 Q27.1 z28 g37 (nth (nth v0 Q13.2.toNat) Q27.2.toNat) h39) (Solo.box bD) rfl (.cons aA .nil) (aC (bI hs2) aO)) (aH rfl (nl (aD (sr (aF rfl (aG (cL rfl rfl) (nl ?_))))))))))))
     refine cH H2 rfl (fun h40 H2 => ?_) (fun h40 H2 => ?_)
     ·refine sr (aG (bX fa26_1 rfl rfl) (aI (bF ty24 rfl hs4 rfl) (aG (bP 52 dB rfl) (aH rfl (nl (Tr.nilT Int (aP (aG (bX fa26_1 rfl rfl) (aI (bF ty24 rfl hs5 rfl) (aI (bG ty36 rfl hs1 rfl) ?_))))))))))
      refine aG (v := .agg #[.string ((nth (nth v0 Q13.2.toNat) Q27.2.toNat).1), .string ((nth (nth v0 Q13.2.toNat) Q27.2.toNat).2), .slice none 0 0]) (p_buildS (vs := [(0, .agg #[.string ((nth (nth v0 Q13.2.toNat) Q27.2.toNat).1), .string ((nth (nth v0 Q13.2.toNat) Q27.2.toNat).2)])]) (cs := #[.string ((nth (nth v0 Q13.2.toNat) Q27.2.toNat).1), .string ((nth (nth v0 Q13.2.toNat) Q27.2.toNat).2), .slice none 0 0]) ty52 pl52 rfl rfl) (f1 (e_lit (vs := [(0, .agg #[.string ((nth (nth v0 Q13.2.toNat) Q27.2.toNat).1), .string ((nth (nth v0 Q13.2.toNat) Q27.2.toNat).2), .slice none 0 0])]) [.string ((nth (nth v0 Q13.2.toNat) Q27.2.toNat).1), .string ((nth (nth v0 Q13.2.toNat) Q27.2.toNat).2), .slice none 0 0] dB ty52 rfl (by decide) (by decide) (by kernel_rfl)) fun g41 => (gdo H2 fun h44 H2 => (f2 (e_app1 (l := Q27.1) (α := Post) ((nth (nth v0 Q13.2.toNat) Q27.2.toNat), ([])) (((), ()), (none, 0)) dB ty52 rfl rfl (h44.b (by decide)) h44.x rfl (cP _) (.cons dl5 (.cons aA (.cons aA .nil)))) fun a42 c43 => (aG (bX fa26_1 rfl rfl) (stb (cs' := [.slice x5.1 r3.length x5.2, .slice a42 ((Q27.1 ++ [((nth (nth v0 Q13.2.toNat) Q27.2.toNat), ([]))]).length) c43]) ty24 up4 (nl (gdo H2 fun h45 H2 => (Tr.zoom (k := (Q27.1.length : Int).toNat) h45.lt (.cons aA .nil) fun x46 => ?_))))))))
      show Tr _ _ _ _ _ _ _ (hole (.slice a42 ((Q27.1 ++ [((nth (nth v0 Q13.2.toNat) Q27.2.toNat), ([]))]).length) c43) (Q27.1 ++ [((nth (nth v0 Q13.2.toNat) Q27.2.toNat), ([]))]) ((Q27.1.length : Int).toNat) [.string (((nth (Q27.1 ++ [((nth (nth v0 Q13.2.toNat) Q27.2.toNat), ([]))]) ((Q27.1.length : Int).toNat)).1).1), .string (((nth (Q27.1 ++ [((nth (nth v0 Q13.2.toNat) Q27.2.toNat), ([]))]) ((Q27.1.length : Int).toNat)).1).2), .slice x46.2.1 (((nth (Q27.1 ++ [((nth (nth v0 Q13.2.toNat) Q27.2.toNat), ([]))]) ((Q27.1.length : Int).toNat)).2).length) x46.2.2] :: tree (.slice x46.2.1 (((nth (Q27.1 ++ [((nth (nth v0 Q13.2.toNat) Q27.2.toNat), ([]))]) ((Q27.1.length : Int).toNat)).2).length) x46.2.2) ((nth (Q27.1 ++ [((nth (nth v0 Q13.2.toNat) Q27.2.toNat), ([]))]) ((Q27.1.length : Int).toNat)).2) :: _)
      refine tNwS [(8, .int .i64 ((Q27.1.length : Int))), (2, .pointer (some ⟨g2, 0, none⟩)), (3, .pointer (some ⟨g8, 0, none⟩)), (4, .int .i64 (Q13.2)), (13, .slice x_v0.1 v0.length x_v0.2), (14, .int .i64 ((v0.length : Int))), (15, .int .i64 (Q13.2)), (20, .slice ((X1 Q13.2.toNat).1) ((nth v0 Q13.2.toNat).length) ((X1 Q13.2.toNat).2.1)), (21, .int .i64 (((nth v0 Q13.2.toNat).length : Int))), (22, .int .i64 (Q27.2))] 1 [0, 1, 2, 3, 4, 5, 6, 7, 8, 9, 10, 11, 12, 13, 14, 15] [11, 12, 15] [] mixed (by kernel_rfl) (by decide) cY ⟨rfl, rfl, rfl, rfl, rfl, rfl, rfl, rfl, rfl, rfl, trivial⟩ rfl okNil (w_p rfl (bX fa26_1 rfl rfl) ?_)
      refine w_o rfl (fun F => (bF ty24 rfl (hs5.app F) rfl)) (w_p rfl (aE rfl) (w_p rfl (bX fa26_1 rfl rfl) ?_))
      refine w_o rfl (fun F => (bF ty24 rfl (hs5.app F) rfl)) (w_p rfl (aE rfl) ?_)
      refine w_o (v := elp a42 (((Q27.1.length : Int).toNat) * Enc.sz Post + 0)) rfl (fun F => (q_ixH (k := (Q27.1.length : Int).toNat) dB ty52 rfl rfl h45 rfl (aB.app F))) ?_
      refine w_o (v := elp a42 (((Q27.1.length : Int).toNat) * Enc.sz Post + 2)) rfl (fun F => (q_faH (j := 0) (i := (Q27.1.length : Int).toNat) fa52_1 rfl (aB.app F) rfl)) ?_
      refine w_o (v := .slice x46.2.1 (((nth (Q27.1 ++ [((nth (nth v0 Q13.2.toNat) Q27.2.toNat), ([]))]) ((Q27.1.length : Int).toNat)).2).length) x46.2.2) rfl (fun F => (q_ldH (i := (Q27.1.length : Int).toNat) (j := 2) ty30 rfl (aB.app F) rfl)) (w_p rfl (aE rfl) (gdo H2 fun h47 H2 => (w_p rfl (bO rfl rfl h47) (cD rfl (by decide) rfl cI rfl (n_lit (vs := [(0, .int .i64 (Q13.2 + 1))]) [.int .i64 (Q13.2 + 1)] dE ty3 rfl (by decide) (by decide) (by kernel_rfl)) ?_))))
      rintro _ _ _ ⟨g48, rfl, rfl, rfl⟩
      refine ⟨(bS rfl rfl (fun F => (q_ldH (i := (Q27.1.length : Int).toNat) (j := 2) ty30 rfl (hs1.app F) rfl)) (bS rfl rfl (fun F => (q_faH (j := 0) (i := (Q27.1.length : Int).toNat) fa52_1 rfl (hs1.app F) rfl)) (bS rfl rfl (fun F => (q_ixH (k := (Q27.1.length : Int).toNat) dB ty52 rfl rfl h45 rfl (hs1.app F))) (bS rfl rfl (fun F => (bF ty24 rfl ((hs5t hs1).app F) rfl)) (bS rfl rfl (fun F => (bF ty24 rfl ((hs5t hs1).app F) rfl)) bR))))), ?_⟩
      refine gdo H2 fun h51 H2 => (cD rfl (by decide) rfl cI rfl (n_app1 (l := (nth (Q27.1 ++ [((nth (nth v0 Q13.2.toNat) Q27.2.toNat), ([]))]) ((Q27.1.length : Int).toNat)).2) (α := Int) (Q13.2 + 1) () dE ty3 rfl rfl (h51.b (by decide)) h51.x rfl (cP _) (.cons dl2 (.cons aA .nil))) ?_)
      rintro _ _ _ ⟨a49, c50, rfl, rfl, rfl⟩
      refine ⟨(aM (by kernel_rfl) (bS rfl rfl (fun F => (q_faH (j := 0) (i := (Q27.1.length : Int).toNat) fa52_1 rfl (hs1.app F) rfl)) (bS rfl rfl (fun F => (q_ixH (k := (Q27.1.length : Int).toNat) dB ty52 rfl rfl h45 rfl (hs1.app F))) (bS rfl rfl (fun F => (bF ty24 rfl (hs5.app F) rfl)) (bS rfl rfl (fun F => (bF ty24 rfl (hs5.app F) rfl)) bR))))), ?_⟩
      refine w_o (v := elp a42 (((Q27.1.length : Int).toNat) * Enc.sz Post + 0)) rfl (fun F => (q_ixH (k := (Q27.1.length : Int).toNat) dB ty52 rfl rfl h45 rfl (hs1.app F))) ?_
      refine w_o (v := elp a42 (((Q27.1.length : Int).toNat) * Enc.sz Post + 2)) rfl (fun F => (q_faH (j := 0) (i := (Q27.1.length : Int).toNat) fa52_1 rfl (hs1.app F) rfl)) (w_en rfl rfl cI rfl (n_stH (v := .slice a49 ((((nth (Q27.1 ++ [((nth (nth v0 Q13.2.toNat) Q27.2.toNat), ([]))]) ((Q27.1.length : Int).toNat)).2) ++ [Q13.2 + 1]).length) c50) (i := (Q27.1.length : Int).toNat) (j := 2) (cs' := [.string (((nth (Q27.1 ++ [((nth (nth v0 Q13.2.toNat) Q27.2.toNat), ([]))]) ((Q27.1.length : Int).toNat)).1).1), .string (((nth (Q27.1 ++ [((nth (nth v0 Q13.2.toNat) Q27.2.toNat), ([]))]) ((Q27.1.length : Int).toNat)).1).2), .slice a49 ((((nth (Q27.1 ++ [((nth (nth v0 Q13.2.toNat) Q27.2.toNat), ([]))]) ((Q27.1.length : Int).toNat)).2) ++ [Q13.2 + 1]).length) c50]) ty30 rfl rfl (.cons dl1 .nil) rfl (one_of rfl) (Nat.le_of_ble_eq_true rfl) rfl rfl) ?_)
      rintro _ _ _ ⟨rfl, rfl, rfl⟩
      refine ⟨(aM (by kernel_rfl) (bS rfl rfl (fun F => (q_ixH (k := (Q27.1.length : Int).toNat) dB ty52 rfl rfl h45 rfl (aB.app F))) (aM (by kernel_rfl) (aM (by kernel_rfl) (aM (by kernel_rfl) (aM (by kernel_rfl) (aM (by kernel_rfl) bR))))))), ?_⟩
      refine cE ?_
      show At _ _ _ _ _ _
      refine nB (nT (aP (gdo H2 fun h52 H2 => (aG (bO rfl rfl h52) (aF rfl (aJ (At.unzoom (((nth (Q27.1 ++ [((nth (nth v0 Q13.2.toNat) Q27.2.toNat), ([]))]) ((Q27.1.length : Int).toNat)).1), (((nth (Q27.1 ++ [((nth (nth v0 Q13.2.toNat) Q27.2.toNat), ([]))]) ((Q27.1.length : Int).toNat)).2) ++ [Q13.2 + 1])) (((), ()), (a49, c50)) rfl (.cons aA (.cons aA .nil)) ?_)))))))
      refine At.olen aB fun hn => ?_; rw [hn]
      exact nLI (a42, c43) (hi31 _ (sm H2)) (.cons dl2 (.cons dl2 (.cons aA (.cons dl1 .nil))))
     ·refine bE (nT (gdo H2 fun h53 H2 => (Tr.zoom (k := r38.toNat) h53.lt (.cons dl3 .nil) fun x54 => ?_)))
      show Tr _ _ _ _ _ _ _ (hole (.slice z28.1 Q27.1.length z28.2) Q27.1 r38.toNat [.string (((nth Q27.1 r38.toNat).1).1), .string (((nth Q27.1 r38.toNat).1).2), .slice x54.2.1 (((nth Q27.1 r38.toNat).2).length) x54.2.2] :: tree (.slice x54.2.1 (((nth Q27.1 r38.toNat).2).length) x54.2.2) ((nth Q27.1 r38.toNat).2) :: _)
      refine tNwS [(8, .int .i64 (r38)), (2, .pointer (some ⟨g2, 0, none⟩)), (3, .pointer (some ⟨g8, 0, none⟩)), (4, .int .i64 (Q13.2)), (13, .slice x_v0.1 v0.length x_v0.2), (14, .int .i64 ((v0.length : Int))), (15, .int .i64 (Q13.2)), (20, .slice ((X1 Q13.2.toNat).1) ((nth v0 Q13.2.toNat).length) ((X1 Q13.2.toNat).2.1)), (21, .int .i64 (((nth v0 Q13.2.toNat).length : Int))), (22, .int .i64 (Q27.2))] 1 [0, 1, 2, 3, 4, 5, 6, 7, 8, 9, 10, 11, 12, 13, 14, 15] [11, 12, 15] [] mixed (by kernel_rfl) (by decide) cY ⟨rfl, rfl, rfl, rfl, rfl, rfl, rfl, rfl, rfl, rfl, trivial⟩ rfl okNil (w_p rfl (bX fa26_1 rfl rfl) ?_)
      refine w_o rfl (fun F => (bF ty24 rfl (hs5.app F) rfl)) (w_p rfl (aE rfl) (w_p rfl (bX fa26_1 rfl rfl) ?_))
      refine w_o rfl (fun F => (bF ty24 rfl (hs5.app F) rfl)) (w_p rfl (aE rfl) ?_)
      refine w_o (v := elp z28.1 (r38.toNat * Enc.sz Post + 0)) rfl (fun F => (q_ixH (k := r38.toNat) dB ty52 rfl rfl h53 rfl (aB.app F))) ?_
      refine w_o (v := elp z28.1 (r38.toNat * Enc.sz Post + 2)) rfl (fun F => (q_faH (j := 0) (i := r38.toNat) fa52_1 rfl (aB.app F) rfl)) ?_
      refine w_o (v := .slice x54.2.1 (((nth Q27.1 r38.toNat).2).length) x54.2.2) rfl (fun F => (q_ldH (i := r38.toNat) (j := 2) ty30 rfl (aB.app F) rfl)) (w_p rfl (aE rfl) (gdo H2 fun h55 H2 => (w_p rfl (bO rfl rfl h55) (cD rfl (by decide) rfl cI rfl (n_lit (vs := [(0, .int .i64 (Q13.2 + 1))]) [.int .i64 (Q13.2 + 1)] dE ty3 rfl (by decide) (by decide) (by kernel_rfl)) ?_))))
      rintro _ _ _ ⟨g56, rfl, rfl, rfl⟩
      refine ⟨(bS rfl rfl (fun F => (q_ldH (i := r38.toNat) (j := 2) ty30 rfl (hs1.app F) rfl)) (bS rfl rfl (fun F => (q_faH (j := 0) (i := r38.toNat) fa52_1 rfl (hs1.app F) rfl)) (bS rfl rfl (fun F => (q_ixH (k := r38.toNat) dB ty52 rfl rfl h53 rfl (hs1.app F))) (bS rfl rfl (fun F => (bF ty24 rfl ((hs5t hs1).app F) rfl)) (bS rfl rfl (fun F => (bF ty24 rfl ((hs5t hs1).app F) rfl)) bR))))), ?_⟩
      refine gdo H2 fun h59 H2 => (cD rfl (by decide) rfl cI rfl (n_app1 (l := (nth Q27.1 r38.toNat).2) (α := Int) (Q13.2 + 1) () dE ty3 rfl rfl (h59.b (by decide)) h59.x rfl (cP _) (.cons dl2 (.cons aA .nil))) ?_)
      rintro _ _ _ ⟨a57, c58, rfl, rfl, rfl⟩
      refine ⟨(aM (by kernel_rfl) (bS rfl rfl (fun F => (q_faH (j := 0) (i := r38.toNat) fa52_1 rfl (hs1.app F) rfl)) (bS rfl rfl (fun F => (q_ixH (k := r38.toNat) dB ty52 rfl rfl h53 rfl (hs1.app F))) (bS rfl rfl (fun F => (bF ty24 rfl (hs5.app F) rfl)) (bS rfl rfl (fun F => (bF ty24 rfl (hs5.app F) rfl)) bR))))), ?_⟩
      refine w_o (v := elp z28.1 (r38.toNat * Enc.sz Post + 0)) rfl (fun F => (q_ixH (k := r38.toNat) dB ty52 rfl rfl h53 rfl (hs1.app F))) ?_
      refine w_o (v := elp z28.1 (r38.toNat * Enc.sz Post + 2)) rfl (fun F => (q_faH (j := 0) (i := r38.toNat) fa52_1 rfl (hs1.app F) rfl)) (w_en rfl rfl cI rfl (n_stH (v := .slice a57 ((((nth Q27.1 r38.toNat).2) ++ [Q13.2 + 1]).length) c58) (i := r38.toNat) (j := 2) (cs' := [.string (((nth Q27.1 r38.toNat).1).1), .string (((nth Q27.1 r38.toNat).1).2), .slice a57 ((((nth Q27.1 r38.toNat).2) ++ [Q13.2 + 1]).length) c58]) ty30 rfl rfl (.cons dl1 .nil) rfl (one_of rfl) (Nat.le_of_ble_eq_true rfl) rfl rfl) ?_)
      rintro _ _ _ ⟨rfl, rfl, rfl⟩
      refine ⟨(aM (by kernel_rfl) (bS rfl rfl (fun F => (q_ixH (k := r38.toNat) dB ty52 rfl rfl h53 rfl (aB.app F))) (aM (by kernel_rfl) (aM (by kernel_rfl) (aM (by kernel_rfl) (aM (by kernel_rfl) (aM (by kernel_rfl) bR))))))), ?_⟩
      refine cE ?_
      show At _ _ _ _ _ _
      refine nB (nT (aP (gdo H2 fun h60 H2 => (aG (bO rfl rfl h60) (aF rfl (aJ (At.unzoom (((nth Q27.1 r38.toNat).1), (((nth Q27.1 r38.toNat).2) ++ [Q13.2 + 1])) (((), ()), (a57, c58)) rfl (.cons aA (.cons aA .nil)) ?_)))))))
      refine At.olen aB fun hn => ?_; rw [hn]
      exact nLI (z28.1, z28.2) (hi31 _ (sm H2)) (.cons dl2 (.cons dl2 (.cons aA (.cons dl1 .nil))))
    ·refine cR (xT (xT (xE (?_))))
     obtain rfl := hb32 _ (sm H2)
     exact nMC (z28.1, z28.2) ⟨rfl, rfl, rfl, rfl, rfl, trivial⟩ bQ (.cons aA (.cons aA (.cons aA (.cons aA .nil))))
   ·intro y29
    show At _ _ [(2, .pointer (some ⟨g2, 0, none⟩)), (3, .pointer (some ⟨g8, 0, none⟩)), (13, .slice x_v0.1 v0.length x_v0.2), (14, .int .i64 ((v0.length : Int))), (15, .int .i64 (Q13.2))] _ [box g2 26 [.slice none 0 0, .slice none 0 0], tree (.slice x5.1 r3.length x5.2) r3, tree (.slice y29.1 x23.length y29.2) x23, box g8 26 [.slice x5.1 r3.length x5.2, .slice y29.1 x23.length y29.2]] _
    exact nB (nT (aP (gdo H1 fun h61 H1 => (aG (bO rfl rfl h61) (aF rfl (aJ (nLI (y29.1, y29.2) (hi17 _ (sm H1)) (.cons aA (.cons aA (.cons aA (.cons aA .nil)))))))))))
  ·refine cR (xT (xT (xE (?_))))
   obtain rfl := hb18 _ (sm H1)
   exact nMC (z14.1, z14.2) ⟨rfl, rfl, trivial⟩ bQ (.cons aA (.cons aA (.cons aA (.cons aA .nil))))
 ·intro y15
  show At _ _ [(2, .pointer (some ⟨g2, 0, none⟩)), (3, .pointer (some ⟨g8, 0, none⟩))] _ [box g2 26 [.slice none 0 0, .slice none 0 0], tree (.slice x5.1 r3.length x5.2) r3, tree (.slice y15.1 x9.length y15.2) x9, box g8 26 [.slice x5.1 r3.length x5.2, .slice y15.1 x9.length y15.2]] _
  refine nT (sr (aG (bX fa26_1 rfl rfl) (aI (bF ty24 rfl hs3 rfl) (bdo H fun r62 h63 H => (f1 (cB (c_slices_SortFunc_Post_Post_indexOf_2 x9 y15 x9.length rfl h63) (bC bD) (fun _ => (bC bD)) rfl (.cons dl2 .nil) aO) fun u64 => (nl (aD ?_)))))))
  refine Tr.olen aB fun hn => ?_; rw [hn]
  refine aP (aI (bG ty26 rfl hs3 rfl) (stb (cs' := [.slice x5.1 r3.length x5.2, .slice y15.1 r62.length y15.2]) ty26 up1 (nl (bN ?_))))
  obtain rfl := si H
  exact back1 (x5, y15) rfl (ResV.agg ty26 rfl hs1 rfl) rfl cG (.cons dl2 (.cons aA .nil))
noncomputable def p_slices_Equal_int_int_b0 (v0 : (List Int)) (v1 : (List Int)) (Q6 : Int) : Option ((Int) ⊕ (Unit ⊕ Bool)) := cond (decide (Q6 < (v0.length : Int))) (gd (ix Q6 v0.length) <| gd (ix Q6 v1.length) <| cond (!decide ((nth v0 Q6.toNat) = (nth v1 Q6.toNat))) (some (.inr (.inr false))) (gd (I64 (Q6 + 1)) <| some (.inl (Q6 + 1)))) (some (.inr (.inl ())))
noncomputable def p_slices_Equal_int_int (v0 : (List Int)) (v1 : (List Int)) : Option (Bool) := cond (!decide ((v0.length : Int) = (v1.length : Int))) (some false) (bd (lp (p_slices_Equal_int_int_b0 v0 v1) 0) <| sw (fun _ => some true) (fun q => some q))
theorem c_slices_Equal_int_int {r : Bool} (v0 : (List Int)) (x_v0 : Option Addr × Nat) (v1 : (List Int)) (x_v1 : Option Addr × Nat) (H : p_slices_Equal_int_int v0 v1 = some r) : Fn' prog 31 #[.slice x_v0.1 v0.length x_v0.2, .slice x_v1.1 v1.length x_v1.2] [imm (.slice x_v0.1 v0.length x_v0.2) v0, imm (.slice x_v1.1 v1.length x_v1.2) v1] [] (ι := Unit) (fun _ => .bool (r)) (fun _ => []) (fun _ => []) := by
 refine cof (args := [_, _]) func31 ntmps31 fun c => ?_
 unfold p_slices_Equal_int_int at H
 refine sr (aH (v := .bool (false)) rfl (nl (aD (sr (aF rfl (aG (bP 3 dE rfl) (aF rfl (aG (bP 3 dE rfl) (aG (p_neq rfl rfl) (nl (cH H rfl (fun h1 H => ?_) (fun h1 H => ?_))))))))))))
 ·refine sr (aH (v := .bool (false)) rfl (nl (bN (rT (?_)))))
  obtain rfl := si H
  exact bk
 ·refine bE (nT (aD (sr (aF rfl (aG (bP 3 dE rfl) (aF (v := .int .i64 (0)) rfl (nl (bdo H fun x2 hx3 H => (cT (Λ := Unit) H (fun _ _ => []) (fun _ _ => []) ?_ ?_)))))))))
  ·refine aQ (cV hx3 () (fun Q6 _ => [(0, .slice x_v0.1 v0.length x_v0.2), (1, .slice x_v1.1 v1.length x_v1.2), (12, .int .i64 ((v0.length : Int))), (13, .int .i64 (Q6))]) (fun _ _ => []) bH ?_)
   rintro _ Q6 z7 t9 H1 hi10 hb11
   unfold p_slices_Equal_int_int_b0 at H1
   refine sr (aG (cL rfl rfl) (nl (aD (cH H1 rfl (fun h14 H1 => ?_) (fun h14 H1 => ?_)))))
   ·refine bE (nT (aD (aQ (sr (aF rfl (aH rfl (nl (aD (cW [(5, .int .i64 (Q6)), (0, .slice x_v0.1 v0.length x_v0.2), (1, .slice x_v1.1 v1.length x_v1.2), (12, .int .i64 ((v0.length : Int))), (13, .int .i64 (Q6))] mixed (.inr (by kernel_rfl)) ⟨rfl, rfl, rfl, rfl, rfl, trivial⟩ rfl (aZ rfl (aZ rfl ?_)))))))))))
    refine gdo H1 fun h15 H1 => (aX (bT dE ty3 rfl rfl h15 rfl (aN (aL aR))) (aX (bV (i := Q6.toNat) (j := 0) ty3 rfl (aN (aL aR)) h15.lt rfl) (aZ rfl (aZ rfl (gdo H1 fun h16 H1 => (aX (bT dE ty3 rfl rfl h16 rfl (aN (aL aR.s))) (aX (bV (i := Q6.toNat) (j := 0) ty3 rfl (aN (aL aR.s)) h16.lt rfl) (aV (p_neq rfl rfl) (nT (?_))))))))))
    refine cH H1 rfl (fun h17 H1 => ?_) (fun h17 H1 => ?_)
    ·refine sr (aH (v := .bool (false)) rfl (nl (bN (rB (rT (rT (rB (rT (rT (?_))))))))))
     obtain rfl := hb11 _ (sm H1)
     replace H := sw.r H
     obtain rfl := si H
     exact bk
    ·exact bE (nB (nT (aP (gdo H1 fun h18 H1 => (aG (bO rfl rfl h18) (aF rfl (aJ (nLI () (hi10 _ (sm H1)) bH))))))))
   ·exact cR (xT (xT (xE (nMI () (hb11 _ (sm H1)) bH))))
  ·rintro e19 y8 H
   refine nT (sr (aH (v := .bool (true)) rfl (nl ?_)))
   obtain rfl := si H
   exact bN bk
noncomputable def p_impl_IndexOk_1 (v0 : Post) (v1 : Post) : Option (Bool) := bd (cond (decide (v0.1 = v1.1)) (bd (p_slices_Equal_int_int v0.2 v1.2) fun r6 => some (r6)) (some (false))) fun b3 => some b3
theorem c_impl_IndexOk_1 {r : Bool} (v0 : Post) (x_v0 : (Unit × Unit) × (Option Addr × Nat)) (v1 : Post) (x_v1 : (Unit × Unit) × (Option Addr × Nat)) (H : p_impl_IndexOk_1 v0 v1 = some r) : Fn' prog 30 #[.agg #[.string (v0.1.1), .string (v0.1.2), .slice x_v0.2.1 v0.2.length x_v0.2.2], .agg #[.string (v1.1.1), .string (v1.1.2), .slice x_v1.2.1 v1.2.length x_v1.2.2]] [imm (.slice x_v0.2.1 v0.2.length x_v0.2.2) v0.2, imm (.slice x_v1.2.1 v1.2.length x_v1.2.2) v1.2] [] (ι := Unit) (fun _ => .bool (r)) (fun _ => []) (fun _ => []) := by
 refine cof (args := [_, _]) func30 ntmps30 fun c => ?_
 unfold p_impl_IndexOk_1 at H
 refine sr (f1 (bY (t := 52) rfl) fun g1 => (f1 (bY (t := 52) rfl) fun g2 => (aH (v := .bool (false)) rfl (nl (bdo H fun b3 j4 H => (cU [(4, .bool (b3))] ?_ ?_))))))
 ·refine cX [(3, .pointer (some ⟨g2, 0, none⟩)), (2, .pointer (some ⟨g1, 0, none⟩))] ⟨rfl, rfl, trivial⟩ (aV (bX fa52_0 rfl rfl) (aX (v := .agg #[.string (v0.1.1), .string (v0.1.2)]) (q_ldbP [.string (v0.1.1), .string (v0.1.2)] ty36 rfl hs1 rfl rfl) (aV (bX fa52_0 rfl rfl) (aX (v := .agg #[.string (v1.1.1), .string (v1.1.2)]) (q_ldbP [.string (v1.1.1), .string (v1.1.2)] ty36 rfl aB rfl rfl) (aV (v := .bool (decide (v0.1 = v1.1))) (p_aeql (a := v0.1) (b := v1.1) ae36 rfl rfl rfl rfl) ?_)))))
  rcases aK (decide (v0.1 = v1.1)) with h5 | h5
  ·have j4 := cdT h5 j4
   refine bA (aE rfl) h5 (aW rfl (bX fa52_1 rfl rfl) (aY rfl (bF ty30 rfl hs1 rfl) (aW rfl (bX fa52_1 rfl rfl) (aY rfl (bF ty30 rfl aB rfl) (bdo j4 fun r6 h7 j4 => (aY rfl (bK (c_slices_Equal_int_int v0.2 x_v0.2 v1.2 x_v1.2 h7) rfl (aC (aL aR) (aC (aL aR.s) aO))) (aV (bM rfl rfl) (aV (p_assign rfl) ?_))))))))
   obtain rfl := si j4
   show At _ _ _ _ _ _
   exact n1 ⟨rfl, trivial⟩
  ·have j4 := cdF h5 j4
   refine bA (aE rfl) h5 ?_
   iterate 5 refine bB rfl ?_
   refine aV (v := .bool (false)) (bL rfl rfl) (aV (v := .bool (false)) (p_assign rfl) ?_)
   obtain rfl := si j4
   show At _ _ _ _ _ _
   exact n1 ⟨rfl, trivial⟩
 obtain rfl := si H
 exact bN bk
noncomputable def p_slices_EqualFunc_Post_Post_Post_Post_IndexOk_1_b0 (v0 : (List Post)) (v1 : (List Post)) (Q8 : Int) : Option ((Int) ⊕ (Unit ⊕ Bool)) := cond (decide (Q8 < (v0.length : Int))) (gd (ix Q8 v0.length) <| gd (ix Q8 v1.length) <| bd (p_impl_IndexOk_1 (nth v0 Q8.toNat) (nth v1 Q8.toNat)) fun r21 => cond (!r21) (some (.inr (.inr false))) (gd (I64 (Q8 + 1)) <| some (.inl (Q8 + 1)))) (some (.inr (.inl ())))
noncomputable def p_slices_EqualFunc_Post_Post_Post_Post_IndexOk_1 (v0 : (List Post)) (v1 : (List Post)) : Option (Bool) := cond (!decide ((v0.length : Int) = (v1.length : Int))) (some false) (bd (lp (p_slices_EqualFunc_Post_Post_Post_Post_IndexOk_1_b0 v0 v1) 0) <| sw (fun _ => some true) (fun q => some q))
theorem c_slices_EqualFunc_Post_Post_Post_Post_IndexOk_1 {r : Bool} (v0 : (List Post)) (x_v0 : Option Addr × Nat) (v1 : (List Post)) (x_v1 : Option Addr × Nat) (H : p_slices_EqualFunc_Post_Post_Post_Post_IndexOk_1 v0 v1 = some r) : Fn' prog 28 #[.slice x_v0.1 v0.length x_v0.2, .slice x_v1.1 v1.length x_v1.2, .func (.func 30) #[] #[]] [imm (.slice x_v0.1 v0.length x_v0.2) v0, imm (.slice x_v1.1 v1.length x_v1.2) v1] [] (ι := Unit) (fun _ => .bool (r)) (fun _ => []) (fun _ => []) := by
 refine cof (args := [_, _, _]) func28 ntmps28 fun c => ?_
 unfold p_slices_EqualFunc_Post_Post_Post_Post_IndexOk_1 at H
 refine bJ aR fun X1 => (bJ aR.s.s fun X2 => (sr (aH (v := .bool (false)) rfl (nl (aD (sr (aF rfl (aG (bP 52 dB rfl) (aF rfl (aG (bP 52 dB rfl) (aG (p_neq rfl rfl) (nl ?_))))))))))))
 refine cH H rfl (fun h3 H => ?_) (fun h3 H => ?_)
 ·refine sr (aH (v := .bool (false)) rfl (nl (bN (rT (?_)))))
  obtain rfl := si H
  exact bk
 ·refine bE (nT (aD (sr (aF rfl (aG (bP 52 dB rfl) (aF (v := .int .i64 (0)) rfl (nl (bdo H fun x4 hx5 H => (cT (Λ := Unit) H (fun _ _ => []) (fun _ _ => []) ?_ ?_)))))))))
  ·refine aQ (cV hx5 () (fun Q8 _ => [(1, .slice x_v1.1 v1.length x_v1.2), (2, .func (.func 30) #[] #[]), (15, .slice x_v0.1 v0.length x_v0.2), (16, .int .i64 ((v0.length : Int))), (17, .int .i64 (Q8))]) (fun _ _ => []) bH ?_)
   rintro _ Q8 z9 t11 H1 hi12 hb13
   unfold p_slices_EqualFunc_Post_Post_Post_Post_IndexOk_1_b0 at H1
   refine sr (aG (cL rfl rfl) (nl (aD (cH H1 rfl (fun h16 H1 => ?_) (fun h16 H1 => ?_)))))
   ·refine bE (nT (aD (aQ (sr (aF rfl (gdo H1 fun h17 H1 => (aI (bT dB ty52 rfl rfl h17 rfl (aL (aT aR.s))) (aI (v := .agg #[.string (((nth v0 Q8.toNat).1).1), .string (((nth v0 Q8.toNat).1).2), .slice (((X1 Q8.toNat).2).1) (((nth v0 Q8.toNat).2).length) (((X1 Q8.toNat).2).2.1)]) (bW (i := Q8.toNat) ty52 rfl (aL (aT aR.s)) h17.lt) (f1 (bZ ty52) fun g18 => (aH rfl ?_))))))))))
    refine stb (cs' := [.string (((nth v0 Q8.toNat).1).1), .string (((nth v0 Q8.toNat).1).2), .slice (((X1 Q8.toNat).2).1) (((nth v0 Q8.toNat).2).length) (((X1 Q8.toNat).2).2.1)]) ty52 cQ (nl (sr (aF rfl (aF rfl (gdo H1 fun h19 H1 => (aI (bT dB ty52 rfl rfl h19 rfl (aL (aT aR))) (aI (v := .agg #[.string (((nth v1 Q8.toNat).1).1), .string (((nth v1 Q8.toNat).1).2), .slice (((X2 Q8.toNat).2).1) (((nth v1 Q8.toNat).2).length) (((X2 Q8.toNat).2).2.1)]) (bW (i := Q8.toNat) ty52 rfl (aL (aT aR)) h19.lt) (f1 (bZ ty52) fun g20 => (stb (cs' := [.string (((nth v1 Q8.toNat).1).1), .string (((nth v1 Q8.toNat).1).2), .slice (((X2 Q8.toNat).2).1) (((nth v1 Q8.toNat).2).length) (((X2 Q8.toNat).2).2.1)]) ty52 cQ ?_)))))))))
    refine nl (sr (aF rfl (aI (bG ty52 rfl hs1 rfl) (aI (bG ty52 rfl aB rfl) (bdo H1 fun r21 h22 H1 => (aI (v := .bool (r21)) (Ex.dyn (caps := []) (vs := [.agg #[.string (((nth v0 Q8.toNat).1).1), .string (((nth v0 Q8.toNat).1).2), .slice (((X1 Q8.toNat).2).1) (((nth v0 Q8.toNat).2).length) (((X1 Q8.toNat).2).2.1)], .agg #[.string (((nth v1 Q8.toNat).1).1), .string (((nth v1 Q8.toNat).1).2), .slice (((X2 Q8.toNat).2).1) (((nth v1 Q8.toNat).2).length) (((X2 Q8.toNat).2).2.1)]]) rfl rfl (bK (c_impl_IndexOk_1 (nth v0 Q8.toNat) (((), ()), (((X1 Q8.toNat).2).1, ((X1 Q8.toNat).2).2.1)) (nth v1 Q8.toNat) (((), ()), (((X2 Q8.toNat).2).1, ((X2 Q8.toNat).2).2.1)) h22) rfl (aC (aL (aS (Ent.dsnd (aU aR.s h17.lt)))) (aC (aL (aS (Ent.dsnd (aU aR h19.lt)))) aO)))) (aG (cO rfl) (nl (cH H1 rfl (fun h23 H1 => ?_) (fun h23 H1 => ?_))))))))))
    ·refine sr (aH (v := .bool (false)) rfl (nl (bN (rB (rT (rT (rB (rT (rT (?_))))))))))
     obtain rfl := hb13 _ (sm H1)
     replace H := sw.r H
     obtain rfl := si H
     exact bk
    ·exact bE (nB (nT (aP (gdo H1 fun h24 H1 => (aG (bO rfl rfl h24) (aF rfl (aJ (nLI () (hi12 _ (sm H1)) bH))))))))
   ·exact cR (xT (xT (xE (nMI () (hb13 _ (sm H1)) bH))))
  ·rintro e25 y10 H
   refine nT (sr (aH (v := .bool (true)) rfl (nl ?_)))
   obtain rfl := si H
   exact bN bk
noncomputable def p_impl_IndexOk (v0 : Index) : Option (Bool) := bd (p_impl_namesOk v0.1) fun r4 => cond (r4) (bd (p_impl_indexOf v0.1) fun r7 => bd (p_slices_EqualFunc_Post_Post_Post_Post_IndexOk_1 v0.2 r7.2) fun r10 => some r10) (some false)
theorem c_impl_IndexOk {r : Bool} (v0 : Index) (x_v0 : (Option Addr × Nat) × (Option Addr × Nat)) (H : p_impl_IndexOk v0 = some r) : Fn' prog 14 #[.agg #[.slice x_v0.1.1 v0.1.length x_v0.1.2, .slice x_v0.2.1 v0.2.length x_v0.2.2]] [imm (.slice x_v0.1.1 v0.1.length x_v0.1.2) v0.1, imm (.slice x_v0.2.1 v0.2.length x_v0.2.2) v0.2] [] (ι := Unit) (fun _ => .bool (r)) (fun _ => []) (fun _ => []) := by
 refine cof (args := [_]) func14 ntmps14 fun c => ?_
 unfold p_impl_IndexOk at H
 refine bJ aR fun X1 => (bJ aR.s.s fun X2 => (sr (f1 (bY (t := 26) rfl) fun g3 => (aH (v := .bool (false)) rfl (nl (aD (bdo H fun r4 h5 H => ?_)))))))
 rcases aK (r4) with h6 | h6
 ·have H := cdT h6 H
  refine tNwS [(1, .pointer (some ⟨g3, 0, none⟩))] 2 [0, 1, 2, 3, 4, 5, 6, 7, 8, 9, 10, 11, 12] [8] [] mixed (by kernel_rfl) (by decide) cY ⟨rfl, trivial⟩ rfl okNil (w_p rfl (bX fa26_0 rfl rfl) ?_)
  refine w_o rfl (fun F => (bF ty23 rfl (aB.app F) rfl)) ?_
  refine w_o rfl (fun F => (bK (c_impl_namesOk v0.1 x_v0.1 h5) rfl (aC (aL (aS aR.s)) aO))) (w_p (v := .bool (true)) rfl ((cK (v := .bool (r4)) (aE rfl) (congrArg Value.bool h6))) (w_p rfl (bX fa26_1 rfl rfl) ?_))
  refine w_o rfl (fun F => (bF ty24 rfl (aB.app F) rfl)) (w_p rfl (bX fa26_0 rfl rfl) ?_)
  refine w_o rfl (fun F => (bF ty23 rfl (aB.app F) rfl)) (bdo H fun r7 h8 H => (cD rfl (by decide) rfl cI rfl (n_callB (c_impl_indexOf v0.1 x_v0.1 h8) (fun _ => (bC (bC bD))) rfl (aC (aL (aS aR.s)) aO)) ?_))
  rintro _ _ _ ⟨x9, rfl, rfl, rfl⟩
  refine ⟨(aM (by kernel_rfl) (bS rfl rfl (fun F => (bF ty24 rfl (hs2.app F) rfl)) (aM (by kernel_rfl) (bS rfl rfl (fun F => (bF ty23 rfl (hs2.app F) rfl)) bR)))), ?_⟩
  refine w_p rfl ((p_field1 underlying26 rfl ty24 rfl rfl)) (bdo H fun r10 h11 H => ?_)
  refine w_o rfl (fun F => (bK (c_slices_EqualFunc_Post_Post_Post_Post_IndexOk_1 v0.2 x_v0.2 r7.2 x9.2 h11) rfl (aC (aL (aS aR)) (aC (bI (hs1.app F)) aO)))) (w_p rfl (bM rfl rfl) (w_p rfl (p_assign rfl) (cE (nT (?_)))))
  obtain rfl := si H
  exact bN bk
 ·have H := cdF h6 H
  refine tNwS [(1, .pointer (some ⟨g3, 0, none⟩))] 1 [0, 1, 2, 3, 4, 5, 6, 7, 8, 9, 10, 11, 12] [] [] mixed (by kernel_rfl) (by decide) cY ⟨rfl, trivial⟩ rfl okNil (w_p rfl (bX fa26_0 rfl rfl) ?_)
  refine w_o rfl (fun F => (bF ty23 rfl (aB.app F) rfl)) ?_
  refine w_o rfl (fun F => (bK (c_impl_namesOk v0.1 x_v0.1 h5) rfl (aC (aL (aS aR.s)) aO))) (w_p (v := .bool (false)) rfl ((cK (v := .bool (r4)) (aE rfl) (congrArg Value.bool h6))) (cC rfl (by decide) rfl rfl rfl (cC rfl (by decide) rfl rfl rfl (cC rfl (by decide) rfl rfl rfl (cC rfl (by decide) rfl rfl rfl (cC rfl (by decide) rfl rfl rfl (cC rfl (by decide) rfl rfl rfl (cC rfl (by decide) rfl rfl rfl (w_p (v := .bool (false)) rfl (bL rfl rfl) ?_)))))))))
  refine w_p (v := .bool (false)) rfl (p_assign rfl) (cE (nT (?_)))
  obtain rfl := si H
  exact bN bk
noncomputable def p_impl_FilterOk_b0 (v0 : (List Cond)) (Q5 : Int) : Option ((Int) ⊕ (Unit ⊕ Bool)) := cond (decide (Q5 < (v0.length : Int))) (gd (ix Q5 v0.length) <| bd (p_impl_tagOk ((nth v0 Q5.toNat).1)) fun r16 => cond (!r16) (some (.inr (.inr false))) (gd (I64 (Q5 + 1)) <| some (.inl (Q5 + 1)))) (some (.inr (.inl ())))
noncomputable def p_impl_FilterOk (v0 : (List Cond)) : Option (Bool) := bd (lp (p_impl_FilterOk_b0 v0) 0) <| sw (fun _ => some (decide ((v0.length : Int) ≤ 3))) (fun q => some q)
theorem c_impl_FilterOk {r : Bool} (v0 : (List Cond)) (x_v0 : Option Addr × Nat) (H : p_impl_FilterOk v0 = some r) : Fn' prog 32 #[.slice x_v0.1 v0.length x_v0.2] [imm (.slice x_v0.1 v0.length x_v0.2) v0] [] (ι := Unit) (fun _ => .bool (r)) (fun _ => []) (fun _ => []) := by
 refine cof (args := [_]) func32 ntmps32 fun c => ?_
 unfold p_impl_FilterOk at H
 refine sr (aH (v := .bool (false)) rfl (nl (aD (sr (aF rfl (aG (bP 38 dC rfl) (aF (v := .int .i64 (0)) rfl (nl (bdo H fun x1 hx2 H => (cT (Λ := Unit) H (fun _ _ => [(0, .slice x_v0.1 v0.length x_v0.2)]) (fun _ _ => []) ?_ ?_))))))))))
 ·refine aQ (cV hx2 () (fun Q5 _ => [(0, .slice x_v0.1 v0.length x_v0.2), (5, .slice x_v0.1 v0.length x_v0.2), (6, .int .i64 ((v0.length : Int))), (7, .int .i64 (Q5))]) (fun _ _ => []) bH ?_)
  rintro _ Q5 z6 t8 H1 hi9 hb10
  unfold p_impl_FilterOk_b0 at H1
  refine sr (aG (cL rfl rfl) (nl (aD (cH H1 rfl (fun h13 H1 => ?_) (fun h13 H1 => ?_)))))
  ·refine bE (nT (aD (aQ (sr (gdo H1 fun h14 H1 => (aI (bT dC ty38 rfl rfl h14 rfl (aN (aL aR))) (aI (v := .agg #[.string (((nth v0 Q5.toNat).1).1), .string (((nth v0 Q5.toNat).1).2), .bool ((nth v0 Q5.toNat).2)]) (bW (i := Q5.toNat) ty38 rfl (aN (aL aR)) h14.lt) (f1 (bZ ty38) fun g15 => (stb (cs' := [.string (((nth v0 Q5.toNat).1).1), .string (((nth v0 Q5.toNat).1).2), .bool ((nth v0 Q5.toNat).2)]) ty38 cQ (nl ?_))))))))))
   refine sr (aG (bX fa38_0 rfl rfl) (aI (v := .agg #[.string (((nth v0 Q5.toNat).1).1), .string (((nth v0 Q5.toNat).1).2)]) (q_ldbP [.string (((nth v0 Q5.toNat).1).1), .string (((nth v0 Q5.toNat).1).2)] ty36 rfl aB rfl rfl) (bdo H1 fun r16 h17 H1 => (aI (bK (c_impl_tagOk ((nth v0 Q5.toNat).1) h17) rfl aO) (aG (cO rfl) (nl (cH H1 rfl (fun h18 H1 => ?_) (fun h18 H1 => ?_))))))))
   ·refine sr (aH (v := .bool (false)) rfl (nl (bN (rB (rT (rT (rB (rT (rT (?_))))))))))
    obtain rfl := hb10 _ (sm H1)
    replace H := sw.r H
    obtain rfl := si H
    exact bk
   ·exact bE (nB (nT (aP (gdo H1 fun h19 H1 => (aG (bO rfl rfl h19) (aF rfl (aJ (nLI () (hi9 _ (sm H1)) bH))))))))
  ·exact cR (xT (xT (xE (nMI () (hb10 _ (sm H1)) bH))))
 ·rintro e20 y7 H
  refine nT (sr (aF rfl (aG (bP 38 dC rfl) (aG (p_leq rfl rfl) (aH rfl (nl ?_))))))
  obtain rfl := si H
  exact bN bk
noncomputable def p_slices_Index_Tag_Tag_b0 (v0 : (List Tag)) (v1 : Tag) (Q6 : Int) : Option ((Int) ⊕ (Unit ⊕ Int)) := cond (decide (Q6 < (v0.length : Int))) (gd (ix Q6 v0.length) <| cond (decide (v1 = nth v0 Q6.toNat)) (some (.inr (.inr Q6))) (gd (I64 (Q6 + 1)) <| some (.inl (Q6 + 1)))) (some (.inr (.inl ())))
noncomputable def p_slices_Index_Tag_Tag (v0 : (List Tag)) (v1 : Tag) : Option (Int) := bd (lp (p_slices_Index_Tag_Tag_b0 v0 v1) 0) <| sw (fun _ => some (-1)) (fun q => some q)
theorem c_slices_Index_Tag_Tag {r : Int} (v0 : (List Tag)) (x_v0 : Option Addr × Nat) (v1 : Tag) (H : p_slices_Index_Tag_Tag v0 v1 = some r) : Fn' prog 53 #[.slice x_v0.1 v0.length x_v0.2, .agg #[.string (v1.1), .string (v1.2)]] [imm (.slice x_v0.1 v0.length x_v0.2) v0] [] (ι := Unit) (fun _ => .int .i64 (r)) (fun _ => []) (fun _ => []) := by
 refine cof (args := [_, _]) func53 ntmps53 fun c => ?_
 unfold p_slices_Index_Tag_Tag at H
 refine sr (f1 (bY (t := 36) rfl) fun g1 => (aH (v := .int .i64 (0)) rfl (nl (aD (sr (aF rfl (aG (bP 36 dG rfl) (aF (v := .int .i64 (0)) rfl (nl (bdo H fun x2 hx3 H => (cT (Λ := Unit) H (fun _ _ => []) (fun _ _ => []) ?_ ?_)))))))))))
 ·refine aQ (cV hx3 () (fun Q6 _ => [(0, .slice x_v0.1 v0.length x_v0.2), (3, .pointer (some ⟨g1, 0, none⟩)), (7, .int .i64 ((v0.length : Int))), (8, .int .i64 (Q6))]) (fun _ _ => [box g1 36 [.string (v1.1), .string (v1.2)]]) (.cons aA .nil) ?_)
  rintro _ Q6 z7 t9 H1 hi10 hb11
  unfold p_slices_Index_Tag_Tag_b0 at H1
  refine sr (aG (cL rfl rfl) (nl (aD (cH H1 rfl (fun h14 H1 => ?_) (fun h14 H1 => ?_)))))
  ·refine bE (nT (aD (aQ (sr (aF rfl (aH rfl (nl (aD (cW [(5, .int .i64 (Q6)), (0, .slice x_v0.1 v0.length x_v0.2), (3, .pointer (some ⟨g1, 0, none⟩)), (7, .int .i64 ((v0.length : Int))), (8, .int .i64 (Q6))] mixed (.inr (by kernel_rfl)) ⟨rfl, rfl, rfl, rfl, rfl, trivial⟩ rfl (aX (bG ty36 rfl aB rfl) (aZ rfl ?_)))))))))))
   refine aZ rfl (gdo H1 fun h15 H1 => (aX (bT dG ty36 rfl rfl h15 rfl (aN (aL aR))) (aX (v := .agg #[.string ((nth v0 Q6.toNat).1), .string ((nth v0 Q6.toNat).2)]) (bW (i := Q6.toNat) ty36 rfl (aN (aL aR)) h15.lt) (aV (v := .bool (decide (v1 = nth v0 Q6.toNat))) (p_aeql (a := v1) (b := nth v0 Q6.toNat) ae36 rfl rfl rfl rfl) (nT (cH H1 rfl (fun h16 H1 => ?_) (fun h16 H1 => ?_)))))))
   ·refine sr (aF rfl (aH rfl (nl (bN (rB (rT (rT (rB (rT (rT (?_)))))))))))
    obtain rfl := hb11 _ (sm H1)
    replace H := sw.r H
    obtain rfl := si H
    exact bk
   ·exact bE (nB (nT (aP (gdo H1 fun h17 H1 => (aG (bO rfl rfl h17) (aF rfl (aJ (nLI () (hi10 _ (sm H1)) (.cons aA .nil)))))))))
  ·exact cR (xT (xT (xE (nMI () (hb11 _ (sm H1)) bH))))
 ·rintro e18 y8 H
  refine nT (sr (aH (v := .int .i64 (-1)) rfl (nl ?_)))
  obtain rfl := si H
  exact bN bk
noncomputable def p_slices_Contains_Tag_Tag (v0 : (List Tag)) (v1 : Tag) : Option (Bool) := bd (p_slices_Index_Tag_Tag v0 v1) fun r2 => some (decide (0 ≤ r2))
theorem c_slices_Contains_Tag_Tag {r : Bool} (v0 : (List Tag)) (x_v0 : Option Addr × Nat) (v1 : Tag) (H : p_slices_Contains_Tag_Tag v0 v1 = some r) : Fn' prog 34 #[.slice x_v0.1 v0.length x_v0.2, .agg #[.string (v1.1), .string (v1.2)]] [imm (.slice x_v0.1 v0.length x_v0.2) v0] [] (ι := Unit) (fun _ => .bool (r)) (fun _ => []) (fun _ => []) := by
 refine cof (args := [_, _]) func34 ntmps34 fun c => ?_
 unfold p_slices_Contains_Tag_Tag at H
 refine sr (f1 (bY (t := 36) rfl) fun g1 => (aH (v := .bool (false)) rfl (nl (sr (aF rfl (aI (bG ty36 rfl aB rfl) (bdo H fun r2 h3 H => (aI (bK (c_slices_Index_Tag_Tag v0 x_v0 v1 h3) rfl (aC (aL aR) aO)) (aG (p_geq rfl rfl) (aH rfl (nl ?_)))))))))))
 obtain rfl := si H
 exact bN bk
noncomputable def p_impl_FilterFits_b0 (v0 : (List Cond)) (v1 : (List Tag)) (Q13 : Int) : Option ((Int) ⊕ (Unit ⊕ Bool)) := cond (decide (Q13 < (v0.length : Int))) (gd (ix Q13 v0.length) <| bd (p_slices_Contains_Tag_Tag v1 ((nth v0 Q13.toNat).1)) fun r24 => cond (decide (r24 = ((nth v0 Q13.toNat).2))) (some (.inr (.inr false))) (gd (I64 (Q13 + 1)) <| some (.inl (Q13 + 1)))) (some (.inr (.inl ())))
noncomputable def p_impl_FilterFits (v0 : (List Cond)) (v1 : (List Tag)) : Option (Bool) := bd (bd (p_impl_FilterOk v0) fun r3 => cond (!r3) (some (true)) (bd (p_impl_NameOk v1) fun r6 => some (!r6))) fun b1 => cond (b1) (some false) (bd (lp (p_impl_FilterFits_b0 v0 v1) 0) <| sw (fun _ => some true) (fun q => some q))
theorem c_impl_FilterFits {r : Bool} (v0 : (List Cond)) (x_v0 : Option Addr × Nat) (v1 : (List Tag)) (x_v1 : Option Addr × Nat) (H : p_impl_FilterFits v0 v1 = some r) : Fn' prog 15 #[.slice x_v0.1 v0.length x_v0.2, .slice x_v1.1 v1.length x_v1.2] [imm (.slice x_v0.1 v0.length x_v0.2) v0, imm (.slice x_v1.1 v1.length x_v1.2) v1] [] (ι := Unit) (fun _ => .bool (r)) (fun _ => []) (fun _ => []) := by
 refine cof (args := [_, _]) func15 ntmps15 fun c => ?_
 unfold p_impl_FilterFits at H
 refine sr (aH (v := .bool (false)) rfl (nl (aD (bdo H fun b1 j2 H => (cU [(14, .bool (b1)), (0, .slice x_v0.1 v0.length x_v0.2), (1, .slice x_v1.1 v1.length x_v1.2)] ?_ ?_)))))
 ·refine cX [(0, .slice x_v0.1 v0.length x_v0.2), (1, .slice x_v1.1 v1.length x_v1.2)] ⟨rfl, rfl, trivial⟩ (aZ rfl (bdo j2 fun r3 h4 j2 => (aX (bK (c_impl_FilterOk v0 x_v0 h4) rfl (aC (aL aR) aO)) (aV (cO rfl) ?_))))
  rcases aK (!r3) with h5 | h5
  ·have j2 := cdT h5 j2
   refine bA (aE rfl) h5 ?_
   iterate 3 refine bB rfl ?_
   refine aV (v := .bool (true)) (bM rfl rfl) ?_
   obtain rfl := si j2
   show At _ _ _ _ _ _
   exact n1 ⟨rfl, rfl, rfl, trivial⟩
  ·have j2 := cdF h5 j2
   refine bA (aE rfl) h5 (aW rfl (aE rfl) (bdo j2 fun r6 h7 j2 => (aY rfl (bK (c_impl_NameOk v1 x_v1 h7) rfl (aC (aL aR.s) aO)) (aW rfl (cO rfl) (aV (bL rfl rfl) ?_)))))
   obtain rfl := si j2
   show At _ _ _ _ _ _
   exact n1 ⟨rfl, rfl, rfl, trivial⟩
 refine cH H rfl (fun h8 H => ?_) (fun h8 H => ?_)
 ·refine sr (aH (v := .bool (false)) rfl (nl (bN (rT (?_)))))
  obtain rfl := si H
  exact bk
 ·refine bE (nT (aD (sr (aF rfl (aG (bP 38 dC rfl) (aF (v := .int .i64 (0)) rfl (nl (bdo H fun x9 hx10 H => (cT (Λ := Unit) H (fun _ _ => []) (fun _ _ => []) ?_ ?_)))))))))
  ·refine aQ (cV hx10 () (fun Q13 _ => [(1, .slice x_v1.1 v1.length x_v1.2), (15, .slice x_v0.1 v0.length x_v0.2), (16, .int .i64 ((v0.length : Int))), (17, .int .i64 (Q13))]) (fun _ _ => []) bH ?_)
   rintro _ Q13 z14 t16 H1 hi17 hb18
   unfold p_impl_FilterFits_b0 at H1
   refine sr (aG (cL rfl rfl) (nl (aD (cH H1 rfl (fun h21 H1 => ?_) (fun h21 H1 => ?_)))))
   ·refine bE (nT (aD (aQ (sr (gdo H1 fun h22 H1 => (aI (bT dC ty38 rfl rfl h22 rfl (aN (aL aR))) (aI (v := .agg #[.string (((nth v0 Q13.toNat).1).1), .string (((nth v0 Q13.toNat).1).2), .bool ((nth v0 Q13.toNat).2)]) (bW (i := Q13.toNat) ty38 rfl (aN (aL aR)) h22.lt) (f1 (bZ ty38) fun g23 => (stb (cs' := [.string (((nth v0 Q13.toNat).1).1), .string (((nth v0 Q13.toNat).1).2), .bool ((nth v0 Q13.toNat).2)]) ty38 cQ (nl ?_))))))))))
    refine aD (cW [(6, .pointer (some ⟨g23, 0, none⟩)), (1, .slice x_v1.1 v1.length x_v1.2), (15, .slice x_v0.1 v0.length x_v0.2), (16, .int .i64 ((v0.length : Int))), (17, .int .i64 (Q13))] mixed (.inr (by kernel_rfl)) ⟨rfl, rfl, rfl, rfl, rfl, trivial⟩ rfl (aZ rfl (aV (bX fa38_0 rfl rfl) (aX (v := .agg #[.string (((nth v0 Q13.toNat).1).1), .string (((nth v0 Q13.toNat).1).2)]) (q_ldbP [.string (((nth v0 Q13.toNat).1).1), .string (((nth v0 Q13.toNat).1).2)] ty36 rfl aB rfl rfl) (bdo H1 fun r24 h25 H1 => (aX (bK (c_slices_Contains_Tag_Tag v1 x_v1 ((nth v0 Q13.toNat).1) h25) rfl (aC (aL aR.s) aO)) (aV (bX fa38_1 rfl rfl) (aX (bF ty4 rfl aB rfl) (aV (p_beql underlying4 rfl rfl) ?_)))))))))
    refine nT (cH H1 rfl (fun h26 H1 => ?_) (fun h26 H1 => ?_))
    ·refine sr (aH (v := .bool (false)) rfl (nl (bN (rB (rT (rT (rB (rT (rT (?_))))))))))
     obtain rfl := hb18 _ (sm H1)
     replace H := sw.r H
     obtain rfl := si H
     exact bk
    ·exact bE (nB (nT (aP (gdo H1 fun h27 H1 => (aG (bO rfl rfl h27) (aF rfl (aJ (nLI () (hi17 _ (sm H1)) bH))))))))
   ·exact cR (xT (xT (xE (nMI () (hb18 _ (sm H1)) bH))))
  ·rintro e28 y15 H
   refine nT (sr (aH (v := .bool (true)) rfl (nl ?_)))
   obtain rfl := si H
   exact bN bk
noncomputable def p_impl_IndexFind_b0 (v0 : Index) (v1 : (List Cond)) (Q13 : (List Int) × Int) : Option (((List Int) × Int) ⊕ ((List Int))) := cond (decide (Q13.2 < (v0.1.length : Int))) (gd (ix Q13.2 v0.1.length) <| bd (p_impl_FilterFits v1 (nth v0.1 Q13.2.toNat)) fun r23 => cond (r23) (gd (I64 (Q13.2 + 1)) <| gd (room (Q13.1.length + 1)) <| some (.inl ((Q13.1 ++ [Q13.2 + 1]), Q13.2 + 1))) (gd (I64 (Q13.2 + 1)) <| some (.inl (Q13.1, Q13.2 + 1)))) (some (.inr Q13.1))
noncomputable def p_impl_IndexFind (v0 : Index) (v1 : (List Cond)) : Option ((List Int)) := bd (p_impl_IndexOk v0) fun r6 => cond (!r6) (some ([] : List Int)) (bd (lp (p_impl_IndexFind_b0 v0 v1) (([] : List Int), 0)) fun x9 => some x9)
theorem c_impl_IndexFind {r : (List Int)} (v0 : Index) (x_v0 : (Option Addr × Nat) × (Option Addr × Nat)) (v1 : (List Cond)) (x_v1 : Option Addr × Nat) (H : p_impl_IndexFind v0 v1 = some r) : Fn' prog 5 #[.agg #[.slice x_v0.1.1 v0.1.length x_v0.1.2, .slice x_v0.2.1 v0.2.length x_v0.2.2], .slice x_v1.1 v1.length x_v1.2] [imm (.slice x_v0.1.1 v0.1.length x_v0.1.2) v0.1, imm (.slice x_v0.2.1 v0.2.length x_v0.2.2) v0.2, imm (.slice x_v1.1 v1.length x_v1.2) v1] [] (ι := Option Addr × Nat) (fun x => .slice x.1 r.length x.2) (fun _ => []) (fun x => [tree (.slice x.1 r.length x.2) r]) := by
 refine cof (args := [_, _]) func5 ntmps5 fun c => ?_
 unfold p_impl_IndexFind at H
 refine bJ aR fun X1 => (bJ aR.s.s fun X2 => (sr (f1 (bY (t := 26) rfl) fun g3 => (aH (v := .slice none 0 0) rfl (nl (sr (f2 (e_lit0 Int dE ty3) fun a4 c5 => (aH rfl (nl (aD (sr (aI (bG ty26 rfl hs1 rfl) ?_))))))))))))
 refine bdo H fun r6 h7 H => (aI (bK (c_impl_IndexOk v0 x_v0 h7) rfl (aC (aL (aS aR.s)) (aC (aL (aS aR)) aO))) (aG (cO rfl) (nl (cH H rfl (fun h8 H => ?_) (fun h8 H => ?_)))))
 ·refine sr (aF rfl (aH rfl (nl (bN (rT (?_))))))
  obtain rfl := si H
  exact back1 (a4, c5) rfl (ResV.tmp (v := .slice a4 (([] : List Int).length) c5) rfl) rfl cG (.cons aA .nil)
 ·refine bE (nT (aD (sr (aG (bX fa26_0 rfl rfl) (aI (bF ty23 rfl hs1 rfl) (aG (bP 46 dA rfl) (aF (v := .int .i64 (0)) rfl (nl (bdo H fun x9 hx10 H => (cS (ι := Option Addr × Nat) (fun ψ => [(5, .slice ψ.1 x9.length ψ.2)]) (fun ψ => [tree (.slice ψ.1 x9.length ψ.2) x9]) ?_ ?_))))))))))
  ·refine aQ (cV hx10 (a4, c5) (fun Q13 z14 => [(1, .slice x_v1.1 v1.length x_v1.2), (5, .slice z14.1 Q13.1.length z14.2), (14, .slice x_v0.1.1 v0.1.length x_v0.1.2), (15, .int .i64 ((v0.1.length : Int))), (16, .int .i64 (Q13.2))]) (fun Q13 z14 => [tree (.slice z14.1 Q13.1.length z14.2) Q13.1]) (.cons aA .nil) ?_)
   rintro _ Q13 z14 t16 H1 hi17 hb18
   unfold p_impl_IndexFind_b0 at H1
   refine sr (aG (cL rfl rfl) (nl (aD (cH H1 rfl (fun h21 H1 => ?_) (fun h21 H1 => ?_)))))
   ·refine bE (nT (aD (aQ (sr (aF rfl (gdo H1 fun h22 H1 => (aI (bT dA ty46 rfl rfl h22 rfl (aL (aT aR.s))) (aI (bV (i := Q13.2.toNat) (j := 0) ty46 rfl (aL (aT aR.s)) h22.lt rfl) (aH rfl (aH rfl (nl ?_)))))))))))
    refine sr (aF rfl (aF rfl (bdo H1 fun r23 h24 H1 => (aI (bK (c_impl_FilterFits v1 x_v1 (nth v0.1 Q13.2.toNat) ((X1 Q13.2.toNat).1, (X1 Q13.2.toNat).2.1) h24) rfl (aC (aL aR.s.s.s.s) (aC (aL (aS (aU aR.s h22.lt))) aO))) (nl (cH H1 rfl (fun h25 H1 => ?_) (fun h25 H1 => ?_)))))))
    ·refine aP (aF rfl (aF rfl (gdo H1 fun h26 H1 => (aG (bO rfl rfl h26) (f1 (e_lit (vs := [(0, .int .i64 (Q13.2 + 1))]) [.int .i64 (Q13.2 + 1)] dE ty3 rfl (by decide) (by decide) (by kernel_rfl)) fun g27 => (gdo H1 fun h30 H1 => (f2 (e_app1 (l := Q13.1) (α := Int) (Q13.2 + 1) () dE ty3 rfl rfl (h30.b (by decide)) h30.x rfl (cP _) (.cons dl1 (.cons aA .nil))) fun a28 c29 => (aH rfl (aJ (nB (nT (?_))))))))))))
     exact aP (aG (bO rfl rfl h26) (aF rfl (aJ (nLI (a28, c29) (hi17 _ (sm H1)) (.cons aA .nil)))))
    ·exact bE (nB (nT (aP (gdo H1 fun h31 H1 => (aG (bO rfl rfl h31) (aF rfl (aJ (nLI (z14.1, z14.2) (hi17 _ (sm H1)) (.cons aA .nil)))))))))
   ·refine cR (xT (xT (xE (?_))))
    obtain rfl := hb18 _ (sm H1)
    exact nMC (z14.1, z14.2) ⟨rfl, trivial⟩ bQ (.cons aA .nil)
  ·intro y15
   show At _ _ [(5, .slice y15.1 x9.length y15.2)] _ [tree (.slice y15.1 x9.length y15.2) x9] _
   refine nT (sr (aF rfl (aH rfl (nl (bN ?_)))))
   obtain rfl := si H
   exact back1 y15 rfl (ResV.tmp (v := .slice y15.1 x9.length y15.2) rfl) rfl cG (.cons aA .nil)
noncomputable def p_laws_lyInts_b0 (v0 : (List Int)) (v1 : (List Int)) (Q6 : Int) : Option ((Int) ⊕ (Unit ⊕ Bool)) := cond (decide (Q6 < (v0.length : Int))) (gd (ix Q6 v0.length) <| gd (ix Q6 v1.length) <| cond (!decide ((nth v0 Q6.toNat) = (nth v1 Q6.toNat))) (some (.inr (.inr false))) (gd (I64 (Q6 + 1)) <| some (.inl (Q6 + 1)))) (some (.inr (.inl ())))
noncomputable def p_laws_lyInts (v0 : (List Int)) (v1 : (List Int)) : Option (Bool) := cond (!decide ((v0.length : Int) = (v1.length : Int))) (some false) (bd (lp (p_laws_lyInts_b0 v0 v1) 0) <| sw (fun _ => some true) (fun q => some q))
theorem c_laws_lyInts {r : Bool} (v0 : (List Int)) (x_v0 : Option Addr × Nat) (v1 : (List Int)) (x_v1 : Option Addr × Nat) (H : p_laws_lyInts v0 v1 = some r) : Fn' prog 6 #[.slice x_v0.1 v0.length x_v0.2, .slice x_v1.1 v1.length x_v1.2] [imm (.slice x_v0.1 v0.length x_v0.2) v0, imm (.slice x_v1.1 v1.length x_v1.2) v1] [] (ι := Unit) (fun _ => .bool (r)) (fun _ => []) (fun _ => []) := by
 refine cof (args := [_, _]) func6 ntmps6 fun c => ?_
 unfold p_laws_lyInts at H
 refine sr (aH (v := .bool (false)) rfl (nl (aD (sr (aF rfl (aG (bP 3 dE rfl) (aF rfl (aG (bP 3 dE rfl) (aG (p_neq rfl rfl) (nl (cH H rfl (fun h1 H => ?_) (fun h1 H => ?_))))))))))))
 ·refine sr (aH (v := .bool (false)) rfl (nl (bN (rT (?_)))))
  obtain rfl := si H
  exact bk
 ·refine bE (nT (aD (sr (aH (v := .int .i64 (0)) rfl (nl (bdo H fun x2 hx3 H => (cT (Λ := Unit) H (fun _ _ => []) (fun _ _ => []) ?_ ?_)))))))
  ·refine aQ (cV hx3 () (fun Q6 _ => [(0, .slice x_v0.1 v0.length x_v0.2), (1, .slice x_v1.1 v1.length x_v1.2), (5, .int .i64 (Q6))]) (fun _ _ => []) bH ?_)
   rintro _ Q6 z7 t9 H1 hi10 hb11
   unfold p_laws_lyInts_b0 at H1
   refine aD (sr (aF rfl (aF rfl (aG (bP 3 dE rfl) (aG (cL rfl rfl) (nl (cH H1 rfl (fun h14 H1 => ?_) (fun h14 H1 => ?_))))))))
   ·refine bE (nT (aD (aQ (aD (cW [(0, .slice x_v0.1 v0.length x_v0.2), (1, .slice x_v1.1 v1.length x_v1.2), (5, .int .i64 (Q6))] mixed (.inr (by kernel_rfl)) ⟨rfl, rfl, rfl, trivial⟩ rfl (aZ rfl (aZ rfl (gdo H1 fun h15 H1 => (aX (bT dE ty3 rfl rfl h15 rfl (aN (aL aR))) (aX (bV (i := Q6.toNat) (j := 0) ty3 rfl (aN (aL aR)) h15.lt rfl) ?_))))))))))
    refine aZ rfl (aZ rfl (gdo H1 fun h16 H1 => (aX (bT dE ty3 rfl rfl h16 rfl (aN (aL aR.s))) (aX (bV (i := Q6.toNat) (j := 0) ty3 rfl (aN (aL aR.s)) h16.lt rfl) (aV (p_neq rfl rfl) (nT (cH H1 rfl (fun h17 H1 => ?_) (fun h17 H1 => ?_))))))))
    ·refine sr (aH (v := .bool (false)) rfl (nl (bN (rB (rT (rT (rB (rT (rT (?_))))))))))
     obtain rfl := hb11 _ (sm H1)
     replace H := sw.r H
     obtain rfl := si H
     exact bk
    ·exact bE (nB (nT (aP (aF rfl (gdo H1 fun h18 H1 => (aG (bO rfl rfl h18) (aH rfl (aJ (nLI () (hi10 _ (sm H1)) bH)))))))))
   ·exact cR (xT (xT (xE (nMI () (hb11 _ (sm H1)) bH))))
  ·rintro e19 y8 H
   refine nT (sr (aH (v := .bool (true)) rfl (nl ?_)))
   obtain rfl := si H
   exact bN bk
end Go.Proofs.Ytcbcmljlomihpaa
