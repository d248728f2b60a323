/- The walks and the plain laws, part 1: each function that the law reaches computes what its plain function tells, and what the plain functions answer. Conditions: lengths that memory can hold. -/
import Derived.Test.YtichamokohjneaaSxB
import Derived.Test.YtichamokohjneaaProg
namespace Go.Proofs.Ytichamokohjneaa
open Go Go.Sx
theorem Try.mixed : Try.prog.follows .mixedOrders = true := by kernel_rfl
abbrev Tag := ByteArray × ByteArray
abbrev PostH := Tag × HV
abbrev Post := Tag × (List Int)
abbrev Index := (List (List Tag)) × (List Post)
abbrev L6Rd := (List UInt8) × Int
abbrev Row := Int × Int
abbrev Part := (List Int) × (List (List Row))
abbrev Sample := Int × Row
abbrev Store := Index × (List Part) × (List Sample)
abbrev File := Int × Part
abbrev Disk := (List File) × (List Int) × (List (List Tag)) × Int
abbrev World := Store × Disk
instance : DecidableEq Tag := inferInstanceAs (DecidableEq (ByteArray × ByteArray))
instance : DecidableEq Post := inferInstanceAs (DecidableEq (Tag × (List Int)))
instance : DecidableEq Index := inferInstanceAs (DecidableEq ((List (List Tag)) × (List Post)))
instance : DecidableEq L6Rd := inferInstanceAs (DecidableEq ((List UInt8) × Int))
instance : DecidableEq Row := inferInstanceAs (DecidableEq (Int × Int))
instance : DecidableEq Part := inferInstanceAs (DecidableEq ((List Int) × (List (List Row))))
instance : DecidableEq Sample := inferInstanceAs (DecidableEq (Int × Row))
instance : DecidableEq Store := inferInstanceAs (DecidableEq (Index × (List Part) × (List Sample)))
instance : DecidableEq File := inferInstanceAs (DecidableEq (Int × Part))
instance : DecidableEq Disk := inferInstanceAs (DecidableEq ((List File) × (List Int) × (List (List Tag)) × Int))
instance : DecidableEq World := inferInstanceAs (DecidableEq (Store × Disk))
theorem ty3 : TyI Try.prog 3 false 1 (.int .i64 0) 8 := ⟨by kernel_rfl, by kernel_rfl, rfl⟩
theorem ty5 : TyI Try.prog 5 false 1 (.int .u8 0) 1 := ⟨by kernel_rfl, by kernel_rfl, rfl⟩
theorem ty9 : TyI Try.prog 9 false 1 (.string ⟨#[]⟩) 16 := ⟨by kernel_rfl, by kernel_rfl, rfl⟩
theorem ty22 : TyI Try.prog 22 false 1 (.slice none 0 0) 24 := ⟨by kernel_rfl, by kernel_rfl, rfl⟩
theorem ty23 : TyI Try.prog 23 false 1 (.slice none 0 0) 24 := ⟨by kernel_rfl, by kernel_rfl, rfl⟩
theorem ty24 : TyI Try.prog 24 false 1 (.slice none 0 0) 24 := ⟨by kernel_rfl, by kernel_rfl, rfl⟩
theorem ty26 : TyI Try.prog 26 true 2 (.agg #[.slice none 0 0, .slice none 0 0]) 48 := ⟨by kernel_rfl, by kernel_rfl, rfl⟩
theorem fa26_0 : FA Try.prog 26 0 0 := ⟨_, Try.underlying26, _, rfl, rfl, by obtain ⟨i, hi, _, hn, _⟩ := ty23.info'; exact ⟨i, hi, by rw [hn]; decide⟩⟩
theorem fa26_1 : FA Try.prog 26 1 1 := ⟨_, Try.underlying26, _, rfl, rfl, by obtain ⟨i, hi, _, hn, _⟩ := ty24.info'; exact ⟨i, hi, by rw [hn]; decide⟩⟩
theorem ty30 : TyI Try.prog 30 true 2 (.agg #[.string ⟨#[]⟩, .string ⟨#[]⟩]) 32 := ⟨by kernel_rfl, by kernel_rfl, rfl⟩
theorem fa30_0 : FA Try.prog 30 0 0 := ⟨_, Try.underlying30, _, rfl, rfl, by obtain ⟨i, hi, _, hn, _⟩ := ty9.info'; exact ⟨i, hi, by rw [hn]; decide⟩⟩
theorem fa30_1 : FA Try.prog 30 1 1 := ⟨_, Try.underlying30, _, rfl, rfl, by obtain ⟨i, hi, _, hn, _⟩ := ty9.info'; exact ⟨i, hi, by rw [hn]; decide⟩⟩
theorem ty31 : TyI Try.prog 31 false 1 (.slice none 0 0) 24 := ⟨by kernel_rfl, by kernel_rfl, rfl⟩
theorem ty33 : TyI Try.prog 33 true 3 (.agg #[.string ⟨#[]⟩, .string ⟨#[]⟩, .slice none 0 0]) 56 := ⟨by kernel_rfl, by kernel_rfl, rfl⟩
theorem fa33_0 : FA Try.prog 33 0 0 := ⟨_, Try.underlying33, _, rfl, rfl, by obtain ⟨i, hi, _, hn, _⟩ := ty30.info'; exact ⟨i, hi, by rw [hn]; decide⟩⟩
theorem fa33_1 : FA Try.prog 33 1 2 := ⟨_, Try.underlying33, _, rfl, rfl, by obtain ⟨i, hi, _, hn, _⟩ := ty31.info'; exact ⟨i, hi, by rw [hn]; decide⟩⟩
theorem ty38 : TyI Try.prog 38 false 1 (.slice none 0 0) 24 := ⟨by kernel_rfl, by kernel_rfl, rfl⟩
theorem ty134 : TyI Try.prog 134 true 2 (.agg #[.slice none 0 0, .int .i64 0]) 32 := ⟨by kernel_rfl, by kernel_rfl, rfl⟩
theorem fa134_0 : FA Try.prog 134 0 0 := ⟨_, Try.underlying134, _, rfl, rfl, by obtain ⟨i, hi, _, hn, _⟩ := ty22.info'; exact ⟨i, hi, by rw [hn]; decide⟩⟩
theorem fa134_1 : FA Try.prog 134 1 1 := ⟨_, Try.underlying134, _, rfl, rfl, by obtain ⟨i, hi, _, hn, _⟩ := ty3.info'; exact ⟨i, hi, by rw [hn]; decide⟩⟩
theorem ty192 : TyI Try.prog 192 false 1 (.int .u64 0) 8 := ⟨by kernel_rfl, by kernel_rfl, rfl⟩
theorem pl26 : PL Try.prog 26 #[(0, 1), (1, 1)] := ⟨_, Try.underlying26, fun w => by simp [ty23.sizeOf w]⟩
theorem pl30 : PL Try.prog 30 #[(0, 1), (1, 1)] := ⟨_, Try.underlying30, fun w => by simp [ty9.sizeOf w]⟩
theorem pl33 : PL Try.prog 33 #[(0, 2), (2, 1)] := ⟨_, Try.underlying33, fun w => by simp [ty30.sizeOf w]⟩
theorem pl134 : PL Try.prog 134 #[(0, 1), (1, 1)] := ⟨_, Try.underlying134, fun w => by simp [ty22.sizeOf w]⟩
theorem ae30 : AEq Try.prog 30 Tag := ⟨by kernel_rfl, fun d a b w => by
 rw [run_equalIn_agg w (d + 2) 30 _ _ (by kernel_rfl) (by kernel_rfl)]
 simp only [Program.fieldsOf, Try.underlying30, Flat.enc, List.cons_append, List.nil_append]
 simp [Op.eqFields, part, ty9.isAgg, ty9.sizeOf, run_equalIn_string w (d + 1) 9 _ _ Try.underlying9, seq_dec]
 by_cases h0 : a.1 = b.1 <;> by_cases h1 : a.2 = b.2 <;> simp [h0, h1, Prod.ext_iff]⟩
noncomputable def p_spec_l6Open (v0 : (List UInt8)) : Option (L6Rd) := cond (decide (2000 < (v0.length : Int))) (gd (sl2 0 2000 v0.length) <| some (((v0.take 2000).drop 0), 0)) (some (v0, 0))
theorem c_spec_l6Open {r : L6Rd} (v0 : (List UInt8)) (x_v0 : Option Addr × Nat) (H : p_spec_l6Open v0 = some r) : Fn' Try.prog 59 #[.slice x_v0.1 v0.length x_v0.2] [imm (.slice x_v0.1 v0.length x_v0.2) v0] [] (ι := Nat × ((Option Addr × Nat) × Unit)) (fun x => .pointer (some ⟨x.1, 0, none⟩)) (fun x => [imm (.slice x.2.1.1 r.1.length x.2.1.2) r.1]) (fun x => [box x.1 134 [.slice x.2.1.1 r.1.length x.2.1.2, .int .i64 (r.2)]]) := by
 refine calls_of (args := [_]) Try.func59 rfl (by kernel_rfl) Try.ntmps59 (by simp) fun c => ?_
 unfold p_spec_l6Open at H
 refine Tr.seq (Tr.region ?_)
 refine Rg.q (v := .pointer none) (Pu.qo (p_assign rfl)) (by decide) (Rg.nl (nT ?_))
 refine Tr.seq (Tr.seq (Tr.region ?_))
 refine Rg.q (v := .slice x_v0.1 v0.length x_v0.2) (Pu.qo (p_move rfl)) (by decide) ?_
 refine Rg.q (v := .int .i64 ((v0.length : Int))) (Pu.qo (p_len 5 Try.underlying22 rfl)) (by decide) ?_
 refine Rg.q (v := .bool (decide (2000 < (v0.length : Int)))) (Pu.qo (p_gtr rfl rfl)) (by decide) (Rg.nl (nT ?_))
 refine Tr.cond (b := decide (2000 < (v0.length : Int))) rfl (fun h1 => ?_) (fun h1 => ?_)
 ·have H := cdT h1 H
  refine Tr.region ?_
  refine Rg.q (v := .slice x_v0.1 v0.length x_v0.2) (Pu.qo (p_move rfl)) (by decide) ?_
  obtain ⟨h2, H⟩ := gd.of H
  refine Rg.q (v := .slice (subA x_v0.1 x_v0.2 0 (Enc.sz UInt8)) (((v0.take 2000).drop 0).length) (x_v0.2 - 0)) (q_slF (l := v0) (α := UInt8) 0 2000 Try.underlying22 ty5 rfl rfl (fun _ => rfl) rfl (fun h => nomatch h) h2 (Ent.b Ent.z)) (by decide) ?_
  refine Rg.q (v := .slice (subA x_v0.1 x_v0.2 0 (Enc.sz UInt8)) (((v0.take 2000).drop 0).length) (x_v0.2 - 0)) (Pu.qo (p_assign rfl)) (by decide) (Rg.nl (nT ?_))
  refine Tr.seq (Tr.region ?_)
  refine Rg.q (v := .slice (subA x_v0.1 x_v0.2 0 (Enc.sz UInt8)) (((v0.take 2000).drop 0).length) (x_v0.2 - 0)) (Pu.qo (p_move rfl)) (by decide) ?_
  refine Rg.q (v := .agg #[.slice (subA x_v0.1 x_v0.2 0 (Enc.sz UInt8)) (((v0.take 2000).drop 0).length) (x_v0.2 - 0), .int .i64 (0)]) (Pu.qo (p_buildS (vs := [(0, .slice (subA x_v0.1 x_v0.2 0 (Enc.sz UInt8)) (((v0.take 2000).drop 0).length) (x_v0.2 - 0))]) (cs := #[.slice (subA x_v0.1 x_v0.2 0 (Enc.sz UInt8)) (((v0.take 2000).drop 0).length) (x_v0.2 - 0), .int .i64 (0)]) ty134 pl134 rfl rfl)) (by decide) ?_
  refine Rg.ed (e_box (t := 134) (v := .agg #[.slice (subA x_v0.1 x_v0.2 0 (Enc.sz UInt8)) (((v0.take 2000).drop 0).length) (x_v0.2 - 0), .int .i64 (0)]) rfl) rfl (by decide) ?_
  rintro _ _ _ ⟨g3, rfl, rfl, rfl⟩
  refine Rg.q (v := .pointer (some ⟨g3, 0, none⟩)) (Pu.qo (p_assign rfl)) (by decide) (Rg.nl (nT ?_))
  refine tRet ?_
  have hr := Option.some.inj H; subst hr
  exact back1 (g3, ((subA x_v0.1 x_v0.2 0 (Enc.sz UInt8), (x_v0.2 - 0)), ())) rfl (ResV.tmp (v := .pointer (some ⟨g3, 0, none⟩)) rfl) rfl (Ents.cons (Ent.sub Ent.z h2.le h2.lt) Ents.nil) (.cons Del.here .nil)
 ·have H := cdF h1 H
  refine tSkip ?_
  refine nT (?_)
  refine Tr.seq (Tr.region ?_)
  refine Rg.q (v := .slice x_v0.1 v0.length x_v0.2) (Pu.qo (p_move rfl)) (by decide) ?_
  refine Rg.q (v := .agg #[.slice x_v0.1 v0.length x_v0.2, .int .i64 (0)]) (Pu.qo (p_buildS (vs := [(0, .slice x_v0.1 v0.length x_v0.2)]) (cs := #[.slice x_v0.1 v0.length x_v0.2, .int .i64 (0)]) ty134 pl134 rfl rfl)) (by decide) ?_
  refine Rg.ed (e_box (t := 134) (v := .agg #[.slice x_v0.1 v0.length x_v0.2, .int .i64 (0)]) rfl) rfl (by decide) ?_
  rintro _ _ _ ⟨g4, rfl, rfl, rfl⟩
  refine Rg.q (v := .pointer (some ⟨g4, 0, none⟩)) (Pu.qo (p_assign rfl)) (by decide) (Rg.nl (nT ?_))
  refine tRet ?_
  have hr := Option.some.inj H; subst hr
  exact back1 (g4, (x_v0, ())) rfl (ResV.tmp (v := .pointer (some ⟨g4, 0, none⟩)) rfl) rfl (Ents.cons Ent.z Ents.nil) (.cons Del.here .nil)
noncomputable def p_spec_l11New : Option (Index) := some (([] : List (List Tag)), ([] : List Post))
theorem c_spec_l11New {r : Index}  (H : p_spec_l11New = some r) : Fn' Try.prog 109 #[] [] [] (ι := (Option Addr × Nat) × (Option Addr × Nat)) (fun x => .agg #[.slice x.1.1 r.1.length x.1.2, .slice x.2.1 r.2.length x.2.2]) (fun _ => []) (fun x => [tree (.slice x.1.1 r.1.length x.1.2) r.1, tree (.slice x.2.1 r.2.length x.2.2) r.2]) := by
 refine calls_of (args := []) Try.func109 rfl (by kernel_rfl) Try.ntmps109 (by simp) fun c => ?_
 unfold p_spec_l11New at H
 refine Tr.seq (Tr.region ?_)
 refine Rg.ed (e_alloc ty26) rfl (by decide) ?_
 rintro _ _ _ ⟨g1, rfl, rfl, rfl⟩
 refine Rg.nl (nT ?_)
 refine Tr.seq (Tr.region ?_)
 refine Rg.ed (e_lit0 (List Tag) Try.underlying23 ty38) rfl (by decide) ?_
 rintro _ _ _ ⟨a2, c3, rfl, rfl, rfl⟩
 refine Rg.ed (e_lit0 Post Try.underlying24 ty33) rfl (by decide) ?_
 rintro _ _ _ ⟨a4, c5, rfl, rfl, rfl⟩
 refine Rg.q (v := .agg #[.slice a2 (([] : List (List Tag)).length) c3, .slice a4 (([] : List Post).length) c5]) (Pu.qo (p_buildS (vs := [(0, .slice a2 (([] : List (List Tag)).length) c3), (1, .slice a4 (([] : List Post).length) c5)]) (cs := #[.slice a2 (([] : List (List Tag)).length) c3, .slice a4 (([] : List Post).length) c5]) ty26 pl26 rfl rfl)) (by decide) ?_
 refine Rg.en (e_store (v := .agg #[.slice a2 (([] : List (List Tag)).length) c3, .slice a4 (([] : List Post).length) c5]) (cs' := [.slice a2 (([] : List (List Tag)).length) c3, .slice a4 (([] : List Post).length) c5]) ty26 rfl rfl Upd.here.there.there rfl (by simp [Value.cells, Value.oneCell']) (Nat.le_of_ble_eq_true rfl) rfl) rfl ?_
 rintro _ _ _ ⟨rfl, rfl, rfl⟩
 refine Rg.nl (nT ?_)
 refine tRet ?_
 have hr := Option.some.inj H; subst hr
 exact back1 ((a2, c3), (a4, c5)) rfl (ResV.agg ty26 rfl Has.here.there.there rfl) rfl Ents.nil (.cons Del.here.there (.cons Del.here .nil))
noncomputable def p_spec_l6Rd_pick (v0 : L6Rd) (v1 : Int) : Option (Int × Int) := gd (I64 (v0.2 + 1)) <| bd (cond (decide (v1 < 1)) (some (true)) (some (decide ((v0.1.length : Int) = 0)))) fun b2 => cond (b2) (some (0, v0.2 + 1)) (gd (I64 ((v0.2 + 1) - 1)) <| cond (decide (((v0.2 + 1) - 1) < (v0.1.length : Int))) (gd (ix ((v0.2 + 1) - 1) v0.1.length) <| gd (v1 ≠ 0) <| gd (I64 (((nth v0.1 (((v0.2 + 1) - 1).toNat)).toNat : Int).tmod v1)) <| some (((nth v0.1 (((v0.2 + 1) - 1).toNat)).toNat : Int).tmod v1, v0.2 + 1)) (gd ((v0.1.length : Int) ≠ 0) <| gd (I64 (((v0.2 + 1) - 1).tmod (v0.1.length : Int))) <| gd (ix (((v0.2 + 1) - 1).tmod (v0.1.length : Int)) v0.1.length) <| gd (I64 (((nth v0.1 ((((v0.2 + 1) - 1).tmod (v0.1.length : Int)).toNat)).toNat : Int) * 131)) <| gd (I64 (((v0.2 + 1) - 1) * 7)) <| gd (I64 ((((v0.2 + 1) - 1) * 7) + 3)) <| gd (I64 (((((v0.2 + 1) - 1) * 7) + 3).tmod (v0.1.length : Int))) <| gd (ix (((((v0.2 + 1) - 1) * 7) + 3).tmod (v0.1.length : Int)) v0.1.length) <| gd (I64 (((nth v0.1 ((((((v0.2 + 1) - 1) * 7) + 3).tmod (v0.1.length : Int)).toNat)).toNat : Int) * 1117)) <| gd (I64 ((((nth v0.1 ((((v0.2 + 1) - 1).tmod (v0.1.length : Int)).toNat)).toNat : Int) * 131) + (((nth v0.1 ((((((v0.2 + 1) - 1) * 7) + 3).tmod (v0.1.length : Int)).toNat)).toNat : Int) * 1117))) <| gd (I64 (((v0.2 + 1) - 1) * 29)) <| gd (I64 (((((nth v0.1 ((((v0.2 + 1) - 1).tmod (v0.1.length : Int)).toNat)).toNat : Int) * 131) + (((nth v0.1 ((((((v0.2 + 1) - 1) * 7) + 3).tmod (v0.1.length : Int)).toNat)).toNat : Int) * 1117)) + (((v0.2 + 1) - 1) * 29))) <| gd (I64 (((v0.2 + 1) - 1).tdiv (v0.1.length : Int))) <| gd (I64 ((((v0.2 + 1) - 1).tdiv (v0.1.length : Int)) * 53)) <| gd (I64 ((((((nth v0.1 ((((v0.2 + 1) - 1).tmod (v0.1.length : Int)).toNat)).toNat : Int) * 131) + (((nth v0.1 ((((((v0.2 + 1) - 1) * 7) + 3).tmod (v0.1.length : Int)).toNat)).toNat : Int) * 1117)) + (((v0.2 + 1) - 1) * 29)) + ((((v0.2 + 1) - 1).tdiv (v0.1.length : Int)) * 53))) <| gd (I64 (((((((nth v0.1 ((((v0.2 + 1) - 1).tmod (v0.1.length : Int)).toNat)).toNat : Int) * 131) + (((nth v0.1 ((((((v0.2 + 1) - 1) * 7) + 3).tmod (v0.1.length : Int)).toNat)).toNat : Int) * 1117)) + (((v0.2 + 1) - 1) * 29)) + ((((v0.2 + 1) - 1).tdiv (v0.1.length : Int)) * 53)).tdiv 64)) <| gd (nn ((((((nth v0.1 ((((v0.2 + 1) - 1).tmod (v0.1.length : Int)).toNat)).toNat : Int) * 131) + (((nth v0.1 ((((((v0.2 + 1) - 1) * 7) + 3).tmod (v0.1.length : Int)).toNat)).toNat : Int) * 1117)) + (((v0.2 + 1) - 1) * 29)) + ((((v0.2 + 1) - 1).tdiv (v0.1.length : Int)) * 53))) <| gd (nn (((((((nth v0.1 ((((v0.2 + 1) - 1).tmod (v0.1.length : Int)).toNat)).toNat : Int) * 131) + (((nth v0.1 ((((((v0.2 + 1) - 1) * 7) + 3).tmod (v0.1.length : Int)).toNat)).toNat : Int) * 1117)) + (((v0.2 + 1) - 1) * 29)) + ((((v0.2 + 1) - 1).tdiv (v0.1.length : Int)) * 53)).tdiv 64)) <| gd (v1 ≠ 0) <| gd (I64 ((xr ((((((nth v0.1 ((((v0.2 + 1) - 1).tmod (v0.1.length : Int)).toNat)).toNat : Int) * 131) + (((nth v0.1 ((((((v0.2 + 1) - 1) * 7) + 3).tmod (v0.1.length : Int)).toNat)).toNat : Int) * 1117)) + (((v0.2 + 1) - 1) * 29)) + ((((v0.2 + 1) - 1).tdiv (v0.1.length : Int)) * 53)) (((((((nth v0.1 ((((v0.2 + 1) - 1).tmod (v0.1.length : Int)).toNat)).toNat : Int) * 131) + (((nth v0.1 ((((((v0.2 + 1) - 1) * 7) + 3).tmod (v0.1.length : Int)).toNat)).toNat : Int) * 1117)) + (((v0.2 + 1) - 1) * 29)) + ((((v0.2 + 1) - 1).tdiv (v0.1.length : Int)) * 53)).tdiv 64)).tmod v1)) <| some ((xr ((((((nth v0.1 ((((v0.2 + 1) - 1).tmod (v0.1.length : Int)).toNat)).toNat : Int) * 131) + (((nth v0.1 ((((((v0.2 + 1) - 1) * 7) + 3).tmod (v0.1.length : Int)).toNat)).toNat : Int) * 1117)) + (((v0.2 + 1) - 1) * 29)) + ((((v0.2 + 1) - 1).tdiv (v0.1.length : Int)) * 53)) (((((((nth v0.1 ((((v0.2 + 1) - 1).tmod (v0.1.length : Int)).toNat)).toNat : Int) * 131) + (((nth v0.1 ((((((v0.2 + 1) - 1) * 7) + 3).tmod (v0.1.length : Int)).toNat)).toNat : Int) * 1117)) + (((v0.2 + 1) - 1) * 29)) + ((((v0.2 + 1) - 1).tdiv (v0.1.length : Int)) * 53)).tdiv 64)).tmod v1, v0.2 + 1)))
theorem c_spec_l6Rd_pick {r : Int × Int} (g_v0 : Nat) (v0 : L6Rd) (x_v0 : (Option Addr × Nat) × Unit) (v1 : Int) (H : p_spec_l6Rd_pick v0 v1 = some r) : Fn' Try.prog 61 #[.pointer (some ⟨g_v0, 0, none⟩), .int .i64 (v1)] [imm (.slice x_v0.1.1 v0.1.length x_v0.1.2) v0.1] [box g_v0 134 [.slice x_v0.1.1 v0.1.length x_v0.1.2, .int .i64 (v0.2)]] (ι := Unit) (fun _ => .int .i64 (r.1)) (fun _ => []) (fun _ => [box g_v0 134 [.slice x_v0.1.1 v0.1.length x_v0.1.2, .int .i64 (r.2)]]) := by
 refine calls_of (args := [_, _]) Try.func61 rfl (by kernel_rfl) Try.ntmps61 (by simp) fun c => ?_
 unfold p_spec_l6Rd_pick at H
 refine Tr.seq (Tr.region ?_)
 refine Rg.q (v := .int .i64 (0)) (Pu.qo (p_assign rfl)) (by decide) (Rg.nl (nT ?_))
 refine Tr.seq (Tr.region ?_)
 refine Rg.q (v := .pointer (some ⟨g_v0, 0, none⟩)) (Pu.qo (p_move rfl)) (by decide) ?_
 refine Rg.q (v := .pointer (some ⟨g_v0, 0, none⟩)) (Pu.qo (p_move rfl)) (by decide) ?_
 refine Rg.q (v := .pointer (some ⟨g_v0, 0, none⟩)) (Pu.qo (p_nil rfl)) (by decide) ?_
 refine Rg.q (v := .pointer (some ⟨g_v0, 1, none⟩)) (Pu.qo (p_fabE fa134_1 rfl rfl)) (by decide) ?_
 refine Rg.q (v := .int .i64 (v0.2)) (q_ldb ty3 rfl Has.here rfl) (by decide) ?_
 obtain ⟨h1, H⟩ := gd.of H
 refine Rg.q (v := .int .i64 (v0.2 + 1)) (Pu.qo (p_add rfl rfl h1)) (by decide) ?_
 refine Rg.q (v := .pointer (some ⟨g_v0, 0, none⟩)) (Pu.qo (p_nil rfl)) (by decide) ?_
 refine Rg.q (v := .pointer (some ⟨g_v0, 1, none⟩)) (Pu.qo (p_fabE fa134_1 rfl rfl)) (by decide) ?_
 refine Rg.en (e_store (v := .int .i64 (v0.2 + 1)) (cs' := [.slice x_v0.1.1 v0.1.length x_v0.1.2, .int .i64 (v0.2 + 1)]) ty3 rfl rfl Upd.here rfl (by simp [Value.cells, Value.oneCell']) (Nat.le_of_ble_eq_true rfl) rfl) rfl ?_
 rintro _ _ _ ⟨rfl, rfl, rfl⟩
 refine Rg.nl (nT ?_)
 refine Tr.seq ?_
 obtain ⟨b2, j3, H⟩ := bd.of H
 refine tMid1 [(24, .bool (b2)), (0, .pointer (some ⟨g_v0, 0, none⟩)), (1, .int .i64 (v1))] ?_ ?_
 ·refine tLinT [(0, .pointer (some ⟨g_v0, 0, none⟩)), (1, .int .i64 (v1))] ⟨rfl, rfl, trivial⟩ ?_
  refine Lin.q (v := .int .i64 (v1)) (by decide) (Pu.qo (p_move rfl)) ?_
  refine Lin.q (v := .bool (decide (v1 < 1))) (by decide) (Pu.qo (p_lss rfl rfl)) ?_
  rcases Bool.eq_false_or_eq_true (decide (v1 < 1)) with h4 | h4
  ·have j3 := cdT h4 j3
   refine Lin.q (v := .bool (true)) (by decide) (Qo.eqv (v := .bool (decide (v1 < 1))) (Pu.qo (p_move rfl)) (congrArg Value.bool h4)) ?_
   refine Lin.skip (by decide) rfl ?_
   refine Lin.skip (by decide) rfl ?_
   refine Lin.skip (by decide) rfl ?_
   refine Lin.skip (by decide) rfl ?_
   refine Lin.skip (by decide) rfl ?_
   refine Lin.skip (by decide) rfl ?_
   refine Lin.q (v := .bool (true)) (by decide) (Pu.qo (p_pickT rfl rfl)) ?_
   have j3 := Option.some.inj j3; subst j3
   show At _ _ _ _ _ _
   exact n1 ⟨rfl, rfl, rfl, trivial⟩
  ·have j3 := cdF h4 j3
   refine Lin.q (v := .bool (false)) (by decide) (Qo.eqv (v := .bool (decide (v1 < 1))) (Pu.qo (p_move rfl)) (congrArg Value.bool h4)) ?_
   refine Lin.g (v := .pointer (some ⟨g_v0, 0, none⟩)) (by decide) rfl (Pu.qo (p_move rfl)) ?_
   refine Lin.g (v := .pointer (some ⟨g_v0, 0, none⟩)) (by decide) rfl (Pu.qo (p_nil rfl)) ?_
   refine Lin.g (v := .pointer (some ⟨g_v0, 0, none⟩)) (by decide) rfl (Pu.qo (p_fabE fa134_0 rfl rfl)) ?_
   refine Lin.g (v := .slice x_v0.1.1 v0.1.length x_v0.1.2) (by decide) rfl (q_ldb ty22 rfl Has.here rfl) ?_
   refine Lin.g (v := .int .i64 ((v0.1.length : Int))) (by decide) rfl (Pu.qo (p_len 5 Try.underlying22 rfl)) ?_
   refine Lin.g (v := .bool (decide ((v0.1.length : Int) = 0))) (by decide) rfl (Pu.qo (p_eql rfl rfl)) ?_
   refine Lin.q (v := .bool (decide ((v0.1.length : Int) = 0))) (by decide) (Pu.qo (p_pickF rfl rfl)) ?_
   have j3 := Option.some.inj j3; subst j3
   show At _ _ _ _ _ _
   exact n1 ⟨rfl, rfl, rfl, trivial⟩
 refine Tr.cond (b := b2) rfl (fun h5 => ?_) (fun h5 => ?_)
 ·have H := cdT h5 H
  refine Tr.seq (Tr.region ?_)
  refine Rg.q (v := .int .i64 (0)) (Pu.qo (p_assign rfl)) (by decide) (Rg.nl (nT ?_))
  refine tRet ?_
  refine rT (?_)
  have hr := Option.some.inj H; subst hr
  exact back1 () rfl (ResV.tmp (v := .int .i64 (0)) rfl) rfl Ents.nil (.cons Del.here .nil)
 ·have H := cdF h5 H
  refine tSkip ?_
  refine nT (?_)
  refine Tr.seq (Tr.region ?_)
  refine Rg.q (v := .pointer (some ⟨g_v0, 0, none⟩)) (Pu.qo (p_move rfl)) (by decide) ?_
  refine Rg.q (v := .pointer (some ⟨g_v0, 0, none⟩)) (Pu.qo (p_nil rfl)) (by decide) ?_
  refine Rg.q (v := .pointer (some ⟨g_v0, 1, none⟩)) (Pu.qo (p_fabE fa134_1 rfl rfl)) (by decide) ?_
  refine Rg.q (v := .int .i64 (v0.2 + 1)) (q_ldb ty3 rfl Has.here rfl) (by decide) ?_
  obtain ⟨h6, H⟩ := gd.of H
  refine Rg.q (v := .int .i64 ((v0.2 + 1) - 1)) (Pu.qo (p_sub rfl rfl h6)) (by decide) ?_
  refine Rg.q (v := .int .i64 ((v0.2 + 1) - 1)) (Pu.qo (p_assign rfl)) (by decide) (Rg.nl (nT ?_))
  refine Tr.seq (Tr.seq (Tr.region ?_))
  refine Rg.q (v := .int .i64 ((v0.2 + 1) - 1)) (Pu.qo (p_move rfl)) (by decide) ?_
  refine Rg.q (v := .pointer (some ⟨g_v0, 0, none⟩)) (Pu.qo (p_move rfl)) (by decide) ?_
  refine Rg.q (v := .pointer (some ⟨g_v0, 0, none⟩)) (Pu.qo (p_nil rfl)) (by decide) ?_
  refine Rg.q (v := .pointer (some ⟨g_v0, 0, none⟩)) (Pu.qo (p_fabE fa134_0 rfl rfl)) (by decide) ?_
  refine Rg.q (v := .slice x_v0.1.1 v0.1.length x_v0.1.2) (q_ldb ty22 rfl Has.here rfl) (by decide) ?_
  refine Rg.q (v := .int .i64 ((v0.1.length : Int))) (Pu.qo (p_len 5 Try.underlying22 rfl)) (by decide) ?_
  refine Rg.q (v := .bool (decide (((v0.2 + 1) - 1) < (v0.1.length : Int)))) (Pu.qo (p_lss rfl rfl)) (by decide) (Rg.nl (nT ?_))
  refine Tr.cond (b := decide (((v0.2 + 1) - 1) < (v0.1.length : Int))) rfl (fun h7 => ?_) (fun h7 => ?_)
  ·have H := cdT h7 H
   refine Tr.seq (Tr.region ?_)
   refine Rg.q (v := .pointer (some ⟨g_v0, 0, none⟩)) (Pu.qo (p_move rfl)) (by decide) ?_
   refine Rg.q (v := .pointer (some ⟨g_v0, 0, none⟩)) (Pu.qo (p_nil rfl)) (by decide) ?_
   refine Rg.q (v := .pointer (some ⟨g_v0, 0, none⟩)) (Pu.qo (p_fabE fa134_0 rfl rfl)) (by decide) ?_
   refine Rg.q (v := .slice x_v0.1.1 v0.1.length x_v0.1.2) (q_ldb ty22 rfl Has.here rfl) (by decide) ?_
   refine Rg.q (v := .int .i64 ((v0.2 + 1) - 1)) (Pu.qo (p_move rfl)) (by decide) ?_
   obtain ⟨h8, H⟩ := gd.of H
   refine Rg.q (v := elp x_v0.1.1 ((((v0.2 + 1) - 1).toNat) * Enc.sz UInt8 + 0)) (q_ixg (l := v0.1) (E := fun i => Flat.enc (nth v0.1 i)) (oa := x_v0.1.1) Try.underlying22 ty5 rfl rfl h8 rfl (EntB.flat (Ent.b Ent.z))) (by decide) ?_
   refine Rg.q (v := .int .u8 ((nth v0.1 (((v0.2 + 1) - 1).toNat)).toNat : Int)) (q_lde (l := v0.1) (E := fun i => Flat.enc (nth v0.1 i)) (oa := x_v0.1.1) (i := ((v0.2 + 1) - 1).toNat) (j := 0) ty5 rfl (EntB.flat (Ent.b Ent.z)) h8.lt rfl) (by decide) ?_
   refine Rg.q (v := .int .i64 (((nth v0.1 (((v0.2 + 1) - 1).toNat)).toNat : Int))) (Pu.qo (p_i8 Try.underlying5 Try.underlying3 rfl)) (by decide) ?_
   refine Rg.q (v := .int .i64 (v1)) (Pu.qo (p_move rfl)) (by decide) ?_
   obtain ⟨h9, H⟩ := gd.of H
   obtain ⟨h10, H⟩ := gd.of H
   refine Rg.q (v := .int .i64 (((nth v0.1 (((v0.2 + 1) - 1).toNat)).toNat : Int).tmod v1)) (Pu.qo (p_rem rfl rfl h9 h10)) (by decide) ?_
   refine Rg.q (v := .int .i64 (((nth v0.1 (((v0.2 + 1) - 1).toNat)).toNat : Int).tmod v1)) (Pu.qo (p_assign rfl)) (by decide) (Rg.nl (nT ?_))
   refine tRet ?_
   refine rT (?_)
   have hr := Option.some.inj H; subst hr
   exact back1 () rfl (ResV.tmp (v := .int .i64 (((nth v0.1 (((v0.2 + 1) - 1).toNat)).toNat : Int).tmod v1)) rfl) rfl Ents.nil (.cons Del.here .nil)
  ·have H := cdF h7 H
   refine tSkip ?_
   refine nT (Tr.seq ?_)
   refine tLinS [(5, .int .i64 ((v0.2 + 1) - 1)), (0, .pointer (some ⟨g_v0, 0, none⟩)), (1, .int .i64 (v1))] Try.mixed (.inr (by kernel_rfl)) ⟨rfl, rfl, rfl, trivial⟩ rfl ?_
   refine Lin.q (v := .pointer (some ⟨g_v0, 0, none⟩)) (by decide) (Pu.qo (p_move rfl)) ?_
   refine Lin.q (v := .pointer (some ⟨g_v0, 0, none⟩)) (by decide) (Pu.qo (p_nil rfl)) ?_
   refine Lin.q (v := .pointer (some ⟨g_v0, 0, none⟩)) (by decide) (Pu.qo (p_fabE fa134_0 rfl rfl)) ?_
   refine Lin.q (v := .slice x_v0.1.1 v0.1.length x_v0.1.2) (by decide) (q_ldb ty22 rfl Has.here rfl) ?_
   refine Lin.q (v := .int .i64 ((v0.2 + 1) - 1)) (by decide) (Pu.qo (p_move rfl)) ?_
   refine Lin.q (v := .pointer (some ⟨g_v0, 0, none⟩)) (by decide) (Pu.qo (p_move rfl)) ?_
   refine Lin.q (v := .pointer (some ⟨g_v0, 0, none⟩)) (by decide) (Pu.qo (p_nil rfl)) ?_
   refine Lin.q (v := .pointer (some ⟨g_v0, 0, none⟩)) (by decide) (Pu.qo (p_fabE fa134_0 rfl rfl)) ?_
   refine Lin.q (v := .slice x_v0.1.1 v0.1.length x_v0.1.2) (by decide) (q_ldb ty22 rfl Has.here rfl) ?_
   refine Lin.q (v := .int .i64 ((v0.1.length : Int))) (by decide) (Pu.qo (p_len 5 Try.underlying22 rfl)) ?_
   obtain ⟨h11, H⟩ := gd.of H
   obtain ⟨h12, H⟩ := gd.of H
   refine Lin.q (v := .int .i64 (((v0.2 + 1) - 1).tmod (v0.1.length : Int))) (by decide) (Pu.qo (p_rem rfl rfl h11 h12)) ?_
   obtain ⟨h13, H⟩ := gd.of H
   refine Lin.q (v := elp x_v0.1.1 (((((v0.2 + 1) - 1).tmod (v0.1.length : Int)).toNat) * Enc.sz UInt8 + 0)) (by decide) (q_ixg (l := v0.1) (E := fun i => Flat.enc (nth v0.1 i)) (oa := x_v0.1.1) Try.underlying22 ty5 rfl rfl h13 rfl (EntB.flat (Ent.b Ent.z))) ?_
   refine Lin.q (v := .int .u8 ((nth v0.1 ((((v0.2 + 1) - 1).tmod (v0.1.length : Int)).toNat)).toNat : Int)) (by decide) (q_lde (l := v0.1) (E := fun i => Flat.enc (nth v0.1 i)) (oa := x_v0.1.1) (i := (((v0.2 + 1) - 1).tmod (v0.1.length : Int)).toNat) (j := 0) ty5 rfl (EntB.flat (Ent.b Ent.z)) h13.lt rfl) ?_
   refine Lin.q (v := .int .i64 (((nth v0.1 ((((v0.2 + 1) - 1).tmod (v0.1.length : Int)).toNat)).toNat : Int))) (by decide) (Pu.qo (p_i8 Try.underlying5 Try.underlying3 rfl)) ?_
   obtain ⟨h14, H⟩ := gd.of H
   refine Lin.q (v := .int .i64 (((nth v0.1 ((((v0.2 + 1) - 1).tmod (v0.1.length : Int)).toNat)).toNat : Int) * 131)) (by decide) (Pu.qo (p_mul rfl rfl h14)) ?_
   refine Lin.q (v := .pointer (some ⟨g_v0, 0, none⟩)) (by decide) (Pu.qo (p_move rfl)) ?_
   refine Lin.q (v := .pointer (some ⟨g_v0, 0, none⟩)) (by decide) (Pu.qo (p_nil rfl)) ?_
   refine Lin.q (v := .pointer (some ⟨g_v0, 0, none⟩)) (by decide) (Pu.qo (p_fabE fa134_0 rfl rfl)) ?_
   refine Lin.q (v := .slice x_v0.1.1 v0.1.length x_v0.1.2) (by decide) (q_ldb ty22 rfl Has.here rfl) ?_
   refine Lin.q (v := .int .i64 ((v0.2 + 1) - 1)) (by decide) (Pu.qo (p_move rfl)) ?_
   obtain ⟨h15, H⟩ := gd.of H
   refine Lin.q (v := .int .i64 (((v0.2 + 1) - 1) * 7)) (by decide) (Pu.qo (p_mul rfl rfl h15)) ?_
   obtain ⟨h16, H⟩ := gd.of H
   refine Lin.q (v := .int .i64 ((((v0.2 + 1) - 1) * 7) + 3)) (by decide) (Pu.qo (p_add rfl rfl h16)) ?_
   refine Lin.q (v := .pointer (some ⟨g_v0, 0, none⟩)) (by decide) (Pu.qo (p_move rfl)) ?_
   refine Lin.q (v := .pointer (some ⟨g_v0, 0, none⟩)) (by decide) (Pu.qo (p_nil rfl)) ?_
   refine Lin.q (v := .pointer (some ⟨g_v0, 0, none⟩)) (by decide) (Pu.qo (p_fabE fa134_0 rfl rfl)) ?_
   refine Lin.q (v := .slice x_v0.1.1 v0.1.length x_v0.1.2) (by decide) (q_ldb ty22 rfl Has.here rfl) ?_
   refine Lin.q (v := .int .i64 ((v0.1.length : Int))) (by decide) (Pu.qo (p_len 5 Try.underlying22 rfl)) ?_
   obtain ⟨h17, H⟩ := gd.of H
   refine Lin.q (v := .int .i64 (((((v0.2 + 1) - 1) * 7) + 3).tmod (v0.1.length : Int))) (by decide) (Pu.qo (p_rem rfl rfl h11 h17)) ?_
   obtain ⟨h18, H⟩ := gd.of H
   refine Lin.q (v := elp x_v0.1.1 (((((((v0.2 + 1) - 1) * 7) + 3).tmod (v0.1.length : Int)).toNat) * Enc.sz UInt8 + 0)) (by decide) (q_ixg (l := v0.1) (E := fun i => Flat.enc (nth v0.1 i)) (oa := x_v0.1.1) Try.underlying22 ty5 rfl rfl h18 rfl (EntB.flat (Ent.b Ent.z))) ?_
   refine Lin.q (v := .int .u8 ((nth v0.1 ((((((v0.2 + 1) - 1) * 7) + 3).tmod (v0.1.length : Int)).toNat)).toNat : Int)) (by decide) (q_lde (l := v0.1) (E := fun i => Flat.enc (nth v0.1 i)) (oa := x_v0.1.1) (i := (((((v0.2 + 1) - 1) * 7) + 3).tmod (v0.1.length : Int)).toNat) (j := 0) ty5 rfl (EntB.flat (Ent.b Ent.z)) h18.lt rfl) ?_
   refine Lin.q (v := .int .i64 (((nth v0.1 ((((((v0.2 + 1) - 1) * 7) + 3).tmod (v0.1.length : Int)).toNat)).toNat : Int))) (by decide) (Pu.qo (p_i8 Try.underlying5 Try.underlying3 rfl)) ?_
   obtain ⟨h19, H⟩ := gd.of H
   refine Lin.q (v := .int .i64 (((nth v0.1 ((((((v0.2 + 1) - 1) * 7) + 3).tmod (v0.1.length : Int)).toNat)).toNat : Int) * 1117)) (by decide) (Pu.qo (p_mul rfl rfl h19)) ?_
   obtain ⟨h20, H⟩ := gd.of H
   refine Lin.q (v := .int .i64 ((((nth v0.1 ((((v0.2 + 1) - 1).tmod (v0.1.length : Int)).toNat)).toNat : Int) * 131) + (((nth v0.1 ((((((v0.2 + 1) - 1) * 7) + 3).tmod (v0.1.length : Int)).toNat)).toNat : Int) * 1117))) (by decide) (Pu.qo (p_add rfl rfl h20)) ?_
   refine Lin.q (v := .int .i64 ((v0.2 + 1) - 1)) (by decide) (Pu.qo (p_move rfl)) ?_
   obtain ⟨h21, H⟩ := gd.of H
   refine Lin.q (v := .int .i64 (((v0.2 + 1) - 1) * 29)) (by decide) (Pu.qo (p_mul rfl rfl h21)) ?_
   obtain ⟨h22, H⟩ := gd.of H
   refine Lin.q (v := .int .i64 (((((nth v0.1 ((((v0.2 + 1) - 1).tmod (v0.1.length : Int)).toNat)).toNat : Int) * 131) + (((nth v0.1 ((((((v0.2 + 1) - 1) * 7) + 3).tmod (v0.1.length : Int)).toNat)).toNat : Int) * 1117)) + (((v0.2 + 1) - 1) * 29))) (by decide) (Pu.qo (p_add rfl rfl h22)) ?_
   refine Lin.q (v := .int .i64 ((v0.2 + 1) - 1)) (by decide) (Pu.qo (p_move rfl)) ?_
   refine Lin.q (v := .pointer (some ⟨g_v0, 0, none⟩)) (by decide) (Pu.qo (p_move rfl)) ?_
   refine Lin.q (v := .pointer (some ⟨g_v0, 0, none⟩)) (by decide) (Pu.qo (p_nil rfl)) ?_
   refine Lin.q (v := .pointer (some ⟨g_v0, 0, none⟩)) (by decide) (Pu.qo (p_fabE fa134_0 rfl rfl)) ?_
   refine Lin.q (v := .slice x_v0.1.1 v0.1.length x_v0.1.2) (by decide) (q_ldb ty22 rfl Has.here rfl) ?_
   refine Lin.q (v := .int .i64 ((v0.1.length : Int))) (by decide) (Pu.qo (p_len 5 Try.underlying22 rfl)) ?_
   obtain ⟨h23, H⟩ := gd.of H
   refine Lin.q (v := .int .i64 (((v0.2 + 1) - 1).tdiv (v0.1.length : Int))) (by decide) (Pu.qo (p_quo rfl rfl h11 h23)) ?_
   obtain ⟨h24, H⟩ := gd.of H
   refine Lin.q (v := .int .i64 ((((v0.2 + 1) - 1).tdiv (v0.1.length : Int)) * 53)) (by decide) (Pu.qo (p_mul rfl rfl h24)) ?_
   obtain ⟨h25, H⟩ := gd.of H
   refine Lin.q (v := .int .i64 ((((((nth v0.1 ((((v0.2 + 1) - 1).tmod (v0.1.length : Int)).toNat)).toNat : Int) * 131) + (((nth v0.1 ((((((v0.2 + 1) - 1) * 7) + 3).tmod (v0.1.length : Int)).toNat)).toNat : Int) * 1117)) + (((v0.2 + 1) - 1) * 29)) + ((((v0.2 + 1) - 1).tdiv (v0.1.length : Int)) * 53))) (by decide) (Pu.qo (p_add rfl rfl h25)) ?_
   refine Lin.q (v := .int .i64 ((((((nth v0.1 ((((v0.2 + 1) - 1).tmod (v0.1.length : Int)).toNat)).toNat : Int) * 131) + (((nth v0.1 ((((((v0.2 + 1) - 1) * 7) + 3).tmod (v0.1.length : Int)).toNat)).toNat : Int) * 1117)) + (((v0.2 + 1) - 1) * 29)) + ((((v0.2 + 1) - 1).tdiv (v0.1.length : Int)) * 53))) (by decide) (Pu.qo (p_assign rfl)) ?_
   show At _ _ _ _ _ _
   refine nT (?_)
   refine Tr.seq (Tr.region ?_)
   refine Rg.q (v := .int .i64 ((((((nth v0.1 ((((v0.2 + 1) - 1).tmod (v0.1.length : Int)).toNat)).toNat : Int) * 131) + (((nth v0.1 ((((((v0.2 + 1) - 1) * 7) + 3).tmod (v0.1.length : Int)).toNat)).toNat : Int) * 1117)) + (((v0.2 + 1) - 1) * 29)) + ((((v0.2 + 1) - 1).tdiv (v0.1.length : Int)) * 53))) (Pu.qo (p_move rfl)) (by decide) ?_
   refine Rg.q (v := .int .i64 ((((((nth v0.1 ((((v0.2 + 1) - 1).tmod (v0.1.length : Int)).toNat)).toNat : Int) * 131) + (((nth v0.1 ((((((v0.2 + 1) - 1) * 7) + 3).tmod (v0.1.length : Int)).toNat)).toNat : Int) * 1117)) + (((v0.2 + 1) - 1) * 29)) + ((((v0.2 + 1) - 1).tdiv (v0.1.length : Int)) * 53))) (Pu.qo (p_move rfl)) (by decide) ?_
   obtain ⟨h26, H⟩ := gd.of H
   refine Rg.q (v := .int .i64 (((((((nth v0.1 ((((v0.2 + 1) - 1).tmod (v0.1.length : Int)).toNat)).toNat : Int) * 131) + (((nth v0.1 ((((((v0.2 + 1) - 1) * 7) + 3).tmod (v0.1.length : Int)).toNat)).toNat : Int) * 1117)) + (((v0.2 + 1) - 1) * 29)) + ((((v0.2 + 1) - 1).tdiv (v0.1.length : Int)) * 53)).tdiv 64)) (Pu.qo (p_quo rfl rfl (by decide) h26)) (by decide) ?_
   obtain ⟨h27, H⟩ := gd.of H
   obtain ⟨h28, H⟩ := gd.of H
   refine Rg.q (v := .int .i64 (xr ((((((nth v0.1 ((((v0.2 + 1) - 1).tmod (v0.1.length : Int)).toNat)).toNat : Int) * 131) + (((nth v0.1 ((((((v0.2 + 1) - 1) * 7) + 3).tmod (v0.1.length : Int)).toNat)).toNat : Int) * 1117)) + (((v0.2 + 1) - 1) * 29)) + ((((v0.2 + 1) - 1).tdiv (v0.1.length : Int)) * 53)) (((((((nth v0.1 ((((v0.2 + 1) - 1).tmod (v0.1.length : Int)).toNat)).toNat : Int) * 131) + (((nth v0.1 ((((((v0.2 + 1) - 1) * 7) + 3).tmod (v0.1.length : Int)).toNat)).toNat : Int) * 1117)) + (((v0.2 + 1) - 1) * 29)) + ((((v0.2 + 1) - 1).tdiv (v0.1.length : Int)) * 53)).tdiv 64))) (Pu.qo (p_xor rfl rfl h27 h28)) (by decide) ?_
   refine Rg.q (v := .int .i64 (xr ((((((nth v0.1 ((((v0.2 + 1) - 1).tmod (v0.1.length : Int)).toNat)).toNat : Int) * 131) + (((nth v0.1 ((((((v0.2 + 1) - 1) * 7) + 3).tmod (v0.1.length : Int)).toNat)).toNat : Int) * 1117)) + (((v0.2 + 1) - 1) * 29)) + ((((v0.2 + 1) - 1).tdiv (v0.1.length : Int)) * 53)) (((((((nth v0.1 ((((v0.2 + 1) - 1).tmod (v0.1.length : Int)).toNat)).toNat : Int) * 131) + (((nth v0.1 ((((((v0.2 + 1) - 1) * 7) + 3).tmod (v0.1.length : Int)).toNat)).toNat : Int) * 1117)) + (((v0.2 + 1) - 1) * 29)) + ((((v0.2 + 1) - 1).tdiv (v0.1.length : Int)) * 53)).tdiv 64))) (Pu.qo (p_assign rfl)) (by decide) (Rg.nl (nT ?_))
   refine Tr.seq (Tr.region ?_)
   refine Rg.q (v := .int .i64 (xr ((((((nth v0.1 ((((v0.2 + 1) - 1).tmod (v0.1.length : Int)).toNat)).toNat : Int) * 131) + (((nth v0.1 ((((((v0.2 + 1) - 1) * 7) + 3).tmod (v0.1.length : Int)).toNat)).toNat : Int) * 1117)) + (((v0.2 + 1) - 1) * 29)) + ((((v0.2 + 1) - 1).tdiv (v0.1.length : Int)) * 53)) (((((((nth v0.1 ((((v0.2 + 1) - 1).tmod (v0.1.length : Int)).toNat)).toNat : Int) * 131) + (((nth v0.1 ((((((v0.2 + 1) - 1) * 7) + 3).tmod (v0.1.length : Int)).toNat)).toNat : Int) * 1117)) + (((v0.2 + 1) - 1) * 29)) + ((((v0.2 + 1) - 1).tdiv (v0.1.length : Int)) * 53)).tdiv 64))) (Pu.qo (p_move rfl)) (by decide) ?_
   refine Rg.q (v := .int .i64 (v1)) (Pu.qo (p_move rfl)) (by decide) ?_
   obtain ⟨h29, H⟩ := gd.of H
   obtain ⟨h30, H⟩ := gd.of H
   refine Rg.q (v := .int .i64 ((xr ((((((nth v0.1 ((((v0.2 + 1) - 1).tmod (v0.1.length : Int)).toNat)).toNat : Int) * 131) + (((nth v0.1 ((((((v0.2 + 1) - 1) * 7) + 3).tmod (v0.1.length : Int)).toNat)).toNat : Int) * 1117)) + (((v0.2 + 1) - 1) * 29)) + ((((v0.2 + 1) - 1).tdiv (v0.1.length : Int)) * 53)) (((((((nth v0.1 ((((v0.2 + 1) - 1).tmod (v0.1.length : Int)).toNat)).toNat : Int) * 131) + (((nth v0.1 ((((((v0.2 + 1) - 1) * 7) + 3).tmod (v0.1.length : Int)).toNat)).toNat : Int) * 1117)) + (((v0.2 + 1) - 1) * 29)) + ((((v0.2 + 1) - 1).tdiv (v0.1.length : Int)) * 53)).tdiv 64)).tmod v1)) (Pu.qo (p_rem rfl rfl h29 h30)) (by decide) ?_
   refine Rg.q (v := .int .i64 ((xr ((((((nth v0.1 ((((v0.2 + 1) - 1).tmod (v0.1.length : Int)).toNat)).toNat : Int) * 131) + (((nth v0.1 ((((((v0.2 + 1) - 1) * 7) + 3).tmod (v0.1.length : Int)).toNat)).toNat : Int) * 1117)) + (((v0.2 + 1) - 1) * 29)) + ((((v0.2 + 1) - 1).tdiv (v0.1.length : Int)) * 53)) (((((((nth v0.1 ((((v0.2 + 1) - 1).tmod (v0.1.length : Int)).toNat)).toNat : Int) * 131) + (((nth v0.1 ((((((v0.2 + 1) - 1) * 7) + 3).tmod (v0.1.length : Int)).toNat)).toNat : Int) * 1117)) + (((v0.2 + 1) - 1) * 29)) + ((((v0.2 + 1) - 1).tdiv (v0.1.length : Int)) * 53)).tdiv 64)).tmod v1)) (Pu.qo (p_assign rfl)) (by decide) (Rg.nl (nT ?_))
   refine tRet ?_
   have hr := Option.some.inj H; subst hr
   exact back1 () rfl (ResV.tmp (v := .int .i64 ((xr ((((((nth v0.1 ((((v0.2 + 1) - 1).tmod (v0.1.length : Int)).toNat)).toNat : Int) * 131) + (((nth v0.1 ((((((v0.2 + 1) - 1) * 7) + 3).tmod (v0.1.length : Int)).toNat)).toNat : Int) * 1117)) + (((v0.2 + 1) - 1) * 29)) + ((((v0.2 + 1) - 1).tdiv (v0.1.length : Int)) * 53)) (((((((nth v0.1 ((((v0.2 + 1) - 1).tmod (v0.1.length : Int)).toNat)).toNat : Int) * 131) + (((nth v0.1 ((((((v0.2 + 1) - 1) * 7) + 3).tmod (v0.1.length : Int)).toNat)).toNat : Int) * 1117)) + (((v0.2 + 1) - 1) * 29)) + ((((v0.2 + 1) - 1).tdiv (v0.1.length : Int)) * 53)).tdiv 64)).tmod v1)) rfl) rfl Ents.nil (.cons Del.here .nil)
noncomputable def p_spec_l6Rd_of (v0 : L6Rd) (v1 : (List ByteArray)) : Option (ByteArray × Int) := bd (p_spec_l6Rd_pick v0 (v1.length : Int)) fun r1 => gd (ix r1.1 v1.length) <| some (nth v1 r1.1.toNat, r1.2)
theorem c_spec_l6Rd_of {r : ByteArray × Int} (g_v0 : Nat) (v0 : L6Rd) (x_v0 : (Option Addr × Nat) × Unit) (v1 : (List ByteArray)) (x_v1 : Option Addr × Nat) (H : p_spec_l6Rd_of v0 v1 = some r) : Fn' Try.prog 110 #[.pointer (some ⟨g_v0, 0, none⟩), .slice x_v1.1 v1.length x_v1.2] [imm (.slice x_v0.1.1 v0.1.length x_v0.1.2) v0.1, imm (.slice x_v1.1 v1.length x_v1.2) v1] [box g_v0 134 [.slice x_v0.1.1 v0.1.length x_v0.1.2, .int .i64 (v0.2)]] (ι := Unit) (fun _ => .string (r.1)) (fun _ => []) (fun _ => [box g_v0 134 [.slice x_v0.1.1 v0.1.length x_v0.1.2, .int .i64 (r.2)]]) := by
 refine calls_of (args := [_, _]) Try.func110 rfl (by kernel_rfl) Try.ntmps110 (by simp) fun c => ?_
 unfold p_spec_l6Rd_of at H
 refine Tr.seq (Tr.region ?_)
 refine Rg.q (v := .string ((⟨#[]⟩ : ByteArray))) (Pu.qo (p_assign rfl)) (by decide) (Rg.nl (nT ?_))
 refine Tr.seq (Tr.region ?_)
 refine Rg.q (v := .slice x_v1.1 v1.length x_v1.2) (Pu.qo (p_move rfl)) (by decide) ?_
 refine Rg.q (v := .pointer (some ⟨g_v0, 0, none⟩)) (Pu.qo (p_move rfl)) (by decide) ?_
 refine Rg.q (v := .slice x_v1.1 v1.length x_v1.2) (Pu.qo (p_move rfl)) (by decide) ?_
 refine Rg.q (v := .int .i64 ((v1.length : Int))) (Pu.qo (p_len 9 Try.underlying60 rfl)) (by decide) ?_
 obtain ⟨r1, h2, H⟩ := bd.of H
 refine Rg.ed (e_callM (vs := [.pointer (some ⟨g_v0, 0, none⟩), .int .i64 ((v1.length : Int))]) (c_spec_l6Rd_pick g_v0 v0 (x_v0.1, ()) (v1.length : Int) h2) (Solo.box Solo.nil) (fun _ => (Solo.box Solo.nil)) rfl (.cons Del.here .nil) (EntsB.cons (Ent.b Ent.z) EntsB.nil)) rfl (by decide) ?_
 rintro _ _ _ ⟨u3, rfl, rfl, rfl⟩
 obtain ⟨h4, H⟩ := gd.of H
 refine Rg.q (v := elp x_v1.1 (r1.1.toNat * Enc.sz ByteArray + 0)) (q_ixg (l := v1) (E := fun i => Flat.enc (nth v1 i)) (oa := x_v1.1) Try.underlying60 ty9 rfl rfl h4 rfl (EntB.flat (Ent.b Ent.z.s))) (by decide) ?_
 refine Rg.q (v := .string (nth v1 r1.1.toNat)) (q_lde (l := v1) (E := fun i => Flat.enc (nth v1 i)) (oa := x_v1.1) (i := r1.1.toNat) (j := 0) ty9 rfl (EntB.flat (Ent.b Ent.z.s)) h4.lt rfl) (by decide) ?_
 refine Rg.q (v := .string (nth v1 r1.1.toNat)) (Pu.qo (p_assign rfl)) (by decide) (Rg.nl (nT ?_))
 refine tRet ?_
 have hr := Option.some.inj H; subst hr
 exact back1 () rfl (ResV.tmp (v := .string (nth v1 r1.1.toNat)) rfl) rfl Ents.nil (.cons Del.here .nil)
noncomputable def p_spec_l71Tag (v0 : L6Rd) : Option (Tag × Int) := bd (p_spec_l6Rd_of v0 ([(⟨#[97]⟩ : ByteArray), (⟨#[98]⟩ : ByteArray), (⟨#[99]⟩ : ByteArray)] : List ByteArray)) fun r4 => bd (p_spec_l6Rd_of (v0.1, r4.2) ([(⟨#[112]⟩ : ByteArray), (⟨#[113]⟩ : ByteArray), (⟨#[122]⟩ : ByteArray)] : List ByteArray)) fun r9 => some ((r4.1, r9.1), r9.2)
theorem c_spec_l71Tag {r : Tag × Int} (g_v0 : Nat) (v0 : L6Rd) (x_v0 : (Option Addr × Nat) × Unit) (H : p_spec_l71Tag v0 = some r) : Fn' Try.prog 62 #[.pointer (some ⟨g_v0, 0, none⟩)] [imm (.slice x_v0.1.1 v0.1.length x_v0.1.2) v0.1] [box g_v0 134 [.slice x_v0.1.1 v0.1.length x_v0.1.2, .int .i64 (v0.2)]] (ι := Unit) (fun _ => .agg #[.string (r.1.1), .string (r.1.2)]) (fun _ => []) (fun _ => [box g_v0 134 [.slice x_v0.1.1 v0.1.length x_v0.1.2, .int .i64 (r.2)]]) := by
 refine calls_of (args := [_]) Try.func62 rfl (by kernel_rfl) Try.ntmps62 (by simp) fun c => ?_
 unfold p_spec_l71Tag at H
 refine Tr.seq (Tr.region ?_)
 refine Rg.ed (e_alloc ty30) rfl (by decide) ?_
 rintro _ _ _ ⟨g1, rfl, rfl, rfl⟩
 refine Rg.nl (nT ?_)
 refine Tr.seq (Tr.region ?_)
 refine Rg.q (v := .pointer (some ⟨g_v0, 0, none⟩)) (Pu.qo (p_move rfl)) (by decide) ?_
 refine Rg.ed (e_litT (α := ByteArray) (vs := [(0, .string ((⟨#[97]⟩ : ByteArray))), (1, .string ((⟨#[98]⟩ : ByteArray))), (2, .string ((⟨#[99]⟩ : ByteArray)))]) [(⟨#[97]⟩ : ByteArray), (⟨#[98]⟩ : ByteArray), (⟨#[99]⟩ : ByteArray)] rfl (fun _ => rfl) (fun _ _ => by repeat constructor) Try.underlying60 ty9 rfl (by decide) (by decide) (by kernel_rfl)) rfl (by decide) ?_
 rintro _ _ _ ⟨a2, c3, rfl, rfl, rfl⟩
 obtain ⟨r4, h5, H⟩ := bd.of H
 refine Rg.ed (e_callM (vs := [.pointer (some ⟨g_v0, 0, none⟩), .slice a2 (([(⟨#[97]⟩ : ByteArray), (⟨#[98]⟩ : ByteArray), (⟨#[99]⟩ : ByteArray)] : List ByteArray).length) c3]) (c_spec_l6Rd_of g_v0 v0 (x_v0.1, ()) ([(⟨#[97]⟩ : ByteArray), (⟨#[98]⟩ : ByteArray), (⟨#[99]⟩ : ByteArray)] : List ByteArray) (a2, c3) h5) (Solo.box Solo.nil) (fun _ => (Solo.box Solo.nil)) rfl (.cons Del.here.there.there .nil) (EntsB.cons (Ent.b Ent.z) (EntsB.cons (EntB.tree Has.here) EntsB.nil))) rfl (by decide) ?_
 rintro _ _ _ ⟨u6, rfl, rfl, rfl⟩
 refine Rg.q (v := .pointer (some ⟨g_v0, 0, none⟩)) (Pu.qo (p_move rfl)) (by decide) ?_
 refine Rg.ed (e_litT (α := ByteArray) (vs := [(0, .string ((⟨#[112]⟩ : ByteArray))), (1, .string ((⟨#[113]⟩ : ByteArray))), (2, .string ((⟨#[122]⟩ : ByteArray)))]) [(⟨#[112]⟩ : ByteArray), (⟨#[113]⟩ : ByteArray), (⟨#[122]⟩ : ByteArray)] rfl (fun _ => rfl) (fun _ _ => by repeat constructor) Try.underlying60 ty9 rfl (by decide) (by decide) (by kernel_rfl)) rfl (by decide) ?_
 rintro _ _ _ ⟨a7, c8, rfl, rfl, rfl⟩
 obtain ⟨r9, h10, H⟩ := bd.of H
 refine Rg.ed (e_callM (vs := [.pointer (some ⟨g_v0, 0, none⟩), .slice a7 (([(⟨#[112]⟩ : ByteArray), (⟨#[113]⟩ : ByteArray), (⟨#[122]⟩ : ByteArray)] : List ByteArray).length) c8]) (c_spec_l6Rd_of g_v0 (v0.1, r4.2) (x_v0.1, ()) ([(⟨#[112]⟩ : ByteArray), (⟨#[113]⟩ : ByteArray), (⟨#[122]⟩ : ByteArray)] : List ByteArray) (a7, c8) h10) (Solo.box Solo.nil) (fun _ => (Solo.box Solo.nil)) rfl (.cons Del.here.there .nil) (EntsB.cons (Ent.b Ent.z) (EntsB.cons (EntB.tree Has.here) EntsB.nil))) rfl (by decide) ?_
 rintro _ _ _ ⟨u11, rfl, rfl, rfl⟩
 refine Rg.q (v := .agg #[.string (r4.1), .string (r9.1)]) (Pu.qo (p_buildS (vs := [(0, .string (r4.1)), (1, .string (r9.1))]) (cs := #[.string (r4.1), .string (r9.1)]) ty30 pl30 rfl rfl)) (by decide) ?_
 refine Rg.en (e_store (v := .agg #[.string (r4.1), .string (r9.1)]) (cs' := [.string (r4.1), .string (r9.1)]) ty30 rfl rfl Upd.here.there.there.there rfl (by simp [Value.cells, Value.oneCell']) (Nat.le_of_ble_eq_true rfl) rfl) rfl ?_
 rintro _ _ _ ⟨rfl, rfl, rfl⟩
 refine Rg.nl (nT ?_)
 refine tRet ?_
 have hr := Option.some.inj H; subst hr
 exact back1 () rfl (ResV.agg ty30 rfl Has.here.there.there.there rfl) rfl Ents.nil (.cons Del.here .nil)
noncomputable def p_spec_l71Name_b0 (v0 : L6Rd) (Q9 : Int × (List Tag) × Int) : Option ((Int × (List Tag) × Int) ⊕ (Int × (List Tag))) := cond (decide (Q9.2.2 < (([(⟨#[97]⟩ : ByteArray), (⟨#[98]⟩ : ByteArray), (⟨#[99]⟩ : ByteArray)] : List ByteArray).length : Int))) (gd (ix Q9.2.2 ([(⟨#[97]⟩ : ByteArray), (⟨#[98]⟩ : ByteArray), (⟨#[99]⟩ : ByteArray)] : List ByteArray).length) <| bd (p_spec_l6Rd_pick (v0.1, Q9.1) 2) fun r19 => cond (decide (r19.1 = 0)) (bd (p_spec_l6Rd_of (v0.1, r19.2) ([(⟨#[112]⟩ : ByteArray), (⟨#[113]⟩ : ByteArray), (⟨#[122]⟩ : ByteArray)] : List ByteArray)) fun r25 => gd (room (Q9.2.1.length + 1)) <| gd (I64 (Q9.2.2 + 1)) <| some (.inl (r25.2, (Q9.2.1 ++ [((nth ([(⟨#[97]⟩ : ByteArray), (⟨#[98]⟩ : ByteArray), (⟨#[99]⟩ : ByteArray)] : List ByteArray) Q9.2.2.toNat), r25.1)]), Q9.2.2 + 1))) (gd (I64 (Q9.2.2 + 1)) <| some (.inl (r19.2, Q9.2.1, Q9.2.2 + 1)))) (some (.inr (Q9.1, Q9.2.1)))
noncomputable def p_spec_l71Name (v0 : L6Rd) : Option ((List Tag) × Int) := bd (lp (p_spec_l71Name_b0 v0) (v0.2, ([] : List Tag), 0)) fun x5 => cond (decide ((x5.2.length : Int) = 0)) (bd (p_spec_l71Tag (v0.1, x5.1)) fun r35 => gd (room (x5.2.length + 1)) <| bd (p_spec_l6Rd_pick (v0.1, r35.2) 40) fun r42 => cond (decide (r42.1 = 0)) (bd (p_spec_l71Tag (v0.1, r42.2)) fun r46 => gd (room ((x5.2 ++ [r35.1]).length + 1)) <| some ((x5.2 ++ [r35.1]) ++ [r46.1], r46.2)) (cond (decide (r42.1 = 1)) (gd (ix 0 (x5.2 ++ [r35.1]).length) <| bd (p_spec_l6Rd_of (v0.1, r42.2) ([(⟨#[]⟩ : ByteArray), (⟨#[111]⟩ : ByteArray), (⟨#[112, 112]⟩ : ByteArray)] : List ByteArray)) fun r58 => some ((x5.2 ++ [r35.1]).set 0 (((nth (x5.2 ++ [r35.1]) 0).1), r58.1), r58.2)) (some (x5.2 ++ [r35.1], r42.2)))) (bd (p_spec_l6Rd_pick (v0.1, x5.1) 40) fun r61 => cond (decide (r61.1 = 0)) (bd (p_spec_l71Tag (v0.1, r61.2)) fun r65 => gd (room (x5.2.length + 1)) <| some (x5.2 ++ [r65.1], r65.2)) (cond (decide (r61.1 = 1)) (gd (ix 0 x5.2.length) <| bd (p_spec_l6Rd_of (v0.1, r61.2) ([(⟨#[]⟩ : ByteArray), (⟨#[111]⟩ : ByteArray), (⟨#[112, 112]⟩ : ByteArray)] : List ByteArray)) fun r77 => some (x5.2.set 0 (((nth x5.2 0).1), r77.1), r77.2)) (some (x5.2, r61.2))))
theorem c_spec_l71Name {r : (List Tag) × Int} (g_v0 : Nat) (v0 : L6Rd) (x_v0 : (Option Addr × Nat) × Unit) (H : p_spec_l71Name v0 = some r) : Fn' Try.prog 75 #[.pointer (some ⟨g_v0, 0, none⟩)] [imm (.slice x_v0.1.1 v0.1.length x_v0.1.2) v0.1] [box g_v0 134 [.slice x_v0.1.1 v0.1.length x_v0.1.2, .int .i64 (v0.2)]] (ι := Option Addr × Nat) (fun x => .slice x.1 r.1.length x.2) (fun _ => []) (fun x => [tree (.slice x.1 r.1.length x.2) r.1, box g_v0 134 [.slice x_v0.1.1 v0.1.length x_v0.1.2, .int .i64 (r.2)]]) := by
 refine calls_of (args := [_]) Try.func75 rfl (by kernel_rfl) Try.ntmps75 (by simp) fun c => ?_
 unfold p_spec_l71Name at H
 refine Tr.seq (Tr.region ?_)
 refine Rg.q (v := .slice none 0 0) (Pu.qo (p_assign rfl)) (by decide) (Rg.nl (nT ?_))
 refine Tr.seq (Tr.region ?_)
 refine Rg.ed (e_lit0 Tag Try.underlying38 ty30) rfl (by decide) ?_
 rintro _ _ _ ⟨a1, c2, rfl, rfl, rfl⟩
 refine Rg.q (v := .slice a1 (([] : List Tag).length) c2) (Pu.qo (p_assign rfl)) (by decide) (Rg.nl (nT ?_))
 refine Tr.seq (Tr.seq (Tr.region ?_))
 refine Rg.ed (e_litT (α := ByteArray) (vs := [(0, .string ((⟨#[97]⟩ : ByteArray))), (1, .string ((⟨#[98]⟩ : ByteArray))), (2, .string ((⟨#[99]⟩ : ByteArray)))]) [(⟨#[97]⟩ : ByteArray), (⟨#[98]⟩ : ByteArray), (⟨#[99]⟩ : ByteArray)] rfl (fun _ => rfl) (fun _ _ => by repeat constructor) Try.underlying60 ty9 rfl (by decide) (by decide) (by kernel_rfl)) rfl (by decide) ?_
 rintro _ _ _ ⟨a3, c4, rfl, rfl, rfl⟩
 refine Rg.q (v := .int .i64 ((([(⟨#[97]⟩ : ByteArray), (⟨#[98]⟩ : ByteArray), (⟨#[99]⟩ : ByteArray)] : List ByteArray).length : Int))) (Pu.qo (p_len 9 Try.underlying60 rfl)) (by decide) ?_
 refine Rg.q (v := .int .i64 (0)) (Pu.qo (p_move rfl)) (by decide) (Rg.nl (nT ?_))
 obtain ⟨x5, hx6, H⟩ := bd.of H
 obtain ⟨n7, hx6⟩ := lp.of hx6
 refine tMidNC (ι := Option Addr × Nat) (fun ψ => [(0, .pointer (some ⟨g_v0, 0, none⟩)), (3, .slice ψ.1 x5.2.length ψ.2)]) (fun ψ => [box g_v0 134 [.slice x_v0.1.1 v0.1.length x_v0.1.2, .int .i64 (x5.1)], tree (.slice ψ.1 x5.2.length ψ.2) x5.2]) ?_ ?_
 ·refine Tr.block ?_
  refine tLoopC (ι := { q : Nat × (Int × (List Tag) × Int) × (Option Addr × Nat) // itr (p_spec_l71Name_b0 v0) q.1 q.2.1 = some x5 }) (fun ζ => [(0, .pointer (some ⟨g_v0, 0, none⟩)), (3, .slice ζ.1.2.2.1 ζ.1.2.1.2.1.length ζ.1.2.2.2), (7, .slice a3 (([(⟨#[97]⟩ : ByteArray), (⟨#[98]⟩ : ByteArray), (⟨#[99]⟩ : ByteArray)] : List ByteArray).length) c4), (8, .int .i64 ((([(⟨#[97]⟩ : ByteArray), (⟨#[98]⟩ : ByteArray), (⟨#[99]⟩ : ByteArray)] : List ByteArray).length : Int))), (9, .int .i64 (ζ.1.2.1.2.2))]) (fun ζ => [box g_v0 134 [.slice x_v0.1.1 v0.1.length x_v0.1.2, .int .i64 (ζ.1.2.1.1)], tree (.slice ζ.1.2.2.1 ζ.1.2.1.2.1.length ζ.1.2.2.2) ζ.1.2.1.2.1, tree (.slice a3 (([(⟨#[97]⟩ : ByteArray), (⟨#[98]⟩ : ByteArray), (⟨#[99]⟩ : ByteArray)] : List ByteArray).length) c4) ([(⟨#[97]⟩ : ByteArray), (⟨#[98]⟩ : ByteArray), (⟨#[99]⟩ : ByteArray)] : List ByteArray)]) (fun ζ => ζ.1.1) ⟨(n7, (v0.2, ([] : List Tag), 0), (a1, c2)), hx6⟩ ⟨rfl, rfl, rfl, rfl, rfl, trivial⟩ (.cons Del.here.there.there (.cons Del.here.there (.cons Del.here .nil))) ?_
  rintro ⟨⟨m8, Q9, z10⟩, hk15⟩
  obtain ⟨m16, t12, e, H1, hi13, hb14⟩ := itr.of (n := m8) (s := Q9) hk15
  subst e; unfold p_spec_l71Name_b0 at H1
  show Tr _ _ _ _ _ [(0, .pointer (some ⟨g_v0, 0, none⟩)), (3, .slice z10.1 Q9.2.1.length z10.2), (7, .slice a3 (([(⟨#[97]⟩ : ByteArray), (⟨#[98]⟩ : ByteArray), (⟨#[99]⟩ : ByteArray)] : List ByteArray).length) c4), (8, .int .i64 ((([(⟨#[97]⟩ : ByteArray), (⟨#[98]⟩ : ByteArray), (⟨#[99]⟩ : ByteArray)] : List ByteArray).length : Int))), (9, .int .i64 (Q9.2.2))] _ [box g_v0 134 [.slice x_v0.1.1 v0.1.length x_v0.1.2, .int .i64 (Q9.1)], tree (.slice z10.1 Q9.2.1.length z10.2) Q9.2.1, tree (.slice a3 (([(⟨#[97]⟩ : ByteArray), (⟨#[98]⟩ : ByteArray), (⟨#[99]⟩ : ByteArray)] : List ByteArray).length) c4) ([(⟨#[97]⟩ : ByteArray), (⟨#[98]⟩ : ByteArray), (⟨#[99]⟩ : ByteArray)] : List ByteArray)]
  refine Tr.seq (Tr.region ?_)
  refine Rg.q (v := .bool (decide (Q9.2.2 < (([(⟨#[97]⟩ : ByteArray), (⟨#[98]⟩ : ByteArray), (⟨#[99]⟩ : ByteArray)] : List ByteArray).length : Int)))) (Pu.qo (p_lss rfl rfl)) (by decide) (Rg.nl (nT ?_))
  refine Tr.seq ?_
  refine Tr.cond (b := decide (Q9.2.2 < (([(⟨#[97]⟩ : ByteArray), (⟨#[98]⟩ : ByteArray), (⟨#[99]⟩ : ByteArray)] : List ByteArray).length : Int))) rfl (fun h17 => ?_) (fun h17 => ?_)
  ·have H1 := cdT h17 H1
   refine tSkip ?_
   refine nT (Tr.seq ?_)
   refine Tr.block ?_
   refine Tr.seq (Tr.region ?_)
   obtain ⟨h18, H1⟩ := gd.of H1
   refine Rg.q (v := elp a3 (Q9.2.2.toNat * Enc.sz ByteArray + 0)) (q_ixO' Try.underlying60 ty9 rfl rfl h18 Has.here.there.there) (by decide) ?_
   refine Rg.q (v := .string (nth ([(⟨#[97]⟩ : ByteArray), (⟨#[98]⟩ : ByteArray), (⟨#[99]⟩ : ByteArray)] : List ByteArray) Q9.2.2.toNat)) (q_lde (l := ([(⟨#[97]⟩ : ByteArray), (⟨#[98]⟩ : ByteArray), (⟨#[99]⟩ : ByteArray)] : List ByteArray)) (E := fun i => Flat.enc (nth ([(⟨#[97]⟩ : ByteArray), (⟨#[98]⟩ : ByteArray), (⟨#[99]⟩ : ByteArray)] : List ByteArray) i)) (oa := a3) (i := Q9.2.2.toNat) (j := 0) ty9 rfl (EntB.flat (EntB.tree Has.here.there.there)) h18.lt rfl) (by decide) ?_
   refine Rg.q (v := .string (nth ([(⟨#[97]⟩ : ByteArray), (⟨#[98]⟩ : ByteArray), (⟨#[99]⟩ : ByteArray)] : List ByteArray) Q9.2.2.toNat)) (Pu.qo (p_assign rfl)) (by decide) (Rg.nl (nT ?_))
   refine Tr.seq (Tr.region ?_)
   refine Rg.q (v := .pointer (some ⟨g_v0, 0, none⟩)) (Pu.qo (p_move rfl)) (by decide) ?_
   obtain ⟨r19, h20, H1⟩ := bd.of H1
   refine Rg.ed (e_callM (vs := [.pointer (some ⟨g_v0, 0, none⟩), .int .i64 (2)]) (c_spec_l6Rd_pick g_v0 (v0.1, Q9.1) (x_v0.1, ()) 2 h20) (Solo.box Solo.nil) (fun _ => (Solo.box Solo.nil)) rfl (.cons Del.here .nil) (EntsB.cons (Ent.b Ent.z) EntsB.nil)) rfl (by decide) ?_
   rintro _ _ _ ⟨u21, rfl, rfl, rfl⟩
   refine Rg.q (v := .bool (decide (r19.1 = 0))) (Pu.qo (p_eql rfl rfl)) (by decide) (Rg.nl (nT ?_))
   refine Tr.cond (b := decide (r19.1 = 0)) rfl (fun h22 => ?_) (fun h22 => ?_)
   ·have H1 := cdT h22 H1
    refine Tr.region ?_
    refine Rg.q (v := .slice z10.1 Q9.2.1.length z10.2) (Pu.qo (p_move rfl)) (by decide) ?_
    refine Rg.q (v := .string (nth ([(⟨#[97]⟩ : ByteArray), (⟨#[98]⟩ : ByteArray), (⟨#[99]⟩ : ByteArray)] : List ByteArray) Q9.2.2.toNat)) (Pu.qo (p_move rfl)) (by decide) ?_
    refine Rg.q (v := .pointer (some ⟨g_v0, 0, none⟩)) (Pu.qo (p_move rfl)) (by decide) ?_
    refine Rg.ed (e_litT (α := ByteArray) (vs := [(0, .string ((⟨#[112]⟩ : ByteArray))), (1, .string ((⟨#[113]⟩ : ByteArray))), (2, .string ((⟨#[122]⟩ : ByteArray)))]) [(⟨#[112]⟩ : ByteArray), (⟨#[113]⟩ : ByteArray), (⟨#[122]⟩ : ByteArray)] rfl (fun _ => rfl) (fun _ _ => by repeat constructor) Try.underlying60 ty9 rfl (by decide) (by decide) (by kernel_rfl)) rfl (by decide) ?_
    rintro _ _ _ ⟨a23, c24, rfl, rfl, rfl⟩
    obtain ⟨r25, h26, H1⟩ := bd.of H1
    refine Rg.ed (e_callM (vs := [.pointer (some ⟨g_v0, 0, none⟩), .slice a23 (([(⟨#[112]⟩ : ByteArray), (⟨#[113]⟩ : ByteArray), (⟨#[122]⟩ : ByteArray)] : List ByteArray).length) c24]) (c_spec_l6Rd_of g_v0 (v0.1, r19.2) (x_v0.1, ()) ([(⟨#[112]⟩ : ByteArray), (⟨#[113]⟩ : ByteArray), (⟨#[122]⟩ : ByteArray)] : List ByteArray) (a23, c24) h26) (Solo.box Solo.nil) (fun _ => (Solo.box Solo.nil)) rfl (.cons Del.here.there .nil) (EntsB.cons (Ent.b Ent.z) (EntsB.cons (EntB.tree Has.here) EntsB.nil))) rfl (by decide) ?_
    rintro _ _ _ ⟨u27, rfl, rfl, rfl⟩
    refine Rg.q (v := .agg #[.string (nth ([(⟨#[97]⟩ : ByteArray), (⟨#[98]⟩ : ByteArray), (⟨#[99]⟩ : ByteArray)] : List ByteArray) Q9.2.2.toNat), .string (r25.1)]) (Pu.qo (p_buildS (vs := [(0, .string (nth ([(⟨#[97]⟩ : ByteArray), (⟨#[98]⟩ : ByteArray), (⟨#[99]⟩ : ByteArray)] : List ByteArray) Q9.2.2.toNat)), (1, .string (r25.1))]) (cs := #[.string (nth ([(⟨#[97]⟩ : ByteArray), (⟨#[98]⟩ : ByteArray), (⟨#[99]⟩ : ByteArray)] : List ByteArray) Q9.2.2.toNat), .string (r25.1)]) ty30 pl30 rfl rfl)) (by decide) ?_
    refine Rg.ed (e_lit (vs := [(0, .agg #[.string (nth ([(⟨#[97]⟩ : ByteArray), (⟨#[98]⟩ : ByteArray), (⟨#[99]⟩ : ByteArray)] : List ByteArray) Q9.2.2.toNat), .string (r25.1)])]) [.string (nth ([(⟨#[97]⟩ : ByteArray), (⟨#[98]⟩ : ByteArray), (⟨#[99]⟩ : ByteArray)] : List ByteArray) Q9.2.2.toNat), .string (r25.1)] Try.underlying38 ty30 rfl (by decide) (by decide) (by kernel_rfl)) rfl (by decide) ?_
    rintro _ _ _ ⟨g28, rfl, rfl, rfl⟩
    obtain ⟨h31, H1⟩ := gd.of H1
    refine Rg.ed (e_app1 (l := Q9.2.1) (α := Tag) ((nth ([(⟨#[97]⟩ : ByteArray), (⟨#[98]⟩ : ByteArray), (⟨#[99]⟩ : ByteArray)] : List ByteArray) Q9.2.2.toNat), r25.1) ((), ()) Try.underlying38 ty30 rfl rfl (h31.b (by decide)) h31.x rfl (ShpT.wfa _) (.cons Del.here.there.there.there (.cons Del.here .nil))) rfl (by decide) ?_
    rintro _ _ _ ⟨a29, c30, rfl, rfl, rfl⟩
    refine Rg.q (v := .slice a29 ((Q9.2.1 ++ [((nth ([(⟨#[97]⟩ : ByteArray), (⟨#[98]⟩ : ByteArray), (⟨#[99]⟩ : ByteArray)] : List ByteArray) Q9.2.2.toNat), r25.1)]).length) c30) (Pu.qo (p_assign rfl)) (by decide) (Rg.nl ?_)
    refine nB (nT (?_))
    refine Tr.region ?_
    obtain ⟨h32, H1⟩ := gd.of H1
    refine Rg.q (v := .int .i64 (Q9.2.2 + 1)) (Pu.qo (p_add rfl rfl h32)) (by decide) ?_
    refine Rg.q (v := .int .i64 (Q9.2.2 + 1)) (Pu.qo (p_move rfl)) (by decide) (Rg.nl ?_)
    exact nLC ⟨(m16, (r25.2, (Q9.2.1 ++ [((nth ([(⟨#[97]⟩ : ByteArray), (⟨#[98]⟩ : ByteArray), (⟨#[99]⟩ : ByteArray)] : List ByteArray) Q9.2.2.toNat), r25.1)]), Q9.2.2 + 1), (a29, c30)), hi13 _ (Option.some.inj H1).symm⟩ (Nat.lt_succ_self _) ⟨rfl, rfl, rfl, rfl, rfl, trivial⟩ Ents.refl (.cons Del.here.there (.cons Del.here (.cons Del.here.there .nil)))
   ·have H1 := cdF h22 H1
    refine tSkip ?_
    refine nB (nT (?_))
    refine Tr.region ?_
    obtain ⟨h33, H1⟩ := gd.of H1
    refine Rg.q (v := .int .i64 (Q9.2.2 + 1)) (Pu.qo (p_add rfl rfl h33)) (by decide) ?_
    refine Rg.q (v := .int .i64 (Q9.2.2 + 1)) (Pu.qo (p_move rfl)) (by decide) (Rg.nl ?_)
    exact nLC ⟨(m16, (r19.2, Q9.2.1, Q9.2.2 + 1), (z10.1, z10.2)), hi13 _ (Option.some.inj H1).symm⟩ (Nat.lt_succ_self _) ⟨rfl, rfl, rfl, rfl, rfl, trivial⟩ Ents.refl (.cons Del.here (.cons Del.here (.cons Del.here .nil)))
  ·have H1 := cdF h17 H1
   refine tExit (xT (xT (xE (?_))))
   have hx := hb14 _ (Option.some.inj H1).symm; subst hx
   exact nMC (z10.1, z10.2) ⟨rfl, rfl, trivial⟩ Ents.refl (.cons Del.here (.cons Del.here .nil))
 ·intro y11
  show At _ _ [(0, .pointer (some ⟨g_v0, 0, none⟩)), (3, .slice y11.1 x5.2.length y11.2)] _ [box g_v0 134 [.slice x_v0.1.1 v0.1.length x_v0.1.2, .int .i64 (x5.1)], tree (.slice y11.1 x5.2.length y11.2) x5.2] _
  refine nT (?_)
  refine Tr.seq (Tr.seq (Tr.region ?_))
  refine Rg.q (v := .slice y11.1 x5.2.length y11.2) (Pu.qo (p_move rfl)) (by decide) ?_
  refine Rg.q (v := .int .i64 ((x5.2.length : Int))) (Pu.qo (p_len 30 Try.underlying38 rfl)) (by decide) ?_
  refine Rg.q (v := .bool (decide ((x5.2.length : Int) = 0))) (Pu.qo (p_eql rfl rfl)) (by decide) (Rg.nl (nT ?_))
  refine Tr.cond (b := decide ((x5.2.length : Int) = 0)) rfl (fun h34 => ?_) (fun h34 => ?_)
  ·have H := cdT h34 H
   refine Tr.region ?_
   refine Rg.q (v := .slice y11.1 x5.2.length y11.2) (Pu.qo (p_move rfl)) (by decide) ?_
   refine Rg.q (v := .pointer (some ⟨g_v0, 0, none⟩)) (Pu.qo (p_move rfl)) (by decide) ?_
   obtain ⟨r35, h36, H⟩ := bd.of H
   refine Rg.ed (e_callM (vs := [.pointer (some ⟨g_v0, 0, none⟩)]) (c_spec_l71Tag g_v0 (v0.1, x5.1) (x_v0.1, ()) h36) (Solo.box Solo.nil) (fun _ => (Solo.box Solo.nil)) rfl (.cons Del.here .nil) (EntsB.cons (Ent.b Ent.z) EntsB.nil)) rfl (by decide) ?_
   rintro _ _ _ ⟨u37, rfl, rfl, rfl⟩
   refine Rg.ed (e_lit (vs := [(0, .agg #[.string (r35.1.1), .string (r35.1.2)])]) [.string (r35.1.1), .string (r35.1.2)] Try.underlying38 ty30 rfl (by decide) (by decide) (by kernel_rfl)) rfl (by decide) ?_
   rintro _ _ _ ⟨g38, rfl, rfl, rfl⟩
   obtain ⟨h41, H⟩ := gd.of H
   refine Rg.ed (e_app1 (l := x5.2) (α := Tag) r35.1 ((), ()) Try.underlying38 ty30 rfl rfl (h41.b (by decide)) h41.x rfl (ShpT.wfa _) (.cons Del.here.there.there (.cons Del.here .nil))) rfl (by decide) ?_
   rintro _ _ _ ⟨a39, c40, rfl, rfl, rfl⟩
   refine Rg.q (v := .slice a39 ((x5.2 ++ [r35.1]).length) c40) (Pu.qo (p_assign rfl)) (by decide) (Rg.nl (nT ?_))
   refine Tr.seq (Tr.seq (Tr.region ?_))
   refine Rg.q (v := .pointer (some ⟨g_v0, 0, none⟩)) (Pu.qo (p_move rfl)) (by decide) ?_
   obtain ⟨r42, h43, H⟩ := bd.of H
   refine Rg.ed (e_callM (vs := [.pointer (some ⟨g_v0, 0, none⟩), .int .i64 (40)]) (c_spec_l6Rd_pick g_v0 (v0.1, r35.2) (x_v0.1, ()) 40 h43) (Solo.box Solo.nil) (fun _ => (Solo.box Solo.nil)) rfl (.cons Del.here.there .nil) (EntsB.cons (Ent.b Ent.z) EntsB.nil)) rfl (by decide) ?_
   rintro _ _ _ ⟨u44, rfl, rfl, rfl⟩
   refine Rg.nl (nT ?_)
   refine Tr.block ?_
   refine Tr.seq (Tr.region ?_)
   refine Rg.q (v := .bool (decide (r42.1 = 0))) (Pu.qo (p_eql rfl rfl)) (by decide) ?_
   refine Rg.q (v := .bool (decide (r42.1 = 0))) (Pu.qo (p_assign rfl)) (by decide) (Rg.nl (nT ?_))
   refine Tr.cond (b := decide (r42.1 = 0)) rfl (fun h45 => ?_) (fun h45 => ?_)
   ·have H := cdT h45 H
    refine Tr.seq (Tr.region ?_)
    refine Rg.q (v := .slice a39 ((x5.2 ++ [r35.1]).length) c40) (Pu.qo (p_move rfl)) (by decide) ?_
    refine Rg.q (v := .pointer (some ⟨g_v0, 0, none⟩)) (Pu.qo (p_move rfl)) (by decide) ?_
    obtain ⟨r46, h47, H⟩ := bd.of H
    refine Rg.ed (e_callM (vs := [.pointer (some ⟨g_v0, 0, none⟩)]) (c_spec_l71Tag g_v0 (v0.1, r42.2) (x_v0.1, ()) h47) (Solo.box Solo.nil) (fun _ => (Solo.box Solo.nil)) rfl (.cons Del.here .nil) (EntsB.cons (Ent.b Ent.z) EntsB.nil)) rfl (by decide) ?_
    rintro _ _ _ ⟨u48, rfl, rfl, rfl⟩
    refine Rg.ed (e_lit (vs := [(0, .agg #[.string (r46.1.1), .string (r46.1.2)])]) [.string (r46.1.1), .string (r46.1.2)] Try.underlying38 ty30 rfl (by decide) (by decide) (by kernel_rfl)) rfl (by decide) ?_
    rintro _ _ _ ⟨g49, rfl, rfl, rfl⟩
    obtain ⟨h52, H⟩ := gd.of H
    refine Rg.ed (e_app1 (l := (x5.2 ++ [r35.1])) (α := Tag) r46.1 ((), ()) Try.underlying38 ty30 rfl rfl (h52.b (by decide)) h52.x rfl (ShpT.wfa _) (.cons Del.here.there.there (.cons Del.here .nil))) rfl (by decide) ?_
    rintro _ _ _ ⟨a50, c51, rfl, rfl, rfl⟩
    refine Rg.q (v := .slice a50 (((x5.2 ++ [r35.1]) ++ [r46.1]).length) c51) (Pu.qo (p_assign rfl)) (by decide) (Rg.nl (nT ?_))
    refine tRet ?_
    refine rB (rT (?_))
    have hr := Option.some.inj H; subst hr
    exact back1 (a50, c51) rfl (ResV.tmp (v := .slice a50 (((x5.2 ++ [r35.1]) ++ [r46.1]).length) c51) rfl) rfl Ents.nil (.cons Del.here (.cons Del.here .nil))
   ·have H := cdF h45 H
    refine Tr.seq (Tr.region ?_)
    refine Rg.q (v := .bool (decide (r42.1 = 1))) (Pu.qo (p_eql rfl rfl)) (by decide) ?_
    refine Rg.q (v := .bool (decide (r42.1 = 1))) (Pu.qo (p_assign rfl)) (by decide) (Rg.nl (nT ?_))
    refine Tr.cond (b := decide (r42.1 = 1)) rfl (fun h53 => ?_) (fun h53 => ?_)
    ·have H := cdT h53 H
     obtain ⟨h54, H⟩ := gd.of H
     refine Tr.zoom (k := 0) h54.lt (.cons Del.here.there .nil) fun x55 => ?_
     show Tr _ _ _ _ _ _ _ (hole (.slice a39 ((x5.2 ++ [r35.1]).length) c40) (x5.2 ++ [r35.1]) 0 [.string ((nth (x5.2 ++ [r35.1]) 0).1), .string ((nth (x5.2 ++ [r35.1]) 0).2)] :: _)
     refine Tr.region ?_
     refine Rg.q (v := .slice a39 ((x5.2 ++ [r35.1]).length) c40) (Pu.qo (p_move rfl)) (by decide) ?_
     refine Rg.q (v := .pointer (some ⟨g_v0, 0, none⟩)) (Pu.qo (p_move rfl)) (by decide) ?_
     refine Rg.ed (e_litT (α := ByteArray) (vs := [(0, .string ((⟨#[]⟩ : ByteArray))), (1, .string ((⟨#[111]⟩ : ByteArray))), (2, .string ((⟨#[112, 112]⟩ : ByteArray)))]) [(⟨#[]⟩ : ByteArray), (⟨#[111]⟩ : ByteArray), (⟨#[112, 112]⟩ : ByteArray)] rfl (fun _ => rfl) (fun _ _ => by repeat constructor) Try.underlying60 ty9 rfl (by decide) (by decide) (by kernel_rfl)) rfl (by decide) ?_
     rintro _ _ _ ⟨a56, c57, rfl, rfl, rfl⟩
     obtain ⟨r58, h59, H⟩ := bd.of H
     refine Rg.ed (e_callM (vs := [.pointer (some ⟨g_v0, 0, none⟩), .slice a56 (([(⟨#[]⟩ : ByteArray), (⟨#[111]⟩ : ByteArray), (⟨#[112, 112]⟩ : ByteArray)] : List ByteArray).length) c57]) (c_spec_l6Rd_of g_v0 (v0.1, r42.2) (x_v0.1, ()) ([(⟨#[]⟩ : ByteArray), (⟨#[111]⟩ : ByteArray), (⟨#[112, 112]⟩ : ByteArray)] : List ByteArray) (a56, c57) h59) (Solo.box Solo.nil) (fun _ => (Solo.box Solo.nil)) rfl (.cons Del.here.there.there .nil) (EntsB.cons (Ent.b Ent.z) (EntsB.cons (EntB.tree Has.here) EntsB.nil))) rfl (by decide) ?_
     rintro _ _ _ ⟨u60, rfl, rfl, rfl⟩
     refine Rg.q (v := elp a39 (0 * Enc.sz Tag + 0)) (q_ixH (k := 0) Try.underlying38 ty30 rfl rfl h54 rfl Has.here.there.there) (by decide) ?_
     refine Rg.q (v := elp a39 (0 * Enc.sz Tag + 1)) (q_faH (j := 0) (i := 0) fa30_1 rfl Has.here.there.there rfl) (by decide) ?_
     refine Rg.en (e_stH (v := .string (r58.1)) (i := 0) (j := 1) (cs' := [.string ((nth (x5.2 ++ [r35.1]) 0).1), .string (r58.1)]) ty9 rfl rfl (.cons Del.here.there.there .nil) rfl (by simp [Value.cells, Value.oneCell']) (Nat.le_of_ble_eq_true rfl) rfl rfl) rfl ?_
     rintro _ _ _ ⟨rfl, rfl, rfl⟩
     refine Rg.nl ?_
     refine nB (nT (?_))
     refine Tr.seq (Tr.region ?_)
     refine Rg.q (v := .slice a39 ((x5.2 ++ [r35.1]).length) c40) (Pu.qo (p_move rfl)) (by decide) ?_
     refine Rg.q (v := .slice a39 ((x5.2 ++ [r35.1]).length) c40) (Pu.qo (p_assign rfl)) (by decide) (Rg.nl (nT ?_))
     refine Tr.unzoom (((nth (x5.2 ++ [r35.1]) 0).1), r58.1) ((), ()) rfl (.cons Del.here .nil) ?_
     refine Tr.olen Has.here fun hn => ?_; rw [hn]
     refine tRet ?_
     have hr := Option.some.inj H; subst hr
     exact back1 (a39, c40) rfl (ResV.tmp (v := .slice a39 (((x5.2 ++ [r35.1]).set 0 (((nth (x5.2 ++ [r35.1]) 0).1), r58.1)).length) c40) rfl) rfl Ents.nil (.cons Del.here (.cons Del.here .nil))
    ·have H := cdF h53 H
     refine tSkip ?_
     refine nB (nT (?_))
     refine Tr.seq (Tr.region ?_)
     refine Rg.q (v := .slice a39 ((x5.2 ++ [r35.1]).length) c40) (Pu.qo (p_move rfl)) (by decide) ?_
     refine Rg.q (v := .slice a39 ((x5.2 ++ [r35.1]).length) c40) (Pu.qo (p_assign rfl)) (by decide) (Rg.nl (nT ?_))
     refine tRet ?_
     have hr := Option.some.inj H; subst hr
     exact back1 (a39, c40) rfl (ResV.tmp (v := .slice a39 ((x5.2 ++ [r35.1]).length) c40) rfl) rfl Ents.nil (.cons Del.here.there (.cons Del.here .nil))
  ·have H := cdF h34 H
   refine tSkip ?_
   refine nT (?_)
   refine Tr.seq (Tr.seq (Tr.region ?_))
   refine Rg.q (v := .pointer (some ⟨g_v0, 0, none⟩)) (Pu.qo (p_move rfl)) (by decide) ?_
   obtain ⟨r61, h62, H⟩ := bd.of H
   refine Rg.ed (e_callM (vs := [.pointer (some ⟨g_v0, 0, none⟩), .int .i64 (40)]) (c_spec_l6Rd_pick g_v0 (v0.1, x5.1) (x_v0.1, ()) 40 h62) (Solo.box Solo.nil) (fun _ => (Solo.box Solo.nil)) rfl (.cons Del.here .nil) (EntsB.cons (Ent.b Ent.z) EntsB.nil)) rfl (by decide) ?_
   rintro _ _ _ ⟨u63, rfl, rfl, rfl⟩
   refine Rg.nl (nT ?_)
   refine Tr.block ?_
   refine Tr.seq (Tr.region ?_)
   refine Rg.q (v := .bool (decide (r61.1 = 0))) (Pu.qo (p_eql rfl rfl)) (by decide) ?_
   refine Rg.q (v := .bool (decide (r61.1 = 0))) (Pu.qo (p_assign rfl)) (by decide) (Rg.nl (nT ?_))
   refine Tr.cond (b := decide (r61.1 = 0)) rfl (fun h64 => ?_) (fun h64 => ?_)
   ·have H := cdT h64 H
    refine Tr.seq (Tr.region ?_)
    refine Rg.q (v := .slice y11.1 x5.2.length y11.2) (Pu.qo (p_move rfl)) (by decide) ?_
    refine Rg.q (v := .pointer (some ⟨g_v0, 0, none⟩)) (Pu.qo (p_move rfl)) (by decide) ?_
    obtain ⟨r65, h66, H⟩ := bd.of H
    refine Rg.ed (e_callM (vs := [.pointer (some ⟨g_v0, 0, none⟩)]) (c_spec_l71Tag g_v0 (v0.1, r61.2) (x_v0.1, ()) h66) (Solo.box Solo.nil) (fun _ => (Solo.box Solo.nil)) rfl (.cons Del.here .nil) (EntsB.cons (Ent.b Ent.z) EntsB.nil)) rfl (by decide) ?_
    rintro _ _ _ ⟨u67, rfl, rfl, rfl⟩
    refine Rg.ed (e_lit (vs := [(0, .agg #[.string (r65.1.1), .string (r65.1.2)])]) [.string (r65.1.1), .string (r65.1.2)] Try.underlying38 ty30 rfl (by decide) (by decide) (by kernel_rfl)) rfl (by decide) ?_
    rintro _ _ _ ⟨g68, rfl, rfl, rfl⟩
    obtain ⟨h71, H⟩ := gd.of H
    refine Rg.ed (e_app1 (l := x5.2) (α := Tag) r65.1 ((), ()) Try.underlying38 ty30 rfl rfl (h71.b (by decide)) h71.x rfl (ShpT.wfa _) (.cons Del.here.there.there (.cons Del.here .nil))) rfl (by decide) ?_
    rintro _ _ _ ⟨a69, c70, rfl, rfl, rfl⟩
    refine Rg.q (v := .slice a69 ((x5.2 ++ [r65.1]).length) c70) (Pu.qo (p_assign rfl)) (by decide) (Rg.nl (nT ?_))
    refine tRet ?_
    refine rB (rT (?_))
    have hr := Option.some.inj H; subst hr
    exact back1 (a69, c70) rfl (ResV.tmp (v := .slice a69 ((x5.2 ++ [r65.1]).length) c70) rfl) rfl Ents.nil (.cons Del.here (.cons Del.here .nil))
   ·have H := cdF h64 H
    refine Tr.seq (Tr.region ?_)
    refine Rg.q (v := .bool (decide (r61.1 = 1))) (Pu.qo (p_eql rfl rfl)) (by decide) ?_
    refine Rg.q (v := .bool (decide (r61.1 = 1))) (Pu.qo (p_assign rfl)) (by decide) (Rg.nl (nT ?_))
    refine Tr.cond (b := decide (r61.1 = 1)) rfl (fun h72 => ?_) (fun h72 => ?_)
    ·have H := cdT h72 H
     obtain ⟨h73, H⟩ := gd.of H
     refine Tr.zoom (k := 0) h73.lt (.cons Del.here.there .nil) fun x74 => ?_
     show Tr _ _ _ _ _ _ _ (hole (.slice y11.1 x5.2.length y11.2) x5.2 0 [.string ((nth x5.2 0).1), .string ((nth x5.2 0).2)] :: _)
     refine Tr.region ?_
     refine Rg.q (v := .slice y11.1 x5.2.length y11.2) (Pu.qo (p_move rfl)) (by decide) ?_
     refine Rg.q (v := .pointer (some ⟨g_v0, 0, none⟩)) (Pu.qo (p_move rfl)) (by decide) ?_
     refine Rg.ed (e_litT (α := ByteArray) (vs := [(0, .string ((⟨#[]⟩ : ByteArray))), (1, .string ((⟨#[111]⟩ : ByteArray))), (2, .string ((⟨#[112, 112]⟩ : ByteArray)))]) [(⟨#[]⟩ : ByteArray), (⟨#[111]⟩ : ByteArray), (⟨#[112, 112]⟩ : ByteArray)] rfl (fun _ => rfl) (fun _ _ => by repeat constructor) Try.underlying60 ty9 rfl (by decide) (by decide) (by kernel_rfl)) rfl (by decide) ?_
     rintro _ _ _ ⟨a75, c76, rfl, rfl, rfl⟩
     obtain ⟨r77, h78, H⟩ := bd.of H
     refine Rg.ed (e_callM (vs := [.pointer (some ⟨g_v0, 0, none⟩), .slice a75 (([(⟨#[]⟩ : ByteArray), (⟨#[111]⟩ : ByteArray), (⟨#[112, 112]⟩ : ByteArray)] : List ByteArray).length) c76]) (c_spec_l6Rd_of g_v0 (v0.1, r61.2) (x_v0.1, ()) ([(⟨#[]⟩ : ByteArray), (⟨#[111]⟩ : ByteArray), (⟨#[112, 112]⟩ : ByteArray)] : List ByteArray) (a75, c76) h78) (Solo.box Solo.nil) (fun _ => (Solo.box Solo.nil)) rfl (.cons Del.here.there.there .nil) (EntsB.cons (Ent.b Ent.z) (EntsB.cons (EntB.tree Has.here) EntsB.nil))) rfl (by decide) ?_
     rintro _ _ _ ⟨u79, rfl, rfl, rfl⟩
     refine Rg.q (v := elp y11.1 (0 * Enc.sz Tag + 0)) (q_ixH (k := 0) Try.underlying38 ty30 rfl rfl h73 rfl Has.here.there.there) (by decide) ?_
     refine Rg.q (v := elp y11.1 (0 * Enc.sz Tag + 1)) (q_faH (j := 0) (i := 0) fa30_1 rfl Has.here.there.there rfl) (by decide) ?_
     refine Rg.en (e_stH (v := .string (r77.1)) (i := 0) (j := 1) (cs' := [.string ((nth x5.2 0).1), .string (r77.1)]) ty9 rfl rfl (.cons Del.here.there.there .nil) rfl (by simp [Value.cells, Value.oneCell']) (Nat.le_of_ble_eq_true rfl) rfl rfl) rfl ?_
     rintro _ _ _ ⟨rfl, rfl, rfl⟩
     refine Rg.nl ?_
     refine nB (nT (?_))
     refine Tr.seq (Tr.region ?_)
     refine Rg.q (v := .slice y11.1 x5.2.length y11.2) (Pu.qo (p_move rfl)) (by decide) ?_
     refine Rg.q (v := .slice y11.1 x5.2.length y11.2) (Pu.qo (p_assign rfl)) (by decide) (Rg.nl (nT ?_))
     refine Tr.unzoom (((nth x5.2 0).1), r77.1) ((), ()) rfl (.cons Del.here .nil) ?_
     refine Tr.olen Has.here fun hn => ?_; rw [hn]
     refine tRet ?_
     have hr := Option.some.inj H; subst hr
     exact back1 y11 rfl (ResV.tmp (v := .slice y11.1 ((x5.2.set 0 (((nth x5.2 0).1), r77.1)).length) y11.2) rfl) rfl Ents.nil (.cons Del.here (.cons Del.here .nil))
    ·have H := cdF h72 H
     refine tSkip ?_
     refine nB (nT (?_))
     refine Tr.seq (Tr.region ?_)
     refine Rg.q (v := .slice y11.1 x5.2.length y11.2) (Pu.qo (p_move rfl)) (by decide) ?_
     refine Rg.q (v := .slice y11.1 x5.2.length y11.2) (Pu.qo (p_assign rfl)) (by decide) (Rg.nl (nT ?_))
     refine tRet ?_
     have hr := Option.some.inj H; subst hr
     exact back1 y11 rfl (ResV.tmp (v := .slice y11.1 x5.2.length y11.2) rfl) rfl Ents.nil (.cons Del.here.there (.cons Del.here .nil))
noncomputable def p_spec_l3Text_b0 (v0 : (List Tag)) (Q5 : ByteArray × Int) : Option ((ByteArray × Int) ⊕ (ByteArray)) := cond (decide (Q5.2 < (v0.length : Int))) (cond (decide (0 < Q5.2)) (gd (room (Q5.1.size + (⟨#[44]⟩ : ByteArray).size)) <| gd (ix Q5.2 v0.length) <| gd (room ((Q5.1 ++ (⟨#[44]⟩ : ByteArray)).size + ((nth v0 Q5.2.toNat).1).size)) <| gd (room (((Q5.1 ++ (⟨#[44]⟩ : ByteArray)) ++ ((nth v0 Q5.2.toNat).1)).size + (⟨#[61]⟩ : ByteArray).size)) <| gd (room ((((Q5.1 ++ (⟨#[44]⟩ : ByteArray)) ++ ((nth v0 Q5.2.toNat).1)) ++ (⟨#[61]⟩ : ByteArray)).size + ((nth v0 Q5.2.toNat).2).size)) <| gd (I64 (Q5.2 + 1)) <| some (.inl ((((Q5.1 ++ (⟨#[44]⟩ : ByteArray)) ++ ((nth v0 Q5.2.toNat).1)) ++ (⟨#[61]⟩ : ByteArray)) ++ ((nth v0 Q5.2.toNat).2), Q5.2 + 1))) (gd (ix Q5.2 v0.length) <| gd (room (Q5.1.size + ((nth v0 Q5.2.toNat).1).size)) <| gd (room ((Q5.1 ++ ((nth v0 Q5.2.toNat).1)).size + (⟨#[61]⟩ : ByteArray).size)) <| gd (room (((Q5.1 ++ ((nth v0 Q5.2.toNat).1)) ++ (⟨#[61]⟩ : ByteArray)).size + ((nth v0 Q5.2.toNat).2).size)) <| gd (I64 (Q5.2 + 1)) <| some (.inl (((Q5.1 ++ ((nth v0 Q5.2.toNat).1)) ++ (⟨#[61]⟩ : ByteArray)) ++ ((nth v0 Q5.2.toNat).2), Q5.2 + 1)))) (some (.inr Q5.1))
noncomputable def p_spec_l3Text (v0 : (List Tag)) : Option (ByteArray) := bd (lp (p_spec_l3Text_b0 v0) ((⟨#[]⟩ : ByteArray), 0)) fun x1 => some x1
theorem c_spec_l3Text {r : ByteArray} (v0 : (List Tag)) (x_v0 : Option Addr × Nat) (H : p_spec_l3Text v0 = some r) : Fn' Try.prog 68 #[.slice x_v0.1 v0.length x_v0.2] [imm (.slice x_v0.1 v0.length x_v0.2) v0] [] (ι := Unit) (fun _ => .string (r)) (fun _ => []) (fun _ => []) := by
 refine calls_of (args := [_]) Try.func68 rfl (by kernel_rfl) Try.ntmps68 (by simp) fun c => ?_
 unfold p_spec_l3Text at H
 refine Tr.seq (Tr.region ?_)
 refine Rg.q (v := .string ((⟨#[]⟩ : ByteArray))) (Pu.qo (p_assign rfl)) (by decide) (Rg.nl (nT ?_))
 refine Tr.seq (Tr.region ?_)
 refine Rg.q (v := .string ((⟨#[]⟩ : ByteArray))) (Pu.qo (p_assign rfl)) (by decide) (Rg.nl (nT ?_))
 refine Tr.seq (Tr.seq (Tr.region ?_))
 refine Rg.q (v := .int .i64 (0)) (Pu.qo (p_assign rfl)) (by decide) (Rg.nl (nT ?_))
 obtain ⟨x1, hx2, H⟩ := bd.of H
 obtain ⟨n3, hx2⟩ := lp.of hx2
 refine tMidNC (ι := Unit) (fun ψ => [(3, .string (x1))]) (fun ψ => []) ?_ ?_
 ·refine Tr.block ?_
  refine tLoopC (ι := { q : Nat × (ByteArray × Int) × Unit // itr (p_spec_l3Text_b0 v0) q.1 q.2.1 = some x1 }) (fun ζ => [(0, .slice x_v0.1 v0.length x_v0.2), (3, .string (ζ.1.2.1.1)), (4, .int .i64 (ζ.1.2.1.2))]) (fun ζ => []) (fun ζ => ζ.1.1) ⟨(n3, ((⟨#[]⟩ : ByteArray), 0), ()), hx2⟩ ⟨rfl, rfl, rfl, trivial⟩ Take.nil ?_
  rintro ⟨⟨m4, Q5, z6⟩, hk11⟩
  obtain ⟨m12, t8, e, H1, hi9, hb10⟩ := itr.of (n := m4) (s := Q5) hk11
  subst e; unfold p_spec_l3Text_b0 at H1
  show Tr _ _ _ _ _ [(0, .slice x_v0.1 v0.length x_v0.2), (3, .string (Q5.1)), (4, .int .i64 (Q5.2))] _ []
  refine Tr.seq (Tr.seq (Tr.region ?_))
  refine Rg.q (v := .int .i64 (Q5.2)) (Pu.qo (p_move rfl)) (by decide) ?_
  refine Rg.q (v := .slice x_v0.1 v0.length x_v0.2) (Pu.qo (p_move rfl)) (by decide) ?_
  refine Rg.q (v := .int .i64 ((v0.length : Int))) (Pu.qo (p_len 30 Try.underlying38 rfl)) (by decide) ?_
  refine Rg.q (v := .bool (decide (Q5.2 < (v0.length : Int)))) (Pu.qo (p_lss rfl rfl)) (by decide) (Rg.nl (nT ?_))
  refine Tr.cond (b := decide (Q5.2 < (v0.length : Int))) rfl (fun h13 => ?_) (fun h13 => ?_)
  ·have H1 := cdT h13 H1
   refine tSkip ?_
   refine nT (Tr.seq ?_)
   refine Tr.block ?_
   refine Tr.seq (Tr.seq (Tr.region ?_))
   refine Rg.q (v := .int .i64 (Q5.2)) (Pu.qo (p_move rfl)) (by decide) ?_
   refine Rg.q (v := .bool (decide (0 < Q5.2))) (Pu.qo (p_gtr rfl rfl)) (by decide) (Rg.nl (nT ?_))
   refine Tr.cond (b := decide (0 < Q5.2)) rfl (fun h14 => ?_) (fun h14 => ?_)
   ·have H1 := cdT h14 H1
    refine Tr.region ?_
    refine Rg.q (v := .string (Q5.1)) (Pu.qo (p_move rfl)) (by decide) ?_
    obtain ⟨h15, H1⟩ := gd.of H1
    refine Rg.q (v := .string (Q5.1 ++ (⟨#[44]⟩ : ByteArray))) (Pu.qo (p_cat rfl rfl h15)) (by decide) ?_
    refine Rg.q (v := .string (Q5.1 ++ (⟨#[44]⟩ : ByteArray))) (Pu.qo (p_assign rfl)) (by decide) (Rg.nl (nT ?_))
    refine tNwL [(3, .string (Q5.1 ++ (⟨#[44]⟩ : ByteArray))), (0, .slice x_v0.1 v0.length x_v0.2), (4, .int .i64 (Q5.2))] 1 [0, 1, 2, 3, 4, 5, 6, 7, 8, 9, 10, 11, 12, 13] [] [] Try.mixed rfl (by kernel_rfl) (by kernel_rfl) (by decide) List.nodup_nil ⟨rfl, rfl, rfl, trivial⟩ rfl okNil ?_
    refine w_pu (v := .string (Q5.1 ++ (⟨#[44]⟩ : ByteArray))) rfl (by decide) rfl rfl rfl (p_move rfl) ?_
    refine w_pu (v := .slice x_v0.1 v0.length x_v0.2) rfl (by decide) rfl rfl rfl (p_move rfl) ?_
    refine w_pu (v := .int .i64 (Q5.2)) rfl (by decide) rfl rfl rfl (p_move rfl) ?_
    obtain ⟨h16, H1⟩ := gd.of H1
    refine w_q (v := elp x_v0.1 (Q5.2.toNat * Enc.sz Tag + 0)) rfl (by decide) rfl rfl rfl (fun F => (q_ixg (l := v0) (E := fun i => Flat.enc (nth v0 i)) (oa := x_v0.1) Try.underlying38 ty30 rfl rfl h16 rfl (EntB.flat (Ent.b Ent.z)))) ?_
    refine w_q (v := elp x_v0.1 (Q5.2.toNat * Enc.sz Tag + 0)) rfl (by decide) rfl rfl rfl (fun F => (q_faeE (l := v0) (E := fun i => Flat.enc (nth v0 i)) (oa := x_v0.1) (j := 0) Q5.2.toNat fa30_0 rfl (EntB.flat (Ent.b Ent.z)) h16.lt rfl)) ?_
    refine w_q (v := .string ((nth v0 Q5.2.toNat).1)) rfl (by decide) rfl rfl rfl (fun F => (q_lde (l := v0) (E := fun i => Flat.enc (nth v0 i)) (oa := x_v0.1) (i := Q5.2.toNat) (j := 0) ty9 rfl (EntB.flat (Ent.b Ent.z)) h16.lt rfl)) ?_
    obtain ⟨h17, H1⟩ := gd.of H1
    refine w_pu (v := .string ((Q5.1 ++ (⟨#[44]⟩ : ByteArray)) ++ ((nth v0 Q5.2.toNat).1))) rfl (by decide) rfl rfl rfl (p_cat rfl rfl h17) ?_
    obtain ⟨h18, H1⟩ := gd.of H1
    refine w_pu (v := .string (((Q5.1 ++ (⟨#[44]⟩ : ByteArray)) ++ ((nth v0 Q5.2.toNat).1)) ++ (⟨#[61]⟩ : ByteArray))) rfl (by decide) rfl rfl rfl (p_cat rfl rfl h18) ?_
    refine w_pu (v := .slice x_v0.1 v0.length x_v0.2) rfl (by decide) rfl rfl rfl (p_move rfl) ?_
    refine w_pu (v := .int .i64 (Q5.2)) rfl (by decide) rfl rfl rfl (p_move rfl) ?_
    refine w_q (v := elp x_v0.1 (Q5.2.toNat * Enc.sz Tag + 0)) rfl (by decide) rfl rfl rfl (fun F => (q_ixg (l := v0) (E := fun i => Flat.enc (nth v0 i)) (oa := x_v0.1) Try.underlying38 ty30 rfl rfl h16 rfl (EntB.flat (Ent.b Ent.z)))) ?_
    refine w_q (v := elp x_v0.1 (Q5.2.toNat * Enc.sz Tag + 1)) rfl (by decide) rfl rfl rfl (fun F => (q_faeE (l := v0) (E := fun i => Flat.enc (nth v0 i)) (oa := x_v0.1) (j := 0) Q5.2.toNat fa30_1 rfl (EntB.flat (Ent.b Ent.z)) h16.lt rfl)) ?_
    refine w_q (v := .string ((nth v0 Q5.2.toNat).2)) rfl (by decide) rfl rfl rfl (fun F => (q_lde (l := v0) (E := fun i => Flat.enc (nth v0 i)) (oa := x_v0.1) (i := Q5.2.toNat) (j := 1) ty9 rfl (EntB.flat (Ent.b Ent.z)) h16.lt rfl)) ?_
    obtain ⟨h19, H1⟩ := gd.of H1
    refine w_pu (v := .string ((((Q5.1 ++ (⟨#[44]⟩ : ByteArray)) ++ ((nth v0 Q5.2.toNat).1)) ++ (⟨#[61]⟩ : ByteArray)) ++ ((nth v0 Q5.2.toNat).2))) rfl (by decide) rfl rfl rfl (p_cat rfl rfl h19) ?_
    refine w_nil ?_
    show Rg _ _ _ _ _ _ _ _ _
    refine Rg.q (v := .string ((((Q5.1 ++ (⟨#[44]⟩ : ByteArray)) ++ ((nth v0 Q5.2.toNat).1)) ++ (⟨#[61]⟩ : ByteArray)) ++ ((nth v0 Q5.2.toNat).2))) (Pu.qo (p_assign rfl)) (by decide) (Rg.nl ?_)
    refine nB (nT (?_))
    refine Tr.region ?_
    refine Rg.q (v := .int .i64 (Q5.2)) (Pu.qo (p_move rfl)) (by decide) ?_
    obtain ⟨h20, H1⟩ := gd.of H1
    refine Rg.q (v := .int .i64 (Q5.2 + 1)) (Pu.qo (p_add rfl rfl h20)) (by decide) ?_
    refine Rg.q (v := .int .i64 (Q5.2 + 1)) (Pu.qo (p_assign rfl)) (by decide) (Rg.nl ?_)
    exact nLC ⟨(m12, ((((Q5.1 ++ (⟨#[44]⟩ : ByteArray)) ++ ((nth v0 Q5.2.toNat).1)) ++ (⟨#[61]⟩ : ByteArray)) ++ ((nth v0 Q5.2.toNat).2), Q5.2 + 1), ()), hi9 _ (Option.some.inj H1).symm⟩ (Nat.lt_succ_self _) ⟨rfl, rfl, rfl, trivial⟩ Ents.refl Take.nil
   ·have H1 := cdF h14 H1
    refine tSkip ?_
    refine nT (?_)
    refine tNwL [(0, .slice x_v0.1 v0.length x_v0.2), (3, .string (Q5.1)), (4, .int .i64 (Q5.2))] 1 [0, 1, 2, 3, 4, 5, 6, 7, 8, 9, 10, 11, 12, 13] [] [] Try.mixed rfl (by kernel_rfl) (by kernel_rfl) (by decide) List.nodup_nil ⟨rfl, rfl, rfl, trivial⟩ rfl okNil ?_
    refine w_pu (v := .string (Q5.1)) rfl (by decide) rfl rfl rfl (p_move rfl) ?_
    refine w_pu (v := .slice x_v0.1 v0.length x_v0.2) rfl (by decide) rfl rfl rfl (p_move rfl) ?_
    refine w_pu (v := .int .i64 (Q5.2)) rfl (by decide) rfl rfl rfl (p_move rfl) ?_
    obtain ⟨h21, H1⟩ := gd.of H1
    refine w_q (v := elp x_v0.1 (Q5.2.toNat * Enc.sz Tag + 0)) rfl (by decide) rfl rfl rfl (fun F => (q_ixg (l := v0) (E := fun i => Flat.enc (nth v0 i)) (oa := x_v0.1) Try.underlying38 ty30 rfl rfl h21 rfl (EntB.flat (Ent.b Ent.z)))) ?_
    refine w_q (v := elp x_v0.1 (Q5.2.toNat * Enc.sz Tag + 0)) rfl (by decide) rfl rfl rfl (fun F => (q_faeE (l := v0) (E := fun i => Flat.enc (nth v0 i)) (oa := x_v0.1) (j := 0) Q5.2.toNat fa30_0 rfl (EntB.flat (Ent.b Ent.z)) h21.lt rfl)) ?_
    refine w_q (v := .string ((nth v0 Q5.2.toNat).1)) rfl (by decide) rfl rfl rfl (fun F => (q_lde (l := v0) (E := fun i => Flat.enc (nth v0 i)) (oa := x_v0.1) (i := Q5.2.toNat) (j := 0) ty9 rfl (EntB.flat (Ent.b Ent.z)) h21.lt rfl)) ?_
    obtain ⟨h22, H1⟩ := gd.of H1
    refine w_pu (v := .string (Q5.1 ++ ((nth v0 Q5.2.toNat).1))) rfl (by decide) rfl rfl rfl (p_cat rfl rfl h22) ?_
    obtain ⟨h23, H1⟩ := gd.of H1
    refine w_pu (v := .string ((Q5.1 ++ ((nth v0 Q5.2.toNat).1)) ++ (⟨#[61]⟩ : ByteArray))) rfl (by decide) rfl rfl rfl (p_cat rfl rfl h23) ?_
    refine w_pu (v := .slice x_v0.1 v0.length x_v0.2) rfl (by decide) rfl rfl rfl (p_move rfl) ?_
    refine w_pu (v := .int .i64 (Q5.2)) rfl (by decide) rfl rfl rfl (p_move rfl) ?_
    refine w_q (v := elp x_v0.1 (Q5.2.toNat * Enc.sz Tag + 0)) rfl (by decide) rfl rfl rfl (fun F => (q_ixg (l := v0) (E := fun i => Flat.enc (nth v0 i)) (oa := x_v0.1) Try.underlying38 ty30 rfl rfl h21 rfl (EntB.flat (Ent.b Ent.z)))) ?_
    refine w_q (v := elp x_v0.1 (Q5.2.toNat * Enc.sz Tag + 1)) rfl (by decide) rfl rfl rfl (fun F => (q_faeE (l := v0) (E := fun i => Flat.enc (nth v0 i)) (oa := x_v0.1) (j := 0) Q5.2.toNat fa30_1 rfl (EntB.flat (Ent.b Ent.z)) h21.lt rfl)) ?_
    refine w_q (v := .string ((nth v0 Q5.2.toNat).2)) rfl (by decide) rfl rfl rfl (fun F => (q_lde (l := v0) (E := fun i => Flat.enc (nth v0 i)) (oa := x_v0.1) (i := Q5.2.toNat) (j := 1) ty9 rfl (EntB.flat (Ent.b Ent.z)) h21.lt rfl)) ?_
    obtain ⟨h24, H1⟩ := gd.of H1
    refine w_pu (v := .string (((Q5.1 ++ ((nth v0 Q5.2.toNat).1)) ++ (⟨#[61]⟩ : ByteArray)) ++ ((nth v0 Q5.2.toNat).2))) rfl (by decide) rfl rfl rfl (p_cat rfl rfl h24) ?_
    refine w_nil ?_
    show Rg _ _ _ _ _ _ _ _ _
    refine Rg.q (v := .string (((Q5.1 ++ ((nth v0 Q5.2.toNat).1)) ++ (⟨#[61]⟩ : ByteArray)) ++ ((nth v0 Q5.2.toNat).2))) (Pu.qo (p_assign rfl)) (by decide) (Rg.nl ?_)
    refine nB (nT (?_))
    refine Tr.region ?_
    refine Rg.q (v := .int .i64 (Q5.2)) (Pu.qo (p_move rfl)) (by decide) ?_
    obtain ⟨h25, H1⟩ := gd.of H1
    refine Rg.q (v := .int .i64 (Q5.2 + 1)) (Pu.qo (p_add rfl rfl h25)) (by decide) ?_
    refine Rg.q (v := .int .i64 (Q5.2 + 1)) (Pu.qo (p_assign rfl)) (by decide) (Rg.nl ?_)
    exact nLC ⟨(m12, (((Q5.1 ++ ((nth v0 Q5.2.toNat).1)) ++ (⟨#[61]⟩ : ByteArray)) ++ ((nth v0 Q5.2.toNat).2), Q5.2 + 1), ()), hi9 _ (Option.some.inj H1).symm⟩ (Nat.lt_succ_self _) ⟨rfl, rfl, rfl, trivial⟩ Ents.refl Take.nil
  ·have H1 := cdF h13 H1
   refine tExit (xT (xT (xE (?_))))
   have hx := hb10 _ (Option.some.inj H1).symm; subst hx
   exact nMC () ⟨rfl, trivial⟩ Ents.refl Take.nil
 ·intro y7
  show At _ _ [(3, .string (x1))] _ [] _
  refine nT (?_)
  refine Tr.seq (Tr.region ?_)
  refine Rg.q (v := .string (x1)) (Pu.qo (p_move rfl)) (by decide) ?_
  refine Rg.q (v := .string (x1)) (Pu.qo (p_assign rfl)) (by decide) (Rg.nl (nT ?_))
  refine tRet ?_
  have hr := Option.some.inj H; subst hr
  exact back1 () rfl (ResV.tmp (v := .string (x1)) rfl) rfl Ents.nil Take.nil
noncomputable def p_spec_l11At_b0 (v0 : Index) (v1 : (List Tag)) (Q8 : Int) : Option ((Int) ⊕ (Unit ⊕ Int)) := cond (decide (Q8 < (v0.1.length : Int))) (gd (ix Q8 v0.1.length) <| bd (p_spec_l3Text (nth v0.1 Q8.toNat)) fun r18 => bd (p_spec_l3Text v1) fun r20 => cond (decide (r18 = r20)) (gd (I64 (Q8 + 1)) <| some (.inr (.inr (Q8 + 1)))) (gd (I64 (Q8 + 1)) <| some (.inl (Q8 + 1)))) (some (.inr (.inl ())))
noncomputable def p_spec_l11At (v0 : Index) (v1 : (List Tag)) : Option (Int) := bd (lp (p_spec_l11At_b0 v0 v1) 0) <| sw (fun _ => some 0) (fun q => some q)
theorem c_spec_l11At {r : Int} (v0 : Index) (x_v0 : (Option Addr × Nat) × (Option Addr × Nat)) (v1 : (List Tag)) (x_v1 : Option Addr × Nat) (H : p_spec_l11At v0 v1 = some r) : Fn' Try.prog 123 #[.agg #[.slice x_v0.1.1 v0.1.length x_v0.1.2, .slice x_v0.2.1 v0.2.length x_v0.2.2], .slice x_v1.1 v1.length x_v1.2] [imm (.slice x_v0.1.1 v0.1.length x_v0.1.2) v0.1, imm (.slice x_v0.2.1 v0.2.length x_v0.2.2) v0.2, imm (.slice x_v1.1 v1.length x_v1.2) v1] [] (ι := Unit) (fun _ => .int .i64 (r)) (fun _ => []) (fun _ => []) := by
 refine calls_of (args := [_, _]) Try.func123 rfl (by kernel_rfl) Try.ntmps123 (by simp) fun c => ?_
 unfold p_spec_l11At at H
 refine Tr.openD Ent.z fun X1 => ?_
 refine Tr.openD Ent.z.s.s fun X2 => ?_
 refine Tr.seq (Tr.region ?_)
 refine Rg.ed (e_box (t := 26) (v := .agg #[.slice x_v0.1.1 v0.1.length x_v0.1.2, .slice x_v0.2.1 v0.2.length x_v0.2.2]) rfl) rfl (by decide) ?_
 rintro _ _ _ ⟨g3, rfl, rfl, rfl⟩
 refine Rg.q (v := .int .i64 (0)) (Pu.qo (p_assign rfl)) (by decide) (Rg.nl (nT ?_))
 refine Tr.seq (Tr.seq (Tr.region ?_))
 refine Rg.q (v := .int .i64 (0)) (Pu.qo (p_assign rfl)) (by decide) (Rg.nl (nT ?_))
 obtain ⟨x4, hx5, H⟩ := bd.of H
 obtain ⟨n6, hx5⟩ := lp.of hx5
 refine tMidNC (ι := { q : (Unit) × Unit // x4 = .inl q.1 }) (fun ψ => []) (fun ψ => []) ?_ ?_
 ·refine Tr.block ?_
  refine tLoopC (ι := { q : Nat × (Int) × Unit // itr (p_spec_l11At_b0 v0 v1) q.1 q.2.1 = some x4 }) (fun ζ => [(1, .slice x_v1.1 v1.length x_v1.2), (2, .pointer (some ⟨g3, 0, none⟩)), (5, .int .i64 (ζ.1.2.1))]) (fun ζ => [box g3 26 [.slice x_v0.1.1 v0.1.length x_v0.1.2, .slice x_v0.2.1 v0.2.length x_v0.2.2]]) (fun ζ => ζ.1.1) ⟨(n6, 0, ()), hx5⟩ ⟨rfl, rfl, rfl, trivial⟩ (.cons Del.here .nil) ?_
  rintro ⟨⟨m7, Q8, z9⟩, hk14⟩
  obtain ⟨m15, t11, e, H1, hi12, hb13⟩ := itr.of (n := m7) (s := Q8) hk14
  subst e; unfold p_spec_l11At_b0 at H1
  show Tr _ _ _ _ _ [(1, .slice x_v1.1 v1.length x_v1.2), (2, .pointer (some ⟨g3, 0, none⟩)), (5, .int .i64 (Q8))] _ [box g3 26 [.slice x_v0.1.1 v0.1.length x_v0.1.2, .slice x_v0.2.1 v0.2.length x_v0.2.2]]
  refine Tr.seq (Tr.seq (Tr.region ?_))
  refine Rg.q (v := .int .i64 (Q8)) (Pu.qo (p_move rfl)) (by decide) ?_
  refine Rg.q (v := .pointer (some ⟨g3, 0, none⟩)) (Pu.qo (p_fabE fa26_0 rfl rfl)) (by decide) ?_
  refine Rg.q (v := .slice x_v0.1.1 v0.1.length x_v0.1.2) (q_ldb ty23 rfl Has.here rfl) (by decide) ?_
  refine Rg.q (v := .int .i64 ((v0.1.length : Int))) (Pu.qo (p_len 38 Try.underlying23 rfl)) (by decide) ?_
  refine Rg.q (v := .bool (decide (Q8 < (v0.1.length : Int)))) (Pu.qo (p_lss rfl rfl)) (by decide) (Rg.nl (nT ?_))
  refine Tr.cond (b := decide (Q8 < (v0.1.length : Int))) rfl (fun h16 => ?_) (fun h16 => ?_)
  ·have H1 := cdT h16 H1
   refine tSkip ?_
   refine nT (Tr.seq ?_)
   refine Tr.block ?_
   refine Tr.seq (Tr.region ?_)
   refine Rg.q (v := .pointer (some ⟨g3, 0, none⟩)) (Pu.qo (p_fabE fa26_0 rfl rfl)) (by decide) ?_
   refine Rg.q (v := .slice x_v0.1.1 v0.1.length x_v0.1.2) (q_ldb ty23 rfl Has.here rfl) (by decide) ?_
   refine Rg.q (v := .int .i64 (Q8)) (Pu.qo (p_move rfl)) (by decide) ?_
   obtain ⟨h17, H1⟩ := gd.of H1
   refine Rg.q (v := elp x_v0.1.1 (Q8.toNat * Enc.sz (List Tag) + 0)) (q_ixg (l := v0.1) (E := fun i => Dp.denc (nth v0.1 i) (X1 i)) (oa := x_v0.1.1) Try.underlying23 ty38 rfl rfl h17 rfl (Ent.b (Ent.darr Ent.z.s))) (by decide) ?_
   refine Rg.q (v := .slice ((X1 Q8.toNat).1) ((nth v0.1 Q8.toNat).length) ((X1 Q8.toNat).2.1)) (q_lde (l := v0.1) (E := fun i => Dp.denc (nth v0.1 i) (X1 i)) (oa := x_v0.1.1) (i := Q8.toNat) (j := 0) ty38 rfl (Ent.b (Ent.darr Ent.z.s)) h17.lt rfl) (by decide) ?_
   obtain ⟨r18, h19, H1⟩ := bd.of H1
   refine Rg.q (v := .string (r18)) (q_call (vs := [.slice ((X1 Q8.toNat).1) ((nth v0.1 Q8.toNat).length) ((X1 Q8.toNat).2.1)]) (c_spec_l3Text (nth v0.1 Q8.toNat) ((X1 Q8.toNat).1, (X1 Q8.toNat).2.1) h19) rfl (EntsB.cons (Ent.b (Ent.dimm (Ent.del Ent.z.s h17.lt))) EntsB.nil)) (by decide) ?_
   refine Rg.q (v := .slice x_v1.1 v1.length x_v1.2) (Pu.qo (p_move rfl)) (by decide) ?_
   obtain ⟨r20, h21, H1⟩ := bd.of H1
   refine Rg.q (v := .string (r20)) (q_call (vs := [.slice x_v1.1 v1.length x_v1.2]) (c_spec_l3Text v1 x_v1 h21) rfl (EntsB.cons (Ent.b Ent.z.s.s.s.s) EntsB.nil)) (by decide) ?_
   refine Rg.q (v := .bool (decide (r18 = r20))) (Pu.qo (p_seql rfl rfl)) (by decide) (Rg.nl (nT ?_))
   refine Tr.cond (b := decide (r18 = r20)) rfl (fun h22 => ?_) (fun h22 => ?_)
   ·have H1 := cdT h22 H1
    refine Tr.seq (Tr.region ?_)
    refine Rg.q (v := .int .i64 (Q8)) (Pu.qo (p_move rfl)) (by decide) ?_
    obtain ⟨h23, H1⟩ := gd.of H1
    refine Rg.q (v := .int .i64 (Q8 + 1)) (Pu.qo (p_add rfl rfl h23)) (by decide) ?_
    refine Rg.q (v := .int .i64 (Q8 + 1)) (Pu.qo (p_assign rfl)) (by decide) (Rg.nl (nT ?_))
    refine tRet ?_
    refine rB (rT (rT (rB (rT (rT (?_))))))
    have hx := hb13 _ (Option.some.inj H1).symm; subst hx
    replace H := sw.r H
    have hr := Option.some.inj H; subst hr
    exact back1 () rfl (ResV.tmp (v := .int .i64 (Q8 + 1)) rfl) rfl Ents.nil Take.nil
   ·have H1 := cdF h22 H1
    refine tSkip ?_
    refine nB (nT (?_))
    refine Tr.region ?_
    refine Rg.q (v := .int .i64 (Q8)) (Pu.qo (p_move rfl)) (by decide) ?_
    obtain ⟨h24, H1⟩ := gd.of H1
    refine Rg.q (v := .int .i64 (Q8 + 1)) (Pu.qo (p_add rfl rfl h24)) (by decide) ?_
    refine Rg.q (v := .int .i64 (Q8 + 1)) (Pu.qo (p_assign rfl)) (by decide) (Rg.nl ?_)
    exact nLC ⟨(m15, Q8 + 1, ()), hi12 _ (Option.some.inj H1).symm⟩ (Nat.lt_succ_self _) ⟨rfl, rfl, rfl, trivial⟩ Ents.refl (.cons Del.here .nil)
  ·have H1 := cdF h16 H1
   refine tExit (xT (xT (xE (?_))))
   exact nMC ⟨((), ()), (hb13 _ (Option.some.inj H1).symm).symm⟩ trivial Ents.refl Take.nil
 ·rintro ⟨⟨e25, y10⟩, hx⟩; subst hx; replace H := sw.l H
  show At _ _ [] _ [] _
  refine nT (?_)
  refine Tr.seq (Tr.region ?_)
  refine Rg.q (v := .int .i64 (0)) (Pu.qo (p_assign rfl)) (by decide) (Rg.nl (nT ?_))
  refine tRet ?_
  have hr := Option.some.inj H; subst hr
  exact back1 () rfl (ResV.tmp (v := .int .i64 (0)) rfl) rfl Ents.nil Take.nil
noncomputable def p_spec_l6In (v0 : Int) (v1 : Int) (v2 : Int) : Option (Bool) := bd (cond (decide (v1 ≤ v0)) (some (decide (v0 ≤ v2))) (some (false))) fun b1 => some b1
theorem c_spec_l6In {r : Bool} (v0 : Int) (v1 : Int) (v2 : Int) (H : p_spec_l6In v0 v1 v2 = some r) : Fn' Try.prog 79 #[.int .i64 (v0), .int .i64 (v1), .int .i64 (v2)] [] [] (ι := Unit) (fun _ => .bool (r)) (fun _ => []) (fun _ => []) := by
 refine calls_of (args := [_, _, _]) Try.func79 rfl (by kernel_rfl) Try.ntmps79 (by simp) fun c => ?_
 unfold p_spec_l6In at H
 refine Tr.seq (Tr.region ?_)
 refine Rg.q (v := .bool (false)) (Pu.qo (p_assign rfl)) (by decide) (Rg.nl (nT ?_))
 obtain ⟨b1, j2, H⟩ := bd.of H
 refine tMid1 [(6, .bool (b1))] ?_ ?_
 ·refine tLinT [(0, .int .i64 (v0)), (1, .int .i64 (v1)), (2, .int .i64 (v2))] ⟨rfl, rfl, rfl, trivial⟩ ?_
  refine Lin.q (v := .int .i64 (v0)) (by decide) (Pu.qo (p_move rfl)) ?_
  refine Lin.q (v := .int .i64 (v1)) (by decide) (Pu.qo (p_move rfl)) ?_
  refine Lin.q (v := .bool (decide (v1 ≤ v0))) (by decide) (Pu.qo (p_geq rfl rfl)) ?_
  rcases Bool.eq_false_or_eq_true (decide (v1 ≤ v0)) with h3 | h3
  ·have j2 := cdT h3 j2
   refine Lin.q (v := .bool (true)) (by decide) (Qo.eqv (v := .bool (decide (v1 ≤ v0))) (Pu.qo (p_move rfl)) (congrArg Value.bool h3)) ?_
   refine Lin.g (v := .int .i64 (v0)) (by decide) rfl (Pu.qo (p_move rfl)) ?_
   refine Lin.g (v := .int .i64 (v2)) (by decide) rfl (Pu.qo (p_move rfl)) ?_
   refine Lin.g (v := .bool (decide (v0 ≤ v2))) (by decide) rfl (Pu.qo (p_leq rfl rfl)) ?_
   refine Lin.q (v := .bool (decide (v0 ≤ v2))) (by decide) (Pu.qo (p_pickT rfl rfl)) ?_
   refine Lin.q (v := .bool (decide (v0 ≤ v2))) (by decide) (Pu.qo (p_assign rfl)) ?_
   have j2 := Option.some.inj j2; subst j2
   show At _ _ _ _ _ _
   exact n1 ⟨rfl, trivial⟩
  ·have j2 := cdF h3 j2
   refine Lin.q (v := .bool (false)) (by decide) (Qo.eqv (v := .bool (decide (v1 ≤ v0))) (Pu.qo (p_move rfl)) (congrArg Value.bool h3)) ?_
   refine Lin.skip (by decide) rfl ?_
   refine Lin.skip (by decide) rfl ?_
   refine Lin.skip (by decide) rfl ?_
   refine Lin.q (v := .bool (false)) (by decide) (Pu.qo (p_pickF rfl rfl)) ?_
   refine Lin.q (v := .bool (false)) (by decide) (Pu.qo (p_assign rfl)) ?_
   have j2 := Option.some.inj j2; subst j2
   show At _ _ _ _ _ _
   exact n1 ⟨rfl, trivial⟩
 refine tRet ?_
 have hr := Option.some.inj H; subst hr
 exact back1 () rfl (ResV.tmp (v := .bool (b1)) rfl) rfl Ents.nil Take.nil
noncomputable def p_spec_l3Tag (v0 : Tag) : Option (Bool) := bd (cond (decide ((v0.1.size : Int) = 1)) (cond (decide ((v0.2.size : Int) = 1)) (gd (ix 0 v0.1.size) <| bd (p_spec_l6In ((sb v0.1 0).toNat : Int) 97 100) fun r7 => cond (r7) (gd (ix 0 v0.2.size) <| bd (p_spec_l6In ((sb v0.2 0).toNat : Int) 112 122) fun r11 => some (r11)) (some (false))) (some (false))) (some (false))) fun b2 => some b2
theorem c_spec_l3Tag {r : Bool} (v0 : Tag) (H : p_spec_l3Tag v0 = some r) : Fn' Try.prog 78 #[.agg #[.string (v0.1), .string (v0.2)]] [] [] (ι := Unit) (fun _ => .bool (r)) (fun _ => []) (fun _ => []) := by
 refine calls_of (args := [_]) Try.func78 rfl (by kernel_rfl) Try.ntmps78 (by simp) fun c => ?_
 unfold p_spec_l3Tag at H
 refine Tr.seq (Tr.region ?_)
 refine Rg.ed (e_box (t := 30) (v := .agg #[.string (v0.1), .string (v0.2)]) rfl) rfl (by decide) ?_
 rintro _ _ _ ⟨g1, rfl, rfl, rfl⟩
 refine Rg.q (v := .bool (false)) (Pu.qo (p_assign rfl)) (by decide) (Rg.nl (nT ?_))
 obtain ⟨b2, j3, H⟩ := bd.of H
 refine tMid1 [(2, .bool (b2))] ?_ ?_
 ·refine tLinT [(1, .pointer (some ⟨g1, 0, none⟩))] ⟨rfl, trivial⟩ ?_
  refine Lin.q (v := .pointer (some ⟨g1, 0, none⟩)) (by decide) (Pu.qo (p_fabE fa30_0 rfl rfl)) ?_
  refine Lin.q (v := .string (v0.1)) (by decide) (q_ldb ty9 rfl Has.here rfl) ?_
  refine Lin.q (v := .int .i64 ((v0.1.size : Int))) (by decide) (Pu.qo (p_slen Try.underlying9 rfl)) ?_
  refine Lin.q (v := .bool (decide ((v0.1.size : Int) = 1))) (by decide) (Pu.qo (p_eql rfl rfl)) ?_
  rcases Bool.eq_false_or_eq_true (decide ((v0.1.size : Int) = 1)) with h4 | h4
  ·have j3 := cdT h4 j3
   refine Lin.q (v := .bool (true)) (by decide) (Qo.eqv (v := .bool (decide ((v0.1.size : Int) = 1))) (Pu.qo (p_move rfl)) (congrArg Value.bool h4)) ?_
   refine Lin.g (v := .pointer (some ⟨g1, 1, none⟩)) (by decide) rfl (Pu.qo (p_fabE fa30_1 rfl rfl)) ?_
   refine Lin.g (v := .string (v0.2)) (by decide) rfl (q_ldb ty9 rfl Has.here rfl) ?_
   refine Lin.g (v := .int .i64 ((v0.2.size : Int))) (by decide) rfl (Pu.qo (p_slen Try.underlying9 rfl)) ?_
   refine Lin.g (v := .bool (decide ((v0.2.size : Int) = 1))) (by decide) rfl (Pu.qo (p_eql rfl rfl)) ?_
   refine Lin.q (v := .bool (decide ((v0.2.size : Int) = 1))) (by decide) (Pu.qo (p_pickT rfl rfl)) ?_
   rcases Bool.eq_false_or_eq_true (decide ((v0.2.size : Int) = 1)) with h5 | h5
   ·have j3 := cdT h5 j3
    refine Lin.q (v := .bool (true)) (by decide) (Qo.eqv (v := .bool (decide ((v0.2.size : Int) = 1))) (Pu.qo (p_move rfl)) (congrArg Value.bool h5)) ?_
    refine Lin.g (v := .pointer (some ⟨g1, 0, none⟩)) (by decide) rfl (Pu.qo (p_fabE fa30_0 rfl rfl)) ?_
    refine Lin.g (v := .string (v0.1)) (by decide) rfl (q_ldb ty9 rfl Has.here rfl) ?_
    obtain ⟨h6, j3⟩ := gd.of j3
    refine Lin.g (v := .int .u8 ((sb v0.1 0).toNat : Int)) (by decide) rfl (Pu.qo (p_six Try.underlying9 rfl rfl h6)) ?_
    refine Lin.g (v := .int .i64 (((sb v0.1 0).toNat : Int))) (by decide) rfl (Pu.qo (p_i8 Try.underlying5 Try.underlying3 rfl)) ?_
    obtain ⟨r7, h8, j3⟩ := bd.of j3
    refine Lin.g (v := .bool (r7)) (by decide) rfl (q_call (vs := [.int .i64 (((sb v0.1 0).toNat : Int)), .int .i64 (97), .int .i64 (100)]) (c_spec_l6In ((sb v0.1 0).toNat : Int) 97 100 h8) rfl EntsB.nil) ?_
    refine Lin.q (v := .bool (r7)) (by decide) (Pu.qo (p_pickT rfl rfl)) ?_
    rcases Bool.eq_false_or_eq_true (r7) with h9 | h9
    ·have j3 := cdT h9 j3
     refine Lin.q (v := .bool (true)) (by decide) (Qo.eqv (v := .bool (r7)) (Pu.qo (p_move rfl)) (congrArg Value.bool h9)) ?_
     refine Lin.g (v := .pointer (some ⟨g1, 1, none⟩)) (by decide) rfl (Pu.qo (p_fabE fa30_1 rfl rfl)) ?_
     refine Lin.g (v := .string (v0.2)) (by decide) rfl (q_ldb ty9 rfl Has.here rfl) ?_
     obtain ⟨h10, j3⟩ := gd.of j3
     refine Lin.g (v := .int .u8 ((sb v0.2 0).toNat : Int)) (by decide) rfl (Pu.qo (p_six Try.underlying9 rfl rfl h10)) ?_
     refine Lin.g (v := .int .i64 (((sb v0.2 0).toNat : Int))) (by decide) rfl (Pu.qo (p_i8 Try.underlying5 Try.underlying3 rfl)) ?_
     obtain ⟨r11, h12, j3⟩ := bd.of j3
     refine Lin.g (v := .bool (r11)) (by decide) rfl (q_call (vs := [.int .i64 (((sb v0.2 0).toNat : Int)), .int .i64 (112), .int .i64 (122)]) (c_spec_l6In ((sb v0.2 0).toNat : Int) 112 122 h12) rfl EntsB.nil) ?_
     refine Lin.q (v := .bool (r11)) (by decide) (Pu.qo (p_pickT rfl rfl)) ?_
     refine Lin.q (v := .bool (r11)) (by decide) (Pu.qo (p_assign rfl)) ?_
     have j3 := Option.some.inj j3; subst j3
     show At _ _ _ _ _ _
     exact n1 ⟨rfl, trivial⟩
    ·have j3 := cdF h9 j3
     refine Lin.q (v := .bool (false)) (by decide) (Qo.eqv (v := .bool (r7)) (Pu.qo (p_move rfl)) (congrArg Value.bool h9)) ?_
     refine Lin.skip (by decide) rfl ?_
     refine Lin.skip (by decide) rfl ?_
     refine Lin.skip (by decide) rfl ?_
     refine Lin.skip (by decide) rfl ?_
     refine Lin.skip (by decide) rfl ?_
     refine Lin.q (v := .bool (false)) (by decide) (Pu.qo (p_pickF rfl rfl)) ?_
     refine Lin.q (v := .bool (false)) (by decide) (Pu.qo (p_assign rfl)) ?_
     have j3 := Option.some.inj j3; subst j3
     show At _ _ _ _ _ _
     exact n1 ⟨rfl, trivial⟩
   ·have j3 := cdF h5 j3
    refine Lin.q (v := .bool (false)) (by decide) (Qo.eqv (v := .bool (decide ((v0.2.size : Int) = 1))) (Pu.qo (p_move rfl)) (congrArg Value.bool h5)) ?_
    refine Lin.skip (by decide) rfl ?_
    refine Lin.skip (by decide) rfl ?_
    refine Lin.skip (by decide) rfl ?_
    refine Lin.skip (by decide) rfl ?_
    refine Lin.skip (by decide) rfl ?_
    refine Lin.q (v := .bool (false)) (by decide) (Pu.qo (p_pickF rfl rfl)) ?_
    refine Lin.q (v := .bool (false)) (by decide) (Pu.qo (p_move rfl)) ?_
    refine Lin.skip (by decide) rfl ?_
    refine Lin.skip (by decide) rfl ?_
    refine Lin.skip (by decide) rfl ?_
    refine Lin.skip (by decide) rfl ?_
    refine Lin.skip (by decide) rfl ?_
    refine Lin.q (v := .bool (false)) (by decide) (Pu.qo (p_pickF rfl rfl)) ?_
    refine Lin.q (v := .bool (false)) (by decide) (Pu.qo (p_assign rfl)) ?_
    have j3 := Option.some.inj j3; subst j3
    show At _ _ _ _ _ _
    exact n1 ⟨rfl, trivial⟩
  ·have j3 := cdF h4 j3
   refine Lin.q (v := .bool (false)) (by decide) (Qo.eqv (v := .bool (decide ((v0.1.size : Int) = 1))) (Pu.qo (p_move rfl)) (congrArg Value.bool h4)) ?_
   refine Lin.skip (by decide) rfl ?_
   refine Lin.skip (by decide) rfl ?_
   refine Lin.skip (by decide) rfl ?_
   refine Lin.skip (by decide) rfl ?_
   refine Lin.q (v := .bool (false)) (by decide) (Pu.qo (p_pickF rfl rfl)) ?_
   refine Lin.q (v := .bool (false)) (by decide) (Pu.qo (p_move rfl)) ?_
   refine Lin.skip (by decide) rfl ?_
   refine Lin.skip (by decide) rfl ?_
   refine Lin.skip (by decide) rfl ?_
   refine Lin.skip (by decide) rfl ?_
   refine Lin.skip (by decide) rfl ?_
   refine Lin.q (v := .bool (false)) (by decide) (Pu.qo (p_pickF rfl rfl)) ?_
   refine Lin.q (v := .bool (false)) (by decide) (Pu.qo (p_move rfl)) ?_
   refine Lin.skip (by decide) rfl ?_
   refine Lin.skip (by decide) rfl ?_
   refine Lin.skip (by decide) rfl ?_
   refine Lin.skip (by decide) rfl ?_
   refine Lin.skip (by decide) rfl ?_
   refine Lin.q (v := .bool (false)) (by decide) (Pu.qo (p_pickF rfl rfl)) ?_
   refine Lin.q (v := .bool (false)) (by decide) (Pu.qo (p_assign rfl)) ?_
   have j3 := Option.some.inj j3; subst j3
   show At _ _ _ _ _ _
   exact n1 ⟨rfl, trivial⟩
 refine tRet ?_
 have hr := Option.some.inj H; subst hr
 exact back1 () rfl (ResV.tmp (v := .bool (b2)) rfl) rfl Ents.nil Take.nil
noncomputable def p_spec_NameOk_b0 (v0 : (List Tag)) (Q5 : Int) : Option ((Int) ⊕ (Unit ⊕ Bool)) := cond (decide (Q5 < (v0.length : Int))) (bd (gd (ix Q5 v0.length) <| bd (p_spec_l3Tag (nth v0 Q5.toNat)) fun r17 => cond (!r17) (some (true)) (cond (decide (0 < Q5)) (gd (I64 (Q5 - 1)) <| gd (ix (Q5 - 1) v0.length) <| some (!sless ((nth v0 ((Q5 - 1).toNat)).1) ((nth v0 Q5.toNat).1))) (some (false)))) fun b14 => cond (b14) (some (.inr (.inr false))) (gd (I64 (Q5 + 1)) <| some (.inl (Q5 + 1)))) (some (.inr (.inl ())))
noncomputable def p_spec_NameOk (v0 : (List Tag)) : Option (Bool) := bd (lp (p_spec_NameOk_b0 v0) 0) <| sw (fun _ => bd (p_spec_l6In (v0.length : Int) 1 3) fun r26 => some r26) (fun q => some q)
theorem c_spec_NameOk {r : Bool} (v0 : (List Tag)) (x_v0 : Option Addr × Nat) (H : p_spec_NameOk v0 = some r) : Fn' Try.prog 28 #[.slice x_v0.1 v0.length x_v0.2] [imm (.slice x_v0.1 v0.length x_v0.2) v0] [] (ι := Unit) (fun _ => .bool (r)) (fun _ => []) (fun _ => []) := by
 refine calls_of (args := [_]) Try.func28 rfl (by kernel_rfl) Try.ntmps28 (by simp) fun c => ?_
 unfold p_spec_NameOk at H
 refine Tr.seq (Tr.region ?_)
 refine Rg.q (v := .bool (false)) (Pu.qo (p_assign rfl)) (by decide) (Rg.nl (nT ?_))
 refine Tr.seq (Tr.seq (Tr.region ?_))
 refine Rg.q (v := .int .i64 (0)) (Pu.qo (p_assign rfl)) (by decide) (Rg.nl (nT ?_))
 obtain ⟨x1, hx2, H⟩ := bd.of H
 obtain ⟨n3, hx2⟩ := lp.of hx2
 refine tMidNC (ι := { q : (Unit) × Unit // x1 = .inl q.1 }) (fun ψ => [(0, .slice x_v0.1 v0.length x_v0.2)]) (fun ψ => []) ?_ ?_
 ·refine Tr.block ?_
  refine tLoopC (ι := { q : Nat × (Int) × Unit // itr (p_spec_NameOk_b0 v0) q.1 q.2.1 = some x1 }) (fun ζ => [(0, .slice x_v0.1 v0.length x_v0.2), (3, .int .i64 (ζ.1.2.1))]) (fun ζ => []) (fun ζ => ζ.1.1) ⟨(n3, 0, ()), hx2⟩ ⟨rfl, rfl, trivial⟩ Take.nil ?_
  rintro ⟨⟨m4, Q5, z6⟩, hk11⟩
  obtain ⟨m12, t8, e, H1, hi9, hb10⟩ := itr.of (n := m4) (s := Q5) hk11
  subst e; unfold p_spec_NameOk_b0 at H1
  show Tr _ _ _ _ _ [(0, .slice x_v0.1 v0.length x_v0.2), (3, .int .i64 (Q5))] _ []
  refine Tr.seq (Tr.seq (Tr.region ?_))
  refine Rg.q (v := .int .i64 (Q5)) (Pu.qo (p_move rfl)) (by decide) ?_
  refine Rg.q (v := .slice x_v0.1 v0.length x_v0.2) (Pu.qo (p_move rfl)) (by decide) ?_
  refine Rg.q (v := .int .i64 ((v0.length : Int))) (Pu.qo (p_len 30 Try.underlying38 rfl)) (by decide) ?_
  refine Rg.q (v := .bool (decide (Q5 < (v0.length : Int)))) (Pu.qo (p_lss rfl rfl)) (by decide) (Rg.nl (nT ?_))
  refine Tr.cond (b := decide (Q5 < (v0.length : Int))) rfl (fun h13 => ?_) (fun h13 => ?_)
  ·have H1 := cdT h13 H1
   refine tSkip ?_
   refine nT (Tr.seq ?_)
   refine Tr.block ?_
   obtain ⟨b14, j15, H1⟩ := bd.of H1
   refine tMid1 [(33, .bool (b14)), (0, .slice x_v0.1 v0.length x_v0.2), (3, .int .i64 (Q5))] ?_ ?_
   ·refine tLinS [(0, .slice x_v0.1 v0.length x_v0.2), (3, .int .i64 (Q5))] Try.mixed (.inr (by kernel_rfl)) ⟨rfl, rfl, trivial⟩ rfl ?_
    refine Lin.q (v := .slice x_v0.1 v0.length x_v0.2) (by decide) (Pu.qo (p_move rfl)) ?_
    refine Lin.q (v := .int .i64 (Q5)) (by decide) (Pu.qo (p_move rfl)) ?_
    obtain ⟨h16, j15⟩ := gd.of j15
    refine Lin.q (v := elp x_v0.1 (Q5.toNat * Enc.sz Tag + 0)) (by decide) (q_ixg (l := v0) (E := fun i => Flat.enc (nth v0 i)) (oa := x_v0.1) Try.underlying38 ty30 rfl rfl h16 rfl (EntB.flat (Ent.b Ent.z))) ?_
    refine Lin.q (v := .agg #[.string ((nth v0 Q5.toNat).1), .string ((nth v0 Q5.toNat).2)]) (by decide) (q_ldeA (l := v0) (E := fun i => Flat.enc (nth v0 i)) (oa := x_v0.1) (i := Q5.toNat) ty30 rfl (EntB.flat (Ent.b Ent.z)) h16.lt) ?_
    obtain ⟨r17, h18, j15⟩ := bd.of j15
    refine Lin.q (v := .bool (r17)) (by decide) (q_call (vs := [.agg #[.string ((nth v0 Q5.toNat).1), .string ((nth v0 Q5.toNat).2)]]) (c_spec_l3Tag (nth v0 Q5.toNat) h18) rfl EntsB.nil) ?_
    refine Lin.q (v := .bool (!r17)) (by decide) (Pu.qo (p_not rfl)) ?_
    rcases Bool.eq_false_or_eq_true (!r17) with h19 | h19
    ·have j15 := cdT h19 j15
     refine Lin.q (v := .bool (true)) (by decide) (Qo.eqv (v := .bool (!r17)) (Pu.qo (p_move rfl)) (congrArg Value.bool h19)) ?_
     refine Lin.skip (by decide) rfl ?_
     refine Lin.skip (by decide) rfl ?_
     refine Lin.skip (by decide) rfl ?_
     refine Lin.skip (by decide) rfl ?_
     refine Lin.skip (by decide) rfl ?_
     refine Lin.skip (by decide) rfl ?_
     refine Lin.skip (by decide) rfl ?_
     refine Lin.skip (by decide) rfl ?_
     refine Lin.skip (by decide) rfl ?_
     refine Lin.skip (by decide) rfl ?_
     refine Lin.skip (by decide) rfl ?_
     refine Lin.skip (by decide) rfl ?_
     refine Lin.skip (by decide) rfl ?_
     refine Lin.skip (by decide) rfl ?_
     refine Lin.skip (by decide) rfl ?_
     refine Lin.skip (by decide) rfl ?_
     refine Lin.q (v := .bool (true)) (by decide) (Pu.qo (p_pickT rfl rfl)) ?_
     have j15 := Option.some.inj j15; subst j15
     show At _ _ _ _ _ _
     exact n1 ⟨rfl, rfl, rfl, trivial⟩
    ·have j15 := cdF h19 j15
     refine Lin.q (v := .bool (false)) (by decide) (Qo.eqv (v := .bool (!r17)) (Pu.qo (p_move rfl)) (congrArg Value.bool h19)) ?_
     refine Lin.g (v := .int .i64 (Q5)) (by decide) rfl (Pu.qo (p_move rfl)) ?_
     refine Lin.g (v := .bool (decide (0 < Q5))) (by decide) rfl (Pu.qo (p_gtr rfl rfl)) ?_
     rcases Bool.eq_false_or_eq_true (decide (0 < Q5)) with h20 | h20
     ·have j15 := cdT h20 j15
      refine Lin.g (v := .bool (true)) (by decide) rfl (Qo.eqv (v := .bool (decide (0 < Q5))) (Pu.qo (p_move rfl)) (congrArg Value.bool h20)) ?_
      refine Lin.g (v := .slice x_v0.1 v0.length x_v0.2) (by decide) rfl (Pu.qo (p_move rfl)) ?_
      refine Lin.g (v := .int .i64 (Q5)) (by decide) rfl (Pu.qo (p_move rfl)) ?_
      obtain ⟨h21, j15⟩ := gd.of j15
      refine Lin.g (v := .int .i64 (Q5 - 1)) (by decide) rfl (Pu.qo (p_sub rfl rfl h21)) ?_
      obtain ⟨h22, j15⟩ := gd.of j15
      refine Lin.g (v := elp x_v0.1 (((Q5 - 1).toNat) * Enc.sz Tag + 0)) (by decide) rfl (q_ixg (l := v0) (E := fun i => Flat.enc (nth v0 i)) (oa := x_v0.1) Try.underlying38 ty30 rfl rfl h22 rfl (EntB.flat (Ent.b Ent.z))) ?_
      refine Lin.g (v := elp x_v0.1 (((Q5 - 1).toNat) * Enc.sz Tag + 0)) (by decide) rfl (q_faeE (l := v0) (E := fun i => Flat.enc (nth v0 i)) (oa := x_v0.1) (j := 0) ((Q5 - 1).toNat) fa30_0 rfl (EntB.flat (Ent.b Ent.z)) h22.lt rfl) ?_
      refine Lin.g (v := .string ((nth v0 ((Q5 - 1).toNat)).1)) (by decide) rfl (q_lde (l := v0) (E := fun i => Flat.enc (nth v0 i)) (oa := x_v0.1) (i := (Q5 - 1).toNat) (j := 0) ty9 rfl (EntB.flat (Ent.b Ent.z)) h22.lt rfl) ?_
      refine Lin.g (v := .slice x_v0.1 v0.length x_v0.2) (by decide) rfl (Pu.qo (p_move rfl)) ?_
      refine Lin.g (v := .int .i64 (Q5)) (by decide) rfl (Pu.qo (p_move rfl)) ?_
      refine Lin.g (v := elp x_v0.1 (Q5.toNat * Enc.sz Tag + 0)) (by decide) rfl (q_ixg (l := v0) (E := fun i => Flat.enc (nth v0 i)) (oa := x_v0.1) Try.underlying38 ty30 rfl rfl h16 rfl (EntB.flat (Ent.b Ent.z))) ?_
      refine Lin.g (v := elp x_v0.1 (Q5.toNat * Enc.sz Tag + 0)) (by decide) rfl (q_faeE (l := v0) (E := fun i => Flat.enc (nth v0 i)) (oa := x_v0.1) (j := 0) Q5.toNat fa30_0 rfl (EntB.flat (Ent.b Ent.z)) h16.lt rfl) ?_
      refine Lin.g (v := .string ((nth v0 Q5.toNat).1)) (by decide) rfl (q_lde (l := v0) (E := fun i => Flat.enc (nth v0 i)) (oa := x_v0.1) (i := Q5.toNat) (j := 0) ty9 rfl (EntB.flat (Ent.b Ent.z)) h16.lt rfl) ?_
      refine Lin.g (v := .bool (!sless ((nth v0 ((Q5 - 1).toNat)).1) ((nth v0 Q5.toNat).1))) (by decide) rfl (Pu.qo (p_sgeq rfl rfl)) ?_
      refine Lin.g (v := .bool (!sless ((nth v0 ((Q5 - 1).toNat)).1) ((nth v0 Q5.toNat).1))) (by decide) rfl (Pu.qo (p_pickT rfl rfl)) ?_
      refine Lin.q (v := .bool (!sless ((nth v0 ((Q5 - 1).toNat)).1) ((nth v0 Q5.toNat).1))) (by decide) (Pu.qo (p_pickF rfl rfl)) ?_
      have j15 := Option.some.inj j15; subst j15
      show At _ _ _ _ _ _
      exact n1 ⟨rfl, rfl, rfl, trivial⟩
     ·have j15 := cdF h20 j15
      refine Lin.g (v := .bool (false)) (by decide) rfl (Qo.eqv (v := .bool (decide (0 < Q5))) (Pu.qo (p_move rfl)) (congrArg Value.bool h20)) ?_
      refine Lin.skip (by decide) rfl ?_
      refine Lin.skip (by decide) rfl ?_
      refine Lin.skip (by decide) rfl ?_
      refine Lin.skip (by decide) rfl ?_
      refine Lin.skip (by decide) rfl ?_
      refine Lin.skip (by decide) rfl ?_
      refine Lin.skip (by decide) rfl ?_
      refine Lin.skip (by decide) rfl ?_
      refine Lin.skip (by decide) rfl ?_
      refine Lin.skip (by decide) rfl ?_
      refine Lin.skip (by decide) rfl ?_
      refine Lin.skip (by decide) rfl ?_
      refine Lin.g (v := .bool (false)) (by decide) rfl (Pu.qo (p_pickF rfl rfl)) ?_
      refine Lin.q (v := .bool (false)) (by decide) (Pu.qo (p_pickF rfl rfl)) ?_
      have j15 := Option.some.inj j15; subst j15
      show At _ _ _ _ _ _
      exact n1 ⟨rfl, rfl, rfl, trivial⟩
   refine Tr.cond (b := b14) rfl (fun h23 => ?_) (fun h23 => ?_)
   ·have H1 := cdT h23 H1
    refine Tr.seq (Tr.region ?_)
    refine Rg.q (v := .bool (false)) (Pu.qo (p_assign rfl)) (by decide) (Rg.nl (nT ?_))
    refine tRet ?_
    refine rB (rT (rT (rB (rT (rT (?_))))))
    have hx := hb10 _ (Option.some.inj H1).symm; subst hx
    replace H := sw.r H
    have hr := Option.some.inj H; subst hr
    exact back1 () rfl (ResV.tmp (v := .bool (false)) rfl) rfl Ents.nil Take.nil
   ·have H1 := cdF h23 H1
    refine tSkip ?_
    refine nB (nT (?_))
    refine Tr.region ?_
    refine Rg.q (v := .int .i64 (Q5)) (Pu.qo (p_move rfl)) (by decide) ?_
    obtain ⟨h24, H1⟩ := gd.of H1
    refine Rg.q (v := .int .i64 (Q5 + 1)) (Pu.qo (p_add rfl rfl h24)) (by decide) ?_
    refine Rg.q (v := .int .i64 (Q5 + 1)) (Pu.qo (p_assign rfl)) (by decide) (Rg.nl ?_)
    exact nLC ⟨(m12, Q5 + 1, ()), hi9 _ (Option.some.inj H1).symm⟩ (Nat.lt_succ_self _) ⟨rfl, rfl, trivial⟩ Ents.refl Take.nil
  ·have H1 := cdF h13 H1
   refine tExit (xT (xT (xE (?_))))
   exact nMC ⟨((), ()), (hb10 _ (Option.some.inj H1).symm).symm⟩ ⟨rfl, trivial⟩ Ents.refl Take.nil
 ·rintro ⟨⟨e25, y7⟩, hx⟩; subst hx; replace H := sw.l H
  show At _ _ [(0, .slice x_v0.1 v0.length x_v0.2)] _ [] _
  refine nT (?_)
  refine Tr.seq (Tr.region ?_)
  refine Rg.q (v := .slice x_v0.1 v0.length x_v0.2) (Pu.qo (p_move rfl)) (by decide) ?_
  refine Rg.q (v := .int .i64 ((v0.length : Int))) (Pu.qo (p_len 30 Try.underlying38 rfl)) (by decide) ?_
  obtain ⟨r26, h27, H⟩ := bd.of H
  refine Rg.q (v := .bool (r26)) (q_call (vs := [.int .i64 ((v0.length : Int)), .int .i64 (1), .int .i64 (3)]) (c_spec_l6In (v0.length : Int) 1 3 h27) rfl EntsB.nil) (by decide) ?_
  refine Rg.q (v := .bool (r26)) (Pu.qo (p_assign rfl)) (by decide) (Rg.nl (nT ?_))
  refine tRet ?_
  have hr := Option.some.inj H; subst hr
  exact back1 () rfl (ResV.tmp (v := .bool (r26)) rfl) rfl Ents.nil Take.nil
noncomputable def p_spec_l11Names_b0 (v0 : (List (List Tag))) (Q8 : (List (List Tag)) × Int) : Option (((List (List Tag)) × Int) ⊕ ((List (List Tag)))) := cond (decide (Q8.2 < (v0.length : Int))) (gd (ix Q8.2 v0.length) <| gd (room (([] : List Tag).length + (nth v0 Q8.2.toNat).length)) <| gd (room (Q8.1.length + 1)) <| gd (I64 (Q8.2 + 1)) <| some (.inl ((Q8.1 ++ [([] : List Tag) ++ (nth v0 Q8.2.toNat)]), Q8.2 + 1))) (some (.inr Q8.1))
noncomputable def p_spec_l11Names (v0 : (List (List Tag))) : Option ((List (List Tag))) := bd (lp (p_spec_l11Names_b0 v0) (([] : List (List Tag)), 0)) fun x4 => some x4
theorem c_spec_l11Names {r : (List (List Tag))} (v0 : (List (List Tag))) (x_v0 : Option Addr × Nat) (H : p_spec_l11Names v0 = some r) : Fn' Try.prog 124 #[.slice x_v0.1 v0.length x_v0.2] [imm (.slice x_v0.1 v0.length x_v0.2) v0] [] (ι := Option Addr × Nat) (fun x => .slice x.1 r.length x.2) (fun _ => []) (fun x => [tree (.slice x.1 r.length x.2) r]) := by
 refine calls_of (args := [_]) Try.func124 rfl (by kernel_rfl) Try.ntmps124 (by simp) fun c => ?_
 unfold p_spec_l11Names at H
 refine Tr.openD Ent.z fun X1 => ?_
 refine Tr.seq (Tr.region ?_)
 refine Rg.q (v := .slice none 0 0) (Pu.qo (p_assign rfl)) (by decide) (Rg.nl (nT ?_))
 refine Tr.seq (Tr.region ?_)
 refine Rg.ed (e_lit0 (List Tag) Try.underlying23 ty38) rfl (by decide) ?_
 rintro _ _ _ ⟨a2, c3, rfl, rfl, rfl⟩
 refine Rg.q (v := .slice a2 (([] : List (List Tag)).length) c3) (Pu.qo (p_assign rfl)) (by decide) (Rg.nl (nT ?_))
 refine Tr.seq (Tr.seq (Tr.region ?_))
 refine Rg.q (v := .int .i64 (0)) (Pu.qo (p_assign rfl)) (by decide) (Rg.nl (nT ?_))
 obtain ⟨x4, hx5, H⟩ := bd.of H
 obtain ⟨n6, hx5⟩ := lp.of hx5
 refine tMidNC (ι := Option Addr × Nat) (fun ψ => [(3, .slice ψ.1 x4.length ψ.2)]) (fun ψ => [tree (.slice ψ.1 x4.length ψ.2) x4]) ?_ ?_
 ·refine Tr.block ?_
  refine tLoopC (ι := { q : Nat × ((List (List Tag)) × Int) × (Option Addr × Nat) // itr (p_spec_l11Names_b0 v0) q.1 q.2.1 = some x4 }) (fun ζ => [(0, .slice x_v0.1 v0.length x_v0.2), (3, .slice ζ.1.2.2.1 ζ.1.2.1.1.length ζ.1.2.2.2), (4, .int .i64 (ζ.1.2.1.2))]) (fun ζ => [tree (.slice ζ.1.2.2.1 ζ.1.2.1.1.length ζ.1.2.2.2) ζ.1.2.1.1]) (fun ζ => ζ.1.1) ⟨(n6, (([] : List (List Tag)), 0), (a2, c3)), hx5⟩ ⟨rfl, rfl, rfl, trivial⟩ (.cons Del.here .nil) ?_
  rintro ⟨⟨m7, Q8, z9⟩, hk14⟩
  obtain ⟨m15, t11, e, H1, hi12, hb13⟩ := itr.of (n := m7) (s := Q8) hk14
  subst e; unfold p_spec_l11Names_b0 at H1
  show Tr _ _ _ _ _ [(0, .slice x_v0.1 v0.length x_v0.2), (3, .slice z9.1 Q8.1.length z9.2), (4, .int .i64 (Q8.2))] _ [tree (.slice z9.1 Q8.1.length z9.2) Q8.1]
  refine Tr.seq (Tr.seq (Tr.region ?_))
  refine Rg.q (v := .int .i64 (Q8.2)) (Pu.qo (p_move rfl)) (by decide) ?_
  refine Rg.q (v := .slice x_v0.1 v0.length x_v0.2) (Pu.qo (p_move rfl)) (by decide) ?_
  refine Rg.q (v := .int .i64 ((v0.length : Int))) (Pu.qo (p_len 38 Try.underlying23 rfl)) (by decide) ?_
  refine Rg.q (v := .bool (decide (Q8.2 < (v0.length : Int)))) (Pu.qo (p_lss rfl rfl)) (by decide) (Rg.nl (nT ?_))
  refine Tr.cond (b := decide (Q8.2 < (v0.length : Int))) rfl (fun h16 => ?_) (fun h16 => ?_)
  ·have H1 := cdT h16 H1
   refine tSkip ?_
   refine nT (Tr.seq ?_)
   refine Tr.block ?_
   refine Tr.region ?_
   refine Rg.q (v := .slice z9.1 Q8.1.length z9.2) (Pu.qo (p_move rfl)) (by decide) ?_
   refine Rg.ed (e_lit0 Tag Try.underlying38 ty30) rfl (by decide) ?_
   rintro _ _ _ ⟨a17, c18, rfl, rfl, rfl⟩
   refine Rg.q (v := .slice x_v0.1 v0.length x_v0.2) (Pu.qo (p_move rfl)) (by decide) ?_
   refine Rg.q (v := .int .i64 (Q8.2)) (Pu.qo (p_move rfl)) (by decide) ?_
   obtain ⟨h19, H1⟩ := gd.of H1
   refine Rg.q (v := elp x_v0.1 (Q8.2.toNat * Enc.sz (List Tag) + 0)) (q_ixg (l := v0) (E := fun i => Dp.denc (nth v0 i) (X1 i)) (oa := x_v0.1) Try.underlying23 ty38 rfl rfl h19 rfl (Ent.b (Ent.darr Ent.z))) (by decide) ?_
   refine Rg.q (v := .slice ((X1 Q8.2.toNat).1) ((nth v0 Q8.2.toNat).length) ((X1 Q8.2.toNat).2.1)) (q_lde (l := v0) (E := fun i => Dp.denc (nth v0 i) (X1 i)) (oa := x_v0.1) (i := Q8.2.toNat) (j := 0) ty38 rfl (Ent.b (Ent.darr Ent.z)) h19.lt rfl) (by decide) ?_
   obtain ⟨h22, H1⟩ := gd.of H1
   refine Rg.ed (e_appF (l := ([] : List Tag)) (k := nth v0 Q8.2.toNat) (α := Tag) Try.underlying38 ty30 rfl rfl (h22.b (by decide)) h22.x (.cons Del.here .nil) (Ent.b (Ent.dimm (Ent.del Ent.z h19.lt)))) rfl (by decide) ?_
   rintro _ _ _ ⟨a20, c21, rfl, rfl, rfl⟩
   refine Rg.ed (e_lit (vs := [(0, .slice a20 ((([] : List Tag) ++ (nth v0 Q8.2.toNat)).length) c21)]) [.slice a20 ((([] : List Tag) ++ (nth v0 Q8.2.toNat)).length) c21] Try.underlying23 ty38 rfl (by decide) (by decide) (by kernel_rfl)) rfl (by decide) ?_
   rintro _ _ _ ⟨g23, rfl, rfl, rfl⟩
   obtain ⟨h26, H1⟩ := gd.of H1
   refine Rg.ed (e_app1 (l := Q8.1) (α := (List Tag)) (([] : List Tag) ++ (nth v0 Q8.2.toNat)) (a20, c21) Try.underlying23 ty38 rfl rfl (h26.b (by decide)) h26.x rfl (ShpT.wfa _) (.cons Del.here.there.there (.cons Del.here (.cons Del.here .nil)))) rfl (by decide) ?_
   rintro _ _ _ ⟨a24, c25, rfl, rfl, rfl⟩
   refine Rg.q (v := .slice a24 ((Q8.1 ++ [([] : List Tag) ++ (nth v0 Q8.2.toNat)]).length) c25) (Pu.qo (p_assign rfl)) (by decide) (Rg.nl ?_)
   refine nB (nT (?_))
   refine Tr.region ?_
   refine Rg.q (v := .int .i64 (Q8.2)) (Pu.qo (p_move rfl)) (by decide) ?_
   obtain ⟨h27, H1⟩ := gd.of H1
   refine Rg.q (v := .int .i64 (Q8.2 + 1)) (Pu.qo (p_add rfl rfl h27)) (by decide) ?_
   refine Rg.q (v := .int .i64 (Q8.2 + 1)) (Pu.qo (p_assign rfl)) (by decide) (Rg.nl ?_)
   exact nLC ⟨(m15, ((Q8.1 ++ [([] : List Tag) ++ (nth v0 Q8.2.toNat)]), Q8.2 + 1), (a24, c25)), hi12 _ (Option.some.inj H1).symm⟩ (Nat.lt_succ_self _) ⟨rfl, rfl, rfl, trivial⟩ Ents.refl (.cons Del.here .nil)
  ·have H1 := cdF h16 H1
   refine tExit (xT (xT (xE (?_))))
   have hx := hb13 _ (Option.some.inj H1).symm; subst hx
   exact nMC (z9.1, z9.2) ⟨rfl, trivial⟩ Ents.refl (.cons Del.here .nil)
 ·intro y10
  show At _ _ [(3, .slice y10.1 x4.length y10.2)] _ [tree (.slice y10.1 x4.length y10.2) x4] _
  refine nT (?_)
  refine Tr.seq (Tr.region ?_)
  refine Rg.q (v := .slice y10.1 x4.length y10.2) (Pu.qo (p_move rfl)) (by decide) ?_
  refine Rg.q (v := .slice y10.1 x4.length y10.2) (Pu.qo (p_assign rfl)) (by decide) (Rg.nl (nT ?_))
  refine tRet ?_
  have hr := Option.some.inj H; subst hr
  exact back1 y10 rfl (ResV.tmp (v := .slice y10.1 x4.length y10.2) rfl) rfl Ents.nil (.cons Del.here .nil)
noncomputable def p_spec_l3Has_b0 (v0 : (List Tag)) (v1 : Tag) (Q6 : Int) : Option ((Int) ⊕ (Unit ⊕ Bool)) := cond (decide (Q6 < (v0.length : Int))) (gd (ix Q6 v0.length) <| cond (decide (nth v0 Q6.toNat = v1)) (some (.inr (.inr true))) (gd (I64 (Q6 + 1)) <| some (.inl (Q6 + 1)))) (some (.inr (.inl ())))
noncomputable def p_spec_l3Has (v0 : (List Tag)) (v1 : Tag) : Option (Bool) := bd (lp (p_spec_l3Has_b0 v0 v1) 0) <| sw (fun _ => some false) (fun q => some q)
theorem c_spec_l3Has {r : Bool} (v0 : (List Tag)) (x_v0 : Option Addr × Nat) (v1 : Tag) (H : p_spec_l3Has v0 v1 = some r) : Fn' Try.prog 117 #[.slice x_v0.1 v0.length x_v0.2, .agg #[.string (v1.1), .string (v1.2)]] [imm (.slice x_v0.1 v0.length x_v0.2) v0] [] (ι := Unit) (fun _ => .bool (r)) (fun _ => []) (fun _ => []) := by
 refine calls_of (args := [_, _]) Try.func117 rfl (by kernel_rfl) Try.ntmps117 (by simp) fun c => ?_
 unfold p_spec_l3Has at H
 refine Tr.seq (Tr.region ?_)
 refine Rg.ed (e_box (t := 30) (v := .agg #[.string (v1.1), .string (v1.2)]) rfl) rfl (by decide) ?_
 rintro _ _ _ ⟨g1, rfl, rfl, rfl⟩
 refine Rg.q (v := .bool (false)) (Pu.qo (p_assign rfl)) (by decide) (Rg.nl (nT ?_))
 refine Tr.seq (Tr.seq (Tr.region ?_))
 refine Rg.q (v := .int .i64 (0)) (Pu.qo (p_assign rfl)) (by decide) (Rg.nl (nT ?_))
 obtain ⟨x2, hx3, H⟩ := bd.of H
 obtain ⟨n4, hx3⟩ := lp.of hx3
 refine tMidNC (ι := { q : (Unit) × Unit // x2 = .inl q.1 }) (fun ψ => []) (fun ψ => []) ?_ ?_
 ·refine Tr.block ?_
  refine tLoopC (ι := { q : Nat × (Int) × Unit // itr (p_spec_l3Has_b0 v0 v1) q.1 q.2.1 = some x2 }) (fun ζ => [(0, .slice x_v0.1 v0.length x_v0.2), (3, .pointer (some ⟨g1, 0, none⟩)), (5, .int .i64 (ζ.1.2.1))]) (fun ζ => [box g1 30 [.string (v1.1), .string (v1.2)]]) (fun ζ => ζ.1.1) ⟨(n4, 0, ()), hx3⟩ ⟨rfl, rfl, rfl, trivial⟩ (.cons Del.here .nil) ?_
  rintro ⟨⟨m5, Q6, z7⟩, hk12⟩
  obtain ⟨m13, t9, e, H1, hi10, hb11⟩ := itr.of (n := m5) (s := Q6) hk12
  subst e; unfold p_spec_l3Has_b0 at H1
  show Tr _ _ _ _ _ [(0, .slice x_v0.1 v0.length x_v0.2), (3, .pointer (some ⟨g1, 0, none⟩)), (5, .int .i64 (Q6))] _ [box g1 30 [.string (v1.1), .string (v1.2)]]
  refine Tr.seq (Tr.seq (Tr.region ?_))
  refine Rg.q (v := .int .i64 (Q6)) (Pu.qo (p_move rfl)) (by decide) ?_
  refine Rg.q (v := .slice x_v0.1 v0.length x_v0.2) (Pu.qo (p_move rfl)) (by decide) ?_
  refine Rg.q (v := .int .i64 ((v0.length : Int))) (Pu.qo (p_len 30 Try.underlying38 rfl)) (by decide) ?_
  refine Rg.q (v := .bool (decide (Q6 < (v0.length : Int)))) (Pu.qo (p_lss rfl rfl)) (by decide) (Rg.nl (nT ?_))
  refine Tr.cond (b := decide (Q6 < (v0.length : Int))) rfl (fun h14 => ?_) (fun h14 => ?_)
  ·have H1 := cdT h14 H1
   refine tSkip ?_
   refine nT (Tr.seq ?_)
   refine Tr.block ?_
   refine Tr.seq ?_
   refine tLinS [(0, .slice x_v0.1 v0.length x_v0.2), (3, .pointer (some ⟨g1, 0, none⟩)), (5, .int .i64 (Q6))] Try.mixed (.inr (by kernel_rfl)) ⟨rfl, rfl, rfl, trivial⟩ rfl ?_
   refine Lin.q (v := .slice x_v0.1 v0.length x_v0.2) (by decide) (Pu.qo (p_move rfl)) ?_
   refine Lin.q (v := .int .i64 (Q6)) (by decide) (Pu.qo (p_move rfl)) ?_
   obtain ⟨h15, H1⟩ := gd.of H1
   refine Lin.q (v := elp x_v0.1 (Q6.toNat * Enc.sz Tag + 0)) (by decide) (q_ixg (l := v0) (E := fun i => Flat.enc (nth v0 i)) (oa := x_v0.1) Try.underlying38 ty30 rfl rfl h15 rfl (EntB.flat (Ent.b Ent.z))) ?_
   refine Lin.q (v := .agg #[.string ((nth v0 Q6.toNat).1), .string ((nth v0 Q6.toNat).2)]) (by decide) (q_ldeA (l := v0) (E := fun i => Flat.enc (nth v0 i)) (oa := x_v0.1) (i := Q6.toNat) ty30 rfl (EntB.flat (Ent.b Ent.z)) h15.lt) ?_
   refine Lin.q (v := .agg #[.string (v1.1), .string (v1.2)]) (by decide) (q_ldbA ty30 rfl Has.here rfl) ?_
   refine Lin.q (v := .bool (decide (nth v0 Q6.toNat = v1))) (by decide) (Pu.qo (p_aeql (a := nth v0 Q6.toNat) (b := v1) ae30 rfl rfl rfl rfl)) ?_
   show At _ _ _ _ _ _
   refine nT (?_)
   refine Tr.cond (b := decide (nth v0 Q6.toNat = v1)) rfl (fun h16 => ?_) (fun h16 => ?_)
   ·have H1 := cdT h16 H1
    refine Tr.seq (Tr.region ?_)
    refine Rg.q (v := .bool (true)) (Pu.qo (p_assign rfl)) (by decide) (Rg.nl (nT ?_))
    refine tRet ?_
    refine rB (rT (rT (rB (rT (rT (?_))))))
    have hx := hb11 _ (Option.some.inj H1).symm; subst hx
    replace H := sw.r H
    have hr := Option.some.inj H; subst hr
    exact back1 () rfl (ResV.tmp (v := .bool (true)) rfl) rfl Ents.nil Take.nil
   ·have H1 := cdF h16 H1
    refine tSkip ?_
    refine nB (nT (?_))
    refine Tr.region ?_
    refine Rg.q (v := .int .i64 (Q6)) (Pu.qo (p_move rfl)) (by decide) ?_
    obtain ⟨h17, H1⟩ := gd.of H1
    refine Rg.q (v := .int .i64 (Q6 + 1)) (Pu.qo (p_add rfl rfl h17)) (by decide) ?_
    refine Rg.q (v := .int .i64 (Q6 + 1)) (Pu.qo (p_assign rfl)) (by decide) (Rg.nl ?_)
    exact nLC ⟨(m13, Q6 + 1, ()), hi10 _ (Option.some.inj H1).symm⟩ (Nat.lt_succ_self _) ⟨rfl, rfl, rfl, trivial⟩ Ents.refl (.cons Del.here .nil)
  ·have H1 := cdF h14 H1
   refine tExit (xT (xT (xE (?_))))
   exact nMC ⟨((), ()), (hb11 _ (Option.some.inj H1).symm).symm⟩ trivial Ents.refl Take.nil
 ·rintro ⟨⟨e18, y8⟩, hx⟩; subst hx; replace H := sw.l H
  show At _ _ [] _ [] _
  refine nT (?_)
  refine Tr.seq (Tr.region ?_)
  refine Rg.q (v := .bool (false)) (Pu.qo (p_assign rfl)) (by decide) (Rg.nl (nT ?_))
  refine tRet ?_
  have hr := Option.some.inj H; subst hr
  exact back1 () rfl (ResV.tmp (v := .bool (false)) rfl) rfl Ents.nil Take.nil
noncomputable def p_spec_l11Ids_b0 (v0 : (List (List Tag))) (v1 : Tag) (Q9 : (List Int) × Int) : Option (((List Int) × Int) ⊕ ((List Int))) := cond (decide (Q9.2 < (v0.length : Int))) (gd (ix Q9.2 v0.length) <| bd (p_spec_l3Has (nth v0 Q9.2.toNat) v1) fun r19 => cond (r19) (gd (I64 (Q9.2 + 1)) <| gd (room (Q9.1.length + 1)) <| some (.inl ((Q9.1 ++ [Q9.2 + 1]), Q9.2 + 1))) (gd (I64 (Q9.2 + 1)) <| some (.inl (Q9.1, Q9.2 + 1)))) (some (.inr Q9.1))
noncomputable def p_spec_l11Ids (v0 : (List (List Tag))) (v1 : Tag) : Option ((List Int)) := bd (lp (p_spec_l11Ids_b0 v0 v1) (([] : List Int), 0)) fun x5 => some x5
theorem c_spec_l11Ids {r : (List Int)} (v0 : (List (List Tag))) (x_v0 : Option Addr × Nat) (v1 : Tag) (H : p_spec_l11Ids v0 v1 = some r) : Fn' Try.prog 70 #[.slice x_v0.1 v0.length x_v0.2, .agg #[.string (v1.1), .string (v1.2)]] [imm (.slice x_v0.1 v0.length x_v0.2) v0] [] (ι := Option Addr × Nat) (fun x => .slice x.1 r.length x.2) (fun _ => []) (fun x => [tree (.slice x.1 r.length x.2) r]) := by
 refine calls_of (args := [_, _]) Try.func70 rfl (by kernel_rfl) Try.ntmps70 (by simp) fun c => ?_
 unfold p_spec_l11Ids at H
 refine Tr.openD Ent.z fun X1 => ?_
 refine Tr.seq (Tr.region ?_)
 refine Rg.ed (e_box (t := 30) (v := .agg #[.string (v1.1), .string (v1.2)]) rfl) rfl (by decide) ?_
 rintro _ _ _ ⟨g2, rfl, rfl, rfl⟩
 refine Rg.q (v := .slice none 0 0) (Pu.qo (p_assign rfl)) (by decide) (Rg.nl (nT ?_))
 refine Tr.seq (Tr.region ?_)
 refine Rg.ed (e_lit0 Int Try.underlying31 ty3) rfl (by decide) ?_
 rintro _ _ _ ⟨a3, c4, rfl, rfl, rfl⟩
 refine Rg.q (v := .slice a3 (([] : List Int).length) c4) (Pu.qo (p_assign rfl)) (by decide) (Rg.nl (nT ?_))
 refine Tr.seq (Tr.seq (Tr.region ?_))
 refine Rg.q (v := .int .i64 (0)) (Pu.qo (p_assign rfl)) (by decide) (Rg.nl (nT ?_))
 obtain ⟨x5, hx6, H⟩ := bd.of H
 obtain ⟨n7, hx6⟩ := lp.of hx6
 refine tMidNC (ι := Option Addr × Nat) (fun ψ => [(5, .slice ψ.1 x5.length ψ.2)]) (fun ψ => [tree (.slice ψ.1 x5.length ψ.2) x5]) ?_ ?_
 ·refine Tr.block ?_
  refine tLoopC (ι := { q : Nat × ((List Int) × Int) × (Option Addr × Nat) // itr (p_spec_l11Ids_b0 v0 v1) q.1 q.2.1 = some x5 }) (fun ζ => [(0, .slice x_v0.1 v0.length x_v0.2), (3, .pointer (some ⟨g2, 0, none⟩)), (5, .slice ζ.1.2.2.1 ζ.1.2.1.1.length ζ.1.2.2.2), (6, .int .i64 (ζ.1.2.1.2))]) (fun ζ => [box g2 30 [.string (v1.1), .string (v1.2)], tree (.slice ζ.1.2.2.1 ζ.1.2.1.1.length ζ.1.2.2.2) ζ.1.2.1.1]) (fun ζ => ζ.1.1) ⟨(n7, (([] : List Int), 0), (a3, c4)), hx6⟩ ⟨rfl, rfl, rfl, rfl, trivial⟩ (.cons Del.here.there (.cons Del.here .nil)) ?_
  rintro ⟨⟨m8, Q9, z10⟩, hk15⟩
  obtain ⟨m16, t12, e, H1, hi13, hb14⟩ := itr.of (n := m8) (s := Q9) hk15
  subst e; unfold p_spec_l11Ids_b0 at H1
  show Tr _ _ _ _ _ [(0, .slice x_v0.1 v0.length x_v0.2), (3, .pointer (some ⟨g2, 0, none⟩)), (5, .slice z10.1 Q9.1.length z10.2), (6, .int .i64 (Q9.2))] _ [box g2 30 [.string (v1.1), .string (v1.2)], tree (.slice z10.1 Q9.1.length z10.2) Q9.1]
  refine Tr.seq (Tr.seq (Tr.region ?_))
  refine Rg.q (v := .int .i64 (Q9.2)) (Pu.qo (p_move rfl)) (by decide) ?_
  refine Rg.q (v := .slice x_v0.1 v0.length x_v0.2) (Pu.qo (p_move rfl)) (by decide) ?_
  refine Rg.q (v := .int .i64 ((v0.length : Int))) (Pu.qo (p_len 38 Try.underlying23 rfl)) (by decide) ?_
  refine Rg.q (v := .bool (decide (Q9.2 < (v0.length : Int)))) (Pu.qo (p_lss rfl rfl)) (by decide) (Rg.nl (nT ?_))
  refine Tr.cond (b := decide (Q9.2 < (v0.length : Int))) rfl (fun h17 => ?_) (fun h17 => ?_)
  ·have H1 := cdT h17 H1
   refine tSkip ?_
   refine nT (Tr.seq ?_)
   refine Tr.block ?_
   refine Tr.seq ?_
   refine tLinS [(0, .slice x_v0.1 v0.length x_v0.2), (3, .pointer (some ⟨g2, 0, none⟩)), (5, .slice z10.1 Q9.1.length z10.2), (6, .int .i64 (Q9.2))] Try.mixed (.inr (by kernel_rfl)) ⟨rfl, rfl, rfl, rfl, trivial⟩ rfl ?_
   refine Lin.q (v := .slice x_v0.1 v0.length x_v0.2) (by decide) (Pu.qo (p_move rfl)) ?_
   refine Lin.q (v := .int .i64 (Q9.2)) (by decide) (Pu.qo (p_move rfl)) ?_
   obtain ⟨h18, H1⟩ := gd.of H1
   refine Lin.q (v := elp x_v0.1 (Q9.2.toNat * Enc.sz (List Tag) + 0)) (by decide) (q_ixg (l := v0) (E := fun i => Dp.denc (nth v0 i) (X1 i)) (oa := x_v0.1) Try.underlying23 ty38 rfl rfl h18 rfl (Ent.b (Ent.darr Ent.z))) ?_
   refine Lin.q (v := .slice ((X1 Q9.2.toNat).1) ((nth v0 Q9.2.toNat).length) ((X1 Q9.2.toNat).2.1)) (by decide) (q_lde (l := v0) (E := fun i => Dp.denc (nth v0 i) (X1 i)) (oa := x_v0.1) (i := Q9.2.toNat) (j := 0) ty38 rfl (Ent.b (Ent.darr Ent.z)) h18.lt rfl) ?_
   refine Lin.q (v := .agg #[.string (v1.1), .string (v1.2)]) (by decide) (q_ldbA ty30 rfl Has.here rfl) ?_
   obtain ⟨r19, h20, H1⟩ := bd.of H1
   refine Lin.q (v := .bool (r19)) (by decide) (q_call (vs := [.slice ((X1 Q9.2.toNat).1) ((nth v0 Q9.2.toNat).length) ((X1 Q9.2.toNat).2.1), .agg #[.string (v1.1), .string (v1.2)]]) (c_spec_l3Has (nth v0 Q9.2.toNat) ((X1 Q9.2.toNat).1, (X1 Q9.2.toNat).2.1) v1 h20) rfl (EntsB.cons (Ent.b (Ent.dimm (Ent.del Ent.z h18.lt))) EntsB.nil)) ?_
   show At _ _ _ _ _ _
   refine nT (?_)
   refine Tr.cond (b := r19) rfl (fun h21 => ?_) (fun h21 => ?_)
   ·have H1 := cdT h21 H1
    refine Tr.region ?_
    refine Rg.q (v := .slice z10.1 Q9.1.length z10.2) (Pu.qo (p_move rfl)) (by decide) ?_
    refine Rg.q (v := .int .i64 (Q9.2)) (Pu.qo (p_move rfl)) (by decide) ?_
    obtain ⟨h22, H1⟩ := gd.of H1
    refine Rg.q (v := .int .i64 (Q9.2 + 1)) (Pu.qo (p_add rfl rfl h22)) (by decide) ?_
    refine Rg.ed (e_lit (vs := [(0, .int .i64 (Q9.2 + 1))]) [.int .i64 (Q9.2 + 1)] Try.underlying31 ty3 rfl (by decide) (by decide) (by kernel_rfl)) rfl (by decide) ?_
    rintro _ _ _ ⟨g23, rfl, rfl, rfl⟩
    obtain ⟨h26, H1⟩ := gd.of H1
    refine Rg.ed (e_app1 (l := Q9.1) (α := Int) (Q9.2 + 1) () Try.underlying31 ty3 rfl rfl (h26.b (by decide)) h26.x rfl (ShpT.wfa _) (.cons Del.here.there.there (.cons Del.here .nil))) rfl (by decide) ?_
    rintro _ _ _ ⟨a24, c25, rfl, rfl, rfl⟩
    refine Rg.q (v := .slice a24 ((Q9.1 ++ [Q9.2 + 1]).length) c25) (Pu.qo (p_assign rfl)) (by decide) (Rg.nl ?_)
    refine nB (nT (?_))
    refine Tr.region ?_
    refine Rg.q (v := .int .i64 (Q9.2)) (Pu.qo (p_move rfl)) (by decide) ?_
    refine Rg.q (v := .int .i64 (Q9.2 + 1)) (Pu.qo (p_add rfl rfl h22)) (by decide) ?_
    refine Rg.q (v := .int .i64 (Q9.2 + 1)) (Pu.qo (p_assign rfl)) (by decide) (Rg.nl ?_)
    exact nLC ⟨(m16, ((Q9.1 ++ [Q9.2 + 1]), Q9.2 + 1), (a24, c25)), hi13 _ (Option.some.inj H1).symm⟩ (Nat.lt_succ_self _) ⟨rfl, rfl, rfl, rfl, trivial⟩ Ents.refl (.cons Del.here.there (.cons Del.here .nil))
   ·have H1 := cdF h21 H1
    refine tSkip ?_
    refine nB (nT (?_))
    refine Tr.region ?_
    refine Rg.q (v := .int .i64 (Q9.2)) (Pu.qo (p_move rfl)) (by decide) ?_
    obtain ⟨h27, H1⟩ := gd.of H1
    refine Rg.q (v := .int .i64 (Q9.2 + 1)) (Pu.qo (p_add rfl rfl h27)) (by decide) ?_
    refine Rg.q (v := .int .i64 (Q9.2 + 1)) (Pu.qo (p_assign rfl)) (by decide) (Rg.nl ?_)
    exact nLC ⟨(m16, (Q9.1, Q9.2 + 1), (z10.1, z10.2)), hi13 _ (Option.some.inj H1).symm⟩ (Nat.lt_succ_self _) ⟨rfl, rfl, rfl, rfl, trivial⟩ Ents.refl (.cons Del.here (.cons Del.here .nil))
  ·have H1 := cdF h17 H1
   refine tExit (xT (xT (xE (?_))))
   have hx := hb14 _ (Option.some.inj H1).symm; subst hx
   exact nMC (z10.1, z10.2) ⟨rfl, trivial⟩ Ents.refl (.cons Del.here.there .nil)
 ·intro y11
  show At _ _ [(5, .slice y11.1 x5.length y11.2)] _ [tree (.slice y11.1 x5.length y11.2) x5] _
  refine nT (?_)
  refine Tr.seq (Tr.region ?_)
  refine Rg.q (v := .slice y11.1 x5.length y11.2) (Pu.qo (p_move rfl)) (by decide) ?_
  refine Rg.q (v := .slice y11.1 x5.length y11.2) (Pu.qo (p_assign rfl)) (by decide) (Rg.nl (nT ?_))
  refine tRet ?_
  have hr := Option.some.inj H; subst hr
  exact back1 y11 rfl (ResV.tmp (v := .slice y11.1 x5.length y11.2) rfl) rfl Ents.nil (.cons Del.here .nil)
noncomputable def p_spec_l11Of_b1 (v0 : (List (List Tag))) (Q9 : (List Post) × Int) (Q22 : (List Post) × Int) : Option (((List Post) × Int) ⊕ ((List Post))) := cond (decide (Q22.2 ≤ 122)) (gd (asc Q9.2) <| gd (asc Q22.2) <| bd (p_spec_l11Ids v0 ((s1 Q9.2), (s1 Q22.2))) fun r34 => cond (decide (0 < (r34.length : Int))) (gd (room (Q22.1.length + 1)) <| gd (I32 (Q22.2 + 1)) <| some (.inl ((Q22.1 ++ [(((s1 Q9.2), (s1 Q22.2)), r34)]), Q22.2 + 1))) (gd (I32 (Q22.2 + 1)) <| some (.inl (Q22.1, Q22.2 + 1)))) (some (.inr Q22.1))
noncomputable def p_spec_l11Of_b0 (v0 : (List (List Tag))) (Q9 : (List Post) × Int) : Option (((List Post) × Int) ⊕ ((List Post))) := cond (decide (Q9.2 ≤ 100)) (bd (lp (p_spec_l11Of_b1 v0 Q9) (Q9.1, 112)) fun x18 => gd (I32 (Q9.2 + 1)) <| some (.inl (x18, Q9.2 + 1))) (some (.inr Q9.1))
noncomputable def p_spec_l11Of (v0 : (List (List Tag))) : Option (Index) := bd (lp (p_spec_l11Of_b0 v0) (([] : List Post), 97)) fun x5 => bd (p_spec_l11Names v0) fun r45 => some (r45, x5)
theorem c_spec_l11Of {r : Index} (v0 : (List (List Tag))) (x_v0 : Option Addr × Nat) (H : p_spec_l11Of v0 = some r) : Fn' Try.prog 77 #[.slice x_v0.1 v0.length x_v0.2] [imm (.slice x_v0.1 v0.length x_v0.2) v0] [] (ι := (Option Addr × Nat) × (Option Addr × Nat)) (fun x => .agg #[.slice x.1.1 r.1.length x.1.2, .slice x.2.1 r.2.length x.2.2]) (fun _ => []) (fun x => [tree (.slice x.1.1 r.1.length x.1.2) r.1, tree (.slice x.2.1 r.2.length x.2.2) r.2]) := by
 refine calls_of (args := [_]) Try.func77 rfl (by kernel_rfl) Try.ntmps77 (by simp) fun c => ?_
 unfold p_spec_l11Of at H
 refine Tr.openD Ent.z fun X1 => ?_
 refine Tr.seq (Tr.region ?_)
 refine Rg.ed (e_alloc ty26) rfl (by decide) ?_
 rintro _ _ _ ⟨g2, rfl, rfl, rfl⟩
 refine Rg.nl (nT ?_)
 refine Tr.seq (Tr.region ?_)
 refine Rg.ed (e_lit0 Post Try.underlying24 ty33) rfl (by decide) ?_
 rintro _ _ _ ⟨a3, c4, rfl, rfl, rfl⟩
 refine Rg.q (v := .slice a3 (([] : List Post).length) c4) (Pu.qo (p_assign rfl)) (by decide) (Rg.nl (nT ?_))
 refine Tr.seq (Tr.seq (Tr.region ?_))
 refine Rg.q (v := .int .i32 (97)) (Pu.qo (p_assign rfl)) (by decide) (Rg.nl (nT ?_))
 obtain ⟨x5, hx6, H⟩ := bd.of H
 obtain ⟨n7, hx6⟩ := lp.of hx6
 refine tMidNC (ι := Option Addr × Nat) (fun ψ => [(0, .slice x_v0.1 v0.length x_v0.2), (2, .pointer (some ⟨g2, 0, none⟩)), (3, .slice ψ.1 x5.length ψ.2)]) (fun ψ => [box g2 26 [.slice none 0 0, .slice none 0 0], tree (.slice ψ.1 x5.length ψ.2) x5]) ?_ ?_
 ·refine Tr.block ?_
  refine tLoopC (ι := { q : Nat × ((List Post) × Int) × (Option Addr × Nat) // itr (p_spec_l11Of_b0 v0) q.1 q.2.1 = some x5 }) (fun ζ => [(0, .slice x_v0.1 v0.length x_v0.2), (2, .pointer (some ⟨g2, 0, none⟩)), (3, .slice ζ.1.2.2.1 ζ.1.2.1.1.length ζ.1.2.2.2), (4, .int .i32 (ζ.1.2.1.2))]) (fun ζ => [box g2 26 [.slice none 0 0, .slice none 0 0], tree (.slice ζ.1.2.2.1 ζ.1.2.1.1.length ζ.1.2.2.2) ζ.1.2.1.1]) (fun ζ => ζ.1.1) ⟨(n7, (([] : List Post), 97), (a3, c4)), hx6⟩ ⟨rfl, rfl, rfl, rfl, trivial⟩ (.cons Del.here.there (.cons Del.here .nil)) ?_
  rintro ⟨⟨m8, Q9, z10⟩, hk15⟩
  obtain ⟨m16, t12, e, H1, hi13, hb14⟩ := itr.of (n := m8) (s := Q9) hk15
  subst e; unfold p_spec_l11Of_b0 at H1
  show Tr _ _ _ _ _ [(0, .slice x_v0.1 v0.length x_v0.2), (2, .pointer (some ⟨g2, 0, none⟩)), (3, .slice z10.1 Q9.1.length z10.2), (4, .int .i32 (Q9.2))] _ [box g2 26 [.slice none 0 0, .slice none 0 0], tree (.slice z10.1 Q9.1.length z10.2) Q9.1]
  refine Tr.seq (Tr.seq (Tr.region ?_))
  refine Rg.q (v := .int .i32 (Q9.2)) (Pu.qo (p_move rfl)) (by decide) ?_
  refine Rg.q (v := .bool (decide (Q9.2 ≤ 100))) (Pu.qo (p_leq rfl rfl)) (by decide) (Rg.nl (nT ?_))
  refine Tr.cond (b := decide (Q9.2 ≤ 100)) rfl (fun h17 => ?_) (fun h17 => ?_)
  ·have H1 := cdT h17 H1
   refine tSkip ?_
   refine nT (Tr.seq ?_)
   refine Tr.block ?_
   refine Tr.seq (Tr.region ?_)
   refine Rg.q (v := .int .i32 (112)) (Pu.qo (p_assign rfl)) (by decide) (Rg.nl (nT ?_))
   obtain ⟨x18, hx19, H1⟩ := bd.of H1
   obtain ⟨n20, hx19⟩ := lp.of hx19
   refine tMidNC (ι := Option Addr × Nat) (fun ψ => [(0, .slice x_v0.1 v0.length x_v0.2), (2, .pointer (some ⟨g2, 0, none⟩)), (3, .slice ψ.1 x18.length ψ.2), (4, .int .i32 (Q9.2))]) (fun ψ => [box g2 26 [.slice none 0 0, .slice none 0 0], tree (.slice ψ.1 x18.length ψ.2) x18]) ?_ ?_
   ·refine Tr.block ?_
    refine tLoopC (ι := { q : Nat × ((List Post) × Int) × (Option Addr × Nat) // itr (p_spec_l11Of_b1 v0 Q9) q.1 q.2.1 = some x18 }) (fun ζ => [(0, .slice x_v0.1 v0.length x_v0.2), (2, .pointer (some ⟨g2, 0, none⟩)), (3, .slice ζ.1.2.2.1 ζ.1.2.1.1.length ζ.1.2.2.2), (4, .int .i32 (Q9.2)), (5, .int .i32 (ζ.1.2.1.2))]) (fun ζ => [box g2 26 [.slice none 0 0, .slice none 0 0], tree (.slice ζ.1.2.2.1 ζ.1.2.1.1.length ζ.1.2.2.2) ζ.1.2.1.1]) (fun ζ => ζ.1.1) ⟨(n20, (Q9.1, 112), (z10.1, z10.2)), hx19⟩ ⟨rfl, rfl, rfl, rfl, rfl, trivial⟩ (.cons Del.here (.cons Del.here .nil)) ?_
    rintro ⟨⟨m21, Q22, z23⟩, hk28⟩
    obtain ⟨m29, t25, e, H2, hi26, hb27⟩ := itr.of (n := m21) (s := Q22) hk28
    subst e; unfold p_spec_l11Of_b1 at H2
    show Tr _ _ _ _ _ [(0, .slice x_v0.1 v0.length x_v0.2), (2, .pointer (some ⟨g2, 0, none⟩)), (3, .slice z23.1 Q22.1.length z23.2), (4, .int .i32 (Q9.2)), (5, .int .i32 (Q22.2))] _ [box g2 26 [.slice none 0 0, .slice none 0 0], tree (.slice z23.1 Q22.1.length z23.2) Q22.1]
    refine Tr.seq (Tr.seq (Tr.region ?_))
    refine Rg.q (v := .int .i32 (Q22.2)) (Pu.qo (p_move rfl)) (by decide) ?_
    refine Rg.q (v := .bool (decide (Q22.2 ≤ 122))) (Pu.qo (p_leq rfl rfl)) (by decide) (Rg.nl (nT ?_))
    refine Tr.cond (b := decide (Q22.2 ≤ 122)) rfl (fun h30 => ?_) (fun h30 => ?_)
    ·have H2 := cdT h30 H2
     refine tSkip ?_
     refine nT (Tr.seq ?_)
     refine Tr.block ?_
     refine Tr.seq (Tr.region ?_)
     refine Rg.q (v := .int .i32 (Q9.2)) (Pu.qo (p_move rfl)) (by decide) ?_
     obtain ⟨h31, H2⟩ := gd.of H2
     refine Rg.q (v := .string (s1 Q9.2)) (Pu.qo (p_r2s Try.underlying21 Try.underlying9 rfl h31)) (by decide) ?_
     refine Rg.q (v := .int .i32 (Q22.2)) (Pu.qo (p_move rfl)) (by decide) ?_
     obtain ⟨h32, H2⟩ := gd.of H2
     refine Rg.q (v := .string (s1 Q22.2)) (Pu.qo (p_r2s Try.underlying21 Try.underlying9 rfl h32)) (by decide) ?_
     refine Rg.q (v := .agg #[.string (s1 Q9.2), .string (s1 Q22.2)]) (Pu.qo (p_buildS (vs := [(0, .string (s1 Q9.2)), (1, .string (s1 Q22.2))]) (cs := #[.string (s1 Q9.2), .string (s1 Q22.2)]) ty30 pl30 rfl rfl)) (by decide) ?_
     refine Rg.ed (e_alloc ty30) rfl (by decide) ?_
     rintro _ _ _ ⟨g33, rfl, rfl, rfl⟩
     refine Rg.en (e_store (v := .agg #[.string (s1 Q9.2), .string (s1 Q22.2)]) (cs' := [.string (s1 Q9.2), .string (s1 Q22.2)]) ty30 rfl rfl Upd.here rfl (by simp [Value.cells, Value.oneCell']) (Nat.le_of_ble_eq_true rfl) rfl) rfl ?_
     rintro _ _ _ ⟨rfl, rfl, rfl⟩
     refine Rg.nl (nT ?_)
     refine Tr.seq (Tr.region ?_)
     refine Rg.q (v := .slice x_v0.1 v0.length x_v0.2) (Pu.qo (p_move rfl)) (by decide) ?_
     refine Rg.q (v := .agg #[.string (s1 Q9.2), .string (s1 Q22.2)]) (q_ldbA ty30 rfl Has.here rfl) (by decide) ?_
     obtain ⟨r34, h35, H2⟩ := bd.of H2
     refine Rg.ed (e_callB (vs := [.slice x_v0.1 v0.length x_v0.2, .agg #[.string (s1 Q9.2), .string (s1 Q22.2)]]) (c_spec_l11Ids v0 x_v0 ((s1 Q9.2), (s1 Q22.2)) h35) (fun _ => (Solo.tree Solo.nil)) rfl (EntsB.cons (Ent.b (Ent.dimm Ent.z)) EntsB.nil)) rfl (by decide) ?_
     rintro _ _ _ ⟨x36, rfl, rfl, rfl⟩
     refine Rg.q (v := .slice x36.1 r34.length x36.2) (Pu.qo (p_assign rfl)) (by decide) (Rg.nl (nT ?_))
     refine Tr.seq (Tr.region ?_)
     refine Rg.q (v := .slice x36.1 r34.length x36.2) (Pu.qo (p_move rfl)) (by decide) ?_
     refine Rg.q (v := .int .i64 ((r34.length : Int))) (Pu.qo (p_len 3 Try.underlying31 rfl)) (by decide) ?_
     refine Rg.q (v := .bool (decide (0 < (r34.length : Int)))) (Pu.qo (p_gtr rfl rfl)) (by decide) (Rg.nl (nT ?_))
     refine Tr.cond (b := decide (0 < (r34.length : Int))) rfl (fun h37 => ?_) (fun h37 => ?_)
     ·have H2 := cdT h37 H2
      refine Tr.region ?_
      refine Rg.q (v := .slice z23.1 Q22.1.length z23.2) (Pu.qo (p_move rfl)) (by decide) ?_
      refine Rg.q (v := .agg #[.string (s1 Q9.2), .string (s1 Q22.2)]) (q_ldbA ty30 rfl Has.here.there rfl) (by decide) ?_
      refine Rg.q (v := .slice x36.1 r34.length x36.2) (Pu.qo (p_move rfl)) (by decide) ?_
      refine Rg.q (v := .agg #[.string (s1 Q9.2), .string (s1 Q22.2), .slice x36.1 r34.length x36.2]) (Pu.qo (p_buildS (vs := [(0, .agg #[.string (s1 Q9.2), .string (s1 Q22.2)]), (1, .slice x36.1 r34.length x36.2)]) (cs := #[.string (s1 Q9.2), .string (s1 Q22.2), .slice x36.1 r34.length x36.2]) ty33 pl33 rfl rfl)) (by decide) ?_
      refine Rg.ed (e_lit (vs := [(0, .agg #[.string (s1 Q9.2), .string (s1 Q22.2), .slice x36.1 r34.length x36.2])]) [.string (s1 Q9.2), .string (s1 Q22.2), .slice x36.1 r34.length x36.2] Try.underlying24 ty33 rfl (by decide) (by decide) (by kernel_rfl)) rfl (by decide) ?_
      rintro _ _ _ ⟨g38, rfl, rfl, rfl⟩
      obtain ⟨h41, H2⟩ := gd.of H2
      refine Rg.ed (e_app1 (l := Q22.1) (α := Post) (((s1 Q9.2), (s1 Q22.2)), r34) (((), ()), x36) Try.underlying24 ty33 rfl rfl (h41.b (by decide)) h41.x rfl (ShpT.wfa _) (.cons Del.here.there.there.there.there (.cons Del.here (.cons Del.here .nil)))) rfl (by decide) ?_
      rintro _ _ _ ⟨a39, c40, rfl, rfl, rfl⟩
      refine Rg.q (v := .slice a39 ((Q22.1 ++ [(((s1 Q9.2), (s1 Q22.2)), r34)]).length) c40) (Pu.qo (p_assign rfl)) (by decide) (Rg.nl ?_)
      refine nB (nT (?_))
      refine Tr.region ?_
      refine Rg.q (v := .int .i32 (Q22.2)) (Pu.qo (p_move rfl)) (by decide) ?_
      obtain ⟨h42, H2⟩ := gd.of H2
      refine Rg.q (v := .int .i32 (Q22.2 + 1)) (Pu.qo (p_add32 rfl rfl h42)) (by decide) ?_
      refine Rg.q (v := .int .i32 (Q22.2 + 1)) (Pu.qo (p_assign rfl)) (by decide) (Rg.nl ?_)
      exact nLC ⟨(m29, ((Q22.1 ++ [(((s1 Q9.2), (s1 Q22.2)), r34)]), Q22.2 + 1), (a39, c40)), hi26 _ (Option.some.inj H2).symm⟩ (Nat.lt_succ_self _) ⟨rfl, rfl, rfl, rfl, rfl, trivial⟩ Ents.refl (.cons Del.here.there.there (.cons Del.here .nil))
     ·have H2 := cdF h37 H2
      refine tSkip ?_
      refine nB (nT (?_))
      refine Tr.region ?_
      refine Rg.q (v := .int .i32 (Q22.2)) (Pu.qo (p_move rfl)) (by decide) ?_
      obtain ⟨h43, H2⟩ := gd.of H2
      refine Rg.q (v := .int .i32 (Q22.2 + 1)) (Pu.qo (p_add32 rfl rfl h43)) (by decide) ?_
      refine Rg.q (v := .int .i32 (Q22.2 + 1)) (Pu.qo (p_assign rfl)) (by decide) (Rg.nl ?_)
      exact nLC ⟨(m29, (Q22.1, Q22.2 + 1), (z23.1, z23.2)), hi26 _ (Option.some.inj H2).symm⟩ (Nat.lt_succ_self _) ⟨rfl, rfl, rfl, rfl, rfl, trivial⟩ Ents.refl (.cons Del.here.there.there (.cons Del.here.there.there .nil))
    ·have H2 := cdF h30 H2
     refine tExit (xT (xT (xE (?_))))
     have hx := hb27 _ (Option.some.inj H2).symm; subst hx
     exact nMC (z23.1, z23.2) ⟨rfl, rfl, rfl, rfl, trivial⟩ Ents.refl (.cons Del.here (.cons Del.here .nil))
   ·intro y24
    show At _ _ [(0, .slice x_v0.1 v0.length x_v0.2), (2, .pointer (some ⟨g2, 0, none⟩)), (3, .slice y24.1 x18.length y24.2), (4, .int .i32 (Q9.2))] _ [box g2 26 [.slice none 0 0, .slice none 0 0], tree (.slice y24.1 x18.length y24.2) x18] _
    refine nB (nT (?_))
    refine Tr.region ?_
    refine Rg.q (v := .int .i32 (Q9.2)) (Pu.qo (p_move rfl)) (by decide) ?_
    obtain ⟨h44, H1⟩ := gd.of H1
    refine Rg.q (v := .int .i32 (Q9.2 + 1)) (Pu.qo (p_add32 rfl rfl h44)) (by decide) ?_
    refine Rg.q (v := .int .i32 (Q9.2 + 1)) (Pu.qo (p_assign rfl)) (by decide) (Rg.nl ?_)
    exact nLC ⟨(m16, (x18, Q9.2 + 1), (y24.1, y24.2)), hi13 _ (Option.some.inj H1).symm⟩ (Nat.lt_succ_self _) ⟨rfl, rfl, rfl, rfl, trivial⟩ Ents.refl (.cons Del.here (.cons Del.here .nil))
  ·have H1 := cdF h17 H1
   refine tExit (xT (xT (xE (?_))))
   have hx := hb14 _ (Option.some.inj H1).symm; subst hx
   exact nMC (z10.1, z10.2) ⟨rfl, rfl, rfl, trivial⟩ Ents.refl (.cons Del.here (.cons Del.here .nil))
 ·intro y11
  show At _ _ [(0, .slice x_v0.1 v0.length x_v0.2), (2, .pointer (some ⟨g2, 0, none⟩)), (3, .slice y11.1 x5.length y11.2)] _ [box g2 26 [.slice none 0 0, .slice none 0 0], tree (.slice y11.1 x5.length y11.2) x5] _
  refine nT (?_)
  refine Tr.seq (Tr.region ?_)
  refine Rg.q (v := .slice x_v0.1 v0.length x_v0.2) (Pu.qo (p_move rfl)) (by decide) ?_
  obtain ⟨r45, h46, H⟩ := bd.of H
  refine Rg.ed (e_callB (vs := [.slice x_v0.1 v0.length x_v0.2]) (c_spec_l11Names v0 x_v0 h46) (fun _ => (Solo.tree Solo.nil)) rfl (EntsB.cons (Ent.b (Ent.dimm Ent.z)) EntsB.nil)) rfl (by decide) ?_
  rintro _ _ _ ⟨x47, rfl, rfl, rfl⟩
  refine Rg.q (v := .slice y11.1 x5.length y11.2) (Pu.qo (p_move rfl)) (by decide) ?_
  refine Rg.q (v := .agg #[.slice x47.1 r45.length x47.2, .slice y11.1 x5.length y11.2]) (Pu.qo (p_buildS (vs := [(0, .slice x47.1 r45.length x47.2), (1, .slice y11.1 x5.length y11.2)]) (cs := #[.slice x47.1 r45.length x47.2, .slice y11.1 x5.length y11.2]) ty26 pl26 rfl rfl)) (by decide) ?_
  refine Rg.en (e_store (v := .agg #[.slice x47.1 r45.length x47.2, .slice y11.1 x5.length y11.2]) (cs' := [.slice x47.1 r45.length x47.2, .slice y11.1 x5.length y11.2]) ty26 rfl rfl Upd.here.there rfl (by simp [Value.cells, Value.oneCell']) (Nat.le_of_ble_eq_true rfl) rfl) rfl ?_
  rintro _ _ _ ⟨rfl, rfl, rfl⟩
  refine Rg.nl (nT ?_)
  refine tRet ?_
  have hr := Option.some.inj H; subst hr
  exact back1 (x47, y11) rfl (ResV.agg ty26 rfl Has.here.there rfl) rfl Ents.nil (.cons Del.here (.cons Del.here.there .nil))
noncomputable def p_spec_l11Add (v0 : Index) (v1 : (List Tag)) : Option (Index × Int × Bool) := bd (p_spec_l11At v0 v1) fun r3 => cond (decide (0 < r3)) (some (v0, r3, true)) (bd (bd (p_spec_NameOk v1) fun r8 => cond (!r8) (some (true)) (some (decide (6 ≤ (v0.1.length : Int))))) fun b6 => cond (b6) (some (v0, 0, false)) (bd (p_spec_l11Names v0.1) fun r12 => gd (room (([] : List Tag).length + v1.length)) <| gd (room (r12.length + 1)) <| bd (p_spec_l11Of (r12 ++ [([] : List Tag) ++ v1])) fun r24 => some (r24, (r24.1.length : Int), true)))
theorem c_spec_l11Add {r : Index × Int × Bool} (v0 : Index) (x_v0 : (Option Addr × Nat) × (Option Addr × Nat)) (v1 : (List Tag)) (x_v1 : Option Addr × Nat) (H : p_spec_l11Add v0 v1 = some r) : Fn' Try.prog 76 #[.agg #[.slice x_v0.1.1 v0.1.length x_v0.1.2, .slice x_v0.2.1 v0.2.length x_v0.2.2], .slice x_v1.1 v1.length x_v1.2] [imm (.slice x_v1.1 v1.length x_v1.2) v1] [tree (.slice x_v0.1.1 v0.1.length x_v0.1.2) v0.1, tree (.slice x_v0.2.1 v0.2.length x_v0.2.2) v0.2] (ι := ((Option Addr × Nat) × (Option Addr × Nat)) × Unit × Unit) (fun x => .tuple #[.agg #[.slice x.1.1.1 r.1.1.length x.1.1.2, .slice x.1.2.1 r.1.2.length x.1.2.2], .int .i64 (r.2.1), .bool (r.2.2)]) (fun _ => []) (fun x => [tree (.slice x.1.1.1 r.1.1.length x.1.1.2) r.1.1, tree (.slice x.1.2.1 r.1.2.length x.1.2.2) r.1.2]) := by
 refine calls_of (args := [_, _]) Try.func76 rfl (by kernel_rfl) Try.ntmps76 (by simp) fun c => ?_
 unfold p_spec_l11Add at H
 refine Tr.seq (Tr.region ?_)
 refine Rg.ed (e_box (t := 26) (v := .agg #[.slice x_v0.1.1 v0.1.length x_v0.1.2, .slice x_v0.2.1 v0.2.length x_v0.2.2]) rfl) rfl (by decide) ?_
 rintro _ _ _ ⟨g1, rfl, rfl, rfl⟩
 refine Rg.ed (e_alloc ty26) rfl (by decide) ?_
 rintro _ _ _ ⟨g2, rfl, rfl, rfl⟩
 refine Rg.q (v := .int .i64 (0)) (Pu.qo (p_assign rfl)) (by decide) ?_
 refine Rg.q (v := .bool (false)) (Pu.qo (p_assign rfl)) (by decide) (Rg.nl (nT ?_))
 refine Tr.seq (Tr.region ?_)
 refine Rg.q (v := .agg #[.slice x_v0.1.1 v0.1.length x_v0.1.2, .slice x_v0.2.1 v0.2.length x_v0.2.2]) (q_ldbA ty26 rfl Has.here.there rfl) (by decide) ?_
 refine Rg.q (v := .slice x_v1.1 v1.length x_v1.2) (Pu.qo (p_move rfl)) (by decide) ?_
 obtain ⟨r3, h4, H⟩ := bd.of H
 refine Rg.q (v := .int .i64 (r3)) (q_call (vs := [.agg #[.slice x_v0.1.1 v0.1.length x_v0.1.2, .slice x_v0.2.1 v0.2.length x_v0.2.2], .slice x_v1.1 v1.length x_v1.2]) (c_spec_l11At v0 x_v0 v1 x_v1 h4) rfl (EntsB.cons (EntB.tree Has.here.there.there) (EntsB.cons (EntB.tree Has.here.there.there.there) (EntsB.cons (Ent.b Ent.z) EntsB.nil)))) (by decide) ?_
 refine Rg.q (v := .int .i64 (r3)) (Pu.qo (p_assign rfl)) (by decide) (Rg.nl (nT ?_))
 refine Tr.seq (Tr.seq (Tr.region ?_))
 refine Rg.q (v := .int .i64 (r3)) (Pu.qo (p_move rfl)) (by decide) ?_
 refine Rg.q (v := .bool (decide (0 < r3))) (Pu.qo (p_gtr rfl rfl)) (by decide) (Rg.nl (nT ?_))
 refine Tr.cond (b := decide (0 < r3)) rfl (fun h5 => ?_) (fun h5 => ?_)
 ·have H := cdT h5 H
  refine Tr.seq (Tr.region ?_)
  refine Rg.q (v := .agg #[.slice x_v0.1.1 v0.1.length x_v0.1.2, .slice x_v0.2.1 v0.2.length x_v0.2.2]) (q_ldbA ty26 rfl Has.here.there rfl) (by decide) ?_
  refine Rg.q (v := .int .i64 (r3)) (Pu.qo (p_move rfl)) (by decide) ?_
  refine Rg.en (e_store (v := .agg #[.slice x_v0.1.1 v0.1.length x_v0.1.2, .slice x_v0.2.1 v0.2.length x_v0.2.2]) (cs' := [.slice x_v0.1.1 v0.1.length x_v0.1.2, .slice x_v0.2.1 v0.2.length x_v0.2.2]) ty26 rfl rfl Upd.here rfl (by simp [Value.cells, Value.oneCell']) (Nat.le_of_ble_eq_true rfl) rfl) rfl ?_
  rintro _ _ _ ⟨rfl, rfl, rfl⟩
  refine Rg.q (v := .int .i64 (r3)) (Pu.qo (p_assign rfl)) (by decide) ?_
  refine Rg.q (v := .bool (true)) (Pu.qo (p_assign rfl)) (by decide) (Rg.nl (nT ?_))
  refine tRet ?_
  refine rT (?_)
  have hr := Option.some.inj H; subst hr
  exact back3 (x_v0, (), ()) rfl (ResV.agg ty26 rfl Has.here rfl) (ResV.tmp (v := .int .i64 (r3)) rfl) (ResV.tmp (v := .bool (true)) rfl) rfl Ents.nil (.cons Del.here.there.there (.cons Del.here.there.there .nil))
 ·have H := cdF h5 H
  refine tSkip ?_
  refine nT (Tr.seq ?_)
  obtain ⟨b6, j7, H⟩ := bd.of H
  refine tMid1 [(24, .bool (b6)), (4, .pointer (some ⟨g2, 0, none⟩)), (2, .pointer (some ⟨g1, 0, none⟩)), (1, .slice x_v1.1 v1.length x_v1.2)] ?_ ?_
  ·refine tLinT [(4, .pointer (some ⟨g2, 0, none⟩)), (2, .pointer (some ⟨g1, 0, none⟩)), (1, .slice x_v1.1 v1.length x_v1.2)] ⟨rfl, rfl, rfl, trivial⟩ ?_
   refine Lin.q (v := .slice x_v1.1 v1.length x_v1.2) (by decide) (Pu.qo (p_move rfl)) ?_
   obtain ⟨r8, h9, j7⟩ := bd.of j7
   refine Lin.q (v := .bool (r8)) (by decide) (q_call (vs := [.slice x_v1.1 v1.length x_v1.2]) (c_spec_NameOk v1 x_v1 h9) rfl (EntsB.cons (Ent.b Ent.z) EntsB.nil)) ?_
   refine Lin.q (v := .bool (!r8)) (by decide) (Pu.qo (p_not rfl)) ?_
   rcases Bool.eq_false_or_eq_true (!r8) with h10 | h10
   ·have j7 := cdT h10 j7
    refine Lin.q (v := .bool (true)) (by decide) (Qo.eqv (v := .bool (!r8)) (Pu.qo (p_move rfl)) (congrArg Value.bool h10)) ?_
    refine Lin.skip (by decide) rfl ?_
    refine Lin.skip (by decide) rfl ?_
    refine Lin.skip (by decide) rfl ?_
    refine Lin.skip (by decide) rfl ?_
    refine Lin.q (v := .bool (true)) (by decide) (Pu.qo (p_pickT rfl rfl)) ?_
    have j7 := Option.some.inj j7; subst j7
    show At _ _ _ _ _ _
    exact n1 ⟨rfl, rfl, rfl, rfl, trivial⟩
   ·have j7 := cdF h10 j7
    refine Lin.q (v := .bool (false)) (by decide) (Qo.eqv (v := .bool (!r8)) (Pu.qo (p_move rfl)) (congrArg Value.bool h10)) ?_
    refine Lin.g (v := .pointer (some ⟨g1, 0, none⟩)) (by decide) rfl (Pu.qo (p_fabE fa26_0 rfl rfl)) ?_
    refine Lin.g (v := .slice x_v0.1.1 v0.1.length x_v0.1.2) (by decide) rfl (q_ldb ty23 rfl Has.here.there rfl) ?_
    refine Lin.g (v := .int .i64 ((v0.1.length : Int))) (by decide) rfl (Pu.qo (p_len 38 Try.underlying23 rfl)) ?_
    refine Lin.g (v := .bool (decide (6 ≤ (v0.1.length : Int)))) (by decide) rfl (Pu.qo (p_geq rfl rfl)) ?_
    refine Lin.q (v := .bool (decide (6 ≤ (v0.1.length : Int)))) (by decide) (Pu.qo (p_pickF rfl rfl)) ?_
    have j7 := Option.some.inj j7; subst j7
    show At _ _ _ _ _ _
    exact n1 ⟨rfl, rfl, rfl, rfl, trivial⟩
  refine Tr.cond (b := b6) rfl (fun h11 => ?_) (fun h11 => ?_)
  ·have H := cdT h11 H
   refine Tr.seq (Tr.region ?_)
   refine Rg.q (v := .agg #[.slice x_v0.1.1 v0.1.length x_v0.1.2, .slice x_v0.2.1 v0.2.length x_v0.2.2]) (q_ldbA ty26 rfl Has.here.there rfl) (by decide) ?_
   refine Rg.en (e_store (v := .agg #[.slice x_v0.1.1 v0.1.length x_v0.1.2, .slice x_v0.2.1 v0.2.length x_v0.2.2]) (cs' := [.slice x_v0.1.1 v0.1.length x_v0.1.2, .slice x_v0.2.1 v0.2.length x_v0.2.2]) ty26 rfl rfl Upd.here rfl (by simp [Value.cells, Value.oneCell']) (Nat.le_of_ble_eq_true rfl) rfl) rfl ?_
   rintro _ _ _ ⟨rfl, rfl, rfl⟩
   refine Rg.q (v := .int .i64 (0)) (Pu.qo (p_assign rfl)) (by decide) ?_
   refine Rg.q (v := .bool (false)) (Pu.qo (p_assign rfl)) (by decide) (Rg.nl (nT ?_))
   refine tRet ?_
   refine rT (?_)
   have hr := Option.some.inj H; subst hr
   exact back3 (x_v0, (), ()) rfl (ResV.agg ty26 rfl Has.here rfl) (ResV.tmp (v := .int .i64 (0)) rfl) (ResV.tmp (v := .bool (false)) rfl) rfl Ents.nil (.cons Del.here.there.there (.cons Del.here.there.there .nil))
  ·have H := cdF h11 H
   refine tSkip ?_
   refine nT (?_)
   refine Tr.seq (Tr.region ?_)
   refine Rg.q (v := .pointer (some ⟨g1, 0, none⟩)) (Pu.qo (p_fabE fa26_0 rfl rfl)) (by decide) ?_
   refine Rg.q (v := .slice x_v0.1.1 v0.1.length x_v0.1.2) (q_ldb ty23 rfl Has.here.there rfl) (by decide) ?_
   obtain ⟨r12, h13, H⟩ := bd.of H
   refine Rg.ed (e_callB (vs := [.slice x_v0.1.1 v0.1.length x_v0.1.2]) (c_spec_l11Names v0.1 x_v0.1 h13) (fun _ => (Solo.tree Solo.nil)) rfl (EntsB.cons (EntB.tree Has.here.there.there) EntsB.nil)) rfl (by decide) ?_
   rintro _ _ _ ⟨x14, rfl, rfl, rfl⟩
   refine Rg.ed (e_lit0 Tag Try.underlying38 ty30) rfl (by decide) ?_
   rintro _ _ _ ⟨a15, c16, rfl, rfl, rfl⟩
   refine Rg.q (v := .slice x_v1.1 v1.length x_v1.2) (Pu.qo (p_move rfl)) (by decide) ?_
   obtain ⟨h19, H⟩ := gd.of H
   refine Rg.ed (e_appF (l := ([] : List Tag)) (k := v1) (α := Tag) Try.underlying38 ty30 rfl rfl (h19.b (by decide)) h19.x (.cons Del.here .nil) (Ent.b Ent.z)) rfl (by decide) ?_
   rintro _ _ _ ⟨a17, c18, rfl, rfl, rfl⟩
   refine Rg.ed (e_lit (vs := [(0, .slice a17 ((([] : List Tag) ++ v1).length) c18)]) [.slice a17 ((([] : List Tag) ++ v1).length) c18] Try.underlying23 ty38 rfl (by decide) (by decide) (by kernel_rfl)) rfl (by decide) ?_
   rintro _ _ _ ⟨g20, rfl, rfl, rfl⟩
   obtain ⟨h23, H⟩ := gd.of H
   refine Rg.ed (e_app1 (l := r12) (α := (List Tag)) (([] : List Tag) ++ v1) (a17, c18) Try.underlying23 ty38 rfl rfl (h23.b (by decide)) h23.x rfl (ShpT.wfa _) (.cons Del.here.there.there (.cons Del.here (.cons Del.here .nil)))) rfl (by decide) ?_
   rintro _ _ _ ⟨a21, c22, rfl, rfl, rfl⟩
   obtain ⟨r24, h25, H⟩ := bd.of H
   refine Rg.ed (e_callB (vs := [.slice a21 ((r12 ++ [([] : List Tag) ++ v1]).length) c22]) (c_spec_l11Of (r12 ++ [([] : List Tag) ++ v1]) (a21, c22) h25) (fun _ => (Solo.tree (Solo.tree Solo.nil))) rfl (EntsB.cons (EntB.tree Has.here) EntsB.nil)) rfl (by decide) ?_
   rintro _ _ _ ⟨x26, rfl, rfl, rfl⟩
   refine Rg.ed (e_alloc ty26) rfl (by decide) ?_
   rintro _ _ _ ⟨g27, rfl, rfl, rfl⟩
   refine Rg.en (e_store (v := .agg #[.slice x26.1.1 r24.1.length x26.1.2, .slice x26.2.1 r24.2.length x26.2.2]) (cs' := [.slice x26.1.1 r24.1.length x26.1.2, .slice x26.2.1 r24.2.length x26.2.2]) ty26 rfl rfl Upd.here rfl (by simp [Value.cells, Value.oneCell']) (Nat.le_of_ble_eq_true rfl) rfl) rfl ?_
   rintro _ _ _ ⟨rfl, rfl, rfl⟩
   refine Rg.nl (nT ?_)
   refine Tr.seq ?_
   refine tNwS [(8, .pointer (some ⟨g27, 0, none⟩)), (4, .pointer (some ⟨g2, 0, none⟩))] 1 [0, 1, 2, 3, 4, 5, 6] [4] [] Try.mixed (by kernel_rfl) (by decide) List.nodup_nil ⟨rfl, rfl, trivial⟩ rfl okNil ?_
   refine w_q (v := .agg #[.slice x26.1.1 r24.1.length x26.1.2, .slice x26.2.1 r24.2.length x26.2.2]) rfl (by decide) rfl rfl rfl (fun F => (q_ldbA ty26 rfl (Has.here.app F) rfl)) ?_
   refine w_pu (v := .pointer (some ⟨g27, 0, none⟩)) rfl (by decide) rfl rfl rfl (p_fabE fa26_0 rfl rfl) ?_
   refine w_q (v := .slice x26.1.1 r24.1.length x26.1.2) rfl (by decide) rfl rfl rfl (fun F => (q_ldb ty23 rfl (Has.here.app F) rfl)) ?_
   refine w_pu (v := .int .i64 ((r24.1.length : Int))) rfl (by decide) rfl rfl rfl (p_len 38 Try.underlying23 rfl) ?_
   refine w_en rfl rfl Rdy.nil rfl (n_store (v := .agg #[.slice x26.1.1 r24.1.length x26.1.2, .slice x26.2.1 r24.2.length x26.2.2]) (cs' := [.slice x26.1.1 r24.1.length x26.1.2, .slice x26.2.1 r24.2.length x26.2.2]) ty26 rfl rfl Upd.here.there.there.there.there rfl (by simp [Value.cells, Value.oneCell']) (Nat.le_of_ble_eq_true rfl) rfl) ?_
   rintro _ _ _ ⟨rfl, rfl, rfl⟩
   refine ⟨(PdOk.q rfl rfl (fun F => (q_ldb ty23 rfl (Has.here.app F) rfl)) (PdOk.anc (by kernel_rfl) PdOk.nil)), ?_⟩
   refine w_pu (v := .int .i64 ((r24.1.length : Int))) rfl (by decide) rfl rfl rfl (p_assign rfl) ?_
   refine w_pu (v := .bool (true)) rfl (by decide) rfl rfl rfl (p_assign rfl) ?_
   refine w_nil ?_
   show At _ _ _ _ _ _
   refine nT (?_)
   refine tRet ?_
   have hr := Option.some.inj H; subst hr
   exact back3 (x26, (), ()) rfl (ResV.agg ty26 rfl Has.here.there.there.there.there rfl) (ResV.tmp (v := .int .i64 ((r24.1.length : Int))) rfl) (ResV.tmp (v := .bool (true)) rfl) rfl Ents.nil (.cons Del.here.there (.cons Del.here.there .nil))
noncomputable def p_spec_l71Index_b0 (v0 : L6Rd) (Q13 : Int × (List (List Tag)) × (List Post) × Int) : Option ((Int × (List (List Tag)) × (List Post) × Int) ⊕ (Int × (List (List Tag)) × (List Post))) := cond (decide (0 < Q13.2.2.2)) (bd (p_spec_l71Name (v0.1, Q13.1)) fun r22 => bd (p_spec_l11Add (Q13.2.1, Q13.2.2.1) r22.1) fun r25 => gd (I64 (Q13.2.2.2 - 1)) <| some (.inl (r22.2, r25.1.1, r25.1.2, Q13.2.2.2 - 1))) (some (.inr (Q13.1, Q13.2.1, Q13.2.2.1)))
noncomputable def p_spec_l71Index (v0 : L6Rd) : Option (Index × Int) := bd (p_spec_l11New) fun r2 => bd (p_spec_l6Rd_pick v0 9) fun r6 => bd (lp (p_spec_l71Index_b0 v0) (r6.2, r2.1, r2.2, r6.1)) fun x9 => bd (p_spec_l6Rd_pick (v0.1, x9.1) 24) fun r29 => cond (decide (r29.1 = 0)) (bd (p_spec_l71Name (v0.1, r29.2)) fun r33 => gd (room (x9.2.1.length + 1)) <| some (((x9.2.1 ++ [r33.1]), x9.2.2), r33.2)) (cond (decide (r29.1 = 1)) (cond (decide (0 < (x9.2.2.length : Int))) (bd (p_spec_l6Rd_pick (v0.1, r29.2) (x9.2.2.length : Int)) fun r42 => bd (p_spec_l6Rd_pick (v0.1, r42.2) 3) fun r45 => gd (I64 (1 + r45.1)) <| gd (ix r42.1 x9.2.2.length) <| some ((x9.2.1, (x9.2.2.set r42.1.toNat ((nth x9.2.2 r42.1.toNat).1, ([1 + r45.1] : List Int)))), r45.2)) (some (x9.2, r29.2))) (cond (decide (r29.1 = 2)) (cond (decide (0 < (x9.2.2.length : Int))) (gd (sl2 1 (x9.2.2.length : Int) x9.2.2.length) <| some ((x9.2.1, ((x9.2.2.take (x9.2.2.length : Int).toNat).drop 1)), r29.2)) (some (x9.2, r29.2))) (some (x9.2, r29.2))))
theorem c_spec_l71Index {r : Index × Int} (g_v0 : Nat) (v0 : L6Rd) (x_v0 : (Option Addr × Nat) × Unit) (H : p_spec_l71Index v0 = some r) : Fn' Try.prog 60 #[.pointer (some ⟨g_v0, 0, none⟩)] [imm (.slice x_v0.1.1 v0.1.length x_v0.1.2) v0.1] [box g_v0 134 [.slice x_v0.1.1 v0.1.length x_v0.1.2, .int .i64 (v0.2)]] (ι := (Option Addr × Nat) × (Option Addr × Nat)) (fun x => .agg #[.slice x.1.1 r.1.1.length x.1.2, .slice x.2.1 r.1.2.length x.2.2]) (fun x => [imm (.slice x.1.1 r.1.1.length x.1.2) r.1.1]) (fun x => [orow (.slice x.2.1 r.1.2.length x.2.2) r.1.2, box g_v0 134 [.slice x_v0.1.1 v0.1.length x_v0.1.2, .int .i64 (r.2)]]) := by
 refine calls_of (args := [_]) Try.func60 rfl (by kernel_rfl) Try.ntmps60 (by simp) fun c => ?_
 unfold p_spec_l71Index at H
 refine Tr.seq (Tr.region ?_)
 refine Rg.ed (e_alloc ty26) rfl (by decide) ?_
 rintro _ _ _ ⟨g1, rfl, rfl, rfl⟩
 refine Rg.nl (nT ?_)
 refine Tr.seq (Tr.region ?_)
 obtain ⟨r2, h3, H⟩ := bd.of H
 refine Rg.ed (e_callB (vs := []) (c_spec_l11New h3) (fun _ => (Solo.tree (Solo.tree Solo.nil))) rfl EntsB.nil) rfl (by decide) ?_
 rintro _ _ _ ⟨x4, rfl, rfl, rfl⟩
 refine Rg.ed (e_alloc ty26) rfl (by decide) ?_
 rintro _ _ _ ⟨g5, rfl, rfl, rfl⟩
 refine Rg.en (e_store (v := .agg #[.slice x4.1.1 r2.1.length x4.1.2, .slice x4.2.1 r2.2.length x4.2.2]) (cs' := [.slice x4.1.1 r2.1.length x4.1.2, .slice x4.2.1 r2.2.length x4.2.2]) ty26 rfl rfl Upd.here rfl (by simp [Value.cells, Value.oneCell']) (Nat.le_of_ble_eq_true rfl) rfl) rfl ?_
 rintro _ _ _ ⟨rfl, rfl, rfl⟩
 refine Rg.nl (nT ?_)
 refine Tr.seq (Tr.seq (Tr.region ?_))
 refine Rg.q (v := .pointer (some ⟨g_v0, 0, none⟩)) (Pu.qo (p_move rfl)) (by decide) ?_
 obtain ⟨r6, h7, H⟩ := bd.of H
 refine Rg.ed (e_callM (vs := [.pointer (some ⟨g_v0, 0, none⟩), .int .i64 (9)]) (c_spec_l6Rd_pick g_v0 v0 (x_v0.1, ()) 9 h7) (Solo.box Solo.nil) (fun _ => (Solo.box Solo.nil)) rfl (.cons Del.here.there.there.there.there .nil) (EntsB.cons (Ent.b Ent.z) EntsB.nil)) rfl (by decide) ?_
 rintro _ _ _ ⟨u8, rfl, rfl, rfl⟩
 refine Rg.q (v := .int .i64 (r6.1)) (Pu.qo (p_assign rfl)) (by decide) (Rg.nl (nT ?_))
 obtain ⟨x9, hx10, H⟩ := bd.of H
 obtain ⟨n11, hx10⟩ := lp.of hx10
 refine tMidNC (ι := (Option Addr × Nat) × (Option Addr × Nat)) (fun ψ => [(0, .pointer (some ⟨g_v0, 0, none⟩)), (2, .pointer (some ⟨g1, 0, none⟩)), (3, .pointer (some ⟨g5, 0, none⟩))]) (fun ψ => [box g_v0 134 [.slice x_v0.1.1 v0.1.length x_v0.1.2, .int .i64 (x9.1)], box g1 26 [.slice none 0 0, .slice none 0 0], tree (.slice ψ.1.1 x9.2.1.length ψ.1.2) x9.2.1, tree (.slice ψ.2.1 x9.2.2.length ψ.2.2) x9.2.2, box g5 26 [.slice ψ.1.1 x9.2.1.length ψ.1.2, .slice ψ.2.1 x9.2.2.length ψ.2.2]]) ?_ ?_
 ·refine Tr.block ?_
  refine tLoopC (ι := { q : Nat × (Int × (List (List Tag)) × (List Post) × Int) × ((Option Addr × Nat) × (Option Addr × Nat)) // itr (p_spec_l71Index_b0 v0) q.1 q.2.1 = some x9 }) (fun ζ => [(0, .pointer (some ⟨g_v0, 0, none⟩)), (2, .pointer (some ⟨g1, 0, none⟩)), (3, .pointer (some ⟨g5, 0, none⟩)), (4, .int .i64 (ζ.1.2.1.2.2.2))]) (fun ζ => [box g_v0 134 [.slice x_v0.1.1 v0.1.length x_v0.1.2, .int .i64 (ζ.1.2.1.1)], box g1 26 [.slice none 0 0, .slice none 0 0], tree (.slice ζ.1.2.2.1.1 ζ.1.2.1.2.1.length ζ.1.2.2.1.2) ζ.1.2.1.2.1, tree (.slice ζ.1.2.2.2.1 ζ.1.2.1.2.2.1.length ζ.1.2.2.2.2) ζ.1.2.1.2.2.1, box g5 26 [.slice ζ.1.2.2.1.1 ζ.1.2.1.2.1.length ζ.1.2.2.1.2, .slice ζ.1.2.2.2.1 ζ.1.2.1.2.2.1.length ζ.1.2.2.2.2]]) (fun ζ => ζ.1.1) ⟨(n11, (r6.2, r2.1, r2.2, r6.1), ((x4.1.1, x4.1.2), (x4.2.1, x4.2.2))), hx10⟩ ⟨rfl, rfl, rfl, rfl, trivial⟩ (.cons Del.here (.cons Del.here.there.there.there (.cons Del.here.there (.cons Del.here.there (.cons Del.here .nil))))) ?_
  rintro ⟨⟨m12, Q13, z14⟩, hk19⟩
  obtain ⟨m20, t16, e, H1, hi17, hb18⟩ := itr.of (n := m12) (s := Q13) hk19
  subst e; unfold p_spec_l71Index_b0 at H1
  show Tr _ _ _ _ _ [(0, .pointer (some ⟨g_v0, 0, none⟩)), (2, .pointer (some ⟨g1, 0, none⟩)), (3, .pointer (some ⟨g5, 0, none⟩)), (4, .int .i64 (Q13.2.2.2))] _ [box g_v0 134 [.slice x_v0.1.1 v0.1.length x_v0.1.2, .int .i64 (Q13.1)], box g1 26 [.slice none 0 0, .slice none 0 0], tree (.slice z14.1.1 Q13.2.1.length z14.1.2) Q13.2.1, tree (.slice z14.2.1 Q13.2.2.1.length z14.2.2) Q13.2.2.1, box g5 26 [.slice z14.1.1 Q13.2.1.length z14.1.2, .slice z14.2.1 Q13.2.2.1.length z14.2.2]]
  refine Tr.seq (Tr.seq (Tr.region ?_))
  refine Rg.q (v := .int .i64 (Q13.2.2.2)) (Pu.qo (p_move rfl)) (by decide) ?_
  refine Rg.q (v := .bool (decide (0 < Q13.2.2.2))) (Pu.qo (p_gtr rfl rfl)) (by decide) (Rg.nl (nT ?_))
  refine Tr.cond (b := decide (0 < Q13.2.2.2)) rfl (fun h21 => ?_) (fun h21 => ?_)
  ·have H1 := cdT h21 H1
   refine tSkip ?_
   refine nT (Tr.seq ?_)
   refine Tr.block ?_
   refine tNwS [(0, .pointer (some ⟨g_v0, 0, none⟩)), (2, .pointer (some ⟨g1, 0, none⟩)), (3, .pointer (some ⟨g5, 0, none⟩)), (4, .int .i64 (Q13.2.2.2))] 2 [0, 1, 2, 3, 4, 5, 6, 7, 8] [2, 3, 8] [] Try.mixed (by kernel_rfl) (by decide) List.nodup_nil ⟨rfl, rfl, rfl, rfl, trivial⟩ rfl okNil ?_
   refine w_q (v := .agg #[.slice z14.1.1 Q13.2.1.length z14.1.2, .slice z14.2.1 Q13.2.2.1.length z14.2.2]) rfl (by decide) rfl rfl rfl (fun F => (q_ldbA ty26 rfl (Has.here.there.there.there.there.app F) rfl)) ?_
   refine w_pu (v := .pointer (some ⟨g_v0, 0, none⟩)) rfl (by decide) rfl rfl rfl (p_move rfl) ?_
   obtain ⟨r22, h23, H1⟩ := bd.of H1
   refine w_ed rfl (by decide) rfl Rdy.nil rfl (n_callM (vs := [.pointer (some ⟨g_v0, 0, none⟩)]) (c_spec_l71Name g_v0 (v0.1, Q13.1) (x_v0.1, ()) h23) (Solo.box Solo.nil) (fun _ => (Solo.tree (Solo.box Solo.nil))) rfl (.cons Del.here .nil) (EntsB.cons (Ent.b Ent.z) EntsB.nil)) ?_
   rintro _ _ _ ⟨x24, rfl, rfl, rfl⟩
   refine ⟨(PdOk.q rfl rfl (fun F => (q_ldbA ty26 rfl (Has.here.there.there.there.there.there.app F) rfl)) PdOk.nil), ?_⟩
   obtain ⟨r25, h26, H1⟩ := bd.of H1
   refine w_ed rfl (by decide) rfl Rdy.nil rfl (n_callM (vs := [.agg #[.slice z14.1.1 Q13.2.1.length z14.1.2, .slice z14.2.1 Q13.2.2.1.length z14.2.2], .slice x24.1 r22.1.length x24.2]) (c_spec_l11Add (Q13.2.1, Q13.2.2.1) z14 r22.1 x24 h26) (Solo.tree (Solo.tree Solo.nil)) (fun _ => (Solo.tree (Solo.tree Solo.nil))) rfl (.cons Del.here.there.there.there (.cons Del.here.there.there.there .nil)) (EntsB.cons (EntB.tree Has.here) EntsB.nil)) ?_
   rintro _ _ _ ⟨x27, rfl, rfl, rfl⟩
   refine ⟨(PdOk.anc (by kernel_rfl) PdOk.nil), ?_⟩
   refine w_pu (v := .tuple #[.agg #[.slice x27.1.1.1 r25.1.1.length x27.1.1.2, .slice x27.1.2.1 r25.1.2.length x27.1.2.2], .int .i64 (r25.2.1), .bool (r25.2.2)]) rfl (by decide) rfl rfl rfl (p_move rfl) ?_
   refine w_pu (v := .agg #[.slice x27.1.1.1 r25.1.1.length x27.1.1.2, .slice x27.1.2.1 r25.1.2.length x27.1.2.2]) rfl (by decide) rfl rfl rfl (p_extract rfl rfl) ?_
   refine w_pu (v := .int .i64 (r25.2.1)) rfl (by decide) rfl rfl rfl (p_extract rfl rfl) ?_
   refine w_pu (v := .bool (r25.2.2)) rfl (by decide) rfl rfl rfl (p_extract rfl rfl) ?_
   refine w_en rfl rfl Rdy.nil rfl (n_store (v := .agg #[.slice x27.1.1.1 r25.1.1.length x27.1.1.2, .slice x27.1.2.1 r25.1.2.length x27.1.2.2]) (cs' := [.slice x27.1.1.1 r25.1.1.length x27.1.1.2, .slice x27.1.2.1 r25.1.2.length x27.1.2.2]) ty26 rfl rfl Upd.here.there.there.there.there.there rfl (by simp [Value.cells, Value.oneCell']) (Nat.le_of_ble_eq_true rfl) rfl) ?_
   rintro _ _ _ ⟨rfl, rfl, rfl⟩
   refine ⟨(PdOk.anc (by kernel_rfl) PdOk.nil), ?_⟩
   refine w_nil ?_
   show At _ _ _ _ _ _
   refine nB (nT (?_))
   refine Tr.region ?_
   refine Rg.q (v := .int .i64 (Q13.2.2.2)) (Pu.qo (p_move rfl)) (by decide) ?_
   obtain ⟨h28, H1⟩ := gd.of H1
   refine Rg.q (v := .int .i64 (Q13.2.2.2 - 1)) (Pu.qo (p_sub rfl rfl h28)) (by decide) ?_
   refine Rg.q (v := .int .i64 (Q13.2.2.2 - 1)) (Pu.qo (p_assign rfl)) (by decide) (Rg.nl ?_)
   exact nLC ⟨(m20, (r22.2, r25.1.1, r25.1.2, Q13.2.2.2 - 1), ((x27.1.1.1, x27.1.1.2), (x27.1.2.1, x27.1.2.2))), hi17 _ (Option.some.inj H1).symm⟩ (Nat.lt_succ_self _) ⟨rfl, rfl, rfl, rfl, trivial⟩ Ents.refl (.cons Del.here.there.there.there (.cons Del.here.there.there.there (.cons Del.here (.cons Del.here (.cons Del.here.there .nil)))))
  ·have H1 := cdF h21 H1
   refine tExit (xT (xT (xE (?_))))
   have hx := hb18 _ (Option.some.inj H1).symm; subst hx
   exact nMC ((z14.1.1, z14.1.2), (z14.2.1, z14.2.2)) ⟨rfl, rfl, rfl, trivial⟩ Ents.refl (.cons Del.here (.cons Del.here (.cons Del.here (.cons Del.here (.cons Del.here .nil)))))
 ·intro y15
  show At _ _ [(0, .pointer (some ⟨g_v0, 0, none⟩)), (2, .pointer (some ⟨g1, 0, none⟩)), (3, .pointer (some ⟨g5, 0, none⟩))] _ [box g_v0 134 [.slice x_v0.1.1 v0.1.length x_v0.1.2, .int .i64 (x9.1)], box g1 26 [.slice none 0 0, .slice none 0 0], tree (.slice y15.1.1 x9.2.1.length y15.1.2) x9.2.1, tree (.slice y15.2.1 x9.2.2.length y15.2.2) x9.2.2, box g5 26 [.slice y15.1.1 x9.2.1.length y15.1.2, .slice y15.2.1 x9.2.2.length y15.2.2]] _
  refine nT (?_)
  refine Tr.seq (Tr.seq (Tr.region ?_))
  refine Rg.q (v := .pointer (some ⟨g_v0, 0, none⟩)) (Pu.qo (p_move rfl)) (by decide) ?_
  obtain ⟨r29, h30, H⟩ := bd.of H
  refine Rg.ed (e_callM (vs := [.pointer (some ⟨g_v0, 0, none⟩), .int .i64 (24)]) (c_spec_l6Rd_pick g_v0 (v0.1, x9.1) (x_v0.1, ()) 24 h30) (Solo.box Solo.nil) (fun _ => (Solo.box Solo.nil)) rfl (.cons Del.here .nil) (EntsB.cons (Ent.b Ent.z) EntsB.nil)) rfl (by decide) ?_
  rintro _ _ _ ⟨u31, rfl, rfl, rfl⟩
  refine Rg.nl (nT ?_)
  refine Tr.block ?_
  refine Tr.seq (Tr.region ?_)
  refine Rg.q (v := .bool (decide (r29.1 = 0))) (Pu.qo (p_eql rfl rfl)) (by decide) ?_
  refine Rg.q (v := .bool (decide (r29.1 = 0))) (Pu.qo (p_assign rfl)) (by decide) (Rg.nl (nT ?_))
  refine Tr.cond (b := decide (r29.1 = 0)) rfl (fun h32 => ?_) (fun h32 => ?_)
  ·have H := cdT h32 H
   refine tNwS [(0, .pointer (some ⟨g_v0, 0, none⟩)), (2, .pointer (some ⟨g1, 0, none⟩)), (3, .pointer (some ⟨g5, 0, none⟩))] 1 [0, 1, 2, 3, 4, 5, 6, 7] [3, 4, 5, 7] [] Try.mixed (by kernel_rfl) (by decide) List.nodup_nil ⟨rfl, rfl, rfl, trivial⟩ rfl okNil ?_
   refine w_pu (v := .pointer (some ⟨g5, 0, none⟩)) rfl (by decide) rfl rfl rfl (p_fabE fa26_0 rfl rfl) ?_
   refine w_q (v := .slice y15.1.1 x9.2.1.length y15.1.2) rfl (by decide) rfl rfl rfl (fun F => (q_ldb ty23 rfl (Has.here.there.there.there.there.app F) rfl)) ?_
   refine w_pu (v := .pointer (some ⟨g_v0, 0, none⟩)) rfl (by decide) rfl rfl rfl (p_move rfl) ?_
   obtain ⟨r33, h34, H⟩ := bd.of H
   refine w_ed rfl (by decide) rfl Rdy.nil rfl (n_callM (vs := [.pointer (some ⟨g_v0, 0, none⟩)]) (c_spec_l71Name g_v0 (v0.1, r29.2) (x_v0.1, ()) h34) (Solo.box Solo.nil) (fun _ => (Solo.tree (Solo.box Solo.nil))) rfl (.cons Del.here .nil) (EntsB.cons (Ent.b Ent.z) EntsB.nil)) ?_
   rintro _ _ _ ⟨x35, rfl, rfl, rfl⟩
   refine ⟨(PdOk.q rfl rfl (fun F => (q_ldb ty23 rfl (Has.here.there.there.there.there.there.app F) rfl)) PdOk.nil), ?_⟩
   refine w_ed rfl (by decide) rfl Rdy.nil rfl (n_lit (vs := [(0, .slice x35.1 r33.1.length x35.2)]) [.slice x35.1 r33.1.length x35.2] Try.underlying23 ty38 rfl (by decide) (by decide) (by kernel_rfl)) ?_
   rintro _ _ _ ⟨g36, rfl, rfl, rfl⟩
   refine ⟨(PdOk.q rfl rfl (fun F => (q_ldb ty23 rfl (Has.here.there.there.there.there.there.there.app F) rfl)) PdOk.nil), ?_⟩
   obtain ⟨h39, H⟩ := gd.of H
   refine w_ed rfl (by decide) rfl Rdy.nil rfl (n_app1 (l := x9.2.1) (α := (List Tag)) r33.1 x35 Try.underlying23 ty38 rfl rfl (h39.b (by decide)) h39.x rfl (ShpT.wfa _) (.cons Del.here.there.there.there.there (.cons Del.here (.cons Del.here .nil)))) ?_
   rintro _ _ _ ⟨a37, c38, rfl, rfl, rfl⟩
   refine ⟨(PdOk.anc (by kernel_rfl) PdOk.nil), ?_⟩
   refine w_pu (v := .pointer (some ⟨g5, 0, none⟩)) rfl (by decide) rfl rfl rfl (p_fabE fa26_0 rfl rfl) ?_
   refine w_en rfl rfl Rdy.nil rfl (n_store (v := .slice a37 ((x9.2.1 ++ [r33.1]).length) c38) (cs' := [.slice a37 ((x9.2.1 ++ [r33.1]).length) c38, .slice y15.2.1 x9.2.2.length y15.2.2]) ty23 rfl rfl Upd.here.there.there.there.there rfl (by simp [Value.cells, Value.oneCell']) (Nat.le_of_ble_eq_true rfl) rfl) ?_
   rintro _ _ _ ⟨rfl, rfl, rfl⟩
   refine ⟨(PdOk.anc (by kernel_rfl) PdOk.nil), ?_⟩
   refine w_nil ?_
   show At _ _ _ _ _ _
   refine nB (nT (?_))
   refine Tr.seq (Tr.region ?_)
   refine Rg.q (v := .agg #[.slice a37 ((x9.2.1 ++ [r33.1]).length) c38, .slice y15.2.1 x9.2.2.length y15.2.2]) (q_ldbA ty26 rfl Has.here.there.there.there.there rfl) (by decide) ?_
   refine Rg.en (e_store (v := .agg #[.slice a37 ((x9.2.1 ++ [r33.1]).length) c38, .slice y15.2.1 x9.2.2.length y15.2.2]) (cs' := [.slice a37 ((x9.2.1 ++ [r33.1]).length) c38, .slice y15.2.1 x9.2.2.length y15.2.2]) ty26 rfl rfl Upd.here.there.there rfl (by simp [Value.cells, Value.oneCell']) (Nat.le_of_ble_eq_true rfl) rfl) rfl ?_
   rintro _ _ _ ⟨rfl, rfl, rfl⟩
   refine Rg.nl (nT ?_)
   refine Tr.freeze (.cons Del.here .nil) ?_
   refine Tr.treeO (.cons Del.here.there.there .nil) ?_
   refine tRet ?_
   have hr := Option.some.inj H; subst hr
   exact back1 ((a37, c38), y15.2) rfl (ResV.agg ty26 rfl Has.here.there.there rfl) rfl (Ents.cons Ent.z Ents.nil) (.cons Del.here (.cons Del.here .nil))
  ·have H := cdF h32 H
   refine Tr.seq (Tr.region ?_)
   refine Rg.q (v := .bool (decide (r29.1 = 1))) (Pu.qo (p_eql rfl rfl)) (by decide) ?_
   refine Rg.q (v := .bool (decide (r29.1 = 1))) (Pu.qo (p_assign rfl)) (by decide) (Rg.nl (nT ?_))
   refine Tr.cond (b := decide (r29.1 = 1)) rfl (fun h40 => ?_) (fun h40 => ?_)
   ·have H := cdT h40 H
    refine Tr.seq (Tr.region ?_)
    refine Rg.q (v := .pointer (some ⟨g5, 1, none⟩)) (Pu.qo (p_fabE fa26_1 rfl rfl)) (by decide) ?_
    refine Rg.q (v := .slice y15.2.1 x9.2.2.length y15.2.2) (q_ldb ty24 rfl Has.here.there.there.there.there rfl) (by decide) ?_
    refine Rg.q (v := .int .i64 ((x9.2.2.length : Int))) (Pu.qo (p_len 33 Try.underlying24 rfl)) (by decide) ?_
    refine Rg.q (v := .bool (decide (0 < (x9.2.2.length : Int)))) (Pu.qo (p_gtr rfl rfl)) (by decide) (Rg.nl (nT ?_))
    refine Tr.cond (b := decide (0 < (x9.2.2.length : Int))) rfl (fun h41 => ?_) (fun h41 => ?_)
    ·have H := cdT h41 H
     refine tNwS [(0, .pointer (some ⟨g_v0, 0, none⟩)), (2, .pointer (some ⟨g1, 0, none⟩)), (3, .pointer (some ⟨g5, 0, none⟩))] 3 [0, 1, 2, 3, 4, 5, 7, 6, 8, 9, 10, 11, 12, 13] [6, 8, 10, 13] [] Try.mixed (by kernel_rfl) (by decide) List.nodup_nil ⟨rfl, rfl, rfl, trivial⟩ rfl okNil ?_
     refine w_pu (v := .pointer (some ⟨g5, 1, none⟩)) rfl (by decide) rfl rfl rfl (p_fabE fa26_1 rfl rfl) ?_
     refine w_q (v := .slice y15.2.1 x9.2.2.length y15.2.2) rfl (by decide) rfl rfl rfl (fun F => (q_ldb ty24 rfl (Has.here.there.there.there.there.app F) rfl)) ?_
     refine w_pu (v := .pointer (some ⟨g_v0, 0, none⟩)) rfl (by decide) rfl rfl rfl (p_move rfl) ?_
     refine w_pu (v := .pointer (some ⟨g5, 1, none⟩)) rfl (by decide) rfl rfl rfl (p_fabE fa26_1 rfl rfl) ?_
     refine w_q (v := .slice y15.2.1 x9.2.2.length y15.2.2) rfl (by decide) rfl rfl rfl (fun F => (q_ldb ty24 rfl (Has.here.there.there.there.there.app F) rfl)) ?_
     refine w_pu (v := .int .i64 ((x9.2.2.length : Int))) rfl (by decide) rfl rfl rfl (p_len 33 Try.underlying24 rfl) ?_
     refine w_pu (v := .pointer (some ⟨g_v0, 0, none⟩)) rfl (by decide) rfl rfl rfl (p_move rfl) ?_
     obtain ⟨r42, h43, H⟩ := bd.of H
     refine w_ed rfl (by decide) rfl Rdy.nil rfl (n_callM (vs := [.pointer (some ⟨g_v0, 0, none⟩), .int .i64 ((x9.2.2.length : Int))]) (c_spec_l6Rd_pick g_v0 (v0.1, r29.2) (x_v0.1, ()) (x9.2.2.length : Int) h43) (Solo.box Solo.nil) (fun _ => (Solo.box Solo.nil)) rfl (.cons Del.here .nil) (EntsB.cons (Ent.b Ent.z) EntsB.nil)) ?_
     rintro _ _ _ ⟨u44, rfl, rfl, rfl⟩
     refine ⟨(PdOk.anc (by kernel_rfl) (PdOk.q rfl rfl (fun F => (q_ldb ty24 rfl (Has.here.there.there.there.there.app F) rfl)) PdOk.nil)), ?_⟩
     obtain ⟨r45, h46, H⟩ := bd.of H
     refine w_ed rfl (by decide) rfl Rdy.nil rfl (n_callM (vs := [.pointer (some ⟨g_v0, 0, none⟩), .int .i64 (3)]) (c_spec_l6Rd_pick g_v0 (v0.1, r42.2) (x_v0.1, ()) 3 h46) (Solo.box Solo.nil) (fun _ => (Solo.box Solo.nil)) rfl (.cons Del.here .nil) (EntsB.cons (Ent.b Ent.z) EntsB.nil)) ?_
     rintro _ _ _ ⟨u47, rfl, rfl, rfl⟩
     refine ⟨(PdOk.anc (by kernel_rfl) (PdOk.q rfl rfl (fun F => (q_ldb ty24 rfl (Has.here.there.there.there.there.app F) rfl)) PdOk.nil)), ?_⟩
     obtain ⟨h48, H⟩ := gd.of H
     refine w_pu (v := .int .i64 (1 + r45.1)) rfl (by decide) rfl rfl rfl (p_add rfl rfl h48) ?_
     refine w_ed rfl (by decide) rfl Rdy.nil rfl (n_litT (α := Int) (vs := [(0, .int .i64 (1 + r45.1))]) [1 + r45.1] rfl (fun _ => rfl) (fun _ _ => by repeat constructor) Try.underlying31 ty3 rfl (by decide) (by decide) (by kernel_rfl)) ?_
     rintro _ _ _ ⟨a49, c50, rfl, rfl, rfl⟩
     refine ⟨(PdOk.q rfl rfl (fun F => (q_ldb ty24 rfl (Has.here.there.there.there.there.there.app F) rfl)) (PdOk.q rfl rfl (fun F => (q_ldb ty24 rfl (Has.here.there.there.there.there.there.app F) rfl)) PdOk.nil)), ?_⟩
     obtain ⟨h51, H⟩ := gd.of H
     refine w_q (v := elp y15.2.1 (r42.1.toNat * Enc.sz Post + 0)) rfl (by decide) rfl rfl rfl (fun F => (q_ixO' Try.underlying24 ty33 rfl rfl h51 (Has.here.there.there.there.there.app F))) ?_
     refine w_q (v := elp y15.2.1 (r42.1.toNat * Enc.sz Post + 2)) rfl (by decide) rfl rfl rfl (fun F => (q_faT (j := 0) r42.1.toNat fa33_1 rfl (Has.here.there.there.there.there.app F) h51.lt rfl)) ?_
     refine w_en rfl rfl Rdy.nil rfl (n_setF (l := x9.2.2) (α := Post) (oa := y15.2.1) (j := 2) r42.1.toNat ((nth x9.2.2 r42.1.toNat).1, ([1 + r45.1] : List Int)) (((), ()), (a49, c50)) ty31 rfl rfl h51.lt (.cons Del.here.there.there.there.there .nil) rfl (by simp [Value.cells, Value.oneCell']) (Nat.le_of_ble_eq_true rfl) (fun _ => rfl) (.cons Del.here .nil)) ?_
     rintro _ _ _ ⟨rfl, rfl, rfl⟩
     refine ⟨(PdOk.anc (by kernel_rfl) (PdOk.anc (by kernel_rfl) (PdOk.anc (by kernel_rfl) (PdOk.anc (by kernel_rfl) PdOk.nil)))), ?_⟩
     refine w_nil ?_
     show At _ _ _ _ _ _
     refine nB (nT (?_))
     refine Tr.seq ?_
     refine Tr.olen Has.here fun hn => ?_; rw [hn]
     refine Tr.region ?_
     refine Rg.q (v := .agg #[.slice y15.1.1 x9.2.1.length y15.1.2, .slice y15.2.1 ((x9.2.2.set r42.1.toNat ((nth x9.2.2 r42.1.toNat).1, ([1 + r45.1] : List Int))).length) y15.2.2]) (q_ldbA ty26 rfl Has.here.there.there.there.there rfl) (by decide) ?_
     refine Rg.en (e_store (v := .agg #[.slice y15.1.1 x9.2.1.length y15.1.2, .slice y15.2.1 ((x9.2.2.set r42.1.toNat ((nth x9.2.2 r42.1.toNat).1, ([1 + r45.1] : List Int))).length) y15.2.2]) (cs' := [.slice y15.1.1 x9.2.1.length y15.1.2, .slice y15.2.1 ((x9.2.2.set r42.1.toNat ((nth x9.2.2 r42.1.toNat).1, ([1 + r45.1] : List Int))).length) y15.2.2]) ty26 rfl rfl Upd.here.there.there rfl (by simp [Value.cells, Value.oneCell']) (Nat.le_of_ble_eq_true rfl) rfl) rfl ?_
     rintro _ _ _ ⟨rfl, rfl, rfl⟩
     refine Rg.nl (nT ?_)
     refine Tr.freeze (.cons Del.here.there.there.there .nil) ?_
     refine Tr.treeO (.cons Del.here .nil) ?_
     refine tRet ?_
     have hr := Option.some.inj H; subst hr
     exact back1 y15 rfl (ResV.agg ty26 rfl Has.here.there.there rfl) rfl (Ents.cons Ent.z Ents.nil) (.cons Del.here (.cons Del.here .nil))
    ·have H := cdF h41 H
     refine tSkip ?_
     refine nB (nT (?_))
     refine Tr.seq (Tr.region ?_)
     refine Rg.q (v := .agg #[.slice y15.1.1 x9.2.1.length y15.1.2, .slice y15.2.1 x9.2.2.length y15.2.2]) (q_ldbA ty26 rfl Has.here.there.there.there.there rfl) (by decide) ?_
     refine Rg.en (e_store (v := .agg #[.slice y15.1.1 x9.2.1.length y15.1.2, .slice y15.2.1 x9.2.2.length y15.2.2]) (cs' := [.slice y15.1.1 x9.2.1.length y15.1.2, .slice y15.2.1 x9.2.2.length y15.2.2]) ty26 rfl rfl Upd.here.there rfl (by simp [Value.cells, Value.oneCell']) (Nat.le_of_ble_eq_true rfl) rfl) rfl ?_
     rintro _ _ _ ⟨rfl, rfl, rfl⟩
     refine Rg.nl (nT ?_)
     refine Tr.freeze (.cons Del.here.there.there .nil) ?_
     refine Tr.treeO (.cons Del.here.there.there .nil) ?_
     refine tRet ?_
     have hr := Option.some.inj H; subst hr
     exact back1 y15 rfl (ResV.agg ty26 rfl Has.here.there.there rfl) rfl (Ents.cons Ent.z Ents.nil) (.cons Del.here (.cons Del.here .nil))
   ·have H := cdF h40 H
    refine Tr.seq (Tr.region ?_)
    refine Rg.q (v := .bool (decide (r29.1 = 2))) (Pu.qo (p_eql rfl rfl)) (by decide) ?_
    refine Rg.q (v := .bool (decide (r29.1 = 2))) (Pu.qo (p_assign rfl)) (by decide) (Rg.nl (nT ?_))
    refine Tr.cond (b := decide (r29.1 = 2)) rfl (fun h52 => ?_) (fun h52 => ?_)
    ·have H := cdT h52 H
     refine Tr.seq (Tr.region ?_)
     refine Rg.q (v := .pointer (some ⟨g5, 1, none⟩)) (Pu.qo (p_fabE fa26_1 rfl rfl)) (by decide) ?_
     refine Rg.q (v := .slice y15.2.1 x9.2.2.length y15.2.2) (q_ldb ty24 rfl Has.here.there.there.there.there rfl) (by decide) ?_
     refine Rg.q (v := .int .i64 ((x9.2.2.length : Int))) (Pu.qo (p_len 33 Try.underlying24 rfl)) (by decide) ?_
     refine Rg.q (v := .bool (decide (0 < (x9.2.2.length : Int)))) (Pu.qo (p_gtr rfl rfl)) (by decide) (Rg.nl (nT ?_))
     refine Tr.cond (b := decide (0 < (x9.2.2.length : Int))) rfl (fun h53 => ?_) (fun h53 => ?_)
     ·have H := cdT h53 H
      refine Tr.treeO (.cons Del.here.there.there.there .nil) ?_
      refine Tr.region ?_
      refine Rg.q (v := .pointer (some ⟨g5, 1, none⟩)) (Pu.qo (p_fabE fa26_1 rfl rfl)) (by decide) ?_
      refine Rg.q (v := .slice y15.2.1 x9.2.2.length y15.2.2) (q_ldb ty24 rfl Has.here.there.there.there.there rfl) (by decide) ?_
      obtain ⟨h54, H⟩ := gd.of H
      refine Rg.ed (e_slO (l := x9.2.2) (α := Post) 1 (x9.2.2.length : Int) Try.underlying24 ty33 rfl rfl (fun h => nomatch h) rfl (fun _ => rfl) h54 (.cons Del.here .nil) Has.here) rfl (by decide) ?_
      rintro _ _ _ ⟨a55, c56, rfl, rfl, rfl⟩
      refine Rg.q (v := .pointer (some ⟨g5, 1, none⟩)) (Pu.qo (p_fabE fa26_1 rfl rfl)) (by decide) ?_
      refine Rg.en (e_store (v := .slice a55 (((x9.2.2.take (x9.2.2.length : Int).toNat).drop 1).length) c56) (cs' := [.slice y15.1.1 x9.2.1.length y15.1.2, .slice a55 (((x9.2.2.take (x9.2.2.length : Int).toNat).drop 1).length) c56]) ty24 rfl rfl Upd.here.there.there.there.there rfl (by simp [Value.cells, Value.oneCell']) (Nat.le_of_ble_eq_true rfl) rfl) rfl ?_
      rintro _ _ _ ⟨rfl, rfl, rfl⟩
      refine Rg.nl ?_
      refine nB (nT (?_))
      refine Tr.seq (Tr.region ?_)
      refine Rg.q (v := .agg #[.slice y15.1.1 x9.2.1.length y15.1.2, .slice a55 (((x9.2.2.take (x9.2.2.length : Int).toNat).drop 1).length) c56]) (q_ldbA ty26 rfl Has.here.there.there.there.there rfl) (by decide) ?_
      refine Rg.en (e_store (v := .agg #[.slice y15.1.1 x9.2.1.length y15.1.2, .slice a55 (((x9.2.2.take (x9.2.2.length : Int).toNat).drop 1).length) c56]) (cs' := [.slice y15.1.1 x9.2.1.length y15.1.2, .slice a55 (((x9.2.2.take (x9.2.2.length : Int).toNat).drop 1).length) c56]) ty26 rfl rfl Upd.here.there.there rfl (by simp [Value.cells, Value.oneCell']) (Nat.le_of_ble_eq_true rfl) rfl) rfl ?_
      rintro _ _ _ ⟨rfl, rfl, rfl⟩
      refine Rg.nl (nT ?_)
      refine Tr.freeze (.cons Del.here.there.there.there .nil) ?_
      refine tRet ?_
      have hr := Option.some.inj H; subst hr
      exact back1 (y15.1, (a55, c56)) rfl (ResV.agg ty26 rfl Has.here.there.there rfl) rfl (Ents.cons Ent.z Ents.nil) (.cons Del.here (.cons Del.here .nil))
     ·have H := cdF h53 H
      refine tSkip ?_
      refine nB (nT (?_))
      refine Tr.seq (Tr.region ?_)
      refine Rg.q (v := .agg #[.slice y15.1.1 x9.2.1.length y15.1.2, .slice y15.2.1 x9.2.2.length y15.2.2]) (q_ldbA ty26 rfl Has.here.there.there.there.there rfl) (by decide) ?_
      refine Rg.en (e_store (v := .agg #[.slice y15.1.1 x9.2.1.length y15.1.2, .slice y15.2.1 x9.2.2.length y15.2.2]) (cs' := [.slice y15.1.1 x9.2.1.length y15.1.2, .slice y15.2.1 x9.2.2.length y15.2.2]) ty26 rfl rfl Upd.here.there rfl (by simp [Value.cells, Value.oneCell']) (Nat.le_of_ble_eq_true rfl) rfl) rfl ?_
      rintro _ _ _ ⟨rfl, rfl, rfl⟩
      refine Rg.nl (nT ?_)
      refine Tr.freeze (.cons Del.here.there.there .nil) ?_
      refine Tr.treeO (.cons Del.here.there.there .nil) ?_
      refine tRet ?_
      have hr := Option.some.inj H; subst hr
      exact back1 y15 rfl (ResV.agg ty26 rfl Has.here.there.there rfl) rfl (Ents.cons Ent.z Ents.nil) (.cons Del.here (.cons Del.here .nil))
    ·have H := cdF h52 H
     refine tSkip ?_
     refine nB (nT (?_))
     refine Tr.seq (Tr.region ?_)
     refine Rg.q (v := .agg #[.slice y15.1.1 x9.2.1.length y15.1.2, .slice y15.2.1 x9.2.2.length y15.2.2]) (q_ldbA ty26 rfl Has.here.there.there.there.there rfl) (by decide) ?_
     refine Rg.en (e_store (v := .agg #[.slice y15.1.1 x9.2.1.length y15.1.2, .slice y15.2.1 x9.2.2.length y15.2.2]) (cs' := [.slice y15.1.1 x9.2.1.length y15.1.2, .slice y15.2.1 x9.2.2.length y15.2.2]) ty26 rfl rfl Upd.here.there rfl (by simp [Value.cells, Value.oneCell']) (Nat.le_of_ble_eq_true rfl) rfl) rfl ?_
     rintro _ _ _ ⟨rfl, rfl, rfl⟩
     refine Rg.nl (nT ?_)
     refine Tr.freeze (.cons Del.here.there.there .nil) ?_
     refine Tr.treeO (.cons Del.here.there.there .nil) ?_
     refine tRet ?_
     have hr := Option.some.inj H; subst hr
     exact back1 y15 rfl (ResV.agg ty26 rfl Has.here.there.there rfl) rfl (Ents.cons Ent.z Ents.nil) (.cons Del.here (.cons Del.here .nil))
noncomputable def p_spec_DrawIndexOk (v0 : (List UInt8)) : Option (Index) := bd (p_spec_l6Open v0) fun r2 => bd (p_spec_l71Index r2) fun r5 => bd (p_spec_l6Rd_pick (r2.1, r5.2) 6) fun r9 => cond (decide (r9.1 = 0)) (bd (p_spec_l71Tag (r2.1, r9.2)) fun r13 => gd (room (r5.1.2.length + 1)) <| some (r5.1.1, (r5.1.2 ++ [(r13.1, ([1] : List Int))]))) (some r5.1)
theorem c_spec_DrawIndexOk {r : Index} (v0 : (List UInt8)) (x_v0 : Option Addr × Nat) (H : p_spec_DrawIndexOk v0 = some r) : Fn' Try.prog 17 #[.slice x_v0.1 v0.length x_v0.2] [imm (.slice x_v0.1 v0.length x_v0.2) v0] [] (ι := (Option Addr × Nat) × (Option Addr × Nat)) (fun x => .agg #[.slice x.1.1 r.1.length x.1.2, .slice x.2.1 r.2.length x.2.2]) (fun x => [imm (.slice x.1.1 r.1.length x.1.2) r.1, imm (.slice x.2.1 r.2.length x.2.2) r.2]) (fun _ => []) := by
 refine calls_of (args := [_]) Try.func17 rfl (by kernel_rfl) Try.ntmps17 (by simp) fun c => ?_
 unfold p_spec_DrawIndexOk at H
 refine Tr.seq (Tr.region ?_)
 refine Rg.ed (e_alloc ty26) rfl (by decide) ?_
 rintro _ _ _ ⟨g1, rfl, rfl, rfl⟩
 refine Rg.nl (nT ?_)
 refine Tr.seq (Tr.region ?_)
 refine Rg.q (v := .slice x_v0.1 v0.length x_v0.2) (Pu.qo (p_move rfl)) (by decide) ?_
 obtain ⟨r2, h3, H⟩ := bd.of H
 refine Rg.ed (e_call (vs := [.slice x_v0.1 v0.length x_v0.2]) (c_spec_l6Open v0 x_v0 h3) rfl (Ents.cons Ent.z Ents.nil) Take.nil) rfl (by decide) ?_
 rintro _ _ _ ⟨x4, rfl, rfl, rfl⟩
 refine Rg.q (v := .pointer (some ⟨x4.1, 0, none⟩)) (Pu.qo (p_assign rfl)) (by decide) (Rg.nl (nT ?_))
 refine Tr.seq (Tr.region ?_)
 refine Rg.q (v := .pointer (some ⟨x4.1, 0, none⟩)) (Pu.qo (p_move rfl)) (by decide) ?_
 obtain ⟨r5, h6, H⟩ := bd.of H
 refine Rg.ed (e_call (vs := [.pointer (some ⟨x4.1, 0, none⟩)]) (c_spec_l71Index x4.1 r2 (x4.2.1, ()) h6) rfl (Ents.cons Ent.z Ents.nil) (.cons Del.here .nil)) rfl (by decide) ?_
 rintro _ _ _ ⟨x7, rfl, rfl, rfl⟩
 refine Rg.ed (e_alloc ty26) rfl (by decide) ?_
 rintro _ _ _ ⟨g8, rfl, rfl, rfl⟩
 refine Rg.en (e_store (v := .agg #[.slice x7.1.1 r5.1.1.length x7.1.2, .slice x7.2.1 r5.1.2.length x7.2.2]) (cs' := [.slice x7.1.1 r5.1.1.length x7.1.2, .slice x7.2.1 r5.1.2.length x7.2.2]) ty26 rfl rfl Upd.here rfl (by simp [Value.cells, Value.oneCell']) (Nat.le_of_ble_eq_true rfl) rfl) rfl ?_
 rintro _ _ _ ⟨rfl, rfl, rfl⟩
 refine Rg.nl (nT ?_)
 refine Tr.seq (Tr.seq (Tr.region ?_))
 refine Rg.q (v := .pointer (some ⟨x4.1, 0, none⟩)) (Pu.qo (p_move rfl)) (by decide) ?_
 obtain ⟨r9, h10, H⟩ := bd.of H
 refine Rg.ed (e_callM (vs := [.pointer (some ⟨x4.1, 0, none⟩), .int .i64 (6)]) (c_spec_l6Rd_pick x4.1 (r2.1, r5.2) (x4.2.1, ()) 6 h10) (Solo.box Solo.nil) (fun _ => (Solo.box Solo.nil)) rfl (.cons Del.here.there.there .nil) (EntsB.cons (Ent.b Ent.z.s) EntsB.nil)) rfl (by decide) ?_
 rintro _ _ _ ⟨u11, rfl, rfl, rfl⟩
 refine Rg.q (v := .bool (decide (r9.1 = 0))) (Pu.qo (p_eql rfl rfl)) (by decide) (Rg.nl (nT ?_))
 refine Tr.cond (b := decide (r9.1 = 0)) rfl (fun h12 => ?_) (fun h12 => ?_)
 ·have H := cdT h12 H
  refine tNwS [(4, .pointer (some ⟨g8, 0, none⟩)), (3, .pointer (some ⟨x4.1, 0, none⟩)), (2, .pointer (some ⟨g1, 0, none⟩))] 3 [0, 1, 2, 3, 4, 5, 6, 7, 8, 9] [3, 6, 7, 9] [⟨4, [], fun g => .slice (some ⟨g, 0, none⟩) ([1] : List Int).length ([1] : List Int).length, fun g => tree (.slice (some ⟨g, 0, none⟩) ([1] : List Int).length ([1] : List Int).length) ([1] : List Int)⟩] Try.mixed (by kernel_rfl) (by decide) (show List.Nodup [4] by decide) ⟨rfl, rfl, rfl, trivial⟩ rfl (okCons (FreeA.Ok.of rfl (by decide) (by kernel_rfl) fun c fs os => g_litT (α := Int) (vs := [(0, .int .i64 (1))]) [1] rfl (fun _ => rfl) (fun _ _ => by repeat constructor) Try.underlying31 ty3 rfl (by decide) (by decide) (by kernel_rfl)) okNil) ?_
  refine w_pu (v := .pointer (some ⟨g8, 1, none⟩)) rfl (by decide) rfl rfl rfl (p_fabE fa26_1 rfl rfl) ?_
  refine w_q (v := .slice x7.2.1 r5.1.2.length x7.2.2) rfl (by decide) rfl rfl rfl (fun F => (q_ldb ty24 rfl (Has.here.there.app F) rfl)) ?_
  refine w_pu (v := .pointer (some ⟨x4.1, 0, none⟩)) rfl (by decide) rfl rfl rfl (p_move rfl) ?_
  obtain ⟨r13, h14, H⟩ := bd.of H
  refine w_ed rfl (by decide) rfl (Rdy.cons (.inr (.inr trivial)) Rdy.nil) rfl (n_callM (vs := [.pointer (some ⟨x4.1, 0, none⟩)]) (c_spec_l71Tag x4.1 (r2.1, r9.2) (x4.2.1, ()) h14) (Solo.box Solo.nil) (fun _ => (Solo.box Solo.nil)) rfl (.cons Del.here .nil) (EntsB.cons (Ent.b Ent.z.s) EntsB.nil)) ?_
  rintro _ _ _ ⟨u15, rfl, rfl, rfl⟩
  refine ⟨(PdOk.q rfl rfl (fun F => (q_ldb ty24 rfl (Has.here.there.app F) rfl)) PdOk.nil), ?_⟩
  refine w_fr (z := ⟨4, [], fun g => .slice (some ⟨g, 0, none⟩) ([1] : List Int).length ([1] : List Int).length, fun g => tree (.slice (some ⟨g, 0, none⟩) ([1] : List Int).length ([1] : List Int).length) ([1] : List Int)⟩) (.head _) rfl rfl (by decide) (Rdy.cons (.inl rfl) Rdy.nil) trivial ?_; intro g16
  refine w_pu (v := .agg #[.string (r13.1.1), .string (r13.1.2), .slice (some ⟨g16, 0, none⟩) (([1] : List Int).length) (([1] : List Int).length)]) rfl (by decide) rfl rfl rfl (p_buildS (vs := [(0, .agg #[.string (r13.1.1), .string (r13.1.2)]), (1, .slice (some ⟨g16, 0, none⟩) (([1] : List Int).length) (([1] : List Int).length))]) (cs := #[.string (r13.1.1), .string (r13.1.2), .slice (some ⟨g16, 0, none⟩) (([1] : List Int).length) (([1] : List Int).length)]) ty33 pl33 rfl rfl) ?_
  refine w_ed rfl (by decide) rfl (Rdy.cons (.inl rfl) Rdy.nil) rfl (n_lit (vs := [(0, .agg #[.string (r13.1.1), .string (r13.1.2), .slice (some ⟨g16, 0, none⟩) (([1] : List Int).length) (([1] : List Int).length)])]) [.string (r13.1.1), .string (r13.1.2), .slice (some ⟨g16, 0, none⟩) (([1] : List Int).length) (([1] : List Int).length)] Try.underlying24 ty33 rfl (by decide) (by decide) (by kernel_rfl)) ?_
  rintro _ _ _ ⟨g17, rfl, rfl, rfl⟩
  refine ⟨(PdOk.q rfl rfl (fun F => (q_ldb ty24 rfl (Has.here.there.there.there.app F) rfl)) PdOk.nil), ?_⟩
  obtain ⟨h20, H⟩ := gd.of H
  refine w_ed rfl (by decide) rfl (Rdy.cons (.inl rfl) Rdy.nil) rfl (n_app1OT (l := r5.1.2) (α := Post) (r13.1, ([1] : List Int)) (((), ()), ((some ⟨g16, 0, none⟩), ([1] : List Int).length)) Try.underlying24 ty33 rfl rfl (h20.b (by decide)) h20.x rfl (.cons Del.here.there.there.there.there (.cons Del.here (.cons Del.here .nil)))) ?_
  rintro _ _ _ ⟨a18, c19, rfl, rfl, rfl⟩
  refine ⟨(PdOk.anc (by kernel_rfl) PdOk.nil), ?_⟩
  refine w_pu (v := .pointer (some ⟨g8, 1, none⟩)) rfl (by decide) rfl rfl rfl (p_fabE fa26_1 rfl rfl) ?_
  refine w_en rfl rfl (Rdy.cons (.inl rfl) Rdy.nil) rfl (n_store (v := .slice a18 ((r5.1.2 ++ [(r13.1, ([1] : List Int))]).length) c19) (cs' := [.slice x7.1.1 r5.1.1.length x7.1.2, .slice a18 ((r5.1.2 ++ [(r13.1, ([1] : List Int))]).length) c19]) ty24 rfl rfl Upd.here.there.there rfl (by simp [Value.cells, Value.oneCell']) (Nat.le_of_ble_eq_true rfl) rfl) ?_
  rintro _ _ _ ⟨rfl, rfl, rfl⟩
  refine ⟨(PdOk.anc (by kernel_rfl) PdOk.nil), ?_⟩
  refine w_nil ?_
  show At _ _ _ _ _ _
  refine nT (?_)
  refine Tr.seq (Tr.region ?_)
  refine Rg.q (v := .agg #[.slice x7.1.1 r5.1.1.length x7.1.2, .slice a18 ((r5.1.2 ++ [(r13.1, ([1] : List Int))]).length) c19]) (q_ldbA ty26 rfl Has.here.there.there rfl) (by decide) ?_
  refine Rg.en (e_store (v := .agg #[.slice x7.1.1 r5.1.1.length x7.1.2, .slice a18 ((r5.1.2 ++ [(r13.1, ([1] : List Int))]).length) c19]) (cs' := [.slice x7.1.1 r5.1.1.length x7.1.2, .slice a18 ((r5.1.2 ++ [(r13.1, ([1] : List Int))]).length) c19]) ty26 rfl rfl Upd.here.there.there.there rfl (by simp [Value.cells, Value.oneCell']) (Nat.le_of_ble_eq_true rfl) rfl) rfl ?_
  rintro _ _ _ ⟨rfl, rfl, rfl⟩
  refine Rg.nl (nT ?_)
  refine Tr.freezeO (.cons Del.here .nil) ?_
  refine tRet ?_
  have hr := Option.some.inj H; subst hr
  exact back1 (x7.1, (a18, c19)) rfl (ResV.agg ty26 rfl Has.here.there.there rfl) rfl (Ents.cons Ent.z.s (Ents.cons Ent.z Ents.nil)) Take.nil
 ·have H := cdF h12 H
  refine tSkip ?_
  refine nT (?_)
  refine Tr.seq (Tr.region ?_)
  refine Rg.q (v := .agg #[.slice x7.1.1 r5.1.1.length x7.1.2, .slice x7.2.1 r5.1.2.length x7.2.2]) (q_ldbA ty26 rfl Has.here.there rfl) (by decide) ?_
  refine Rg.en (e_store (v := .agg #[.slice x7.1.1 r5.1.1.length x7.1.2, .slice x7.2.1 r5.1.2.length x7.2.2]) (cs' := [.slice x7.1.1 r5.1.1.length x7.1.2, .slice x7.2.1 r5.1.2.length x7.2.2]) ty26 rfl rfl Upd.here.there.there.there rfl (by simp [Value.cells, Value.oneCell']) (Nat.le_of_ble_eq_true rfl) rfl) rfl ?_
  rintro _ _ _ ⟨rfl, rfl, rfl⟩
  refine Rg.nl (nT ?_)
  refine Tr.freezeO (.cons Del.here.there.there .nil) ?_
  refine tRet ?_
  have hr := Option.some.inj H; subst hr
  exact back1 x7 rfl (ResV.agg ty26 rfl Has.here.there.there rfl) rfl (Ents.cons Ent.z.s (Ents.cons Ent.z Ents.nil)) Take.nil
noncomputable def p_impl_tagOk (v0 : Tag) : Option (Bool) := bd (cond (decide ((v0.1.size : Int) = 1)) (cond (!sless v0.1 (⟨#[97]⟩ : ByteArray)) (cond ((sless v0.1 (⟨#[100]⟩ : ByteArray) || decide (v0.1 = (⟨#[100]⟩ : ByteArray)))) (cond (decide ((v0.2.size : Int) = 1)) (cond (!sless v0.2 (⟨#[112]⟩ : ByteArray)) (some ((sless v0.2 (⟨#[122]⟩ : ByteArray) || decide (v0.2 = (⟨#[122]⟩ : ByteArray))))) (some (false))) (some (false))) (some (false))) (some (false))) (some (false))) fun b2 => some b2
theorem c_impl_tagOk {r : Bool} (v0 : Tag) (H : p_impl_tagOk v0 = some r) : Fn' Try.prog 118 #[.agg #[.string (v0.1), .string (v0.2)]] [] [] (ι := Unit) (fun _ => .bool (r)) (fun _ => []) (fun _ => []) := by
 refine calls_of (args := [_]) Try.func118 rfl (by kernel_rfl) Try.ntmps118 (by simp) fun c => ?_
 unfold p_impl_tagOk at H
 refine Tr.seq (Tr.region ?_)
 refine Rg.ed (e_box (t := 30) (v := .agg #[.string (v0.1), .string (v0.2)]) rfl) rfl (by decide) ?_
 rintro _ _ _ ⟨g1, rfl, rfl, rfl⟩
 refine Rg.q (v := .bool (false)) (Pu.qo (p_assign rfl)) (by decide) (Rg.nl (nT ?_))
 obtain ⟨b2, j3, H⟩ := bd.of H
 refine tMid1 [(2, .bool (b2))] ?_ ?_
 ·refine tLinT [(1, .pointer (some ⟨g1, 0, none⟩))] ⟨rfl, trivial⟩ ?_
  refine Lin.q (v := .pointer (some ⟨g1, 0, none⟩)) (by decide) (Pu.qo (p_fabE fa30_0 rfl rfl)) ?_
  refine Lin.q (v := .string (v0.1)) (by decide) (q_ldb ty9 rfl Has.here rfl) ?_
  refine Lin.q (v := .int .i64 ((v0.1.size : Int))) (by decide) (Pu.qo (p_slen Try.underlying9 rfl)) ?_
  refine Lin.q (v := .bool (decide ((v0.1.size : Int) = 1))) (by decide) (Pu.qo (p_eql rfl rfl)) ?_
  rcases Bool.eq_false_or_eq_true (decide ((v0.1.size : Int) = 1)) with h4 | h4
  ·have j3 := cdT h4 j3
   refine Lin.q (v := .bool (true)) (by decide) (Qo.eqv (v := .bool (decide ((v0.1.size : Int) = 1))) (Pu.qo (p_move rfl)) (congrArg Value.bool h4)) ?_
   refine Lin.g (v := .pointer (some ⟨g1, 0, none⟩)) (by decide) rfl (Pu.qo (p_fabE fa30_0 rfl rfl)) ?_
   refine Lin.g (v := .string (v0.1)) (by decide) rfl (q_ldb ty9 rfl Has.here rfl) ?_
   refine Lin.g (v := .bool (!sless v0.1 (⟨#[97]⟩ : ByteArray))) (by decide) rfl (Pu.qo (p_sgeq rfl rfl)) ?_
   refine Lin.q (v := .bool (!sless v0.1 (⟨#[97]⟩ : ByteArray))) (by decide) (Pu.qo (p_pickT rfl rfl)) ?_
   rcases Bool.eq_false_or_eq_true (!sless v0.1 (⟨#[97]⟩ : ByteArray)) with h5 | h5
   ·have j3 := cdT h5 j3
    refine Lin.q (v := .bool (true)) (by decide) (Qo.eqv (v := .bool (!sless v0.1 (⟨#[97]⟩ : ByteArray))) (Pu.qo (p_move rfl)) (congrArg Value.bool h5)) ?_
    refine Lin.g (v := .pointer (some ⟨g1, 0, none⟩)) (by decide) rfl (Pu.qo (p_fabE fa30_0 rfl rfl)) ?_
    refine Lin.g (v := .string (v0.1)) (by decide) rfl (q_ldb ty9 rfl Has.here rfl) ?_
    refine Lin.g (v := .bool ((sless v0.1 (⟨#[100]⟩ : ByteArray) || decide (v0.1 = (⟨#[100]⟩ : ByteArray))))) (by decide) rfl (Pu.qo (p_sleq rfl rfl)) ?_
    refine Lin.q (v := .bool ((sless v0.1 (⟨#[100]⟩ : ByteArray) || decide (v0.1 = (⟨#[100]⟩ : ByteArray))))) (by decide) (Pu.qo (p_pickT rfl rfl)) ?_
    rcases Bool.eq_false_or_eq_true ((sless v0.1 (⟨#[100]⟩ : ByteArray) || decide (v0.1 = (⟨#[100]⟩ : ByteArray)))) with h6 | h6
    ·have j3 := cdT h6 j3
     refine Lin.q (v := .bool (true)) (by decide) (Qo.eqv (v := .bool ((sless v0.1 (⟨#[100]⟩ : ByteArray) || decide (v0.1 = (⟨#[100]⟩ : ByteArray))))) (Pu.qo (p_move rfl)) (congrArg Value.bool h6)) ?_
     refine Lin.g (v := .pointer (some ⟨g1, 1, none⟩)) (by decide) rfl (Pu.qo (p_fabE fa30_1 rfl rfl)) ?_
     refine Lin.g (v := .string (v0.2)) (by decide) rfl (q_ldb ty9 rfl Has.here rfl) ?_
     refine Lin.g (v := .int .i64 ((v0.2.size : Int))) (by decide) rfl (Pu.qo (p_slen Try.underlying9 rfl)) ?_
     refine Lin.g (v := .bool (decide ((v0.2.size : Int) = 1))) (by decide) rfl (Pu.qo (p_eql rfl rfl)) ?_
     refine Lin.q (v := .bool (decide ((v0.2.size : Int) = 1))) (by decide) (Pu.qo (p_pickT rfl rfl)) ?_
     rcases Bool.eq_false_or_eq_true (decide ((v0.2.size : Int) = 1)) with h7 | h7
     ·have j3 := cdT h7 j3
      refine Lin.q (v := .bool (true)) (by decide) (Qo.eqv (v := .bool (decide ((v0.2.size : Int) = 1))) (Pu.qo (p_move rfl)) (congrArg Value.bool h7)) ?_
      refine Lin.g (v := .pointer (some ⟨g1, 1, none⟩)) (by decide) rfl (Pu.qo (p_fabE fa30_1 rfl rfl)) ?_
      refine Lin.g (v := .string (v0.2)) (by decide) rfl (q_ldb ty9 rfl Has.here rfl) ?_
      refine Lin.g (v := .bool (!sless v0.2 (⟨#[112]⟩ : ByteArray))) (by decide) rfl (Pu.qo (p_sgeq rfl rfl)) ?_
      refine Lin.q (v := .bool (!sless v0.2 (⟨#[112]⟩ : ByteArray))) (by decide) (Pu.qo (p_pickT rfl rfl)) ?_
      rcases Bool.eq_false_or_eq_true (!sless v0.2 (⟨#[112]⟩ : ByteArray)) with h8 | h8
      ·have j3 := cdT h8 j3
       refine Lin.q (v := .bool (true)) (by decide) (Qo.eqv (v := .bool (!sless v0.2 (⟨#[112]⟩ : ByteArray))) (Pu.qo (p_move rfl)) (congrArg Value.bool h8)) ?_
       refine Lin.g (v := .pointer (some ⟨g1, 1, none⟩)) (by decide) rfl (Pu.qo (p_fabE fa30_1 rfl rfl)) ?_
       refine Lin.g (v := .string (v0.2)) (by decide) rfl (q_ldb ty9 rfl Has.here rfl) ?_
       refine Lin.g (v := .bool ((sless v0.2 (⟨#[122]⟩ : ByteArray) || decide (v0.2 = (⟨#[122]⟩ : ByteArray))))) (by decide) rfl (Pu.qo (p_sleq rfl rfl)) ?_
       refine Lin.q (v := .bool ((sless v0.2 (⟨#[122]⟩ : ByteArray) || decide (v0.2 = (⟨#[122]⟩ : ByteArray))))) (by decide) (Pu.qo (p_pickT rfl rfl)) ?_
       refine Lin.q (v := .bool ((sless v0.2 (⟨#[122]⟩ : ByteArray) || decide (v0.2 = (⟨#[122]⟩ : ByteArray))))) (by decide) (Pu.qo (p_assign rfl)) ?_
       have j3 := Option.some.inj j3; subst j3
       show At _ _ _ _ _ _
       exact n1 ⟨rfl, trivial⟩
      ·have j3 := cdF h8 j3
       refine Lin.q (v := .bool (false)) (by decide) (Qo.eqv (v := .bool (!sless v0.2 (⟨#[112]⟩ : ByteArray))) (Pu.qo (p_move rfl)) (congrArg Value.bool h8)) ?_
       refine Lin.skip (by decide) rfl ?_
       refine Lin.skip (by decide) rfl ?_
       refine Lin.skip (by decide) rfl ?_
       refine Lin.q (v := .bool (false)) (by decide) (Pu.qo (p_pickF rfl rfl)) ?_
       refine Lin.q (v := .bool (false)) (by decide) (Pu.qo (p_assign rfl)) ?_
       have j3 := Option.some.inj j3; subst j3
       show At _ _ _ _ _ _
       exact n1 ⟨rfl, trivial⟩
     ·have j3 := cdF h7 j3
      refine Lin.q (v := .bool (false)) (by decide) (Qo.eqv (v := .bool (decide ((v0.2.size : Int) = 1))) (Pu.qo (p_move rfl)) (congrArg Value.bool h7)) ?_
      refine Lin.skip (by decide) rfl ?_
      refine Lin.skip (by decide) rfl ?_
      refine Lin.skip (by decide) rfl ?_
      refine Lin.q (v := .bool (false)) (by decide) (Pu.qo (p_pickF rfl rfl)) ?_
      refine Lin.q (v := .bool (false)) (by decide) (Pu.qo (p_move rfl)) ?_
      refine Lin.skip (by decide) rfl ?_
      refine Lin.skip (by decide) rfl ?_
      refine Lin.skip (by decide) rfl ?_
      refine Lin.q (v := .bool (false)) (by decide) (Pu.qo (p_pickF rfl rfl)) ?_
      refine Lin.q (v := .bool (false)) (by decide) (Pu.qo (p_assign rfl)) ?_
      have j3 := Option.some.inj j3; subst j3
      show At _ _ _ _ _ _
      exact n1 ⟨rfl, trivial⟩
    ·have j3 := cdF h6 j3
     refine Lin.q (v := .bool (false)) (by decide) (Qo.eqv (v := .bool ((sless v0.1 (⟨#[100]⟩ : ByteArray) || decide (v0.1 = (⟨#[100]⟩ : ByteArray))))) (Pu.qo (p_move rfl)) (congrArg Value.bool h6)) ?_
     refine Lin.skip (by decide) rfl ?_
     refine Lin.skip (by decide) rfl ?_
     refine Lin.skip (by decide) rfl ?_
     refine Lin.skip (by decide) rfl ?_
     refine Lin.q (v := .bool (false)) (by decide) (Pu.qo (p_pickF rfl rfl)) ?_
     refine Lin.q (v := .bool (false)) (by decide) (Pu.qo (p_move rfl)) ?_
     refine Lin.skip (by decide) rfl ?_
     refine Lin.skip (by decide) rfl ?_
     refine Lin.skip (by decide) rfl ?_
     refine Lin.q (v := .bool (false)) (by decide) (Pu.qo (p_pickF rfl rfl)) ?_
     refine Lin.q (v := .bool (false)) (by decide) (Pu.qo (p_move rfl)) ?_
     refine Lin.skip (by decide) rfl ?_
     refine Lin.skip (by decide) rfl ?_
     refine Lin.skip (by decide) rfl ?_
     refine Lin.q (v := .bool (false)) (by decide) (Pu.qo (p_pickF rfl rfl)) ?_
     refine Lin.q (v := .bool (false)) (by decide) (Pu.qo (p_assign rfl)) ?_
     have j3 := Option.some.inj j3; subst j3
     show At _ _ _ _ _ _
     exact n1 ⟨rfl, trivial⟩
   ·have j3 := cdF h5 j3
    refine Lin.q (v := .bool (false)) (by decide) (Qo.eqv (v := .bool (!sless v0.1 (⟨#[97]⟩ : ByteArray))) (Pu.qo (p_move rfl)) (congrArg Value.bool h5)) ?_
    refine Lin.skip (by decide) rfl ?_
    refine Lin.skip (by decide) rfl ?_
    refine Lin.skip (by decide) rfl ?_
    refine Lin.q (v := .bool (false)) (by decide) (Pu.qo (p_pickF rfl rfl)) ?_
    refine Lin.q (v := .bool (false)) (by decide) (Pu.qo (p_move rfl)) ?_
    refine Lin.skip (by decide) rfl ?_
    refine Lin.skip (by decide) rfl ?_
    refine Lin.skip (by decide) rfl ?_
    refine Lin.skip (by decide) rfl ?_
    refine Lin.q (v := .bool (false)) (by decide) (Pu.qo (p_pickF rfl rfl)) ?_
    refine Lin.q (v := .bool (false)) (by decide) (Pu.qo (p_move rfl)) ?_
    refine Lin.skip (by decide) rfl ?_
    refine Lin.skip (by decide) rfl ?_
    refine Lin.skip (by decide) rfl ?_
    refine Lin.q (v := .bool (false)) (by decide) (Pu.qo (p_pickF rfl rfl)) ?_
    refine Lin.q (v := .bool (false)) (by decide) (Pu.qo (p_move rfl)) ?_
    refine Lin.skip (by decide) rfl ?_
    refine Lin.skip (by decide) rfl ?_
    refine Lin.skip (by decide) rfl ?_
    refine Lin.q (v := .bool (false)) (by decide) (Pu.qo (p_pickF rfl rfl)) ?_
    refine Lin.q (v := .bool (false)) (by decide) (Pu.qo (p_assign rfl)) ?_
    have j3 := Option.some.inj j3; subst j3
    show At _ _ _ _ _ _
    exact n1 ⟨rfl, trivial⟩
  ·have j3 := cdF h4 j3
   refine Lin.q (v := .bool (false)) (by decide) (Qo.eqv (v := .bool (decide ((v0.1.size : Int) = 1))) (Pu.qo (p_move rfl)) (congrArg Value.bool h4)) ?_
   refine Lin.skip (by decide) rfl ?_
   refine Lin.skip (by decide) rfl ?_
   refine Lin.skip (by decide) rfl ?_
   refine Lin.q (v := .bool (false)) (by decide) (Pu.qo (p_pickF rfl rfl)) ?_
   refine Lin.q (v := .bool (false)) (by decide) (Pu.qo (p_move rfl)) ?_
   refine Lin.skip (by decide) rfl ?_
   refine Lin.skip (by decide) rfl ?_
   refine Lin.skip (by decide) rfl ?_
   refine Lin.q (v := .bool (false)) (by decide) (Pu.qo (p_pickF rfl rfl)) ?_
   refine Lin.q (v := .bool (false)) (by decide) (Pu.qo (p_move rfl)) ?_
   refine Lin.skip (by decide) rfl ?_
   refine Lin.skip (by decide) rfl ?_
   refine Lin.skip (by decide) rfl ?_
   refine Lin.skip (by decide) rfl ?_
   refine Lin.q (v := .bool (false)) (by decide) (Pu.qo (p_pickF rfl rfl)) ?_
   refine Lin.q (v := .bool (false)) (by decide) (Pu.qo (p_move rfl)) ?_
   refine Lin.skip (by decide) rfl ?_
   refine Lin.skip (by decide) rfl ?_
   refine Lin.skip (by decide) rfl ?_
   refine Lin.q (v := .bool (false)) (by decide) (Pu.qo (p_pickF rfl rfl)) ?_
   refine Lin.q (v := .bool (false)) (by decide) (Pu.qo (p_move rfl)) ?_
   refine Lin.skip (by decide) rfl ?_
   refine Lin.skip (by decide) rfl ?_
   refine Lin.skip (by decide) rfl ?_
   refine Lin.q (v := .bool (false)) (by decide) (Pu.qo (p_pickF rfl rfl)) ?_
   refine Lin.q (v := .bool (false)) (by decide) (Pu.qo (p_assign rfl)) ?_
   have j3 := Option.some.inj j3; subst j3
   show At _ _ _ _ _ _
   exact n1 ⟨rfl, trivial⟩
 refine tRet ?_
 have hr := Option.some.inj H; subst hr
 exact back1 () rfl (ResV.tmp (v := .bool (b2)) rfl) rfl Ents.nil Take.nil
noncomputable def p_impl_within (v0 : Int) (v1 : Int) (v2 : Int) : Option (Bool) := bd (cond (decide (v1 ≤ v0)) (some (decide (v0 ≤ v2))) (some (false))) fun b1 => some b1
theorem c_impl_within {r : Bool} (v0 : Int) (v1 : Int) (v2 : Int) (H : p_impl_within v0 v1 v2 = some r) : Fn' Try.prog 119 #[.int .i64 (v0), .int .i64 (v1), .int .i64 (v2)] [] [] (ι := Unit) (fun _ => .bool (r)) (fun _ => []) (fun _ => []) := by
 refine calls_of (args := [_, _, _]) Try.func119 rfl (by kernel_rfl) Try.ntmps119 (by simp) fun c => ?_
 unfold p_impl_within at H
 refine Tr.seq (Tr.region ?_)
 refine Rg.q (v := .bool (false)) (Pu.qo (p_assign rfl)) (by decide) (Rg.nl (nT ?_))
 obtain ⟨b1, j2, H⟩ := bd.of H
 refine tMid1 [(6, .bool (b1))] ?_ ?_
 ·refine tLinT [(0, .int .i64 (v0)), (1, .int .i64 (v1)), (2, .int .i64 (v2))] ⟨rfl, rfl, rfl, trivial⟩ ?_
  refine Lin.q (v := .int .i64 (v0)) (by decide) (Pu.qo (p_move rfl)) ?_
  refine Lin.q (v := .int .i64 (v1)) (by decide) (Pu.qo (p_move rfl)) ?_
  refine Lin.q (v := .bool (decide (v1 ≤ v0))) (by decide) (Pu.qo (p_geq rfl rfl)) ?_
  rcases Bool.eq_false_or_eq_true (decide (v1 ≤ v0)) with h3 | h3
  ·have j2 := cdT h3 j2
   refine Lin.q (v := .bool (true)) (by decide) (Qo.eqv (v := .bool (decide (v1 ≤ v0))) (Pu.qo (p_move rfl)) (congrArg Value.bool h3)) ?_
   refine Lin.g (v := .int .i64 (v0)) (by decide) rfl (Pu.qo (p_move rfl)) ?_
   refine Lin.g (v := .int .i64 (v2)) (by decide) rfl (Pu.qo (p_move rfl)) ?_
   refine Lin.g (v := .bool (decide (v0 ≤ v2))) (by decide) rfl (Pu.qo (p_leq rfl rfl)) ?_
   refine Lin.q (v := .bool (decide (v0 ≤ v2))) (by decide) (Pu.qo (p_pickT rfl rfl)) ?_
   refine Lin.q (v := .bool (decide (v0 ≤ v2))) (by decide) (Pu.qo (p_assign rfl)) ?_
   have j2 := Option.some.inj j2; subst j2
   show At _ _ _ _ _ _
   exact n1 ⟨rfl, trivial⟩
  ·have j2 := cdF h3 j2
   refine Lin.q (v := .bool (false)) (by decide) (Qo.eqv (v := .bool (decide (v1 ≤ v0))) (Pu.qo (p_move rfl)) (congrArg Value.bool h3)) ?_
   refine Lin.skip (by decide) rfl ?_
   refine Lin.skip (by decide) rfl ?_
   refine Lin.skip (by decide) rfl ?_
   refine Lin.q (v := .bool (false)) (by decide) (Pu.qo (p_pickF rfl rfl)) ?_
   refine Lin.q (v := .bool (false)) (by decide) (Pu.qo (p_assign rfl)) ?_
   have j2 := Option.some.inj j2; subst j2
   show At _ _ _ _ _ _
   exact n1 ⟨rfl, trivial⟩
 refine tRet ?_
 have hr := Option.some.inj H; subst hr
 exact back1 () rfl (ResV.tmp (v := .bool (b1)) rfl) rfl Ents.nil Take.nil
noncomputable def p_impl_NameOk_b0 (v0 : (List Tag)) (Q5 : Int) : Option ((Int) ⊕ (Unit ⊕ Bool)) := cond (decide (Q5 < (v0.length : Int))) (gd (ix Q5 v0.length) <| bd (bd (p_impl_tagOk (nth v0 Q5.toNat)) fun r18 => cond (!r18) (some (true)) (cond (decide (0 < Q5)) (gd (I64 (Q5 - 1)) <| gd (ix (Q5 - 1) v0.length) <| some (!sless ((nth v0 ((Q5 - 1).toNat)).1) ((nth v0 Q5.toNat).1))) (some (false)))) fun b16 => cond (b16) (some (.inr (.inr false))) (gd (I64 (Q5 + 1)) <| some (.inl (Q5 + 1)))) (some (.inr (.inl ())))
noncomputable def p_impl_NameOk (v0 : (List Tag)) : Option (Bool) := bd (lp (p_impl_NameOk_b0 v0) 0) <| sw (fun _ => bd (p_impl_within (v0.length : Int) 1 3) fun r27 => some r27) (fun q => some q)
theorem c_impl_NameOk {r : Bool} (v0 : (List Tag)) (x_v0 : Option Addr × Nat) (H : p_impl_NameOk v0 = some r) : Fn' Try.prog 72 #[.slice x_v0.1 v0.length x_v0.2] [imm (.slice x_v0.1 v0.length x_v0.2) v0] [] (ι := Unit) (fun _ => .bool (r)) (fun _ => []) (fun _ => []) := by
 refine calls_of (args := [_]) Try.func72 rfl (by kernel_rfl) Try.ntmps72 (by simp) fun c => ?_
 unfold p_impl_NameOk at H
 refine Tr.seq (Tr.region ?_)
 refine Rg.q (v := .bool (false)) (Pu.qo (p_assign rfl)) (by decide) (Rg.nl (nT ?_))
 refine Tr.seq (Tr.seq (Tr.region ?_))
 refine Rg.q (v := .slice x_v0.1 v0.length x_v0.2) (Pu.qo (p_move rfl)) (by decide) ?_
 refine Rg.q (v := .int .i64 ((v0.length : Int))) (Pu.qo (p_len 30 Try.underlying38 rfl)) (by decide) ?_
 refine Rg.q (v := .int .i64 (0)) (Pu.qo (p_move rfl)) (by decide) (Rg.nl (nT ?_))
 obtain ⟨x1, hx2, H⟩ := bd.of H
 obtain ⟨n3, hx2⟩ := lp.of hx2
 refine tMidNC (ι := { q : (Unit) × Unit // x1 = .inl q.1 }) (fun ψ => [(0, .slice x_v0.1 v0.length x_v0.2)]) (fun ψ => []) ?_ ?_
 ·refine Tr.block ?_
  refine tLoopC (ι := { q : Nat × (Int) × Unit // itr (p_impl_NameOk_b0 v0) q.1 q.2.1 = some x1 }) (fun ζ => [(0, .slice x_v0.1 v0.length x_v0.2), (5, .slice x_v0.1 v0.length x_v0.2), (6, .int .i64 ((v0.length : Int))), (7, .int .i64 (ζ.1.2.1))]) (fun ζ => []) (fun ζ => ζ.1.1) ⟨(n3, 0, ()), hx2⟩ ⟨rfl, rfl, rfl, rfl, trivial⟩ Take.nil ?_
  rintro ⟨⟨m4, Q5, z6⟩, hk11⟩
  obtain ⟨m12, t8, e, H1, hi9, hb10⟩ := itr.of (n := m4) (s := Q5) hk11
  subst e; unfold p_impl_NameOk_b0 at H1
  show Tr _ _ _ _ _ [(0, .slice x_v0.1 v0.length x_v0.2), (5, .slice x_v0.1 v0.length x_v0.2), (6, .int .i64 ((v0.length : Int))), (7, .int .i64 (Q5))] _ []
  refine Tr.seq (Tr.region ?_)
  refine Rg.q (v := .bool (decide (Q5 < (v0.length : Int)))) (Pu.qo (p_lss rfl rfl)) (by decide) (Rg.nl (nT ?_))
  refine Tr.seq ?_
  refine Tr.cond (b := decide (Q5 < (v0.length : Int))) rfl (fun h13 => ?_) (fun h13 => ?_)
  ·have H1 := cdT h13 H1
   refine tSkip ?_
   refine nT (Tr.seq ?_)
   refine Tr.block ?_
   refine Tr.seq (Tr.region ?_)
   refine Rg.q (v := .int .i64 (Q5)) (Pu.qo (p_move rfl)) (by decide) ?_
   obtain ⟨h14, H1⟩ := gd.of H1
   refine Rg.q (v := elp x_v0.1 (Q5.toNat * Enc.sz Tag + 0)) (q_ixg (l := v0) (E := fun i => Flat.enc (nth v0 i)) (oa := x_v0.1) Try.underlying38 ty30 rfl rfl h14 rfl (EntB.flat (Ent.b Ent.z))) (by decide) ?_
   refine Rg.q (v := .agg #[.string ((nth v0 Q5.toNat).1), .string ((nth v0 Q5.toNat).2)]) (q_ldeA (l := v0) (E := fun i => Flat.enc (nth v0 i)) (oa := x_v0.1) (i := Q5.toNat) ty30 rfl (EntB.flat (Ent.b Ent.z)) h14.lt) (by decide) ?_
   refine Rg.ed (e_alloc ty30) rfl (by decide) ?_
   rintro _ _ _ ⟨g15, rfl, rfl, rfl⟩
   refine Rg.q (v := .int .i64 (Q5)) (Pu.qo (p_assign rfl)) (by decide) ?_
   refine Rg.en (e_store (v := .agg #[.string ((nth v0 Q5.toNat).1), .string ((nth v0 Q5.toNat).2)]) (cs' := [.string ((nth v0 Q5.toNat).1), .string ((nth v0 Q5.toNat).2)]) ty30 rfl rfl Upd.here rfl (by simp [Value.cells, Value.oneCell']) (Nat.le_of_ble_eq_true rfl) rfl) rfl ?_
   rintro _ _ _ ⟨rfl, rfl, rfl⟩
   refine Rg.nl (nT ?_)
   obtain ⟨b16, j17, H1⟩ := bd.of H1
   refine tMid1 [(29, .bool (b16)), (0, .slice x_v0.1 v0.length x_v0.2), (5, .slice x_v0.1 v0.length x_v0.2), (6, .int .i64 ((v0.length : Int))), (7, .int .i64 (Q5))] ?_ ?_
   ·refine tLinS [(3, .int .i64 (Q5)), (4, .pointer (some ⟨g15, 0, none⟩)), (0, .slice x_v0.1 v0.length x_v0.2), (5, .slice x_v0.1 v0.length x_v0.2), (6, .int .i64 ((v0.length : Int))), (7, .int .i64 (Q5))] Try.mixed (.inr (by kernel_rfl)) ⟨rfl, rfl, rfl, rfl, rfl, rfl, trivial⟩ rfl ?_
    refine Lin.q (v := .agg #[.string ((nth v0 Q5.toNat).1), .string ((nth v0 Q5.toNat).2)]) (by decide) (q_ldbA ty30 rfl Has.here rfl) ?_
    obtain ⟨r18, h19, j17⟩ := bd.of j17
    refine Lin.q (v := .bool (r18)) (by decide) (q_call (vs := [.agg #[.string ((nth v0 Q5.toNat).1), .string ((nth v0 Q5.toNat).2)]]) (c_impl_tagOk (nth v0 Q5.toNat) h19) rfl EntsB.nil) ?_
    refine Lin.q (v := .bool (!r18)) (by decide) (Pu.qo (p_not rfl)) ?_
    rcases Bool.eq_false_or_eq_true (!r18) with h20 | h20
    ·have j17 := cdT h20 j17
     refine Lin.q (v := .bool (true)) (by decide) (Qo.eqv (v := .bool (!r18)) (Pu.qo (p_move rfl)) (congrArg Value.bool h20)) ?_
     refine Lin.skip (by decide) rfl ?_
     refine Lin.skip (by decide) rfl ?_
     refine Lin.skip (by decide) rfl ?_
     refine Lin.skip (by decide) rfl ?_
     refine Lin.skip (by decide) rfl ?_
     refine Lin.skip (by decide) rfl ?_
     refine Lin.skip (by decide) rfl ?_
     refine Lin.skip (by decide) rfl ?_
     refine Lin.skip (by decide) rfl ?_
     refine Lin.skip (by decide) rfl ?_
     refine Lin.skip (by decide) rfl ?_
     refine Lin.skip (by decide) rfl ?_
     refine Lin.skip (by decide) rfl ?_
     refine Lin.q (v := .bool (true)) (by decide) (Pu.qo (p_pickT rfl rfl)) ?_
     have j17 := Option.some.inj j17; subst j17
     show At _ _ _ _ _ _
     exact n1 ⟨rfl, rfl, rfl, rfl, rfl, trivial⟩
    ·have j17 := cdF h20 j17
     refine Lin.q (v := .bool (false)) (by decide) (Qo.eqv (v := .bool (!r18)) (Pu.qo (p_move rfl)) (congrArg Value.bool h20)) ?_
     refine Lin.g (v := .int .i64 (Q5)) (by decide) rfl (Pu.qo (p_move rfl)) ?_
     refine Lin.g (v := .bool (decide (0 < Q5))) (by decide) rfl (Pu.qo (p_gtr rfl rfl)) ?_
     rcases Bool.eq_false_or_eq_true (decide (0 < Q5)) with h21 | h21
     ·have j17 := cdT h21 j17
      refine Lin.g (v := .bool (true)) (by decide) rfl (Qo.eqv (v := .bool (decide (0 < Q5))) (Pu.qo (p_move rfl)) (congrArg Value.bool h21)) ?_
      refine Lin.g (v := .slice x_v0.1 v0.length x_v0.2) (by decide) rfl (Pu.qo (p_move rfl)) ?_
      refine Lin.g (v := .int .i64 (Q5)) (by decide) rfl (Pu.qo (p_move rfl)) ?_
      obtain ⟨h22, j17⟩ := gd.of j17
      refine Lin.g (v := .int .i64 (Q5 - 1)) (by decide) rfl (Pu.qo (p_sub rfl rfl h22)) ?_
      obtain ⟨h23, j17⟩ := gd.of j17
      refine Lin.g (v := elp x_v0.1 (((Q5 - 1).toNat) * Enc.sz Tag + 0)) (by decide) rfl (q_ixg (l := v0) (E := fun i => Flat.enc (nth v0 i)) (oa := x_v0.1) Try.underlying38 ty30 rfl rfl h23 rfl (EntB.flat (Ent.b Ent.z))) ?_
      refine Lin.g (v := elp x_v0.1 (((Q5 - 1).toNat) * Enc.sz Tag + 0)) (by decide) rfl (q_faeE (l := v0) (E := fun i => Flat.enc (nth v0 i)) (oa := x_v0.1) (j := 0) ((Q5 - 1).toNat) fa30_0 rfl (EntB.flat (Ent.b Ent.z)) h23.lt rfl) ?_
      refine Lin.g (v := .string ((nth v0 ((Q5 - 1).toNat)).1)) (by decide) rfl (q_lde (l := v0) (E := fun i => Flat.enc (nth v0 i)) (oa := x_v0.1) (i := (Q5 - 1).toNat) (j := 0) ty9 rfl (EntB.flat (Ent.b Ent.z)) h23.lt rfl) ?_
      refine Lin.g (v := .pointer (some ⟨g15, 0, none⟩)) (by decide) rfl (Pu.qo (p_fabE fa30_0 rfl rfl)) ?_
      refine Lin.g (v := .string ((nth v0 Q5.toNat).1)) (by decide) rfl (q_ldb ty9 rfl Has.here rfl) ?_
      refine Lin.g (v := .bool (!sless ((nth v0 ((Q5 - 1).toNat)).1) ((nth v0 Q5.toNat).1))) (by decide) rfl (Pu.qo (p_sgeq rfl rfl)) ?_
      refine Lin.g (v := .bool (!sless ((nth v0 ((Q5 - 1).toNat)).1) ((nth v0 Q5.toNat).1))) (by decide) rfl (Pu.qo (p_pickT rfl rfl)) ?_
      refine Lin.q (v := .bool (!sless ((nth v0 ((Q5 - 1).toNat)).1) ((nth v0 Q5.toNat).1))) (by decide) (Pu.qo (p_pickF rfl rfl)) ?_
      have j17 := Option.some.inj j17; subst j17
      show At _ _ _ _ _ _
      exact n1 ⟨rfl, rfl, rfl, rfl, rfl, trivial⟩
     ·have j17 := cdF h21 j17
      refine Lin.g (v := .bool (false)) (by decide) rfl (Qo.eqv (v := .bool (decide (0 < Q5))) (Pu.qo (p_move rfl)) (congrArg Value.bool h21)) ?_
      refine Lin.skip (by decide) rfl ?_
      refine Lin.skip (by decide) rfl ?_
      refine Lin.skip (by decide) rfl ?_
      refine Lin.skip (by decide) rfl ?_
      refine Lin.skip (by decide) rfl ?_
      refine Lin.skip (by decide) rfl ?_
      refine Lin.skip (by decide) rfl ?_
      refine Lin.skip (by decide) rfl ?_
      refine Lin.skip (by decide) rfl ?_
      refine Lin.g (v := .bool (false)) (by decide) rfl (Pu.qo (p_pickF rfl rfl)) ?_
      refine Lin.q (v := .bool (false)) (by decide) (Pu.qo (p_pickF rfl rfl)) ?_
      have j17 := Option.some.inj j17; subst j17
      show At _ _ _ _ _ _
      exact n1 ⟨rfl, rfl, rfl, rfl, rfl, trivial⟩
   refine Tr.cond (b := b16) rfl (fun h24 => ?_) (fun h24 => ?_)
   ·have H1 := cdT h24 H1
    refine Tr.seq (Tr.region ?_)
    refine Rg.q (v := .bool (false)) (Pu.qo (p_assign rfl)) (by decide) (Rg.nl (nT ?_))
    refine tRet ?_
    refine rB (rT (rT (rB (rT (rT (?_))))))
    have hx := hb10 _ (Option.some.inj H1).symm; subst hx
    replace H := sw.r H
    have hr := Option.some.inj H; subst hr
    exact back1 () rfl (ResV.tmp (v := .bool (false)) rfl) rfl Ents.nil Take.nil
   ·have H1 := cdF h24 H1
    refine tSkip ?_
    refine nB (nT (?_))
    refine Tr.region ?_
    obtain ⟨h25, H1⟩ := gd.of H1
    refine Rg.q (v := .int .i64 (Q5 + 1)) (Pu.qo (p_add rfl rfl h25)) (by decide) ?_
    refine Rg.q (v := .int .i64 (Q5 + 1)) (Pu.qo (p_move rfl)) (by decide) (Rg.nl ?_)
    exact nLC ⟨(m12, Q5 + 1, ()), hi9 _ (Option.some.inj H1).symm⟩ (Nat.lt_succ_self _) ⟨rfl, rfl, rfl, rfl, trivial⟩ Ents.refl Take.nil
  ·have H1 := cdF h13 H1
   refine tExit (xT (xT (xE (?_))))
   exact nMC ⟨((), ()), (hb10 _ (Option.some.inj H1).symm).symm⟩ ⟨rfl, trivial⟩ Ents.refl Take.nil
 ·rintro ⟨⟨e26, y7⟩, hx⟩; subst hx; replace H := sw.l H
  show At _ _ [(0, .slice x_v0.1 v0.length x_v0.2)] _ [] _
  refine nT (?_)
  refine Tr.seq (Tr.region ?_)
  refine Rg.q (v := .slice x_v0.1 v0.length x_v0.2) (Pu.qo (p_move rfl)) (by decide) ?_
  refine Rg.q (v := .int .i64 ((v0.length : Int))) (Pu.qo (p_len 30 Try.underlying38 rfl)) (by decide) ?_
  obtain ⟨r27, h28, H⟩ := bd.of H
  refine Rg.q (v := .bool (r27)) (q_call (vs := [.int .i64 ((v0.length : Int)), .int .i64 (1), .int .i64 (3)]) (c_impl_within (v0.length : Int) 1 3 h28) rfl EntsB.nil) (by decide) ?_
  refine Rg.q (v := .bool (r27)) (Pu.qo (p_assign rfl)) (by decide) (Rg.nl (nT ?_))
  refine tRet ?_
  have hr := Option.some.inj H; subst hr
  exact back1 () rfl (ResV.tmp (v := .bool (r27)) rfl) rfl Ents.nil Take.nil
noncomputable def p_slices_Equal_Tag_Tag_b0 (v0 : (List Tag)) (v1 : (List Tag)) (Q6 : Int) : Option ((Int) ⊕ (Unit ⊕ Bool)) := cond (decide (Q6 < (v0.length : Int))) (gd (ix Q6 v0.length) <| gd (ix Q6 v1.length) <| cond (!decide (nth v0 Q6.toNat = nth v1 Q6.toNat)) (some (.inr (.inr false))) (gd (I64 (Q6 + 1)) <| some (.inl (Q6 + 1)))) (some (.inr (.inl ())))
noncomputable def p_slices_Equal_Tag_Tag (v0 : (List Tag)) (v1 : (List Tag)) : Option (Bool) := cond (!decide ((v0.length : Int) = (v1.length : Int))) (some false) (bd (lp (p_slices_Equal_Tag_Tag_b0 v0 v1) 0) <| sw (fun _ => some true) (fun q => some q))
theorem c_slices_Equal_Tag_Tag {r : Bool} (v0 : (List Tag)) (x_v0 : Option Addr × Nat) (v1 : (List Tag)) (x_v1 : Option Addr × Nat) (H : p_slices_Equal_Tag_Tag v0 v1 = some r) : Fn' Try.prog 122 #[.slice x_v0.1 v0.length x_v0.2, .slice x_v1.1 v1.length x_v1.2] [imm (.slice x_v0.1 v0.length x_v0.2) v0, imm (.slice x_v1.1 v1.length x_v1.2) v1] [] (ι := Unit) (fun _ => .bool (r)) (fun _ => []) (fun _ => []) := by
 refine calls_of (args := [_, _]) Try.func122 rfl (by kernel_rfl) Try.ntmps122 (by simp) fun c => ?_
 unfold p_slices_Equal_Tag_Tag at H
 refine Tr.seq (Tr.region ?_)
 refine Rg.q (v := .bool (false)) (Pu.qo (p_assign rfl)) (by decide) (Rg.nl (nT ?_))
 refine Tr.seq (Tr.seq (Tr.region ?_))
 refine Rg.q (v := .slice x_v0.1 v0.length x_v0.2) (Pu.qo (p_move rfl)) (by decide) ?_
 refine Rg.q (v := .int .i64 ((v0.length : Int))) (Pu.qo (p_len 30 Try.underlying38 rfl)) (by decide) ?_
 refine Rg.q (v := .slice x_v1.1 v1.length x_v1.2) (Pu.qo (p_move rfl)) (by decide) ?_
 refine Rg.q (v := .int .i64 ((v1.length : Int))) (Pu.qo (p_len 30 Try.underlying38 rfl)) (by decide) ?_
 refine Rg.q (v := .bool (!decide ((v0.length : Int) = (v1.length : Int)))) (Pu.qo (p_neq rfl rfl)) (by decide) (Rg.nl (nT ?_))
 refine Tr.cond (b := !decide ((v0.length : Int) = (v1.length : Int))) rfl (fun h1 => ?_) (fun h1 => ?_)
 ·have H := cdT h1 H
  refine Tr.seq (Tr.region ?_)
  refine Rg.q (v := .bool (false)) (Pu.qo (p_assign rfl)) (by decide) (Rg.nl (nT ?_))
  refine tRet ?_
  refine rT (?_)
  have hr := Option.some.inj H; subst hr
  exact back1 () rfl (ResV.tmp (v := .bool (false)) rfl) rfl Ents.nil Take.nil
 ·have H := cdF h1 H
  refine tSkip ?_
  refine nT (?_)
  refine Tr.seq (Tr.seq (Tr.region ?_))
  refine Rg.q (v := .slice x_v0.1 v0.length x_v0.2) (Pu.qo (p_move rfl)) (by decide) ?_
  refine Rg.q (v := .int .i64 ((v0.length : Int))) (Pu.qo (p_len 30 Try.underlying38 rfl)) (by decide) ?_
  refine Rg.q (v := .int .i64 (0)) (Pu.qo (p_move rfl)) (by decide) (Rg.nl (nT ?_))
  obtain ⟨x2, hx3, H⟩ := bd.of H
  obtain ⟨n4, hx3⟩ := lp.of hx3
  refine tMidNC (ι := { q : (Unit) × Unit // x2 = .inl q.1 }) (fun ψ => []) (fun ψ => []) ?_ ?_
  ·refine Tr.block ?_
   refine tLoopC (ι := { q : Nat × (Int) × Unit // itr (p_slices_Equal_Tag_Tag_b0 v0 v1) q.1 q.2.1 = some x2 }) (fun ζ => [(0, .slice x_v0.1 v0.length x_v0.2), (1, .slice x_v1.1 v1.length x_v1.2), (12, .int .i64 ((v0.length : Int))), (13, .int .i64 (ζ.1.2.1))]) (fun ζ => []) (fun ζ => ζ.1.1) ⟨(n4, 0, ()), hx3⟩ ⟨rfl, rfl, rfl, rfl, trivial⟩ Take.nil ?_
   rintro ⟨⟨m5, Q6, z7⟩, hk12⟩
   obtain ⟨m13, t9, e, H1, hi10, hb11⟩ := itr.of (n := m5) (s := Q6) hk12
   subst e; unfold p_slices_Equal_Tag_Tag_b0 at H1
   show Tr _ _ _ _ _ [(0, .slice x_v0.1 v0.length x_v0.2), (1, .slice x_v1.1 v1.length x_v1.2), (12, .int .i64 ((v0.length : Int))), (13, .int .i64 (Q6))] _ []
   refine Tr.seq (Tr.region ?_)
   refine Rg.q (v := .bool (decide (Q6 < (v0.length : Int)))) (Pu.qo (p_lss rfl rfl)) (by decide) (Rg.nl (nT ?_))
   refine Tr.seq ?_
   refine Tr.cond (b := decide (Q6 < (v0.length : Int))) rfl (fun h14 => ?_) (fun h14 => ?_)
   ·have H1 := cdT h14 H1
    refine tSkip ?_
    refine nT (Tr.seq ?_)
    refine Tr.block ?_
    refine Tr.seq (Tr.region ?_)
    refine Rg.q (v := .int .i64 (Q6)) (Pu.qo (p_move rfl)) (by decide) ?_
    refine Rg.q (v := .int .i64 (Q6)) (Pu.qo (p_assign rfl)) (by decide) (Rg.nl (nT ?_))
    refine Tr.seq ?_
    refine tLinS [(5, .int .i64 (Q6)), (0, .slice x_v0.1 v0.length x_v0.2), (1, .slice x_v1.1 v1.length x_v1.2), (12, .int .i64 ((v0.length : Int))), (13, .int .i64 (Q6))] Try.mixed (.inr (by kernel_rfl)) ⟨rfl, rfl, rfl, rfl, rfl, trivial⟩ rfl ?_
    refine Lin.q (v := .slice x_v0.1 v0.length x_v0.2) (by decide) (Pu.qo (p_move rfl)) ?_
    refine Lin.q (v := .int .i64 (Q6)) (by decide) (Pu.qo (p_move rfl)) ?_
    obtain ⟨h15, H1⟩ := gd.of H1
    refine Lin.q (v := elp x_v0.1 (Q6.toNat * Enc.sz Tag + 0)) (by decide) (q_ixg (l := v0) (E := fun i => Flat.enc (nth v0 i)) (oa := x_v0.1) Try.underlying38 ty30 rfl rfl h15 rfl (EntB.flat (Ent.b Ent.z))) ?_
    refine Lin.q (v := .agg #[.string ((nth v0 Q6.toNat).1), .string ((nth v0 Q6.toNat).2)]) (by decide) (q_ldeA (l := v0) (E := fun i => Flat.enc (nth v0 i)) (oa := x_v0.1) (i := Q6.toNat) ty30 rfl (EntB.flat (Ent.b Ent.z)) h15.lt) ?_
    refine Lin.q (v := .slice x_v1.1 v1.length x_v1.2) (by decide) (Pu.qo (p_move rfl)) ?_
    refine Lin.q (v := .int .i64 (Q6)) (by decide) (Pu.qo (p_move rfl)) ?_
    obtain ⟨h16, H1⟩ := gd.of H1
    refine Lin.q (v := elp x_v1.1 (Q6.toNat * Enc.sz Tag + 0)) (by decide) (q_ixg (l := v1) (E := fun i => Flat.enc (nth v1 i)) (oa := x_v1.1) Try.underlying38 ty30 rfl rfl h16 rfl (EntB.flat (Ent.b Ent.z.s))) ?_
    refine Lin.q (v := .agg #[.string ((nth v1 Q6.toNat).1), .string ((nth v1 Q6.toNat).2)]) (by decide) (q_ldeA (l := v1) (E := fun i => Flat.enc (nth v1 i)) (oa := x_v1.1) (i := Q6.toNat) ty30 rfl (EntB.flat (Ent.b Ent.z.s)) h16.lt) ?_
    refine Lin.q (v := .bool (!decide (nth v0 Q6.toNat = nth v1 Q6.toNat))) (by decide) (Pu.qo (p_aneq (a := nth v0 Q6.toNat) (b := nth v1 Q6.toNat) ae30 rfl rfl rfl rfl)) ?_
    show At _ _ _ _ _ _
    refine nT (?_)
    refine Tr.cond (b := !decide (nth v0 Q6.toNat = nth v1 Q6.toNat)) rfl (fun h17 => ?_) (fun h17 => ?_)
    ·have H1 := cdT h17 H1
     refine Tr.seq (Tr.region ?_)
     refine Rg.q (v := .bool (false)) (Pu.qo (p_assign rfl)) (by decide) (Rg.nl (nT ?_))
     refine tRet ?_
     refine rB (rT (rT (rB (rT (rT (?_))))))
     have hx := hb11 _ (Option.some.inj H1).symm; subst hx
     replace H := sw.r H
     have hr := Option.some.inj H; subst hr
     exact back1 () rfl (ResV.tmp (v := .bool (false)) rfl) rfl Ents.nil Take.nil
    ·have H1 := cdF h17 H1
     refine tSkip ?_
     refine nB (nT (?_))
     refine Tr.region ?_
     obtain ⟨h18, H1⟩ := gd.of H1
     refine Rg.q (v := .int .i64 (Q6 + 1)) (Pu.qo (p_add rfl rfl h18)) (by decide) ?_
     refine Rg.q (v := .int .i64 (Q6 + 1)) (Pu.qo (p_move rfl)) (by decide) (Rg.nl ?_)
     exact nLC ⟨(m13, Q6 + 1, ()), hi10 _ (Option.some.inj H1).symm⟩ (Nat.lt_succ_self _) ⟨rfl, rfl, rfl, rfl, trivial⟩ Ents.refl Take.nil
   ·have H1 := cdF h14 H1
    refine tExit (xT (xT (xE (?_))))
    exact nMC ⟨((), ()), (hb11 _ (Option.some.inj H1).symm).symm⟩ trivial Ents.refl Take.nil
  ·rintro ⟨⟨e19, y8⟩, hx⟩; subst hx; replace H := sw.l H
   show At _ _ [] _ [] _
   refine nT (?_)
   refine Tr.seq (Tr.region ?_)
   refine Rg.q (v := .bool (true)) (Pu.qo (p_assign rfl)) (by decide) (Rg.nl (nT ?_))
   refine tRet ?_
   have hr := Option.some.inj H; subst hr
   exact back1 () rfl (ResV.tmp (v := .bool (true)) rfl) rfl Ents.nil Take.nil
noncomputable def p_impl_numberOf_1 (v0 : (List Tag)) (k0 : (List Tag)) : Option (Bool) := bd (p_slices_Equal_Tag_Tag v0 k0) fun r1 => some r1
theorem c_impl_numberOf_1 {r : Bool} (v0 : (List Tag)) (x_v0 : Option Addr × Nat) (g_k0 : Nat) (k0 : (List Tag)) (x_k0 : Option Addr × Nat) (H : p_impl_numberOf_1 v0 k0 = some r) : Fn' Try.prog 121 #[.slice x_v0.1 v0.length x_v0.2, .pointer (some ⟨g_k0, 0, none⟩)] [imm (.slice x_v0.1 v0.length x_v0.2) v0, imm (.slice x_k0.1 k0.length x_k0.2) k0] [box g_k0 38 [.slice x_k0.1 k0.length x_k0.2]] (ι := Unit) (fun _ => .bool (r)) (fun _ => []) (fun _ => [box g_k0 38 [.slice x_k0.1 k0.length x_k0.2]]) := by
 refine calls_of (args := [_, _]) Try.func121 rfl (by kernel_rfl) Try.ntmps121 (by simp) fun c => ?_
 unfold p_impl_numberOf_1 at H
 refine Tr.seq (Tr.region ?_)
 refine Rg.q (v := .bool (false)) (Pu.qo (p_assign rfl)) (by decide) (Rg.nl (nT ?_))
 refine Tr.seq (Tr.region ?_)
 refine Rg.q (v := .slice x_v0.1 v0.length x_v0.2) (Pu.qo (p_move rfl)) (by decide) ?_
 refine Rg.q (v := .slice x_k0.1 k0.length x_k0.2) (q_ldb ty38 rfl Has.here rfl) (by decide) ?_
 obtain ⟨r1, h2, H⟩ := bd.of H
 refine Rg.q (v := .bool (r1)) (q_call (vs := [.slice x_v0.1 v0.length x_v0.2, .slice x_k0.1 k0.length x_k0.2]) (c_slices_Equal_Tag_Tag v0 x_v0 k0 x_k0 h2) rfl (EntsB.cons (Ent.b Ent.z) (EntsB.cons (Ent.b Ent.z.s) EntsB.nil))) (by decide) ?_
 refine Rg.q (v := .bool (r1)) (Pu.qo (p_assign rfl)) (by decide) (Rg.nl (nT ?_))
 refine tRet ?_
 have hr := Option.some.inj H; subst hr
 exact back1 () rfl (ResV.tmp (v := .bool (r1)) rfl) rfl Ents.nil (.cons Del.here .nil)
noncomputable def p_slices_IndexFunc_Tag_Tag_numberOf_1_b0 (v0 : (List (List Tag))) (v1_0 : (List Tag)) (Q6 : Int) : Option ((Int) ⊕ (Unit ⊕ Int)) := cond (decide (Q6 < (v0.length : Int))) (gd (ix Q6 v0.length) <| bd (p_impl_numberOf_1 (nth v0 Q6.toNat) v1_0) fun r16 => cond (r16) (some (.inr (.inr Q6))) (gd (I64 (Q6 + 1)) <| some (.inl (Q6 + 1)))) (some (.inr (.inl ())))
noncomputable def p_slices_IndexFunc_Tag_Tag_numberOf_1 (v0 : (List (List Tag))) (v1_0 : (List Tag)) : Option (Int) := bd (lp (p_slices_IndexFunc_Tag_Tag_numberOf_1_b0 v0 v1_0) 0) <| sw (fun _ => some (-1)) (fun q => some q)
theorem c_slices_IndexFunc_Tag_Tag_numberOf_1 {r : Int} (v0 : (List (List Tag))) (x_v0 : Option Addr × Nat) (g_v1_0 : Nat) (v1_0 : (List Tag)) (x_v1_0 : Option Addr × Nat) (H : p_slices_IndexFunc_Tag_Tag_numberOf_1 v0 v1_0 = some r) : Fn' Try.prog 120 #[.slice x_v0.1 v0.length x_v0.2, .func (.func 121) #[] #[.pointer (some ⟨g_v1_0, 0, none⟩)]] [imm (.slice x_v0.1 v0.length x_v0.2) v0, imm (.slice x_v1_0.1 v1_0.length x_v1_0.2) v1_0] [box g_v1_0 38 [.slice x_v1_0.1 v1_0.length x_v1_0.2]] (ι := Unit) (fun _ => .int .i64 (r)) (fun _ => []) (fun _ => [box g_v1_0 38 [.slice x_v1_0.1 v1_0.length x_v1_0.2]]) := by
 refine calls_of (args := [_, _]) Try.func120 rfl (by kernel_rfl) Try.ntmps120 (by simp) fun c => ?_
 unfold p_slices_IndexFunc_Tag_Tag_numberOf_1 at H
 refine Tr.openD Ent.z fun X1 => ?_
 refine Tr.seq (Tr.region ?_)
 refine Rg.q (v := .int .i64 (0)) (Pu.qo (p_assign rfl)) (by decide) (Rg.nl (nT ?_))
 refine Tr.seq (Tr.seq (Tr.region ?_))
 refine Rg.q (v := .slice x_v0.1 v0.length x_v0.2) (Pu.qo (p_move rfl)) (by decide) ?_
 refine Rg.q (v := .int .i64 ((v0.length : Int))) (Pu.qo (p_len 38 Try.underlying23 rfl)) (by decide) ?_
 refine Rg.q (v := .int .i64 (0)) (Pu.qo (p_move rfl)) (by decide) (Rg.nl (nT ?_))
 obtain ⟨x2, hx3, H⟩ := bd.of H
 obtain ⟨n4, hx3⟩ := lp.of hx3
 refine tMidNC (ι := { q : (Unit) × Unit // x2 = .inl q.1 }) (fun ψ => []) (fun ψ => [box g_v1_0 38 [.slice x_v1_0.1 v1_0.length x_v1_0.2]]) ?_ ?_
 ·refine Tr.block ?_
  refine tLoopC (ι := { q : Nat × (Int) × Unit // itr (p_slices_IndexFunc_Tag_Tag_numberOf_1_b0 v0 v1_0) q.1 q.2.1 = some x2 }) (fun ζ => [(0, .slice x_v0.1 v0.length x_v0.2), (1, .func (.func 121) #[] #[.pointer (some ⟨g_v1_0, 0, none⟩)]), (7, .int .i64 ((v0.length : Int))), (8, .int .i64 (ζ.1.2.1))]) (fun ζ => [box g_v1_0 38 [.slice x_v1_0.1 v1_0.length x_v1_0.2]]) (fun ζ => ζ.1.1) ⟨(n4, 0, ()), hx3⟩ ⟨rfl, rfl, rfl, rfl, trivial⟩ (.cons Del.here .nil) ?_
  rintro ⟨⟨m5, Q6, z7⟩, hk12⟩
  obtain ⟨m13, t9, e, H1, hi10, hb11⟩ := itr.of (n := m5) (s := Q6) hk12
  subst e; unfold p_slices_IndexFunc_Tag_Tag_numberOf_1_b0 at H1
  show Tr _ _ _ _ _ [(0, .slice x_v0.1 v0.length x_v0.2), (1, .func (.func 121) #[] #[.pointer (some ⟨g_v1_0, 0, none⟩)]), (7, .int .i64 ((v0.length : Int))), (8, .int .i64 (Q6))] _ [box g_v1_0 38 [.slice x_v1_0.1 v1_0.length x_v1_0.2]]
  refine Tr.seq (Tr.region ?_)
  refine Rg.q (v := .bool (decide (Q6 < (v0.length : Int)))) (Pu.qo (p_lss rfl rfl)) (by decide) (Rg.nl (nT ?_))
  refine Tr.seq ?_
  refine Tr.cond (b := decide (Q6 < (v0.length : Int))) rfl (fun h14 => ?_) (fun h14 => ?_)
  ·have H1 := cdT h14 H1
   refine tSkip ?_
   refine nT (Tr.seq ?_)
   refine Tr.block ?_
   refine Tr.seq (Tr.region ?_)
   refine Rg.q (v := .int .i64 (Q6)) (Pu.qo (p_move rfl)) (by decide) ?_
   refine Rg.q (v := .int .i64 (Q6)) (Pu.qo (p_assign rfl)) (by decide) (Rg.nl (nT ?_))
   refine Tr.seq (Tr.region ?_)
   refine Rg.q (v := .func (.func 121) #[] #[.pointer (some ⟨g_v1_0, 0, none⟩)]) (Pu.qo (p_move rfl)) (by decide) ?_
   refine Rg.q (v := .slice x_v0.1 v0.length x_v0.2) (Pu.qo (p_move rfl)) (by decide) ?_
   refine Rg.q (v := .int .i64 (Q6)) (Pu.qo (p_move rfl)) (by decide) ?_
   obtain ⟨h15, H1⟩ := gd.of H1
   refine Rg.q (v := elp x_v0.1 (Q6.toNat * Enc.sz (List Tag) + 0)) (q_ixg (l := v0) (E := fun i => Dp.denc (nth v0 i) (X1 i)) (oa := x_v0.1) Try.underlying23 ty38 rfl rfl h15 rfl (Ent.b (Ent.darr Ent.z))) (by decide) ?_
   refine Rg.q (v := .slice ((X1 Q6.toNat).1) ((nth v0 Q6.toNat).length) ((X1 Q6.toNat).2.1)) (q_lde (l := v0) (E := fun i => Dp.denc (nth v0 i) (X1 i)) (oa := x_v0.1) (i := Q6.toNat) (j := 0) ty38 rfl (Ent.b (Ent.darr Ent.z)) h15.lt rfl) (by decide) ?_
   obtain ⟨r16, h17, H1⟩ := bd.of H1
   refine Rg.q (v := .bool (r16)) (Ex.dyn (caps := [.pointer (some ⟨g_v1_0, 0, none⟩)]) (vs := [.slice ((X1 Q6.toNat).1) ((nth v0 Q6.toNat).length) ((X1 Q6.toNat).2.1)]) rfl rfl (q_callC (vs := [.slice ((X1 Q6.toNat).1) ((nth v0 Q6.toNat).length) ((X1 Q6.toNat).2.1), .pointer (some ⟨g_v1_0, 0, none⟩)]) (c_impl_numberOf_1 (nth v0 Q6.toNat) ((X1 Q6.toNat).1, (X1 Q6.toNat).2.1) g_v1_0 v1_0 x_v1_0 h17) (Solo.box Solo.nil) rfl (.cons Del.here .nil) (EntsB.cons (Ent.b (Ent.dimm (Ent.del Ent.z h15.lt))) (EntsB.cons (Ent.b Ent.z.s.s) EntsB.nil)))) (by decide) (Rg.nl (nT ?_))
   refine Tr.cond (b := r16) rfl (fun h18 => ?_) (fun h18 => ?_)
   ·have H1 := cdT h18 H1
    refine Tr.seq (Tr.region ?_)
    refine Rg.q (v := .int .i64 (Q6)) (Pu.qo (p_move rfl)) (by decide) ?_
    refine Rg.q (v := .int .i64 (Q6)) (Pu.qo (p_assign rfl)) (by decide) (Rg.nl (nT ?_))
    refine tRet ?_
    refine rB (rT (rT (rB (rT (rT (?_))))))
    have hx := hb11 _ (Option.some.inj H1).symm; subst hx
    replace H := sw.r H
    have hr := Option.some.inj H; subst hr
    exact back1 () rfl (ResV.tmp (v := .int .i64 (Q6)) rfl) rfl Ents.nil (.cons Del.here .nil)
   ·have H1 := cdF h18 H1
    refine tSkip ?_
    refine nB (nT (?_))
    refine Tr.region ?_
    obtain ⟨h19, H1⟩ := gd.of H1
    refine Rg.q (v := .int .i64 (Q6 + 1)) (Pu.qo (p_add rfl rfl h19)) (by decide) ?_
    refine Rg.q (v := .int .i64 (Q6 + 1)) (Pu.qo (p_move rfl)) (by decide) (Rg.nl ?_)
    exact nLC ⟨(m13, Q6 + 1, ()), hi10 _ (Option.some.inj H1).symm⟩ (Nat.lt_succ_self _) ⟨rfl, rfl, rfl, rfl, trivial⟩ Ents.refl (.cons Del.here .nil)
  ·have H1 := cdF h14 H1
   refine tExit (xT (xT (xE (?_))))
   exact nMC ⟨((), ()), (hb11 _ (Option.some.inj H1).symm).symm⟩ trivial Ents.refl (.cons Del.here .nil)
 ·rintro ⟨⟨e20, y8⟩, hx⟩; subst hx; replace H := sw.l H
  show At _ _ [] _ [box g_v1_0 38 [.slice x_v1_0.1 v1_0.length x_v1_0.2]] _
  refine nT (?_)
  refine Tr.seq (Tr.region ?_)
  refine Rg.q (v := .int .i64 (-1)) (Pu.qo (p_assign rfl)) (by decide) (Rg.nl (nT ?_))
  refine tRet ?_
  have hr := Option.some.inj H; subst hr
  exact back1 () rfl (ResV.tmp (v := .int .i64 (-1)) rfl) rfl Ents.nil (.cons Del.here .nil)
noncomputable def p_impl_numberOf (v0 : (List (List Tag))) (v1 : (List Tag)) : Option (Int) := bd (p_slices_IndexFunc_Tag_Tag_numberOf_1 v0 v1) fun r3 => gd (I64 (r3 + 1)) <| some (r3 + 1)
theorem c_impl_numberOf {r : Int} (v0 : (List (List Tag))) (x_v0 : Option Addr × Nat) (v1 : (List Tag)) (x_v1 : Option Addr × Nat) (H : p_impl_numberOf v0 v1 = some r) : Fn' Try.prog 73 #[.slice x_v0.1 v0.length x_v0.2, .slice x_v1.1 v1.length x_v1.2] [imm (.slice x_v0.1 v0.length x_v0.2) v0, imm (.slice x_v1.1 v1.length x_v1.2) v1] [] (ι := Unit) (fun _ => .int .i64 (r)) (fun _ => []) (fun _ => []) := by
 refine calls_of (args := [_, _]) Try.func73 rfl (by kernel_rfl) Try.ntmps73 (by simp) fun c => ?_
 unfold p_impl_numberOf at H
 refine Tr.openD Ent.z fun X1 => ?_
 refine Tr.seq (Tr.region ?_)
 refine Rg.ed (e_box (t := 38) (v := .slice x_v1.1 v1.length x_v1.2) rfl) rfl (by decide) ?_
 rintro _ _ _ ⟨g2, rfl, rfl, rfl⟩
 refine Rg.q (v := .int .i64 (0)) (Pu.qo (p_assign rfl)) (by decide) (Rg.nl (nT ?_))
 refine Tr.seq (Tr.region ?_)
 refine Rg.q (v := .slice x_v0.1 v0.length x_v0.2) (Pu.qo (p_move rfl)) (by decide) ?_
 refine Rg.q (v := .func (.func 121) #[] #[.pointer (some ⟨g2, 0, none⟩)]) (Pu.qo (p_mkfunc (vs := [.pointer (some ⟨g2, 0, none⟩)]) rfl rfl)) (by decide) ?_
 obtain ⟨r3, h4, H⟩ := bd.of H
 refine Rg.q (v := .int .i64 (r3)) (q_callC (vs := [.slice x_v0.1 v0.length x_v0.2, .func (.func 121) #[] #[.pointer (some ⟨g2, 0, none⟩)]]) (c_slices_IndexFunc_Tag_Tag_numberOf_1 v0 x_v0 g2 v1 x_v1 h4) (Solo.box Solo.nil) rfl (.cons Del.here .nil) (EntsB.cons (Ent.b (Ent.dimm Ent.z)) (EntsB.cons (Ent.b Ent.z.s.s) EntsB.nil))) (by decide) ?_
 obtain ⟨h5, H⟩ := gd.of H
 refine Rg.q (v := .int .i64 (r3 + 1)) (Pu.qo (p_add rfl rfl h5)) (by decide) ?_
 refine Rg.q (v := .int .i64 (r3 + 1)) (Pu.qo (p_assign rfl)) (by decide) (Rg.nl (nT ?_))
 refine tRet ?_
 have hr := Option.some.inj H; subst hr
 exact back1 () rfl (ResV.tmp (v := .int .i64 (r3 + 1)) rfl) rfl Ents.nil Take.nil
noncomputable def p_impl_namesOk_b0 (v0 : (List (List Tag))) (Q6 : Int) : Option ((Int) ⊕ (Unit ⊕ Bool)) := cond (decide (Q6 < (v0.length : Int))) (gd (ix Q6 v0.length) <| bd (bd (p_impl_NameOk (nth v0 Q6.toNat)) fun r18 => cond (!r18) (some (true)) (bd (p_impl_numberOf v0 (nth v0 Q6.toNat)) fun r21 => gd (I64 (Q6 + 1)) <| some (!decide (r21 = (Q6 + 1))))) fun b16 => cond (b16) (some (.inr (.inr false))) (gd (I64 (Q6 + 1)) <| some (.inl (Q6 + 1)))) (some (.inr (.inl ())))
noncomputable def p_impl_namesOk (v0 : (List (List Tag))) : Option (Bool) := bd (lp (p_impl_namesOk_b0 v0) 0) <| sw (fun _ => some (decide ((v0.length : Int) ≤ 6))) (fun q => some q)
end Go.Proofs.Ytichamokohjneaa
