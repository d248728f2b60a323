/- The walks and the plain laws, part 1: each function that the law reaches computes what its plain function tells, and what the plain functions answer. Conditions: lengths that memory can hold. -/
import Derived.Test.YtjaibcpidajdcaaGreatSxB
import Derived.Test.YtjaibcpidajdcaaGreatProg
namespace Go.Proofs.YtjaibcpidajdcaaGreat
open Go Go.Sx
theorem Tryz.mixed : Tryz.prog.follows .mixedOrders = true := by kernel_rfl
abbrev Tag := ByteArray × ByteArray
abbrev PostH := Tag × HV
abbrev Post := Tag × (List Int)
abbrev Index := (List (List Tag)) × (List Post)
abbrev Row := Int × Int
abbrev Part := (List Int) × (List (List Row))
abbrev Sample := Int × Row
abbrev Store := Index × (List Part) × (List Sample)
instance : DecidableEq Tag := inferInstanceAs (DecidableEq (ByteArray × ByteArray))
instance : DecidableEq Post := inferInstanceAs (DecidableEq (Tag × (List Int)))
instance : DecidableEq Index := inferInstanceAs (DecidableEq ((List (List Tag)) × (List Post)))
instance : DecidableEq Row := inferInstanceAs (DecidableEq (Int × Int))
instance : DecidableEq Part := inferInstanceAs (DecidableEq ((List Int) × (List (List Row))))
instance : DecidableEq Sample := inferInstanceAs (DecidableEq (Int × Row))
instance : DecidableEq Store := inferInstanceAs (DecidableEq (Index × (List Part) × (List Sample)))
theorem ty3 : TyI Tryz.prog 3 false 1 (.int .i64 0) 8 := ⟨by kernel_rfl, by kernel_rfl, rfl⟩
theorem ty5 : TyI Tryz.prog 5 false 1 (.int .u8 0) 1 := ⟨by kernel_rfl, by kernel_rfl, rfl⟩
theorem ty9 : TyI Tryz.prog 9 false 1 (.string ⟨#[]⟩) 16 := ⟨by kernel_rfl, by kernel_rfl, rfl⟩
theorem ty22 : TyI Tryz.prog 22 false 1 (.slice none 0 0) 24 := ⟨by kernel_rfl, by kernel_rfl, rfl⟩
theorem ty23 : TyI Tryz.prog 23 false 1 (.slice none 0 0) 24 := ⟨by kernel_rfl, by kernel_rfl, rfl⟩
theorem ty25 : TyI Tryz.prog 25 true 2 (.agg #[.slice none 0 0, .slice none 0 0]) 48 := ⟨by kernel_rfl, by kernel_rfl, rfl⟩
theorem fa25_0 : FA Tryz.prog 25 0 0 := ⟨_, Tryz.underlying25, _, rfl, rfl, by obtain ⟨i, hi, _, hn, _⟩ := ty22.info'; exact ⟨i, hi, by rw [hn]; decide⟩⟩
theorem fa25_1 : FA Tryz.prog 25 1 1 := ⟨_, Tryz.underlying25, _, rfl, rfl, by obtain ⟨i, hi, _, hn, _⟩ := ty23.info'; exact ⟨i, hi, by rw [hn]; decide⟩⟩
theorem ty26 : TyI Tryz.prog 26 false 1 (.slice none 0 0) 24 := ⟨by kernel_rfl, by kernel_rfl, rfl⟩
theorem ty27 : TyI Tryz.prog 27 false 1 (.slice none 0 0) 24 := ⟨by kernel_rfl, by kernel_rfl, rfl⟩
theorem ty29 : TyI Tryz.prog 29 true 4 (.agg #[.slice none 0 0, .slice none 0 0, .slice none 0 0, .slice none 0 0]) 96 := ⟨by kernel_rfl, by kernel_rfl, rfl⟩
theorem fa29_0 : FA Tryz.prog 29 0 0 := ⟨_, Tryz.underlying29, _, rfl, rfl, by obtain ⟨i, hi, _, hn, _⟩ := ty25.info'; exact ⟨i, hi, by rw [hn]; decide⟩⟩
theorem fa29_1 : FA Tryz.prog 29 1 2 := ⟨_, Tryz.underlying29, _, rfl, rfl, by obtain ⟨i, hi, _, hn, _⟩ := ty26.info'; exact ⟨i, hi, by rw [hn]; decide⟩⟩
theorem fa29_2 : FA Tryz.prog 29 2 3 := ⟨_, Tryz.underlying29, _, rfl, rfl, by obtain ⟨i, hi, _, hn, _⟩ := ty27.info'; exact ⟨i, hi, by rw [hn]; decide⟩⟩
theorem ty32 : TyI Tryz.prog 32 false 1 (.slice none 0 0) 24 := ⟨by kernel_rfl, by kernel_rfl, rfl⟩
theorem ty33 : TyI Tryz.prog 33 false 1 (.slice none 0 0) 24 := ⟨by kernel_rfl, by kernel_rfl, rfl⟩
theorem ty35 : TyI Tryz.prog 35 true 2 (.agg #[.slice none 0 0, .slice none 0 0]) 48 := ⟨by kernel_rfl, by kernel_rfl, rfl⟩
theorem fa35_0 : FA Tryz.prog 35 0 0 := ⟨_, Tryz.underlying35, _, rfl, rfl, by obtain ⟨i, hi, _, hn, _⟩ := ty32.info'; exact ⟨i, hi, by rw [hn]; decide⟩⟩
theorem fa35_1 : FA Tryz.prog 35 1 1 := ⟨_, Tryz.underlying35, _, rfl, rfl, by obtain ⟨i, hi, _, hn, _⟩ := ty33.info'; exact ⟨i, hi, by rw [hn]; decide⟩⟩
theorem ty36 : TyI Tryz.prog 36 false 1 (.slice none 0 0) 24 := ⟨by kernel_rfl, by kernel_rfl, rfl⟩
theorem ty37 : TyI Tryz.prog 37 false 1 (.slice none 0 0) 24 := ⟨by kernel_rfl, by kernel_rfl, rfl⟩
theorem ty39 : TyI Tryz.prog 39 true 4 (.agg #[.slice none 0 0, .slice none 0 0, .slice none 0 0, .slice none 0 0]) 96 := ⟨by kernel_rfl, by kernel_rfl, rfl⟩
theorem fa39_0 : FA Tryz.prog 39 0 0 := ⟨_, Tryz.underlying39, _, rfl, rfl, by obtain ⟨i, hi, _, hn, _⟩ := ty35.info'; exact ⟨i, hi, by rw [hn]; decide⟩⟩
theorem fa39_1 : FA Tryz.prog 39 1 2 := ⟨_, Tryz.underlying39, _, rfl, rfl, by obtain ⟨i, hi, _, hn, _⟩ := ty36.info'; exact ⟨i, hi, by rw [hn]; decide⟩⟩
theorem fa39_2 : FA Tryz.prog 39 2 3 := ⟨_, Tryz.underlying39, _, rfl, rfl, by obtain ⟨i, hi, _, hn, _⟩ := ty37.info'; exact ⟨i, hi, by rw [hn]; decide⟩⟩
theorem ty43 : TyI Tryz.prog 43 false 1 (.slice none 0 0) 24 := ⟨by kernel_rfl, by kernel_rfl, rfl⟩
theorem ty51 : TyI Tryz.prog 51 false 1 (.slice none 0 0) 24 := ⟨by kernel_rfl, by kernel_rfl, rfl⟩
theorem ty53 : TyI Tryz.prog 53 true 2 (.agg #[.int .i64 0, .int .i64 0]) 16 := ⟨by kernel_rfl, by kernel_rfl, rfl⟩
theorem fa53_0 : FA Tryz.prog 53 0 0 := ⟨_, Tryz.underlying53, _, rfl, rfl, by obtain ⟨i, hi, _, hn, _⟩ := ty3.info'; exact ⟨i, hi, by rw [hn]; decide⟩⟩
theorem fa53_1 : FA Tryz.prog 53 1 1 := ⟨_, Tryz.underlying53, _, rfl, rfl, by obtain ⟨i, hi, _, hn, _⟩ := ty3.info'; exact ⟨i, hi, by rw [hn]; decide⟩⟩
theorem ty56 : TyI Tryz.prog 56 false 1 (.slice none 0 0) 24 := ⟨by kernel_rfl, by kernel_rfl, rfl⟩
theorem ty58 : TyI Tryz.prog 58 true 2 (.agg #[.int .i64 0, .int .i64 0]) 16 := ⟨by kernel_rfl, by kernel_rfl, rfl⟩
theorem fa58_0 : FA Tryz.prog 58 0 0 := ⟨_, Tryz.underlying58, _, rfl, rfl, by obtain ⟨i, hi, _, hn, _⟩ := ty3.info'; exact ⟨i, hi, by rw [hn]; decide⟩⟩
theorem fa58_1 : FA Tryz.prog 58 1 1 := ⟨_, Tryz.underlying58, _, rfl, rfl, by obtain ⟨i, hi, _, hn, _⟩ := ty3.info'; exact ⟨i, hi, by rw [hn]; decide⟩⟩
theorem ty69 : TyI Tryz.prog 69 false 1 (.slice none 0 0) 24 := ⟨by kernel_rfl, by kernel_rfl, rfl⟩
theorem ty70 : TyI Tryz.prog 70 false 1 (.slice none 0 0) 24 := ⟨by kernel_rfl, by kernel_rfl, rfl⟩
theorem ty72 : TyI Tryz.prog 72 true 2 (.agg #[.slice none 0 0, .slice none 0 0]) 48 := ⟨by kernel_rfl, by kernel_rfl, rfl⟩
theorem fa72_0 : FA Tryz.prog 72 0 0 := ⟨_, Tryz.underlying72, _, rfl, rfl, by obtain ⟨i, hi, _, hn, _⟩ := ty69.info'; exact ⟨i, hi, by rw [hn]; decide⟩⟩
theorem fa72_1 : FA Tryz.prog 72 1 1 := ⟨_, Tryz.underlying72, _, rfl, rfl, by obtain ⟨i, hi, _, hn, _⟩ := ty70.info'; exact ⟨i, hi, by rw [hn]; decide⟩⟩
theorem ty75 : TyI Tryz.prog 75 true 3 (.agg #[.int .i64 0, .int .i64 0, .int .i64 0]) 24 := ⟨by kernel_rfl, by kernel_rfl, rfl⟩
theorem fa75_0 : FA Tryz.prog 75 0 0 := ⟨_, Tryz.underlying75, _, rfl, rfl, by obtain ⟨i, hi, _, hn, _⟩ := ty3.info'; exact ⟨i, hi, by rw [hn]; decide⟩⟩
theorem fa75_1 : FA Tryz.prog 75 1 1 := ⟨_, Tryz.underlying75, _, rfl, rfl, by obtain ⟨i, hi, _, hn, _⟩ := ty58.info'; exact ⟨i, hi, by rw [hn]; decide⟩⟩
theorem ty94 : TyI Tryz.prog 94 true 2 (.agg #[.string ⟨#[]⟩, .string ⟨#[]⟩]) 32 := ⟨by kernel_rfl, by kernel_rfl, rfl⟩
theorem fa94_0 : FA Tryz.prog 94 0 0 := ⟨_, Tryz.underlying94, _, rfl, rfl, by obtain ⟨i, hi, _, hn, _⟩ := ty9.info'; exact ⟨i, hi, by rw [hn]; decide⟩⟩
theorem fa94_1 : FA Tryz.prog 94 1 1 := ⟨_, Tryz.underlying94, _, rfl, rfl, by obtain ⟨i, hi, _, hn, _⟩ := ty9.info'; exact ⟨i, hi, by rw [hn]; decide⟩⟩
theorem ty96 : TyI Tryz.prog 96 true 2 (.agg #[.string ⟨#[]⟩, .string ⟨#[]⟩]) 32 := ⟨by kernel_rfl, by kernel_rfl, rfl⟩
theorem fa96_0 : FA Tryz.prog 96 0 0 := ⟨_, Tryz.underlying96, _, rfl, rfl, by obtain ⟨i, hi, _, hn, _⟩ := ty9.info'; exact ⟨i, hi, by rw [hn]; decide⟩⟩
theorem fa96_1 : FA Tryz.prog 96 1 1 := ⟨_, Tryz.underlying96, _, rfl, rfl, by obtain ⟨i, hi, _, hn, _⟩ := ty9.info'; exact ⟨i, hi, by rw [hn]; decide⟩⟩
theorem ty108 : TyI Tryz.prog 108 false 1 (.slice none 0 0) 24 := ⟨by kernel_rfl, by kernel_rfl, rfl⟩
theorem ty110 : TyI Tryz.prog 110 true 2 (.agg #[.slice none 0 0, .slice none 0 0]) 48 := ⟨by kernel_rfl, by kernel_rfl, rfl⟩
theorem fa110_0 : FA Tryz.prog 110 0 0 := ⟨_, Tryz.underlying110, _, rfl, rfl, by obtain ⟨i, hi, _, hn, _⟩ := ty69.info'; exact ⟨i, hi, by rw [hn]; decide⟩⟩
theorem fa110_1 : FA Tryz.prog 110 1 1 := ⟨_, Tryz.underlying110, _, rfl, rfl, by obtain ⟨i, hi, _, hn, _⟩ := ty108.info'; exact ⟨i, hi, by rw [hn]; decide⟩⟩
theorem ty113 : TyI Tryz.prog 113 true 3 (.agg #[.string ⟨#[]⟩, .string ⟨#[]⟩, .slice none 0 0]) 56 := ⟨by kernel_rfl, by kernel_rfl, rfl⟩
theorem fa113_0 : FA Tryz.prog 113 0 0 := ⟨_, Tryz.underlying113, _, rfl, rfl, by obtain ⟨i, hi, _, hn, _⟩ := ty96.info'; exact ⟨i, hi, by rw [hn]; decide⟩⟩
theorem fa113_1 : FA Tryz.prog 113 1 2 := ⟨_, Tryz.underlying113, _, rfl, rfl, by obtain ⟨i, hi, _, hn, _⟩ := ty69.info'; exact ⟨i, hi, by rw [hn]; decide⟩⟩
theorem ty124 : TyI Tryz.prog 124 true 3 (.agg #[.int .i64 0, .int .i64 0, .int .i64 0]) 24 := ⟨by kernel_rfl, by kernel_rfl, rfl⟩
theorem fa124_0 : FA Tryz.prog 124 0 0 := ⟨_, Tryz.underlying124, _, rfl, rfl, by obtain ⟨i, hi, _, hn, _⟩ := ty3.info'; exact ⟨i, hi, by rw [hn]; decide⟩⟩
theorem fa124_1 : FA Tryz.prog 124 1 1 := ⟨_, Tryz.underlying124, _, rfl, rfl, by obtain ⟨i, hi, _, hn, _⟩ := ty53.info'; exact ⟨i, hi, by rw [hn]; decide⟩⟩
theorem ty149 : TyI Tryz.prog 149 true 3 (.agg #[.string ⟨#[]⟩, .string ⟨#[]⟩, .slice none 0 0]) 56 := ⟨by kernel_rfl, by kernel_rfl, rfl⟩
theorem fa149_0 : FA Tryz.prog 149 0 0 := ⟨_, Tryz.underlying149, _, rfl, rfl, by obtain ⟨i, hi, _, hn, _⟩ := ty94.info'; exact ⟨i, hi, by rw [hn]; decide⟩⟩
theorem fa149_1 : FA Tryz.prog 149 1 2 := ⟨_, Tryz.underlying149, _, rfl, rfl, by obtain ⟨i, hi, _, hn, _⟩ := ty69.info'; exact ⟨i, hi, by rw [hn]; decide⟩⟩
theorem ty168 : TyI Tryz.prog 168 false 1 (.slice none 0 0) 24 := ⟨by kernel_rfl, by kernel_rfl, rfl⟩
theorem ty187 : TyI Tryz.prog 187 false 1 (.int .u64 0) 8 := ⟨by kernel_rfl, by kernel_rfl, rfl⟩
theorem pl35 : PL Tryz.prog 35 #[(0, 1), (1, 1)] := ⟨_, Tryz.underlying35, fun w => by simp [ty32.sizeOf w]⟩
theorem pl113 : PL Tryz.prog 113 #[(0, 2), (2, 1)] := ⟨_, Tryz.underlying113, fun w => by simp [ty96.sizeOf w]⟩
theorem ae96 : AEq Tryz.prog 96 Tag := ⟨by kernel_rfl, fun d a b w => by
 rw [run_equalIn_agg w (d + 2) 96 _ _ (by kernel_rfl) (by kernel_rfl)]
 simp only [Program.fieldsOf, Tryz.underlying96, Flat.enc, List.cons_append, List.nil_append]
 simp [Op.eqFields, part, ty9.isAgg, ty9.sizeOf, run_equalIn_string w (d + 1) 9 _ _ Tryz.underlying9, seq_dec]
 by_cases h0 : a.1 = b.1 <;> by_cases h1 : a.2 = b.2 <;> simp [h0, h1, Prod.ext_iff]⟩
noncomputable def p_laws_szTag (v0 : Tag) (v1 : Int) : Option (Int) := gd (I64 (v1 - (v0.1.size : Int))) <| cond (decide ((v1 - (v0.1.size : Int)) < 0)) (some (-1)) (gd (I64 ((v1 - (v0.1.size : Int)) - (v0.2.size : Int))) <| cond (decide (((v1 - (v0.1.size : Int)) - (v0.2.size : Int)) < 0)) (some (-1)) (some ((v1 - (v0.1.size : Int)) - (v0.2.size : Int))))
theorem c_laws_szTag {r : Int} (v0 : Tag) (v1 : Int) (H : p_laws_szTag v0 v1 = some r) : Fn' Tryz.prog 62 #[.agg #[.string (v0.1), .string (v0.2)], .int .i64 (v1)] [] [] (ι := Unit) (fun _ => .int .i64 (r)) (fun _ => []) (fun _ => []) := by
 refine calls_of (args := [_, _]) Tryz.func62 rfl (by kernel_rfl) Tryz.ntmps62 (by simp) fun c => ?_
 unfold p_laws_szTag at H
 refine Tr.seq (Tr.region (Rg.ef (e_box (t := 94) rfl) rfl ?_))
 rintro _ _ _ ⟨g1, rfl, rfl, rfl⟩
 refine Rg.a (v := .int .i64 (0)) rfl (Rg.nl (nT (?_)))
 refine Tr.seq (Tr.region (Rg.m rfl (Rg.p (p_fabE fa94_0 rfl rfl) (Rg.o (q_ldb ty9 rfl Has.here rfl) (Rg.p (p_slen Tryz.underlying9 rfl) ?_)))))
 obtain ⟨h2, H⟩ := gd.of H
 refine Rg.p (p_sub rfl rfl h2) (Rg.a rfl (Rg.nl (nT (?_))))
 refine Tr.seq (Tr.seq (Tr.region (Rg.m rfl (Rg.p (p_lss rfl rfl) (Rg.nl ?_)))))
 refine nT (?_)
 refine Tr.cond (b := decide ((v1 - (v0.1.size : Int)) < 0)) rfl (fun h3 => ?_) (fun h3 => ?_)
 ·have H := cdT h3 H
  refine Tr.seq (Tr.region (Rg.a (v := .int .i64 (-1)) rfl (Rg.nl (nT (?_)))))
  refine tRet (rT (?_))
  obtain rfl := si H
  exact bk1 rfl rfl rfl rfl Take.nil
 ·have H := cdF h3 H
  refine tSkip (nT (?_))
  refine Tr.seq (Tr.region (Rg.m rfl (Rg.p (p_fabE fa94_1 rfl rfl) (Rg.o (q_ldb ty9 rfl Has.here rfl) (Rg.p (p_slen Tryz.underlying9 rfl) ?_)))))
  obtain ⟨h4, H⟩ := gd.of H
  refine Rg.p (p_sub rfl rfl h4) (Rg.a rfl (Rg.nl (nT (?_))))
  refine Tr.seq (Tr.seq (Tr.region (Rg.m rfl (Rg.p (p_lss rfl rfl) (Rg.nl ?_)))))
  refine nT (?_)
  refine Tr.cond (b := decide (((v1 - (v0.1.size : Int)) - (v0.2.size : Int)) < 0)) rfl (fun h5 => ?_) (fun h5 => ?_)
  ·have H := cdT h5 H
   refine Tr.seq (Tr.region (Rg.a (v := .int .i64 (-1)) rfl (Rg.nl (nT (?_)))))
   refine tRet (rT (?_))
   obtain rfl := si H
   exact bk1 rfl rfl rfl rfl Take.nil
  ·have H := cdF h5 H
   refine tSkip (nT (?_))
   refine Tr.seq (Tr.region (Rg.m rfl (Rg.a rfl (Rg.nl (nT (?_))))))
   refine tRet ?_
   obtain rfl := si H
   exact bk1 rfl rfl rfl rfl Take.nil
noncomputable def p_laws_szTagS_b0 (v0 : (List Tag)) (Q7 : Int × Int) : Option ((Int × Int) ⊕ (Int ⊕ Int)) := cond (decide (Q7.2 < (v0.length : Int))) (gd (ix Q7.2 v0.length) <| bd (p_laws_szTag (nth v0 Q7.2.toNat) Q7.1) fun r17 => cond (decide (r17 < 0)) (some (.inr (.inr (-1)))) (gd (I64 (Q7.2 + 1)) <| some (.inl (r17, Q7.2 + 1)))) (some (.inr (.inl Q7.1)))
noncomputable def p_laws_szTagS (v0 : (List Tag)) (v1 : Int) : Option (Int) := gd (I64 (v1 - (v0.length : Int))) <| cond (decide ((v1 - (v0.length : Int)) < 0)) (some (-1)) (bd (lp (p_laws_szTagS_b0 v0) (v1 - (v0.length : Int), 0)) <| sw (fun e21 => some e21) (fun q => some q))
theorem c_laws_szTagS {r : Int} (v0 : (List Tag)) (x_v0 : Option Addr × Nat) (v1 : Int) (H : p_laws_szTagS v0 v1 = some r) : Fn' Tryz.prog 22 #[.slice x_v0.1 v0.length x_v0.2, .int .i64 (v1)] [imm (.slice x_v0.1 v0.length x_v0.2) v0] [] (ι := Unit) (fun _ => .int .i64 (r)) (fun _ => []) (fun _ => []) := by
 refine calls_of (args := [_, _]) Tryz.func22 rfl (by kernel_rfl) Tryz.ntmps22 (by simp) fun c => ?_
 unfold p_laws_szTagS at H
 refine Tr.seq (Tr.region (Rg.a (v := .int .i64 (0)) rfl (Rg.nl (nT (?_)))))
 refine Tr.seq (Tr.region (Rg.m rfl (Rg.m rfl (Rg.p (p_len 94 Tryz.underlying51 rfl) ?_))))
 obtain ⟨h1, H⟩ := gd.of H
 refine Rg.p (p_sub rfl rfl h1) (Rg.a rfl (Rg.nl (nT (?_))))
 refine Tr.seq (Tr.seq (Tr.region (Rg.m rfl (Rg.p (p_lss rfl rfl) (Rg.nl ?_)))))
 refine nT (?_)
 refine Tr.cond (b := decide ((v1 - (v0.length : Int)) < 0)) rfl (fun h2 => ?_) (fun h2 => ?_)
 ·have H := cdT h2 H
  refine Tr.seq (Tr.region (Rg.a (v := .int .i64 (-1)) rfl (Rg.nl (nT (?_)))))
  refine tRet (rT (?_))
  obtain rfl := si H
  exact bk1 rfl rfl rfl rfl Take.nil
 ·have H := cdF h2 H
  refine tSkip (nT (?_))
  refine Tr.seq (Tr.seq (Tr.region (Rg.a (v := .int .i64 (0)) rfl (Rg.nl (nT (?_))))))
  obtain ⟨x3, hx4, H⟩ := bd.of H
  obtain ⟨n5, hx4⟩ := lp.of hx4
  refine tMidNC (ι := { q : (Int) × Unit // x3 = .inl q.1 }) (fun ψ => [(1, .int .i64 (ψ.1.1))]) (fun ψ => []) ?_ ?_
  ·refine Tr.block (tLoopC (ι := { q : Nat × (Int × Int) × Unit // itr (p_laws_szTagS_b0 v0) q.1 q.2.1 = some x3 }) (fun ζ => [(0, .slice x_v0.1 v0.length x_v0.2), (1, .int .i64 (ζ.1.2.1.1)), (5, .int .i64 (ζ.1.2.1.2))]) (fun ζ => []) (fun ζ => ζ.1.1) ⟨(n5, (v1 - (v0.length : Int), 0), ()), hx4⟩ ⟨rfl, rfl, rfl, trivial⟩ Take.nil ?_)
   rintro ⟨⟨m6, Q7, z8⟩, hk13⟩
   obtain ⟨m14, t10, e, H1, hi11, hb12⟩ := itr.of (n := m6) (s := Q7) hk13
   subst e; unfold p_laws_szTagS_b0 at H1
   show Tr _ _ _ _ _ [(0, .slice x_v0.1 v0.length x_v0.2), (1, .int .i64 (Q7.1)), (5, .int .i64 (Q7.2))] _ []
   refine Tr.seq (Tr.seq (Tr.region (Rg.m rfl (Rg.m rfl (Rg.p (p_len 94 Tryz.underlying51 rfl) ?_)))))
   refine Rg.p (p_lss rfl rfl) (Rg.nl (nT (?_)))
   refine Tr.cond (b := decide (Q7.2 < (v0.length : Int))) rfl (fun h15 => ?_) (fun h15 => ?_)
   ·have H1 := cdT h15 H1
    refine tSkip (nT (?_))
    refine Tr.seq (Tr.block (Tr.seq (Tr.region (Rg.m rfl (Rg.m rfl ?_)))))
    obtain ⟨h16, H1⟩ := gd.of H1
    refine Rg.o (q_ixg Tryz.underlying51 ty94 rfl rfl h16 rfl (EntB.flat (Ent.b Ent.z))) (Rg.o (v := .agg #[.string ((nth v0 Q7.2.toNat).1), .string ((nth v0 Q7.2.toNat).2)]) (q_ldeA (i := Q7.2.toNat) ty94 rfl (EntB.flat (Ent.b Ent.z)) h16.lt) (Rg.m rfl ?_))
    obtain ⟨r17, h18, H1⟩ := bd.of H1
    refine Rg.o (q_call (c_laws_szTag (nth v0 Q7.2.toNat) Q7.1 h18) rfl EntsB.nil) (Rg.a rfl (Rg.nl (nT (?_))))
    refine Tr.seq (Tr.region (Rg.m rfl (Rg.p (p_lss rfl rfl) (Rg.nl (nT (?_))))))
    refine Tr.cond (b := decide (r17 < 0)) rfl (fun h19 => ?_) (fun h19 => ?_)
    ·have H1 := cdT h19 H1
     refine Tr.seq (Tr.region (Rg.a (v := .int .i64 (-1)) rfl (Rg.nl (nT (?_)))))
     refine tRet (rB (rT (rT (rB (rT (rT (?_)))))))
     have hx := hb12 _ (Option.some.inj H1).symm; subst hx
     replace H := sw.r H
     obtain rfl := si H
     exact bk1 rfl rfl rfl rfl Take.nil
    ·have H1 := cdF h19 H1
     refine tSkip (nB (nT (?_)))
     refine Tr.region (Rg.m rfl ?_)
     obtain ⟨h20, H1⟩ := gd.of H1
     refine Rg.p (p_add rfl rfl h20) (Rg.a rfl (Rg.nl ?_))
     exact nLC ⟨(m14, (r17, Q7.2 + 1), ()), hi11 _ (Option.some.inj H1).symm⟩ (Nat.lt_succ_self _) ⟨rfl, rfl, rfl, trivial⟩ Ents.refl Take.nil
   ·have H1 := cdF h15 H1
    refine tExit (xT (xT (xE (?_))))
    exact nMC ⟨(Q7.1, ()), (hb12 _ (Option.some.inj H1).symm).symm⟩ ⟨rfl, trivial⟩ Ents.refl Take.nil
  ·rintro ⟨⟨e21, y9⟩, hx⟩; subst hx; replace H := sw.l H
   show At _ _ [(1, .int .i64 (e21))] _ [] _
   refine nT (?_)
   refine Tr.seq (Tr.region (Rg.m rfl (Rg.a rfl (Rg.nl (nT (?_))))))
   refine tRet ?_
   obtain rfl := si H
   exact bk1 rfl rfl rfl rfl Take.nil
noncomputable def p_laws_szTagSS_b0 (v0 : (List (List Tag))) (Q8 : Int × Int) : Option ((Int × Int) ⊕ (Int ⊕ Int)) := cond (decide (Q8.2 < (v0.length : Int))) (gd (ix Q8.2 v0.length) <| bd (p_laws_szTagS (nth v0 Q8.2.toNat) Q8.1) fun r18 => cond (decide (r18 < 0)) (some (.inr (.inr (-1)))) (gd (I64 (Q8.2 + 1)) <| some (.inl (r18, Q8.2 + 1)))) (some (.inr (.inl Q8.1)))
noncomputable def p_laws_szTagSS (v0 : (List (List Tag))) (v1 : Int) : Option (Int) := gd (I64 (v1 - (v0.length : Int))) <| cond (decide ((v1 - (v0.length : Int)) < 0)) (some (-1)) (bd (lp (p_laws_szTagSS_b0 v0) (v1 - (v0.length : Int), 0)) <| sw (fun e22 => some e22) (fun q => some q))
theorem c_laws_szTagSS {r : Int} (v0 : (List (List Tag))) (x_v0 : Option Addr × Nat) (v1 : Int) (H : p_laws_szTagSS v0 v1 = some r) : Fn' Tryz.prog 73 #[.slice x_v0.1 v0.length x_v0.2, .int .i64 (v1)] [imm (.slice x_v0.1 v0.length x_v0.2) v0] [] (ι := Unit) (fun _ => .int .i64 (r)) (fun _ => []) (fun _ => []) := by
 refine calls_of (args := [_, _]) Tryz.func73 rfl (by kernel_rfl) Tryz.ntmps73 (by simp) fun c => ?_
 unfold p_laws_szTagSS at H
 refine Tr.openD Ent.z fun X1 => (Tr.seq (Tr.region (Rg.a (v := .int .i64 (0)) rfl (Rg.nl (nT (?_))))))
 refine Tr.seq (Tr.region (Rg.m rfl (Rg.m rfl (Rg.p (p_len 51 Tryz.underlying22 rfl) ?_))))
 obtain ⟨h2, H⟩ := gd.of H
 refine Rg.p (p_sub rfl rfl h2) (Rg.a rfl (Rg.nl (nT (?_))))
 refine Tr.seq (Tr.seq (Tr.region (Rg.m rfl (Rg.p (p_lss rfl rfl) (Rg.nl ?_)))))
 refine nT (?_)
 refine Tr.cond (b := decide ((v1 - (v0.length : Int)) < 0)) rfl (fun h3 => ?_) (fun h3 => ?_)
 ·have H := cdT h3 H
  refine Tr.seq (Tr.region (Rg.a (v := .int .i64 (-1)) rfl (Rg.nl (nT (?_)))))
  refine tRet (rT (?_))
  obtain rfl := si H
  exact bk1 rfl rfl rfl rfl Take.nil
 ·have H := cdF h3 H
  refine tSkip (nT (?_))
  refine Tr.seq (Tr.seq (Tr.region (Rg.a (v := .int .i64 (0)) rfl (Rg.nl (nT (?_))))))
  obtain ⟨x4, hx5, H⟩ := bd.of H
  obtain ⟨n6, hx5⟩ := lp.of hx5
  refine tMidNC (ι := { q : (Int) × Unit // x4 = .inl q.1 }) (fun ψ => [(1, .int .i64 (ψ.1.1))]) (fun ψ => []) ?_ ?_
  ·refine Tr.block (tLoopC (ι := { q : Nat × (Int × Int) × Unit // itr (p_laws_szTagSS_b0 v0) q.1 q.2.1 = some x4 }) (fun ζ => [(0, .slice x_v0.1 v0.length x_v0.2), (1, .int .i64 (ζ.1.2.1.1)), (5, .int .i64 (ζ.1.2.1.2))]) (fun ζ => []) (fun ζ => ζ.1.1) ⟨(n6, (v1 - (v0.length : Int), 0), ()), hx5⟩ ⟨rfl, rfl, rfl, trivial⟩ Take.nil ?_)
   rintro ⟨⟨m7, Q8, z9⟩, hk14⟩
   obtain ⟨m15, t11, e, H1, hi12, hb13⟩ := itr.of (n := m7) (s := Q8) hk14
   subst e; unfold p_laws_szTagSS_b0 at H1
   show Tr _ _ _ _ _ [(0, .slice x_v0.1 v0.length x_v0.2), (1, .int .i64 (Q8.1)), (5, .int .i64 (Q8.2))] _ []
   refine Tr.seq (Tr.seq (Tr.region (Rg.m rfl (Rg.m rfl (Rg.p (p_len 51 Tryz.underlying22 rfl) ?_)))))
   refine Rg.p (p_lss rfl rfl) (Rg.nl (nT (?_)))
   refine Tr.cond (b := decide (Q8.2 < (v0.length : Int))) rfl (fun h16 => ?_) (fun h16 => ?_)
   ·have H1 := cdT h16 H1
    refine tSkip (nT (?_))
    refine Tr.seq (Tr.block (Tr.seq (Tr.region (Rg.m rfl (Rg.m rfl ?_)))))
    obtain ⟨h17, H1⟩ := gd.of H1
    refine Rg.o (q_ixg Tryz.underlying22 ty51 rfl rfl h17 rfl (Ent.b (Ent.darr Ent.z))) (Rg.o (q_lde (i := Q8.2.toNat) (j := 0) ty51 rfl (Ent.b (Ent.darr Ent.z)) h17.lt rfl) (Rg.m rfl ?_))
    obtain ⟨r18, h19, H1⟩ := bd.of H1
    refine Rg.o (q_call (c_laws_szTagS (nth v0 Q8.2.toNat) ((X1 Q8.2.toNat).1, (X1 Q8.2.toNat).2.1) Q8.1 h19) rfl (EntsB.cons (Ent.b (Ent.dimm (Ent.del Ent.z h17.lt))) EntsB.nil)) (Rg.a rfl (Rg.nl (nT (?_))))
    refine Tr.seq (Tr.region (Rg.m rfl (Rg.p (p_lss rfl rfl) (Rg.nl (nT (?_))))))
    refine Tr.cond (b := decide (r18 < 0)) rfl (fun h20 => ?_) (fun h20 => ?_)
    ·have H1 := cdT h20 H1
     refine Tr.seq (Tr.region (Rg.a (v := .int .i64 (-1)) rfl (Rg.nl (nT (?_)))))
     refine tRet (rB (rT (rT (rB (rT (rT (?_)))))))
     have hx := hb13 _ (Option.some.inj H1).symm; subst hx
     replace H := sw.r H
     obtain rfl := si H
     exact bk1 rfl rfl rfl rfl Take.nil
    ·have H1 := cdF h20 H1
     refine tSkip (nB (nT (?_)))
     refine Tr.region (Rg.m rfl ?_)
     obtain ⟨h21, H1⟩ := gd.of H1
     refine Rg.p (p_add rfl rfl h21) (Rg.a rfl (Rg.nl ?_))
     exact nLC ⟨(m15, (r18, Q8.2 + 1), ()), hi12 _ (Option.some.inj H1).symm⟩ (Nat.lt_succ_self _) ⟨rfl, rfl, rfl, trivial⟩ Ents.refl Take.nil
   ·have H1 := cdF h16 H1
    refine tExit (xT (xT (xE (?_))))
    exact nMC ⟨(Q8.1, ()), (hb13 _ (Option.some.inj H1).symm).symm⟩ ⟨rfl, trivial⟩ Ents.refl Take.nil
  ·rintro ⟨⟨e22, y10⟩, hx⟩; subst hx; replace H := sw.l H
   show At _ _ [(1, .int .i64 (e22))] _ [] _
   refine nT (?_)
   refine Tr.seq (Tr.region (Rg.m rfl (Rg.a rfl (Rg.nl (nT (?_))))))
   refine tRet ?_
   obtain rfl := si H
   exact bk1 rfl rfl rfl rfl Take.nil
noncomputable def p_laws_szIntS (v0 : (List Int)) (v1 : Int) : Option (Int) := gd (I64 (v1 - (v0.length : Int))) <| cond (decide ((v1 - (v0.length : Int)) < 0)) (some (-1)) (some (v1 - (v0.length : Int)))
theorem c_laws_szIntS {r : Int} (v0 : (List Int)) (x_v0 : Option Addr × Nat) (v1 : Int) (H : p_laws_szIntS v0 v1 = some r) : Fn' Tryz.prog 119 #[.slice x_v0.1 v0.length x_v0.2, .int .i64 (v1)] [imm (.slice x_v0.1 v0.length x_v0.2) v0] [] (ι := Unit) (fun _ => .int .i64 (r)) (fun _ => []) (fun _ => []) := by
 refine calls_of (args := [_, _]) Tryz.func119 rfl (by kernel_rfl) Tryz.ntmps119 (by simp) fun c => ?_
 unfold p_laws_szIntS at H
 refine Tr.seq (Tr.region (Rg.a (v := .int .i64 (0)) rfl (Rg.nl (nT (?_)))))
 refine Tr.seq (Tr.region (Rg.m rfl (Rg.m rfl (Rg.p (p_len 3 Tryz.underlying69 rfl) ?_))))
 obtain ⟨h1, H⟩ := gd.of H
 refine Rg.p (p_sub rfl rfl h1) (Rg.a rfl (Rg.nl (nT (?_))))
 refine Tr.seq (Tr.seq (Tr.region (Rg.m rfl (Rg.p (p_lss rfl rfl) (Rg.nl ?_)))))
 refine nT (?_)
 refine Tr.cond (b := decide ((v1 - (v0.length : Int)) < 0)) rfl (fun h2 => ?_) (fun h2 => ?_)
 ·have H := cdT h2 H
  refine Tr.seq (Tr.region (Rg.a (v := .int .i64 (-1)) rfl (Rg.nl (nT (?_)))))
  refine tRet (rT (?_))
  obtain rfl := si H
  exact bk1 rfl rfl rfl rfl Take.nil
 ·have H := cdF h2 H
  refine tSkip (nT (?_))
  refine Tr.seq (Tr.region (Rg.m rfl (Rg.a rfl (Rg.nl (nT (?_))))))
  refine tRet ?_
  obtain rfl := si H
  exact bk1 rfl rfl rfl rfl Take.nil
noncomputable def p_laws_szPost (v0 : Post) (v1 : Int) : Option (Int) := bd (p_laws_szTag v0.1 v1) fun r2 => cond (decide (r2 < 0)) (some (-1)) (bd (p_laws_szIntS v0.2 r2) fun r5 => cond (decide (r5 < 0)) (some (-1)) (some r5))
theorem c_laws_szPost {r : Int} (v0 : Post) (x_v0 : (Unit × Unit) × (Option Addr × Nat)) (v1 : Int) (H : p_laws_szPost v0 v1 = some r) : Fn' Tryz.prog 118 #[.agg #[.string (v0.1.1), .string (v0.1.2), .slice x_v0.2.1 v0.2.length x_v0.2.2], .int .i64 (v1)] [imm (.slice x_v0.2.1 v0.2.length x_v0.2.2) v0.2] [] (ι := Unit) (fun _ => .int .i64 (r)) (fun _ => []) (fun _ => []) := by
 refine calls_of (args := [_, _]) Tryz.func118 rfl (by kernel_rfl) Tryz.ntmps118 (by simp) fun c => ?_
 unfold p_laws_szPost at H
 refine Tr.seq (Tr.region (Rg.ef (e_box (t := 149) rfl) rfl ?_))
 rintro _ _ _ ⟨g1, rfl, rfl, rfl⟩
 refine Rg.a (v := .int .i64 (0)) rfl (Rg.nl (nT (?_)))
 refine Tr.seq (Tr.region (Rg.p (p_fabE fa149_0 rfl rfl) (Rg.o (v := .agg #[.string (v0.1.1), .string (v0.1.2)]) (q_ldbP [.string (v0.1.1), .string (v0.1.2)] ty94 rfl Has.here rfl rfl) (Rg.m rfl ?_))))
 obtain ⟨r2, h3, H⟩ := bd.of H
 refine Rg.o (q_call (c_laws_szTag v0.1 v1 h3) rfl EntsB.nil) (Rg.a rfl (Rg.nl (nT (?_))))
 refine Tr.seq (Tr.seq (Tr.region (Rg.m rfl (Rg.p (p_lss rfl rfl) (Rg.nl ?_)))))
 refine nT (?_)
 refine Tr.cond (b := decide (r2 < 0)) rfl (fun h4 => ?_) (fun h4 => ?_)
 ·have H := cdT h4 H
  refine Tr.seq (Tr.region (Rg.a (v := .int .i64 (-1)) rfl (Rg.nl (nT (?_)))))
  refine tRet (rT (?_))
  obtain rfl := si H
  exact bk1 rfl rfl rfl rfl Take.nil
 ·have H := cdF h4 H
  refine tSkip (nT (?_))
  refine Tr.seq (Tr.region (Rg.p (p_fabE fa149_1 rfl rfl) (Rg.o (q_ldb ty69 rfl Has.here rfl) (Rg.m rfl ?_))))
  obtain ⟨r5, h6, H⟩ := bd.of H
  refine Rg.o (q_call (c_laws_szIntS v0.2 x_v0.2 r2 h6) rfl (EntsB.cons (Ent.b Ent.z) EntsB.nil)) (Rg.a rfl (Rg.nl (nT (?_))))
  refine Tr.seq (Tr.seq (Tr.region (Rg.m rfl (Rg.p (p_lss rfl rfl) (Rg.nl ?_)))))
  refine nT (?_)
  refine Tr.cond (b := decide (r5 < 0)) rfl (fun h7 => ?_) (fun h7 => ?_)
  ·have H := cdT h7 H
   refine Tr.seq (Tr.region (Rg.a (v := .int .i64 (-1)) rfl (Rg.nl (nT (?_)))))
   refine tRet (rT (?_))
   obtain rfl := si H
   exact bk1 rfl rfl rfl rfl Take.nil
  ·have H := cdF h7 H
   refine tSkip (nT (?_))
   refine Tr.seq (Tr.region (Rg.m rfl (Rg.a rfl (Rg.nl (nT (?_))))))
   refine tRet ?_
   obtain rfl := si H
   exact bk1 rfl rfl rfl rfl Take.nil
noncomputable def p_laws_szPostS_b0 (v0 : (List Post)) (Q8 : Int × Int) : Option ((Int × Int) ⊕ (Int ⊕ Int)) := cond (decide (Q8.2 < (v0.length : Int))) (gd (ix Q8.2 v0.length) <| bd (p_laws_szPost (nth v0 Q8.2.toNat) Q8.1) fun r18 => cond (decide (r18 < 0)) (some (.inr (.inr (-1)))) (gd (I64 (Q8.2 + 1)) <| some (.inl (r18, Q8.2 + 1)))) (some (.inr (.inl Q8.1)))
noncomputable def p_laws_szPostS (v0 : (List Post)) (v1 : Int) : Option (Int) := gd (I64 (v1 - (v0.length : Int))) <| cond (decide ((v1 - (v0.length : Int)) < 0)) (some (-1)) (bd (lp (p_laws_szPostS_b0 v0) (v1 - (v0.length : Int), 0)) <| sw (fun e22 => some e22) (fun q => some q))
theorem c_laws_szPostS {r : Int} (v0 : (List Post)) (x_v0 : Option Addr × Nat) (v1 : Int) (H : p_laws_szPostS v0 v1 = some r) : Fn' Tryz.prog 74 #[.slice x_v0.1 v0.length x_v0.2, .int .i64 (v1)] [imm (.slice x_v0.1 v0.length x_v0.2) v0] [] (ι := Unit) (fun _ => .int .i64 (r)) (fun _ => []) (fun _ => []) := by
 refine calls_of (args := [_, _]) Tryz.func74 rfl (by kernel_rfl) Tryz.ntmps74 (by simp) fun c => ?_
 unfold p_laws_szPostS at H
 refine Tr.openD Ent.z fun X1 => (Tr.seq (Tr.region (Rg.a (v := .int .i64 (0)) rfl (Rg.nl (nT (?_))))))
 refine Tr.seq (Tr.region (Rg.m rfl (Rg.m rfl (Rg.p (p_len 149 Tryz.underlying23 rfl) ?_))))
 obtain ⟨h2, H⟩ := gd.of H
 refine Rg.p (p_sub rfl rfl h2) (Rg.a rfl (Rg.nl (nT (?_))))
 refine Tr.seq (Tr.seq (Tr.region (Rg.m rfl (Rg.p (p_lss rfl rfl) (Rg.nl ?_)))))
 refine nT (?_)
 refine Tr.cond (b := decide ((v1 - (v0.length : Int)) < 0)) rfl (fun h3 => ?_) (fun h3 => ?_)
 ·have H := cdT h3 H
  refine Tr.seq (Tr.region (Rg.a (v := .int .i64 (-1)) rfl (Rg.nl (nT (?_)))))
  refine tRet (rT (?_))
  obtain rfl := si H
  exact bk1 rfl rfl rfl rfl Take.nil
 ·have H := cdF h3 H
  refine tSkip (nT (?_))
  refine Tr.seq (Tr.seq (Tr.region (Rg.a (v := .int .i64 (0)) rfl (Rg.nl (nT (?_))))))
  obtain ⟨x4, hx5, H⟩ := bd.of H
  obtain ⟨n6, hx5⟩ := lp.of hx5
  refine tMidNC (ι := { q : (Int) × Unit // x4 = .inl q.1 }) (fun ψ => [(1, .int .i64 (ψ.1.1))]) (fun ψ => []) ?_ ?_
  ·refine Tr.block (tLoopC (ι := { q : Nat × (Int × Int) × Unit // itr (p_laws_szPostS_b0 v0) q.1 q.2.1 = some x4 }) (fun ζ => [(0, .slice x_v0.1 v0.length x_v0.2), (1, .int .i64 (ζ.1.2.1.1)), (5, .int .i64 (ζ.1.2.1.2))]) (fun ζ => []) (fun ζ => ζ.1.1) ⟨(n6, (v1 - (v0.length : Int), 0), ()), hx5⟩ ⟨rfl, rfl, rfl, trivial⟩ Take.nil ?_)
   rintro ⟨⟨m7, Q8, z9⟩, hk14⟩
   obtain ⟨m15, t11, e, H1, hi12, hb13⟩ := itr.of (n := m7) (s := Q8) hk14
   subst e; unfold p_laws_szPostS_b0 at H1
   show Tr _ _ _ _ _ [(0, .slice x_v0.1 v0.length x_v0.2), (1, .int .i64 (Q8.1)), (5, .int .i64 (Q8.2))] _ []
   refine Tr.seq (Tr.seq (Tr.region (Rg.m rfl (Rg.m rfl (Rg.p (p_len 149 Tryz.underlying23 rfl) ?_)))))
   refine Rg.p (p_lss rfl rfl) (Rg.nl (nT (?_)))
   refine Tr.cond (b := decide (Q8.2 < (v0.length : Int))) rfl (fun h16 => ?_) (fun h16 => ?_)
   ·have H1 := cdT h16 H1
    refine tSkip (nT (?_))
    refine Tr.seq (Tr.block (Tr.seq (Tr.region (Rg.m rfl (Rg.m rfl ?_)))))
    obtain ⟨h17, H1⟩ := gd.of H1
    refine Rg.o (q_ixg Tryz.underlying23 ty149 rfl rfl h17 rfl (Ent.b (Ent.darr Ent.z))) (Rg.o (v := .agg #[.string (((nth v0 Q8.2.toNat).1).1), .string (((nth v0 Q8.2.toNat).1).2), .slice (((X1 Q8.2.toNat).2).1) (((nth v0 Q8.2.toNat).2).length) (((X1 Q8.2.toNat).2).2.1)]) (q_ldeA (i := Q8.2.toNat) ty149 rfl (Ent.b (Ent.darr Ent.z)) h17.lt) (Rg.m rfl ?_))
    obtain ⟨r18, h19, H1⟩ := bd.of H1
    refine Rg.o (q_call (c_laws_szPost (nth v0 Q8.2.toNat) (((), ()), (((X1 Q8.2.toNat).2).1, ((X1 Q8.2.toNat).2).2.1)) Q8.1 h19) rfl (EntsB.cons (Ent.b (Ent.dimm (Ent.dsnd (Ent.del Ent.z h17.lt)))) EntsB.nil)) (Rg.a rfl (Rg.nl (nT (?_))))
    refine Tr.seq (Tr.region (Rg.m rfl (Rg.p (p_lss rfl rfl) (Rg.nl (nT (?_))))))
    refine Tr.cond (b := decide (r18 < 0)) rfl (fun h20 => ?_) (fun h20 => ?_)
    ·have H1 := cdT h20 H1
     refine Tr.seq (Tr.region (Rg.a (v := .int .i64 (-1)) rfl (Rg.nl (nT (?_)))))
     refine tRet (rB (rT (rT (rB (rT (rT (?_)))))))
     have hx := hb13 _ (Option.some.inj H1).symm; subst hx
     replace H := sw.r H
     obtain rfl := si H
     exact bk1 rfl rfl rfl rfl Take.nil
    ·have H1 := cdF h20 H1
     refine tSkip (nB (nT (?_)))
     refine Tr.region (Rg.m rfl ?_)
     obtain ⟨h21, H1⟩ := gd.of H1
     refine Rg.p (p_add rfl rfl h21) (Rg.a rfl (Rg.nl ?_))
     exact nLC ⟨(m15, (r18, Q8.2 + 1), ()), hi12 _ (Option.some.inj H1).symm⟩ (Nat.lt_succ_self _) ⟨rfl, rfl, rfl, trivial⟩ Ents.refl Take.nil
   ·have H1 := cdF h16 H1
    refine tExit (xT (xT (xE (?_))))
    exact nMC ⟨(Q8.1, ()), (hb13 _ (Option.some.inj H1).symm).symm⟩ ⟨rfl, trivial⟩ Ents.refl Take.nil
  ·rintro ⟨⟨e22, y10⟩, hx⟩; subst hx; replace H := sw.l H
   show At _ _ [(1, .int .i64 (e22))] _ [] _
   refine nT (?_)
   refine Tr.seq (Tr.region (Rg.m rfl (Rg.a rfl (Rg.nl (nT (?_))))))
   refine tRet ?_
   obtain rfl := si H
   exact bk1 rfl rfl rfl rfl Take.nil
noncomputable def p_laws_szIndex (v0 : Index) (v1 : Int) : Option (Int) := bd (p_laws_szTagSS v0.1 v1) fun r4 => cond (decide (r4 < 0)) (some (-1)) (bd (p_laws_szPostS v0.2 r4) fun r7 => cond (decide (r7 < 0)) (some (-1)) (some r7))
theorem c_laws_szIndex {r : Int} (v0 : Index) (x_v0 : (Option Addr × Nat) × (Option Addr × Nat)) (v1 : Int) (H : p_laws_szIndex v0 v1 = some r) : Fn' Tryz.prog 31 #[.agg #[.slice x_v0.1.1 v0.1.length x_v0.1.2, .slice x_v0.2.1 v0.2.length x_v0.2.2], .int .i64 (v1)] [imm (.slice x_v0.1.1 v0.1.length x_v0.1.2) v0.1, imm (.slice x_v0.2.1 v0.2.length x_v0.2.2) v0.2] [] (ι := Unit) (fun _ => .int .i64 (r)) (fun _ => []) (fun _ => []) := by
 refine calls_of (args := [_, _]) Tryz.func31 rfl (by kernel_rfl) Tryz.ntmps31 (by simp) fun c => ?_
 unfold p_laws_szIndex at H
 refine Tr.openD Ent.z fun X1 => (Tr.openD Ent.z.s.s fun X2 => (Tr.seq (Tr.region (Rg.ef (e_box (t := 25) rfl) rfl ?_))))
 rintro _ _ _ ⟨g3, rfl, rfl, rfl⟩
 refine Rg.a (v := .int .i64 (0)) rfl (Rg.nl (nT (?_)))
 refine Tr.seq (Tr.region (Rg.p (p_fabE fa25_0 rfl rfl) (Rg.o (q_ldb ty22 rfl Has.here rfl) (Rg.m rfl ?_))))
 obtain ⟨r4, h5, H⟩ := bd.of H
 refine Rg.o (q_call (c_laws_szTagSS v0.1 x_v0.1 v1 h5) rfl (EntsB.cons (Ent.b (Ent.dimm Ent.z.s)) EntsB.nil)) (Rg.a rfl (Rg.nl (nT (?_))))
 refine Tr.seq (Tr.seq (Tr.region (Rg.m rfl (Rg.p (p_lss rfl rfl) (Rg.nl ?_)))))
 refine nT (?_)
 refine Tr.cond (b := decide (r4 < 0)) rfl (fun h6 => ?_) (fun h6 => ?_)
 ·have H := cdT h6 H
  refine Tr.seq (Tr.region (Rg.a (v := .int .i64 (-1)) rfl (Rg.nl (nT (?_)))))
  refine tRet (rT (?_))
  obtain rfl := si H
  exact bk1 rfl rfl rfl rfl Take.nil
 ·have H := cdF h6 H
  refine tSkip (nT (?_))
  refine Tr.seq (Tr.region (Rg.p (p_fabE fa25_1 rfl rfl) (Rg.o (q_ldb ty23 rfl Has.here rfl) (Rg.m rfl ?_))))
  obtain ⟨r7, h8, H⟩ := bd.of H
  refine Rg.o (q_call (c_laws_szPostS v0.2 x_v0.2 r4 h8) rfl (EntsB.cons (Ent.b (Ent.dimm Ent.z)) EntsB.nil)) (Rg.a rfl (Rg.nl (nT (?_))))
  refine Tr.seq (Tr.seq (Tr.region (Rg.m rfl (Rg.p (p_lss rfl rfl) (Rg.nl ?_)))))
  refine nT (?_)
  refine Tr.cond (b := decide (r7 < 0)) rfl (fun h9 => ?_) (fun h9 => ?_)
  ·have H := cdT h9 H
   refine Tr.seq (Tr.region (Rg.a (v := .int .i64 (-1)) rfl (Rg.nl (nT (?_)))))
   refine tRet (rT (?_))
   obtain rfl := si H
   exact bk1 rfl rfl rfl rfl Take.nil
  ·have H := cdF h9 H
   refine tSkip (nT (?_))
   refine Tr.seq (Tr.region (Rg.m rfl (Rg.a rfl (Rg.nl (nT (?_))))))
   refine tRet ?_
   obtain rfl := si H
   exact bk1 rfl rfl rfl rfl Take.nil
noncomputable def p_laws_szRowS (v0 : (List Row)) (v1 : Int) : Option (Int) := gd (I64 (v1 - (v0.length : Int))) <| cond (decide ((v1 - (v0.length : Int)) < 0)) (some (-1)) (some (v1 - (v0.length : Int)))
theorem c_laws_szRowS {r : Int} (v0 : (List Row)) (x_v0 : Option Addr × Nat) (v1 : Int) (H : p_laws_szRowS v0 v1 = some r) : Fn' Tryz.prog 145 #[.slice x_v0.1 v0.length x_v0.2, .int .i64 (v1)] [imm (.slice x_v0.1 v0.length x_v0.2) v0] [] (ι := Unit) (fun _ => .int .i64 (r)) (fun _ => []) (fun _ => []) := by
 refine calls_of (args := [_, _]) Tryz.func145 rfl (by kernel_rfl) Tryz.ntmps145 (by simp) fun c => ?_
 unfold p_laws_szRowS at H
 refine Tr.seq (Tr.region (Rg.a (v := .int .i64 (0)) rfl (Rg.nl (nT (?_)))))
 refine Tr.seq (Tr.region (Rg.m rfl (Rg.m rfl (Rg.p (p_len 53 Tryz.underlying168 rfl) ?_))))
 obtain ⟨h1, H⟩ := gd.of H
 refine Rg.p (p_sub rfl rfl h1) (Rg.a rfl (Rg.nl (nT (?_))))
 refine Tr.seq (Tr.seq (Tr.region (Rg.m rfl (Rg.p (p_lss rfl rfl) (Rg.nl ?_)))))
 refine nT (?_)
 refine Tr.cond (b := decide ((v1 - (v0.length : Int)) < 0)) rfl (fun h2 => ?_) (fun h2 => ?_)
 ·have H := cdT h2 H
  refine Tr.seq (Tr.region (Rg.a (v := .int .i64 (-1)) rfl (Rg.nl (nT (?_)))))
  refine tRet (rT (?_))
  obtain rfl := si H
  exact bk1 rfl rfl rfl rfl Take.nil
 ·have H := cdF h2 H
  refine tSkip (nT (?_))
  refine Tr.seq (Tr.region (Rg.m rfl (Rg.a rfl (Rg.nl (nT (?_))))))
  refine tRet ?_
  obtain rfl := si H
  exact bk1 rfl rfl rfl rfl Take.nil
noncomputable def p_laws_szRowSS_b0 (v0 : (List (List Row))) (Q8 : Int × Int) : Option ((Int × Int) ⊕ (Int ⊕ Int)) := cond (decide (Q8.2 < (v0.length : Int))) (gd (ix Q8.2 v0.length) <| bd (p_laws_szRowS (nth v0 Q8.2.toNat) Q8.1) fun r18 => cond (decide (r18 < 0)) (some (.inr (.inr (-1)))) (gd (I64 (Q8.2 + 1)) <| some (.inl (r18, Q8.2 + 1)))) (some (.inr (.inl Q8.1)))
noncomputable def p_laws_szRowSS (v0 : (List (List Row))) (v1 : Int) : Option (Int) := gd (I64 (v1 - (v0.length : Int))) <| cond (decide ((v1 - (v0.length : Int)) < 0)) (some (-1)) (bd (lp (p_laws_szRowSS_b0 v0) (v1 - (v0.length : Int), 0)) <| sw (fun e22 => some e22) (fun q => some q))
theorem c_laws_szRowSS {r : Int} (v0 : (List (List Row))) (x_v0 : Option Addr × Nat) (v1 : Int) (H : p_laws_szRowSS v0 v1 = some r) : Fn' Tryz.prog 120 #[.slice x_v0.1 v0.length x_v0.2, .int .i64 (v1)] [imm (.slice x_v0.1 v0.length x_v0.2) v0] [] (ι := Unit) (fun _ => .int .i64 (r)) (fun _ => []) (fun _ => []) := by
 refine calls_of (args := [_, _]) Tryz.func120 rfl (by kernel_rfl) Tryz.ntmps120 (by simp) fun c => ?_
 unfold p_laws_szRowSS at H
 refine Tr.openD Ent.z fun X1 => (Tr.seq (Tr.region (Rg.a (v := .int .i64 (0)) rfl (Rg.nl (nT (?_))))))
 refine Tr.seq (Tr.region (Rg.m rfl (Rg.m rfl (Rg.p (p_len 168 Tryz.underlying108 rfl) ?_))))
 obtain ⟨h2, H⟩ := gd.of H
 refine Rg.p (p_sub rfl rfl h2) (Rg.a rfl (Rg.nl (nT (?_))))
 refine Tr.seq (Tr.seq (Tr.region (Rg.m rfl (Rg.p (p_lss rfl rfl) (Rg.nl ?_)))))
 refine nT (?_)
 refine Tr.cond (b := decide ((v1 - (v0.length : Int)) < 0)) rfl (fun h3 => ?_) (fun h3 => ?_)
 ·have H := cdT h3 H
  refine Tr.seq (Tr.region (Rg.a (v := .int .i64 (-1)) rfl (Rg.nl (nT (?_)))))
  refine tRet (rT (?_))
  obtain rfl := si H
  exact bk1 rfl rfl rfl rfl Take.nil
 ·have H := cdF h3 H
  refine tSkip (nT (?_))
  refine Tr.seq (Tr.seq (Tr.region (Rg.a (v := .int .i64 (0)) rfl (Rg.nl (nT (?_))))))
  obtain ⟨x4, hx5, H⟩ := bd.of H
  obtain ⟨n6, hx5⟩ := lp.of hx5
  refine tMidNC (ι := { q : (Int) × Unit // x4 = .inl q.1 }) (fun ψ => [(1, .int .i64 (ψ.1.1))]) (fun ψ => []) ?_ ?_
  ·refine Tr.block (tLoopC (ι := { q : Nat × (Int × Int) × Unit // itr (p_laws_szRowSS_b0 v0) q.1 q.2.1 = some x4 }) (fun ζ => [(0, .slice x_v0.1 v0.length x_v0.2), (1, .int .i64 (ζ.1.2.1.1)), (5, .int .i64 (ζ.1.2.1.2))]) (fun ζ => []) (fun ζ => ζ.1.1) ⟨(n6, (v1 - (v0.length : Int), 0), ()), hx5⟩ ⟨rfl, rfl, rfl, trivial⟩ Take.nil ?_)
   rintro ⟨⟨m7, Q8, z9⟩, hk14⟩
   obtain ⟨m15, t11, e, H1, hi12, hb13⟩ := itr.of (n := m7) (s := Q8) hk14
   subst e; unfold p_laws_szRowSS_b0 at H1
   show Tr _ _ _ _ _ [(0, .slice x_v0.1 v0.length x_v0.2), (1, .int .i64 (Q8.1)), (5, .int .i64 (Q8.2))] _ []
   refine Tr.seq (Tr.seq (Tr.region (Rg.m rfl (Rg.m rfl (Rg.p (p_len 168 Tryz.underlying108 rfl) ?_)))))
   refine Rg.p (p_lss rfl rfl) (Rg.nl (nT (?_)))
   refine Tr.cond (b := decide (Q8.2 < (v0.length : Int))) rfl (fun h16 => ?_) (fun h16 => ?_)
   ·have H1 := cdT h16 H1
    refine tSkip (nT (?_))
    refine Tr.seq (Tr.block (Tr.seq (Tr.region (Rg.m rfl (Rg.m rfl ?_)))))
    obtain ⟨h17, H1⟩ := gd.of H1
    refine Rg.o (q_ixg Tryz.underlying108 ty168 rfl rfl h17 rfl (Ent.b (Ent.darr Ent.z))) (Rg.o (q_lde (i := Q8.2.toNat) (j := 0) ty168 rfl (Ent.b (Ent.darr Ent.z)) h17.lt rfl) (Rg.m rfl ?_))
    obtain ⟨r18, h19, H1⟩ := bd.of H1
    refine Rg.o (q_call (c_laws_szRowS (nth v0 Q8.2.toNat) ((X1 Q8.2.toNat).1, (X1 Q8.2.toNat).2.1) Q8.1 h19) rfl (EntsB.cons (Ent.b (Ent.dimm (Ent.del Ent.z h17.lt))) EntsB.nil)) (Rg.a rfl (Rg.nl (nT (?_))))
    refine Tr.seq (Tr.region (Rg.m rfl (Rg.p (p_lss rfl rfl) (Rg.nl (nT (?_))))))
    refine Tr.cond (b := decide (r18 < 0)) rfl (fun h20 => ?_) (fun h20 => ?_)
    ·have H1 := cdT h20 H1
     refine Tr.seq (Tr.region (Rg.a (v := .int .i64 (-1)) rfl (Rg.nl (nT (?_)))))
     refine tRet (rB (rT (rT (rB (rT (rT (?_)))))))
     have hx := hb13 _ (Option.some.inj H1).symm; subst hx
     replace H := sw.r H
     obtain rfl := si H
     exact bk1 rfl rfl rfl rfl Take.nil
    ·have H1 := cdF h20 H1
     refine tSkip (nB (nT (?_)))
     refine Tr.region (Rg.m rfl ?_)
     obtain ⟨h21, H1⟩ := gd.of H1
     refine Rg.p (p_add rfl rfl h21) (Rg.a rfl (Rg.nl ?_))
     exact nLC ⟨(m15, (r18, Q8.2 + 1), ()), hi12 _ (Option.some.inj H1).symm⟩ (Nat.lt_succ_self _) ⟨rfl, rfl, rfl, trivial⟩ Ents.refl Take.nil
   ·have H1 := cdF h16 H1
    refine tExit (xT (xT (xE (?_))))
    exact nMC ⟨(Q8.1, ()), (hb13 _ (Option.some.inj H1).symm).symm⟩ ⟨rfl, trivial⟩ Ents.refl Take.nil
  ·rintro ⟨⟨e22, y10⟩, hx⟩; subst hx; replace H := sw.l H
   show At _ _ [(1, .int .i64 (e22))] _ [] _
   refine nT (?_)
   refine Tr.seq (Tr.region (Rg.m rfl (Rg.a rfl (Rg.nl (nT (?_))))))
   refine tRet ?_
   obtain rfl := si H
   exact bk1 rfl rfl rfl rfl Take.nil
noncomputable def p_laws_szPart (v0 : Part) (v1 : Int) : Option (Int) := bd (p_laws_szIntS v0.1 v1) fun r3 => cond (decide (r3 < 0)) (some (-1)) (bd (p_laws_szRowSS v0.2 r3) fun r6 => cond (decide (r6 < 0)) (some (-1)) (some r6))
theorem c_laws_szPart {r : Int} (v0 : Part) (x_v0 : (Option Addr × Nat) × (Option Addr × Nat)) (v1 : Int) (H : p_laws_szPart v0 v1 = some r) : Fn' Tryz.prog 75 #[.agg #[.slice x_v0.1.1 v0.1.length x_v0.1.2, .slice x_v0.2.1 v0.2.length x_v0.2.2], .int .i64 (v1)] [imm (.slice x_v0.1.1 v0.1.length x_v0.1.2) v0.1, imm (.slice x_v0.2.1 v0.2.length x_v0.2.2) v0.2] [] (ι := Unit) (fun _ => .int .i64 (r)) (fun _ => []) (fun _ => []) := by
 refine calls_of (args := [_, _]) Tryz.func75 rfl (by kernel_rfl) Tryz.ntmps75 (by simp) fun c => ?_
 unfold p_laws_szPart at H
 refine Tr.openD Ent.z.s fun X1 => (Tr.seq (Tr.region (Rg.ef (e_box (t := 110) rfl) rfl ?_)))
 rintro _ _ _ ⟨g2, rfl, rfl, rfl⟩
 refine Rg.a (v := .int .i64 (0)) rfl (Rg.nl (nT (?_)))
 refine Tr.seq (Tr.region (Rg.p (p_fabE fa110_0 rfl rfl) (Rg.o (q_ldb ty69 rfl Has.here rfl) (Rg.m rfl ?_))))
 obtain ⟨r3, h4, H⟩ := bd.of H
 refine Rg.o (q_call (c_laws_szIntS v0.1 x_v0.1 v1 h4) rfl (EntsB.cons (Ent.b Ent.z.s) EntsB.nil)) (Rg.a rfl (Rg.nl (nT (?_))))
 refine Tr.seq (Tr.seq (Tr.region (Rg.m rfl (Rg.p (p_lss rfl rfl) (Rg.nl ?_)))))
 refine nT (?_)
 refine Tr.cond (b := decide (r3 < 0)) rfl (fun h5 => ?_) (fun h5 => ?_)
 ·have H := cdT h5 H
  refine Tr.seq (Tr.region (Rg.a (v := .int .i64 (-1)) rfl (Rg.nl (nT (?_)))))
  refine tRet (rT (?_))
  obtain rfl := si H
  exact bk1 rfl rfl rfl rfl Take.nil
 ·have H := cdF h5 H
  refine tSkip (nT (?_))
  refine Tr.seq (Tr.region (Rg.p (p_fabE fa110_1 rfl rfl) (Rg.o (q_ldb ty108 rfl Has.here rfl) (Rg.m rfl ?_))))
  obtain ⟨r6, h7, H⟩ := bd.of H
  refine Rg.o (q_call (c_laws_szRowSS v0.2 x_v0.2 r3 h7) rfl (EntsB.cons (Ent.b (Ent.dimm Ent.z)) EntsB.nil)) (Rg.a rfl (Rg.nl (nT (?_))))
  refine Tr.seq (Tr.seq (Tr.region (Rg.m rfl (Rg.p (p_lss rfl rfl) (Rg.nl ?_)))))
  refine nT (?_)
  refine Tr.cond (b := decide (r6 < 0)) rfl (fun h8 => ?_) (fun h8 => ?_)
  ·have H := cdT h8 H
   refine Tr.seq (Tr.region (Rg.a (v := .int .i64 (-1)) rfl (Rg.nl (nT (?_)))))
   refine tRet (rT (?_))
   obtain rfl := si H
   exact bk1 rfl rfl rfl rfl Take.nil
  ·have H := cdF h8 H
   refine tSkip (nT (?_))
   refine Tr.seq (Tr.region (Rg.m rfl (Rg.a rfl (Rg.nl (nT (?_))))))
   refine tRet ?_
   obtain rfl := si H
   exact bk1 rfl rfl rfl rfl Take.nil
noncomputable def p_laws_szPartS_b0 (v0 : (List Part)) (Q8 : Int × Int) : Option ((Int × Int) ⊕ (Int ⊕ Int)) := cond (decide (Q8.2 < (v0.length : Int))) (gd (ix Q8.2 v0.length) <| bd (p_laws_szPart (nth v0 Q8.2.toNat) Q8.1) fun r18 => cond (decide (r18 < 0)) (some (.inr (.inr (-1)))) (gd (I64 (Q8.2 + 1)) <| some (.inl (r18, Q8.2 + 1)))) (some (.inr (.inl Q8.1)))
noncomputable def p_laws_szPartS (v0 : (List Part)) (v1 : Int) : Option (Int) := gd (I64 (v1 - (v0.length : Int))) <| cond (decide ((v1 - (v0.length : Int)) < 0)) (some (-1)) (bd (lp (p_laws_szPartS_b0 v0) (v1 - (v0.length : Int), 0)) <| sw (fun e22 => some e22) (fun q => some q))
theorem c_laws_szPartS {r : Int} (v0 : (List Part)) (x_v0 : Option Addr × Nat) (v1 : Int) (H : p_laws_szPartS v0 v1 = some r) : Fn' Tryz.prog 32 #[.slice x_v0.1 v0.length x_v0.2, .int .i64 (v1)] [imm (.slice x_v0.1 v0.length x_v0.2) v0] [] (ι := Unit) (fun _ => .int .i64 (r)) (fun _ => []) (fun _ => []) := by
 refine calls_of (args := [_, _]) Tryz.func32 rfl (by kernel_rfl) Tryz.ntmps32 (by simp) fun c => ?_
 unfold p_laws_szPartS at H
 refine Tr.openD Ent.z fun X1 => (Tr.seq (Tr.region (Rg.a (v := .int .i64 (0)) rfl (Rg.nl (nT (?_))))))
 refine Tr.seq (Tr.region (Rg.m rfl (Rg.m rfl (Rg.p (p_len 110 Tryz.underlying26 rfl) ?_))))
 obtain ⟨h2, H⟩ := gd.of H
 refine Rg.p (p_sub rfl rfl h2) (Rg.a rfl (Rg.nl (nT (?_))))
 refine Tr.seq (Tr.seq (Tr.region (Rg.m rfl (Rg.p (p_lss rfl rfl) (Rg.nl ?_)))))
 refine nT (?_)
 refine Tr.cond (b := decide ((v1 - (v0.length : Int)) < 0)) rfl (fun h3 => ?_) (fun h3 => ?_)
 ·have H := cdT h3 H
  refine Tr.seq (Tr.region (Rg.a (v := .int .i64 (-1)) rfl (Rg.nl (nT (?_)))))
  refine tRet (rT (?_))
  obtain rfl := si H
  exact bk1 rfl rfl rfl rfl Take.nil
 ·have H := cdF h3 H
  refine tSkip (nT (?_))
  refine Tr.seq (Tr.seq (Tr.region (Rg.a (v := .int .i64 (0)) rfl (Rg.nl (nT (?_))))))
  obtain ⟨x4, hx5, H⟩ := bd.of H
  obtain ⟨n6, hx5⟩ := lp.of hx5
  refine tMidNC (ι := { q : (Int) × Unit // x4 = .inl q.1 }) (fun ψ => [(1, .int .i64 (ψ.1.1))]) (fun ψ => []) ?_ ?_
  ·refine Tr.block (tLoopC (ι := { q : Nat × (Int × Int) × Unit // itr (p_laws_szPartS_b0 v0) q.1 q.2.1 = some x4 }) (fun ζ => [(0, .slice x_v0.1 v0.length x_v0.2), (1, .int .i64 (ζ.1.2.1.1)), (5, .int .i64 (ζ.1.2.1.2))]) (fun ζ => []) (fun ζ => ζ.1.1) ⟨(n6, (v1 - (v0.length : Int), 0), ()), hx5⟩ ⟨rfl, rfl, rfl, trivial⟩ Take.nil ?_)
   rintro ⟨⟨m7, Q8, z9⟩, hk14⟩
   obtain ⟨m15, t11, e, H1, hi12, hb13⟩ := itr.of (n := m7) (s := Q8) hk14
   subst e; unfold p_laws_szPartS_b0 at H1
   show Tr _ _ _ _ _ [(0, .slice x_v0.1 v0.length x_v0.2), (1, .int .i64 (Q8.1)), (5, .int .i64 (Q8.2))] _ []
   refine Tr.seq (Tr.seq (Tr.region (Rg.m rfl (Rg.m rfl (Rg.p (p_len 110 Tryz.underlying26 rfl) ?_)))))
   refine Rg.p (p_lss rfl rfl) (Rg.nl (nT (?_)))
   refine Tr.cond (b := decide (Q8.2 < (v0.length : Int))) rfl (fun h16 => ?_) (fun h16 => ?_)
   ·have H1 := cdT h16 H1
    refine tSkip (nT (?_))
    refine Tr.seq (Tr.block (Tr.seq (Tr.region (Rg.m rfl (Rg.m rfl ?_)))))
    obtain ⟨h17, H1⟩ := gd.of H1
    refine Rg.o (q_ixg Tryz.underlying26 ty110 rfl rfl h17 rfl (Ent.b (Ent.darr Ent.z))) (Rg.o (v := .agg #[.slice (((X1 Q8.2.toNat).1).1) (((nth v0 Q8.2.toNat).1).length) (((X1 Q8.2.toNat).1).2.1), .slice (((X1 Q8.2.toNat).2).1) (((nth v0 Q8.2.toNat).2).length) (((X1 Q8.2.toNat).2).2.1)]) (q_ldeA (i := Q8.2.toNat) ty110 rfl (Ent.b (Ent.darr Ent.z)) h17.lt) (Rg.m rfl ?_))
    obtain ⟨r18, h19, H1⟩ := bd.of H1
    refine Rg.o (q_call (c_laws_szPart (nth v0 Q8.2.toNat) ((((X1 Q8.2.toNat).1).1, ((X1 Q8.2.toNat).1).2.1), (((X1 Q8.2.toNat).2).1, ((X1 Q8.2.toNat).2).2.1)) Q8.1 h19) rfl (EntsB.cons (Ent.b (Ent.dimm (Ent.dfst (Ent.del Ent.z h17.lt)))) (EntsB.cons (Ent.b (Ent.dimm (Ent.dsnd (Ent.del Ent.z h17.lt)))) EntsB.nil))) (Rg.a rfl (Rg.nl (nT (?_))))
    refine Tr.seq (Tr.region (Rg.m rfl (Rg.p (p_lss rfl rfl) (Rg.nl (nT (?_))))))
    refine Tr.cond (b := decide (r18 < 0)) rfl (fun h20 => ?_) (fun h20 => ?_)
    ·have H1 := cdT h20 H1
     refine Tr.seq (Tr.region (Rg.a (v := .int .i64 (-1)) rfl (Rg.nl (nT (?_)))))
     refine tRet (rB (rT (rT (rB (rT (rT (?_)))))))
     have hx := hb13 _ (Option.some.inj H1).symm; subst hx
     replace H := sw.r H
     obtain rfl := si H
     exact bk1 rfl rfl rfl rfl Take.nil
    ·have H1 := cdF h20 H1
     refine tSkip (nB (nT (?_)))
     refine Tr.region (Rg.m rfl ?_)
     obtain ⟨h21, H1⟩ := gd.of H1
     refine Rg.p (p_add rfl rfl h21) (Rg.a rfl (Rg.nl ?_))
     exact nLC ⟨(m15, (r18, Q8.2 + 1), ()), hi12 _ (Option.some.inj H1).symm⟩ (Nat.lt_succ_self _) ⟨rfl, rfl, rfl, trivial⟩ Ents.refl Take.nil
   ·have H1 := cdF h16 H1
    refine tExit (xT (xT (xE (?_))))
    exact nMC ⟨(Q8.1, ()), (hb13 _ (Option.some.inj H1).symm).symm⟩ ⟨rfl, trivial⟩ Ents.refl Take.nil
  ·rintro ⟨⟨e22, y10⟩, hx⟩; subst hx; replace H := sw.l H
   show At _ _ [(1, .int .i64 (e22))] _ [] _
   refine nT (?_)
   refine Tr.seq (Tr.region (Rg.m rfl (Rg.a rfl (Rg.nl (nT (?_))))))
   refine tRet ?_
   obtain rfl := si H
   exact bk1 rfl rfl rfl rfl Take.nil
noncomputable def p_laws_szSampleS (v0 : (List Sample)) (v1 : Int) : Option (Int) := gd (I64 (v1 - (v0.length : Int))) <| cond (decide ((v1 - (v0.length : Int)) < 0)) (some (-1)) (some (v1 - (v0.length : Int)))
theorem c_laws_szSampleS {r : Int} (v0 : (List Sample)) (x_v0 : Option Addr × Nat) (v1 : Int) (H : p_laws_szSampleS v0 v1 = some r) : Fn' Tryz.prog 33 #[.slice x_v0.1 v0.length x_v0.2, .int .i64 (v1)] [imm (.slice x_v0.1 v0.length x_v0.2) v0] [] (ι := Unit) (fun _ => .int .i64 (r)) (fun _ => []) (fun _ => []) := by
 refine calls_of (args := [_, _]) Tryz.func33 rfl (by kernel_rfl) Tryz.ntmps33 (by simp) fun c => ?_
 unfold p_laws_szSampleS at H
 refine Tr.seq (Tr.region (Rg.a (v := .int .i64 (0)) rfl (Rg.nl (nT (?_)))))
 refine Tr.seq (Tr.region (Rg.m rfl (Rg.m rfl (Rg.p (p_len 124 Tryz.underlying27 rfl) ?_))))
 obtain ⟨h1, H⟩ := gd.of H
 refine Rg.p (p_sub rfl rfl h1) (Rg.a rfl (Rg.nl (nT (?_))))
 refine Tr.seq (Tr.seq (Tr.region (Rg.m rfl (Rg.p (p_lss rfl rfl) (Rg.nl ?_)))))
 refine nT (?_)
 refine Tr.cond (b := decide ((v1 - (v0.length : Int)) < 0)) rfl (fun h2 => ?_) (fun h2 => ?_)
 ·have H := cdT h2 H
  refine Tr.seq (Tr.region (Rg.a (v := .int .i64 (-1)) rfl (Rg.nl (nT (?_)))))
  refine tRet (rT (?_))
  obtain rfl := si H
  exact bk1 rfl rfl rfl rfl Take.nil
 ·have H := cdF h2 H
  refine tSkip (nT (?_))
  refine Tr.seq (Tr.region (Rg.m rfl (Rg.a rfl (Rg.nl (nT (?_))))))
  refine tRet ?_
  obtain rfl := si H
  exact bk1 rfl rfl rfl rfl Take.nil
noncomputable def p_laws_szStore (v0 : Store) (v1 : Int) : Option (Int) := bd (p_laws_szIndex v0.1 v1) fun r5 => cond (decide (r5 < 0)) (some (-1)) (bd (p_laws_szPartS v0.2.1 r5) fun r8 => cond (decide (r8 < 0)) (some (-1)) (bd (p_laws_szSampleS v0.2.2 r8) fun r11 => cond (decide (r11 < 0)) (some (-1)) (some r11)))
theorem c_laws_szStore {r : Int} (v0 : Store) (x_v0 : ((Option Addr × Nat) × (Option Addr × Nat)) × (Option Addr × Nat) × (Option Addr × Nat)) (v1 : Int) (H : p_laws_szStore v0 v1 = some r) : Fn' Tryz.prog 8 #[.agg #[.slice x_v0.1.1.1 v0.1.1.length x_v0.1.1.2, .slice x_v0.1.2.1 v0.1.2.length x_v0.1.2.2, .slice x_v0.2.1.1 v0.2.1.length x_v0.2.1.2, .slice x_v0.2.2.1 v0.2.2.length x_v0.2.2.2], .int .i64 (v1)] [imm (.slice x_v0.1.1.1 v0.1.1.length x_v0.1.1.2) v0.1.1, imm (.slice x_v0.1.2.1 v0.1.2.length x_v0.1.2.2) v0.1.2, imm (.slice x_v0.2.1.1 v0.2.1.length x_v0.2.1.2) v0.2.1, imm (.slice x_v0.2.2.1 v0.2.2.length x_v0.2.2.2) v0.2.2] [] (ι := Unit) (fun _ => .int .i64 (r)) (fun _ => []) (fun _ => []) := by
 refine calls_of (args := [_, _]) Tryz.func8 rfl (by kernel_rfl) Tryz.ntmps8 (by simp) fun c => ?_
 unfold p_laws_szStore at H
 refine Tr.openD Ent.z fun X1 => (Tr.openD Ent.z.s.s fun X2 => (Tr.openD Ent.z.s.s.s.s fun X3 => (Tr.seq (Tr.region (Rg.ef (e_box (t := 29) rfl) rfl ?_)))))
 rintro _ _ _ ⟨g4, rfl, rfl, rfl⟩
 refine Rg.a (v := .int .i64 (0)) rfl (Rg.nl (nT (?_)))
 refine Tr.seq (Tr.region (Rg.p (p_fabE fa29_0 rfl rfl) (Rg.o (v := .agg #[.slice x_v0.1.1.1 v0.1.1.length x_v0.1.1.2, .slice x_v0.1.2.1 v0.1.2.length x_v0.1.2.2]) (q_ldbP [.slice x_v0.1.1.1 v0.1.1.length x_v0.1.1.2, .slice x_v0.1.2.1 v0.1.2.length x_v0.1.2.2] ty25 rfl Has.here rfl rfl) (Rg.m rfl ?_))))
 obtain ⟨r5, h6, H⟩ := bd.of H
 refine Rg.o (q_call (c_laws_szIndex v0.1 x_v0.1 v1 h6) rfl (EntsB.cons (Ent.b (Ent.dimm Ent.z.s.s)) (EntsB.cons (Ent.b (Ent.dimm Ent.z.s)) EntsB.nil))) (Rg.a rfl (Rg.nl (nT (?_))))
 refine Tr.seq (Tr.seq (Tr.region (Rg.m rfl (Rg.p (p_lss rfl rfl) (Rg.nl ?_)))))
 refine nT (?_)
 refine Tr.cond (b := decide (r5 < 0)) rfl (fun h7 => ?_) (fun h7 => ?_)
 ·have H := cdT h7 H
  refine Tr.seq (Tr.region (Rg.a (v := .int .i64 (-1)) rfl (Rg.nl (nT (?_)))))
  refine tRet (rT (?_))
  obtain rfl := si H
  exact bk1 rfl rfl rfl rfl Take.nil
 ·have H := cdF h7 H
  refine tSkip (nT (?_))
  refine Tr.seq (Tr.region (Rg.p (p_fabE fa29_1 rfl rfl) (Rg.o (q_ldb ty26 rfl Has.here rfl) (Rg.m rfl ?_))))
  obtain ⟨r8, h9, H⟩ := bd.of H
  refine Rg.o (q_call (c_laws_szPartS v0.2.1 x_v0.2.1 r5 h9) rfl (EntsB.cons (Ent.b (Ent.dimm Ent.z)) EntsB.nil)) (Rg.a rfl (Rg.nl (nT (?_))))
  refine Tr.seq (Tr.seq (Tr.region (Rg.m rfl (Rg.p (p_lss rfl rfl) (Rg.nl ?_)))))
  refine nT (?_)
  refine Tr.cond (b := decide (r8 < 0)) rfl (fun h10 => ?_) (fun h10 => ?_)
  ·have H := cdT h10 H
   refine Tr.seq (Tr.region (Rg.a (v := .int .i64 (-1)) rfl (Rg.nl (nT (?_)))))
   refine tRet (rT (?_))
   obtain rfl := si H
   exact bk1 rfl rfl rfl rfl Take.nil
  ·have H := cdF h10 H
   refine tSkip (nT (?_))
   refine Tr.seq (Tr.region (Rg.p (p_fabE fa29_2 rfl rfl) (Rg.o (q_ldb ty27 rfl Has.here rfl) (Rg.m rfl ?_))))
   obtain ⟨r11, h12, H⟩ := bd.of H
   refine Rg.o (q_call (c_laws_szSampleS v0.2.2 x_v0.2.2 r8 h12) rfl (EntsB.cons (Ent.b Ent.z.s.s.s.s.s.s) EntsB.nil)) (Rg.a rfl (Rg.nl (nT (?_))))
   refine Tr.seq (Tr.seq (Tr.region (Rg.m rfl (Rg.p (p_lss rfl rfl) (Rg.nl ?_)))))
   refine nT (?_)
   refine Tr.cond (b := decide (r11 < 0)) rfl (fun h13 => ?_) (fun h13 => ?_)
   ·have H := cdT h13 H
    refine Tr.seq (Tr.region (Rg.a (v := .int .i64 (-1)) rfl (Rg.nl (nT (?_)))))
    refine tRet (rT (?_))
    obtain rfl := si H
    exact bk1 rfl rfl rfl rfl Take.nil
   ·have H := cdF h13 H
    refine tSkip (nT (?_))
    refine Tr.seq (Tr.region (Rg.m rfl (Rg.a rfl (Rg.nl (nT (?_))))))
    refine tRet ?_
    obtain rfl := si H
    exact bk1 rfl rfl rfl rfl Take.nil
noncomputable def p_laws_toTag (v0 : Tag) : Option (Tag) := some v0
theorem c_laws_toTag {r : Tag} (v0 : Tag) (H : p_laws_toTag v0 = some r) : Fn' Tryz.prog 65 #[.agg #[.string (v0.1), .string (v0.2)]] [] [] (ι := Unit) (fun _ => .agg #[.string (r.1), .string (r.2)]) (fun _ => []) (fun _ => []) := by
 refine calls_of (args := [_]) Tryz.func65 rfl (by kernel_rfl) Tryz.ntmps65 (by simp) fun c => ?_
 unfold p_laws_toTag at H
 refine Tr.seq (Tr.region (Rg.ef (e_box (t := 94) rfl) rfl ?_))
 rintro _ _ _ ⟨g1, rfl, rfl, rfl⟩
 refine Rg.ef (e_alloc ty96) rfl ?_
 rintro _ _ _ ⟨g2, rfl, rfl, rfl⟩
 refine Rg.nl (nT (?_))
 refine Tr.seq (Tr.region (Rg.ef (e_alloc ty96) rfl ?_))
 rintro _ _ _ ⟨g3, rfl, rfl, rfl⟩
 refine Rg.nl (nT (?_))
 refine Tr.seq (Tr.region (Rg.p (p_fabE fa94_0 rfl rfl) (Rg.o (q_ldb ty9 rfl hs2 rfl) (Rg.p (p_fabE fa96_0 rfl rfl) (Rg.en (e_store (cs' := [.string (v0.1), .string (⟨#[]⟩)]) ty9 rfl rfl Upd.here rfl (one_of rfl) (Nat.le_of_ble_eq_true rfl) rfl) rfl ?_)))))
 rintro _ _ _ ⟨rfl, rfl, rfl⟩
 refine Rg.nl (nT (?_))
 refine Tr.seq (Tr.region (Rg.p (p_fabE fa94_1 rfl rfl) (Rg.o (q_ldb ty9 rfl hs2 rfl) (Rg.p (p_fabE fa96_1 rfl rfl) (Rg.en (e_store (cs' := [.string (v0.1), .string (v0.2)]) ty9 rfl rfl Upd.here rfl (one_of rfl) (Nat.le_of_ble_eq_true rfl) rfl) rfl ?_)))))
 rintro _ _ _ ⟨rfl, rfl, rfl⟩
 refine Rg.nl (nT (?_))
 refine Tr.seq (Tr.region (Rg.o (q_ldbA ty96 rfl Has.here rfl) (Rg.en (e_store (cs' := [.string (v0.1), .string (v0.2)]) ty96 rfl rfl up1 rfl (one_of rfl) (Nat.le_of_ble_eq_true rfl) rfl) rfl ?_)))
 rintro _ _ _ ⟨rfl, rfl, rfl⟩
 refine Rg.nl (nT (?_))
 refine tRet ?_
 obtain rfl := si H
 exact back1 () rfl (ResV.agg ty96 rfl hs1 rfl) rfl Ents.nil Take.nil
noncomputable def p_laws_toTagS_b0 (v0 : (List Tag)) (Q8 : (List Tag) × Int) : Option (((List Tag) × Int) ⊕ ((List Tag))) := cond (decide (Q8.2 < (v0.length : Int))) (gd (ix Q8.2 v0.length) <| bd (p_laws_toTag (nth v0 Q8.2.toNat)) fun r18 => gd (ix Q8.2 Q8.1.length) <| gd (I64 (Q8.2 + 1)) <| some (.inl ((Q8.1.set Q8.2.toNat r18), Q8.2 + 1))) (some (.inr Q8.1))
noncomputable def p_laws_toTagS (v0 : (List Tag)) : Option ((List Tag)) := gd (many (v0.length : Int)) <| bd (lp (p_laws_toTagS_b0 v0) ((List.replicate (v0.length : Int).toNat (Zr.z0 : Tag)), 0)) fun x4 => some x4
theorem c_laws_toTagS {r : (List Tag)} (v0 : (List Tag)) (x_v0 : Option Addr × Nat) (H : p_laws_toTagS v0 = some r) : Fn' Tryz.prog 24 #[.slice x_v0.1 v0.length x_v0.2] [imm (.slice x_v0.1 v0.length x_v0.2) v0] [] (ι := Option Addr × Nat) (fun x => .slice x.1 r.length x.2) (fun _ => []) (fun x => [tree (.slice x.1 r.length x.2) r]) := by
 refine calls_of (args := [_]) Tryz.func24 rfl (by kernel_rfl) Tryz.ntmps24 (by simp) fun c => ?_
 unfold p_laws_toTagS at H
 refine Tr.seq (Tr.region (Rg.a (v := .slice none 0 0) rfl (Rg.nl (nT (?_)))))
 refine Tr.seq (Tr.region (Rg.m rfl (Rg.p (p_len 94 Tryz.underlying51 rfl) ?_)))
 obtain ⟨h3, H⟩ := gd.of H
 refine Rg.ef (e_makeR Tag Tryz.underlying56 ty96 rfl rfl rfl h3 (by decide)) rfl ?_
 rintro _ _ _ ⟨a1, c2, rfl, rfl, rfl⟩
 refine Rg.a rfl (Rg.nl (nT (?_)))
 refine Tr.seq (Tr.seq (Tr.region (Rg.a (v := .int .i64 (0)) rfl (Rg.nl (nT (?_))))))
 obtain ⟨x4, hx5, H⟩ := bd.of H
 obtain ⟨n6, hx5⟩ := lp.of hx5
 refine tMidNC (ι := Unit) (fun ψ => [(3, .slice a1 x4.length c2)]) (fun ψ => [tree (.slice a1 x4.length c2) x4]) ?_ ?_
 ·refine Tr.block (tLoopC (ι := { q : Nat × ((List Tag) × Int) × Unit // itr (p_laws_toTagS_b0 v0) q.1 q.2.1 = some x4 }) (fun ζ => [(0, .slice x_v0.1 v0.length x_v0.2), (3, .slice a1 ζ.1.2.1.1.length c2), (4, .int .i64 (ζ.1.2.1.2))]) (fun ζ => [tree (.slice a1 ζ.1.2.1.1.length c2) ζ.1.2.1.1]) (fun ζ => ζ.1.1) ⟨(n6, ((List.replicate (v0.length : Int).toNat (Zr.z0 : Tag)), 0), ()), hx5⟩ ⟨rfl, rfl, rfl, trivial⟩ (.cons Del.here .nil) ?_)
  rintro ⟨⟨m7, Q8, z9⟩, hk14⟩
  obtain ⟨m15, t11, e, H1, hi12, hb13⟩ := itr.of (n := m7) (s := Q8) hk14
  subst e; unfold p_laws_toTagS_b0 at H1
  show Tr _ _ _ _ _ [(0, .slice x_v0.1 v0.length x_v0.2), (3, .slice a1 Q8.1.length c2), (4, .int .i64 (Q8.2))] _ [tree (.slice a1 Q8.1.length c2) Q8.1]
  refine Tr.seq (Tr.seq (Tr.region (Rg.m rfl (Rg.m rfl (Rg.p (p_len 94 Tryz.underlying51 rfl) ?_)))))
  refine Rg.p (p_lss rfl rfl) (Rg.nl (nT (?_)))
  refine Tr.cond (b := decide (Q8.2 < (v0.length : Int))) rfl (fun h16 => ?_) (fun h16 => ?_)
  ·have H1 := cdT h16 H1
   refine tSkip (nT (?_))
   refine Tr.seq (Tr.block (Tr.region (Rg.m rfl (Rg.m rfl (Rg.m rfl ?_)))))
   refine Rg.m rfl ?_
   obtain ⟨h17, H1⟩ := gd.of H1
   refine Rg.o (q_ixg Tryz.underlying51 ty94 rfl rfl h17 rfl (EntB.flat (Ent.b Ent.z))) (Rg.o (v := .agg #[.string ((nth v0 Q8.2.toNat).1), .string ((nth v0 Q8.2.toNat).2)]) (q_ldeA (i := Q8.2.toNat) ty94 rfl (EntB.flat (Ent.b Ent.z)) h17.lt) ?_)
   obtain ⟨r18, h19, H1⟩ := bd.of H1
   refine Rg.o (q_call (c_laws_toTag (nth v0 Q8.2.toNat) h19) rfl EntsB.nil) ?_
   obtain ⟨h20, H1⟩ := gd.of H1
   refine Rg.o (q_ixO' Tryz.underlying56 ty96 rfl rfl h20 Has.here) (Rg.en (e_setT (l := Q8.1) (α := Tag) (oa := a1) Q8.2.toNat r18 ((), ()) ty96 rfl rfl rfl h20.lt (ShpT.wfa _) (.cons Del.here .nil)) rfl ?_)
   rintro _ _ _ ⟨rfl, rfl, rfl⟩
   refine Rg.nl (nB (nT (?_)))
   refine Tr.olen Has.here fun hn => ?_; rw [hn]
   refine Tr.region (Rg.m rfl ?_)
   obtain ⟨h21, H1⟩ := gd.of H1
   refine Rg.p (p_add rfl rfl h21) (Rg.a rfl (Rg.nl ?_))
   exact nLC ⟨(m15, ((Q8.1.set Q8.2.toNat r18), Q8.2 + 1), ()), hi12 _ (Option.some.inj H1).symm⟩ (Nat.lt_succ_self _) ⟨rfl, rfl, rfl, trivial⟩ Ents.refl (.cons Del.here .nil)
  ·have H1 := cdF h16 H1
   refine tExit (xT (xT (xE (?_))))
   have hx := hb13 _ (Option.some.inj H1).symm; subst hx
   exact nMC () ⟨rfl, trivial⟩ Ents.refl (.cons Del.here .nil)
 ·intro y10
  show At _ _ [(3, .slice a1 x4.length c2)] _ [tree (.slice a1 x4.length c2) x4] _
  refine nT (?_)
  refine Tr.seq (Tr.region (Rg.m rfl (Rg.a rfl (Rg.nl (nT (?_))))))
  refine tRet ?_
  obtain rfl := si H
  exact back1 (a1, c2) rfl (ResV.tmp (v := .slice a1 x4.length c2) rfl) rfl Ents.nil (.cons Del.here .nil)
noncomputable def p_laws_toTagSS_b0 (v0 : (List (List Tag))) (Q9 : (List (List Tag)) × Int) : Option (((List (List Tag)) × Int) ⊕ ((List (List Tag)))) := cond (decide (Q9.2 < (v0.length : Int))) (gd (ix Q9.2 v0.length) <| bd (p_laws_toTagS (nth v0 Q9.2.toNat)) fun r19 => gd (ix Q9.2 Q9.1.length) <| gd (I64 (Q9.2 + 1)) <| some (.inl ((Q9.1.set Q9.2.toNat r19), Q9.2 + 1))) (some (.inr Q9.1))
noncomputable def p_laws_toTagSS (v0 : (List (List Tag))) : Option ((List (List Tag))) := gd (many (v0.length : Int)) <| bd (lp (p_laws_toTagSS_b0 v0) ((List.replicate (v0.length : Int).toNat (Zr.z0 : (List Tag))), 0)) fun x5 => some x5
theorem c_laws_toTagSS {r : (List (List Tag))} (v0 : (List (List Tag))) (x_v0 : Option Addr × Nat) (H : p_laws_toTagSS v0 = some r) : Fn' Tryz.prog 84 #[.slice x_v0.1 v0.length x_v0.2] [imm (.slice x_v0.1 v0.length x_v0.2) v0] [] (ι := Option Addr × Nat) (fun x => .slice x.1 r.length x.2) (fun _ => []) (fun x => [tree (.slice x.1 r.length x.2) r]) := by
 refine calls_of (args := [_]) Tryz.func84 rfl (by kernel_rfl) Tryz.ntmps84 (by simp) fun c => ?_
 unfold p_laws_toTagSS at H
 refine Tr.openD Ent.z fun X1 => (Tr.seq (Tr.region (Rg.a (v := .slice none 0 0) rfl (Rg.nl (nT (?_))))))
 refine Tr.seq (Tr.region (Rg.m rfl (Rg.p (p_len 51 Tryz.underlying22 rfl) ?_)))
 obtain ⟨h4, H⟩ := gd.of H
 refine Rg.ef (e_makeR (List Tag) Tryz.underlying32 ty56 rfl rfl rfl h4 (by decide)) rfl ?_
 rintro _ _ _ ⟨a2, c3, rfl, rfl, rfl⟩
 refine Rg.a rfl (Rg.nl (nT (?_)))
 refine Tr.seq (Tr.seq (Tr.region (Rg.a (v := .int .i64 (0)) rfl (Rg.nl (nT (?_))))))
 obtain ⟨x5, hx6, H⟩ := bd.of H
 obtain ⟨n7, hx6⟩ := lp.of hx6
 refine tMidNC (ι := Unit) (fun ψ => [(3, .slice a2 x5.length c3)]) (fun ψ => [tree (.slice a2 x5.length c3) x5]) ?_ ?_
 ·refine Tr.block (tLoopC (ι := { q : Nat × ((List (List Tag)) × Int) × Unit // itr (p_laws_toTagSS_b0 v0) q.1 q.2.1 = some x5 }) (fun ζ => [(0, .slice x_v0.1 v0.length x_v0.2), (3, .slice a2 ζ.1.2.1.1.length c3), (4, .int .i64 (ζ.1.2.1.2))]) (fun ζ => [tree (.slice a2 ζ.1.2.1.1.length c3) ζ.1.2.1.1]) (fun ζ => ζ.1.1) ⟨(n7, ((List.replicate (v0.length : Int).toNat (Zr.z0 : (List Tag))), 0), ()), hx6⟩ ⟨rfl, rfl, rfl, trivial⟩ (.cons Del.here .nil) ?_)
  rintro ⟨⟨m8, Q9, z10⟩, hk15⟩
  obtain ⟨m16, t12, e, H1, hi13, hb14⟩ := itr.of (n := m8) (s := Q9) hk15
  subst e; unfold p_laws_toTagSS_b0 at H1
  show Tr _ _ _ _ _ [(0, .slice x_v0.1 v0.length x_v0.2), (3, .slice a2 Q9.1.length c3), (4, .int .i64 (Q9.2))] _ [tree (.slice a2 Q9.1.length c3) Q9.1]
  refine Tr.seq (Tr.seq (Tr.region (Rg.m rfl (Rg.m rfl (Rg.p (p_len 51 Tryz.underlying22 rfl) ?_)))))
  refine Rg.p (p_lss rfl rfl) (Rg.nl (nT (?_)))
  refine Tr.cond (b := decide (Q9.2 < (v0.length : Int))) rfl (fun h17 => ?_) (fun h17 => ?_)
  ·have H1 := cdT h17 H1
   refine tSkip (nT (?_))
   refine Tr.seq (Tr.block (Tr.region (Rg.m rfl (Rg.m rfl (Rg.m rfl ?_)))))
   refine Rg.m rfl ?_
   obtain ⟨h18, H1⟩ := gd.of H1
   refine Rg.o (q_ixg Tryz.underlying22 ty51 rfl rfl h18 rfl (Ent.b (Ent.darr Ent.z))) (Rg.o (q_lde (i := Q9.2.toNat) (j := 0) ty51 rfl (Ent.b (Ent.darr Ent.z)) h18.lt rfl) ?_)
   obtain ⟨r19, h20, H1⟩ := bd.of H1
   refine Rg.ef (e_callB (c_laws_toTagS (nth v0 Q9.2.toNat) ((X1 Q9.2.toNat).1, (X1 Q9.2.toNat).2.1) h20) (fun _ => (Solo.tree Solo.nil)) rfl (EntsB.cons (Ent.b (Ent.dimm (Ent.del Ent.z h18.lt))) EntsB.nil)) rfl ?_
   rintro _ _ _ ⟨x21, rfl, rfl, rfl⟩
   obtain ⟨h22, H1⟩ := gd.of H1
   refine Rg.o (q_ixO' Tryz.underlying32 ty56 rfl rfl h22 hs1) (Rg.en (e_setT (l := Q9.1) (α := (List Tag)) (oa := a2) Q9.2.toNat r19 x21 ty56 rfl rfl rfl h22.lt (ShpT.wfa _) (.cons dl1 (.cons Del.here .nil))) rfl ?_)
   rintro _ _ _ ⟨rfl, rfl, rfl⟩
   refine Rg.nl (nB (nT (?_)))
   refine Tr.olen Has.here fun hn => ?_; rw [hn]
   refine Tr.region (Rg.m rfl ?_)
   obtain ⟨h23, H1⟩ := gd.of H1
   refine Rg.p (p_add rfl rfl h23) (Rg.a rfl (Rg.nl ?_))
   exact nLC ⟨(m16, ((Q9.1.set Q9.2.toNat r19), Q9.2 + 1), ()), hi13 _ (Option.some.inj H1).symm⟩ (Nat.lt_succ_self _) ⟨rfl, rfl, rfl, trivial⟩ Ents.refl (.cons Del.here .nil)
  ·have H1 := cdF h17 H1
   refine tExit (xT (xT (xE (?_))))
   have hx := hb14 _ (Option.some.inj H1).symm; subst hx
   exact nMC () ⟨rfl, trivial⟩ Ents.refl (.cons Del.here .nil)
 ·intro y11
  show At _ _ [(3, .slice a2 x5.length c3)] _ [tree (.slice a2 x5.length c3) x5] _
  refine nT (?_)
  refine Tr.seq (Tr.region (Rg.m rfl (Rg.a rfl (Rg.nl (nT (?_))))))
  refine tRet ?_
  obtain rfl := si H
  exact back1 (a2, c3) rfl (ResV.tmp (v := .slice a2 x5.length c3) rfl) rfl Ents.nil (.cons Del.here .nil)
noncomputable def p_laws_toIntS_b0 (v0 : (List Int)) (Q8 : (List Int) × Int) : Option (((List Int) × Int) ⊕ ((List Int))) := cond (decide (Q8.2 < (v0.length : Int))) (gd (ix Q8.2 v0.length) <| gd (ix Q8.2 Q8.1.length) <| gd (I64 (Q8.2 + 1)) <| some (.inl ((Q8.1.set Q8.2.toNat (nth v0 Q8.2.toNat)), Q8.2 + 1))) (some (.inr Q8.1))
noncomputable def p_laws_toIntS (v0 : (List Int)) : Option ((List Int)) := gd (many (v0.length : Int)) <| bd (lp (p_laws_toIntS_b0 v0) ((List.replicate (v0.length : Int).toNat (Zr.z0 : Int)), 0)) fun x4 => some x4
theorem c_laws_toIntS {r : (List Int)} (v0 : (List Int)) (x_v0 : Option Addr × Nat) (H : p_laws_toIntS v0 = some r) : Fn' Tryz.prog 124 #[.slice x_v0.1 v0.length x_v0.2] [imm (.slice x_v0.1 v0.length x_v0.2) v0] [] (ι := Option Addr × Nat) (fun x => .slice x.1 r.length x.2) (fun _ => []) (fun x => [tree (.slice x.1 r.length x.2) r]) := by
 refine calls_of (args := [_]) Tryz.func124 rfl (by kernel_rfl) Tryz.ntmps124 (by simp) fun c => ?_
 unfold p_laws_toIntS at H
 refine Tr.seq (Tr.region (Rg.a (v := .slice none 0 0) rfl (Rg.nl (nT (?_)))))
 refine Tr.seq (Tr.region (Rg.m rfl (Rg.p (p_len 3 Tryz.underlying69 rfl) ?_)))
 obtain ⟨h3, H⟩ := gd.of H
 refine Rg.ef (e_makeR Int Tryz.underlying69 ty3 rfl rfl rfl h3 (by decide)) rfl ?_
 rintro _ _ _ ⟨a1, c2, rfl, rfl, rfl⟩
 refine Rg.a rfl (Rg.nl (nT (?_)))
 refine Tr.seq (Tr.seq (Tr.region (Rg.a (v := .int .i64 (0)) rfl (Rg.nl (nT (?_))))))
 obtain ⟨x4, hx5, H⟩ := bd.of H
 obtain ⟨n6, hx5⟩ := lp.of hx5
 refine tMidNC (ι := Unit) (fun ψ => [(3, .slice a1 x4.length c2)]) (fun ψ => [tree (.slice a1 x4.length c2) x4]) ?_ ?_
 ·refine Tr.block (tLoopC (ι := { q : Nat × ((List Int) × Int) × Unit // itr (p_laws_toIntS_b0 v0) q.1 q.2.1 = some x4 }) (fun ζ => [(0, .slice x_v0.1 v0.length x_v0.2), (3, .slice a1 ζ.1.2.1.1.length c2), (4, .int .i64 (ζ.1.2.1.2))]) (fun ζ => [tree (.slice a1 ζ.1.2.1.1.length c2) ζ.1.2.1.1]) (fun ζ => ζ.1.1) ⟨(n6, ((List.replicate (v0.length : Int).toNat (Zr.z0 : Int)), 0), ()), hx5⟩ ⟨rfl, rfl, rfl, trivial⟩ (.cons Del.here .nil) ?_)
  rintro ⟨⟨m7, Q8, z9⟩, hk14⟩
  obtain ⟨m15, t11, e, H1, hi12, hb13⟩ := itr.of (n := m7) (s := Q8) hk14
  subst e; unfold p_laws_toIntS_b0 at H1
  show Tr _ _ _ _ _ [(0, .slice x_v0.1 v0.length x_v0.2), (3, .slice a1 Q8.1.length c2), (4, .int .i64 (Q8.2))] _ [tree (.slice a1 Q8.1.length c2) Q8.1]
  refine Tr.seq (Tr.seq (Tr.region (Rg.m rfl (Rg.m rfl (Rg.p (p_len 3 Tryz.underlying69 rfl) ?_)))))
  refine Rg.p (p_lss rfl rfl) (Rg.nl (nT (?_)))
  refine Tr.cond (b := decide (Q8.2 < (v0.length : Int))) rfl (fun h16 => ?_) (fun h16 => ?_)
  ·have H1 := cdT h16 H1
   refine tSkip (nT (?_))
   refine Tr.seq (Tr.block (Tr.region (Rg.m rfl (Rg.m rfl (Rg.m rfl ?_)))))
   refine Rg.m rfl ?_
   obtain ⟨h17, H1⟩ := gd.of H1
   refine Rg.o (q_ixg Tryz.underlying69 ty3 rfl rfl h17 rfl (EntB.flat (Ent.b Ent.z))) (Rg.o (q_lde (i := Q8.2.toNat) (j := 0) ty3 rfl (EntB.flat (Ent.b Ent.z)) h17.lt rfl) ?_)
   obtain ⟨h18, H1⟩ := gd.of H1
   refine Rg.o (q_ixO' Tryz.underlying69 ty3 rfl rfl h18 Has.here) (Rg.en (e_setT (l := Q8.1) (α := Int) (oa := a1) Q8.2.toNat (nth v0 Q8.2.toNat) () ty3 rfl rfl rfl h18.lt (ShpT.wfa _) (.cons Del.here .nil)) rfl ?_)
   rintro _ _ _ ⟨rfl, rfl, rfl⟩
   refine Rg.nl (nB (nT (?_)))
   refine Tr.olen Has.here fun hn => ?_; rw [hn]
   refine Tr.region (Rg.m rfl ?_)
   obtain ⟨h19, H1⟩ := gd.of H1
   refine Rg.p (p_add rfl rfl h19) (Rg.a rfl (Rg.nl ?_))
   exact nLC ⟨(m15, ((Q8.1.set Q8.2.toNat (nth v0 Q8.2.toNat)), Q8.2 + 1), ()), hi12 _ (Option.some.inj H1).symm⟩ (Nat.lt_succ_self _) ⟨rfl, rfl, rfl, trivial⟩ Ents.refl (.cons Del.here .nil)
  ·have H1 := cdF h16 H1
   refine tExit (xT (xT (xE (?_))))
   have hx := hb13 _ (Option.some.inj H1).symm; subst hx
   exact nMC () ⟨rfl, trivial⟩ Ents.refl (.cons Del.here .nil)
 ·intro y10
  show At _ _ [(3, .slice a1 x4.length c2)] _ [tree (.slice a1 x4.length c2) x4] _
  refine nT (?_)
  refine Tr.seq (Tr.region (Rg.m rfl (Rg.a rfl (Rg.nl (nT (?_))))))
  refine tRet ?_
  obtain rfl := si H
  exact back1 (a1, c2) rfl (ResV.tmp (v := .slice a1 x4.length c2) rfl) rfl Ents.nil (.cons Del.here .nil)
noncomputable def p_laws_toPost (v0 : Post) : Option (Post) := bd (p_laws_toTag v0.1) fun r4 => bd (p_laws_toIntS v0.2) fun r6 => some (r4, r6)
theorem c_laws_toPost {r : Post} (v0 : Post) (x_v0 : (Unit × Unit) × (Option Addr × Nat)) (H : p_laws_toPost v0 = some r) : Fn' Tryz.prog 123 #[.agg #[.string (v0.1.1), .string (v0.1.2), .slice x_v0.2.1 v0.2.length x_v0.2.2]] [imm (.slice x_v0.2.1 v0.2.length x_v0.2.2) v0.2] [] (ι := (Unit × Unit) × (Option Addr × Nat)) (fun x => .agg #[.string (r.1.1), .string (r.1.2), .slice x.2.1 r.2.length x.2.2]) (fun _ => []) (fun x => [tree (.slice x.2.1 r.2.length x.2.2) r.2]) := by
 refine calls_of (args := [_]) Tryz.func123 rfl (by kernel_rfl) Tryz.ntmps123 (by simp) fun c => ?_
 unfold p_laws_toPost at H
 refine Tr.seq (Tr.region (Rg.ef (e_box (t := 149) rfl) rfl ?_))
 rintro _ _ _ ⟨g1, rfl, rfl, rfl⟩
 refine Rg.ef (e_alloc ty113) rfl ?_
 rintro _ _ _ ⟨g2, rfl, rfl, rfl⟩
 refine Rg.nl (nT (?_))
 refine Tr.seq (Tr.region (Rg.ef (e_alloc ty113) rfl ?_))
 rintro _ _ _ ⟨g3, rfl, rfl, rfl⟩
 refine Rg.nl (nT (?_))
 refine Tr.seq (Tr.region (Rg.p (p_fabE fa149_0 rfl rfl) (Rg.o (v := .agg #[.string (v0.1.1), .string (v0.1.2)]) (q_ldbP [.string (v0.1.1), .string (v0.1.2)] ty94 rfl hs2 rfl rfl) ?_)))
 obtain ⟨r4, h5, H⟩ := bd.of H
 refine Rg.o (q_call (c_laws_toTag v0.1 h5) rfl EntsB.nil) (Rg.p (p_fabE fa113_0 rfl rfl) (Rg.en (e_store (cs' := [.string (r4.1), .string (r4.2), .slice none 0 0]) ty96 rfl rfl Upd.here rfl (one_of rfl) (Nat.le_of_ble_eq_true rfl) rfl) rfl ?_))
 rintro _ _ _ ⟨rfl, rfl, rfl⟩
 refine Rg.nl (nT (?_))
 refine Tr.seq (Tr.region (Rg.p (p_fabE fa149_1 rfl rfl) (Rg.o (q_ldb ty69 rfl hs2 rfl) ?_)))
 obtain ⟨r6, h7, H⟩ := bd.of H
 refine Rg.ef (e_callB (c_laws_toIntS v0.2 x_v0.2 h7) (fun _ => (Solo.tree Solo.nil)) rfl (EntsB.cons (Ent.b Ent.z) EntsB.nil)) rfl ?_
 rintro _ _ _ ⟨x8, rfl, rfl, rfl⟩
 refine Rg.p (p_fabE fa113_1 rfl rfl) (Rg.en (e_store (cs' := [.string (r4.1), .string (r4.2), .slice x8.1 r6.length x8.2]) ty69 rfl rfl up1 rfl (one_of rfl) (Nat.le_of_ble_eq_true rfl) rfl) rfl ?_)
 rintro _ _ _ ⟨rfl, rfl, rfl⟩
 refine Rg.nl (nT (?_))
 refine Tr.seq (Tr.region (Rg.o (q_ldbA ty113 rfl hs1 rfl) (Rg.en (e_store (cs' := [.string (r4.1), .string (r4.2), .slice x8.1 r6.length x8.2]) ty113 rfl rfl up2 rfl (one_of rfl) (Nat.le_of_ble_eq_true rfl) rfl) rfl ?_)))
 rintro _ _ _ ⟨rfl, rfl, rfl⟩
 refine Rg.nl (nT (?_))
 refine tRet ?_
 obtain rfl := si H
 exact back1 (((), ()), x8) rfl (ResV.agg ty113 rfl hs2 rfl) rfl Ents.nil (.cons Del.here .nil)
noncomputable def p_laws_toPostS_b0 (v0 : (List Post)) (Q9 : (List Post) × Int) : Option (((List Post) × Int) ⊕ ((List Post))) := cond (decide (Q9.2 < (v0.length : Int))) (gd (ix Q9.2 v0.length) <| bd (p_laws_toPost (nth v0 Q9.2.toNat)) fun r19 => gd (ix Q9.2 Q9.1.length) <| gd (I64 (Q9.2 + 1)) <| some (.inl ((Q9.1.set Q9.2.toNat r19), Q9.2 + 1))) (some (.inr Q9.1))
noncomputable def p_laws_toPostS (v0 : (List Post)) : Option ((List Post)) := gd (many (v0.length : Int)) <| bd (lp (p_laws_toPostS_b0 v0) ((List.replicate (v0.length : Int).toNat (Zr.z0 : Post)), 0)) fun x5 => some x5
theorem c_laws_toPostS {r : (List Post)} (v0 : (List Post)) (x_v0 : Option Addr × Nat) (H : p_laws_toPostS v0 = some r) : Fn' Tryz.prog 85 #[.slice x_v0.1 v0.length x_v0.2] [imm (.slice x_v0.1 v0.length x_v0.2) v0] [] (ι := Option Addr × Nat) (fun x => .slice x.1 r.length x.2) (fun _ => []) (fun x => [tree (.slice x.1 r.length x.2) r]) := by
 refine calls_of (args := [_]) Tryz.func85 rfl (by kernel_rfl) Tryz.ntmps85 (by simp) fun c => ?_
 unfold p_laws_toPostS at H
 refine Tr.openD Ent.z fun X1 => (Tr.seq (Tr.region (Rg.a (v := .slice none 0 0) rfl (Rg.nl (nT (?_))))))
 refine Tr.seq (Tr.region (Rg.m rfl (Rg.p (p_len 149 Tryz.underlying23 rfl) ?_)))
 obtain ⟨h4, H⟩ := gd.of H
 refine Rg.ef (e_makeR Post Tryz.underlying33 ty113 rfl rfl rfl h4 (by decide)) rfl ?_
 rintro _ _ _ ⟨a2, c3, rfl, rfl, rfl⟩
 refine Rg.a rfl (Rg.nl (nT (?_)))
 refine Tr.seq (Tr.seq (Tr.region (Rg.a (v := .int .i64 (0)) rfl (Rg.nl (nT (?_))))))
 obtain ⟨x5, hx6, H⟩ := bd.of H
 obtain ⟨n7, hx6⟩ := lp.of hx6
 refine tMidNC (ι := Unit) (fun ψ => [(3, .slice a2 x5.length c3)]) (fun ψ => [tree (.slice a2 x5.length c3) x5]) ?_ ?_
 ·refine Tr.block (tLoopC (ι := { q : Nat × ((List Post) × Int) × Unit // itr (p_laws_toPostS_b0 v0) q.1 q.2.1 = some x5 }) (fun ζ => [(0, .slice x_v0.1 v0.length x_v0.2), (3, .slice a2 ζ.1.2.1.1.length c3), (4, .int .i64 (ζ.1.2.1.2))]) (fun ζ => [tree (.slice a2 ζ.1.2.1.1.length c3) ζ.1.2.1.1]) (fun ζ => ζ.1.1) ⟨(n7, ((List.replicate (v0.length : Int).toNat (Zr.z0 : Post)), 0), ()), hx6⟩ ⟨rfl, rfl, rfl, trivial⟩ (.cons Del.here .nil) ?_)
  rintro ⟨⟨m8, Q9, z10⟩, hk15⟩
  obtain ⟨m16, t12, e, H1, hi13, hb14⟩ := itr.of (n := m8) (s := Q9) hk15
  subst e; unfold p_laws_toPostS_b0 at H1
  show Tr _ _ _ _ _ [(0, .slice x_v0.1 v0.length x_v0.2), (3, .slice a2 Q9.1.length c3), (4, .int .i64 (Q9.2))] _ [tree (.slice a2 Q9.1.length c3) Q9.1]
  refine Tr.seq (Tr.seq (Tr.region (Rg.m rfl (Rg.m rfl (Rg.p (p_len 149 Tryz.underlying23 rfl) ?_)))))
  refine Rg.p (p_lss rfl rfl) (Rg.nl (nT (?_)))
  refine Tr.cond (b := decide (Q9.2 < (v0.length : Int))) rfl (fun h17 => ?_) (fun h17 => ?_)
  ·have H1 := cdT h17 H1
   refine tSkip (nT (?_))
   refine Tr.seq (Tr.block (Tr.region (Rg.m rfl (Rg.m rfl (Rg.m rfl ?_)))))
   refine Rg.m rfl ?_
   obtain ⟨h18, H1⟩ := gd.of H1
   refine Rg.o (q_ixg Tryz.underlying23 ty149 rfl rfl h18 rfl (Ent.b (Ent.darr Ent.z))) (Rg.o (v := .agg #[.string (((nth v0 Q9.2.toNat).1).1), .string (((nth v0 Q9.2.toNat).1).2), .slice (((X1 Q9.2.toNat).2).1) (((nth v0 Q9.2.toNat).2).length) (((X1 Q9.2.toNat).2).2.1)]) (q_ldeA (i := Q9.2.toNat) ty149 rfl (Ent.b (Ent.darr Ent.z)) h18.lt) ?_)
   obtain ⟨r19, h20, H1⟩ := bd.of H1
   refine Rg.ef (e_callB (c_laws_toPost (nth v0 Q9.2.toNat) (((), ()), (((X1 Q9.2.toNat).2).1, ((X1 Q9.2.toNat).2).2.1)) h20) (fun _ => (Solo.tree Solo.nil)) rfl (EntsB.cons (Ent.b (Ent.dimm (Ent.dsnd (Ent.del Ent.z h18.lt)))) EntsB.nil)) rfl ?_
   rintro _ _ _ ⟨x21, rfl, rfl, rfl⟩
   obtain ⟨h22, H1⟩ := gd.of H1
   refine Rg.o (q_ixO' Tryz.underlying33 ty113 rfl rfl h22 hs1) (Rg.en (e_setT (l := Q9.1) (α := Post) (oa := a2) Q9.2.toNat r19 (((), ()), x21.2) ty113 rfl rfl rfl h22.lt (ShpT.wfa _) (.cons dl1 (.cons Del.here .nil))) rfl ?_)
   rintro _ _ _ ⟨rfl, rfl, rfl⟩
   refine Rg.nl (nB (nT (?_)))
   refine Tr.olen Has.here fun hn => ?_; rw [hn]
   refine Tr.region (Rg.m rfl ?_)
   obtain ⟨h23, H1⟩ := gd.of H1
   refine Rg.p (p_add rfl rfl h23) (Rg.a rfl (Rg.nl ?_))
   exact nLC ⟨(m16, ((Q9.1.set Q9.2.toNat r19), Q9.2 + 1), ()), hi13 _ (Option.some.inj H1).symm⟩ (Nat.lt_succ_self _) ⟨rfl, rfl, rfl, trivial⟩ Ents.refl (.cons Del.here .nil)
  ·have H1 := cdF h17 H1
   refine tExit (xT (xT (xE (?_))))
   have hx := hb14 _ (Option.some.inj H1).symm; subst hx
   exact nMC () ⟨rfl, trivial⟩ Ents.refl (.cons Del.here .nil)
 ·intro y11
  show At _ _ [(3, .slice a2 x5.length c3)] _ [tree (.slice a2 x5.length c3) x5] _
  refine nT (?_)
  refine Tr.seq (Tr.region (Rg.m rfl (Rg.a rfl (Rg.nl (nT (?_))))))
  refine tRet ?_
  obtain rfl := si H
  exact back1 (a2, c3) rfl (ResV.tmp (v := .slice a2 x5.length c3) rfl) rfl Ents.nil (.cons Del.here .nil)
noncomputable def p_laws_toIndex (v0 : Index) : Option (Index) := bd (p_laws_toTagSS v0.1) fun r6 => bd (p_laws_toPostS v0.2) fun r9 => some (r6, r9)
theorem c_laws_toIndex {r : Index} (v0 : Index) (x_v0 : (Option Addr × Nat) × (Option Addr × Nat)) (H : p_laws_toIndex v0 = some r) : Fn' Tryz.prog 39 #[.agg #[.slice x_v0.1.1 v0.1.length x_v0.1.2, .slice x_v0.2.1 v0.2.length x_v0.2.2]] [imm (.slice x_v0.1.1 v0.1.length x_v0.1.2) v0.1, imm (.slice x_v0.2.1 v0.2.length x_v0.2.2) v0.2] [] (ι := (Option Addr × Nat) × (Option Addr × Nat)) (fun x => .agg #[.slice x.1.1 r.1.length x.1.2, .slice x.2.1 r.2.length x.2.2]) (fun _ => []) (fun x => [tree (.slice x.1.1 r.1.length x.1.2) r.1, tree (.slice x.2.1 r.2.length x.2.2) r.2]) := by
 refine calls_of (args := [_]) Tryz.func39 rfl (by kernel_rfl) Tryz.ntmps39 (by simp) fun c => ?_
 unfold p_laws_toIndex at H
 refine Tr.openD Ent.z fun X1 => (Tr.openD Ent.z.s.s fun X2 => (Tr.seq (Tr.region (Rg.ef (e_box (t := 25) rfl) rfl ?_))))
 rintro _ _ _ ⟨g3, rfl, rfl, rfl⟩
 refine Rg.ef (e_alloc ty35) rfl ?_
 rintro _ _ _ ⟨g4, rfl, rfl, rfl⟩
 refine Rg.nl (nT (?_))
 refine Tr.seq (Tr.region (Rg.ef (e_alloc ty35) rfl ?_))
 rintro _ _ _ ⟨g5, rfl, rfl, rfl⟩
 refine Rg.nl (nT (?_))
 refine Tr.seq (Tr.region (Rg.p (p_fabE fa25_0 rfl rfl) (Rg.o (q_ldb ty22 rfl hs2 rfl) ?_)))
 obtain ⟨r6, h7, H⟩ := bd.of H
 refine Rg.ef (e_callB (c_laws_toTagSS v0.1 x_v0.1 h7) (fun _ => (Solo.tree Solo.nil)) rfl (EntsB.cons (Ent.b (Ent.dimm Ent.z.s)) EntsB.nil)) rfl ?_
 rintro _ _ _ ⟨x8, rfl, rfl, rfl⟩
 refine Rg.p (p_fabE fa35_0 rfl rfl) (Rg.en (e_store (cs' := [.slice x8.1 r6.length x8.2, .slice none 0 0]) ty32 rfl rfl up1 rfl (one_of rfl) (Nat.le_of_ble_eq_true rfl) rfl) rfl ?_)
 rintro _ _ _ ⟨rfl, rfl, rfl⟩
 refine Rg.nl (nT (?_))
 refine Tr.seq (Tr.region (Rg.p (p_fabE fa25_1 rfl rfl) (Rg.o (q_ldb ty23 rfl hs3 rfl) ?_)))
 obtain ⟨r9, h10, H⟩ := bd.of H
 refine Rg.ef (e_callB (c_laws_toPostS v0.2 x_v0.2 h10) (fun _ => (Solo.tree Solo.nil)) rfl (EntsB.cons (Ent.b (Ent.dimm Ent.z)) EntsB.nil)) rfl ?_
 rintro _ _ _ ⟨x11, rfl, rfl, rfl⟩
 refine Rg.p (p_fabE fa35_1 rfl rfl) (Rg.en (e_store (cs' := [.slice x8.1 r6.length x8.2, .slice x11.1 r9.length x11.2]) ty33 rfl rfl up2 rfl (one_of rfl) (Nat.le_of_ble_eq_true rfl) rfl) rfl ?_)
 rintro _ _ _ ⟨rfl, rfl, rfl⟩
 refine Rg.nl (nT (?_))
 refine Tr.seq (Tr.region (Rg.o (q_ldbA ty35 rfl hs2 rfl) (Rg.en (e_store (cs' := [.slice x8.1 r6.length x8.2, .slice x11.1 r9.length x11.2]) ty35 rfl rfl up3 rfl (one_of rfl) (Nat.le_of_ble_eq_true rfl) rfl) rfl ?_)))
 rintro _ _ _ ⟨rfl, rfl, rfl⟩
 refine Rg.nl (nT (?_))
 refine tRet ?_
 obtain rfl := si H
 exact back1 (x8, x11) rfl (ResV.agg ty35 rfl hs3 rfl) rfl Ents.nil (.cons dl1 (.cons Del.here .nil))
noncomputable def p_laws_toRow (v0 : Row) : Option (Row) := some v0
theorem c_laws_toRow {r : Row} (v0 : Row) (H : p_laws_toRow v0 = some r) : Fn' Tryz.prog 25 #[.agg #[.int .i64 (v0.1), .int .i64 (v0.2)]] [] [] (ι := Unit) (fun _ => .agg #[.int .i64 (r.1), .int .i64 (r.2)]) (fun _ => []) (fun _ => []) := by
 refine calls_of (args := [_]) Tryz.func25 rfl (by kernel_rfl) Tryz.ntmps25 (by simp) fun c => ?_
 unfold p_laws_toRow at H
 refine Tr.seq (Tr.region (Rg.ef (e_box (t := 53) rfl) rfl ?_))
 rintro _ _ _ ⟨g1, rfl, rfl, rfl⟩
 refine Rg.ef (e_alloc ty58) rfl ?_
 rintro _ _ _ ⟨g2, rfl, rfl, rfl⟩
 refine Rg.nl (nT (?_))
 refine Tr.seq (Tr.region (Rg.ef (e_alloc ty58) rfl ?_))
 rintro _ _ _ ⟨g3, rfl, rfl, rfl⟩
 refine Rg.nl (nT (?_))
 refine Tr.seq (Tr.region (Rg.p (p_fabE fa53_0 rfl rfl) (Rg.o (q_ldb ty3 rfl hs2 rfl) (Rg.p (p_fabE fa58_0 rfl rfl) (Rg.en (e_store (cs' := [.int .i64 (v0.1), .int .i64 (0)]) ty3 rfl rfl Upd.here rfl (one_of rfl) (Nat.le_of_ble_eq_true rfl) rfl) rfl ?_)))))
 rintro _ _ _ ⟨rfl, rfl, rfl⟩
 refine Rg.nl (nT (?_))
 refine Tr.seq (Tr.region (Rg.p (p_fabE fa53_1 rfl rfl) (Rg.o (q_ldb ty3 rfl hs2 rfl) (Rg.p (p_fabE fa58_1 rfl rfl) (Rg.en (e_store (cs' := [.int .i64 (v0.1), .int .i64 (v0.2)]) ty3 rfl rfl Upd.here rfl (one_of rfl) (Nat.le_of_ble_eq_true rfl) rfl) rfl ?_)))))
 rintro _ _ _ ⟨rfl, rfl, rfl⟩
 refine Rg.nl (nT (?_))
 refine Tr.seq (Tr.region (Rg.o (q_ldbA ty58 rfl Has.here rfl) (Rg.en (e_store (cs' := [.int .i64 (v0.1), .int .i64 (v0.2)]) ty58 rfl rfl up1 rfl (one_of rfl) (Nat.le_of_ble_eq_true rfl) rfl) rfl ?_)))
 rintro _ _ _ ⟨rfl, rfl, rfl⟩
 refine Rg.nl (nT (?_))
 refine tRet ?_
 obtain rfl := si H
 exact back1 () rfl (ResV.agg ty58 rfl hs1 rfl) rfl Ents.nil Take.nil
noncomputable def p_laws_toRowS_b0 (v0 : (List Row)) (Q8 : (List Row) × Int) : Option (((List Row) × Int) ⊕ ((List Row))) := cond (decide (Q8.2 < (v0.length : Int))) (gd (ix Q8.2 v0.length) <| bd (p_laws_toRow (nth v0 Q8.2.toNat)) fun r18 => gd (ix Q8.2 Q8.1.length) <| gd (I64 (Q8.2 + 1)) <| some (.inl ((Q8.1.set Q8.2.toNat r18), Q8.2 + 1))) (some (.inr Q8.1))
noncomputable def p_laws_toRowS (v0 : (List Row)) : Option ((List Row)) := gd (many (v0.length : Int)) <| bd (lp (p_laws_toRowS_b0 v0) ((List.replicate (v0.length : Int).toNat (Zr.z0 : Row)), 0)) fun x4 => some x4
theorem c_laws_toRowS {r : (List Row)} (v0 : (List Row)) (x_v0 : Option Addr × Nat) (H : p_laws_toRowS v0 = some r) : Fn' Tryz.prog 146 #[.slice x_v0.1 v0.length x_v0.2] [imm (.slice x_v0.1 v0.length x_v0.2) v0] [] (ι := Option Addr × Nat) (fun x => .slice x.1 r.length x.2) (fun _ => []) (fun x => [tree (.slice x.1 r.length x.2) r]) := by
 refine calls_of (args := [_]) Tryz.func146 rfl (by kernel_rfl) Tryz.ntmps146 (by simp) fun c => ?_
 unfold p_laws_toRowS at H
 refine Tr.seq (Tr.region (Rg.a (v := .slice none 0 0) rfl (Rg.nl (nT (?_)))))
 refine Tr.seq (Tr.region (Rg.m rfl (Rg.p (p_len 53 Tryz.underlying168 rfl) ?_)))
 obtain ⟨h3, H⟩ := gd.of H
 refine Rg.ef (e_makeR Row Tryz.underlying43 ty58 rfl rfl rfl h3 (by decide)) rfl ?_
 rintro _ _ _ ⟨a1, c2, rfl, rfl, rfl⟩
 refine Rg.a rfl (Rg.nl (nT (?_)))
 refine Tr.seq (Tr.seq (Tr.region (Rg.a (v := .int .i64 (0)) rfl (Rg.nl (nT (?_))))))
 obtain ⟨x4, hx5, H⟩ := bd.of H
 obtain ⟨n6, hx5⟩ := lp.of hx5
 refine tMidNC (ι := Unit) (fun ψ => [(3, .slice a1 x4.length c2)]) (fun ψ => [tree (.slice a1 x4.length c2) x4]) ?_ ?_
 ·refine Tr.block (tLoopC (ι := { q : Nat × ((List Row) × Int) × Unit // itr (p_laws_toRowS_b0 v0) q.1 q.2.1 = some x4 }) (fun ζ => [(0, .slice x_v0.1 v0.length x_v0.2), (3, .slice a1 ζ.1.2.1.1.length c2), (4, .int .i64 (ζ.1.2.1.2))]) (fun ζ => [tree (.slice a1 ζ.1.2.1.1.length c2) ζ.1.2.1.1]) (fun ζ => ζ.1.1) ⟨(n6, ((List.replicate (v0.length : Int).toNat (Zr.z0 : Row)), 0), ()), hx5⟩ ⟨rfl, rfl, rfl, trivial⟩ (.cons Del.here .nil) ?_)
  rintro ⟨⟨m7, Q8, z9⟩, hk14⟩
  obtain ⟨m15, t11, e, H1, hi12, hb13⟩ := itr.of (n := m7) (s := Q8) hk14
  subst e; unfold p_laws_toRowS_b0 at H1
  show Tr _ _ _ _ _ [(0, .slice x_v0.1 v0.length x_v0.2), (3, .slice a1 Q8.1.length c2), (4, .int .i64 (Q8.2))] _ [tree (.slice a1 Q8.1.length c2) Q8.1]
  refine Tr.seq (Tr.seq (Tr.region (Rg.m rfl (Rg.m rfl (Rg.p (p_len 53 Tryz.underlying168 rfl) ?_)))))
  refine Rg.p (p_lss rfl rfl) (Rg.nl (nT (?_)))
  refine Tr.cond (b := decide (Q8.2 < (v0.length : Int))) rfl (fun h16 => ?_) (fun h16 => ?_)
  ·have H1 := cdT h16 H1
   refine tSkip (nT (?_))
   refine Tr.seq (Tr.block (Tr.region (Rg.m rfl (Rg.m rfl (Rg.m rfl ?_)))))
   refine Rg.m rfl ?_
   obtain ⟨h17, H1⟩ := gd.of H1
   refine Rg.o (q_ixg Tryz.underlying168 ty53 rfl rfl h17 rfl (EntB.flat (Ent.b Ent.z))) (Rg.o (v := .agg #[.int .i64 ((nth v0 Q8.2.toNat).1), .int .i64 ((nth v0 Q8.2.toNat).2)]) (q_ldeA (i := Q8.2.toNat) ty53 rfl (EntB.flat (Ent.b Ent.z)) h17.lt) ?_)
   obtain ⟨r18, h19, H1⟩ := bd.of H1
   refine Rg.o (q_call (c_laws_toRow (nth v0 Q8.2.toNat) h19) rfl EntsB.nil) ?_
   obtain ⟨h20, H1⟩ := gd.of H1
   refine Rg.o (q_ixO' Tryz.underlying43 ty58 rfl rfl h20 Has.here) (Rg.en (e_setT (l := Q8.1) (α := Row) (oa := a1) Q8.2.toNat r18 ((), ()) ty58 rfl rfl rfl h20.lt (ShpT.wfa _) (.cons Del.here .nil)) rfl ?_)
   rintro _ _ _ ⟨rfl, rfl, rfl⟩
   refine Rg.nl (nB (nT (?_)))
   refine Tr.olen Has.here fun hn => ?_; rw [hn]
   refine Tr.region (Rg.m rfl ?_)
   obtain ⟨h21, H1⟩ := gd.of H1
   refine Rg.p (p_add rfl rfl h21) (Rg.a rfl (Rg.nl ?_))
   exact nLC ⟨(m15, ((Q8.1.set Q8.2.toNat r18), Q8.2 + 1), ()), hi12 _ (Option.some.inj H1).symm⟩ (Nat.lt_succ_self _) ⟨rfl, rfl, rfl, trivial⟩ Ents.refl (.cons Del.here .nil)
  ·have H1 := cdF h16 H1
   refine tExit (xT (xT (xE (?_))))
   have hx := hb13 _ (Option.some.inj H1).symm; subst hx
   exact nMC () ⟨rfl, trivial⟩ Ents.refl (.cons Del.here .nil)
 ·intro y10
  show At _ _ [(3, .slice a1 x4.length c2)] _ [tree (.slice a1 x4.length c2) x4] _
  refine nT (?_)
  refine Tr.seq (Tr.region (Rg.m rfl (Rg.a rfl (Rg.nl (nT (?_))))))
  refine tRet ?_
  obtain rfl := si H
  exact back1 (a1, c2) rfl (ResV.tmp (v := .slice a1 x4.length c2) rfl) rfl Ents.nil (.cons Del.here .nil)
noncomputable def p_laws_toRowSS_b0 (v0 : (List (List Row))) (Q9 : (List (List Row)) × Int) : Option (((List (List Row)) × Int) ⊕ ((List (List Row)))) := cond (decide (Q9.2 < (v0.length : Int))) (gd (ix Q9.2 v0.length) <| bd (p_laws_toRowS (nth v0 Q9.2.toNat)) fun r19 => gd (ix Q9.2 Q9.1.length) <| gd (I64 (Q9.2 + 1)) <| some (.inl ((Q9.1.set Q9.2.toNat r19), Q9.2 + 1))) (some (.inr Q9.1))
noncomputable def p_laws_toRowSS (v0 : (List (List Row))) : Option ((List (List Row))) := gd (many (v0.length : Int)) <| bd (lp (p_laws_toRowSS_b0 v0) ((List.replicate (v0.length : Int).toNat (Zr.z0 : (List Row))), 0)) fun x5 => some x5
theorem c_laws_toRowSS {r : (List (List Row))} (v0 : (List (List Row))) (x_v0 : Option Addr × Nat) (H : p_laws_toRowSS v0 = some r) : Fn' Tryz.prog 125 #[.slice x_v0.1 v0.length x_v0.2] [imm (.slice x_v0.1 v0.length x_v0.2) v0] [] (ι := Option Addr × Nat) (fun x => .slice x.1 r.length x.2) (fun _ => []) (fun x => [tree (.slice x.1 r.length x.2) r]) := by
 refine calls_of (args := [_]) Tryz.func125 rfl (by kernel_rfl) Tryz.ntmps125 (by simp) fun c => ?_
 unfold p_laws_toRowSS at H
 refine Tr.openD Ent.z fun X1 => (Tr.seq (Tr.region (Rg.a (v := .slice none 0 0) rfl (Rg.nl (nT (?_))))))
 refine Tr.seq (Tr.region (Rg.m rfl (Rg.p (p_len 168 Tryz.underlying108 rfl) ?_)))
 obtain ⟨h4, H⟩ := gd.of H
 refine Rg.ef (e_makeR (List Row) Tryz.underlying70 ty43 rfl rfl rfl h4 (by decide)) rfl ?_
 rintro _ _ _ ⟨a2, c3, rfl, rfl, rfl⟩
 refine Rg.a rfl (Rg.nl (nT (?_)))
 refine Tr.seq (Tr.seq (Tr.region (Rg.a (v := .int .i64 (0)) rfl (Rg.nl (nT (?_))))))
 obtain ⟨x5, hx6, H⟩ := bd.of H
 obtain ⟨n7, hx6⟩ := lp.of hx6
 refine tMidNC (ι := Unit) (fun ψ => [(3, .slice a2 x5.length c3)]) (fun ψ => [tree (.slice a2 x5.length c3) x5]) ?_ ?_
 ·refine Tr.block (tLoopC (ι := { q : Nat × ((List (List Row)) × Int) × Unit // itr (p_laws_toRowSS_b0 v0) q.1 q.2.1 = some x5 }) (fun ζ => [(0, .slice x_v0.1 v0.length x_v0.2), (3, .slice a2 ζ.1.2.1.1.length c3), (4, .int .i64 (ζ.1.2.1.2))]) (fun ζ => [tree (.slice a2 ζ.1.2.1.1.length c3) ζ.1.2.1.1]) (fun ζ => ζ.1.1) ⟨(n7, ((List.replicate (v0.length : Int).toNat (Zr.z0 : (List Row))), 0), ()), hx6⟩ ⟨rfl, rfl, rfl, trivial⟩ (.cons Del.here .nil) ?_)
  rintro ⟨⟨m8, Q9, z10⟩, hk15⟩
  obtain ⟨m16, t12, e, H1, hi13, hb14⟩ := itr.of (n := m8) (s := Q9) hk15
  subst e; unfold p_laws_toRowSS_b0 at H1
  show Tr _ _ _ _ _ [(0, .slice x_v0.1 v0.length x_v0.2), (3, .slice a2 Q9.1.length c3), (4, .int .i64 (Q9.2))] _ [tree (.slice a2 Q9.1.length c3) Q9.1]
  refine Tr.seq (Tr.seq (Tr.region (Rg.m rfl (Rg.m rfl (Rg.p (p_len 168 Tryz.underlying108 rfl) ?_)))))
  refine Rg.p (p_lss rfl rfl) (Rg.nl (nT (?_)))
  refine Tr.cond (b := decide (Q9.2 < (v0.length : Int))) rfl (fun h17 => ?_) (fun h17 => ?_)
  ·have H1 := cdT h17 H1
   refine tSkip (nT (?_))
   refine Tr.seq (Tr.block (Tr.region (Rg.m rfl (Rg.m rfl (Rg.m rfl ?_)))))
   refine Rg.m rfl ?_
   obtain ⟨h18, H1⟩ := gd.of H1
   refine Rg.o (q_ixg Tryz.underlying108 ty168 rfl rfl h18 rfl (Ent.b (Ent.darr Ent.z))) (Rg.o (q_lde (i := Q9.2.toNat) (j := 0) ty168 rfl (Ent.b (Ent.darr Ent.z)) h18.lt rfl) ?_)
   obtain ⟨r19, h20, H1⟩ := bd.of H1
   refine Rg.ef (e_callB (c_laws_toRowS (nth v0 Q9.2.toNat) ((X1 Q9.2.toNat).1, (X1 Q9.2.toNat).2.1) h20) (fun _ => (Solo.tree Solo.nil)) rfl (EntsB.cons (Ent.b (Ent.dimm (Ent.del Ent.z h18.lt))) EntsB.nil)) rfl ?_
   rintro _ _ _ ⟨x21, rfl, rfl, rfl⟩
   obtain ⟨h22, H1⟩ := gd.of H1
   refine Rg.o (q_ixO' Tryz.underlying70 ty43 rfl rfl h22 hs1) (Rg.en (e_setT (l := Q9.1) (α := (List Row)) (oa := a2) Q9.2.toNat r19 x21 ty43 rfl rfl rfl h22.lt (ShpT.wfa _) (.cons dl1 (.cons Del.here .nil))) rfl ?_)
   rintro _ _ _ ⟨rfl, rfl, rfl⟩
   refine Rg.nl (nB (nT (?_)))
   refine Tr.olen Has.here fun hn => ?_; rw [hn]
   refine Tr.region (Rg.m rfl ?_)
   obtain ⟨h23, H1⟩ := gd.of H1
   refine Rg.p (p_add rfl rfl h23) (Rg.a rfl (Rg.nl ?_))
   exact nLC ⟨(m16, ((Q9.1.set Q9.2.toNat r19), Q9.2 + 1), ()), hi13 _ (Option.some.inj H1).symm⟩ (Nat.lt_succ_self _) ⟨rfl, rfl, rfl, trivial⟩ Ents.refl (.cons Del.here .nil)
  ·have H1 := cdF h17 H1
   refine tExit (xT (xT (xE (?_))))
   have hx := hb14 _ (Option.some.inj H1).symm; subst hx
   exact nMC () ⟨rfl, trivial⟩ Ents.refl (.cons Del.here .nil)
 ·intro y11
  show At _ _ [(3, .slice a2 x5.length c3)] _ [tree (.slice a2 x5.length c3) x5] _
  refine nT (?_)
  refine Tr.seq (Tr.region (Rg.m rfl (Rg.a rfl (Rg.nl (nT (?_))))))
  refine tRet ?_
  obtain rfl := si H
  exact back1 (a2, c3) rfl (ResV.tmp (v := .slice a2 x5.length c3) rfl) rfl Ents.nil (.cons Del.here .nil)
noncomputable def p_laws_toPart (v0 : Part) : Option (Part) := bd (p_laws_toIntS v0.1) fun r5 => bd (p_laws_toRowSS v0.2) fun r8 => some (r5, r8)
theorem c_laws_toPart {r : Part} (v0 : Part) (x_v0 : (Option Addr × Nat) × (Option Addr × Nat)) (H : p_laws_toPart v0 = some r) : Fn' Tryz.prog 86 #[.agg #[.slice x_v0.1.1 v0.1.length x_v0.1.2, .slice x_v0.2.1 v0.2.length x_v0.2.2]] [imm (.slice x_v0.1.1 v0.1.length x_v0.1.2) v0.1, imm (.slice x_v0.2.1 v0.2.length x_v0.2.2) v0.2] [] (ι := (Option Addr × Nat) × (Option Addr × Nat)) (fun x => .agg #[.slice x.1.1 r.1.length x.1.2, .slice x.2.1 r.2.length x.2.2]) (fun _ => []) (fun x => [tree (.slice x.1.1 r.1.length x.1.2) r.1, tree (.slice x.2.1 r.2.length x.2.2) r.2]) := by
 refine calls_of (args := [_]) Tryz.func86 rfl (by kernel_rfl) Tryz.ntmps86 (by simp) fun c => ?_
 unfold p_laws_toPart at H
 refine Tr.openD Ent.z.s fun X1 => (Tr.seq (Tr.region (Rg.ef (e_box (t := 110) rfl) rfl ?_)))
 rintro _ _ _ ⟨g2, rfl, rfl, rfl⟩
 refine Rg.ef (e_alloc ty72) rfl ?_
 rintro _ _ _ ⟨g3, rfl, rfl, rfl⟩
 refine Rg.nl (nT (?_))
 refine Tr.seq (Tr.region (Rg.ef (e_alloc ty72) rfl ?_))
 rintro _ _ _ ⟨g4, rfl, rfl, rfl⟩
 refine Rg.nl (nT (?_))
 refine Tr.seq (Tr.region (Rg.p (p_fabE fa110_0 rfl rfl) (Rg.o (q_ldb ty69 rfl hs2 rfl) ?_)))
 obtain ⟨r5, h6, H⟩ := bd.of H
 refine Rg.ef (e_callB (c_laws_toIntS v0.1 x_v0.1 h6) (fun _ => (Solo.tree Solo.nil)) rfl (EntsB.cons (Ent.b Ent.z.s) EntsB.nil)) rfl ?_
 rintro _ _ _ ⟨x7, rfl, rfl, rfl⟩
 refine Rg.p (p_fabE fa72_0 rfl rfl) (Rg.en (e_store (cs' := [.slice x7.1 r5.length x7.2, .slice none 0 0]) ty69 rfl rfl up1 rfl (one_of rfl) (Nat.le_of_ble_eq_true rfl) rfl) rfl ?_)
 rintro _ _ _ ⟨rfl, rfl, rfl⟩
 refine Rg.nl (nT (?_))
 refine Tr.seq (Tr.region (Rg.p (p_fabE fa110_1 rfl rfl) (Rg.o (q_ldb ty108 rfl hs3 rfl) ?_)))
 obtain ⟨r8, h9, H⟩ := bd.of H
 refine Rg.ef (e_callB (c_laws_toRowSS v0.2 x_v0.2 h9) (fun _ => (Solo.tree Solo.nil)) rfl (EntsB.cons (Ent.b (Ent.dimm Ent.z)) EntsB.nil)) rfl ?_
 rintro _ _ _ ⟨x10, rfl, rfl, rfl⟩
 refine Rg.p (p_fabE fa72_1 rfl rfl) (Rg.en (e_store (cs' := [.slice x7.1 r5.length x7.2, .slice x10.1 r8.length x10.2]) ty70 rfl rfl up2 rfl (one_of rfl) (Nat.le_of_ble_eq_true rfl) rfl) rfl ?_)
 rintro _ _ _ ⟨rfl, rfl, rfl⟩
 refine Rg.nl (nT (?_))
 refine Tr.seq (Tr.region (Rg.o (q_ldbA ty72 rfl hs2 rfl) (Rg.en (e_store (cs' := [.slice x7.1 r5.length x7.2, .slice x10.1 r8.length x10.2]) ty72 rfl rfl up3 rfl (one_of rfl) (Nat.le_of_ble_eq_true rfl) rfl) rfl ?_)))
 rintro _ _ _ ⟨rfl, rfl, rfl⟩
 refine Rg.nl (nT (?_))
 refine tRet ?_
 obtain rfl := si H
 exact back1 (x7, x10) rfl (ResV.agg ty72 rfl hs3 rfl) rfl Ents.nil (.cons dl1 (.cons Del.here .nil))
noncomputable def p_laws_toPartS_b0 (v0 : (List Part)) (Q9 : (List Part) × Int) : Option (((List Part) × Int) ⊕ ((List Part))) := cond (decide (Q9.2 < (v0.length : Int))) (gd (ix Q9.2 v0.length) <| bd (p_laws_toPart (nth v0 Q9.2.toNat)) fun r19 => gd (ix Q9.2 Q9.1.length) <| gd (I64 (Q9.2 + 1)) <| some (.inl ((Q9.1.set Q9.2.toNat r19), Q9.2 + 1))) (some (.inr Q9.1))
noncomputable def p_laws_toPartS (v0 : (List Part)) : Option ((List Part)) := gd (many (v0.length : Int)) <| bd (lp (p_laws_toPartS_b0 v0) ((List.replicate (v0.length : Int).toNat (Zr.z0 : Part)), 0)) fun x5 => some x5
theorem c_laws_toPartS {r : (List Part)} (v0 : (List Part)) (x_v0 : Option Addr × Nat) (H : p_laws_toPartS v0 = some r) : Fn' Tryz.prog 40 #[.slice x_v0.1 v0.length x_v0.2] [imm (.slice x_v0.1 v0.length x_v0.2) v0] [] (ι := Option Addr × Nat) (fun x => .slice x.1 r.length x.2) (fun _ => []) (fun x => [tree (.slice x.1 r.length x.2) r]) := by
 refine calls_of (args := [_]) Tryz.func40 rfl (by kernel_rfl) Tryz.ntmps40 (by simp) fun c => ?_
 unfold p_laws_toPartS at H
 refine Tr.openD Ent.z fun X1 => (Tr.seq (Tr.region (Rg.a (v := .slice none 0 0) rfl (Rg.nl (nT (?_))))))
 refine Tr.seq (Tr.region (Rg.m rfl (Rg.p (p_len 110 Tryz.underlying26 rfl) ?_)))
 obtain ⟨h4, H⟩ := gd.of H
 refine Rg.ef (e_makeR Part Tryz.underlying36 ty72 rfl rfl rfl h4 (by decide)) rfl ?_
 rintro _ _ _ ⟨a2, c3, rfl, rfl, rfl⟩
 refine Rg.a rfl (Rg.nl (nT (?_)))
 refine Tr.seq (Tr.seq (Tr.region (Rg.a (v := .int .i64 (0)) rfl (Rg.nl (nT (?_))))))
 obtain ⟨x5, hx6, H⟩ := bd.of H
 obtain ⟨n7, hx6⟩ := lp.of hx6
 refine tMidNC (ι := Unit) (fun ψ => [(3, .slice a2 x5.length c3)]) (fun ψ => [tree (.slice a2 x5.length c3) x5]) ?_ ?_
 ·refine Tr.block (tLoopC (ι := { q : Nat × ((List Part) × Int) × Unit // itr (p_laws_toPartS_b0 v0) q.1 q.2.1 = some x5 }) (fun ζ => [(0, .slice x_v0.1 v0.length x_v0.2), (3, .slice a2 ζ.1.2.1.1.length c3), (4, .int .i64 (ζ.1.2.1.2))]) (fun ζ => [tree (.slice a2 ζ.1.2.1.1.length c3) ζ.1.2.1.1]) (fun ζ => ζ.1.1) ⟨(n7, ((List.replicate (v0.length : Int).toNat (Zr.z0 : Part)), 0), ()), hx6⟩ ⟨rfl, rfl, rfl, trivial⟩ (.cons Del.here .nil) ?_)
  rintro ⟨⟨m8, Q9, z10⟩, hk15⟩
  obtain ⟨m16, t12, e, H1, hi13, hb14⟩ := itr.of (n := m8) (s := Q9) hk15
  subst e; unfold p_laws_toPartS_b0 at H1
  show Tr _ _ _ _ _ [(0, .slice x_v0.1 v0.length x_v0.2), (3, .slice a2 Q9.1.length c3), (4, .int .i64 (Q9.2))] _ [tree (.slice a2 Q9.1.length c3) Q9.1]
  refine Tr.seq (Tr.seq (Tr.region (Rg.m rfl (Rg.m rfl (Rg.p (p_len 110 Tryz.underlying26 rfl) ?_)))))
  refine Rg.p (p_lss rfl rfl) (Rg.nl (nT (?_)))
  refine Tr.cond (b := decide (Q9.2 < (v0.length : Int))) rfl (fun h17 => ?_) (fun h17 => ?_)
  ·have H1 := cdT h17 H1
   refine tSkip (nT (?_))
   refine Tr.seq (Tr.block (Tr.region (Rg.m rfl (Rg.m rfl (Rg.m rfl ?_)))))
   refine Rg.m rfl ?_
   obtain ⟨h18, H1⟩ := gd.of H1
   refine Rg.o (q_ixg Tryz.underlying26 ty110 rfl rfl h18 rfl (Ent.b (Ent.darr Ent.z))) (Rg.o (v := .agg #[.slice (((X1 Q9.2.toNat).1).1) (((nth v0 Q9.2.toNat).1).length) (((X1 Q9.2.toNat).1).2.1), .slice (((X1 Q9.2.toNat).2).1) (((nth v0 Q9.2.toNat).2).length) (((X1 Q9.2.toNat).2).2.1)]) (q_ldeA (i := Q9.2.toNat) ty110 rfl (Ent.b (Ent.darr Ent.z)) h18.lt) ?_)
   obtain ⟨r19, h20, H1⟩ := bd.of H1
   refine Rg.ef (e_callB (c_laws_toPart (nth v0 Q9.2.toNat) ((((X1 Q9.2.toNat).1).1, ((X1 Q9.2.toNat).1).2.1), (((X1 Q9.2.toNat).2).1, ((X1 Q9.2.toNat).2).2.1)) h20) (fun _ => (Solo.tree (Solo.tree Solo.nil))) rfl (EntsB.cons (Ent.b (Ent.dimm (Ent.dfst (Ent.del Ent.z h18.lt)))) (EntsB.cons (Ent.b (Ent.dimm (Ent.dsnd (Ent.del Ent.z h18.lt)))) EntsB.nil))) rfl ?_
   rintro _ _ _ ⟨x21, rfl, rfl, rfl⟩
   obtain ⟨h22, H1⟩ := gd.of H1
   refine Rg.o (q_ixO' Tryz.underlying36 ty72 rfl rfl h22 hs2) (Rg.en (e_setT (l := Q9.1) (α := Part) (oa := a2) Q9.2.toNat r19 x21 ty72 rfl rfl rfl h22.lt (ShpT.wfa _) (.cons dl2 (.cons Del.here (.cons Del.here .nil)))) rfl ?_)
   rintro _ _ _ ⟨rfl, rfl, rfl⟩
   refine Rg.nl (nB (nT (?_)))
   refine Tr.olen Has.here fun hn => ?_; rw [hn]
   refine Tr.region (Rg.m rfl ?_)
   obtain ⟨h23, H1⟩ := gd.of H1
   refine Rg.p (p_add rfl rfl h23) (Rg.a rfl (Rg.nl ?_))
   exact nLC ⟨(m16, ((Q9.1.set Q9.2.toNat r19), Q9.2 + 1), ()), hi13 _ (Option.some.inj H1).symm⟩ (Nat.lt_succ_self _) ⟨rfl, rfl, rfl, trivial⟩ Ents.refl (.cons Del.here .nil)
  ·have H1 := cdF h17 H1
   refine tExit (xT (xT (xE (?_))))
   have hx := hb14 _ (Option.some.inj H1).symm; subst hx
   exact nMC () ⟨rfl, trivial⟩ Ents.refl (.cons Del.here .nil)
 ·intro y11
  show At _ _ [(3, .slice a2 x5.length c3)] _ [tree (.slice a2 x5.length c3) x5] _
  refine nT (?_)
  refine Tr.seq (Tr.region (Rg.m rfl (Rg.a rfl (Rg.nl (nT (?_))))))
  refine tRet ?_
  obtain rfl := si H
  exact back1 (a2, c3) rfl (ResV.tmp (v := .slice a2 x5.length c3) rfl) rfl Ents.nil (.cons Del.here .nil)
noncomputable def p_laws_toSample (v0 : Sample) : Option (Sample) := bd (p_laws_toRow v0.2) fun r4 => some (v0.1, r4)
theorem c_laws_toSample {r : Sample} (v0 : Sample) (H : p_laws_toSample v0 = some r) : Fn' Tryz.prog 87 #[.agg #[.int .i64 (v0.1), .int .i64 (v0.2.1), .int .i64 (v0.2.2)]] [] [] (ι := Unit) (fun _ => .agg #[.int .i64 (r.1), .int .i64 (r.2.1), .int .i64 (r.2.2)]) (fun _ => []) (fun _ => []) := by
 refine calls_of (args := [_]) Tryz.func87 rfl (by kernel_rfl) Tryz.ntmps87 (by simp) fun c => ?_
 unfold p_laws_toSample at H
 refine Tr.seq (Tr.region (Rg.ef (e_box (t := 124) rfl) rfl ?_))
 rintro _ _ _ ⟨g1, rfl, rfl, rfl⟩
 refine Rg.ef (e_alloc ty75) rfl ?_
 rintro _ _ _ ⟨g2, rfl, rfl, rfl⟩
 refine Rg.nl (nT (?_))
 refine Tr.seq (Tr.region (Rg.ef (e_alloc ty75) rfl ?_))
 rintro _ _ _ ⟨g3, rfl, rfl, rfl⟩
 refine Rg.nl (nT (?_))
 refine Tr.seq (Tr.region (Rg.p (p_fabE fa124_0 rfl rfl) (Rg.o (q_ldb ty3 rfl hs2 rfl) (Rg.p (p_fabE fa75_0 rfl rfl) (Rg.en (e_store (cs' := [.int .i64 (v0.1), .int .i64 (0), .int .i64 (0)]) ty3 rfl rfl Upd.here rfl (one_of rfl) (Nat.le_of_ble_eq_true rfl) rfl) rfl ?_)))))
 rintro _ _ _ ⟨rfl, rfl, rfl⟩
 refine Rg.nl (nT (?_))
 refine Tr.seq (Tr.region (Rg.p (p_fabE fa124_1 rfl rfl) (Rg.o (v := .agg #[.int .i64 (v0.2.1), .int .i64 (v0.2.2)]) (q_ldbP [.int .i64 (v0.2.1), .int .i64 (v0.2.2)] ty53 rfl hs2 rfl rfl) ?_)))
 obtain ⟨r4, h5, H⟩ := bd.of H
 refine Rg.o (q_call (c_laws_toRow v0.2 h5) rfl EntsB.nil) (Rg.p (p_fabE fa75_1 rfl rfl) (Rg.en (e_store (cs' := [.int .i64 (v0.1), .int .i64 (r4.1), .int .i64 (r4.2)]) ty58 rfl rfl Upd.here rfl (one_of rfl) (Nat.le_of_ble_eq_true rfl) rfl) rfl ?_))
 rintro _ _ _ ⟨rfl, rfl, rfl⟩
 refine Rg.nl (nT (?_))
 refine Tr.seq (Tr.region (Rg.o (q_ldbA ty75 rfl Has.here rfl) (Rg.en (e_store (cs' := [.int .i64 (v0.1), .int .i64 (r4.1), .int .i64 (r4.2)]) ty75 rfl rfl up1 rfl (one_of rfl) (Nat.le_of_ble_eq_true rfl) rfl) rfl ?_)))
 rintro _ _ _ ⟨rfl, rfl, rfl⟩
 refine Rg.nl (nT (?_))
 refine tRet ?_
 obtain rfl := si H
 exact back1 () rfl (ResV.agg ty75 rfl hs1 rfl) rfl Ents.nil Take.nil
noncomputable def p_laws_toSampleS_b0 (v0 : (List Sample)) (Q8 : (List Sample) × Int) : Option (((List Sample) × Int) ⊕ ((List Sample))) := cond (decide (Q8.2 < (v0.length : Int))) (gd (ix Q8.2 v0.length) <| bd (p_laws_toSample (nth v0 Q8.2.toNat)) fun r18 => gd (ix Q8.2 Q8.1.length) <| gd (I64 (Q8.2 + 1)) <| some (.inl ((Q8.1.set Q8.2.toNat r18), Q8.2 + 1))) (some (.inr Q8.1))
noncomputable def p_laws_toSampleS (v0 : (List Sample)) : Option ((List Sample)) := gd (many (v0.length : Int)) <| bd (lp (p_laws_toSampleS_b0 v0) ((List.replicate (v0.length : Int).toNat (Zr.z0 : Sample)), 0)) fun x4 => some x4
theorem c_laws_toSampleS {r : (List Sample)} (v0 : (List Sample)) (x_v0 : Option Addr × Nat) (H : p_laws_toSampleS v0 = some r) : Fn' Tryz.prog 41 #[.slice x_v0.1 v0.length x_v0.2] [imm (.slice x_v0.1 v0.length x_v0.2) v0] [] (ι := Option Addr × Nat) (fun x => .slice x.1 r.length x.2) (fun _ => []) (fun x => [tree (.slice x.1 r.length x.2) r]) := by
 refine calls_of (args := [_]) Tryz.func41 rfl (by kernel_rfl) Tryz.ntmps41 (by simp) fun c => ?_
 unfold p_laws_toSampleS at H
 refine Tr.seq (Tr.region (Rg.a (v := .slice none 0 0) rfl (Rg.nl (nT (?_)))))
 refine Tr.seq (Tr.region (Rg.m rfl (Rg.p (p_len 124 Tryz.underlying27 rfl) ?_)))
 obtain ⟨h3, H⟩ := gd.of H
 refine Rg.ef (e_makeR Sample Tryz.underlying37 ty75 rfl rfl rfl h3 (by decide)) rfl ?_
 rintro _ _ _ ⟨a1, c2, rfl, rfl, rfl⟩
 refine Rg.a rfl (Rg.nl (nT (?_)))
 refine Tr.seq (Tr.seq (Tr.region (Rg.a (v := .int .i64 (0)) rfl (Rg.nl (nT (?_))))))
 obtain ⟨x4, hx5, H⟩ := bd.of H
 obtain ⟨n6, hx5⟩ := lp.of hx5
 refine tMidNC (ι := Unit) (fun ψ => [(3, .slice a1 x4.length c2)]) (fun ψ => [tree (.slice a1 x4.length c2) x4]) ?_ ?_
 ·refine Tr.block (tLoopC (ι := { q : Nat × ((List Sample) × Int) × Unit // itr (p_laws_toSampleS_b0 v0) q.1 q.2.1 = some x4 }) (fun ζ => [(0, .slice x_v0.1 v0.length x_v0.2), (3, .slice a1 ζ.1.2.1.1.length c2), (4, .int .i64 (ζ.1.2.1.2))]) (fun ζ => [tree (.slice a1 ζ.1.2.1.1.length c2) ζ.1.2.1.1]) (fun ζ => ζ.1.1) ⟨(n6, ((List.replicate (v0.length : Int).toNat (Zr.z0 : Sample)), 0), ()), hx5⟩ ⟨rfl, rfl, rfl, trivial⟩ (.cons Del.here .nil) ?_)
  rintro ⟨⟨m7, Q8, z9⟩, hk14⟩
  obtain ⟨m15, t11, e, H1, hi12, hb13⟩ := itr.of (n := m7) (s := Q8) hk14
  subst e; unfold p_laws_toSampleS_b0 at H1
  show Tr _ _ _ _ _ [(0, .slice x_v0.1 v0.length x_v0.2), (3, .slice a1 Q8.1.length c2), (4, .int .i64 (Q8.2))] _ [tree (.slice a1 Q8.1.length c2) Q8.1]
  refine Tr.seq (Tr.seq (Tr.region (Rg.m rfl (Rg.m rfl (Rg.p (p_len 124 Tryz.underlying27 rfl) ?_)))))
  refine Rg.p (p_lss rfl rfl) (Rg.nl (nT (?_)))
  refine Tr.cond (b := decide (Q8.2 < (v0.length : Int))) rfl (fun h16 => ?_) (fun h16 => ?_)
  ·have H1 := cdT h16 H1
   refine tSkip (nT (?_))
   refine Tr.seq (Tr.block (Tr.region (Rg.m rfl (Rg.m rfl (Rg.m rfl ?_)))))
   refine Rg.m rfl ?_
   obtain ⟨h17, H1⟩ := gd.of H1
   refine Rg.o (q_ixg Tryz.underlying27 ty124 rfl rfl h17 rfl (EntB.flat (Ent.b Ent.z))) (Rg.o (v := .agg #[.int .i64 ((nth v0 Q8.2.toNat).1), .int .i64 (((nth v0 Q8.2.toNat).2).1), .int .i64 (((nth v0 Q8.2.toNat).2).2)]) (q_ldeA (i := Q8.2.toNat) ty124 rfl (EntB.flat (Ent.b Ent.z)) h17.lt) ?_)
   obtain ⟨r18, h19, H1⟩ := bd.of H1
   refine Rg.o (q_call (c_laws_toSample (nth v0 Q8.2.toNat) h19) rfl EntsB.nil) ?_
   obtain ⟨h20, H1⟩ := gd.of H1
   refine Rg.o (q_ixO' Tryz.underlying37 ty75 rfl rfl h20 Has.here) (Rg.en (e_setT (l := Q8.1) (α := Sample) (oa := a1) Q8.2.toNat r18 ((), ((), ())) ty75 rfl rfl rfl h20.lt (ShpT.wfa _) (.cons Del.here .nil)) rfl ?_)
   rintro _ _ _ ⟨rfl, rfl, rfl⟩
   refine Rg.nl (nB (nT (?_)))
   refine Tr.olen Has.here fun hn => ?_; rw [hn]
   refine Tr.region (Rg.m rfl ?_)
   obtain ⟨h21, H1⟩ := gd.of H1
   refine Rg.p (p_add rfl rfl h21) (Rg.a rfl (Rg.nl ?_))
   exact nLC ⟨(m15, ((Q8.1.set Q8.2.toNat r18), Q8.2 + 1), ()), hi12 _ (Option.some.inj H1).symm⟩ (Nat.lt_succ_self _) ⟨rfl, rfl, rfl, trivial⟩ Ents.refl (.cons Del.here .nil)
  ·have H1 := cdF h16 H1
   refine tExit (xT (xT (xE (?_))))
   have hx := hb13 _ (Option.some.inj H1).symm; subst hx
   exact nMC () ⟨rfl, trivial⟩ Ents.refl (.cons Del.here .nil)
 ·intro y10
  show At _ _ [(3, .slice a1 x4.length c2)] _ [tree (.slice a1 x4.length c2) x4] _
  refine nT (?_)
  refine Tr.seq (Tr.region (Rg.m rfl (Rg.a rfl (Rg.nl (nT (?_))))))
  refine tRet ?_
  obtain rfl := si H
  exact back1 (a1, c2) rfl (ResV.tmp (v := .slice a1 x4.length c2) rfl) rfl Ents.nil (.cons Del.here .nil)
noncomputable def p_laws_toStore (v0 : Store) : Option (Store) := bd (p_laws_toIndex v0.1) fun r7 => bd (p_laws_toPartS v0.2.1) fun r10 => bd (p_laws_toSampleS v0.2.2) fun r13 => some (r7, r10, r13)
theorem c_laws_toStore {r : Store} (v0 : Store) (x_v0 : ((Option Addr × Nat) × (Option Addr × Nat)) × (Option Addr × Nat) × (Option Addr × Nat)) (H : p_laws_toStore v0 = some r) : Fn' Tryz.prog 10 #[.agg #[.slice x_v0.1.1.1 v0.1.1.length x_v0.1.1.2, .slice x_v0.1.2.1 v0.1.2.length x_v0.1.2.2, .slice x_v0.2.1.1 v0.2.1.length x_v0.2.1.2, .slice x_v0.2.2.1 v0.2.2.length x_v0.2.2.2]] [imm (.slice x_v0.1.1.1 v0.1.1.length x_v0.1.1.2) v0.1.1, imm (.slice x_v0.1.2.1 v0.1.2.length x_v0.1.2.2) v0.1.2, imm (.slice x_v0.2.1.1 v0.2.1.length x_v0.2.1.2) v0.2.1, imm (.slice x_v0.2.2.1 v0.2.2.length x_v0.2.2.2) v0.2.2] [] (ι := ((Option Addr × Nat) × (Option Addr × Nat)) × (Option Addr × Nat) × (Option Addr × Nat)) (fun x => .agg #[.slice x.1.1.1 r.1.1.length x.1.1.2, .slice x.1.2.1 r.1.2.length x.1.2.2, .slice x.2.1.1 r.2.1.length x.2.1.2, .slice x.2.2.1 r.2.2.length x.2.2.2]) (fun _ => []) (fun x => [tree (.slice x.1.1.1 r.1.1.length x.1.1.2) r.1.1, tree (.slice x.1.2.1 r.1.2.length x.1.2.2) r.1.2, tree (.slice x.2.1.1 r.2.1.length x.2.1.2) r.2.1, tree (.slice x.2.2.1 r.2.2.length x.2.2.2) r.2.2]) := by
 refine calls_of (args := [_]) Tryz.func10 rfl (by kernel_rfl) Tryz.ntmps10 (by simp) fun c => ?_
 unfold p_laws_toStore at H
 refine Tr.openD Ent.z fun X1 => (Tr.openD Ent.z.s.s fun X2 => (Tr.openD Ent.z.s.s.s.s fun X3 => (Tr.seq (Tr.region (Rg.ef (e_box (t := 29) rfl) rfl ?_)))))
 rintro _ _ _ ⟨g4, rfl, rfl, rfl⟩
 refine Rg.ef (e_alloc ty39) rfl ?_
 rintro _ _ _ ⟨g5, rfl, rfl, rfl⟩
 refine Rg.nl (nT (?_))
 refine Tr.seq (Tr.region (Rg.ef (e_alloc ty39) rfl ?_))
 rintro _ _ _ ⟨g6, rfl, rfl, rfl⟩
 refine Rg.nl (nT (?_))
 refine Tr.seq (Tr.region (Rg.p (p_fabE fa29_0 rfl rfl) (Rg.o (v := .agg #[.slice x_v0.1.1.1 v0.1.1.length x_v0.1.1.2, .slice x_v0.1.2.1 v0.1.2.length x_v0.1.2.2]) (q_ldbP [.slice x_v0.1.1.1 v0.1.1.length x_v0.1.1.2, .slice x_v0.1.2.1 v0.1.2.length x_v0.1.2.2] ty25 rfl hs2 rfl rfl) ?_)))
 obtain ⟨r7, h8, H⟩ := bd.of H
 refine Rg.ef (e_callB (c_laws_toIndex v0.1 x_v0.1 h8) (fun _ => (Solo.tree (Solo.tree Solo.nil))) rfl (EntsB.cons (Ent.b (Ent.dimm Ent.z.s.s)) (EntsB.cons (Ent.b (Ent.dimm Ent.z.s)) EntsB.nil))) rfl ?_
 rintro _ _ _ ⟨x9, rfl, rfl, rfl⟩
 refine Rg.p (p_fabE fa39_0 rfl rfl) (Rg.en (e_store (cs' := [.slice x9.1.1 r7.1.length x9.1.2, .slice x9.2.1 r7.2.length x9.2.2, .slice none 0 0, .slice none 0 0]) ty35 rfl rfl up2 rfl (one_of rfl) (Nat.le_of_ble_eq_true rfl) rfl) rfl ?_)
 rintro _ _ _ ⟨rfl, rfl, rfl⟩
 refine Rg.nl (nT (?_))
 refine Tr.seq (Tr.region (Rg.p (p_fabE fa29_1 rfl rfl) (Rg.o (q_ldb ty26 rfl hs4 rfl) ?_)))
 obtain ⟨r10, h11, H⟩ := bd.of H
 refine Rg.ef (e_callB (c_laws_toPartS v0.2.1 x_v0.2.1 h11) (fun _ => (Solo.tree Solo.nil)) rfl (EntsB.cons (Ent.b (Ent.dimm Ent.z)) EntsB.nil)) rfl ?_
 rintro _ _ _ ⟨x12, rfl, rfl, rfl⟩
 refine Rg.p (p_fabE fa39_1 rfl rfl) (Rg.en (e_store (cs' := [.slice x9.1.1 r7.1.length x9.1.2, .slice x9.2.1 r7.2.length x9.2.2, .slice x12.1 r10.length x12.2, .slice none 0 0]) ty36 rfl rfl up3 rfl (one_of rfl) (Nat.le_of_ble_eq_true rfl) rfl) rfl ?_)
 rintro _ _ _ ⟨rfl, rfl, rfl⟩
 refine Rg.nl (nT (?_))
 refine Tr.seq (Tr.region (Rg.p (p_fabE fa29_2 rfl rfl) (Rg.o (q_ldb ty27 rfl hs5 rfl) ?_)))
 obtain ⟨r13, h14, H⟩ := bd.of H
 refine Rg.ef (e_callB (c_laws_toSampleS v0.2.2 x_v0.2.2 h14) (fun _ => (Solo.tree Solo.nil)) rfl (EntsB.cons (Ent.b Ent.z.s.s.s.s.s.s) EntsB.nil)) rfl ?_
 rintro _ _ _ ⟨x15, rfl, rfl, rfl⟩
 refine Rg.p (p_fabE fa39_2 rfl rfl) (Rg.en (e_store (cs' := [.slice x9.1.1 r7.1.length x9.1.2, .slice x9.2.1 r7.2.length x9.2.2, .slice x12.1 r10.length x12.2, .slice x15.1 r13.length x15.2]) ty37 rfl rfl up4 rfl (one_of rfl) (Nat.le_of_ble_eq_true rfl) rfl) rfl ?_)
 rintro _ _ _ ⟨rfl, rfl, rfl⟩
 refine Rg.nl (nT (?_))
 refine Tr.seq (Tr.region (Rg.o (q_ldbA ty39 rfl hs4 rfl) (Rg.en (e_store (cs' := [.slice x9.1.1 r7.1.length x9.1.2, .slice x9.2.1 r7.2.length x9.2.2, .slice x12.1 r10.length x12.2, .slice x15.1 r13.length x15.2]) ty39 rfl rfl up5 rfl (one_of rfl) (Nat.le_of_ble_eq_true rfl) rfl) rfl ?_)))
 rintro _ _ _ ⟨rfl, rfl, rfl⟩
 refine Rg.nl (nT (?_))
 refine tRet ?_
 obtain rfl := si H
 exact back1 (x9, x12, x15) rfl (ResV.agg ty39 rfl hs5 rfl) rfl Ents.nil (.cons dl2 (.cons dl2 (.cons dl1 (.cons Del.here .nil))))
noncomputable def p_spec_l6In (v0 : Int) (v1 : Int) (v2 : Int) : Option (Bool) := bd (cond (decide (v1 ≤ v0)) (some (decide (v0 ≤ v2))) (some (false))) fun b1 => some b1
theorem c_spec_l6In {r : Bool} (v0 : Int) (v1 : Int) (v2 : Int) (H : p_spec_l6In v0 v1 v2 = some r) : Fn' Tryz.prog 36 #[.int .i64 (v0), .int .i64 (v1), .int .i64 (v2)] [] [] (ι := Unit) (fun _ => .bool (r)) (fun _ => []) (fun _ => []) := by
 refine calls_of (args := [_, _, _]) Tryz.func36 rfl (by kernel_rfl) Tryz.ntmps36 (by simp) fun c => ?_
 unfold p_spec_l6In at H
 refine Tr.seq (Tr.region (Rg.a (v := .bool (false)) rfl (Rg.nl (nT (?_)))))
 obtain ⟨b1, j2, H⟩ := bd.of H
 refine tMid1 [(6, .bool (b1))] ?_ ?_
 ·refine tLinT [(0, .int .i64 (v0)), (1, .int .i64 (v1)), (2, .int .i64 (v2))] ⟨rfl, rfl, rfl, trivial⟩ (Lin.m rfl (Lin.m rfl (Lin.p (p_geq rfl rfl) ?_)))
  rcases Bool.eq_false_or_eq_true (decide (v1 ≤ v0)) with h3 | h3
  ·have j2 := cdT h3 j2
   refine Lin.e_ (p_move rfl) h3 (Lin.h rfl (p_move rfl) (Lin.h rfl (p_move rfl) (Lin.h rfl (p_leq rfl rfl) (Lin.p (p_pickT rfl rfl) (Lin.p (p_assign rfl) ?_)))))
   obtain rfl := si j2
   show At _ _ _ _ _ _
   exact n1 ⟨rfl, trivial⟩
  ·have j2 := cdF h3 j2
   refine Lin.e_ (p_move rfl) h3 ?_
   iterate 3 refine Lin.sk rfl ?_
   refine Lin.p (v := .bool (false)) (p_pickF rfl rfl) (Lin.p (v := .bool (false)) (p_assign rfl) ?_)
   obtain rfl := si j2
   show At _ _ _ _ _ _
   exact n1 ⟨rfl, trivial⟩
 refine tRet ?_
 obtain rfl := si H
 exact bk1 rfl rfl rfl rfl Take.nil
noncomputable def p_spec_l3Tag (v0 : Tag) : Option (Bool) := bd (cond (decide ((v0.1.size : Int) = 1)) (cond (decide ((v0.2.size : Int) = 1)) (gd (ix 0 v0.1.size) <| bd (p_spec_l6In ((sb v0.1 0).toNat : Int) 97 100) fun r7 => cond (r7) (gd (ix 0 v0.2.size) <| bd (p_spec_l6In ((sb v0.2 0).toNat : Int) 112 122) fun r11 => some (r11)) (some (false))) (some (false))) (some (false))) fun b2 => some b2
theorem c_spec_l3Tag {r : Bool} (v0 : Tag) (H : p_spec_l3Tag v0 = some r) : Fn' Tryz.prog 111 #[.agg #[.string (v0.1), .string (v0.2)]] [] [] (ι := Unit) (fun _ => .bool (r)) (fun _ => []) (fun _ => []) := by
 refine calls_of (args := [_]) Tryz.func111 rfl (by kernel_rfl) Tryz.ntmps111 (by simp) fun c => ?_
 unfold p_spec_l3Tag at H
 refine Tr.seq (Tr.region (Rg.ef (e_box (t := 96) rfl) rfl ?_))
 rintro _ _ _ ⟨g1, rfl, rfl, rfl⟩
 refine Rg.a (v := .bool (false)) rfl (Rg.nl (nT (?_)))
 obtain ⟨b2, j3, H⟩ := bd.of H
 refine tMid1 [(2, .bool (b2))] ?_ ?_
 ·refine tLinT [(1, .pointer (some ⟨g1, 0, none⟩))] ⟨rfl, trivial⟩ (Lin.p (p_fabE fa96_0 rfl rfl) (Lin.o (q_ldb ty9 rfl Has.here rfl) (Lin.p (p_slen Tryz.underlying9 rfl) (Lin.p (p_eql rfl rfl) ?_))))
  rcases Bool.eq_false_or_eq_true (decide ((v0.1.size : Int) = 1)) with h4 | h4
  ·have j3 := cdT h4 j3
   refine Lin.e_ (p_move rfl) h4 (Lin.h rfl (p_fabE fa96_1 rfl rfl) (Lin.i rfl (q_ldb ty9 rfl Has.here rfl) (Lin.h rfl (p_slen Tryz.underlying9 rfl) (Lin.h rfl (p_eql rfl rfl) (Lin.p (p_pickT rfl rfl) ?_)))))
   rcases Bool.eq_false_or_eq_true (decide ((v0.2.size : Int) = 1)) with h5 | h5
   ·have j3 := cdT h5 j3
    refine Lin.e_ (p_move rfl) h5 (Lin.h rfl (p_fabE fa96_0 rfl rfl) (Lin.i rfl (q_ldb ty9 rfl Has.here rfl) ?_))
    obtain ⟨h6, j3⟩ := gd.of j3
    refine Lin.h rfl (p_six Tryz.underlying9 rfl rfl h6) (Lin.h rfl (p_i8 Tryz.underlying5 Tryz.underlying3 rfl) ?_)
    obtain ⟨r7, h8, j3⟩ := bd.of j3
    refine Lin.i rfl (q_call (c_spec_l6In ((sb v0.1 0).toNat : Int) 97 100 h8) rfl EntsB.nil) (Lin.p (p_pickT rfl rfl) ?_)
    rcases Bool.eq_false_or_eq_true (r7) with h9 | h9
    ·have j3 := cdT h9 j3
     refine Lin.e_ (p_move rfl) h9 (Lin.h rfl (p_fabE fa96_1 rfl rfl) (Lin.i rfl (q_ldb ty9 rfl Has.here rfl) ?_))
     obtain ⟨h10, j3⟩ := gd.of j3
     refine Lin.h rfl (p_six Tryz.underlying9 rfl rfl h10) (Lin.h rfl (p_i8 Tryz.underlying5 Tryz.underlying3 rfl) ?_)
     obtain ⟨r11, h12, j3⟩ := bd.of j3
     refine Lin.i rfl (q_call (c_spec_l6In ((sb v0.2 0).toNat : Int) 112 122 h12) rfl EntsB.nil) (Lin.p (p_pickT rfl rfl) (Lin.p (p_assign rfl) ?_))
     obtain rfl := si j3
     show At _ _ _ _ _ _
     exact n1 ⟨rfl, trivial⟩
    ·have j3 := cdF h9 j3
     refine Lin.e_ (p_move rfl) h9 ?_
     iterate 5 refine Lin.sk rfl ?_
     refine Lin.p (v := .bool (false)) (p_pickF rfl rfl) (Lin.p (v := .bool (false)) (p_assign rfl) ?_)
     obtain rfl := si j3
     show At _ _ _ _ _ _
     exact n1 ⟨rfl, trivial⟩
   ·have j3 := cdF h5 j3
    refine Lin.e_ (p_move rfl) h5 ?_
    iterate 5 refine Lin.sk rfl ?_
    refine Lin.p (v := .bool (false)) (p_pickF rfl rfl) (Lin.m (v := .bool (false)) rfl ?_)
    iterate 5 refine Lin.sk rfl ?_
    refine Lin.p (v := .bool (false)) (p_pickF rfl rfl) (Lin.p (v := .bool (false)) (p_assign rfl) ?_)
    obtain rfl := si j3
    show At _ _ _ _ _ _
    exact n1 ⟨rfl, trivial⟩
  ·have j3 := cdF h4 j3
   refine Lin.e_ (p_move rfl) h4 ?_
   iterate 4 refine Lin.sk rfl ?_
   refine Lin.p (v := .bool (false)) (p_pickF rfl rfl) (Lin.m (v := .bool (false)) rfl ?_)
   iterate 5 refine Lin.sk rfl ?_
   refine Lin.p (v := .bool (false)) (p_pickF rfl rfl) (Lin.m (v := .bool (false)) rfl ?_)
   iterate 5 refine Lin.sk rfl ?_
   refine Lin.p (v := .bool (false)) (p_pickF rfl rfl) (Lin.p (v := .bool (false)) (p_assign rfl) ?_)
   obtain rfl := si j3
   show At _ _ _ _ _ _
   exact n1 ⟨rfl, trivial⟩
 refine tRet ?_
 obtain rfl := si H
 exact bk1 rfl rfl rfl rfl Take.nil
noncomputable def p_spec_NameOk_b0 (v0 : (List Tag)) (Q5 : Int) : Option ((Int) ⊕ (Unit ⊕ Bool)) := cond (decide (Q5 < (v0.length : Int))) (bd (gd (ix Q5 v0.length) <| bd (p_spec_l3Tag (nth v0 Q5.toNat)) fun r17 => cond (!r17) (some (true)) (cond (decide (0 < Q5)) (gd (I64 (Q5 - 1)) <| gd (ix (Q5 - 1) v0.length) <| some (!sless ((nth v0 ((Q5 - 1).toNat)).1) ((nth v0 Q5.toNat).1))) (some (false)))) fun b14 => cond (b14) (some (.inr (.inr false))) (gd (I64 (Q5 + 1)) <| some (.inl (Q5 + 1)))) (some (.inr (.inl ())))
noncomputable def p_spec_NameOk (v0 : (List Tag)) : Option (Bool) := bd (lp (p_spec_NameOk_b0 v0) 0) <| sw (fun _ => bd (p_spec_l6In (v0.length : Int) 1 3) fun r26 => some r26) (fun q => some q)
theorem c_spec_NameOk {r : Bool} (v0 : (List Tag)) (x_v0 : Option Addr × Nat) (H : p_spec_NameOk v0 = some r) : Fn' Tryz.prog 63 #[.slice x_v0.1 v0.length x_v0.2] [imm (.slice x_v0.1 v0.length x_v0.2) v0] [] (ι := Unit) (fun _ => .bool (r)) (fun _ => []) (fun _ => []) := by
 refine calls_of (args := [_]) Tryz.func63 rfl (by kernel_rfl) Tryz.ntmps63 (by simp) fun c => ?_
 unfold p_spec_NameOk at H
 refine Tr.seq (Tr.region (Rg.a (v := .bool (false)) rfl (Rg.nl (nT (?_)))))
 refine Tr.seq (Tr.seq (Tr.region (Rg.a (v := .int .i64 (0)) rfl (Rg.nl (nT (?_))))))
 obtain ⟨x1, hx2, H⟩ := bd.of H
 obtain ⟨n3, hx2⟩ := lp.of hx2
 refine tMidNC (ι := { q : (Unit) × Unit // x1 = .inl q.1 }) (fun ψ => [(0, .slice x_v0.1 v0.length x_v0.2)]) (fun ψ => []) ?_ ?_
 ·refine Tr.block (tLoopC (ι := { q : Nat × (Int) × Unit // itr (p_spec_NameOk_b0 v0) q.1 q.2.1 = some x1 }) (fun ζ => [(0, .slice x_v0.1 v0.length x_v0.2), (3, .int .i64 (ζ.1.2.1))]) (fun ζ => []) (fun ζ => ζ.1.1) ⟨(n3, 0, ()), hx2⟩ ⟨rfl, rfl, trivial⟩ Take.nil ?_)
  rintro ⟨⟨m4, Q5, z6⟩, hk11⟩
  obtain ⟨m12, t8, e, H1, hi9, hb10⟩ := itr.of (n := m4) (s := Q5) hk11
  subst e; unfold p_spec_NameOk_b0 at H1
  show Tr _ _ _ _ _ [(0, .slice x_v0.1 v0.length x_v0.2), (3, .int .i64 (Q5))] _ []
  refine Tr.seq (Tr.seq (Tr.region (Rg.m rfl (Rg.m rfl (Rg.p (p_len 96 Tryz.underlying56 rfl) ?_)))))
  refine Rg.p (p_lss rfl rfl) (Rg.nl (nT (?_)))
  refine Tr.cond (b := decide (Q5 < (v0.length : Int))) rfl (fun h13 => ?_) (fun h13 => ?_)
  ·have H1 := cdT h13 H1
   refine tSkip (nT (?_))
   refine Tr.seq (Tr.block ?_)
   obtain ⟨b14, j15, H1⟩ := bd.of H1
   refine tMid1 [(33, .bool (b14)), (0, .slice x_v0.1 v0.length x_v0.2), (3, .int .i64 (Q5))] ?_ ?_
   ·refine tLinS [(0, .slice x_v0.1 v0.length x_v0.2), (3, .int .i64 (Q5))] Tryz.mixed (.inr (by kernel_rfl)) ⟨rfl, rfl, trivial⟩ rfl (Lin.m rfl (Lin.m rfl ?_))
    obtain ⟨h16, j15⟩ := gd.of j15
    refine Lin.o (q_ixg Tryz.underlying56 ty96 rfl rfl h16 rfl (EntB.flat (Ent.b Ent.z))) (Lin.o (v := .agg #[.string ((nth v0 Q5.toNat).1), .string ((nth v0 Q5.toNat).2)]) (q_ldeA (i := Q5.toNat) ty96 rfl (EntB.flat (Ent.b Ent.z)) h16.lt) ?_)
    obtain ⟨r17, h18, j15⟩ := bd.of j15
    refine Lin.o (q_call (c_spec_l3Tag (nth v0 Q5.toNat) h18) rfl EntsB.nil) (Lin.p (p_not rfl) ?_)
    rcases Bool.eq_false_or_eq_true (!r17) with h19 | h19
    ·have j15 := cdT h19 j15
     refine Lin.e_ (p_move rfl) h19 ?_
     iterate 16 refine Lin.sk rfl ?_
     refine Lin.p (v := .bool (true)) (p_pickT rfl rfl) ?_
     obtain rfl := si j15
     show At _ _ _ _ _ _
     exact n1 ⟨rfl, rfl, rfl, trivial⟩
    ·have j15 := cdF h19 j15
     refine Lin.e_ (p_move rfl) h19 (Lin.h rfl (p_move rfl) (Lin.h rfl (p_gtr rfl rfl) ?_))
     rcases Bool.eq_false_or_eq_true (decide (0 < Q5)) with h20 | h20
     ·have j15 := cdT h20 j15
      refine Lin.f_ rfl (p_move rfl) h20 (Lin.h rfl (p_move rfl) (Lin.h rfl (p_move rfl) ?_))
      obtain ⟨h21, j15⟩ := gd.of j15
      refine Lin.h rfl (p_sub rfl rfl h21) ?_
      obtain ⟨h22, j15⟩ := gd.of j15
      refine Lin.i rfl (q_ixg Tryz.underlying56 ty96 rfl rfl h22 rfl (EntB.flat (Ent.b Ent.z))) (Lin.i rfl (q_faeE (j := 0) ((Q5 - 1).toNat) fa96_0 rfl (EntB.flat (Ent.b Ent.z)) h22.lt rfl) (Lin.i rfl (q_lde (i := (Q5 - 1).toNat) (j := 0) ty9 rfl (EntB.flat (Ent.b Ent.z)) h22.lt rfl) (Lin.h rfl (p_move rfl) (Lin.h rfl (p_move rfl) (Lin.i rfl (q_ixg Tryz.underlying56 ty96 rfl rfl h16 rfl (EntB.flat (Ent.b Ent.z))) ?_)))))
      refine Lin.i rfl (q_faeE (j := 0) Q5.toNat fa96_0 rfl (EntB.flat (Ent.b Ent.z)) h16.lt rfl) (Lin.i rfl (q_lde (i := Q5.toNat) (j := 0) ty9 rfl (EntB.flat (Ent.b Ent.z)) h16.lt rfl) (Lin.h rfl (p_sgeq rfl rfl) (Lin.h rfl (p_pickT rfl rfl) (Lin.p (p_pickF rfl rfl) ?_))))
      obtain rfl := si j15
      show At _ _ _ _ _ _
      exact n1 ⟨rfl, rfl, rfl, trivial⟩
     ·have j15 := cdF h20 j15
      refine Lin.f_ rfl (p_move rfl) h20 ?_
      iterate 12 refine Lin.sk rfl ?_
      refine Lin.h (v := .bool (false)) rfl (p_pickF rfl rfl) (Lin.p (v := .bool (false)) (p_pickF rfl rfl) ?_)
      obtain rfl := si j15
      show At _ _ _ _ _ _
      exact n1 ⟨rfl, rfl, rfl, trivial⟩
   refine Tr.cond (b := b14) rfl (fun h23 => ?_) (fun h23 => ?_)
   ·have H1 := cdT h23 H1
    refine Tr.seq (Tr.region (Rg.a (v := .bool (false)) rfl (Rg.nl (nT (?_)))))
    refine tRet (rB (rT (rT (rB (rT (rT (?_)))))))
    have hx := hb10 _ (Option.some.inj H1).symm; subst hx
    replace H := sw.r H
    obtain rfl := si H
    exact bk1 rfl rfl rfl rfl Take.nil
   ·have H1 := cdF h23 H1
    refine tSkip (nB (nT (?_)))
    refine Tr.region (Rg.m rfl ?_)
    obtain ⟨h24, H1⟩ := gd.of H1
    refine Rg.p (p_add rfl rfl h24) (Rg.a rfl (Rg.nl ?_))
    exact nLC ⟨(m12, Q5 + 1, ()), hi9 _ (Option.some.inj H1).symm⟩ (Nat.lt_succ_self _) ⟨rfl, rfl, trivial⟩ Ents.refl Take.nil
  ·have H1 := cdF h13 H1
   refine tExit (xT (xT (xE (?_))))
   exact nMC ⟨((), ()), (hb10 _ (Option.some.inj H1).symm).symm⟩ ⟨rfl, trivial⟩ Ents.refl Take.nil
 ·rintro ⟨⟨e25, y7⟩, hx⟩; subst hx; replace H := sw.l H
  show At _ _ [(0, .slice x_v0.1 v0.length x_v0.2)] _ [] _
  refine nT (?_)
  refine Tr.seq (Tr.region (Rg.m rfl (Rg.p (p_len 96 Tryz.underlying56 rfl) ?_)))
  obtain ⟨r26, h27, H⟩ := bd.of H
  refine Rg.o (q_call (c_spec_l6In (v0.length : Int) 1 3 h27) rfl EntsB.nil) (Rg.a rfl (Rg.nl (nT (?_))))
  refine tRet ?_
  obtain rfl := si H
  exact bk1 rfl rfl rfl rfl Take.nil
noncomputable def p_spec_l3Text_b0 (v0 : (List Tag)) (Q5 : ByteArray × Int) : Option ((ByteArray × Int) ⊕ (ByteArray)) := cond (decide (Q5.2 < (v0.length : Int))) (cond (decide (0 < Q5.2)) (gd (room (Q5.1.size + (⟨#[44]⟩ : ByteArray).size)) <| gd (ix Q5.2 v0.length) <| gd (room ((Q5.1 ++ (⟨#[44]⟩ : ByteArray)).size + ((nth v0 Q5.2.toNat).1).size)) <| gd (room (((Q5.1 ++ (⟨#[44]⟩ : ByteArray)) ++ ((nth v0 Q5.2.toNat).1)).size + (⟨#[61]⟩ : ByteArray).size)) <| gd (room ((((Q5.1 ++ (⟨#[44]⟩ : ByteArray)) ++ ((nth v0 Q5.2.toNat).1)) ++ (⟨#[61]⟩ : ByteArray)).size + ((nth v0 Q5.2.toNat).2).size)) <| gd (I64 (Q5.2 + 1)) <| some (.inl ((((Q5.1 ++ (⟨#[44]⟩ : ByteArray)) ++ ((nth v0 Q5.2.toNat).1)) ++ (⟨#[61]⟩ : ByteArray)) ++ ((nth v0 Q5.2.toNat).2), Q5.2 + 1))) (gd (ix Q5.2 v0.length) <| gd (room (Q5.1.size + ((nth v0 Q5.2.toNat).1).size)) <| gd (room ((Q5.1 ++ ((nth v0 Q5.2.toNat).1)).size + (⟨#[61]⟩ : ByteArray).size)) <| gd (room (((Q5.1 ++ ((nth v0 Q5.2.toNat).1)) ++ (⟨#[61]⟩ : ByteArray)).size + ((nth v0 Q5.2.toNat).2).size)) <| gd (I64 (Q5.2 + 1)) <| some (.inl (((Q5.1 ++ ((nth v0 Q5.2.toNat).1)) ++ (⟨#[61]⟩ : ByteArray)) ++ ((nth v0 Q5.2.toNat).2), Q5.2 + 1)))) (some (.inr Q5.1))
noncomputable def p_spec_l3Text (v0 : (List Tag)) : Option (ByteArray) := bd (lp (p_spec_l3Text_b0 v0) ((⟨#[]⟩ : ByteArray), 0)) fun x1 => some x1
theorem c_spec_l3Text {r : ByteArray} (v0 : (List Tag)) (x_v0 : Option Addr × Nat) (H : p_spec_l3Text v0 = some r) : Fn' Tryz.prog 76 #[.slice x_v0.1 v0.length x_v0.2] [imm (.slice x_v0.1 v0.length x_v0.2) v0] [] (ι := Unit) (fun _ => .string (r)) (fun _ => []) (fun _ => []) := by
 refine calls_of (args := [_]) Tryz.func76 rfl (by kernel_rfl) Tryz.ntmps76 (by simp) fun c => ?_
 unfold p_spec_l3Text at H
 refine Tr.seq (Tr.region (Rg.a (v := .string ((⟨#[]⟩ : ByteArray))) rfl (Rg.nl (nT (?_)))))
 refine Tr.seq (Tr.region (Rg.a (v := .string ((⟨#[]⟩ : ByteArray))) rfl (Rg.nl (nT (?_)))))
 refine Tr.seq (Tr.seq (Tr.region (Rg.a (v := .int .i64 (0)) rfl (Rg.nl (nT (?_))))))
 obtain ⟨x1, hx2, H⟩ := bd.of H
 obtain ⟨n3, hx2⟩ := lp.of hx2
 refine tMidNC (ι := Unit) (fun ψ => [(3, .string (x1))]) (fun ψ => []) ?_ ?_
 ·refine Tr.block (tLoopC (ι := { q : Nat × (ByteArray × Int) × Unit // itr (p_spec_l3Text_b0 v0) q.1 q.2.1 = some x1 }) (fun ζ => [(0, .slice x_v0.1 v0.length x_v0.2), (3, .string (ζ.1.2.1.1)), (4, .int .i64 (ζ.1.2.1.2))]) (fun ζ => []) (fun ζ => ζ.1.1) ⟨(n3, ((⟨#[]⟩ : ByteArray), 0), ()), hx2⟩ ⟨rfl, rfl, rfl, trivial⟩ Take.nil ?_)
  rintro ⟨⟨m4, Q5, z6⟩, hk11⟩
  obtain ⟨m12, t8, e, H1, hi9, hb10⟩ := itr.of (n := m4) (s := Q5) hk11
  subst e; unfold p_spec_l3Text_b0 at H1
  show Tr _ _ _ _ _ [(0, .slice x_v0.1 v0.length x_v0.2), (3, .string (Q5.1)), (4, .int .i64 (Q5.2))] _ []
  refine Tr.seq (Tr.seq (Tr.region (Rg.m rfl (Rg.m rfl (Rg.p (p_len 96 Tryz.underlying56 rfl) ?_)))))
  refine Rg.p (p_lss rfl rfl) (Rg.nl (nT (?_)))
  refine Tr.cond (b := decide (Q5.2 < (v0.length : Int))) rfl (fun h13 => ?_) (fun h13 => ?_)
  ·have H1 := cdT h13 H1
   refine tSkip (nT (?_))
   refine Tr.seq (Tr.block (Tr.seq (Tr.seq (Tr.region (Rg.m rfl ?_)))))
   refine Rg.p (p_gtr rfl rfl) (Rg.nl (nT (?_)))
   refine Tr.cond (b := decide (0 < Q5.2)) rfl (fun h14 => ?_) (fun h14 => ?_)
   ·have H1 := cdT h14 H1
    refine Tr.region (Rg.m rfl ?_)
    obtain ⟨h15, H1⟩ := gd.of H1
    refine Rg.p (p_cat rfl rfl h15) (Rg.a rfl (Rg.nl (nT (?_))))
    refine tNwL [(3, .string (Q5.1 ++ (⟨#[44]⟩ : ByteArray))), (0, .slice x_v0.1 v0.length x_v0.2), (4, .int .i64 (Q5.2))] 1 [0, 1, 2, 3, 4, 5, 6, 7, 8, 9, 10, 11, 12, 13] [] [] Tryz.mixed rfl (by kernel_rfl) (by kernel_rfl) (by decide) List.nodup_nil ⟨rfl, rfl, rfl, trivial⟩ rfl okNil (w_p rfl (p_move rfl) (w_p rfl (p_move rfl) (w_p rfl (p_move rfl) ?_)))
    obtain ⟨h16, H1⟩ := gd.of H1
    refine w_o rfl (fun F => (q_ixg Tryz.underlying56 ty96 rfl rfl h16 rfl (EntB.flat (Ent.b Ent.z)))) ?_
    refine w_o rfl (fun F => (q_faeE (j := 0) Q5.2.toNat fa96_0 rfl (EntB.flat (Ent.b Ent.z)) h16.lt rfl)) ?_
    refine w_o rfl (fun F => (q_lde (i := Q5.2.toNat) (j := 0) ty9 rfl (EntB.flat (Ent.b Ent.z)) h16.lt rfl)) ?_
    obtain ⟨h17, H1⟩ := gd.of H1
    refine w_p rfl (p_cat rfl rfl h17) ?_
    obtain ⟨h18, H1⟩ := gd.of H1
    refine w_p rfl (p_cat rfl rfl h18) (w_p rfl (p_move rfl) (w_p rfl (p_move rfl) (w_o rfl (fun F => (q_ixg Tryz.underlying56 ty96 rfl rfl h16 rfl (EntB.flat (Ent.b Ent.z)))) (w_o rfl (fun F => (q_faeE (j := 0) Q5.2.toNat fa96_1 rfl (EntB.flat (Ent.b Ent.z)) h16.lt rfl)) (w_o rfl (fun F => (q_lde (i := Q5.2.toNat) (j := 1) ty9 rfl (EntB.flat (Ent.b Ent.z)) h16.lt rfl)) ?_)))))
    obtain ⟨h19, H1⟩ := gd.of H1
    refine w_p rfl (p_cat rfl rfl h19) (w_nil ?_)
    show Rg _ _ _ _ _ _ _ _ _
    refine Rg.a rfl (Rg.nl (nB (nT (?_))))
    refine Tr.region (Rg.m rfl ?_)
    obtain ⟨h20, H1⟩ := gd.of H1
    refine Rg.p (p_add rfl rfl h20) (Rg.a rfl (Rg.nl ?_))
    exact nLC ⟨(m12, ((((Q5.1 ++ (⟨#[44]⟩ : ByteArray)) ++ ((nth v0 Q5.2.toNat).1)) ++ (⟨#[61]⟩ : ByteArray)) ++ ((nth v0 Q5.2.toNat).2), Q5.2 + 1), ()), hi9 _ (Option.some.inj H1).symm⟩ (Nat.lt_succ_self _) ⟨rfl, rfl, rfl, trivial⟩ Ents.refl Take.nil
   ·have H1 := cdF h14 H1
    refine tSkip (nT (?_))
    refine tNwL [(0, .slice x_v0.1 v0.length x_v0.2), (3, .string (Q5.1)), (4, .int .i64 (Q5.2))] 1 [0, 1, 2, 3, 4, 5, 6, 7, 8, 9, 10, 11, 12, 13] [] [] Tryz.mixed rfl (by kernel_rfl) (by kernel_rfl) (by decide) List.nodup_nil ⟨rfl, rfl, rfl, trivial⟩ rfl okNil (w_p rfl (p_move rfl) (w_p rfl (p_move rfl) (w_p rfl (p_move rfl) ?_)))
    obtain ⟨h21, H1⟩ := gd.of H1
    refine w_o rfl (fun F => (q_ixg Tryz.underlying56 ty96 rfl rfl h21 rfl (EntB.flat (Ent.b Ent.z)))) ?_
    refine w_o rfl (fun F => (q_faeE (j := 0) Q5.2.toNat fa96_0 rfl (EntB.flat (Ent.b Ent.z)) h21.lt rfl)) ?_
    refine w_o rfl (fun F => (q_lde (i := Q5.2.toNat) (j := 0) ty9 rfl (EntB.flat (Ent.b Ent.z)) h21.lt rfl)) ?_
    obtain ⟨h22, H1⟩ := gd.of H1
    refine w_p rfl (p_cat rfl rfl h22) ?_
    obtain ⟨h23, H1⟩ := gd.of H1
    refine w_p rfl (p_cat rfl rfl h23) (w_p rfl (p_move rfl) (w_p rfl (p_move rfl) (w_o rfl (fun F => (q_ixg Tryz.underlying56 ty96 rfl rfl h21 rfl (EntB.flat (Ent.b Ent.z)))) (w_o rfl (fun F => (q_faeE (j := 0) Q5.2.toNat fa96_1 rfl (EntB.flat (Ent.b Ent.z)) h21.lt rfl)) (w_o rfl (fun F => (q_lde (i := Q5.2.toNat) (j := 1) ty9 rfl (EntB.flat (Ent.b Ent.z)) h21.lt rfl)) ?_)))))
    obtain ⟨h24, H1⟩ := gd.of H1
    refine w_p rfl (p_cat rfl rfl h24) (w_nil ?_)
    show Rg _ _ _ _ _ _ _ _ _
    refine Rg.a rfl (Rg.nl (nB (nT (?_))))
    refine Tr.region (Rg.m rfl ?_)
    obtain ⟨h25, H1⟩ := gd.of H1
    refine Rg.p (p_add rfl rfl h25) (Rg.a rfl (Rg.nl ?_))
    exact nLC ⟨(m12, (((Q5.1 ++ ((nth v0 Q5.2.toNat).1)) ++ (⟨#[61]⟩ : ByteArray)) ++ ((nth v0 Q5.2.toNat).2), Q5.2 + 1), ()), hi9 _ (Option.some.inj H1).symm⟩ (Nat.lt_succ_self _) ⟨rfl, rfl, rfl, trivial⟩ Ents.refl Take.nil
  ·have H1 := cdF h13 H1
   refine tExit (xT (xT (xE (?_))))
   have hx := hb10 _ (Option.some.inj H1).symm; subst hx
   exact nMC () ⟨rfl, trivial⟩ Ents.refl Take.nil
 ·intro y7
  show At _ _ [(3, .string (x1))] _ [] _
  refine nT (?_)
  refine Tr.seq (Tr.region (Rg.m rfl (Rg.a rfl (Rg.nl (nT (?_))))))
  refine tRet ?_
  obtain rfl := si H
  exact bk1 rfl rfl rfl rfl Take.nil
noncomputable def p_spec_l3Has_b0 (v0 : (List Tag)) (v1 : Tag) (Q6 : Int) : Option ((Int) ⊕ (Unit ⊕ Bool)) := cond (decide (Q6 < (v0.length : Int))) (gd (ix Q6 v0.length) <| cond (decide (nth v0 Q6.toNat = v1)) (some (.inr (.inr true))) (gd (I64 (Q6 + 1)) <| some (.inl (Q6 + 1)))) (some (.inr (.inl ())))
noncomputable def p_spec_l3Has (v0 : (List Tag)) (v1 : Tag) : Option (Bool) := bd (lp (p_spec_l3Has_b0 v0 v1) 0) <| sw (fun _ => some false) (fun q => some q)
theorem c_spec_l3Has {r : Bool} (v0 : (List Tag)) (x_v0 : Option Addr × Nat) (v1 : Tag) (H : p_spec_l3Has v0 v1 = some r) : Fn' Tryz.prog 121 #[.slice x_v0.1 v0.length x_v0.2, .agg #[.string (v1.1), .string (v1.2)]] [imm (.slice x_v0.1 v0.length x_v0.2) v0] [] (ι := Unit) (fun _ => .bool (r)) (fun _ => []) (fun _ => []) := by
 refine calls_of (args := [_, _]) Tryz.func121 rfl (by kernel_rfl) Tryz.ntmps121 (by simp) fun c => ?_
 unfold p_spec_l3Has at H
 refine Tr.seq (Tr.region (Rg.ef (e_box (t := 96) rfl) rfl ?_))
 rintro _ _ _ ⟨g1, rfl, rfl, rfl⟩
 refine Rg.a (v := .bool (false)) rfl (Rg.nl (nT (?_)))
 refine Tr.seq (Tr.seq (Tr.region (Rg.a (v := .int .i64 (0)) rfl (Rg.nl (nT (?_))))))
 obtain ⟨x2, hx3, H⟩ := bd.of H
 obtain ⟨n4, hx3⟩ := lp.of hx3
 refine tMidNC (ι := { q : (Unit) × Unit // x2 = .inl q.1 }) (fun ψ => []) (fun ψ => []) ?_ ?_
 ·refine Tr.block (tLoopC (ι := { q : Nat × (Int) × Unit // itr (p_spec_l3Has_b0 v0 v1) q.1 q.2.1 = some x2 }) (fun ζ => [(0, .slice x_v0.1 v0.length x_v0.2), (3, .pointer (some ⟨g1, 0, none⟩)), (5, .int .i64 (ζ.1.2.1))]) (fun ζ => [box g1 96 [.string (v1.1), .string (v1.2)]]) (fun ζ => ζ.1.1) ⟨(n4, 0, ()), hx3⟩ ⟨rfl, rfl, rfl, trivial⟩ (.cons Del.here .nil) ?_)
  rintro ⟨⟨m5, Q6, z7⟩, hk12⟩
  obtain ⟨m13, t9, e, H1, hi10, hb11⟩ := itr.of (n := m5) (s := Q6) hk12
  subst e; unfold p_spec_l3Has_b0 at H1
  show Tr _ _ _ _ _ [(0, .slice x_v0.1 v0.length x_v0.2), (3, .pointer (some ⟨g1, 0, none⟩)), (5, .int .i64 (Q6))] _ [box g1 96 [.string (v1.1), .string (v1.2)]]
  refine Tr.seq (Tr.seq (Tr.region (Rg.m rfl (Rg.m rfl (Rg.p (p_len 96 Tryz.underlying56 rfl) ?_)))))
  refine Rg.p (p_lss rfl rfl) (Rg.nl (nT (?_)))
  refine Tr.cond (b := decide (Q6 < (v0.length : Int))) rfl (fun h14 => ?_) (fun h14 => ?_)
  ·have H1 := cdT h14 H1
   refine tSkip (nT (?_))
   refine Tr.seq (Tr.block (Tr.seq (tLinS [(0, .slice x_v0.1 v0.length x_v0.2), (3, .pointer (some ⟨g1, 0, none⟩)), (5, .int .i64 (Q6))] Tryz.mixed (.inr (by kernel_rfl)) ⟨rfl, rfl, rfl, trivial⟩ rfl (Lin.m rfl (Lin.m rfl ?_)))))
   obtain ⟨h15, H1⟩ := gd.of H1
   refine Lin.o (q_ixg Tryz.underlying56 ty96 rfl rfl h15 rfl (EntB.flat (Ent.b Ent.z))) (Lin.o (v := .agg #[.string ((nth v0 Q6.toNat).1), .string ((nth v0 Q6.toNat).2)]) (q_ldeA (i := Q6.toNat) ty96 rfl (EntB.flat (Ent.b Ent.z)) h15.lt) (Lin.o (q_ldbA ty96 rfl Has.here rfl) (Lin.p (v := .bool (decide (nth v0 Q6.toNat = v1))) (p_aeql (a := nth v0 Q6.toNat) (b := v1) ae96 rfl rfl rfl rfl) ?_)))
   show At _ _ _ _ _ _
   refine nT (?_)
   refine Tr.cond (b := decide (nth v0 Q6.toNat = v1)) rfl (fun h16 => ?_) (fun h16 => ?_)
   ·have H1 := cdT h16 H1
    refine Tr.seq (Tr.region (Rg.a (v := .bool (true)) rfl (Rg.nl (nT (?_)))))
    refine tRet (rB (rT (rT (rB (rT (rT (?_)))))))
    have hx := hb11 _ (Option.some.inj H1).symm; subst hx
    replace H := sw.r H
    obtain rfl := si H
    exact bk1 rfl rfl rfl rfl Take.nil
   ·have H1 := cdF h16 H1
    refine tSkip (nB (nT (?_)))
    refine Tr.region (Rg.m rfl ?_)
    obtain ⟨h17, H1⟩ := gd.of H1
    refine Rg.p (p_add rfl rfl h17) (Rg.a rfl (Rg.nl ?_))
    exact nLC ⟨(m13, Q6 + 1, ()), hi10 _ (Option.some.inj H1).symm⟩ (Nat.lt_succ_self _) ⟨rfl, rfl, rfl, trivial⟩ Ents.refl (.cons Del.here .nil)
  ·have H1 := cdF h14 H1
   refine tExit (xT (xT (xE (?_))))
   exact nMC ⟨((), ()), (hb11 _ (Option.some.inj H1).symm).symm⟩ trivial Ents.refl Take.nil
 ·rintro ⟨⟨e18, y8⟩, hx⟩; subst hx; replace H := sw.l H
  show At _ _ [] _ [] _
  refine nT (?_)
  refine Tr.seq (Tr.region (Rg.a (v := .bool (false)) rfl (Rg.nl (nT (?_)))))
  refine tRet ?_
  obtain rfl := si H
  exact bk1 rfl rfl rfl rfl Take.nil
noncomputable def p_spec_l11Ids_b0 (v0 : (List (List Tag))) (v1 : Tag) (Q9 : (List Int) × Int) : Option (((List Int) × Int) ⊕ ((List Int))) := cond (decide (Q9.2 < (v0.length : Int))) (gd (ix Q9.2 v0.length) <| bd (p_spec_l3Has (nth v0 Q9.2.toNat) v1) fun r19 => cond (r19) (gd (I64 (Q9.2 + 1)) <| gd (room (Q9.1.length + 1)) <| some (.inl ((Q9.1 ++ [Q9.2 + 1]), Q9.2 + 1))) (gd (I64 (Q9.2 + 1)) <| some (.inl (Q9.1, Q9.2 + 1)))) (some (.inr Q9.1))
noncomputable def p_spec_l11Ids (v0 : (List (List Tag))) (v1 : Tag) : Option ((List Int)) := bd (lp (p_spec_l11Ids_b0 v0 v1) (([] : List Int), 0)) fun x5 => some x5
theorem c_spec_l11Ids {r : (List Int)} (v0 : (List (List Tag))) (x_v0 : Option Addr × Nat) (v1 : Tag) (H : p_spec_l11Ids v0 v1 = some r) : Fn' Tryz.prog 78 #[.slice x_v0.1 v0.length x_v0.2, .agg #[.string (v1.1), .string (v1.2)]] [imm (.slice x_v0.1 v0.length x_v0.2) v0] [] (ι := Option Addr × Nat) (fun x => .slice x.1 r.length x.2) (fun _ => []) (fun x => [tree (.slice x.1 r.length x.2) r]) := by
 refine calls_of (args := [_, _]) Tryz.func78 rfl (by kernel_rfl) Tryz.ntmps78 (by simp) fun c => ?_
 unfold p_spec_l11Ids at H
 refine Tr.openD Ent.z fun X1 => (Tr.seq (Tr.region (Rg.ef (e_box (t := 96) rfl) rfl ?_)))
 rintro _ _ _ ⟨g2, rfl, rfl, rfl⟩
 refine Rg.a (v := .slice none 0 0) rfl (Rg.nl (nT (?_)))
 refine Tr.seq (Tr.region (Rg.ef (e_lit0 Int Tryz.underlying69 ty3) rfl ?_))
 rintro _ _ _ ⟨a3, c4, rfl, rfl, rfl⟩
 refine Rg.a rfl (Rg.nl (nT (?_)))
 refine Tr.seq (Tr.seq (Tr.region (Rg.a (v := .int .i64 (0)) rfl (Rg.nl (nT (?_))))))
 obtain ⟨x5, hx6, H⟩ := bd.of H
 obtain ⟨n7, hx6⟩ := lp.of hx6
 refine tMidNC (ι := Option Addr × Nat) (fun ψ => [(5, .slice ψ.1 x5.length ψ.2)]) (fun ψ => [tree (.slice ψ.1 x5.length ψ.2) x5]) ?_ ?_
 ·refine Tr.block (tLoopC (ι := { q : Nat × ((List Int) × Int) × (Option Addr × Nat) // itr (p_spec_l11Ids_b0 v0 v1) q.1 q.2.1 = some x5 }) (fun ζ => [(0, .slice x_v0.1 v0.length x_v0.2), (3, .pointer (some ⟨g2, 0, none⟩)), (5, .slice ζ.1.2.2.1 ζ.1.2.1.1.length ζ.1.2.2.2), (6, .int .i64 (ζ.1.2.1.2))]) (fun ζ => [box g2 96 [.string (v1.1), .string (v1.2)], tree (.slice ζ.1.2.2.1 ζ.1.2.1.1.length ζ.1.2.2.2) ζ.1.2.1.1]) (fun ζ => ζ.1.1) ⟨(n7, (([] : List Int), 0), (a3, c4)), hx6⟩ ⟨rfl, rfl, rfl, rfl, trivial⟩ (.cons dl1 (.cons Del.here .nil)) ?_)
  rintro ⟨⟨m8, Q9, z10⟩, hk15⟩
  obtain ⟨m16, t12, e, H1, hi13, hb14⟩ := itr.of (n := m8) (s := Q9) hk15
  subst e; unfold p_spec_l11Ids_b0 at H1
  show Tr _ _ _ _ _ [(0, .slice x_v0.1 v0.length x_v0.2), (3, .pointer (some ⟨g2, 0, none⟩)), (5, .slice z10.1 Q9.1.length z10.2), (6, .int .i64 (Q9.2))] _ [box g2 96 [.string (v1.1), .string (v1.2)], tree (.slice z10.1 Q9.1.length z10.2) Q9.1]
  refine Tr.seq (Tr.seq (Tr.region (Rg.m rfl (Rg.m rfl (Rg.p (p_len 56 Tryz.underlying32 rfl) ?_)))))
  refine Rg.p (p_lss rfl rfl) (Rg.nl (nT (?_)))
  refine Tr.cond (b := decide (Q9.2 < (v0.length : Int))) rfl (fun h17 => ?_) (fun h17 => ?_)
  ·have H1 := cdT h17 H1
   refine tSkip (nT (?_))
   refine Tr.seq (Tr.block (Tr.seq (tLinS [(0, .slice x_v0.1 v0.length x_v0.2), (3, .pointer (some ⟨g2, 0, none⟩)), (5, .slice z10.1 Q9.1.length z10.2), (6, .int .i64 (Q9.2))] Tryz.mixed (.inr (by kernel_rfl)) ⟨rfl, rfl, rfl, rfl, trivial⟩ rfl (Lin.m rfl (Lin.m rfl ?_)))))
   obtain ⟨h18, H1⟩ := gd.of H1
   refine Lin.o (q_ixg Tryz.underlying32 ty56 rfl rfl h18 rfl (Ent.b (Ent.darr Ent.z))) (Lin.o (q_lde (i := Q9.2.toNat) (j := 0) ty56 rfl (Ent.b (Ent.darr Ent.z)) h18.lt rfl) (Lin.o (q_ldbA ty96 rfl Has.here rfl) ?_))
   obtain ⟨r19, h20, H1⟩ := bd.of H1
   refine Lin.o (q_call (c_spec_l3Has (nth v0 Q9.2.toNat) ((X1 Q9.2.toNat).1, (X1 Q9.2.toNat).2.1) v1 h20) rfl (EntsB.cons (Ent.b (Ent.dimm (Ent.del Ent.z h18.lt))) EntsB.nil)) ?_
   show At _ _ _ _ _ _
   refine nT (?_)
   refine Tr.cond (b := r19) rfl (fun h21 => ?_) (fun h21 => ?_)
   ·have H1 := cdT h21 H1
    refine Tr.region (Rg.m rfl (Rg.m rfl ?_))
    obtain ⟨h22, H1⟩ := gd.of H1
    refine Rg.p (p_add rfl rfl h22) (Rg.ef (e_lit (vs := [(0, .int .i64 (Q9.2 + 1))]) [.int .i64 (Q9.2 + 1)] Tryz.underlying69 ty3 rfl (by decide) (by decide) (by kernel_rfl)) rfl ?_)
    rintro _ _ _ ⟨g23, rfl, rfl, rfl⟩
    obtain ⟨h26, H1⟩ := gd.of H1
    refine Rg.ef (e_app1 (l := Q9.1) (α := Int) (Q9.2 + 1) () Tryz.underlying69 ty3 rfl rfl (h26.b (by decide)) h26.x rfl (ShpT.wfa _) (.cons dl2 (.cons Del.here .nil))) rfl ?_
    rintro _ _ _ ⟨a24, c25, rfl, rfl, rfl⟩
    refine Rg.a rfl (Rg.nl (nB (nT (?_))))
    refine Tr.region (Rg.m rfl (Rg.p (p_add rfl rfl h22) (Rg.a rfl (Rg.nl ?_))))
    exact nLC ⟨(m16, ((Q9.1 ++ [Q9.2 + 1]), Q9.2 + 1), (a24, c25)), hi13 _ (Option.some.inj H1).symm⟩ (Nat.lt_succ_self _) ⟨rfl, rfl, rfl, rfl, trivial⟩ Ents.refl (.cons dl1 (.cons Del.here .nil))
   ·have H1 := cdF h21 H1
    refine tSkip (nB (nT (?_)))
    refine Tr.region (Rg.m rfl ?_)
    obtain ⟨h27, H1⟩ := gd.of H1
    refine Rg.p (p_add rfl rfl h27) (Rg.a rfl (Rg.nl ?_))
    exact nLC ⟨(m16, (Q9.1, Q9.2 + 1), (z10.1, z10.2)), hi13 _ (Option.some.inj H1).symm⟩ (Nat.lt_succ_self _) ⟨rfl, rfl, rfl, rfl, trivial⟩ Ents.refl (.cons Del.here (.cons Del.here .nil))
  ·have H1 := cdF h17 H1
   refine tExit (xT (xT (xE (?_))))
   have hx := hb14 _ (Option.some.inj H1).symm; subst hx
   exact nMC (z10.1, z10.2) ⟨rfl, trivial⟩ Ents.refl (.cons dl1 .nil)
 ·intro y11
  show At _ _ [(5, .slice y11.1 x5.length y11.2)] _ [tree (.slice y11.1 x5.length y11.2) x5] _
  refine nT (?_)
  refine Tr.seq (Tr.region (Rg.m rfl (Rg.a rfl (Rg.nl (nT (?_))))))
  refine tRet ?_
  obtain rfl := si H
  exact back1 y11 rfl (ResV.tmp (v := .slice y11.1 x5.length y11.2) rfl) rfl Ents.nil (.cons Del.here .nil)
noncomputable def p_spec_l11Less (v0 : Tag) (v1 : Tag) : Option (Bool) := bd (cond (sless v0.1 v1.1) (some (true)) (cond (decide (v0.1 = v1.1)) (some (sless v0.2 v1.2)) (some (false)))) fun b3 => some b3
theorem c_spec_l11Less {r : Bool} (v0 : Tag) (v1 : Tag) (H : p_spec_l11Less v0 v1 = some r) : Fn' Tryz.prog 79 #[.agg #[.string (v0.1), .string (v0.2)], .agg #[.string (v1.1), .string (v1.2)]] [] [] (ι := Unit) (fun _ => .bool (r)) (fun _ => []) (fun _ => []) := by
 refine calls_of (args := [_, _]) Tryz.func79 rfl (by kernel_rfl) Tryz.ntmps79 (by simp) fun c => ?_
 unfold p_spec_l11Less at H
 refine Tr.seq (Tr.region (Rg.ef (e_box (t := 96) rfl) rfl ?_))
 rintro _ _ _ ⟨g1, rfl, rfl, rfl⟩
 refine Rg.ef (e_box (t := 96) rfl) rfl ?_
 rintro _ _ _ ⟨g2, rfl, rfl, rfl⟩
 refine Rg.a (v := .bool (false)) rfl (Rg.nl (nT (?_)))
 obtain ⟨b3, j4, H⟩ := bd.of H
 refine tMid1 [(4, .bool (b3))] ?_ ?_
 ·refine tLinT [(3, .pointer (some ⟨g2, 0, none⟩)), (2, .pointer (some ⟨g1, 0, none⟩))] ⟨rfl, rfl, trivial⟩ (Lin.p (p_fabE fa96_0 rfl rfl) (Lin.o (q_ldb ty9 rfl hs1 rfl) (Lin.p (p_fabE fa96_0 rfl rfl) (Lin.o (q_ldb ty9 rfl Has.here rfl) (Lin.p (p_slss rfl rfl) ?_)))))
  rcases Bool.eq_false_or_eq_true (sless v0.1 v1.1) with h5 | h5
  ·have j4 := cdT h5 j4
   refine Lin.e_ (p_move rfl) h5 ?_
   iterate 12 refine Lin.sk rfl ?_
   refine Lin.p (v := .bool (true)) (p_pickT rfl rfl) (Lin.p (v := .bool (true)) (p_assign rfl) ?_)
   obtain rfl := si j4
   show At _ _ _ _ _ _
   exact n1 ⟨rfl, trivial⟩
  ·have j4 := cdF h5 j4
   refine Lin.e_ (p_move rfl) h5 (Lin.h rfl (p_fabE fa96_0 rfl rfl) (Lin.i rfl (q_ldb ty9 rfl hs1 rfl) (Lin.h rfl (p_fabE fa96_0 rfl rfl) (Lin.i rfl (q_ldb ty9 rfl Has.here rfl) (Lin.h rfl (p_seql rfl rfl) ?_)))))
   rcases Bool.eq_false_or_eq_true (decide (v0.1 = v1.1)) with h6 | h6
   ·have j4 := cdT h6 j4
    refine Lin.f_ rfl (p_move rfl) h6 (Lin.h rfl (p_fabE fa96_1 rfl rfl) (Lin.i rfl (q_ldb ty9 rfl hs1 rfl) (Lin.h rfl (p_fabE fa96_1 rfl rfl) (Lin.i rfl (q_ldb ty9 rfl Has.here rfl) (Lin.h rfl (p_slss rfl rfl) ?_)))))
    refine Lin.h rfl (p_pickT rfl rfl) (Lin.p (p_pickF rfl rfl) (Lin.p (p_assign rfl) ?_))
    obtain rfl := si j4
    show At _ _ _ _ _ _
    exact n1 ⟨rfl, trivial⟩
   ·have j4 := cdF h6 j4
    refine Lin.f_ rfl (p_move rfl) h6 ?_
    iterate 5 refine Lin.sk rfl ?_
    refine Lin.h (v := .bool (false)) rfl (p_pickF rfl rfl) (Lin.p (v := .bool (false)) (p_pickF rfl rfl) (Lin.p (v := .bool (false)) (p_assign rfl) ?_))
    obtain rfl := si j4
    show At _ _ _ _ _ _
    exact n1 ⟨rfl, trivial⟩
 refine tRet ?_
 obtain rfl := si H
 exact bk1 rfl rfl rfl rfl Take.nil
noncomputable def p_spec_l11Same_b0 (v0 : (List Int)) (v1 : (List Int)) (Q6 : Int) : Option ((Int) ⊕ (Unit ⊕ Bool)) := cond (decide (Q6 < (v0.length : Int))) (gd (ix Q6 v0.length) <| gd (ix Q6 v1.length) <| cond (!decide ((nth v0 Q6.toNat) = (nth v1 Q6.toNat))) (some (.inr (.inr false))) (gd (I64 (Q6 + 1)) <| some (.inl (Q6 + 1)))) (some (.inr (.inl ())))
noncomputable def p_spec_l11Same (v0 : (List Int)) (v1 : (List Int)) : Option (Bool) := cond (!decide ((v0.length : Int) = (v1.length : Int))) (some false) (bd (lp (p_spec_l11Same_b0 v0 v1) 0) <| sw (fun _ => some true) (fun q => some q))
theorem c_spec_l11Same {r : Bool} (v0 : (List Int)) (x_v0 : Option Addr × Nat) (v1 : (List Int)) (x_v1 : Option Addr × Nat) (H : p_spec_l11Same v0 v1 = some r) : Fn' Tryz.prog 77 #[.slice x_v0.1 v0.length x_v0.2, .slice x_v1.1 v1.length x_v1.2] [imm (.slice x_v0.1 v0.length x_v0.2) v0, imm (.slice x_v1.1 v1.length x_v1.2) v1] [] (ι := Unit) (fun _ => .bool (r)) (fun _ => []) (fun _ => []) := by
 refine calls_of (args := [_, _]) Tryz.func77 rfl (by kernel_rfl) Tryz.ntmps77 (by simp) fun c => ?_
 unfold p_spec_l11Same at H
 refine Tr.seq (Tr.region (Rg.a (v := .bool (false)) rfl (Rg.nl (nT (?_)))))
 refine Tr.seq (Tr.seq (Tr.region (Rg.m rfl (Rg.p (p_len 3 Tryz.underlying69 rfl) (Rg.m rfl ?_)))))
 refine Rg.p (p_len 3 Tryz.underlying69 rfl) (Rg.p (p_neq rfl rfl) (Rg.nl (nT (?_))))
 refine Tr.cond (b := !decide ((v0.length : Int) = (v1.length : Int))) rfl (fun h1 => ?_) (fun h1 => ?_)
 ·have H := cdT h1 H
  refine Tr.seq (Tr.region (Rg.a (v := .bool (false)) rfl (Rg.nl (nT (?_)))))
  refine tRet (rT (?_))
  obtain rfl := si H
  exact bk1 rfl rfl rfl rfl Take.nil
 ·have H := cdF h1 H
  refine tSkip (nT (?_))
  refine Tr.seq (Tr.seq (Tr.region (Rg.a (v := .int .i64 (0)) rfl (Rg.nl (nT (?_))))))
  obtain ⟨x2, hx3, H⟩ := bd.of H
  obtain ⟨n4, hx3⟩ := lp.of hx3
  refine tMidNC (ι := { q : (Unit) × Unit // x2 = .inl q.1 }) (fun ψ => []) (fun ψ => []) ?_ ?_
  ·refine Tr.block (tLoopC (ι := { q : Nat × (Int) × Unit // itr (p_spec_l11Same_b0 v0 v1) q.1 q.2.1 = some x2 }) (fun ζ => [(0, .slice x_v0.1 v0.length x_v0.2), (1, .slice x_v1.1 v1.length x_v1.2), (5, .int .i64 (ζ.1.2.1))]) (fun ζ => []) (fun ζ => ζ.1.1) ⟨(n4, 0, ()), hx3⟩ ⟨rfl, rfl, rfl, trivial⟩ Take.nil ?_)
   rintro ⟨⟨m5, Q6, z7⟩, hk12⟩
   obtain ⟨m13, t9, e, H1, hi10, hb11⟩ := itr.of (n := m5) (s := Q6) hk12
   subst e; unfold p_spec_l11Same_b0 at H1
   show Tr _ _ _ _ _ [(0, .slice x_v0.1 v0.length x_v0.2), (1, .slice x_v1.1 v1.length x_v1.2), (5, .int .i64 (Q6))] _ []
   refine Tr.seq (Tr.seq (Tr.region (Rg.m rfl (Rg.m rfl (Rg.p (p_len 3 Tryz.underlying69 rfl) ?_)))))
   refine Rg.p (p_lss rfl rfl) (Rg.nl (nT (?_)))
   refine Tr.cond (b := decide (Q6 < (v0.length : Int))) rfl (fun h14 => ?_) (fun h14 => ?_)
   ·have H1 := cdT h14 H1
    refine tSkip (nT (?_))
    refine Tr.seq (Tr.block (Tr.seq (tLinS [(0, .slice x_v0.1 v0.length x_v0.2), (1, .slice x_v1.1 v1.length x_v1.2), (5, .int .i64 (Q6))] Tryz.mixed (.inr (by kernel_rfl)) ⟨rfl, rfl, rfl, trivial⟩ rfl (Lin.m rfl (Lin.m rfl ?_)))))
    obtain ⟨h15, H1⟩ := gd.of H1
    refine Lin.o (q_ixg Tryz.underlying69 ty3 rfl rfl h15 rfl (EntB.flat (Ent.b Ent.z))) (Lin.o (q_lde (i := Q6.toNat) (j := 0) ty3 rfl (EntB.flat (Ent.b Ent.z)) h15.lt rfl) (Lin.m rfl (Lin.m rfl ?_)))
    obtain ⟨h16, H1⟩ := gd.of H1
    refine Lin.o (q_ixg Tryz.underlying69 ty3 rfl rfl h16 rfl (EntB.flat (Ent.b Ent.z.s))) (Lin.o (q_lde (i := Q6.toNat) (j := 0) ty3 rfl (EntB.flat (Ent.b Ent.z.s)) h16.lt rfl) (Lin.p (p_neq rfl rfl) ?_))
    show At _ _ _ _ _ _
    refine nT (?_)
    refine Tr.cond (b := !decide ((nth v0 Q6.toNat) = (nth v1 Q6.toNat))) rfl (fun h17 => ?_) (fun h17 => ?_)
    ·have H1 := cdT h17 H1
     refine Tr.seq (Tr.region (Rg.a (v := .bool (false)) rfl (Rg.nl (nT (?_)))))
     refine tRet (rB (rT (rT (rB (rT (rT (?_)))))))
     have hx := hb11 _ (Option.some.inj H1).symm; subst hx
     replace H := sw.r H
     obtain rfl := si H
     exact bk1 rfl rfl rfl rfl Take.nil
    ·have H1 := cdF h17 H1
     refine tSkip (nB (nT (?_)))
     refine Tr.region (Rg.m rfl ?_)
     obtain ⟨h18, H1⟩ := gd.of H1
     refine Rg.p (p_add rfl rfl h18) (Rg.a rfl (Rg.nl ?_))
     exact nLC ⟨(m13, Q6 + 1, ()), hi10 _ (Option.some.inj H1).symm⟩ (Nat.lt_succ_self _) ⟨rfl, rfl, rfl, trivial⟩ Ents.refl Take.nil
   ·have H1 := cdF h14 H1
    refine tExit (xT (xT (xE (?_))))
    exact nMC ⟨((), ()), (hb11 _ (Option.some.inj H1).symm).symm⟩ trivial Ents.refl Take.nil
  ·rintro ⟨⟨e19, y8⟩, hx⟩; subst hx; replace H := sw.l H
   show At _ _ [] _ [] _
   refine nT (?_)
   refine Tr.seq (Tr.region (Rg.a (v := .bool (true)) rfl (Rg.nl (nT (?_)))))
   refine tRet ?_
   obtain rfl := si H
   exact bk1 rfl rfl rfl rfl Take.nil
noncomputable def p_spec_IndexOk_b1 (v0 : Index) (Q9 : Int × Int) (Q26 : Int) : Option ((Int) ⊕ (Unit ⊕ Bool)) := cond (decide (Q26 < Q9.2)) (bd (p_spec_l3Text (nth v0.1 Q9.2.toNat)) fun r35 => gd (ix Q26 v0.1.length) <| bd (p_spec_l3Text (nth v0.1 Q26.toNat)) fun r38 => cond (decide (r35 = r38)) (some (.inr (.inr false))) (gd (I64 (Q26 + 1)) <| some (.inl (Q26 + 1)))) (some (.inr (.inl ())))
noncomputable def p_spec_IndexOk_b0 (v0 : Index) (Q9 : Int × Int) : Option ((Int × Int) ⊕ (Int ⊕ Bool)) := cond (decide (Q9.2 < (v0.1.length : Int))) (gd (ix Q9.2 v0.1.length) <| bd (p_spec_NameOk (nth v0.1 Q9.2.toNat)) fun r19 => cond (!r19) (some (.inr (.inr false))) (bd (lp (p_spec_IndexOk_b1 v0 Q9) 0) <| sw (fun _ => gd (I64 (Q9.1 + ((nth v0.1 Q9.2.toNat).length : Int))) <| gd (I64 (Q9.2 + 1)) <| some (.inl (Q9.1 + ((nth v0.1 Q9.2.toNat).length : Int), Q9.2 + 1))) (fun q => some (.inr (.inr q))))) (some (.inr (.inl Q9.1)))
noncomputable def p_spec_IndexOk_b2 (v0 : Index) (Q50 : Int × Int) : Option ((Int × Int) ⊕ (Int ⊕ Bool)) := cond (decide (Q50.2 < (v0.2.length : Int))) (gd (ix Q50.2 v0.2.length) <| cond (decide ((((nth v0.2 Q50.2.toNat).2).length : Int) = 0)) (some (.inr (.inr false))) (bd (p_spec_l11Ids v0.1 ((nth v0.2 Q50.2.toNat).1)) fun r62 => bd (p_spec_l11Same ((nth v0.2 Q50.2.toNat).2) r62) fun r65 => cond (!r65) (some (.inr (.inr false))) (cond (decide (0 < Q50.2)) (gd (I64 (Q50.2 - 1)) <| gd (ix (Q50.2 - 1) v0.2.length) <| bd (p_spec_l11Less ((nth v0.2 ((Q50.2 - 1).toNat)).1) ((nth v0.2 Q50.2.toNat).1)) fun r71 => cond (!r71) (some (.inr (.inr false))) (gd (I64 (Q50.1 - (((nth v0.2 Q50.2.toNat).2).length : Int))) <| gd (I64 (Q50.2 + 1)) <| some (.inl (Q50.1 - (((nth v0.2 Q50.2.toNat).2).length : Int), Q50.2 + 1)))) (gd (I64 (Q50.1 - (((nth v0.2 Q50.2.toNat).2).length : Int))) <| gd (I64 (Q50.2 + 1)) <| some (.inl (Q50.1 - (((nth v0.2 Q50.2.toNat).2).length : Int), Q50.2 + 1)))))) (some (.inr (.inl Q50.1)))
noncomputable def p_spec_IndexOk (v0 : Index) : Option (Bool) := cond (decide (6 < (v0.1.length : Int))) (some false) (bd (lp (p_spec_IndexOk_b0 v0) (0, 0)) <| sw (fun e45 => bd (lp (p_spec_IndexOk_b2 v0) (e45, 0)) <| sw (fun e78 => some (decide (e78 = 0))) (fun q => some q)) (fun q => some q))
theorem c_spec_IndexOk {r : Bool} (v0 : Index) (x_v0 : (Option Addr × Nat) × (Option Addr × Nat)) (H : p_spec_IndexOk v0 = some r) : Fn' Tryz.prog 34 #[.agg #[.slice x_v0.1.1 v0.1.length x_v0.1.2, .slice x_v0.2.1 v0.2.length x_v0.2.2]] [imm (.slice x_v0.1.1 v0.1.length x_v0.1.2) v0.1, imm (.slice x_v0.2.1 v0.2.length x_v0.2.2) v0.2] [] (ι := Unit) (fun _ => .bool (r)) (fun _ => []) (fun _ => []) := by
 refine calls_of (args := [_]) Tryz.func34 rfl (by kernel_rfl) Tryz.ntmps34 (by simp) fun c => ?_
 unfold p_spec_IndexOk at H
 refine Tr.openD Ent.z fun X1 => (Tr.openD Ent.z.s.s fun X2 => (Tr.seq (Tr.region (Rg.ef (e_box (t := 35) rfl) rfl ?_))))
 rintro _ _ _ ⟨g3, rfl, rfl, rfl⟩
 refine Rg.a (v := .bool (false)) rfl (Rg.nl (nT (?_)))
 refine Tr.seq (Tr.seq (Tr.region (Rg.p (p_fabE fa35_0 rfl rfl) (Rg.o (q_ldb ty32 rfl Has.here rfl) (Rg.p (p_len 56 Tryz.underlying32 rfl) ?_)))))
 refine Rg.p (p_gtr rfl rfl) (Rg.nl (nT (?_)))
 refine Tr.cond (b := decide (6 < (v0.1.length : Int))) rfl (fun h4 => ?_) (fun h4 => ?_)
 ·have H := cdT h4 H
  refine Tr.seq (Tr.region (Rg.a (v := .bool (false)) rfl (Rg.nl (nT (?_)))))
  refine tRet (rT (?_))
  obtain rfl := si H
  exact bk1 rfl rfl rfl rfl Take.nil
 ·have H := cdF h4 H
  refine tSkip (nT (?_))
  refine Tr.seq (Tr.region (Rg.a (v := .int .i64 (0)) rfl (Rg.nl (nT (?_)))))
  refine Tr.seq (Tr.seq (Tr.region (Rg.a (v := .int .i64 (0)) rfl (Rg.nl (nT (?_))))))
  obtain ⟨x5, hx6, H⟩ := bd.of H
  obtain ⟨n7, hx6⟩ := lp.of hx6
  refine tMidNC (ι := { q : (Int) × Unit // x5 = .inl q.1 }) (fun ψ => [(1, .pointer (some ⟨g3, 0, none⟩)), (3, .int .i64 (ψ.1.1))]) (fun ψ => [box g3 35 [.slice x_v0.1.1 v0.1.length x_v0.1.2, .slice x_v0.2.1 v0.2.length x_v0.2.2]]) ?_ ?_
  ·refine Tr.block (tLoopC (ι := { q : Nat × (Int × Int) × Unit // itr (p_spec_IndexOk_b0 v0) q.1 q.2.1 = some x5 }) (fun ζ => [(1, .pointer (some ⟨g3, 0, none⟩)), (3, .int .i64 (ζ.1.2.1.1)), (4, .int .i64 (ζ.1.2.1.2))]) (fun ζ => [box g3 35 [.slice x_v0.1.1 v0.1.length x_v0.1.2, .slice x_v0.2.1 v0.2.length x_v0.2.2]]) (fun ζ => ζ.1.1) ⟨(n7, (0, 0), ()), hx6⟩ ⟨rfl, rfl, rfl, trivial⟩ (.cons Del.here .nil) ?_)
   rintro ⟨⟨m8, Q9, z10⟩, hk15⟩
   obtain ⟨m16, t12, e, H1, hi13, hb14⟩ := itr.of (n := m8) (s := Q9) hk15
   subst e; unfold p_spec_IndexOk_b0 at H1
   show Tr _ _ _ _ _ [(1, .pointer (some ⟨g3, 0, none⟩)), (3, .int .i64 (Q9.1)), (4, .int .i64 (Q9.2))] _ [box g3 35 [.slice x_v0.1.1 v0.1.length x_v0.1.2, .slice x_v0.2.1 v0.2.length x_v0.2.2]]
   refine Tr.seq (Tr.seq (Tr.region (Rg.m rfl (Rg.p (p_fabE fa35_0 rfl rfl) (Rg.o (q_ldb ty32 rfl Has.here rfl) ?_)))))
   refine Rg.p (p_len 56 Tryz.underlying32 rfl) (Rg.p (p_lss rfl rfl) (Rg.nl (nT (?_))))
   refine Tr.cond (b := decide (Q9.2 < (v0.1.length : Int))) rfl (fun h17 => ?_) (fun h17 => ?_)
   ·have H1 := cdT h17 H1
    refine tSkip (nT (?_))
    refine Tr.seq (Tr.block (Tr.seq (Tr.seq (Tr.region (Rg.p (p_fabE fa35_0 rfl rfl) ?_)))))
    refine Rg.o (q_ldb ty32 rfl Has.here rfl) (Rg.m rfl ?_)
    obtain ⟨h18, H1⟩ := gd.of H1
    refine Rg.o (q_ixg Tryz.underlying32 ty56 rfl rfl h18 rfl (Ent.b (Ent.darr Ent.z.s))) (Rg.o (q_lde (i := Q9.2.toNat) (j := 0) ty56 rfl (Ent.b (Ent.darr Ent.z.s)) h18.lt rfl) ?_)
    obtain ⟨r19, h20, H1⟩ := bd.of H1
    refine Rg.o (q_call (c_spec_NameOk (nth v0.1 Q9.2.toNat) ((X1 Q9.2.toNat).1, (X1 Q9.2.toNat).2.1) h20) rfl (EntsB.cons (Ent.b (Ent.dimm (Ent.del Ent.z.s h18.lt))) EntsB.nil)) (Rg.p (p_not rfl) (Rg.nl (nT (?_))))
    refine Tr.cond (b := !r19) rfl (fun h21 => ?_) (fun h21 => ?_)
    ·have H1 := cdT h21 H1
     refine Tr.seq (Tr.region (Rg.a (v := .bool (false)) rfl (Rg.nl (nT (?_)))))
     refine tRet (rT (rB (rT (rT (rB (rT (rT (?_))))))))
     have hx := hb14 _ (Option.some.inj H1).symm; subst hx
     replace H := sw.r H
     obtain rfl := si H
     exact bk1 rfl rfl rfl rfl Take.nil
    ·have H1 := cdF h21 H1
     refine tSkip (nT (?_))
     refine Tr.seq (Tr.seq (Tr.region (Rg.a (v := .int .i64 (0)) rfl (Rg.nl (nT (?_))))))
     obtain ⟨x22, hx23, H1⟩ := bd.of H1
     obtain ⟨n24, hx23⟩ := lp.of hx23
     refine tMidNC (ι := { q : (Unit) × Unit // x22 = .inl q.1 }) (fun ψ => [(1, .pointer (some ⟨g3, 0, none⟩)), (3, .int .i64 (Q9.1)), (4, .int .i64 (Q9.2))]) (fun ψ => [box g3 35 [.slice x_v0.1.1 v0.1.length x_v0.1.2, .slice x_v0.2.1 v0.2.length x_v0.2.2]]) ?_ ?_
     ·refine Tr.block (tLoopC (ι := { q : Nat × (Int) × Unit // itr (p_spec_IndexOk_b1 v0 Q9) q.1 q.2.1 = some x22 }) (fun ζ => [(1, .pointer (some ⟨g3, 0, none⟩)), (3, .int .i64 (Q9.1)), (4, .int .i64 (Q9.2)), (5, .int .i64 (ζ.1.2.1))]) (fun ζ => [box g3 35 [.slice x_v0.1.1 v0.1.length x_v0.1.2, .slice x_v0.2.1 v0.2.length x_v0.2.2]]) (fun ζ => ζ.1.1) ⟨(n24, 0, ()), hx23⟩ ⟨rfl, rfl, rfl, rfl, trivial⟩ (.cons Del.here .nil) ?_)
      rintro ⟨⟨m25, Q26, z27⟩, hk32⟩
      obtain ⟨m33, t29, e, H2, hi30, hb31⟩ := itr.of (n := m25) (s := Q26) hk32
      subst e; unfold p_spec_IndexOk_b1 at H2
      show Tr _ _ _ _ _ [(1, .pointer (some ⟨g3, 0, none⟩)), (3, .int .i64 (Q9.1)), (4, .int .i64 (Q9.2)), (5, .int .i64 (Q26))] _ [box g3 35 [.slice x_v0.1.1 v0.1.length x_v0.1.2, .slice x_v0.2.1 v0.2.length x_v0.2.2]]
      refine Tr.seq (Tr.seq (Tr.region (Rg.m rfl (Rg.m rfl (Rg.p (p_lss rfl rfl) ?_)))))
      refine Rg.nl (nT (?_))
      refine Tr.cond (b := decide (Q26 < Q9.2)) rfl (fun h34 => ?_) (fun h34 => ?_)
      ·have H2 := cdT h34 H2
       refine tSkip (nT (?_))
       refine Tr.seq (Tr.block (Tr.seq (tLinS [(1, .pointer (some ⟨g3, 0, none⟩)), (3, .int .i64 (Q9.1)), (4, .int .i64 (Q9.2)), (5, .int .i64 (Q26))] Tryz.mixed (.inr (by kernel_rfl)) ⟨rfl, rfl, rfl, rfl, trivial⟩ rfl (Lin.p (p_fabE fa35_0 rfl rfl) (Lin.o (q_ldb ty32 rfl Has.here rfl) ?_)))))
       refine Lin.m rfl (Lin.o (q_ixg Tryz.underlying32 ty56 rfl rfl h18 rfl (Ent.b (Ent.darr Ent.z.s))) (Lin.o (q_lde (i := Q9.2.toNat) (j := 0) ty56 rfl (Ent.b (Ent.darr Ent.z.s)) h18.lt rfl) ?_))
       obtain ⟨r35, h36, H2⟩ := bd.of H2
       refine Lin.o (q_call (c_spec_l3Text (nth v0.1 Q9.2.toNat) ((X1 Q9.2.toNat).1, (X1 Q9.2.toNat).2.1) h36) rfl (EntsB.cons (Ent.b (Ent.dimm (Ent.del Ent.z.s h18.lt))) EntsB.nil)) (Lin.p (p_fabE fa35_0 rfl rfl) (Lin.o (q_ldb ty32 rfl Has.here rfl) (Lin.m rfl ?_)))
       obtain ⟨h37, H2⟩ := gd.of H2
       refine Lin.o (q_ixg Tryz.underlying32 ty56 rfl rfl h37 rfl (Ent.b (Ent.darr Ent.z.s))) (Lin.o (q_lde (i := Q26.toNat) (j := 0) ty56 rfl (Ent.b (Ent.darr Ent.z.s)) h37.lt rfl) ?_)
       obtain ⟨r38, h39, H2⟩ := bd.of H2
       refine Lin.o (q_call (c_spec_l3Text (nth v0.1 Q26.toNat) ((X1 Q26.toNat).1, (X1 Q26.toNat).2.1) h39) rfl (EntsB.cons (Ent.b (Ent.dimm (Ent.del Ent.z.s h37.lt))) EntsB.nil)) (Lin.p (p_seql rfl rfl) ?_)
       show At _ _ _ _ _ _
       refine nT (?_)
       refine Tr.cond (b := decide (r35 = r38)) rfl (fun h40 => ?_) (fun h40 => ?_)
       ·have H2 := cdT h40 H2
        refine Tr.seq (Tr.region (Rg.a (v := .bool (false)) rfl (Rg.nl (nT (?_)))))
        refine tRet (rB (rT (rT (rB (rT (rT (rB (rT (rT (rB (rT (rT (?_)))))))))))))
        have hx := hb31 _ (Option.some.inj H2).symm; subst hx
        replace H1 := sw.r H1
        have hx := hb14 _ (Option.some.inj H1).symm; subst hx
        replace H := sw.r H
        obtain rfl := si H
        exact bk1 rfl rfl rfl rfl Take.nil
       ·have H2 := cdF h40 H2
        refine tSkip (nB (nT (?_)))
        refine Tr.region (Rg.m rfl ?_)
        obtain ⟨h41, H2⟩ := gd.of H2
        refine Rg.p (p_add rfl rfl h41) (Rg.a rfl (Rg.nl ?_))
        exact nLC ⟨(m33, Q26 + 1, ()), hi30 _ (Option.some.inj H2).symm⟩ (Nat.lt_succ_self _) ⟨rfl, rfl, rfl, rfl, trivial⟩ Ents.refl (.cons Del.here .nil)
      ·have H2 := cdF h34 H2
       refine tExit (xT (xT (xE (?_))))
       exact nMC ⟨((), ()), (hb31 _ (Option.some.inj H2).symm).symm⟩ ⟨rfl, rfl, rfl, trivial⟩ Ents.refl (.cons Del.here .nil)
     ·rintro ⟨⟨e42, y28⟩, hx⟩; subst hx; replace H1 := sw.l H1
      show At _ _ [(1, .pointer (some ⟨g3, 0, none⟩)), (3, .int .i64 (Q9.1)), (4, .int .i64 (Q9.2))] _ [box g3 35 [.slice x_v0.1.1 v0.1.length x_v0.1.2, .slice x_v0.2.1 v0.2.length x_v0.2.2]] _
      refine nT (?_)
      refine Tr.region (Rg.m rfl (Rg.p (p_fabE fa35_0 rfl rfl) (Rg.o (q_ldb ty32 rfl Has.here rfl) (Rg.m rfl (Rg.o (q_ixg Tryz.underlying32 ty56 rfl rfl h18 rfl (Ent.b (Ent.darr Ent.z.s))) ?_)))))
      refine Rg.o (q_lde (i := Q9.2.toNat) (j := 0) ty56 rfl (Ent.b (Ent.darr Ent.z.s)) h18.lt rfl) (Rg.p (p_len 96 Tryz.underlying56 rfl) ?_)
      obtain ⟨h43, H1⟩ := gd.of H1
      refine Rg.p (p_add rfl rfl h43) (Rg.a rfl (Rg.nl (nB (nT (?_)))))
      refine Tr.region (Rg.m rfl ?_)
      obtain ⟨h44, H1⟩ := gd.of H1
      refine Rg.p (p_add rfl rfl h44) (Rg.a rfl (Rg.nl ?_))
      exact nLC ⟨(m16, (Q9.1 + ((nth v0.1 Q9.2.toNat).length : Int), Q9.2 + 1), ()), hi13 _ (Option.some.inj H1).symm⟩ (Nat.lt_succ_self _) ⟨rfl, rfl, rfl, trivial⟩ Ents.refl (.cons Del.here .nil)
   ·have H1 := cdF h17 H1
    refine tExit (xT (xT (xE (?_))))
    exact nMC ⟨(Q9.1, ()), (hb14 _ (Option.some.inj H1).symm).symm⟩ ⟨rfl, rfl, trivial⟩ Ents.refl (.cons Del.here .nil)
  ·rintro ⟨⟨e45, y11⟩, hx⟩; subst hx; replace H := sw.l H
   show At _ _ [(1, .pointer (some ⟨g3, 0, none⟩)), (3, .int .i64 (e45))] _ [box g3 35 [.slice x_v0.1.1 v0.1.length x_v0.1.2, .slice x_v0.2.1 v0.2.length x_v0.2.2]] _
   refine nT (?_)
   refine Tr.seq (Tr.seq (Tr.region (Rg.a (v := .int .i64 (0)) rfl (Rg.nl (nT (?_))))))
   obtain ⟨x46, hx47, H⟩ := bd.of H
   obtain ⟨n48, hx47⟩ := lp.of hx47
   refine tMidNC (ι := { q : (Int) × Unit // x46 = .inl q.1 }) (fun ψ => [(3, .int .i64 (ψ.1.1))]) (fun ψ => []) ?_ ?_
   ·refine Tr.block (tLoopC (ι := { q : Nat × (Int × Int) × Unit // itr (p_spec_IndexOk_b2 v0) q.1 q.2.1 = some x46 }) (fun ζ => [(1, .pointer (some ⟨g3, 0, none⟩)), (3, .int .i64 (ζ.1.2.1.1)), (6, .int .i64 (ζ.1.2.1.2))]) (fun ζ => [box g3 35 [.slice x_v0.1.1 v0.1.length x_v0.1.2, .slice x_v0.2.1 v0.2.length x_v0.2.2]]) (fun ζ => ζ.1.1) ⟨(n48, (e45, 0), ()), hx47⟩ ⟨rfl, rfl, rfl, trivial⟩ (.cons Del.here .nil) ?_)
    rintro ⟨⟨m49, Q50, z51⟩, hk56⟩
    obtain ⟨m57, t53, e, H1, hi54, hb55⟩ := itr.of (n := m49) (s := Q50) hk56
    subst e; unfold p_spec_IndexOk_b2 at H1
    show Tr _ _ _ _ _ [(1, .pointer (some ⟨g3, 0, none⟩)), (3, .int .i64 (Q50.1)), (6, .int .i64 (Q50.2))] _ [box g3 35 [.slice x_v0.1.1 v0.1.length x_v0.1.2, .slice x_v0.2.1 v0.2.length x_v0.2.2]]
    refine Tr.seq (Tr.seq (Tr.region (Rg.m rfl (Rg.p (p_fabE fa35_1 rfl rfl) (Rg.o (q_ldb ty33 rfl Has.here rfl) ?_)))))
    refine Rg.p (p_len 113 Tryz.underlying33 rfl) (Rg.p (p_lss rfl rfl) (Rg.nl (nT (?_))))
    refine Tr.cond (b := decide (Q50.2 < (v0.2.length : Int))) rfl (fun h58 => ?_) (fun h58 => ?_)
    ·have H1 := cdT h58 H1
     refine tSkip (nT (?_))
     refine Tr.seq (Tr.block (Tr.seq (Tr.region (Rg.p (p_fabE fa35_1 rfl rfl) (Rg.o (q_ldb ty33 rfl Has.here rfl) ?_)))))
     refine Rg.m rfl ?_
     obtain ⟨h59, H1⟩ := gd.of H1
     refine Rg.o (q_ixg Tryz.underlying33 ty113 rfl rfl h59 rfl (Ent.b (Ent.darr Ent.z))) (Rg.o (v := .agg #[.string (((nth v0.2 Q50.2.toNat).1).1), .string (((nth v0.2 Q50.2.toNat).1).2), .slice (((X2 Q50.2.toNat).2).1) (((nth v0.2 Q50.2.toNat).2).length) (((X2 Q50.2.toNat).2).2.1)]) (q_ldeA (i := Q50.2.toNat) ty113 rfl (Ent.b (Ent.darr Ent.z)) h59.lt) (Rg.ef (e_alloc ty113) rfl ?_))
     rintro _ _ _ ⟨g60, rfl, rfl, rfl⟩
     refine Rg.en (e_store (cs' := [.string (((nth v0.2 Q50.2.toNat).1).1), .string (((nth v0.2 Q50.2.toNat).1).2), .slice (((X2 Q50.2.toNat).2).1) (((nth v0.2 Q50.2.toNat).2).length) (((X2 Q50.2.toNat).2).2.1)]) ty113 rfl rfl Upd.here rfl (one_of rfl) (Nat.le_of_ble_eq_true rfl) rfl) rfl ?_
     rintro _ _ _ ⟨rfl, rfl, rfl⟩
     refine Rg.nl (nT (?_))
     refine Tr.seq (Tr.seq ?_)
     rcases Bool.eq_false_or_eq_true (decide ((((nth v0.2 Q50.2.toNat).2).length : Int) = 0)) with h61 | h61
     ·have H1 := cdT h61 H1
      refine tNwS [(7, .pointer (some ⟨g60, 0, none⟩)), (1, .pointer (some ⟨g3, 0, none⟩)), (3, .int .i64 (Q50.1)), (6, .int .i64 (Q50.2))] 1 [0, 1, 2, 3, 4, 5, 6, 7, 8, 9, 10, 11, 12, 13, 14, 15, 16, 17, 18, 19, 20, 21, 22, 23, 24, 25, 26, 27, 28, 29, 30, 31] [] [] Tryz.mixed (by kernel_rfl) (by decide) List.nodup_nil ⟨rfl, rfl, rfl, rfl, trivial⟩ rfl okNil (w_p rfl (p_fabE fa113_1 rfl rfl) (w_o rfl (fun F => (q_ldb ty69 rfl (Has.here.app F) rfl)) (w_p rfl (p_len 3 Tryz.underlying69 rfl) (w_p rfl (p_eql rfl rfl) (w_p (v := .bool (true)) rfl ((Pu.eqv (v := .bool (decide ((((nth v0.2 Q50.2.toNat).2).length : Int) = 0))) (p_move rfl) (congrArg Value.bool h61))) ?_)))))
      refine w_skip rfl (by decide) rfl rfl rfl (w_skip rfl (by decide) rfl rfl rfl (w_skip rfl (by decide) rfl rfl rfl (w_skip rfl (by decide) rfl rfl rfl (w_skip rfl (by decide) rfl rfl rfl (w_skip rfl (by decide) rfl rfl rfl ?_)))))
      refine w_skip rfl (by decide) rfl rfl rfl (w_skip rfl (by decide) rfl rfl rfl (w_skip rfl (by decide) rfl rfl rfl (w_p (v := .bool (true)) rfl (p_pickT rfl rfl) (w_p (v := .bool (true)) rfl (p_move rfl) (w_skip rfl (by decide) rfl rfl rfl ?_)))))
      refine w_skip rfl (by decide) rfl rfl rfl (w_skip rfl (by decide) rfl rfl rfl (w_skip rfl (by decide) rfl rfl rfl (w_skip rfl (by decide) rfl rfl rfl (w_skip rfl (by decide) rfl rfl rfl (w_skip rfl (by decide) rfl rfl rfl ?_)))))
      refine w_skip rfl (by decide) rfl rfl rfl (w_skip rfl (by decide) rfl rfl rfl (w_skip rfl (by decide) rfl rfl rfl (w_skip rfl (by decide) rfl rfl rfl (w_skip rfl (by decide) rfl rfl rfl (w_skip rfl (by decide) rfl rfl rfl ?_)))))
      refine w_skip rfl (by decide) rfl rfl rfl (w_skip rfl (by decide) rfl rfl rfl (w_p (v := .bool (true)) rfl (p_pickT rfl rfl) (w_nil ?_)))
      show At _ _ _ _ _ _
      refine nT (?_)
      refine Tr.condT rfl (Tr.seq (Tr.region (Rg.a (v := .bool (false)) rfl (Rg.nl (nT (?_))))))
      refine tRet (rT (rB (rT (rT (rB (rT (rT (?_))))))))
      have hx := hb55 _ (Option.some.inj H1).symm; subst hx
      replace H := sw.r H
      obtain rfl := si H
      exact bk1 rfl rfl rfl rfl Take.nil
     ·have H1 := cdF h61 H1
      refine tNwS [(7, .pointer (some ⟨g60, 0, none⟩)), (1, .pointer (some ⟨g3, 0, none⟩)), (3, .int .i64 (Q50.1)), (6, .int .i64 (Q50.2))] 4 [0, 1, 2, 3, 4, 5, 6, 7, 8, 9, 10, 11, 12, 13, 14, 15, 16, 17, 18, 19, 20, 21, 22, 23, 24, 25, 26, 27, 28, 29, 30, 31] [11] [] Tryz.mixed (by kernel_rfl) (by decide) List.nodup_nil ⟨rfl, rfl, rfl, rfl, trivial⟩ rfl okNil (w_p rfl (p_fabE fa113_1 rfl rfl) (w_o rfl (fun F => (q_ldb ty69 rfl (Has.here.app F) rfl)) (w_p rfl (p_len 3 Tryz.underlying69 rfl) (w_p rfl (p_eql rfl rfl) (w_p (v := .bool (false)) rfl ((Pu.eqv (v := .bool (decide ((((nth v0.2 Q50.2.toNat).2).length : Int) = 0))) (p_move rfl) (congrArg Value.bool h61))) ?_)))))
      refine w_p rfl (p_fabE fa113_1 rfl rfl) ?_
      refine w_o rfl (fun F => (q_ldb ty69 rfl (Has.here.app F) rfl)) (w_p rfl (p_fabE fa35_0 rfl rfl) (w_o rfl (fun F => (q_ldb ty32 rfl (hs1.app F) rfl)) (w_p rfl (p_fabE fa113_0 rfl rfl) (w_o (v := .agg #[.string (((nth v0.2 Q50.2.toNat).1).1), .string (((nth v0.2 Q50.2.toNat).1).2)]) rfl (fun F => (q_ldbP [.string (((nth v0.2 Q50.2.toNat).1).1), .string (((nth v0.2 Q50.2.toNat).1).2)] ty96 rfl (Has.here.app F) rfl rfl)) ?_))))
      obtain ⟨r62, h63, H1⟩ := bd.of H1
      refine w_ed rfl (by decide) rfl Rdy.nil rfl (n_callB (c_spec_l11Ids v0.1 x_v0.1 ((nth v0.2 Q50.2.toNat).1) h63) (fun _ => (Solo.tree Solo.nil)) rfl (EntsB.cons (Ent.b (Ent.dimm Ent.z.s)) EntsB.nil)) ?_
      rintro _ _ _ ⟨x64, rfl, rfl, rfl⟩
      refine ⟨(PdOk.anc (by kernel_rfl) (PdOk.anc (by kernel_rfl) (PdOk.q rfl rfl (fun F => (q_ldb ty69 rfl (hs1.app F) rfl)) (PdOk.anc (by kernel_rfl) PdOk.nil)))), ?_⟩
      obtain ⟨r65, h66, H1⟩ := bd.of H1
      refine w_o rfl (fun F => (q_call (c_spec_l11Same ((nth v0.2 Q50.2.toNat).2) (((X2 Q50.2.toNat).2).1, ((X2 Q50.2.toNat).2).2.1) r62 x64 h66) rfl (EntsB.cons (Ent.b (Ent.dimm (Ent.dsnd (Ent.del Ent.z h59.lt)))) (EntsB.cons (EntB.tree (Has.here.app F)) EntsB.nil)))) (w_p rfl (p_not rfl) (w_p rfl (p_pickF rfl rfl) ?_))
      rcases Bool.eq_false_or_eq_true (!r65) with h67 | h67
      ·have H1 := cdT h67 H1
       refine w_p (v := .bool (true)) rfl ((Pu.eqv (v := .bool (!r65)) (p_move rfl) (congrArg Value.bool h67))) (w_skip rfl (by decide) rfl rfl rfl (w_skip rfl (by decide) rfl rfl rfl (w_skip rfl (by decide) rfl rfl rfl (w_skip rfl (by decide) rfl rfl rfl (w_skip rfl (by decide) rfl rfl rfl ?_)))))
       refine w_skip rfl (by decide) rfl rfl rfl (w_skip rfl (by decide) rfl rfl rfl (w_skip rfl (by decide) rfl rfl rfl (w_skip rfl (by decide) rfl rfl rfl (w_skip rfl (by decide) rfl rfl rfl (w_skip rfl (by decide) rfl rfl rfl ?_)))))
       refine w_skip rfl (by decide) rfl rfl rfl (w_skip rfl (by decide) rfl rfl rfl (w_skip rfl (by decide) rfl rfl rfl (w_skip rfl (by decide) rfl rfl rfl (w_p (v := .bool (true)) rfl (p_pickT rfl rfl) (w_nil ?_)))))
       show At _ _ _ _ _ _
       refine nT (?_)
       refine Tr.condT rfl (Tr.seq (Tr.region (Rg.a (v := .bool (false)) rfl (Rg.nl (nT (?_))))))
       refine tRet (rT (rB (rT (rT (rB (rT (rT (?_))))))))
       have hx := hb55 _ (Option.some.inj H1).symm; subst hx
       replace H := sw.r H
       obtain rfl := si H
       exact bk1 rfl rfl rfl rfl Take.nil
      ·have H1 := cdF h67 H1
       refine w_p (v := .bool (false)) rfl ((Pu.eqv (v := .bool (!r65)) (p_move rfl) (congrArg Value.bool h67))) (w_p rfl (p_move rfl) (w_p rfl (p_gtr rfl rfl) ?_))
       rcases Bool.eq_false_or_eq_true (decide (0 < Q50.2)) with h68 | h68
       ·have H1 := cdT h68 H1
        refine w_p (v := .bool (true)) rfl ((Pu.eqv (v := .bool (decide (0 < Q50.2))) (p_move rfl) (congrArg Value.bool h68))) (w_p rfl (p_fabE fa35_1 rfl rfl) (w_o rfl (fun F => (q_ldb ty33 rfl (hs2.app F) rfl)) (w_p rfl (p_move rfl) ?_)))
        obtain ⟨h69, H1⟩ := gd.of H1
        refine w_p rfl (p_sub rfl rfl h69) ?_
        obtain ⟨h70, H1⟩ := gd.of H1
        refine w_o rfl (fun F => (q_ixg Tryz.underlying33 ty113 rfl rfl h70 rfl (Ent.b (Ent.darr Ent.z)))) ?_
        refine w_o rfl (fun F => (q_faeE (j := 0) ((Q50.2 - 1).toNat) fa113_0 rfl (Ent.b (Ent.darr Ent.z)) h70.lt rfl)) ?_
        refine w_o (v := .agg #[.string (((nth v0.2 ((Q50.2 - 1).toNat)).1).1), .string (((nth v0.2 ((Q50.2 - 1).toNat)).1).2)]) rfl (fun F => (q_ldeP [.string (((nth v0.2 ((Q50.2 - 1).toNat)).1).1), .string (((nth v0.2 ((Q50.2 - 1).toNat)).1).2)] (l := v0.2) (E := fun i => Dp.denc (nth v0.2 i) (X2 i)) (oa := x_v0.2.1) (i := (Q50.2 - 1).toNat) (j := 0) ty96 rfl (Ent.b (Ent.darr Ent.z)) h70.lt rfl rfl)) (w_p rfl (p_fabE fa113_0 rfl rfl) (w_o (v := .agg #[.string (((nth v0.2 Q50.2.toNat).1).1), .string (((nth v0.2 Q50.2.toNat).1).2)]) rfl (fun F => (q_ldbP [.string (((nth v0.2 Q50.2.toNat).1).1), .string (((nth v0.2 Q50.2.toNat).1).2)] ty96 rfl (hs1.app F) rfl rfl)) ?_))
        obtain ⟨r71, h72, H1⟩ := bd.of H1
        refine w_o rfl (fun F => (q_call (c_spec_l11Less ((nth v0.2 ((Q50.2 - 1).toNat)).1) ((nth v0.2 Q50.2.toNat).1) h72) rfl EntsB.nil)) (w_p rfl (p_not rfl) (w_p rfl (p_pickT rfl rfl) (w_p rfl (p_pickF rfl rfl) (w_nil ?_))))
        show At _ _ _ _ _ _
        refine nT (?_)
        refine Tr.cond (b := !r71) rfl (fun h73 => ?_) (fun h73 => ?_)
        ·have H1 := cdT h73 H1
         refine Tr.seq (Tr.region (Rg.a (v := .bool (false)) rfl (Rg.nl (nT (?_)))))
         refine tRet (rT (rB (rT (rT (rB (rT (rT (?_))))))))
         have hx := hb55 _ (Option.some.inj H1).symm; subst hx
         replace H := sw.r H
         obtain rfl := si H
         exact bk1 rfl rfl rfl rfl Take.nil
        ·have H1 := cdF h73 H1
         refine tSkip (nT (?_))
         refine Tr.region (Rg.m rfl (Rg.p (p_fabE fa113_1 rfl rfl) (Rg.o (q_ldb ty69 rfl hs1 rfl) (Rg.p (p_len 3 Tryz.underlying69 rfl) ?_))))
         obtain ⟨h74, H1⟩ := gd.of H1
         refine Rg.p (p_sub rfl rfl h74) (Rg.a rfl (Rg.nl (nB (nT (?_)))))
         refine Tr.region (Rg.m rfl ?_)
         obtain ⟨h75, H1⟩ := gd.of H1
         refine Rg.p (p_add rfl rfl h75) (Rg.a rfl (Rg.nl ?_))
         exact nLC ⟨(m57, (Q50.1 - (((nth v0.2 Q50.2.toNat).2).length : Int), Q50.2 + 1), ()), hi54 _ (Option.some.inj H1).symm⟩ (Nat.lt_succ_self _) ⟨rfl, rfl, rfl, trivial⟩ Ents.refl (.cons dl2 .nil)
       ·have H1 := cdF h68 H1
        refine w_p (v := .bool (false)) rfl ((Pu.eqv (v := .bool (decide (0 < Q50.2))) (p_move rfl) (congrArg Value.bool h68))) (w_skip rfl (by decide) rfl rfl rfl (w_skip rfl (by decide) rfl rfl rfl (w_skip rfl (by decide) rfl rfl rfl (w_skip rfl (by decide) rfl rfl rfl (w_skip rfl (by decide) rfl rfl rfl ?_)))))
        refine w_skip rfl (by decide) rfl rfl rfl (w_skip rfl (by decide) rfl rfl rfl (w_skip rfl (by decide) rfl rfl rfl (w_skip rfl (by decide) rfl rfl rfl (w_skip rfl (by decide) rfl rfl rfl (w_skip rfl (by decide) rfl rfl rfl ?_)))))
        refine w_p (v := .bool (false)) rfl (p_pickF rfl rfl) (w_p (v := .bool (false)) rfl (p_pickF rfl rfl) (w_nil ?_))
        show At _ _ _ _ _ _
        refine nT (?_)
        refine Tr.condF rfl (tSkip (nT (?_)))
        refine Tr.region (Rg.m rfl (Rg.p (p_fabE fa113_1 rfl rfl) (Rg.o (q_ldb ty69 rfl hs1 rfl) (Rg.p (p_len 3 Tryz.underlying69 rfl) ?_))))
        obtain ⟨h76, H1⟩ := gd.of H1
        refine Rg.p (p_sub rfl rfl h76) (Rg.a rfl (Rg.nl (nB (nT (?_)))))
        refine Tr.region (Rg.m rfl ?_)
        obtain ⟨h77, H1⟩ := gd.of H1
        refine Rg.p (p_add rfl rfl h77) (Rg.a rfl (Rg.nl ?_))
        exact nLC ⟨(m57, (Q50.1 - (((nth v0.2 Q50.2.toNat).2).length : Int), Q50.2 + 1), ()), hi54 _ (Option.some.inj H1).symm⟩ (Nat.lt_succ_self _) ⟨rfl, rfl, rfl, trivial⟩ Ents.refl (.cons dl2 .nil)
    ·have H1 := cdF h58 H1
     refine tExit (xT (xT (xE (?_))))
     exact nMC ⟨(Q50.1, ()), (hb55 _ (Option.some.inj H1).symm).symm⟩ ⟨rfl, trivial⟩ Ents.refl Take.nil
   ·rintro ⟨⟨e78, y52⟩, hx⟩; subst hx; replace H := sw.l H
    show At _ _ [(3, .int .i64 (e78))] _ [] _
    refine nT (?_)
    refine Tr.seq (Tr.region (Rg.m rfl (Rg.p (p_eql rfl rfl) (Rg.a rfl (Rg.nl ?_)))))
    refine nT (?_)
    refine tRet ?_
    obtain rfl := si H
    exact bk1 rfl rfl rfl rfl Take.nil
noncomputable def p_spec_l2Row (v0 : Row) : Option (Bool) := bd (bd (p_spec_l6In v0.1 0 99) fun r4 => cond (r4) (bd (p_spec_l6In v0.2 (-99) 99) fun r7 => some (r7)) (some (false))) fun b2 => some b2
theorem c_spec_l2Row {r : Bool} (v0 : Row) (H : p_spec_l2Row v0 = some r) : Fn' Tryz.prog 37 #[.agg #[.int .i64 (v0.1), .int .i64 (v0.2)]] [] [] (ι := Unit) (fun _ => .bool (r)) (fun _ => []) (fun _ => []) := by
 refine calls_of (args := [_]) Tryz.func37 rfl (by kernel_rfl) Tryz.ntmps37 (by simp) fun c => ?_
 unfold p_spec_l2Row at H
 refine Tr.seq (Tr.region (Rg.ef (e_box (t := 58) rfl) rfl ?_))
 rintro _ _ _ ⟨g1, rfl, rfl, rfl⟩
 refine Rg.a (v := .bool (false)) rfl (Rg.nl (nT (?_)))
 obtain ⟨b2, j3, H⟩ := bd.of H
 refine tMid1 [(2, .bool (b2))] ?_ ?_
 ·refine tLinT [(1, .pointer (some ⟨g1, 0, none⟩))] ⟨rfl, trivial⟩ (Lin.p (p_fabE fa58_0 rfl rfl) (Lin.o (q_ldb ty3 rfl Has.here rfl) ?_))
  obtain ⟨r4, h5, j3⟩ := bd.of j3
  refine Lin.o (q_call (c_spec_l6In v0.1 0 99 h5) rfl EntsB.nil) ?_
  rcases Bool.eq_false_or_eq_true (r4) with h6 | h6
  ·have j3 := cdT h6 j3
   refine Lin.e_ (p_move rfl) h6 (Lin.h rfl (p_fabE fa58_1 rfl rfl) (Lin.i rfl (q_ldb ty3 rfl Has.here rfl) ?_))
   obtain ⟨r7, h8, j3⟩ := bd.of j3
   refine Lin.i rfl (q_call (c_spec_l6In v0.2 (-99) 99 h8) rfl EntsB.nil) (Lin.p (p_pickT rfl rfl) (Lin.p (p_assign rfl) ?_))
   obtain rfl := si j3
   show At _ _ _ _ _ _
   exact n1 ⟨rfl, trivial⟩
  ·have j3 := cdF h6 j3
   refine Lin.e_ (p_move rfl) h6 ?_
   iterate 3 refine Lin.sk rfl ?_
   refine Lin.p (v := .bool (false)) (p_pickF rfl rfl) (Lin.p (v := .bool (false)) (p_assign rfl) ?_)
   obtain rfl := si j3
   show At _ _ _ _ _ _
   exact n1 ⟨rfl, trivial⟩
 refine tRet ?_
 obtain rfl := si H
 exact bk1 rfl rfl rfl rfl Take.nil
noncomputable def p_spec_BlockOk_b0 (v0 : (List Row)) (Q5 : Int) : Option ((Int) ⊕ (Unit ⊕ Bool)) := cond (decide (Q5 < (v0.length : Int))) (bd (gd (ix Q5 v0.length) <| bd (p_spec_l2Row (nth v0 Q5.toNat)) fun r17 => cond (!r17) (some (true)) (cond (decide (0 < Q5)) (gd (I64 (Q5 - 1)) <| gd (ix (Q5 - 1) v0.length) <| some (decide (((nth v0 Q5.toNat).1) ≤ ((nth v0 ((Q5 - 1).toNat)).1)))) (some (false)))) fun b14 => cond (b14) (some (.inr (.inr false))) (gd (I64 (Q5 + 1)) <| some (.inl (Q5 + 1)))) (some (.inr (.inl ())))
noncomputable def p_spec_BlockOk (v0 : (List Row)) : Option (Bool) := bd (lp (p_spec_BlockOk_b0 v0) 0) <| sw (fun _ => some (decide ((v0.length : Int) ≤ 24))) (fun q => some q)
theorem c_spec_BlockOk {r : Bool} (v0 : (List Row)) (x_v0 : Option Addr × Nat) (H : p_spec_BlockOk v0 = some r) : Fn' Tryz.prog 122 #[.slice x_v0.1 v0.length x_v0.2] [imm (.slice x_v0.1 v0.length x_v0.2) v0] [] (ι := Unit) (fun _ => .bool (r)) (fun _ => []) (fun _ => []) := by
 refine calls_of (args := [_]) Tryz.func122 rfl (by kernel_rfl) Tryz.ntmps122 (by simp) fun c => ?_
 unfold p_spec_BlockOk at H
 refine Tr.seq (Tr.region (Rg.a (v := .bool (false)) rfl (Rg.nl (nT (?_)))))
 refine Tr.seq (Tr.seq (Tr.region (Rg.a (v := .int .i64 (0)) rfl (Rg.nl (nT (?_))))))
 obtain ⟨x1, hx2, H⟩ := bd.of H
 obtain ⟨n3, hx2⟩ := lp.of hx2
 refine tMidNC (ι := { q : (Unit) × Unit // x1 = .inl q.1 }) (fun ψ => [(0, .slice x_v0.1 v0.length x_v0.2)]) (fun ψ => []) ?_ ?_
 ·refine Tr.block (tLoopC (ι := { q : Nat × (Int) × Unit // itr (p_spec_BlockOk_b0 v0) q.1 q.2.1 = some x1 }) (fun ζ => [(0, .slice x_v0.1 v0.length x_v0.2), (3, .int .i64 (ζ.1.2.1))]) (fun ζ => []) (fun ζ => ζ.1.1) ⟨(n3, 0, ()), hx2⟩ ⟨rfl, rfl, trivial⟩ Take.nil ?_)
  rintro ⟨⟨m4, Q5, z6⟩, hk11⟩
  obtain ⟨m12, t8, e, H1, hi9, hb10⟩ := itr.of (n := m4) (s := Q5) hk11
  subst e; unfold p_spec_BlockOk_b0 at H1
  show Tr _ _ _ _ _ [(0, .slice x_v0.1 v0.length x_v0.2), (3, .int .i64 (Q5))] _ []
  refine Tr.seq (Tr.seq (Tr.region (Rg.m rfl (Rg.m rfl (Rg.p (p_len 58 Tryz.underlying43 rfl) ?_)))))
  refine Rg.p (p_lss rfl rfl) (Rg.nl (nT (?_)))
  refine Tr.cond (b := decide (Q5 < (v0.length : Int))) rfl (fun h13 => ?_) (fun h13 => ?_)
  ·have H1 := cdT h13 H1
   refine tSkip (nT (?_))
   refine Tr.seq (Tr.block ?_)
   obtain ⟨b14, j15, H1⟩ := bd.of H1
   refine tMid1 [(33, .bool (b14)), (0, .slice x_v0.1 v0.length x_v0.2), (3, .int .i64 (Q5))] ?_ ?_
   ·refine tLinS [(0, .slice x_v0.1 v0.length x_v0.2), (3, .int .i64 (Q5))] Tryz.mixed (.inr (by kernel_rfl)) ⟨rfl, rfl, trivial⟩ rfl (Lin.m rfl (Lin.m rfl ?_))
    obtain ⟨h16, j15⟩ := gd.of j15
    refine Lin.o (q_ixg Tryz.underlying43 ty58 rfl rfl h16 rfl (EntB.flat (Ent.b Ent.z))) (Lin.o (v := .agg #[.int .i64 ((nth v0 Q5.toNat).1), .int .i64 ((nth v0 Q5.toNat).2)]) (q_ldeA (i := Q5.toNat) ty58 rfl (EntB.flat (Ent.b Ent.z)) h16.lt) ?_)
    obtain ⟨r17, h18, j15⟩ := bd.of j15
    refine Lin.o (q_call (c_spec_l2Row (nth v0 Q5.toNat) h18) rfl EntsB.nil) (Lin.p (p_not rfl) ?_)
    rcases Bool.eq_false_or_eq_true (!r17) with h19 | h19
    ·have j15 := cdT h19 j15
     refine Lin.e_ (p_move rfl) h19 ?_
     iterate 16 refine Lin.sk rfl ?_
     refine Lin.p (v := .bool (true)) (p_pickT rfl rfl) ?_
     obtain rfl := si j15
     show At _ _ _ _ _ _
     exact n1 ⟨rfl, rfl, rfl, trivial⟩
    ·have j15 := cdF h19 j15
     refine Lin.e_ (p_move rfl) h19 (Lin.h rfl (p_move rfl) (Lin.h rfl (p_gtr rfl rfl) ?_))
     rcases Bool.eq_false_or_eq_true (decide (0 < Q5)) with h20 | h20
     ·have j15 := cdT h20 j15
      refine Lin.f_ rfl (p_move rfl) h20 (Lin.h rfl (p_move rfl) (Lin.h rfl (p_move rfl) ?_))
      obtain ⟨h21, j15⟩ := gd.of j15
      refine Lin.h rfl (p_sub rfl rfl h21) ?_
      obtain ⟨h22, j15⟩ := gd.of j15
      refine Lin.i rfl (q_ixg Tryz.underlying43 ty58 rfl rfl h22 rfl (EntB.flat (Ent.b Ent.z))) (Lin.i rfl (q_faeE (j := 0) ((Q5 - 1).toNat) fa58_0 rfl (EntB.flat (Ent.b Ent.z)) h22.lt rfl) (Lin.i rfl (q_lde (i := (Q5 - 1).toNat) (j := 0) ty3 rfl (EntB.flat (Ent.b Ent.z)) h22.lt rfl) (Lin.h rfl (p_move rfl) (Lin.h rfl (p_move rfl) (Lin.i rfl (q_ixg Tryz.underlying43 ty58 rfl rfl h16 rfl (EntB.flat (Ent.b Ent.z))) ?_)))))
      refine Lin.i rfl (q_faeE (j := 0) Q5.toNat fa58_0 rfl (EntB.flat (Ent.b Ent.z)) h16.lt rfl) (Lin.i rfl (q_lde (i := Q5.toNat) (j := 0) ty3 rfl (EntB.flat (Ent.b Ent.z)) h16.lt rfl) (Lin.h rfl (p_geq rfl rfl) (Lin.h rfl (p_pickT rfl rfl) (Lin.p (p_pickF rfl rfl) ?_))))
      obtain rfl := si j15
      show At _ _ _ _ _ _
      exact n1 ⟨rfl, rfl, rfl, trivial⟩
     ·have j15 := cdF h20 j15
      refine Lin.f_ rfl (p_move rfl) h20 ?_
      iterate 12 refine Lin.sk rfl ?_
      refine Lin.h (v := .bool (false)) rfl (p_pickF rfl rfl) (Lin.p (v := .bool (false)) (p_pickF rfl rfl) ?_)
      obtain rfl := si j15
      show At _ _ _ _ _ _
      exact n1 ⟨rfl, rfl, rfl, trivial⟩
   refine Tr.cond (b := b14) rfl (fun h23 => ?_) (fun h23 => ?_)
   ·have H1 := cdT h23 H1
    refine Tr.seq (Tr.region (Rg.a (v := .bool (false)) rfl (Rg.nl (nT (?_)))))
    refine tRet (rB (rT (rT (rB (rT (rT (?_)))))))
    have hx := hb10 _ (Option.some.inj H1).symm; subst hx
    replace H := sw.r H
    obtain rfl := si H
    exact bk1 rfl rfl rfl rfl Take.nil
   ·have H1 := cdF h23 H1
    refine tSkip (nB (nT (?_)))
    refine Tr.region (Rg.m rfl ?_)
    obtain ⟨h24, H1⟩ := gd.of H1
    refine Rg.p (p_add rfl rfl h24) (Rg.a rfl (Rg.nl ?_))
    exact nLC ⟨(m12, Q5 + 1, ()), hi9 _ (Option.some.inj H1).symm⟩ (Nat.lt_succ_self _) ⟨rfl, rfl, trivial⟩ Ents.refl Take.nil
  ·have H1 := cdF h13 H1
   refine tExit (xT (xT (xE (?_))))
   exact nMC ⟨((), ()), (hb10 _ (Option.some.inj H1).symm).symm⟩ ⟨rfl, trivial⟩ Ents.refl Take.nil
 ·rintro ⟨⟨e25, y7⟩, hx⟩; subst hx; replace H := sw.l H
  show At _ _ [(0, .slice x_v0.1 v0.length x_v0.2)] _ [] _
  refine nT (?_)
  refine Tr.seq (Tr.region (Rg.m rfl (Rg.p (p_len 58 Tryz.underlying43 rfl) (Rg.p (p_leq rfl rfl) (Rg.a rfl ?_)))))
  refine Rg.nl (nT (?_))
  refine tRet ?_
  obtain rfl := si H
  exact bk1 rfl rfl rfl rfl Take.nil
noncomputable def p_spec_PartOk_b0 (v0 : Part) (Q8 : Int) : Option ((Int) ⊕ (Unit ⊕ Bool)) := cond (decide (Q8 < (v0.1.length : Int))) (bd (gd (ix Q8 v0.1.length) <| bd (p_spec_l6In (nth v0.1 Q8.toNat) 1 6) fun r20 => cond (!r20) (some (true)) (cond (decide (0 < Q8)) (gd (I64 (Q8 - 1)) <| gd (ix (Q8 - 1) v0.1.length) <| cond (decide ((nth v0.1 Q8.toNat) ≤ (nth v0.1 ((Q8 - 1).toNat)))) (some (true)) (gd (ix Q8 v0.2.length) <| cond (decide (((nth v0.2 Q8.toNat).length : Int) = 0)) (some (true)) (bd (p_spec_BlockOk (nth v0.2 Q8.toNat)) fun r29 => some (!r29)))) (gd (ix Q8 v0.2.length) <| cond (decide (((nth v0.2 Q8.toNat).length : Int) = 0)) (some (true)) (bd (p_spec_BlockOk (nth v0.2 Q8.toNat)) fun r33 => some (!r33))))) fun b17 => cond (b17) (some (.inr (.inr false))) (gd (I64 (Q8 + 1)) <| some (.inl (Q8 + 1)))) (some (.inr (.inl ())))
noncomputable def p_spec_PartOk (v0 : Part) : Option (Bool) := cond (!decide ((v0.1.length : Int) = (v0.2.length : Int))) (some false) (bd (lp (p_spec_PartOk_b0 v0) 0) <| sw (fun _ => some true) (fun q => some q))
theorem c_spec_PartOk {r : Bool} (v0 : Part) (x_v0 : (Option Addr × Nat) × (Option Addr × Nat)) (H : p_spec_PartOk v0 = some r) : Fn' Tryz.prog 80 #[.agg #[.slice x_v0.1.1 v0.1.length x_v0.1.2, .slice x_v0.2.1 v0.2.length x_v0.2.2]] [imm (.slice x_v0.1.1 v0.1.length x_v0.1.2) v0.1, imm (.slice x_v0.2.1 v0.2.length x_v0.2.2) v0.2] [] (ι := Unit) (fun _ => .bool (r)) (fun _ => []) (fun _ => []) := by
 refine calls_of (args := [_]) Tryz.func80 rfl (by kernel_rfl) Tryz.ntmps80 (by simp) fun c => ?_
 unfold p_spec_PartOk at H
 refine Tr.openD Ent.z.s fun X1 => (Tr.seq (Tr.region (Rg.ef (e_box (t := 72) rfl) rfl ?_)))
 rintro _ _ _ ⟨g2, rfl, rfl, rfl⟩
 refine Rg.a (v := .bool (false)) rfl (Rg.nl (nT (?_)))
 refine Tr.seq (Tr.seq (Tr.region (Rg.p (p_fabE fa72_0 rfl rfl) (Rg.o (q_ldb ty69 rfl Has.here rfl) (Rg.p (p_len 3 Tryz.underlying69 rfl) ?_)))))
 refine Rg.p (p_fabE fa72_1 rfl rfl) (Rg.o (q_ldb ty70 rfl Has.here rfl) (Rg.p (p_len 43 Tryz.underlying70 rfl) (Rg.p (p_neq rfl rfl) (Rg.nl (nT (?_))))))
 refine Tr.cond (b := !decide ((v0.1.length : Int) = (v0.2.length : Int))) rfl (fun h3 => ?_) (fun h3 => ?_)
 ·have H := cdT h3 H
  refine Tr.seq (Tr.region (Rg.a (v := .bool (false)) rfl (Rg.nl (nT (?_)))))
  refine tRet (rT (?_))
  obtain rfl := si H
  exact bk1 rfl rfl rfl rfl Take.nil
 ·have H := cdF h3 H
  refine tSkip (nT (?_))
  refine Tr.seq (Tr.seq (Tr.region (Rg.a (v := .int .i64 (0)) rfl (Rg.nl (nT (?_))))))
  obtain ⟨x4, hx5, H⟩ := bd.of H
  obtain ⟨n6, hx5⟩ := lp.of hx5
  refine tMidNC (ι := { q : (Unit) × Unit // x4 = .inl q.1 }) (fun ψ => []) (fun ψ => []) ?_ ?_
  ·refine Tr.block (tLoopC (ι := { q : Nat × (Int) × Unit // itr (p_spec_PartOk_b0 v0) q.1 q.2.1 = some x4 }) (fun ζ => [(1, .pointer (some ⟨g2, 0, none⟩)), (3, .int .i64 (ζ.1.2.1))]) (fun ζ => [box g2 72 [.slice x_v0.1.1 v0.1.length x_v0.1.2, .slice x_v0.2.1 v0.2.length x_v0.2.2]]) (fun ζ => ζ.1.1) ⟨(n6, 0, ()), hx5⟩ ⟨rfl, rfl, trivial⟩ (.cons Del.here .nil) ?_)
   rintro ⟨⟨m7, Q8, z9⟩, hk14⟩
   obtain ⟨m15, t11, e, H1, hi12, hb13⟩ := itr.of (n := m7) (s := Q8) hk14
   subst e; unfold p_spec_PartOk_b0 at H1
   show Tr _ _ _ _ _ [(1, .pointer (some ⟨g2, 0, none⟩)), (3, .int .i64 (Q8))] _ [box g2 72 [.slice x_v0.1.1 v0.1.length x_v0.1.2, .slice x_v0.2.1 v0.2.length x_v0.2.2]]
   refine Tr.seq (Tr.seq (Tr.region (Rg.m rfl (Rg.p (p_fabE fa72_0 rfl rfl) (Rg.o (q_ldb ty69 rfl Has.here rfl) ?_)))))
   refine Rg.p (p_len 3 Tryz.underlying69 rfl) (Rg.p (p_lss rfl rfl) (Rg.nl (nT (?_))))
   refine Tr.cond (b := decide (Q8 < (v0.1.length : Int))) rfl (fun h16 => ?_) (fun h16 => ?_)
   ·have H1 := cdT h16 H1
    refine tSkip (nT (?_))
    refine Tr.seq (Tr.block ?_)
    obtain ⟨b17, j18, H1⟩ := bd.of H1
    refine tMid1 [(60, .bool (b17)), (1, .pointer (some ⟨g2, 0, none⟩)), (3, .int .i64 (Q8))] ?_ ?_
    ·refine tLinS [(1, .pointer (some ⟨g2, 0, none⟩)), (3, .int .i64 (Q8))] Tryz.mixed (.inr (by kernel_rfl)) ⟨rfl, rfl, trivial⟩ rfl (Lin.p (p_fabE fa72_0 rfl rfl) (Lin.o (q_ldb ty69 rfl Has.here rfl) (Lin.m rfl ?_)))
     obtain ⟨h19, j18⟩ := gd.of j18
     refine Lin.o (q_ixg Tryz.underlying69 ty3 rfl rfl h19 rfl (EntB.flat (Ent.b Ent.z.s))) (Lin.o (q_lde (i := Q8.toNat) (j := 0) ty3 rfl (EntB.flat (Ent.b Ent.z.s)) h19.lt rfl) ?_)
     obtain ⟨r20, h21, j18⟩ := bd.of j18
     refine Lin.o (q_call (c_spec_l6In (nth v0.1 Q8.toNat) 1 6 h21) rfl EntsB.nil) (Lin.p (p_not rfl) ?_)
     rcases Bool.eq_false_or_eq_true (!r20) with h22 | h22
     ·have j18 := cdT h22 j18
      refine Lin.e_ (p_move rfl) h22 ?_
      iterate 16 refine Lin.sk rfl ?_
      refine Lin.p (v := .bool (true)) (p_pickT rfl rfl) (Lin.m (v := .bool (true)) rfl ?_)
      iterate 7 refine Lin.sk rfl ?_
      refine Lin.p (v := .bool (true)) (p_pickT rfl rfl) (Lin.m (v := .bool (true)) rfl ?_)
      iterate 7 refine Lin.sk rfl ?_
      refine Lin.p (v := .bool (true)) (p_pickT rfl rfl) ?_
      obtain rfl := si j18
      show At _ _ _ _ _ _
      exact n1 ⟨rfl, rfl, rfl, trivial⟩
     ·have j18 := cdF h22 j18
      refine Lin.e_ (p_move rfl) h22 (Lin.h rfl (p_move rfl) (Lin.h rfl (p_gtr rfl rfl) ?_))
      rcases Bool.eq_false_or_eq_true (decide (0 < Q8)) with h23 | h23
      ·have j18 := cdT h23 j18
       refine Lin.f_ rfl (p_move rfl) h23 (Lin.h rfl (p_fabE fa72_0 rfl rfl) (Lin.i rfl (q_ldb ty69 rfl Has.here rfl) (Lin.h rfl (p_move rfl) ?_)))
       obtain ⟨h24, j18⟩ := gd.of j18
       refine Lin.h rfl (p_sub rfl rfl h24) ?_
       obtain ⟨h25, j18⟩ := gd.of j18
       refine Lin.i rfl (q_ixg Tryz.underlying69 ty3 rfl rfl h25 rfl (EntB.flat (Ent.b Ent.z.s))) (Lin.i rfl (q_lde (i := (Q8 - 1).toNat) (j := 0) ty3 rfl (EntB.flat (Ent.b Ent.z.s)) h25.lt rfl) (Lin.h rfl (p_fabE fa72_0 rfl rfl) (Lin.i rfl (q_ldb ty69 rfl Has.here rfl) (Lin.h rfl (p_move rfl) (Lin.i rfl (q_ixg Tryz.underlying69 ty3 rfl rfl h19 rfl (EntB.flat (Ent.b Ent.z.s))) ?_)))))
       refine Lin.i rfl (q_lde (i := Q8.toNat) (j := 0) ty3 rfl (EntB.flat (Ent.b Ent.z.s)) h19.lt rfl) (Lin.h rfl (p_geq rfl rfl) (Lin.h rfl (p_pickT rfl rfl) (Lin.p (p_pickF rfl rfl) ?_)))
       rcases Bool.eq_false_or_eq_true (decide ((nth v0.1 Q8.toNat) ≤ (nth v0.1 ((Q8 - 1).toNat)))) with h26 | h26
       ·have j18 := cdT h26 j18
        refine Lin.e_ (p_move rfl) h26 ?_
        iterate 7 refine Lin.sk rfl ?_
        refine Lin.p (v := .bool (true)) (p_pickT rfl rfl) (Lin.m (v := .bool (true)) rfl ?_)
        iterate 7 refine Lin.sk rfl ?_
        refine Lin.p (v := .bool (true)) (p_pickT rfl rfl) ?_
        obtain rfl := si j18
        show At _ _ _ _ _ _
        exact n1 ⟨rfl, rfl, rfl, trivial⟩
       ·have j18 := cdF h26 j18
        refine Lin.e_ (p_move rfl) h26 (Lin.h rfl (p_fabE fa72_1 rfl rfl) (Lin.i rfl (q_ldb ty70 rfl Has.here rfl) (Lin.h rfl (p_move rfl) ?_)))
        obtain ⟨h27, j18⟩ := gd.of j18
        refine Lin.i rfl (q_ixg Tryz.underlying70 ty43 rfl rfl h27 rfl (Ent.b (Ent.darr Ent.z))) (Lin.i rfl (q_lde (i := Q8.toNat) (j := 0) ty43 rfl (Ent.b (Ent.darr Ent.z)) h27.lt rfl) (Lin.h rfl (p_len 58 Tryz.underlying43 rfl) (Lin.h rfl (p_eql rfl rfl) (Lin.p (p_pickF rfl rfl) ?_))))
        rcases Bool.eq_false_or_eq_true (decide (((nth v0.2 Q8.toNat).length : Int) = 0)) with h28 | h28
        ·have j18 := cdT h28 j18
         refine Lin.e_ (p_move rfl) h28 ?_
         iterate 7 refine Lin.sk rfl ?_
         refine Lin.p (v := .bool (true)) (p_pickT rfl rfl) ?_
         obtain rfl := si j18
         show At _ _ _ _ _ _
         exact n1 ⟨rfl, rfl, rfl, trivial⟩
        ·have j18 := cdF h28 j18
         refine Lin.e_ (p_move rfl) h28 (Lin.h rfl (p_fabE fa72_1 rfl rfl) (Lin.i rfl (q_ldb ty70 rfl Has.here rfl) (Lin.h rfl (p_move rfl) (Lin.i rfl (q_ixg Tryz.underlying70 ty43 rfl rfl h27 rfl (Ent.b (Ent.darr Ent.z))) (Lin.i rfl (q_lde (i := Q8.toNat) (j := 0) ty43 rfl (Ent.b (Ent.darr Ent.z)) h27.lt rfl) ?_)))))
         obtain ⟨r29, h30, j18⟩ := bd.of j18
         refine Lin.i rfl (q_call (c_spec_BlockOk (nth v0.2 Q8.toNat) ((X1 Q8.toNat).1, (X1 Q8.toNat).2.1) h30) rfl (EntsB.cons (Ent.b (Ent.dimm (Ent.del Ent.z h27.lt))) EntsB.nil)) (Lin.h rfl (p_not rfl) (Lin.p (p_pickF rfl rfl) ?_))
         obtain rfl := si j18
         show At _ _ _ _ _ _
         exact n1 ⟨rfl, rfl, rfl, trivial⟩
      ·have j18 := cdF h23 j18
       refine Lin.f_ rfl (p_move rfl) h23 ?_
       iterate 12 refine Lin.sk rfl ?_
       refine Lin.h (v := .bool (false)) rfl (p_pickF rfl rfl) (Lin.p (v := .bool (false)) (p_pickF rfl rfl) (Lin.m (v := .bool (false)) rfl (Lin.h rfl (p_fabE fa72_1 rfl rfl) (Lin.i rfl (q_ldb ty70 rfl Has.here rfl) (Lin.h rfl (p_move rfl) ?_)))))
       obtain ⟨h31, j18⟩ := gd.of j18
       refine Lin.i rfl (q_ixg Tryz.underlying70 ty43 rfl rfl h31 rfl (Ent.b (Ent.darr Ent.z))) (Lin.i rfl (q_lde (i := Q8.toNat) (j := 0) ty43 rfl (Ent.b (Ent.darr Ent.z)) h31.lt rfl) (Lin.h rfl (p_len 58 Tryz.underlying43 rfl) (Lin.h rfl (p_eql rfl rfl) (Lin.p (p_pickF rfl rfl) ?_))))
       rcases Bool.eq_false_or_eq_true (decide (((nth v0.2 Q8.toNat).length : Int) = 0)) with h32 | h32
       ·have j18 := cdT h32 j18
        refine Lin.e_ (p_move rfl) h32 ?_
        iterate 7 refine Lin.sk rfl ?_
        refine Lin.p (v := .bool (true)) (p_pickT rfl rfl) ?_
        obtain rfl := si j18
        show At _ _ _ _ _ _
        exact n1 ⟨rfl, rfl, rfl, trivial⟩
       ·have j18 := cdF h32 j18
        refine Lin.e_ (p_move rfl) h32 (Lin.h rfl (p_fabE fa72_1 rfl rfl) (Lin.i rfl (q_ldb ty70 rfl Has.here rfl) (Lin.h rfl (p_move rfl) (Lin.i rfl (q_ixg Tryz.underlying70 ty43 rfl rfl h31 rfl (Ent.b (Ent.darr Ent.z))) (Lin.i rfl (q_lde (i := Q8.toNat) (j := 0) ty43 rfl (Ent.b (Ent.darr Ent.z)) h31.lt rfl) ?_)))))
        obtain ⟨r33, h34, j18⟩ := bd.of j18
        refine Lin.i rfl (q_call (c_spec_BlockOk (nth v0.2 Q8.toNat) ((X1 Q8.toNat).1, (X1 Q8.toNat).2.1) h34) rfl (EntsB.cons (Ent.b (Ent.dimm (Ent.del Ent.z h31.lt))) EntsB.nil)) (Lin.h rfl (p_not rfl) (Lin.p (p_pickF rfl rfl) ?_))
        obtain rfl := si j18
        show At _ _ _ _ _ _
        exact n1 ⟨rfl, rfl, rfl, trivial⟩
    refine Tr.cond (b := b17) rfl (fun h35 => ?_) (fun h35 => ?_)
    ·have H1 := cdT h35 H1
     refine Tr.seq (Tr.region (Rg.a (v := .bool (false)) rfl (Rg.nl (nT (?_)))))
     refine tRet (rB (rT (rT (rB (rT (rT (?_)))))))
     have hx := hb13 _ (Option.some.inj H1).symm; subst hx
     replace H := sw.r H
     obtain rfl := si H
     exact bk1 rfl rfl rfl rfl Take.nil
    ·have H1 := cdF h35 H1
     refine tSkip (nB (nT (?_)))
     refine Tr.region (Rg.m rfl ?_)
     obtain ⟨h36, H1⟩ := gd.of H1
     refine Rg.p (p_add rfl rfl h36) (Rg.a rfl (Rg.nl ?_))
     exact nLC ⟨(m15, Q8 + 1, ()), hi12 _ (Option.some.inj H1).symm⟩ (Nat.lt_succ_self _) ⟨rfl, rfl, trivial⟩ Ents.refl (.cons Del.here .nil)
   ·have H1 := cdF h16 H1
    refine tExit (xT (xT (xE (?_))))
    exact nMC ⟨((), ()), (hb13 _ (Option.some.inj H1).symm).symm⟩ trivial Ents.refl Take.nil
  ·rintro ⟨⟨e37, y10⟩, hx⟩; subst hx; replace H := sw.l H
   show At _ _ [] _ [] _
   refine nT (?_)
   refine Tr.seq (Tr.region (Rg.a (v := .bool (true)) rfl (Rg.nl (nT (?_)))))
   refine tRet ?_
   obtain rfl := si H
   exact bk1 rfl rfl rfl rfl Take.nil
noncomputable def p_spec_l13Part (v0 : Part) (v1 : Int) : Option (Bool) := bd (bd (p_spec_PartOk v0) fun r5 => cond (r5) (cond (decide (0 < (v0.1.length : Int))) (gd (I64 ((v0.1.length : Int) - 1)) <| gd (ix ((v0.1.length : Int) - 1) v0.1.length) <| some (decide ((nth v0.1 (((v0.1.length : Int) - 1).toNat)) ≤ v1))) (some (false))) (some (false))) fun b3 => some b3
theorem c_spec_l13Part {r : Bool} (v0 : Part) (x_v0 : (Option Addr × Nat) × (Option Addr × Nat)) (v1 : Int) (H : p_spec_l13Part v0 v1 = some r) : Fn' Tryz.prog 35 #[.agg #[.slice x_v0.1.1 v0.1.length x_v0.1.2, .slice x_v0.2.1 v0.2.length x_v0.2.2], .int .i64 (v1)] [imm (.slice x_v0.1.1 v0.1.length x_v0.1.2) v0.1, imm (.slice x_v0.2.1 v0.2.length x_v0.2.2) v0.2] [] (ι := Unit) (fun _ => .bool (r)) (fun _ => []) (fun _ => []) := by
 refine calls_of (args := [_, _]) Tryz.func35 rfl (by kernel_rfl) Tryz.ntmps35 (by simp) fun c => ?_
 unfold p_spec_l13Part at H
 refine Tr.openD Ent.z.s fun X1 => (Tr.seq (Tr.region (Rg.ef (e_box (t := 72) rfl) rfl ?_)))
 rintro _ _ _ ⟨g2, rfl, rfl, rfl⟩
 refine Rg.a (v := .bool (false)) rfl (Rg.nl (nT (?_)))
 obtain ⟨b3, j4, H⟩ := bd.of H
 refine tMid1 [(4, .bool (b3))] ?_ ?_
 ·refine tLinT [(2, .pointer (some ⟨g2, 0, none⟩)), (1, .int .i64 (v1))] ⟨rfl, rfl, trivial⟩ (Lin.o (q_ldbA ty72 rfl Has.here rfl) ?_)
  obtain ⟨r5, h6, j4⟩ := bd.of j4
  refine Lin.o (q_call (c_spec_PartOk v0 x_v0 h6) rfl (EntsB.cons (Ent.b Ent.z.s) (EntsB.cons (Ent.b (Ent.dimm Ent.z)) EntsB.nil))) ?_
  rcases Bool.eq_false_or_eq_true (r5) with h7 | h7
  ·have j4 := cdT h7 j4
   refine Lin.e_ (p_move rfl) h7 (Lin.h rfl (p_fabE fa72_0 rfl rfl) (Lin.i rfl (q_ldb ty69 rfl Has.here rfl) (Lin.h rfl (p_len 3 Tryz.underlying69 rfl) (Lin.h rfl (p_gtr rfl rfl) (Lin.p (p_pickT rfl rfl) ?_)))))
   rcases Bool.eq_false_or_eq_true (decide (0 < (v0.1.length : Int))) with h8 | h8
   ·have j4 := cdT h8 j4
    refine Lin.e_ (p_move rfl) h8 (Lin.h rfl (p_fabE fa72_0 rfl rfl) (Lin.i rfl (q_ldb ty69 rfl Has.here rfl) (Lin.h rfl (p_fabE fa72_0 rfl rfl) (Lin.i rfl (q_ldb ty69 rfl Has.here rfl) (Lin.h rfl (p_len 3 Tryz.underlying69 rfl) ?_)))))
    obtain ⟨h9, j4⟩ := gd.of j4
    refine Lin.h rfl (p_sub rfl rfl h9) ?_
    obtain ⟨h10, j4⟩ := gd.of j4
    refine Lin.i rfl (q_ixg Tryz.underlying69 ty3 rfl rfl h10 rfl (EntB.flat (Ent.b Ent.z.s))) (Lin.i rfl (q_lde (i := ((v0.1.length : Int) - 1).toNat) (j := 0) ty3 rfl (EntB.flat (Ent.b Ent.z.s)) h10.lt rfl) (Lin.h rfl (p_move rfl) (Lin.h rfl (p_leq rfl rfl) (Lin.p (p_pickT rfl rfl) (Lin.p (p_assign rfl) ?_)))))
    obtain rfl := si j4
    show At _ _ _ _ _ _
    exact n1 ⟨rfl, trivial⟩
   ·have j4 := cdF h8 j4
    refine Lin.e_ (p_move rfl) h8 ?_
    iterate 10 refine Lin.sk rfl ?_
    refine Lin.p (v := .bool (false)) (p_pickF rfl rfl) (Lin.p (v := .bool (false)) (p_assign rfl) ?_)
    obtain rfl := si j4
    show At _ _ _ _ _ _
    exact n1 ⟨rfl, trivial⟩
  ·have j4 := cdF h7 j4
   refine Lin.e_ (p_move rfl) h7 ?_
   iterate 4 refine Lin.sk rfl ?_
   refine Lin.p (v := .bool (false)) (p_pickF rfl rfl) (Lin.m (v := .bool (false)) rfl ?_)
   iterate 10 refine Lin.sk rfl ?_
   refine Lin.p (v := .bool (false)) (p_pickF rfl rfl) (Lin.p (v := .bool (false)) (p_assign rfl) ?_)
   obtain rfl := si j4
   show At _ _ _ _ _ _
   exact n1 ⟨rfl, trivial⟩
 refine tRet ?_
 obtain rfl := si H
 exact bk1 rfl rfl rfl rfl Take.nil
noncomputable def p_spec_l12Of_b0 (v0 : Part) (v1 : Int) (Q7 : Int) : Option ((Int) ⊕ (Unit ⊕ (List Row))) := cond (decide (Q7 < (v0.1.length : Int))) (gd (ix Q7 v0.1.length) <| cond (decide ((nth v0.1 Q7.toNat) = v1)) (gd (ix Q7 v0.2.length) <| some (.inr (.inr (nth v0.2 Q7.toNat)))) (gd (I64 (Q7 + 1)) <| some (.inl (Q7 + 1)))) (some (.inr (.inl ())))
noncomputable def p_spec_l12Of (v0 : Part) (v1 : Int) : Option ((List Row)) := bd (lp (p_spec_l12Of_b0 v0 v1) 0) <| sw (fun _ => some ([] : List Row)) (fun q => some q)
theorem c_spec_l12Of {r : (List Row)} (v0 : Part) (x_v0 : (Option Addr × Nat) × (Option Addr × Nat)) (v1 : Int) (H : p_spec_l12Of v0 v1 = some r) : Fn' Tryz.prog 82 #[.agg #[.slice x_v0.1.1 v0.1.length x_v0.1.2, .slice x_v0.2.1 v0.2.length x_v0.2.2], .int .i64 (v1)] [imm (.slice x_v0.1.1 v0.1.length x_v0.1.2) v0.1, imm (.slice x_v0.2.1 v0.2.length x_v0.2.2) v0.2] [] (ι := Option Addr × Nat) (fun x => .slice x.1 r.length x.2) (fun x => [imm (.slice x.1 r.length x.2) r]) (fun _ => []) := by
 refine calls_of (args := [_, _]) Tryz.func82 rfl (by kernel_rfl) Tryz.ntmps82 (by simp) fun c => ?_
 unfold p_spec_l12Of at H
 refine Tr.openD Ent.z.s fun X1 => (Tr.seq (Tr.region (Rg.ef (e_box (t := 72) rfl) rfl ?_)))
 rintro _ _ _ ⟨g2, rfl, rfl, rfl⟩
 refine Rg.a (v := .slice none 0 0) rfl (Rg.nl (nT (?_)))
 refine Tr.seq (Tr.seq (Tr.region (Rg.a (v := .int .i64 (0)) rfl (Rg.nl (nT (?_))))))
 obtain ⟨x3, hx4, H⟩ := bd.of H
 obtain ⟨n5, hx4⟩ := lp.of hx4
 refine tMidNC (ι := { q : (Unit) × Unit // x3 = .inl q.1 }) (fun ψ => []) (fun ψ => []) ?_ ?_
 ·refine Tr.block (tLoopC (ι := { q : Nat × (Int) × Unit // itr (p_spec_l12Of_b0 v0 v1) q.1 q.2.1 = some x3 }) (fun ζ => [(1, .int .i64 (v1)), (2, .pointer (some ⟨g2, 0, none⟩)), (5, .int .i64 (ζ.1.2.1))]) (fun ζ => [box g2 72 [.slice x_v0.1.1 v0.1.length x_v0.1.2, .slice x_v0.2.1 v0.2.length x_v0.2.2]]) (fun ζ => ζ.1.1) ⟨(n5, 0, ()), hx4⟩ ⟨rfl, rfl, rfl, trivial⟩ (.cons Del.here .nil) ?_)
  rintro ⟨⟨m6, Q7, z8⟩, hk13⟩
  obtain ⟨m14, t10, e, H1, hi11, hb12⟩ := itr.of (n := m6) (s := Q7) hk13
  subst e; unfold p_spec_l12Of_b0 at H1
  show Tr _ _ _ _ _ [(1, .int .i64 (v1)), (2, .pointer (some ⟨g2, 0, none⟩)), (5, .int .i64 (Q7))] _ [box g2 72 [.slice x_v0.1.1 v0.1.length x_v0.1.2, .slice x_v0.2.1 v0.2.length x_v0.2.2]]
  refine Tr.seq (Tr.seq (Tr.region (Rg.m rfl (Rg.p (p_fabE fa72_0 rfl rfl) (Rg.o (q_ldb ty69 rfl Has.here rfl) ?_)))))
  refine Rg.p (p_len 3 Tryz.underlying69 rfl) (Rg.p (p_lss rfl rfl) (Rg.nl (nT (?_))))
  refine Tr.cond (b := decide (Q7 < (v0.1.length : Int))) rfl (fun h15 => ?_) (fun h15 => ?_)
  ·have H1 := cdT h15 H1
   refine tSkip (nT (?_))
   refine Tr.seq (Tr.block (Tr.seq (Tr.region (Rg.p (p_fabE fa72_0 rfl rfl) (Rg.o (q_ldb ty69 rfl Has.here rfl) ?_)))))
   refine Rg.m rfl ?_
   obtain ⟨h16, H1⟩ := gd.of H1
   refine Rg.o (q_ixg Tryz.underlying69 ty3 rfl rfl h16 rfl (EntB.flat (Ent.b Ent.z.s))) (Rg.o (q_lde (i := Q7.toNat) (j := 0) ty3 rfl (EntB.flat (Ent.b Ent.z.s)) h16.lt rfl) (Rg.m rfl (Rg.p (p_eql rfl rfl) (Rg.nl (nT (?_))))))
   refine Tr.cond (b := decide ((nth v0.1 Q7.toNat) = v1)) rfl (fun h17 => ?_) (fun h17 => ?_)
   ·have H1 := cdT h17 H1
    refine Tr.seq (Tr.region (Rg.p (p_fabE fa72_1 rfl rfl) (Rg.o (q_ldb ty70 rfl Has.here rfl) (Rg.m rfl ?_))))
    obtain ⟨h18, H1⟩ := gd.of H1
    refine Rg.o (q_ixg Tryz.underlying70 ty43 rfl rfl h18 rfl (Ent.b (Ent.darr Ent.z))) (Rg.o (q_lde (i := Q7.toNat) (j := 0) ty43 rfl (Ent.b (Ent.darr Ent.z)) h18.lt rfl) (Rg.a rfl (Rg.nl (nT (?_)))))
    refine tRet (rB (rT (rT (rB (rT (rT (?_)))))))
    have hx := hb12 _ (Option.some.inj H1).symm; subst hx
    replace H := sw.r H
    obtain rfl := si H
    exact back1 ((X1 Q7.toNat).1, (X1 Q7.toNat).2.1) rfl (ResV.tmp (v := .slice ((X1 Q7.toNat).1) ((nth v0.2 Q7.toNat).length) ((X1 Q7.toNat).2.1)) rfl) rfl (Ents.cons (Ent.dimm (Ent.del Ent.z h18.lt)) Ents.nil) Take.nil
   ·have H1 := cdF h17 H1
    refine tSkip (nB (nT (?_)))
    refine Tr.region (Rg.m rfl ?_)
    obtain ⟨h19, H1⟩ := gd.of H1
    refine Rg.p (p_add rfl rfl h19) (Rg.a rfl (Rg.nl ?_))
    exact nLC ⟨(m14, Q7 + 1, ()), hi11 _ (Option.some.inj H1).symm⟩ (Nat.lt_succ_self _) ⟨rfl, rfl, rfl, trivial⟩ Ents.refl (.cons Del.here .nil)
  ·have H1 := cdF h15 H1
   refine tExit (xT (xT (xE (?_))))
   exact nMC ⟨((), ()), (hb12 _ (Option.some.inj H1).symm).symm⟩ trivial Ents.refl Take.nil
 ·rintro ⟨⟨e20, y9⟩, hx⟩; subst hx; replace H := sw.l H
  show At _ _ [] _ [] _
  refine nT (?_)
  refine Tr.seq (Tr.region (Rg.ef (e_lit0 Row Tryz.underlying43 ty58) rfl ?_))
  rintro _ _ _ ⟨a21, c22, rfl, rfl, rfl⟩
  refine Rg.a rfl (Rg.nl (nT (?_)))
  refine Tr.freeze (.cons Del.here .nil) (tRet ?_)
  obtain rfl := si H
  exact back1 (a21, c22) rfl (ResV.tmp (v := .slice a21 (([] : List Row).length) c22) rfl) rfl (Ents.cons Ent.z Ents.nil) Take.nil
noncomputable def p_spec_l2Put_b0 (v0 : (List Row)) (v1 : Row) (Q8 : (List Row) × Bool × Int) : Option (((List Row) × Bool × Int) ⊕ ((List Row) × Bool)) := cond (decide (Q8.2.2 < (v0.length : Int))) (bd (cond (!Q8.2.1) (gd (ix Q8.2.2 v0.length) <| some (decide (v1.1 ≤ ((nth v0 Q8.2.2.toNat).1)))) (some (false))) fun b17 => cond (b17) (gd (room (Q8.1.length + 1)) <| gd (ix Q8.2.2 v0.length) <| cond (!decide (((nth v0 Q8.2.2.toNat).1) = v1.1)) (gd (room ((Q8.1 ++ [v1]).length + 1)) <| gd (I64 (Q8.2.2 + 1)) <| some (.inl (((Q8.1 ++ [v1]) ++ [nth v0 Q8.2.2.toNat]), true, Q8.2.2 + 1))) (gd (I64 (Q8.2.2 + 1)) <| some (.inl ((Q8.1 ++ [v1]), true, Q8.2.2 + 1)))) (gd (ix Q8.2.2 v0.length) <| cond (!decide (((nth v0 Q8.2.2.toNat).1) = v1.1)) (gd (room (Q8.1.length + 1)) <| gd (I64 (Q8.2.2 + 1)) <| some (.inl ((Q8.1 ++ [nth v0 Q8.2.2.toNat]), Q8.2.1, Q8.2.2 + 1))) (gd (I64 (Q8.2.2 + 1)) <| some (.inl (Q8.1, Q8.2.1, Q8.2.2 + 1))))) (some (.inr (Q8.1, Q8.2.1)))
noncomputable def p_spec_l2Put (v0 : (List Row)) (v1 : Row) : Option ((List Row)) := bd (lp (p_spec_l2Put_b0 v0 v1) (([] : List Row), false, 0)) fun x4 => cond (!x4.2) (gd (room (x4.1.length + 1)) <| some (x4.1 ++ [v1])) (some x4.1)
theorem c_spec_l2Put {r : (List Row)} (v0 : (List Row)) (x_v0 : Option Addr × Nat) (v1 : Row) (H : p_spec_l2Put v0 v1 = some r) : Fn' Tryz.prog 83 #[.slice x_v0.1 v0.length x_v0.2, .agg #[.int .i64 (v1.1), .int .i64 (v1.2)]] [imm (.slice x_v0.1 v0.length x_v0.2) v0] [] (ι := Option Addr × Nat) (fun x => .slice x.1 r.length x.2) (fun _ => []) (fun x => [tree (.slice x.1 r.length x.2) r]) := by
 refine calls_of (args := [_, _]) Tryz.func83 rfl (by kernel_rfl) Tryz.ntmps83 (by simp) fun c => ?_
 unfold p_spec_l2Put at H
 refine Tr.seq (Tr.region (Rg.ef (e_box (t := 58) rfl) rfl ?_))
 rintro _ _ _ ⟨g1, rfl, rfl, rfl⟩
 refine Rg.a (v := .slice none 0 0) rfl (Rg.nl (nT (?_)))
 refine Tr.seq (Tr.region (Rg.ef (e_lit0 Row Tryz.underlying43 ty58) rfl ?_))
 rintro _ _ _ ⟨a2, c3, rfl, rfl, rfl⟩
 refine Rg.a rfl (Rg.nl (nT (?_)))
 refine Tr.seq (Tr.region (Rg.a (v := .bool (false)) rfl (Rg.nl (nT (?_)))))
 refine Tr.seq (Tr.seq (Tr.region (Rg.a (v := .int .i64 (0)) rfl (Rg.nl (nT (?_))))))
 obtain ⟨x4, hx5, H⟩ := bd.of H
 obtain ⟨n6, hx5⟩ := lp.of hx5
 refine tMidNC (ι := Option Addr × Nat) (fun ψ => [(3, .pointer (some ⟨g1, 0, none⟩)), (5, .slice ψ.1 x4.1.length ψ.2), (6, .bool (x4.2))]) (fun ψ => [box g1 58 [.int .i64 (v1.1), .int .i64 (v1.2)], tree (.slice ψ.1 x4.1.length ψ.2) x4.1]) ?_ ?_
 ·refine Tr.block (tLoopC (ι := { q : Nat × ((List Row) × Bool × Int) × (Option Addr × Nat) // itr (p_spec_l2Put_b0 v0 v1) q.1 q.2.1 = some x4 }) (fun ζ => [(0, .slice x_v0.1 v0.length x_v0.2), (3, .pointer (some ⟨g1, 0, none⟩)), (5, .slice ζ.1.2.2.1 ζ.1.2.1.1.length ζ.1.2.2.2), (6, .bool (ζ.1.2.1.2.1)), (7, .int .i64 (ζ.1.2.1.2.2))]) (fun ζ => [box g1 58 [.int .i64 (v1.1), .int .i64 (v1.2)], tree (.slice ζ.1.2.2.1 ζ.1.2.1.1.length ζ.1.2.2.2) ζ.1.2.1.1]) (fun ζ => ζ.1.1) ⟨(n6, (([] : List Row), false, 0), (a2, c3)), hx5⟩ ⟨rfl, rfl, rfl, rfl, rfl, trivial⟩ (.cons dl1 (.cons Del.here .nil)) ?_)
  rintro ⟨⟨m7, Q8, z9⟩, hk14⟩
  obtain ⟨m15, t11, e, H1, hi12, hb13⟩ := itr.of (n := m7) (s := Q8) hk14
  subst e; unfold p_spec_l2Put_b0 at H1
  show Tr _ _ _ _ _ [(0, .slice x_v0.1 v0.length x_v0.2), (3, .pointer (some ⟨g1, 0, none⟩)), (5, .slice z9.1 Q8.1.length z9.2), (6, .bool (Q8.2.1)), (7, .int .i64 (Q8.2.2))] _ [box g1 58 [.int .i64 (v1.1), .int .i64 (v1.2)], tree (.slice z9.1 Q8.1.length z9.2) Q8.1]
  refine Tr.seq (Tr.seq (Tr.region (Rg.m rfl (Rg.m rfl (Rg.p (p_len 58 Tryz.underlying43 rfl) ?_)))))
  refine Rg.p (p_lss rfl rfl) (Rg.nl (nT (?_)))
  refine Tr.cond (b := decide (Q8.2.2 < (v0.length : Int))) rfl (fun h16 => ?_) (fun h16 => ?_)
  ·have H1 := cdT h16 H1
   refine tSkip (nT (?_))
   refine Tr.seq (Tr.block (Tr.seq ?_))
   obtain ⟨b17, j18, H1⟩ := bd.of H1
   refine tMid1 [(26, .bool (b17)), (0, .slice x_v0.1 v0.length x_v0.2), (3, .pointer (some ⟨g1, 0, none⟩)), (5, .slice z9.1 Q8.1.length z9.2), (6, .bool (Q8.2.1)), (7, .int .i64 (Q8.2.2))] ?_ ?_
   ·refine tLinS [(0, .slice x_v0.1 v0.length x_v0.2), (3, .pointer (some ⟨g1, 0, none⟩)), (5, .slice z9.1 Q8.1.length z9.2), (6, .bool (Q8.2.1)), (7, .int .i64 (Q8.2.2))] Tryz.mixed (.inr (by kernel_rfl)) ⟨rfl, rfl, rfl, rfl, rfl, trivial⟩ rfl (Lin.m rfl (Lin.p (p_not rfl) ?_))
    rcases Bool.eq_false_or_eq_true (!Q8.2.1) with h19 | h19
    ·have j18 := cdT h19 j18
     refine Lin.e_ (p_move rfl) h19 (Lin.h rfl (p_move rfl) (Lin.h rfl (p_move rfl) ?_))
     obtain ⟨h20, j18⟩ := gd.of j18
     refine Lin.i rfl (q_ixg Tryz.underlying43 ty58 rfl rfl h20 rfl (EntB.flat (Ent.b Ent.z))) (Lin.i rfl (q_faeE (j := 0) Q8.2.2.toNat fa58_0 rfl (EntB.flat (Ent.b Ent.z)) h20.lt rfl) (Lin.i rfl (q_lde (i := Q8.2.2.toNat) (j := 0) ty3 rfl (EntB.flat (Ent.b Ent.z)) h20.lt rfl) (Lin.h rfl (p_fabE fa58_0 rfl rfl) (Lin.i rfl (q_ldb ty3 rfl Has.here rfl) (Lin.h rfl (p_geq rfl rfl) ?_)))))
     refine Lin.p (p_pickT rfl rfl) ?_
     obtain rfl := si j18
     show At _ _ _ _ _ _
     exact n1 ⟨rfl, rfl, rfl, rfl, rfl, rfl, trivial⟩
    ·have j18 := cdF h19 j18
     refine Lin.e_ (p_move rfl) h19 ?_
     iterate 8 refine Lin.sk rfl ?_
     refine Lin.p (v := .bool (false)) (p_pickF rfl rfl) ?_
     obtain rfl := si j18
     show At _ _ _ _ _ _
     exact n1 ⟨rfl, rfl, rfl, rfl, rfl, rfl, trivial⟩
   refine Tr.cond (b := b17) rfl (fun h21 => ?_) (fun h21 => ?_)
   ·have H1 := cdT h21 H1
    refine Tr.seq (Tr.region (Rg.m rfl (Rg.o (q_ldbA ty58 rfl Has.here rfl) (Rg.ef (e_lit (vs := [(0, .agg #[.int .i64 (v1.1), .int .i64 (v1.2)])]) [.int .i64 (v1.1), .int .i64 (v1.2)] Tryz.underlying43 ty58 rfl (by decide) (by decide) (by kernel_rfl)) rfl ?_))))
    rintro _ _ _ ⟨g22, rfl, rfl, rfl⟩
    obtain ⟨h25, H1⟩ := gd.of H1
    refine Rg.ef (e_app1 (l := Q8.1) (α := Row) v1 ((), ()) Tryz.underlying43 ty58 rfl rfl (h25.b (by decide)) h25.x rfl (ShpT.wfa _) (.cons dl2 (.cons Del.here .nil))) rfl ?_
    rintro _ _ _ ⟨a23, c24, rfl, rfl, rfl⟩
    refine Rg.a rfl (Rg.nl (nT (?_)))
    refine Tr.region (Rg.a (v := .bool (true)) rfl (Rg.nl (nT (?_))))
    refine Tr.seq (tLinS [(6, .bool (true)), (5, .slice a23 ((Q8.1 ++ [v1]).length) c24), (0, .slice x_v0.1 v0.length x_v0.2), (3, .pointer (some ⟨g1, 0, none⟩)), (7, .int .i64 (Q8.2.2))] Tryz.mixed (.inr (by kernel_rfl)) ⟨rfl, rfl, rfl, rfl, rfl, trivial⟩ rfl (Lin.m rfl (Lin.m rfl ?_)))
    obtain ⟨h26, H1⟩ := gd.of H1
    refine Lin.o (q_ixg Tryz.underlying43 ty58 rfl rfl h26 rfl (EntB.flat (Ent.b Ent.z))) (Lin.o (q_faeE (j := 0) Q8.2.2.toNat fa58_0 rfl (EntB.flat (Ent.b Ent.z)) h26.lt rfl) (Lin.o (q_lde (i := Q8.2.2.toNat) (j := 0) ty3 rfl (EntB.flat (Ent.b Ent.z)) h26.lt rfl) (Lin.p (p_fabE fa58_0 rfl rfl) (Lin.o (q_ldb ty3 rfl hs1 rfl) (Lin.p (p_neq rfl rfl) ?_)))))
    show At _ _ _ _ _ _
    refine nT (?_)
    refine Tr.cond (b := !decide (((nth v0 Q8.2.2.toNat).1) = v1.1)) rfl (fun h27 => ?_) (fun h27 => ?_)
    ·have H1 := cdT h27 H1
     refine Tr.region (Rg.m rfl (Rg.m rfl (Rg.m rfl (Rg.o (q_ixg Tryz.underlying43 ty58 rfl rfl h26 rfl (EntB.flat (Ent.b Ent.z))) (Rg.o (v := .agg #[.int .i64 ((nth v0 Q8.2.2.toNat).1), .int .i64 ((nth v0 Q8.2.2.toNat).2)]) (q_ldeA (i := Q8.2.2.toNat) ty58 rfl (EntB.flat (Ent.b Ent.z)) h26.lt) ?_)))))
     refine Rg.ef (e_lit (vs := [(0, .agg #[.int .i64 ((nth v0 Q8.2.2.toNat).1), .int .i64 ((nth v0 Q8.2.2.toNat).2)])]) [.int .i64 ((nth v0 Q8.2.2.toNat).1), .int .i64 ((nth v0 Q8.2.2.toNat).2)] Tryz.underlying43 ty58 rfl (by decide) (by decide) (by kernel_rfl)) rfl ?_
     rintro _ _ _ ⟨g28, rfl, rfl, rfl⟩
     obtain ⟨h31, H1⟩ := gd.of H1
     refine Rg.ef (e_app1 (l := (Q8.1 ++ [v1])) (α := Row) (nth v0 Q8.2.2.toNat) ((), ()) Tryz.underlying43 ty58 rfl rfl (h31.b (by decide)) h31.x rfl (ShpT.wfa _) (.cons dl1 (.cons Del.here .nil))) rfl ?_
     rintro _ _ _ ⟨a29, c30, rfl, rfl, rfl⟩
     refine Rg.a rfl (Rg.nl (nB (nT (?_))))
     refine Tr.region (Rg.m rfl ?_)
     obtain ⟨h32, H1⟩ := gd.of H1
     refine Rg.p (p_add rfl rfl h32) (Rg.a rfl (Rg.nl ?_))
     exact nLC ⟨(m15, (((Q8.1 ++ [v1]) ++ [nth v0 Q8.2.2.toNat]), true, Q8.2.2 + 1), (a29, c30)), hi12 _ (Option.some.inj H1).symm⟩ (Nat.lt_succ_self _) ⟨rfl, rfl, rfl, rfl, rfl, trivial⟩ Ents.refl (.cons dl1 (.cons Del.here .nil))
    ·have H1 := cdF h27 H1
     refine tSkip (nB (nT (?_)))
     refine Tr.region (Rg.m rfl ?_)
     obtain ⟨h33, H1⟩ := gd.of H1
     refine Rg.p (p_add rfl rfl h33) (Rg.a rfl (Rg.nl ?_))
     exact nLC ⟨(m15, ((Q8.1 ++ [v1]), true, Q8.2.2 + 1), (a23, c24)), hi12 _ (Option.some.inj H1).symm⟩ (Nat.lt_succ_self _) ⟨rfl, rfl, rfl, rfl, rfl, trivial⟩ Ents.refl (.cons dl1 (.cons Del.here .nil))
   ·have H1 := cdF h21 H1
    refine tSkip (nT (?_))
    refine Tr.seq (tLinS [(0, .slice x_v0.1 v0.length x_v0.2), (3, .pointer (some ⟨g1, 0, none⟩)), (5, .slice z9.1 Q8.1.length z9.2), (6, .bool (Q8.2.1)), (7, .int .i64 (Q8.2.2))] Tryz.mixed (.inr (by kernel_rfl)) ⟨rfl, rfl, rfl, rfl, rfl, trivial⟩ rfl (Lin.m rfl (Lin.m rfl ?_)))
    obtain ⟨h34, H1⟩ := gd.of H1
    refine Lin.o (q_ixg Tryz.underlying43 ty58 rfl rfl h34 rfl (EntB.flat (Ent.b Ent.z))) (Lin.o (q_faeE (j := 0) Q8.2.2.toNat fa58_0 rfl (EntB.flat (Ent.b Ent.z)) h34.lt rfl) (Lin.o (q_lde (i := Q8.2.2.toNat) (j := 0) ty3 rfl (EntB.flat (Ent.b Ent.z)) h34.lt rfl) (Lin.p (p_fabE fa58_0 rfl rfl) (Lin.o (q_ldb ty3 rfl Has.here rfl) (Lin.p (p_neq rfl rfl) ?_)))))
    show At _ _ _ _ _ _
    refine nT (?_)
    refine Tr.cond (b := !decide (((nth v0 Q8.2.2.toNat).1) = v1.1)) rfl (fun h35 => ?_) (fun h35 => ?_)
    ·have H1 := cdT h35 H1
     refine Tr.region (Rg.m rfl (Rg.m rfl (Rg.m rfl (Rg.o (q_ixg Tryz.underlying43 ty58 rfl rfl h34 rfl (EntB.flat (Ent.b Ent.z))) (Rg.o (v := .agg #[.int .i64 ((nth v0 Q8.2.2.toNat).1), .int .i64 ((nth v0 Q8.2.2.toNat).2)]) (q_ldeA (i := Q8.2.2.toNat) ty58 rfl (EntB.flat (Ent.b Ent.z)) h34.lt) ?_)))))
     refine Rg.ef (e_lit (vs := [(0, .agg #[.int .i64 ((nth v0 Q8.2.2.toNat).1), .int .i64 ((nth v0 Q8.2.2.toNat).2)])]) [.int .i64 ((nth v0 Q8.2.2.toNat).1), .int .i64 ((nth v0 Q8.2.2.toNat).2)] Tryz.underlying43 ty58 rfl (by decide) (by decide) (by kernel_rfl)) rfl ?_
     rintro _ _ _ ⟨g36, rfl, rfl, rfl⟩
     obtain ⟨h39, H1⟩ := gd.of H1
     refine Rg.ef (e_app1 (l := Q8.1) (α := Row) (nth v0 Q8.2.2.toNat) ((), ()) Tryz.underlying43 ty58 rfl rfl (h39.b (by decide)) h39.x rfl (ShpT.wfa _) (.cons dl2 (.cons Del.here .nil))) rfl ?_
     rintro _ _ _ ⟨a37, c38, rfl, rfl, rfl⟩
     refine Rg.a rfl (Rg.nl (nB (nT (?_))))
     refine Tr.region (Rg.m rfl ?_)
     obtain ⟨h40, H1⟩ := gd.of H1
     refine Rg.p (p_add rfl rfl h40) (Rg.a rfl (Rg.nl ?_))
     exact nLC ⟨(m15, ((Q8.1 ++ [nth v0 Q8.2.2.toNat]), Q8.2.1, Q8.2.2 + 1), (a37, c38)), hi12 _ (Option.some.inj H1).symm⟩ (Nat.lt_succ_self _) ⟨rfl, rfl, rfl, rfl, rfl, trivial⟩ Ents.refl (.cons dl1 (.cons Del.here .nil))
    ·have H1 := cdF h35 H1
     refine tSkip (nB (nT (?_)))
     refine Tr.region (Rg.m rfl ?_)
     obtain ⟨h41, H1⟩ := gd.of H1
     refine Rg.p (p_add rfl rfl h41) (Rg.a rfl (Rg.nl ?_))
     exact nLC ⟨(m15, (Q8.1, Q8.2.1, Q8.2.2 + 1), (z9.1, z9.2)), hi12 _ (Option.some.inj H1).symm⟩ (Nat.lt_succ_self _) ⟨rfl, rfl, rfl, rfl, rfl, trivial⟩ Ents.refl (.cons Del.here (.cons Del.here .nil))
  ·have H1 := cdF h16 H1
   refine tExit (xT (xT (xE (?_))))
   have hx := hb13 _ (Option.some.inj H1).symm; subst hx
   exact nMC (z9.1, z9.2) ⟨rfl, rfl, rfl, trivial⟩ Ents.refl (.cons Del.here (.cons Del.here .nil))
 ·intro y10
  show At _ _ [(3, .pointer (some ⟨g1, 0, none⟩)), (5, .slice y10.1 x4.1.length y10.2), (6, .bool (x4.2))] _ [box g1 58 [.int .i64 (v1.1), .int .i64 (v1.2)], tree (.slice y10.1 x4.1.length y10.2) x4.1] _
  refine nT (?_)
  refine Tr.seq (Tr.seq (Tr.region (Rg.m rfl (Rg.p (p_not rfl) (Rg.nl ?_)))))
  refine nT (?_)
  refine Tr.cond (b := !x4.2) rfl (fun h42 => ?_) (fun h42 => ?_)
  ·have H := cdT h42 H
   refine Tr.region (Rg.m rfl (Rg.o (q_ldbA ty58 rfl Has.here rfl) (Rg.ef (e_lit (vs := [(0, .agg #[.int .i64 (v1.1), .int .i64 (v1.2)])]) [.int .i64 (v1.1), .int .i64 (v1.2)] Tryz.underlying43 ty58 rfl (by decide) (by decide) (by kernel_rfl)) rfl ?_)))
   rintro _ _ _ ⟨g43, rfl, rfl, rfl⟩
   obtain ⟨h46, H⟩ := gd.of H
   refine Rg.ef (e_app1 (l := x4.1) (α := Row) v1 ((), ()) Tryz.underlying43 ty58 rfl rfl (h46.b (by decide)) h46.x rfl (ShpT.wfa _) (.cons dl2 (.cons Del.here .nil))) rfl ?_
   rintro _ _ _ ⟨a44, c45, rfl, rfl, rfl⟩
   refine Rg.a rfl (Rg.nl (nT (?_)))
   refine Tr.seq (Tr.region (Rg.m rfl (Rg.a rfl (Rg.nl (nT (?_))))))
   refine tRet ?_
   obtain rfl := si H
   exact back1 (a44, c45) rfl (ResV.tmp (v := .slice a44 ((x4.1 ++ [v1]).length) c45) rfl) rfl Ents.nil (.cons Del.here .nil)
  ·have H := cdF h42 H
   refine tSkip (nT (?_))
   refine Tr.seq (Tr.region (Rg.m rfl (Rg.a rfl (Rg.nl (nT (?_))))))
   refine tRet ?_
   obtain rfl := si H
   exact back1 y10 rfl (ResV.tmp (v := .slice y10.1 x4.1.length y10.2) rfl) rfl Ents.nil (.cons dl1 .nil)
noncomputable def p_spec_l2Merge_b0 (v1 : (List Row)) (Q10 : (List Row) × Int) : Option (((List Row) × Int) ⊕ ((List Row))) := cond (decide (Q10.2 < (v1.length : Int))) (gd (ix Q10.2 v1.length) <| bd (p_spec_l2Put Q10.1 (nth v1 Q10.2.toNat)) fun r20 => gd (I64 (Q10.2 + 1)) <| some (.inl (r20, Q10.2 + 1))) (some (.inr Q10.1))
noncomputable def p_spec_l2Merge (v0 : (List Row)) (v1 : (List Row)) : Option ((List Row)) := gd (room (([] : List Row).length + v0.length)) <| bd (lp (p_spec_l2Merge_b0 v1) ((([] : List Row) ++ v0), 0)) fun x6 => some x6
theorem c_spec_l2Merge {r : (List Row)} (v0 : (List Row)) (x_v0 : Option Addr × Nat) (v1 : (List Row)) (x_v1 : Option Addr × Nat) (H : p_spec_l2Merge v0 v1 = some r) : Fn' Tryz.prog 81 #[.slice x_v0.1 v0.length x_v0.2, .slice x_v1.1 v1.length x_v1.2] [imm (.slice x_v0.1 v0.length x_v0.2) v0, imm (.slice x_v1.1 v1.length x_v1.2) v1] [] (ι := Option Addr × Nat) (fun x => .slice x.1 r.length x.2) (fun _ => []) (fun x => [tree (.slice x.1 r.length x.2) r]) := by
 refine calls_of (args := [_, _]) Tryz.func81 rfl (by kernel_rfl) Tryz.ntmps81 (by simp) fun c => ?_
 unfold p_spec_l2Merge at H
 refine Tr.seq (Tr.region (Rg.a (v := .slice none 0 0) rfl (Rg.nl (nT (?_)))))
 refine Tr.seq (Tr.region (Rg.ef (e_lit0 Row Tryz.underlying43 ty58) rfl ?_))
 rintro _ _ _ ⟨a1, c2, rfl, rfl, rfl⟩
 refine Rg.m rfl ?_
 obtain ⟨h5, H⟩ := gd.of H
 refine Rg.ef (e_appF (l := ([] : List Row)) (k := v0) (α := Row) Tryz.underlying43 ty58 rfl rfl (h5.b (by decide)) h5.x (.cons Del.here .nil) (Ent.b Ent.z)) rfl ?_
 rintro _ _ _ ⟨a3, c4, rfl, rfl, rfl⟩
 refine Rg.a rfl (Rg.nl (nT (?_)))
 refine Tr.seq (Tr.seq (Tr.region (Rg.a (v := .int .i64 (0)) rfl (Rg.nl (nT (?_))))))
 obtain ⟨x6, hx7, H⟩ := bd.of H
 obtain ⟨n8, hx7⟩ := lp.of hx7
 refine tMidNC (ι := Option Addr × Nat) (fun ψ => [(5, .slice ψ.1 x6.length ψ.2)]) (fun ψ => [tree (.slice ψ.1 x6.length ψ.2) x6]) ?_ ?_
 ·refine Tr.block (tLoopC (ι := { q : Nat × ((List Row) × Int) × (Option Addr × Nat) // itr (p_spec_l2Merge_b0 v1) q.1 q.2.1 = some x6 }) (fun ζ => [(1, .slice x_v1.1 v1.length x_v1.2), (5, .slice ζ.1.2.2.1 ζ.1.2.1.1.length ζ.1.2.2.2), (6, .int .i64 (ζ.1.2.1.2))]) (fun ζ => [tree (.slice ζ.1.2.2.1 ζ.1.2.1.1.length ζ.1.2.2.2) ζ.1.2.1.1]) (fun ζ => ζ.1.1) ⟨(n8, ((([] : List Row) ++ v0), 0), (a3, c4)), hx7⟩ ⟨rfl, rfl, rfl, trivial⟩ (.cons Del.here .nil) ?_)
  rintro ⟨⟨m9, Q10, z11⟩, hk16⟩
  obtain ⟨m17, t13, e, H1, hi14, hb15⟩ := itr.of (n := m9) (s := Q10) hk16
  subst e; unfold p_spec_l2Merge_b0 at H1
  show Tr _ _ _ _ _ [(1, .slice x_v1.1 v1.length x_v1.2), (5, .slice z11.1 Q10.1.length z11.2), (6, .int .i64 (Q10.2))] _ [tree (.slice z11.1 Q10.1.length z11.2) Q10.1]
  refine Tr.seq (Tr.seq (Tr.region (Rg.m rfl (Rg.m rfl (Rg.p (p_len 58 Tryz.underlying43 rfl) ?_)))))
  refine Rg.p (p_lss rfl rfl) (Rg.nl (nT (?_)))
  refine Tr.cond (b := decide (Q10.2 < (v1.length : Int))) rfl (fun h18 => ?_) (fun h18 => ?_)
  ·have H1 := cdT h18 H1
   refine tSkip (nT (?_))
   refine Tr.seq (Tr.block (Tr.region (Rg.m rfl (Rg.m rfl (Rg.m rfl ?_)))))
   obtain ⟨h19, H1⟩ := gd.of H1
   refine Rg.o (q_ixg Tryz.underlying43 ty58 rfl rfl h19 rfl (EntB.flat (Ent.b Ent.z.s))) (Rg.o (v := .agg #[.int .i64 ((nth v1 Q10.2.toNat).1), .int .i64 ((nth v1 Q10.2.toNat).2)]) (q_ldeA (i := Q10.2.toNat) ty58 rfl (EntB.flat (Ent.b Ent.z.s)) h19.lt) ?_)
   obtain ⟨r20, h21, H1⟩ := bd.of H1
   refine Rg.ef (e_callB (c_spec_l2Put Q10.1 z11 (nth v1 Q10.2.toNat) h21) (fun _ => (Solo.tree Solo.nil)) rfl (EntsB.cons (EntB.tree Has.here) EntsB.nil)) rfl ?_
   rintro _ _ _ ⟨x22, rfl, rfl, rfl⟩
   refine Rg.a rfl (Rg.nl (nB (nT (?_))))
   refine Tr.region (Rg.m rfl ?_)
   obtain ⟨h23, H1⟩ := gd.of H1
   refine Rg.p (p_add rfl rfl h23) (Rg.a rfl (Rg.nl ?_))
   exact nLC ⟨(m17, (r20, Q10.2 + 1), (x22.1, x22.2)), hi14 _ (Option.some.inj H1).symm⟩ (Nat.lt_succ_self _) ⟨rfl, rfl, rfl, trivial⟩ Ents.refl (.cons Del.here .nil)
  ·have H1 := cdF h18 H1
   refine tExit (xT (xT (xE (?_))))
   have hx := hb15 _ (Option.some.inj H1).symm; subst hx
   exact nMC (z11.1, z11.2) ⟨rfl, trivial⟩ Ents.refl (.cons Del.here .nil)
 ·intro y12
  show At _ _ [(5, .slice y12.1 x6.length y12.2)] _ [tree (.slice y12.1 x6.length y12.2) x6] _
  refine nT (?_)
  refine Tr.seq (Tr.region (Rg.m rfl (Rg.a rfl (Rg.nl (nT (?_))))))
  refine tRet ?_
  obtain rfl := si H
  exact back1 y12 rfl (ResV.tmp (v := .slice y12.1 x6.length y12.2) rfl) rfl Ents.nil (.cons Del.here .nil)
noncomputable def p_spec_l13Rows_b0 (v0 : Store) (v1 : Int) (Q11 : (List Row) × Int) : Option (((List Row) × Int) ⊕ ((List Row))) := cond (decide (Q11.2 < (v0.2.1.length : Int))) (gd (ix Q11.2 v0.2.1.length) <| bd (p_spec_l12Of (nth v0.2.1 Q11.2.toNat) v1) fun r21 => bd (p_spec_l2Merge Q11.1 r21) fun r24 => gd (I64 (Q11.2 + 1)) <| some (.inl (r24, Q11.2 + 1))) (some (.inr Q11.1))
noncomputable def p_spec_l13Rows_b1 (v0 : Store) (v1 : Int) (Q32 : (List Row) × Int) : Option (((List Row) × Int) ⊕ ((List Row))) := cond (decide (Q32.2 < (v0.2.2.length : Int))) (gd (ix Q32.2 v0.2.2.length) <| cond (decide (((nth v0.2.2 Q32.2.toNat).1) = v1)) (bd (p_spec_l2Put Q32.1 ((nth v0.2.2 Q32.2.toNat).2)) fun r43 => gd (I64 (Q32.2 + 1)) <| some (.inl (r43, Q32.2 + 1))) (gd (I64 (Q32.2 + 1)) <| some (.inl (Q32.1, Q32.2 + 1)))) (some (.inr Q32.1))
noncomputable def p_spec_l13Rows (v0 : Store) (v1 : Int) : Option ((List Row)) := bd (lp (p_spec_l13Rows_b0 v0 v1) (([] : List Row), 0)) fun x7 => bd (lp (p_spec_l13Rows_b1 v0 v1) (x7, 0)) fun x28 => some x28
theorem c_spec_l13Rows {r : (List Row)} (v0 : Store) (x_v0 : ((Option Addr × Nat) × (Option Addr × Nat)) × (Option Addr × Nat) × (Option Addr × Nat)) (v1 : Int) (H : p_spec_l13Rows v0 v1 = some r) : Fn' Tryz.prog 38 #[.agg #[.slice x_v0.1.1.1 v0.1.1.length x_v0.1.1.2, .slice x_v0.1.2.1 v0.1.2.length x_v0.1.2.2, .slice x_v0.2.1.1 v0.2.1.length x_v0.2.1.2, .slice x_v0.2.2.1 v0.2.2.length x_v0.2.2.2], .int .i64 (v1)] [imm (.slice x_v0.1.1.1 v0.1.1.length x_v0.1.1.2) v0.1.1, imm (.slice x_v0.1.2.1 v0.1.2.length x_v0.1.2.2) v0.1.2, imm (.slice x_v0.2.1.1 v0.2.1.length x_v0.2.1.2) v0.2.1, imm (.slice x_v0.2.2.1 v0.2.2.length x_v0.2.2.2) v0.2.2] [] (ι := Option Addr × Nat) (fun x => .slice x.1 r.length x.2) (fun _ => []) (fun x => [tree (.slice x.1 r.length x.2) r]) := by
 refine calls_of (args := [_, _]) Tryz.func38 rfl (by kernel_rfl) Tryz.ntmps38 (by simp) fun c => ?_
 unfold p_spec_l13Rows at H
 refine Tr.openD Ent.z fun X1 => (Tr.openD Ent.z.s.s fun X2 => (Tr.openD Ent.z.s.s.s.s fun X3 => (Tr.seq (Tr.region (Rg.ef (e_box (t := 39) rfl) rfl ?_)))))
 rintro _ _ _ ⟨g4, rfl, rfl, rfl⟩
 refine Rg.a (v := .slice none 0 0) rfl (Rg.nl (nT (?_)))
 refine Tr.seq (Tr.region (Rg.ef (e_lit0 Row Tryz.underlying43 ty58) rfl ?_))
 rintro _ _ _ ⟨a5, c6, rfl, rfl, rfl⟩
 refine Rg.a rfl (Rg.nl (nT (?_)))
 refine Tr.seq (Tr.seq (Tr.region (Rg.a (v := .int .i64 (0)) rfl (Rg.nl (nT (?_))))))
 obtain ⟨x7, hx8, H⟩ := bd.of H
 obtain ⟨n9, hx8⟩ := lp.of hx8
 refine tMidNC (ι := Option Addr × Nat) (fun ψ => [(1, .int .i64 (v1)), (2, .pointer (some ⟨g4, 0, none⟩)), (5, .slice ψ.1 x7.length ψ.2)]) (fun ψ => [box g4 39 [.slice x_v0.1.1.1 v0.1.1.length x_v0.1.1.2, .slice x_v0.1.2.1 v0.1.2.length x_v0.1.2.2, .slice x_v0.2.1.1 v0.2.1.length x_v0.2.1.2, .slice x_v0.2.2.1 v0.2.2.length x_v0.2.2.2], tree (.slice ψ.1 x7.length ψ.2) x7]) ?_ ?_
 ·refine Tr.block (tLoopC (ι := { q : Nat × ((List Row) × Int) × (Option Addr × Nat) // itr (p_spec_l13Rows_b0 v0 v1) q.1 q.2.1 = some x7 }) (fun ζ => [(1, .int .i64 (v1)), (2, .pointer (some ⟨g4, 0, none⟩)), (5, .slice ζ.1.2.2.1 ζ.1.2.1.1.length ζ.1.2.2.2), (6, .int .i64 (ζ.1.2.1.2))]) (fun ζ => [box g4 39 [.slice x_v0.1.1.1 v0.1.1.length x_v0.1.1.2, .slice x_v0.1.2.1 v0.1.2.length x_v0.1.2.2, .slice x_v0.2.1.1 v0.2.1.length x_v0.2.1.2, .slice x_v0.2.2.1 v0.2.2.length x_v0.2.2.2], tree (.slice ζ.1.2.2.1 ζ.1.2.1.1.length ζ.1.2.2.2) ζ.1.2.1.1]) (fun ζ => ζ.1.1) ⟨(n9, (([] : List Row), 0), (a5, c6)), hx8⟩ ⟨rfl, rfl, rfl, rfl, trivial⟩ (.cons dl1 (.cons Del.here .nil)) ?_)
  rintro ⟨⟨m10, Q11, z12⟩, hk17⟩
  obtain ⟨m18, t14, e, H1, hi15, hb16⟩ := itr.of (n := m10) (s := Q11) hk17
  subst e; unfold p_spec_l13Rows_b0 at H1
  show Tr _ _ _ _ _ [(1, .int .i64 (v1)), (2, .pointer (some ⟨g4, 0, none⟩)), (5, .slice z12.1 Q11.1.length z12.2), (6, .int .i64 (Q11.2))] _ [box g4 39 [.slice x_v0.1.1.1 v0.1.1.length x_v0.1.1.2, .slice x_v0.1.2.1 v0.1.2.length x_v0.1.2.2, .slice x_v0.2.1.1 v0.2.1.length x_v0.2.1.2, .slice x_v0.2.2.1 v0.2.2.length x_v0.2.2.2], tree (.slice z12.1 Q11.1.length z12.2) Q11.1]
  refine Tr.seq (Tr.seq (Tr.region (Rg.m rfl (Rg.p (p_fabE fa39_1 rfl rfl) (Rg.o (q_ldb ty36 rfl Has.here rfl) ?_)))))
  refine Rg.p (p_len 72 Tryz.underlying36 rfl) (Rg.p (p_lss rfl rfl) (Rg.nl (nT (?_))))
  refine Tr.cond (b := decide (Q11.2 < (v0.2.1.length : Int))) rfl (fun h19 => ?_) (fun h19 => ?_)
  ·have H1 := cdT h19 H1
   refine tSkip (nT (?_))
   refine Tr.seq (Tr.block (Tr.region (Rg.m rfl (Rg.p (p_fabE fa39_1 rfl rfl) (Rg.o (q_ldb ty36 rfl Has.here rfl) ?_)))))
   refine Rg.m rfl ?_
   obtain ⟨h20, H1⟩ := gd.of H1
   refine Rg.o (q_ixg Tryz.underlying36 ty72 rfl rfl h20 rfl (Ent.b (Ent.darr Ent.z))) (Rg.o (v := .agg #[.slice (((X3 Q11.2.toNat).1).1) (((nth v0.2.1 Q11.2.toNat).1).length) (((X3 Q11.2.toNat).1).2.1), .slice (((X3 Q11.2.toNat).2).1) (((nth v0.2.1 Q11.2.toNat).2).length) (((X3 Q11.2.toNat).2).2.1)]) (q_ldeA (i := Q11.2.toNat) ty72 rfl (Ent.b (Ent.darr Ent.z)) h20.lt) (Rg.m rfl ?_))
   obtain ⟨r21, h22, H1⟩ := bd.of H1
   refine Rg.ef (e_call (c_spec_l12Of (nth v0.2.1 Q11.2.toNat) ((((X3 Q11.2.toNat).1).1, ((X3 Q11.2.toNat).1).2.1), (((X3 Q11.2.toNat).2).1, ((X3 Q11.2.toNat).2).2.1)) v1 h22) rfl (Ents.cons (Ent.dimm (Ent.dfst (Ent.del Ent.z h20.lt))) (Ents.cons (Ent.dimm (Ent.dsnd (Ent.del Ent.z h20.lt))) Ents.nil)) Take.nil) rfl ?_
   rintro _ _ _ ⟨x23, rfl, rfl, rfl⟩
   obtain ⟨r24, h25, H1⟩ := bd.of H1
   refine Rg.ef (e_callB (c_spec_l2Merge Q11.1 z12 r21 x23 h25) (fun _ => (Solo.tree Solo.nil)) rfl (EntsB.cons (EntB.tree hs1) (EntsB.cons (Ent.b Ent.z) EntsB.nil))) rfl ?_
   rintro _ _ _ ⟨x26, rfl, rfl, rfl⟩
   refine Rg.a rfl (Rg.nl (nB (nT (?_))))
   refine Tr.region (Rg.m rfl ?_)
   obtain ⟨h27, H1⟩ := gd.of H1
   refine Rg.p (p_add rfl rfl h27) (Rg.a rfl (Rg.nl ?_))
   exact nLC ⟨(m18, (r24, Q11.2 + 1), (x26.1, x26.2)), hi15 _ (Option.some.inj H1).symm⟩ (Nat.lt_succ_self _) ⟨rfl, rfl, rfl, rfl, trivial⟩ Ents.refl.s (.cons dl1 (.cons Del.here .nil))
  ·have H1 := cdF h19 H1
   refine tExit (xT (xT (xE (?_))))
   have hx := hb16 _ (Option.some.inj H1).symm; subst hx
   exact nMC (z12.1, z12.2) ⟨rfl, rfl, rfl, trivial⟩ Ents.refl (.cons Del.here (.cons Del.here .nil))
 ·intro y13
  show At _ _ [(1, .int .i64 (v1)), (2, .pointer (some ⟨g4, 0, none⟩)), (5, .slice y13.1 x7.length y13.2)] _ [box g4 39 [.slice x_v0.1.1.1 v0.1.1.length x_v0.1.1.2, .slice x_v0.1.2.1 v0.1.2.length x_v0.1.2.2, .slice x_v0.2.1.1 v0.2.1.length x_v0.2.1.2, .slice x_v0.2.2.1 v0.2.2.length x_v0.2.2.2], tree (.slice y13.1 x7.length y13.2) x7] _
  refine nT (?_)
  refine Tr.seq (Tr.seq (Tr.region (Rg.a (v := .int .i64 (0)) rfl (Rg.nl (nT (?_))))))
  obtain ⟨x28, hx29, H⟩ := bd.of H
  obtain ⟨n30, hx29⟩ := lp.of hx29
  refine tMidNC (ι := Option Addr × Nat) (fun ψ => [(5, .slice ψ.1 x28.length ψ.2)]) (fun ψ => [tree (.slice ψ.1 x28.length ψ.2) x28]) ?_ ?_
  ·refine Tr.block (tLoopC (ι := { q : Nat × ((List Row) × Int) × (Option Addr × Nat) // itr (p_spec_l13Rows_b1 v0 v1) q.1 q.2.1 = some x28 }) (fun ζ => [(1, .int .i64 (v1)), (2, .pointer (some ⟨g4, 0, none⟩)), (5, .slice ζ.1.2.2.1 ζ.1.2.1.1.length ζ.1.2.2.2), (7, .int .i64 (ζ.1.2.1.2))]) (fun ζ => [box g4 39 [.slice x_v0.1.1.1 v0.1.1.length x_v0.1.1.2, .slice x_v0.1.2.1 v0.1.2.length x_v0.1.2.2, .slice x_v0.2.1.1 v0.2.1.length x_v0.2.1.2, .slice x_v0.2.2.1 v0.2.2.length x_v0.2.2.2], tree (.slice ζ.1.2.2.1 ζ.1.2.1.1.length ζ.1.2.2.2) ζ.1.2.1.1]) (fun ζ => ζ.1.1) ⟨(n30, (x7, 0), (y13.1, y13.2)), hx29⟩ ⟨rfl, rfl, rfl, rfl, trivial⟩ (.cons Del.here (.cons Del.here .nil)) ?_)
   rintro ⟨⟨m31, Q32, z33⟩, hk38⟩
   obtain ⟨m39, t35, e, H1, hi36, hb37⟩ := itr.of (n := m31) (s := Q32) hk38
   subst e; unfold p_spec_l13Rows_b1 at H1
   show Tr _ _ _ _ _ [(1, .int .i64 (v1)), (2, .pointer (some ⟨g4, 0, none⟩)), (5, .slice z33.1 Q32.1.length z33.2), (7, .int .i64 (Q32.2))] _ [box g4 39 [.slice x_v0.1.1.1 v0.1.1.length x_v0.1.1.2, .slice x_v0.1.2.1 v0.1.2.length x_v0.1.2.2, .slice x_v0.2.1.1 v0.2.1.length x_v0.2.1.2, .slice x_v0.2.2.1 v0.2.2.length x_v0.2.2.2], tree (.slice z33.1 Q32.1.length z33.2) Q32.1]
   refine Tr.seq (Tr.seq (Tr.region (Rg.m rfl (Rg.p (p_fabE fa39_2 rfl rfl) (Rg.o (q_ldb ty37 rfl Has.here rfl) ?_)))))
   refine Rg.p (p_len 75 Tryz.underlying37 rfl) (Rg.p (p_lss rfl rfl) (Rg.nl (nT (?_))))
   refine Tr.cond (b := decide (Q32.2 < (v0.2.2.length : Int))) rfl (fun h40 => ?_) (fun h40 => ?_)
   ·have H1 := cdT h40 H1
    refine tSkip (nT (?_))
    refine Tr.seq (Tr.block (Tr.seq (Tr.region (Rg.p (p_fabE fa39_2 rfl rfl) (Rg.o (q_ldb ty37 rfl Has.here rfl) ?_)))))
    refine Rg.m rfl ?_
    obtain ⟨h41, H1⟩ := gd.of H1
    refine Rg.o (q_ixg Tryz.underlying37 ty75 rfl rfl h41 rfl (EntB.flat (Ent.b Ent.z.s.s.s.s.s.s))) (Rg.o (q_faeE (j := 0) Q32.2.toNat fa75_0 rfl (EntB.flat (Ent.b Ent.z.s.s.s.s.s.s)) h41.lt rfl) (Rg.o (q_lde (i := Q32.2.toNat) (j := 0) ty3 rfl (EntB.flat (Ent.b Ent.z.s.s.s.s.s.s)) h41.lt rfl) (Rg.m rfl (Rg.p (p_eql rfl rfl) (Rg.nl ?_)))))
    refine nT (?_)
    refine Tr.cond (b := decide (((nth v0.2.2 Q32.2.toNat).1) = v1)) rfl (fun h42 => ?_) (fun h42 => ?_)
    ·have H1 := cdT h42 H1
     refine Tr.region (Rg.m rfl (Rg.p (p_fabE fa39_2 rfl rfl) (Rg.o (q_ldb ty37 rfl Has.here rfl) (Rg.m rfl (Rg.o (q_ixg Tryz.underlying37 ty75 rfl rfl h41 rfl (EntB.flat (Ent.b Ent.z.s.s.s.s.s.s))) ?_)))))
     refine Rg.o (q_faeE (j := 0) Q32.2.toNat fa75_1 rfl (EntB.flat (Ent.b Ent.z.s.s.s.s.s.s)) h41.lt rfl) (Rg.o (v := .agg #[.int .i64 (((nth v0.2.2 Q32.2.toNat).2).1), .int .i64 (((nth v0.2.2 Q32.2.toNat).2).2)]) (q_ldeP [.int .i64 (((nth v0.2.2 Q32.2.toNat).2).1), .int .i64 (((nth v0.2.2 Q32.2.toNat).2).2)] (l := v0.2.2) (E := fun i => Flat.enc (nth v0.2.2 i)) (oa := x_v0.2.2.1) (i := Q32.2.toNat) (j := 1) ty58 rfl (EntB.flat (Ent.b Ent.z.s.s.s.s.s.s)) h41.lt rfl rfl) ?_)
     obtain ⟨r43, h44, H1⟩ := bd.of H1
     refine Rg.ef (e_callB (c_spec_l2Put Q32.1 z33 ((nth v0.2.2 Q32.2.toNat).2) h44) (fun _ => (Solo.tree Solo.nil)) rfl (EntsB.cons (EntB.tree hs1) EntsB.nil)) rfl ?_
     rintro _ _ _ ⟨x45, rfl, rfl, rfl⟩
     refine Rg.a rfl (Rg.nl (nB (nT (?_))))
     refine Tr.region (Rg.m rfl ?_)
     obtain ⟨h46, H1⟩ := gd.of H1
     refine Rg.p (p_add rfl rfl h46) (Rg.a rfl (Rg.nl ?_))
     exact nLC ⟨(m39, (r43, Q32.2 + 1), (x45.1, x45.2)), hi36 _ (Option.some.inj H1).symm⟩ (Nat.lt_succ_self _) ⟨rfl, rfl, rfl, rfl, trivial⟩ Ents.refl (.cons dl1 (.cons Del.here .nil))
    ·have H1 := cdF h42 H1
     refine tSkip (nB (nT (?_)))
     refine Tr.region (Rg.m rfl ?_)
     obtain ⟨h47, H1⟩ := gd.of H1
     refine Rg.p (p_add rfl rfl h47) (Rg.a rfl (Rg.nl ?_))
     exact nLC ⟨(m39, (Q32.1, Q32.2 + 1), (z33.1, z33.2)), hi36 _ (Option.some.inj H1).symm⟩ (Nat.lt_succ_self _) ⟨rfl, rfl, rfl, rfl, trivial⟩ Ents.refl (.cons Del.here (.cons Del.here .nil))
   ·have H1 := cdF h40 H1
    refine tExit (xT (xT (xE (?_))))
    have hx := hb37 _ (Option.some.inj H1).symm; subst hx
    exact nMC (z33.1, z33.2) ⟨rfl, trivial⟩ Ents.refl (.cons dl1 .nil)
  ·intro y34
   show At _ _ [(5, .slice y34.1 x28.length y34.2)] _ [tree (.slice y34.1 x28.length y34.2) x28] _
   refine nT (?_)
   refine Tr.seq (Tr.region (Rg.m rfl (Rg.a rfl (Rg.nl (nT (?_))))))
   refine tRet ?_
   obtain rfl := si H
   exact back1 y34 rfl (ResV.tmp (v := .slice y34.1 x28.length y34.2) rfl) rfl Ents.nil (.cons Del.here .nil)
noncomputable def p_spec_StoreOk_b0 (v0 : Store) (Q16 : Int) : Option ((Int) ⊕ (Unit ⊕ Bool)) := cond (decide (Q16 < (v0.2.1.length : Int))) (gd (ix Q16 v0.2.1.length) <| bd (p_spec_l13Part (nth v0.2.1 Q16.toNat) (v0.1.1.length : Int)) fun r26 => cond (!r26) (some (.inr (.inr false))) (gd (I64 (Q16 + 1)) <| some (.inl (Q16 + 1)))) (some (.inr (.inl ())))
noncomputable def p_spec_StoreOk_b1 (v0 : Store) (Q35 : Int) : Option ((Int) ⊕ (Unit ⊕ Bool)) := cond (decide (Q35 < (v0.2.2.length : Int))) (bd (gd (ix Q35 v0.2.2.length) <| bd (p_spec_l6In ((nth v0.2.2 Q35.toNat).1) 1 (v0.1.1.length : Int)) fun r47 => cond (!r47) (some (true)) (bd (p_spec_l2Row ((nth v0.2.2 Q35.toNat).2)) fun r50 => some (!r50))) fun b44 => cond (b44) (some (.inr (.inr false))) (gd (I64 (Q35 + 1)) <| some (.inl (Q35 + 1)))) (some (.inr (.inl ())))
noncomputable def p_spec_StoreOk_b2 (v0 : Store) (Q59 : Int) : Option ((Int) ⊕ (Unit ⊕ Bool)) := cond (decide (Q59 ≤ (v0.1.1.length : Int))) (bd (p_spec_l13Rows v0 Q59) fun r68 => cond (decide (24 < (r68.length : Int))) (some (.inr (.inr false))) (gd (I64 (Q59 + 1)) <| some (.inl (Q59 + 1)))) (some (.inr (.inl ())))
noncomputable def p_spec_StoreOk (v0 : Store) : Option (Bool) := bd (bd (p_spec_IndexOk v0.1) fun r7 => cond (!r7) (some (true)) (cond (decide (6 < (v0.2.1.length : Int))) (some (true)) (some (decide (20 < (v0.2.2.length : Int)))))) fun b5 => cond (b5) (some false) (bd (lp (p_spec_StoreOk_b0 v0) 0) <| sw (fun _ => bd (lp (p_spec_StoreOk_b1 v0) 0) <| sw (fun _ => bd (lp (p_spec_StoreOk_b2 v0) 1) <| sw (fun _ => some true) (fun q => some q)) (fun q => some q)) (fun q => some q))
end Go.Proofs.YtjaibcpidajdcaaGreat
