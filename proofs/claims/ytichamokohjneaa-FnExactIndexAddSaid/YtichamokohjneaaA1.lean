/- The walks and the plain laws, part 1: each function that the law reaches computes what its plain function tells, and what the plain functions answer. Conditions: lengths that memory can hold. -/
import Derived.Test.YtichamokohjneaaSxB
import Derived.Test.YtichamokohjneaaProg
namespace Go.Proofs.Ytichamokohjneaa
open Go Go.Sx
theorem Try.mixed : Try.prog.follows .mixedOrders = true := by kernel_rfl
abbrev Tag := ByteArray × ByteArray
abbrev PostH := Tag × HV
abbrev Post := Tag × (List Int)
abbrev Index := (List (List Tag)) × (List Post)
abbrev Row := Int × Int
abbrev Part := (List Int) × (List (List Row))
abbrev Sample := Int × Row
abbrev Store := Index × (List Part) × (List Sample)
abbrev File := Int × Part
abbrev Disk := (List File) × (List Int) × (List (List Tag)) × Int
abbrev World := Store × Disk
instance : DecidableEq Tag := inferInstanceAs (DecidableEq (ByteArray × ByteArray))
instance : DecidableEq Post := inferInstanceAs (DecidableEq (Tag × (List Int)))
instance : DecidableEq Index := inferInstanceAs (DecidableEq ((List (List Tag)) × (List Post)))
instance : DecidableEq Row := inferInstanceAs (DecidableEq (Int × Int))
instance : DecidableEq Part := inferInstanceAs (DecidableEq ((List Int) × (List (List Row))))
instance : DecidableEq Sample := inferInstanceAs (DecidableEq (Int × Row))
instance : DecidableEq Store := inferInstanceAs (DecidableEq (Index × (List Part) × (List Sample)))
instance : DecidableEq File := inferInstanceAs (DecidableEq (Int × Part))
instance : DecidableEq Disk := inferInstanceAs (DecidableEq ((List File) × (List Int) × (List (List Tag)) × Int))
instance : DecidableEq World := inferInstanceAs (DecidableEq (Store × Disk))
theorem ty3 : TyI Try.prog 3 false 1 (.int .i64 0) 8 := ⟨by kernel_rfl, by kernel_rfl, rfl⟩
theorem ty5 : TyI Try.prog 5 false 1 (.int .u8 0) 1 := ⟨by kernel_rfl, by kernel_rfl, rfl⟩
theorem ty9 : TyI Try.prog 9 false 1 (.string ⟨#[]⟩) 16 := ⟨by kernel_rfl, by kernel_rfl, rfl⟩
theorem ty23 : TyI Try.prog 23 false 1 (.slice none 0 0) 24 := ⟨by kernel_rfl, by kernel_rfl, rfl⟩
theorem ty24 : TyI Try.prog 24 false 1 (.slice none 0 0) 24 := ⟨by kernel_rfl, by kernel_rfl, rfl⟩
theorem ty26 : TyI Try.prog 26 true 2 (.agg #[.slice none 0 0, .slice none 0 0]) 48 := ⟨by kernel_rfl, by kernel_rfl, rfl⟩
theorem fa26_0 : FA Try.prog 26 0 0 := ⟨_, Try.underlying26, _, rfl, rfl, by obtain ⟨i, hi, _, hn, _⟩ := ty23.info'; exact ⟨i, hi, by rw [hn]; decide⟩⟩
theorem fa26_1 : FA Try.prog 26 1 1 := ⟨_, Try.underlying26, _, rfl, rfl, by obtain ⟨i, hi, _, hn, _⟩ := ty24.info'; exact ⟨i, hi, by rw [hn]; decide⟩⟩
theorem ty30 : TyI Try.prog 30 true 2 (.agg #[.string ⟨#[]⟩, .string ⟨#[]⟩]) 32 := ⟨by kernel_rfl, by kernel_rfl, rfl⟩
theorem fa30_0 : FA Try.prog 30 0 0 := ⟨_, Try.underlying30, _, rfl, rfl, by obtain ⟨i, hi, _, hn, _⟩ := ty9.info'; exact ⟨i, hi, by rw [hn]; decide⟩⟩
theorem fa30_1 : FA Try.prog 30 1 1 := ⟨_, Try.underlying30, _, rfl, rfl, by obtain ⟨i, hi, _, hn, _⟩ := ty9.info'; exact ⟨i, hi, by rw [hn]; decide⟩⟩
theorem ty31 : TyI Try.prog 31 false 1 (.slice none 0 0) 24 := ⟨by kernel_rfl, by kernel_rfl, rfl⟩
theorem ty33 : TyI Try.prog 33 true 3 (.agg #[.string ⟨#[]⟩, .string ⟨#[]⟩, .slice none 0 0]) 56 := ⟨by kernel_rfl, by kernel_rfl, rfl⟩
theorem fa33_0 : FA Try.prog 33 0 0 := ⟨_, Try.underlying33, _, rfl, rfl, by obtain ⟨i, hi, _, hn, _⟩ := ty30.info'; exact ⟨i, hi, by rw [hn]; decide⟩⟩
theorem fa33_1 : FA Try.prog 33 1 2 := ⟨_, Try.underlying33, _, rfl, rfl, by obtain ⟨i, hi, _, hn, _⟩ := ty31.info'; exact ⟨i, hi, by rw [hn]; decide⟩⟩
theorem ty38 : TyI Try.prog 38 false 1 (.slice none 0 0) 24 := ⟨by kernel_rfl, by kernel_rfl, rfl⟩
theorem ty47 : TyI Try.prog 47 false 1 (.slice none 0 0) 24 := ⟨by kernel_rfl, by kernel_rfl, rfl⟩
theorem ty48 : TyI Try.prog 48 false 1 (.slice none 0 0) 24 := ⟨by kernel_rfl, by kernel_rfl, rfl⟩
theorem ty50 : TyI Try.prog 50 true 2 (.agg #[.slice none 0 0, .slice none 0 0]) 48 := ⟨by kernel_rfl, by kernel_rfl, rfl⟩
theorem fa50_0 : FA Try.prog 50 0 0 := ⟨_, Try.underlying50, _, rfl, rfl, by obtain ⟨i, hi, _, hn, _⟩ := ty47.info'; exact ⟨i, hi, by rw [hn]; decide⟩⟩
theorem fa50_1 : FA Try.prog 50 1 1 := ⟨_, Try.underlying50, _, rfl, rfl, by obtain ⟨i, hi, _, hn, _⟩ := ty48.info'; exact ⟨i, hi, by rw [hn]; decide⟩⟩
theorem ty64 : TyI Try.prog 64 true 2 (.agg #[.string ⟨#[]⟩, .string ⟨#[]⟩]) 32 := ⟨by kernel_rfl, by kernel_rfl, rfl⟩
theorem fa64_0 : FA Try.prog 64 0 0 := ⟨_, Try.underlying64, _, rfl, rfl, by obtain ⟨i, hi, _, hn, _⟩ := ty9.info'; exact ⟨i, hi, by rw [hn]; decide⟩⟩
theorem fa64_1 : FA Try.prog 64 1 1 := ⟨_, Try.underlying64, _, rfl, rfl, by obtain ⟨i, hi, _, hn, _⟩ := ty9.info'; exact ⟨i, hi, by rw [hn]; decide⟩⟩
theorem ty70 : TyI Try.prog 70 false 1 (.slice none 0 0) 24 := ⟨by kernel_rfl, by kernel_rfl, rfl⟩
theorem ty147 : TyI Try.prog 147 true 3 (.agg #[.string ⟨#[]⟩, .string ⟨#[]⟩, .slice none 0 0]) 56 := ⟨by kernel_rfl, by kernel_rfl, rfl⟩
theorem fa147_0 : FA Try.prog 147 0 0 := ⟨_, Try.underlying147, _, rfl, rfl, by obtain ⟨i, hi, _, hn, _⟩ := ty64.info'; exact ⟨i, hi, by rw [hn]; decide⟩⟩
theorem fa147_1 : FA Try.prog 147 1 2 := ⟨_, Try.underlying147, _, rfl, rfl, by obtain ⟨i, hi, _, hn, _⟩ := ty31.info'; exact ⟨i, hi, by rw [hn]; decide⟩⟩
theorem ty192 : TyI Try.prog 192 false 1 (.int .u64 0) 8 := ⟨by kernel_rfl, by kernel_rfl, rfl⟩
theorem pl26 : PL Try.prog 26 #[(0, 1), (1, 1)] := ⟨_, Try.underlying26, fun w => by simp [ty23.sizeOf w]⟩
theorem pl30 : PL Try.prog 30 #[(0, 1), (1, 1)] := ⟨_, Try.underlying30, fun w => by simp [ty9.sizeOf w]⟩
theorem pl33 : PL Try.prog 33 #[(0, 2), (2, 1)] := ⟨_, Try.underlying33, fun w => by simp [ty30.sizeOf w]⟩
theorem ae30 : AEq Try.prog 30 Tag := ⟨by kernel_rfl, fun d a b w => by
  rw [run_equalIn_agg w (d + 2) 30 _ _ (by kernel_rfl) (by kernel_rfl)]
  simp only [Program.fieldsOf, Try.underlying30, Flat.enc, List.cons_append, List.nil_append]
  simp [Op.eqFields, part, ty9.isAgg, ty9.sizeOf, run_equalIn_string w (d + 1) 9 _ _ Try.underlying9, seq_dec]
  by_cases h0 : a.1 = b.1 <;> by_cases h1 : a.2 = b.2 <;> simp [h0, h1, Prod.ext_iff]⟩
noncomputable def p_spec_l3Text_b0 (v0 : (List Tag)) (Q5 : ByteArray × Int) : Option ((ByteArray × Int) ⊕ (ByteArray)) := cond (decide (Q5.2 < (v0.length : Int))) (cond (decide (0 < Q5.2)) (gd (room (Q5.1.size + (⟨#[44]⟩ : ByteArray).size)) <| gd (ix Q5.2 v0.length) <| gd (room ((Q5.1 ++ (⟨#[44]⟩ : ByteArray)).size + ((nth v0 Q5.2.toNat).1).size)) <| gd (room (((Q5.1 ++ (⟨#[44]⟩ : ByteArray)) ++ ((nth v0 Q5.2.toNat).1)).size + (⟨#[61]⟩ : ByteArray).size)) <| gd (room ((((Q5.1 ++ (⟨#[44]⟩ : ByteArray)) ++ ((nth v0 Q5.2.toNat).1)) ++ (⟨#[61]⟩ : ByteArray)).size + ((nth v0 Q5.2.toNat).2).size)) <| gd (I64 (Q5.2 + 1)) <| some (.inl ((((Q5.1 ++ (⟨#[44]⟩ : ByteArray)) ++ ((nth v0 Q5.2.toNat).1)) ++ (⟨#[61]⟩ : ByteArray)) ++ ((nth v0 Q5.2.toNat).2), Q5.2 + 1))) (gd (ix Q5.2 v0.length) <| gd (room (Q5.1.size + ((nth v0 Q5.2.toNat).1).size)) <| gd (room ((Q5.1 ++ ((nth v0 Q5.2.toNat).1)).size + (⟨#[61]⟩ : ByteArray).size)) <| gd (room (((Q5.1 ++ ((nth v0 Q5.2.toNat).1)) ++ (⟨#[61]⟩ : ByteArray)).size + ((nth v0 Q5.2.toNat).2).size)) <| gd (I64 (Q5.2 + 1)) <| some (.inl (((Q5.1 ++ ((nth v0 Q5.2.toNat).1)) ++ (⟨#[61]⟩ : ByteArray)) ++ ((nth v0 Q5.2.toNat).2), Q5.2 + 1)))) (some (.inr Q5.1))
noncomputable def p_spec_l3Text (v0 : (List Tag)) : Option (ByteArray) := bd (lp (p_spec_l3Text_b0 v0) ((⟨#[]⟩ : ByteArray), 0)) fun x1 => some x1
theorem c_spec_l3Text {r : ByteArray} (v0 : (List Tag)) (x_v0 : Option Addr × Nat) (H : p_spec_l3Text v0 = some r) : Fn' Try.prog 68 #[.slice x_v0.1 v0.length x_v0.2] [imm (.slice x_v0.1 v0.length x_v0.2) v0] [] (ι := Unit) (fun _ => .string (r)) (fun _ => []) (fun _ => []) := by
 refine calls_of (args := [_]) Try.func68 rfl (by kernel_rfl) Try.ntmps68 (by simp) fun c => ?_
 unfold p_spec_l3Text at H
 refine Tr.seq (Tr.region ?_)
 refine Rg.q (v := .string ((⟨#[]⟩ : ByteArray))) (Pu.qo (p_assign rfl)) (by decide) (Rg.nl (nT ?_))
 refine Tr.seq (Tr.region ?_)
 refine Rg.q (v := .string ((⟨#[]⟩ : ByteArray))) (Pu.qo (p_assign rfl)) (by decide) (Rg.nl (nT ?_))
 refine Tr.seq (Tr.seq (Tr.region ?_))
 refine Rg.q (v := .int .i64 (0)) (Pu.qo (p_assign rfl)) (by decide) (Rg.nl (nT ?_))
 obtain ⟨x1, hx2, H⟩ := bd.of H
 obtain ⟨n3, hx2⟩ := lp.of hx2
 refine tMidNC (ι := Unit) (fun ψ => [(3, .string (x1))]) (fun ψ => []) ?_ ?_
 ·refine Tr.block ?_
  refine tLoopC (ι := { q : Nat × (ByteArray × Int) × Unit // itr (p_spec_l3Text_b0 v0) q.1 q.2.1 = some x1 }) (fun ζ => [(0, .slice x_v0.1 v0.length x_v0.2), (3, .string (ζ.1.2.1.1)), (4, .int .i64 (ζ.1.2.1.2))]) (fun ζ => []) (fun ζ => ζ.1.1) ⟨(n3, ((⟨#[]⟩ : ByteArray), 0), ()), hx2⟩ ⟨rfl, rfl, rfl, trivial⟩ Take.nil ?_
  rintro ⟨⟨m4, Q5, z6⟩, hk11⟩
  obtain ⟨m12, t8, e, H1, hi9, hb10⟩ := itr.of (n := m4) (s := Q5) hk11
  subst e; unfold p_spec_l3Text_b0 at H1
  show Tr _ _ _ _ _ [(0, .slice x_v0.1 v0.length x_v0.2), (3, .string (Q5.1)), (4, .int .i64 (Q5.2))] _ []
  refine Tr.seq (Tr.seq (Tr.region ?_))
  refine Rg.q (v := .int .i64 (Q5.2)) (Pu.qo (p_move rfl)) (by decide) ?_
  refine Rg.q (v := .slice x_v0.1 v0.length x_v0.2) (Pu.qo (p_move rfl)) (by decide) ?_
  refine Rg.q (v := .int .i64 ((v0.length : Int))) (Pu.qo (p_len 30 Try.underlying38 rfl)) (by decide) ?_
  refine Rg.q (v := .bool (decide (Q5.2 < (v0.length : Int)))) (Pu.qo (p_lss rfl rfl)) (by decide) (Rg.nl (nT ?_))
  refine Tr.cond (b := decide (Q5.2 < (v0.length : Int))) rfl (fun h13 => ?_) (fun h13 => ?_)
  ·have H1 := cdT h13 H1
   refine tSkip ?_
   refine nT (Tr.seq ?_)
   refine Tr.block ?_
   refine Tr.seq (Tr.seq (Tr.region ?_))
   refine Rg.q (v := .int .i64 (Q5.2)) (Pu.qo (p_move rfl)) (by decide) ?_
   refine Rg.q (v := .bool (decide (0 < Q5.2))) (Pu.qo (p_gtr rfl rfl)) (by decide) (Rg.nl (nT ?_))
   refine Tr.cond (b := decide (0 < Q5.2)) rfl (fun h14 => ?_) (fun h14 => ?_)
   ·have H1 := cdT h14 H1
    refine Tr.region ?_
    refine Rg.q (v := .string (Q5.1)) (Pu.qo (p_move rfl)) (by decide) ?_
    obtain ⟨h15, H1⟩ := gd.of H1
    refine Rg.q (v := .string (Q5.1 ++ (⟨#[44]⟩ : ByteArray))) (Pu.qo (p_cat rfl rfl h15)) (by decide) ?_
    refine Rg.q (v := .string (Q5.1 ++ (⟨#[44]⟩ : ByteArray))) (Pu.qo (p_assign rfl)) (by decide) (Rg.nl (nT ?_))
    refine tNwL [(3, .string (Q5.1 ++ (⟨#[44]⟩ : ByteArray))), (0, .slice x_v0.1 v0.length x_v0.2), (4, .int .i64 (Q5.2))] 1 [0, 1, 2, 3, 4, 5, 6, 7, 8, 9, 10, 11, 12, 13] [] [] Try.mixed rfl (by kernel_rfl) (by kernel_rfl) (by decide) List.nodup_nil ⟨rfl, rfl, rfl, trivial⟩ rfl okNil ?_
    refine w_pu (v := .string (Q5.1 ++ (⟨#[44]⟩ : ByteArray))) rfl (by decide) rfl rfl rfl (p_move rfl) ?_
    refine w_pu (v := .slice x_v0.1 v0.length x_v0.2) rfl (by decide) rfl rfl rfl (p_move rfl) ?_
    refine w_pu (v := .int .i64 (Q5.2)) rfl (by decide) rfl rfl rfl (p_move rfl) ?_
    obtain ⟨h16, H1⟩ := gd.of H1
    refine w_q (v := elp x_v0.1 (Q5.2.toNat * Enc.sz Tag + 0)) rfl (by decide) rfl rfl rfl (fun F => (q_ixg (l := v0) (E := fun i => Flat.enc (nth v0 i)) (oa := x_v0.1) Try.underlying38 ty30 rfl rfl h16 rfl (EntB.flat (Ent.b Ent.z)))) ?_
    refine w_q (v := elp x_v0.1 (Q5.2.toNat * Enc.sz Tag + 0)) rfl (by decide) rfl rfl rfl (fun F => (q_faeE (l := v0) (E := fun i => Flat.enc (nth v0 i)) (oa := x_v0.1) (j := 0) Q5.2.toNat fa30_0 rfl (EntB.flat (Ent.b Ent.z)) h16.lt rfl)) ?_
    refine w_q (v := .string ((nth v0 Q5.2.toNat).1)) rfl (by decide) rfl rfl rfl (fun F => (q_lde (l := v0) (E := fun i => Flat.enc (nth v0 i)) (oa := x_v0.1) (i := Q5.2.toNat) (j := 0) ty9 rfl (EntB.flat (Ent.b Ent.z)) h16.lt rfl)) ?_
    obtain ⟨h17, H1⟩ := gd.of H1
    refine w_pu (v := .string ((Q5.1 ++ (⟨#[44]⟩ : ByteArray)) ++ ((nth v0 Q5.2.toNat).1))) rfl (by decide) rfl rfl rfl (p_cat rfl rfl h17) ?_
    obtain ⟨h18, H1⟩ := gd.of H1
    refine w_pu (v := .string (((Q5.1 ++ (⟨#[44]⟩ : ByteArray)) ++ ((nth v0 Q5.2.toNat).1)) ++ (⟨#[61]⟩ : ByteArray))) rfl (by decide) rfl rfl rfl (p_cat rfl rfl h18) ?_
    refine w_pu (v := .slice x_v0.1 v0.length x_v0.2) rfl (by decide) rfl rfl rfl (p_move rfl) ?_
    refine w_pu (v := .int .i64 (Q5.2)) rfl (by decide) rfl rfl rfl (p_move rfl) ?_
    refine w_q (v := elp x_v0.1 (Q5.2.toNat * Enc.sz Tag + 0)) rfl (by decide) rfl rfl rfl (fun F => (q_ixg (l := v0) (E := fun i => Flat.enc (nth v0 i)) (oa := x_v0.1) Try.underlying38 ty30 rfl rfl h16 rfl (EntB.flat (Ent.b Ent.z)))) ?_
    refine w_q (v := elp x_v0.1 (Q5.2.toNat * Enc.sz Tag + 1)) rfl (by decide) rfl rfl rfl (fun F => (q_faeE (l := v0) (E := fun i => Flat.enc (nth v0 i)) (oa := x_v0.1) (j := 0) Q5.2.toNat fa30_1 rfl (EntB.flat (Ent.b Ent.z)) h16.lt rfl)) ?_
    refine w_q (v := .string ((nth v0 Q5.2.toNat).2)) rfl (by decide) rfl rfl rfl (fun F => (q_lde (l := v0) (E := fun i => Flat.enc (nth v0 i)) (oa := x_v0.1) (i := Q5.2.toNat) (j := 1) ty9 rfl (EntB.flat (Ent.b Ent.z)) h16.lt rfl)) ?_
    obtain ⟨h19, H1⟩ := gd.of H1
    refine w_pu (v := .string ((((Q5.1 ++ (⟨#[44]⟩ : ByteArray)) ++ ((nth v0 Q5.2.toNat).1)) ++ (⟨#[61]⟩ : ByteArray)) ++ ((nth v0 Q5.2.toNat).2))) rfl (by decide) rfl rfl rfl (p_cat rfl rfl h19) ?_
    refine w_nil ?_
    show Rg _ _ _ _ _ _ _ _ _
    refine Rg.q (v := .string ((((Q5.1 ++ (⟨#[44]⟩ : ByteArray)) ++ ((nth v0 Q5.2.toNat).1)) ++ (⟨#[61]⟩ : ByteArray)) ++ ((nth v0 Q5.2.toNat).2))) (Pu.qo (p_assign rfl)) (by decide) (Rg.nl ?_)
    refine nB (nT (?_))
    refine Tr.region ?_
    refine Rg.q (v := .int .i64 (Q5.2)) (Pu.qo (p_move rfl)) (by decide) ?_
    obtain ⟨h20, H1⟩ := gd.of H1
    refine Rg.q (v := .int .i64 (Q5.2 + 1)) (Pu.qo (p_add rfl rfl h20)) (by decide) ?_
    refine Rg.q (v := .int .i64 (Q5.2 + 1)) (Pu.qo (p_assign rfl)) (by decide) (Rg.nl ?_)
    exact nLC ⟨(m12, ((((Q5.1 ++ (⟨#[44]⟩ : ByteArray)) ++ ((nth v0 Q5.2.toNat).1)) ++ (⟨#[61]⟩ : ByteArray)) ++ ((nth v0 Q5.2.toNat).2), Q5.2 + 1), ()), hi9 _ (Option.some.inj H1).symm⟩ (Nat.lt_succ_self _) ⟨rfl, rfl, rfl, trivial⟩ Ents.refl Take.nil
   ·have H1 := cdF h14 H1
    refine tSkip ?_
    refine nT (?_)
    refine tNwL [(0, .slice x_v0.1 v0.length x_v0.2), (3, .string (Q5.1)), (4, .int .i64 (Q5.2))] 1 [0, 1, 2, 3, 4, 5, 6, 7, 8, 9, 10, 11, 12, 13] [] [] Try.mixed rfl (by kernel_rfl) (by kernel_rfl) (by decide) List.nodup_nil ⟨rfl, rfl, rfl, trivial⟩ rfl okNil ?_
    refine w_pu (v := .string (Q5.1)) rfl (by decide) rfl rfl rfl (p_move rfl) ?_
    refine w_pu (v := .slice x_v0.1 v0.length x_v0.2) rfl (by decide) rfl rfl rfl (p_move rfl) ?_
    refine w_pu (v := .int .i64 (Q5.2)) rfl (by decide) rfl rfl rfl (p_move rfl) ?_
    obtain ⟨h21, H1⟩ := gd.of H1
    refine w_q (v := elp x_v0.1 (Q5.2.toNat * Enc.sz Tag + 0)) rfl (by decide) rfl rfl rfl (fun F => (q_ixg (l := v0) (E := fun i => Flat.enc (nth v0 i)) (oa := x_v0.1) Try.underlying38 ty30 rfl rfl h21 rfl (EntB.flat (Ent.b Ent.z)))) ?_
    refine w_q (v := elp x_v0.1 (Q5.2.toNat * Enc.sz Tag + 0)) rfl (by decide) rfl rfl rfl (fun F => (q_faeE (l := v0) (E := fun i => Flat.enc (nth v0 i)) (oa := x_v0.1) (j := 0) Q5.2.toNat fa30_0 rfl (EntB.flat (Ent.b Ent.z)) h21.lt rfl)) ?_
    refine w_q (v := .string ((nth v0 Q5.2.toNat).1)) rfl (by decide) rfl rfl rfl (fun F => (q_lde (l := v0) (E := fun i => Flat.enc (nth v0 i)) (oa := x_v0.1) (i := Q5.2.toNat) (j := 0) ty9 rfl (EntB.flat (Ent.b Ent.z)) h21.lt rfl)) ?_
    obtain ⟨h22, H1⟩ := gd.of H1
    refine w_pu (v := .string (Q5.1 ++ ((nth v0 Q5.2.toNat).1))) rfl (by decide) rfl rfl rfl (p_cat rfl rfl h22) ?_
    obtain ⟨h23, H1⟩ := gd.of H1
    refine w_pu (v := .string ((Q5.1 ++ ((nth v0 Q5.2.toNat).1)) ++ (⟨#[61]⟩ : ByteArray))) rfl (by decide) rfl rfl rfl (p_cat rfl rfl h23) ?_
    refine w_pu (v := .slice x_v0.1 v0.length x_v0.2) rfl (by decide) rfl rfl rfl (p_move rfl) ?_
    refine w_pu (v := .int .i64 (Q5.2)) rfl (by decide) rfl rfl rfl (p_move rfl) ?_
    refine w_q (v := elp x_v0.1 (Q5.2.toNat * Enc.sz Tag + 0)) rfl (by decide) rfl rfl rfl (fun F => (q_ixg (l := v0) (E := fun i => Flat.enc (nth v0 i)) (oa := x_v0.1) Try.underlying38 ty30 rfl rfl h21 rfl (EntB.flat (Ent.b Ent.z)))) ?_
    refine w_q (v := elp x_v0.1 (Q5.2.toNat * Enc.sz Tag + 1)) rfl (by decide) rfl rfl rfl (fun F => (q_faeE (l := v0) (E := fun i => Flat.enc (nth v0 i)) (oa := x_v0.1) (j := 0) Q5.2.toNat fa30_1 rfl (EntB.flat (Ent.b Ent.z)) h21.lt rfl)) ?_
    refine w_q (v := .string ((nth v0 Q5.2.toNat).2)) rfl (by decide) rfl rfl rfl (fun F => (q_lde (l := v0) (E := fun i => Flat.enc (nth v0 i)) (oa := x_v0.1) (i := Q5.2.toNat) (j := 1) ty9 rfl (EntB.flat (Ent.b Ent.z)) h21.lt rfl)) ?_
    obtain ⟨h24, H1⟩ := gd.of H1
    refine w_pu (v := .string (((Q5.1 ++ ((nth v0 Q5.2.toNat).1)) ++ (⟨#[61]⟩ : ByteArray)) ++ ((nth v0 Q5.2.toNat).2))) rfl (by decide) rfl rfl rfl (p_cat rfl rfl h24) ?_
    refine w_nil ?_
    show Rg _ _ _ _ _ _ _ _ _
    refine Rg.q (v := .string (((Q5.1 ++ ((nth v0 Q5.2.toNat).1)) ++ (⟨#[61]⟩ : ByteArray)) ++ ((nth v0 Q5.2.toNat).2))) (Pu.qo (p_assign rfl)) (by decide) (Rg.nl ?_)
    refine nB (nT (?_))
    refine Tr.region ?_
    refine Rg.q (v := .int .i64 (Q5.2)) (Pu.qo (p_move rfl)) (by decide) ?_
    obtain ⟨h25, H1⟩ := gd.of H1
    refine Rg.q (v := .int .i64 (Q5.2 + 1)) (Pu.qo (p_add rfl rfl h25)) (by decide) ?_
    refine Rg.q (v := .int .i64 (Q5.2 + 1)) (Pu.qo (p_assign rfl)) (by decide) (Rg.nl ?_)
    exact nLC ⟨(m12, (((Q5.1 ++ ((nth v0 Q5.2.toNat).1)) ++ (⟨#[61]⟩ : ByteArray)) ++ ((nth v0 Q5.2.toNat).2), Q5.2 + 1), ()), hi9 _ (Option.some.inj H1).symm⟩ (Nat.lt_succ_self _) ⟨rfl, rfl, rfl, trivial⟩ Ents.refl Take.nil
  ·have H1 := cdF h13 H1
   refine tExit (xT (xT (xE (?_))))
   have hx := hb10 _ (Option.some.inj H1).symm; subst hx
   exact nMC () ⟨rfl, trivial⟩ Ents.refl Take.nil
 ·intro y7
  show At _ _ [(3, .string (x1))] _ [] _
  refine nT (?_)
  refine Tr.seq (Tr.region ?_)
  refine Rg.q (v := .string (x1)) (Pu.qo (p_move rfl)) (by decide) ?_
  refine Rg.q (v := .string (x1)) (Pu.qo (p_assign rfl)) (by decide) (Rg.nl (nT ?_))
  refine tRet ?_
  have hr := Option.some.inj H; subst hr
  exact back1 () rfl (ResV.tmp (v := .string (x1)) rfl) rfl Ents.nil Take.nil
noncomputable def p_spec_l11At_b0 (v0 : Index) (v1 : (List Tag)) (Q8 : Int) : Option ((Int) ⊕ (Unit ⊕ Int)) := cond (decide (Q8 < (v0.1.length : Int))) (gd (ix Q8 v0.1.length) <| bd (p_spec_l3Text (nth v0.1 Q8.toNat)) fun r18 => bd (p_spec_l3Text v1) fun r20 => cond (decide (r18 = r20)) (gd (I64 (Q8 + 1)) <| some (.inr (.inr (Q8 + 1)))) (gd (I64 (Q8 + 1)) <| some (.inl (Q8 + 1)))) (some (.inr (.inl ())))
noncomputable def p_spec_l11At (v0 : Index) (v1 : (List Tag)) : Option (Int) := bd (lp (p_spec_l11At_b0 v0 v1) 0) <| sw (fun _ => some 0) (fun q => some q)
theorem c_spec_l11At {r : Int} (v0 : Index) (x_v0 : (Option Addr × Nat) × (Option Addr × Nat)) (v1 : (List Tag)) (x_v1 : Option Addr × Nat) (H : p_spec_l11At v0 v1 = some r) : Fn' Try.prog 123 #[.agg #[.slice x_v0.1.1 v0.1.length x_v0.1.2, .slice x_v0.2.1 v0.2.length x_v0.2.2], .slice x_v1.1 v1.length x_v1.2] [imm (.slice x_v0.1.1 v0.1.length x_v0.1.2) v0.1, imm (.slice x_v0.2.1 v0.2.length x_v0.2.2) v0.2, imm (.slice x_v1.1 v1.length x_v1.2) v1] [] (ι := Unit) (fun _ => .int .i64 (r)) (fun _ => []) (fun _ => []) := by
 refine calls_of (args := [_, _]) Try.func123 rfl (by kernel_rfl) Try.ntmps123 (by simp) fun c => ?_
 unfold p_spec_l11At at H
 refine Tr.openD Ent.z fun X1 => ?_
 refine Tr.openD Ent.z.s.s fun X2 => ?_
 refine Tr.seq (Tr.region ?_)
 refine Rg.ed (e_box (t := 26) (v := .agg #[.slice x_v0.1.1 v0.1.length x_v0.1.2, .slice x_v0.2.1 v0.2.length x_v0.2.2]) rfl) rfl (by decide) ?_
 rintro _ _ _ ⟨g3, rfl, rfl, rfl⟩
 refine Rg.q (v := .int .i64 (0)) (Pu.qo (p_assign rfl)) (by decide) (Rg.nl (nT ?_))
 refine Tr.seq (Tr.seq (Tr.region ?_))
 refine Rg.q (v := .int .i64 (0)) (Pu.qo (p_assign rfl)) (by decide) (Rg.nl (nT ?_))
 obtain ⟨x4, hx5, H⟩ := bd.of H
 obtain ⟨n6, hx5⟩ := lp.of hx5
 refine tMidNC (ι := { q : (Unit) × Unit // x4 = .inl q.1 }) (fun ψ => []) (fun ψ => []) ?_ ?_
 ·refine Tr.block ?_
  refine tLoopC (ι := { q : Nat × (Int) × Unit // itr (p_spec_l11At_b0 v0 v1) q.1 q.2.1 = some x4 }) (fun ζ => [(1, .slice x_v1.1 v1.length x_v1.2), (2, .pointer (some ⟨g3, 0, none⟩)), (5, .int .i64 (ζ.1.2.1))]) (fun ζ => [box g3 26 [.slice x_v0.1.1 v0.1.length x_v0.1.2, .slice x_v0.2.1 v0.2.length x_v0.2.2]]) (fun ζ => ζ.1.1) ⟨(n6, 0, ()), hx5⟩ ⟨rfl, rfl, rfl, trivial⟩ (.cons Del.here .nil) ?_
  rintro ⟨⟨m7, Q8, z9⟩, hk14⟩
  obtain ⟨m15, t11, e, H1, hi12, hb13⟩ := itr.of (n := m7) (s := Q8) hk14
  subst e; unfold p_spec_l11At_b0 at H1
  show Tr _ _ _ _ _ [(1, .slice x_v1.1 v1.length x_v1.2), (2, .pointer (some ⟨g3, 0, none⟩)), (5, .int .i64 (Q8))] _ [box g3 26 [.slice x_v0.1.1 v0.1.length x_v0.1.2, .slice x_v0.2.1 v0.2.length x_v0.2.2]]
  refine Tr.seq (Tr.seq (Tr.region ?_))
  refine Rg.q (v := .int .i64 (Q8)) (Pu.qo (p_move rfl)) (by decide) ?_
  refine Rg.q (v := .pointer (some ⟨g3, 0, none⟩)) (Pu.qo (p_fabE fa26_0 rfl rfl)) (by decide) ?_
  refine Rg.q (v := .slice x_v0.1.1 v0.1.length x_v0.1.2) (q_ldb ty23 rfl Has.here rfl) (by decide) ?_
  refine Rg.q (v := .int .i64 ((v0.1.length : Int))) (Pu.qo (p_len 38 Try.underlying23 rfl)) (by decide) ?_
  refine Rg.q (v := .bool (decide (Q8 < (v0.1.length : Int)))) (Pu.qo (p_lss rfl rfl)) (by decide) (Rg.nl (nT ?_))
  refine Tr.cond (b := decide (Q8 < (v0.1.length : Int))) rfl (fun h16 => ?_) (fun h16 => ?_)
  ·have H1 := cdT h16 H1
   refine tSkip ?_
   refine nT (Tr.seq ?_)
   refine Tr.block ?_
   refine Tr.seq (Tr.region ?_)
   refine Rg.q (v := .pointer (some ⟨g3, 0, none⟩)) (Pu.qo (p_fabE fa26_0 rfl rfl)) (by decide) ?_
   refine Rg.q (v := .slice x_v0.1.1 v0.1.length x_v0.1.2) (q_ldb ty23 rfl Has.here rfl) (by decide) ?_
   refine Rg.q (v := .int .i64 (Q8)) (Pu.qo (p_move rfl)) (by decide) ?_
   obtain ⟨h17, H1⟩ := gd.of H1
   refine Rg.q (v := elp x_v0.1.1 (Q8.toNat * Enc.sz (List Tag) + 0)) (q_ixg (l := v0.1) (E := fun i => Dp.denc (nth v0.1 i) (X1 i)) (oa := x_v0.1.1) Try.underlying23 ty38 rfl rfl h17 rfl (Ent.b (Ent.darr Ent.z.s))) (by decide) ?_
   refine Rg.q (v := .slice ((X1 Q8.toNat).1) ((nth v0.1 Q8.toNat).length) ((X1 Q8.toNat).2.1)) (q_lde (l := v0.1) (E := fun i => Dp.denc (nth v0.1 i) (X1 i)) (oa := x_v0.1.1) (i := Q8.toNat) (j := 0) ty38 rfl (Ent.b (Ent.darr Ent.z.s)) h17.lt rfl) (by decide) ?_
   obtain ⟨r18, h19, H1⟩ := bd.of H1
   refine Rg.q (v := .string (r18)) (q_call (vs := [.slice ((X1 Q8.toNat).1) ((nth v0.1 Q8.toNat).length) ((X1 Q8.toNat).2.1)]) (c_spec_l3Text (nth v0.1 Q8.toNat) ((X1 Q8.toNat).1, (X1 Q8.toNat).2.1) h19) rfl (EntsB.cons (Ent.b (Ent.dimm (Ent.del Ent.z.s h17.lt))) EntsB.nil)) (by decide) ?_
   refine Rg.q (v := .slice x_v1.1 v1.length x_v1.2) (Pu.qo (p_move rfl)) (by decide) ?_
   obtain ⟨r20, h21, H1⟩ := bd.of H1
   refine Rg.q (v := .string (r20)) (q_call (vs := [.slice x_v1.1 v1.length x_v1.2]) (c_spec_l3Text v1 x_v1 h21) rfl (EntsB.cons (Ent.b Ent.z.s.s.s.s) EntsB.nil)) (by decide) ?_
   refine Rg.q (v := .bool (decide (r18 = r20))) (Pu.qo (p_seql rfl rfl)) (by decide) (Rg.nl (nT ?_))
   refine Tr.cond (b := decide (r18 = r20)) rfl (fun h22 => ?_) (fun h22 => ?_)
   ·have H1 := cdT h22 H1
    refine Tr.seq (Tr.region ?_)
    refine Rg.q (v := .int .i64 (Q8)) (Pu.qo (p_move rfl)) (by decide) ?_
    obtain ⟨h23, H1⟩ := gd.of H1
    refine Rg.q (v := .int .i64 (Q8 + 1)) (Pu.qo (p_add rfl rfl h23)) (by decide) ?_
    refine Rg.q (v := .int .i64 (Q8 + 1)) (Pu.qo (p_assign rfl)) (by decide) (Rg.nl (nT ?_))
    refine tRet ?_
    refine rB (rT (rT (rB (rT (rT (?_))))))
    have hx := hb13 _ (Option.some.inj H1).symm; subst hx
    replace H := sw.r H
    have hr := Option.some.inj H; subst hr
    exact back1 () rfl (ResV.tmp (v := .int .i64 (Q8 + 1)) rfl) rfl Ents.nil Take.nil
   ·have H1 := cdF h22 H1
    refine tSkip ?_
    refine nB (nT (?_))
    refine Tr.region ?_
    refine Rg.q (v := .int .i64 (Q8)) (Pu.qo (p_move rfl)) (by decide) ?_
    obtain ⟨h24, H1⟩ := gd.of H1
    refine Rg.q (v := .int .i64 (Q8 + 1)) (Pu.qo (p_add rfl rfl h24)) (by decide) ?_
    refine Rg.q (v := .int .i64 (Q8 + 1)) (Pu.qo (p_assign rfl)) (by decide) (Rg.nl ?_)
    exact nLC ⟨(m15, Q8 + 1, ()), hi12 _ (Option.some.inj H1).symm⟩ (Nat.lt_succ_self _) ⟨rfl, rfl, rfl, trivial⟩ Ents.refl (.cons Del.here .nil)
  ·have H1 := cdF h16 H1
   refine tExit (xT (xT (xE (?_))))
   exact nMC ⟨((), ()), (hb13 _ (Option.some.inj H1).symm).symm⟩ trivial Ents.refl Take.nil
 ·rintro ⟨⟨e25, y10⟩, hx⟩; subst hx; replace H := sw.l H
  show At _ _ [] _ [] _
  refine nT (?_)
  refine Tr.seq (Tr.region ?_)
  refine Rg.q (v := .int .i64 (0)) (Pu.qo (p_assign rfl)) (by decide) (Rg.nl (nT ?_))
  refine tRet ?_
  have hr := Option.some.inj H; subst hr
  exact back1 () rfl (ResV.tmp (v := .int .i64 (0)) rfl) rfl Ents.nil Take.nil
noncomputable def p_spec_l6In (v0 : Int) (v1 : Int) (v2 : Int) : Option (Bool) := bd (cond (decide (v1 ≤ v0)) (some (decide (v0 ≤ v2))) (some (false))) fun b1 => some b1
theorem c_spec_l6In {r : Bool} (v0 : Int) (v1 : Int) (v2 : Int) (H : p_spec_l6In v0 v1 v2 = some r) : Fn' Try.prog 79 #[.int .i64 (v0), .int .i64 (v1), .int .i64 (v2)] [] [] (ι := Unit) (fun _ => .bool (r)) (fun _ => []) (fun _ => []) := by
 refine calls_of (args := [_, _, _]) Try.func79 rfl (by kernel_rfl) Try.ntmps79 (by simp) fun c => ?_
 unfold p_spec_l6In at H
 refine Tr.seq (Tr.region ?_)
 refine Rg.q (v := .bool (false)) (Pu.qo (p_assign rfl)) (by decide) (Rg.nl (nT ?_))
 obtain ⟨b1, j2, H⟩ := bd.of H
 refine tMid1 [(6, .bool (b1))] ?_ ?_
 ·refine tLinT [(0, .int .i64 (v0)), (1, .int .i64 (v1)), (2, .int .i64 (v2))] ⟨rfl, rfl, rfl, trivial⟩ ?_
  refine Lin.q (v := .int .i64 (v0)) (by decide) (Pu.qo (p_move rfl)) ?_
  refine Lin.q (v := .int .i64 (v1)) (by decide) (Pu.qo (p_move rfl)) ?_
  refine Lin.q (v := .bool (decide (v1 ≤ v0))) (by decide) (Pu.qo (p_geq rfl rfl)) ?_
  rcases Bool.eq_false_or_eq_true (decide (v1 ≤ v0)) with h3 | h3
  ·have j2 := cdT h3 j2
   refine Lin.q (v := .bool (true)) (by decide) (Qo.eqv (v := .bool (decide (v1 ≤ v0))) (Pu.qo (p_move rfl)) (congrArg Value.bool h3)) ?_
   refine Lin.g (v := .int .i64 (v0)) (by decide) rfl (Pu.qo (p_move rfl)) ?_
   refine Lin.g (v := .int .i64 (v2)) (by decide) rfl (Pu.qo (p_move rfl)) ?_
   refine Lin.g (v := .bool (decide (v0 ≤ v2))) (by decide) rfl (Pu.qo (p_leq rfl rfl)) ?_
   refine Lin.q (v := .bool (decide (v0 ≤ v2))) (by decide) (Pu.qo (p_pickT rfl rfl)) ?_
   refine Lin.q (v := .bool (decide (v0 ≤ v2))) (by decide) (Pu.qo (p_assign rfl)) ?_
   have j2 := Option.some.inj j2; subst j2
   show At _ _ _ _ _ _
   exact n1 ⟨rfl, trivial⟩
  ·have j2 := cdF h3 j2
   refine Lin.q (v := .bool (false)) (by decide) (Qo.eqv (v := .bool (decide (v1 ≤ v0))) (Pu.qo (p_move rfl)) (congrArg Value.bool h3)) ?_
   refine Lin.skip (by decide) rfl ?_
   refine Lin.skip (by decide) rfl ?_
   refine Lin.skip (by decide) rfl ?_
   refine Lin.q (v := .bool (false)) (by decide) (Pu.qo (p_pickF rfl rfl)) ?_
   refine Lin.q (v := .bool (false)) (by decide) (Pu.qo (p_assign rfl)) ?_
   have j2 := Option.some.inj j2; subst j2
   show At _ _ _ _ _ _
   exact n1 ⟨rfl, trivial⟩
 refine tRet ?_
 have hr := Option.some.inj H; subst hr
 exact back1 () rfl (ResV.tmp (v := .bool (b1)) rfl) rfl Ents.nil Take.nil
noncomputable def p_spec_l3Tag (v0 : Tag) : Option (Bool) := bd (cond (decide ((v0.1.size : Int) = 1)) (cond (decide ((v0.2.size : Int) = 1)) (gd (ix 0 v0.1.size) <| bd (p_spec_l6In ((sb v0.1 0).toNat : Int) 97 100) fun r7 => cond (r7) (gd (ix 0 v0.2.size) <| bd (p_spec_l6In ((sb v0.2 0).toNat : Int) 112 122) fun r11 => some (r11)) (some (false))) (some (false))) (some (false))) fun b2 => some b2
theorem c_spec_l3Tag {r : Bool} (v0 : Tag) (H : p_spec_l3Tag v0 = some r) : Fn' Try.prog 78 #[.agg #[.string (v0.1), .string (v0.2)]] [] [] (ι := Unit) (fun _ => .bool (r)) (fun _ => []) (fun _ => []) := by
 refine calls_of (args := [_]) Try.func78 rfl (by kernel_rfl) Try.ntmps78 (by simp) fun c => ?_
 unfold p_spec_l3Tag at H
 refine Tr.seq (Tr.region ?_)
 refine Rg.ed (e_box (t := 30) (v := .agg #[.string (v0.1), .string (v0.2)]) rfl) rfl (by decide) ?_
 rintro _ _ _ ⟨g1, rfl, rfl, rfl⟩
 refine Rg.q (v := .bool (false)) (Pu.qo (p_assign rfl)) (by decide) (Rg.nl (nT ?_))
 obtain ⟨b2, j3, H⟩ := bd.of H
 refine tMid1 [(2, .bool (b2))] ?_ ?_
 ·refine tLinT [(1, .pointer (some ⟨g1, 0, none⟩))] ⟨rfl, trivial⟩ ?_
  refine Lin.q (v := .pointer (some ⟨g1, 0, none⟩)) (by decide) (Pu.qo (p_fabE fa30_0 rfl rfl)) ?_
  refine Lin.q (v := .string (v0.1)) (by decide) (q_ldb ty9 rfl Has.here rfl) ?_
  refine Lin.q (v := .int .i64 ((v0.1.size : Int))) (by decide) (Pu.qo (p_slen Try.underlying9 rfl)) ?_
  refine Lin.q (v := .bool (decide ((v0.1.size : Int) = 1))) (by decide) (Pu.qo (p_eql rfl rfl)) ?_
  rcases Bool.eq_false_or_eq_true (decide ((v0.1.size : Int) = 1)) with h4 | h4
  ·have j3 := cdT h4 j3
   refine Lin.q (v := .bool (true)) (by decide) (Qo.eqv (v := .bool (decide ((v0.1.size : Int) = 1))) (Pu.qo (p_move rfl)) (congrArg Value.bool h4)) ?_
   refine Lin.g (v := .pointer (some ⟨g1, 1, none⟩)) (by decide) rfl (Pu.qo (p_fabE fa30_1 rfl rfl)) ?_
   refine Lin.g (v := .string (v0.2)) (by decide) rfl (q_ldb ty9 rfl Has.here rfl) ?_
   refine Lin.g (v := .int .i64 ((v0.2.size : Int))) (by decide) rfl (Pu.qo (p_slen Try.underlying9 rfl)) ?_
   refine Lin.g (v := .bool (decide ((v0.2.size : Int) = 1))) (by decide) rfl (Pu.qo (p_eql rfl rfl)) ?_
   refine Lin.q (v := .bool (decide ((v0.2.size : Int) = 1))) (by decide) (Pu.qo (p_pickT rfl rfl)) ?_
   rcases Bool.eq_false_or_eq_true (decide ((v0.2.size : Int) = 1)) with h5 | h5
   ·have j3 := cdT h5 j3
    refine Lin.q (v := .bool (true)) (by decide) (Qo.eqv (v := .bool (decide ((v0.2.size : Int) = 1))) (Pu.qo (p_move rfl)) (congrArg Value.bool h5)) ?_
    refine Lin.g (v := .pointer (some ⟨g1, 0, none⟩)) (by decide) rfl (Pu.qo (p_fabE fa30_0 rfl rfl)) ?_
    refine Lin.g (v := .string (v0.1)) (by decide) rfl (q_ldb ty9 rfl Has.here rfl) ?_
    obtain ⟨h6, j3⟩ := gd.of j3
    refine Lin.g (v := .int .u8 ((sb v0.1 0).toNat : Int)) (by decide) rfl (Pu.qo (p_six Try.underlying9 rfl rfl h6)) ?_
    refine Lin.g (v := .int .i64 (((sb v0.1 0).toNat : Int))) (by decide) rfl (Pu.qo (p_i8 Try.underlying5 Try.underlying3 rfl)) ?_
    obtain ⟨r7, h8, j3⟩ := bd.of j3
    refine Lin.g (v := .bool (r7)) (by decide) rfl (q_call (vs := [.int .i64 (((sb v0.1 0).toNat : Int)), .int .i64 (97), .int .i64 (100)]) (c_spec_l6In ((sb v0.1 0).toNat : Int) 97 100 h8) rfl EntsB.nil) ?_
    refine Lin.q (v := .bool (r7)) (by decide) (Pu.qo (p_pickT rfl rfl)) ?_
    rcases Bool.eq_false_or_eq_true (r7) with h9 | h9
    ·have j3 := cdT h9 j3
     refine Lin.q (v := .bool (true)) (by decide) (Qo.eqv (v := .bool (r7)) (Pu.qo (p_move rfl)) (congrArg Value.bool h9)) ?_
     refine Lin.g (v := .pointer (some ⟨g1, 1, none⟩)) (by decide) rfl (Pu.qo (p_fabE fa30_1 rfl rfl)) ?_
     refine Lin.g (v := .string (v0.2)) (by decide) rfl (q_ldb ty9 rfl Has.here rfl) ?_
     obtain ⟨h10, j3⟩ := gd.of j3
     refine Lin.g (v := .int .u8 ((sb v0.2 0).toNat : Int)) (by decide) rfl (Pu.qo (p_six Try.underlying9 rfl rfl h10)) ?_
     refine Lin.g (v := .int .i64 (((sb v0.2 0).toNat : Int))) (by decide) rfl (Pu.qo (p_i8 Try.underlying5 Try.underlying3 rfl)) ?_
     obtain ⟨r11, h12, j3⟩ := bd.of j3
     refine Lin.g (v := .bool (r11)) (by decide) rfl (q_call (vs := [.int .i64 (((sb v0.2 0).toNat : Int)), .int .i64 (112), .int .i64 (122)]) (c_spec_l6In ((sb v0.2 0).toNat : Int) 112 122 h12) rfl EntsB.nil) ?_
     refine Lin.q (v := .bool (r11)) (by decide) (Pu.qo (p_pickT rfl rfl)) ?_
     refine Lin.q (v := .bool (r11)) (by decide) (Pu.qo (p_assign rfl)) ?_
     have j3 := Option.some.inj j3; subst j3
     show At _ _ _ _ _ _
     exact n1 ⟨rfl, trivial⟩
    ·have j3 := cdF h9 j3
     refine Lin.q (v := .bool (false)) (by decide) (Qo.eqv (v := .bool (r7)) (Pu.qo (p_move rfl)) (congrArg Value.bool h9)) ?_
     refine Lin.skip (by decide) rfl ?_
     refine Lin.skip (by decide) rfl ?_
     refine Lin.skip (by decide) rfl ?_
     refine Lin.skip (by decide) rfl ?_
     refine Lin.skip (by decide) rfl ?_
     refine Lin.q (v := .bool (false)) (by decide) (Pu.qo (p_pickF rfl rfl)) ?_
     refine Lin.q (v := .bool (false)) (by decide) (Pu.qo (p_assign rfl)) ?_
     have j3 := Option.some.inj j3; subst j3
     show At _ _ _ _ _ _
     exact n1 ⟨rfl, trivial⟩
   ·have j3 := cdF h5 j3
    refine Lin.q (v := .bool (false)) (by decide) (Qo.eqv (v := .bool (decide ((v0.2.size : Int) = 1))) (Pu.qo (p_move rfl)) (congrArg Value.bool h5)) ?_
    refine Lin.skip (by decide) rfl ?_
    refine Lin.skip (by decide) rfl ?_
    refine Lin.skip (by decide) rfl ?_
    refine Lin.skip (by decide) rfl ?_
    refine Lin.skip (by decide) rfl ?_
    refine Lin.q (v := .bool (false)) (by decide) (Pu.qo (p_pickF rfl rfl)) ?_
    refine Lin.q (v := .bool (false)) (by decide) (Pu.qo (p_move rfl)) ?_
    refine Lin.skip (by decide) rfl ?_
    refine Lin.skip (by decide) rfl ?_
    refine Lin.skip (by decide) rfl ?_
    refine Lin.skip (by decide) rfl ?_
    refine Lin.skip (by decide) rfl ?_
    refine Lin.q (v := .bool (false)) (by decide) (Pu.qo (p_pickF rfl rfl)) ?_
    refine Lin.q (v := .bool (false)) (by decide) (Pu.qo (p_assign rfl)) ?_
    have j3 := Option.some.inj j3; subst j3
    show At _ _ _ _ _ _
    exact n1 ⟨rfl, trivial⟩
  ·have j3 := cdF h4 j3
   refine Lin.q (v := .bool (false)) (by decide) (Qo.eqv (v := .bool (decide ((v0.1.size : Int) = 1))) (Pu.qo (p_move rfl)) (congrArg Value.bool h4)) ?_
   refine Lin.skip (by decide) rfl ?_
   refine Lin.skip (by decide) rfl ?_
   refine Lin.skip (by decide) rfl ?_
   refine Lin.skip (by decide) rfl ?_
   refine Lin.q (v := .bool (false)) (by decide) (Pu.qo (p_pickF rfl rfl)) ?_
   refine Lin.q (v := .bool (false)) (by decide) (Pu.qo (p_move rfl)) ?_
   refine Lin.skip (by decide) rfl ?_
   refine Lin.skip (by decide) rfl ?_
   refine Lin.skip (by decide) rfl ?_
   refine Lin.skip (by decide) rfl ?_
   refine Lin.skip (by decide) rfl ?_
   refine Lin.q (v := .bool (false)) (by decide) (Pu.qo (p_pickF rfl rfl)) ?_
   refine Lin.q (v := .bool (false)) (by decide) (Pu.qo (p_move rfl)) ?_
   refine Lin.skip (by decide) rfl ?_
   refine Lin.skip (by decide) rfl ?_
   refine Lin.skip (by decide) rfl ?_
   refine Lin.skip (by decide) rfl ?_
   refine Lin.skip (by decide) rfl ?_
   refine Lin.q (v := .bool (false)) (by decide) (Pu.qo (p_pickF rfl rfl)) ?_
   refine Lin.q (v := .bool (false)) (by decide) (Pu.qo (p_assign rfl)) ?_
   have j3 := Option.some.inj j3; subst j3
   show At _ _ _ _ _ _
   exact n1 ⟨rfl, trivial⟩
 refine tRet ?_
 have hr := Option.some.inj H; subst hr
 exact back1 () rfl (ResV.tmp (v := .bool (b2)) rfl) rfl Ents.nil Take.nil
noncomputable def p_spec_NameOk_b0 (v0 : (List Tag)) (Q5 : Int) : Option ((Int) ⊕ (Unit ⊕ Bool)) := cond (decide (Q5 < (v0.length : Int))) (bd (gd (ix Q5 v0.length) <| bd (p_spec_l3Tag (nth v0 Q5.toNat)) fun r17 => cond (!r17) (some (true)) (cond (decide (0 < Q5)) (gd (I64 (Q5 - 1)) <| gd (ix (Q5 - 1) v0.length) <| some (!sless ((nth v0 ((Q5 - 1).toNat)).1) ((nth v0 Q5.toNat).1))) (some (false)))) fun b14 => cond (b14) (some (.inr (.inr false))) (gd (I64 (Q5 + 1)) <| some (.inl (Q5 + 1)))) (some (.inr (.inl ())))
noncomputable def p_spec_NameOk (v0 : (List Tag)) : Option (Bool) := bd (lp (p_spec_NameOk_b0 v0) 0) <| sw (fun _ => bd (p_spec_l6In (v0.length : Int) 1 3) fun r26 => some r26) (fun q => some q)
theorem c_spec_NameOk {r : Bool} (v0 : (List Tag)) (x_v0 : Option Addr × Nat) (H : p_spec_NameOk v0 = some r) : Fn' Try.prog 28 #[.slice x_v0.1 v0.length x_v0.2] [imm (.slice x_v0.1 v0.length x_v0.2) v0] [] (ι := Unit) (fun _ => .bool (r)) (fun _ => []) (fun _ => []) := by
 refine calls_of (args := [_]) Try.func28 rfl (by kernel_rfl) Try.ntmps28 (by simp) fun c => ?_
 unfold p_spec_NameOk at H
 refine Tr.seq (Tr.region ?_)
 refine Rg.q (v := .bool (false)) (Pu.qo (p_assign rfl)) (by decide) (Rg.nl (nT ?_))
 refine Tr.seq (Tr.seq (Tr.region ?_))
 refine Rg.q (v := .int .i64 (0)) (Pu.qo (p_assign rfl)) (by decide) (Rg.nl (nT ?_))
 obtain ⟨x1, hx2, H⟩ := bd.of H
 obtain ⟨n3, hx2⟩ := lp.of hx2
 refine tMidNC (ι := { q : (Unit) × Unit // x1 = .inl q.1 }) (fun ψ => [(0, .slice x_v0.1 v0.length x_v0.2)]) (fun ψ => []) ?_ ?_
 ·refine Tr.block ?_
  refine tLoopC (ι := { q : Nat × (Int) × Unit // itr (p_spec_NameOk_b0 v0) q.1 q.2.1 = some x1 }) (fun ζ => [(0, .slice x_v0.1 v0.length x_v0.2), (3, .int .i64 (ζ.1.2.1))]) (fun ζ => []) (fun ζ => ζ.1.1) ⟨(n3, 0, ()), hx2⟩ ⟨rfl, rfl, trivial⟩ Take.nil ?_
  rintro ⟨⟨m4, Q5, z6⟩, hk11⟩
  obtain ⟨m12, t8, e, H1, hi9, hb10⟩ := itr.of (n := m4) (s := Q5) hk11
  subst e; unfold p_spec_NameOk_b0 at H1
  show Tr _ _ _ _ _ [(0, .slice x_v0.1 v0.length x_v0.2), (3, .int .i64 (Q5))] _ []
  refine Tr.seq (Tr.seq (Tr.region ?_))
  refine Rg.q (v := .int .i64 (Q5)) (Pu.qo (p_move rfl)) (by decide) ?_
  refine Rg.q (v := .slice x_v0.1 v0.length x_v0.2) (Pu.qo (p_move rfl)) (by decide) ?_
  refine Rg.q (v := .int .i64 ((v0.length : Int))) (Pu.qo (p_len 30 Try.underlying38 rfl)) (by decide) ?_
  refine Rg.q (v := .bool (decide (Q5 < (v0.length : Int)))) (Pu.qo (p_lss rfl rfl)) (by decide) (Rg.nl (nT ?_))
  refine Tr.cond (b := decide (Q5 < (v0.length : Int))) rfl (fun h13 => ?_) (fun h13 => ?_)
  ·have H1 := cdT h13 H1
   refine tSkip ?_
   refine nT (Tr.seq ?_)
   refine Tr.block ?_
   obtain ⟨b14, j15, H1⟩ := bd.of H1
   refine tMid1 [(33, .bool (b14)), (0, .slice x_v0.1 v0.length x_v0.2), (3, .int .i64 (Q5))] ?_ ?_
   ·refine tLinS [(0, .slice x_v0.1 v0.length x_v0.2), (3, .int .i64 (Q5))] Try.mixed (.inr (by kernel_rfl)) ⟨rfl, rfl, trivial⟩ rfl ?_
    refine Lin.q (v := .slice x_v0.1 v0.length x_v0.2) (by decide) (Pu.qo (p_move rfl)) ?_
    refine Lin.q (v := .int .i64 (Q5)) (by decide) (Pu.qo (p_move rfl)) ?_
    obtain ⟨h16, j15⟩ := gd.of j15
    refine Lin.q (v := elp x_v0.1 (Q5.toNat * Enc.sz Tag + 0)) (by decide) (q_ixg (l := v0) (E := fun i => Flat.enc (nth v0 i)) (oa := x_v0.1) Try.underlying38 ty30 rfl rfl h16 rfl (EntB.flat (Ent.b Ent.z))) ?_
    refine Lin.q (v := .agg #[.string ((nth v0 Q5.toNat).1), .string ((nth v0 Q5.toNat).2)]) (by decide) (q_ldeA (l := v0) (E := fun i => Flat.enc (nth v0 i)) (oa := x_v0.1) (i := Q5.toNat) ty30 rfl (EntB.flat (Ent.b Ent.z)) h16.lt) ?_
    obtain ⟨r17, h18, j15⟩ := bd.of j15
    refine Lin.q (v := .bool (r17)) (by decide) (q_call (vs := [.agg #[.string ((nth v0 Q5.toNat).1), .string ((nth v0 Q5.toNat).2)]]) (c_spec_l3Tag (nth v0 Q5.toNat) h18) rfl EntsB.nil) ?_
    refine Lin.q (v := .bool (!r17)) (by decide) (Pu.qo (p_not rfl)) ?_
    rcases Bool.eq_false_or_eq_true (!r17) with h19 | h19
    ·have j15 := cdT h19 j15
     refine Lin.q (v := .bool (true)) (by decide) (Qo.eqv (v := .bool (!r17)) (Pu.qo (p_move rfl)) (congrArg Value.bool h19)) ?_
     refine Lin.skip (by decide) rfl ?_
     refine Lin.skip (by decide) rfl ?_
     refine Lin.skip (by decide) rfl ?_
     refine Lin.skip (by decide) rfl ?_
     refine Lin.skip (by decide) rfl ?_
     refine Lin.skip (by decide) rfl ?_
     refine Lin.skip (by decide) rfl ?_
     refine Lin.skip (by decide) rfl ?_
     refine Lin.skip (by decide) rfl ?_
     refine Lin.skip (by decide) rfl ?_
     refine Lin.skip (by decide) rfl ?_
     refine Lin.skip (by decide) rfl ?_
     refine Lin.skip (by decide) rfl ?_
     refine Lin.skip (by decide) rfl ?_
     refine Lin.skip (by decide) rfl ?_
     refine Lin.skip (by decide) rfl ?_
     refine Lin.q (v := .bool (true)) (by decide) (Pu.qo (p_pickT rfl rfl)) ?_
     have j15 := Option.some.inj j15; subst j15
     show At _ _ _ _ _ _
     exact n1 ⟨rfl, rfl, rfl, trivial⟩
    ·have j15 := cdF h19 j15
     refine Lin.q (v := .bool (false)) (by decide) (Qo.eqv (v := .bool (!r17)) (Pu.qo (p_move rfl)) (congrArg Value.bool h19)) ?_
     refine Lin.g (v := .int .i64 (Q5)) (by decide) rfl (Pu.qo (p_move rfl)) ?_
     refine Lin.g (v := .bool (decide (0 < Q5))) (by decide) rfl (Pu.qo (p_gtr rfl rfl)) ?_
     rcases Bool.eq_false_or_eq_true (decide (0 < Q5)) with h20 | h20
     ·have j15 := cdT h20 j15
      refine Lin.g (v := .bool (true)) (by decide) rfl (Qo.eqv (v := .bool (decide (0 < Q5))) (Pu.qo (p_move rfl)) (congrArg Value.bool h20)) ?_
      refine Lin.g (v := .slice x_v0.1 v0.length x_v0.2) (by decide) rfl (Pu.qo (p_move rfl)) ?_
      refine Lin.g (v := .int .i64 (Q5)) (by decide) rfl (Pu.qo (p_move rfl)) ?_
      obtain ⟨h21, j15⟩ := gd.of j15
      refine Lin.g (v := .int .i64 (Q5 - 1)) (by decide) rfl (Pu.qo (p_sub rfl rfl h21)) ?_
      obtain ⟨h22, j15⟩ := gd.of j15
      refine Lin.g (v := elp x_v0.1 (((Q5 - 1).toNat) * Enc.sz Tag + 0)) (by decide) rfl (q_ixg (l := v0) (E := fun i => Flat.enc (nth v0 i)) (oa := x_v0.1) Try.underlying38 ty30 rfl rfl h22 rfl (EntB.flat (Ent.b Ent.z))) ?_
      refine Lin.g (v := elp x_v0.1 (((Q5 - 1).toNat) * Enc.sz Tag + 0)) (by decide) rfl (q_faeE (l := v0) (E := fun i => Flat.enc (nth v0 i)) (oa := x_v0.1) (j := 0) ((Q5 - 1).toNat) fa30_0 rfl (EntB.flat (Ent.b Ent.z)) h22.lt rfl) ?_
      refine Lin.g (v := .string ((nth v0 ((Q5 - 1).toNat)).1)) (by decide) rfl (q_lde (l := v0) (E := fun i => Flat.enc (nth v0 i)) (oa := x_v0.1) (i := (Q5 - 1).toNat) (j := 0) ty9 rfl (EntB.flat (Ent.b Ent.z)) h22.lt rfl) ?_
      refine Lin.g (v := .slice x_v0.1 v0.length x_v0.2) (by decide) rfl (Pu.qo (p_move rfl)) ?_
      refine Lin.g (v := .int .i64 (Q5)) (by decide) rfl (Pu.qo (p_move rfl)) ?_
      refine Lin.g (v := elp x_v0.1 (Q5.toNat * Enc.sz Tag + 0)) (by decide) rfl (q_ixg (l := v0) (E := fun i => Flat.enc (nth v0 i)) (oa := x_v0.1) Try.underlying38 ty30 rfl rfl h16 rfl (EntB.flat (Ent.b Ent.z))) ?_
      refine Lin.g (v := elp x_v0.1 (Q5.toNat * Enc.sz Tag + 0)) (by decide) rfl (q_faeE (l := v0) (E := fun i => Flat.enc (nth v0 i)) (oa := x_v0.1) (j := 0) Q5.toNat fa30_0 rfl (EntB.flat (Ent.b Ent.z)) h16.lt rfl) ?_
      refine Lin.g (v := .string ((nth v0 Q5.toNat).1)) (by decide) rfl (q_lde (l := v0) (E := fun i => Flat.enc (nth v0 i)) (oa := x_v0.1) (i := Q5.toNat) (j := 0) ty9 rfl (EntB.flat (Ent.b Ent.z)) h16.lt rfl) ?_
      refine Lin.g (v := .bool (!sless ((nth v0 ((Q5 - 1).toNat)).1) ((nth v0 Q5.toNat).1))) (by decide) rfl (Pu.qo (p_sgeq rfl rfl)) ?_
      refine Lin.g (v := .bool (!sless ((nth v0 ((Q5 - 1).toNat)).1) ((nth v0 Q5.toNat).1))) (by decide) rfl (Pu.qo (p_pickT rfl rfl)) ?_
      refine Lin.q (v := .bool (!sless ((nth v0 ((Q5 - 1).toNat)).1) ((nth v0 Q5.toNat).1))) (by decide) (Pu.qo (p_pickF rfl rfl)) ?_
      have j15 := Option.some.inj j15; subst j15
      show At _ _ _ _ _ _
      exact n1 ⟨rfl, rfl, rfl, trivial⟩
     ·have j15 := cdF h20 j15
      refine Lin.g (v := .bool (false)) (by decide) rfl (Qo.eqv (v := .bool (decide (0 < Q5))) (Pu.qo (p_move rfl)) (congrArg Value.bool h20)) ?_
      refine Lin.skip (by decide) rfl ?_
      refine Lin.skip (by decide) rfl ?_
      refine Lin.skip (by decide) rfl ?_
      refine Lin.skip (by decide) rfl ?_
      refine Lin.skip (by decide) rfl ?_
      refine Lin.skip (by decide) rfl ?_
      refine Lin.skip (by decide) rfl ?_
      refine Lin.skip (by decide) rfl ?_
      refine Lin.skip (by decide) rfl ?_
      refine Lin.skip (by decide) rfl ?_
      refine Lin.skip (by decide) rfl ?_
      refine Lin.skip (by decide) rfl ?_
      refine Lin.g (v := .bool (false)) (by decide) rfl (Pu.qo (p_pickF rfl rfl)) ?_
      refine Lin.q (v := .bool (false)) (by decide) (Pu.qo (p_pickF rfl rfl)) ?_
      have j15 := Option.some.inj j15; subst j15
      show At _ _ _ _ _ _
      exact n1 ⟨rfl, rfl, rfl, trivial⟩
   refine Tr.cond (b := b14) rfl (fun h23 => ?_) (fun h23 => ?_)
   ·have H1 := cdT h23 H1
    refine Tr.seq (Tr.region ?_)
    refine Rg.q (v := .bool (false)) (Pu.qo (p_assign rfl)) (by decide) (Rg.nl (nT ?_))
    refine tRet ?_
    refine rB (rT (rT (rB (rT (rT (?_))))))
    have hx := hb10 _ (Option.some.inj H1).symm; subst hx
    replace H := sw.r H
    have hr := Option.some.inj H; subst hr
    exact back1 () rfl (ResV.tmp (v := .bool (false)) rfl) rfl Ents.nil Take.nil
   ·have H1 := cdF h23 H1
    refine tSkip ?_
    refine nB (nT (?_))
    refine Tr.region ?_
    refine Rg.q (v := .int .i64 (Q5)) (Pu.qo (p_move rfl)) (by decide) ?_
    obtain ⟨h24, H1⟩ := gd.of H1
    refine Rg.q (v := .int .i64 (Q5 + 1)) (Pu.qo (p_add rfl rfl h24)) (by decide) ?_
    refine Rg.q (v := .int .i64 (Q5 + 1)) (Pu.qo (p_assign rfl)) (by decide) (Rg.nl ?_)
    exact nLC ⟨(m12, Q5 + 1, ()), hi9 _ (Option.some.inj H1).symm⟩ (Nat.lt_succ_self _) ⟨rfl, rfl, trivial⟩ Ents.refl Take.nil
  ·have H1 := cdF h13 H1
   refine tExit (xT (xT (xE (?_))))
   exact nMC ⟨((), ()), (hb10 _ (Option.some.inj H1).symm).symm⟩ ⟨rfl, trivial⟩ Ents.refl Take.nil
 ·rintro ⟨⟨e25, y7⟩, hx⟩; subst hx; replace H := sw.l H
  show At _ _ [(0, .slice x_v0.1 v0.length x_v0.2)] _ [] _
  refine nT (?_)
  refine Tr.seq (Tr.region ?_)
  refine Rg.q (v := .slice x_v0.1 v0.length x_v0.2) (Pu.qo (p_move rfl)) (by decide) ?_
  refine Rg.q (v := .int .i64 ((v0.length : Int))) (Pu.qo (p_len 30 Try.underlying38 rfl)) (by decide) ?_
  obtain ⟨r26, h27, H⟩ := bd.of H
  refine Rg.q (v := .bool (r26)) (q_call (vs := [.int .i64 ((v0.length : Int)), .int .i64 (1), .int .i64 (3)]) (c_spec_l6In (v0.length : Int) 1 3 h27) rfl EntsB.nil) (by decide) ?_
  refine Rg.q (v := .bool (r26)) (Pu.qo (p_assign rfl)) (by decide) (Rg.nl (nT ?_))
  refine tRet ?_
  have hr := Option.some.inj H; subst hr
  exact back1 () rfl (ResV.tmp (v := .bool (r26)) rfl) rfl Ents.nil Take.nil
noncomputable def p_spec_l11Names_b0 (v0 : (List (List Tag))) (Q8 : (List (List Tag)) × Int) : Option (((List (List Tag)) × Int) ⊕ ((List (List Tag)))) := cond (decide (Q8.2 < (v0.length : Int))) (gd (ix Q8.2 v0.length) <| gd (room (([] : List Tag).length + (nth v0 Q8.2.toNat).length)) <| gd (room (Q8.1.length + 1)) <| gd (I64 (Q8.2 + 1)) <| some (.inl ((Q8.1 ++ [([] : List Tag) ++ (nth v0 Q8.2.toNat)]), Q8.2 + 1))) (some (.inr Q8.1))
noncomputable def p_spec_l11Names (v0 : (List (List Tag))) : Option ((List (List Tag))) := bd (lp (p_spec_l11Names_b0 v0) (([] : List (List Tag)), 0)) fun x4 => some x4
theorem c_spec_l11Names {r : (List (List Tag))} (v0 : (List (List Tag))) (x_v0 : Option Addr × Nat) (H : p_spec_l11Names v0 = some r) : Fn' Try.prog 124 #[.slice x_v0.1 v0.length x_v0.2] [imm (.slice x_v0.1 v0.length x_v0.2) v0] [] (ι := Option Addr × Nat) (fun x => .slice x.1 r.length x.2) (fun _ => []) (fun x => [tree (.slice x.1 r.length x.2) r]) := by
 refine calls_of (args := [_]) Try.func124 rfl (by kernel_rfl) Try.ntmps124 (by simp) fun c => ?_
 unfold p_spec_l11Names at H
 refine Tr.openD Ent.z fun X1 => ?_
 refine Tr.seq (Tr.region ?_)
 refine Rg.q (v := .slice none 0 0) (Pu.qo (p_assign rfl)) (by decide) (Rg.nl (nT ?_))
 refine Tr.seq (Tr.region ?_)
 refine Rg.ed (e_lit0 (List Tag) Try.underlying23 ty38) rfl (by decide) ?_
 rintro _ _ _ ⟨a2, c3, rfl, rfl, rfl⟩
 refine Rg.q (v := .slice a2 (([] : List (List Tag)).length) c3) (Pu.qo (p_assign rfl)) (by decide) (Rg.nl (nT ?_))
 refine Tr.seq (Tr.seq (Tr.region ?_))
 refine Rg.q (v := .int .i64 (0)) (Pu.qo (p_assign rfl)) (by decide) (Rg.nl (nT ?_))
 obtain ⟨x4, hx5, H⟩ := bd.of H
 obtain ⟨n6, hx5⟩ := lp.of hx5
 refine tMidNC (ι := Option Addr × Nat) (fun ψ => [(3, .slice ψ.1 x4.length ψ.2)]) (fun ψ => [tree (.slice ψ.1 x4.length ψ.2) x4]) ?_ ?_
 ·refine Tr.block ?_
  refine tLoopC (ι := { q : Nat × ((List (List Tag)) × Int) × (Option Addr × Nat) // itr (p_spec_l11Names_b0 v0) q.1 q.2.1 = some x4 }) (fun ζ => [(0, .slice x_v0.1 v0.length x_v0.2), (3, .slice ζ.1.2.2.1 ζ.1.2.1.1.length ζ.1.2.2.2), (4, .int .i64 (ζ.1.2.1.2))]) (fun ζ => [tree (.slice ζ.1.2.2.1 ζ.1.2.1.1.length ζ.1.2.2.2) ζ.1.2.1.1]) (fun ζ => ζ.1.1) ⟨(n6, (([] : List (List Tag)), 0), (a2, c3)), hx5⟩ ⟨rfl, rfl, rfl, trivial⟩ (.cons Del.here .nil) ?_
  rintro ⟨⟨m7, Q8, z9⟩, hk14⟩
  obtain ⟨m15, t11, e, H1, hi12, hb13⟩ := itr.of (n := m7) (s := Q8) hk14
  subst e; unfold p_spec_l11Names_b0 at H1
  show Tr _ _ _ _ _ [(0, .slice x_v0.1 v0.length x_v0.2), (3, .slice z9.1 Q8.1.length z9.2), (4, .int .i64 (Q8.2))] _ [tree (.slice z9.1 Q8.1.length z9.2) Q8.1]
  refine Tr.seq (Tr.seq (Tr.region ?_))
  refine Rg.q (v := .int .i64 (Q8.2)) (Pu.qo (p_move rfl)) (by decide) ?_
  refine Rg.q (v := .slice x_v0.1 v0.length x_v0.2) (Pu.qo (p_move rfl)) (by decide) ?_
  refine Rg.q (v := .int .i64 ((v0.length : Int))) (Pu.qo (p_len 38 Try.underlying23 rfl)) (by decide) ?_
  refine Rg.q (v := .bool (decide (Q8.2 < (v0.length : Int)))) (Pu.qo (p_lss rfl rfl)) (by decide) (Rg.nl (nT ?_))
  refine Tr.cond (b := decide (Q8.2 < (v0.length : Int))) rfl (fun h16 => ?_) (fun h16 => ?_)
  ·have H1 := cdT h16 H1
   refine tSkip ?_
   refine nT (Tr.seq ?_)
   refine Tr.block ?_
   refine Tr.region ?_
   refine Rg.q (v := .slice z9.1 Q8.1.length z9.2) (Pu.qo (p_move rfl)) (by decide) ?_
   refine Rg.ed (e_lit0 Tag Try.underlying38 ty30) rfl (by decide) ?_
   rintro _ _ _ ⟨a17, c18, rfl, rfl, rfl⟩
   refine Rg.q (v := .slice x_v0.1 v0.length x_v0.2) (Pu.qo (p_move rfl)) (by decide) ?_
   refine Rg.q (v := .int .i64 (Q8.2)) (Pu.qo (p_move rfl)) (by decide) ?_
   obtain ⟨h19, H1⟩ := gd.of H1
   refine Rg.q (v := elp x_v0.1 (Q8.2.toNat * Enc.sz (List Tag) + 0)) (q_ixg (l := v0) (E := fun i => Dp.denc (nth v0 i) (X1 i)) (oa := x_v0.1) Try.underlying23 ty38 rfl rfl h19 rfl (Ent.b (Ent.darr Ent.z))) (by decide) ?_
   refine Rg.q (v := .slice ((X1 Q8.2.toNat).1) ((nth v0 Q8.2.toNat).length) ((X1 Q8.2.toNat).2.1)) (q_lde (l := v0) (E := fun i => Dp.denc (nth v0 i) (X1 i)) (oa := x_v0.1) (i := Q8.2.toNat) (j := 0) ty38 rfl (Ent.b (Ent.darr Ent.z)) h19.lt rfl) (by decide) ?_
   obtain ⟨h22, H1⟩ := gd.of H1
   refine Rg.ed (e_appF (l := ([] : List Tag)) (k := nth v0 Q8.2.toNat) (α := Tag) Try.underlying38 ty30 rfl rfl (h22.b (by decide)) h22.x (.cons Del.here .nil) (Ent.b (Ent.dimm (Ent.del Ent.z h19.lt)))) rfl (by decide) ?_
   rintro _ _ _ ⟨a20, c21, rfl, rfl, rfl⟩
   refine Rg.ed (e_lit (vs := [(0, .slice a20 ((([] : List Tag) ++ (nth v0 Q8.2.toNat)).length) c21)]) [.slice a20 ((([] : List Tag) ++ (nth v0 Q8.2.toNat)).length) c21] Try.underlying23 ty38 rfl (by decide) (by decide) (by kernel_rfl)) rfl (by decide) ?_
   rintro _ _ _ ⟨g23, rfl, rfl, rfl⟩
   obtain ⟨h26, H1⟩ := gd.of H1
   refine Rg.ed (e_app1 (l := Q8.1) (α := (List Tag)) (([] : List Tag) ++ (nth v0 Q8.2.toNat)) (a20, c21) Try.underlying23 ty38 rfl rfl (h26.b (by decide)) h26.x rfl (ShpT.wfa _) (.cons Del.here.there.there (.cons Del.here (.cons Del.here .nil)))) rfl (by decide) ?_
   rintro _ _ _ ⟨a24, c25, rfl, rfl, rfl⟩
   refine Rg.q (v := .slice a24 ((Q8.1 ++ [([] : List Tag) ++ (nth v0 Q8.2.toNat)]).length) c25) (Pu.qo (p_assign rfl)) (by decide) (Rg.nl ?_)
   refine nB (nT (?_))
   refine Tr.region ?_
   refine Rg.q (v := .int .i64 (Q8.2)) (Pu.qo (p_move rfl)) (by decide) ?_
   obtain ⟨h27, H1⟩ := gd.of H1
   refine Rg.q (v := .int .i64 (Q8.2 + 1)) (Pu.qo (p_add rfl rfl h27)) (by decide) ?_
   refine Rg.q (v := .int .i64 (Q8.2 + 1)) (Pu.qo (p_assign rfl)) (by decide) (Rg.nl ?_)
   exact nLC ⟨(m15, ((Q8.1 ++ [([] : List Tag) ++ (nth v0 Q8.2.toNat)]), Q8.2 + 1), (a24, c25)), hi12 _ (Option.some.inj H1).symm⟩ (Nat.lt_succ_self _) ⟨rfl, rfl, rfl, trivial⟩ Ents.refl (.cons Del.here .nil)
  ·have H1 := cdF h16 H1
   refine tExit (xT (xT (xE (?_))))
   have hx := hb13 _ (Option.some.inj H1).symm; subst hx
   exact nMC (z9.1, z9.2) ⟨rfl, trivial⟩ Ents.refl (.cons Del.here .nil)
 ·intro y10
  show At _ _ [(3, .slice y10.1 x4.length y10.2)] _ [tree (.slice y10.1 x4.length y10.2) x4] _
  refine nT (?_)
  refine Tr.seq (Tr.region ?_)
  refine Rg.q (v := .slice y10.1 x4.length y10.2) (Pu.qo (p_move rfl)) (by decide) ?_
  refine Rg.q (v := .slice y10.1 x4.length y10.2) (Pu.qo (p_assign rfl)) (by decide) (Rg.nl (nT ?_))
  refine tRet ?_
  have hr := Option.some.inj H; subst hr
  exact back1 y10 rfl (ResV.tmp (v := .slice y10.1 x4.length y10.2) rfl) rfl Ents.nil (.cons Del.here .nil)
noncomputable def p_spec_l3Has_b0 (v0 : (List Tag)) (v1 : Tag) (Q6 : Int) : Option ((Int) ⊕ (Unit ⊕ Bool)) := cond (decide (Q6 < (v0.length : Int))) (gd (ix Q6 v0.length) <| cond (decide (nth v0 Q6.toNat = v1)) (some (.inr (.inr true))) (gd (I64 (Q6 + 1)) <| some (.inl (Q6 + 1)))) (some (.inr (.inl ())))
noncomputable def p_spec_l3Has (v0 : (List Tag)) (v1 : Tag) : Option (Bool) := bd (lp (p_spec_l3Has_b0 v0 v1) 0) <| sw (fun _ => some false) (fun q => some q)
theorem c_spec_l3Has {r : Bool} (v0 : (List Tag)) (x_v0 : Option Addr × Nat) (v1 : Tag) (H : p_spec_l3Has v0 v1 = some r) : Fn' Try.prog 117 #[.slice x_v0.1 v0.length x_v0.2, .agg #[.string (v1.1), .string (v1.2)]] [imm (.slice x_v0.1 v0.length x_v0.2) v0] [] (ι := Unit) (fun _ => .bool (r)) (fun _ => []) (fun _ => []) := by
 refine calls_of (args := [_, _]) Try.func117 rfl (by kernel_rfl) Try.ntmps117 (by simp) fun c => ?_
 unfold p_spec_l3Has at H
 refine Tr.seq (Tr.region ?_)
 refine Rg.ed (e_box (t := 30) (v := .agg #[.string (v1.1), .string (v1.2)]) rfl) rfl (by decide) ?_
 rintro _ _ _ ⟨g1, rfl, rfl, rfl⟩
 refine Rg.q (v := .bool (false)) (Pu.qo (p_assign rfl)) (by decide) (Rg.nl (nT ?_))
 refine Tr.seq (Tr.seq (Tr.region ?_))
 refine Rg.q (v := .int .i64 (0)) (Pu.qo (p_assign rfl)) (by decide) (Rg.nl (nT ?_))
 obtain ⟨x2, hx3, H⟩ := bd.of H
 obtain ⟨n4, hx3⟩ := lp.of hx3
 refine tMidNC (ι := { q : (Unit) × Unit // x2 = .inl q.1 }) (fun ψ => []) (fun ψ => []) ?_ ?_
 ·refine Tr.block ?_
  refine tLoopC (ι := { q : Nat × (Int) × Unit // itr (p_spec_l3Has_b0 v0 v1) q.1 q.2.1 = some x2 }) (fun ζ => [(0, .slice x_v0.1 v0.length x_v0.2), (3, .pointer (some ⟨g1, 0, none⟩)), (5, .int .i64 (ζ.1.2.1))]) (fun ζ => [box g1 30 [.string (v1.1), .string (v1.2)]]) (fun ζ => ζ.1.1) ⟨(n4, 0, ()), hx3⟩ ⟨rfl, rfl, rfl, trivial⟩ (.cons Del.here .nil) ?_
  rintro ⟨⟨m5, Q6, z7⟩, hk12⟩
  obtain ⟨m13, t9, e, H1, hi10, hb11⟩ := itr.of (n := m5) (s := Q6) hk12
  subst e; unfold p_spec_l3Has_b0 at H1
  show Tr _ _ _ _ _ [(0, .slice x_v0.1 v0.length x_v0.2), (3, .pointer (some ⟨g1, 0, none⟩)), (5, .int .i64 (Q6))] _ [box g1 30 [.string (v1.1), .string (v1.2)]]
  refine Tr.seq (Tr.seq (Tr.region ?_))
  refine Rg.q (v := .int .i64 (Q6)) (Pu.qo (p_move rfl)) (by decide) ?_
  refine Rg.q (v := .slice x_v0.1 v0.length x_v0.2) (Pu.qo (p_move rfl)) (by decide) ?_
  refine Rg.q (v := .int .i64 ((v0.length : Int))) (Pu.qo (p_len 30 Try.underlying38 rfl)) (by decide) ?_
  refine Rg.q (v := .bool (decide (Q6 < (v0.length : Int)))) (Pu.qo (p_lss rfl rfl)) (by decide) (Rg.nl (nT ?_))
  refine Tr.cond (b := decide (Q6 < (v0.length : Int))) rfl (fun h14 => ?_) (fun h14 => ?_)
  ·have H1 := cdT h14 H1
   refine tSkip ?_
   refine nT (Tr.seq ?_)
   refine Tr.block ?_
   refine Tr.seq ?_
   refine tLinS [(0, .slice x_v0.1 v0.length x_v0.2), (3, .pointer (some ⟨g1, 0, none⟩)), (5, .int .i64 (Q6))] Try.mixed (.inr (by kernel_rfl)) ⟨rfl, rfl, rfl, trivial⟩ rfl ?_
   refine Lin.q (v := .slice x_v0.1 v0.length x_v0.2) (by decide) (Pu.qo (p_move rfl)) ?_
   refine Lin.q (v := .int .i64 (Q6)) (by decide) (Pu.qo (p_move rfl)) ?_
   obtain ⟨h15, H1⟩ := gd.of H1
   refine Lin.q (v := elp x_v0.1 (Q6.toNat * Enc.sz Tag + 0)) (by decide) (q_ixg (l := v0) (E := fun i => Flat.enc (nth v0 i)) (oa := x_v0.1) Try.underlying38 ty30 rfl rfl h15 rfl (EntB.flat (Ent.b Ent.z))) ?_
   refine Lin.q (v := .agg #[.string ((nth v0 Q6.toNat).1), .string ((nth v0 Q6.toNat).2)]) (by decide) (q_ldeA (l := v0) (E := fun i => Flat.enc (nth v0 i)) (oa := x_v0.1) (i := Q6.toNat) ty30 rfl (EntB.flat (Ent.b Ent.z)) h15.lt) ?_
   refine Lin.q (v := .agg #[.string (v1.1), .string (v1.2)]) (by decide) (q_ldbA ty30 rfl Has.here rfl) ?_
   refine Lin.q (v := .bool (decide (nth v0 Q6.toNat = v1))) (by decide) (Pu.qo (p_aeql (a := nth v0 Q6.toNat) (b := v1) ae30 rfl rfl rfl rfl)) ?_
   show At _ _ _ _ _ _
   refine nT (?_)
   refine Tr.cond (b := decide (nth v0 Q6.toNat = v1)) rfl (fun h16 => ?_) (fun h16 => ?_)
   ·have H1 := cdT h16 H1
    refine Tr.seq (Tr.region ?_)
    refine Rg.q (v := .bool (true)) (Pu.qo (p_assign rfl)) (by decide) (Rg.nl (nT ?_))
    refine tRet ?_
    refine rB (rT (rT (rB (rT (rT (?_))))))
    have hx := hb11 _ (Option.some.inj H1).symm; subst hx
    replace H := sw.r H
    have hr := Option.some.inj H; subst hr
    exact back1 () rfl (ResV.tmp (v := .bool (true)) rfl) rfl Ents.nil Take.nil
   ·have H1 := cdF h16 H1
    refine tSkip ?_
    refine nB (nT (?_))
    refine Tr.region ?_
    refine Rg.q (v := .int .i64 (Q6)) (Pu.qo (p_move rfl)) (by decide) ?_
    obtain ⟨h17, H1⟩ := gd.of H1
    refine Rg.q (v := .int .i64 (Q6 + 1)) (Pu.qo (p_add rfl rfl h17)) (by decide) ?_
    refine Rg.q (v := .int .i64 (Q6 + 1)) (Pu.qo (p_assign rfl)) (by decide) (Rg.nl ?_)
    exact nLC ⟨(m13, Q6 + 1, ()), hi10 _ (Option.some.inj H1).symm⟩ (Nat.lt_succ_self _) ⟨rfl, rfl, rfl, trivial⟩ Ents.refl (.cons Del.here .nil)
  ·have H1 := cdF h14 H1
   refine tExit (xT (xT (xE (?_))))
   exact nMC ⟨((), ()), (hb11 _ (Option.some.inj H1).symm).symm⟩ trivial Ents.refl Take.nil
 ·rintro ⟨⟨e18, y8⟩, hx⟩; subst hx; replace H := sw.l H
  show At _ _ [] _ [] _
  refine nT (?_)
  refine Tr.seq (Tr.region ?_)
  refine Rg.q (v := .bool (false)) (Pu.qo (p_assign rfl)) (by decide) (Rg.nl (nT ?_))
  refine tRet ?_
  have hr := Option.some.inj H; subst hr
  exact back1 () rfl (ResV.tmp (v := .bool (false)) rfl) rfl Ents.nil Take.nil
noncomputable def p_spec_l11Ids_b0 (v0 : (List (List Tag))) (v1 : Tag) (Q9 : (List Int) × Int) : Option (((List Int) × Int) ⊕ ((List Int))) := cond (decide (Q9.2 < (v0.length : Int))) (gd (ix Q9.2 v0.length) <| bd (p_spec_l3Has (nth v0 Q9.2.toNat) v1) fun r19 => cond (r19) (gd (I64 (Q9.2 + 1)) <| gd (room (Q9.1.length + 1)) <| some (.inl ((Q9.1 ++ [Q9.2 + 1]), Q9.2 + 1))) (gd (I64 (Q9.2 + 1)) <| some (.inl (Q9.1, Q9.2 + 1)))) (some (.inr Q9.1))
noncomputable def p_spec_l11Ids (v0 : (List (List Tag))) (v1 : Tag) : Option ((List Int)) := bd (lp (p_spec_l11Ids_b0 v0 v1) (([] : List Int), 0)) fun x5 => some x5
theorem c_spec_l11Ids {r : (List Int)} (v0 : (List (List Tag))) (x_v0 : Option Addr × Nat) (v1 : Tag) (H : p_spec_l11Ids v0 v1 = some r) : Fn' Try.prog 70 #[.slice x_v0.1 v0.length x_v0.2, .agg #[.string (v1.1), .string (v1.2)]] [imm (.slice x_v0.1 v0.length x_v0.2) v0] [] (ι := Option Addr × Nat) (fun x => .slice x.1 r.length x.2) (fun _ => []) (fun x => [tree (.slice x.1 r.length x.2) r]) := by
 refine calls_of (args := [_, _]) Try.func70 rfl (by kernel_rfl) Try.ntmps70 (by simp) fun c => ?_
 unfold p_spec_l11Ids at H
 refine Tr.openD Ent.z fun X1 => ?_
 refine Tr.seq (Tr.region ?_)
 refine Rg.ed (e_box (t := 30) (v := .agg #[.string (v1.1), .string (v1.2)]) rfl) rfl (by decide) ?_
 rintro _ _ _ ⟨g2, rfl, rfl, rfl⟩
 refine Rg.q (v := .slice none 0 0) (Pu.qo (p_assign rfl)) (by decide) (Rg.nl (nT ?_))
 refine Tr.seq (Tr.region ?_)
 refine Rg.ed (e_lit0 Int Try.underlying31 ty3) rfl (by decide) ?_
 rintro _ _ _ ⟨a3, c4, rfl, rfl, rfl⟩
 refine Rg.q (v := .slice a3 (([] : List Int).length) c4) (Pu.qo (p_assign rfl)) (by decide) (Rg.nl (nT ?_))
 refine Tr.seq (Tr.seq (Tr.region ?_))
 refine Rg.q (v := .int .i64 (0)) (Pu.qo (p_assign rfl)) (by decide) (Rg.nl (nT ?_))
 obtain ⟨x5, hx6, H⟩ := bd.of H
 obtain ⟨n7, hx6⟩ := lp.of hx6
 refine tMidNC (ι := Option Addr × Nat) (fun ψ => [(5, .slice ψ.1 x5.length ψ.2)]) (fun ψ => [tree (.slice ψ.1 x5.length ψ.2) x5]) ?_ ?_
 ·refine Tr.block ?_
  refine tLoopC (ι := { q : Nat × ((List Int) × Int) × (Option Addr × Nat) // itr (p_spec_l11Ids_b0 v0 v1) q.1 q.2.1 = some x5 }) (fun ζ => [(0, .slice x_v0.1 v0.length x_v0.2), (3, .pointer (some ⟨g2, 0, none⟩)), (5, .slice ζ.1.2.2.1 ζ.1.2.1.1.length ζ.1.2.2.2), (6, .int .i64 (ζ.1.2.1.2))]) (fun ζ => [box g2 30 [.string (v1.1), .string (v1.2)], tree (.slice ζ.1.2.2.1 ζ.1.2.1.1.length ζ.1.2.2.2) ζ.1.2.1.1]) (fun ζ => ζ.1.1) ⟨(n7, (([] : List Int), 0), (a3, c4)), hx6⟩ ⟨rfl, rfl, rfl, rfl, trivial⟩ (.cons Del.here.there (.cons Del.here .nil)) ?_
  rintro ⟨⟨m8, Q9, z10⟩, hk15⟩
  obtain ⟨m16, t12, e, H1, hi13, hb14⟩ := itr.of (n := m8) (s := Q9) hk15
  subst e; unfold p_spec_l11Ids_b0 at H1
  show Tr _ _ _ _ _ [(0, .slice x_v0.1 v0.length x_v0.2), (3, .pointer (some ⟨g2, 0, none⟩)), (5, .slice z10.1 Q9.1.length z10.2), (6, .int .i64 (Q9.2))] _ [box g2 30 [.string (v1.1), .string (v1.2)], tree (.slice z10.1 Q9.1.length z10.2) Q9.1]
  refine Tr.seq (Tr.seq (Tr.region ?_))
  refine Rg.q (v := .int .i64 (Q9.2)) (Pu.qo (p_move rfl)) (by decide) ?_
  refine Rg.q (v := .slice x_v0.1 v0.length x_v0.2) (Pu.qo (p_move rfl)) (by decide) ?_
  refine Rg.q (v := .int .i64 ((v0.length : Int))) (Pu.qo (p_len 38 Try.underlying23 rfl)) (by decide) ?_
  refine Rg.q (v := .bool (decide (Q9.2 < (v0.length : Int)))) (Pu.qo (p_lss rfl rfl)) (by decide) (Rg.nl (nT ?_))
  refine Tr.cond (b := decide (Q9.2 < (v0.length : Int))) rfl (fun h17 => ?_) (fun h17 => ?_)
  ·have H1 := cdT h17 H1
   refine tSkip ?_
   refine nT (Tr.seq ?_)
   refine Tr.block ?_
   refine Tr.seq ?_
   refine tLinS [(0, .slice x_v0.1 v0.length x_v0.2), (3, .pointer (some ⟨g2, 0, none⟩)), (5, .slice z10.1 Q9.1.length z10.2), (6, .int .i64 (Q9.2))] Try.mixed (.inr (by kernel_rfl)) ⟨rfl, rfl, rfl, rfl, trivial⟩ rfl ?_
   refine Lin.q (v := .slice x_v0.1 v0.length x_v0.2) (by decide) (Pu.qo (p_move rfl)) ?_
   refine Lin.q (v := .int .i64 (Q9.2)) (by decide) (Pu.qo (p_move rfl)) ?_
   obtain ⟨h18, H1⟩ := gd.of H1
   refine Lin.q (v := elp x_v0.1 (Q9.2.toNat * Enc.sz (List Tag) + 0)) (by decide) (q_ixg (l := v0) (E := fun i => Dp.denc (nth v0 i) (X1 i)) (oa := x_v0.1) Try.underlying23 ty38 rfl rfl h18 rfl (Ent.b (Ent.darr Ent.z))) ?_
   refine Lin.q (v := .slice ((X1 Q9.2.toNat).1) ((nth v0 Q9.2.toNat).length) ((X1 Q9.2.toNat).2.1)) (by decide) (q_lde (l := v0) (E := fun i => Dp.denc (nth v0 i) (X1 i)) (oa := x_v0.1) (i := Q9.2.toNat) (j := 0) ty38 rfl (Ent.b (Ent.darr Ent.z)) h18.lt rfl) ?_
   refine Lin.q (v := .agg #[.string (v1.1), .string (v1.2)]) (by decide) (q_ldbA ty30 rfl Has.here rfl) ?_
   obtain ⟨r19, h20, H1⟩ := bd.of H1
   refine Lin.q (v := .bool (r19)) (by decide) (q_call (vs := [.slice ((X1 Q9.2.toNat).1) ((nth v0 Q9.2.toNat).length) ((X1 Q9.2.toNat).2.1), .agg #[.string (v1.1), .string (v1.2)]]) (c_spec_l3Has (nth v0 Q9.2.toNat) ((X1 Q9.2.toNat).1, (X1 Q9.2.toNat).2.1) v1 h20) rfl (EntsB.cons (Ent.b (Ent.dimm (Ent.del Ent.z h18.lt))) EntsB.nil)) ?_
   show At _ _ _ _ _ _
   refine nT (?_)
   refine Tr.cond (b := r19) rfl (fun h21 => ?_) (fun h21 => ?_)
   ·have H1 := cdT h21 H1
    refine Tr.region ?_
    refine Rg.q (v := .slice z10.1 Q9.1.length z10.2) (Pu.qo (p_move rfl)) (by decide) ?_
    refine Rg.q (v := .int .i64 (Q9.2)) (Pu.qo (p_move rfl)) (by decide) ?_
    obtain ⟨h22, H1⟩ := gd.of H1
    refine Rg.q (v := .int .i64 (Q9.2 + 1)) (Pu.qo (p_add rfl rfl h22)) (by decide) ?_
    refine Rg.ed (e_lit (vs := [(0, .int .i64 (Q9.2 + 1))]) [.int .i64 (Q9.2 + 1)] Try.underlying31 ty3 rfl (by decide) (by decide) (by kernel_rfl)) rfl (by decide) ?_
    rintro _ _ _ ⟨g23, rfl, rfl, rfl⟩
    obtain ⟨h26, H1⟩ := gd.of H1
    refine Rg.ed (e_app1 (l := Q9.1) (α := Int) (Q9.2 + 1) () Try.underlying31 ty3 rfl rfl (h26.b (by decide)) h26.x rfl (ShpT.wfa _) (.cons Del.here.there.there (.cons Del.here .nil))) rfl (by decide) ?_
    rintro _ _ _ ⟨a24, c25, rfl, rfl, rfl⟩
    refine Rg.q (v := .slice a24 ((Q9.1 ++ [Q9.2 + 1]).length) c25) (Pu.qo (p_assign rfl)) (by decide) (Rg.nl ?_)
    refine nB (nT (?_))
    refine Tr.region ?_
    refine Rg.q (v := .int .i64 (Q9.2)) (Pu.qo (p_move rfl)) (by decide) ?_
    refine Rg.q (v := .int .i64 (Q9.2 + 1)) (Pu.qo (p_add rfl rfl h22)) (by decide) ?_
    refine Rg.q (v := .int .i64 (Q9.2 + 1)) (Pu.qo (p_assign rfl)) (by decide) (Rg.nl ?_)
    exact nLC ⟨(m16, ((Q9.1 ++ [Q9.2 + 1]), Q9.2 + 1), (a24, c25)), hi13 _ (Option.some.inj H1).symm⟩ (Nat.lt_succ_self _) ⟨rfl, rfl, rfl, rfl, trivial⟩ Ents.refl (.cons Del.here.there (.cons Del.here .nil))
   ·have H1 := cdF h21 H1
    refine tSkip ?_
    refine nB (nT (?_))
    refine Tr.region ?_
    refine Rg.q (v := .int .i64 (Q9.2)) (Pu.qo (p_move rfl)) (by decide) ?_
    obtain ⟨h27, H1⟩ := gd.of H1
    refine Rg.q (v := .int .i64 (Q9.2 + 1)) (Pu.qo (p_add rfl rfl h27)) (by decide) ?_
    refine Rg.q (v := .int .i64 (Q9.2 + 1)) (Pu.qo (p_assign rfl)) (by decide) (Rg.nl ?_)
    exact nLC ⟨(m16, (Q9.1, Q9.2 + 1), (z10.1, z10.2)), hi13 _ (Option.some.inj H1).symm⟩ (Nat.lt_succ_self _) ⟨rfl, rfl, rfl, rfl, trivial⟩ Ents.refl (.cons Del.here (.cons Del.here .nil))
  ·have H1 := cdF h17 H1
   refine tExit (xT (xT (xE (?_))))
   have hx := hb14 _ (Option.some.inj H1).symm; subst hx
   exact nMC (z10.1, z10.2) ⟨rfl, trivial⟩ Ents.refl (.cons Del.here.there .nil)
 ·intro y11
  show At _ _ [(5, .slice y11.1 x5.length y11.2)] _ [tree (.slice y11.1 x5.length y11.2) x5] _
  refine nT (?_)
  refine Tr.seq (Tr.region ?_)
  refine Rg.q (v := .slice y11.1 x5.length y11.2) (Pu.qo (p_move rfl)) (by decide) ?_
  refine Rg.q (v := .slice y11.1 x5.length y11.2) (Pu.qo (p_assign rfl)) (by decide) (Rg.nl (nT ?_))
  refine tRet ?_
  have hr := Option.some.inj H; subst hr
  exact back1 y11 rfl (ResV.tmp (v := .slice y11.1 x5.length y11.2) rfl) rfl Ents.nil (.cons Del.here .nil)
noncomputable def p_spec_l11Of_b1 (v0 : (List (List Tag))) (Q9 : (List Post) × Int) (Q22 : (List Post) × Int) : Option (((List Post) × Int) ⊕ ((List Post))) := cond (decide (Q22.2 ≤ 122)) (gd (asc Q9.2) <| gd (asc Q22.2) <| bd (p_spec_l11Ids v0 ((s1 Q9.2), (s1 Q22.2))) fun r34 => cond (decide (0 < (r34.length : Int))) (gd (room (Q22.1.length + 1)) <| gd (I32 (Q22.2 + 1)) <| some (.inl ((Q22.1 ++ [(((s1 Q9.2), (s1 Q22.2)), r34)]), Q22.2 + 1))) (gd (I32 (Q22.2 + 1)) <| some (.inl (Q22.1, Q22.2 + 1)))) (some (.inr Q22.1))
noncomputable def p_spec_l11Of_b0 (v0 : (List (List Tag))) (Q9 : (List Post) × Int) : Option (((List Post) × Int) ⊕ ((List Post))) := cond (decide (Q9.2 ≤ 100)) (bd (lp (p_spec_l11Of_b1 v0 Q9) (Q9.1, 112)) fun x18 => gd (I32 (Q9.2 + 1)) <| some (.inl (x18, Q9.2 + 1))) (some (.inr Q9.1))
noncomputable def p_spec_l11Of (v0 : (List (List Tag))) : Option (Index) := bd (lp (p_spec_l11Of_b0 v0) (([] : List Post), 97)) fun x5 => bd (p_spec_l11Names v0) fun r45 => some (r45, x5)
theorem c_spec_l11Of {r : Index} (v0 : (List (List Tag))) (x_v0 : Option Addr × Nat) (H : p_spec_l11Of v0 = some r) : Fn' Try.prog 77 #[.slice x_v0.1 v0.length x_v0.2] [imm (.slice x_v0.1 v0.length x_v0.2) v0] [] (ι := (Option Addr × Nat) × (Option Addr × Nat)) (fun x => .agg #[.slice x.1.1 r.1.length x.1.2, .slice x.2.1 r.2.length x.2.2]) (fun _ => []) (fun x => [tree (.slice x.1.1 r.1.length x.1.2) r.1, tree (.slice x.2.1 r.2.length x.2.2) r.2]) := by
 refine calls_of (args := [_]) Try.func77 rfl (by kernel_rfl) Try.ntmps77 (by simp) fun c => ?_
 unfold p_spec_l11Of at H
 refine Tr.openD Ent.z fun X1 => ?_
 refine Tr.seq (Tr.region ?_)
 refine Rg.ed (e_alloc ty26) rfl (by decide) ?_
 rintro _ _ _ ⟨g2, rfl, rfl, rfl⟩
 refine Rg.nl (nT ?_)
 refine Tr.seq (Tr.region ?_)
 refine Rg.ed (e_lit0 Post Try.underlying24 ty33) rfl (by decide) ?_
 rintro _ _ _ ⟨a3, c4, rfl, rfl, rfl⟩
 refine Rg.q (v := .slice a3 (([] : List Post).length) c4) (Pu.qo (p_assign rfl)) (by decide) (Rg.nl (nT ?_))
 refine Tr.seq (Tr.seq (Tr.region ?_))
 refine Rg.q (v := .int .i32 (97)) (Pu.qo (p_assign rfl)) (by decide) (Rg.nl (nT ?_))
 obtain ⟨x5, hx6, H⟩ := bd.of H
 obtain ⟨n7, hx6⟩ := lp.of hx6
 refine tMidNC (ι := Option Addr × Nat) (fun ψ => [(0, .slice x_v0.1 v0.length x_v0.2), (2, .pointer (some ⟨g2, 0, none⟩)), (3, .slice ψ.1 x5.length ψ.2)]) (fun ψ => [box g2 26 [.slice none 0 0, .slice none 0 0], tree (.slice ψ.1 x5.length ψ.2) x5]) ?_ ?_
 ·refine Tr.block ?_
  refine tLoopC (ι := { q : Nat × ((List Post) × Int) × (Option Addr × Nat) // itr (p_spec_l11Of_b0 v0) q.1 q.2.1 = some x5 }) (fun ζ => [(0, .slice x_v0.1 v0.length x_v0.2), (2, .pointer (some ⟨g2, 0, none⟩)), (3, .slice ζ.1.2.2.1 ζ.1.2.1.1.length ζ.1.2.2.2), (4, .int .i32 (ζ.1.2.1.2))]) (fun ζ => [box g2 26 [.slice none 0 0, .slice none 0 0], tree (.slice ζ.1.2.2.1 ζ.1.2.1.1.length ζ.1.2.2.2) ζ.1.2.1.1]) (fun ζ => ζ.1.1) ⟨(n7, (([] : List Post), 97), (a3, c4)), hx6⟩ ⟨rfl, rfl, rfl, rfl, trivial⟩ (.cons Del.here.there (.cons Del.here .nil)) ?_
  rintro ⟨⟨m8, Q9, z10⟩, hk15⟩
  obtain ⟨m16, t12, e, H1, hi13, hb14⟩ := itr.of (n := m8) (s := Q9) hk15
  subst e; unfold p_spec_l11Of_b0 at H1
  show Tr _ _ _ _ _ [(0, .slice x_v0.1 v0.length x_v0.2), (2, .pointer (some ⟨g2, 0, none⟩)), (3, .slice z10.1 Q9.1.length z10.2), (4, .int .i32 (Q9.2))] _ [box g2 26 [.slice none 0 0, .slice none 0 0], tree (.slice z10.1 Q9.1.length z10.2) Q9.1]
  refine Tr.seq (Tr.seq (Tr.region ?_))
  refine Rg.q (v := .int .i32 (Q9.2)) (Pu.qo (p_move rfl)) (by decide) ?_
  refine Rg.q (v := .bool (decide (Q9.2 ≤ 100))) (Pu.qo (p_leq rfl rfl)) (by decide) (Rg.nl (nT ?_))
  refine Tr.cond (b := decide (Q9.2 ≤ 100)) rfl (fun h17 => ?_) (fun h17 => ?_)
  ·have H1 := cdT h17 H1
   refine tSkip ?_
   refine nT (Tr.seq ?_)
   refine Tr.block ?_
   refine Tr.seq (Tr.region ?_)
   refine Rg.q (v := .int .i32 (112)) (Pu.qo (p_assign rfl)) (by decide) (Rg.nl (nT ?_))
   obtain ⟨x18, hx19, H1⟩ := bd.of H1
   obtain ⟨n20, hx19⟩ := lp.of hx19
   refine tMidNC (ι := Option Addr × Nat) (fun ψ => [(0, .slice x_v0.1 v0.length x_v0.2), (2, .pointer (some ⟨g2, 0, none⟩)), (3, .slice ψ.1 x18.length ψ.2), (4, .int .i32 (Q9.2))]) (fun ψ => [box g2 26 [.slice none 0 0, .slice none 0 0], tree (.slice ψ.1 x18.length ψ.2) x18]) ?_ ?_
   ·refine Tr.block ?_
    refine tLoopC (ι := { q : Nat × ((List Post) × Int) × (Option Addr × Nat) // itr (p_spec_l11Of_b1 v0 Q9) q.1 q.2.1 = some x18 }) (fun ζ => [(0, .slice x_v0.1 v0.length x_v0.2), (2, .pointer (some ⟨g2, 0, none⟩)), (3, .slice ζ.1.2.2.1 ζ.1.2.1.1.length ζ.1.2.2.2), (4, .int .i32 (Q9.2)), (5, .int .i32 (ζ.1.2.1.2))]) (fun ζ => [box g2 26 [.slice none 0 0, .slice none 0 0], tree (.slice ζ.1.2.2.1 ζ.1.2.1.1.length ζ.1.2.2.2) ζ.1.2.1.1]) (fun ζ => ζ.1.1) ⟨(n20, (Q9.1, 112), (z10.1, z10.2)), hx19⟩ ⟨rfl, rfl, rfl, rfl, rfl, trivial⟩ (.cons Del.here (.cons Del.here .nil)) ?_
    rintro ⟨⟨m21, Q22, z23⟩, hk28⟩
    obtain ⟨m29, t25, e, H2, hi26, hb27⟩ := itr.of (n := m21) (s := Q22) hk28
    subst e; unfold p_spec_l11Of_b1 at H2
    show Tr _ _ _ _ _ [(0, .slice x_v0.1 v0.length x_v0.2), (2, .pointer (some ⟨g2, 0, none⟩)), (3, .slice z23.1 Q22.1.length z23.2), (4, .int .i32 (Q9.2)), (5, .int .i32 (Q22.2))] _ [box g2 26 [.slice none 0 0, .slice none 0 0], tree (.slice z23.1 Q22.1.length z23.2) Q22.1]
    refine Tr.seq (Tr.seq (Tr.region ?_))
    refine Rg.q (v := .int .i32 (Q22.2)) (Pu.qo (p_move rfl)) (by decide) ?_
    refine Rg.q (v := .bool (decide (Q22.2 ≤ 122))) (Pu.qo (p_leq rfl rfl)) (by decide) (Rg.nl (nT ?_))
    refine Tr.cond (b := decide (Q22.2 ≤ 122)) rfl (fun h30 => ?_) (fun h30 => ?_)
    ·have H2 := cdT h30 H2
     refine tSkip ?_
     refine nT (Tr.seq ?_)
     refine Tr.block ?_
     refine Tr.seq (Tr.region ?_)
     refine Rg.q (v := .int .i32 (Q9.2)) (Pu.qo (p_move rfl)) (by decide) ?_
     obtain ⟨h31, H2⟩ := gd.of H2
     refine Rg.q (v := .string (s1 Q9.2)) (Pu.qo (p_r2s Try.underlying21 Try.underlying9 rfl h31)) (by decide) ?_
     refine Rg.q (v := .int .i32 (Q22.2)) (Pu.qo (p_move rfl)) (by decide) ?_
     obtain ⟨h32, H2⟩ := gd.of H2
     refine Rg.q (v := .string (s1 Q22.2)) (Pu.qo (p_r2s Try.underlying21 Try.underlying9 rfl h32)) (by decide) ?_
     refine Rg.q (v := .agg #[.string (s1 Q9.2), .string (s1 Q22.2)]) (Pu.qo (p_buildS (vs := [(0, .string (s1 Q9.2)), (1, .string (s1 Q22.2))]) (cs := #[.string (s1 Q9.2), .string (s1 Q22.2)]) ty30 pl30 rfl rfl)) (by decide) ?_
     refine Rg.ed (e_alloc ty30) rfl (by decide) ?_
     rintro _ _ _ ⟨g33, rfl, rfl, rfl⟩
     refine Rg.en (e_store (v := .agg #[.string (s1 Q9.2), .string (s1 Q22.2)]) (cs' := [.string (s1 Q9.2), .string (s1 Q22.2)]) ty30 rfl rfl Upd.here rfl (by simp [Value.cells, Value.oneCell']) (Nat.le_of_ble_eq_true rfl) rfl) rfl ?_
     rintro _ _ _ ⟨rfl, rfl, rfl⟩
     refine Rg.nl (nT ?_)
     refine Tr.seq (Tr.region ?_)
     refine Rg.q (v := .slice x_v0.1 v0.length x_v0.2) (Pu.qo (p_move rfl)) (by decide) ?_
     refine Rg.q (v := .agg #[.string (s1 Q9.2), .string (s1 Q22.2)]) (q_ldbA ty30 rfl Has.here rfl) (by decide) ?_
     obtain ⟨r34, h35, H2⟩ := bd.of H2
     refine Rg.ed (e_callB (vs := [.slice x_v0.1 v0.length x_v0.2, .agg #[.string (s1 Q9.2), .string (s1 Q22.2)]]) (c_spec_l11Ids v0 x_v0 ((s1 Q9.2), (s1 Q22.2)) h35) (fun _ => (Solo.tree Solo.nil)) rfl (EntsB.cons (Ent.b (Ent.dimm Ent.z)) EntsB.nil)) rfl (by decide) ?_
     rintro _ _ _ ⟨x36, rfl, rfl, rfl⟩
     refine Rg.q (v := .slice x36.1 r34.length x36.2) (Pu.qo (p_assign rfl)) (by decide) (Rg.nl (nT ?_))
     refine Tr.seq (Tr.region ?_)
     refine Rg.q (v := .slice x36.1 r34.length x36.2) (Pu.qo (p_move rfl)) (by decide) ?_
     refine Rg.q (v := .int .i64 ((r34.length : Int))) (Pu.qo (p_len 3 Try.underlying31 rfl)) (by decide) ?_
     refine Rg.q (v := .bool (decide (0 < (r34.length : Int)))) (Pu.qo (p_gtr rfl rfl)) (by decide) (Rg.nl (nT ?_))
     refine Tr.cond (b := decide (0 < (r34.length : Int))) rfl (fun h37 => ?_) (fun h37 => ?_)
     ·have H2 := cdT h37 H2
      refine Tr.region ?_
      refine Rg.q (v := .slice z23.1 Q22.1.length z23.2) (Pu.qo (p_move rfl)) (by decide) ?_
      refine Rg.q (v := .agg #[.string (s1 Q9.2), .string (s1 Q22.2)]) (q_ldbA ty30 rfl Has.here.there rfl) (by decide) ?_
      refine Rg.q (v := .slice x36.1 r34.length x36.2) (Pu.qo (p_move rfl)) (by decide) ?_
      refine Rg.q (v := .agg #[.string (s1 Q9.2), .string (s1 Q22.2), .slice x36.1 r34.length x36.2]) (Pu.qo (p_buildS (vs := [(0, .agg #[.string (s1 Q9.2), .string (s1 Q22.2)]), (1, .slice x36.1 r34.length x36.2)]) (cs := #[.string (s1 Q9.2), .string (s1 Q22.2), .slice x36.1 r34.length x36.2]) ty33 pl33 rfl rfl)) (by decide) ?_
      refine Rg.ed (e_lit (vs := [(0, .agg #[.string (s1 Q9.2), .string (s1 Q22.2), .slice x36.1 r34.length x36.2])]) [.string (s1 Q9.2), .string (s1 Q22.2), .slice x36.1 r34.length x36.2] Try.underlying24 ty33 rfl (by decide) (by decide) (by kernel_rfl)) rfl (by decide) ?_
      rintro _ _ _ ⟨g38, rfl, rfl, rfl⟩
      obtain ⟨h41, H2⟩ := gd.of H2
      refine Rg.ed (e_app1 (l := Q22.1) (α := Post) (((s1 Q9.2), (s1 Q22.2)), r34) (((), ()), x36) Try.underlying24 ty33 rfl rfl (h41.b (by decide)) h41.x rfl (ShpT.wfa _) (.cons Del.here.there.there.there.there (.cons Del.here (.cons Del.here .nil)))) rfl (by decide) ?_
      rintro _ _ _ ⟨a39, c40, rfl, rfl, rfl⟩
      refine Rg.q (v := .slice a39 ((Q22.1 ++ [(((s1 Q9.2), (s1 Q22.2)), r34)]).length) c40) (Pu.qo (p_assign rfl)) (by decide) (Rg.nl ?_)
      refine nB (nT (?_))
      refine Tr.region ?_
      refine Rg.q (v := .int .i32 (Q22.2)) (Pu.qo (p_move rfl)) (by decide) ?_
      obtain ⟨h42, H2⟩ := gd.of H2
      refine Rg.q (v := .int .i32 (Q22.2 + 1)) (Pu.qo (p_add32 rfl rfl h42)) (by decide) ?_
      refine Rg.q (v := .int .i32 (Q22.2 + 1)) (Pu.qo (p_assign rfl)) (by decide) (Rg.nl ?_)
      exact nLC ⟨(m29, ((Q22.1 ++ [(((s1 Q9.2), (s1 Q22.2)), r34)]), Q22.2 + 1), (a39, c40)), hi26 _ (Option.some.inj H2).symm⟩ (Nat.lt_succ_self _) ⟨rfl, rfl, rfl, rfl, rfl, trivial⟩ Ents.refl (.cons Del.here.there.there (.cons Del.here .nil))
     ·have H2 := cdF h37 H2
      refine tSkip ?_
      refine nB (nT (?_))
      refine Tr.region ?_
      refine Rg.q (v := .int .i32 (Q22.2)) (Pu.qo (p_move rfl)) (by decide) ?_
      obtain ⟨h43, H2⟩ := gd.of H2
      refine Rg.q (v := .int .i32 (Q22.2 + 1)) (Pu.qo (p_add32 rfl rfl h43)) (by decide) ?_
      refine Rg.q (v := .int .i32 (Q22.2 + 1)) (Pu.qo (p_assign rfl)) (by decide) (Rg.nl ?_)
      exact nLC ⟨(m29, (Q22.1, Q22.2 + 1), (z23.1, z23.2)), hi26 _ (Option.some.inj H2).symm⟩ (Nat.lt_succ_self _) ⟨rfl, rfl, rfl, rfl, rfl, trivial⟩ Ents.refl (.cons Del.here.there.there (.cons Del.here.there.there .nil))
    ·have H2 := cdF h30 H2
     refine tExit (xT (xT (xE (?_))))
     have hx := hb27 _ (Option.some.inj H2).symm; subst hx
     exact nMC (z23.1, z23.2) ⟨rfl, rfl, rfl, rfl, trivial⟩ Ents.refl (.cons Del.here (.cons Del.here .nil))
   ·intro y24
    show At _ _ [(0, .slice x_v0.1 v0.length x_v0.2), (2, .pointer (some ⟨g2, 0, none⟩)), (3, .slice y24.1 x18.length y24.2), (4, .int .i32 (Q9.2))] _ [box g2 26 [.slice none 0 0, .slice none 0 0], tree (.slice y24.1 x18.length y24.2) x18] _
    refine nB (nT (?_))
    refine Tr.region ?_
    refine Rg.q (v := .int .i32 (Q9.2)) (Pu.qo (p_move rfl)) (by decide) ?_
    obtain ⟨h44, H1⟩ := gd.of H1
    refine Rg.q (v := .int .i32 (Q9.2 + 1)) (Pu.qo (p_add32 rfl rfl h44)) (by decide) ?_
    refine Rg.q (v := .int .i32 (Q9.2 + 1)) (Pu.qo (p_assign rfl)) (by decide) (Rg.nl ?_)
    exact nLC ⟨(m16, (x18, Q9.2 + 1), (y24.1, y24.2)), hi13 _ (Option.some.inj H1).symm⟩ (Nat.lt_succ_self _) ⟨rfl, rfl, rfl, rfl, trivial⟩ Ents.refl (.cons Del.here (.cons Del.here .nil))
  ·have H1 := cdF h17 H1
   refine tExit (xT (xT (xE (?_))))
   have hx := hb14 _ (Option.some.inj H1).symm; subst hx
   exact nMC (z10.1, z10.2) ⟨rfl, rfl, rfl, trivial⟩ Ents.refl (.cons Del.here (.cons Del.here .nil))
 ·intro y11
  show At _ _ [(0, .slice x_v0.1 v0.length x_v0.2), (2, .pointer (some ⟨g2, 0, none⟩)), (3, .slice y11.1 x5.length y11.2)] _ [box g2 26 [.slice none 0 0, .slice none 0 0], tree (.slice y11.1 x5.length y11.2) x5] _
  refine nT (?_)
  refine Tr.seq (Tr.region ?_)
  refine Rg.q (v := .slice x_v0.1 v0.length x_v0.2) (Pu.qo (p_move rfl)) (by decide) ?_
  obtain ⟨r45, h46, H⟩ := bd.of H
  refine Rg.ed (e_callB (vs := [.slice x_v0.1 v0.length x_v0.2]) (c_spec_l11Names v0 x_v0 h46) (fun _ => (Solo.tree Solo.nil)) rfl (EntsB.cons (Ent.b (Ent.dimm Ent.z)) EntsB.nil)) rfl (by decide) ?_
  rintro _ _ _ ⟨x47, rfl, rfl, rfl⟩
  refine Rg.q (v := .slice y11.1 x5.length y11.2) (Pu.qo (p_move rfl)) (by decide) ?_
  refine Rg.q (v := .agg #[.slice x47.1 r45.length x47.2, .slice y11.1 x5.length y11.2]) (Pu.qo (p_buildS (vs := [(0, .slice x47.1 r45.length x47.2), (1, .slice y11.1 x5.length y11.2)]) (cs := #[.slice x47.1 r45.length x47.2, .slice y11.1 x5.length y11.2]) ty26 pl26 rfl rfl)) (by decide) ?_
  refine Rg.en (e_store (v := .agg #[.slice x47.1 r45.length x47.2, .slice y11.1 x5.length y11.2]) (cs' := [.slice x47.1 r45.length x47.2, .slice y11.1 x5.length y11.2]) ty26 rfl rfl Upd.here.there rfl (by simp [Value.cells, Value.oneCell']) (Nat.le_of_ble_eq_true rfl) rfl) rfl ?_
  rintro _ _ _ ⟨rfl, rfl, rfl⟩
  refine Rg.nl (nT ?_)
  refine tRet ?_
  have hr := Option.some.inj H; subst hr
  exact back1 (x47, y11) rfl (ResV.agg ty26 rfl Has.here.there rfl) rfl Ents.nil (.cons Del.here (.cons Del.here.there .nil))
noncomputable def p_spec_l11Add (v0 : Index) (v1 : (List Tag)) : Option (Index × Int × Bool) := bd (p_spec_l11At v0 v1) fun r3 => cond (decide (0 < r3)) (some (v0, r3, true)) (bd (bd (p_spec_NameOk v1) fun r8 => cond (!r8) (some (true)) (some (decide (6 ≤ (v0.1.length : Int))))) fun b6 => cond (b6) (some (v0, 0, false)) (bd (p_spec_l11Names v0.1) fun r12 => gd (room (([] : List Tag).length + v1.length)) <| gd (room (r12.length + 1)) <| bd (p_spec_l11Of (r12 ++ [([] : List Tag) ++ v1])) fun r24 => some (r24, (r24.1.length : Int), true)))
theorem c_spec_l11Add {r : Index × Int × Bool} (v0 : Index) (x_v0 : (Option Addr × Nat) × (Option Addr × Nat)) (v1 : (List Tag)) (x_v1 : Option Addr × Nat) (H : p_spec_l11Add v0 v1 = some r) : Fn' Try.prog 76 #[.agg #[.slice x_v0.1.1 v0.1.length x_v0.1.2, .slice x_v0.2.1 v0.2.length x_v0.2.2], .slice x_v1.1 v1.length x_v1.2] [imm (.slice x_v1.1 v1.length x_v1.2) v1] [tree (.slice x_v0.1.1 v0.1.length x_v0.1.2) v0.1, tree (.slice x_v0.2.1 v0.2.length x_v0.2.2) v0.2] (ι := ((Option Addr × Nat) × (Option Addr × Nat)) × Unit × Unit) (fun x => .tuple #[.agg #[.slice x.1.1.1 r.1.1.length x.1.1.2, .slice x.1.2.1 r.1.2.length x.1.2.2], .int .i64 (r.2.1), .bool (r.2.2)]) (fun _ => []) (fun x => [tree (.slice x.1.1.1 r.1.1.length x.1.1.2) r.1.1, tree (.slice x.1.2.1 r.1.2.length x.1.2.2) r.1.2]) := by
 refine calls_of (args := [_, _]) Try.func76 rfl (by kernel_rfl) Try.ntmps76 (by simp) fun c => ?_
 unfold p_spec_l11Add at H
 refine Tr.seq (Tr.region ?_)
 refine Rg.ed (e_box (t := 26) (v := .agg #[.slice x_v0.1.1 v0.1.length x_v0.1.2, .slice x_v0.2.1 v0.2.length x_v0.2.2]) rfl) rfl (by decide) ?_
 rintro _ _ _ ⟨g1, rfl, rfl, rfl⟩
 refine Rg.ed (e_alloc ty26) rfl (by decide) ?_
 rintro _ _ _ ⟨g2, rfl, rfl, rfl⟩
 refine Rg.q (v := .int .i64 (0)) (Pu.qo (p_assign rfl)) (by decide) ?_
 refine Rg.q (v := .bool (false)) (Pu.qo (p_assign rfl)) (by decide) (Rg.nl (nT ?_))
 refine Tr.seq (Tr.region ?_)
 refine Rg.q (v := .agg #[.slice x_v0.1.1 v0.1.length x_v0.1.2, .slice x_v0.2.1 v0.2.length x_v0.2.2]) (q_ldbA ty26 rfl Has.here.there rfl) (by decide) ?_
 refine Rg.q (v := .slice x_v1.1 v1.length x_v1.2) (Pu.qo (p_move rfl)) (by decide) ?_
 obtain ⟨r3, h4, H⟩ := bd.of H
 refine Rg.q (v := .int .i64 (r3)) (q_call (vs := [.agg #[.slice x_v0.1.1 v0.1.length x_v0.1.2, .slice x_v0.2.1 v0.2.length x_v0.2.2], .slice x_v1.1 v1.length x_v1.2]) (c_spec_l11At v0 x_v0 v1 x_v1 h4) rfl (EntsB.cons (EntB.tree Has.here.there.there) (EntsB.cons (EntB.tree Has.here.there.there.there) (EntsB.cons (Ent.b Ent.z) EntsB.nil)))) (by decide) ?_
 refine Rg.q (v := .int .i64 (r3)) (Pu.qo (p_assign rfl)) (by decide) (Rg.nl (nT ?_))
 refine Tr.seq (Tr.seq (Tr.region ?_))
 refine Rg.q (v := .int .i64 (r3)) (Pu.qo (p_move rfl)) (by decide) ?_
 refine Rg.q (v := .bool (decide (0 < r3))) (Pu.qo (p_gtr rfl rfl)) (by decide) (Rg.nl (nT ?_))
 refine Tr.cond (b := decide (0 < r3)) rfl (fun h5 => ?_) (fun h5 => ?_)
 ·have H := cdT h5 H
  refine Tr.seq (Tr.region ?_)
  refine Rg.q (v := .agg #[.slice x_v0.1.1 v0.1.length x_v0.1.2, .slice x_v0.2.1 v0.2.length x_v0.2.2]) (q_ldbA ty26 rfl Has.here.there rfl) (by decide) ?_
  refine Rg.q (v := .int .i64 (r3)) (Pu.qo (p_move rfl)) (by decide) ?_
  refine Rg.en (e_store (v := .agg #[.slice x_v0.1.1 v0.1.length x_v0.1.2, .slice x_v0.2.1 v0.2.length x_v0.2.2]) (cs' := [.slice x_v0.1.1 v0.1.length x_v0.1.2, .slice x_v0.2.1 v0.2.length x_v0.2.2]) ty26 rfl rfl Upd.here rfl (by simp [Value.cells, Value.oneCell']) (Nat.le_of_ble_eq_true rfl) rfl) rfl ?_
  rintro _ _ _ ⟨rfl, rfl, rfl⟩
  refine Rg.q (v := .int .i64 (r3)) (Pu.qo (p_assign rfl)) (by decide) ?_
  refine Rg.q (v := .bool (true)) (Pu.qo (p_assign rfl)) (by decide) (Rg.nl (nT ?_))
  refine tRet ?_
  refine rT (?_)
  have hr := Option.some.inj H; subst hr
  exact back3 (x_v0, (), ()) rfl (ResV.agg ty26 rfl Has.here rfl) (ResV.tmp (v := .int .i64 (r3)) rfl) (ResV.tmp (v := .bool (true)) rfl) rfl Ents.nil (.cons Del.here.there.there (.cons Del.here.there.there .nil))
 ·have H := cdF h5 H
  refine tSkip ?_
  refine nT (Tr.seq ?_)
  obtain ⟨b6, j7, H⟩ := bd.of H
  refine tMid1 [(24, .bool (b6)), (4, .pointer (some ⟨g2, 0, none⟩)), (2, .pointer (some ⟨g1, 0, none⟩)), (1, .slice x_v1.1 v1.length x_v1.2)] ?_ ?_
  ·refine tLinT [(4, .pointer (some ⟨g2, 0, none⟩)), (2, .pointer (some ⟨g1, 0, none⟩)), (1, .slice x_v1.1 v1.length x_v1.2)] ⟨rfl, rfl, rfl, trivial⟩ ?_
   refine Lin.q (v := .slice x_v1.1 v1.length x_v1.2) (by decide) (Pu.qo (p_move rfl)) ?_
   obtain ⟨r8, h9, j7⟩ := bd.of j7
   refine Lin.q (v := .bool (r8)) (by decide) (q_call (vs := [.slice x_v1.1 v1.length x_v1.2]) (c_spec_NameOk v1 x_v1 h9) rfl (EntsB.cons (Ent.b Ent.z) EntsB.nil)) ?_
   refine Lin.q (v := .bool (!r8)) (by decide) (Pu.qo (p_not rfl)) ?_
   rcases Bool.eq_false_or_eq_true (!r8) with h10 | h10
   ·have j7 := cdT h10 j7
    refine Lin.q (v := .bool (true)) (by decide) (Qo.eqv (v := .bool (!r8)) (Pu.qo (p_move rfl)) (congrArg Value.bool h10)) ?_
    refine Lin.skip (by decide) rfl ?_
    refine Lin.skip (by decide) rfl ?_
    refine Lin.skip (by decide) rfl ?_
    refine Lin.skip (by decide) rfl ?_
    refine Lin.q (v := .bool (true)) (by decide) (Pu.qo (p_pickT rfl rfl)) ?_
    have j7 := Option.some.inj j7; subst j7
    show At _ _ _ _ _ _
    exact n1 ⟨rfl, rfl, rfl, rfl, trivial⟩
   ·have j7 := cdF h10 j7
    refine Lin.q (v := .bool (false)) (by decide) (Qo.eqv (v := .bool (!r8)) (Pu.qo (p_move rfl)) (congrArg Value.bool h10)) ?_
    refine Lin.g (v := .pointer (some ⟨g1, 0, none⟩)) (by decide) rfl (Pu.qo (p_fabE fa26_0 rfl rfl)) ?_
    refine Lin.g (v := .slice x_v0.1.1 v0.1.length x_v0.1.2) (by decide) rfl (q_ldb ty23 rfl Has.here.there rfl) ?_
    refine Lin.g (v := .int .i64 ((v0.1.length : Int))) (by decide) rfl (Pu.qo (p_len 38 Try.underlying23 rfl)) ?_
    refine Lin.g (v := .bool (decide (6 ≤ (v0.1.length : Int)))) (by decide) rfl (Pu.qo (p_geq rfl rfl)) ?_
    refine Lin.q (v := .bool (decide (6 ≤ (v0.1.length : Int)))) (by decide) (Pu.qo (p_pickF rfl rfl)) ?_
    have j7 := Option.some.inj j7; subst j7
    show At _ _ _ _ _ _
    exact n1 ⟨rfl, rfl, rfl, rfl, trivial⟩
  refine Tr.cond (b := b6) rfl (fun h11 => ?_) (fun h11 => ?_)
  ·have H := cdT h11 H
   refine Tr.seq (Tr.region ?_)
   refine Rg.q (v := .agg #[.slice x_v0.1.1 v0.1.length x_v0.1.2, .slice x_v0.2.1 v0.2.length x_v0.2.2]) (q_ldbA ty26 rfl Has.here.there rfl) (by decide) ?_
   refine Rg.en (e_store (v := .agg #[.slice x_v0.1.1 v0.1.length x_v0.1.2, .slice x_v0.2.1 v0.2.length x_v0.2.2]) (cs' := [.slice x_v0.1.1 v0.1.length x_v0.1.2, .slice x_v0.2.1 v0.2.length x_v0.2.2]) ty26 rfl rfl Upd.here rfl (by simp [Value.cells, Value.oneCell']) (Nat.le_of_ble_eq_true rfl) rfl) rfl ?_
   rintro _ _ _ ⟨rfl, rfl, rfl⟩
   refine Rg.q (v := .int .i64 (0)) (Pu.qo (p_assign rfl)) (by decide) ?_
   refine Rg.q (v := .bool (false)) (Pu.qo (p_assign rfl)) (by decide) (Rg.nl (nT ?_))
   refine tRet ?_
   refine rT (?_)
   have hr := Option.some.inj H; subst hr
   exact back3 (x_v0, (), ()) rfl (ResV.agg ty26 rfl Has.here rfl) (ResV.tmp (v := .int .i64 (0)) rfl) (ResV.tmp (v := .bool (false)) rfl) rfl Ents.nil (.cons Del.here.there.there (.cons Del.here.there.there .nil))
  ·have H := cdF h11 H
   refine tSkip ?_
   refine nT (?_)
   refine Tr.seq (Tr.region ?_)
   refine Rg.q (v := .pointer (some ⟨g1, 0, none⟩)) (Pu.qo (p_fabE fa26_0 rfl rfl)) (by decide) ?_
   refine Rg.q (v := .slice x_v0.1.1 v0.1.length x_v0.1.2) (q_ldb ty23 rfl Has.here.there rfl) (by decide) ?_
   obtain ⟨r12, h13, H⟩ := bd.of H
   refine Rg.ed (e_callB (vs := [.slice x_v0.1.1 v0.1.length x_v0.1.2]) (c_spec_l11Names v0.1 x_v0.1 h13) (fun _ => (Solo.tree Solo.nil)) rfl (EntsB.cons (EntB.tree Has.here.there.there) EntsB.nil)) rfl (by decide) ?_
   rintro _ _ _ ⟨x14, rfl, rfl, rfl⟩
   refine Rg.ed (e_lit0 Tag Try.underlying38 ty30) rfl (by decide) ?_
   rintro _ _ _ ⟨a15, c16, rfl, rfl, rfl⟩
   refine Rg.q (v := .slice x_v1.1 v1.length x_v1.2) (Pu.qo (p_move rfl)) (by decide) ?_
   obtain ⟨h19, H⟩ := gd.of H
   refine Rg.ed (e_appF (l := ([] : List Tag)) (k := v1) (α := Tag) Try.underlying38 ty30 rfl rfl (h19.b (by decide)) h19.x (.cons Del.here .nil) (Ent.b Ent.z)) rfl (by decide) ?_
   rintro _ _ _ ⟨a17, c18, rfl, rfl, rfl⟩
   refine Rg.ed (e_lit (vs := [(0, .slice a17 ((([] : List Tag) ++ v1).length) c18)]) [.slice a17 ((([] : List Tag) ++ v1).length) c18] Try.underlying23 ty38 rfl (by decide) (by decide) (by kernel_rfl)) rfl (by decide) ?_
   rintro _ _ _ ⟨g20, rfl, rfl, rfl⟩
   obtain ⟨h23, H⟩ := gd.of H
   refine Rg.ed (e_app1 (l := r12) (α := (List Tag)) (([] : List Tag) ++ v1) (a17, c18) Try.underlying23 ty38 rfl rfl (h23.b (by decide)) h23.x rfl (ShpT.wfa _) (.cons Del.here.there.there (.cons Del.here (.cons Del.here .nil)))) rfl (by decide) ?_
   rintro _ _ _ ⟨a21, c22, rfl, rfl, rfl⟩
   obtain ⟨r24, h25, H⟩ := bd.of H
   refine Rg.ed (e_callB (vs := [.slice a21 ((r12 ++ [([] : List Tag) ++ v1]).length) c22]) (c_spec_l11Of (r12 ++ [([] : List Tag) ++ v1]) (a21, c22) h25) (fun _ => (Solo.tree (Solo.tree Solo.nil))) rfl (EntsB.cons (EntB.tree Has.here) EntsB.nil)) rfl (by decide) ?_
   rintro _ _ _ ⟨x26, rfl, rfl, rfl⟩
   refine Rg.ed (e_alloc ty26) rfl (by decide) ?_
   rintro _ _ _ ⟨g27, rfl, rfl, rfl⟩
   refine Rg.en (e_store (v := .agg #[.slice x26.1.1 r24.1.length x26.1.2, .slice x26.2.1 r24.2.length x26.2.2]) (cs' := [.slice x26.1.1 r24.1.length x26.1.2, .slice x26.2.1 r24.2.length x26.2.2]) ty26 rfl rfl Upd.here rfl (by simp [Value.cells, Value.oneCell']) (Nat.le_of_ble_eq_true rfl) rfl) rfl ?_
   rintro _ _ _ ⟨rfl, rfl, rfl⟩
   refine Rg.nl (nT ?_)
   refine Tr.seq ?_
   refine tNwS [(8, .pointer (some ⟨g27, 0, none⟩)), (4, .pointer (some ⟨g2, 0, none⟩))] 1 [0, 1, 2, 3, 4, 5, 6] [4] [] Try.mixed (by kernel_rfl) (by decide) List.nodup_nil ⟨rfl, rfl, trivial⟩ rfl okNil ?_
   refine w_q (v := .agg #[.slice x26.1.1 r24.1.length x26.1.2, .slice x26.2.1 r24.2.length x26.2.2]) rfl (by decide) rfl rfl rfl (fun F => (q_ldbA ty26 rfl (Has.here.app F) rfl)) ?_
   refine w_pu (v := .pointer (some ⟨g27, 0, none⟩)) rfl (by decide) rfl rfl rfl (p_fabE fa26_0 rfl rfl) ?_
   refine w_q (v := .slice x26.1.1 r24.1.length x26.1.2) rfl (by decide) rfl rfl rfl (fun F => (q_ldb ty23 rfl (Has.here.app F) rfl)) ?_
   refine w_pu (v := .int .i64 ((r24.1.length : Int))) rfl (by decide) rfl rfl rfl (p_len 38 Try.underlying23 rfl) ?_
   refine w_en rfl rfl Rdy.nil rfl (n_store (v := .agg #[.slice x26.1.1 r24.1.length x26.1.2, .slice x26.2.1 r24.2.length x26.2.2]) (cs' := [.slice x26.1.1 r24.1.length x26.1.2, .slice x26.2.1 r24.2.length x26.2.2]) ty26 rfl rfl Upd.here.there.there.there.there rfl (by simp [Value.cells, Value.oneCell']) (Nat.le_of_ble_eq_true rfl) rfl) ?_
   rintro _ _ _ ⟨rfl, rfl, rfl⟩
   refine ⟨(PdOk.q rfl rfl (fun F => (q_ldb ty23 rfl (Has.here.app F) rfl)) (PdOk.anc (by kernel_rfl) PdOk.nil)), ?_⟩
   refine w_pu (v := .int .i64 ((r24.1.length : Int))) rfl (by decide) rfl rfl rfl (p_assign rfl) ?_
   refine w_pu (v := .bool (true)) rfl (by decide) rfl rfl rfl (p_assign rfl) ?_
   refine w_nil ?_
   show At _ _ _ _ _ _
   refine nT (?_)
   refine tRet ?_
   have hr := Option.some.inj H; subst hr
   exact back3 (x26, (), ()) rfl (ResV.agg ty26 rfl Has.here.there.there.there.there rfl) (ResV.tmp (v := .int .i64 ((r24.1.length : Int))) rfl) (ResV.tmp (v := .bool (true)) rfl) rfl Ents.nil (.cons Del.here.there (.cons Del.here.there .nil))
noncomputable def p_laws_szTag (v0 : Tag) (v1 : Int) : Option (Int) := gd (I64 (v1 - (v0.1.size : Int))) <| cond (decide ((v1 - (v0.1.size : Int)) < 0)) (some (-1)) (gd (I64 ((v1 - (v0.1.size : Int)) - (v0.2.size : Int))) <| cond (decide (((v1 - (v0.1.size : Int)) - (v0.2.size : Int)) < 0)) (some (-1)) (some ((v1 - (v0.1.size : Int)) - (v0.2.size : Int))))
theorem c_laws_szTag {r : Int} (v0 : Tag) (v1 : Int) (H : p_laws_szTag v0 v1 = some r) : Fn' Try.prog 38 #[.agg #[.string (v0.1), .string (v0.2)], .int .i64 (v1)] [] [] (ι := Unit) (fun _ => .int .i64 (r)) (fun _ => []) (fun _ => []) := by
 refine calls_of (args := [_, _]) Try.func38 rfl (by kernel_rfl) Try.ntmps38 (by simp) fun c => ?_
 unfold p_laws_szTag at H
 refine Tr.seq (Tr.region ?_)
 refine Rg.ed (e_box (t := 64) (v := .agg #[.string (v0.1), .string (v0.2)]) rfl) rfl (by decide) ?_
 rintro _ _ _ ⟨g1, rfl, rfl, rfl⟩
 refine Rg.q (v := .int .i64 (0)) (Pu.qo (p_assign rfl)) (by decide) (Rg.nl (nT ?_))
 refine Tr.seq (Tr.region ?_)
 refine Rg.q (v := .int .i64 (v1)) (Pu.qo (p_move rfl)) (by decide) ?_
 refine Rg.q (v := .pointer (some ⟨g1, 0, none⟩)) (Pu.qo (p_fabE fa64_0 rfl rfl)) (by decide) ?_
 refine Rg.q (v := .string (v0.1)) (q_ldb ty9 rfl Has.here rfl) (by decide) ?_
 refine Rg.q (v := .int .i64 ((v0.1.size : Int))) (Pu.qo (p_slen Try.underlying9 rfl)) (by decide) ?_
 obtain ⟨h2, H⟩ := gd.of H
 refine Rg.q (v := .int .i64 (v1 - (v0.1.size : Int))) (Pu.qo (p_sub rfl rfl h2)) (by decide) ?_
 refine Rg.q (v := .int .i64 (v1 - (v0.1.size : Int))) (Pu.qo (p_assign rfl)) (by decide) (Rg.nl (nT ?_))
 refine Tr.seq (Tr.seq (Tr.region ?_))
 refine Rg.q (v := .int .i64 (v1 - (v0.1.size : Int))) (Pu.qo (p_move rfl)) (by decide) ?_
 refine Rg.q (v := .bool (decide ((v1 - (v0.1.size : Int)) < 0))) (Pu.qo (p_lss rfl rfl)) (by decide) (Rg.nl (nT ?_))
 refine Tr.cond (b := decide ((v1 - (v0.1.size : Int)) < 0)) rfl (fun h3 => ?_) (fun h3 => ?_)
 ·have H := cdT h3 H
  refine Tr.seq (Tr.region ?_)
  refine Rg.q (v := .int .i64 (-1)) (Pu.qo (p_assign rfl)) (by decide) (Rg.nl (nT ?_))
  refine tRet ?_
  refine rT (?_)
  have hr := Option.some.inj H; subst hr
  exact back1 () rfl (ResV.tmp (v := .int .i64 (-1)) rfl) rfl Ents.nil Take.nil
 ·have H := cdF h3 H
  refine tSkip ?_
  refine nT (?_)
  refine Tr.seq (Tr.region ?_)
  refine Rg.q (v := .int .i64 (v1 - (v0.1.size : Int))) (Pu.qo (p_move rfl)) (by decide) ?_
  refine Rg.q (v := .pointer (some ⟨g1, 1, none⟩)) (Pu.qo (p_fabE fa64_1 rfl rfl)) (by decide) ?_
  refine Rg.q (v := .string (v0.2)) (q_ldb ty9 rfl Has.here rfl) (by decide) ?_
  refine Rg.q (v := .int .i64 ((v0.2.size : Int))) (Pu.qo (p_slen Try.underlying9 rfl)) (by decide) ?_
  obtain ⟨h4, H⟩ := gd.of H
  refine Rg.q (v := .int .i64 ((v1 - (v0.1.size : Int)) - (v0.2.size : Int))) (Pu.qo (p_sub rfl rfl h4)) (by decide) ?_
  refine Rg.q (v := .int .i64 ((v1 - (v0.1.size : Int)) - (v0.2.size : Int))) (Pu.qo (p_assign rfl)) (by decide) (Rg.nl (nT ?_))
  refine Tr.seq (Tr.seq (Tr.region ?_))
  refine Rg.q (v := .int .i64 ((v1 - (v0.1.size : Int)) - (v0.2.size : Int))) (Pu.qo (p_move rfl)) (by decide) ?_
  refine Rg.q (v := .bool (decide (((v1 - (v0.1.size : Int)) - (v0.2.size : Int)) < 0))) (Pu.qo (p_lss rfl rfl)) (by decide) (Rg.nl (nT ?_))
  refine Tr.cond (b := decide (((v1 - (v0.1.size : Int)) - (v0.2.size : Int)) < 0)) rfl (fun h5 => ?_) (fun h5 => ?_)
  ·have H := cdT h5 H
   refine Tr.seq (Tr.region ?_)
   refine Rg.q (v := .int .i64 (-1)) (Pu.qo (p_assign rfl)) (by decide) (Rg.nl (nT ?_))
   refine tRet ?_
   refine rT (?_)
   have hr := Option.some.inj H; subst hr
   exact back1 () rfl (ResV.tmp (v := .int .i64 (-1)) rfl) rfl Ents.nil Take.nil
  ·have H := cdF h5 H
   refine tSkip ?_
   refine nT (?_)
   refine Tr.seq (Tr.region ?_)
   refine Rg.q (v := .int .i64 ((v1 - (v0.1.size : Int)) - (v0.2.size : Int))) (Pu.qo (p_move rfl)) (by decide) ?_
   refine Rg.q (v := .int .i64 ((v1 - (v0.1.size : Int)) - (v0.2.size : Int))) (Pu.qo (p_assign rfl)) (by decide) (Rg.nl (nT ?_))
   refine tRet ?_
   have hr := Option.some.inj H; subst hr
   exact back1 () rfl (ResV.tmp (v := .int .i64 ((v1 - (v0.1.size : Int)) - (v0.2.size : Int))) rfl) rfl Ents.nil Take.nil
noncomputable def p_laws_szTagS_b0 (v0 : (List Tag)) (Q7 : Int × Int) : Option ((Int × Int) ⊕ (Int ⊕ Int)) := cond (decide (Q7.2 < (v0.length : Int))) (gd (ix Q7.2 v0.length) <| bd (p_laws_szTag (nth v0 Q7.2.toNat) Q7.1) fun r17 => cond (decide (r17 < 0)) (some (.inr (.inr (-1)))) (gd (I64 (Q7.2 + 1)) <| some (.inl (r17, Q7.2 + 1)))) (some (.inr (.inl Q7.1)))
noncomputable def p_laws_szTagS (v0 : (List Tag)) (v1 : Int) : Option (Int) := gd (I64 (v1 - (v0.length : Int))) <| cond (decide ((v1 - (v0.length : Int)) < 0)) (some (-1)) (bd (lp (p_laws_szTagS_b0 v0) (v1 - (v0.length : Int), 0)) <| sw (fun e21 => some e21) (fun q => some q))
theorem c_laws_szTagS {r : Int} (v0 : (List Tag)) (x_v0 : Option Addr × Nat) (v1 : Int) (H : p_laws_szTagS v0 v1 = some r) : Fn' Try.prog 45 #[.slice x_v0.1 v0.length x_v0.2, .int .i64 (v1)] [imm (.slice x_v0.1 v0.length x_v0.2) v0] [] (ι := Unit) (fun _ => .int .i64 (r)) (fun _ => []) (fun _ => []) := by
 refine calls_of (args := [_, _]) Try.func45 rfl (by kernel_rfl) Try.ntmps45 (by simp) fun c => ?_
 unfold p_laws_szTagS at H
 refine Tr.seq (Tr.region ?_)
 refine Rg.q (v := .int .i64 (0)) (Pu.qo (p_assign rfl)) (by decide) (Rg.nl (nT ?_))
 refine Tr.seq (Tr.region ?_)
 refine Rg.q (v := .int .i64 (v1)) (Pu.qo (p_move rfl)) (by decide) ?_
 refine Rg.q (v := .slice x_v0.1 v0.length x_v0.2) (Pu.qo (p_move rfl)) (by decide) ?_
 refine Rg.q (v := .int .i64 ((v0.length : Int))) (Pu.qo (p_len 64 Try.underlying70 rfl)) (by decide) ?_
 obtain ⟨h1, H⟩ := gd.of H
 refine Rg.q (v := .int .i64 (v1 - (v0.length : Int))) (Pu.qo (p_sub rfl rfl h1)) (by decide) ?_
 refine Rg.q (v := .int .i64 (v1 - (v0.length : Int))) (Pu.qo (p_assign rfl)) (by decide) (Rg.nl (nT ?_))
 refine Tr.seq (Tr.seq (Tr.region ?_))
 refine Rg.q (v := .int .i64 (v1 - (v0.length : Int))) (Pu.qo (p_move rfl)) (by decide) ?_
 refine Rg.q (v := .bool (decide ((v1 - (v0.length : Int)) < 0))) (Pu.qo (p_lss rfl rfl)) (by decide) (Rg.nl (nT ?_))
 refine Tr.cond (b := decide ((v1 - (v0.length : Int)) < 0)) rfl (fun h2 => ?_) (fun h2 => ?_)
 ·have H := cdT h2 H
  refine Tr.seq (Tr.region ?_)
  refine Rg.q (v := .int .i64 (-1)) (Pu.qo (p_assign rfl)) (by decide) (Rg.nl (nT ?_))
  refine tRet ?_
  refine rT (?_)
  have hr := Option.some.inj H; subst hr
  exact back1 () rfl (ResV.tmp (v := .int .i64 (-1)) rfl) rfl Ents.nil Take.nil
 ·have H := cdF h2 H
  refine tSkip ?_
  refine nT (?_)
  refine Tr.seq (Tr.seq (Tr.region ?_))
  refine Rg.q (v := .int .i64 (0)) (Pu.qo (p_assign rfl)) (by decide) (Rg.nl (nT ?_))
  obtain ⟨x3, hx4, H⟩ := bd.of H
  obtain ⟨n5, hx4⟩ := lp.of hx4
  refine tMidNC (ι := { q : (Int) × Unit // x3 = .inl q.1 }) (fun ψ => [(1, .int .i64 (ψ.1.1))]) (fun ψ => []) ?_ ?_
  ·refine Tr.block ?_
   refine tLoopC (ι := { q : Nat × (Int × Int) × Unit // itr (p_laws_szTagS_b0 v0) q.1 q.2.1 = some x3 }) (fun ζ => [(0, .slice x_v0.1 v0.length x_v0.2), (1, .int .i64 (ζ.1.2.1.1)), (5, .int .i64 (ζ.1.2.1.2))]) (fun ζ => []) (fun ζ => ζ.1.1) ⟨(n5, (v1 - (v0.length : Int), 0), ()), hx4⟩ ⟨rfl, rfl, rfl, trivial⟩ Take.nil ?_
   rintro ⟨⟨m6, Q7, z8⟩, hk13⟩
   obtain ⟨m14, t10, e, H1, hi11, hb12⟩ := itr.of (n := m6) (s := Q7) hk13
   subst e; unfold p_laws_szTagS_b0 at H1
   show Tr _ _ _ _ _ [(0, .slice x_v0.1 v0.length x_v0.2), (1, .int .i64 (Q7.1)), (5, .int .i64 (Q7.2))] _ []
   refine Tr.seq (Tr.seq (Tr.region ?_))
   refine Rg.q (v := .int .i64 (Q7.2)) (Pu.qo (p_move rfl)) (by decide) ?_
   refine Rg.q (v := .slice x_v0.1 v0.length x_v0.2) (Pu.qo (p_move rfl)) (by decide) ?_
   refine Rg.q (v := .int .i64 ((v0.length : Int))) (Pu.qo (p_len 64 Try.underlying70 rfl)) (by decide) ?_
   refine Rg.q (v := .bool (decide (Q7.2 < (v0.length : Int)))) (Pu.qo (p_lss rfl rfl)) (by decide) (Rg.nl (nT ?_))
   refine Tr.cond (b := decide (Q7.2 < (v0.length : Int))) rfl (fun h15 => ?_) (fun h15 => ?_)
   ·have H1 := cdT h15 H1
    refine tSkip ?_
    refine nT (Tr.seq ?_)
    refine Tr.block ?_
    refine Tr.seq (Tr.region ?_)
    refine Rg.q (v := .slice x_v0.1 v0.length x_v0.2) (Pu.qo (p_move rfl)) (by decide) ?_
    refine Rg.q (v := .int .i64 (Q7.2)) (Pu.qo (p_move rfl)) (by decide) ?_
    obtain ⟨h16, H1⟩ := gd.of H1
    refine Rg.q (v := elp x_v0.1 (Q7.2.toNat * Enc.sz Tag + 0)) (q_ixg (l := v0) (E := fun i => Flat.enc (nth v0 i)) (oa := x_v0.1) Try.underlying70 ty64 rfl rfl h16 rfl (EntB.flat (Ent.b Ent.z))) (by decide) ?_
    refine Rg.q (v := .agg #[.string ((nth v0 Q7.2.toNat).1), .string ((nth v0 Q7.2.toNat).2)]) (q_ldeA (l := v0) (E := fun i => Flat.enc (nth v0 i)) (oa := x_v0.1) (i := Q7.2.toNat) ty64 rfl (EntB.flat (Ent.b Ent.z)) h16.lt) (by decide) ?_
    refine Rg.q (v := .int .i64 (Q7.1)) (Pu.qo (p_move rfl)) (by decide) ?_
    obtain ⟨r17, h18, H1⟩ := bd.of H1
    refine Rg.q (v := .int .i64 (r17)) (q_call (vs := [.agg #[.string ((nth v0 Q7.2.toNat).1), .string ((nth v0 Q7.2.toNat).2)], .int .i64 (Q7.1)]) (c_laws_szTag (nth v0 Q7.2.toNat) Q7.1 h18) rfl EntsB.nil) (by decide) ?_
    refine Rg.q (v := .int .i64 (r17)) (Pu.qo (p_assign rfl)) (by decide) (Rg.nl (nT ?_))
    refine Tr.seq (Tr.region ?_)
    refine Rg.q (v := .int .i64 (r17)) (Pu.qo (p_move rfl)) (by decide) ?_
    refine Rg.q (v := .bool (decide (r17 < 0))) (Pu.qo (p_lss rfl rfl)) (by decide) (Rg.nl (nT ?_))
    refine Tr.cond (b := decide (r17 < 0)) rfl (fun h19 => ?_) (fun h19 => ?_)
    ·have H1 := cdT h19 H1
     refine Tr.seq (Tr.region ?_)
     refine Rg.q (v := .int .i64 (-1)) (Pu.qo (p_assign rfl)) (by decide) (Rg.nl (nT ?_))
     refine tRet ?_
     refine rB (rT (rT (rB (rT (rT (?_))))))
     have hx := hb12 _ (Option.some.inj H1).symm; subst hx
     replace H := sw.r H
     have hr := Option.some.inj H; subst hr
     exact back1 () rfl (ResV.tmp (v := .int .i64 (-1)) rfl) rfl Ents.nil Take.nil
    ·have H1 := cdF h19 H1
     refine tSkip ?_
     refine nB (nT (?_))
     refine Tr.region ?_
     refine Rg.q (v := .int .i64 (Q7.2)) (Pu.qo (p_move rfl)) (by decide) ?_
     obtain ⟨h20, H1⟩ := gd.of H1
     refine Rg.q (v := .int .i64 (Q7.2 + 1)) (Pu.qo (p_add rfl rfl h20)) (by decide) ?_
     refine Rg.q (v := .int .i64 (Q7.2 + 1)) (Pu.qo (p_assign rfl)) (by decide) (Rg.nl ?_)
     exact nLC ⟨(m14, (r17, Q7.2 + 1), ()), hi11 _ (Option.some.inj H1).symm⟩ (Nat.lt_succ_self _) ⟨rfl, rfl, rfl, trivial⟩ Ents.refl Take.nil
   ·have H1 := cdF h15 H1
    refine tExit (xT (xT (xE (?_))))
    exact nMC ⟨(Q7.1, ()), (hb12 _ (Option.some.inj H1).symm).symm⟩ ⟨rfl, trivial⟩ Ents.refl Take.nil
  ·rintro ⟨⟨e21, y9⟩, hx⟩; subst hx; replace H := sw.l H
   show At _ _ [(1, .int .i64 (e21))] _ [] _
   refine nT (?_)
   refine Tr.seq (Tr.region ?_)
   refine Rg.q (v := .int .i64 (e21)) (Pu.qo (p_move rfl)) (by decide) ?_
   refine Rg.q (v := .int .i64 (e21)) (Pu.qo (p_assign rfl)) (by decide) (Rg.nl (nT ?_))
   refine tRet ?_
   have hr := Option.some.inj H; subst hr
   exact back1 () rfl (ResV.tmp (v := .int .i64 (e21)) rfl) rfl Ents.nil Take.nil
noncomputable def p_laws_szTagSS_b0 (v0 : (List (List Tag))) (Q8 : Int × Int) : Option ((Int × Int) ⊕ (Int ⊕ Int)) := cond (decide (Q8.2 < (v0.length : Int))) (gd (ix Q8.2 v0.length) <| bd (p_laws_szTagS (nth v0 Q8.2.toNat) Q8.1) fun r18 => cond (decide (r18 < 0)) (some (.inr (.inr (-1)))) (gd (I64 (Q8.2 + 1)) <| some (.inl (r18, Q8.2 + 1)))) (some (.inr (.inl Q8.1)))
noncomputable def p_laws_szTagSS (v0 : (List (List Tag))) (v1 : Int) : Option (Int) := gd (I64 (v1 - (v0.length : Int))) <| cond (decide ((v1 - (v0.length : Int)) < 0)) (some (-1)) (bd (lp (p_laws_szTagSS_b0 v0) (v1 - (v0.length : Int), 0)) <| sw (fun e22 => some e22) (fun q => some q))
theorem c_laws_szTagSS {r : Int} (v0 : (List (List Tag))) (x_v0 : Option Addr × Nat) (v1 : Int) (H : p_laws_szTagSS v0 v1 = some r) : Fn' Try.prog 80 #[.slice x_v0.1 v0.length x_v0.2, .int .i64 (v1)] [imm (.slice x_v0.1 v0.length x_v0.2) v0] [] (ι := Unit) (fun _ => .int .i64 (r)) (fun _ => []) (fun _ => []) := by
 refine calls_of (args := [_, _]) Try.func80 rfl (by kernel_rfl) Try.ntmps80 (by simp) fun c => ?_
 unfold p_laws_szTagSS at H
 refine Tr.openD Ent.z fun X1 => ?_
 refine Tr.seq (Tr.region ?_)
 refine Rg.q (v := .int .i64 (0)) (Pu.qo (p_assign rfl)) (by decide) (Rg.nl (nT ?_))
 refine Tr.seq (Tr.region ?_)
 refine Rg.q (v := .int .i64 (v1)) (Pu.qo (p_move rfl)) (by decide) ?_
 refine Rg.q (v := .slice x_v0.1 v0.length x_v0.2) (Pu.qo (p_move rfl)) (by decide) ?_
 refine Rg.q (v := .int .i64 ((v0.length : Int))) (Pu.qo (p_len 70 Try.underlying47 rfl)) (by decide) ?_
 obtain ⟨h2, H⟩ := gd.of H
 refine Rg.q (v := .int .i64 (v1 - (v0.length : Int))) (Pu.qo (p_sub rfl rfl h2)) (by decide) ?_
 refine Rg.q (v := .int .i64 (v1 - (v0.length : Int))) (Pu.qo (p_assign rfl)) (by decide) (Rg.nl (nT ?_))
 refine Tr.seq (Tr.seq (Tr.region ?_))
 refine Rg.q (v := .int .i64 (v1 - (v0.length : Int))) (Pu.qo (p_move rfl)) (by decide) ?_
 refine Rg.q (v := .bool (decide ((v1 - (v0.length : Int)) < 0))) (Pu.qo (p_lss rfl rfl)) (by decide) (Rg.nl (nT ?_))
 refine Tr.cond (b := decide ((v1 - (v0.length : Int)) < 0)) rfl (fun h3 => ?_) (fun h3 => ?_)
 ·have H := cdT h3 H
  refine Tr.seq (Tr.region ?_)
  refine Rg.q (v := .int .i64 (-1)) (Pu.qo (p_assign rfl)) (by decide) (Rg.nl (nT ?_))
  refine tRet ?_
  refine rT (?_)
  have hr := Option.some.inj H; subst hr
  exact back1 () rfl (ResV.tmp (v := .int .i64 (-1)) rfl) rfl Ents.nil Take.nil
 ·have H := cdF h3 H
  refine tSkip ?_
  refine nT (?_)
  refine Tr.seq (Tr.seq (Tr.region ?_))
  refine Rg.q (v := .int .i64 (0)) (Pu.qo (p_assign rfl)) (by decide) (Rg.nl (nT ?_))
  obtain ⟨x4, hx5, H⟩ := bd.of H
  obtain ⟨n6, hx5⟩ := lp.of hx5
  refine tMidNC (ι := { q : (Int) × Unit // x4 = .inl q.1 }) (fun ψ => [(1, .int .i64 (ψ.1.1))]) (fun ψ => []) ?_ ?_
  ·refine Tr.block ?_
   refine tLoopC (ι := { q : Nat × (Int × Int) × Unit // itr (p_laws_szTagSS_b0 v0) q.1 q.2.1 = some x4 }) (fun ζ => [(0, .slice x_v0.1 v0.length x_v0.2), (1, .int .i64 (ζ.1.2.1.1)), (5, .int .i64 (ζ.1.2.1.2))]) (fun ζ => []) (fun ζ => ζ.1.1) ⟨(n6, (v1 - (v0.length : Int), 0), ()), hx5⟩ ⟨rfl, rfl, rfl, trivial⟩ Take.nil ?_
   rintro ⟨⟨m7, Q8, z9⟩, hk14⟩
   obtain ⟨m15, t11, e, H1, hi12, hb13⟩ := itr.of (n := m7) (s := Q8) hk14
   subst e; unfold p_laws_szTagSS_b0 at H1
   show Tr _ _ _ _ _ [(0, .slice x_v0.1 v0.length x_v0.2), (1, .int .i64 (Q8.1)), (5, .int .i64 (Q8.2))] _ []
   refine Tr.seq (Tr.seq (Tr.region ?_))
   refine Rg.q (v := .int .i64 (Q8.2)) (Pu.qo (p_move rfl)) (by decide) ?_
   refine Rg.q (v := .slice x_v0.1 v0.length x_v0.2) (Pu.qo (p_move rfl)) (by decide) ?_
   refine Rg.q (v := .int .i64 ((v0.length : Int))) (Pu.qo (p_len 70 Try.underlying47 rfl)) (by decide) ?_
   refine Rg.q (v := .bool (decide (Q8.2 < (v0.length : Int)))) (Pu.qo (p_lss rfl rfl)) (by decide) (Rg.nl (nT ?_))
   refine Tr.cond (b := decide (Q8.2 < (v0.length : Int))) rfl (fun h16 => ?_) (fun h16 => ?_)
   ·have H1 := cdT h16 H1
    refine tSkip ?_
    refine nT (Tr.seq ?_)
    refine Tr.block ?_
    refine Tr.seq (Tr.region ?_)
    refine Rg.q (v := .slice x_v0.1 v0.length x_v0.2) (Pu.qo (p_move rfl)) (by decide) ?_
    refine Rg.q (v := .int .i64 (Q8.2)) (Pu.qo (p_move rfl)) (by decide) ?_
    obtain ⟨h17, H1⟩ := gd.of H1
    refine Rg.q (v := elp x_v0.1 (Q8.2.toNat * Enc.sz (List Tag) + 0)) (q_ixg (l := v0) (E := fun i => Dp.denc (nth v0 i) (X1 i)) (oa := x_v0.1) Try.underlying47 ty70 rfl rfl h17 rfl (Ent.b (Ent.darr Ent.z))) (by decide) ?_
    refine Rg.q (v := .slice ((X1 Q8.2.toNat).1) ((nth v0 Q8.2.toNat).length) ((X1 Q8.2.toNat).2.1)) (q_lde (l := v0) (E := fun i => Dp.denc (nth v0 i) (X1 i)) (oa := x_v0.1) (i := Q8.2.toNat) (j := 0) ty70 rfl (Ent.b (Ent.darr Ent.z)) h17.lt rfl) (by decide) ?_
    refine Rg.q (v := .int .i64 (Q8.1)) (Pu.qo (p_move rfl)) (by decide) ?_
    obtain ⟨r18, h19, H1⟩ := bd.of H1
    refine Rg.q (v := .int .i64 (r18)) (q_call (vs := [.slice ((X1 Q8.2.toNat).1) ((nth v0 Q8.2.toNat).length) ((X1 Q8.2.toNat).2.1), .int .i64 (Q8.1)]) (c_laws_szTagS (nth v0 Q8.2.toNat) ((X1 Q8.2.toNat).1, (X1 Q8.2.toNat).2.1) Q8.1 h19) rfl (EntsB.cons (Ent.b (Ent.dimm (Ent.del Ent.z h17.lt))) EntsB.nil)) (by decide) ?_
    refine Rg.q (v := .int .i64 (r18)) (Pu.qo (p_assign rfl)) (by decide) (Rg.nl (nT ?_))
    refine Tr.seq (Tr.region ?_)
    refine Rg.q (v := .int .i64 (r18)) (Pu.qo (p_move rfl)) (by decide) ?_
    refine Rg.q (v := .bool (decide (r18 < 0))) (Pu.qo (p_lss rfl rfl)) (by decide) (Rg.nl (nT ?_))
    refine Tr.cond (b := decide (r18 < 0)) rfl (fun h20 => ?_) (fun h20 => ?_)
    ·have H1 := cdT h20 H1
     refine Tr.seq (Tr.region ?_)
     refine Rg.q (v := .int .i64 (-1)) (Pu.qo (p_assign rfl)) (by decide) (Rg.nl (nT ?_))
     refine tRet ?_
     refine rB (rT (rT (rB (rT (rT (?_))))))
     have hx := hb13 _ (Option.some.inj H1).symm; subst hx
     replace H := sw.r H
     have hr := Option.some.inj H; subst hr
     exact back1 () rfl (ResV.tmp (v := .int .i64 (-1)) rfl) rfl Ents.nil Take.nil
    ·have H1 := cdF h20 H1
     refine tSkip ?_
     refine nB (nT (?_))
     refine Tr.region ?_
     refine Rg.q (v := .int .i64 (Q8.2)) (Pu.qo (p_move rfl)) (by decide) ?_
     obtain ⟨h21, H1⟩ := gd.of H1
     refine Rg.q (v := .int .i64 (Q8.2 + 1)) (Pu.qo (p_add rfl rfl h21)) (by decide) ?_
     refine Rg.q (v := .int .i64 (Q8.2 + 1)) (Pu.qo (p_assign rfl)) (by decide) (Rg.nl ?_)
     exact nLC ⟨(m15, (r18, Q8.2 + 1), ()), hi12 _ (Option.some.inj H1).symm⟩ (Nat.lt_succ_self _) ⟨rfl, rfl, rfl, trivial⟩ Ents.refl Take.nil
   ·have H1 := cdF h16 H1
    refine tExit (xT (xT (xE (?_))))
    exact nMC ⟨(Q8.1, ()), (hb13 _ (Option.some.inj H1).symm).symm⟩ ⟨rfl, trivial⟩ Ents.refl Take.nil
  ·rintro ⟨⟨e22, y10⟩, hx⟩; subst hx; replace H := sw.l H
   show At _ _ [(1, .int .i64 (e22))] _ [] _
   refine nT (?_)
   refine Tr.seq (Tr.region ?_)
   refine Rg.q (v := .int .i64 (e22)) (Pu.qo (p_move rfl)) (by decide) ?_
   refine Rg.q (v := .int .i64 (e22)) (Pu.qo (p_assign rfl)) (by decide) (Rg.nl (nT ?_))
   refine tRet ?_
   have hr := Option.some.inj H; subst hr
   exact back1 () rfl (ResV.tmp (v := .int .i64 (e22)) rfl) rfl Ents.nil Take.nil
noncomputable def p_laws_szIntS (v0 : (List Int)) (v1 : Int) : Option (Int) := gd (I64 (v1 - (v0.length : Int))) <| cond (decide ((v1 - (v0.length : Int)) < 0)) (some (-1)) (some (v1 - (v0.length : Int)))
theorem c_laws_szIntS {r : Int} (v0 : (List Int)) (x_v0 : Option Addr × Nat) (v1 : Int) (H : p_laws_szIntS v0 v1 = some r) : Fn' Try.prog 144 #[.slice x_v0.1 v0.length x_v0.2, .int .i64 (v1)] [imm (.slice x_v0.1 v0.length x_v0.2) v0] [] (ι := Unit) (fun _ => .int .i64 (r)) (fun _ => []) (fun _ => []) := by
 refine calls_of (args := [_, _]) Try.func144 rfl (by kernel_rfl) Try.ntmps144 (by simp) fun c => ?_
 unfold p_laws_szIntS at H
 refine Tr.seq (Tr.region ?_)
 refine Rg.q (v := .int .i64 (0)) (Pu.qo (p_assign rfl)) (by decide) (Rg.nl (nT ?_))
 refine Tr.seq (Tr.region ?_)
 refine Rg.q (v := .int .i64 (v1)) (Pu.qo (p_move rfl)) (by decide) ?_
 refine Rg.q (v := .slice x_v0.1 v0.length x_v0.2) (Pu.qo (p_move rfl)) (by decide) ?_
 refine Rg.q (v := .int .i64 ((v0.length : Int))) (Pu.qo (p_len 3 Try.underlying31 rfl)) (by decide) ?_
 obtain ⟨h1, H⟩ := gd.of H
 refine Rg.q (v := .int .i64 (v1 - (v0.length : Int))) (Pu.qo (p_sub rfl rfl h1)) (by decide) ?_
 refine Rg.q (v := .int .i64 (v1 - (v0.length : Int))) (Pu.qo (p_assign rfl)) (by decide) (Rg.nl (nT ?_))
 refine Tr.seq (Tr.seq (Tr.region ?_))
 refine Rg.q (v := .int .i64 (v1 - (v0.length : Int))) (Pu.qo (p_move rfl)) (by decide) ?_
 refine Rg.q (v := .bool (decide ((v1 - (v0.length : Int)) < 0))) (Pu.qo (p_lss rfl rfl)) (by decide) (Rg.nl (nT ?_))
 refine Tr.cond (b := decide ((v1 - (v0.length : Int)) < 0)) rfl (fun h2 => ?_) (fun h2 => ?_)
 ·have H := cdT h2 H
  refine Tr.seq (Tr.region ?_)
  refine Rg.q (v := .int .i64 (-1)) (Pu.qo (p_assign rfl)) (by decide) (Rg.nl (nT ?_))
  refine tRet ?_
  refine rT (?_)
  have hr := Option.some.inj H; subst hr
  exact back1 () rfl (ResV.tmp (v := .int .i64 (-1)) rfl) rfl Ents.nil Take.nil
 ·have H := cdF h2 H
  refine tSkip ?_
  refine nT (?_)
  refine Tr.seq (Tr.region ?_)
  refine Rg.q (v := .int .i64 (v1 - (v0.length : Int))) (Pu.qo (p_move rfl)) (by decide) ?_
  refine Rg.q (v := .int .i64 (v1 - (v0.length : Int))) (Pu.qo (p_assign rfl)) (by decide) (Rg.nl (nT ?_))
  refine tRet ?_
  have hr := Option.some.inj H; subst hr
  exact back1 () rfl (ResV.tmp (v := .int .i64 (v1 - (v0.length : Int))) rfl) rfl Ents.nil Take.nil
noncomputable def p_laws_szPost (v0 : Post) (v1 : Int) : Option (Int) := bd (p_laws_szTag v0.1 v1) fun r2 => cond (decide (r2 < 0)) (some (-1)) (bd (p_laws_szIntS v0.2 r2) fun r5 => cond (decide (r5 < 0)) (some (-1)) (some r5))
theorem c_laws_szPost {r : Int} (v0 : Post) (x_v0 : (Unit × Unit) × (Option Addr × Nat)) (v1 : Int) (H : p_laws_szPost v0 v1 = some r) : Fn' Try.prog 125 #[.agg #[.string (v0.1.1), .string (v0.1.2), .slice x_v0.2.1 v0.2.length x_v0.2.2], .int .i64 (v1)] [imm (.slice x_v0.2.1 v0.2.length x_v0.2.2) v0.2] [] (ι := Unit) (fun _ => .int .i64 (r)) (fun _ => []) (fun _ => []) := by
 refine calls_of (args := [_, _]) Try.func125 rfl (by kernel_rfl) Try.ntmps125 (by simp) fun c => ?_
 unfold p_laws_szPost at H
 refine Tr.seq (Tr.region ?_)
 refine Rg.ed (e_box (t := 147) (v := .agg #[.string (v0.1.1), .string (v0.1.2), .slice x_v0.2.1 v0.2.length x_v0.2.2]) rfl) rfl (by decide) ?_
 rintro _ _ _ ⟨g1, rfl, rfl, rfl⟩
 refine Rg.q (v := .int .i64 (0)) (Pu.qo (p_assign rfl)) (by decide) (Rg.nl (nT ?_))
 refine Tr.seq (Tr.region ?_)
 refine Rg.q (v := .pointer (some ⟨g1, 0, none⟩)) (Pu.qo (p_fabE fa147_0 rfl rfl)) (by decide) ?_
 refine Rg.q (v := .agg #[.string (v0.1.1), .string (v0.1.2)]) (q_ldbP [.string (v0.1.1), .string (v0.1.2)] ty64 rfl Has.here rfl rfl) (by decide) ?_
 refine Rg.q (v := .int .i64 (v1)) (Pu.qo (p_move rfl)) (by decide) ?_
 obtain ⟨r2, h3, H⟩ := bd.of H
 refine Rg.q (v := .int .i64 (r2)) (q_call (vs := [.agg #[.string (v0.1.1), .string (v0.1.2)], .int .i64 (v1)]) (c_laws_szTag v0.1 v1 h3) rfl EntsB.nil) (by decide) ?_
 refine Rg.q (v := .int .i64 (r2)) (Pu.qo (p_assign rfl)) (by decide) (Rg.nl (nT ?_))
 refine Tr.seq (Tr.seq (Tr.region ?_))
 refine Rg.q (v := .int .i64 (r2)) (Pu.qo (p_move rfl)) (by decide) ?_
 refine Rg.q (v := .bool (decide (r2 < 0))) (Pu.qo (p_lss rfl rfl)) (by decide) (Rg.nl (nT ?_))
 refine Tr.cond (b := decide (r2 < 0)) rfl (fun h4 => ?_) (fun h4 => ?_)
 ·have H := cdT h4 H
  refine Tr.seq (Tr.region ?_)
  refine Rg.q (v := .int .i64 (-1)) (Pu.qo (p_assign rfl)) (by decide) (Rg.nl (nT ?_))
  refine tRet ?_
  refine rT (?_)
  have hr := Option.some.inj H; subst hr
  exact back1 () rfl (ResV.tmp (v := .int .i64 (-1)) rfl) rfl Ents.nil Take.nil
 ·have H := cdF h4 H
  refine tSkip ?_
  refine nT (?_)
  refine Tr.seq (Tr.region ?_)
  refine Rg.q (v := .pointer (some ⟨g1, 2, none⟩)) (Pu.qo (p_fabE fa147_1 rfl rfl)) (by decide) ?_
  refine Rg.q (v := .slice x_v0.2.1 v0.2.length x_v0.2.2) (q_ldb ty31 rfl Has.here rfl) (by decide) ?_
  refine Rg.q (v := .int .i64 (r2)) (Pu.qo (p_move rfl)) (by decide) ?_
  obtain ⟨r5, h6, H⟩ := bd.of H
  refine Rg.q (v := .int .i64 (r5)) (q_call (vs := [.slice x_v0.2.1 v0.2.length x_v0.2.2, .int .i64 (r2)]) (c_laws_szIntS v0.2 x_v0.2 r2 h6) rfl (EntsB.cons (Ent.b Ent.z) EntsB.nil)) (by decide) ?_
  refine Rg.q (v := .int .i64 (r5)) (Pu.qo (p_assign rfl)) (by decide) (Rg.nl (nT ?_))
  refine Tr.seq (Tr.seq (Tr.region ?_))
  refine Rg.q (v := .int .i64 (r5)) (Pu.qo (p_move rfl)) (by decide) ?_
  refine Rg.q (v := .bool (decide (r5 < 0))) (Pu.qo (p_lss rfl rfl)) (by decide) (Rg.nl (nT ?_))
  refine Tr.cond (b := decide (r5 < 0)) rfl (fun h7 => ?_) (fun h7 => ?_)
  ·have H := cdT h7 H
   refine Tr.seq (Tr.region ?_)
   refine Rg.q (v := .int .i64 (-1)) (Pu.qo (p_assign rfl)) (by decide) (Rg.nl (nT ?_))
   refine tRet ?_
   refine rT (?_)
   have hr := Option.some.inj H; subst hr
   exact back1 () rfl (ResV.tmp (v := .int .i64 (-1)) rfl) rfl Ents.nil Take.nil
  ·have H := cdF h7 H
   refine tSkip ?_
   refine nT (?_)
   refine Tr.seq (Tr.region ?_)
   refine Rg.q (v := .int .i64 (r5)) (Pu.qo (p_move rfl)) (by decide) ?_
   refine Rg.q (v := .int .i64 (r5)) (Pu.qo (p_assign rfl)) (by decide) (Rg.nl (nT ?_))
   refine tRet ?_
   have hr := Option.some.inj H; subst hr
   exact back1 () rfl (ResV.tmp (v := .int .i64 (r5)) rfl) rfl Ents.nil Take.nil
noncomputable def p_laws_szPostS_b0 (v0 : (List Post)) (Q8 : Int × Int) : Option ((Int × Int) ⊕ (Int ⊕ Int)) := cond (decide (Q8.2 < (v0.length : Int))) (gd (ix Q8.2 v0.length) <| bd (p_laws_szPost (nth v0 Q8.2.toNat) Q8.1) fun r18 => cond (decide (r18 < 0)) (some (.inr (.inr (-1)))) (gd (I64 (Q8.2 + 1)) <| some (.inl (r18, Q8.2 + 1)))) (some (.inr (.inl Q8.1)))
noncomputable def p_laws_szPostS (v0 : (List Post)) (v1 : Int) : Option (Int) := gd (I64 (v1 - (v0.length : Int))) <| cond (decide ((v1 - (v0.length : Int)) < 0)) (some (-1)) (bd (lp (p_laws_szPostS_b0 v0) (v1 - (v0.length : Int), 0)) <| sw (fun e22 => some e22) (fun q => some q))
theorem c_laws_szPostS {r : Int} (v0 : (List Post)) (x_v0 : Option Addr × Nat) (v1 : Int) (H : p_laws_szPostS v0 v1 = some r) : Fn' Try.prog 81 #[.slice x_v0.1 v0.length x_v0.2, .int .i64 (v1)] [imm (.slice x_v0.1 v0.length x_v0.2) v0] [] (ι := Unit) (fun _ => .int .i64 (r)) (fun _ => []) (fun _ => []) := by
 refine calls_of (args := [_, _]) Try.func81 rfl (by kernel_rfl) Try.ntmps81 (by simp) fun c => ?_
 unfold p_laws_szPostS at H
 refine Tr.openD Ent.z fun X1 => ?_
 refine Tr.seq (Tr.region ?_)
 refine Rg.q (v := .int .i64 (0)) (Pu.qo (p_assign rfl)) (by decide) (Rg.nl (nT ?_))
 refine Tr.seq (Tr.region ?_)
 refine Rg.q (v := .int .i64 (v1)) (Pu.qo (p_move rfl)) (by decide) ?_
 refine Rg.q (v := .slice x_v0.1 v0.length x_v0.2) (Pu.qo (p_move rfl)) (by decide) ?_
 refine Rg.q (v := .int .i64 ((v0.length : Int))) (Pu.qo (p_len 147 Try.underlying48 rfl)) (by decide) ?_
 obtain ⟨h2, H⟩ := gd.of H
 refine Rg.q (v := .int .i64 (v1 - (v0.length : Int))) (Pu.qo (p_sub rfl rfl h2)) (by decide) ?_
 refine Rg.q (v := .int .i64 (v1 - (v0.length : Int))) (Pu.qo (p_assign rfl)) (by decide) (Rg.nl (nT ?_))
 refine Tr.seq (Tr.seq (Tr.region ?_))
 refine Rg.q (v := .int .i64 (v1 - (v0.length : Int))) (Pu.qo (p_move rfl)) (by decide) ?_
 refine Rg.q (v := .bool (decide ((v1 - (v0.length : Int)) < 0))) (Pu.qo (p_lss rfl rfl)) (by decide) (Rg.nl (nT ?_))
 refine Tr.cond (b := decide ((v1 - (v0.length : Int)) < 0)) rfl (fun h3 => ?_) (fun h3 => ?_)
 ·have H := cdT h3 H
  refine Tr.seq (Tr.region ?_)
  refine Rg.q (v := .int .i64 (-1)) (Pu.qo (p_assign rfl)) (by decide) (Rg.nl (nT ?_))
  refine tRet ?_
  refine rT (?_)
  have hr := Option.some.inj H; subst hr
  exact back1 () rfl (ResV.tmp (v := .int .i64 (-1)) rfl) rfl Ents.nil Take.nil
 ·have H := cdF h3 H
  refine tSkip ?_
  refine nT (?_)
  refine Tr.seq (Tr.seq (Tr.region ?_))
  refine Rg.q (v := .int .i64 (0)) (Pu.qo (p_assign rfl)) (by decide) (Rg.nl (nT ?_))
  obtain ⟨x4, hx5, H⟩ := bd.of H
  obtain ⟨n6, hx5⟩ := lp.of hx5
  refine tMidNC (ι := { q : (Int) × Unit // x4 = .inl q.1 }) (fun ψ => [(1, .int .i64 (ψ.1.1))]) (fun ψ => []) ?_ ?_
  ·refine Tr.block ?_
   refine tLoopC (ι := { q : Nat × (Int × Int) × Unit // itr (p_laws_szPostS_b0 v0) q.1 q.2.1 = some x4 }) (fun ζ => [(0, .slice x_v0.1 v0.length x_v0.2), (1, .int .i64 (ζ.1.2.1.1)), (5, .int .i64 (ζ.1.2.1.2))]) (fun ζ => []) (fun ζ => ζ.1.1) ⟨(n6, (v1 - (v0.length : Int), 0), ()), hx5⟩ ⟨rfl, rfl, rfl, trivial⟩ Take.nil ?_
   rintro ⟨⟨m7, Q8, z9⟩, hk14⟩
   obtain ⟨m15, t11, e, H1, hi12, hb13⟩ := itr.of (n := m7) (s := Q8) hk14
   subst e; unfold p_laws_szPostS_b0 at H1
   show Tr _ _ _ _ _ [(0, .slice x_v0.1 v0.length x_v0.2), (1, .int .i64 (Q8.1)), (5, .int .i64 (Q8.2))] _ []
   refine Tr.seq (Tr.seq (Tr.region ?_))
   refine Rg.q (v := .int .i64 (Q8.2)) (Pu.qo (p_move rfl)) (by decide) ?_
   refine Rg.q (v := .slice x_v0.1 v0.length x_v0.2) (Pu.qo (p_move rfl)) (by decide) ?_
   refine Rg.q (v := .int .i64 ((v0.length : Int))) (Pu.qo (p_len 147 Try.underlying48 rfl)) (by decide) ?_
   refine Rg.q (v := .bool (decide (Q8.2 < (v0.length : Int)))) (Pu.qo (p_lss rfl rfl)) (by decide) (Rg.nl (nT ?_))
   refine Tr.cond (b := decide (Q8.2 < (v0.length : Int))) rfl (fun h16 => ?_) (fun h16 => ?_)
   ·have H1 := cdT h16 H1
    refine tSkip ?_
    refine nT (Tr.seq ?_)
    refine Tr.block ?_
    refine Tr.seq (Tr.region ?_)
    refine Rg.q (v := .slice x_v0.1 v0.length x_v0.2) (Pu.qo (p_move rfl)) (by decide) ?_
    refine Rg.q (v := .int .i64 (Q8.2)) (Pu.qo (p_move rfl)) (by decide) ?_
    obtain ⟨h17, H1⟩ := gd.of H1
    refine Rg.q (v := elp x_v0.1 (Q8.2.toNat * Enc.sz Post + 0)) (q_ixg (l := v0) (E := fun i => Dp.denc (nth v0 i) (X1 i)) (oa := x_v0.1) Try.underlying48 ty147 rfl rfl h17 rfl (Ent.b (Ent.darr Ent.z))) (by decide) ?_
    refine Rg.q (v := .agg #[.string (((nth v0 Q8.2.toNat).1).1), .string (((nth v0 Q8.2.toNat).1).2), .slice (((X1 Q8.2.toNat).2).1) (((nth v0 Q8.2.toNat).2).length) (((X1 Q8.2.toNat).2).2.1)]) (q_ldeA (l := v0) (E := fun i => Dp.denc (nth v0 i) (X1 i)) (oa := x_v0.1) (i := Q8.2.toNat) ty147 rfl (Ent.b (Ent.darr Ent.z)) h17.lt) (by decide) ?_
    refine Rg.q (v := .int .i64 (Q8.1)) (Pu.qo (p_move rfl)) (by decide) ?_
    obtain ⟨r18, h19, H1⟩ := bd.of H1
    refine Rg.q (v := .int .i64 (r18)) (q_call (vs := [.agg #[.string (((nth v0 Q8.2.toNat).1).1), .string (((nth v0 Q8.2.toNat).1).2), .slice (((X1 Q8.2.toNat).2).1) (((nth v0 Q8.2.toNat).2).length) (((X1 Q8.2.toNat).2).2.1)], .int .i64 (Q8.1)]) (c_laws_szPost (nth v0 Q8.2.toNat) (((), ()), (((X1 Q8.2.toNat).2).1, ((X1 Q8.2.toNat).2).2.1)) Q8.1 h19) rfl (EntsB.cons (Ent.b (Ent.dimm (Ent.dsnd (Ent.del Ent.z h17.lt)))) EntsB.nil)) (by decide) ?_
    refine Rg.q (v := .int .i64 (r18)) (Pu.qo (p_assign rfl)) (by decide) (Rg.nl (nT ?_))
    refine Tr.seq (Tr.region ?_)
    refine Rg.q (v := .int .i64 (r18)) (Pu.qo (p_move rfl)) (by decide) ?_
    refine Rg.q (v := .bool (decide (r18 < 0))) (Pu.qo (p_lss rfl rfl)) (by decide) (Rg.nl (nT ?_))
    refine Tr.cond (b := decide (r18 < 0)) rfl (fun h20 => ?_) (fun h20 => ?_)
    ·have H1 := cdT h20 H1
     refine Tr.seq (Tr.region ?_)
     refine Rg.q (v := .int .i64 (-1)) (Pu.qo (p_assign rfl)) (by decide) (Rg.nl (nT ?_))
     refine tRet ?_
     refine rB (rT (rT (rB (rT (rT (?_))))))
     have hx := hb13 _ (Option.some.inj H1).symm; subst hx
     replace H := sw.r H
     have hr := Option.some.inj H; subst hr
     exact back1 () rfl (ResV.tmp (v := .int .i64 (-1)) rfl) rfl Ents.nil Take.nil
    ·have H1 := cdF h20 H1
     refine tSkip ?_
     refine nB (nT (?_))
     refine Tr.region ?_
     refine Rg.q (v := .int .i64 (Q8.2)) (Pu.qo (p_move rfl)) (by decide) ?_
     obtain ⟨h21, H1⟩ := gd.of H1
     refine Rg.q (v := .int .i64 (Q8.2 + 1)) (Pu.qo (p_add rfl rfl h21)) (by decide) ?_
     refine Rg.q (v := .int .i64 (Q8.2 + 1)) (Pu.qo (p_assign rfl)) (by decide) (Rg.nl ?_)
     exact nLC ⟨(m15, (r18, Q8.2 + 1), ()), hi12 _ (Option.some.inj H1).symm⟩ (Nat.lt_succ_self _) ⟨rfl, rfl, rfl, trivial⟩ Ents.refl Take.nil
   ·have H1 := cdF h16 H1
    refine tExit (xT (xT (xE (?_))))
    exact nMC ⟨(Q8.1, ()), (hb13 _ (Option.some.inj H1).symm).symm⟩ ⟨rfl, trivial⟩ Ents.refl Take.nil
  ·rintro ⟨⟨e22, y10⟩, hx⟩; subst hx; replace H := sw.l H
   show At _ _ [(1, .int .i64 (e22))] _ [] _
   refine nT (?_)
   refine Tr.seq (Tr.region ?_)
   refine Rg.q (v := .int .i64 (e22)) (Pu.qo (p_move rfl)) (by decide) ?_
   refine Rg.q (v := .int .i64 (e22)) (Pu.qo (p_assign rfl)) (by decide) (Rg.nl (nT ?_))
   refine tRet ?_
   have hr := Option.some.inj H; subst hr
   exact back1 () rfl (ResV.tmp (v := .int .i64 (e22)) rfl) rfl Ents.nil Take.nil
noncomputable def p_laws_szIndex (v0 : Index) (v1 : Int) : Option (Int) := bd (p_laws_szTagSS v0.1 v1) fun r4 => cond (decide (r4 < 0)) (some (-1)) (bd (p_laws_szPostS v0.2 r4) fun r7 => cond (decide (r7 < 0)) (some (-1)) (some r7))
theorem c_laws_szIndex {r : Int} (v0 : Index) (x_v0 : (Option Addr × Nat) × (Option Addr × Nat)) (v1 : Int) (H : p_laws_szIndex v0 v1 = some r) : Fn' Try.prog 30 #[.agg #[.slice x_v0.1.1 v0.1.length x_v0.1.2, .slice x_v0.2.1 v0.2.length x_v0.2.2], .int .i64 (v1)] [imm (.slice x_v0.1.1 v0.1.length x_v0.1.2) v0.1, imm (.slice x_v0.2.1 v0.2.length x_v0.2.2) v0.2] [] (ι := Unit) (fun _ => .int .i64 (r)) (fun _ => []) (fun _ => []) := by
 refine calls_of (args := [_, _]) Try.func30 rfl (by kernel_rfl) Try.ntmps30 (by simp) fun c => ?_
 unfold p_laws_szIndex at H
 refine Tr.openD Ent.z fun X1 => ?_
 refine Tr.openD Ent.z.s.s fun X2 => ?_
 refine Tr.seq (Tr.region ?_)
 refine Rg.ed (e_box (t := 50) (v := .agg #[.slice x_v0.1.1 v0.1.length x_v0.1.2, .slice x_v0.2.1 v0.2.length x_v0.2.2]) rfl) rfl (by decide) ?_
 rintro _ _ _ ⟨g3, rfl, rfl, rfl⟩
 refine Rg.q (v := .int .i64 (0)) (Pu.qo (p_assign rfl)) (by decide) (Rg.nl (nT ?_))
 refine Tr.seq (Tr.region ?_)
 refine Rg.q (v := .pointer (some ⟨g3, 0, none⟩)) (Pu.qo (p_fabE fa50_0 rfl rfl)) (by decide) ?_
 refine Rg.q (v := .slice x_v0.1.1 v0.1.length x_v0.1.2) (q_ldb ty47 rfl Has.here rfl) (by decide) ?_
 refine Rg.q (v := .int .i64 (v1)) (Pu.qo (p_move rfl)) (by decide) ?_
 obtain ⟨r4, h5, H⟩ := bd.of H
 refine Rg.q (v := .int .i64 (r4)) (q_call (vs := [.slice x_v0.1.1 v0.1.length x_v0.1.2, .int .i64 (v1)]) (c_laws_szTagSS v0.1 x_v0.1 v1 h5) rfl (EntsB.cons (Ent.b (Ent.dimm Ent.z.s)) EntsB.nil)) (by decide) ?_
 refine Rg.q (v := .int .i64 (r4)) (Pu.qo (p_assign rfl)) (by decide) (Rg.nl (nT ?_))
 refine Tr.seq (Tr.seq (Tr.region ?_))
 refine Rg.q (v := .int .i64 (r4)) (Pu.qo (p_move rfl)) (by decide) ?_
 refine Rg.q (v := .bool (decide (r4 < 0))) (Pu.qo (p_lss rfl rfl)) (by decide) (Rg.nl (nT ?_))
 refine Tr.cond (b := decide (r4 < 0)) rfl (fun h6 => ?_) (fun h6 => ?_)
 ·have H := cdT h6 H
  refine Tr.seq (Tr.region ?_)
  refine Rg.q (v := .int .i64 (-1)) (Pu.qo (p_assign rfl)) (by decide) (Rg.nl (nT ?_))
  refine tRet ?_
  refine rT (?_)
  have hr := Option.some.inj H; subst hr
  exact back1 () rfl (ResV.tmp (v := .int .i64 (-1)) rfl) rfl Ents.nil Take.nil
 ·have H := cdF h6 H
  refine tSkip ?_
  refine nT (?_)
  refine Tr.seq (Tr.region ?_)
  refine Rg.q (v := .pointer (some ⟨g3, 1, none⟩)) (Pu.qo (p_fabE fa50_1 rfl rfl)) (by decide) ?_
  refine Rg.q (v := .slice x_v0.2.1 v0.2.length x_v0.2.2) (q_ldb ty48 rfl Has.here rfl) (by decide) ?_
  refine Rg.q (v := .int .i64 (r4)) (Pu.qo (p_move rfl)) (by decide) ?_
  obtain ⟨r7, h8, H⟩ := bd.of H
  refine Rg.q (v := .int .i64 (r7)) (q_call (vs := [.slice x_v0.2.1 v0.2.length x_v0.2.2, .int .i64 (r4)]) (c_laws_szPostS v0.2 x_v0.2 r4 h8) rfl (EntsB.cons (Ent.b (Ent.dimm Ent.z)) EntsB.nil)) (by decide) ?_
  refine Rg.q (v := .int .i64 (r7)) (Pu.qo (p_assign rfl)) (by decide) (Rg.nl (nT ?_))
  refine Tr.seq (Tr.seq (Tr.region ?_))
  refine Rg.q (v := .int .i64 (r7)) (Pu.qo (p_move rfl)) (by decide) ?_
  refine Rg.q (v := .bool (decide (r7 < 0))) (Pu.qo (p_lss rfl rfl)) (by decide) (Rg.nl (nT ?_))
  refine Tr.cond (b := decide (r7 < 0)) rfl (fun h9 => ?_) (fun h9 => ?_)
  ·have H := cdT h9 H
   refine Tr.seq (Tr.region ?_)
   refine Rg.q (v := .int .i64 (-1)) (Pu.qo (p_assign rfl)) (by decide) (Rg.nl (nT ?_))
   refine tRet ?_
   refine rT (?_)
   have hr := Option.some.inj H; subst hr
   exact back1 () rfl (ResV.tmp (v := .int .i64 (-1)) rfl) rfl Ents.nil Take.nil
  ·have H := cdF h9 H
   refine tSkip ?_
   refine nT (?_)
   refine Tr.seq (Tr.region ?_)
   refine Rg.q (v := .int .i64 (r7)) (Pu.qo (p_move rfl)) (by decide) ?_
   refine Rg.q (v := .int .i64 (r7)) (Pu.qo (p_assign rfl)) (by decide) (Rg.nl (nT ?_))
   refine tRet ?_
   have hr := Option.some.inj H; subst hr
   exact back1 () rfl (ResV.tmp (v := .int .i64 (r7)) rfl) rfl Ents.nil Take.nil
noncomputable def p_laws_toTag (v0 : Tag) : Option (Tag) := some v0
theorem c_laws_toTag {r : Tag} (v0 : Tag) (H : p_laws_toTag v0 = some r) : Fn' Try.prog 40 #[.agg #[.string (v0.1), .string (v0.2)]] [] [] (ι := Unit) (fun _ => .agg #[.string (r.1), .string (r.2)]) (fun _ => []) (fun _ => []) := by
 refine calls_of (args := [_]) Try.func40 rfl (by kernel_rfl) Try.ntmps40 (by simp) fun c => ?_
 unfold p_laws_toTag at H
 refine Tr.seq (Tr.region ?_)
 refine Rg.ed (e_box (t := 64) (v := .agg #[.string (v0.1), .string (v0.2)]) rfl) rfl (by decide) ?_
 rintro _ _ _ ⟨g1, rfl, rfl, rfl⟩
 refine Rg.ed (e_alloc ty30) rfl (by decide) ?_
 rintro _ _ _ ⟨g2, rfl, rfl, rfl⟩
 refine Rg.nl (nT ?_)
 refine Tr.seq (Tr.region ?_)
 refine Rg.ed (e_alloc ty30) rfl (by decide) ?_
 rintro _ _ _ ⟨g3, rfl, rfl, rfl⟩
 refine Rg.nl (nT ?_)
 refine Tr.seq (Tr.region ?_)
 refine Rg.q (v := .pointer (some ⟨g1, 0, none⟩)) (Pu.qo (p_fabE fa64_0 rfl rfl)) (by decide) ?_
 refine Rg.q (v := .string (v0.1)) (q_ldb ty9 rfl Has.here.there.there rfl) (by decide) ?_
 refine Rg.q (v := .pointer (some ⟨g3, 0, none⟩)) (Pu.qo (p_fabE fa30_0 rfl rfl)) (by decide) ?_
 refine Rg.en (e_store (v := .string (v0.1)) (cs' := [.string (v0.1), .string (⟨#[]⟩)]) ty9 rfl rfl Upd.here rfl (by simp [Value.cells, Value.oneCell']) (Nat.le_of_ble_eq_true rfl) rfl) rfl ?_
 rintro _ _ _ ⟨rfl, rfl, rfl⟩
 refine Rg.nl (nT ?_)
 refine Tr.seq (Tr.region ?_)
 refine Rg.q (v := .pointer (some ⟨g1, 1, none⟩)) (Pu.qo (p_fabE fa64_1 rfl rfl)) (by decide) ?_
 refine Rg.q (v := .string (v0.2)) (q_ldb ty9 rfl Has.here.there.there rfl) (by decide) ?_
 refine Rg.q (v := .pointer (some ⟨g3, 1, none⟩)) (Pu.qo (p_fabE fa30_1 rfl rfl)) (by decide) ?_
 refine Rg.en (e_store (v := .string (v0.2)) (cs' := [.string (v0.1), .string (v0.2)]) ty9 rfl rfl Upd.here rfl (by simp [Value.cells, Value.oneCell']) (Nat.le_of_ble_eq_true rfl) rfl) rfl ?_
 rintro _ _ _ ⟨rfl, rfl, rfl⟩
 refine Rg.nl (nT ?_)
 refine Tr.seq (Tr.region ?_)
 refine Rg.q (v := .agg #[.string (v0.1), .string (v0.2)]) (q_ldbA ty30 rfl Has.here rfl) (by decide) ?_
 refine Rg.en (e_store (v := .agg #[.string (v0.1), .string (v0.2)]) (cs' := [.string (v0.1), .string (v0.2)]) ty30 rfl rfl Upd.here.there rfl (by simp [Value.cells, Value.oneCell']) (Nat.le_of_ble_eq_true rfl) rfl) rfl ?_
 rintro _ _ _ ⟨rfl, rfl, rfl⟩
 refine Rg.nl (nT ?_)
 refine tRet ?_
 have hr := Option.some.inj H; subst hr
 exact back1 () rfl (ResV.agg ty30 rfl Has.here.there rfl) rfl Ents.nil Take.nil
noncomputable def p_laws_toTagS_b0 (v0 : (List Tag)) (Q8 : (List Tag) × Int) : Option (((List Tag) × Int) ⊕ ((List Tag))) := cond (decide (Q8.2 < (v0.length : Int))) (gd (ix Q8.2 v0.length) <| bd (p_laws_toTag (nth v0 Q8.2.toNat)) fun r18 => gd (ix Q8.2 Q8.1.length) <| gd (I64 (Q8.2 + 1)) <| some (.inl ((Q8.1.set Q8.2.toNat r18), Q8.2 + 1))) (some (.inr Q8.1))
noncomputable def p_laws_toTagS (v0 : (List Tag)) : Option ((List Tag)) := gd (many (v0.length : Int)) <| bd (lp (p_laws_toTagS_b0 v0) ((List.replicate (v0.length : Int).toNat (Zr.z0 : Tag)), 0)) fun x4 => some x4
theorem c_laws_toTagS {r : (List Tag)} (v0 : (List Tag)) (x_v0 : Option Addr × Nat) (H : p_laws_toTagS v0 = some r) : Fn' Try.prog 46 #[.slice x_v0.1 v0.length x_v0.2] [imm (.slice x_v0.1 v0.length x_v0.2) v0] [] (ι := Option Addr × Nat) (fun x => .slice x.1 r.length x.2) (fun _ => []) (fun x => [tree (.slice x.1 r.length x.2) r]) := by
 refine calls_of (args := [_]) Try.func46 rfl (by kernel_rfl) Try.ntmps46 (by simp) fun c => ?_
 unfold p_laws_toTagS at H
 refine Tr.seq (Tr.region ?_)
 refine Rg.q (v := .slice none 0 0) (Pu.qo (p_assign rfl)) (by decide) (Rg.nl (nT ?_))
 refine Tr.seq (Tr.region ?_)
 refine Rg.q (v := .slice x_v0.1 v0.length x_v0.2) (Pu.qo (p_move rfl)) (by decide) ?_
 refine Rg.q (v := .int .i64 ((v0.length : Int))) (Pu.qo (p_len 64 Try.underlying70 rfl)) (by decide) ?_
 obtain ⟨h3, H⟩ := gd.of H
 refine Rg.ed (e_makeR Tag Try.underlying38 ty30 rfl rfl rfl h3 (by decide)) rfl (by decide) ?_
 rintro _ _ _ ⟨a1, c2, rfl, rfl, rfl⟩
 refine Rg.q (v := .slice a1 ((List.replicate (v0.length : Int).toNat (Zr.z0 : Tag)).length) c2) (Pu.qo (p_assign rfl)) (by decide) (Rg.nl (nT ?_))
 refine Tr.seq (Tr.seq (Tr.region ?_))
 refine Rg.q (v := .int .i64 (0)) (Pu.qo (p_assign rfl)) (by decide) (Rg.nl (nT ?_))
 obtain ⟨x4, hx5, H⟩ := bd.of H
 obtain ⟨n6, hx5⟩ := lp.of hx5
 refine tMidNC (ι := Unit) (fun ψ => [(3, .slice a1 x4.length c2)]) (fun ψ => [tree (.slice a1 x4.length c2) x4]) ?_ ?_
 ·refine Tr.block ?_
  refine tLoopC (ι := { q : Nat × ((List Tag) × Int) × Unit // itr (p_laws_toTagS_b0 v0) q.1 q.2.1 = some x4 }) (fun ζ => [(0, .slice x_v0.1 v0.length x_v0.2), (3, .slice a1 ζ.1.2.1.1.length c2), (4, .int .i64 (ζ.1.2.1.2))]) (fun ζ => [tree (.slice a1 ζ.1.2.1.1.length c2) ζ.1.2.1.1]) (fun ζ => ζ.1.1) ⟨(n6, ((List.replicate (v0.length : Int).toNat (Zr.z0 : Tag)), 0), ()), hx5⟩ ⟨rfl, rfl, rfl, trivial⟩ (.cons Del.here .nil) ?_
  rintro ⟨⟨m7, Q8, z9⟩, hk14⟩
  obtain ⟨m15, t11, e, H1, hi12, hb13⟩ := itr.of (n := m7) (s := Q8) hk14
  subst e; unfold p_laws_toTagS_b0 at H1
  show Tr _ _ _ _ _ [(0, .slice x_v0.1 v0.length x_v0.2), (3, .slice a1 Q8.1.length c2), (4, .int .i64 (Q8.2))] _ [tree (.slice a1 Q8.1.length c2) Q8.1]
  refine Tr.seq (Tr.seq (Tr.region ?_))
  refine Rg.q (v := .int .i64 (Q8.2)) (Pu.qo (p_move rfl)) (by decide) ?_
  refine Rg.q (v := .slice x_v0.1 v0.length x_v0.2) (Pu.qo (p_move rfl)) (by decide) ?_
  refine Rg.q (v := .int .i64 ((v0.length : Int))) (Pu.qo (p_len 64 Try.underlying70 rfl)) (by decide) ?_
  refine Rg.q (v := .bool (decide (Q8.2 < (v0.length : Int)))) (Pu.qo (p_lss rfl rfl)) (by decide) (Rg.nl (nT ?_))
  refine Tr.cond (b := decide (Q8.2 < (v0.length : Int))) rfl (fun h16 => ?_) (fun h16 => ?_)
  ·have H1 := cdT h16 H1
   refine tSkip ?_
   refine nT (Tr.seq ?_)
   refine Tr.block ?_
   refine Tr.region ?_
   refine Rg.q (v := .slice a1 Q8.1.length c2) (Pu.qo (p_move rfl)) (by decide) ?_
   refine Rg.q (v := .int .i64 (Q8.2)) (Pu.qo (p_move rfl)) (by decide) ?_
   refine Rg.q (v := .slice x_v0.1 v0.length x_v0.2) (Pu.qo (p_move rfl)) (by decide) ?_
   refine Rg.q (v := .int .i64 (Q8.2)) (Pu.qo (p_move rfl)) (by decide) ?_
   obtain ⟨h17, H1⟩ := gd.of H1
   refine Rg.q (v := elp x_v0.1 (Q8.2.toNat * Enc.sz Tag + 0)) (q_ixg (l := v0) (E := fun i => Flat.enc (nth v0 i)) (oa := x_v0.1) Try.underlying70 ty64 rfl rfl h17 rfl (EntB.flat (Ent.b Ent.z))) (by decide) ?_
   refine Rg.q (v := .agg #[.string ((nth v0 Q8.2.toNat).1), .string ((nth v0 Q8.2.toNat).2)]) (q_ldeA (l := v0) (E := fun i => Flat.enc (nth v0 i)) (oa := x_v0.1) (i := Q8.2.toNat) ty64 rfl (EntB.flat (Ent.b Ent.z)) h17.lt) (by decide) ?_
   obtain ⟨r18, h19, H1⟩ := bd.of H1
   refine Rg.q (v := .agg #[.string (r18.1), .string (r18.2)]) (q_call (vs := [.agg #[.string ((nth v0 Q8.2.toNat).1), .string ((nth v0 Q8.2.toNat).2)]]) (c_laws_toTag (nth v0 Q8.2.toNat) h19) rfl EntsB.nil) (by decide) ?_
   obtain ⟨h20, H1⟩ := gd.of H1
   refine Rg.q (v := elp a1 (Q8.2.toNat * Enc.sz Tag + 0)) (q_ixO' Try.underlying38 ty30 rfl rfl h20 Has.here) (by decide) ?_
   refine Rg.en (e_setT (l := Q8.1) (α := Tag) (oa := a1) Q8.2.toNat r18 ((), ()) ty30 rfl rfl rfl h20.lt (ShpT.wfa _) (.cons Del.here .nil)) rfl ?_
   rintro _ _ _ ⟨rfl, rfl, rfl⟩
   refine Rg.nl ?_
   refine nB (nT (?_))
   refine Tr.olen Has.here fun hn => ?_; rw [hn]
   refine Tr.region ?_
   refine Rg.q (v := .int .i64 (Q8.2)) (Pu.qo (p_move rfl)) (by decide) ?_
   obtain ⟨h21, H1⟩ := gd.of H1
   refine Rg.q (v := .int .i64 (Q8.2 + 1)) (Pu.qo (p_add rfl rfl h21)) (by decide) ?_
   refine Rg.q (v := .int .i64 (Q8.2 + 1)) (Pu.qo (p_assign rfl)) (by decide) (Rg.nl ?_)
   exact nLC ⟨(m15, ((Q8.1.set Q8.2.toNat r18), Q8.2 + 1), ()), hi12 _ (Option.some.inj H1).symm⟩ (Nat.lt_succ_self _) ⟨rfl, rfl, rfl, trivial⟩ Ents.refl (.cons Del.here .nil)
  ·have H1 := cdF h16 H1
   refine tExit (xT (xT (xE (?_))))
   have hx := hb13 _ (Option.some.inj H1).symm; subst hx
   exact nMC () ⟨rfl, trivial⟩ Ents.refl (.cons Del.here .nil)
 ·intro y10
  show At _ _ [(3, .slice a1 x4.length c2)] _ [tree (.slice a1 x4.length c2) x4] _
  refine nT (?_)
  refine Tr.seq (Tr.region ?_)
  refine Rg.q (v := .slice a1 x4.length c2) (Pu.qo (p_move rfl)) (by decide) ?_
  refine Rg.q (v := .slice a1 x4.length c2) (Pu.qo (p_assign rfl)) (by decide) (Rg.nl (nT ?_))
  refine tRet ?_
  have hr := Option.some.inj H; subst hr
  exact back1 (a1, c2) rfl (ResV.tmp (v := .slice a1 x4.length c2) rfl) rfl Ents.nil (.cons Del.here .nil)
noncomputable def p_laws_toTagSS_b0 (v0 : (List (List Tag))) (Q9 : (List (List Tag)) × Int) : Option (((List (List Tag)) × Int) ⊕ ((List (List Tag)))) := cond (decide (Q9.2 < (v0.length : Int))) (gd (ix Q9.2 v0.length) <| bd (p_laws_toTagS (nth v0 Q9.2.toNat)) fun r19 => gd (ix Q9.2 Q9.1.length) <| gd (I64 (Q9.2 + 1)) <| some (.inl ((Q9.1.set Q9.2.toNat r19), Q9.2 + 1))) (some (.inr Q9.1))
noncomputable def p_laws_toTagSS (v0 : (List (List Tag))) : Option ((List (List Tag))) := gd (many (v0.length : Int)) <| bd (lp (p_laws_toTagSS_b0 v0) ((List.replicate (v0.length : Int).toNat (Zr.z0 : (List Tag))), 0)) fun x5 => some x5
theorem c_laws_toTagSS {r : (List (List Tag))} (v0 : (List (List Tag))) (x_v0 : Option Addr × Nat) (H : p_laws_toTagSS v0 = some r) : Fn' Try.prog 82 #[.slice x_v0.1 v0.length x_v0.2] [imm (.slice x_v0.1 v0.length x_v0.2) v0] [] (ι := Option Addr × Nat) (fun x => .slice x.1 r.length x.2) (fun _ => []) (fun x => [tree (.slice x.1 r.length x.2) r]) := by
 refine calls_of (args := [_]) Try.func82 rfl (by kernel_rfl) Try.ntmps82 (by simp) fun c => ?_
 unfold p_laws_toTagSS at H
 refine Tr.openD Ent.z fun X1 => ?_
 refine Tr.seq (Tr.region ?_)
 refine Rg.q (v := .slice none 0 0) (Pu.qo (p_assign rfl)) (by decide) (Rg.nl (nT ?_))
 refine Tr.seq (Tr.region ?_)
 refine Rg.q (v := .slice x_v0.1 v0.length x_v0.2) (Pu.qo (p_move rfl)) (by decide) ?_
 refine Rg.q (v := .int .i64 ((v0.length : Int))) (Pu.qo (p_len 70 Try.underlying47 rfl)) (by decide) ?_
 obtain ⟨h4, H⟩ := gd.of H
 refine Rg.ed (e_makeR (List Tag) Try.underlying23 ty38 rfl rfl rfl h4 (by decide)) rfl (by decide) ?_
 rintro _ _ _ ⟨a2, c3, rfl, rfl, rfl⟩
 refine Rg.q (v := .slice a2 ((List.replicate (v0.length : Int).toNat (Zr.z0 : (List Tag))).length) c3) (Pu.qo (p_assign rfl)) (by decide) (Rg.nl (nT ?_))
 refine Tr.seq (Tr.seq (Tr.region ?_))
 refine Rg.q (v := .int .i64 (0)) (Pu.qo (p_assign rfl)) (by decide) (Rg.nl (nT ?_))
 obtain ⟨x5, hx6, H⟩ := bd.of H
 obtain ⟨n7, hx6⟩ := lp.of hx6
 refine tMidNC (ι := Unit) (fun ψ => [(3, .slice a2 x5.length c3)]) (fun ψ => [tree (.slice a2 x5.length c3) x5]) ?_ ?_
 ·refine Tr.block ?_
  refine tLoopC (ι := { q : Nat × ((List (List Tag)) × Int) × Unit // itr (p_laws_toTagSS_b0 v0) q.1 q.2.1 = some x5 }) (fun ζ => [(0, .slice x_v0.1 v0.length x_v0.2), (3, .slice a2 ζ.1.2.1.1.length c3), (4, .int .i64 (ζ.1.2.1.2))]) (fun ζ => [tree (.slice a2 ζ.1.2.1.1.length c3) ζ.1.2.1.1]) (fun ζ => ζ.1.1) ⟨(n7, ((List.replicate (v0.length : Int).toNat (Zr.z0 : (List Tag))), 0), ()), hx6⟩ ⟨rfl, rfl, rfl, trivial⟩ (.cons Del.here .nil) ?_
  rintro ⟨⟨m8, Q9, z10⟩, hk15⟩
  obtain ⟨m16, t12, e, H1, hi13, hb14⟩ := itr.of (n := m8) (s := Q9) hk15
  subst e; unfold p_laws_toTagSS_b0 at H1
  show Tr _ _ _ _ _ [(0, .slice x_v0.1 v0.length x_v0.2), (3, .slice a2 Q9.1.length c3), (4, .int .i64 (Q9.2))] _ [tree (.slice a2 Q9.1.length c3) Q9.1]
  refine Tr.seq (Tr.seq (Tr.region ?_))
  refine Rg.q (v := .int .i64 (Q9.2)) (Pu.qo (p_move rfl)) (by decide) ?_
  refine Rg.q (v := .slice x_v0.1 v0.length x_v0.2) (Pu.qo (p_move rfl)) (by decide) ?_
  refine Rg.q (v := .int .i64 ((v0.length : Int))) (Pu.qo (p_len 70 Try.underlying47 rfl)) (by decide) ?_
  refine Rg.q (v := .bool (decide (Q9.2 < (v0.length : Int)))) (Pu.qo (p_lss rfl rfl)) (by decide) (Rg.nl (nT ?_))
  refine Tr.cond (b := decide (Q9.2 < (v0.length : Int))) rfl (fun h17 => ?_) (fun h17 => ?_)
  ·have H1 := cdT h17 H1
   refine tSkip ?_
   refine nT (Tr.seq ?_)
   refine Tr.block ?_
   refine Tr.region ?_
   refine Rg.q (v := .slice a2 Q9.1.length c3) (Pu.qo (p_move rfl)) (by decide) ?_
   refine Rg.q (v := .int .i64 (Q9.2)) (Pu.qo (p_move rfl)) (by decide) ?_
   refine Rg.q (v := .slice x_v0.1 v0.length x_v0.2) (Pu.qo (p_move rfl)) (by decide) ?_
   refine Rg.q (v := .int .i64 (Q9.2)) (Pu.qo (p_move rfl)) (by decide) ?_
   obtain ⟨h18, H1⟩ := gd.of H1
   refine Rg.q (v := elp x_v0.1 (Q9.2.toNat * Enc.sz (List Tag) + 0)) (q_ixg (l := v0) (E := fun i => Dp.denc (nth v0 i) (X1 i)) (oa := x_v0.1) Try.underlying47 ty70 rfl rfl h18 rfl (Ent.b (Ent.darr Ent.z))) (by decide) ?_
   refine Rg.q (v := .slice ((X1 Q9.2.toNat).1) ((nth v0 Q9.2.toNat).length) ((X1 Q9.2.toNat).2.1)) (q_lde (l := v0) (E := fun i => Dp.denc (nth v0 i) (X1 i)) (oa := x_v0.1) (i := Q9.2.toNat) (j := 0) ty70 rfl (Ent.b (Ent.darr Ent.z)) h18.lt rfl) (by decide) ?_
   obtain ⟨r19, h20, H1⟩ := bd.of H1
   refine Rg.ed (e_callB (vs := [.slice ((X1 Q9.2.toNat).1) ((nth v0 Q9.2.toNat).length) ((X1 Q9.2.toNat).2.1)]) (c_laws_toTagS (nth v0 Q9.2.toNat) ((X1 Q9.2.toNat).1, (X1 Q9.2.toNat).2.1) h20) (fun _ => (Solo.tree Solo.nil)) rfl (EntsB.cons (Ent.b (Ent.dimm (Ent.del Ent.z h18.lt))) EntsB.nil)) rfl (by decide) ?_
   rintro _ _ _ ⟨x21, rfl, rfl, rfl⟩
   obtain ⟨h22, H1⟩ := gd.of H1
   refine Rg.q (v := elp a2 (Q9.2.toNat * Enc.sz (List Tag) + 0)) (q_ixO' Try.underlying23 ty38 rfl rfl h22 Has.here.there) (by decide) ?_
   refine Rg.en (e_setT (l := Q9.1) (α := (List Tag)) (oa := a2) Q9.2.toNat r19 x21 ty38 rfl rfl rfl h22.lt (ShpT.wfa _) (.cons Del.here.there (.cons Del.here .nil))) rfl ?_
   rintro _ _ _ ⟨rfl, rfl, rfl⟩
   refine Rg.nl ?_
   refine nB (nT (?_))
   refine Tr.olen Has.here fun hn => ?_; rw [hn]
   refine Tr.region ?_
   refine Rg.q (v := .int .i64 (Q9.2)) (Pu.qo (p_move rfl)) (by decide) ?_
   obtain ⟨h23, H1⟩ := gd.of H1
   refine Rg.q (v := .int .i64 (Q9.2 + 1)) (Pu.qo (p_add rfl rfl h23)) (by decide) ?_
   refine Rg.q (v := .int .i64 (Q9.2 + 1)) (Pu.qo (p_assign rfl)) (by decide) (Rg.nl ?_)
   exact nLC ⟨(m16, ((Q9.1.set Q9.2.toNat r19), Q9.2 + 1), ()), hi13 _ (Option.some.inj H1).symm⟩ (Nat.lt_succ_self _) ⟨rfl, rfl, rfl, trivial⟩ Ents.refl (.cons Del.here .nil)
  ·have H1 := cdF h17 H1
   refine tExit (xT (xT (xE (?_))))
   have hx := hb14 _ (Option.some.inj H1).symm; subst hx
   exact nMC () ⟨rfl, trivial⟩ Ents.refl (.cons Del.here .nil)
 ·intro y11
  show At _ _ [(3, .slice a2 x5.length c3)] _ [tree (.slice a2 x5.length c3) x5] _
  refine nT (?_)
  refine Tr.seq (Tr.region ?_)
  refine Rg.q (v := .slice a2 x5.length c3) (Pu.qo (p_move rfl)) (by decide) ?_
  refine Rg.q (v := .slice a2 x5.length c3) (Pu.qo (p_assign rfl)) (by decide) (Rg.nl (nT ?_))
  refine tRet ?_
  have hr := Option.some.inj H; subst hr
  exact back1 (a2, c3) rfl (ResV.tmp (v := .slice a2 x5.length c3) rfl) rfl Ents.nil (.cons Del.here .nil)
noncomputable def p_laws_toIntS_b0 (v0 : (List Int)) (Q8 : (List Int) × Int) : Option (((List Int) × Int) ⊕ ((List Int))) := cond (decide (Q8.2 < (v0.length : Int))) (gd (ix Q8.2 v0.length) <| gd (ix Q8.2 Q8.1.length) <| gd (I64 (Q8.2 + 1)) <| some (.inl ((Q8.1.set Q8.2.toNat (nth v0 Q8.2.toNat)), Q8.2 + 1))) (some (.inr Q8.1))
noncomputable def p_laws_toIntS (v0 : (List Int)) : Option ((List Int)) := gd (many (v0.length : Int)) <| bd (lp (p_laws_toIntS_b0 v0) ((List.replicate (v0.length : Int).toNat (Zr.z0 : Int)), 0)) fun x4 => some x4
theorem c_laws_toIntS {r : (List Int)} (v0 : (List Int)) (x_v0 : Option Addr × Nat) (H : p_laws_toIntS v0 = some r) : Fn' Try.prog 145 #[.slice x_v0.1 v0.length x_v0.2] [imm (.slice x_v0.1 v0.length x_v0.2) v0] [] (ι := Option Addr × Nat) (fun x => .slice x.1 r.length x.2) (fun _ => []) (fun x => [tree (.slice x.1 r.length x.2) r]) := by
 refine calls_of (args := [_]) Try.func145 rfl (by kernel_rfl) Try.ntmps145 (by simp) fun c => ?_
 unfold p_laws_toIntS at H
 refine Tr.seq (Tr.region ?_)
 refine Rg.q (v := .slice none 0 0) (Pu.qo (p_assign rfl)) (by decide) (Rg.nl (nT ?_))
 refine Tr.seq (Tr.region ?_)
 refine Rg.q (v := .slice x_v0.1 v0.length x_v0.2) (Pu.qo (p_move rfl)) (by decide) ?_
 refine Rg.q (v := .int .i64 ((v0.length : Int))) (Pu.qo (p_len 3 Try.underlying31 rfl)) (by decide) ?_
 obtain ⟨h3, H⟩ := gd.of H
 refine Rg.ed (e_makeR Int Try.underlying31 ty3 rfl rfl rfl h3 (by decide)) rfl (by decide) ?_
 rintro _ _ _ ⟨a1, c2, rfl, rfl, rfl⟩
 refine Rg.q (v := .slice a1 ((List.replicate (v0.length : Int).toNat (Zr.z0 : Int)).length) c2) (Pu.qo (p_assign rfl)) (by decide) (Rg.nl (nT ?_))
 refine Tr.seq (Tr.seq (Tr.region ?_))
 refine Rg.q (v := .int .i64 (0)) (Pu.qo (p_assign rfl)) (by decide) (Rg.nl (nT ?_))
 obtain ⟨x4, hx5, H⟩ := bd.of H
 obtain ⟨n6, hx5⟩ := lp.of hx5
 refine tMidNC (ι := Unit) (fun ψ => [(3, .slice a1 x4.length c2)]) (fun ψ => [tree (.slice a1 x4.length c2) x4]) ?_ ?_
 ·refine Tr.block ?_
  refine tLoopC (ι := { q : Nat × ((List Int) × Int) × Unit // itr (p_laws_toIntS_b0 v0) q.1 q.2.1 = some x4 }) (fun ζ => [(0, .slice x_v0.1 v0.length x_v0.2), (3, .slice a1 ζ.1.2.1.1.length c2), (4, .int .i64 (ζ.1.2.1.2))]) (fun ζ => [tree (.slice a1 ζ.1.2.1.1.length c2) ζ.1.2.1.1]) (fun ζ => ζ.1.1) ⟨(n6, ((List.replicate (v0.length : Int).toNat (Zr.z0 : Int)), 0), ()), hx5⟩ ⟨rfl, rfl, rfl, trivial⟩ (.cons Del.here .nil) ?_
  rintro ⟨⟨m7, Q8, z9⟩, hk14⟩
  obtain ⟨m15, t11, e, H1, hi12, hb13⟩ := itr.of (n := m7) (s := Q8) hk14
  subst e; unfold p_laws_toIntS_b0 at H1
  show Tr _ _ _ _ _ [(0, .slice x_v0.1 v0.length x_v0.2), (3, .slice a1 Q8.1.length c2), (4, .int .i64 (Q8.2))] _ [tree (.slice a1 Q8.1.length c2) Q8.1]
  refine Tr.seq (Tr.seq (Tr.region ?_))
  refine Rg.q (v := .int .i64 (Q8.2)) (Pu.qo (p_move rfl)) (by decide) ?_
  refine Rg.q (v := .slice x_v0.1 v0.length x_v0.2) (Pu.qo (p_move rfl)) (by decide) ?_
  refine Rg.q (v := .int .i64 ((v0.length : Int))) (Pu.qo (p_len 3 Try.underlying31 rfl)) (by decide) ?_
  refine Rg.q (v := .bool (decide (Q8.2 < (v0.length : Int)))) (Pu.qo (p_lss rfl rfl)) (by decide) (Rg.nl (nT ?_))
  refine Tr.cond (b := decide (Q8.2 < (v0.length : Int))) rfl (fun h16 => ?_) (fun h16 => ?_)
  ·have H1 := cdT h16 H1
   refine tSkip ?_
   refine nT (Tr.seq ?_)
   refine Tr.block ?_
   refine Tr.region ?_
   refine Rg.q (v := .slice a1 Q8.1.length c2) (Pu.qo (p_move rfl)) (by decide) ?_
   refine Rg.q (v := .int .i64 (Q8.2)) (Pu.qo (p_move rfl)) (by decide) ?_
   refine Rg.q (v := .slice x_v0.1 v0.length x_v0.2) (Pu.qo (p_move rfl)) (by decide) ?_
   refine Rg.q (v := .int .i64 (Q8.2)) (Pu.qo (p_move rfl)) (by decide) ?_
   obtain ⟨h17, H1⟩ := gd.of H1
   refine Rg.q (v := elp x_v0.1 (Q8.2.toNat * Enc.sz Int + 0)) (q_ixg (l := v0) (E := fun i => Flat.enc (nth v0 i)) (oa := x_v0.1) Try.underlying31 ty3 rfl rfl h17 rfl (EntB.flat (Ent.b Ent.z))) (by decide) ?_
   refine Rg.q (v := .int .i64 (nth v0 Q8.2.toNat)) (q_lde (l := v0) (E := fun i => Flat.enc (nth v0 i)) (oa := x_v0.1) (i := Q8.2.toNat) (j := 0) ty3 rfl (EntB.flat (Ent.b Ent.z)) h17.lt rfl) (by decide) ?_
   obtain ⟨h18, H1⟩ := gd.of H1
   refine Rg.q (v := elp a1 (Q8.2.toNat * Enc.sz Int + 0)) (q_ixO' Try.underlying31 ty3 rfl rfl h18 Has.here) (by decide) ?_
   refine Rg.en (e_setT (l := Q8.1) (α := Int) (oa := a1) Q8.2.toNat (nth v0 Q8.2.toNat) () ty3 rfl rfl rfl h18.lt (ShpT.wfa _) (.cons Del.here .nil)) rfl ?_
   rintro _ _ _ ⟨rfl, rfl, rfl⟩
   refine Rg.nl ?_
   refine nB (nT (?_))
   refine Tr.olen Has.here fun hn => ?_; rw [hn]
   refine Tr.region ?_
   refine Rg.q (v := .int .i64 (Q8.2)) (Pu.qo (p_move rfl)) (by decide) ?_
   obtain ⟨h19, H1⟩ := gd.of H1
   refine Rg.q (v := .int .i64 (Q8.2 + 1)) (Pu.qo (p_add rfl rfl h19)) (by decide) ?_
   refine Rg.q (v := .int .i64 (Q8.2 + 1)) (Pu.qo (p_assign rfl)) (by decide) (Rg.nl ?_)
   exact nLC ⟨(m15, ((Q8.1.set Q8.2.toNat (nth v0 Q8.2.toNat)), Q8.2 + 1), ()), hi12 _ (Option.some.inj H1).symm⟩ (Nat.lt_succ_self _) ⟨rfl, rfl, rfl, trivial⟩ Ents.refl (.cons Del.here .nil)
  ·have H1 := cdF h16 H1
   refine tExit (xT (xT (xE (?_))))
   have hx := hb13 _ (Option.some.inj H1).symm; subst hx
   exact nMC () ⟨rfl, trivial⟩ Ents.refl (.cons Del.here .nil)
 ·intro y10
  show At _ _ [(3, .slice a1 x4.length c2)] _ [tree (.slice a1 x4.length c2) x4] _
  refine nT (?_)
  refine Tr.seq (Tr.region ?_)
  refine Rg.q (v := .slice a1 x4.length c2) (Pu.qo (p_move rfl)) (by decide) ?_
  refine Rg.q (v := .slice a1 x4.length c2) (Pu.qo (p_assign rfl)) (by decide) (Rg.nl (nT ?_))
  refine tRet ?_
  have hr := Option.some.inj H; subst hr
  exact back1 (a1, c2) rfl (ResV.tmp (v := .slice a1 x4.length c2) rfl) rfl Ents.nil (.cons Del.here .nil)
noncomputable def p_laws_toPost (v0 : Post) : Option (Post) := bd (p_laws_toTag v0.1) fun r4 => bd (p_laws_toIntS v0.2) fun r6 => some (r4, r6)
theorem c_laws_toPost {r : Post} (v0 : Post) (x_v0 : (Unit × Unit) × (Option Addr × Nat)) (H : p_laws_toPost v0 = some r) : Fn' Try.prog 126 #[.agg #[.string (v0.1.1), .string (v0.1.2), .slice x_v0.2.1 v0.2.length x_v0.2.2]] [imm (.slice x_v0.2.1 v0.2.length x_v0.2.2) v0.2] [] (ι := (Unit × Unit) × (Option Addr × Nat)) (fun x => .agg #[.string (r.1.1), .string (r.1.2), .slice x.2.1 r.2.length x.2.2]) (fun _ => []) (fun x => [tree (.slice x.2.1 r.2.length x.2.2) r.2]) := by
 refine calls_of (args := [_]) Try.func126 rfl (by kernel_rfl) Try.ntmps126 (by simp) fun c => ?_
 unfold p_laws_toPost at H
 refine Tr.seq (Tr.region ?_)
 refine Rg.ed (e_box (t := 147) (v := .agg #[.string (v0.1.1), .string (v0.1.2), .slice x_v0.2.1 v0.2.length x_v0.2.2]) rfl) rfl (by decide) ?_
 rintro _ _ _ ⟨g1, rfl, rfl, rfl⟩
 refine Rg.ed (e_alloc ty33) rfl (by decide) ?_
 rintro _ _ _ ⟨g2, rfl, rfl, rfl⟩
 refine Rg.nl (nT ?_)
 refine Tr.seq (Tr.region ?_)
 refine Rg.ed (e_alloc ty33) rfl (by decide) ?_
 rintro _ _ _ ⟨g3, rfl, rfl, rfl⟩
 refine Rg.nl (nT ?_)
 refine Tr.seq (Tr.region ?_)
 refine Rg.q (v := .pointer (some ⟨g1, 0, none⟩)) (Pu.qo (p_fabE fa147_0 rfl rfl)) (by decide) ?_
 refine Rg.q (v := .agg #[.string (v0.1.1), .string (v0.1.2)]) (q_ldbP [.string (v0.1.1), .string (v0.1.2)] ty64 rfl Has.here.there.there rfl rfl) (by decide) ?_
 obtain ⟨r4, h5, H⟩ := bd.of H
 refine Rg.q (v := .agg #[.string (r4.1), .string (r4.2)]) (q_call (vs := [.agg #[.string (v0.1.1), .string (v0.1.2)]]) (c_laws_toTag v0.1 h5) rfl EntsB.nil) (by decide) ?_
 refine Rg.q (v := .pointer (some ⟨g3, 0, none⟩)) (Pu.qo (p_fabE fa33_0 rfl rfl)) (by decide) ?_
 refine Rg.en (e_store (v := .agg #[.string (r4.1), .string (r4.2)]) (cs' := [.string (r4.1), .string (r4.2), .slice none 0 0]) ty30 rfl rfl Upd.here rfl (by simp [Value.cells, Value.oneCell']) (Nat.le_of_ble_eq_true rfl) rfl) rfl ?_
 rintro _ _ _ ⟨rfl, rfl, rfl⟩
 refine Rg.nl (nT ?_)
 refine Tr.seq (Tr.region ?_)
 refine Rg.q (v := .pointer (some ⟨g1, 2, none⟩)) (Pu.qo (p_fabE fa147_1 rfl rfl)) (by decide) ?_
 refine Rg.q (v := .slice x_v0.2.1 v0.2.length x_v0.2.2) (q_ldb ty31 rfl Has.here.there.there rfl) (by decide) ?_
 obtain ⟨r6, h7, H⟩ := bd.of H
 refine Rg.ed (e_callB (vs := [.slice x_v0.2.1 v0.2.length x_v0.2.2]) (c_laws_toIntS v0.2 x_v0.2 h7) (fun _ => (Solo.tree Solo.nil)) rfl (EntsB.cons (Ent.b Ent.z) EntsB.nil)) rfl (by decide) ?_
 rintro _ _ _ ⟨x8, rfl, rfl, rfl⟩
 refine Rg.q (v := .pointer (some ⟨g3, 2, none⟩)) (Pu.qo (p_fabE fa33_1 rfl rfl)) (by decide) ?_
 refine Rg.en (e_store (v := .slice x8.1 r6.length x8.2) (cs' := [.string (r4.1), .string (r4.2), .slice x8.1 r6.length x8.2]) ty31 rfl rfl Upd.here.there rfl (by simp [Value.cells, Value.oneCell']) (Nat.le_of_ble_eq_true rfl) rfl) rfl ?_
 rintro _ _ _ ⟨rfl, rfl, rfl⟩
 refine Rg.nl (nT ?_)
 refine Tr.seq (Tr.region ?_)
 refine Rg.q (v := .agg #[.string (r4.1), .string (r4.2), .slice x8.1 r6.length x8.2]) (q_ldbA ty33 rfl Has.here.there rfl) (by decide) ?_
 refine Rg.en (e_store (v := .agg #[.string (r4.1), .string (r4.2), .slice x8.1 r6.length x8.2]) (cs' := [.string (r4.1), .string (r4.2), .slice x8.1 r6.length x8.2]) ty33 rfl rfl Upd.here.there.there rfl (by simp [Value.cells, Value.oneCell']) (Nat.le_of_ble_eq_true rfl) rfl) rfl ?_
 rintro _ _ _ ⟨rfl, rfl, rfl⟩
 refine Rg.nl (nT ?_)
 refine tRet ?_
 have hr := Option.some.inj H; subst hr
 exact back1 (((), ()), x8) rfl (ResV.agg ty33 rfl Has.here.there.there rfl) rfl Ents.nil (.cons Del.here .nil)
noncomputable def p_laws_toPostS_b0 (v0 : (List Post)) (Q9 : (List Post) × Int) : Option (((List Post) × Int) ⊕ ((List Post))) := cond (decide (Q9.2 < (v0.length : Int))) (gd (ix Q9.2 v0.length) <| bd (p_laws_toPost (nth v0 Q9.2.toNat)) fun r19 => gd (ix Q9.2 Q9.1.length) <| gd (I64 (Q9.2 + 1)) <| some (.inl ((Q9.1.set Q9.2.toNat r19), Q9.2 + 1))) (some (.inr Q9.1))
noncomputable def p_laws_toPostS (v0 : (List Post)) : Option ((List Post)) := gd (many (v0.length : Int)) <| bd (lp (p_laws_toPostS_b0 v0) ((List.replicate (v0.length : Int).toNat (Zr.z0 : Post)), 0)) fun x5 => some x5
theorem c_laws_toPostS {r : (List Post)} (v0 : (List Post)) (x_v0 : Option Addr × Nat) (H : p_laws_toPostS v0 = some r) : Fn' Try.prog 83 #[.slice x_v0.1 v0.length x_v0.2] [imm (.slice x_v0.1 v0.length x_v0.2) v0] [] (ι := Option Addr × Nat) (fun x => .slice x.1 r.length x.2) (fun _ => []) (fun x => [tree (.slice x.1 r.length x.2) r]) := by
 refine calls_of (args := [_]) Try.func83 rfl (by kernel_rfl) Try.ntmps83 (by simp) fun c => ?_
 unfold p_laws_toPostS at H
 refine Tr.openD Ent.z fun X1 => ?_
 refine Tr.seq (Tr.region ?_)
 refine Rg.q (v := .slice none 0 0) (Pu.qo (p_assign rfl)) (by decide) (Rg.nl (nT ?_))
 refine Tr.seq (Tr.region ?_)
 refine Rg.q (v := .slice x_v0.1 v0.length x_v0.2) (Pu.qo (p_move rfl)) (by decide) ?_
 refine Rg.q (v := .int .i64 ((v0.length : Int))) (Pu.qo (p_len 147 Try.underlying48 rfl)) (by decide) ?_
 obtain ⟨h4, H⟩ := gd.of H
 refine Rg.ed (e_makeR Post Try.underlying24 ty33 rfl rfl rfl h4 (by decide)) rfl (by decide) ?_
 rintro _ _ _ ⟨a2, c3, rfl, rfl, rfl⟩
 refine Rg.q (v := .slice a2 ((List.replicate (v0.length : Int).toNat (Zr.z0 : Post)).length) c3) (Pu.qo (p_assign rfl)) (by decide) (Rg.nl (nT ?_))
 refine Tr.seq (Tr.seq (Tr.region ?_))
 refine Rg.q (v := .int .i64 (0)) (Pu.qo (p_assign rfl)) (by decide) (Rg.nl (nT ?_))
 obtain ⟨x5, hx6, H⟩ := bd.of H
 obtain ⟨n7, hx6⟩ := lp.of hx6
 refine tMidNC (ι := Unit) (fun ψ => [(3, .slice a2 x5.length c3)]) (fun ψ => [tree (.slice a2 x5.length c3) x5]) ?_ ?_
 ·refine Tr.block ?_
  refine tLoopC (ι := { q : Nat × ((List Post) × Int) × Unit // itr (p_laws_toPostS_b0 v0) q.1 q.2.1 = some x5 }) (fun ζ => [(0, .slice x_v0.1 v0.length x_v0.2), (3, .slice a2 ζ.1.2.1.1.length c3), (4, .int .i64 (ζ.1.2.1.2))]) (fun ζ => [tree (.slice a2 ζ.1.2.1.1.length c3) ζ.1.2.1.1]) (fun ζ => ζ.1.1) ⟨(n7, ((List.replicate (v0.length : Int).toNat (Zr.z0 : Post)), 0), ()), hx6⟩ ⟨rfl, rfl, rfl, trivial⟩ (.cons Del.here .nil) ?_
  rintro ⟨⟨m8, Q9, z10⟩, hk15⟩
  obtain ⟨m16, t12, e, H1, hi13, hb14⟩ := itr.of (n := m8) (s := Q9) hk15
  subst e; unfold p_laws_toPostS_b0 at H1
  show Tr _ _ _ _ _ [(0, .slice x_v0.1 v0.length x_v0.2), (3, .slice a2 Q9.1.length c3), (4, .int .i64 (Q9.2))] _ [tree (.slice a2 Q9.1.length c3) Q9.1]
  refine Tr.seq (Tr.seq (Tr.region ?_))
  refine Rg.q (v := .int .i64 (Q9.2)) (Pu.qo (p_move rfl)) (by decide) ?_
  refine Rg.q (v := .slice x_v0.1 v0.length x_v0.2) (Pu.qo (p_move rfl)) (by decide) ?_
  refine Rg.q (v := .int .i64 ((v0.length : Int))) (Pu.qo (p_len 147 Try.underlying48 rfl)) (by decide) ?_
  refine Rg.q (v := .bool (decide (Q9.2 < (v0.length : Int)))) (Pu.qo (p_lss rfl rfl)) (by decide) (Rg.nl (nT ?_))
  refine Tr.cond (b := decide (Q9.2 < (v0.length : Int))) rfl (fun h17 => ?_) (fun h17 => ?_)
  ·have H1 := cdT h17 H1
   refine tSkip ?_
   refine nT (Tr.seq ?_)
   refine Tr.block ?_
   refine Tr.region ?_
   refine Rg.q (v := .slice a2 Q9.1.length c3) (Pu.qo (p_move rfl)) (by decide) ?_
   refine Rg.q (v := .int .i64 (Q9.2)) (Pu.qo (p_move rfl)) (by decide) ?_
   refine Rg.q (v := .slice x_v0.1 v0.length x_v0.2) (Pu.qo (p_move rfl)) (by decide) ?_
   refine Rg.q (v := .int .i64 (Q9.2)) (Pu.qo (p_move rfl)) (by decide) ?_
   obtain ⟨h18, H1⟩ := gd.of H1
   refine Rg.q (v := elp x_v0.1 (Q9.2.toNat * Enc.sz Post + 0)) (q_ixg (l := v0) (E := fun i => Dp.denc (nth v0 i) (X1 i)) (oa := x_v0.1) Try.underlying48 ty147 rfl rfl h18 rfl (Ent.b (Ent.darr Ent.z))) (by decide) ?_
   refine Rg.q (v := .agg #[.string (((nth v0 Q9.2.toNat).1).1), .string (((nth v0 Q9.2.toNat).1).2), .slice (((X1 Q9.2.toNat).2).1) (((nth v0 Q9.2.toNat).2).length) (((X1 Q9.2.toNat).2).2.1)]) (q_ldeA (l := v0) (E := fun i => Dp.denc (nth v0 i) (X1 i)) (oa := x_v0.1) (i := Q9.2.toNat) ty147 rfl (Ent.b (Ent.darr Ent.z)) h18.lt) (by decide) ?_
   obtain ⟨r19, h20, H1⟩ := bd.of H1
   refine Rg.ed (e_callB (vs := [.agg #[.string (((nth v0 Q9.2.toNat).1).1), .string (((nth v0 Q9.2.toNat).1).2), .slice (((X1 Q9.2.toNat).2).1) (((nth v0 Q9.2.toNat).2).length) (((X1 Q9.2.toNat).2).2.1)]]) (c_laws_toPost (nth v0 Q9.2.toNat) (((), ()), (((X1 Q9.2.toNat).2).1, ((X1 Q9.2.toNat).2).2.1)) h20) (fun _ => (Solo.tree Solo.nil)) rfl (EntsB.cons (Ent.b (Ent.dimm (Ent.dsnd (Ent.del Ent.z h18.lt)))) EntsB.nil)) rfl (by decide) ?_
   rintro _ _ _ ⟨x21, rfl, rfl, rfl⟩
   obtain ⟨h22, H1⟩ := gd.of H1
   refine Rg.q (v := elp a2 (Q9.2.toNat * Enc.sz Post + 0)) (q_ixO' Try.underlying24 ty33 rfl rfl h22 Has.here.there) (by decide) ?_
   refine Rg.en (e_setT (l := Q9.1) (α := Post) (oa := a2) Q9.2.toNat r19 (((), ()), x21.2) ty33 rfl rfl rfl h22.lt (ShpT.wfa _) (.cons Del.here.there (.cons Del.here .nil))) rfl ?_
   rintro _ _ _ ⟨rfl, rfl, rfl⟩
   refine Rg.nl ?_
   refine nB (nT (?_))
   refine Tr.olen Has.here fun hn => ?_; rw [hn]
   refine Tr.region ?_
   refine Rg.q (v := .int .i64 (Q9.2)) (Pu.qo (p_move rfl)) (by decide) ?_
   obtain ⟨h23, H1⟩ := gd.of H1
   refine Rg.q (v := .int .i64 (Q9.2 + 1)) (Pu.qo (p_add rfl rfl h23)) (by decide) ?_
   refine Rg.q (v := .int .i64 (Q9.2 + 1)) (Pu.qo (p_assign rfl)) (by decide) (Rg.nl ?_)
   exact nLC ⟨(m16, ((Q9.1.set Q9.2.toNat r19), Q9.2 + 1), ()), hi13 _ (Option.some.inj H1).symm⟩ (Nat.lt_succ_self _) ⟨rfl, rfl, rfl, trivial⟩ Ents.refl (.cons Del.here .nil)
  ·have H1 := cdF h17 H1
   refine tExit (xT (xT (xE (?_))))
   have hx := hb14 _ (Option.some.inj H1).symm; subst hx
   exact nMC () ⟨rfl, trivial⟩ Ents.refl (.cons Del.here .nil)
 ·intro y11
  show At _ _ [(3, .slice a2 x5.length c3)] _ [tree (.slice a2 x5.length c3) x5] _
  refine nT (?_)
  refine Tr.seq (Tr.region ?_)
  refine Rg.q (v := .slice a2 x5.length c3) (Pu.qo (p_move rfl)) (by decide) ?_
  refine Rg.q (v := .slice a2 x5.length c3) (Pu.qo (p_assign rfl)) (by decide) (Rg.nl (nT ?_))
  refine tRet ?_
  have hr := Option.some.inj H; subst hr
  exact back1 (a2, c3) rfl (ResV.tmp (v := .slice a2 x5.length c3) rfl) rfl Ents.nil (.cons Del.here .nil)
noncomputable def p_laws_toIndex (v0 : Index) : Option (Index) := bd (p_laws_toTagSS v0.1) fun r6 => bd (p_laws_toPostS v0.2) fun r9 => some (r6, r9)
theorem c_laws_toIndex {r : Index} (v0 : Index) (x_v0 : (Option Addr × Nat) × (Option Addr × Nat)) (H : p_laws_toIndex v0 = some r) : Fn' Try.prog 31 #[.agg #[.slice x_v0.1.1 v0.1.length x_v0.1.2, .slice x_v0.2.1 v0.2.length x_v0.2.2]] [imm (.slice x_v0.1.1 v0.1.length x_v0.1.2) v0.1, imm (.slice x_v0.2.1 v0.2.length x_v0.2.2) v0.2] [] (ι := (Option Addr × Nat) × (Option Addr × Nat)) (fun x => .agg #[.slice x.1.1 r.1.length x.1.2, .slice x.2.1 r.2.length x.2.2]) (fun _ => []) (fun x => [tree (.slice x.1.1 r.1.length x.1.2) r.1, tree (.slice x.2.1 r.2.length x.2.2) r.2]) := by
 refine calls_of (args := [_]) Try.func31 rfl (by kernel_rfl) Try.ntmps31 (by simp) fun c => ?_
 unfold p_laws_toIndex at H
 refine Tr.openD Ent.z fun X1 => ?_
 refine Tr.openD Ent.z.s.s fun X2 => ?_
 refine Tr.seq (Tr.region ?_)
 refine Rg.ed (e_box (t := 50) (v := .agg #[.slice x_v0.1.1 v0.1.length x_v0.1.2, .slice x_v0.2.1 v0.2.length x_v0.2.2]) rfl) rfl (by decide) ?_
 rintro _ _ _ ⟨g3, rfl, rfl, rfl⟩
 refine Rg.ed (e_alloc ty26) rfl (by decide) ?_
 rintro _ _ _ ⟨g4, rfl, rfl, rfl⟩
 refine Rg.nl (nT ?_)
 refine Tr.seq (Tr.region ?_)
 refine Rg.ed (e_alloc ty26) rfl (by decide) ?_
 rintro _ _ _ ⟨g5, rfl, rfl, rfl⟩
 refine Rg.nl (nT ?_)
 refine Tr.seq (Tr.region ?_)
 refine Rg.q (v := .pointer (some ⟨g3, 0, none⟩)) (Pu.qo (p_fabE fa50_0 rfl rfl)) (by decide) ?_
 refine Rg.q (v := .slice x_v0.1.1 v0.1.length x_v0.1.2) (q_ldb ty47 rfl Has.here.there.there rfl) (by decide) ?_
 obtain ⟨r6, h7, H⟩ := bd.of H
 refine Rg.ed (e_callB (vs := [.slice x_v0.1.1 v0.1.length x_v0.1.2]) (c_laws_toTagSS v0.1 x_v0.1 h7) (fun _ => (Solo.tree Solo.nil)) rfl (EntsB.cons (Ent.b (Ent.dimm Ent.z.s)) EntsB.nil)) rfl (by decide) ?_
 rintro _ _ _ ⟨x8, rfl, rfl, rfl⟩
 refine Rg.q (v := .pointer (some ⟨g5, 0, none⟩)) (Pu.qo (p_fabE fa26_0 rfl rfl)) (by decide) ?_
 refine Rg.en (e_store (v := .slice x8.1 r6.length x8.2) (cs' := [.slice x8.1 r6.length x8.2, .slice none 0 0]) ty23 rfl rfl Upd.here.there rfl (by simp [Value.cells, Value.oneCell']) (Nat.le_of_ble_eq_true rfl) rfl) rfl ?_
 rintro _ _ _ ⟨rfl, rfl, rfl⟩
 refine Rg.nl (nT ?_)
 refine Tr.seq (Tr.region ?_)
 refine Rg.q (v := .pointer (some ⟨g3, 1, none⟩)) (Pu.qo (p_fabE fa50_1 rfl rfl)) (by decide) ?_
 refine Rg.q (v := .slice x_v0.2.1 v0.2.length x_v0.2.2) (q_ldb ty48 rfl Has.here.there.there.there rfl) (by decide) ?_
 obtain ⟨r9, h10, H⟩ := bd.of H
 refine Rg.ed (e_callB (vs := [.slice x_v0.2.1 v0.2.length x_v0.2.2]) (c_laws_toPostS v0.2 x_v0.2 h10) (fun _ => (Solo.tree Solo.nil)) rfl (EntsB.cons (Ent.b (Ent.dimm Ent.z)) EntsB.nil)) rfl (by decide) ?_
 rintro _ _ _ ⟨x11, rfl, rfl, rfl⟩
 refine Rg.q (v := .pointer (some ⟨g5, 1, none⟩)) (Pu.qo (p_fabE fa26_1 rfl rfl)) (by decide) ?_
 refine Rg.en (e_store (v := .slice x11.1 r9.length x11.2) (cs' := [.slice x8.1 r6.length x8.2, .slice x11.1 r9.length x11.2]) ty24 rfl rfl Upd.here.there.there rfl (by simp [Value.cells, Value.oneCell']) (Nat.le_of_ble_eq_true rfl) rfl) rfl ?_
 rintro _ _ _ ⟨rfl, rfl, rfl⟩
 refine Rg.nl (nT ?_)
 refine Tr.seq (Tr.region ?_)
 refine Rg.q (v := .agg #[.slice x8.1 r6.length x8.2, .slice x11.1 r9.length x11.2]) (q_ldbA ty26 rfl Has.here.there.there rfl) (by decide) ?_
 refine Rg.en (e_store (v := .agg #[.slice x8.1 r6.length x8.2, .slice x11.1 r9.length x11.2]) (cs' := [.slice x8.1 r6.length x8.2, .slice x11.1 r9.length x11.2]) ty26 rfl rfl Upd.here.there.there.there rfl (by simp [Value.cells, Value.oneCell']) (Nat.le_of_ble_eq_true rfl) rfl) rfl ?_
 rintro _ _ _ ⟨rfl, rfl, rfl⟩
 refine Rg.nl (nT ?_)
 refine tRet ?_
 have hr := Option.some.inj H; subst hr
 exact back1 (x8, x11) rfl (ResV.agg ty26 rfl Has.here.there.there.there rfl) rfl Ents.nil (.cons Del.here.there (.cons Del.here .nil))
noncomputable def p_spec_l11Less (v0 : Tag) (v1 : Tag) : Option (Bool) := bd (cond (sless v0.1 v1.1) (some (true)) (cond (decide (v0.1 = v1.1)) (some (sless v0.2 v1.2)) (some (false)))) fun b3 => some b3
theorem c_spec_l11Less {r : Bool} (v0 : Tag) (v1 : Tag) (H : p_spec_l11Less v0 v1 = some r) : Fn' Try.prog 71 #[.agg #[.string (v0.1), .string (v0.2)], .agg #[.string (v1.1), .string (v1.2)]] [] [] (ι := Unit) (fun _ => .bool (r)) (fun _ => []) (fun _ => []) := by
 refine calls_of (args := [_, _]) Try.func71 rfl (by kernel_rfl) Try.ntmps71 (by simp) fun c => ?_
 unfold p_spec_l11Less at H
 refine Tr.seq (Tr.region ?_)
 refine Rg.ed (e_box (t := 30) (v := .agg #[.string (v0.1), .string (v0.2)]) rfl) rfl (by decide) ?_
 rintro _ _ _ ⟨g1, rfl, rfl, rfl⟩
 refine Rg.ed (e_box (t := 30) (v := .agg #[.string (v1.1), .string (v1.2)]) rfl) rfl (by decide) ?_
 rintro _ _ _ ⟨g2, rfl, rfl, rfl⟩
 refine Rg.q (v := .bool (false)) (Pu.qo (p_assign rfl)) (by decide) (Rg.nl (nT ?_))
 obtain ⟨b3, j4, H⟩ := bd.of H
 refine tMid1 [(4, .bool (b3))] ?_ ?_
 ·refine tLinT [(3, .pointer (some ⟨g2, 0, none⟩)), (2, .pointer (some ⟨g1, 0, none⟩))] ⟨rfl, rfl, trivial⟩ ?_
  refine Lin.q (v := .pointer (some ⟨g1, 0, none⟩)) (by decide) (Pu.qo (p_fabE fa30_0 rfl rfl)) ?_
  refine Lin.q (v := .string (v0.1)) (by decide) (q_ldb ty9 rfl Has.here.there rfl) ?_
  refine Lin.q (v := .pointer (some ⟨g2, 0, none⟩)) (by decide) (Pu.qo (p_fabE fa30_0 rfl rfl)) ?_
  refine Lin.q (v := .string (v1.1)) (by decide) (q_ldb ty9 rfl Has.here rfl) ?_
  refine Lin.q (v := .bool (sless v0.1 v1.1)) (by decide) (Pu.qo (p_slss rfl rfl)) ?_
  rcases Bool.eq_false_or_eq_true (sless v0.1 v1.1) with h5 | h5
  ·have j4 := cdT h5 j4
   refine Lin.q (v := .bool (true)) (by decide) (Qo.eqv (v := .bool (sless v0.1 v1.1)) (Pu.qo (p_move rfl)) (congrArg Value.bool h5)) ?_
   refine Lin.skip (by decide) rfl ?_
   refine Lin.skip (by decide) rfl ?_
   refine Lin.skip (by decide) rfl ?_
   refine Lin.skip (by decide) rfl ?_
   refine Lin.skip (by decide) rfl ?_
   refine Lin.skip (by decide) rfl ?_
   refine Lin.skip (by decide) rfl ?_
   refine Lin.skip (by decide) rfl ?_
   refine Lin.skip (by decide) rfl ?_
   refine Lin.skip (by decide) rfl ?_
   refine Lin.skip (by decide) rfl ?_
   refine Lin.skip (by decide) rfl ?_
   refine Lin.q (v := .bool (true)) (by decide) (Pu.qo (p_pickT rfl rfl)) ?_
   refine Lin.q (v := .bool (true)) (by decide) (Pu.qo (p_assign rfl)) ?_
   have j4 := Option.some.inj j4; subst j4
   show At _ _ _ _ _ _
   exact n1 ⟨rfl, trivial⟩
  ·have j4 := cdF h5 j4
   refine Lin.q (v := .bool (false)) (by decide) (Qo.eqv (v := .bool (sless v0.1 v1.1)) (Pu.qo (p_move rfl)) (congrArg Value.bool h5)) ?_
   refine Lin.g (v := .pointer (some ⟨g1, 0, none⟩)) (by decide) rfl (Pu.qo (p_fabE fa30_0 rfl rfl)) ?_
   refine Lin.g (v := .string (v0.1)) (by decide) rfl (q_ldb ty9 rfl Has.here.there rfl) ?_
   refine Lin.g (v := .pointer (some ⟨g2, 0, none⟩)) (by decide) rfl (Pu.qo (p_fabE fa30_0 rfl rfl)) ?_
   refine Lin.g (v := .string (v1.1)) (by decide) rfl (q_ldb ty9 rfl Has.here rfl) ?_
   refine Lin.g (v := .bool (decide (v0.1 = v1.1))) (by decide) rfl (Pu.qo (p_seql rfl rfl)) ?_
   rcases Bool.eq_false_or_eq_true (decide (v0.1 = v1.1)) with h6 | h6
   ·have j4 := cdT h6 j4
    refine Lin.g (v := .bool (true)) (by decide) rfl (Qo.eqv (v := .bool (decide (v0.1 = v1.1))) (Pu.qo (p_move rfl)) (congrArg Value.bool h6)) ?_
    refine Lin.g (v := .pointer (some ⟨g1, 1, none⟩)) (by decide) rfl (Pu.qo (p_fabE fa30_1 rfl rfl)) ?_
    refine Lin.g (v := .string (v0.2)) (by decide) rfl (q_ldb ty9 rfl Has.here.there rfl) ?_
    refine Lin.g (v := .pointer (some ⟨g2, 1, none⟩)) (by decide) rfl (Pu.qo (p_fabE fa30_1 rfl rfl)) ?_
    refine Lin.g (v := .string (v1.2)) (by decide) rfl (q_ldb ty9 rfl Has.here rfl) ?_
    refine Lin.g (v := .bool (sless v0.2 v1.2)) (by decide) rfl (Pu.qo (p_slss rfl rfl)) ?_
    refine Lin.g (v := .bool (sless v0.2 v1.2)) (by decide) rfl (Pu.qo (p_pickT rfl rfl)) ?_
    refine Lin.q (v := .bool (sless v0.2 v1.2)) (by decide) (Pu.qo (p_pickF rfl rfl)) ?_
    refine Lin.q (v := .bool (sless v0.2 v1.2)) (by decide) (Pu.qo (p_assign rfl)) ?_
    have j4 := Option.some.inj j4; subst j4
    show At _ _ _ _ _ _
    exact n1 ⟨rfl, trivial⟩
   ·have j4 := cdF h6 j4
    refine Lin.g (v := .bool (false)) (by decide) rfl (Qo.eqv (v := .bool (decide (v0.1 = v1.1))) (Pu.qo (p_move rfl)) (congrArg Value.bool h6)) ?_
    refine Lin.skip (by decide) rfl ?_
    refine Lin.skip (by decide) rfl ?_
    refine Lin.skip (by decide) rfl ?_
    refine Lin.skip (by decide) rfl ?_
    refine Lin.skip (by decide) rfl ?_
    refine Lin.g (v := .bool (false)) (by decide) rfl (Pu.qo (p_pickF rfl rfl)) ?_
    refine Lin.q (v := .bool (false)) (by decide) (Pu.qo (p_pickF rfl rfl)) ?_
    refine Lin.q (v := .bool (false)) (by decide) (Pu.qo (p_assign rfl)) ?_
    have j4 := Option.some.inj j4; subst j4
    show At _ _ _ _ _ _
    exact n1 ⟨rfl, trivial⟩
 refine tRet ?_
 have hr := Option.some.inj H; subst hr
 exact back1 () rfl (ResV.tmp (v := .bool (b3)) rfl) rfl Ents.nil Take.nil
noncomputable def p_spec_l11Same_b0 (v0 : (List Int)) (v1 : (List Int)) (Q6 : Int) : Option ((Int) ⊕ (Unit ⊕ Bool)) := cond (decide (Q6 < (v0.length : Int))) (gd (ix Q6 v0.length) <| gd (ix Q6 v1.length) <| cond (!decide ((nth v0 Q6.toNat) = (nth v1 Q6.toNat))) (some (.inr (.inr false))) (gd (I64 (Q6 + 1)) <| some (.inl (Q6 + 1)))) (some (.inr (.inl ())))
noncomputable def p_spec_l11Same (v0 : (List Int)) (v1 : (List Int)) : Option (Bool) := cond (!decide ((v0.length : Int) = (v1.length : Int))) (some false) (bd (lp (p_spec_l11Same_b0 v0 v1) 0) <| sw (fun _ => some true) (fun q => some q))
theorem c_spec_l11Same {r : Bool} (v0 : (List Int)) (x_v0 : Option Addr × Nat) (v1 : (List Int)) (x_v1 : Option Addr × Nat) (H : p_spec_l11Same v0 v1 = some r) : Fn' Try.prog 69 #[.slice x_v0.1 v0.length x_v0.2, .slice x_v1.1 v1.length x_v1.2] [imm (.slice x_v0.1 v0.length x_v0.2) v0, imm (.slice x_v1.1 v1.length x_v1.2) v1] [] (ι := Unit) (fun _ => .bool (r)) (fun _ => []) (fun _ => []) := by
 refine calls_of (args := [_, _]) Try.func69 rfl (by kernel_rfl) Try.ntmps69 (by simp) fun c => ?_
 unfold p_spec_l11Same at H
 refine Tr.seq (Tr.region ?_)
 refine Rg.q (v := .bool (false)) (Pu.qo (p_assign rfl)) (by decide) (Rg.nl (nT ?_))
 refine Tr.seq (Tr.seq (Tr.region ?_))
 refine Rg.q (v := .slice x_v0.1 v0.length x_v0.2) (Pu.qo (p_move rfl)) (by decide) ?_
 refine Rg.q (v := .int .i64 ((v0.length : Int))) (Pu.qo (p_len 3 Try.underlying31 rfl)) (by decide) ?_
 refine Rg.q (v := .slice x_v1.1 v1.length x_v1.2) (Pu.qo (p_move rfl)) (by decide) ?_
 refine Rg.q (v := .int .i64 ((v1.length : Int))) (Pu.qo (p_len 3 Try.underlying31 rfl)) (by decide) ?_
 refine Rg.q (v := .bool (!decide ((v0.length : Int) = (v1.length : Int)))) (Pu.qo (p_neq rfl rfl)) (by decide) (Rg.nl (nT ?_))
 refine Tr.cond (b := !decide ((v0.length : Int) = (v1.length : Int))) rfl (fun h1 => ?_) (fun h1 => ?_)
 ·have H := cdT h1 H
  refine Tr.seq (Tr.region ?_)
  refine Rg.q (v := .bool (false)) (Pu.qo (p_assign rfl)) (by decide) (Rg.nl (nT ?_))
  refine tRet ?_
  refine rT (?_)
  have hr := Option.some.inj H; subst hr
  exact back1 () rfl (ResV.tmp (v := .bool (false)) rfl) rfl Ents.nil Take.nil
 ·have H := cdF h1 H
  refine tSkip ?_
  refine nT (?_)
  refine Tr.seq (Tr.seq (Tr.region ?_))
  refine Rg.q (v := .int .i64 (0)) (Pu.qo (p_assign rfl)) (by decide) (Rg.nl (nT ?_))
  obtain ⟨x2, hx3, H⟩ := bd.of H
  obtain ⟨n4, hx3⟩ := lp.of hx3
  refine tMidNC (ι := { q : (Unit) × Unit // x2 = .inl q.1 }) (fun ψ => []) (fun ψ => []) ?_ ?_
  ·refine Tr.block ?_
   refine tLoopC (ι := { q : Nat × (Int) × Unit // itr (p_spec_l11Same_b0 v0 v1) q.1 q.2.1 = some x2 }) (fun ζ => [(0, .slice x_v0.1 v0.length x_v0.2), (1, .slice x_v1.1 v1.length x_v1.2), (5, .int .i64 (ζ.1.2.1))]) (fun ζ => []) (fun ζ => ζ.1.1) ⟨(n4, 0, ()), hx3⟩ ⟨rfl, rfl, rfl, trivial⟩ Take.nil ?_
   rintro ⟨⟨m5, Q6, z7⟩, hk12⟩
   obtain ⟨m13, t9, e, H1, hi10, hb11⟩ := itr.of (n := m5) (s := Q6) hk12
   subst e; unfold p_spec_l11Same_b0 at H1
   show Tr _ _ _ _ _ [(0, .slice x_v0.1 v0.length x_v0.2), (1, .slice x_v1.1 v1.length x_v1.2), (5, .int .i64 (Q6))] _ []
   refine Tr.seq (Tr.seq (Tr.region ?_))
   refine Rg.q (v := .int .i64 (Q6)) (Pu.qo (p_move rfl)) (by decide) ?_
   refine Rg.q (v := .slice x_v0.1 v0.length x_v0.2) (Pu.qo (p_move rfl)) (by decide) ?_
   refine Rg.q (v := .int .i64 ((v0.length : Int))) (Pu.qo (p_len 3 Try.underlying31 rfl)) (by decide) ?_
   refine Rg.q (v := .bool (decide (Q6 < (v0.length : Int)))) (Pu.qo (p_lss rfl rfl)) (by decide) (Rg.nl (nT ?_))
   refine Tr.cond (b := decide (Q6 < (v0.length : Int))) rfl (fun h14 => ?_) (fun h14 => ?_)
   ·have H1 := cdT h14 H1
    refine tSkip ?_
    refine nT (Tr.seq ?_)
    refine Tr.block ?_
    refine Tr.seq ?_
    refine tLinS [(0, .slice x_v0.1 v0.length x_v0.2), (1, .slice x_v1.1 v1.length x_v1.2), (5, .int .i64 (Q6))] Try.mixed (.inr (by kernel_rfl)) ⟨rfl, rfl, rfl, trivial⟩ rfl ?_
    refine Lin.q (v := .slice x_v0.1 v0.length x_v0.2) (by decide) (Pu.qo (p_move rfl)) ?_
    refine Lin.q (v := .int .i64 (Q6)) (by decide) (Pu.qo (p_move rfl)) ?_
    obtain ⟨h15, H1⟩ := gd.of H1
    refine Lin.q (v := elp x_v0.1 (Q6.toNat * Enc.sz Int + 0)) (by decide) (q_ixg (l := v0) (E := fun i => Flat.enc (nth v0 i)) (oa := x_v0.1) Try.underlying31 ty3 rfl rfl h15 rfl (EntB.flat (Ent.b Ent.z))) ?_
    refine Lin.q (v := .int .i64 (nth v0 Q6.toNat)) (by decide) (q_lde (l := v0) (E := fun i => Flat.enc (nth v0 i)) (oa := x_v0.1) (i := Q6.toNat) (j := 0) ty3 rfl (EntB.flat (Ent.b Ent.z)) h15.lt rfl) ?_
    refine Lin.q (v := .slice x_v1.1 v1.length x_v1.2) (by decide) (Pu.qo (p_move rfl)) ?_
    refine Lin.q (v := .int .i64 (Q6)) (by decide) (Pu.qo (p_move rfl)) ?_
    obtain ⟨h16, H1⟩ := gd.of H1
    refine Lin.q (v := elp x_v1.1 (Q6.toNat * Enc.sz Int + 0)) (by decide) (q_ixg (l := v1) (E := fun i => Flat.enc (nth v1 i)) (oa := x_v1.1) Try.underlying31 ty3 rfl rfl h16 rfl (EntB.flat (Ent.b Ent.z.s))) ?_
    refine Lin.q (v := .int .i64 (nth v1 Q6.toNat)) (by decide) (q_lde (l := v1) (E := fun i => Flat.enc (nth v1 i)) (oa := x_v1.1) (i := Q6.toNat) (j := 0) ty3 rfl (EntB.flat (Ent.b Ent.z.s)) h16.lt rfl) ?_
    refine Lin.q (v := .bool (!decide ((nth v0 Q6.toNat) = (nth v1 Q6.toNat)))) (by decide) (Pu.qo (p_neq rfl rfl)) ?_
    show At _ _ _ _ _ _
    refine nT (?_)
    refine Tr.cond (b := !decide ((nth v0 Q6.toNat) = (nth v1 Q6.toNat))) rfl (fun h17 => ?_) (fun h17 => ?_)
    ·have H1 := cdT h17 H1
     refine Tr.seq (Tr.region ?_)
     refine Rg.q (v := .bool (false)) (Pu.qo (p_assign rfl)) (by decide) (Rg.nl (nT ?_))
     refine tRet ?_
     refine rB (rT (rT (rB (rT (rT (?_))))))
     have hx := hb11 _ (Option.some.inj H1).symm; subst hx
     replace H := sw.r H
     have hr := Option.some.inj H; subst hr
     exact back1 () rfl (ResV.tmp (v := .bool (false)) rfl) rfl Ents.nil Take.nil
    ·have H1 := cdF h17 H1
     refine tSkip ?_
     refine nB (nT (?_))
     refine Tr.region ?_
     refine Rg.q (v := .int .i64 (Q6)) (Pu.qo (p_move rfl)) (by decide) ?_
     obtain ⟨h18, H1⟩ := gd.of H1
     refine Rg.q (v := .int .i64 (Q6 + 1)) (Pu.qo (p_add rfl rfl h18)) (by decide) ?_
     refine Rg.q (v := .int .i64 (Q6 + 1)) (Pu.qo (p_assign rfl)) (by decide) (Rg.nl ?_)
     exact nLC ⟨(m13, Q6 + 1, ()), hi10 _ (Option.some.inj H1).symm⟩ (Nat.lt_succ_self _) ⟨rfl, rfl, rfl, trivial⟩ Ents.refl Take.nil
   ·have H1 := cdF h14 H1
    refine tExit (xT (xT (xE (?_))))
    exact nMC ⟨((), ()), (hb11 _ (Option.some.inj H1).symm).symm⟩ trivial Ents.refl Take.nil
  ·rintro ⟨⟨e19, y8⟩, hx⟩; subst hx; replace H := sw.l H
   show At _ _ [] _ [] _
   refine nT (?_)
   refine Tr.seq (Tr.region ?_)
   refine Rg.q (v := .bool (true)) (Pu.qo (p_assign rfl)) (by decide) (Rg.nl (nT ?_))
   refine tRet ?_
   have hr := Option.some.inj H; subst hr
   exact back1 () rfl (ResV.tmp (v := .bool (true)) rfl) rfl Ents.nil Take.nil
noncomputable def p_spec_IndexOk_b1 (v0 : Index) (Q9 : Int × Int) (Q26 : Int) : Option ((Int) ⊕ (Unit ⊕ Bool)) := cond (decide (Q26 < Q9.2)) (bd (p_spec_l3Text (nth v0.1 Q9.2.toNat)) fun r35 => gd (ix Q26 v0.1.length) <| bd (p_spec_l3Text (nth v0.1 Q26.toNat)) fun r38 => cond (decide (r35 = r38)) (some (.inr (.inr false))) (gd (I64 (Q26 + 1)) <| some (.inl (Q26 + 1)))) (some (.inr (.inl ())))
noncomputable def p_spec_IndexOk_b0 (v0 : Index) (Q9 : Int × Int) : Option ((Int × Int) ⊕ (Int ⊕ Bool)) := cond (decide (Q9.2 < (v0.1.length : Int))) (gd (ix Q9.2 v0.1.length) <| bd (p_spec_NameOk (nth v0.1 Q9.2.toNat)) fun r19 => cond (!r19) (some (.inr (.inr false))) (bd (lp (p_spec_IndexOk_b1 v0 Q9) 0) <| sw (fun _ => gd (I64 (Q9.1 + ((nth v0.1 Q9.2.toNat).length : Int))) <| gd (I64 (Q9.2 + 1)) <| some (.inl (Q9.1 + ((nth v0.1 Q9.2.toNat).length : Int), Q9.2 + 1))) (fun q => some (.inr (.inr q))))) (some (.inr (.inl Q9.1)))
noncomputable def p_spec_IndexOk_b2 (v0 : Index) (Q50 : Int × Int) : Option ((Int × Int) ⊕ (Int ⊕ Bool)) := cond (decide (Q50.2 < (v0.2.length : Int))) (gd (ix Q50.2 v0.2.length) <| cond (decide ((((nth v0.2 Q50.2.toNat).2).length : Int) = 0)) (some (.inr (.inr false))) (bd (p_spec_l11Ids v0.1 ((nth v0.2 Q50.2.toNat).1)) fun r62 => bd (p_spec_l11Same ((nth v0.2 Q50.2.toNat).2) r62) fun r65 => cond (!r65) (some (.inr (.inr false))) (cond (decide (0 < Q50.2)) (gd (I64 (Q50.2 - 1)) <| gd (ix (Q50.2 - 1) v0.2.length) <| bd (p_spec_l11Less ((nth v0.2 ((Q50.2 - 1).toNat)).1) ((nth v0.2 Q50.2.toNat).1)) fun r71 => cond (!r71) (some (.inr (.inr false))) (gd (I64 (Q50.1 - (((nth v0.2 Q50.2.toNat).2).length : Int))) <| gd (I64 (Q50.2 + 1)) <| some (.inl (Q50.1 - (((nth v0.2 Q50.2.toNat).2).length : Int), Q50.2 + 1)))) (gd (I64 (Q50.1 - (((nth v0.2 Q50.2.toNat).2).length : Int))) <| gd (I64 (Q50.2 + 1)) <| some (.inl (Q50.1 - (((nth v0.2 Q50.2.toNat).2).length : Int), Q50.2 + 1)))))) (some (.inr (.inl Q50.1)))
noncomputable def p_spec_IndexOk (v0 : Index) : Option (Bool) := cond (decide (6 < (v0.1.length : Int))) (some false) (bd (lp (p_spec_IndexOk_b0 v0) (0, 0)) <| sw (fun e45 => bd (lp (p_spec_IndexOk_b2 v0) (e45, 0)) <| sw (fun e78 => some (decide (e78 = 0))) (fun q => some q)) (fun q => some q))
theorem c_spec_IndexOk {r : Bool} (v0 : Index) (x_v0 : (Option Addr × Nat) × (Option Addr × Nat)) (H : p_spec_IndexOk v0 = some r) : Fn' Try.prog 19 #[.agg #[.slice x_v0.1.1 v0.1.length x_v0.1.2, .slice x_v0.2.1 v0.2.length x_v0.2.2]] [imm (.slice x_v0.1.1 v0.1.length x_v0.1.2) v0.1, imm (.slice x_v0.2.1 v0.2.length x_v0.2.2) v0.2] [] (ι := Unit) (fun _ => .bool (r)) (fun _ => []) (fun _ => []) := by
 refine calls_of (args := [_]) Try.func19 rfl (by kernel_rfl) Try.ntmps19 (by simp) fun c => ?_
 unfold p_spec_IndexOk at H
 refine Tr.openD Ent.z fun X1 => ?_
 refine Tr.openD Ent.z.s.s fun X2 => ?_
 refine Tr.seq (Tr.region ?_)
 refine Rg.ed (e_box (t := 26) (v := .agg #[.slice x_v0.1.1 v0.1.length x_v0.1.2, .slice x_v0.2.1 v0.2.length x_v0.2.2]) rfl) rfl (by decide) ?_
 rintro _ _ _ ⟨g3, rfl, rfl, rfl⟩
 refine Rg.q (v := .bool (false)) (Pu.qo (p_assign rfl)) (by decide) (Rg.nl (nT ?_))
 refine Tr.seq (Tr.seq (Tr.region ?_))
 refine Rg.q (v := .pointer (some ⟨g3, 0, none⟩)) (Pu.qo (p_fabE fa26_0 rfl rfl)) (by decide) ?_
 refine Rg.q (v := .slice x_v0.1.1 v0.1.length x_v0.1.2) (q_ldb ty23 rfl Has.here rfl) (by decide) ?_
 refine Rg.q (v := .int .i64 ((v0.1.length : Int))) (Pu.qo (p_len 38 Try.underlying23 rfl)) (by decide) ?_
 refine Rg.q (v := .bool (decide (6 < (v0.1.length : Int)))) (Pu.qo (p_gtr rfl rfl)) (by decide) (Rg.nl (nT ?_))
 refine Tr.cond (b := decide (6 < (v0.1.length : Int))) rfl (fun h4 => ?_) (fun h4 => ?_)
 ·have H := cdT h4 H
  refine Tr.seq (Tr.region ?_)
  refine Rg.q (v := .bool (false)) (Pu.qo (p_assign rfl)) (by decide) (Rg.nl (nT ?_))
  refine tRet ?_
  refine rT (?_)
  have hr := Option.some.inj H; subst hr
  exact back1 () rfl (ResV.tmp (v := .bool (false)) rfl) rfl Ents.nil Take.nil
 ·have H := cdF h4 H
  refine tSkip ?_
  refine nT (?_)
  refine Tr.seq (Tr.region ?_)
  refine Rg.q (v := .int .i64 (0)) (Pu.qo (p_assign rfl)) (by decide) (Rg.nl (nT ?_))
  refine Tr.seq (Tr.seq (Tr.region ?_))
  refine Rg.q (v := .int .i64 (0)) (Pu.qo (p_assign rfl)) (by decide) (Rg.nl (nT ?_))
  obtain ⟨x5, hx6, H⟩ := bd.of H
  obtain ⟨n7, hx6⟩ := lp.of hx6
  refine tMidNC (ι := { q : (Int) × Unit // x5 = .inl q.1 }) (fun ψ => [(1, .pointer (some ⟨g3, 0, none⟩)), (3, .int .i64 (ψ.1.1))]) (fun ψ => [box g3 26 [.slice x_v0.1.1 v0.1.length x_v0.1.2, .slice x_v0.2.1 v0.2.length x_v0.2.2]]) ?_ ?_
  ·refine Tr.block ?_
   refine tLoopC (ι := { q : Nat × (Int × Int) × Unit // itr (p_spec_IndexOk_b0 v0) q.1 q.2.1 = some x5 }) (fun ζ => [(1, .pointer (some ⟨g3, 0, none⟩)), (3, .int .i64 (ζ.1.2.1.1)), (4, .int .i64 (ζ.1.2.1.2))]) (fun ζ => [box g3 26 [.slice x_v0.1.1 v0.1.length x_v0.1.2, .slice x_v0.2.1 v0.2.length x_v0.2.2]]) (fun ζ => ζ.1.1) ⟨(n7, (0, 0), ()), hx6⟩ ⟨rfl, rfl, rfl, trivial⟩ (.cons Del.here .nil) ?_
   rintro ⟨⟨m8, Q9, z10⟩, hk15⟩
   obtain ⟨m16, t12, e, H1, hi13, hb14⟩ := itr.of (n := m8) (s := Q9) hk15
   subst e; unfold p_spec_IndexOk_b0 at H1
   show Tr _ _ _ _ _ [(1, .pointer (some ⟨g3, 0, none⟩)), (3, .int .i64 (Q9.1)), (4, .int .i64 (Q9.2))] _ [box g3 26 [.slice x_v0.1.1 v0.1.length x_v0.1.2, .slice x_v0.2.1 v0.2.length x_v0.2.2]]
   refine Tr.seq (Tr.seq (Tr.region ?_))
   refine Rg.q (v := .int .i64 (Q9.2)) (Pu.qo (p_move rfl)) (by decide) ?_
   refine Rg.q (v := .pointer (some ⟨g3, 0, none⟩)) (Pu.qo (p_fabE fa26_0 rfl rfl)) (by decide) ?_
   refine Rg.q (v := .slice x_v0.1.1 v0.1.length x_v0.1.2) (q_ldb ty23 rfl Has.here rfl) (by decide) ?_
   refine Rg.q (v := .int .i64 ((v0.1.length : Int))) (Pu.qo (p_len 38 Try.underlying23 rfl)) (by decide) ?_
   refine Rg.q (v := .bool (decide (Q9.2 < (v0.1.length : Int)))) (Pu.qo (p_lss rfl rfl)) (by decide) (Rg.nl (nT ?_))
   refine Tr.cond (b := decide (Q9.2 < (v0.1.length : Int))) rfl (fun h17 => ?_) (fun h17 => ?_)
   ·have H1 := cdT h17 H1
    refine tSkip ?_
    refine nT (Tr.seq ?_)
    refine Tr.block ?_
    refine Tr.seq (Tr.seq (Tr.region ?_))
    refine Rg.q (v := .pointer (some ⟨g3, 0, none⟩)) (Pu.qo (p_fabE fa26_0 rfl rfl)) (by decide) ?_
    refine Rg.q (v := .slice x_v0.1.1 v0.1.length x_v0.1.2) (q_ldb ty23 rfl Has.here rfl) (by decide) ?_
    refine Rg.q (v := .int .i64 (Q9.2)) (Pu.qo (p_move rfl)) (by decide) ?_
    obtain ⟨h18, H1⟩ := gd.of H1
    refine Rg.q (v := elp x_v0.1.1 (Q9.2.toNat * Enc.sz (List Tag) + 0)) (q_ixg (l := v0.1) (E := fun i => Dp.denc (nth v0.1 i) (X1 i)) (oa := x_v0.1.1) Try.underlying23 ty38 rfl rfl h18 rfl (Ent.b (Ent.darr Ent.z.s))) (by decide) ?_
    refine Rg.q (v := .slice ((X1 Q9.2.toNat).1) ((nth v0.1 Q9.2.toNat).length) ((X1 Q9.2.toNat).2.1)) (q_lde (l := v0.1) (E := fun i => Dp.denc (nth v0.1 i) (X1 i)) (oa := x_v0.1.1) (i := Q9.2.toNat) (j := 0) ty38 rfl (Ent.b (Ent.darr Ent.z.s)) h18.lt rfl) (by decide) ?_
    obtain ⟨r19, h20, H1⟩ := bd.of H1
    refine Rg.q (v := .bool (r19)) (q_call (vs := [.slice ((X1 Q9.2.toNat).1) ((nth v0.1 Q9.2.toNat).length) ((X1 Q9.2.toNat).2.1)]) (c_spec_NameOk (nth v0.1 Q9.2.toNat) ((X1 Q9.2.toNat).1, (X1 Q9.2.toNat).2.1) h20) rfl (EntsB.cons (Ent.b (Ent.dimm (Ent.del Ent.z.s h18.lt))) EntsB.nil)) (by decide) ?_
    refine Rg.q (v := .bool (!r19)) (Pu.qo (p_not rfl)) (by decide) (Rg.nl (nT ?_))
    refine Tr.cond (b := !r19) rfl (fun h21 => ?_) (fun h21 => ?_)
    ·have H1 := cdT h21 H1
     refine Tr.seq (Tr.region ?_)
     refine Rg.q (v := .bool (false)) (Pu.qo (p_assign rfl)) (by decide) (Rg.nl (nT ?_))
     refine tRet ?_
     refine rT (rB (rT (rT (rB (rT (rT (?_)))))))
     have hx := hb14 _ (Option.some.inj H1).symm; subst hx
     replace H := sw.r H
     have hr := Option.some.inj H; subst hr
     exact back1 () rfl (ResV.tmp (v := .bool (false)) rfl) rfl Ents.nil Take.nil
    ·have H1 := cdF h21 H1
     refine tSkip ?_
     refine nT (?_)
     refine Tr.seq (Tr.seq (Tr.region ?_))
     refine Rg.q (v := .int .i64 (0)) (Pu.qo (p_assign rfl)) (by decide) (Rg.nl (nT ?_))
     obtain ⟨x22, hx23, H1⟩ := bd.of H1
     obtain ⟨n24, hx23⟩ := lp.of hx23
     refine tMidNC (ι := { q : (Unit) × Unit // x22 = .inl q.1 }) (fun ψ => [(1, .pointer (some ⟨g3, 0, none⟩)), (3, .int .i64 (Q9.1)), (4, .int .i64 (Q9.2))]) (fun ψ => [box g3 26 [.slice x_v0.1.1 v0.1.length x_v0.1.2, .slice x_v0.2.1 v0.2.length x_v0.2.2]]) ?_ ?_
     ·refine Tr.block ?_
      refine tLoopC (ι := { q : Nat × (Int) × Unit // itr (p_spec_IndexOk_b1 v0 Q9) q.1 q.2.1 = some x22 }) (fun ζ => [(1, .pointer (some ⟨g3, 0, none⟩)), (3, .int .i64 (Q9.1)), (4, .int .i64 (Q9.2)), (5, .int .i64 (ζ.1.2.1))]) (fun ζ => [box g3 26 [.slice x_v0.1.1 v0.1.length x_v0.1.2, .slice x_v0.2.1 v0.2.length x_v0.2.2]]) (fun ζ => ζ.1.1) ⟨(n24, 0, ()), hx23⟩ ⟨rfl, rfl, rfl, rfl, trivial⟩ (.cons Del.here .nil) ?_
      rintro ⟨⟨m25, Q26, z27⟩, hk32⟩
      obtain ⟨m33, t29, e, H2, hi30, hb31⟩ := itr.of (n := m25) (s := Q26) hk32
      subst e; unfold p_spec_IndexOk_b1 at H2
      show Tr _ _ _ _ _ [(1, .pointer (some ⟨g3, 0, none⟩)), (3, .int .i64 (Q9.1)), (4, .int .i64 (Q9.2)), (5, .int .i64 (Q26))] _ [box g3 26 [.slice x_v0.1.1 v0.1.length x_v0.1.2, .slice x_v0.2.1 v0.2.length x_v0.2.2]]
      refine Tr.seq (Tr.seq (Tr.region ?_))
      refine Rg.q (v := .int .i64 (Q26)) (Pu.qo (p_move rfl)) (by decide) ?_
      refine Rg.q (v := .int .i64 (Q9.2)) (Pu.qo (p_move rfl)) (by decide) ?_
      refine Rg.q (v := .bool (decide (Q26 < Q9.2))) (Pu.qo (p_lss rfl rfl)) (by decide) (Rg.nl (nT ?_))
      refine Tr.cond (b := decide (Q26 < Q9.2)) rfl (fun h34 => ?_) (fun h34 => ?_)
      ·have H2 := cdT h34 H2
       refine tSkip ?_
       refine nT (Tr.seq ?_)
       refine Tr.block ?_
       refine Tr.seq ?_
       refine tLinS [(1, .pointer (some ⟨g3, 0, none⟩)), (3, .int .i64 (Q9.1)), (4, .int .i64 (Q9.2)), (5, .int .i64 (Q26))] Try.mixed (.inr (by kernel_rfl)) ⟨rfl, rfl, rfl, rfl, trivial⟩ rfl ?_
       refine Lin.q (v := .pointer (some ⟨g3, 0, none⟩)) (by decide) (Pu.qo (p_fabE fa26_0 rfl rfl)) ?_
       refine Lin.q (v := .slice x_v0.1.1 v0.1.length x_v0.1.2) (by decide) (q_ldb ty23 rfl Has.here rfl) ?_
       refine Lin.q (v := .int .i64 (Q9.2)) (by decide) (Pu.qo (p_move rfl)) ?_
       refine Lin.q (v := elp x_v0.1.1 (Q9.2.toNat * Enc.sz (List Tag) + 0)) (by decide) (q_ixg (l := v0.1) (E := fun i => Dp.denc (nth v0.1 i) (X1 i)) (oa := x_v0.1.1) Try.underlying23 ty38 rfl rfl h18 rfl (Ent.b (Ent.darr Ent.z.s))) ?_
       refine Lin.q (v := .slice ((X1 Q9.2.toNat).1) ((nth v0.1 Q9.2.toNat).length) ((X1 Q9.2.toNat).2.1)) (by decide) (q_lde (l := v0.1) (E := fun i => Dp.denc (nth v0.1 i) (X1 i)) (oa := x_v0.1.1) (i := Q9.2.toNat) (j := 0) ty38 rfl (Ent.b (Ent.darr Ent.z.s)) h18.lt rfl) ?_
       obtain ⟨r35, h36, H2⟩ := bd.of H2
       refine Lin.q (v := .string (r35)) (by decide) (q_call (vs := [.slice ((X1 Q9.2.toNat).1) ((nth v0.1 Q9.2.toNat).length) ((X1 Q9.2.toNat).2.1)]) (c_spec_l3Text (nth v0.1 Q9.2.toNat) ((X1 Q9.2.toNat).1, (X1 Q9.2.toNat).2.1) h36) rfl (EntsB.cons (Ent.b (Ent.dimm (Ent.del Ent.z.s h18.lt))) EntsB.nil)) ?_
       refine Lin.q (v := .pointer (some ⟨g3, 0, none⟩)) (by decide) (Pu.qo (p_fabE fa26_0 rfl rfl)) ?_
       refine Lin.q (v := .slice x_v0.1.1 v0.1.length x_v0.1.2) (by decide) (q_ldb ty23 rfl Has.here rfl) ?_
       refine Lin.q (v := .int .i64 (Q26)) (by decide) (Pu.qo (p_move rfl)) ?_
       obtain ⟨h37, H2⟩ := gd.of H2
       refine Lin.q (v := elp x_v0.1.1 (Q26.toNat * Enc.sz (List Tag) + 0)) (by decide) (q_ixg (l := v0.1) (E := fun i => Dp.denc (nth v0.1 i) (X1 i)) (oa := x_v0.1.1) Try.underlying23 ty38 rfl rfl h37 rfl (Ent.b (Ent.darr Ent.z.s))) ?_
       refine Lin.q (v := .slice ((X1 Q26.toNat).1) ((nth v0.1 Q26.toNat).length) ((X1 Q26.toNat).2.1)) (by decide) (q_lde (l := v0.1) (E := fun i => Dp.denc (nth v0.1 i) (X1 i)) (oa := x_v0.1.1) (i := Q26.toNat) (j := 0) ty38 rfl (Ent.b (Ent.darr Ent.z.s)) h37.lt rfl) ?_
       obtain ⟨r38, h39, H2⟩ := bd.of H2
       refine Lin.q (v := .string (r38)) (by decide) (q_call (vs := [.slice ((X1 Q26.toNat).1) ((nth v0.1 Q26.toNat).length) ((X1 Q26.toNat).2.1)]) (c_spec_l3Text (nth v0.1 Q26.toNat) ((X1 Q26.toNat).1, (X1 Q26.toNat).2.1) h39) rfl (EntsB.cons (Ent.b (Ent.dimm (Ent.del Ent.z.s h37.lt))) EntsB.nil)) ?_
       refine Lin.q (v := .bool (decide (r35 = r38))) (by decide) (Pu.qo (p_seql rfl rfl)) ?_
       show At _ _ _ _ _ _
       refine nT (?_)
       refine Tr.cond (b := decide (r35 = r38)) rfl (fun h40 => ?_) (fun h40 => ?_)
       ·have H2 := cdT h40 H2
        refine Tr.seq (Tr.region ?_)
        refine Rg.q (v := .bool (false)) (Pu.qo (p_assign rfl)) (by decide) (Rg.nl (nT ?_))
        refine tRet ?_
        refine rB (rT (rT (rB (rT (rT (rB (rT (rT (rB (rT (rT (?_))))))))))))
        have hx := hb31 _ (Option.some.inj H2).symm; subst hx
        replace H1 := sw.r H1
        have hx := hb14 _ (Option.some.inj H1).symm; subst hx
        replace H := sw.r H
        have hr := Option.some.inj H; subst hr
        exact back1 () rfl (ResV.tmp (v := .bool (false)) rfl) rfl Ents.nil Take.nil
       ·have H2 := cdF h40 H2
        refine tSkip ?_
        refine nB (nT (?_))
        refine Tr.region ?_
        refine Rg.q (v := .int .i64 (Q26)) (Pu.qo (p_move rfl)) (by decide) ?_
        obtain ⟨h41, H2⟩ := gd.of H2
        refine Rg.q (v := .int .i64 (Q26 + 1)) (Pu.qo (p_add rfl rfl h41)) (by decide) ?_
        refine Rg.q (v := .int .i64 (Q26 + 1)) (Pu.qo (p_assign rfl)) (by decide) (Rg.nl ?_)
        exact nLC ⟨(m33, Q26 + 1, ()), hi30 _ (Option.some.inj H2).symm⟩ (Nat.lt_succ_self _) ⟨rfl, rfl, rfl, rfl, trivial⟩ Ents.refl (.cons Del.here .nil)
      ·have H2 := cdF h34 H2
       refine tExit (xT (xT (xE (?_))))
       exact nMC ⟨((), ()), (hb31 _ (Option.some.inj H2).symm).symm⟩ ⟨rfl, rfl, rfl, trivial⟩ Ents.refl (.cons Del.here .nil)
     ·rintro ⟨⟨e42, y28⟩, hx⟩; subst hx; replace H1 := sw.l H1
      show At _ _ [(1, .pointer (some ⟨g3, 0, none⟩)), (3, .int .i64 (Q9.1)), (4, .int .i64 (Q9.2))] _ [box g3 26 [.slice x_v0.1.1 v0.1.length x_v0.1.2, .slice x_v0.2.1 v0.2.length x_v0.2.2]] _
      refine nT (?_)
      refine Tr.region ?_
      refine Rg.q (v := .int .i64 (Q9.1)) (Pu.qo (p_move rfl)) (by decide) ?_
      refine Rg.q (v := .pointer (some ⟨g3, 0, none⟩)) (Pu.qo (p_fabE fa26_0 rfl rfl)) (by decide) ?_
      refine Rg.q (v := .slice x_v0.1.1 v0.1.length x_v0.1.2) (q_ldb ty23 rfl Has.here rfl) (by decide) ?_
      refine Rg.q (v := .int .i64 (Q9.2)) (Pu.qo (p_move rfl)) (by decide) ?_
      refine Rg.q (v := elp x_v0.1.1 (Q9.2.toNat * Enc.sz (List Tag) + 0)) (q_ixg (l := v0.1) (E := fun i => Dp.denc (nth v0.1 i) (X1 i)) (oa := x_v0.1.1) Try.underlying23 ty38 rfl rfl h18 rfl (Ent.b (Ent.darr Ent.z.s))) (by decide) ?_
      refine Rg.q (v := .slice ((X1 Q9.2.toNat).1) ((nth v0.1 Q9.2.toNat).length) ((X1 Q9.2.toNat).2.1)) (q_lde (l := v0.1) (E := fun i => Dp.denc (nth v0.1 i) (X1 i)) (oa := x_v0.1.1) (i := Q9.2.toNat) (j := 0) ty38 rfl (Ent.b (Ent.darr Ent.z.s)) h18.lt rfl) (by decide) ?_
      refine Rg.q (v := .int .i64 (((nth v0.1 Q9.2.toNat).length : Int))) (Pu.qo (p_len 30 Try.underlying38 rfl)) (by decide) ?_
      obtain ⟨h43, H1⟩ := gd.of H1
      refine Rg.q (v := .int .i64 (Q9.1 + ((nth v0.1 Q9.2.toNat).length : Int))) (Pu.qo (p_add rfl rfl h43)) (by decide) ?_
      refine Rg.q (v := .int .i64 (Q9.1 + ((nth v0.1 Q9.2.toNat).length : Int))) (Pu.qo (p_assign rfl)) (by decide) (Rg.nl ?_)
      refine nB (nT (?_))
      refine Tr.region ?_
      refine Rg.q (v := .int .i64 (Q9.2)) (Pu.qo (p_move rfl)) (by decide) ?_
      obtain ⟨h44, H1⟩ := gd.of H1
      refine Rg.q (v := .int .i64 (Q9.2 + 1)) (Pu.qo (p_add rfl rfl h44)) (by decide) ?_
      refine Rg.q (v := .int .i64 (Q9.2 + 1)) (Pu.qo (p_assign rfl)) (by decide) (Rg.nl ?_)
      exact nLC ⟨(m16, (Q9.1 + ((nth v0.1 Q9.2.toNat).length : Int), Q9.2 + 1), ()), hi13 _ (Option.some.inj H1).symm⟩ (Nat.lt_succ_self _) ⟨rfl, rfl, rfl, trivial⟩ Ents.refl (.cons Del.here .nil)
   ·have H1 := cdF h17 H1
    refine tExit (xT (xT (xE (?_))))
    exact nMC ⟨(Q9.1, ()), (hb14 _ (Option.some.inj H1).symm).symm⟩ ⟨rfl, rfl, trivial⟩ Ents.refl (.cons Del.here .nil)
  ·rintro ⟨⟨e45, y11⟩, hx⟩; subst hx; replace H := sw.l H
   show At _ _ [(1, .pointer (some ⟨g3, 0, none⟩)), (3, .int .i64 (e45))] _ [box g3 26 [.slice x_v0.1.1 v0.1.length x_v0.1.2, .slice x_v0.2.1 v0.2.length x_v0.2.2]] _
   refine nT (?_)
   refine Tr.seq (Tr.seq (Tr.region ?_))
   refine Rg.q (v := .int .i64 (0)) (Pu.qo (p_assign rfl)) (by decide) (Rg.nl (nT ?_))
   obtain ⟨x46, hx47, H⟩ := bd.of H
   obtain ⟨n48, hx47⟩ := lp.of hx47
   refine tMidNC (ι := { q : (Int) × Unit // x46 = .inl q.1 }) (fun ψ => [(3, .int .i64 (ψ.1.1))]) (fun ψ => []) ?_ ?_
   ·refine Tr.block ?_
    refine tLoopC (ι := { q : Nat × (Int × Int) × Unit // itr (p_spec_IndexOk_b2 v0) q.1 q.2.1 = some x46 }) (fun ζ => [(1, .pointer (some ⟨g3, 0, none⟩)), (3, .int .i64 (ζ.1.2.1.1)), (6, .int .i64 (ζ.1.2.1.2))]) (fun ζ => [box g3 26 [.slice x_v0.1.1 v0.1.length x_v0.1.2, .slice x_v0.2.1 v0.2.length x_v0.2.2]]) (fun ζ => ζ.1.1) ⟨(n48, (e45, 0), ()), hx47⟩ ⟨rfl, rfl, rfl, trivial⟩ (.cons Del.here .nil) ?_
    rintro ⟨⟨m49, Q50, z51⟩, hk56⟩
    obtain ⟨m57, t53, e, H1, hi54, hb55⟩ := itr.of (n := m49) (s := Q50) hk56
    subst e; unfold p_spec_IndexOk_b2 at H1
    show Tr _ _ _ _ _ [(1, .pointer (some ⟨g3, 0, none⟩)), (3, .int .i64 (Q50.1)), (6, .int .i64 (Q50.2))] _ [box g3 26 [.slice x_v0.1.1 v0.1.length x_v0.1.2, .slice x_v0.2.1 v0.2.length x_v0.2.2]]
    refine Tr.seq (Tr.seq (Tr.region ?_))
    refine Rg.q (v := .int .i64 (Q50.2)) (Pu.qo (p_move rfl)) (by decide) ?_
    refine Rg.q (v := .pointer (some ⟨g3, 1, none⟩)) (Pu.qo (p_fabE fa26_1 rfl rfl)) (by decide) ?_
    refine Rg.q (v := .slice x_v0.2.1 v0.2.length x_v0.2.2) (q_ldb ty24 rfl Has.here rfl) (by decide) ?_
    refine Rg.q (v := .int .i64 ((v0.2.length : Int))) (Pu.qo (p_len 33 Try.underlying24 rfl)) (by decide) ?_
    refine Rg.q (v := .bool (decide (Q50.2 < (v0.2.length : Int)))) (Pu.qo (p_lss rfl rfl)) (by decide) (Rg.nl (nT ?_))
    refine Tr.cond (b := decide (Q50.2 < (v0.2.length : Int))) rfl (fun h58 => ?_) (fun h58 => ?_)
    ·have H1 := cdT h58 H1
     refine tSkip ?_
     refine nT (Tr.seq ?_)
     refine Tr.block ?_
     refine Tr.seq (Tr.region ?_)
     refine Rg.q (v := .pointer (some ⟨g3, 1, none⟩)) (Pu.qo (p_fabE fa26_1 rfl rfl)) (by decide) ?_
     refine Rg.q (v := .slice x_v0.2.1 v0.2.length x_v0.2.2) (q_ldb ty24 rfl Has.here rfl) (by decide) ?_
     refine Rg.q (v := .int .i64 (Q50.2)) (Pu.qo (p_move rfl)) (by decide) ?_
     obtain ⟨h59, H1⟩ := gd.of H1
     refine Rg.q (v := elp x_v0.2.1 (Q50.2.toNat * Enc.sz Post + 0)) (q_ixg (l := v0.2) (E := fun i => Dp.denc (nth v0.2 i) (X2 i)) (oa := x_v0.2.1) Try.underlying24 ty33 rfl rfl h59 rfl (Ent.b (Ent.darr Ent.z))) (by decide) ?_
     refine Rg.q (v := .agg #[.string (((nth v0.2 Q50.2.toNat).1).1), .string (((nth v0.2 Q50.2.toNat).1).2), .slice (((X2 Q50.2.toNat).2).1) (((nth v0.2 Q50.2.toNat).2).length) (((X2 Q50.2.toNat).2).2.1)]) (q_ldeA (l := v0.2) (E := fun i => Dp.denc (nth v0.2 i) (X2 i)) (oa := x_v0.2.1) (i := Q50.2.toNat) ty33 rfl (Ent.b (Ent.darr Ent.z)) h59.lt) (by decide) ?_
     refine Rg.ed (e_alloc ty33) rfl (by decide) ?_
     rintro _ _ _ ⟨g60, rfl, rfl, rfl⟩
     refine Rg.en (e_store (v := .agg #[.string (((nth v0.2 Q50.2.toNat).1).1), .string (((nth v0.2 Q50.2.toNat).1).2), .slice (((X2 Q50.2.toNat).2).1) (((nth v0.2 Q50.2.toNat).2).length) (((X2 Q50.2.toNat).2).2.1)]) (cs' := [.string (((nth v0.2 Q50.2.toNat).1).1), .string (((nth v0.2 Q50.2.toNat).1).2), .slice (((X2 Q50.2.toNat).2).1) (((nth v0.2 Q50.2.toNat).2).length) (((X2 Q50.2.toNat).2).2.1)]) ty33 rfl rfl Upd.here rfl (by simp [Value.cells, Value.oneCell']) (Nat.le_of_ble_eq_true rfl) rfl) rfl ?_
     rintro _ _ _ ⟨rfl, rfl, rfl⟩
     refine Rg.nl (nT ?_)
     refine Tr.seq ?_
     refine Tr.seq ?_
     rcases Bool.eq_false_or_eq_true (decide ((((nth v0.2 Q50.2.toNat).2).length : Int) = 0)) with h61 | h61
     ·have H1 := cdT h61 H1
      refine tNwS [(7, .pointer (some ⟨g60, 0, none⟩)), (1, .pointer (some ⟨g3, 0, none⟩)), (3, .int .i64 (Q50.1)), (6, .int .i64 (Q50.2))] 1 [0, 1, 2, 3, 4, 5, 6, 7, 8, 9, 10, 11, 12, 13, 14, 15, 16, 17, 18, 19, 20, 21, 22, 23, 24, 25, 26, 27, 28, 29, 30, 31] [] [] Try.mixed (by kernel_rfl) (by decide) List.nodup_nil ⟨rfl, rfl, rfl, rfl, trivial⟩ rfl okNil ?_
      refine w_pu (v := .pointer (some ⟨g60, 2, none⟩)) rfl (by decide) rfl rfl rfl (p_fabE fa33_1 rfl rfl) ?_
      refine w_q (v := .slice (((X2 Q50.2.toNat).2).1) (((nth v0.2 Q50.2.toNat).2).length) (((X2 Q50.2.toNat).2).2.1)) rfl (by decide) rfl rfl rfl (fun F => (q_ldb ty31 rfl (Has.here.app F) rfl)) ?_
      refine w_pu (v := .int .i64 ((((nth v0.2 Q50.2.toNat).2).length : Int))) rfl (by decide) rfl rfl rfl (p_len 3 Try.underlying31 rfl) ?_
      refine w_pu (v := .bool (decide ((((nth v0.2 Q50.2.toNat).2).length : Int) = 0))) rfl (by decide) rfl rfl rfl (p_eql rfl rfl) ?_
      refine w_pu (v := .bool (true)) rfl (by decide) rfl rfl rfl ((Pu.eqv (v := .bool (decide ((((nth v0.2 Q50.2.toNat).2).length : Int) = 0))) (p_move rfl) (congrArg Value.bool h61))) ?_
      refine w_skip rfl (by decide) rfl rfl rfl ?_
      refine w_skip rfl (by decide) rfl rfl rfl ?_
      refine w_skip rfl (by decide) rfl rfl rfl ?_
      refine w_skip rfl (by decide) rfl rfl rfl ?_
      refine w_skip rfl (by decide) rfl rfl rfl ?_
      refine w_skip rfl (by decide) rfl rfl rfl ?_
      refine w_skip rfl (by decide) rfl rfl rfl ?_
      refine w_skip rfl (by decide) rfl rfl rfl ?_
      refine w_skip rfl (by decide) rfl rfl rfl ?_
      refine w_pu (v := .bool (true)) rfl (by decide) rfl rfl rfl (p_pickT rfl rfl) ?_
      refine w_pu (v := .bool (true)) rfl (by decide) rfl rfl rfl (p_move rfl) ?_
      refine w_skip rfl (by decide) rfl rfl rfl ?_
      refine w_skip rfl (by decide) rfl rfl rfl ?_
      refine w_skip rfl (by decide) rfl rfl rfl ?_
      refine w_skip rfl (by decide) rfl rfl rfl ?_
      refine w_skip rfl (by decide) rfl rfl rfl ?_
      refine w_skip rfl (by decide) rfl rfl rfl ?_
      refine w_skip rfl (by decide) rfl rfl rfl ?_
      refine w_skip rfl (by decide) rfl rfl rfl ?_
      refine w_skip rfl (by decide) rfl rfl rfl ?_
      refine w_skip rfl (by decide) rfl rfl rfl ?_
      refine w_skip rfl (by decide) rfl rfl rfl ?_
      refine w_skip rfl (by decide) rfl rfl rfl ?_
      refine w_skip rfl (by decide) rfl rfl rfl ?_
      refine w_skip rfl (by decide) rfl rfl rfl ?_
      refine w_skip rfl (by decide) rfl rfl rfl ?_
      refine w_pu (v := .bool (true)) rfl (by decide) rfl rfl rfl (p_pickT rfl rfl) ?_
      refine w_nil ?_
      show At _ _ _ _ _ _
      refine nT (?_)
      refine Tr.condT rfl ?_
      refine Tr.seq (Tr.region ?_)
      refine Rg.q (v := .bool (false)) (Pu.qo (p_assign rfl)) (by decide) (Rg.nl (nT ?_))
      refine tRet ?_
      refine rT (rB (rT (rT (rB (rT (rT (?_)))))))
      have hx := hb55 _ (Option.some.inj H1).symm; subst hx
      replace H := sw.r H
      have hr := Option.some.inj H; subst hr
      exact back1 () rfl (ResV.tmp (v := .bool (false)) rfl) rfl Ents.nil Take.nil
     ·have H1 := cdF h61 H1
      refine tNwS [(7, .pointer (some ⟨g60, 0, none⟩)), (1, .pointer (some ⟨g3, 0, none⟩)), (3, .int .i64 (Q50.1)), (6, .int .i64 (Q50.2))] 4 [0, 1, 2, 3, 4, 5, 6, 7, 8, 9, 10, 11, 12, 13, 14, 15, 16, 17, 18, 19, 20, 21, 22, 23, 24, 25, 26, 27, 28, 29, 30, 31] [11] [] Try.mixed (by kernel_rfl) (by decide) List.nodup_nil ⟨rfl, rfl, rfl, rfl, trivial⟩ rfl okNil ?_
      refine w_pu (v := .pointer (some ⟨g60, 2, none⟩)) rfl (by decide) rfl rfl rfl (p_fabE fa33_1 rfl rfl) ?_
      refine w_q (v := .slice (((X2 Q50.2.toNat).2).1) (((nth v0.2 Q50.2.toNat).2).length) (((X2 Q50.2.toNat).2).2.1)) rfl (by decide) rfl rfl rfl (fun F => (q_ldb ty31 rfl (Has.here.app F) rfl)) ?_
      refine w_pu (v := .int .i64 ((((nth v0.2 Q50.2.toNat).2).length : Int))) rfl (by decide) rfl rfl rfl (p_len 3 Try.underlying31 rfl) ?_
      refine w_pu (v := .bool (decide ((((nth v0.2 Q50.2.toNat).2).length : Int) = 0))) rfl (by decide) rfl rfl rfl (p_eql rfl rfl) ?_
      refine w_pu (v := .bool (false)) rfl (by decide) rfl rfl rfl ((Pu.eqv (v := .bool (decide ((((nth v0.2 Q50.2.toNat).2).length : Int) = 0))) (p_move rfl) (congrArg Value.bool h61))) ?_
      refine w_pu (v := .pointer (some ⟨g60, 2, none⟩)) rfl (by decide) rfl rfl rfl (p_fabE fa33_1 rfl rfl) ?_
      refine w_q (v := .slice (((X2 Q50.2.toNat).2).1) (((nth v0.2 Q50.2.toNat).2).length) (((X2 Q50.2.toNat).2).2.1)) rfl (by decide) rfl rfl rfl (fun F => (q_ldb ty31 rfl (Has.here.app F) rfl)) ?_
      refine w_pu (v := .pointer (some ⟨g3, 0, none⟩)) rfl (by decide) rfl rfl rfl (p_fabE fa26_0 rfl rfl) ?_
      refine w_q (v := .slice x_v0.1.1 v0.1.length x_v0.1.2) rfl (by decide) rfl rfl rfl (fun F => (q_ldb ty23 rfl (Has.here.there.app F) rfl)) ?_
      refine w_pu (v := .pointer (some ⟨g60, 0, none⟩)) rfl (by decide) rfl rfl rfl (p_fabE fa33_0 rfl rfl) ?_
      refine w_q (v := .agg #[.string (((nth v0.2 Q50.2.toNat).1).1), .string (((nth v0.2 Q50.2.toNat).1).2)]) rfl (by decide) rfl rfl rfl (fun F => (q_ldbP [.string (((nth v0.2 Q50.2.toNat).1).1), .string (((nth v0.2 Q50.2.toNat).1).2)] ty30 rfl (Has.here.app F) rfl rfl)) ?_
      obtain ⟨r62, h63, H1⟩ := bd.of H1
      refine w_ed rfl (by decide) rfl Rdy.nil rfl (n_callB (vs := [.slice x_v0.1.1 v0.1.length x_v0.1.2, .agg #[.string (((nth v0.2 Q50.2.toNat).1).1), .string (((nth v0.2 Q50.2.toNat).1).2)]]) (c_spec_l11Ids v0.1 x_v0.1 ((nth v0.2 Q50.2.toNat).1) h63) (fun _ => (Solo.tree Solo.nil)) rfl (EntsB.cons (Ent.b (Ent.dimm Ent.z.s)) EntsB.nil)) ?_
      rintro _ _ _ ⟨x64, rfl, rfl, rfl⟩
      refine ⟨(PdOk.anc (by kernel_rfl) (PdOk.anc (by kernel_rfl) (PdOk.q rfl rfl (fun F => (q_ldb ty31 rfl (Has.here.there.app F) rfl)) (PdOk.anc (by kernel_rfl) PdOk.nil)))), ?_⟩
      obtain ⟨r65, h66, H1⟩ := bd.of H1
      refine w_q (v := .bool (r65)) rfl (by decide) rfl rfl rfl (fun F => (q_call (vs := [.slice (((X2 Q50.2.toNat).2).1) (((nth v0.2 Q50.2.toNat).2).length) (((X2 Q50.2.toNat).2).2.1), .slice x64.1 r62.length x64.2]) (c_spec_l11Same ((nth v0.2 Q50.2.toNat).2) (((X2 Q50.2.toNat).2).1, ((X2 Q50.2.toNat).2).2.1) r62 x64 h66) rfl (EntsB.cons (Ent.b (Ent.dimm (Ent.dsnd (Ent.del Ent.z h59.lt)))) (EntsB.cons (EntB.tree (Has.here.app F)) EntsB.nil)))) ?_
      refine w_pu (v := .bool (!r65)) rfl (by decide) rfl rfl rfl (p_not rfl) ?_
      refine w_pu (v := .bool (!r65)) rfl (by decide) rfl rfl rfl (p_pickF rfl rfl) ?_
      rcases Bool.eq_false_or_eq_true (!r65) with h67 | h67
      ·have H1 := cdT h67 H1
       refine w_pu (v := .bool (true)) rfl (by decide) rfl rfl rfl ((Pu.eqv (v := .bool (!r65)) (p_move rfl) (congrArg Value.bool h67))) ?_
       refine w_skip rfl (by decide) rfl rfl rfl ?_
       refine w_skip rfl (by decide) rfl rfl rfl ?_
       refine w_skip rfl (by decide) rfl rfl rfl ?_
       refine w_skip rfl (by decide) rfl rfl rfl ?_
       refine w_skip rfl (by decide) rfl rfl rfl ?_
       refine w_skip rfl (by decide) rfl rfl rfl ?_
       refine w_skip rfl (by decide) rfl rfl rfl ?_
       refine w_skip rfl (by decide) rfl rfl rfl ?_
       refine w_skip rfl (by decide) rfl rfl rfl ?_
       refine w_skip rfl (by decide) rfl rfl rfl ?_
       refine w_skip rfl (by decide) rfl rfl rfl ?_
       refine w_skip rfl (by decide) rfl rfl rfl ?_
       refine w_skip rfl (by decide) rfl rfl rfl ?_
       refine w_skip rfl (by decide) rfl rfl rfl ?_
       refine w_skip rfl (by decide) rfl rfl rfl ?_
       refine w_pu (v := .bool (true)) rfl (by decide) rfl rfl rfl (p_pickT rfl rfl) ?_
       refine w_nil ?_
       show At _ _ _ _ _ _
       refine nT (?_)
       refine Tr.condT rfl ?_
       refine Tr.seq (Tr.region ?_)
       refine Rg.q (v := .bool (false)) (Pu.qo (p_assign rfl)) (by decide) (Rg.nl (nT ?_))
       refine tRet ?_
       refine rT (rB (rT (rT (rB (rT (rT (?_)))))))
       have hx := hb55 _ (Option.some.inj H1).symm; subst hx
       replace H := sw.r H
       have hr := Option.some.inj H; subst hr
       exact back1 () rfl (ResV.tmp (v := .bool (false)) rfl) rfl Ents.nil Take.nil
      ·have H1 := cdF h67 H1
       refine w_pu (v := .bool (false)) rfl (by decide) rfl rfl rfl ((Pu.eqv (v := .bool (!r65)) (p_move rfl) (congrArg Value.bool h67))) ?_
       refine w_pu (v := .int .i64 (Q50.2)) rfl (by decide) rfl rfl rfl (p_move rfl) ?_
       refine w_pu (v := .bool (decide (0 < Q50.2))) rfl (by decide) rfl rfl rfl (p_gtr rfl rfl) ?_
       rcases Bool.eq_false_or_eq_true (decide (0 < Q50.2)) with h68 | h68
       ·have H1 := cdT h68 H1
        refine w_pu (v := .bool (true)) rfl (by decide) rfl rfl rfl ((Pu.eqv (v := .bool (decide (0 < Q50.2))) (p_move rfl) (congrArg Value.bool h68))) ?_
        refine w_pu (v := .pointer (some ⟨g3, 1, none⟩)) rfl (by decide) rfl rfl rfl (p_fabE fa26_1 rfl rfl) ?_
        refine w_q (v := .slice x_v0.2.1 v0.2.length x_v0.2.2) rfl (by decide) rfl rfl rfl (fun F => (q_ldb ty24 rfl (Has.here.there.there.app F) rfl)) ?_
        refine w_pu (v := .int .i64 (Q50.2)) rfl (by decide) rfl rfl rfl (p_move rfl) ?_
        obtain ⟨h69, H1⟩ := gd.of H1
        refine w_pu (v := .int .i64 (Q50.2 - 1)) rfl (by decide) rfl rfl rfl (p_sub rfl rfl h69) ?_
        obtain ⟨h70, H1⟩ := gd.of H1
        refine w_q (v := elp x_v0.2.1 (((Q50.2 - 1).toNat) * Enc.sz Post + 0)) rfl (by decide) rfl rfl rfl (fun F => (q_ixg (l := v0.2) (E := fun i => Dp.denc (nth v0.2 i) (X2 i)) (oa := x_v0.2.1) Try.underlying24 ty33 rfl rfl h70 rfl (Ent.b (Ent.darr Ent.z)))) ?_
        refine w_q (v := elp x_v0.2.1 (((Q50.2 - 1).toNat) * Enc.sz Post + 0)) rfl (by decide) rfl rfl rfl (fun F => (q_faeE (l := v0.2) (E := fun i => Dp.denc (nth v0.2 i) (X2 i)) (oa := x_v0.2.1) (j := 0) ((Q50.2 - 1).toNat) fa33_0 rfl (Ent.b (Ent.darr Ent.z)) h70.lt rfl)) ?_
        refine w_q (v := .agg #[.string (((nth v0.2 ((Q50.2 - 1).toNat)).1).1), .string (((nth v0.2 ((Q50.2 - 1).toNat)).1).2)]) rfl (by decide) rfl rfl rfl (fun F => (q_ldeP [.string (((nth v0.2 ((Q50.2 - 1).toNat)).1).1), .string (((nth v0.2 ((Q50.2 - 1).toNat)).1).2)] (l := v0.2) (E := fun i => Dp.denc (nth v0.2 i) (X2 i)) (oa := x_v0.2.1) (i := (Q50.2 - 1).toNat) (j := 0) ty30 rfl (Ent.b (Ent.darr Ent.z)) h70.lt rfl rfl)) ?_
        refine w_pu (v := .pointer (some ⟨g60, 0, none⟩)) rfl (by decide) rfl rfl rfl (p_fabE fa33_0 rfl rfl) ?_
        refine w_q (v := .agg #[.string (((nth v0.2 Q50.2.toNat).1).1), .string (((nth v0.2 Q50.2.toNat).1).2)]) rfl (by decide) rfl rfl rfl (fun F => (q_ldbP [.string (((nth v0.2 Q50.2.toNat).1).1), .string (((nth v0.2 Q50.2.toNat).1).2)] ty30 rfl (Has.here.there.app F) rfl rfl)) ?_
        obtain ⟨r71, h72, H1⟩ := bd.of H1
        refine w_q (v := .bool (r71)) rfl (by decide) rfl rfl rfl (fun F => (q_call (vs := [.agg #[.string (((nth v0.2 ((Q50.2 - 1).toNat)).1).1), .string (((nth v0.2 ((Q50.2 - 1).toNat)).1).2)], .agg #[.string (((nth v0.2 Q50.2.toNat).1).1), .string (((nth v0.2 Q50.2.toNat).1).2)]]) (c_spec_l11Less ((nth v0.2 ((Q50.2 - 1).toNat)).1) ((nth v0.2 Q50.2.toNat).1) h72) rfl EntsB.nil)) ?_
        refine w_pu (v := .bool (!r71)) rfl (by decide) rfl rfl rfl (p_not rfl) ?_
        refine w_pu (v := .bool (!r71)) rfl (by decide) rfl rfl rfl (p_pickT rfl rfl) ?_
        refine w_pu (v := .bool (!r71)) rfl (by decide) rfl rfl rfl (p_pickF rfl rfl) ?_
        refine w_nil ?_
        show At _ _ _ _ _ _
        refine nT (?_)
        refine Tr.cond (b := !r71) rfl (fun h73 => ?_) (fun h73 => ?_)
        ·have H1 := cdT h73 H1
         refine Tr.seq (Tr.region ?_)
         refine Rg.q (v := .bool (false)) (Pu.qo (p_assign rfl)) (by decide) (Rg.nl (nT ?_))
         refine tRet ?_
         refine rT (rB (rT (rT (rB (rT (rT (?_)))))))
         have hx := hb55 _ (Option.some.inj H1).symm; subst hx
         replace H := sw.r H
         have hr := Option.some.inj H; subst hr
         exact back1 () rfl (ResV.tmp (v := .bool (false)) rfl) rfl Ents.nil Take.nil
        ·have H1 := cdF h73 H1
         refine tSkip ?_
         refine nT (?_)
         refine Tr.region ?_
         refine Rg.q (v := .int .i64 (Q50.1)) (Pu.qo (p_move rfl)) (by decide) ?_
         refine Rg.q (v := .pointer (some ⟨g60, 2, none⟩)) (Pu.qo (p_fabE fa33_1 rfl rfl)) (by decide) ?_
         refine Rg.q (v := .slice (((X2 Q50.2.toNat).2).1) (((nth v0.2 Q50.2.toNat).2).length) (((X2 Q50.2.toNat).2).2.1)) (q_ldb ty31 rfl Has.here.there rfl) (by decide) ?_
         refine Rg.q (v := .int .i64 ((((nth v0.2 Q50.2.toNat).2).length : Int))) (Pu.qo (p_len 3 Try.underlying31 rfl)) (by decide) ?_
         obtain ⟨h74, H1⟩ := gd.of H1
         refine Rg.q (v := .int .i64 (Q50.1 - (((nth v0.2 Q50.2.toNat).2).length : Int))) (Pu.qo (p_sub rfl rfl h74)) (by decide) ?_
         refine Rg.q (v := .int .i64 (Q50.1 - (((nth v0.2 Q50.2.toNat).2).length : Int))) (Pu.qo (p_assign rfl)) (by decide) (Rg.nl ?_)
         refine nB (nT (?_))
         refine Tr.region ?_
         refine Rg.q (v := .int .i64 (Q50.2)) (Pu.qo (p_move rfl)) (by decide) ?_
         obtain ⟨h75, H1⟩ := gd.of H1
         refine Rg.q (v := .int .i64 (Q50.2 + 1)) (Pu.qo (p_add rfl rfl h75)) (by decide) ?_
         refine Rg.q (v := .int .i64 (Q50.2 + 1)) (Pu.qo (p_assign rfl)) (by decide) (Rg.nl ?_)
         exact nLC ⟨(m57, (Q50.1 - (((nth v0.2 Q50.2.toNat).2).length : Int), Q50.2 + 1), ()), hi54 _ (Option.some.inj H1).symm⟩ (Nat.lt_succ_self _) ⟨rfl, rfl, rfl, trivial⟩ Ents.refl (.cons Del.here.there.there .nil)
       ·have H1 := cdF h68 H1
        refine w_pu (v := .bool (false)) rfl (by decide) rfl rfl rfl ((Pu.eqv (v := .bool (decide (0 < Q50.2))) (p_move rfl) (congrArg Value.bool h68))) ?_
        refine w_skip rfl (by decide) rfl rfl rfl ?_
        refine w_skip rfl (by decide) rfl rfl rfl ?_
        refine w_skip rfl (by decide) rfl rfl rfl ?_
        refine w_skip rfl (by decide) rfl rfl rfl ?_
        refine w_skip rfl (by decide) rfl rfl rfl ?_
        refine w_skip rfl (by decide) rfl rfl rfl ?_
        refine w_skip rfl (by decide) rfl rfl rfl ?_
        refine w_skip rfl (by decide) rfl rfl rfl ?_
        refine w_skip rfl (by decide) rfl rfl rfl ?_
        refine w_skip rfl (by decide) rfl rfl rfl ?_
        refine w_skip rfl (by decide) rfl rfl rfl ?_
        refine w_pu (v := .bool (false)) rfl (by decide) rfl rfl rfl (p_pickF rfl rfl) ?_
        refine w_pu (v := .bool (false)) rfl (by decide) rfl rfl rfl (p_pickF rfl rfl) ?_
        refine w_nil ?_
        show At _ _ _ _ _ _
        refine nT (?_)
        refine Tr.condF rfl ?_
        refine tSkip ?_
        refine nT (?_)
        refine Tr.region ?_
        refine Rg.q (v := .int .i64 (Q50.1)) (Pu.qo (p_move rfl)) (by decide) ?_
        refine Rg.q (v := .pointer (some ⟨g60, 2, none⟩)) (Pu.qo (p_fabE fa33_1 rfl rfl)) (by decide) ?_
        refine Rg.q (v := .slice (((X2 Q50.2.toNat).2).1) (((nth v0.2 Q50.2.toNat).2).length) (((X2 Q50.2.toNat).2).2.1)) (q_ldb ty31 rfl Has.here.there rfl) (by decide) ?_
        refine Rg.q (v := .int .i64 ((((nth v0.2 Q50.2.toNat).2).length : Int))) (Pu.qo (p_len 3 Try.underlying31 rfl)) (by decide) ?_
        obtain ⟨h76, H1⟩ := gd.of H1
        refine Rg.q (v := .int .i64 (Q50.1 - (((nth v0.2 Q50.2.toNat).2).length : Int))) (Pu.qo (p_sub rfl rfl h76)) (by decide) ?_
        refine Rg.q (v := .int .i64 (Q50.1 - (((nth v0.2 Q50.2.toNat).2).length : Int))) (Pu.qo (p_assign rfl)) (by decide) (Rg.nl ?_)
        refine nB (nT (?_))
        refine Tr.region ?_
        refine Rg.q (v := .int .i64 (Q50.2)) (Pu.qo (p_move rfl)) (by decide) ?_
        obtain ⟨h77, H1⟩ := gd.of H1
        refine Rg.q (v := .int .i64 (Q50.2 + 1)) (Pu.qo (p_add rfl rfl h77)) (by decide) ?_
        refine Rg.q (v := .int .i64 (Q50.2 + 1)) (Pu.qo (p_assign rfl)) (by decide) (Rg.nl ?_)
        exact nLC ⟨(m57, (Q50.1 - (((nth v0.2 Q50.2.toNat).2).length : Int), Q50.2 + 1), ()), hi54 _ (Option.some.inj H1).symm⟩ (Nat.lt_succ_self _) ⟨rfl, rfl, rfl, trivial⟩ Ents.refl (.cons Del.here.there.there .nil)
    ·have H1 := cdF h58 H1
     refine tExit (xT (xT (xE (?_))))
     exact nMC ⟨(Q50.1, ()), (hb55 _ (Option.some.inj H1).symm).symm⟩ ⟨rfl, trivial⟩ Ents.refl Take.nil
   ·rintro ⟨⟨e78, y52⟩, hx⟩; subst hx; replace H := sw.l H
    show At _ _ [(3, .int .i64 (e78))] _ [] _
    refine nT (?_)
    refine Tr.seq (Tr.region ?_)
    refine Rg.q (v := .int .i64 (e78)) (Pu.qo (p_move rfl)) (by decide) ?_
    refine Rg.q (v := .bool (decide (e78 = 0))) (Pu.qo (p_eql rfl rfl)) (by decide) ?_
    refine Rg.q (v := .bool (decide (e78 = 0))) (Pu.qo (p_assign rfl)) (by decide) (Rg.nl (nT ?_))
    refine tRet ?_
    have hr := Option.some.inj H; subst hr
    exact back1 () rfl (ResV.tmp (v := .bool (decide (e78 = 0))) rfl) rfl Ents.nil Take.nil
noncomputable def p_impl_tagOk (v0 : Tag) : Option (Bool) := bd (cond (decide ((v0.1.size : Int) = 1)) (cond (!sless v0.1 (⟨#[97]⟩ : ByteArray)) (cond ((sless v0.1 (⟨#[100]⟩ : ByteArray) || decide (v0.1 = (⟨#[100]⟩ : ByteArray)))) (cond (decide ((v0.2.size : Int) = 1)) (cond (!sless v0.2 (⟨#[112]⟩ : ByteArray)) (some ((sless v0.2 (⟨#[122]⟩ : ByteArray) || decide (v0.2 = (⟨#[122]⟩ : ByteArray))))) (some (false))) (some (false))) (some (false))) (some (false))) (some (false))) fun b2 => some b2
theorem c_impl_tagOk {r : Bool} (v0 : Tag) (H : p_impl_tagOk v0 = some r) : Fn' Try.prog 118 #[.agg #[.string (v0.1), .string (v0.2)]] [] [] (ι := Unit) (fun _ => .bool (r)) (fun _ => []) (fun _ => []) := by
 refine calls_of (args := [_]) Try.func118 rfl (by kernel_rfl) Try.ntmps118 (by simp) fun c => ?_
 unfold p_impl_tagOk at H
 refine Tr.seq (Tr.region ?_)
 refine Rg.ed (e_box (t := 30) (v := .agg #[.string (v0.1), .string (v0.2)]) rfl) rfl (by decide) ?_
 rintro _ _ _ ⟨g1, rfl, rfl, rfl⟩
 refine Rg.q (v := .bool (false)) (Pu.qo (p_assign rfl)) (by decide) (Rg.nl (nT ?_))
 obtain ⟨b2, j3, H⟩ := bd.of H
 refine tMid1 [(2, .bool (b2))] ?_ ?_
 ·refine tLinT [(1, .pointer (some ⟨g1, 0, none⟩))] ⟨rfl, trivial⟩ ?_
  refine Lin.q (v := .pointer (some ⟨g1, 0, none⟩)) (by decide) (Pu.qo (p_fabE fa30_0 rfl rfl)) ?_
  refine Lin.q (v := .string (v0.1)) (by decide) (q_ldb ty9 rfl Has.here rfl) ?_
  refine Lin.q (v := .int .i64 ((v0.1.size : Int))) (by decide) (Pu.qo (p_slen Try.underlying9 rfl)) ?_
  refine Lin.q (v := .bool (decide ((v0.1.size : Int) = 1))) (by decide) (Pu.qo (p_eql rfl rfl)) ?_
  rcases Bool.eq_false_or_eq_true (decide ((v0.1.size : Int) = 1)) with h4 | h4
  ·have j3 := cdT h4 j3
   refine Lin.q (v := .bool (true)) (by decide) (Qo.eqv (v := .bool (decide ((v0.1.size : Int) = 1))) (Pu.qo (p_move rfl)) (congrArg Value.bool h4)) ?_
   refine Lin.g (v := .pointer (some ⟨g1, 0, none⟩)) (by decide) rfl (Pu.qo (p_fabE fa30_0 rfl rfl)) ?_
   refine Lin.g (v := .string (v0.1)) (by decide) rfl (q_ldb ty9 rfl Has.here rfl) ?_
   refine Lin.g (v := .bool (!sless v0.1 (⟨#[97]⟩ : ByteArray))) (by decide) rfl (Pu.qo (p_sgeq rfl rfl)) ?_
   refine Lin.q (v := .bool (!sless v0.1 (⟨#[97]⟩ : ByteArray))) (by decide) (Pu.qo (p_pickT rfl rfl)) ?_
   rcases Bool.eq_false_or_eq_true (!sless v0.1 (⟨#[97]⟩ : ByteArray)) with h5 | h5
   ·have j3 := cdT h5 j3
    refine Lin.q (v := .bool (true)) (by decide) (Qo.eqv (v := .bool (!sless v0.1 (⟨#[97]⟩ : ByteArray))) (Pu.qo (p_move rfl)) (congrArg Value.bool h5)) ?_
    refine Lin.g (v := .pointer (some ⟨g1, 0, none⟩)) (by decide) rfl (Pu.qo (p_fabE fa30_0 rfl rfl)) ?_
    refine Lin.g (v := .string (v0.1)) (by decide) rfl (q_ldb ty9 rfl Has.here rfl) ?_
    refine Lin.g (v := .bool ((sless v0.1 (⟨#[100]⟩ : ByteArray) || decide (v0.1 = (⟨#[100]⟩ : ByteArray))))) (by decide) rfl (Pu.qo (p_sleq rfl rfl)) ?_
    refine Lin.q (v := .bool ((sless v0.1 (⟨#[100]⟩ : ByteArray) || decide (v0.1 = (⟨#[100]⟩ : ByteArray))))) (by decide) (Pu.qo (p_pickT rfl rfl)) ?_
    rcases Bool.eq_false_or_eq_true ((sless v0.1 (⟨#[100]⟩ : ByteArray) || decide (v0.1 = (⟨#[100]⟩ : ByteArray)))) with h6 | h6
    ·have j3 := cdT h6 j3
     refine Lin.q (v := .bool (true)) (by decide) (Qo.eqv (v := .bool ((sless v0.1 (⟨#[100]⟩ : ByteArray) || decide (v0.1 = (⟨#[100]⟩ : ByteArray))))) (Pu.qo (p_move rfl)) (congrArg Value.bool h6)) ?_
     refine Lin.g (v := .pointer (some ⟨g1, 1, none⟩)) (by decide) rfl (Pu.qo (p_fabE fa30_1 rfl rfl)) ?_
     refine Lin.g (v := .string (v0.2)) (by decide) rfl (q_ldb ty9 rfl Has.here rfl) ?_
     refine Lin.g (v := .int .i64 ((v0.2.size : Int))) (by decide) rfl (Pu.qo (p_slen Try.underlying9 rfl)) ?_
     refine Lin.g (v := .bool (decide ((v0.2.size : Int) = 1))) (by decide) rfl (Pu.qo (p_eql rfl rfl)) ?_
     refine Lin.q (v := .bool (decide ((v0.2.size : Int) = 1))) (by decide) (Pu.qo (p_pickT rfl rfl)) ?_
     rcases Bool.eq_false_or_eq_true (decide ((v0.2.size : Int) = 1)) with h7 | h7
     ·have j3 := cdT h7 j3
      refine Lin.q (v := .bool (true)) (by decide) (Qo.eqv (v := .bool (decide ((v0.2.size : Int) = 1))) (Pu.qo (p_move rfl)) (congrArg Value.bool h7)) ?_
      refine Lin.g (v := .pointer (some ⟨g1, 1, none⟩)) (by decide) rfl (Pu.qo (p_fabE fa30_1 rfl rfl)) ?_
      refine Lin.g (v := .string (v0.2)) (by decide) rfl (q_ldb ty9 rfl Has.here rfl) ?_
      refine Lin.g (v := .bool (!sless v0.2 (⟨#[112]⟩ : ByteArray))) (by decide) rfl (Pu.qo (p_sgeq rfl rfl)) ?_
      refine Lin.q (v := .bool (!sless v0.2 (⟨#[112]⟩ : ByteArray))) (by decide) (Pu.qo (p_pickT rfl rfl)) ?_
      rcases Bool.eq_false_or_eq_true (!sless v0.2 (⟨#[112]⟩ : ByteArray)) with h8 | h8
      ·have j3 := cdT h8 j3
       refine Lin.q (v := .bool (true)) (by decide) (Qo.eqv (v := .bool (!sless v0.2 (⟨#[112]⟩ : ByteArray))) (Pu.qo (p_move rfl)) (congrArg Value.bool h8)) ?_
       refine Lin.g (v := .pointer (some ⟨g1, 1, none⟩)) (by decide) rfl (Pu.qo (p_fabE fa30_1 rfl rfl)) ?_
       refine Lin.g (v := .string (v0.2)) (by decide) rfl (q_ldb ty9 rfl Has.here rfl) ?_
       refine Lin.g (v := .bool ((sless v0.2 (⟨#[122]⟩ : ByteArray) || decide (v0.2 = (⟨#[122]⟩ : ByteArray))))) (by decide) rfl (Pu.qo (p_sleq rfl rfl)) ?_
       refine Lin.q (v := .bool ((sless v0.2 (⟨#[122]⟩ : ByteArray) || decide (v0.2 = (⟨#[122]⟩ : ByteArray))))) (by decide) (Pu.qo (p_pickT rfl rfl)) ?_
       refine Lin.q (v := .bool ((sless v0.2 (⟨#[122]⟩ : ByteArray) || decide (v0.2 = (⟨#[122]⟩ : ByteArray))))) (by decide) (Pu.qo (p_assign rfl)) ?_
       have j3 := Option.some.inj j3; subst j3
       show At _ _ _ _ _ _
       exact n1 ⟨rfl, trivial⟩
      ·have j3 := cdF h8 j3
       refine Lin.q (v := .bool (false)) (by decide) (Qo.eqv (v := .bool (!sless v0.2 (⟨#[112]⟩ : ByteArray))) (Pu.qo (p_move rfl)) (congrArg Value.bool h8)) ?_
       refine Lin.skip (by decide) rfl ?_
       refine Lin.skip (by decide) rfl ?_
       refine Lin.skip (by decide) rfl ?_
       refine Lin.q (v := .bool (false)) (by decide) (Pu.qo (p_pickF rfl rfl)) ?_
       refine Lin.q (v := .bool (false)) (by decide) (Pu.qo (p_assign rfl)) ?_
       have j3 := Option.some.inj j3; subst j3
       show At _ _ _ _ _ _
       exact n1 ⟨rfl, trivial⟩
     ·have j3 := cdF h7 j3
      refine Lin.q (v := .bool (false)) (by decide) (Qo.eqv (v := .bool (decide ((v0.2.size : Int) = 1))) (Pu.qo (p_move rfl)) (congrArg Value.bool h7)) ?_
      refine Lin.skip (by decide) rfl ?_
      refine Lin.skip (by decide) rfl ?_
      refine Lin.skip (by decide) rfl ?_
      refine Lin.q (v := .bool (false)) (by decide) (Pu.qo (p_pickF rfl rfl)) ?_
      refine Lin.q (v := .bool (false)) (by decide) (Pu.qo (p_move rfl)) ?_
      refine Lin.skip (by decide) rfl ?_
      refine Lin.skip (by decide) rfl ?_
      refine Lin.skip (by decide) rfl ?_
      refine Lin.q (v := .bool (false)) (by decide) (Pu.qo (p_pickF rfl rfl)) ?_
      refine Lin.q (v := .bool (false)) (by decide) (Pu.qo (p_assign rfl)) ?_
      have j3 := Option.some.inj j3; subst j3
      show At _ _ _ _ _ _
      exact n1 ⟨rfl, trivial⟩
    ·have j3 := cdF h6 j3
     refine Lin.q (v := .bool (false)) (by decide) (Qo.eqv (v := .bool ((sless v0.1 (⟨#[100]⟩ : ByteArray) || decide (v0.1 = (⟨#[100]⟩ : ByteArray))))) (Pu.qo (p_move rfl)) (congrArg Value.bool h6)) ?_
     refine Lin.skip (by decide) rfl ?_
     refine Lin.skip (by decide) rfl ?_
     refine Lin.skip (by decide) rfl ?_
     refine Lin.skip (by decide) rfl ?_
     refine Lin.q (v := .bool (false)) (by decide) (Pu.qo (p_pickF rfl rfl)) ?_
     refine Lin.q (v := .bool (false)) (by decide) (Pu.qo (p_move rfl)) ?_
     refine Lin.skip (by decide) rfl ?_
     refine Lin.skip (by decide) rfl ?_
     refine Lin.skip (by decide) rfl ?_
     refine Lin.q (v := .bool (false)) (by decide) (Pu.qo (p_pickF rfl rfl)) ?_
     refine Lin.q (v := .bool (false)) (by decide) (Pu.qo (p_move rfl)) ?_
     refine Lin.skip (by decide) rfl ?_
     refine Lin.skip (by decide) rfl ?_
     refine Lin.skip (by decide) rfl ?_
     refine Lin.q (v := .bool (false)) (by decide) (Pu.qo (p_pickF rfl rfl)) ?_
     refine Lin.q (v := .bool (false)) (by decide) (Pu.qo (p_assign rfl)) ?_
     have j3 := Option.some.inj j3; subst j3
     show At _ _ _ _ _ _
     exact n1 ⟨rfl, trivial⟩
   ·have j3 := cdF h5 j3
    refine Lin.q (v := .bool (false)) (by decide) (Qo.eqv (v := .bool (!sless v0.1 (⟨#[97]⟩ : ByteArray))) (Pu.qo (p_move rfl)) (congrArg Value.bool h5)) ?_
    refine Lin.skip (by decide) rfl ?_
    refine Lin.skip (by decide) rfl ?_
    refine Lin.skip (by decide) rfl ?_
    refine Lin.q (v := .bool (false)) (by decide) (Pu.qo (p_pickF rfl rfl)) ?_
    refine Lin.q (v := .bool (false)) (by decide) (Pu.qo (p_move rfl)) ?_
    refine Lin.skip (by decide) rfl ?_
    refine Lin.skip (by decide) rfl ?_
    refine Lin.skip (by decide) rfl ?_
    refine Lin.skip (by decide) rfl ?_
    refine Lin.q (v := .bool (false)) (by decide) (Pu.qo (p_pickF rfl rfl)) ?_
    refine Lin.q (v := .bool (false)) (by decide) (Pu.qo (p_move rfl)) ?_
    refine Lin.skip (by decide) rfl ?_
    refine Lin.skip (by decide) rfl ?_
    refine Lin.skip (by decide) rfl ?_
    refine Lin.q (v := .bool (false)) (by decide) (Pu.qo (p_pickF rfl rfl)) ?_
    refine Lin.q (v := .bool (false)) (by decide) (Pu.qo (p_move rfl)) ?_
    refine Lin.skip (by decide) rfl ?_
    refine Lin.skip (by decide) rfl ?_
    refine Lin.skip (by decide) rfl ?_
    refine Lin.q (v := .bool (false)) (by decide) (Pu.qo (p_pickF rfl rfl)) ?_
    refine Lin.q (v := .bool (false)) (by decide) (Pu.qo (p_assign rfl)) ?_
    have j3 := Option.some.inj j3; subst j3
    show At _ _ _ _ _ _
    exact n1 ⟨rfl, trivial⟩
  ·have j3 := cdF h4 j3
   refine Lin.q (v := .bool (false)) (by decide) (Qo.eqv (v := .bool (decide ((v0.1.size : Int) = 1))) (Pu.qo (p_move rfl)) (congrArg Value.bool h4)) ?_
   refine Lin.skip (by decide) rfl ?_
   refine Lin.skip (by decide) rfl ?_
   refine Lin.skip (by decide) rfl ?_
   refine Lin.q (v := .bool (false)) (by decide) (Pu.qo (p_pickF rfl rfl)) ?_
   refine Lin.q (v := .bool (false)) (by decide) (Pu.qo (p_move rfl)) ?_
   refine Lin.skip (by decide) rfl ?_
   refine Lin.skip (by decide) rfl ?_
   refine Lin.skip (by decide) rfl ?_
   refine Lin.q (v := .bool (false)) (by decide) (Pu.qo (p_pickF rfl rfl)) ?_
   refine Lin.q (v := .bool (false)) (by decide) (Pu.qo (p_move rfl)) ?_
   refine Lin.skip (by decide) rfl ?_
   refine Lin.skip (by decide) rfl ?_
   refine Lin.skip (by decide) rfl ?_
   refine Lin.skip (by decide) rfl ?_
   refine Lin.q (v := .bool (false)) (by decide) (Pu.qo (p_pickF rfl rfl)) ?_
   refine Lin.q (v := .bool (false)) (by decide) (Pu.qo (p_move rfl)) ?_
   refine Lin.skip (by decide) rfl ?_
   refine Lin.skip (by decide) rfl ?_
   refine Lin.skip (by decide) rfl ?_
   refine Lin.q (v := .bool (false)) (by decide) (Pu.qo (p_pickF rfl rfl)) ?_
   refine Lin.q (v := .bool (false)) (by decide) (Pu.qo (p_move rfl)) ?_
   refine Lin.skip (by decide) rfl ?_
   refine Lin.skip (by decide) rfl ?_
   refine Lin.skip (by decide) rfl ?_
   refine Lin.q (v := .bool (false)) (by decide) (Pu.qo (p_pickF rfl rfl)) ?_
   refine Lin.q (v := .bool (false)) (by decide) (Pu.qo (p_assign rfl)) ?_
   have j3 := Option.some.inj j3; subst j3
   show At _ _ _ _ _ _
   exact n1 ⟨rfl, trivial⟩
 refine tRet ?_
 have hr := Option.some.inj H; subst hr
 exact back1 () rfl (ResV.tmp (v := .bool (b2)) rfl) rfl Ents.nil Take.nil
noncomputable def p_impl_within (v0 : Int) (v1 : Int) (v2 : Int) : Option (Bool) := bd (cond (decide (v1 ≤ v0)) (some (decide (v0 ≤ v2))) (some (false))) fun b1 => some b1
theorem c_impl_within {r : Bool} (v0 : Int) (v1 : Int) (v2 : Int) (H : p_impl_within v0 v1 v2 = some r) : Fn' Try.prog 119 #[.int .i64 (v0), .int .i64 (v1), .int .i64 (v2)] [] [] (ι := Unit) (fun _ => .bool (r)) (fun _ => []) (fun _ => []) := by
 refine calls_of (args := [_, _, _]) Try.func119 rfl (by kernel_rfl) Try.ntmps119 (by simp) fun c => ?_
 unfold p_impl_within at H
 refine Tr.seq (Tr.region ?_)
 refine Rg.q (v := .bool (false)) (Pu.qo (p_assign rfl)) (by decide) (Rg.nl (nT ?_))
 obtain ⟨b1, j2, H⟩ := bd.of H
 refine tMid1 [(6, .bool (b1))] ?_ ?_
 ·refine tLinT [(0, .int .i64 (v0)), (1, .int .i64 (v1)), (2, .int .i64 (v2))] ⟨rfl, rfl, rfl, trivial⟩ ?_
  refine Lin.q (v := .int .i64 (v0)) (by decide) (Pu.qo (p_move rfl)) ?_
  refine Lin.q (v := .int .i64 (v1)) (by decide) (Pu.qo (p_move rfl)) ?_
  refine Lin.q (v := .bool (decide (v1 ≤ v0))) (by decide) (Pu.qo (p_geq rfl rfl)) ?_
  rcases Bool.eq_false_or_eq_true (decide (v1 ≤ v0)) with h3 | h3
  ·have j2 := cdT h3 j2
   refine Lin.q (v := .bool (true)) (by decide) (Qo.eqv (v := .bool (decide (v1 ≤ v0))) (Pu.qo (p_move rfl)) (congrArg Value.bool h3)) ?_
   refine Lin.g (v := .int .i64 (v0)) (by decide) rfl (Pu.qo (p_move rfl)) ?_
   refine Lin.g (v := .int .i64 (v2)) (by decide) rfl (Pu.qo (p_move rfl)) ?_
   refine Lin.g (v := .bool (decide (v0 ≤ v2))) (by decide) rfl (Pu.qo (p_leq rfl rfl)) ?_
   refine Lin.q (v := .bool (decide (v0 ≤ v2))) (by decide) (Pu.qo (p_pickT rfl rfl)) ?_
   refine Lin.q (v := .bool (decide (v0 ≤ v2))) (by decide) (Pu.qo (p_assign rfl)) ?_
   have j2 := Option.some.inj j2; subst j2
   show At _ _ _ _ _ _
   exact n1 ⟨rfl, trivial⟩
  ·have j2 := cdF h3 j2
   refine Lin.q (v := .bool (false)) (by decide) (Qo.eqv (v := .bool (decide (v1 ≤ v0))) (Pu.qo (p_move rfl)) (congrArg Value.bool h3)) ?_
   refine Lin.skip (by decide) rfl ?_
   refine Lin.skip (by decide) rfl ?_
   refine Lin.skip (by decide) rfl ?_
   refine Lin.q (v := .bool (false)) (by decide) (Pu.qo (p_pickF rfl rfl)) ?_
   refine Lin.q (v := .bool (false)) (by decide) (Pu.qo (p_assign rfl)) ?_
   have j2 := Option.some.inj j2; subst j2
   show At _ _ _ _ _ _
   exact n1 ⟨rfl, trivial⟩
 refine tRet ?_
 have hr := Option.some.inj H; subst hr
 exact back1 () rfl (ResV.tmp (v := .bool (b1)) rfl) rfl Ents.nil Take.nil
noncomputable def p_impl_NameOk_b0 (v0 : (List Tag)) (Q5 : Int) : Option ((Int) ⊕ (Unit ⊕ Bool)) := cond (decide (Q5 < (v0.length : Int))) (gd (ix Q5 v0.length) <| bd (bd (p_impl_tagOk (nth v0 Q5.toNat)) fun r18 => cond (!r18) (some (true)) (cond (decide (0 < Q5)) (gd (I64 (Q5 - 1)) <| gd (ix (Q5 - 1) v0.length) <| some (!sless ((nth v0 ((Q5 - 1).toNat)).1) ((nth v0 Q5.toNat).1))) (some (false)))) fun b16 => cond (b16) (some (.inr (.inr false))) (gd (I64 (Q5 + 1)) <| some (.inl (Q5 + 1)))) (some (.inr (.inl ())))
noncomputable def p_impl_NameOk (v0 : (List Tag)) : Option (Bool) := bd (lp (p_impl_NameOk_b0 v0) 0) <| sw (fun _ => bd (p_impl_within (v0.length : Int) 1 3) fun r27 => some r27) (fun q => some q)
theorem c_impl_NameOk {r : Bool} (v0 : (List Tag)) (x_v0 : Option Addr × Nat) (H : p_impl_NameOk v0 = some r) : Fn' Try.prog 72 #[.slice x_v0.1 v0.length x_v0.2] [imm (.slice x_v0.1 v0.length x_v0.2) v0] [] (ι := Unit) (fun _ => .bool (r)) (fun _ => []) (fun _ => []) := by
 refine calls_of (args := [_]) Try.func72 rfl (by kernel_rfl) Try.ntmps72 (by simp) fun c => ?_
 unfold p_impl_NameOk at H
 refine Tr.seq (Tr.region ?_)
 refine Rg.q (v := .bool (false)) (Pu.qo (p_assign rfl)) (by decide) (Rg.nl (nT ?_))
 refine Tr.seq (Tr.seq (Tr.region ?_))
 refine Rg.q (v := .slice x_v0.1 v0.length x_v0.2) (Pu.qo (p_move rfl)) (by decide) ?_
 refine Rg.q (v := .int .i64 ((v0.length : Int))) (Pu.qo (p_len 30 Try.underlying38 rfl)) (by decide) ?_
 refine Rg.q (v := .int .i64 (0)) (Pu.qo (p_move rfl)) (by decide) (Rg.nl (nT ?_))
 obtain ⟨x1, hx2, H⟩ := bd.of H
 obtain ⟨n3, hx2⟩ := lp.of hx2
 refine tMidNC (ι := { q : (Unit) × Unit // x1 = .inl q.1 }) (fun ψ => [(0, .slice x_v0.1 v0.length x_v0.2)]) (fun ψ => []) ?_ ?_
 ·refine Tr.block ?_
  refine tLoopC (ι := { q : Nat × (Int) × Unit // itr (p_impl_NameOk_b0 v0) q.1 q.2.1 = some x1 }) (fun ζ => [(0, .slice x_v0.1 v0.length x_v0.2), (5, .slice x_v0.1 v0.length x_v0.2), (6, .int .i64 ((v0.length : Int))), (7, .int .i64 (ζ.1.2.1))]) (fun ζ => []) (fun ζ => ζ.1.1) ⟨(n3, 0, ()), hx2⟩ ⟨rfl, rfl, rfl, rfl, trivial⟩ Take.nil ?_
  rintro ⟨⟨m4, Q5, z6⟩, hk11⟩
  obtain ⟨m12, t8, e, H1, hi9, hb10⟩ := itr.of (n := m4) (s := Q5) hk11
  subst e; unfold p_impl_NameOk_b0 at H1
  show Tr _ _ _ _ _ [(0, .slice x_v0.1 v0.length x_v0.2), (5, .slice x_v0.1 v0.length x_v0.2), (6, .int .i64 ((v0.length : Int))), (7, .int .i64 (Q5))] _ []
  refine Tr.seq (Tr.region ?_)
  refine Rg.q (v := .bool (decide (Q5 < (v0.length : Int)))) (Pu.qo (p_lss rfl rfl)) (by decide) (Rg.nl (nT ?_))
  refine Tr.seq ?_
  refine Tr.cond (b := decide (Q5 < (v0.length : Int))) rfl (fun h13 => ?_) (fun h13 => ?_)
  ·have H1 := cdT h13 H1
   refine tSkip ?_
   refine nT (Tr.seq ?_)
   refine Tr.block ?_
   refine Tr.seq (Tr.region ?_)
   refine Rg.q (v := .int .i64 (Q5)) (Pu.qo (p_move rfl)) (by decide) ?_
   obtain ⟨h14, H1⟩ := gd.of H1
   refine Rg.q (v := elp x_v0.1 (Q5.toNat * Enc.sz Tag + 0)) (q_ixg (l := v0) (E := fun i => Flat.enc (nth v0 i)) (oa := x_v0.1) Try.underlying38 ty30 rfl rfl h14 rfl (EntB.flat (Ent.b Ent.z))) (by decide) ?_
   refine Rg.q (v := .agg #[.string ((nth v0 Q5.toNat).1), .string ((nth v0 Q5.toNat).2)]) (q_ldeA (l := v0) (E := fun i => Flat.enc (nth v0 i)) (oa := x_v0.1) (i := Q5.toNat) ty30 rfl (EntB.flat (Ent.b Ent.z)) h14.lt) (by decide) ?_
   refine Rg.ed (e_alloc ty30) rfl (by decide) ?_
   rintro _ _ _ ⟨g15, rfl, rfl, rfl⟩
   refine Rg.q (v := .int .i64 (Q5)) (Pu.qo (p_assign rfl)) (by decide) ?_
   refine Rg.en (e_store (v := .agg #[.string ((nth v0 Q5.toNat).1), .string ((nth v0 Q5.toNat).2)]) (cs' := [.string ((nth v0 Q5.toNat).1), .string ((nth v0 Q5.toNat).2)]) ty30 rfl rfl Upd.here rfl (by simp [Value.cells, Value.oneCell']) (Nat.le_of_ble_eq_true rfl) rfl) rfl ?_
   rintro _ _ _ ⟨rfl, rfl, rfl⟩
   refine Rg.nl (nT ?_)
   obtain ⟨b16, j17, H1⟩ := bd.of H1
   refine tMid1 [(29, .bool (b16)), (0, .slice x_v0.1 v0.length x_v0.2), (5, .slice x_v0.1 v0.length x_v0.2), (6, .int .i64 ((v0.length : Int))), (7, .int .i64 (Q5))] ?_ ?_
   ·refine tLinS [(3, .int .i64 (Q5)), (4, .pointer (some ⟨g15, 0, none⟩)), (0, .slice x_v0.1 v0.length x_v0.2), (5, .slice x_v0.1 v0.length x_v0.2), (6, .int .i64 ((v0.length : Int))), (7, .int .i64 (Q5))] Try.mixed (.inr (by kernel_rfl)) ⟨rfl, rfl, rfl, rfl, rfl, rfl, trivial⟩ rfl ?_
    refine Lin.q (v := .agg #[.string ((nth v0 Q5.toNat).1), .string ((nth v0 Q5.toNat).2)]) (by decide) (q_ldbA ty30 rfl Has.here rfl) ?_
    obtain ⟨r18, h19, j17⟩ := bd.of j17
    refine Lin.q (v := .bool (r18)) (by decide) (q_call (vs := [.agg #[.string ((nth v0 Q5.toNat).1), .string ((nth v0 Q5.toNat).2)]]) (c_impl_tagOk (nth v0 Q5.toNat) h19) rfl EntsB.nil) ?_
    refine Lin.q (v := .bool (!r18)) (by decide) (Pu.qo (p_not rfl)) ?_
    rcases Bool.eq_false_or_eq_true (!r18) with h20 | h20
    ·have j17 := cdT h20 j17
     refine Lin.q (v := .bool (true)) (by decide) (Qo.eqv (v := .bool (!r18)) (Pu.qo (p_move rfl)) (congrArg Value.bool h20)) ?_
     refine Lin.skip (by decide) rfl ?_
     refine Lin.skip (by decide) rfl ?_
     refine Lin.skip (by decide) rfl ?_
     refine Lin.skip (by decide) rfl ?_
     refine Lin.skip (by decide) rfl ?_
     refine Lin.skip (by decide) rfl ?_
     refine Lin.skip (by decide) rfl ?_
     refine Lin.skip (by decide) rfl ?_
     refine Lin.skip (by decide) rfl ?_
     refine Lin.skip (by decide) rfl ?_
     refine Lin.skip (by decide) rfl ?_
     refine Lin.skip (by decide) rfl ?_
     refine Lin.skip (by decide) rfl ?_
     refine Lin.q (v := .bool (true)) (by decide) (Pu.qo (p_pickT rfl rfl)) ?_
     have j17 := Option.some.inj j17; subst j17
     show At _ _ _ _ _ _
     exact n1 ⟨rfl, rfl, rfl, rfl, rfl, trivial⟩
    ·have j17 := cdF h20 j17
     refine Lin.q (v := .bool (false)) (by decide) (Qo.eqv (v := .bool (!r18)) (Pu.qo (p_move rfl)) (congrArg Value.bool h20)) ?_
     refine Lin.g (v := .int .i64 (Q5)) (by decide) rfl (Pu.qo (p_move rfl)) ?_
     refine Lin.g (v := .bool (decide (0 < Q5))) (by decide) rfl (Pu.qo (p_gtr rfl rfl)) ?_
     rcases Bool.eq_false_or_eq_true (decide (0 < Q5)) with h21 | h21
     ·have j17 := cdT h21 j17
      refine Lin.g (v := .bool (true)) (by decide) rfl (Qo.eqv (v := .bool (decide (0 < Q5))) (Pu.qo (p_move rfl)) (congrArg Value.bool h21)) ?_
      refine Lin.g (v := .slice x_v0.1 v0.length x_v0.2) (by decide) rfl (Pu.qo (p_move rfl)) ?_
      refine Lin.g (v := .int .i64 (Q5)) (by decide) rfl (Pu.qo (p_move rfl)) ?_
      obtain ⟨h22, j17⟩ := gd.of j17
      refine Lin.g (v := .int .i64 (Q5 - 1)) (by decide) rfl (Pu.qo (p_sub rfl rfl h22)) ?_
      obtain ⟨h23, j17⟩ := gd.of j17
      refine Lin.g (v := elp x_v0.1 (((Q5 - 1).toNat) * Enc.sz Tag + 0)) (by decide) rfl (q_ixg (l := v0) (E := fun i => Flat.enc (nth v0 i)) (oa := x_v0.1) Try.underlying38 ty30 rfl rfl h23 rfl (EntB.flat (Ent.b Ent.z))) ?_
      refine Lin.g (v := elp x_v0.1 (((Q5 - 1).toNat) * Enc.sz Tag + 0)) (by decide) rfl (q_faeE (l := v0) (E := fun i => Flat.enc (nth v0 i)) (oa := x_v0.1) (j := 0) ((Q5 - 1).toNat) fa30_0 rfl (EntB.flat (Ent.b Ent.z)) h23.lt rfl) ?_
      refine Lin.g (v := .string ((nth v0 ((Q5 - 1).toNat)).1)) (by decide) rfl (q_lde (l := v0) (E := fun i => Flat.enc (nth v0 i)) (oa := x_v0.1) (i := (Q5 - 1).toNat) (j := 0) ty9 rfl (EntB.flat (Ent.b Ent.z)) h23.lt rfl) ?_
      refine Lin.g (v := .pointer (some ⟨g15, 0, none⟩)) (by decide) rfl (Pu.qo (p_fabE fa30_0 rfl rfl)) ?_
      refine Lin.g (v := .string ((nth v0 Q5.toNat).1)) (by decide) rfl (q_ldb ty9 rfl Has.here rfl) ?_
      refine Lin.g (v := .bool (!sless ((nth v0 ((Q5 - 1).toNat)).1) ((nth v0 Q5.toNat).1))) (by decide) rfl (Pu.qo (p_sgeq rfl rfl)) ?_
      refine Lin.g (v := .bool (!sless ((nth v0 ((Q5 - 1).toNat)).1) ((nth v0 Q5.toNat).1))) (by decide) rfl (Pu.qo (p_pickT rfl rfl)) ?_
      refine Lin.q (v := .bool (!sless ((nth v0 ((Q5 - 1).toNat)).1) ((nth v0 Q5.toNat).1))) (by decide) (Pu.qo (p_pickF rfl rfl)) ?_
      have j17 := Option.some.inj j17; subst j17
      show At _ _ _ _ _ _
      exact n1 ⟨rfl, rfl, rfl, rfl, rfl, trivial⟩
     ·have j17 := cdF h21 j17
      refine Lin.g (v := .bool (false)) (by decide) rfl (Qo.eqv (v := .bool (decide (0 < Q5))) (Pu.qo (p_move rfl)) (congrArg Value.bool h21)) ?_
      refine Lin.skip (by decide) rfl ?_
      refine Lin.skip (by decide) rfl ?_
      refine Lin.skip (by decide) rfl ?_
      refine Lin.skip (by decide) rfl ?_
      refine Lin.skip (by decide) rfl ?_
      refine Lin.skip (by decide) rfl ?_
      refine Lin.skip (by decide) rfl ?_
      refine Lin.skip (by decide) rfl ?_
      refine Lin.skip (by decide) rfl ?_
      refine Lin.g (v := .bool (false)) (by decide) rfl (Pu.qo (p_pickF rfl rfl)) ?_
      refine Lin.q (v := .bool (false)) (by decide) (Pu.qo (p_pickF rfl rfl)) ?_
      have j17 := Option.some.inj j17; subst j17
      show At _ _ _ _ _ _
      exact n1 ⟨rfl, rfl, rfl, rfl, rfl, trivial⟩
   refine Tr.cond (b := b16) rfl (fun h24 => ?_) (fun h24 => ?_)
   ·have H1 := cdT h24 H1
    refine Tr.seq (Tr.region ?_)
    refine Rg.q (v := .bool (false)) (Pu.qo (p_assign rfl)) (by decide) (Rg.nl (nT ?_))
    refine tRet ?_
    refine rB (rT (rT (rB (rT (rT (?_))))))
    have hx := hb10 _ (Option.some.inj H1).symm; subst hx
    replace H := sw.r H
    have hr := Option.some.inj H; subst hr
    exact back1 () rfl (ResV.tmp (v := .bool (false)) rfl) rfl Ents.nil Take.nil
   ·have H1 := cdF h24 H1
    refine tSkip ?_
    refine nB (nT (?_))
    refine Tr.region ?_
    obtain ⟨h25, H1⟩ := gd.of H1
    refine Rg.q (v := .int .i64 (Q5 + 1)) (Pu.qo (p_add rfl rfl h25)) (by decide) ?_
    refine Rg.q (v := .int .i64 (Q5 + 1)) (Pu.qo (p_move rfl)) (by decide) (Rg.nl ?_)
    exact nLC ⟨(m12, Q5 + 1, ()), hi9 _ (Option.some.inj H1).symm⟩ (Nat.lt_succ_self _) ⟨rfl, rfl, rfl, rfl, trivial⟩ Ents.refl Take.nil
  ·have H1 := cdF h13 H1
   refine tExit (xT (xT (xE (?_))))
   exact nMC ⟨((), ()), (hb10 _ (Option.some.inj H1).symm).symm⟩ ⟨rfl, trivial⟩ Ents.refl Take.nil
 ·rintro ⟨⟨e26, y7⟩, hx⟩; subst hx; replace H := sw.l H
  show At _ _ [(0, .slice x_v0.1 v0.length x_v0.2)] _ [] _
  refine nT (?_)
  refine Tr.seq (Tr.region ?_)
  refine Rg.q (v := .slice x_v0.1 v0.length x_v0.2) (Pu.qo (p_move rfl)) (by decide) ?_
  refine Rg.q (v := .int .i64 ((v0.length : Int))) (Pu.qo (p_len 30 Try.underlying38 rfl)) (by decide) ?_
  obtain ⟨r27, h28, H⟩ := bd.of H
  refine Rg.q (v := .bool (r27)) (q_call (vs := [.int .i64 ((v0.length : Int)), .int .i64 (1), .int .i64 (3)]) (c_impl_within (v0.length : Int) 1 3 h28) rfl EntsB.nil) (by decide) ?_
  refine Rg.q (v := .bool (r27)) (Pu.qo (p_assign rfl)) (by decide) (Rg.nl (nT ?_))
  refine tRet ?_
  have hr := Option.some.inj H; subst hr
  exact back1 () rfl (ResV.tmp (v := .bool (r27)) rfl) rfl Ents.nil Take.nil
noncomputable def p_slices_Equal_Tag_Tag_b0 (v0 : (List Tag)) (v1 : (List Tag)) (Q6 : Int) : Option ((Int) ⊕ (Unit ⊕ Bool)) := cond (decide (Q6 < (v0.length : Int))) (gd (ix Q6 v0.length) <| gd (ix Q6 v1.length) <| cond (!decide (nth v0 Q6.toNat = nth v1 Q6.toNat)) (some (.inr (.inr false))) (gd (I64 (Q6 + 1)) <| some (.inl (Q6 + 1)))) (some (.inr (.inl ())))
noncomputable def p_slices_Equal_Tag_Tag (v0 : (List Tag)) (v1 : (List Tag)) : Option (Bool) := cond (!decide ((v0.length : Int) = (v1.length : Int))) (some false) (bd (lp (p_slices_Equal_Tag_Tag_b0 v0 v1) 0) <| sw (fun _ => some true) (fun q => some q))
end Go.Proofs.Ytichamokohjneaa
