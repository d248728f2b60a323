/- The walks and the plain laws, part 4: each function that the law reaches computes what its plain function tells, and what the plain functions answer. Conditions: lengths that memory can hold. -/
import Derived.Test.YtonnpkdadcafcaaGreatA3
namespace Go.Proofs.YtonnpkdadcafcaaGreat
open Go Go.Sx Tryz
theorem c_spec_DiskOpen {r : Store} (v0 : Disk) (x_v0 : (Option Addr × Nat) × (Option Addr × Nat) × (Option Addr × Nat) × Unit) (H : p_spec_DiskOpen v0 = some r) : Fn' prog 14 #[.agg #[.slice x_v0.1.1 v0.1.length x_v0.1.2, .slice x_v0.2.1.1 v0.2.1.length x_v0.2.1.2, .slice x_v0.2.2.1.1 v0.2.2.1.length x_v0.2.2.1.2, .int .i64 (v0.2.2.2)]] [imm (.slice x_v0.1.1 v0.1.length x_v0.1.2) v0.1, imm (.slice x_v0.2.1.1 v0.2.1.length x_v0.2.1.2) v0.2.1, imm (.slice x_v0.2.2.1.1 v0.2.2.1.length x_v0.2.2.1.2) v0.2.2.1] [] (ι := ((Option Addr × Nat) × (Option Addr × Nat)) × (Option Addr × Nat) × (Option Addr × Nat)) (fun x => .agg #[.slice x.1.1.1 r.1.1.length x.1.1.2, .slice x.1.2.1 r.1.2.length x.1.2.2, .slice x.2.1.1 r.2.1.length x.2.1.2, .slice x.2.2.1 r.2.2.length x.2.2.2]) (fun x => [imm (.slice x.1.1.1 r.1.1.length x.1.1.2) r.1.1, imm (.slice x.1.2.1 r.1.2.length x.1.2.2) r.1.2, imm (.slice x.2.1.1 r.2.1.length x.2.1.2) r.2.1, imm (.slice x.2.2.1 r.2.2.length x.2.2.2) r.2.2]) (fun _ => []) := by
 refine cof (args := [_]) func14 ntmps14 fun c => ?_
 unfold p_spec_DiskOpen at H
 refine Tr.openD Ent.z fun X1 => (Tr.openD Ent.z.s.s.s fun X2 => (sr (f1 (e_box (t := 32) rfl) fun g3 => (f1 (e_alloc ty42) fun g4 => (nl (Tr.seq (sr (Rg.o (q_ldbA ty32 rfl hs1 rfl) (bdo H fun r5 h6 H => (Rg.o (q_call (c_spec_DiskOk v0 (x_v0.1, x_v0.2.1, x_v0.2.2.1, ()) h6) rfl (EntsB.cons (Ent.b (Ent.dimm Ent.z.s)) (EntsB.cons (Ent.b Ent.z.s.s.s) (EntsB.cons (Ent.b (Ent.dimm Ent.z)) EntsB.nil)))) ?_))))))))))
 refine Rg.p (p_not rfl) (nl (cH H rfl (fun h7 H => ?_) (fun h7 H => ?_)))
 ·refine sr (Rg.p (v := .agg #[.slice none 0 0, .slice none 0 0, .slice none 0 0, .slice none 0 0]) (p_buildS (vs := []) (cs := #[.slice none 0 0, .slice none 0 0, .slice none 0 0, .slice none 0 0]) ty42 pl42 rfl rfl) (stb (cs' := [.slice none 0 0, .slice none 0 0, .slice none 0 0, .slice none 0 0]) ty42 Upd.here (nl (tRet (rT (?_))))))
  obtain rfl := si H
  exact back1 (((none, 0), (none, 0)), (none, 0), (none, 0)) rfl (ResV.agg ty42 rfl Has.here rfl) rfl (Ents.cons Ent.nil0 (Ents.cons Ent.nil0 (Ents.cons Ent.nil0 (Ents.cons Ent.nil0 Ents.nil)))) Take.nil
 ·refine tSkip (nT (sr (Rg.o (q_ldbA ty32 rfl hs1 rfl) (bdo H fun r8 h9 H => (f1 (e_call (c_spec_l21Open v0 (x_v0.1, x_v0.2.1, x_v0.2.2.1, ()) h9) rfl (Ents.cons (Ent.dimm Ent.z.s) (Ents.cons Ent.z.s.s.s (Ents.cons (Ent.dimm Ent.z) Ents.nil))) Take.nil) fun x10 => (bdo H fun r11 h12 H => (f1 (e_callB (c_spec_l13Copy r8 x10 h12) (fun _ => (Solo.tree (Solo.tree (Solo.tree (Solo.tree Solo.nil))))) rfl (EntsB.cons (Ent.b Ent.z) (EntsB.cons (Ent.b Ent.z.s) (EntsB.cons (Ent.b Ent.z.s.s) (EntsB.cons (Ent.b Ent.z.s.s.s) EntsB.nil))))) fun x13 => (stb (cs' := [.slice x13.1.1.1 r11.1.1.length x13.1.1.2, .slice x13.1.2.1 r11.1.2.length x13.1.2.2, .slice x13.2.1.1 r11.2.1.length x13.2.1.2, .slice x13.2.2.1 r11.2.2.length x13.2.2.2]) ty42 up4 (nl ?_)))))))))
  refine Tr.freeze (.cons Del.here .nil) (Tr.freeze (.cons Del.here .nil) (Tr.freeze (.cons Del.here .nil) (Tr.freeze (.cons Del.here .nil) (tRet ?_))))
  obtain rfl := si H
  exact back1 x13 rfl (ResV.agg ty42 rfl Has.here rfl) rfl (Ents.cons Ent.z.s.s.s (Ents.cons Ent.z.s.s (Ents.cons Ent.z.s (Ents.cons Ent.z Ents.nil)))) Take.nil
noncomputable def p_impl_DiskOpen (v0 : Disk) : Option (Store) := bd (p_impl_DiskOk v0) fun r5 => cond (!r5) (some ((([]), ([])), ([]), ([]))) (bd (p_impl_Disk_open v0) fun r8 => some r8)
theorem c_impl_DiskOpen {r : Store} (v0 : Disk) (x_v0 : (Option Addr × Nat) × (Option Addr × Nat) × (Option Addr × Nat) × Unit) (H : p_impl_DiskOpen v0 = some r) : Fn' prog 15 #[.agg #[.slice x_v0.1.1 v0.1.length x_v0.1.2, .slice x_v0.2.1.1 v0.2.1.length x_v0.2.1.2, .slice x_v0.2.2.1.1 v0.2.2.1.length x_v0.2.2.1.2, .int .i64 (v0.2.2.2)]] [imm (.slice x_v0.1.1 v0.1.length x_v0.1.2) v0.1, imm (.slice x_v0.2.1.1 v0.2.1.length x_v0.2.1.2) v0.2.1, imm (.slice x_v0.2.2.1.1 v0.2.2.1.length x_v0.2.2.1.2) v0.2.2.1] [] (ι := ((Option Addr × Nat) × (Option Addr × Nat)) × (Option Addr × Nat) × (Option Addr × Nat)) (fun x => .agg #[.slice x.1.1.1 r.1.1.length x.1.1.2, .slice x.1.2.1 r.1.2.length x.1.2.2, .slice x.2.1.1 r.2.1.length x.2.1.2, .slice x.2.2.1 r.2.2.length x.2.2.2]) (fun _ => []) (fun x => [tree (.slice x.1.1.1 r.1.1.length x.1.1.2) r.1.1, tree (.slice x.1.2.1 r.1.2.length x.1.2.2) r.1.2, tree (.slice x.2.1.1 r.2.1.length x.2.1.2) r.2.1, tree (.slice x.2.2.1 r.2.2.length x.2.2.2) r.2.2]) := by
 refine cof (args := [_]) func15 ntmps15 fun c => ?_
 unfold p_impl_DiskOpen at H
 refine Tr.openD Ent.z fun X1 => (Tr.openD Ent.z.s.s.s fun X2 => (sr (f1 (e_box (t := 32) rfl) fun g3 => (f1 (e_alloc ty42) fun g4 => (nl (Tr.seq (sr (Rg.o (q_ldbA ty32 rfl hs1 rfl) (bdo H fun r5 h6 H => (Rg.o (q_call (c_impl_DiskOk v0 (x_v0.1, x_v0.2.1, x_v0.2.2.1, ()) h6) rfl (EntsB.cons (Ent.b (Ent.dimm Ent.z.s)) (EntsB.cons (Ent.b Ent.z.s.s.s) (EntsB.cons (Ent.b (Ent.dimm Ent.z)) EntsB.nil)))) ?_))))))))))
 refine Rg.p (p_not rfl) (nl (cH H rfl (fun h7 H => ?_) (fun h7 H => ?_)))
 ·refine Tr.seq (Tr.nilT (List Tag) (Tr.nilT Post (Tr.nilT Part (Tr.nilT Sample (Tr.region (Rg.p (v := .agg #[.slice none 0 0, .slice none 0 0, .slice none 0 0, .slice none 0 0]) (p_buildS (vs := []) (cs := #[.slice none 0 0, .slice none 0 0, .slice none 0 0, .slice none 0 0]) ty42 pl42 rfl rfl) (stb (cs' := [.slice none 0 0, .slice none 0 0, .slice none 0 0, .slice none 0 0]) ty42 up4 (nl (tRet ?_)))))))))
  refine rT (?_)
  obtain rfl := si H
  exact back1 (((none, 0), (none, 0)), (none, 0), (none, 0)) rfl (ResV.agg ty42 rfl hs4 rfl) rfl Ents.nil (.cons dl3 (.cons dl2 (.cons dl1 (.cons Del.here .nil))))
 ·refine tSkip (nT (sr (Rg.o (q_ldbA ty32 rfl hs1 rfl) (bdo H fun r8 h9 H => (f1 (e_callB (c_impl_Disk_open v0 (x_v0.1, x_v0.2.1, x_v0.2.2.1, ()) h9) (fun _ => (Solo.tree (Solo.tree (Solo.tree (Solo.tree Solo.nil))))) rfl (EntsB.cons (Ent.b (Ent.dimm Ent.z.s)) (EntsB.cons (Ent.b Ent.z.s.s.s) (EntsB.cons (Ent.b (Ent.dimm Ent.z)) EntsB.nil)))) fun x10 => (stb (cs' := [.slice x10.1.1.1 r8.1.1.length x10.1.1.2, .slice x10.1.2.1 r8.1.2.length x10.1.2.2, .slice x10.2.1.1 r8.2.1.length x10.2.1.2, .slice x10.2.2.1 r8.2.2.length x10.2.2.2]) ty42 up4 (nl (tRet ?_))))))))
  obtain rfl := si H
  exact back1 x10 rfl (ResV.agg ty42 rfl hs4 rfl) rfl Ents.nil (.cons Del.here (.cons Del.here (.cons Del.here (.cons Del.here .nil))))
noncomputable def p_laws_eqPost (v0 : Post) (v1 : Post) : Option (Bool) := bd (p_laws_eqTag v0.1 v1.1) fun r3 => cond (!r3) (some false) (bd (p_laws_eqIntS v0.2 v1.2) fun r6 => cond (!r6) (some false) (some true))
theorem c_laws_eqPost {r : Bool} (v0 : Post) (x_v0 : (Unit × Unit) × (Option Addr × Nat)) (v1 : Post) (x_v1 : (Unit × Unit) × (Option Addr × Nat)) (H : p_laws_eqPost v0 v1 = some r) : Fn' prog 169 #[.agg #[.string (v0.1.1), .string (v0.1.2), .slice x_v0.2.1 v0.2.length x_v0.2.2], .agg #[.string (v1.1.1), .string (v1.1.2), .slice x_v1.2.1 v1.2.length x_v1.2.2]] [imm (.slice x_v0.2.1 v0.2.length x_v0.2.2) v0.2, imm (.slice x_v1.2.1 v1.2.length x_v1.2.2) v1.2] [] (ι := Unit) (fun _ => .bool (r)) (fun _ => []) (fun _ => []) := by
 refine cof (args := [_, _]) func169 ntmps169 fun c => ?_
 unfold p_laws_eqPost at H
 refine sr (f1 (e_box (t := 183) rfl) fun g1 => (f1 (e_box (t := 183) rfl) fun g2 => (Rg.a (v := .bool (false)) rfl (nl (Tr.seq (sr (Rg.p (p_fabE fa183_0 rfl rfl) (Rg.o (v := .agg #[.string (v0.1.1), .string (v0.1.2)]) (q_ldbP [.string (v0.1.1), .string (v0.1.2)] ty172 rfl hs1 rfl rfl) (Rg.p (p_fabE fa183_0 rfl rfl) (Rg.o (v := .agg #[.string (v1.1.1), .string (v1.1.2)]) (q_ldbP [.string (v1.1.1), .string (v1.1.2)] ty172 rfl Has.here rfl rfl) (bdo H fun r3 h4 H => ?_)))))))))))
 refine Rg.o (q_call (c_laws_eqTag v0.1 v1.1 h4) rfl EntsB.nil) (Rg.p (p_not rfl) (nl (cH H rfl (fun h5 H => ?_) (fun h5 H => ?_))))
 ·refine sr (Rg.a (v := .bool (false)) rfl (nl (tRet (rT (?_)))))
  obtain rfl := si H
  exact bk
 ·refine tSkip (nT (Tr.seq (sr (Rg.p (p_fabE fa183_1 rfl rfl) (Rg.o (q_ldb ty23 rfl hs1 rfl) (Rg.p (p_fabE fa183_1 rfl rfl) (Rg.o (q_ldb ty23 rfl Has.here rfl) (bdo H fun r6 h7 H => (Rg.o (q_call (c_laws_eqIntS v0.2 x_v0.2 v1.2 x_v1.2 h7) rfl (EntsB.cons (Ent.b Ent.z) (EntsB.cons (Ent.b Ent.z.s) EntsB.nil))) (Rg.p (p_not rfl) (nl ?_)))))))))))
  refine cH H rfl (fun h8 H => ?_) (fun h8 H => ?_)
  ·refine sr (Rg.a (v := .bool (false)) rfl (nl (tRet (rT (?_)))))
   obtain rfl := si H
   exact bk
  ·refine tSkip (nT (sr (Rg.a (v := .bool (true)) rfl (nl ?_))))
   obtain rfl := si H
   exact tRet bk
noncomputable def p_laws_eqPostS_b0 (v0 : (List Post)) (v1 : (List Post)) (Q8 : Int) : Option ((Int) ⊕ (Unit ⊕ Bool)) := cond (decide (Q8 < (v0.length : Int))) (gd (ix Q8 v0.length) <| gd (ix Q8 v1.length) <| bd (p_laws_eqPost (nth v0 Q8.toNat) (nth v1 Q8.toNat)) fun r19 => cond (!r19) (some (.inr (.inr false))) (gd (I64 (Q8 + 1)) <| some (.inl (Q8 + 1)))) (some (.inr (.inl ())))
noncomputable def p_laws_eqPostS (v0 : (List Post)) (v1 : (List Post)) : Option (Bool) := cond (!decide ((v0.length : Int) = (v1.length : Int))) (some false) (bd (lp (p_laws_eqPostS_b0 v0 v1) 0) <| sw (fun _ => some true) (fun q => some q))
theorem c_laws_eqPostS {r : Bool} (v0 : (List Post)) (x_v0 : Option Addr × Nat) (v1 : (List Post)) (x_v1 : Option Addr × Nat) (H : p_laws_eqPostS v0 v1 = some r) : Fn' prog 120 #[.slice x_v0.1 v0.length x_v0.2, .slice x_v1.1 v1.length x_v1.2] [imm (.slice x_v0.1 v0.length x_v0.2) v0, imm (.slice x_v1.1 v1.length x_v1.2) v1] [] (ι := Unit) (fun _ => .bool (r)) (fun _ => []) (fun _ => []) := by
 refine cof (args := [_, _]) func120 ntmps120 fun c => ?_
 unfold p_laws_eqPostS at H
 refine Tr.openD Ent.z fun X1 => (Tr.openD Ent.z.s.s fun X2 => (sr (Rg.a (v := .bool (false)) rfl (nl (Tr.seq (sr (Rg.m rfl (Rg.p (p_len 183 underlying36 rfl) (Rg.m rfl (Rg.p (p_len 183 underlying36 rfl) (Rg.p (p_neq rfl rfl) (nl ?_))))))))))))
 refine cH H rfl (fun h3 H => ?_) (fun h3 H => ?_)
 ·refine sr (Rg.a (v := .bool (false)) rfl (nl (tRet (rT (?_)))))
  obtain rfl := si H
  exact bk
 ·refine tSkip (nT (Tr.seq (sr (Rg.a (v := .int .i64 (0)) rfl (nl (bdo H fun x4 hx5 H => (tMidI (Λ := Unit) H (fun _ _ => []) (fun _ _ => []) ?_ ?_)))))))
  ·refine Tr.block (tLoopI hx5 () (fun Q8 _ => [(0, .slice x_v0.1 v0.length x_v0.2), (1, .slice x_v1.1 v1.length x_v1.2), (5, .int .i64 (Q8))]) (fun _ _ => []) Take.nil ?_)
   rintro _ Q8 z9 t11 H1 hi12 hb13
   unfold p_laws_eqPostS_b0 at H1
   refine Tr.seq (sr (Rg.m rfl (Rg.m rfl (Rg.p (p_len 183 underlying36 rfl) (Rg.p (p_lss rfl rfl) (nl (cH H1 rfl (fun h16 H1 => ?_) (fun h16 H1 => ?_))))))))
   ·refine tSkip (nT (Tr.seq (Tr.block (Tr.seq (tLinS [(0, .slice x_v0.1 v0.length x_v0.2), (1, .slice x_v1.1 v1.length x_v1.2), (5, .int .i64 (Q8))] mixed (.inr (by kernel_rfl)) ⟨rfl, rfl, rfl, trivial⟩ rfl (Lin.m rfl (Lin.m rfl (gdo H1 fun h17 H1 => (Lin.o (q_ixg underlying36 ty183 rfl rfl h17 rfl (Ent.b (Ent.darr Ent.z.s))) (Lin.o (v := .agg #[.string (((nth v0 Q8.toNat).1).1), .string (((nth v0 Q8.toNat).1).2), .slice (((X1 Q8.toNat).2).1) (((nth v0 Q8.toNat).2).length) (((X1 Q8.toNat).2).2.1)]) (q_ldeA (i := Q8.toNat) ty183 rfl (Ent.b (Ent.darr Ent.z.s)) h17.lt) ?_))))))))))
    refine Lin.m rfl (Lin.m rfl (gdo H1 fun h18 H1 => (Lin.o (q_ixg underlying36 ty183 rfl rfl h18 rfl (Ent.b (Ent.darr Ent.z))) (Lin.o (v := .agg #[.string (((nth v1 Q8.toNat).1).1), .string (((nth v1 Q8.toNat).1).2), .slice (((X2 Q8.toNat).2).1) (((nth v1 Q8.toNat).2).length) (((X2 Q8.toNat).2).2.1)]) (q_ldeA (i := Q8.toNat) ty183 rfl (Ent.b (Ent.darr Ent.z)) h18.lt) (bdo H1 fun r19 h20 H1 => (Lin.o (q_call (c_laws_eqPost (nth v0 Q8.toNat) (((), ()), (((X1 Q8.toNat).2).1, ((X1 Q8.toNat).2).2.1)) (nth v1 Q8.toNat) (((), ()), (((X2 Q8.toNat).2).1, ((X2 Q8.toNat).2).2.1)) h20) rfl (EntsB.cons (Ent.b (Ent.dimm (Ent.dsnd (Ent.del Ent.z.s h17.lt)))) (EntsB.cons (Ent.b (Ent.dimm (Ent.dsnd (Ent.del Ent.z h18.lt)))) EntsB.nil))) (Lin.p (p_not rfl) (nT (cH H1 rfl (fun h21 H1 => ?_) (fun h21 H1 => ?_))))))))))
    ·refine sr (Rg.a (v := .bool (false)) rfl (nl (tRet (rB (rT (rT (rB (rT (rT (?_))))))))))
     obtain rfl := hb13 _ (sm H1)
     replace H := sw.r H
     obtain rfl := si H
     exact bk
    ·exact tSkip (nB (nT (Tr.region (Rg.m rfl (gdo H1 fun h22 H1 => (Rg.p (p_add rfl rfl h22) (Rg.a rfl (Rg.nl (nLI () (hi12 _ (sm H1)) Take.nil)))))))))
   ·exact tExit (xT (xT (xE (nMI () (hb13 _ (sm H1)) Take.nil))))
  ·rintro e23 y10 H
   refine nT (sr (Rg.a (v := .bool (true)) rfl (nl ?_)))
   obtain rfl := si H
   exact tRet bk
noncomputable def p_laws_eqIndex (v0 : Index) (v1 : Index) : Option (Bool) := bd (p_laws_eqTagSS v0.1 v1.1) fun r7 => cond (!r7) (some false) (bd (p_laws_eqPostS v0.2 v1.2) fun r10 => cond (!r10) (some false) (some true))
theorem c_laws_eqIndex {r : Bool} (v0 : Index) (x_v0 : (Option Addr × Nat) × (Option Addr × Nat)) (v1 : Index) (x_v1 : (Option Addr × Nat) × (Option Addr × Nat)) (H : p_laws_eqIndex v0 v1 = some r) : Fn' prog 57 #[.agg #[.slice x_v0.1.1 v0.1.length x_v0.1.2, .slice x_v0.2.1 v0.2.length x_v0.2.2], .agg #[.slice x_v1.1.1 v1.1.length x_v1.1.2, .slice x_v1.2.1 v1.2.length x_v1.2.2]] [imm (.slice x_v0.1.1 v0.1.length x_v0.1.2) v0.1, imm (.slice x_v0.2.1 v0.2.length x_v0.2.2) v0.2, imm (.slice x_v1.1.1 v1.1.length x_v1.1.2) v1.1, imm (.slice x_v1.2.1 v1.2.length x_v1.2.2) v1.2] [] (ι := Unit) (fun _ => .bool (r)) (fun _ => []) (fun _ => []) := by
 refine cof (args := [_, _]) func57 ntmps57 fun c => ?_
 unfold p_laws_eqIndex at H
 refine Tr.openD Ent.z fun X1 => (Tr.openD Ent.z.s.s fun X2 => (Tr.openD Ent.z.s.s.s.s fun X3 => (Tr.openD Ent.z.s.s.s.s.s.s fun X4 => (sr (f1 (e_box (t := 38) rfl) fun g5 => (f1 (e_box (t := 38) rfl) fun g6 => (Rg.a (v := .bool (false)) rfl (nl (Tr.seq (sr (Rg.p (p_fabE fa38_0 rfl rfl) ?_)))))))))))
 refine Rg.o (q_ldb ty30 rfl hs1 rfl) (Rg.p (p_fabE fa38_0 rfl rfl) (Rg.o (q_ldb ty30 rfl Has.here rfl) (bdo H fun r7 h8 H => (Rg.o (q_call (c_laws_eqTagSS v0.1 x_v0.1 v1.1 x_v1.1 h8) rfl (EntsB.cons (Ent.b (Ent.dimm Ent.z.s.s.s)) (EntsB.cons (Ent.b (Ent.dimm Ent.z.s)) EntsB.nil))) (Rg.p (p_not rfl) (nl (cH H rfl (fun h9 H => ?_) (fun h9 H => ?_))))))))
 ·refine sr (Rg.a (v := .bool (false)) rfl (nl (tRet (rT (?_)))))
  obtain rfl := si H
  exact bk
 ·refine tSkip (nT (Tr.seq (sr (Rg.p (p_fabE fa38_1 rfl rfl) (Rg.o (q_ldb ty36 rfl hs1 rfl) (Rg.p (p_fabE fa38_1 rfl rfl) (Rg.o (q_ldb ty36 rfl Has.here rfl) (bdo H fun r10 h11 H => (Rg.o (q_call (c_laws_eqPostS v0.2 x_v0.2 v1.2 x_v1.2 h11) rfl (EntsB.cons (Ent.b (Ent.dimm Ent.z.s.s)) (EntsB.cons (Ent.b (Ent.dimm Ent.z)) EntsB.nil))) (Rg.p (p_not rfl) (nl ?_)))))))))))
  refine cH H rfl (fun h12 H => ?_) (fun h12 H => ?_)
  ·refine sr (Rg.a (v := .bool (false)) rfl (nl (tRet (rT (?_)))))
   obtain rfl := si H
   exact bk
  ·refine tSkip (nT (sr (Rg.a (v := .bool (true)) rfl (nl ?_))))
   obtain rfl := si H
   exact tRet bk
noncomputable def p_laws_eqPartS_b0 (v0 : (List Part)) (v1 : (List Part)) (Q8 : Int) : Option ((Int) ⊕ (Unit ⊕ Bool)) := cond (decide (Q8 < (v0.length : Int))) (gd (ix Q8 v0.length) <| gd (ix Q8 v1.length) <| bd (p_laws_eqPart (nth v0 Q8.toNat) (nth v1 Q8.toNat)) fun r19 => cond (!r19) (some (.inr (.inr false))) (gd (I64 (Q8 + 1)) <| some (.inl (Q8 + 1)))) (some (.inr (.inl ())))
noncomputable def p_laws_eqPartS (v0 : (List Part)) (v1 : (List Part)) : Option (Bool) := cond (!decide ((v0.length : Int) = (v1.length : Int))) (some false) (bd (lp (p_laws_eqPartS_b0 v0 v1) 0) <| sw (fun _ => some true) (fun q => some q))
theorem c_laws_eqPartS {r : Bool} (v0 : (List Part)) (x_v0 : Option Addr × Nat) (v1 : (List Part)) (x_v1 : Option Addr × Nat) (H : p_laws_eqPartS v0 v1 = some r) : Fn' prog 58 #[.slice x_v0.1 v0.length x_v0.2, .slice x_v1.1 v1.length x_v1.2] [imm (.slice x_v0.1 v0.length x_v0.2) v0, imm (.slice x_v1.1 v1.length x_v1.2) v1] [] (ι := Unit) (fun _ => .bool (r)) (fun _ => []) (fun _ => []) := by
 refine cof (args := [_, _]) func58 ntmps58 fun c => ?_
 unfold p_laws_eqPartS at H
 refine Tr.openD Ent.z fun X1 => (Tr.openD Ent.z.s.s fun X2 => (sr (Rg.a (v := .bool (false)) rfl (nl (Tr.seq (sr (Rg.m rfl (Rg.p (p_len 75 underlying39 rfl) (Rg.m rfl (Rg.p (p_len 75 underlying39 rfl) (Rg.p (p_neq rfl rfl) (nl ?_))))))))))))
 refine cH H rfl (fun h3 H => ?_) (fun h3 H => ?_)
 ·refine sr (Rg.a (v := .bool (false)) rfl (nl (tRet (rT (?_)))))
  obtain rfl := si H
  exact bk
 ·refine tSkip (nT (Tr.seq (sr (Rg.a (v := .int .i64 (0)) rfl (nl (bdo H fun x4 hx5 H => (tMidI (Λ := Unit) H (fun _ _ => []) (fun _ _ => []) ?_ ?_)))))))
  ·refine Tr.block (tLoopI hx5 () (fun Q8 _ => [(0, .slice x_v0.1 v0.length x_v0.2), (1, .slice x_v1.1 v1.length x_v1.2), (5, .int .i64 (Q8))]) (fun _ _ => []) Take.nil ?_)
   rintro _ Q8 z9 t11 H1 hi12 hb13
   unfold p_laws_eqPartS_b0 at H1
   refine Tr.seq (sr (Rg.m rfl (Rg.m rfl (Rg.p (p_len 75 underlying39 rfl) (Rg.p (p_lss rfl rfl) (nl (cH H1 rfl (fun h16 H1 => ?_) (fun h16 H1 => ?_))))))))
   ·refine tSkip (nT (Tr.seq (Tr.block (Tr.seq (tLinS [(0, .slice x_v0.1 v0.length x_v0.2), (1, .slice x_v1.1 v1.length x_v1.2), (5, .int .i64 (Q8))] mixed (.inr (by kernel_rfl)) ⟨rfl, rfl, rfl, trivial⟩ rfl (Lin.m rfl (Lin.m rfl (gdo H1 fun h17 H1 => (Lin.o (q_ixg underlying39 ty75 rfl rfl h17 rfl (Ent.b (Ent.darr Ent.z.s))) (Lin.o (v := .agg #[.slice (((X1 Q8.toNat).1).1) (((nth v0 Q8.toNat).1).length) (((X1 Q8.toNat).1).2.1), .slice (((X1 Q8.toNat).2).1) (((nth v0 Q8.toNat).2).length) (((X1 Q8.toNat).2).2.1)]) (q_ldeA (i := Q8.toNat) ty75 rfl (Ent.b (Ent.darr Ent.z.s)) h17.lt) ?_))))))))))
    refine Lin.m rfl (Lin.m rfl (gdo H1 fun h18 H1 => (Lin.o (q_ixg underlying39 ty75 rfl rfl h18 rfl (Ent.b (Ent.darr Ent.z))) (Lin.o (v := .agg #[.slice (((X2 Q8.toNat).1).1) (((nth v1 Q8.toNat).1).length) (((X2 Q8.toNat).1).2.1), .slice (((X2 Q8.toNat).2).1) (((nth v1 Q8.toNat).2).length) (((X2 Q8.toNat).2).2.1)]) (q_ldeA (i := Q8.toNat) ty75 rfl (Ent.b (Ent.darr Ent.z)) h18.lt) (bdo H1 fun r19 h20 H1 => (Lin.o (q_call (c_laws_eqPart (nth v0 Q8.toNat) ((((X1 Q8.toNat).1).1, ((X1 Q8.toNat).1).2.1), (((X1 Q8.toNat).2).1, ((X1 Q8.toNat).2).2.1)) (nth v1 Q8.toNat) ((((X2 Q8.toNat).1).1, ((X2 Q8.toNat).1).2.1), (((X2 Q8.toNat).2).1, ((X2 Q8.toNat).2).2.1)) h20) rfl (EntsB.cons (Ent.b (Ent.dimm (Ent.dfst (Ent.del Ent.z.s h17.lt)))) (EntsB.cons (Ent.b (Ent.dimm (Ent.dsnd (Ent.del Ent.z.s h17.lt)))) (EntsB.cons (Ent.b (Ent.dimm (Ent.dfst (Ent.del Ent.z h18.lt)))) (EntsB.cons (Ent.b (Ent.dimm (Ent.dsnd (Ent.del Ent.z h18.lt)))) EntsB.nil))))) (Lin.p (p_not rfl) (nT (cH H1 rfl (fun h21 H1 => ?_) (fun h21 H1 => ?_))))))))))
    ·refine sr (Rg.a (v := .bool (false)) rfl (nl (tRet (rB (rT (rT (rB (rT (rT (?_))))))))))
     obtain rfl := hb13 _ (sm H1)
     replace H := sw.r H
     obtain rfl := si H
     exact bk
    ·exact tSkip (nB (nT (Tr.region (Rg.m rfl (gdo H1 fun h22 H1 => (Rg.p (p_add rfl rfl h22) (Rg.a rfl (Rg.nl (nLI () (hi12 _ (sm H1)) Take.nil)))))))))
   ·exact tExit (xT (xT (xE (nMI () (hb13 _ (sm H1)) Take.nil))))
  ·rintro e23 y10 H
   refine nT (sr (Rg.a (v := .bool (true)) rfl (nl ?_)))
   obtain rfl := si H
   exact tRet bk
noncomputable def p_laws_eqSample (v0 : Sample) (v1 : Sample) : Option (Bool) := cond (!decide (v0.1 = v1.1)) (some false) (bd (p_laws_eqRow v0.2 v1.2) fun r4 => cond (!r4) (some false) (some true))
theorem c_laws_eqSample {r : Bool} (v0 : Sample) (v1 : Sample) (H : p_laws_eqSample v0 v1 = some r) : Fn' prog 122 #[.agg #[.int .i64 (v0.1), .int .i64 (v0.2.1), .int .i64 (v0.2.2)], .agg #[.int .i64 (v1.1), .int .i64 (v1.2.1), .int .i64 (v1.2.2)]] [] [] (ι := Unit) (fun _ => .bool (r)) (fun _ => []) (fun _ => []) := by
 refine cof (args := [_, _]) func122 ntmps122 fun c => ?_
 unfold p_laws_eqSample at H
 refine sr (f1 (e_box (t := 137) rfl) fun g1 => (f1 (e_box (t := 137) rfl) fun g2 => (Rg.a (v := .bool (false)) rfl (nl (Tr.seq (sr (Rg.p (p_fabE fa137_0 rfl rfl) (Rg.o (q_ldb ty3 rfl hs1 rfl) (Rg.p (p_fabE fa137_0 rfl rfl) (Rg.o (q_ldb ty3 rfl Has.here rfl) (Rg.p (p_neq rfl rfl) (nl ?_))))))))))))
 refine cH H rfl (fun h3 H => ?_) (fun h3 H => ?_)
 ·refine sr (Rg.a (v := .bool (false)) rfl (nl (tRet (rT (?_)))))
  obtain rfl := si H
  exact bk
 ·refine tSkip (nT (Tr.seq (sr (Rg.p (p_fabE fa137_1 rfl rfl) (Rg.o (v := .agg #[.int .i64 (v0.2.1), .int .i64 (v0.2.2)]) (q_ldbP [.int .i64 (v0.2.1), .int .i64 (v0.2.2)] ty135 rfl hs1 rfl rfl) (Rg.p (p_fabE fa137_1 rfl rfl) (Rg.o (v := .agg #[.int .i64 (v1.2.1), .int .i64 (v1.2.2)]) (q_ldbP [.int .i64 (v1.2.1), .int .i64 (v1.2.2)] ty135 rfl Has.here rfl rfl) (bdo H fun r4 h5 H => (Rg.o (q_call (c_laws_eqRow v0.2 v1.2 h5) rfl EntsB.nil) (Rg.p (p_not rfl) (nl ?_)))))))))))
  refine cH H rfl (fun h6 H => ?_) (fun h6 H => ?_)
  ·refine sr (Rg.a (v := .bool (false)) rfl (nl (tRet (rT (?_)))))
   obtain rfl := si H
   exact bk
  ·refine tSkip (nT (sr (Rg.a (v := .bool (true)) rfl (nl ?_))))
   obtain rfl := si H
   exact tRet bk
noncomputable def p_laws_eqSampleS_b0 (v0 : (List Sample)) (v1 : (List Sample)) (Q6 : Int) : Option ((Int) ⊕ (Unit ⊕ Bool)) := cond (decide (Q6 < (v0.length : Int))) (gd (ix Q6 v0.length) <| gd (ix Q6 v1.length) <| bd (p_laws_eqSample (nth v0 Q6.toNat) (nth v1 Q6.toNat)) fun r17 => cond (!r17) (some (.inr (.inr false))) (gd (I64 (Q6 + 1)) <| some (.inl (Q6 + 1)))) (some (.inr (.inl ())))
noncomputable def p_laws_eqSampleS (v0 : (List Sample)) (v1 : (List Sample)) : Option (Bool) := cond (!decide ((v0.length : Int) = (v1.length : Int))) (some false) (bd (lp (p_laws_eqSampleS_b0 v0 v1) 0) <| sw (fun _ => some true) (fun q => some q))
theorem c_laws_eqSampleS {r : Bool} (v0 : (List Sample)) (x_v0 : Option Addr × Nat) (v1 : (List Sample)) (x_v1 : Option Addr × Nat) (H : p_laws_eqSampleS v0 v1 = some r) : Fn' prog 59 #[.slice x_v0.1 v0.length x_v0.2, .slice x_v1.1 v1.length x_v1.2] [imm (.slice x_v0.1 v0.length x_v0.2) v0, imm (.slice x_v1.1 v1.length x_v1.2) v1] [] (ι := Unit) (fun _ => .bool (r)) (fun _ => []) (fun _ => []) := by
 refine cof (args := [_, _]) func59 ntmps59 fun c => ?_
 unfold p_laws_eqSampleS at H
 refine sr (Rg.a (v := .bool (false)) rfl (nl (Tr.seq (sr (Rg.m rfl (Rg.p (p_len 137 underlying40 rfl) (Rg.m rfl (Rg.p (p_len 137 underlying40 rfl) (Rg.p (p_neq rfl rfl) (nl (cH H rfl (fun h1 H => ?_) (fun h1 H => ?_))))))))))))
 ·refine sr (Rg.a (v := .bool (false)) rfl (nl (tRet (rT (?_)))))
  obtain rfl := si H
  exact bk
 ·refine tSkip (nT (Tr.seq (sr (Rg.a (v := .int .i64 (0)) rfl (nl (bdo H fun x2 hx3 H => (tMidI (Λ := Unit) H (fun _ _ => []) (fun _ _ => []) ?_ ?_)))))))
  ·refine Tr.block (tLoopI hx3 () (fun Q6 _ => [(0, .slice x_v0.1 v0.length x_v0.2), (1, .slice x_v1.1 v1.length x_v1.2), (5, .int .i64 (Q6))]) (fun _ _ => []) Take.nil ?_)
   rintro _ Q6 z7 t9 H1 hi10 hb11
   unfold p_laws_eqSampleS_b0 at H1
   refine Tr.seq (sr (Rg.m rfl (Rg.m rfl (Rg.p (p_len 137 underlying40 rfl) (Rg.p (p_lss rfl rfl) (nl (cH H1 rfl (fun h14 H1 => ?_) (fun h14 H1 => ?_))))))))
   ·refine tSkip (nT (Tr.seq (Tr.block (Tr.seq (tLinS [(0, .slice x_v0.1 v0.length x_v0.2), (1, .slice x_v1.1 v1.length x_v1.2), (5, .int .i64 (Q6))] mixed (.inr (by kernel_rfl)) ⟨rfl, rfl, rfl, trivial⟩ rfl (Lin.m rfl (Lin.m rfl (gdo H1 fun h15 H1 => (Lin.o (q_ixg underlying40 ty137 rfl rfl h15 rfl (EntB.flat (Ent.b Ent.z))) (Lin.o (v := .agg #[.int .i64 ((nth v0 Q6.toNat).1), .int .i64 (((nth v0 Q6.toNat).2).1), .int .i64 (((nth v0 Q6.toNat).2).2)]) (q_ldeA (i := Q6.toNat) ty137 rfl (EntB.flat (Ent.b Ent.z)) h15.lt) ?_))))))))))
    refine Lin.m rfl (Lin.m rfl (gdo H1 fun h16 H1 => (Lin.o (q_ixg underlying40 ty137 rfl rfl h16 rfl (EntB.flat (Ent.b Ent.z.s))) (Lin.o (v := .agg #[.int .i64 ((nth v1 Q6.toNat).1), .int .i64 (((nth v1 Q6.toNat).2).1), .int .i64 (((nth v1 Q6.toNat).2).2)]) (q_ldeA (i := Q6.toNat) ty137 rfl (EntB.flat (Ent.b Ent.z.s)) h16.lt) (bdo H1 fun r17 h18 H1 => (Lin.o (q_call (c_laws_eqSample (nth v0 Q6.toNat) (nth v1 Q6.toNat) h18) rfl EntsB.nil) (Lin.p (p_not rfl) (nT (cH H1 rfl (fun h19 H1 => ?_) (fun h19 H1 => ?_))))))))))
    ·refine sr (Rg.a (v := .bool (false)) rfl (nl (tRet (rB (rT (rT (rB (rT (rT (?_))))))))))
     obtain rfl := hb11 _ (sm H1)
     replace H := sw.r H
     obtain rfl := si H
     exact bk
    ·exact tSkip (nB (nT (Tr.region (Rg.m rfl (gdo H1 fun h20 H1 => (Rg.p (p_add rfl rfl h20) (Rg.a rfl (Rg.nl (nLI () (hi10 _ (sm H1)) Take.nil)))))))))
   ·exact tExit (xT (xT (xE (nMI () (hb11 _ (sm H1)) Take.nil))))
  ·rintro e21 y8 H
   refine nT (sr (Rg.a (v := .bool (true)) rfl (nl ?_)))
   obtain rfl := si H
   exact tRet bk
noncomputable def p_laws_eqStore (v0 : Store) (v1 : Store) : Option (Bool) := bd (p_laws_eqIndex v0.1 v1.1) fun r9 => cond (!r9) (some false) (bd (p_laws_eqPartS v0.2.1 v1.2.1) fun r12 => cond (!r12) (some false) (bd (p_laws_eqSampleS v0.2.2 v1.2.2) fun r15 => cond (!r15) (some false) (some true)))
theorem c_laws_eqStore {r : Bool} (v0 : Store) (x_v0 : ((Option Addr × Nat) × (Option Addr × Nat)) × (Option Addr × Nat) × (Option Addr × Nat)) (v1 : Store) (x_v1 : ((Option Addr × Nat) × (Option Addr × Nat)) × (Option Addr × Nat) × (Option Addr × Nat)) (H : p_laws_eqStore v0 v1 = some r) : Fn' prog 16 #[.agg #[.slice x_v0.1.1.1 v0.1.1.length x_v0.1.1.2, .slice x_v0.1.2.1 v0.1.2.length x_v0.1.2.2, .slice x_v0.2.1.1 v0.2.1.length x_v0.2.1.2, .slice x_v0.2.2.1 v0.2.2.length x_v0.2.2.2], .agg #[.slice x_v1.1.1.1 v1.1.1.length x_v1.1.1.2, .slice x_v1.1.2.1 v1.1.2.length x_v1.1.2.2, .slice x_v1.2.1.1 v1.2.1.length x_v1.2.1.2, .slice x_v1.2.2.1 v1.2.2.length x_v1.2.2.2]] [imm (.slice x_v0.1.1.1 v0.1.1.length x_v0.1.1.2) v0.1.1, imm (.slice x_v0.1.2.1 v0.1.2.length x_v0.1.2.2) v0.1.2, imm (.slice x_v0.2.1.1 v0.2.1.length x_v0.2.1.2) v0.2.1, imm (.slice x_v0.2.2.1 v0.2.2.length x_v0.2.2.2) v0.2.2, imm (.slice x_v1.1.1.1 v1.1.1.length x_v1.1.1.2) v1.1.1, imm (.slice x_v1.1.2.1 v1.1.2.length x_v1.1.2.2) v1.1.2, imm (.slice x_v1.2.1.1 v1.2.1.length x_v1.2.1.2) v1.2.1, imm (.slice x_v1.2.2.1 v1.2.2.length x_v1.2.2.2) v1.2.2] [] (ι := Unit) (fun _ => .bool (r)) (fun _ => []) (fun _ => []) := by
 refine cof (args := [_, _]) func16 ntmps16 fun c => ?_
 unfold p_laws_eqStore at H
 refine Tr.openD Ent.z fun X1 => (Tr.openD Ent.z.s.s fun X2 => (Tr.openD Ent.z.s.s.s.s fun X3 => (Tr.openD Ent.z.s.s.s.s.s.s.s fun X4 => (Tr.openD Ent.z.s.s.s.s.s.s.s.s.s fun X5 => (Tr.openD Ent.z.s.s.s.s.s.s.s.s.s.s.s fun X6 => (sr (f1 (e_box (t := 42) rfl) fun g7 => (f1 (e_box (t := 42) rfl) fun g8 => (Rg.a (v := .bool (false)) rfl (nl ?_))))))))))
 refine Tr.seq (sr (Rg.p (p_fabE fa42_0 rfl rfl) (Rg.o (v := .agg #[.slice x_v0.1.1.1 v0.1.1.length x_v0.1.1.2, .slice x_v0.1.2.1 v0.1.2.length x_v0.1.2.2]) (q_ldbP [.slice x_v0.1.1.1 v0.1.1.length x_v0.1.1.2, .slice x_v0.1.2.1 v0.1.2.length x_v0.1.2.2] ty38 rfl hs1 rfl rfl) (Rg.p (p_fabE fa42_0 rfl rfl) (Rg.o (v := .agg #[.slice x_v1.1.1.1 v1.1.1.length x_v1.1.1.2, .slice x_v1.1.2.1 v1.1.2.length x_v1.1.2.2]) (q_ldbP [.slice x_v1.1.1.1 v1.1.1.length x_v1.1.1.2, .slice x_v1.1.2.1 v1.1.2.length x_v1.1.2.2] ty38 rfl Has.here rfl rfl) (bdo H fun r9 h10 H => (Rg.o (q_call (c_laws_eqIndex v0.1 x_v0.1 v1.1 x_v1.1 h10) rfl (EntsB.cons (Ent.b (Ent.dimm Ent.z.s.s.s.s.s)) (EntsB.cons (Ent.b (Ent.dimm Ent.z.s.s.s.s)) (EntsB.cons (Ent.b (Ent.dimm Ent.z.s.s)) (EntsB.cons (Ent.b (Ent.dimm Ent.z.s)) EntsB.nil))))) (Rg.p (p_not rfl) (nl (cH H rfl (fun h11 H => ?_) (fun h11 H => ?_)))))))))))
 ·refine sr (Rg.a (v := .bool (false)) rfl (nl (tRet (rT (?_)))))
  obtain rfl := si H
  exact bk
 ·refine tSkip (nT (Tr.seq (sr (Rg.p (p_fabE fa42_1 rfl rfl) (Rg.o (q_ldb ty39 rfl hs1 rfl) (Rg.p (p_fabE fa42_1 rfl rfl) (Rg.o (q_ldb ty39 rfl Has.here rfl) (bdo H fun r12 h13 H => (Rg.o (q_call (c_laws_eqPartS v0.2.1 x_v0.2.1 v1.2.1 x_v1.2.1 h13) rfl (EntsB.cons (Ent.b (Ent.dimm Ent.z.s.s.s)) (EntsB.cons (Ent.b (Ent.dimm Ent.z)) EntsB.nil))) (Rg.p (p_not rfl) (nl ?_)))))))))))
  refine cH H rfl (fun h14 H => ?_) (fun h14 H => ?_)
  ·refine sr (Rg.a (v := .bool (false)) rfl (nl (tRet (rT (?_)))))
   obtain rfl := si H
   exact bk
  ·refine tSkip (nT (Tr.seq (sr (Rg.p (p_fabE fa42_2 rfl rfl) (Rg.o (q_ldb ty40 rfl hs1 rfl) (Rg.p (p_fabE fa42_2 rfl rfl) (Rg.o (q_ldb ty40 rfl Has.here rfl) (bdo H fun r15 h16 H => (Rg.o (q_call (c_laws_eqSampleS v0.2.2 x_v0.2.2 v1.2.2 x_v1.2.2 h16) rfl (EntsB.cons (Ent.b Ent.z.s.s.s.s.s.s.s.s.s) (EntsB.cons (Ent.b Ent.z.s.s.s.s.s.s.s.s.s.s.s.s.s) EntsB.nil))) (Rg.p (p_not rfl) (nl ?_)))))))))))
   refine cH H rfl (fun h17 H => ?_) (fun h17 H => ?_)
   ·refine sr (Rg.a (v := .bool (false)) rfl (nl (tRet (rT (?_)))))
    obtain rfl := si H
    exact bk
   ·refine tSkip (nT (sr (Rg.a (v := .bool (true)) rfl (nl ?_))))
    obtain rfl := si H
    exact tRet bk
noncomputable def p_laws_markIntS_b0 (v0 : (List Int)) (Q5 : (List Int) × Int × Int) : Option (((List Int) × Int × Int) ⊕ (Int × (List Int))) := cond (decide (Q5.2.2 < (v0.length : Int))) (gd (ix Q5.2.2 Q5.1.length) <| gd (I64 (Q5.2.1 + 1)) <| gd (I64 (Q5.2.2 + 1)) <| some (.inl ((Q5.1.set Q5.2.2.toNat Q5.2.1), Q5.2.1 + 1, Q5.2.2 + 1))) (some (.inr (Q5.2.1, Q5.1)))
noncomputable def p_laws_markIntS (v0 : (List Int)) (v1 : Int) : Option (Int × (List Int)) := bd (lp (p_laws_markIntS_b0 v0) (v0, v1, 0)) fun x1 => some (x1.1, x1.2)
theorem c_laws_markIntS {r : Int × (List Int)} (v0 : (List Int)) (x_v0 : Option Addr × Nat) (n_v0 : Nat) (e_v0 : n_v0 = v0.length) (v1 : Int) (H : p_laws_markIntS v0 v1 = some r) : Fn' prog 61 #[.slice x_v0.1 n_v0 x_v0.2, .int .i64 (v1)] [] [tree (.slice x_v0.1 n_v0 x_v0.2) v0] (ι := Unit) (fun _ => .int .i64 (r.1)) (fun _ => []) (fun _ => [tree (.slice x_v0.1 n_v0 x_v0.2) r.2]) := by
 subst e_v0
 refine cof (args := [_, _]) func61 ntmps61 fun c => ?_
 unfold p_laws_markIntS at H
 refine sr (Rg.a (v := .int .i64 (0)) rfl (nl (Tr.seq (sr (Rg.a (v := .int .i64 (0)) rfl (nl (bdo H fun x1 hx2 H => (tMidNC (ι := Unit) (fun ψ => [(1, .int .i64 (x1.1))]) (fun ψ => [tree (.slice x_v0.1 v0.length x_v0.2) x1.2]) ?_ ?_))))))))
 ·refine Tr.block (tLoopI hx2 () (fun Q5 _ => [(0, .slice x_v0.1 v0.length x_v0.2), (1, .int .i64 (Q5.2.1)), (5, .int .i64 (Q5.2.2))]) (fun Q5 _ => [tree (.slice x_v0.1 v0.length x_v0.2) Q5.1]) (.cons Del.here .nil) ?_)
  rintro _ Q5 z6 t8 H1 hi9 hb10
  unfold p_laws_markIntS_b0 at H1
  refine Tr.seq (sr (Rg.m rfl (Rg.m rfl (Rg.p (p_len 3 underlying23 rfl) (Rg.p (p_lss rfl rfl) (nl (cH H1 rfl (fun h13 H1 => ?_) (fun h13 H1 => ?_))))))))
  ·refine tSkip (nT (Tr.seq (Tr.block (sr (Rg.m rfl (Rg.m rfl (Rg.m rfl (gdo H1 fun h14 H1 => (Rg.o (q_ixO' underlying23 ty3 rfl rfl h14 Has.here) (g0 (e_setT (l := Q5.1) (α := Int) (oa := x_v0.1) Q5.2.2.toNat Q5.2.1 () ty3 rfl rfl rfl h14.lt (ShpT.wfa _) (.cons Del.here .nil)) ?_))))))))))
   refine nl (Tr.region (Rg.m rfl (gdo H1 fun h15 H1 => (Rg.p (p_add rfl rfl h15) (Rg.a rfl (Rg.nl (nB (nT (Tr.region (Rg.m rfl (gdo H1 fun h16 H1 => ?_)))))))))))
   exact Rg.p (p_add rfl rfl h16) (Rg.a rfl (Rg.nl (nLI () (hi9 _ (sm H1)) (.cons Del.here .nil))))
  ·refine tExit (xT (xT (xE (?_))))
   obtain rfl := hb10 _ (sm H1)
   exact nMC () ⟨rfl, trivial⟩ Ents.refl (.cons Del.here .nil)
 ·intro y7
  show At _ _ [(1, .int .i64 (x1.1))] _ [tree (.slice x_v0.1 v0.length x_v0.2) x1.2] _
  refine nT (sr (Rg.m rfl (Rg.a rfl (nl ?_))))
  obtain rfl := si H
  exact tRet (bk (.cons Del.here .nil))
noncomputable def p_laws_markRowS_b0 (v0 : (List Row)) (Q5 : (List Row) × Int × Int) : Option (((List Row) × Int × Int) ⊕ (Int × (List Row))) := cond (decide (Q5.2.2 < (v0.length : Int))) (gd (ix Q5.2.2 Q5.1.length) <| gd (I64 (Q5.2.1 + 1)) <| gd (I64 ((Q5.2.1 + 1) + 1)) <| gd (I64 (Q5.2.2 + 1)) <| some (.inl ((Q5.1.set Q5.2.2.toNat (Q5.2.1, (Q5.2.1 + 1))), (Q5.2.1 + 1) + 1, Q5.2.2 + 1))) (some (.inr (Q5.2.1, Q5.1)))
noncomputable def p_laws_markRowS (v0 : (List Row)) (v1 : Int) : Option (Int × (List Row)) := bd (lp (p_laws_markRowS_b0 v0) (v0, v1, 0)) fun x1 => some (x1.1, x1.2)
theorem c_laws_markRowS {r : Int × (List Row)} (v0 : (List Row)) (x_v0 : Option Addr × Nat) (n_v0 : Nat) (e_v0 : n_v0 = v0.length) (v1 : Int) (H : p_laws_markRowS v0 v1 = some r) : Fn' prog 143 #[.slice x_v0.1 n_v0 x_v0.2, .int .i64 (v1)] [] [tree (.slice x_v0.1 n_v0 x_v0.2) v0] (ι := Unit) (fun _ => .int .i64 (r.1)) (fun _ => []) (fun _ => [tree (.slice x_v0.1 n_v0 x_v0.2) r.2]) := by
 subst e_v0
 refine cof (args := [_, _]) func143 ntmps143 fun c => ?_
 unfold p_laws_markRowS at H
 refine sr (Rg.a (v := .int .i64 (0)) rfl (nl (Tr.seq (sr (Rg.a (v := .int .i64 (0)) rfl (nl (bdo H fun x1 hx2 H => (tMidNC (ι := Unit) (fun ψ => [(1, .int .i64 (x1.1))]) (fun ψ => [tree (.slice x_v0.1 v0.length x_v0.2) x1.2]) ?_ ?_))))))))
 ·refine Tr.block (tLoopI hx2 () (fun Q5 _ => [(0, .slice x_v0.1 v0.length x_v0.2), (1, .int .i64 (Q5.2.1)), (5, .int .i64 (Q5.2.2))]) (fun Q5 _ => [tree (.slice x_v0.1 v0.length x_v0.2) Q5.1]) (.cons Del.here .nil) ?_)
  rintro _ Q5 z6 t8 H1 hi9 hb10
  unfold p_laws_markRowS_b0 at H1
  refine Tr.seq (sr (Rg.m rfl (Rg.m rfl (Rg.p (p_len 135 underlying130 rfl) (Rg.p (p_lss rfl rfl) (nl (cH H1 rfl (fun h13 H1 => ?_) (fun h13 H1 => ?_))))))))
  ·refine tSkip (nT (Tr.seq (Tr.block (Tr.seq (gdo H1 fun h14 H1 => (Tr.zoom (k := Q5.2.2.toNat) h14.lt (.cons Del.here .nil) fun x15 => ?_))))))
   show Tr _ _ _ _ _ _ _ (hole (.slice x_v0.1 v0.length x_v0.2) Q5.1 Q5.2.2.toNat [.int .i64 ((nth Q5.1 Q5.2.2.toNat).1), .int .i64 ((nth Q5.1 Q5.2.2.toNat).2)] :: _)
   refine Tr.region (Rg.m rfl (Rg.m rfl (Rg.m rfl (Rg.o (v := elp x_v0.1 (Q5.2.2.toNat * Enc.sz Row + 0)) (q_ixH (k := Q5.2.2.toNat) underlying130 ty135 rfl rfl h14 rfl Has.here) (Rg.o (v := elp x_v0.1 (Q5.2.2.toNat * Enc.sz Row + 0)) (q_faH (j := 0) (i := Q5.2.2.toNat) fa135_0 rfl Has.here rfl) (g0 (e_stH (v := .int .i64 (Q5.2.1)) (i := Q5.2.2.toNat) (j := 0) (cs' := [.int .i64 (Q5.2.1), .int .i64 ((nth Q5.1 Q5.2.2.toNat).2)]) ty3 rfl rfl (.cons Del.here .nil) rfl (one_of rfl) (Nat.le_of_ble_eq_true rfl) rfl rfl) (nl (sr (Rg.m rfl ?_)))))))))
   refine gdo H1 fun h16 H1 => (Rg.p (p_add rfl rfl h16) (Rg.a rfl (nl (sr (Rg.m rfl (Rg.m rfl (Rg.m rfl (Rg.o (v := elp x_v0.1 (Q5.2.2.toNat * Enc.sz Row + 0)) (q_ixH (k := Q5.2.2.toNat) underlying130 ty135 rfl rfl h14 rfl Has.here) (Rg.o (v := elp x_v0.1 (Q5.2.2.toNat * Enc.sz Row + 1)) (q_faH (j := 0) (i := Q5.2.2.toNat) fa135_1 rfl Has.here rfl) (g0 (e_stH (v := .int .i64 (Q5.2.1 + 1)) (i := Q5.2.2.toNat) (j := 1) (cs' := [.int .i64 (Q5.2.1), .int .i64 (Q5.2.1 + 1)]) ty3 rfl rfl (.cons Del.here .nil) rfl (one_of rfl) (Nat.le_of_ble_eq_true rfl) rfl rfl) ?_))))))))))
   refine nl (Tr.region (Rg.m rfl (gdo H1 fun h17 H1 => (Rg.p (p_add rfl rfl h17) (Rg.a rfl (Rg.nl (nB (nT (Tr.region (Rg.m rfl (gdo H1 fun h18 H1 => ?_)))))))))))
   exact Rg.p (p_add rfl rfl h18) (Rg.a rfl (Rg.nl (At.unzoom (Q5.2.1, (Q5.2.1 + 1)) ((), ()) rfl (.cons Del.here .nil) (nLI () (hi9 _ (sm H1)) (.cons Del.here .nil)))))
  ·refine tExit (xT (xT (xE (?_))))
   obtain rfl := hb10 _ (sm H1)
   exact nMC () ⟨rfl, trivial⟩ Ents.refl (.cons Del.here .nil)
 ·intro y7
  show At _ _ [(1, .int .i64 (x1.1))] _ [tree (.slice x_v0.1 v0.length x_v0.2) x1.2] _
  refine nT (sr (Rg.m rfl (Rg.a rfl (nl ?_))))
  obtain rfl := si H
  exact tRet (bk (.cons Del.here .nil))
noncomputable def p_laws_markRowSS_b0 (v0 : (List (List Row))) (Q5 : (List (List Row)) × Int × Int) : Option (((List (List Row)) × Int × Int) ⊕ (Int × (List (List Row)))) := cond (decide (Q5.2.2 < (v0.length : Int))) (gd (ix Q5.2.2 Q5.1.length) <| bd (p_laws_markRowS (nth Q5.1 Q5.2.2.toNat) Q5.2.1) fun r16 => gd (I64 (Q5.2.2 + 1)) <| some (.inl ((Q5.1.set Q5.2.2.toNat r16.2), r16.1, Q5.2.2 + 1))) (some (.inr (Q5.2.1, Q5.1)))
noncomputable def p_laws_markRowSS (v0 : (List (List Row))) (v1 : Int) : Option (Int × (List (List Row))) := bd (lp (p_laws_markRowSS_b0 v0) (v0, v1, 0)) fun x1 => some (x1.1, x1.2)
theorem c_laws_markRowSS {r : Int × (List (List Row))} (v0 : (List (List Row))) (x_v0 : Option Addr × Nat) (n_v0 : Nat) (e_v0 : n_v0 = v0.length) (v1 : Int) (H : p_laws_markRowSS v0 v1 = some r) : Fn' prog 90 #[.slice x_v0.1 n_v0 x_v0.2, .int .i64 (v1)] [] [tree (.slice x_v0.1 n_v0 x_v0.2) v0] (ι := Unit) (fun _ => .int .i64 (r.1)) (fun _ => []) (fun _ => [tree (.slice x_v0.1 n_v0 x_v0.2) r.2]) := by
 subst e_v0
 refine cof (args := [_, _]) func90 ntmps90 fun c => ?_
 unfold p_laws_markRowSS at H
 refine sr (Rg.a (v := .int .i64 (0)) rfl (nl (Tr.seq (sr (Rg.a (v := .int .i64 (0)) rfl (nl (bdo H fun x1 hx2 H => (tMidNC (ι := Unit) (fun ψ => [(1, .int .i64 (x1.1))]) (fun ψ => [tree (.slice x_v0.1 v0.length x_v0.2) x1.2]) ?_ ?_))))))))
 ·refine Tr.block (tLoopI hx2 () (fun Q5 _ => [(0, .slice x_v0.1 v0.length x_v0.2), (1, .int .i64 (Q5.2.1)), (5, .int .i64 (Q5.2.2))]) (fun Q5 _ => [tree (.slice x_v0.1 v0.length x_v0.2) Q5.1]) (.cons Del.here .nil) ?_)
  rintro _ Q5 z6 t8 H1 hi9 hb10
  unfold p_laws_markRowSS_b0 at H1
  refine Tr.seq (sr (Rg.m rfl (Rg.m rfl (Rg.p (p_len 130 underlying73 rfl) (Rg.p (p_lss rfl rfl) (nl (cH H1 rfl (fun h13 H1 => ?_) (fun h13 H1 => ?_))))))))
  ·refine tSkip (nT (Tr.seq (Tr.block (gdo H1 fun h14 H1 => (Tr.zoom (k := Q5.2.2.toNat) h14.lt (.cons Del.here .nil) fun x15 => ?_)))))
   show Tr _ _ _ _ _ _ _ (hole (.slice x_v0.1 v0.length x_v0.2) Q5.1 Q5.2.2.toNat [.slice x15.1 ((nth Q5.1 Q5.2.2.toNat).length) x15.2] :: tree (.slice x15.1 ((nth Q5.1 Q5.2.2.toNat).length) x15.2) (nth Q5.1 Q5.2.2.toNat) :: _)
   refine Tr.region (Rg.m rfl (Rg.m rfl (Rg.o (v := elp x_v0.1 (Q5.2.2.toNat * Enc.sz (List Row) + 0)) (q_ixH (k := Q5.2.2.toNat) underlying73 ty130 rfl rfl h14 rfl Has.here) (Rg.o (v := .slice x15.1 ((nth Q5.1 Q5.2.2.toNat).length) x15.2) (q_ldH (i := Q5.2.2.toNat) (j := 0) ty130 rfl Has.here rfl) (Rg.m rfl (bdo H1 fun r16 h17 H1 => (f1 (e_callM (c_laws_markRowS (nth Q5.1 Q5.2.2.toNat) x15 ((nth Q5.1 Q5.2.2.toNat).length) rfl Q5.2.1 h17) (Solo.tree Solo.nil) (fun _ => (Solo.tree Solo.nil)) rfl (.cons dl1 .nil) EntsB.nil) fun u18 => (Rg.a rfl (Rg.nl (nB (nT (?_))))))))))))
   refine Tr.olen Has.here fun hn => ?_; rw [hn]
   exact Tr.region (Rg.m rfl (gdo H1 fun h19 H1 => (Rg.p (p_add rfl rfl h19) (Rg.a rfl (Rg.nl (At.unzoom r16.2 x15 rfl (.cons dl1 (.cons Del.here .nil)) (nLI () (hi9 _ (sm H1)) (.cons Del.here .nil))))))))
  ·refine tExit (xT (xT (xE (?_))))
   obtain rfl := hb10 _ (sm H1)
   exact nMC () ⟨rfl, trivial⟩ Ents.refl (.cons Del.here .nil)
 ·intro y7
  show At _ _ [(1, .int .i64 (x1.1))] _ [tree (.slice x_v0.1 v0.length x_v0.2) x1.2] _
  refine nT (sr (Rg.m rfl (Rg.a rfl (nl ?_))))
  obtain rfl := si H
  exact tRet (bk (.cons Del.here .nil))
noncomputable def p_laws_markFileS_b0 (v0 : (List File)) (Q5 : (List File) × Int × Int) : Option (((List File) × Int × Int) ⊕ (Int × (List File))) := cond (decide (Q5.2.2 < (v0.length : Int))) (gd (ix Q5.2.2 Q5.1.length) <| gd (I64 (Q5.2.1 + 1)) <| bd (p_laws_markIntS (((nth Q5.1 Q5.2.2.toNat).2).1) (Q5.2.1 + 1)) fun r17 => bd (p_laws_markRowSS (((nth Q5.1 Q5.2.2.toNat).2).2) r17.1) fun r20 => gd (I64 (Q5.2.2 + 1)) <| some (.inl ((Q5.1.set Q5.2.2.toNat (Q5.2.1, (r17.2, r20.2))), r20.1, Q5.2.2 + 1))) (some (.inr (Q5.2.1, Q5.1)))
noncomputable def p_laws_markFileS (v0 : (List File)) (v1 : Int) : Option (Int × (List File)) := bd (lp (p_laws_markFileS_b0 v0) (v0, v1, 0)) fun x1 => some (x1.1, x1.2)
theorem c_laws_markFileS {r : Int × (List File)} (v0 : (List File)) (x_v0 : Option Addr × Nat) (n_v0 : Nat) (e_v0 : n_v0 = v0.length) (v1 : Int) (H : p_laws_markFileS v0 v1 = some r) : Fn' prog 60 #[.slice x_v0.1 n_v0 x_v0.2, .int .i64 (v1)] [] [tree (.slice x_v0.1 n_v0 x_v0.2) v0] (ι := Unit) (fun _ => .int .i64 (r.1)) (fun _ => []) (fun _ => [tree (.slice x_v0.1 n_v0 x_v0.2) r.2]) := by
 subst e_v0
 refine cof (args := [_, _]) func60 ntmps60 fun c => ?_
 unfold p_laws_markFileS at H
 refine sr (Rg.a (v := .int .i64 (0)) rfl (nl (Tr.seq (sr (Rg.a (v := .int .i64 (0)) rfl (nl (bdo H fun x1 hx2 H => (tMidNC (ι := Unit) (fun ψ => [(1, .int .i64 (x1.1))]) (fun ψ => [tree (.slice x_v0.1 v0.length x_v0.2) x1.2]) ?_ ?_))))))))
 ·refine Tr.block (tLoopI hx2 () (fun Q5 _ => [(0, .slice x_v0.1 v0.length x_v0.2), (1, .int .i64 (Q5.2.1)), (5, .int .i64 (Q5.2.2))]) (fun Q5 _ => [tree (.slice x_v0.1 v0.length x_v0.2) Q5.1]) (.cons Del.here .nil) ?_)
  rintro _ Q5 z6 t8 H1 hi9 hb10
  unfold p_laws_markFileS_b0 at H1
  refine Tr.seq (sr (Rg.m rfl (Rg.m rfl (Rg.p (p_len 77 underlying29 rfl) (Rg.p (p_lss rfl rfl) (nl (cH H1 rfl (fun h13 H1 => ?_) (fun h13 H1 => ?_))))))))
  ·refine tSkip (nT (Tr.seq (Tr.block (Tr.seq (gdo H1 fun h14 H1 => (Tr.zoom (k := Q5.2.2.toNat) h14.lt (.cons Del.here .nil) fun x15 => ?_))))))
   show Tr _ _ _ _ _ _ _ (hole (.slice x_v0.1 v0.length x_v0.2) Q5.1 Q5.2.2.toNat [.int .i64 ((nth Q5.1 Q5.2.2.toNat).1), .slice x15.2.1.1 ((((nth Q5.1 Q5.2.2.toNat).2).1).length) x15.2.1.2, .slice x15.2.2.1 ((((nth Q5.1 Q5.2.2.toNat).2).2).length) x15.2.2.2] :: tree (.slice x15.2.1.1 ((((nth Q5.1 Q5.2.2.toNat).2).1).length) x15.2.1.2) (((nth Q5.1 Q5.2.2.toNat).2).1) :: tree (.slice x15.2.2.1 ((((nth Q5.1 Q5.2.2.toNat).2).2).length) x15.2.2.2) (((nth Q5.1 Q5.2.2.toNat).2).2) :: _)
   refine Tr.region (Rg.m rfl (Rg.m rfl (Rg.m rfl (Rg.o (v := elp x_v0.1 (Q5.2.2.toNat * Enc.sz File + 0)) (q_ixH (k := Q5.2.2.toNat) underlying29 ty77 rfl rfl h14 rfl Has.here) (Rg.o (v := elp x_v0.1 (Q5.2.2.toNat * Enc.sz File + 0)) (q_faH (j := 0) (i := Q5.2.2.toNat) fa77_0 rfl Has.here rfl) (g0 (e_stH (v := .int .i64 (Q5.2.1)) (i := Q5.2.2.toNat) (j := 0) (cs' := [.int .i64 (Q5.2.1), .slice x15.2.1.1 ((((nth Q5.1 Q5.2.2.toNat).2).1).length) x15.2.1.2, .slice x15.2.2.1 ((((nth Q5.1 Q5.2.2.toNat).2).2).length) x15.2.2.2]) ty3 rfl rfl (.cons Del.here .nil) rfl (one_of rfl) (Nat.le_of_ble_eq_true rfl) rfl rfl) (nl (sr (Rg.m rfl ?_)))))))))
   refine gdo H1 fun h16 H1 => (Rg.p (p_add rfl rfl h16) (Rg.a rfl (nl (sr (Rg.m rfl (Rg.m rfl (Rg.o (v := elp x_v0.1 (Q5.2.2.toNat * Enc.sz File + 0)) (q_ixH (k := Q5.2.2.toNat) underlying29 ty77 rfl rfl h14 rfl Has.here) (Rg.o (v := elp x_v0.1 (Q5.2.2.toNat * Enc.sz File + 1)) (q_faH (j := 0) (i := Q5.2.2.toNat) fa77_1 rfl Has.here rfl) (Rg.o (v := elp x_v0.1 (Q5.2.2.toNat * Enc.sz File + 1)) (q_faH (j := 1) (i := Q5.2.2.toNat) fa75_0 rfl Has.here rfl) (Rg.o (v := .slice x15.2.1.1 ((((nth Q5.1 Q5.2.2.toNat).2).1).length) x15.2.1.2) (q_ldH (i := Q5.2.2.toNat) (j := 1) ty23 rfl Has.here rfl) ?_))))))))))
   refine Rg.m rfl (bdo H1 fun r17 h18 H1 => (f1 (e_callM (c_laws_markIntS (((nth Q5.1 Q5.2.2.toNat).2).1) x15.2.1 ((((nth Q5.1 Q5.2.2.toNat).2).1).length) rfl (Q5.2.1 + 1) h18) (Solo.tree Solo.nil) (fun _ => (Solo.tree Solo.nil)) rfl (.cons dl1 .nil) EntsB.nil) fun u19 => (Rg.a rfl (nl ?_))))
   refine Tr.olen Has.here fun hn => ?_; rw [hn]
   refine Tr.region (Rg.m rfl (Rg.m rfl (Rg.o (v := elp x_v0.1 (Q5.2.2.toNat * Enc.sz File + 0)) (q_ixH (k := Q5.2.2.toNat) underlying29 ty77 rfl rfl h14 rfl hs1) (Rg.o (v := elp x_v0.1 (Q5.2.2.toNat * Enc.sz File + 1)) (q_faH (j := 0) (i := Q5.2.2.toNat) fa77_1 rfl hs1 rfl) (Rg.o (v := elp x_v0.1 (Q5.2.2.toNat * Enc.sz File + 2)) (q_faH (j := 1) (i := Q5.2.2.toNat) fa75_1 rfl hs1 rfl) (Rg.o (v := .slice x15.2.2.1 ((((nth Q5.1 Q5.2.2.toNat).2).2).length) x15.2.2.2) (q_ldH (i := Q5.2.2.toNat) (j := 2) ty73 rfl hs1 rfl) (Rg.m rfl (bdo H1 fun r20 h21 H1 => (f1 (e_callM (c_laws_markRowSS (((nth Q5.1 Q5.2.2.toNat).2).2) x15.2.2 ((((nth Q5.1 Q5.2.2.toNat).2).2).length) rfl r17.1 h21) (Solo.tree Solo.nil) (fun _ => (Solo.tree Solo.nil)) rfl (.cons dl2 .nil) EntsB.nil) fun u22 => ?_)))))))))
   refine Rg.a rfl (Rg.nl (nB (nT (?_))))
   refine Tr.olen Has.here fun hn => ?_; rw [hn]
   exact Tr.region (Rg.m rfl (gdo H1 fun h23 H1 => (Rg.p (p_add rfl rfl h23) (Rg.a rfl (Rg.nl (At.unzoom (Q5.2.1, (r17.2, r20.2)) ((), x15.2) rfl (.cons dl2 (.cons dl1 (.cons Del.here .nil))) (nLI () (hi9 _ (sm H1)) (.cons Del.here .nil))))))))
  ·refine tExit (xT (xT (xE (?_))))
   obtain rfl := hb10 _ (sm H1)
   exact nMC () ⟨rfl, trivial⟩ Ents.refl (.cons Del.here .nil)
 ·intro y7
  show At _ _ [(1, .int .i64 (x1.1))] _ [tree (.slice x_v0.1 v0.length x_v0.2) x1.2] _
  refine nT (sr (Rg.m rfl (Rg.a rfl (nl ?_))))
  obtain rfl := si H
  exact tRet (bk (.cons Del.here .nil))
noncomputable def p_laws_markText_b0 (Q6 : Int × ByteArray) : Option ((Int × ByteArray) ⊕ (ByteArray)) := cond (decide (0 < Q6.1)) (gd (I64 (Q6.1.tmod 10)) <| gd (I64 (48 + (Q6.1.tmod 10))) <| gd (room ((s2 [b8 (48 + (Q6.1.tmod 10))]).size + Q6.2.size)) <| gd (I64 (Q6.1.tdiv 10)) <| some (.inl (Q6.1.tdiv 10, (s2 [b8 (48 + (Q6.1.tmod 10))]) ++ Q6.2))) (some (.inr Q6.2))
noncomputable def p_laws_markText (v0 : Int) : Option (ByteArray) := cond (decide (v0 ≤ 0)) (some (⟨#[109, 48]⟩ : ByteArray)) (bd (lp (p_laws_markText_b0) (v0, (⟨#[]⟩ : ByteArray))) fun x2 => gd (room ((⟨#[109]⟩ : ByteArray).size + x2.size)) <| some ((⟨#[109]⟩ : ByteArray) ++ x2))
theorem c_laws_markText {r : ByteArray} (v0 : Int) (H : p_laws_markText v0 = some r) : Fn' prog 172 #[.int .i64 (v0)] [] [] (ι := Unit) (fun _ => .string (r)) (fun _ => []) (fun _ => []) := by
 refine cof (args := [_]) func172 ntmps172 fun c => ?_
 unfold p_laws_markText at H
 refine sr (Rg.a (v := .string ((⟨#[]⟩ : ByteArray))) rfl (nl (Tr.seq (sr (Rg.m rfl (Rg.p (p_leq rfl rfl) (nl (cH H rfl (fun h1 H => ?_) (fun h1 H => ?_)))))))))
 ·refine sr (Rg.a (v := .string ((⟨#[109, 48]⟩ : ByteArray))) rfl (nl (tRet (rT (?_)))))
  obtain rfl := si H
  exact bk
 ·refine tSkip (nT (sr (Rg.a (v := .string ((⟨#[]⟩ : ByteArray))) rfl (nl (bdo H fun x2 hx3 H => (tMidC (ι := Unit) (fun ψ => [(3, .string (x2))]) (fun ψ => []) ?_ ?_))))))
  ·refine Tr.block (tLoopI hx3 () (fun Q6 _ => [(0, .int .i64 (Q6.1)), (3, .string (Q6.2))]) (fun _ _ => []) Take.nil ?_)
   rintro _ Q6 z7 t9 H1 hi10 hb11
   unfold p_laws_markText_b0 at H1
   refine Tr.seq (sr (Rg.m rfl (Rg.p (p_gtr rfl rfl) (nl (cH H1 rfl (fun h14 H1 => ?_) (fun h14 H1 => ?_))))))
   ·refine tSkip (nT (Tr.block (sr (Rg.m rfl (gdo H1 fun h15 H1 => (Rg.p (p_rem rfl rfl (by decide) h15) (gdo H1 fun h16 H1 => (Rg.p (p_add rfl rfl h16) (Rg.p (v := .int .u8 ((b8 (48 + (Q6.1.tmod 10))).toNat : Int)) (p_b8 underlying3 underlying5 rfl) ?_)))))))))
    refine f1 (e_lit (vs := [(0, .int .u8 ((b8 (48 + (Q6.1.tmod 10))).toNat : Int))]) [.int .u8 ((b8 (48 + (Q6.1.tmod 10))).toNat : Int)] underlying220 ty5 rfl (by decide) (by decide) (by kernel_rfl)) fun g17 => (Rg.o (v := .string (s2 [b8 (48 + (Q6.1.tmod 10))])) (q_b2sL [b8 (48 + (Q6.1.tmod 10))] underlying220 underlying5 underlying9 rfl Has.here rfl) (Rg.m rfl (gdo H1 fun h18 H1 => (Rg.p (p_cat rfl rfl h18) (Rg.a rfl (nl (Tr.region (Rg.m rfl (gdo H1 fun h19 H1 => (Rg.p (p_quo rfl rfl (by decide) h19) ?_))))))))))
    exact Rg.a rfl (Rg.nl (nB (nLI () (hi10 _ (sm H1)) Take.nil)))
   ·refine tExit (xT (xT (xE (?_))))
    obtain rfl := hb11 _ (sm H1)
    exact nMC () ⟨rfl, trivial⟩ Ents.refl Take.nil
  ·intro y8
   show Tr _ _ _ _ _ [(3, .string (x2))] _ []
   refine sr (Rg.m rfl (gdo H fun h20 H => (Rg.p (v := .string ((⟨#[109]⟩ : ByteArray) ++ x2)) (p_cat rfl rfl h20) (Rg.a (v := .string ((⟨#[109]⟩ : ByteArray) ++ x2)) rfl (nl ?_)))))
   obtain rfl := si H
   exact tRet bk
noncomputable def p_laws_markTagS_b0 (v0 : (List Tag)) (Q5 : (List Tag) × Int × Int) : Option (((List Tag) × Int × Int) ⊕ (Int × (List Tag))) := cond (decide (Q5.2.2 < (v0.length : Int))) (gd (ix Q5.2.2 Q5.1.length) <| bd (p_laws_markText Q5.2.1) fun r16 => gd (I64 (Q5.2.1 + 1)) <| bd (p_laws_markText (Q5.2.1 + 1)) fun r19 => gd (I64 ((Q5.2.1 + 1) + 1)) <| gd (I64 (Q5.2.2 + 1)) <| some (.inl ((Q5.1.set Q5.2.2.toNat (r16, r19)), (Q5.2.1 + 1) + 1, Q5.2.2 + 1))) (some (.inr (Q5.2.1, Q5.1)))
noncomputable def p_laws_markTagS (v0 : (List Tag)) (v1 : Int) : Option (Int × (List Tag)) := bd (lp (p_laws_markTagS_b0 v0) (v0, v1, 0)) fun x1 => some (x1.1, x1.2)
theorem c_laws_markTagS {r : Int × (List Tag)} (v0 : (List Tag)) (x_v0 : Option Addr × Nat) (n_v0 : Nat) (e_v0 : n_v0 = v0.length) (v1 : Int) (H : p_laws_markTagS v0 v1 = some r) : Fn' prog 123 #[.slice x_v0.1 n_v0 x_v0.2, .int .i64 (v1)] [] [tree (.slice x_v0.1 n_v0 x_v0.2) v0] (ι := Unit) (fun _ => .int .i64 (r.1)) (fun _ => []) (fun _ => [tree (.slice x_v0.1 n_v0 x_v0.2) r.2]) := by
 subst e_v0
 refine cof (args := [_, _]) func123 ntmps123 fun c => ?_
 unfold p_laws_markTagS at H
 refine sr (Rg.a (v := .int .i64 (0)) rfl (nl (Tr.seq (sr (Rg.a (v := .int .i64 (0)) rfl (nl (bdo H fun x1 hx2 H => (tMidNC (ι := Unit) (fun ψ => [(1, .int .i64 (x1.1))]) (fun ψ => [tree (.slice x_v0.1 v0.length x_v0.2) x1.2]) ?_ ?_))))))))
 ·refine Tr.block (tLoopI hx2 () (fun Q5 _ => [(0, .slice x_v0.1 v0.length x_v0.2), (1, .int .i64 (Q5.2.1)), (5, .int .i64 (Q5.2.2))]) (fun Q5 _ => [tree (.slice x_v0.1 v0.length x_v0.2) Q5.1]) (.cons Del.here .nil) ?_)
  rintro _ Q5 z6 t8 H1 hi9 hb10
  unfold p_laws_markTagS_b0 at H1
  refine Tr.seq (sr (Rg.m rfl (Rg.m rfl (Rg.p (p_len 172 underlying142 rfl) (Rg.p (p_lss rfl rfl) (nl (cH H1 rfl (fun h13 H1 => ?_) (fun h13 H1 => ?_))))))))
  ·refine tSkip (nT (Tr.seq (Tr.block (Tr.seq (gdo H1 fun h14 H1 => (Tr.zoom (k := Q5.2.2.toNat) h14.lt (.cons Del.here .nil) fun x15 => ?_))))))
   show Tr _ _ _ _ _ _ _ (hole (.slice x_v0.1 v0.length x_v0.2) Q5.1 Q5.2.2.toNat [.string ((nth Q5.1 Q5.2.2.toNat).1), .string ((nth Q5.1 Q5.2.2.toNat).2)] :: _)
   refine Tr.region (Rg.m rfl (Rg.m rfl (Rg.m rfl (bdo H1 fun r16 h17 H1 => (Rg.o (q_call (c_laws_markText Q5.2.1 h17) rfl EntsB.nil) (Rg.o (v := elp x_v0.1 (Q5.2.2.toNat * Enc.sz Tag + 0)) (q_ixH (k := Q5.2.2.toNat) underlying142 ty172 rfl rfl h14 rfl Has.here) (Rg.o (v := elp x_v0.1 (Q5.2.2.toNat * Enc.sz Tag + 0)) (q_faH (j := 0) (i := Q5.2.2.toNat) fa172_0 rfl Has.here rfl) (g0 (e_stH (v := .string (r16)) (i := Q5.2.2.toNat) (j := 0) (cs' := [.string (r16), .string ((nth Q5.1 Q5.2.2.toNat).2)]) ty9 rfl rfl (.cons Del.here .nil) rfl (one_of rfl) (Nat.le_of_ble_eq_true rfl) rfl rfl) (nl ?_)))))))))
   refine sr (Rg.m rfl (gdo H1 fun h18 H1 => (Rg.p (p_add rfl rfl h18) (Rg.a rfl (nl (sr (Rg.m rfl (Rg.m rfl (Rg.m rfl (bdo H1 fun r19 h20 H1 => ?_))))))))))
   refine Rg.o (q_call (c_laws_markText (Q5.2.1 + 1) h20) rfl EntsB.nil) (Rg.o (v := elp x_v0.1 (Q5.2.2.toNat * Enc.sz Tag + 0)) (q_ixH (k := Q5.2.2.toNat) underlying142 ty172 rfl rfl h14 rfl Has.here) (Rg.o (v := elp x_v0.1 (Q5.2.2.toNat * Enc.sz Tag + 1)) (q_faH (j := 0) (i := Q5.2.2.toNat) fa172_1 rfl Has.here rfl) (g0 (e_stH (v := .string (r19)) (i := Q5.2.2.toNat) (j := 1) (cs' := [.string (r16), .string (r19)]) ty9 rfl rfl (.cons Del.here .nil) rfl (one_of rfl) (Nat.le_of_ble_eq_true rfl) rfl rfl) (nl (Tr.region (Rg.m rfl (gdo H1 fun h21 H1 => (Rg.p (p_add rfl rfl h21) (Rg.a rfl (Rg.nl ?_))))))))))
   exact nB (nT (Tr.region (Rg.m rfl (gdo H1 fun h22 H1 => (Rg.p (p_add rfl rfl h22) (Rg.a rfl (Rg.nl (At.unzoom (r16, r19) ((), ()) rfl (.cons Del.here .nil) (nLI () (hi9 _ (sm H1)) (.cons Del.here .nil))))))))))
  ·refine tExit (xT (xT (xE (?_))))
   obtain rfl := hb10 _ (sm H1)
   exact nMC () ⟨rfl, trivial⟩ Ents.refl (.cons Del.here .nil)
 ·intro y7
  show At _ _ [(1, .int .i64 (x1.1))] _ [tree (.slice x_v0.1 v0.length x_v0.2) x1.2] _
  refine nT (sr (Rg.m rfl (Rg.a rfl (nl ?_))))
  obtain rfl := si H
  exact tRet (bk (.cons Del.here .nil))
noncomputable def p_laws_markTagSS_b0 (v0 : (List (List Tag))) (Q5 : (List (List Tag)) × Int × Int) : Option (((List (List Tag)) × Int × Int) ⊕ (Int × (List (List Tag)))) := cond (decide (Q5.2.2 < (v0.length : Int))) (gd (ix Q5.2.2 Q5.1.length) <| bd (p_laws_markTagS (nth Q5.1 Q5.2.2.toNat) Q5.2.1) fun r16 => gd (I64 (Q5.2.2 + 1)) <| some (.inl ((Q5.1.set Q5.2.2.toNat r16.2), r16.1, Q5.2.2 + 1))) (some (.inr (Q5.2.1, Q5.1)))
noncomputable def p_laws_markTagSS (v0 : (List (List Tag))) (v1 : Int) : Option (Int × (List (List Tag))) := bd (lp (p_laws_markTagSS_b0 v0) (v0, v1, 0)) fun x1 => some (x1.1, x1.2)
theorem c_laws_markTagSS {r : Int × (List (List Tag))} (v0 : (List (List Tag))) (x_v0 : Option Addr × Nat) (n_v0 : Nat) (e_v0 : n_v0 = v0.length) (v1 : Int) (H : p_laws_markTagSS v0 v1 = some r) : Fn' prog 62 #[.slice x_v0.1 n_v0 x_v0.2, .int .i64 (v1)] [] [tree (.slice x_v0.1 n_v0 x_v0.2) v0] (ι := Unit) (fun _ => .int .i64 (r.1)) (fun _ => []) (fun _ => [tree (.slice x_v0.1 n_v0 x_v0.2) r.2]) := by
 subst e_v0
 refine cof (args := [_, _]) func62 ntmps62 fun c => ?_
 unfold p_laws_markTagSS at H
 refine sr (Rg.a (v := .int .i64 (0)) rfl (nl (Tr.seq (sr (Rg.a (v := .int .i64 (0)) rfl (nl (bdo H fun x1 hx2 H => (tMidNC (ι := Unit) (fun ψ => [(1, .int .i64 (x1.1))]) (fun ψ => [tree (.slice x_v0.1 v0.length x_v0.2) x1.2]) ?_ ?_))))))))
 ·refine Tr.block (tLoopI hx2 () (fun Q5 _ => [(0, .slice x_v0.1 v0.length x_v0.2), (1, .int .i64 (Q5.2.1)), (5, .int .i64 (Q5.2.2))]) (fun Q5 _ => [tree (.slice x_v0.1 v0.length x_v0.2) Q5.1]) (.cons Del.here .nil) ?_)
  rintro _ Q5 z6 t8 H1 hi9 hb10
  unfold p_laws_markTagSS_b0 at H1
  refine Tr.seq (sr (Rg.m rfl (Rg.m rfl (Rg.p (p_len 142 underlying30 rfl) (Rg.p (p_lss rfl rfl) (nl (cH H1 rfl (fun h13 H1 => ?_) (fun h13 H1 => ?_))))))))
  ·refine tSkip (nT (Tr.seq (Tr.block (gdo H1 fun h14 H1 => (Tr.zoom (k := Q5.2.2.toNat) h14.lt (.cons Del.here .nil) fun x15 => ?_)))))
   show Tr _ _ _ _ _ _ _ (hole (.slice x_v0.1 v0.length x_v0.2) Q5.1 Q5.2.2.toNat [.slice x15.1 ((nth Q5.1 Q5.2.2.toNat).length) x15.2] :: tree (.slice x15.1 ((nth Q5.1 Q5.2.2.toNat).length) x15.2) (nth Q5.1 Q5.2.2.toNat) :: _)
   refine Tr.region (Rg.m rfl (Rg.m rfl (Rg.o (v := elp x_v0.1 (Q5.2.2.toNat * Enc.sz (List Tag) + 0)) (q_ixH (k := Q5.2.2.toNat) underlying30 ty142 rfl rfl h14 rfl Has.here) (Rg.o (v := .slice x15.1 ((nth Q5.1 Q5.2.2.toNat).length) x15.2) (q_ldH (i := Q5.2.2.toNat) (j := 0) ty142 rfl Has.here rfl) (Rg.m rfl (bdo H1 fun r16 h17 H1 => (f1 (e_callM (c_laws_markTagS (nth Q5.1 Q5.2.2.toNat) x15 ((nth Q5.1 Q5.2.2.toNat).length) rfl Q5.2.1 h17) (Solo.tree Solo.nil) (fun _ => (Solo.tree Solo.nil)) rfl (.cons dl1 .nil) EntsB.nil) fun u18 => (Rg.a rfl (Rg.nl (nB (nT (?_))))))))))))
   refine Tr.olen Has.here fun hn => ?_; rw [hn]
   exact Tr.region (Rg.m rfl (gdo H1 fun h19 H1 => (Rg.p (p_add rfl rfl h19) (Rg.a rfl (Rg.nl (At.unzoom r16.2 x15 rfl (.cons dl1 (.cons Del.here .nil)) (nLI () (hi9 _ (sm H1)) (.cons Del.here .nil))))))))
  ·refine tExit (xT (xT (xE (?_))))
   obtain rfl := hb10 _ (sm H1)
   exact nMC () ⟨rfl, trivial⟩ Ents.refl (.cons Del.here .nil)
 ·intro y7
  show At _ _ [(1, .int .i64 (x1.1))] _ [tree (.slice x_v0.1 v0.length x_v0.2) x1.2] _
  refine nT (sr (Rg.m rfl (Rg.a rfl (nl ?_))))
  obtain rfl := si H
  exact tRet (bk (.cons Del.here .nil))
noncomputable def p_laws_markDisk (v0 : Disk) (v1 : Int) : Option (Int × Disk) := bd (p_laws_markFileS v0.1 v1) fun r2 => bd (p_laws_markIntS v0.2.1 r2.1) fun r5 => bd (p_laws_markTagSS v0.2.2.1 r5.1) fun r8 => some (r8.1, (r2.2, r5.2, r8.2, v0.2.2.2))
theorem c_laws_markDisk {r : Int × Disk} (v0 : Disk) (x_v0 : (Option Addr × Nat) × (Option Addr × Nat) × (Option Addr × Nat) × Unit) (v1 : Int) (H : p_laws_markDisk v0 v1 = some r) : Fn' prog 17 #[.agg #[.slice x_v0.1.1 v0.1.length x_v0.1.2, .slice x_v0.2.1.1 v0.2.1.length x_v0.2.1.2, .slice x_v0.2.2.1.1 v0.2.2.1.length x_v0.2.2.1.2, .int .i64 (v0.2.2.2)], .int .i64 (v1)] [] [tree (.slice x_v0.1.1 v0.1.length x_v0.1.2) v0.1, tree (.slice x_v0.2.1.1 v0.2.1.length x_v0.2.1.2) v0.2.1, tree (.slice x_v0.2.2.1.1 v0.2.2.1.length x_v0.2.2.1.2) v0.2.2.1] (ι := Unit) (fun _ => .int .i64 (r.1)) (fun _ => []) (fun _ => [tree (.slice x_v0.1.1 v0.1.length x_v0.1.2) r.2.1, tree (.slice x_v0.2.1.1 v0.2.1.length x_v0.2.1.2) r.2.2.1, tree (.slice x_v0.2.2.1.1 v0.2.2.1.length x_v0.2.2.1.2) r.2.2.2.1]) := by
 refine cof (args := [_, _]) func17 ntmps17 fun c => ?_
 unfold p_laws_markDisk at H
 refine sr (f1 (e_box (t := 32) rfl) fun g1 => (Rg.a (v := .int .i64 (0)) rfl (nl (sr (Rg.p (p_fabE fa32_0 rfl rfl) (Rg.o (q_ldb ty29 rfl Has.here rfl) (Rg.m rfl (bdo H fun r2 h3 H => (f1 (e_callM (c_laws_markFileS v0.1 x_v0.1 v0.1.length rfl v1 h3) (Solo.tree Solo.nil) (fun _ => (Solo.tree Solo.nil)) rfl (.cons dl1 .nil) EntsB.nil) fun u4 => (Rg.a rfl (nl ?_)))))))))))
 refine sr (Rg.p (p_fabE fa32_1 rfl rfl) (Rg.o (q_ldb ty23 rfl hs1 rfl) (Rg.m rfl (bdo H fun r5 h6 H => (f1 (e_callM (c_laws_markIntS v0.2.1 x_v0.2.1 v0.2.1.length rfl r2.1 h6) (Solo.tree Solo.nil) (fun _ => (Solo.tree Solo.nil)) rfl (.cons dl2 .nil) EntsB.nil) fun u7 => (Rg.a rfl (nl (sr (Rg.p (p_fabE fa32_2 rfl rfl) (Rg.o (q_ldb ty30 rfl hs2 rfl) ?_))))))))))
 refine Rg.m rfl (bdo H fun r8 h9 H => (f1 (e_callM (c_laws_markTagSS v0.2.2.1 x_v0.2.2.1 v0.2.2.1.length rfl r5.1 h9) (Solo.tree Solo.nil) (fun _ => (Solo.tree Solo.nil)) rfl (.cons dl3 .nil) EntsB.nil) fun u10 => (Rg.a rfl (nl (sr (Rg.m rfl (Rg.a rfl (nl ?_))))))))
 obtain rfl := si H
 exact tRet (bk (.cons dl2 (.cons dl1 (.cons Del.here .nil))))
noncomputable def p_laws_markPostS_b0 (v0 : (List Post)) (Q5 : (List Post) × Int × Int) : Option (((List Post) × Int × Int) ⊕ (Int × (List Post))) := cond (decide (Q5.2.2 < (v0.length : Int))) (gd (ix Q5.2.2 Q5.1.length) <| bd (p_laws_markText Q5.2.1) fun r16 => gd (I64 (Q5.2.1 + 1)) <| bd (p_laws_markText (Q5.2.1 + 1)) fun r19 => gd (I64 ((Q5.2.1 + 1) + 1)) <| bd (p_laws_markIntS ((nth Q5.1 Q5.2.2.toNat).2) ((Q5.2.1 + 1) + 1)) fun r22 => gd (I64 (Q5.2.2 + 1)) <| some (.inl ((Q5.1.set Q5.2.2.toNat ((r16, r19), r22.2)), r22.1, Q5.2.2 + 1))) (some (.inr (Q5.2.1, Q5.1)))
noncomputable def p_laws_markPostS (v0 : (List Post)) (v1 : Int) : Option (Int × (List Post)) := bd (lp (p_laws_markPostS_b0 v0) (v0, v1, 0)) fun x1 => some (x1.1, x1.2)
theorem c_laws_markPostS {r : Int × (List Post)} (v0 : (List Post)) (x_v0 : Option Addr × Nat) (n_v0 : Nat) (e_v0 : n_v0 = v0.length) (v1 : Int) (H : p_laws_markPostS v0 v1 = some r) : Fn' prog 124 #[.slice x_v0.1 n_v0 x_v0.2, .int .i64 (v1)] [] [tree (.slice x_v0.1 n_v0 x_v0.2) v0] (ι := Unit) (fun _ => .int .i64 (r.1)) (fun _ => []) (fun _ => [tree (.slice x_v0.1 n_v0 x_v0.2) r.2]) := by
 subst e_v0
 refine cof (args := [_, _]) func124 ntmps124 fun c => ?_
 unfold p_laws_markPostS at H
 refine sr (Rg.a (v := .int .i64 (0)) rfl (nl (Tr.seq (sr (Rg.a (v := .int .i64 (0)) rfl (nl (bdo H fun x1 hx2 H => (tMidNC (ι := Unit) (fun ψ => [(1, .int .i64 (x1.1))]) (fun ψ => [tree (.slice x_v0.1 v0.length x_v0.2) x1.2]) ?_ ?_))))))))
 ·refine Tr.block (tLoopI hx2 () (fun Q5 _ => [(0, .slice x_v0.1 v0.length x_v0.2), (1, .int .i64 (Q5.2.1)), (5, .int .i64 (Q5.2.2))]) (fun Q5 _ => [tree (.slice x_v0.1 v0.length x_v0.2) Q5.1]) (.cons Del.here .nil) ?_)
  rintro _ Q5 z6 t8 H1 hi9 hb10
  unfold p_laws_markPostS_b0 at H1
  refine Tr.seq (sr (Rg.m rfl (Rg.m rfl (Rg.p (p_len 183 underlying36 rfl) (Rg.p (p_lss rfl rfl) (nl (cH H1 rfl (fun h13 H1 => ?_) (fun h13 H1 => ?_))))))))
  ·refine tSkip (nT (Tr.seq (Tr.block (Tr.seq (gdo H1 fun h14 H1 => (Tr.zoom (k := Q5.2.2.toNat) h14.lt (.cons Del.here .nil) fun x15 => ?_))))))
   show Tr _ _ _ _ _ _ _ (hole (.slice x_v0.1 v0.length x_v0.2) Q5.1 Q5.2.2.toNat [.string (((nth Q5.1 Q5.2.2.toNat).1).1), .string (((nth Q5.1 Q5.2.2.toNat).1).2), .slice x15.2.1 (((nth Q5.1 Q5.2.2.toNat).2).length) x15.2.2] :: tree (.slice x15.2.1 (((nth Q5.1 Q5.2.2.toNat).2).length) x15.2.2) ((nth Q5.1 Q5.2.2.toNat).2) :: _)
   refine Tr.region (Rg.m rfl (Rg.m rfl (Rg.m rfl (bdo H1 fun r16 h17 H1 => (Rg.o (q_call (c_laws_markText Q5.2.1 h17) rfl EntsB.nil) (Rg.o (v := elp x_v0.1 (Q5.2.2.toNat * Enc.sz Post + 0)) (q_ixH (k := Q5.2.2.toNat) underlying36 ty183 rfl rfl h14 rfl Has.here) (Rg.o (v := elp x_v0.1 (Q5.2.2.toNat * Enc.sz Post + 0)) (q_faH (j := 0) (i := Q5.2.2.toNat) fa183_0 rfl Has.here rfl) (Rg.o (v := elp x_v0.1 (Q5.2.2.toNat * Enc.sz Post + 0)) (q_faH (j := 0) (i := Q5.2.2.toNat) fa172_0 rfl Has.here rfl) (g0 (e_stH (v := .string (r16)) (i := Q5.2.2.toNat) (j := 0) (cs' := [.string (r16), .string (((nth Q5.1 Q5.2.2.toNat).1).2), .slice x15.2.1 (((nth Q5.1 Q5.2.2.toNat).2).length) x15.2.2]) ty9 rfl rfl (.cons Del.here .nil) rfl (one_of rfl) (Nat.le_of_ble_eq_true rfl) rfl rfl) ?_)))))))))
   refine nl (sr (Rg.m rfl (gdo H1 fun h18 H1 => (Rg.p (p_add rfl rfl h18) (Rg.a rfl (nl (sr (Rg.m rfl (Rg.m rfl (Rg.m rfl ?_))))))))))
   refine bdo H1 fun r19 h20 H1 => (Rg.o (q_call (c_laws_markText (Q5.2.1 + 1) h20) rfl EntsB.nil) (Rg.o (v := elp x_v0.1 (Q5.2.2.toNat * Enc.sz Post + 0)) (q_ixH (k := Q5.2.2.toNat) underlying36 ty183 rfl rfl h14 rfl Has.here) (Rg.o (v := elp x_v0.1 (Q5.2.2.toNat * Enc.sz Post + 0)) (q_faH (j := 0) (i := Q5.2.2.toNat) fa183_0 rfl Has.here rfl) (Rg.o (v := elp x_v0.1 (Q5.2.2.toNat * Enc.sz Post + 1)) (q_faH (j := 0) (i := Q5.2.2.toNat) fa172_1 rfl Has.here rfl) (g0 (e_stH (v := .string (r19)) (i := Q5.2.2.toNat) (j := 1) (cs' := [.string (r16), .string (r19), .slice x15.2.1 (((nth Q5.1 Q5.2.2.toNat).2).length) x15.2.2]) ty9 rfl rfl (.cons Del.here .nil) rfl (one_of rfl) (Nat.le_of_ble_eq_true rfl) rfl rfl) (nl (sr (Rg.m rfl (gdo H1 fun h21 H1 => ?_)))))))))
   refine Rg.p (p_add rfl rfl h21) (Rg.a rfl (nl (Tr.region (Rg.m rfl (Rg.m rfl (Rg.o (v := elp x_v0.1 (Q5.2.2.toNat * Enc.sz Post + 0)) (q_ixH (k := Q5.2.2.toNat) underlying36 ty183 rfl rfl h14 rfl Has.here) (Rg.o (v := elp x_v0.1 (Q5.2.2.toNat * Enc.sz Post + 2)) (q_faH (j := 0) (i := Q5.2.2.toNat) fa183_1 rfl Has.here rfl) (Rg.o (v := .slice x15.2.1 (((nth Q5.1 Q5.2.2.toNat).2).length) x15.2.2) (q_ldH (i := Q5.2.2.toNat) (j := 2) ty23 rfl Has.here rfl) (Rg.m rfl (bdo H1 fun r22 h23 H1 => ?_))))))))))
   refine f1 (e_callM (c_laws_markIntS ((nth Q5.1 Q5.2.2.toNat).2) x15.2 (((nth Q5.1 Q5.2.2.toNat).2).length) rfl ((Q5.2.1 + 1) + 1) h23) (Solo.tree Solo.nil) (fun _ => (Solo.tree Solo.nil)) rfl (.cons dl1 .nil) EntsB.nil) fun u24 => (Rg.a rfl (Rg.nl (nB (nT (?_)))))
   refine Tr.olen Has.here fun hn => ?_; rw [hn]
   exact Tr.region (Rg.m rfl (gdo H1 fun h25 H1 => (Rg.p (p_add rfl rfl h25) (Rg.a rfl (Rg.nl (At.unzoom ((r16, r19), r22.2) (((), ()), x15.2) rfl (.cons dl1 (.cons Del.here .nil)) (nLI () (hi9 _ (sm H1)) (.cons Del.here .nil))))))))
  ·refine tExit (xT (xT (xE (?_))))
   obtain rfl := hb10 _ (sm H1)
   exact nMC () ⟨rfl, trivial⟩ Ents.refl (.cons Del.here .nil)
 ·intro y7
  show At _ _ [(1, .int .i64 (x1.1))] _ [tree (.slice x_v0.1 v0.length x_v0.2) x1.2] _
  refine nT (sr (Rg.m rfl (Rg.a rfl (nl ?_))))
  obtain rfl := si H
  exact tRet (bk (.cons Del.here .nil))
noncomputable def p_laws_markIndex (v0 : Index) (v1 : Int) : Option (Int × Index) := bd (p_laws_markTagSS v0.1 v1) fun r2 => bd (p_laws_markPostS v0.2 r2.1) fun r5 => some (r5.1, (r2.2, r5.2))
theorem c_laws_markIndex {r : Int × Index} (v0 : Index) (x_v0 : (Option Addr × Nat) × (Option Addr × Nat)) (v1 : Int) (H : p_laws_markIndex v0 v1 = some r) : Fn' prog 63 #[.agg #[.slice x_v0.1.1 v0.1.length x_v0.1.2, .slice x_v0.2.1 v0.2.length x_v0.2.2], .int .i64 (v1)] [] [tree (.slice x_v0.1.1 v0.1.length x_v0.1.2) v0.1, tree (.slice x_v0.2.1 v0.2.length x_v0.2.2) v0.2] (ι := Unit) (fun _ => .int .i64 (r.1)) (fun _ => []) (fun _ => [tree (.slice x_v0.1.1 v0.1.length x_v0.1.2) r.2.1, tree (.slice x_v0.2.1 v0.2.length x_v0.2.2) r.2.2]) := by
 refine cof (args := [_, _]) func63 ntmps63 fun c => ?_
 unfold p_laws_markIndex at H
 refine sr (f1 (e_box (t := 38) rfl) fun g1 => (Rg.a (v := .int .i64 (0)) rfl (nl (sr (Rg.p (p_fabE fa38_0 rfl rfl) (Rg.o (q_ldb ty30 rfl Has.here rfl) (Rg.m rfl (bdo H fun r2 h3 H => (f1 (e_callM (c_laws_markTagSS v0.1 x_v0.1 v0.1.length rfl v1 h3) (Solo.tree Solo.nil) (fun _ => (Solo.tree Solo.nil)) rfl (.cons dl1 .nil) EntsB.nil) fun u4 => (Rg.a rfl (nl ?_)))))))))))
 refine sr (Rg.p (p_fabE fa38_1 rfl rfl) (Rg.o (q_ldb ty36 rfl hs1 rfl) (Rg.m rfl (bdo H fun r5 h6 H => (f1 (e_callM (c_laws_markPostS v0.2 x_v0.2 v0.2.length rfl r2.1 h6) (Solo.tree Solo.nil) (fun _ => (Solo.tree Solo.nil)) rfl (.cons dl2 .nil) EntsB.nil) fun u7 => (Rg.a rfl (nl (sr (Rg.m rfl (Rg.a rfl (nl ?_)))))))))))
 obtain rfl := si H
 exact tRet (bk (.cons dl1 (.cons Del.here .nil)))
noncomputable def p_laws_markPartS_b0 (v0 : (List Part)) (Q5 : (List Part) × Int × Int) : Option (((List Part) × Int × Int) ⊕ (Int × (List Part))) := cond (decide (Q5.2.2 < (v0.length : Int))) (gd (ix Q5.2.2 Q5.1.length) <| bd (p_laws_markIntS ((nth Q5.1 Q5.2.2.toNat).1) Q5.2.1) fun r16 => bd (p_laws_markRowSS ((nth Q5.1 Q5.2.2.toNat).2) r16.1) fun r19 => gd (I64 (Q5.2.2 + 1)) <| some (.inl ((Q5.1.set Q5.2.2.toNat (r16.2, r19.2)), r19.1, Q5.2.2 + 1))) (some (.inr (Q5.2.1, Q5.1)))
noncomputable def p_laws_markPartS (v0 : (List Part)) (v1 : Int) : Option (Int × (List Part)) := bd (lp (p_laws_markPartS_b0 v0) (v0, v1, 0)) fun x1 => some (x1.1, x1.2)
theorem c_laws_markPartS {r : Int × (List Part)} (v0 : (List Part)) (x_v0 : Option Addr × Nat) (n_v0 : Nat) (e_v0 : n_v0 = v0.length) (v1 : Int) (H : p_laws_markPartS v0 v1 = some r) : Fn' prog 64 #[.slice x_v0.1 n_v0 x_v0.2, .int .i64 (v1)] [] [tree (.slice x_v0.1 n_v0 x_v0.2) v0] (ι := Unit) (fun _ => .int .i64 (r.1)) (fun _ => []) (fun _ => [tree (.slice x_v0.1 n_v0 x_v0.2) r.2]) := by
 subst e_v0
 refine cof (args := [_, _]) func64 ntmps64 fun c => ?_
 unfold p_laws_markPartS at H
 refine sr (Rg.a (v := .int .i64 (0)) rfl (nl (Tr.seq (sr (Rg.a (v := .int .i64 (0)) rfl (nl (bdo H fun x1 hx2 H => (tMidNC (ι := Unit) (fun ψ => [(1, .int .i64 (x1.1))]) (fun ψ => [tree (.slice x_v0.1 v0.length x_v0.2) x1.2]) ?_ ?_))))))))
 ·refine Tr.block (tLoopI hx2 () (fun Q5 _ => [(0, .slice x_v0.1 v0.length x_v0.2), (1, .int .i64 (Q5.2.1)), (5, .int .i64 (Q5.2.2))]) (fun Q5 _ => [tree (.slice x_v0.1 v0.length x_v0.2) Q5.1]) (.cons Del.here .nil) ?_)
  rintro _ Q5 z6 t8 H1 hi9 hb10
  unfold p_laws_markPartS_b0 at H1
  refine Tr.seq (sr (Rg.m rfl (Rg.m rfl (Rg.p (p_len 75 underlying39 rfl) (Rg.p (p_lss rfl rfl) (nl (cH H1 rfl (fun h13 H1 => ?_) (fun h13 H1 => ?_))))))))
  ·refine tSkip (nT (Tr.seq (Tr.block (Tr.seq (gdo H1 fun h14 H1 => (Tr.zoom (k := Q5.2.2.toNat) h14.lt (.cons Del.here .nil) fun x15 => ?_))))))
   show Tr _ _ _ _ _ _ _ (hole (.slice x_v0.1 v0.length x_v0.2) Q5.1 Q5.2.2.toNat [.slice x15.1.1 (((nth Q5.1 Q5.2.2.toNat).1).length) x15.1.2, .slice x15.2.1 (((nth Q5.1 Q5.2.2.toNat).2).length) x15.2.2] :: tree (.slice x15.1.1 (((nth Q5.1 Q5.2.2.toNat).1).length) x15.1.2) ((nth Q5.1 Q5.2.2.toNat).1) :: tree (.slice x15.2.1 (((nth Q5.1 Q5.2.2.toNat).2).length) x15.2.2) ((nth Q5.1 Q5.2.2.toNat).2) :: _)
   refine Tr.region (Rg.m rfl (Rg.m rfl (Rg.o (v := elp x_v0.1 (Q5.2.2.toNat * Enc.sz Part + 0)) (q_ixH (k := Q5.2.2.toNat) underlying39 ty75 rfl rfl h14 rfl Has.here) (Rg.o (v := elp x_v0.1 (Q5.2.2.toNat * Enc.sz Part + 0)) (q_faH (j := 0) (i := Q5.2.2.toNat) fa75_0 rfl Has.here rfl) (Rg.o (v := .slice x15.1.1 (((nth Q5.1 Q5.2.2.toNat).1).length) x15.1.2) (q_ldH (i := Q5.2.2.toNat) (j := 0) ty23 rfl Has.here rfl) (Rg.m rfl (bdo H1 fun r16 h17 H1 => (f1 (e_callM (c_laws_markIntS ((nth Q5.1 Q5.2.2.toNat).1) x15.1 (((nth Q5.1 Q5.2.2.toNat).1).length) rfl Q5.2.1 h17) (Solo.tree Solo.nil) (fun _ => (Solo.tree Solo.nil)) rfl (.cons dl1 .nil) EntsB.nil) fun u18 => (Rg.a rfl (nl ?_))))))))))
   refine Tr.olen Has.here fun hn => ?_; rw [hn]
   refine Tr.region (Rg.m rfl (Rg.m rfl (Rg.o (v := elp x_v0.1 (Q5.2.2.toNat * Enc.sz Part + 0)) (q_ixH (k := Q5.2.2.toNat) underlying39 ty75 rfl rfl h14 rfl hs1) (Rg.o (v := elp x_v0.1 (Q5.2.2.toNat * Enc.sz Part + 1)) (q_faH (j := 0) (i := Q5.2.2.toNat) fa75_1 rfl hs1 rfl) (Rg.o (v := .slice x15.2.1 (((nth Q5.1 Q5.2.2.toNat).2).length) x15.2.2) (q_ldH (i := Q5.2.2.toNat) (j := 1) ty73 rfl hs1 rfl) (Rg.m rfl (bdo H1 fun r19 h20 H1 => (f1 (e_callM (c_laws_markRowSS ((nth Q5.1 Q5.2.2.toNat).2) x15.2 (((nth Q5.1 Q5.2.2.toNat).2).length) rfl r16.1 h20) (Solo.tree Solo.nil) (fun _ => (Solo.tree Solo.nil)) rfl (.cons dl2 .nil) EntsB.nil) fun u21 => (Rg.a rfl (Rg.nl ?_))))))))))
   refine nB (nT (?_))
   refine Tr.olen Has.here fun hn => ?_; rw [hn]
   exact Tr.region (Rg.m rfl (gdo H1 fun h22 H1 => (Rg.p (p_add rfl rfl h22) (Rg.a rfl (Rg.nl (At.unzoom (r16.2, r19.2) x15 rfl (.cons dl2 (.cons dl1 (.cons Del.here .nil))) (nLI () (hi9 _ (sm H1)) (.cons Del.here .nil))))))))
  ·refine tExit (xT (xT (xE (?_))))
   obtain rfl := hb10 _ (sm H1)
   exact nMC () ⟨rfl, trivial⟩ Ents.refl (.cons Del.here .nil)
 ·intro y7
  show At _ _ [(1, .int .i64 (x1.1))] _ [tree (.slice x_v0.1 v0.length x_v0.2) x1.2] _
  refine nT (sr (Rg.m rfl (Rg.a rfl (nl ?_))))
  obtain rfl := si H
  exact tRet (bk (.cons Del.here .nil))
noncomputable def p_laws_markSampleS_b0 (v0 : (List Sample)) (Q5 : (List Sample) × Int × Int) : Option (((List Sample) × Int × Int) ⊕ (Int × (List Sample))) := cond (decide (Q5.2.2 < (v0.length : Int))) (gd (ix Q5.2.2 Q5.1.length) <| gd (I64 (Q5.2.1 + 1)) <| gd (I64 ((Q5.2.1 + 1) + 1)) <| gd (I64 (((Q5.2.1 + 1) + 1) + 1)) <| gd (I64 (Q5.2.2 + 1)) <| some (.inl ((Q5.1.set Q5.2.2.toNat (Q5.2.1, ((Q5.2.1 + 1), ((Q5.2.1 + 1) + 1)))), ((Q5.2.1 + 1) + 1) + 1, Q5.2.2 + 1))) (some (.inr (Q5.2.1, Q5.1)))
noncomputable def p_laws_markSampleS (v0 : (List Sample)) (v1 : Int) : Option (Int × (List Sample)) := bd (lp (p_laws_markSampleS_b0 v0) (v0, v1, 0)) fun x1 => some (x1.1, x1.2)
theorem c_laws_markSampleS {r : Int × (List Sample)} (v0 : (List Sample)) (x_v0 : Option Addr × Nat) (n_v0 : Nat) (e_v0 : n_v0 = v0.length) (v1 : Int) (H : p_laws_markSampleS v0 v1 = some r) : Fn' prog 65 #[.slice x_v0.1 n_v0 x_v0.2, .int .i64 (v1)] [] [tree (.slice x_v0.1 n_v0 x_v0.2) v0] (ι := Unit) (fun _ => .int .i64 (r.1)) (fun _ => []) (fun _ => [tree (.slice x_v0.1 n_v0 x_v0.2) r.2]) := by
 subst e_v0
 refine cof (args := [_, _]) func65 ntmps65 fun c => ?_
 unfold p_laws_markSampleS at H
 refine sr (Rg.a (v := .int .i64 (0)) rfl (nl (Tr.seq (sr (Rg.a (v := .int .i64 (0)) rfl (nl (bdo H fun x1 hx2 H => (tMidNC (ι := Unit) (fun ψ => [(1, .int .i64 (x1.1))]) (fun ψ => [tree (.slice x_v0.1 v0.length x_v0.2) x1.2]) ?_ ?_))))))))
 ·refine Tr.block (tLoopI hx2 () (fun Q5 _ => [(0, .slice x_v0.1 v0.length x_v0.2), (1, .int .i64 (Q5.2.1)), (5, .int .i64 (Q5.2.2))]) (fun Q5 _ => [tree (.slice x_v0.1 v0.length x_v0.2) Q5.1]) (.cons Del.here .nil) ?_)
  rintro _ Q5 z6 t8 H1 hi9 hb10
  unfold p_laws_markSampleS_b0 at H1
  refine Tr.seq (sr (Rg.m rfl (Rg.m rfl (Rg.p (p_len 137 underlying40 rfl) (Rg.p (p_lss rfl rfl) (nl (cH H1 rfl (fun h13 H1 => ?_) (fun h13 H1 => ?_))))))))
  ·refine tSkip (nT (Tr.seq (Tr.block (Tr.seq (gdo H1 fun h14 H1 => (Tr.zoom (k := Q5.2.2.toNat) h14.lt (.cons Del.here .nil) fun x15 => ?_))))))
   show Tr _ _ _ _ _ _ _ (hole (.slice x_v0.1 v0.length x_v0.2) Q5.1 Q5.2.2.toNat [.int .i64 ((nth Q5.1 Q5.2.2.toNat).1), .int .i64 (((nth Q5.1 Q5.2.2.toNat).2).1), .int .i64 (((nth Q5.1 Q5.2.2.toNat).2).2)] :: _)
   refine Tr.region (Rg.m rfl (Rg.m rfl (Rg.m rfl (Rg.o (v := elp x_v0.1 (Q5.2.2.toNat * Enc.sz Sample + 0)) (q_ixH (k := Q5.2.2.toNat) underlying40 ty137 rfl rfl h14 rfl Has.here) (Rg.o (v := elp x_v0.1 (Q5.2.2.toNat * Enc.sz Sample + 0)) (q_faH (j := 0) (i := Q5.2.2.toNat) fa137_0 rfl Has.here rfl) (g0 (e_stH (v := .int .i64 (Q5.2.1)) (i := Q5.2.2.toNat) (j := 0) (cs' := [.int .i64 (Q5.2.1), .int .i64 (((nth Q5.1 Q5.2.2.toNat).2).1), .int .i64 (((nth Q5.1 Q5.2.2.toNat).2).2)]) ty3 rfl rfl (.cons Del.here .nil) rfl (one_of rfl) (Nat.le_of_ble_eq_true rfl) rfl rfl) (nl (sr (Rg.m rfl ?_)))))))))
   refine gdo H1 fun h16 H1 => (Rg.p (p_add rfl rfl h16) (Rg.a rfl (nl (sr (Rg.m rfl (Rg.m rfl (Rg.m rfl (Rg.o (v := elp x_v0.1 (Q5.2.2.toNat * Enc.sz Sample + 0)) (q_ixH (k := Q5.2.2.toNat) underlying40 ty137 rfl rfl h14 rfl Has.here) (Rg.o (v := elp x_v0.1 (Q5.2.2.toNat * Enc.sz Sample + 1)) (q_faH (j := 0) (i := Q5.2.2.toNat) fa137_1 rfl Has.here rfl) (Rg.o (v := elp x_v0.1 (Q5.2.2.toNat * Enc.sz Sample + 1)) (q_faH (j := 1) (i := Q5.2.2.toNat) fa135_0 rfl Has.here rfl) ?_))))))))))
   refine g0 (e_stH (v := .int .i64 (Q5.2.1 + 1)) (i := Q5.2.2.toNat) (j := 1) (cs' := [.int .i64 (Q5.2.1), .int .i64 (Q5.2.1 + 1), .int .i64 (((nth Q5.1 Q5.2.2.toNat).2).2)]) ty3 rfl rfl (.cons Del.here .nil) rfl (one_of rfl) (Nat.le_of_ble_eq_true rfl) rfl rfl) (nl (sr (Rg.m rfl (gdo H1 fun h17 H1 => (Rg.p (p_add rfl rfl h17) (Rg.a rfl (nl (sr (Rg.m rfl (Rg.m rfl ?_))))))))))
   refine Rg.m rfl (Rg.o (v := elp x_v0.1 (Q5.2.2.toNat * Enc.sz Sample + 0)) (q_ixH (k := Q5.2.2.toNat) underlying40 ty137 rfl rfl h14 rfl Has.here) (Rg.o (v := elp x_v0.1 (Q5.2.2.toNat * Enc.sz Sample + 1)) (q_faH (j := 0) (i := Q5.2.2.toNat) fa137_1 rfl Has.here rfl) (Rg.o (v := elp x_v0.1 (Q5.2.2.toNat * Enc.sz Sample + 2)) (q_faH (j := 1) (i := Q5.2.2.toNat) fa135_1 rfl Has.here rfl) (g0 (e_stH (v := .int .i64 ((Q5.2.1 + 1) + 1)) (i := Q5.2.2.toNat) (j := 2) (cs' := [.int .i64 (Q5.2.1), .int .i64 (Q5.2.1 + 1), .int .i64 ((Q5.2.1 + 1) + 1)]) ty3 rfl rfl (.cons Del.here .nil) rfl (one_of rfl) (Nat.le_of_ble_eq_true rfl) rfl rfl) (nl (Tr.region (Rg.m rfl (gdo H1 fun h18 H1 => (Rg.p (p_add rfl rfl h18) ?_)))))))))
   exact Rg.a rfl (Rg.nl (nB (nT (Tr.region (Rg.m rfl (gdo H1 fun h19 H1 => (Rg.p (p_add rfl rfl h19) (Rg.a rfl (Rg.nl (At.unzoom (Q5.2.1, ((Q5.2.1 + 1), ((Q5.2.1 + 1) + 1))) ((), ((), ())) rfl (.cons Del.here .nil) (nLI () (hi9 _ (sm H1)) (.cons Del.here .nil))))))))))))
  ·refine tExit (xT (xT (xE (?_))))
   obtain rfl := hb10 _ (sm H1)
   exact nMC () ⟨rfl, trivial⟩ Ents.refl (.cons Del.here .nil)
 ·intro y7
  show At _ _ [(1, .int .i64 (x1.1))] _ [tree (.slice x_v0.1 v0.length x_v0.2) x1.2] _
  refine nT (sr (Rg.m rfl (Rg.a rfl (nl ?_))))
  obtain rfl := si H
  exact tRet (bk (.cons Del.here .nil))
noncomputable def p_laws_markStore (v0 : Store) (v1 : Int) : Option (Int × Store) := bd (p_laws_markIndex v0.1 v1) fun r2 => bd (p_laws_markPartS v0.2.1 r2.1) fun r5 => bd (p_laws_markSampleS v0.2.2 r5.1) fun r8 => some (r8.1, (r2.2, r5.2, r8.2))
theorem c_laws_markStore {r : Int × Store} (v0 : Store) (x_v0 : ((Option Addr × Nat) × (Option Addr × Nat)) × (Option Addr × Nat) × (Option Addr × Nat)) (v1 : Int) (H : p_laws_markStore v0 v1 = some r) : Fn' prog 18 #[.agg #[.slice x_v0.1.1.1 v0.1.1.length x_v0.1.1.2, .slice x_v0.1.2.1 v0.1.2.length x_v0.1.2.2, .slice x_v0.2.1.1 v0.2.1.length x_v0.2.1.2, .slice x_v0.2.2.1 v0.2.2.length x_v0.2.2.2], .int .i64 (v1)] [] [tree (.slice x_v0.1.1.1 v0.1.1.length x_v0.1.1.2) v0.1.1, tree (.slice x_v0.1.2.1 v0.1.2.length x_v0.1.2.2) v0.1.2, tree (.slice x_v0.2.1.1 v0.2.1.length x_v0.2.1.2) v0.2.1, tree (.slice x_v0.2.2.1 v0.2.2.length x_v0.2.2.2) v0.2.2] (ι := Unit) (fun _ => .int .i64 (r.1)) (fun _ => []) (fun _ => [tree (.slice x_v0.1.1.1 v0.1.1.length x_v0.1.1.2) r.2.1.1, tree (.slice x_v0.1.2.1 v0.1.2.length x_v0.1.2.2) r.2.1.2, tree (.slice x_v0.2.1.1 v0.2.1.length x_v0.2.1.2) r.2.2.1, tree (.slice x_v0.2.2.1 v0.2.2.length x_v0.2.2.2) r.2.2.2]) := by
 refine cof (args := [_, _]) func18 ntmps18 fun c => ?_
 unfold p_laws_markStore at H
 refine sr (f1 (e_box (t := 42) rfl) fun g1 => (Rg.a (v := .int .i64 (0)) rfl (nl (sr (Rg.p (p_fabE fa42_0 rfl rfl) (Rg.o (v := .agg #[.slice x_v0.1.1.1 v0.1.1.length x_v0.1.1.2, .slice x_v0.1.2.1 v0.1.2.length x_v0.1.2.2]) (q_ldbP [.slice x_v0.1.1.1 v0.1.1.length x_v0.1.1.2, .slice x_v0.1.2.1 v0.1.2.length x_v0.1.2.2] ty38 rfl Has.here rfl rfl) (Rg.m rfl (bdo H fun r2 h3 H => (f1 (e_callM (c_laws_markIndex v0.1 x_v0.1 v1 h3) (Solo.tree (Solo.tree Solo.nil)) (fun _ => (Solo.tree (Solo.tree Solo.nil))) rfl (.cons dl1 (.cons dl1 .nil)) EntsB.nil) fun u4 => (Rg.a rfl (nl ?_)))))))))))
 refine sr (Rg.p (p_fabE fa42_1 rfl rfl) (Rg.o (q_ldb ty39 rfl hs2 rfl) (Rg.m rfl (bdo H fun r5 h6 H => (f1 (e_callM (c_laws_markPartS v0.2.1 x_v0.2.1 v0.2.1.length rfl r2.1 h6) (Solo.tree Solo.nil) (fun _ => (Solo.tree Solo.nil)) rfl (.cons dl3 .nil) EntsB.nil) fun u7 => (Rg.a rfl (nl (sr (Rg.p (p_fabE fa42_2 rfl rfl) (Rg.o (q_ldb ty40 rfl hs3 rfl) ?_))))))))))
 refine Rg.m rfl (bdo H fun r8 h9 H => (f1 (e_callM (c_laws_markSampleS v0.2.2 x_v0.2.2 v0.2.2.length rfl r5.1 h9) (Solo.tree Solo.nil) (fun _ => (Solo.tree Solo.nil)) rfl (.cons dl4 .nil) EntsB.nil) fun u10 => (Rg.a rfl (nl (sr (Rg.m rfl (Rg.a rfl (nl ?_))))))))
 obtain rfl := si H
 exact tRet (bk (.cons dl2 (.cons dl2 (.cons dl1 (.cons Del.here .nil)))))
noncomputable def p_laws_heldTagS_b0 (v0 : (List Tag)) (Q5 : Int × Int) : Option ((Int × Int) ⊕ (Int ⊕ Int)) := cond (decide (Q5.2 < (v0.length : Int))) (gd (ix Q5.2 v0.length) <| bd (p_laws_markText Q5.1) fun r15 => cond (!decide ((nth v0 Q5.2.toNat).1 = r15)) (some (.inr (.inr (-1)))) (gd (I64 (Q5.1 + 1)) <| bd (p_laws_markText (Q5.1 + 1)) fun r19 => cond (!decide ((nth v0 Q5.2.toNat).2 = r19)) (some (.inr (.inr (-1)))) (gd (I64 ((Q5.1 + 1) + 1)) <| gd (I64 (Q5.2 + 1)) <| some (.inl ((Q5.1 + 1) + 1, Q5.2 + 1))))) (some (.inr (.inl Q5.1)))
noncomputable def p_laws_heldTagS (v0 : (List Tag)) (v1 : Int) : Option (Int) := bd (lp (p_laws_heldTagS_b0 v0) (v1, 0)) <| sw (fun e24 => some e24) (fun q => some q)
theorem c_laws_heldTagS {r : Int} (v0 : (List Tag)) (x_v0 : Option Addr × Nat) (v1 : Int) (H : p_laws_heldTagS v0 v1 = some r) : Fn' prog 129 #[.slice x_v0.1 v0.length x_v0.2, .int .i64 (v1)] [imm (.slice x_v0.1 v0.length x_v0.2) v0] [] (ι := Unit) (fun _ => .int .i64 (r)) (fun _ => []) (fun _ => []) := by
 refine cof (args := [_, _]) func129 ntmps129 fun c => ?_
 unfold p_laws_heldTagS at H
 refine sr (Rg.a (v := .int .i64 (0)) rfl (nl (Tr.seq (sr (Rg.a (v := .int .i64 (0)) rfl (nl (bdo H fun x1 hx2 H => (tMidI (Λ := Unit) H (fun e24 _ => [(1, .int .i64 (e24))]) (fun _ _ => []) ?_ ?_))))))))
 ·refine Tr.block (tLoopI hx2 () (fun Q5 _ => [(0, .slice x_v0.1 v0.length x_v0.2), (1, .int .i64 (Q5.1)), (5, .int .i64 (Q5.2))]) (fun _ _ => []) Take.nil ?_)
  rintro _ Q5 z6 t8 H1 hi9 hb10
  unfold p_laws_heldTagS_b0 at H1
  refine Tr.seq (sr (Rg.m rfl (Rg.m rfl (Rg.p (p_len 172 underlying142 rfl) (Rg.p (p_lss rfl rfl) (nl (cH H1 rfl (fun h13 H1 => ?_) (fun h13 H1 => ?_))))))))
  ·refine tSkip (nT (Tr.seq (Tr.block (Tr.seq (Tr.seq (tLinS [(0, .slice x_v0.1 v0.length x_v0.2), (1, .int .i64 (Q5.1)), (5, .int .i64 (Q5.2))] mixed (.inr (by kernel_rfl)) ⟨rfl, rfl, rfl, trivial⟩ rfl (Lin.m rfl (Lin.m rfl (gdo H1 fun h14 H1 => (Lin.o (q_ixg underlying142 ty172 rfl rfl h14 rfl (EntB.flat (Ent.b Ent.z))) ?_))))))))))
   refine Lin.o (q_faeE (j := 0) Q5.2.toNat fa172_0 rfl (EntB.flat (Ent.b Ent.z)) h14.lt rfl) (Lin.o (q_lde (i := Q5.2.toNat) (j := 0) ty9 rfl (EntB.flat (Ent.b Ent.z)) h14.lt rfl) (Lin.m rfl (bdo H1 fun r15 h16 H1 => (Lin.o (q_call (c_laws_markText Q5.1 h16) rfl EntsB.nil) (Lin.p (p_sneq rfl rfl) (nT (cH H1 rfl (fun h17 H1 => ?_) (fun h17 H1 => ?_))))))))
   ·refine sr (Rg.a (v := .int .i64 (-1)) rfl (nl (tRet (rT (rB (rT (rT (rB (rT (rT (?_)))))))))))
    obtain rfl := hb10 _ (sm H1)
    replace H := sw.r H
    obtain rfl := si H
    exact bk
   ·refine tSkip (nT (sr (Rg.m rfl (gdo H1 fun h18 H1 => (Rg.p (p_add rfl rfl h18) (Rg.a rfl (nl (Tr.seq (Tr.seq (tLinS [(1, .int .i64 (Q5.1 + 1)), (0, .slice x_v0.1 v0.length x_v0.2), (5, .int .i64 (Q5.2))] mixed (.inr (by kernel_rfl)) ⟨rfl, rfl, rfl, trivial⟩ rfl ?_))))))))))
    refine Lin.m rfl (Lin.m rfl (Lin.o (q_ixg underlying142 ty172 rfl rfl h14 rfl (EntB.flat (Ent.b Ent.z))) (Lin.o (q_faeE (j := 0) Q5.2.toNat fa172_1 rfl (EntB.flat (Ent.b Ent.z)) h14.lt rfl) (Lin.o (q_lde (i := Q5.2.toNat) (j := 1) ty9 rfl (EntB.flat (Ent.b Ent.z)) h14.lt rfl) (Lin.m rfl (bdo H1 fun r19 h20 H1 => (Lin.o (q_call (c_laws_markText (Q5.1 + 1) h20) rfl EntsB.nil) (Lin.p (p_sneq rfl rfl) (nT (?_))))))))))
    refine cH H1 rfl (fun h21 H1 => ?_) (fun h21 H1 => ?_)
    ·refine sr (Rg.a (v := .int .i64 (-1)) rfl (nl (tRet (rT (rB (rT (rT (rB (rT (rT (?_)))))))))))
     obtain rfl := hb10 _ (sm H1)
     replace H := sw.r H
     obtain rfl := si H
     exact bk
    ·refine tSkip (nT (Tr.region (Rg.m rfl (gdo H1 fun h22 H1 => (Rg.p (p_add rfl rfl h22) (Rg.a rfl (Rg.nl (nB (nT (Tr.region (Rg.m rfl ?_)))))))))))
     exact gdo H1 fun h23 H1 => (Rg.p (p_add rfl rfl h23) (Rg.a rfl (Rg.nl (nLI () (hi9 _ (sm H1)) Take.nil))))
  ·exact tExit (xT (xT (xE (nMI () (hb10 _ (sm H1)) Take.nil))))
 ·rintro e24 y7 H
  refine nT (sr (Rg.m rfl (Rg.a rfl (nl ?_))))
  obtain rfl := si H
  exact tRet bk
noncomputable def p_laws_heldTagSS_b0 (v0 : (List (List Tag))) (Q6 : Int × Int) : Option ((Int × Int) ⊕ (Int ⊕ Int)) := cond (decide (Q6.2 < (v0.length : Int))) (gd (ix Q6.2 v0.length) <| bd (p_laws_heldTagS (nth v0 Q6.2.toNat) Q6.1) fun r16 => cond (decide (r16 < 0)) (some (.inr (.inr (-1)))) (gd (I64 (Q6.2 + 1)) <| some (.inl (r16, Q6.2 + 1)))) (some (.inr (.inl Q6.1)))
noncomputable def p_laws_heldTagSS (v0 : (List (List Tag))) (v1 : Int) : Option (Int) := bd (lp (p_laws_heldTagSS_b0 v0) (v1, 0)) <| sw (fun e20 => some e20) (fun q => some q)
theorem c_laws_heldTagSS {r : Int} (v0 : (List (List Tag))) (x_v0 : Option Addr × Nat) (v1 : Int) (H : p_laws_heldTagSS v0 v1 = some r) : Fn' prog 76 #[.slice x_v0.1 v0.length x_v0.2, .int .i64 (v1)] [imm (.slice x_v0.1 v0.length x_v0.2) v0] [] (ι := Unit) (fun _ => .int .i64 (r)) (fun _ => []) (fun _ => []) := by
 refine cof (args := [_, _]) func76 ntmps76 fun c => ?_
 unfold p_laws_heldTagSS at H
 refine Tr.openD Ent.z fun X1 => (sr (Rg.a (v := .int .i64 (0)) rfl (nl (Tr.seq (sr (Rg.a (v := .int .i64 (0)) rfl (nl (bdo H fun x2 hx3 H => (tMidI (Λ := Unit) H (fun e20 _ => [(1, .int .i64 (e20))]) (fun _ _ => []) ?_ ?_)))))))))
 ·refine Tr.block (tLoopI hx3 () (fun Q6 _ => [(0, .slice x_v0.1 v0.length x_v0.2), (1, .int .i64 (Q6.1)), (5, .int .i64 (Q6.2))]) (fun _ _ => []) Take.nil ?_)
  rintro _ Q6 z7 t9 H1 hi10 hb11
  unfold p_laws_heldTagSS_b0 at H1
  refine Tr.seq (sr (Rg.m rfl (Rg.m rfl (Rg.p (p_len 142 underlying30 rfl) (Rg.p (p_lss rfl rfl) (nl (cH H1 rfl (fun h14 H1 => ?_) (fun h14 H1 => ?_))))))))
  ·refine tSkip (nT (Tr.seq (Tr.block (sr (Rg.m rfl (Rg.m rfl (gdo H1 fun h15 H1 => (Rg.o (q_ixg underlying30 ty142 rfl rfl h15 rfl (Ent.b (Ent.darr Ent.z))) (Rg.o (q_lde (i := Q6.2.toNat) (j := 0) ty142 rfl (Ent.b (Ent.darr Ent.z)) h15.lt rfl) (Rg.m rfl ?_))))))))))
   refine bdo H1 fun r16 h17 H1 => (Rg.o (q_call (c_laws_heldTagS (nth v0 Q6.2.toNat) ((X1 Q6.2.toNat).1, (X1 Q6.2.toNat).2.1) Q6.1 h17) rfl (EntsB.cons (Ent.b (Ent.dimm (Ent.del Ent.z h15.lt))) EntsB.nil)) (Rg.a rfl (nl (sr (Rg.m rfl (Rg.p (p_lss rfl rfl) (nl (cH H1 rfl (fun h18 H1 => ?_) (fun h18 H1 => ?_)))))))))
   ·refine sr (Rg.a (v := .int .i64 (-1)) rfl (nl (tRet (rB (rT (rT (rB (rT (rT (?_))))))))))
    obtain rfl := hb11 _ (sm H1)
    replace H := sw.r H
    obtain rfl := si H
    exact bk
   ·exact tSkip (nB (nT (Tr.region (Rg.m rfl (gdo H1 fun h19 H1 => (Rg.p (p_add rfl rfl h19) (Rg.a rfl (Rg.nl (nLI () (hi10 _ (sm H1)) Take.nil)))))))))
  ·exact tExit (xT (xT (xE (nMI () (hb11 _ (sm H1)) Take.nil))))
 ·rintro e20 y8 H
  refine nT (sr (Rg.m rfl (Rg.a rfl (nl ?_))))
  obtain rfl := si H
  exact tRet bk
noncomputable def p_laws_heldIntS_b0 (v0 : (List Int)) (Q5 : Int × Int) : Option ((Int × Int) ⊕ (Int ⊕ Int)) := cond (decide (Q5.2 < (v0.length : Int))) (gd (ix Q5.2 v0.length) <| cond (!decide ((nth v0 Q5.2.toNat) = Q5.1)) (some (.inr (.inr (-1)))) (gd (I64 (Q5.1 + 1)) <| gd (I64 (Q5.2 + 1)) <| some (.inl (Q5.1 + 1, Q5.2 + 1)))) (some (.inr (.inl Q5.1)))
noncomputable def p_laws_heldIntS (v0 : (List Int)) (v1 : Int) : Option (Int) := bd (lp (p_laws_heldIntS_b0 v0) (v1, 0)) <| sw (fun e18 => some e18) (fun q => some q)
theorem c_laws_heldIntS {r : Int} (v0 : (List Int)) (x_v0 : Option Addr × Nat) (v1 : Int) (H : p_laws_heldIntS v0 v1 = some r) : Fn' prog 75 #[.slice x_v0.1 v0.length x_v0.2, .int .i64 (v1)] [imm (.slice x_v0.1 v0.length x_v0.2) v0] [] (ι := Unit) (fun _ => .int .i64 (r)) (fun _ => []) (fun _ => []) := by
 refine cof (args := [_, _]) func75 ntmps75 fun c => ?_
 unfold p_laws_heldIntS at H
 refine sr (Rg.a (v := .int .i64 (0)) rfl (nl (Tr.seq (sr (Rg.a (v := .int .i64 (0)) rfl (nl (bdo H fun x1 hx2 H => (tMidI (Λ := Unit) H (fun e18 _ => [(1, .int .i64 (e18))]) (fun _ _ => []) ?_ ?_))))))))
 ·refine Tr.block (tLoopI hx2 () (fun Q5 _ => [(0, .slice x_v0.1 v0.length x_v0.2), (1, .int .i64 (Q5.1)), (5, .int .i64 (Q5.2))]) (fun _ _ => []) Take.nil ?_)
  rintro _ Q5 z6 t8 H1 hi9 hb10
  unfold p_laws_heldIntS_b0 at H1
  refine Tr.seq (sr (Rg.m rfl (Rg.m rfl (Rg.p (p_len 3 underlying23 rfl) (Rg.p (p_lss rfl rfl) (nl (cH H1 rfl (fun h13 H1 => ?_) (fun h13 H1 => ?_))))))))
  ·refine tSkip (nT (Tr.seq (Tr.block (Tr.seq (sr (Rg.m rfl (Rg.m rfl (gdo H1 fun h14 H1 => (Rg.o (q_ixg underlying23 ty3 rfl rfl h14 rfl (EntB.flat (Ent.b Ent.z))) (Rg.o (q_lde (i := Q5.2.toNat) (j := 0) ty3 rfl (EntB.flat (Ent.b Ent.z)) h14.lt rfl) (Rg.m rfl ?_)))))))))))
   refine Rg.p (p_neq rfl rfl) (nl (cH H1 rfl (fun h15 H1 => ?_) (fun h15 H1 => ?_)))
   ·refine sr (Rg.a (v := .int .i64 (-1)) rfl (nl (tRet (rT (rB (rT (rT (rB (rT (rT (?_)))))))))))
    obtain rfl := hb10 _ (sm H1)
    replace H := sw.r H
    obtain rfl := si H
    exact bk
   ·refine tSkip (nT (Tr.region (Rg.m rfl (gdo H1 fun h16 H1 => (Rg.p (p_add rfl rfl h16) (Rg.a rfl (Rg.nl (nB (nT (Tr.region (Rg.m rfl ?_)))))))))))
    exact gdo H1 fun h17 H1 => (Rg.p (p_add rfl rfl h17) (Rg.a rfl (Rg.nl (nLI () (hi9 _ (sm H1)) Take.nil))))
  ·exact tExit (xT (xT (xE (nMI () (hb10 _ (sm H1)) Take.nil))))
 ·rintro e18 y7 H
  refine nT (sr (Rg.m rfl (Rg.a rfl (nl ?_))))
  obtain rfl := si H
  exact tRet bk
noncomputable def p_laws_heldPostS_b0 (v0 : (List Post)) (Q6 : Int × Int) : Option ((Int × Int) ⊕ (Int ⊕ Int)) := cond (decide (Q6.2 < (v0.length : Int))) (gd (ix Q6.2 v0.length) <| bd (p_laws_markText Q6.1) fun r16 => cond (!decide (((nth v0 Q6.2.toNat).1).1 = r16)) (some (.inr (.inr (-1)))) (gd (I64 (Q6.1 + 1)) <| bd (p_laws_markText (Q6.1 + 1)) fun r20 => cond (!decide (((nth v0 Q6.2.toNat).1).2 = r20)) (some (.inr (.inr (-1)))) (gd (I64 ((Q6.1 + 1) + 1)) <| bd (p_laws_heldIntS ((nth v0 Q6.2.toNat).2) ((Q6.1 + 1) + 1)) fun r24 => cond (decide (r24 < 0)) (some (.inr (.inr (-1)))) (gd (I64 (Q6.2 + 1)) <| some (.inl (r24, Q6.2 + 1)))))) (some (.inr (.inl Q6.1)))
noncomputable def p_laws_heldPostS (v0 : (List Post)) (v1 : Int) : Option (Int) := bd (lp (p_laws_heldPostS_b0 v0) (v1, 0)) <| sw (fun e28 => some e28) (fun q => some q)
theorem c_laws_heldPostS {r : Int} (v0 : (List Post)) (x_v0 : Option Addr × Nat) (v1 : Int) (H : p_laws_heldPostS v0 v1 = some r) : Fn' prog 125 #[.slice x_v0.1 v0.length x_v0.2, .int .i64 (v1)] [imm (.slice x_v0.1 v0.length x_v0.2) v0] [] (ι := Unit) (fun _ => .int .i64 (r)) (fun _ => []) (fun _ => []) := by
 refine cof (args := [_, _]) func125 ntmps125 fun c => ?_
 unfold p_laws_heldPostS at H
 refine Tr.openD Ent.z fun X1 => (sr (Rg.a (v := .int .i64 (0)) rfl (nl (Tr.seq (sr (Rg.a (v := .int .i64 (0)) rfl (nl (bdo H fun x2 hx3 H => (tMidI (Λ := Unit) H (fun e28 _ => [(1, .int .i64 (e28))]) (fun _ _ => []) ?_ ?_)))))))))
 ·refine Tr.block (tLoopI hx3 () (fun Q6 _ => [(0, .slice x_v0.1 v0.length x_v0.2), (1, .int .i64 (Q6.1)), (5, .int .i64 (Q6.2))]) (fun _ _ => []) Take.nil ?_)
  rintro _ Q6 z7 t9 H1 hi10 hb11
  unfold p_laws_heldPostS_b0 at H1
  refine Tr.seq (sr (Rg.m rfl (Rg.m rfl (Rg.p (p_len 183 underlying36 rfl) (Rg.p (p_lss rfl rfl) (nl (cH H1 rfl (fun h14 H1 => ?_) (fun h14 H1 => ?_))))))))
  ·refine tSkip (nT (Tr.seq (Tr.block (Tr.seq (Tr.seq (tLinS [(0, .slice x_v0.1 v0.length x_v0.2), (1, .int .i64 (Q6.1)), (5, .int .i64 (Q6.2))] mixed (.inr (by kernel_rfl)) ⟨rfl, rfl, rfl, trivial⟩ rfl (Lin.m rfl (Lin.m rfl (gdo H1 fun h15 H1 => (Lin.o (q_ixg underlying36 ty183 rfl rfl h15 rfl (Ent.b (Ent.darr Ent.z))) ?_))))))))))
   refine Lin.o (q_faeE (j := 0) Q6.2.toNat fa183_0 rfl (Ent.b (Ent.darr Ent.z)) h15.lt rfl) (Lin.o (q_faeE (j := 0) Q6.2.toNat fa172_0 rfl (Ent.b (Ent.darr Ent.z)) h15.lt rfl) (Lin.o (q_lde (i := Q6.2.toNat) (j := 0) ty9 rfl (Ent.b (Ent.darr Ent.z)) h15.lt rfl) (Lin.m rfl (bdo H1 fun r16 h17 H1 => (Lin.o (q_call (c_laws_markText Q6.1 h17) rfl EntsB.nil) (Lin.p (p_sneq rfl rfl) (nT (cH H1 rfl (fun h18 H1 => ?_) (fun h18 H1 => ?_)))))))))
   ·refine sr (Rg.a (v := .int .i64 (-1)) rfl (nl (tRet (rT (rB (rT (rT (rB (rT (rT (?_)))))))))))
    obtain rfl := hb11 _ (sm H1)
    replace H := sw.r H
    obtain rfl := si H
    exact bk
   ·refine tSkip (nT (sr (Rg.m rfl (gdo H1 fun h19 H1 => (Rg.p (p_add rfl rfl h19) (Rg.a rfl (nl (Tr.seq (Tr.seq (tLinS [(1, .int .i64 (Q6.1 + 1)), (0, .slice x_v0.1 v0.length x_v0.2), (5, .int .i64 (Q6.2))] mixed (.inr (by kernel_rfl)) ⟨rfl, rfl, rfl, trivial⟩ rfl ?_))))))))))
    refine Lin.m rfl (Lin.m rfl (Lin.o (q_ixg underlying36 ty183 rfl rfl h15 rfl (Ent.b (Ent.darr Ent.z))) (Lin.o (q_faeE (j := 0) Q6.2.toNat fa183_0 rfl (Ent.b (Ent.darr Ent.z)) h15.lt rfl) (Lin.o (q_faeE (j := 0) Q6.2.toNat fa172_1 rfl (Ent.b (Ent.darr Ent.z)) h15.lt rfl) (Lin.o (q_lde (i := Q6.2.toNat) (j := 1) ty9 rfl (Ent.b (Ent.darr Ent.z)) h15.lt rfl) (Lin.m rfl (bdo H1 fun r20 h21 H1 => (Lin.o (q_call (c_laws_markText (Q6.1 + 1) h21) rfl EntsB.nil) (Lin.p (p_sneq rfl rfl) ?_)))))))))
    refine nT (cH H1 rfl (fun h22 H1 => ?_) (fun h22 H1 => ?_))
    ·refine sr (Rg.a (v := .int .i64 (-1)) rfl (nl (tRet (rT (rB (rT (rT (rB (rT (rT (?_)))))))))))
     obtain rfl := hb11 _ (sm H1)
     replace H := sw.r H
     obtain rfl := si H
     exact bk
    ·refine tSkip (nT (sr (Rg.m rfl (gdo H1 fun h23 H1 => (Rg.p (p_add rfl rfl h23) (Rg.a rfl (nl (sr (Rg.m rfl (Rg.m rfl ?_))))))))))
     refine Rg.o (q_ixg underlying36 ty183 rfl rfl h15 rfl (Ent.b (Ent.darr Ent.z))) (Rg.o (q_faeE (j := 0) Q6.2.toNat fa183_1 rfl (Ent.b (Ent.darr Ent.z)) h15.lt rfl) (Rg.o (q_lde (i := Q6.2.toNat) (j := 2) ty23 rfl (Ent.b (Ent.darr Ent.z)) h15.lt rfl) (Rg.m rfl (bdo H1 fun r24 h25 H1 => (Rg.o (q_call (c_laws_heldIntS ((nth v0 Q6.2.toNat).2) (((X1 Q6.2.toNat).2).1, ((X1 Q6.2.toNat).2).2.1) ((Q6.1 + 1) + 1) h25) rfl (EntsB.cons (Ent.b (Ent.dimm (Ent.dsnd (Ent.del Ent.z h15.lt)))) EntsB.nil)) (Rg.a rfl (nl (sr (Rg.m rfl (Rg.p (p_lss rfl rfl) (nl ?_)))))))))))
     refine cH H1 rfl (fun h26 H1 => ?_) (fun h26 H1 => ?_)
     ·refine sr (Rg.a (v := .int .i64 (-1)) rfl (nl (tRet (rB (rT (rT (rB (rT (rT (?_))))))))))
      obtain rfl := hb11 _ (sm H1)
      replace H := sw.r H
      obtain rfl := si H
      exact bk
     ·exact tSkip (nB (nT (Tr.region (Rg.m rfl (gdo H1 fun h27 H1 => (Rg.p (p_add rfl rfl h27) (Rg.a rfl (Rg.nl (nLI () (hi10 _ (sm H1)) Take.nil)))))))))
  ·exact tExit (xT (xT (xE (nMI () (hb11 _ (sm H1)) Take.nil))))
 ·rintro e28 y8 H
  refine nT (sr (Rg.m rfl (Rg.a rfl (nl ?_))))
  obtain rfl := si H
  exact tRet bk
noncomputable def p_laws_heldIndex (v0 : Index) (v1 : Int) : Option (Int) := bd (p_laws_heldTagSS v0.1 v1) fun r4 => cond (decide (r4 < 0)) (some (-1)) (bd (p_laws_heldPostS v0.2 r4) fun r7 => cond (decide (r7 < 0)) (some (-1)) (some r7))
theorem c_laws_heldIndex {r : Int} (v0 : Index) (x_v0 : (Option Addr × Nat) × (Option Addr × Nat)) (v1 : Int) (H : p_laws_heldIndex v0 v1 = some r) : Fn' prog 66 #[.agg #[.slice x_v0.1.1 v0.1.length x_v0.1.2, .slice x_v0.2.1 v0.2.length x_v0.2.2], .int .i64 (v1)] [imm (.slice x_v0.1.1 v0.1.length x_v0.1.2) v0.1, imm (.slice x_v0.2.1 v0.2.length x_v0.2.2) v0.2] [] (ι := Unit) (fun _ => .int .i64 (r)) (fun _ => []) (fun _ => []) := by
 refine cof (args := [_, _]) func66 ntmps66 fun c => ?_
 unfold p_laws_heldIndex at H
 refine Tr.openD Ent.z fun X1 => (Tr.openD Ent.z.s.s fun X2 => (sr (f1 (e_box (t := 38) rfl) fun g3 => (Rg.a (v := .int .i64 (0)) rfl (nl (sr (Rg.p (p_fabE fa38_0 rfl rfl) (Rg.o (q_ldb ty30 rfl Has.here rfl) (Rg.m rfl (bdo H fun r4 h5 H => ?_))))))))))
 refine Rg.o (q_call (c_laws_heldTagSS v0.1 x_v0.1 v1 h5) rfl (EntsB.cons (Ent.b (Ent.dimm Ent.z.s)) EntsB.nil)) (Rg.a rfl (nl (Tr.seq (sr (Rg.m rfl (Rg.p (p_lss rfl rfl) (nl (cH H rfl (fun h6 H => ?_) (fun h6 H => ?_)))))))))
 ·refine sr (Rg.a (v := .int .i64 (-1)) rfl (nl (tRet (rT (?_)))))
  obtain rfl := si H
  exact bk
 ·refine tSkip (nT (sr (Rg.p (p_fabE fa38_1 rfl rfl) (Rg.o (q_ldb ty36 rfl Has.here rfl) (Rg.m rfl (bdo H fun r7 h8 H => (Rg.o (q_call (c_laws_heldPostS v0.2 x_v0.2 r4 h8) rfl (EntsB.cons (Ent.b (Ent.dimm Ent.z)) EntsB.nil)) (Rg.a rfl (nl (Tr.seq (sr ?_)))))))))))
  refine Rg.m rfl (Rg.p (p_lss rfl rfl) (nl (cH H rfl (fun h9 H => ?_) (fun h9 H => ?_))))
  ·refine sr (Rg.a (v := .int .i64 (-1)) rfl (nl (tRet (rT (?_)))))
   obtain rfl := si H
   exact bk
  ·refine tSkip (nT (sr (Rg.m rfl (Rg.a rfl (nl ?_)))))
   obtain rfl := si H
   exact tRet bk
noncomputable def p_laws_heldRowS_b0 (v0 : (List Row)) (Q5 : Int × Int) : Option ((Int × Int) ⊕ (Int ⊕ Int)) := cond (decide (Q5.2 < (v0.length : Int))) (gd (ix Q5.2 v0.length) <| cond (!decide (((nth v0 Q5.2.toNat).1) = Q5.1)) (some (.inr (.inr (-1)))) (gd (I64 (Q5.1 + 1)) <| cond (!decide (((nth v0 Q5.2.toNat).2) = (Q5.1 + 1))) (some (.inr (.inr (-1)))) (gd (I64 ((Q5.1 + 1) + 1)) <| gd (I64 (Q5.2 + 1)) <| some (.inl ((Q5.1 + 1) + 1, Q5.2 + 1))))) (some (.inr (.inl Q5.1)))
noncomputable def p_laws_heldRowS (v0 : (List Row)) (v1 : Int) : Option (Int) := bd (lp (p_laws_heldRowS_b0 v0) (v1, 0)) <| sw (fun e20 => some e20) (fun q => some q)
theorem c_laws_heldRowS {r : Int} (v0 : (List Row)) (x_v0 : Option Addr × Nat) (v1 : Int) (H : p_laws_heldRowS v0 v1 = some r) : Fn' prog 144 #[.slice x_v0.1 v0.length x_v0.2, .int .i64 (v1)] [imm (.slice x_v0.1 v0.length x_v0.2) v0] [] (ι := Unit) (fun _ => .int .i64 (r)) (fun _ => []) (fun _ => []) := by
 refine cof (args := [_, _]) func144 ntmps144 fun c => ?_
 unfold p_laws_heldRowS at H
 refine sr (Rg.a (v := .int .i64 (0)) rfl (nl (Tr.seq (sr (Rg.a (v := .int .i64 (0)) rfl (nl (bdo H fun x1 hx2 H => (tMidI (Λ := Unit) H (fun e20 _ => [(1, .int .i64 (e20))]) (fun _ _ => []) ?_ ?_))))))))
 ·refine Tr.block (tLoopI hx2 () (fun Q5 _ => [(0, .slice x_v0.1 v0.length x_v0.2), (1, .int .i64 (Q5.1)), (5, .int .i64 (Q5.2))]) (fun _ _ => []) Take.nil ?_)
  rintro _ Q5 z6 t8 H1 hi9 hb10
  unfold p_laws_heldRowS_b0 at H1
  refine Tr.seq (sr (Rg.m rfl (Rg.m rfl (Rg.p (p_len 135 underlying130 rfl) (Rg.p (p_lss rfl rfl) (nl (cH H1 rfl (fun h13 H1 => ?_) (fun h13 H1 => ?_))))))))
  ·refine tSkip (nT (Tr.seq (Tr.block (Tr.seq (sr (Rg.m rfl (Rg.m rfl (gdo H1 fun h14 H1 => (Rg.o (q_ixg underlying130 ty135 rfl rfl h14 rfl (EntB.flat (Ent.b Ent.z))) (Rg.o (q_faeE (j := 0) Q5.2.toNat fa135_0 rfl (EntB.flat (Ent.b Ent.z)) h14.lt rfl) (Rg.o (q_lde (i := Q5.2.toNat) (j := 0) ty3 rfl (EntB.flat (Ent.b Ent.z)) h14.lt rfl) ?_)))))))))))
   refine Rg.m rfl (Rg.p (p_neq rfl rfl) (nl (cH H1 rfl (fun h15 H1 => ?_) (fun h15 H1 => ?_))))
   ·refine sr (Rg.a (v := .int .i64 (-1)) rfl (nl (tRet (rT (rB (rT (rT (rB (rT (rT (?_)))))))))))
    obtain rfl := hb10 _ (sm H1)
    replace H := sw.r H
    obtain rfl := si H
    exact bk
   ·refine tSkip (nT (sr (Rg.m rfl (gdo H1 fun h16 H1 => (Rg.p (p_add rfl rfl h16) (Rg.a rfl (nl (Tr.seq (sr (Rg.m rfl (Rg.m rfl ?_)))))))))))
    refine Rg.o (q_ixg underlying130 ty135 rfl rfl h14 rfl (EntB.flat (Ent.b Ent.z))) (Rg.o (q_faeE (j := 0) Q5.2.toNat fa135_1 rfl (EntB.flat (Ent.b Ent.z)) h14.lt rfl) (Rg.o (q_lde (i := Q5.2.toNat) (j := 1) ty3 rfl (EntB.flat (Ent.b Ent.z)) h14.lt rfl) (Rg.m rfl (Rg.p (p_neq rfl rfl) (nl (cH H1 rfl (fun h17 H1 => ?_) (fun h17 H1 => ?_)))))))
    ·refine sr (Rg.a (v := .int .i64 (-1)) rfl (nl (tRet (rT (rB (rT (rT (rB (rT (rT (?_)))))))))))
     obtain rfl := hb10 _ (sm H1)
     replace H := sw.r H
     obtain rfl := si H
     exact bk
    ·refine tSkip (nT (Tr.region (Rg.m rfl (gdo H1 fun h18 H1 => (Rg.p (p_add rfl rfl h18) (Rg.a rfl (Rg.nl (nB (nT (Tr.region (Rg.m rfl ?_)))))))))))
     exact gdo H1 fun h19 H1 => (Rg.p (p_add rfl rfl h19) (Rg.a rfl (Rg.nl (nLI () (hi9 _ (sm H1)) Take.nil))))
  ·exact tExit (xT (xT (xE (nMI () (hb10 _ (sm H1)) Take.nil))))
 ·rintro e20 y7 H
  refine nT (sr (Rg.m rfl (Rg.a rfl (nl ?_))))
  obtain rfl := si H
  exact tRet bk
noncomputable def p_laws_heldRowSS_b0 (v0 : (List (List Row))) (Q6 : Int × Int) : Option ((Int × Int) ⊕ (Int ⊕ Int)) := cond (decide (Q6.2 < (v0.length : Int))) (gd (ix Q6.2 v0.length) <| bd (p_laws_heldRowS (nth v0 Q6.2.toNat) Q6.1) fun r16 => cond (decide (r16 < 0)) (some (.inr (.inr (-1)))) (gd (I64 (Q6.2 + 1)) <| some (.inl (r16, Q6.2 + 1)))) (some (.inr (.inl Q6.1)))
noncomputable def p_laws_heldRowSS (v0 : (List (List Row))) (v1 : Int) : Option (Int) := bd (lp (p_laws_heldRowSS_b0 v0) (v1, 0)) <| sw (fun e20 => some e20) (fun q => some q)
theorem c_laws_heldRowSS {r : Int} (v0 : (List (List Row))) (x_v0 : Option Addr × Nat) (v1 : Int) (H : p_laws_heldRowSS v0 v1 = some r) : Fn' prog 91 #[.slice x_v0.1 v0.length x_v0.2, .int .i64 (v1)] [imm (.slice x_v0.1 v0.length x_v0.2) v0] [] (ι := Unit) (fun _ => .int .i64 (r)) (fun _ => []) (fun _ => []) := by
 refine cof (args := [_, _]) func91 ntmps91 fun c => ?_
 unfold p_laws_heldRowSS at H
 refine Tr.openD Ent.z fun X1 => (sr (Rg.a (v := .int .i64 (0)) rfl (nl (Tr.seq (sr (Rg.a (v := .int .i64 (0)) rfl (nl (bdo H fun x2 hx3 H => (tMidI (Λ := Unit) H (fun e20 _ => [(1, .int .i64 (e20))]) (fun _ _ => []) ?_ ?_)))))))))
 ·refine Tr.block (tLoopI hx3 () (fun Q6 _ => [(0, .slice x_v0.1 v0.length x_v0.2), (1, .int .i64 (Q6.1)), (5, .int .i64 (Q6.2))]) (fun _ _ => []) Take.nil ?_)
  rintro _ Q6 z7 t9 H1 hi10 hb11
  unfold p_laws_heldRowSS_b0 at H1
  refine Tr.seq (sr (Rg.m rfl (Rg.m rfl (Rg.p (p_len 130 underlying73 rfl) (Rg.p (p_lss rfl rfl) (nl (cH H1 rfl (fun h14 H1 => ?_) (fun h14 H1 => ?_))))))))
  ·refine tSkip (nT (Tr.seq (Tr.block (sr (Rg.m rfl (Rg.m rfl (gdo H1 fun h15 H1 => (Rg.o (q_ixg underlying73 ty130 rfl rfl h15 rfl (Ent.b (Ent.darr Ent.z))) (Rg.o (q_lde (i := Q6.2.toNat) (j := 0) ty130 rfl (Ent.b (Ent.darr Ent.z)) h15.lt rfl) (Rg.m rfl ?_))))))))))
   refine bdo H1 fun r16 h17 H1 => (Rg.o (q_call (c_laws_heldRowS (nth v0 Q6.2.toNat) ((X1 Q6.2.toNat).1, (X1 Q6.2.toNat).2.1) Q6.1 h17) rfl (EntsB.cons (Ent.b (Ent.dimm (Ent.del Ent.z h15.lt))) EntsB.nil)) (Rg.a rfl (nl (sr (Rg.m rfl (Rg.p (p_lss rfl rfl) (nl (cH H1 rfl (fun h18 H1 => ?_) (fun h18 H1 => ?_)))))))))
   ·refine sr (Rg.a (v := .int .i64 (-1)) rfl (nl (tRet (rB (rT (rT (rB (rT (rT (?_))))))))))
    obtain rfl := hb11 _ (sm H1)
    replace H := sw.r H
    obtain rfl := si H
    exact bk
   ·exact tSkip (nB (nT (Tr.region (Rg.m rfl (gdo H1 fun h19 H1 => (Rg.p (p_add rfl rfl h19) (Rg.a rfl (Rg.nl (nLI () (hi10 _ (sm H1)) Take.nil)))))))))
  ·exact tExit (xT (xT (xE (nMI () (hb11 _ (sm H1)) Take.nil))))
 ·rintro e20 y8 H
  refine nT (sr (Rg.m rfl (Rg.a rfl (nl ?_))))
  obtain rfl := si H
  exact tRet bk
noncomputable def p_laws_heldPartS_b0 (v0 : (List Part)) (Q6 : Int × Int) : Option ((Int × Int) ⊕ (Int ⊕ Int)) := cond (decide (Q6.2 < (v0.length : Int))) (gd (ix Q6.2 v0.length) <| bd (p_laws_heldIntS ((nth v0 Q6.2.toNat).1) Q6.1) fun r16 => cond (decide (r16 < 0)) (some (.inr (.inr (-1)))) (bd (p_laws_heldRowSS ((nth v0 Q6.2.toNat).2) r16) fun r19 => cond (decide (r19 < 0)) (some (.inr (.inr (-1)))) (gd (I64 (Q6.2 + 1)) <| some (.inl (r19, Q6.2 + 1))))) (some (.inr (.inl Q6.1)))
noncomputable def p_laws_heldPartS (v0 : (List Part)) (v1 : Int) : Option (Int) := bd (lp (p_laws_heldPartS_b0 v0) (v1, 0)) <| sw (fun e23 => some e23) (fun q => some q)
theorem c_laws_heldPartS {r : Int} (v0 : (List Part)) (x_v0 : Option Addr × Nat) (v1 : Int) (H : p_laws_heldPartS v0 v1 = some r) : Fn' prog 67 #[.slice x_v0.1 v0.length x_v0.2, .int .i64 (v1)] [imm (.slice x_v0.1 v0.length x_v0.2) v0] [] (ι := Unit) (fun _ => .int .i64 (r)) (fun _ => []) (fun _ => []) := by
 refine cof (args := [_, _]) func67 ntmps67 fun c => ?_
 unfold p_laws_heldPartS at H
 refine Tr.openD Ent.z fun X1 => (sr (Rg.a (v := .int .i64 (0)) rfl (nl (Tr.seq (sr (Rg.a (v := .int .i64 (0)) rfl (nl (bdo H fun x2 hx3 H => (tMidI (Λ := Unit) H (fun e23 _ => [(1, .int .i64 (e23))]) (fun _ _ => []) ?_ ?_)))))))))
 ·refine Tr.block (tLoopI hx3 () (fun Q6 _ => [(0, .slice x_v0.1 v0.length x_v0.2), (1, .int .i64 (Q6.1)), (5, .int .i64 (Q6.2))]) (fun _ _ => []) Take.nil ?_)
  rintro _ Q6 z7 t9 H1 hi10 hb11
  unfold p_laws_heldPartS_b0 at H1
  refine Tr.seq (sr (Rg.m rfl (Rg.m rfl (Rg.p (p_len 75 underlying39 rfl) (Rg.p (p_lss rfl rfl) (nl (cH H1 rfl (fun h14 H1 => ?_) (fun h14 H1 => ?_))))))))
  ·refine tSkip (nT (Tr.seq (Tr.block (sr (Rg.m rfl (Rg.m rfl (gdo H1 fun h15 H1 => (Rg.o (q_ixg underlying39 ty75 rfl rfl h15 rfl (Ent.b (Ent.darr Ent.z))) (Rg.o (q_faeE (j := 0) Q6.2.toNat fa75_0 rfl (Ent.b (Ent.darr Ent.z)) h15.lt rfl) (Rg.o (q_lde (i := Q6.2.toNat) (j := 0) ty23 rfl (Ent.b (Ent.darr Ent.z)) h15.lt rfl) ?_))))))))))
   refine Rg.m rfl (bdo H1 fun r16 h17 H1 => (Rg.o (q_call (c_laws_heldIntS ((nth v0 Q6.2.toNat).1) (((X1 Q6.2.toNat).1).1, ((X1 Q6.2.toNat).1).2.1) Q6.1 h17) rfl (EntsB.cons (Ent.b (Ent.dimm (Ent.dfst (Ent.del Ent.z h15.lt)))) EntsB.nil)) (Rg.a rfl (nl (Tr.seq (sr (Rg.m rfl (Rg.p (p_lss rfl rfl) (nl (cH H1 rfl (fun h18 H1 => ?_) (fun h18 H1 => ?_)))))))))))
   ·refine sr (Rg.a (v := .int .i64 (-1)) rfl (nl (tRet (rT (rB (rT (rT (rB (rT (rT (?_)))))))))))
    obtain rfl := hb11 _ (sm H1)
    replace H := sw.r H
    obtain rfl := si H
    exact bk
   ·refine tSkip (nT (sr (Rg.m rfl (Rg.m rfl (Rg.o (q_ixg underlying39 ty75 rfl rfl h15 rfl (Ent.b (Ent.darr Ent.z))) (Rg.o (q_faeE (j := 0) Q6.2.toNat fa75_1 rfl (Ent.b (Ent.darr Ent.z)) h15.lt rfl) (Rg.o (q_lde (i := Q6.2.toNat) (j := 1) ty73 rfl (Ent.b (Ent.darr Ent.z)) h15.lt rfl) (Rg.m rfl (bdo H1 fun r19 h20 H1 => ?_)))))))))
    refine Rg.o (q_call (c_laws_heldRowSS ((nth v0 Q6.2.toNat).2) (((X1 Q6.2.toNat).2).1, ((X1 Q6.2.toNat).2).2.1) r16 h20) rfl (EntsB.cons (Ent.b (Ent.dimm (Ent.dsnd (Ent.del Ent.z h15.lt)))) EntsB.nil)) (Rg.a rfl (nl (sr (Rg.m rfl (Rg.p (p_lss rfl rfl) (nl (cH H1 rfl (fun h21 H1 => ?_) (fun h21 H1 => ?_))))))))
    ·refine sr (Rg.a (v := .int .i64 (-1)) rfl (nl (tRet (rB (rT (rT (rB (rT (rT (?_))))))))))
     obtain rfl := hb11 _ (sm H1)
     replace H := sw.r H
     obtain rfl := si H
     exact bk
    ·exact tSkip (nB (nT (Tr.region (Rg.m rfl (gdo H1 fun h22 H1 => (Rg.p (p_add rfl rfl h22) (Rg.a rfl (Rg.nl (nLI () (hi10 _ (sm H1)) Take.nil)))))))))
  ·exact tExit (xT (xT (xE (nMI () (hb11 _ (sm H1)) Take.nil))))
 ·rintro e23 y8 H
  refine nT (sr (Rg.m rfl (Rg.a rfl (nl ?_))))
  obtain rfl := si H
  exact tRet bk
noncomputable def p_laws_heldSampleS_b0 (v0 : (List Sample)) (Q5 : Int × Int) : Option ((Int × Int) ⊕ (Int ⊕ Int)) := cond (decide (Q5.2 < (v0.length : Int))) (gd (ix Q5.2 v0.length) <| cond (!decide (((nth v0 Q5.2.toNat).1) = Q5.1)) (some (.inr (.inr (-1)))) (gd (I64 (Q5.1 + 1)) <| cond (!decide ((((nth v0 Q5.2.toNat).2).1) = (Q5.1 + 1))) (some (.inr (.inr (-1)))) (gd (I64 ((Q5.1 + 1) + 1)) <| cond (!decide ((((nth v0 Q5.2.toNat).2).2) = ((Q5.1 + 1) + 1))) (some (.inr (.inr (-1)))) (gd (I64 (((Q5.1 + 1) + 1) + 1)) <| gd (I64 (Q5.2 + 1)) <| some (.inl (((Q5.1 + 1) + 1) + 1, Q5.2 + 1)))))) (some (.inr (.inl Q5.1)))
noncomputable def p_laws_heldSampleS (v0 : (List Sample)) (v1 : Int) : Option (Int) := bd (lp (p_laws_heldSampleS_b0 v0) (v1, 0)) <| sw (fun e22 => some e22) (fun q => some q)
theorem c_laws_heldSampleS {r : Int} (v0 : (List Sample)) (x_v0 : Option Addr × Nat) (v1 : Int) (H : p_laws_heldSampleS v0 v1 = some r) : Fn' prog 68 #[.slice x_v0.1 v0.length x_v0.2, .int .i64 (v1)] [imm (.slice x_v0.1 v0.length x_v0.2) v0] [] (ι := Unit) (fun _ => .int .i64 (r)) (fun _ => []) (fun _ => []) := by
 refine cof (args := [_, _]) func68 ntmps68 fun c => ?_
 unfold p_laws_heldSampleS at H
 refine sr (Rg.a (v := .int .i64 (0)) rfl (nl (Tr.seq (sr (Rg.a (v := .int .i64 (0)) rfl (nl (bdo H fun x1 hx2 H => (tMidI (Λ := Unit) H (fun e22 _ => [(1, .int .i64 (e22))]) (fun _ _ => []) ?_ ?_))))))))
 ·refine Tr.block (tLoopI hx2 () (fun Q5 _ => [(0, .slice x_v0.1 v0.length x_v0.2), (1, .int .i64 (Q5.1)), (5, .int .i64 (Q5.2))]) (fun _ _ => []) Take.nil ?_)
  rintro _ Q5 z6 t8 H1 hi9 hb10
  unfold p_laws_heldSampleS_b0 at H1
  refine Tr.seq (sr (Rg.m rfl (Rg.m rfl (Rg.p (p_len 137 underlying40 rfl) (Rg.p (p_lss rfl rfl) (nl (cH H1 rfl (fun h13 H1 => ?_) (fun h13 H1 => ?_))))))))
  ·refine tSkip (nT (Tr.seq (Tr.block (Tr.seq (sr (Rg.m rfl (Rg.m rfl (gdo H1 fun h14 H1 => (Rg.o (q_ixg underlying40 ty137 rfl rfl h14 rfl (EntB.flat (Ent.b Ent.z))) (Rg.o (q_faeE (j := 0) Q5.2.toNat fa137_0 rfl (EntB.flat (Ent.b Ent.z)) h14.lt rfl) (Rg.o (q_lde (i := Q5.2.toNat) (j := 0) ty3 rfl (EntB.flat (Ent.b Ent.z)) h14.lt rfl) ?_)))))))))))
   refine Rg.m rfl (Rg.p (p_neq rfl rfl) (nl (cH H1 rfl (fun h15 H1 => ?_) (fun h15 H1 => ?_))))
   ·refine sr (Rg.a (v := .int .i64 (-1)) rfl (nl (tRet (rT (rB (rT (rT (rB (rT (rT (?_)))))))))))
    obtain rfl := hb10 _ (sm H1)
    replace H := sw.r H
    obtain rfl := si H
    exact bk
   ·refine tSkip (nT (sr (Rg.m rfl (gdo H1 fun h16 H1 => (Rg.p (p_add rfl rfl h16) (Rg.a rfl (nl (Tr.seq (sr (Rg.m rfl (Rg.m rfl ?_)))))))))))
    refine Rg.o (q_ixg underlying40 ty137 rfl rfl h14 rfl (EntB.flat (Ent.b Ent.z))) (Rg.o (q_faeE (j := 0) Q5.2.toNat fa137_1 rfl (EntB.flat (Ent.b Ent.z)) h14.lt rfl) (Rg.o (q_faeE (j := 1) Q5.2.toNat fa135_0 rfl (EntB.flat (Ent.b Ent.z)) h14.lt rfl) (Rg.o (q_lde (i := Q5.2.toNat) (j := 1) ty3 rfl (EntB.flat (Ent.b Ent.z)) h14.lt rfl) (Rg.m rfl (Rg.p (p_neq rfl rfl) (nl (cH H1 rfl (fun h17 H1 => ?_) (fun h17 H1 => ?_))))))))
    ·refine sr (Rg.a (v := .int .i64 (-1)) rfl (nl (tRet (rT (rB (rT (rT (rB (rT (rT (?_)))))))))))
     obtain rfl := hb10 _ (sm H1)
     replace H := sw.r H
     obtain rfl := si H
     exact bk
    ·refine tSkip (nT (sr (Rg.m rfl (gdo H1 fun h18 H1 => (Rg.p (p_add rfl rfl h18) (Rg.a rfl (nl (Tr.seq (sr (Rg.m rfl (Rg.m rfl ?_)))))))))))
     refine Rg.o (q_ixg underlying40 ty137 rfl rfl h14 rfl (EntB.flat (Ent.b Ent.z))) (Rg.o (q_faeE (j := 0) Q5.2.toNat fa137_1 rfl (EntB.flat (Ent.b Ent.z)) h14.lt rfl) (Rg.o (q_faeE (j := 1) Q5.2.toNat fa135_1 rfl (EntB.flat (Ent.b Ent.z)) h14.lt rfl) (Rg.o (q_lde (i := Q5.2.toNat) (j := 2) ty3 rfl (EntB.flat (Ent.b Ent.z)) h14.lt rfl) (Rg.m rfl (Rg.p (p_neq rfl rfl) (nl (cH H1 rfl (fun h19 H1 => ?_) (fun h19 H1 => ?_))))))))
     ·refine sr (Rg.a (v := .int .i64 (-1)) rfl (nl (tRet (rT (rB (rT (rT (rB (rT (rT (?_)))))))))))
      obtain rfl := hb10 _ (sm H1)
      replace H := sw.r H
      obtain rfl := si H
      exact bk
     ·refine tSkip (nT (Tr.region (Rg.m rfl (gdo H1 fun h20 H1 => (Rg.p (p_add rfl rfl h20) (Rg.a rfl (Rg.nl (nB (nT (Tr.region (Rg.m rfl ?_)))))))))))
      exact gdo H1 fun h21 H1 => (Rg.p (p_add rfl rfl h21) (Rg.a rfl (Rg.nl (nLI () (hi9 _ (sm H1)) Take.nil))))
  ·exact tExit (xT (xT (xE (nMI () (hb10 _ (sm H1)) Take.nil))))
 ·rintro e22 y7 H
  refine nT (sr (Rg.m rfl (Rg.a rfl (nl ?_))))
  obtain rfl := si H
  exact tRet bk
noncomputable def p_laws_heldStore (v0 : Store) (v1 : Int) : Option (Int) := bd (p_laws_heldIndex v0.1 v1) fun r5 => cond (decide (r5 < 0)) (some (-1)) (bd (p_laws_heldPartS v0.2.1 r5) fun r8 => cond (decide (r8 < 0)) (some (-1)) (bd (p_laws_heldSampleS v0.2.2 r8) fun r11 => cond (decide (r11 < 0)) (some (-1)) (some r11)))
theorem c_laws_heldStore {r : Int} (v0 : Store) (x_v0 : ((Option Addr × Nat) × (Option Addr × Nat)) × (Option Addr × Nat) × (Option Addr × Nat)) (v1 : Int) (H : p_laws_heldStore v0 v1 = some r) : Fn' prog 19 #[.agg #[.slice x_v0.1.1.1 v0.1.1.length x_v0.1.1.2, .slice x_v0.1.2.1 v0.1.2.length x_v0.1.2.2, .slice x_v0.2.1.1 v0.2.1.length x_v0.2.1.2, .slice x_v0.2.2.1 v0.2.2.length x_v0.2.2.2], .int .i64 (v1)] [imm (.slice x_v0.1.1.1 v0.1.1.length x_v0.1.1.2) v0.1.1, imm (.slice x_v0.1.2.1 v0.1.2.length x_v0.1.2.2) v0.1.2, imm (.slice x_v0.2.1.1 v0.2.1.length x_v0.2.1.2) v0.2.1, imm (.slice x_v0.2.2.1 v0.2.2.length x_v0.2.2.2) v0.2.2] [] (ι := Unit) (fun _ => .int .i64 (r)) (fun _ => []) (fun _ => []) := by
 refine cof (args := [_, _]) func19 ntmps19 fun c => ?_
 unfold p_laws_heldStore at H
 refine Tr.openD Ent.z fun X1 => (Tr.openD Ent.z.s.s fun X2 => (Tr.openD Ent.z.s.s.s.s fun X3 => (sr (f1 (e_box (t := 42) rfl) fun g4 => (Rg.a (v := .int .i64 (0)) rfl (nl (sr (Rg.p (p_fabE fa42_0 rfl rfl) (Rg.o (v := .agg #[.slice x_v0.1.1.1 v0.1.1.length x_v0.1.1.2, .slice x_v0.1.2.1 v0.1.2.length x_v0.1.2.2]) (q_ldbP [.slice x_v0.1.1.1 v0.1.1.length x_v0.1.1.2, .slice x_v0.1.2.1 v0.1.2.length x_v0.1.2.2] ty38 rfl Has.here rfl rfl) (Rg.m rfl ?_))))))))))
 refine bdo H fun r5 h6 H => (Rg.o (q_call (c_laws_heldIndex v0.1 x_v0.1 v1 h6) rfl (EntsB.cons (Ent.b (Ent.dimm Ent.z.s.s)) (EntsB.cons (Ent.b (Ent.dimm Ent.z.s)) EntsB.nil))) (Rg.a rfl (nl (Tr.seq (sr (Rg.m rfl (Rg.p (p_lss rfl rfl) (nl (cH H rfl (fun h7 H => ?_) (fun h7 H => ?_))))))))))
 ·refine sr (Rg.a (v := .int .i64 (-1)) rfl (nl (tRet (rT (?_)))))
  obtain rfl := si H
  exact bk
 ·refine tSkip (nT (sr (Rg.p (p_fabE fa42_1 rfl rfl) (Rg.o (q_ldb ty39 rfl Has.here rfl) (Rg.m rfl (bdo H fun r8 h9 H => (Rg.o (q_call (c_laws_heldPartS v0.2.1 x_v0.2.1 r5 h9) rfl (EntsB.cons (Ent.b (Ent.dimm Ent.z)) EntsB.nil)) (Rg.a rfl (nl (Tr.seq (sr ?_)))))))))))
  refine Rg.m rfl (Rg.p (p_lss rfl rfl) (nl (cH H rfl (fun h10 H => ?_) (fun h10 H => ?_))))
  ·refine sr (Rg.a (v := .int .i64 (-1)) rfl (nl (tRet (rT (?_)))))
   obtain rfl := si H
   exact bk
  ·refine tSkip (nT (sr (Rg.p (p_fabE fa42_2 rfl rfl) (Rg.o (q_ldb ty40 rfl Has.here rfl) (Rg.m rfl (bdo H fun r11 h12 H => (Rg.o (q_call (c_laws_heldSampleS v0.2.2 x_v0.2.2 r8 h12) rfl (EntsB.cons (Ent.b Ent.z.s.s.s.s.s.s) EntsB.nil)) (Rg.a rfl (nl (Tr.seq (sr ?_)))))))))))
   refine Rg.m rfl (Rg.p (p_lss rfl rfl) (nl (cH H rfl (fun h13 H => ?_) (fun h13 H => ?_))))
   ·refine sr (Rg.a (v := .int .i64 (-1)) rfl (nl (tRet (rT (?_)))))
    obtain rfl := si H
    exact bk
   ·refine tSkip (nT (sr (Rg.m rfl (Rg.a rfl (nl ?_)))))
    obtain rfl := si H
    exact tRet bk
noncomputable def p_laws_FnExactDiskOpen (v0 : Disk) : Option (Bool) := bd (p_laws_szDisk v0 1048576) fun r4 => cond (decide (r4 < 0)) (some true) (bd (p_laws_toDisk v0) fun r7 => bd (p_spec_DiskOpen r7) fun r10 => bd (p_impl_DiskOpen r7) fun r16 => bd (p_laws_eqStore r16 r10) fun r20 => cond (!r20) (some false) (bd (p_laws_eqDisk r7 r7) fun r24 => cond (!r24) (some false) (bd (p_laws_markDisk r7 1) fun r27 => bd (cond (decide (r27.1 < 0)) (some (true)) (some (!r20))) fun b30 => cond (b30) (some false) (bd (p_laws_markStore r16 1) fun r34 => bd (p_laws_heldStore r34.2 1) fun r37 => cond (decide (r37 < 0)) (some false) (cond (!decide (r37 = r34.1)) (some false) (cond (!r20) (some false) (cond (decide (r37 < 0)) (some false) (cond (!decide (r37 = r34.1)) (some false) (some true)))))))))
theorem c_laws_FnExactDiskOpen {r : Bool} (v0 : Disk) (x_v0 : (Option Addr × Nat) × (Option Addr × Nat) × (Option Addr × Nat) × Unit) (H : p_laws_FnExactDiskOpen v0 = some r) : Fn' prog 4 #[.agg #[.slice x_v0.1.1 v0.1.length x_v0.1.2, .slice x_v0.2.1.1 v0.2.1.length x_v0.2.1.2, .slice x_v0.2.2.1.1 v0.2.2.1.length x_v0.2.2.1.2, .int .i64 (v0.2.2.2)]] [imm (.slice x_v0.1.1 v0.1.length x_v0.1.2) v0.1, imm (.slice x_v0.2.1.1 v0.2.1.length x_v0.2.1.2) v0.2.1, imm (.slice x_v0.2.2.1.1 v0.2.2.1.length x_v0.2.2.1.2) v0.2.2.1] [] (ι := Unit) (fun _ => .bool (r)) (fun _ => []) (fun _ => []) := by
 refine cof (args := [_]) func4 ntmps4 fun c => ?_
 unfold p_laws_FnExactDiskOpen at H
 refine Tr.openD Ent.z fun X1 => (Tr.openD Ent.z.s.s.s fun X2 => (sr (f1 (e_box (t := 26) rfl) fun g3 => (Rg.a (v := .bool (false)) rfl (nl (sr (Rg.a (v := .int .i64 (1048576)) rfl (nl (sr (Rg.o (q_ldbA ty26 rfl Has.here rfl) (Rg.m (v := .int .i64 (1048576)) rfl ?_)))))))))))
 refine bdo H fun r4 h5 H => (Rg.o (q_call (c_laws_szDisk v0 (x_v0.1, x_v0.2.1, x_v0.2.2.1, ()) 1048576 h5) rfl (EntsB.cons (Ent.b (Ent.dimm Ent.z.s)) (EntsB.cons (Ent.b Ent.z.s.s.s) (EntsB.cons (Ent.b (Ent.dimm Ent.z)) EntsB.nil)))) (Rg.a rfl (nl (Tr.seq (sr (Rg.m rfl (Rg.p (p_lss rfl rfl) (nl (cH H rfl (fun h6 H => ?_) (fun h6 H => ?_))))))))))
 ·refine sr (Rg.a (v := .bool (true)) rfl (nl (tRet (rT (?_)))))
  obtain rfl := si H
  exact bk
 ·refine tSkip (nT (sr (Rg.o (q_ldbA ty26 rfl Has.here rfl) (bdo H fun r7 h8 H => (f1 (e_call (Fn'.frz (Fn'.frz (Fn'.frz (c_laws_toDisk v0 (x_v0.1, x_v0.2.1, x_v0.2.2.1, ()) h8)))) rfl (Ents.cons (Ent.dimm Ent.z.s) (Ents.cons Ent.z.s.s.s (Ents.cons (Ent.dimm Ent.z) Ents.nil))) Take.nil) fun x9 => (bdo H fun r10 h11 H => (f1 (e_call (c_spec_DiskOpen r7 (x9.1, x9.2.1, x9.2.2.1, ()) h11) rfl (Ents.cons Ent.z.s.s (Ents.cons Ent.z.s (Ents.cons Ent.z Ents.nil))) Take.nil) fun x12 => (f1 (e_alloc ty42) fun g13 => (stb (cs' := [.slice x12.1.1.1 r10.1.1.length x12.1.1.2, .slice x12.1.2.1 r10.1.2.length x12.1.2.2, .slice x12.2.1.1 r10.2.1.length x12.2.1.2, .slice x12.2.2.1 r10.2.2.length x12.2.2.2]) ty42 Upd.here ?_)))))))))
  refine nl (sr (Rg.o (q_ldbA ty26 rfl hs1 rfl) (f1 (e_callB (c_laws_toDisk v0 (x_v0.1, x_v0.2.1, x_v0.2.2.1, ()) h8) (fun _ => (Solo.tree (Solo.tree (Solo.tree Solo.nil)))) rfl (EntsB.cons (Ent.b (Ent.dimm Ent.z.s.s.s.s.s.s.s.s)) (EntsB.cons (Ent.b Ent.z.s.s.s.s.s.s.s.s.s.s) (EntsB.cons (Ent.b (Ent.dimm Ent.z.s.s.s.s.s.s.s)) EntsB.nil)))) fun x14 => (f1 (e_alloc ty32) fun g15 => (stb (cs' := [.slice x14.1.1 r7.1.length x14.1.2, .slice x14.2.1.1 r7.2.1.length x14.2.1.2, .slice x14.2.2.1.1 r7.2.2.1.length x14.2.2.1.2, .int .i64 (r7.2.2.2)]) ty32 Upd.here (nl (sr (Rg.o (q_ldbA ty32 rfl Has.here rfl) (bdo H fun r16 h17 H => ?_)))))))))
  refine f1 (e_callB (c_impl_DiskOpen r7 (x14.1, x14.2.1, x14.2.2.1, ()) h17) (fun _ => (Solo.tree (Solo.tree (Solo.tree (Solo.tree Solo.nil))))) rfl (EntsB.cons (EntB.tree hs1) (EntsB.cons (EntB.tree hs2) (EntsB.cons (EntB.tree hs3) EntsB.nil)))) fun x18 => (f1 (e_alloc ty42) fun g19 => (stb (cs' := [.slice x18.1.1.1 r16.1.1.length x18.1.1.2, .slice x18.1.2.1 r16.1.2.length x18.1.2.2, .slice x18.2.1.1 r16.2.1.length x18.2.1.2, .slice x18.2.2.1 r16.2.2.length x18.2.2.2]) ty42 Upd.here (nl (Tr.seq (sr (Rg.o (q_ldbA ty42 rfl Has.here rfl) (Rg.o (q_ldbA ty42 rfl (hs5t hs4) rfl) (bdo H fun r20 h21 H => (Rg.o (q_call (c_laws_eqStore r16 x18 r10 x12 h21) rfl (EntsB.cons (EntB.tree hs1) (EntsB.cons (EntB.tree hs2) (EntsB.cons (EntB.tree hs3) (EntsB.cons (EntB.tree hs4) (EntsB.cons (Ent.b Ent.z) (EntsB.cons (Ent.b Ent.z.s) (EntsB.cons (Ent.b Ent.z.s.s) (EntsB.cons (Ent.b Ent.z.s.s.s) EntsB.nil))))))))) (Rg.p (p_not rfl) (nl ?_)))))))))))
  refine cH H rfl (fun h22 H => ?_) (fun h22 H => ?_)
  ·refine sr (Rg.a (v := .bool (false)) rfl (nl (tRet (rT (?_)))))
   obtain rfl := si H
   exact bk
  ·refine tSkip (nT (Tr.seq (Tr.seq (tNwS [(6, .pointer (some ⟨g19, 0, none⟩)), (5, .pointer (some ⟨g15, 0, none⟩)), (4, .pointer (some ⟨g13, 0, none⟩)), (1, .pointer (some ⟨g3, 0, none⟩))] 2 [0, 1, 2, 3, 4] [2] [] mixed (by kernel_rfl) (by decide) List.nodup_nil ⟨rfl, rfl, rfl, rfl, trivial⟩ rfl okNil ?_))))
   refine w_o rfl (fun F => (q_ldbA ty32 rfl (hs5.app F) rfl)) ?_
   refine w_o rfl (fun F => (q_ldbA ty26 rfl ((hs5t hs5).app F) rfl)) (w_ed rfl (by decide) rfl Rdy.nil rfl (n_callB (c_laws_toDisk v0 (x_v0.1, x_v0.2.1, x_v0.2.2.1, ()) h8) (fun _ => (Solo.tree (Solo.tree (Solo.tree Solo.nil)))) rfl (EntsB.cons (Ent.b (Ent.dimm Ent.z.s.s.s.s.s.s.s.s)) (EntsB.cons (Ent.b Ent.z.s.s.s.s.s.s.s.s.s.s) (EntsB.cons (Ent.b (Ent.dimm Ent.z.s.s.s.s.s.s.s)) EntsB.nil)))) ?_)
   rintro _ _ _ ⟨x23, rfl, rfl, rfl⟩
   refine ⟨(PdOk.anc (by kernel_rfl) (PdOk.q rfl rfl (fun F => (q_ldbA ty32 rfl ((hs5t hs3).app F) rfl)) PdOk.nil)), ?_⟩
   refine bdo H fun r24 h25 H => ?_
   refine w_o rfl (fun F => (q_call (c_laws_eqDisk r7 (x14.1, x14.2.1, x14.2.2.1, ()) r7 (x23.1, x23.2.1, x23.2.2.1, ()) h25) rfl (EntsB.cons (EntB.tree ((hs5t hs4).app F)) (EntsB.cons (EntB.tree ((hs5t hs5).app F)) (EntsB.cons (EntB.tree ((hs5t (hs5t hs1)).app F)) (EntsB.cons (EntB.tree (Has.here.app F)) (EntsB.cons (EntB.tree (hs1.app F)) (EntsB.cons (EntB.tree (hs2.app F)) EntsB.nil)))))))) (w_p rfl (p_not rfl) (w_nil (nT (cH H rfl (fun h26 H => ?_) (fun h26 H => ?_)))))
   ·refine sr (Rg.a (v := .bool (false)) rfl (nl (tRet (rT (?_)))))
    obtain rfl := si H
    exact bk
   ·refine tSkip (nT (sr (Rg.a (v := .int .i64 (1)) rfl (nl (sr (Rg.o (q_ldbA ty32 rfl (hs5t hs3) rfl) (Rg.m (v := .int .i64 (1)) rfl (bdo H fun r27 h28 H => (f1 (e_callM (c_laws_markDisk r7 (x14.1, x14.2.1, x14.2.2.1, ()) 1 h28) (Solo.tree (Solo.tree (Solo.tree Solo.nil))) (fun _ => (Solo.tree (Solo.tree (Solo.tree Solo.nil)))) rfl (.cons (dl5t dl4) (.cons (dl5t dl4) (.cons (dl5t dl4) .nil))) EntsB.nil) fun u29 => (Rg.a rfl (nl ?_)))))))))))
    refine Tr.seq (bdo H fun b30 j31 H => (tMid1 [(42, .bool (b30)), (6, .pointer (some ⟨g19, 0, none⟩)), (4, .pointer (some ⟨g13, 0, none⟩)), (1, .pointer (some ⟨g3, 0, none⟩))] ?_ ?_))
    ·refine tLinT [(7, .int .i64 (r27.1)), (6, .pointer (some ⟨g19, 0, none⟩)), (4, .pointer (some ⟨g13, 0, none⟩)), (1, .pointer (some ⟨g3, 0, none⟩))] ⟨rfl, rfl, rfl, rfl, trivial⟩ (Lin.m rfl (Lin.p (p_lss rfl rfl) ?_))
     rcases Bool.eq_false_or_eq_true (decide (r27.1 < 0)) with h32 | h32
     ·have j31 := cdT h32 j31
      refine Lin.e_ (p_move rfl) h32 ?_
      iterate 4 refine Lin.sk rfl ?_
      refine Lin.p (v := .bool (true)) (p_pickT rfl rfl) ?_
      obtain rfl := si j31
      show At _ _ _ _ _ _
      exact n1 ⟨rfl, rfl, rfl, rfl, trivial⟩
     ·have j31 := cdF h32 j31
      refine Lin.e_ (p_move rfl) h32 (Lin.i rfl (q_ldbA ty42 rfl (hs5t hs1) rfl) (Lin.i rfl (q_ldbA ty42 rfl (hs5t (hs5t hs2)) rfl) (Lin.i rfl (q_call (c_laws_eqStore r16 x18 r10 x12 h21) rfl (EntsB.cons (EntB.tree (hs5t hs2)) (EntsB.cons (EntB.tree (hs5t hs3)) (EntsB.cons (EntB.tree (hs5t hs4)) (EntsB.cons (EntB.tree (hs5t hs5)) (EntsB.cons (Ent.b Ent.z) (EntsB.cons (Ent.b Ent.z.s) (EntsB.cons (Ent.b Ent.z.s.s) (EntsB.cons (Ent.b Ent.z.s.s.s) EntsB.nil))))))))) (Lin.h rfl (p_not rfl) (Lin.p (p_pickF rfl rfl) ?_)))))
      obtain rfl := si j31
      show At _ _ _ _ _ _
      exact n1 ⟨rfl, rfl, rfl, rfl, trivial⟩
    refine cH H rfl (fun h33 H => ?_) (fun h33 H => ?_)
    ·refine sr (Rg.a (v := .bool (false)) rfl (nl (tRet (rT (?_)))))
     obtain rfl := si H
     exact bk
    ·refine tSkip (nT (sr (Rg.a (v := .int .i64 (1)) rfl (nl (sr (Rg.o (q_ldbA ty42 rfl (hs5t hs1) rfl) (Rg.m (v := .int .i64 (1)) rfl (bdo H fun r34 h35 H => (f1 (e_callM (c_laws_markStore r16 x18 1 h35) (Solo.tree (Solo.tree (Solo.tree (Solo.tree Solo.nil)))) (fun _ => (Solo.tree (Solo.tree (Solo.tree (Solo.tree Solo.nil))))) rfl (.cons (dl5t dl2) (.cons (dl5t dl2) (.cons (dl5t dl2) (.cons (dl5t dl2) .nil)))) EntsB.nil) fun u36 => (Rg.a rfl (nl ?_)))))))))))
     refine Tr.seq ?_
     refine Tr.olen Has.here fun hn => ?_; rw [hn]
     refine Tr.olen hs1 fun hn => ?_; rw [hn]
     refine Tr.olen hs2 fun hn => ?_; rw [hn]
     refine Tr.olen hs3 fun hn => ?_; rw [hn]
     refine Tr.olen hs4 fun hn => ?_; rw [hn]
     refine Tr.olen hs5 fun hn => ?_; rw [hn]
     refine Tr.olen (hs5t hs1) fun hn => ?_; rw [hn]
     refine Tr.olen (hs5t hs2) fun hn => ?_; rw [hn]
     refine Tr.olen (hs5t hs3) fun hn => ?_; rw [hn]
     refine Tr.olen (hs5t hs4) fun hn => ?_; rw [hn]
     refine Tr.region (Rg.a (v := .int .i64 (1)) rfl (nl (Tr.seq ?_)))
     refine Tr.olen hs4 fun hn => ?_; rw [hn]
     refine Tr.olen hs5 fun hn => ?_; rw [hn]
     refine Tr.olen (hs5t hs1) fun hn => ?_; rw [hn]
     refine Tr.olen (hs5t hs2) fun hn => ?_; rw [hn]
     refine Tr.olen (hs5t hs3) fun hn => ?_; rw [hn]
     refine Tr.olen (hs5t hs4) fun hn => ?_; rw [hn]
     refine Tr.region (Rg.o (q_ldbA ty42 rfl (hs5t hs5) rfl) (Rg.m (v := .int .i64 (1)) rfl (bdo H fun r37 h38 H => (Rg.o (q_call (c_laws_heldStore r34.2 x18 1 h38) rfl (EntsB.cons (EntB.tree Has.here) (EntsB.cons (EntB.tree hs1) (EntsB.cons (EntB.tree hs2) (EntsB.cons (EntB.tree hs3) EntsB.nil))))) (Rg.a rfl (nl (Tr.seq (sr (Rg.m rfl (Rg.p (p_lss rfl rfl) (nl (cH H rfl (fun h39 H => ?_) (fun h39 H => ?_)))))))))))))
     ·refine sr (Rg.a (v := .bool (false)) rfl (nl (tRet (rT (?_)))))
      obtain rfl := si H
      exact bk
     ·refine tSkip (nT (Tr.seq (sr (Rg.m rfl (Rg.m rfl (Rg.p (p_neq rfl rfl) (nl (cH H rfl (fun h40 H => ?_) (fun h40 H => ?_)))))))))
      ·refine sr (Rg.a (v := .bool (false)) rfl (nl (tRet (rT (?_)))))
       obtain rfl := si H
       exact bk
      ·refine tSkip (nT (sr (Rg.o (q_ldbA ty26 rfl (hs5t (hs5t hs3)) rfl) (f1 (e_callB (c_laws_toDisk v0 (x_v0.1, x_v0.2.1, x_v0.2.2.1, ()) h8) (fun _ => (Solo.tree (Solo.tree (Solo.tree Solo.nil)))) rfl (EntsB.cons (Ent.b (Ent.dimm Ent.z.s.s.s.s.s.s.s.s)) (EntsB.cons (Ent.b Ent.z.s.s.s.s.s.s.s.s.s.s) (EntsB.cons (Ent.b (Ent.dimm Ent.z.s.s.s.s.s.s.s)) EntsB.nil)))) fun x41 => (f1 (e_callB (c_impl_DiskOpen r7 (x41.1, x41.2.1, x41.2.2.1, ()) h17) (fun _ => (Solo.tree (Solo.tree (Solo.tree (Solo.tree Solo.nil))))) rfl (EntsB.cons (EntB.tree Has.here) (EntsB.cons (EntB.tree hs1) (EntsB.cons (EntB.tree hs2) EntsB.nil)))) fun x42 => (f1 (e_alloc ty42) fun g43 => (stb (cs' := [.slice x42.1.1.1 r16.1.1.length x42.1.1.2, .slice x42.1.2.1 r16.1.2.length x42.1.2.2, .slice x42.2.1.1 r16.2.1.length x42.2.1.2, .slice x42.2.2.1 r16.2.2.length x42.2.2.2]) ty42 Upd.here (nl (Tr.seq (sr ?_))))))))))
       refine Rg.o (q_ldbA ty42 rfl Has.here rfl) (Rg.o (q_ldbA ty42 rfl (hs5t (hs5t (hs5t hs5))) rfl) (Rg.o (q_call (c_laws_eqStore r16 x42 r10 x12 h21) rfl (EntsB.cons (EntB.tree hs1) (EntsB.cons (EntB.tree hs2) (EntsB.cons (EntB.tree hs3) (EntsB.cons (EntB.tree hs4) (EntsB.cons (Ent.b Ent.z) (EntsB.cons (Ent.b Ent.z.s) (EntsB.cons (Ent.b Ent.z.s.s) (EntsB.cons (Ent.b Ent.z.s.s.s) EntsB.nil))))))))) (Rg.p (p_not rfl) (nl (cH H rfl (fun h44 H => ?_) (fun h44 H => ?_))))))
       ·refine sr (Rg.a (v := .bool (false)) rfl (nl (tRet (rT (?_)))))
        obtain rfl := si H
        exact bk
       ·refine tSkip (nT (sr (Rg.a (v := .int .i64 (1)) rfl (nl (sr (Rg.o (q_ldbA ty42 rfl (hs5t (hs5t (hs5t hs3))) rfl) (Rg.m (v := .int .i64 (1)) rfl (Rg.o (q_call (c_laws_heldStore r34.2 x18 1 h38) rfl (EntsB.cons (EntB.tree (hs5t hs3)) (EntsB.cons (EntB.tree (hs5t hs4)) (EntsB.cons (EntB.tree (hs5t hs5)) (EntsB.cons (EntB.tree (hs5t (hs5t hs1))) EntsB.nil))))) (Rg.a rfl (nl (Tr.seq (sr ?_))))))))))))
        refine Rg.m rfl (Rg.p (p_lss rfl rfl) (nl (cH H rfl (fun h45 H => ?_) (fun h45 H => ?_))))
        ·refine sr (Rg.a (v := .bool (false)) rfl (nl (tRet (rT (?_)))))
         obtain rfl := si H
         exact bk
        ·refine tSkip (nT (Tr.seq (sr (Rg.m rfl (Rg.m rfl (Rg.p (p_neq rfl rfl) (nl (cH H rfl (fun h46 H => ?_) (fun h46 H => ?_)))))))))
         ·refine sr (Rg.a (v := .bool (false)) rfl (nl (tRet (rT (?_)))))
          obtain rfl := si H
          exact bk
         ·refine tSkip (nT (sr (Rg.a (v := .bool (true)) rfl (nl ?_))))
          obtain rfl := si H
          exact tRet bk
noncomputable def p_laws_heldFileS_b0 (v0 : (List File)) (Q6 : Int × Int) : Option ((Int × Int) ⊕ (Int ⊕ Int)) := cond (decide (Q6.2 < (v0.length : Int))) (gd (ix Q6.2 v0.length) <| cond (!decide (((nth v0 Q6.2.toNat).1) = Q6.1)) (some (.inr (.inr (-1)))) (gd (I64 (Q6.1 + 1)) <| bd (p_laws_heldIntS (((nth v0 Q6.2.toNat).2).1) (Q6.1 + 1)) fun r18 => cond (decide (r18 < 0)) (some (.inr (.inr (-1)))) (bd (p_laws_heldRowSS (((nth v0 Q6.2.toNat).2).2) r18) fun r21 => cond (decide (r21 < 0)) (some (.inr (.inr (-1)))) (gd (I64 (Q6.2 + 1)) <| some (.inl (r21, Q6.2 + 1)))))) (some (.inr (.inl Q6.1)))
noncomputable def p_laws_heldFileS (v0 : (List File)) (v1 : Int) : Option (Int) := bd (lp (p_laws_heldFileS_b0 v0) (v1, 0)) <| sw (fun e25 => some e25) (fun q => some q)
noncomputable def p_laws_heldDisk (v0 : Disk) (v1 : Int) : Option (Int) := bd (p_laws_heldFileS v0.1 v1) fun r4 => cond (decide (r4 < 0)) (some (-1)) (bd (p_laws_heldIntS v0.2.1 r4) fun r7 => cond (decide (r7 < 0)) (some (-1)) (bd (p_laws_heldTagSS v0.2.2.1 r7) fun r10 => cond (decide (r10 < 0)) (some (-1)) (some r10)))
theorem mt_total (k : Int) (h0 : 0 ≤ k) (hk : k ≤ 1152921504606846976) : ∃ t, p_laws_markText k = some t := by
 unfold p_laws_markText
 by_cases hz : k ≤ 0
 ·simp [hz]
 ·simp only [hz, decide_false, cond_false]
  obtain ⟨e, he, hs⟩ := lp.rule (body := p_laws_markText_b0) (fun σ => 0 ≤ σ.1 ∧ ∃ j, j ≤ 61 ∧ σ.2.size + j ≤ 61 ∧ σ.1 < (2 : Int) ^ j) (fun σ => σ.1.toNat) (fun e => e.size ≤ 61) (fun σ hI => by
   obtain ⟨i0, j, j1, j2, j3⟩ := hI
   unfold p_laws_markText_b0
   by_cases hp : 0 < σ.1
   ·left
    have hj : 0 < j := by
     rcases Nat.eq_zero_or_pos j with rfl | h
     ·simp at j3; omega
     ·exact h
    have hpow : (2 : Int) ^ j = 2 * 2 ^ (j - 1) := by
     rw [show j = (j - 1) + 1 by omega, Int.pow_succ]; simp; omega
    have hbig : (2 : Int) ^ j ≤ 2 ^ 61 := by
     have : (2 : Nat) ^ j ≤ 2 ^ 61 := Nat.pow_le_pow_right (by decide) j1
     have h2 : ((2 ^ j : Nat) : Int) ≤ ((2 ^ 61 : Nat) : Int) := by omega
     simpa using h2
    have hm : 0 ≤ σ.1.tmod 10 ∧ σ.1.tmod 10 < 10 := by
     rw [Int.tmod_eq_emod_of_nonneg i0]; omega
    have hd : σ.1.tdiv 10 = σ.1 / 10 := Int.tdiv_eq_ediv_of_nonneg i0
    have g1 : I64 (σ.1.tmod 10) := by unfold I64; omega
    have g2 : I64 (48 + σ.1.tmod 10) := by unfold I64; omega
    have g3 : I64 (σ.1.tdiv 10) := by rw [hd]; unfold I64; omega
    have g4 : room ((s2 [b8 (48 + σ.1.tmod 10)]).size + σ.2.size) := by
     have : (s2 [b8 (48 + σ.1.tmod 10)]).size = 1 := rfl
     unfold room; omega
    refine ⟨(σ.1.tdiv 10, s2 [b8 (48 + σ.1.tmod 10)] ++ σ.2), by simp only [hp, decide_true, cond_true, gd.yes g1, gd.yes g2, gd.yes g3, gd.yes g4], ⟨by rw [hd]; show 0 ≤ σ.1 / 10; omega, j - 1, by omega, ?_, ?_⟩, ?_⟩
    ·have : (s2 [b8 (48 + σ.1.tmod 10)] ++ σ.2).size = 1 + σ.2.size := by rw [ByteArray.size_append]; rfl
     show (s2 [b8 (48 + σ.1.tmod 10)] ++ σ.2).size + (j - 1) ≤ 61
     omega
    ·show σ.1.tdiv 10 < _
     rw [hd]; omega
    ·show (σ.1.tdiv 10).toNat < σ.1.toNat
     rw [hd]; omega
   ·right
    exact ⟨σ.2, by simp [hp], by omega⟩) (s := (k, (⟨#[]⟩ : ByteArray))) ⟨h0, 61, Nat.le_refl _, Nat.le_refl _, by show k < _; omega⟩
  rw [he, bd_some]
  have : room ((⟨#[109]⟩ : ByteArray).size + e.size) := by
   have h1 : (⟨#[109]⟩ : ByteArray).size = 1 := rfl
   unfold room; omega
  rw [gd.yes this]
  exact ⟨_, rfl⟩
theorem s_IntS (a : (List Int)) (left : Int) (h0 : 0 ≤ left) (h1 : left ≤ 1048576) (ok : Dp.ok a) : p_laws_szIntS a left = some (cut left (Wt.w a)) := by
 have hm : a.length ≤ 9223372036854775807 := ok.1
 unfold p_laws_szIntS
 have hw : Wt.w a = a.length := by show a.length + sumN a.length (fun i => Wt.w (nth a i)) = _; rw [sumN_zero (f := fun i => Wt.w (nth a i)) fun i _ => rfl]; rfl
 rw [hw]; exact sz_strl (by unfold I64; omega)
theorem s_RowS (a : (List Row)) (left : Int) (h0 : 0 ≤ left) (h1 : left ≤ 1048576) (ok : Dp.ok a) : p_laws_szRowS a left = some (cut left (Wt.w a)) := by
 have hm : a.length ≤ 9223372036854775807 := ok.1
 unfold p_laws_szRowS
 have hw : Wt.w a = a.length := by show a.length + sumN a.length (fun i => Wt.w (nth a i)) = _; rw [sumN_zero (f := fun i => Wt.w (nth a i)) fun i _ => rfl]; rfl
 rw [hw]; exact sz_strl (by unfold I64; omega)
theorem s_RowSS (a : (List (List Row))) (left : Int) (h0 : 0 ≤ left) (h1 : left ≤ 1048576) (ok : Dp.ok a) : p_laws_szRowSS a left = some (cut left (Wt.w a)) := by
 have hm : a.length ≤ 9223372036854775807 := ok.1
 unfold p_laws_szRowSS
 refine sz_str (w2 := sumN a.length fun i => Wt.w (nth a i)) (by unfold I64; omega) fun hc => ?_
 rw [cut_lt] at hc; rw [← cut_pos hc]
 exact sz_loop (l := a) (by omega) (by omega) (fun k hk m m0 m1 => by
  unfold p_laws_szRowSS_b0
  simp only [dlt hk, cond_true, gd.yes (ixN hk), Int.toNat_natCast, s_RowS (nth a k) m m0 m1 (ok.2 k hk), bd_some, gd.yes (i64S hk hm)]
  by_cases hc : cut m (Wt.w (nth a k)) < 0 <;> simp [hc]) (fun m => by unfold p_laws_szRowSS_b0; simp)
theorem s_Part (a : Part) (left : Int) (h0 : 0 ≤ left) (h1 : left ≤ 1048576) (ok : Dp.ok a) : p_laws_szPart a left = some (cut left (Wt.w a)) := by
 have hw : Wt.w a = Wt.w a.1 + (Wt.w a.2) := by
  simp only [Wt.w]
  first | done | omega
 rw [hw]; unfold p_laws_szPart
 refine sz_step (s_IntS a.1 left h0 h1 ok.1) fun c0 => ?_
 exact sz_last (s_RowSS a.2 (cut left (Wt.w a.1)) (cut_nn c0) (cut_rng h1) ok.2)
theorem s_File (a : File) (left : Int) (h0 : 0 ≤ left) (h1 : left ≤ 1048576) (ok : Dp.ok a) : p_laws_szFile a left = some (cut left (Wt.w a)) := by
 have hw : Wt.w a = Wt.w a.2 := by
  simp only [Wt.w]
  first | done | omega
 rw [hw]; unfold p_laws_szFile
 exact sz_last (s_Part a.2 left h0 h1 ok.2)
theorem s_FileS (a : (List File)) (left : Int) (h0 : 0 ≤ left) (h1 : left ≤ 1048576) (ok : Dp.ok a) : p_laws_szFileS a left = some (cut left (Wt.w a)) := by
 have hm : a.length ≤ 9223372036854775807 := ok.1
 unfold p_laws_szFileS
 refine sz_str (w2 := sumN a.length fun i => Wt.w (nth a i)) (by unfold I64; omega) fun hc => ?_
 rw [cut_lt] at hc; rw [← cut_pos hc]
 exact sz_loop (l := a) (by omega) (by omega) (fun k hk m m0 m1 => by
  unfold p_laws_szFileS_b0
  simp only [dlt hk, cond_true, gd.yes (ixN hk), Int.toNat_natCast, s_File (nth a k) m m0 m1 (ok.2 k hk), bd_some, gd.yes (i64S hk hm)]
  by_cases hc : cut m (Wt.w (nth a k)) < 0 <;> simp [hc]) (fun m => by unfold p_laws_szFileS_b0; simp)
theorem s_Tag (a : Tag) (left : Int) (h0 : 0 ≤ left) (h1 : left ≤ 1048576) (_ : Dp.ok a) (so : So.so a) : p_laws_szTag a left = some (cut left (Wt.w a)) := by
 have hw : Wt.w a = Wt.w a.1 + (Wt.w a.2) := by
  simp only [Wt.w]
  first | done | omega
 rw [hw]; unfold p_laws_szTag
 have z0 : (a.1).size ≤ 9223372036854775807 := so.1
 have b0 : 0 ≤ left := h0; have d0 : left ≤ 1048576 := h1
 refine sz_str (by unfold I64; omega) fun c0 => ?_
 rw [show left - ((a.1).size : Int) = cut left (a.1).size from cut_pos (fun h => c0 (cut_lt.2 h))]
 have z1 : (a.2).size ≤ 9223372036854775807 := so.2
 have b1 : 0 ≤ cut left (a.1).size := (cut_nn c0); have d1 : cut left (a.1).size ≤ 1048576 := (cut_rng h1)
 exact sz_strl (by unfold I64; omega)
theorem s_TagS (a : (List Tag)) (left : Int) (h0 : 0 ≤ left) (h1 : left ≤ 1048576) (ok : Dp.ok a) (so : So.so a) : p_laws_szTagS a left = some (cut left (Wt.w a)) := by
 have hm : a.length ≤ 9223372036854775807 := ok.1
 unfold p_laws_szTagS
 refine sz_str (w2 := sumN a.length fun i => Wt.w (nth a i)) (by unfold I64; omega) fun hc => ?_
 rw [cut_lt] at hc; rw [← cut_pos hc]
 exact sz_loop (l := a) (by omega) (by omega) (fun k hk m m0 m1 => by
  unfold p_laws_szTagS_b0
  simp only [dlt hk, cond_true, gd.yes (ixN hk), Int.toNat_natCast, s_Tag (nth a k) m m0 m1 (ok.2 k hk) (so k hk), bd_some, gd.yes (i64S hk hm)]
  by_cases hc : cut m (Wt.w (nth a k)) < 0 <;> simp [hc]) (fun m => by unfold p_laws_szTagS_b0; simp)
theorem s_TagSS (a : (List (List Tag))) (left : Int) (h0 : 0 ≤ left) (h1 : left ≤ 1048576) (ok : Dp.ok a) (so : So.so a) : p_laws_szTagSS a left = some (cut left (Wt.w a)) := by
 have hm : a.length ≤ 9223372036854775807 := ok.1
 unfold p_laws_szTagSS
 refine sz_str (w2 := sumN a.length fun i => Wt.w (nth a i)) (by unfold I64; omega) fun hc => ?_
 rw [cut_lt] at hc; rw [← cut_pos hc]
 exact sz_loop (l := a) (by omega) (by omega) (fun k hk m m0 m1 => by
  unfold p_laws_szTagSS_b0
  simp only [dlt hk, cond_true, gd.yes (ixN hk), Int.toNat_natCast, s_TagS (nth a k) m m0 m1 (ok.2 k hk) (so k hk), bd_some, gd.yes (i64S hk hm)]
  by_cases hc : cut m (Wt.w (nth a k)) < 0 <;> simp [hc]) (fun m => by unfold p_laws_szTagSS_b0; simp)
theorem s_Disk (a : Disk) (left : Int) (h0 : 0 ≤ left) (h1 : left ≤ 1048576) (ok : Dp.ok a) (so : So.so a) : p_laws_szDisk a left = some (cut left (Wt.w a)) := by
 have hw : Wt.w a = Wt.w a.1 + (Wt.w a.2.1 + (Wt.w a.2.2.1)) := by
  simp only [Wt.w]
  first | done | omega
 rw [hw]; unfold p_laws_szDisk
 refine sz_step (s_FileS a.1 left h0 h1 ok.1) fun c0 => ?_
 refine sz_step (s_IntS a.2.1 (cut left (Wt.w a.1)) (cut_nn c0) (cut_rng h1) ok.2.1) fun c1 => ?_
 exact sz_last (s_TagSS a.2.2.1 (cut (cut left (Wt.w a.1)) (Wt.w a.2.1)) (cut_nn c1) (cut_rng (cut_rng h1)) ok.2.2.1 so.2.2.1)
theorem t_IntS (a : (List Int)) (_ : Dp.ok a) (hw : Wt.w a ≤ 1048576) : p_laws_toIntS a = some a := by
 have hm : a.length ≤ 1048576 := Nat.le_trans wL_le hw
 unfold p_laws_toIntS
 rw [gd.yes (by unfold many; omega)]
 simp only [Int.toNat_natCast]
 rw [to_loop (l := a) (by simp) (fun k hk r hr => by
  unfold p_laws_toIntS_b0
  have hk2 : k < r.length := by omega
  simp only [dlt hk, cond_true, gd.yes (ixN hk), gd.yes (ixN hk2), Int.toNat_natCast, gd.yes (i64S hk (by omega))]
  first | done | rfl) (fun r => by unfold p_laws_toIntS_b0; simp)]
 rfl
theorem t_Row (a : Row) (_ : Dp.ok a) (_ : Wt.w a ≤ 1048576) : p_laws_toRow a = some a := by
 unfold p_laws_toRow
 rfl
theorem t_RowS (a : (List Row)) (ok : Dp.ok a) (hw : Wt.w a ≤ 1048576) : p_laws_toRowS a = some a := by
 have hm : a.length ≤ 1048576 := Nat.le_trans wL_le hw
 unfold p_laws_toRowS
 rw [gd.yes (by unfold many; omega)]
 simp only [Int.toNat_natCast]
 rw [to_loop (l := a) (by simp) (fun k hk r hr => by
  unfold p_laws_toRowS_b0
  have hk2 : k < r.length := by omega
  simp only [dlt hk, cond_true, gd.yes (ixN hk), gd.yes (ixN hk2), Int.toNat_natCast, t_Row (nth a k) (ok.2 k hk) (Nat.le_trans (wL_el hk) hw), bd_some, gd.yes (i64S hk (by omega))]
  first | done | rfl) (fun r => by unfold p_laws_toRowS_b0; simp)]
 rfl
theorem t_RowSS (a : (List (List Row))) (ok : Dp.ok a) (hw : Wt.w a ≤ 1048576) : p_laws_toRowSS a = some a := by
 have hm : a.length ≤ 1048576 := Nat.le_trans wL_le hw
 unfold p_laws_toRowSS
 rw [gd.yes (by unfold many; omega)]
 simp only [Int.toNat_natCast]
 rw [to_loop (l := a) (by simp) (fun k hk r hr => by
  unfold p_laws_toRowSS_b0
  have hk2 : k < r.length := by omega
  simp only [dlt hk, cond_true, gd.yes (ixN hk), gd.yes (ixN hk2), Int.toNat_natCast, t_RowS (nth a k) (ok.2 k hk) (Nat.le_trans (wL_el hk) hw), bd_some, gd.yes (i64S hk (by omega))]
  first | done | rfl) (fun r => by unfold p_laws_toRowSS_b0; simp)]
 rfl
theorem t_Part (a : Part) (ok : Dp.ok a) (hw : Wt.w a ≤ 1048576) : p_laws_toPart a = some a := by
 unfold p_laws_toPart
 simp only [t_IntS a.1 ok.1 (by simp only [Wt.w] at hw ⊢; omega), t_RowSS a.2 ok.2 (by simp only [Wt.w] at hw ⊢; omega), bd_some]
theorem t_File (a : File) (ok : Dp.ok a) (hw : Wt.w a ≤ 1048576) : p_laws_toFile a = some a := by
 unfold p_laws_toFile
 simp only [t_Part a.2 ok.2 (by simp only [Wt.w] at hw ⊢; omega), bd_some]
theorem t_FileS (a : (List File)) (ok : Dp.ok a) (hw : Wt.w a ≤ 1048576) : p_laws_toFileS a = some a := by
 have hm : a.length ≤ 1048576 := Nat.le_trans wL_le hw
 unfold p_laws_toFileS
 rw [gd.yes (by unfold many; omega)]
 simp only [Int.toNat_natCast]
 rw [to_loop (l := a) (by simp) (fun k hk r hr => by
  unfold p_laws_toFileS_b0
  have hk2 : k < r.length := by omega
  simp only [dlt hk, cond_true, gd.yes (ixN hk), gd.yes (ixN hk2), Int.toNat_natCast, t_File (nth a k) (ok.2 k hk) (Nat.le_trans (wL_el hk) hw), bd_some, gd.yes (i64S hk (by omega))]
  first | done | rfl) (fun r => by unfold p_laws_toFileS_b0; simp)]
 rfl
theorem t_Tag (a : Tag) (_ : Dp.ok a) (_ : Wt.w a ≤ 1048576) : p_laws_toTag a = some a := by
 unfold p_laws_toTag
 rfl
theorem t_TagS (a : (List Tag)) (ok : Dp.ok a) (hw : Wt.w a ≤ 1048576) : p_laws_toTagS a = some a := by
 have hm : a.length ≤ 1048576 := Nat.le_trans wL_le hw
 unfold p_laws_toTagS
 rw [gd.yes (by unfold many; omega)]
 simp only [Int.toNat_natCast]
 rw [to_loop (l := a) (by simp) (fun k hk r hr => by
  unfold p_laws_toTagS_b0
  have hk2 : k < r.length := by omega
  simp only [dlt hk, cond_true, gd.yes (ixN hk), gd.yes (ixN hk2), Int.toNat_natCast, t_Tag (nth a k) (ok.2 k hk) (Nat.le_trans (wL_el hk) hw), bd_some, gd.yes (i64S hk (by omega))]
  first | done | rfl) (fun r => by unfold p_laws_toTagS_b0; simp)]
 rfl
theorem t_TagSS (a : (List (List Tag))) (ok : Dp.ok a) (hw : Wt.w a ≤ 1048576) : p_laws_toTagSS a = some a := by
 have hm : a.length ≤ 1048576 := Nat.le_trans wL_le hw
 unfold p_laws_toTagSS
 rw [gd.yes (by unfold many; omega)]
 simp only [Int.toNat_natCast]
 rw [to_loop (l := a) (by simp) (fun k hk r hr => by
  unfold p_laws_toTagSS_b0
  have hk2 : k < r.length := by omega
  simp only [dlt hk, cond_true, gd.yes (ixN hk), gd.yes (ixN hk2), Int.toNat_natCast, t_TagS (nth a k) (ok.2 k hk) (Nat.le_trans (wL_el hk) hw), bd_some, gd.yes (i64S hk (by omega))]
  first | done | rfl) (fun r => by unfold p_laws_toTagSS_b0; simp)]
 rfl
theorem t_Disk (a : Disk) (ok : Dp.ok a) (hw : Wt.w a ≤ 1048576) : p_laws_toDisk a = some a := by
 unfold p_laws_toDisk
 simp only [t_FileS a.1 ok.1 (by simp only [Wt.w] at hw ⊢; omega), t_IntS a.2.1 ok.2.1 (by simp only [Wt.w] at hw ⊢; omega), t_TagSS a.2.2.1 ok.2.2.1 (by simp only [Wt.w] at hw ⊢; omega), bd_some]
theorem q_IntS (a b : (List Int)) (ha : Dp.ok a) (_ : Dp.ok b) : p_laws_eqIntS a b = some (decide (a = b)) := by
 have hm : a.length ≤ 9223372036854775807 := ha.1
 unfold p_laws_eqIntS
 by_cases hl : a.length = b.length
 ·have hl2 : (a.length : Int) = (b.length : Int) := by omega
  simp only [hl2, decide_true, Bool.not_true, cond_false]
  refine eq_loop hl (fun k hk => ?_) ?_
  ·have hk2 : k < b.length := by omega
   unfold p_laws_eqIntS_b0
   simp only [dlt hk, cond_true, gd.yes (ixN hk), gd.yes (ixN hk2), Int.toNat_natCast, gd.yes (i64S hk hm)]
   by_cases h : nth a k = nth b k <;> simp [h]
  ·unfold p_laws_eqIntS_b0; simp
 ·have h2 : ¬ (a.length : Int) = (b.length : Int) := by omega
  have h3 : a ≠ b := fun e => hl (by rw [e])
  simp [h2, h3]
theorem q_Row (a b : Row) (_ : Dp.ok a) (hb : Dp.ok b) : p_laws_eqRow a b = some (decide (a = b)) := by
 have he : a = b ↔ a.1 = b.1 ∧ a.2 = b.2 := by
  constructor
  ·rintro rfl; simp
  ·rintro ⟨h0, h1⟩; exact Prod.ext h0 (h1)
 unfold p_laws_eqRow
 simp only [he]
 by_cases h0 : a.1 = b.1
 ·by_cases h1 : a.2 = b.2
  ·simp [h0, h1]
  ·simp [h0, h1]
 ·simp [h0]
theorem q_RowS (a b : (List Row)) (ha : Dp.ok a) (hb : Dp.ok b) : p_laws_eqRowS a b = some (decide (a = b)) := by
 have hm : a.length ≤ 9223372036854775807 := ha.1
 unfold p_laws_eqRowS
 by_cases hl : a.length = b.length
 ·have hl2 : (a.length : Int) = (b.length : Int) := by omega
  simp only [hl2, decide_true, Bool.not_true, cond_false]
  refine eq_loop hl (fun k hk => ?_) ?_
  ·have hk2 : k < b.length := by omega
   unfold p_laws_eqRowS_b0
   simp only [dlt hk, cond_true, gd.yes (ixN hk), gd.yes (ixN hk2), Int.toNat_natCast, q_Row (nth a k) (nth b k) (ha.2 k hk) (hb.2 k hk2), bd_some, gd.yes (i64S hk hm)]
   by_cases h : nth a k = nth b k <;> simp [h]
  ·unfold p_laws_eqRowS_b0; simp
 ·have h2 : ¬ (a.length : Int) = (b.length : Int) := by omega
  have h3 : a ≠ b := fun e => hl (by rw [e])
  simp [h2, h3]
theorem q_RowSS (a b : (List (List Row))) (ha : Dp.ok a) (hb : Dp.ok b) : p_laws_eqRowSS a b = some (decide (a = b)) := by
 have hm : a.length ≤ 9223372036854775807 := ha.1
 unfold p_laws_eqRowSS
 by_cases hl : a.length = b.length
 ·have hl2 : (a.length : Int) = (b.length : Int) := by omega
  simp only [hl2, decide_true, Bool.not_true, cond_false]
  refine eq_loop hl (fun k hk => ?_) ?_
  ·have hk2 : k < b.length := by omega
   unfold p_laws_eqRowSS_b0
   simp only [dlt hk, cond_true, gd.yes (ixN hk), gd.yes (ixN hk2), Int.toNat_natCast, q_RowS (nth a k) (nth b k) (ha.2 k hk) (hb.2 k hk2), bd_some, gd.yes (i64S hk hm)]
   by_cases h : nth a k = nth b k <;> simp [h]
  ·unfold p_laws_eqRowSS_b0; simp
 ·have h2 : ¬ (a.length : Int) = (b.length : Int) := by omega
  have h3 : a ≠ b := fun e => hl (by rw [e])
  simp [h2, h3]
theorem q_Part (a b : Part) (ha : Dp.ok a) (hb : Dp.ok b) : p_laws_eqPart a b = some (decide (a = b)) := by
 have he : a = b ↔ a.1 = b.1 ∧ a.2 = b.2 := by
  constructor
  ·rintro rfl; simp
  ·rintro ⟨h0, h1⟩; exact Prod.ext h0 (h1)
 unfold p_laws_eqPart
 simp only [q_IntS a.1 b.1 ha.1 hb.1, q_RowSS a.2 b.2 ha.2 hb.2, bd_some, he]
 by_cases h0 : a.1 = b.1
 ·by_cases h1 : a.2 = b.2
  ·simp [h0, h1]
  ·simp [h0, h1]
 ·simp [h0]
theorem q_File (a b : File) (ha : Dp.ok a) (hb : Dp.ok b) : p_laws_eqFile a b = some (decide (a = b)) := by
 have he : a = b ↔ a.1 = b.1 ∧ a.2 = b.2 := by
  constructor
  ·rintro rfl; simp
  ·rintro ⟨h0, h1⟩; exact Prod.ext h0 (h1)
 unfold p_laws_eqFile
 simp only [q_Part a.2 b.2 ha.2 hb.2, bd_some, he]
 by_cases h0 : a.1 = b.1
 ·by_cases h1 : a.2 = b.2
  ·simp [h0, h1]
  ·simp [h0, h1]
 ·simp [h0]
theorem q_FileS (a b : (List File)) (ha : Dp.ok a) (hb : Dp.ok b) : p_laws_eqFileS a b = some (decide (a = b)) := by
 have hm : a.length ≤ 9223372036854775807 := ha.1
 unfold p_laws_eqFileS
 by_cases hl : a.length = b.length
 ·have hl2 : (a.length : Int) = (b.length : Int) := by omega
  simp only [hl2, decide_true, Bool.not_true, cond_false]
  refine eq_loop hl (fun k hk => ?_) ?_
  ·have hk2 : k < b.length := by omega
   unfold p_laws_eqFileS_b0
   simp only [dlt hk, cond_true, gd.yes (ixN hk), gd.yes (ixN hk2), Int.toNat_natCast, q_File (nth a k) (nth b k) (ha.2 k hk) (hb.2 k hk2), bd_some, gd.yes (i64S hk hm)]
   by_cases h : nth a k = nth b k <;> simp [h]
  ·unfold p_laws_eqFileS_b0; simp
 ·have h2 : ¬ (a.length : Int) = (b.length : Int) := by omega
  have h3 : a ≠ b := fun e => hl (by rw [e])
  simp [h2, h3]
theorem q_Tag (a b : Tag) (_ : Dp.ok a) (hb : Dp.ok b) : p_laws_eqTag a b = some (decide (a = b)) := by
 have he : a = b ↔ a.1 = b.1 ∧ a.2 = b.2 := by
  constructor
  ·rintro rfl; simp
  ·rintro ⟨h0, h1⟩; exact Prod.ext h0 (h1)
 unfold p_laws_eqTag
 simp only [he]
 by_cases h0 : a.1 = b.1
 ·by_cases h1 : a.2 = b.2
  ·simp [h0, h1]
  ·simp [h0, h1]
 ·simp [h0]
theorem q_TagS (a b : (List Tag)) (ha : Dp.ok a) (hb : Dp.ok b) : p_laws_eqTagS a b = some (decide (a = b)) := by
 have hm : a.length ≤ 9223372036854775807 := ha.1
 unfold p_laws_eqTagS
 by_cases hl : a.length = b.length
 ·have hl2 : (a.length : Int) = (b.length : Int) := by omega
  simp only [hl2, decide_true, Bool.not_true, cond_false]
  refine eq_loop hl (fun k hk => ?_) ?_
  ·have hk2 : k < b.length := by omega
   unfold p_laws_eqTagS_b0
   simp only [dlt hk, cond_true, gd.yes (ixN hk), gd.yes (ixN hk2), Int.toNat_natCast, q_Tag (nth a k) (nth b k) (ha.2 k hk) (hb.2 k hk2), bd_some, gd.yes (i64S hk hm)]
   by_cases h : nth a k = nth b k <;> simp [h]
  ·unfold p_laws_eqTagS_b0; simp
 ·have h2 : ¬ (a.length : Int) = (b.length : Int) := by omega
  have h3 : a ≠ b := fun e => hl (by rw [e])
  simp [h2, h3]
theorem q_TagSS (a b : (List (List Tag))) (ha : Dp.ok a) (hb : Dp.ok b) : p_laws_eqTagSS a b = some (decide (a = b)) := by
 have hm : a.length ≤ 9223372036854775807 := ha.1
 unfold p_laws_eqTagSS
 by_cases hl : a.length = b.length
 ·have hl2 : (a.length : Int) = (b.length : Int) := by omega
  simp only [hl2, decide_true, Bool.not_true, cond_false]
  refine eq_loop hl (fun k hk => ?_) ?_
  ·have hk2 : k < b.length := by omega
   unfold p_laws_eqTagSS_b0
   simp only [dlt hk, cond_true, gd.yes (ixN hk), gd.yes (ixN hk2), Int.toNat_natCast, q_TagS (nth a k) (nth b k) (ha.2 k hk) (hb.2 k hk2), bd_some, gd.yes (i64S hk hm)]
   by_cases h : nth a k = nth b k <;> simp [h]
  ·unfold p_laws_eqTagSS_b0; simp
 ·have h2 : ¬ (a.length : Int) = (b.length : Int) := by omega
  have h3 : a ≠ b := fun e => hl (by rw [e])
  simp [h2, h3]
theorem q_Disk (a b : Disk) (ha : Dp.ok a) (hb : Dp.ok b) : p_laws_eqDisk a b = some (decide (a = b)) := by
 have he : a = b ↔ a.1 = b.1 ∧ a.2.1 = b.2.1 ∧ a.2.2.1 = b.2.2.1 ∧ a.2.2.2 = b.2.2.2 := by
  constructor
  ·rintro rfl; simp
  ·rintro ⟨h0, h1, h2, h3⟩; exact Prod.ext h0 (Prod.ext h1 (Prod.ext h2 (h3)))
 unfold p_laws_eqDisk
 simp only [q_FileS a.1 b.1 ha.1 hb.1, q_IntS a.2.1 b.2.1 ha.2.1 hb.2.1, q_TagSS a.2.2.1 b.2.2.1 ha.2.2.1 hb.2.2.1, bd_some, he]
 by_cases h0 : a.1 = b.1
 ·by_cases h1 : a.2.1 = b.2.1
  ·by_cases h2 : a.2.2.1 = b.2.2.1
   ·by_cases h3 : a.2.2.2 = b.2.2.2
    ·simp [h0, h1, h2, h3]
    ·simp [h0, h1, h2, h3]
   ·simp [h0, h1, h2]
  ·simp [h0, h1]
 ·simp [h0]
theorem q_Post (a b : Post) (ha : Dp.ok a) (hb : Dp.ok b) : p_laws_eqPost a b = some (decide (a = b)) := by
 have he : a = b ↔ a.1 = b.1 ∧ a.2 = b.2 := by
  constructor
  ·rintro rfl; simp
  ·rintro ⟨h0, h1⟩; exact Prod.ext h0 (h1)
 unfold p_laws_eqPost
 simp only [q_Tag a.1 b.1 ha.1 hb.1, q_IntS a.2 b.2 ha.2 hb.2, bd_some, he]
 by_cases h0 : a.1 = b.1
 ·by_cases h1 : a.2 = b.2
  ·simp [h0, h1]
  ·simp [h0, h1]
 ·simp [h0]
theorem q_PostS (a b : (List Post)) (ha : Dp.ok a) (hb : Dp.ok b) : p_laws_eqPostS a b = some (decide (a = b)) := by
 have hm : a.length ≤ 9223372036854775807 := ha.1
 unfold p_laws_eqPostS
 by_cases hl : a.length = b.length
 ·have hl2 : (a.length : Int) = (b.length : Int) := by omega
  simp only [hl2, decide_true, Bool.not_true, cond_false]
  refine eq_loop hl (fun k hk => ?_) ?_
  ·have hk2 : k < b.length := by omega
   unfold p_laws_eqPostS_b0
   simp only [dlt hk, cond_true, gd.yes (ixN hk), gd.yes (ixN hk2), Int.toNat_natCast, q_Post (nth a k) (nth b k) (ha.2 k hk) (hb.2 k hk2), bd_some, gd.yes (i64S hk hm)]
   by_cases h : nth a k = nth b k <;> simp [h]
  ·unfold p_laws_eqPostS_b0; simp
 ·have h2 : ¬ (a.length : Int) = (b.length : Int) := by omega
  have h3 : a ≠ b := fun e => hl (by rw [e])
  simp [h2, h3]
theorem q_Index (a b : Index) (ha : Dp.ok a) (hb : Dp.ok b) : p_laws_eqIndex a b = some (decide (a = b)) := by
 have he : a = b ↔ a.1 = b.1 ∧ a.2 = b.2 := by
  constructor
  ·rintro rfl; simp
  ·rintro ⟨h0, h1⟩; exact Prod.ext h0 (h1)
 unfold p_laws_eqIndex
 simp only [q_TagSS a.1 b.1 ha.1 hb.1, q_PostS a.2 b.2 ha.2 hb.2, bd_some, he]
 by_cases h0 : a.1 = b.1
 ·by_cases h1 : a.2 = b.2
  ·simp [h0, h1]
  ·simp [h0, h1]
 ·simp [h0]
theorem q_PartS (a b : (List Part)) (ha : Dp.ok a) (hb : Dp.ok b) : p_laws_eqPartS a b = some (decide (a = b)) := by
 have hm : a.length ≤ 9223372036854775807 := ha.1
 unfold p_laws_eqPartS
 by_cases hl : a.length = b.length
 ·have hl2 : (a.length : Int) = (b.length : Int) := by omega
  simp only [hl2, decide_true, Bool.not_true, cond_false]
  refine eq_loop hl (fun k hk => ?_) ?_
  ·have hk2 : k < b.length := by omega
   unfold p_laws_eqPartS_b0
   simp only [dlt hk, cond_true, gd.yes (ixN hk), gd.yes (ixN hk2), Int.toNat_natCast, q_Part (nth a k) (nth b k) (ha.2 k hk) (hb.2 k hk2), bd_some, gd.yes (i64S hk hm)]
   by_cases h : nth a k = nth b k <;> simp [h]
  ·unfold p_laws_eqPartS_b0; simp
 ·have h2 : ¬ (a.length : Int) = (b.length : Int) := by omega
  have h3 : a ≠ b := fun e => hl (by rw [e])
  simp [h2, h3]
theorem q_Sample (a b : Sample) (ha : Dp.ok a) (hb : Dp.ok b) : p_laws_eqSample a b = some (decide (a = b)) := by
 have he : a = b ↔ a.1 = b.1 ∧ a.2 = b.2 := by
  constructor
  ·rintro rfl; simp
  ·rintro ⟨h0, h1⟩; exact Prod.ext h0 (h1)
 unfold p_laws_eqSample
 simp only [q_Row a.2 b.2 ha.2 hb.2, bd_some, he]
 by_cases h0 : a.1 = b.1
 ·by_cases h1 : a.2 = b.2
  ·simp [h0, h1]
  ·simp [h0, h1]
 ·simp [h0]
theorem q_SampleS (a b : (List Sample)) (ha : Dp.ok a) (hb : Dp.ok b) : p_laws_eqSampleS a b = some (decide (a = b)) := by
 have hm : a.length ≤ 9223372036854775807 := ha.1
 unfold p_laws_eqSampleS
 by_cases hl : a.length = b.length
 ·have hl2 : (a.length : Int) = (b.length : Int) := by omega
  simp only [hl2, decide_true, Bool.not_true, cond_false]
  refine eq_loop hl (fun k hk => ?_) ?_
  ·have hk2 : k < b.length := by omega
   unfold p_laws_eqSampleS_b0
   simp only [dlt hk, cond_true, gd.yes (ixN hk), gd.yes (ixN hk2), Int.toNat_natCast, q_Sample (nth a k) (nth b k) (ha.2 k hk) (hb.2 k hk2), bd_some, gd.yes (i64S hk hm)]
   by_cases h : nth a k = nth b k <;> simp [h]
  ·unfold p_laws_eqSampleS_b0; simp
 ·have h2 : ¬ (a.length : Int) = (b.length : Int) := by omega
  have h3 : a ≠ b := fun e => hl (by rw [e])
  simp [h2, h3]
theorem q_Store (a b : Store) (ha : Dp.ok a) (hb : Dp.ok b) : p_laws_eqStore a b = some (decide (a = b)) := by
 have he : a = b ↔ a.1 = b.1 ∧ a.2.1 = b.2.1 ∧ a.2.2 = b.2.2 := by
  constructor
  ·rintro rfl; simp
  ·rintro ⟨h0, h1, h2⟩; exact Prod.ext h0 (Prod.ext h1 (h2))
 unfold p_laws_eqStore
 simp only [q_Index a.1 b.1 ha.1 hb.1, q_PartS a.2.1 b.2.1 ha.2.1 hb.2.1, q_SampleS a.2.2 b.2.2 ha.2.2 hb.2.2, bd_some, he]
 by_cases h0 : a.1 = b.1
 ·by_cases h1 : a.2.1 = b.2.1
  ·by_cases h2 : a.2.2 = b.2.2
   ·simp [h0, h1, h2]
   ·simp [h0, h1, h2]
  ·simp [h0, h1]
 ·simp [h0]
theorem m_IntS (a : (List Int)) (k : Int) (h0 : 0 ≤ k) (hB : k + (Ct.ct a : Nat) ≤ 1152921504606846976) (ok : Dp.ok a) : MkR p_laws_markIntS p_laws_heldIntS a k := by
 have hm : a.length ≤ 9223372036854775807 := ok.1
 obtain ⟨k1, r, e1, e2, e3, e4, e5⟩ := mark_loop (l := a) (B := 1152921504606846976) (bm := p_laws_markIntS_b0 a) (bh := fun r => p_laws_heldIntS_b0 r) (fun i hi r hr hn k h0 hB => by
  have hi2 : i < r.length := by omega
  have hc : Ct.ct (nth a i) = 1 := rfl
  have g1 : I64 (k + 1) := i64B (by omega) (by omega)
  refine ⟨k, k + 1, ?_, by omega, by omega, fun r' hr' hu => ?_⟩
  ·unfold p_laws_markIntS_b0
   simp only [dlt hi, cond_true, Int.toNat_natCast, gd.yes (ixN hi2), gd.yes g1, gd.yes (i64S hi hm)]
   first | done | rfl
  ·have hi3 : i < r'.length := by omega
   unfold p_laws_heldIntS_b0
   simp [hi3, gd.yes (ixN hi3), hu, gd.yes g1, gd.yes (i64S hi hm)])
  (fun r k hr => by unfold p_laws_markIntS_b0; simp) (fun r k hr => by unfold p_laws_heldIntS_b0; simp [hr]) h0 hB
 refine ⟨k1, r, ?_, e3, e4, ?_⟩
 ·unfold p_laws_markIntS; rw [e1]; rfl
 ·unfold p_laws_heldIntS; rw [e5]; rfl
theorem m_RowS (a : (List Row)) (k : Int) (h0 : 0 ≤ k) (hB : k + (Ct.ct a : Nat) ≤ 1152921504606846976) (ok : Dp.ok a) : MkR p_laws_markRowS p_laws_heldRowS a k := by
 have hm : a.length ≤ 9223372036854775807 := ok.1
 obtain ⟨k1, r, e1, e2, e3, e4, e5⟩ := mark_loop (l := a) (B := 1152921504606846976) (bm := p_laws_markRowS_b0 a) (bh := fun r => p_laws_heldRowS_b0 r) (fun i hi r hr hn k h0 hB => by
  have hi2 : i < r.length := by omega
  have hc : Ct.ct (nth a i) = 1 + (1) := rfl
  have g1 : I64 (k + 1) := i64B (by omega) (by omega)
  have g2 : I64 ((k + 1) + 1) := i64B (by omega) (by omega)
  refine ⟨(k, k + 1), (k + 1) + 1, ?_, by omega, by omega, fun r' hr' hu => ?_⟩
  ·unfold p_laws_markRowS_b0
   simp only [dlt hi, cond_true, Int.toNat_natCast, gd.yes (ixN hi2), gd.yes g1, gd.yes g2, gd.yes (i64S hi hm)]
   first | done | rfl
  ·have hi3 : i < r'.length := by omega
   unfold p_laws_heldRowS_b0
   simp [hi3, gd.yes (ixN hi3), hu, gd.yes g1, gd.yes g2, gd.yes (i64S hi hm)])
  (fun r k hr => by unfold p_laws_markRowS_b0; simp) (fun r k hr => by unfold p_laws_heldRowS_b0; simp [hr]) h0 hB
 refine ⟨k1, r, ?_, e3, e4, ?_⟩
 ·unfold p_laws_markRowS; rw [e1]; rfl
 ·unfold p_laws_heldRowS; rw [e5]; rfl
theorem m_RowSS (a : (List (List Row))) (k : Int) (h0 : 0 ≤ k) (hB : k + (Ct.ct a : Nat) ≤ 1152921504606846976) (ok : Dp.ok a) : MkR p_laws_markRowSS p_laws_heldRowSS a k := by
 have hm : a.length ≤ 9223372036854775807 := ok.1
 obtain ⟨k1, r, e1, e2, e3, e4, e5⟩ := mark_loop (l := a) (B := 1152921504606846976) (bm := p_laws_markRowSS_b0 a) (bh := fun r => p_laws_heldRowSS_b0 r) (fun i hi r hr hn k h0 hB => by
  have hi2 : i < r.length := by omega
  have hc : Ct.ct (nth a i) = Ct.ct (nth a i) := rfl
  obtain ⟨c1, s1, x1, y1, z1, w1⟩ := m_RowS (nth a i) (k) (by omega) (by omega) (ok.2 i hi)
  have q1 : ¬ c1 < 0 := by omega
  refine ⟨s1, c1, ?_, by omega, by omega, fun r' hr' hu => ?_⟩
  ·unfold p_laws_markRowSS_b0
   simp only [dlt hi, cond_true, Int.toNat_natCast, gd.yes (ixN hi2), hn, x1, bd_some, gd.yes (i64S hi hm)]
   first | done | rfl
  ·have hi3 : i < r'.length := by omega
   unfold p_laws_heldRowSS_b0
   simp [hi3, gd.yes (ixN hi3), hu, w1, q1, gd.yes (i64S hi hm)])
  (fun r k hr => by unfold p_laws_markRowSS_b0; simp) (fun r k hr => by unfold p_laws_heldRowSS_b0; simp [hr]) h0 hB
 refine ⟨k1, r, ?_, e3, e4, ?_⟩
 ·unfold p_laws_markRowSS; rw [e1]; rfl
 ·unfold p_laws_heldRowSS; rw [e5]; rfl
theorem m_FileS (a : (List File)) (k : Int) (h0 : 0 ≤ k) (hB : k + (Ct.ct a : Nat) ≤ 1152921504606846976) (ok : Dp.ok a) : MkR p_laws_markFileS p_laws_heldFileS a k := by
 have hm : a.length ≤ 9223372036854775807 := ok.1
 obtain ⟨k1, r, e1, e2, e3, e4, e5⟩ := mark_loop (l := a) (B := 1152921504606846976) (bm := p_laws_markFileS_b0 a) (bh := fun r => p_laws_heldFileS_b0 r) (fun i hi r hr hn k h0 hB => by
  have hi2 : i < r.length := by omega
  have hc : Ct.ct (nth a i) = 1 + ((Ct.ct (((nth a i).2).1)) + (Ct.ct (((nth a i).2).2))) := rfl
  have g1 : I64 (k + 1) := i64B (by omega) (by omega)
  obtain ⟨c1, s1, x1, y1, z1, w1⟩ := m_IntS (((nth a i).2).1) (k + 1) (by omega) (by omega) (ok.2 i hi).2.1
  have q1 : ¬ c1 < 0 := by omega
  obtain ⟨c2, s2, x2, y2, z2, w2⟩ := m_RowSS (((nth a i).2).2) (c1) (by omega) (by omega) (ok.2 i hi).2.2
  have q2 : ¬ c2 < 0 := by omega
  refine ⟨(k, (s1, s2)), c2, ?_, by omega, by omega, fun r' hr' hu => ?_⟩
  ·unfold p_laws_markFileS_b0
   simp only [dlt hi, cond_true, Int.toNat_natCast, gd.yes (ixN hi2), hn, gd.yes g1, x1, x2, bd_some, gd.yes (i64S hi hm)]
   first | done | rfl
  ·have hi3 : i < r'.length := by omega
   unfold p_laws_heldFileS_b0
   simp [hi3, gd.yes (ixN hi3), hu, gd.yes g1, w1, q1, w2, q2, gd.yes (i64S hi hm)])
  (fun r k hr => by unfold p_laws_markFileS_b0; simp) (fun r k hr => by unfold p_laws_heldFileS_b0; simp [hr]) h0 hB
 refine ⟨k1, r, ?_, e3, e4, ?_⟩
 ·unfold p_laws_markFileS; rw [e1]; rfl
 ·unfold p_laws_heldFileS; rw [e5]; rfl
theorem m_TagS (a : (List Tag)) (k : Int) (h0 : 0 ≤ k) (hB : k + (Ct.ct a : Nat) ≤ 1152921504606846976) (ok : Dp.ok a) : MkR p_laws_markTagS p_laws_heldTagS a k := by
 have hm : a.length ≤ 9223372036854775807 := ok.1
 obtain ⟨k1, r, e1, e2, e3, e4, e5⟩ := mark_loop (l := a) (B := 1152921504606846976) (bm := p_laws_markTagS_b0 a) (bh := fun r => p_laws_heldTagS_b0 r) (fun i hi r hr hn k h0 hB => by
  have hi2 : i < r.length := by omega
  have hc : Ct.ct (nth a i) = 1 + (1) := rfl
  obtain ⟨t0, ht0⟩ := mt_total (k) (by omega) (by omega)
  have g1 : I64 (k + 1) := i64B (by omega) (by omega)
  obtain ⟨t1, ht1⟩ := mt_total (k + 1) (by omega) (by omega)
  have g2 : I64 ((k + 1) + 1) := i64B (by omega) (by omega)
  refine ⟨(t0, t1), (k + 1) + 1, ?_, by omega, by omega, fun r' hr' hu => ?_⟩
  ·unfold p_laws_markTagS_b0
   simp only [dlt hi, cond_true, Int.toNat_natCast, gd.yes (ixN hi2), ht0, gd.yes g1, ht1, gd.yes g2, bd_some, gd.yes (i64S hi hm)]
   first | done | rfl
  ·have hi3 : i < r'.length := by omega
   unfold p_laws_heldTagS_b0
   simp [hi3, gd.yes (ixN hi3), hu, ht0, gd.yes g1, ht1, gd.yes g2, gd.yes (i64S hi hm)])
  (fun r k hr => by unfold p_laws_markTagS_b0; simp) (fun r k hr => by unfold p_laws_heldTagS_b0; simp [hr]) h0 hB
 refine ⟨k1, r, ?_, e3, e4, ?_⟩
 ·unfold p_laws_markTagS; rw [e1]; rfl
 ·unfold p_laws_heldTagS; rw [e5]; rfl
theorem m_TagSS (a : (List (List Tag))) (k : Int) (h0 : 0 ≤ k) (hB : k + (Ct.ct a : Nat) ≤ 1152921504606846976) (ok : Dp.ok a) : MkR p_laws_markTagSS p_laws_heldTagSS a k := by
 have hm : a.length ≤ 9223372036854775807 := ok.1
 obtain ⟨k1, r, e1, e2, e3, e4, e5⟩ := mark_loop (l := a) (B := 1152921504606846976) (bm := p_laws_markTagSS_b0 a) (bh := fun r => p_laws_heldTagSS_b0 r) (fun i hi r hr hn k h0 hB => by
  have hi2 : i < r.length := by omega
  have hc : Ct.ct (nth a i) = Ct.ct (nth a i) := rfl
  obtain ⟨c1, s1, x1, y1, z1, w1⟩ := m_TagS (nth a i) (k) (by omega) (by omega) (ok.2 i hi)
  have q1 : ¬ c1 < 0 := by omega
  refine ⟨s1, c1, ?_, by omega, by omega, fun r' hr' hu => ?_⟩
  ·unfold p_laws_markTagSS_b0
   simp only [dlt hi, cond_true, Int.toNat_natCast, gd.yes (ixN hi2), hn, x1, bd_some, gd.yes (i64S hi hm)]
   first | done | rfl
  ·have hi3 : i < r'.length := by omega
   unfold p_laws_heldTagSS_b0
   simp [hi3, gd.yes (ixN hi3), hu, w1, q1, gd.yes (i64S hi hm)])
  (fun r k hr => by unfold p_laws_markTagSS_b0; simp) (fun r k hr => by unfold p_laws_heldTagSS_b0; simp [hr]) h0 hB
 refine ⟨k1, r, ?_, e3, e4, ?_⟩
 ·unfold p_laws_markTagSS; rw [e1]; rfl
 ·unfold p_laws_heldTagSS; rw [e5]; rfl
theorem m_Disk (a : Disk) (k : Int) (h0 : 0 ≤ k) (hB : k + (Ct.ct a : Nat) ≤ 1152921504606846976) (ok : Dp.ok a) : MkR p_laws_markDisk p_laws_heldDisk a k := by
 have hc : Ct.ct a = Ct.ct a.1 + (Ct.ct a.2.1 + (Ct.ct a.2.2.1 + (1))) := rfl
 obtain ⟨k1, r1, e1, l1, u1, f1⟩ := m_FileS a.1 k (by omega) (by omega) ok.1
 have q1 : ¬ k1 < 0 := by omega
 obtain ⟨k2, r2, e2, l2, u2, f2⟩ := m_IntS a.2.1 k1 (by omega) (by omega) ok.2.1
 have q2 : ¬ k2 < 0 := by omega
 obtain ⟨k3, r3, e3, l3, u3, f3⟩ := m_TagSS a.2.2.1 k2 (by omega) (by omega) ok.2.2.1
 have q3 : ¬ k3 < 0 := by omega
 refine ⟨k3, (r1, r2, r3, a.2.2.2), ?_, by omega, by omega, ?_⟩
 ·unfold p_laws_markDisk; simp only [e1, e2, e3, bd_some]
 ·unfold p_laws_heldDisk; simp [f1, q1, f2, q2, f3, q3]
theorem m_PostS (a : (List Post)) (k : Int) (h0 : 0 ≤ k) (hB : k + (Ct.ct a : Nat) ≤ 1152921504606846976) (ok : Dp.ok a) : MkR p_laws_markPostS p_laws_heldPostS a k := by
 have hm : a.length ≤ 9223372036854775807 := ok.1
 obtain ⟨k1, r, e1, e2, e3, e4, e5⟩ := mark_loop (l := a) (B := 1152921504606846976) (bm := p_laws_markPostS_b0 a) (bh := fun r => p_laws_heldPostS_b0 r) (fun i hi r hr hn k h0 hB => by
  have hi2 : i < r.length := by omega
  have hc : Ct.ct (nth a i) = (1 + (1)) + (Ct.ct ((nth a i).2)) := rfl
  obtain ⟨t0, ht0⟩ := mt_total (k) (by omega) (by omega)
  have g1 : I64 (k + 1) := i64B (by omega) (by omega)
  obtain ⟨t1, ht1⟩ := mt_total (k + 1) (by omega) (by omega)
  have g2 : I64 ((k + 1) + 1) := i64B (by omega) (by omega)
  obtain ⟨c1, s1, x1, y1, z1, w1⟩ := m_IntS ((nth a i).2) ((k + 1) + 1) (by omega) (by omega) (ok.2 i hi).2
  have q1 : ¬ c1 < 0 := by omega
  refine ⟨((t0, t1), s1), c1, ?_, by omega, by omega, fun r' hr' hu => ?_⟩
  ·unfold p_laws_markPostS_b0
   simp only [dlt hi, cond_true, Int.toNat_natCast, gd.yes (ixN hi2), hn, ht0, gd.yes g1, ht1, gd.yes g2, x1, bd_some, gd.yes (i64S hi hm)]
   first | done | rfl
  ·have hi3 : i < r'.length := by omega
   unfold p_laws_heldPostS_b0
   simp [hi3, gd.yes (ixN hi3), hu, ht0, gd.yes g1, ht1, gd.yes g2, w1, q1, gd.yes (i64S hi hm)])
  (fun r k hr => by unfold p_laws_markPostS_b0; simp) (fun r k hr => by unfold p_laws_heldPostS_b0; simp [hr]) h0 hB
 refine ⟨k1, r, ?_, e3, e4, ?_⟩
 ·unfold p_laws_markPostS; rw [e1]; rfl
 ·unfold p_laws_heldPostS; rw [e5]; rfl
theorem m_Index (a : Index) (k : Int) (h0 : 0 ≤ k) (hB : k + (Ct.ct a : Nat) ≤ 1152921504606846976) (ok : Dp.ok a) : MkR p_laws_markIndex p_laws_heldIndex a k := by
 have hc : Ct.ct a = Ct.ct a.1 + (Ct.ct a.2) := rfl
 obtain ⟨k1, r1, e1, l1, u1, f1⟩ := m_TagSS a.1 k (by omega) (by omega) ok.1
 have q1 : ¬ k1 < 0 := by omega
 obtain ⟨k2, r2, e2, l2, u2, f2⟩ := m_PostS a.2 k1 (by omega) (by omega) ok.2
 have q2 : ¬ k2 < 0 := by omega
 refine ⟨k2, (r1, r2), ?_, by omega, by omega, ?_⟩
 ·unfold p_laws_markIndex; simp only [e1, e2, bd_some]
 ·unfold p_laws_heldIndex; simp [f1, q1, f2, q2]
theorem m_PartS (a : (List Part)) (k : Int) (h0 : 0 ≤ k) (hB : k + (Ct.ct a : Nat) ≤ 1152921504606846976) (ok : Dp.ok a) : MkR p_laws_markPartS p_laws_heldPartS a k := by
 have hm : a.length ≤ 9223372036854775807 := ok.1
 obtain ⟨k1, r, e1, e2, e3, e4, e5⟩ := mark_loop (l := a) (B := 1152921504606846976) (bm := p_laws_markPartS_b0 a) (bh := fun r => p_laws_heldPartS_b0 r) (fun i hi r hr hn k h0 hB => by
  have hi2 : i < r.length := by omega
  have hc : Ct.ct (nth a i) = (Ct.ct ((nth a i).1)) + (Ct.ct ((nth a i).2)) := rfl
  obtain ⟨c1, s1, x1, y1, z1, w1⟩ := m_IntS ((nth a i).1) (k) (by omega) (by omega) (ok.2 i hi).1
  have q1 : ¬ c1 < 0 := by omega
  obtain ⟨c2, s2, x2, y2, z2, w2⟩ := m_RowSS ((nth a i).2) (c1) (by omega) (by omega) (ok.2 i hi).2
  have q2 : ¬ c2 < 0 := by omega
  refine ⟨(s1, s2), c2, ?_, by omega, by omega, fun r' hr' hu => ?_⟩
  ·unfold p_laws_markPartS_b0
   simp only [dlt hi, cond_true, Int.toNat_natCast, gd.yes (ixN hi2), hn, x1, x2, bd_some, gd.yes (i64S hi hm)]
   first | done | rfl
  ·have hi3 : i < r'.length := by omega
   unfold p_laws_heldPartS_b0
   simp [hi3, gd.yes (ixN hi3), hu, w1, q1, w2, q2, gd.yes (i64S hi hm)])
  (fun r k hr => by unfold p_laws_markPartS_b0; simp) (fun r k hr => by unfold p_laws_heldPartS_b0; simp [hr]) h0 hB
 refine ⟨k1, r, ?_, e3, e4, ?_⟩
 ·unfold p_laws_markPartS; rw [e1]; rfl
 ·unfold p_laws_heldPartS; rw [e5]; rfl
theorem m_SampleS (a : (List Sample)) (k : Int) (h0 : 0 ≤ k) (hB : k + (Ct.ct a : Nat) ≤ 1152921504606846976) (ok : Dp.ok a) : MkR p_laws_markSampleS p_laws_heldSampleS a k := by
 have hm : a.length ≤ 9223372036854775807 := ok.1
 obtain ⟨k1, r, e1, e2, e3, e4, e5⟩ := mark_loop (l := a) (B := 1152921504606846976) (bm := p_laws_markSampleS_b0 a) (bh := fun r => p_laws_heldSampleS_b0 r) (fun i hi r hr hn k h0 hB => by
  have hi2 : i < r.length := by omega
  have hc : Ct.ct (nth a i) = 1 + (1 + (1)) := rfl
  have g1 : I64 (k + 1) := i64B (by omega) (by omega)
  have g2 : I64 ((k + 1) + 1) := i64B (by omega) (by omega)
  have g3 : I64 (((k + 1) + 1) + 1) := i64B (by omega) (by omega)
  refine ⟨(k, (k + 1, (k + 1) + 1)), ((k + 1) + 1) + 1, ?_, by omega, by omega, fun r' hr' hu => ?_⟩
  ·unfold p_laws_markSampleS_b0
   simp only [dlt hi, cond_true, Int.toNat_natCast, gd.yes (ixN hi2), gd.yes g1, gd.yes g2, gd.yes g3, gd.yes (i64S hi hm)]
   first | done | rfl
  ·have hi3 : i < r'.length := by omega
   unfold p_laws_heldSampleS_b0
   simp [hi3, gd.yes (ixN hi3), hu, gd.yes g1, gd.yes g2, gd.yes g3, gd.yes (i64S hi hm)])
  (fun r k hr => by unfold p_laws_markSampleS_b0; simp) (fun r k hr => by unfold p_laws_heldSampleS_b0; simp [hr]) h0 hB
 refine ⟨k1, r, ?_, e3, e4, ?_⟩
 ·unfold p_laws_markSampleS; rw [e1]; rfl
 ·unfold p_laws_heldSampleS; rw [e5]; rfl
theorem m_Store (a : Store) (k : Int) (h0 : 0 ≤ k) (hB : k + (Ct.ct a : Nat) ≤ 1152921504606846976) (ok : Dp.ok a) : MkR p_laws_markStore p_laws_heldStore a k := by
 have hc : Ct.ct a = Ct.ct a.1 + (Ct.ct a.2.1 + (Ct.ct a.2.2)) := rfl
 obtain ⟨k1, r1, e1, l1, u1, f1⟩ := m_Index a.1 k (by omega) (by omega) ok.1
 have q1 : ¬ k1 < 0 := by omega
 obtain ⟨k2, r2, e2, l2, u2, f2⟩ := m_PartS a.2.1 k1 (by omega) (by omega) ok.2.1
 have q2 : ¬ k2 < 0 := by omega
 obtain ⟨k3, r3, e3, l3, u3, f3⟩ := m_SampleS a.2.2 k2 (by omega) (by omega) ok.2.2
 have q3 : ¬ k3 < 0 := by omega
 refine ⟨k3, (r1, r2, r3), ?_, by omega, by omega, ?_⟩
 ·unfold p_laws_markStore; simp only [e1, e2, e3, bd_some]
 ·unfold p_laws_heldStore; simp [f1, q1, f2, q2, f3, q3]
def inn (lo n hi : Int) : Bool := decide (lo ≤ n) && decide (n ≤ hi)
theorem e_impl_within (n lo hi : Int) : p_impl_within n lo hi = some (inn lo n hi) := by
 unfold p_impl_within inn; cases decide (lo ≤ n) <;> rfl
theorem e_spec_l6In (n lo hi : Int) : p_spec_l6In n lo hi = some (inn lo n hi) := by
 unfold p_spec_l6In inn; cases decide (lo ≤ n) <;> rfl
def rowOk (r : Row) : Bool := inn 0 r.1 99 && inn (-99) r.2 99
theorem e_impl_rowOk (r : Row) : p_impl_rowOk r = some (rowOk r) := by
 unfold p_impl_rowOk rowOk; simp only [e_impl_within, bd_some]; cases inn 0 r.1 99 <;> rfl
theorem e_spec_l2Row (r : Row) : p_spec_l2Row r = some (rowOk r) := by
 unfold p_spec_l2Row rowOk; simp only [e_spec_l6In, bd_some]; cases inn 0 r.1 99 <;> rfl
def rowBad (b : List Row) (k : Nat) : Bool := !rowOk (nth b k) || (decide (0 < k) && decide ((nth b k).1 ≤ (nth b (k - 1)).1))
def blockOk (b : List Row) : Bool := allN b.length (rowBad b) && decide ((b.length : Int) ≤ 24)
theorem e_impl_BlockOk (b : List Row) (hb : b.length ≤ maxLen) : p_impl_BlockOk b = some (blockOk b) := by
 have hb' : b.length ≤ 9223372036854775807 := hb
 have hr : ∀ k, k < b.length → p_impl_BlockOk_b0 b (k : Int) = some (if rowBad b k then .inr (.inr false) else .inl ((k + 1 : Nat) : Int)) := fun k hk => by
  unfold p_impl_BlockOk_b0 rowBad
  simp only [dlt hk, cond_true, gd.yes (ixN hk), e_impl_rowOk, bd_some, Int.toNat_natCast, gd.yes (i64S hk hb')]
  cases h1 : rowOk (nth b k) with
  | false => simp
  | true =>
   simp only [Bool.not_true, cond_false, Bool.false_or]
   by_cases h0 : 0 < k
   ·have h0' : (0 : Int) < k := by omega
    have e1 : (k : Int) - 1 = ((k - 1 : Nat) : Int) := by omega
    have hi : I64 ((k - 1 : Nat) : Int) := by unfold I64; omega
    simp only [h0, h0', decide_true, cond_true, e1, gd.yes hi, gd.yes (ixN (show k - 1 < b.length by omega)), Int.toNat_natCast, bd_some, Bool.true_and]
    cases decide ((nth b k).1 ≤ (nth b (k - 1)).1) <;> simp
   ·have h0' : ¬ (0 : Int) < k := by omega
    simp [h0]
 unfold p_impl_BlockOk blockOk
 rcases lp_scan (body := p_impl_BlockOk_b0 b) (fun k => (k : Int)) b.length (rowBad b) (.inl ()) (fun _ => .inr false) (fun k hk _ h => by simp [hr k hk, h]) (fun k hk _ h => by simp [hr k hk, h]) (fun _ => by unfold p_impl_BlockOk_b0; simp) with ⟨h1, h2⟩ | ⟨h1, k, _, _, _, h2⟩
 ·rw [show (lp (p_impl_BlockOk_b0 b) 0) = _ from h2, h1]; simp [sw]
 ·rw [show (lp (p_impl_BlockOk_b0 b) 0) = _ from h2, h1]; simp [sw]
theorem e_spec_BlockOk (b : List Row) (hb : b.length ≤ maxLen) : p_spec_BlockOk b = some (blockOk b) := by
 have hb' : b.length ≤ 9223372036854775807 := hb
 have hr : ∀ k, k < b.length → p_spec_BlockOk_b0 b (k : Int) = some (if rowBad b k then .inr (.inr false) else .inl ((k + 1 : Nat) : Int)) := fun k hk => by
  unfold p_spec_BlockOk_b0 rowBad
  simp only [dlt hk, cond_true, gd.yes (ixN hk), e_spec_l2Row, bd_some, Int.toNat_natCast, gd.yes (i64S hk hb')]
  cases h1 : rowOk (nth b k) with
  | false => simp
  | true =>
   simp only [Bool.not_true, cond_false, Bool.false_or]
   by_cases h0 : 0 < k
   ·have h0' : (0 : Int) < k := by omega
    have e1 : (k : Int) - 1 = ((k - 1 : Nat) : Int) := by omega
    have hi : I64 ((k - 1 : Nat) : Int) := by unfold I64; omega
    simp only [h0, h0', decide_true, cond_true, e1, gd.yes hi, gd.yes (ixN (show k - 1 < b.length by omega)), Int.toNat_natCast, bd_some, Bool.true_and]
    cases decide ((nth b k).1 ≤ (nth b (k - 1)).1) <;> simp
   ·simp [h0]
 unfold p_spec_BlockOk blockOk
 rcases lp_scan (body := p_spec_BlockOk_b0 b) (fun k => (k : Int)) b.length (rowBad b) (.inl ()) (fun _ => .inr false) (fun k hk _ h => by simp [hr k hk, h]) (fun k hk _ h => by simp [hr k hk, h]) (fun _ => by unfold p_spec_BlockOk_b0; simp) with ⟨h1, h2⟩ | ⟨h1, k, _, _, _, h2⟩
 ·rw [show (lp (p_spec_BlockOk_b0 b) 0) = _ from h2, h1]; simp [sw]
 ·rw [show (lp (p_spec_BlockOk_b0 b) 0) = _ from h2, h1]; simp [sw]
def partBad (p : Part) (k : Nat) : Bool := ((!inn 1 (nth p.1 k) 6 || (decide (0 < k) && decide (nth p.1 k ≤ nth p.1 (k - 1)))) || !blockOk (nth p.2 k)) || decide ((nth p.2 k).length = 0)
def partOk (p : Part) : Bool := decide (p.1.length = p.2.length) && allN p.1.length (partBad p)
theorem e_impl_PartOk (p : Part) (hp : Dp.ok p) : p_impl_PartOk p = some (partOk p) := by
 obtain ⟨⟨hp1, _⟩, _, hp2⟩ := hp
 have hp1 : p.1.length ≤ 9223372036854775807 := hp1
 unfold p_impl_PartOk partOk
 by_cases hl : p.1.length = p.2.length
 ·have hr : ∀ k, k < p.1.length → p_impl_PartOk_b0 p (k : Int) = some (if partBad p k then .inr (.inr false) else .inl ((k + 1 : Nat) : Int)) := fun k hk => by
   have hk2 : k < p.2.length := by omega
   unfold p_impl_PartOk_b0 partBad
   simp only [dlt hk, cond_true, gd.yes (ixN hk), gd.yes (ixN hk2), e_impl_within, e_impl_BlockOk _ (hp2 k hk2).1, bd_some, Int.toNat_natCast, gd.yes (i64S hk hp1)]
   cases h1 : inn 1 (nth p.1 k) 6 with
   | false => simp
   | true =>
    by_cases h0 : 0 < k
    ·have h0' : (0 : Int) < k := by omega
     have e1 : (k : Int) - 1 = ((k - 1 : Nat) : Int) := by omega
     have hi : I64 ((k - 1 : Nat) : Int) := by unfold I64; omega
     simp only [h0, h0', decide_true, cond_true, e1, gd.yes hi, gd.yes (ixN (show k - 1 < p.1.length by omega)), Int.toNat_natCast, Bool.true_and, Bool.not_true, cond_false, Bool.false_or]
     cases decide (nth p.1 k ≤ nth p.1 (k - 1)) <;> cases blockOk (nth p.2 k) <;> cases h9 : decide ((nth p.2 k).length = 0) <;> simp_all
    ·simp only [h0, Bool.not_true, cond_false, Bool.false_or, decide_false, Bool.false_and]
     cases blockOk (nth p.2 k) <;> cases h9 : decide ((nth p.2 k).length = 0) <;> simp_all
  rcases lp_scan (body := p_impl_PartOk_b0 p) (fun k => (k : Int)) p.1.length (partBad p) (.inl ()) (fun _ => .inr false) (fun k hk _ h => by simp [hr k hk, h]) (fun k hk _ h => by simp [hr k hk, h]) (fun _ => by unfold p_impl_PartOk_b0; simp) with ⟨h1, h2⟩ | ⟨h1, k, _, _, _, h2⟩
  ·rw [show (lp (p_impl_PartOk_b0 p) 0) = _ from h2, h1]; simp [sw, hl]
  ·rw [show (lp (p_impl_PartOk_b0 p) 0) = _ from h2, h1]; simp [sw, hl]
 ·have : ¬ (p.1.length : Int) = (p.2.length : Int) := by omega
  simp [this, hl]
theorem e_spec_PartOk (p : Part) (hp : Dp.ok p) : p_spec_PartOk p = some (partOk p) := by
 obtain ⟨⟨hp1, _⟩, _, hp2⟩ := hp
 have hp1 : p.1.length ≤ 9223372036854775807 := hp1
 unfold p_spec_PartOk partOk
 by_cases hl : p.1.length = p.2.length
 ·have hr : ∀ k, k < p.1.length → p_spec_PartOk_b0 p (k : Int) = some (if partBad p k then .inr (.inr false) else .inl ((k + 1 : Nat) : Int)) := fun k hk => by
   have hk2 : k < p.2.length := by omega
   unfold p_spec_PartOk_b0 partBad
   simp only [dlt hk, cond_true, gd.yes (ixN hk), gd.yes (ixN hk2), e_spec_l6In, e_spec_BlockOk _ (hp2 k hk2).1, bd_some, Int.toNat_natCast, gd.yes (i64S hk hp1)]
   cases h1 : inn 1 (nth p.1 k) 6 with
   | false => simp
   | true =>
    by_cases h0 : 0 < k
    ·have h0' : (0 : Int) < k := by omega
     have e1 : (k : Int) - 1 = ((k - 1 : Nat) : Int) := by omega
     have hi : I64 ((k - 1 : Nat) : Int) := by unfold I64; omega
     simp only [h0, h0', decide_true, cond_true, e1, gd.yes hi, gd.yes (ixN (show k - 1 < p.1.length by omega)), Int.toNat_natCast, Bool.true_and, Bool.not_true, cond_false, Bool.false_or]
     cases decide (nth p.1 k ≤ nth p.1 (k - 1)) <;> cases blockOk (nth p.2 k) <;> cases h9 : decide ((nth p.2 k).length = 0) <;> simp_all
    ·simp only [h0, Bool.not_true, cond_false, Bool.false_or, decide_false, Bool.false_and]
     cases blockOk (nth p.2 k) <;> cases h9 : decide ((nth p.2 k).length = 0) <;> simp_all
  rcases lp_scan (body := p_spec_PartOk_b0 p) (fun k => (k : Int)) p.1.length (partBad p) (.inl ()) (fun _ => .inr false) (fun k hk _ h => by simp [hr k hk, h]) (fun k hk _ h => by simp [hr k hk, h]) (fun _ => by unfold p_spec_PartOk_b0; simp) with ⟨h1, h2⟩ | ⟨h1, k, _, _, _, h2⟩
  ·rw [show (lp (p_spec_PartOk_b0 p) 0) = _ from h2, h1]; simp [sw, hl]
  ·rw [show (lp (p_spec_PartOk_b0 p) 0) = _ from h2, h1]; simp [sw, hl]
 ·have : ¬ (p.1.length : Int) = (p.2.length : Int) := by omega
  simp [this, hl]
def place (l : List Int) (id : Int) : Int := match (List.range l.length).find? (fun i => decide (nth l i = id)) with | some i => i | none => -1
theorem place_no {l : List Int} {id : Int} (h : allN l.length (fun i => decide (nth l i = id)) = true) : place l id = -1 := by
 unfold place
 rw [List.find?_eq_none.2]
 intro i hi
 have := allN_iff.1 h i (by simpa using hi)
 simpa using this
theorem place_yes {l : List Int} {id : Int} {k : Nat} (hk : k < l.length) (h : decide (nth l k = id) = true) (h2 : ∀ i, i < k → decide (nth l i = id) = false) : place l id = k := by
 unfold place
 have : (List.range l.length).find? (fun i => decide (nth l i = id)) = some k := by
  rw [List.find?_range_eq_some]
  exact ⟨h, by simpa using hk, fun i hi => by simpa using h2 i hi⟩
 rw [this]
theorem e_Index (l : List Int) (id : Int) (ok : l.length ≤ 9223372036854775807) : p_slices_Index_int_int l id = some (place l id) := by
 unfold p_slices_Index_int_int
 rcases lp_scan (body := p_slices_Index_int_int_b0 l id) (fun k => (k : Int)) l.length (fun i => decide (nth l i = id)) (.inl ()) (fun k => .inr (k : Int)) (fun k hk _ h => by
   have h' : ¬ id = nth l k := fun e => by simp [e] at h
   unfold p_slices_Index_int_int_b0; simp [hk, gd.yes (ixN hk), h', gd.yes (i64S hk ok)]) (fun k hk _ h => by
   have h' : id = nth l k := by simp at h; exact h.symm
   unfold p_slices_Index_int_int_b0; simp [hk, gd.yes (ixN hk), h']) (fun _ => by unfold p_slices_Index_int_int_b0; simp) with ⟨h1, h2⟩ | ⟨h1, k, hk, hb, hn, h2⟩
 ·rw [show (lp (p_slices_Index_int_int_b0 l id) 0) = _ from h2, place_no h1]; rfl
 ·rw [show (lp (p_slices_Index_int_int_b0 l id) 0) = _ from h2, place_yes hk hb hn]; rfl
theorem place_lt {l : List Int} {id : Int} : place l id < 0 ∨ ∃ k, k < l.length ∧ place l id = (k : Int) := by
 cases ha : allN l.length (fun i => decide (nth l i = id)) with
 | true => exact .inl (by rw [place_no ha]; decide)
 | false =>
  obtain ⟨k, hk, h1, h2⟩ := first_bad ha
  exact .inr ⟨k, hk, place_yes hk h1 h2⟩
def rowsOf (p : Part) (id : Int) : List Row := if place p.1 id < 0 then [] else nth p.2 (place p.1 id).toNat
theorem partOk_len' {p : Part} (h : partOk p = true) : p.1.length = p.2.length := by
 unfold partOk at h; simp at h; exact h.1
theorem e_l12Of (p : Part) (id : Int) (ok : Dp.ok p) (hl : p.1.length = p.2.length) : p_spec_l12Of p id = some (rowsOf p id) := by
 have hm : p.1.length ≤ 9223372036854775807 := ok.1.1
 unfold p_spec_l12Of rowsOf
 rcases lp_scan (body := p_spec_l12Of_b0 p id) (fun k => (k : Int)) p.1.length (fun i => decide (nth p.1 i = id)) (.inl ()) (fun k => .inr (nth p.2 k)) (fun k hk _ h => by
   have h' : ¬ nth p.1 k = id := by simpa using h
   unfold p_spec_l12Of_b0; simp [hk, gd.yes (ixN hk), h', gd.yes (i64S hk hm)]) (fun k hk _ h => by
   have h' : nth p.1 k = id := by simpa using h
   have hk2 : k < p.2.length := by omega
   unfold p_spec_l12Of_b0; simp [hk, gd.yes (ixN hk), h', gd.yes (ixN hk2)]) (fun _ => by unfold p_spec_l12Of_b0; simp) with ⟨h1, h2⟩ | ⟨h1, k, hk, hb, hn, h2⟩
 ·rw [show (lp (p_spec_l12Of_b0 p id) 0) = _ from h2, place_no h1]; rfl
 ·rw [show (lp (p_spec_l12Of_b0 p id) 0) = _ from h2, place_yes hk hb hn]
  have : ¬ (k : Int) < 0 := by omega
  simp [sw, this]
def partOf (p : Part) (id : Int) : List Row := if partOk p then rowsOf p id else []
theorem e_impl_PartOf (p : Part) (id : Int) (ok : Dp.ok p) (hw : Wt.w p ≤ 1048576) : p_impl_PartOf p id = some (partOf p id) := by
 unfold p_impl_PartOf partOf
 rw [e_Index p.1 id ok.1.1, bd_some, e_impl_PartOk p ok, bd_some]
 cases h : partOk p with
 | false => rfl
 | true =>
  have hl := partOk_len' h
  rcases place_lt (l := p.1) (id := id) with hp | ⟨k, hk, hp⟩
  ·simp [hp, rowsOf]
  ·have h0 : ¬ (k : Int) < 0 := by omega
   have hk2 : k < p.2.length := by omega
   have hr : room (nth p.2 k).length := by
    have : (nth p.2 k).length ≤ 1048576 := Nat.le_trans wL_le (Nat.le_trans (wL_el hk2) (Nat.le_trans wP_2 hw))
    unfold room; omega
   simp [hp, rowsOf, h0, gd.yes (ixN hk2), gd.yes hr]
theorem ok_rows (l : List Row) (h : l.length ≤ 1048576) : Dp.ok l := ⟨Nat.le_trans h (by decide), fun _ _ => ⟨trivial, trivial⟩⟩
def l2 (r : Row) : Bool → List Row → List Row
 | put, [] => if put then [] else [r]
 | put, x :: t => (if !put && decide (r.1 ≤ x.1) then [r] else []) ++ ((if x.1 = r.1 then [] else [x]) ++ l2 r (put || decide (r.1 ≤ x.1)) t)
theorem drop_nth {α : Type} [Inhabited α] {l : List α} {k : Nat} (hk : k < l.length) : l.drop k = nth l k :: l.drop (k + 1) := by
 rw [nth_eq l k hk, List.drop_eq_getElem_cons hk]
theorem e_l2Put (b : List Row) (r : Row) (hb : b.length ≤ 1048576) : p_spec_l2Put b r = some (l2 r false b) := by
 unfold p_spec_l2Put
 obtain ⟨e, he, hs1, hs2⟩ := lp.rule (body := p_spec_l2Put_b0 b r) (fun σ => ∃ k : Nat, k ≤ b.length ∧ σ.2.2 = (k : Int) ∧ σ.1.length ≤ 2 * k ∧ σ.1 ++ l2 r σ.2.1 (b.drop k) = l2 r false b) (fun σ => b.length - σ.2.2.toNat)
  (fun e => e.1.length ≤ 2 * b.length ∧ e.1 ++ (if e.2 then [] else [r]) = l2 r false b) (fun σ hI => by
   obtain ⟨k, k1, k2, k3, k4⟩ := hI
   unfold p_spec_l2Put_b0
   rw [k2]
   by_cases hk : k < b.length
   ·left
    rw [drop_nth hk] at k4
    have hi := i64S hk (by omega)
    have r1 : room (σ.1.length + 1) := by unfold room; omega
    have r2 : room ((σ.1 ++ [r]).length + 1) := by simp; unfold room; omega
    simp only [dlt hk, cond_true, gd.yes (ixN hk), Int.toNat_natCast, gd.yes hi, gd.yes r1, gd.yes r2]
    obtain ⟨o, put, i⟩ := σ
    simp only at k2 k3 k4 ⊢
    cases put with
    | true =>
     simp only [l2, Bool.not_true, Bool.false_and, Bool.false_eq_true, if_false, List.nil_append, Bool.true_or] at k4
     simp only [Bool.not_true, cond_false, bd_some]
     by_cases hx : (nth b k).1 = r.1
     ·simp only [hx, if_true, List.nil_append] at k4
      exact ⟨(o, true, ((k + 1 : Nat) : Int)), by simp [hx], ⟨k + 1, hk, rfl, by simp only; omega, k4⟩, by simp only; omega⟩
     ·simp only [hx, if_false] at k4
      exact ⟨(o ++ [nth b k], true, ((k + 1 : Nat) : Int)), by simp [hx], ⟨k + 1, hk, rfl, by simp; omega, by simpa using k4⟩, by simp only; omega⟩
    | false =>
     by_cases hle : r.1 ≤ (nth b k).1
     ·simp only [l2, hle, decide_true, Bool.not_false, Bool.true_and, if_true, Bool.or_true] at k4
      by_cases hx : (nth b k).1 = r.1
      ·simp only [hx, if_true, List.nil_append] at k4
       exact ⟨(o ++ [r], true, ((k + 1 : Nat) : Int)), by simp [hx], ⟨k + 1, hk, rfl, by simp; omega, by simpa using k4⟩, by simp only; omega⟩
      ·simp only [hx, if_false] at k4
       exact ⟨(o ++ [r] ++ [nth b k], true, ((k + 1 : Nat) : Int)), by simp [hx, hle], ⟨k + 1, hk, rfl, by simp; omega, by simpa using k4⟩, by simp only; omega⟩
     ·simp only [l2, hle, decide_false, Bool.not_false, Bool.and_false, Bool.false_eq_true, if_false, List.nil_append, Bool.or_false] at k4
      have hx : ¬ (nth b k).1 = r.1 := by omega
      simp only [hx, if_false] at k4
      exact ⟨(o ++ [nth b k], false, ((k + 1 : Nat) : Int)), by simp [hx, hle], ⟨k + 1, hk, rfl, by simp; omega, by simpa using k4⟩, by simp only; omega⟩
   ·right
    have hk' : k = b.length := by omega
    subst hk'
    refine ⟨(σ.1, σ.2.1), by simp, k3, ?_⟩
    rw [List.drop_length] at k4
    simpa [l2] using k4) (s := (([] : List Row), false, (0 : Int))) ⟨0, Nat.zero_le _, rfl, by simp, by simp⟩
 rw [he, bd_some]
 have r1 : room (e.1.length + 1) := by unfold room; omega
 cases hp : e.2 with
 | true => simp [hp] at hs2; simp [hs2]
 | false => simp [hp] at hs2; simp [gd.yes r1, hs2]
theorem nth_mem {α : Type} [Inhabited α] {l : List α} {k : Nat} (h : k < l.length) : nth l k ∈ l := by rw [nth_eq l k h]; exact List.getElem_mem h
def small (p : Part) : Prop := p.1.length ≤ 10 ∧ p.2.length ≤ 10 ∧ ∀ b ∈ p.2, b.length ≤ 2000
theorem small_ok {p : Part} (h : small p) : Dp.ok p := by
 obtain ⟨h1, h2, h3⟩ := h
 exact ⟨⟨Nat.le_trans h1 (by decide), fun _ _ => trivial⟩, ⟨Nat.le_trans h2 (by decide), fun i hi => ok_rows _ (Nat.le_trans (h3 _ (nth_mem hi)) (by decide))⟩⟩
theorem wRow {b : List Row} : Wt.w b = b.length := by show b.length + sumN b.length (fun i => Wt.w (nth b i)) = _; rw [sumN_zero (f := fun i => Wt.w (nth b i)) fun i _ => rfl]; rfl
theorem sumN_bound {n m : Nat} {f : Nat → Nat} (h : ∀ i, i < n → f i ≤ m) : sumN n f ≤ n * m := by
 induction n with
 | zero => simp [sumN]
 | succ n ih => have := ih fun i hi => h i (by omega); have := h n (by omega); simp only [sumN, Nat.add_mul]; omega
theorem small_w {p : Part} (h : small p) : Wt.w p ≤ 1048576 := by
 obtain ⟨h1, h2, h3⟩ := h
 have a1 : Wt.w p.1 = p.1.length := by show p.1.length + sumN p.1.length (fun i => Wt.w (nth p.1 i)) = _; rw [sumN_zero (f := fun i => Wt.w (nth p.1 i)) fun i _ => rfl]; rfl
 have a2 : sumN p.2.length (fun i => Wt.w (nth p.2 i)) ≤ p.2.length * 2000 := sumN_bound fun i hi => by rw [wRow]; exact h3 _ (nth_mem hi)
 have a3 : p.2.length * 2000 ≤ 10 * 2000 := Nat.mul_le_mul_right _ h2
 show Wt.w p.1 + (p.2.length + sumN p.2.length fun i => Wt.w (nth p.2 i)) ≤ _
 omega
theorem partOk_iff {p : Part} (h : partOk p = true) : p.1.length = p.2.length ∧ (∀ k, k < p.1.length → 1 ≤ nth p.1 k ∧ nth p.1 k ≤ 6) ∧ (∀ k, 0 < k → k < p.1.length → nth p.1 (k - 1) < nth p.1 k) ∧ (∀ k, k < p.2.length → 0 < (nth p.2 k).length ∧ blockOk (nth p.2 k) = true) := by
 unfold partOk at h
 simp only [Bool.and_eq_true, decide_eq_true_eq] at h
 obtain ⟨h1, h2⟩ := h
 have h2 := allN_iff.1 h2
 refine ⟨h1, fun k hk => ?_, fun k h0 hk => ?_, fun k hk => ?_⟩
 ·have := h2 k hk; simp only [partBad, inn, Bool.or_eq_false_iff, Bool.not_eq_false', Bool.and_eq_true, decide_eq_true_eq] at this; exact this.1.1.1
 ·have := h2 k hk; simp [partBad, h0] at this; exact this.1.1.2
 ·have := h2 k (by omega); simp [partBad] at this; exact ⟨List.length_pos_iff.2 this.2, this.1.2⟩
theorem ids_mono {p : Part} (h : ∀ k, 0 < k → k < p.1.length → nth p.1 (k - 1) < nth p.1 k) : ∀ {j k : Nat}, j < k → k < p.1.length → nth p.1 j < nth p.1 k := by
 intro j k hjk hk
 induction k with
 | zero => omega
 | succ k ih =>
  have h1 := h (k + 1) (by omega) hk
  rw [show k + 1 - 1 = k by omega] at h1
  rcases Nat.lt_or_eq_of_le (Nat.le_of_lt_succ hjk) with h' | rfl
  ·have := ih h' (by omega); omega
  ·exact h1
def ins (r : Row) : List Row → List Row
 | [] => [r]
 | x :: t => if x.1 < r.1 then x :: ins r t else if x.1 = r.1 then r :: t else r :: x :: t
theorem ins_len (r : Row) : ∀ l : List Row, l.length ≤ (ins r l).length ∧ (ins r l).length ≤ l.length + 1
 | [] => by simp [ins]
 | x :: t => by
  have := ins_len r t
  unfold ins
  split
  ·simp; omega
  ·split <;> simp
theorem ins_pre (r : Row) : ∀ (p s : List Row), (∀ x ∈ p, x.1 < r.1) → ins r (p ++ s) = p ++ ins r s
 | [], s, _ => rfl
 | x :: p, s, h => by
  have hx := h x (by simp)
  rw [List.cons_append, ins, if_pos hx, ins_pre r p s fun y hy => h y (by simp [hy]), List.cons_append]
def Asc (l : List Row) : Prop := l.Pairwise fun x y => x.1 < y.1
theorem e_put (b : List Row) (r : Row) (hb : b.length ≤ 1048576) : p_impl_put b r = some (ins r b) := by
 unfold p_impl_put
 have r0 : room (([] : List Row).length + b.length) := by unfold room; simp; omega
 simp only [gd.yes r0, List.nil_append]
 have key : ∃ k : Nat, k ≤ b.length ∧ (∀ i, i < k → (nth b i).1 < r.1) ∧ (k < b.length → ¬ (nth b k).1 < r.1) ∧ lp (p_impl_put_b0 b r) 0 = some (k : Int) := by
  rcases lp_scan (body := p_impl_put_b0 b r) (fun k => (k : Int)) b.length (fun k => !decide ((nth b k).1 < r.1)) (b.length : Int) (fun k => (k : Int)) (fun k hk _ h => by
    have h' : (nth b k).1 < r.1 := by simpa using h
    unfold p_impl_put_b0; simp [hk, gd.yes (ixN hk), h', gd.yes (i64S hk (by omega))]) (fun k hk _ h => by
    have h' : ¬ (nth b k).1 < r.1 := by simpa using h
    unfold p_impl_put_b0; simp [hk, gd.yes (ixN hk), h']) (fun _ => by unfold p_impl_put_b0; simp) with ⟨h1, h2⟩ | ⟨h1, k, hk, hb', hn, h2⟩
  ·exact ⟨b.length, Nat.le_refl _, fun i hi => by simpa using allN_iff.1 h1 i hi, fun h => absurd h (Nat.lt_irrefl _), h2⟩
  ·exact ⟨k, Nat.le_of_lt hk, fun i hi => by simpa using hn i hi, fun _ => by simpa using hb', h2⟩
 obtain ⟨k, k1, k2, k3, k4⟩ := key
 rw [k4, bd_some]
 have hpre : ∀ x ∈ b.take k, x.1 < r.1 := fun x hx => by
  obtain ⟨i, hi, rfl⟩ := List.mem_iff_getElem.1 hx
  have hik : i < k := by simp at hi; omega
  have := k2 i hik
  rw [nth_eq b i (by omega)] at this
  simpa using this
 have hins : ins r b = b.take k ++ ins r (b.drop k) := by
  conv => lhs; rw [← List.take_append_drop k b]
  rw [ins_pre r _ _ hpre]
 by_cases hk : k < b.length
 ·have h3 := k3 hk
  rw [drop_nth hk, ins, if_neg h3] at hins
  simp only [dlt hk, cond_true, gd.yes (ixN hk), bd_some, Int.toNat_natCast]
  by_cases he : (nth b k).1 = r.1
  ·rw [if_pos he] at hins
   rw [hins, List.set_eq_take_append_cons_drop, if_pos hk]
   simp [he]
  ·rw [if_neg he] at hins
   have g1 : (0 : Int) ≤ (k : Int) ∧ (k : Int) ≤ (b.length : Int) := by omega
   have g2 : room (b.length + [r].length) := by unfold room; simp; omega
   have g3 : 0 < [r].length := by simp
   unfold p_slices_Insert_Row_Row p_insert
   have e1 : b.take k ++ [r] ++ b.drop k = ins r b := by rw [hins, drop_nth hk]; simp
   simp only [he, decide_false, cond_false, gd.yes g1, gd.yes g2, gd.yes g3, bd_some, Int.toNat_natCast, e1]
   have := ins_len r b
   have g4 : room (([] : List Row).length + (ins r b).length) := by unfold room; simp; omega
   simp only [gd.yes g4]
 ·have hk' : k = b.length := by omega
  subst hk'
  have g1 : (0 : Int) ≤ (b.length : Int) ∧ (b.length : Int) ≤ (b.length : Int) := by omega
  have g2 : room (b.length + [r].length) := by unfold room; simp; omega
  have g3 : 0 < [r].length := by simp
  rw [List.drop_length] at hins
  have e1 : b.take b.length ++ [r] ++ b.drop b.length = ins r b := by rw [hins, List.drop_length]; simp [ins]
  unfold p_slices_Insert_Row_Row p_insert
  simp only [Int.lt_irrefl, decide_false, cond_false, bd_some, gd.yes g1, gd.yes g2, gd.yes g3, Int.toNat_natCast, e1]
  have := ins_len r b
  have g4 : room (([] : List Row).length + (ins r b).length) := by unfold room; simp; omega
  simp only [gd.yes g4]
theorem l2_true (r : Row) : ∀ l : List Row, (∀ x ∈ l, r.1 < x.1) → l2 r true l = l
 | [], _ => rfl
 | x :: t, h => by
  have hx := h x (by simp)
  simp only [l2, Bool.not_true, Bool.false_and, Bool.false_eq_true, if_false, List.nil_append, Bool.true_or]
  rw [if_neg (by omega), l2_true r t fun y hy => h y (by simp [hy])]; rfl
theorem l2_ins (r : Row) : ∀ l : List Row, Asc l → l2 r false l = ins r l
 | [], _ => rfl
 | x :: t, h => by
  unfold Asc at h
  obtain ⟨h1, h2⟩ := List.pairwise_cons.1 h
  simp only [l2, ins, Bool.not_false, Bool.true_and, Bool.false_or]
  by_cases hle : r.1 ≤ x.1
  ·simp only [hle, decide_true, if_true]
   rw [if_neg (show ¬ x.1 < r.1 by omega), l2_true r t fun y hy => by have := h1 y hy; omega]
   by_cases he : x.1 = r.1 <;> simp [he]
  ·simp only [hle, decide_false, Bool.false_eq_true, if_false, List.nil_append]
   rw [if_pos (show x.1 < r.1 by omega), if_neg (show ¬ x.1 = r.1 by omega), l2_ins r t h2]; rfl
theorem ins_mem {r y : Row} : ∀ {l : List Row}, y ∈ ins r l → y = r ∨ y ∈ l
 | [], h => by simp [ins] at h; exact .inl h
 | x :: t, h => by
  unfold ins at h
  split at h
  ·rcases List.mem_cons.1 h with h | h
   ·exact .inr (by simp [h])
   ·exact (ins_mem h).imp id fun h => by simp [h]
  ·split at h
   ·rcases List.mem_cons.1 h with h | h
    ·exact .inl h
    ·exact .inr (by simp [h])
   ·rcases List.mem_cons.1 h with h | h
    ·exact .inl h
    ·exact .inr h
theorem ins_asc (r : Row) : ∀ {l : List Row}, Asc l → Asc (ins r l)
 | [], _ => by simp [ins, Asc]
 | x :: t, h => by
  unfold Asc at h ⊢
  obtain ⟨h1, h2⟩ := List.pairwise_cons.1 h
  unfold ins
  split
  ·rename_i hx
   refine List.pairwise_cons.2 ⟨fun y hy => ?_, ins_asc r h2⟩
   rcases ins_mem hy with rfl | hy
   ·exact hx
   ·exact h1 y hy
  ·split
   ·rename_i hx he
    exact List.pairwise_cons.2 ⟨fun y hy => by have := h1 y hy; omega, h2⟩
   ·rename_i hx he
    refine List.pairwise_cons.2 ⟨fun y hy => ?_, h⟩
    rcases List.mem_cons.1 hy with rfl | hy
    ·omega
    ·have := h1 y hy; omega
def mg (a b : List Row) : List Row := b.foldl (fun o r => ins r o) a
theorem mg_asc {a b : List Row} (ha : Asc a) : Asc (mg a b) := by
 unfold mg
 induction b generalizing a with
 | nil => exact ha
 | cons x b ih => exact ih (ins_asc x ha)
theorem mg_len : ∀ (b a : List Row), a.length ≤ (mg a b).length ∧ (mg a b).length ≤ a.length + b.length
 | [], a => by simp [mg]
 | x :: b, a => by
  have h1 := ins_len x a
  have h2 := mg_len b (ins x a)
  unfold mg at h2 ⊢
  simp only [List.foldl_cons, List.length_cons] at h2 ⊢
  omega
theorem nil_asc : Asc [] := List.Pairwise.nil
theorem blockOk_iff {b : List Row} : blockOk b = true ↔ (∀ x ∈ b, rowOk x = true) ∧ Asc b ∧ b.length ≤ 24 := by
 unfold blockOk
 rw [Bool.and_eq_true, allN_iff, decide_eq_true_eq]
 constructor
 ·rintro ⟨h1, h2⟩
  have hp : ∀ k, k < b.length → rowOk (nth b k) = true ∧ (0 < k → (nth b (k - 1)).1 < (nth b k).1) := fun k hk => by
   have := h1 k hk
   simp only [rowBad, Bool.or_eq_false_iff, Bool.not_eq_false', Bool.and_eq_false_iff, decide_eq_false_iff_not] at this
   exact ⟨this.1, fun h0 => by rcases this.2 with h | h <;> omega⟩
  refine ⟨fun x hx => ?_, ?_, by omega⟩
  ·obtain ⟨i, hi, rfl⟩ := List.mem_iff_getElem.1 hx
   rw [← nth_eq b i hi]; exact (hp i hi).1
  ·refine List.pairwise_iff_getElem.2 fun i j hi hj hij => ?_
   rw [← nth_eq b i hi, ← nth_eq b j hj]
   clear hi
   induction j with
   | zero => omega
   | succ j ih =>
    have h3 := (hp (j + 1) hj).2 (by omega)
    rw [show j + 1 - 1 = j by omega] at h3
    rcases Nat.lt_or_eq_of_le (Nat.le_of_lt_succ hij) with h' | rfl
    ·have := ih (by omega) h'; omega
    ·exact h3
 ·rintro ⟨h1, h2, h3⟩
  refine ⟨fun k hk => ?_, by omega⟩
  have r1 : rowOk (nth b k) = true := h1 _ (nth_mem hk)
  simp only [rowBad, r1, Bool.not_true, Bool.false_or, Bool.and_eq_false_iff, decide_eq_false_iff_not]
  rcases Nat.eq_zero_or_pos k with h0 | h0
  ·exact .inl (by omega)
  ·refine .inr ?_
   have := List.pairwise_iff_getElem.1 h2 (k - 1) k (by omega) hk (by omega)
   rw [← nth_eq b (k - 1) (by omega), ← nth_eq b k hk] at this
   omega
theorem foldl_take {α β : Type} [Inhabited α] (f : β → α → β) (s : β) (l : List α) (k : Nat) (hk : k < l.length) : (l.take (k + 1)).foldl f s = f ((l.take k).foldl f s) (nth l k) := by
 rw [nth_eq l k hk, List.take_succ_eq_append_getElem hk, List.foldl_append]; rfl
theorem mg_take (a b : List Row) (k : Nat) (hk : k < b.length) : mg a (b.take (k + 1)) = ins (nth b k) (mg a (b.take k)) := foldl_take _ _ _ _ hk
theorem mg_take_len (a b : List Row) (k : Nat) (hk : k ≤ b.length) : (mg a (b.take k)).length ≤ a.length + b.length := by
 have := (mg_len (b.take k) a).2
 rw [List.length_take] at this; omega
theorem partOk_asc {p : Part} (h : partOk p = true) : p.1.Pairwise (· < ·) := List.pairwise_iff_getElem.2 fun i j hi hj hij => by
 rw [← nth_eq p.1 i hi, ← nth_eq p.1 j hj]; exact ids_mono (partOk_iff h).2.2.1 hij hj
theorem rowsOf_ok {p : Part} (h : partOk p = true) (id : Int) : blockOk (rowsOf p id) = true := by
 unfold rowsOf
 rcases place_lt (l := p.1) (id := id) with hp | ⟨k, hk, hp⟩
 ·rw [if_pos hp]; rfl
 ·rw [hp, if_neg (by omega)]; exact ((partOk_iff h).2.2.2 k (by have := (partOk_iff h).1; omega)).2
theorem partOk_small {p : Part} (h : partOk p = true) : small p := by
 obtain ⟨h1, h2, h3, h4⟩ := partOk_iff h
 have hk : ∀ k : Nat, k < p.1.length → ((k : Nat) : Int) + 1 ≤ nth p.1 k := fun k => by
  induction k with
  | zero => intro hk; have := (h2 0 hk).1; omega
  | succ k ih =>
   intro hk
   have := h3 (k + 1) (by omega) hk
   rw [show k + 1 - 1 = k by omega] at this
   have := ih (by omega); omega
 have hl : p.1.length ≤ 10 := by
  rcases Nat.lt_or_ge p.1.length 7 with h' | h'
  ·omega
  ·have := hk 6 (by omega); have := (h2 6 (by omega)).2; omega
 refine ⟨hl, by omega, fun b hb => ?_⟩
 obtain ⟨i, hi, rfl⟩ := List.mem_iff_getElem.1 hb
 have := (blockOk_iff.1 (h4 i hi).2).2.2
 rw [nth_eq p.2 i hi] at this; omega
theorem ba_one {x : ByteArray} (h : x.size = 1) : x = ⟨#[sb x 0]⟩ := by
 have : x.data.size = 1 := h
 apply ByteArray.ext
 apply Array.ext
 ·rw [this]; rfl
 ·intro i h1 h2
  have hi : i = 0 := by omega
  subst hi
  simp [sb, this]
theorem sl_one (a b : UInt8) : sless ⟨#[a]⟩ ⟨#[b]⟩ = decide (a < b) := by
 rw [sless_lt]
 have e : ∀ c : UInt8, (⟨#[c]⟩ : ByteArray).toList = [c] := fun c => by simp [ByteArray.toList, ByteArray.toList.loop, ByteArray.size, ByteArray.get!]
 have h2 : ([a] < [b]) ↔ a < b := by rw [List.cons_lt_cons_iff]; simp
 rw [e, e]
 exact decide_eq_decide.2 h2
def tagB (t : Tag) : Bool := decide (t.1.size = 1) && (decide (t.2.size = 1) && (inn 97 ((sb t.1 0).toNat : Int) 100 && inn 112 ((sb t.2 0).toNat : Int) 122))
theorem e_spec_l3Tag (t : Tag) : p_spec_l3Tag t = some (tagB t) := by
 unfold p_spec_l3Tag tagB
 have c1 : decide ((t.1.size : Int) = 1) = decide (t.1.size = 1) := decide_eq_decide.2 (by omega)
 have c2 : decide ((t.2.size : Int) = 1) = decide (t.2.size = 1) := decide_eq_decide.2 (by omega)
 rw [c1, c2]
 by_cases h1 : t.1.size = 1
 ·by_cases h2 : t.2.size = 1
  ·simp only [h1, h2, decide_true, cond_true, gd.yes (show ix 0 1 by unfold ix; omega), e_spec_l6In, bd_some, Bool.true_and]
   cases inn 97 ((sb t.1 0).toNat : Int) 100 <;> simp
  ·simp [h1, h2]
 ·simp [h1]
theorem rng_one {x : ByteArray} (h : x.size = 1) (lo hi : UInt8) : (!sless x ⟨#[lo]⟩ && (sless x ⟨#[hi]⟩ || decide (x = ⟨#[hi]⟩))) = inn (lo.toNat : Int) ((sb x 0).toNat : Int) (hi.toNat : Int) := by
 have hx := ba_one h
 generalize sb x 0 = c at *
 subst hx
 rw [sl_one, sl_one]
 have e1 : (!decide (c < lo)) = decide ((lo.toNat : Int) ≤ (c.toNat : Int)) := by
  by_cases k : c < lo
  ·have : c.toNat < lo.toNat := UInt8.lt_iff_toNat_lt.1 k
   simp [k]; omega
  ·have : ¬ c.toNat < lo.toNat := fun q => k (UInt8.lt_iff_toNat_lt.2 q)
   simp [k]; omega
 have e2 : (decide (c < hi) || decide ((⟨#[c]⟩ : ByteArray) = ⟨#[hi]⟩)) = decide ((c.toNat : Int) ≤ (hi.toNat : Int)) := by
  by_cases k : c < hi
  ·have : c.toNat < hi.toNat := UInt8.lt_iff_toNat_lt.1 k
   simp [k]; omega
  ·have h3 : ¬ c.toNat < hi.toNat := fun q => k (UInt8.lt_iff_toNat_lt.2 q)
   by_cases e : c = hi
   ·subst e; simp
   ·have h4 : c.toNat ≠ hi.toNat := fun q => e (UInt8.toNat_inj.1 q)
    have h5 : (⟨#[c]⟩ : ByteArray) ≠ ⟨#[hi]⟩ := fun q => e (by
     have := congrArg (fun b : ByteArray => b.data.toList) q
     simpa using this)
    simp [k, h5]; omega
 rw [e1, e2]; rfl
theorem e_impl_tagOk (t : Tag) : p_impl_tagOk t = some (tagB t) := by
 unfold p_impl_tagOk tagB
 have c1 : decide ((t.1.size : Int) = 1) = decide (t.1.size = 1) := decide_eq_decide.2 (by omega)
 have c2 : decide ((t.2.size : Int) = 1) = decide (t.2.size = 1) := decide_eq_decide.2 (by omega)
 rw [c1, c2]
 by_cases h1 : t.1.size = 1
 ·have r1 := rng_one h1 97 100
  rw [show ((97 : UInt8).toNat : Int) = 97 from rfl, show ((100 : UInt8).toNat : Int) = 100 from rfl] at r1
  rw [← r1]
  by_cases h2 : t.2.size = 1
  ·have r2 := rng_one h2 112 122
   rw [show ((112 : UInt8).toNat : Int) = 112 from rfl, show ((122 : UInt8).toNat : Int) = 122 from rfl] at r2
   rw [← r2]
   simp only [h1, h2, decide_true, cond_true, Bool.true_and]
   cases (!sless t.1 ⟨#[97]⟩) <;> cases (sless t.1 ⟨#[100]⟩ || decide (t.1 = ⟨#[100]⟩)) <;> cases (!sless t.2 ⟨#[112]⟩) <;> rfl
  ·simp only [h1, h2, decide_true, decide_false, cond_true, cond_false, Bool.true_and, Bool.false_and]
   cases (!sless t.1 ⟨#[97]⟩) <;> cases (sless t.1 ⟨#[100]⟩ || decide (t.1 = ⟨#[100]⟩)) <;> rfl
 ·simp [h1]
def nameBad (n : List Tag) (k : Nat) : Bool := !tagB (nth n k) || (decide (0 < k) && !sless (nth n (k - 1)).1 (nth n k).1)
def nameOk (n : List Tag) : Bool := allN n.length (nameBad n) && inn 1 (n.length : Int) 3
theorem e_impl_NameOk (n : List Tag) (hn : n.length ≤ maxLen) : p_impl_NameOk n = some (nameOk n) := by
 have hn' : n.length ≤ 9223372036854775807 := hn
 have hr : ∀ k, k < n.length → p_impl_NameOk_b0 n (k : Int) = some (if nameBad n k then .inr (.inr false) else .inl ((k + 1 : Nat) : Int)) := fun k hk => by
  unfold p_impl_NameOk_b0 nameBad
  simp only [dlt hk, cond_true, gd.yes (ixN hk), e_impl_tagOk, bd_some, Int.toNat_natCast, gd.yes (i64S hk hn')]
  cases h1 : tagB (nth n k) with
  | false => simp
  | true =>
   simp only [Bool.not_true, cond_false, Bool.false_or]
   by_cases h0 : 0 < k
   ·have h0' : (0 : Int) < k := by omega
    have e1 : (k : Int) - 1 = ((k - 1 : Nat) : Int) := by omega
    have hi : I64 ((k - 1 : Nat) : Int) := by unfold I64; omega
    simp only [h0, h0', decide_true, cond_true, e1, gd.yes hi, gd.yes (ixN (show k - 1 < n.length by omega)), Int.toNat_natCast, bd_some, Bool.true_and]
    cases sless (nth n (k - 1)).1 (nth n k).1 <;> simp
   ·simp [h0]
 unfold p_impl_NameOk nameOk
 rcases lp_scan (body := p_impl_NameOk_b0 n) (fun k => (k : Int)) n.length (nameBad n) (.inl ()) (fun _ => .inr false) (fun k hk _ h => by simp [hr k hk, h]) (fun k hk _ h => by simp [hr k hk, h]) (fun _ => by unfold p_impl_NameOk_b0; simp) with ⟨h1, h2⟩ | ⟨h1, k, _, _, _, h2⟩
 ·rw [show (lp (p_impl_NameOk_b0 n) 0) = _ from h2, h1]; simp [sw, e_impl_within]
 ·rw [show (lp (p_impl_NameOk_b0 n) 0) = _ from h2, h1]; simp [sw]
theorem e_spec_NameOk (n : List Tag) (hn : n.length ≤ maxLen) : p_spec_NameOk n = some (nameOk n) := by
 have hn' : n.length ≤ 9223372036854775807 := hn
 have hr : ∀ k, k < n.length → p_spec_NameOk_b0 n (k : Int) = some (if nameBad n k then .inr (.inr false) else .inl ((k + 1 : Nat) : Int)) := fun k hk => by
  unfold p_spec_NameOk_b0 nameBad
  simp only [dlt hk, cond_true, gd.yes (ixN hk), e_spec_l3Tag, bd_some, Int.toNat_natCast, gd.yes (i64S hk hn')]
  cases h1 : tagB (nth n k) with
  | false => simp
  | true =>
   simp only [Bool.not_true, cond_false, Bool.false_or]
   by_cases h0 : 0 < k
   ·have h0' : (0 : Int) < k := by omega
    have e1 : (k : Int) - 1 = ((k - 1 : Nat) : Int) := by omega
    have hi : I64 ((k - 1 : Nat) : Int) := by unfold I64; omega
    simp only [h0, h0', decide_true, cond_true, e1, gd.yes hi, gd.yes (ixN (show k - 1 < n.length by omega)), Int.toNat_natCast, bd_some, Bool.true_and]
    cases sless (nth n (k - 1)).1 (nth n k).1 <;> simp
   ·simp [h0]
 unfold p_spec_NameOk nameOk
 rcases lp_scan (body := p_spec_NameOk_b0 n) (fun k => (k : Int)) n.length (nameBad n) (.inl ()) (fun _ => .inr false) (fun k hk _ h => by simp [hr k hk, h]) (fun k hk _ h => by simp [hr k hk, h]) (fun _ => by unfold p_spec_NameOk_b0; simp) with ⟨h1, h2⟩ | ⟨h1, k, _, _, _, h2⟩
 ·rw [show (lp (p_spec_NameOk_b0 n) 0) = _ from h2, h1]; simp [sw, e_spec_l6In]
 ·rw [show (lp (p_spec_NameOk_b0 n) 0) = _ from h2, h1]; simp [sw]
theorem allN_mem {α : Type} [Inhabited α] {l : List α} {p : α → Bool} : allN l.length (fun k => p (nth l k)) = true ↔ ∀ x ∈ l, p x = false := by
 rw [allN_iff]
 constructor
 ·intro h x hx
  obtain ⟨i, hi, rfl⟩ := List.mem_iff_getElem.1 hx
  have := h i hi
  rwa [nth_eq l i hi] at this
 ·intro h i hi
  rw [nth_eq l i hi]
  exact h _ (List.getElem_mem hi)
def hasT (n : List Tag) (t : Tag) : Bool := n.any fun x => decide (x = t)
theorem hasT_iff {n : List Tag} {t : Tag} : hasT n t = true ↔ t ∈ n := by simp [hasT]
theorem hasT_no {n : List Tag} {t : Tag} (h : t ∉ n) : hasT n t = false := by
 cases hc : hasT n t with
 | false => rfl
 | true => exact absurd (hasT_iff.1 hc) h
theorem e_spec_l3Has (n : List Tag) (t : Tag) (hn : n.length ≤ maxLen) : p_spec_l3Has n t = some (hasT n t) := by
 have hn' : n.length ≤ 9223372036854775807 := hn
 have hr : ∀ k, k < n.length → p_spec_l3Has_b0 n t (k : Int) = some (if decide (nth n k = t) then .inr (.inr true) else .inl ((k + 1 : Nat) : Int)) := fun k hk => by
  unfold p_spec_l3Has_b0
  simp only [dlt hk, cond_true, gd.yes (ixN hk), Int.toNat_natCast, gd.yes (i64S hk hn')]
  by_cases h : nth n k = t <;> simp [h]
 unfold p_spec_l3Has
 rcases lp_scan (body := p_spec_l3Has_b0 n t) (fun k => (k : Int)) n.length (fun k => decide (nth n k = t)) (.inl ()) (fun _ => .inr true) (fun k hk _ h => by simp [hr k hk, of_decide_eq_false h]) (fun k hk _ h => by simp [hr k hk, of_decide_eq_true h]) (fun _ => by unfold p_spec_l3Has_b0; simp) with ⟨h1, h2⟩ | ⟨h1, k, hk, hb, _, h2⟩
 ·rw [show (lp (p_spec_l3Has_b0 n t) 0) = _ from h2]
  have : t ∉ n := fun ht => by
   have := (allN_mem (l := n) (p := fun x => decide (x = t))).1 h1 t ht
   simp at this
  simp [sw, hasT_no this]
 ·rw [show (lp (p_spec_l3Has_b0 n t) 0) = _ from h2]
  have : t ∈ n := (of_decide_eq_true hb) ▸ nth_mem hk
  simp [sw, hasT_iff.2 this]
theorem e_impl_cloneNames (names : List (List Tag)) (h1 : names.length ≤ 4194304) (h2 : ∀ n ∈ names, n.length ≤ 4194304) : p_impl_cloneNames names = some names := by
 unfold p_impl_cloneNames
 rw [show (([] : List (List Tag)), (0 : Int)) = (names.take 0, ((0 : Nat) : Int)) from rfl, lp_for (fun k => (names.take k, (k : Int))) names.length names (fun k hk => by
  unfold p_impl_cloneNames_b0
  have hl := h2 _ (nth_mem hk)
  simp only [dlt hk, cond_true, gd.yes (ixN hk), Int.toNat_natCast, List.length_nil, List.nil_append, List.length_take]
  rw [gd.yes (by unfold room; omega), gd.yes (by unfold room; omega), gd.yes (by unfold I64; omega), take_succ_nth hk]
  rfl) (by unfold p_impl_cloneNames_b0; simp)]
 rfl
theorem e_spec_l11Names (names : List (List Tag)) (h1 : names.length ≤ 4194304) (h2 : ∀ n ∈ names, n.length ≤ 4194304) : p_spec_l11Names names = some names := by
 unfold p_spec_l11Names
 rw [show (([] : List (List Tag)), (0 : Int)) = (names.take 0, ((0 : Nat) : Int)) from rfl, lp_for (fun k => (names.take k, (k : Int))) names.length names (fun k hk => by
  unfold p_spec_l11Names_b0
  have hl := h2 _ (nth_mem hk)
  simp only [dlt hk, cond_true, gd.yes (ixN hk), Int.toNat_natCast, List.length_nil, List.nil_append, List.length_take]
  rw [gd.yes (by unfold room; omega), gd.yes (by unfold room; omega), gd.yes (by unfold I64; omega), take_succ_nth hk]
  rfl) (by unfold p_spec_l11Names_b0; simp)]
 rfl
def addT : List Post → Tag → Int → List Post
 | [], t, i => [(t, [i])]
 | p :: P, t, i => if p.1 = t then (p.1, p.2 ++ [i]) :: P else p :: addT P t i
def addN (P : List Post) (n : List Tag) (i : Int) : List Post := n.foldl (fun P t => addT P t i) P
def postsF (names : List (List Tag)) : Nat → List Post
 | 0 => []
 | m + 1 => addN (postsF names m) (nth names m) ((m : Int) + 1)
def indexP (names : List (List Tag)) : Index := (names, (postsF names names.length).mergeSort leP)
theorem addT_old (P : List Post) (t : Tag) (i : Int) (h : t ∈ P.map (·.1)) : (addT P t i).map (·.1) = P.map (·.1) := by
 induction P with
 | nil => cases h
 | cons p P ih =>
  unfold addT
  by_cases e : p.1 = t
  ·simp [e]
  ·rw [if_neg e, List.map_cons, List.map_cons, ih]
   rcases List.mem_cons.1 h with h | h
   ·exact absurd h.symm e
   ·exact h
theorem addT_new (P : List Post) (t : Tag) (i : Int) (h : t ∉ P.map (·.1)) : (addT P t i).map (·.1) = P.map (·.1) ++ [t] := by
 induction P with
 | nil => rfl
 | cons p P ih =>
  unfold addT
  have e : p.1 ≠ t := fun e => h (by rw [List.map_cons, e]; exact List.mem_cons_self ..)
  rw [if_neg e, List.map_cons, List.map_cons, ih (fun q => h (by rw [List.map_cons]; exact List.mem_cons_of_mem _ q))]
  rfl
theorem addT_nodup {P : List Post} (h : (P.map (·.1)).Nodup) (t : Tag) (i : Int) : ((addT P t i).map (·.1)).Nodup := by
 by_cases hm : t ∈ P.map (·.1)
 ·rw [addT_old P t i hm]; exact h
 ·rw [addT_new P t i hm, List.nodup_append]
  exact ⟨h, by simp, fun a ha b hb => by simp at hb; subst hb; exact fun e => hm (e ▸ ha)⟩
theorem addN_cons (P : List Post) (t : Tag) (n : List Tag) (i : Int) : addN P (t :: n) i = addN (addT P t i) n i := rfl
theorem postsF_succ (names : List (List Tag)) (m : Nat) : postsF names (m + 1) = addN (postsF names m) (nth names m) ((m : Int) + 1) := rfl
theorem addN_nodup (n : List Tag) (i : Int) : ∀ {P : List Post}, (P.map (·.1)).Nodup → ((addN P n i).map (·.1)).Nodup := by
 unfold addN
 induction n with
 | nil => intro P h; exact h
 | cons t n ih => intro P h; exact ih (addT_nodup h t i)
theorem postsF_nodup (names : List (List Tag)) : ∀ m, ((postsF names m).map (·.1)).Nodup
 | 0 => by simp [postsF]
 | m + 1 => addN_nodup _ _ (postsF_nodup names m)
def bnd (P : List Post) (c : Nat) : Prop := P.length ≤ c ∧ ∀ p ∈ P, p.2.length ≤ c
theorem bnd_addT {P : List Post} {c : Nat} (h : bnd P c) (t : Tag) (i : Int) : bnd (addT P t i) (c + 1) := by
 obtain ⟨h1, h2⟩ := h
 have len : (addT P t i).length ≤ P.length + 1 := by
  clear h1 h2
  induction P with
  | nil => simp [addT]
  | cons p P ih => unfold addT; split <;> simp <;> omega
 refine ⟨by omega, ?_⟩
 clear len h1
 induction P with
 | nil => intro p hp; simp [addT] at hp; subst hp; simp
 | cons q P ih =>
  intro p hp
  unfold addT at hp
  split at hp
  ·rcases List.mem_cons.1 hp with rfl | hp
   ·have := h2 q (List.mem_cons_self ..)
    simp; omega
   ·have := h2 p (List.mem_cons_of_mem _ hp); omega
  ·rcases List.mem_cons.1 hp with rfl | hp
   ·have := h2 p (List.mem_cons_self ..); omega
   ·exact ih (fun r hr => h2 r (List.mem_cons_of_mem _ hr)) p hp
theorem addT_none {P : List Post} {t : Tag} (i : Int) (h : ∀ k, k < P.length → (nth P k).1 ≠ t) : addT P t i = P ++ [(t, [i])] := by
 induction P with
 | nil => rfl
 | cons p P ih =>
  have h0 : p.1 ≠ t := h 0 (by simp)
  unfold addT
  rw [if_neg h0, ih (fun k hk => h (k + 1) (by simp; omega))]; rfl
theorem addT_some {P : List Post} {t : Tag} (i : Int) : ∀ {k : Nat}, k < P.length → (nth P k).1 = t → (∀ j, j < k → (nth P j).1 ≠ t) → addT P t i = P.set k ((nth P k).1, (nth P k).2 ++ [i]) := by
 induction P with
 | nil => intro k hk; simp at hk
 | cons p P ih =>
  intro k hk he hn
  cases k with
  | zero =>
   have he : p.1 = t := he
   unfold addT; rw [if_pos he]; rfl
  | succ k =>
   have h0 : p.1 ≠ t := hn 0 (by omega)
   unfold addT
   rw [if_neg h0, ih (k := k) (by simpa using hk) he (fun j hj => hn (j + 1) (by omega))]
   rfl
theorem e_IndexFunc1 (P : List Post) (t : Tag) (hP : P.length ≤ 4194304) : (∃ k : Nat, k < P.length ∧ (nth P k).1 = t ∧ (∀ j, j < k → (nth P j).1 ≠ t) ∧ p_slices_IndexFunc_Post_Post_indexOf_1 P t = some (k : Int)) ∨ ((∀ k, k < P.length → (nth P k).1 ≠ t) ∧ p_slices_IndexFunc_Post_Post_indexOf_1 P t = some (-1)) := by
 have hr : ∀ k, k < P.length → p_slices_IndexFunc_Post_Post_indexOf_1_b0 P t (k : Int) = some (if decide ((nth P k).1 = t) then .inr (.inr (k : Int)) else .inl ((k + 1 : Nat) : Int)) := fun k hk => by
  unfold p_slices_IndexFunc_Post_Post_indexOf_1_b0 p_impl_indexOf_1
  simp only [dlt hk, cond_true, gd.yes (ixN hk), Int.toNat_natCast, bd_some, gd.yes (i64S hk (by omega))]
  by_cases h : (nth P k).1 = t <;> simp [h]
 unfold p_slices_IndexFunc_Post_Post_indexOf_1
 rcases lp_scan (body := p_slices_IndexFunc_Post_Post_indexOf_1_b0 P t) (fun k => (k : Int)) P.length (fun k => decide ((nth P k).1 = t)) (.inl ()) (fun k => .inr (k : Int)) (fun k hk _ h => by simp [hr k hk, of_decide_eq_false h]) (fun k hk _ h => by rw [hr k hk, if_pos h]) (fun _ => by unfold p_slices_IndexFunc_Post_Post_indexOf_1_b0; simp) with ⟨h1, h2⟩ | ⟨h1, k, hk, hb, hn, h2⟩
 ·exact .inr ⟨fun k hk => of_decide_eq_false (allN_iff.1 h1 k hk), by rw [show (lp (p_slices_IndexFunc_Post_Post_indexOf_1_b0 P t) 0) = _ from h2]; rfl⟩
 ·exact .inl ⟨k, hk, of_decide_eq_true hb, fun j hj => of_decide_eq_false (hn j hj), by rw [show (lp (p_slices_IndexFunc_Post_Post_indexOf_1_b0 P t) 0) = _ from h2]; rfl⟩
theorem e_tags (names : List (List Tag)) (Q : List Post) (m : Nat) (hm : m < 4194304) (c : Nat) (n : List Tag) (hn : n = nth names m) (hc : c + n.length ≤ 4194304) : ∀ (r j : Nat) (P : List Post), j + r = n.length → bnd P (c + j) →
  lp (p_impl_indexOf_b1 names (Q, (m : Int))) (P, (j : Int)) = some (addN P (n.drop j) ((m : Int) + 1)) ∧ bnd (addN P (n.drop j) ((m : Int) + 1)) (c + n.length)
 | 0, j, P, hj, hb => by
  have : n.drop j = [] := List.drop_eq_nil_of_le (by omega)
  rw [this]
  refine ⟨lp.stop ?_, by rw [show c + n.length = c + j by omega]; exact hb⟩
  unfold p_impl_indexOf_b1
  simp only [Int.toNat_natCast, ← hn]
  rw [decide_eq_false (show ¬ ((j : Int) < (n.length : Int)) by omega)]; rfl
 | r + 1, j, P, hj, hb => by
  have hjn : j < n.length := by omega
  have hd : n.drop j = nth n j :: n.drop (j + 1) := by rw [nth_eq n j hjn]; exact List.drop_eq_getElem_cons hjn
  have hP1 := hb.1
  have step : p_impl_indexOf_b1 names (Q, (m : Int)) (P, (j : Int)) = some (.inl (addT P (nth n j) ((m : Int) + 1), ((j + 1 : Nat) : Int))) := by
   unfold p_impl_indexOf_b1
   simp only [Int.toNat_natCast, ← hn, dlt hjn, cond_true, gd.yes (ixN hjn)]
   rcases e_IndexFunc1 P (nth n j) (by omega) with ⟨k, hk, he, hno, hf⟩ | ⟨hno, hf⟩
   ·have hl := hb.2 _ (nth_mem hk)
    rw [hf]
    simp only [bd_some]
    rw [decide_eq_false (show ¬ ((k : Int) < 0) by omega)]
    rw [cond_false, gd.yes (ixN hk)]
    simp only [Int.toNat_natCast]
    rw [gd.yes (by unfold I64; omega), gd.yes (by unfold room; omega), gd.yes (by unfold I64; omega), addT_some _ hk he hno]
    rfl
   ·rw [hf]
    simp only [bd_some]
    rw [decide_eq_true (show ((-1 : Int) < 0) by omega)]
    have e1 : nth (P ++ [(nth n j, ([] : List Int))]) P.length = (nth n j, []) := nth_append_new
    simp only [cond_true, e1, List.nil_append, List.length_nil]
    rw [gd.yes (by unfold room; omega), gd.yes (by unfold ix; simp; omega), gd.yes (by unfold I64; omega), gd.yes (by unfold room; omega), gd.yes (by unfold I64; omega), addT_none _ hno]
    simp
  rw [lp.step step, hd, addN_cons]
  exact e_tags names Q m hm c n hn hc r (j + 1) _ (by omega) (by rw [← Nat.add_assoc]; exact bnd_addT hb _ _)
theorem e_posts (names : List (List Tag)) (hN : names.length ≤ 4194304) (hs : sumN names.length (fun i => (nth names i).length) ≤ 4194304) : ∀ m, m ≤ names.length → bnd (postsF names m) (sumN m fun i => (nth names i).length) ∧ lp (p_impl_indexOf_b0 names) (([] : List Post), (0 : Int)) = lp (p_impl_indexOf_b0 names) (postsF names m, (m : Int))
 | 0, _ => ⟨⟨by simp [postsF], fun p hp => by simp [postsF] at hp⟩, rfl⟩
 | m + 1, hm => by
  obtain ⟨b, e⟩ := e_posts names hN hs m (by omega)
  have hmn : m < names.length := by omega
  have hle : sumN m (fun i => (nth names i).length) + (nth names m).length ≤ sumN names.length (fun i => (nth names i).length) := sumN_lt hmn
  obtain ⟨t1, t2⟩ := e_tags names (postsF names m) m (by omega) _ (nth names m) rfl (by omega) (nth names m).length 0 (postsF names m) (by omega) b
  rw [List.drop_zero] at t1 t2
  refine ⟨t2, ?_⟩
  rw [e, lp.step (s' := (postsF names (m + 1), ((m + 1 : Nat) : Int)))]
  rw [postsF_succ]
  unfold p_impl_indexOf_b0
  rw [show ((0 : Nat) : Int) = 0 from rfl] at t1
  rw [dlt hmn, cond_true, gd.yes (ixN hmn), bd.yes t1]
  rw [gd.yes (by unfold I64; omega), addI]
theorem e_indexOf (names : List (List Tag)) (hN : names.length ≤ 4194304) (hs : sumN names.length (fun i => (nth names i).length) ≤ 4194304) : p_impl_indexOf names = some (indexP names) := by
 have hn : ∀ n ∈ names, n.length ≤ 4194304 := fun n h => by
  obtain ⟨i, hi, rfl⟩ := List.mem_iff_getElem.1 h
  have := sumN_get (f := fun i => (nth names i).length) hi
  simp only [nth_eq names i hi] at this
  omega
 obtain ⟨b, e⟩ := e_posts names hN hs names.length (Nat.le_refl _)
 unfold p_impl_indexOf
 rw [e_impl_cloneNames names hN hn]
 simp only [bd_some]
 rw [e, lp.stop (e := postsF names names.length) (by
  unfold p_impl_indexOf_b0
  rw [decide_eq_false (show ¬ ((names.length : Int) < (names.length : Int)) by omega)]; rfl)]
 simp only [bd_some]
 have hl := b.1
 unfold p_slices_SortFunc_Post_Post_indexOf_2 sortP
 rw [gd.yes (show room (postsF names names.length).length by unfold room; omega), gd.yes (postsF_nodup names _)]
 rfl
def textK (n : List Tag) : Nat → ByteArray
 | 0 => ⟨#[]⟩
 | m + 1 => (((if 0 < m then textK n m ++ ⟨#[44]⟩ else textK n m) ++ (nth n m).1) ++ ⟨#[61]⟩) ++ (nth n m).2
def textN (n : List Tag) : ByteArray := textK n n.length
theorem textK_size (n : List Tag) : ∀ m, (textK n m).size ≤ 2 * m + sumN m fun i => (nth n i).1.size + (nth n i).2.size
 | 0 => Nat.zero_le _
 | m + 1 => by
  have ih := textK_size n m
  show ((((if 0 < m then textK n m ++ ⟨#[44]⟩ else textK n m) ++ (nth n m).1) ++ ⟨#[61]⟩) ++ (nth n m).2).size ≤ 2 * (m + 1) + (sumN m (fun i => (nth n i).1.size + (nth n i).2.size) + ((nth n m).1.size + (nth n m).2.size))
  have e1 : ((⟨#[61]⟩ : ByteArray)).size = 1 := rfl
  have e2 : ((⟨#[44]⟩ : ByteArray)).size = 1 := rfl
  split
  ·simp only [ByteArray.size_append, e1, e2]; omega
  ·simp only [ByteArray.size_append, e1]; omega
theorem textK_pos {n : List Tag} {m : Nat} (h : 0 < m) : textK n (m + 1) = (((textK n m ++ ⟨#[44]⟩) ++ (nth n m).1) ++ ⟨#[61]⟩) ++ (nth n m).2 := by
 show (((if 0 < m then textK n m ++ ⟨#[44]⟩ else textK n m) ++ (nth n m).1) ++ ⟨#[61]⟩) ++ (nth n m).2 = _
 rw [if_pos h]
theorem textK_neg {n : List Tag} {m : Nat} (h : ¬ 0 < m) : textK n (m + 1) = ((textK n m ++ (nth n m).1) ++ ⟨#[61]⟩) ++ (nth n m).2 := by
 show (((if 0 < m then textK n m ++ ⟨#[44]⟩ else textK n m) ++ (nth n m).1) ++ ⟨#[61]⟩) ++ (nth n m).2 = _
 rw [if_neg h]
theorem w_name (n : List Tag) : Wt.w n = n.length + sumN n.length fun i => (nth n i).1.size + (nth n i).2.size := rfl
theorem e_spec_l3Text (n : List Tag) (hw : Wt.w n ≤ 4194304) : p_spec_l3Text n = some (textN n) := by
 rw [w_name] at hw
 unfold p_spec_l3Text textN
 have e44 : ((⟨#[44]⟩ : ByteArray)).size = 1 := rfl
 have e61 : ((⟨#[61]⟩ : ByteArray)).size = 1 := rfl
 rw [show ((⟨#[]⟩ : ByteArray), (0 : Int)) = (textK n 0, ((0 : Nat) : Int)) from rfl, lp_for (fun k => (textK n k, (k : Int))) n.length (textK n n.length) (fun m hm => by
  have h1 := textK_size n m
  have h2 : (sumN m fun i => (nth n i).1.size + (nth n i).2.size) + ((nth n m).1.size + (nth n m).2.size) ≤ sumN n.length fun i => (nth n i).1.size + (nth n i).2.size := sumN_lt (f := fun i => (nth n i).1.size + (nth n i).2.size) hm
  unfold p_spec_l3Text_b0
  rw [dlt hm, cond_true]
  by_cases h0 : 0 < m
  ·rw [decide_eq_true (show (0 : Int) < (m : Int) by omega), cond_true]
   rw [gd.yes (by simp only [room, e44]; omega), gd.yes (ixN hm), gd.yes (by simp only [room, ByteArray.size_append, e44, Int.toNat_natCast]; omega), gd.yes (by simp only [room, ByteArray.size_append, e44, e61, Int.toNat_natCast]; omega), gd.yes (by simp only [room, ByteArray.size_append, e44, e61, Int.toNat_natCast]; omega), gd.yes (by unfold I64; omega), addI]
   rw [textK_pos h0]
   rfl
  ·rw [decide_eq_false (show ¬ (0 : Int) < (m : Int) by omega), cond_false]
   rw [gd.yes (ixN hm), gd.yes (by simp only [room, Int.toNat_natCast]; omega), gd.yes (by simp only [room, ByteArray.size_append, e61, Int.toNat_natCast]; omega), gd.yes (by simp only [room, ByteArray.size_append, e61, Int.toNat_natCast]; omega), gd.yes (by unfold I64; omega), addI]
   rw [textK_neg h0]
   rfl) (by unfold p_spec_l3Text_b0; rw [decide_eq_false (show ¬ ((n.length : Int) < (n.length : Int)) by omega)]; rfl)]
 rfl
def oneB (t : Tag) : Prop := t.1.size = 1 ∧ t.2.size = 1
theorem tagB_one {t : Tag} (h : tagB t = true) : oneB t := by
 unfold tagB at h
 simp only [Bool.and_eq_true, decide_eq_true_eq] at h
 exact ⟨h.1, h.2.1⟩
theorem nameOk_tags {n : List Tag} (h : nameOk n = true) : ∀ t ∈ n, tagB t = true := by
 intro t ht
 unfold nameOk at h
 simp only [Bool.and_eq_true] at h
 obtain ⟨i, hi, rfl⟩ := List.mem_iff_getElem.1 ht
 have := allN_iff.1 h.1 i hi
 unfold nameBad at this
 simp only [Bool.or_eq_false_iff] at this
 rw [← nth_eq n i hi]
 simpa using this.1
theorem nameOk_len {n : List Tag} (h : nameOk n = true) : 1 ≤ n.length ∧ n.length ≤ 3 := by
 unfold nameOk inn at h
 simp only [Bool.and_eq_true, decide_eq_true_eq] at h
 omega
def kb (t : Tag) : UInt8 := sb t.1 0
def vb (t : Tag) : UInt8 := sb t.2 0
def bytesT : List Tag → List UInt8
 | [] => []
 | [t] => [kb t, 61, vb t]
 | t :: u :: r => kb t :: 61 :: vb t :: 44 :: bytesT (u :: r)
theorem bytesT_snoc (l : List Tag) (t : Tag) : bytesT (l ++ [t]) = if l = [] then [kb t, 61, vb t] else bytesT l ++ [44, kb t, 61, vb t] := by
 induction l with
 | nil => rfl
 | cons u l ih =>
  cases l with
  | nil => rfl
  | cons v l =>
   simp only [List.cons_append, bytesT] at ih ⊢
   rw [ih]
   simp
theorem one_bytes {x : ByteArray} (h : x.size = 1) : x.data.toList = [sb x 0] := by
 have := ba_one h
 generalize sb x 0 = c at *
 subst this; rfl
theorem textK_bytes (n : List Tag) (h1 : ∀ t ∈ n, oneB t) : ∀ m, m ≤ n.length → (textK n m).data.toList = bytesT (n.take m)
 | 0, _ => rfl
 | m + 1, hm => by
  have hmn : m < n.length := by omega
  have ih := textK_bytes n h1 m (by omega)
  obtain ⟨o1, o2⟩ := h1 _ (nth_mem hmn)
  rw [take_succ_nth hmn, bytesT_snoc]
  unfold textK
  have e1 := one_bytes o1
  have e2 := one_bytes o2
  by_cases h0 : 0 < m
  ·have hne : n.take m ≠ [] := fun e => by have := congrArg List.length e; rw [List.length_take, List.length_nil] at this; omega
   rw [if_pos h0, if_neg hne]
   simp only [ByteArray.data_append, Array.toList_append, ih, e1, e2]
   simp [kb, vb]
  ·have hm0 : m = 0 := by omega
   subst hm0
   simp only [ByteArray.data_append, Array.toList_append, e1, e2]
   simp [textK, kb, vb]
theorem tag_ext {t u : Tag} (h1 : oneB t) (h2 : oneB u) (hk : kb t = kb u) (hv : vb t = vb u) : t = u := by
 have a1 := ba_one h1.1
 have a2 := ba_one h1.2
 have b1 := ba_one h2.1
 have b2 := ba_one h2.2
 refine Prod.ext ?_ ?_
 ·rw [a1, b1]; unfold kb at hk; rw [hk]
 ·rw [a2, b2]; unfold vb at hv; rw [hv]
theorem bytesT_inj : ∀ {a b : List Tag}, (∀ t ∈ a, oneB t) → (∀ t ∈ b, oneB t) → bytesT a = bytesT b → a = b
 | [], [], _, _, _ => rfl
 | [], [t], _, _, h => by simp [bytesT] at h
 | [], t :: u :: r, _, _, h => by simp [bytesT] at h
 | [t], [], _, _, h => by simp [bytesT] at h
 | t :: u :: r, [], _, _, h => by simp [bytesT] at h
 | [t], [u], ha, hb, h => by
  simp only [bytesT, List.cons.injEq, and_true, true_and] at h
  rw [tag_ext (ha t (by simp)) (hb u (by simp)) h.1 h.2]
 | [t], u :: v :: r, _, _, h => by simp [bytesT] at h
 | t :: u :: r, [v], _, _, h => by simp [bytesT] at h
 | t :: u :: r, v :: w :: q, ha, hb, h => by
  simp only [bytesT, List.cons.injEq, true_and] at h
  rw [tag_ext (ha t (by simp)) (hb v (by simp)) h.1 h.2.1, bytesT_inj (a := u :: r) (b := w :: q) (fun x hx => ha x (List.mem_cons_of_mem _ hx)) (fun x hx => hb x (List.mem_cons_of_mem _ hx)) h.2.2]
theorem textN_inj {a b : List Tag} (ha : ∀ t ∈ a, oneB t) (hb : ∀ t ∈ b, oneB t) (h : textN a = textN b) : a = b := by
 have e1 := textK_bytes a ha a.length (Nat.le_refl _)
 have e2 := textK_bytes b hb b.length (Nat.le_refl _)
 rw [List.take_length] at e1 e2
 refine bytesT_inj ha hb ?_
 rw [← e1, ← e2]
 show (textN a).data.toList = (textN b).data.toList
 rw [h]
theorem text_eq {a b : List Tag} (ha : nameOk a = true) (hb : nameOk b = true) : decide (textN a = textN b) = decide (a = b) := by
 by_cases h : a = b
 ·subst h; simp
 ·have : textN a ≠ textN b := fun e => h (textN_inj (fun t ht => tagB_one (nameOk_tags ha t ht)) (fun t ht => tagB_one (nameOk_tags hb t ht)) e)
  simp [h, this]
def idsN (names : List (List Tag)) (t : Tag) : Nat → List Int
 | 0 => []
 | m + 1 => idsN names t m ++ (if hasT (nth names m) t then [(m : Int) + 1] else [])
theorem idsN_succ (names : List (List Tag)) (t : Tag) (m : Nat) : idsN names t (m + 1) = idsN names t m ++ (if hasT (nth names m) t then [(m : Int) + 1] else []) := rfl
theorem idsN_len (names : List (List Tag)) (t : Tag) : ∀ m, (idsN names t m).length ≤ m
 | 0 => Nat.le_refl _
 | m + 1 => by
  have := idsN_len names t m
  rw [idsN_succ]
  split <;> simp <;> omega
theorem e_spec_l11Ids (names : List (List Tag)) (t : Tag) (h1 : names.length ≤ 4194304) (h2 : ∀ n ∈ names, n.length ≤ 4194304) : p_spec_l11Ids names t = some (idsN names t names.length) := by
 unfold p_spec_l11Ids
 rw [show (([] : List Int), (0 : Int)) = (idsN names t 0, ((0 : Nat) : Int)) from rfl, lp_for (fun k => (idsN names t k, (k : Int))) names.length (idsN names t names.length) (fun m hm => by
  have hl := h2 _ (nth_mem hm)
  have hi := idsN_len names t m
  unfold p_spec_l11Ids_b0
  rw [dlt hm, cond_true, gd.yes (ixN hm)]
  simp only [Int.toNat_natCast]
  rw [bd.yes (e_spec_l3Has (nth names m) t (by unfold maxLen; omega))]
  cases hc : hasT (nth names m) t with
  | true =>
   rw [cond_true, gd.yes (by unfold I64; omega), gd.yes (by unfold room; omega), idsN_succ, if_pos hc, addI]
  | false =>
   rw [cond_false, gd.yes (by unfold I64; omega), addI, idsN_succ, if_neg (by rw [hc]; simp), List.append_nil]) (by
  unfold p_spec_l11Ids_b0; rw [decide_eq_false (show ¬ ((names.length : Int) < (names.length : Int)) by omega)]; rfl)]
 rfl
def idsAt : List Post → Tag → List Int
 | [], _ => []
 | p :: P, t => if p.1 = t then p.2 else idsAt P t
theorem idsAt_addT (P : List Post) (t : Tag) (i : Int) (u : Tag) : idsAt (addT P t i) u = if u = t then idsAt P u ++ [i] else idsAt P u := by
 induction P with
 | nil =>
  unfold addT idsAt
  by_cases h : t = u
  ·subst h; simp
  ·have h' : ¬ u = t := fun e => h e.symm
   simp [h, h', idsAt]
 | cons p P ih =>
  unfold addT
  by_cases hp : p.1 = t
  ·rw [if_pos hp]
   by_cases hu : u = t
   ·subst hu; simp [idsAt, hp]
   ·have : ¬ p.1 = u := fun e => hu (e ▸ hp)
    simp [idsAt, this, hu]
  ·rw [if_neg hp]
   by_cases hu : p.1 = u
   ·have : ¬ u = t := fun e => hp (hu.trans e)
    simp [idsAt, hu, this]
   ·simp only [idsAt, if_neg hu, ih]
theorem idsAt_addN (n : List Tag) (i : Int) (u : Tag) : ∀ {P : List Post}, n.Nodup → idsAt (addN P n i) u = if hasT n u then idsAt P u ++ [i] else idsAt P u := by
 induction n with
 | nil => intro P _; rfl
 | cons t n ih =>
  intro P hn
  rw [List.nodup_cons] at hn
  rw [addN_cons, ih hn.2, idsAt_addT]
  have hc : hasT (t :: n) u = (decide (t = u) || hasT n u) := rfl
  rw [hc]
  by_cases h1 : u = t
  ·subst h1
   rw [hasT_no hn.1]; simp
  ·have h2 : ¬ t = u := fun e => h1 e.symm
   simp [h1, h2]
def dist (names : List (List Tag)) : Prop := ∀ n ∈ names, n.Nodup
theorem idsAt_posts {names : List (List Tag)} (hd : dist names) (u : Tag) : ∀ m, m ≤ names.length → idsAt (postsF names m) u = idsN names u m
 | 0, _ => rfl
 | m + 1, hm => by
  rw [postsF_succ, idsAt_addN _ _ _ (hd _ (nth_mem (show m < names.length by omega))), idsAt_posts hd u m (by omega)]
  rw [idsN_succ]
  cases h : hasT (nth names m) u with
  | true => simp
  | false => simp
theorem idsAt_mem {P : List Post} (hn : (P.map (·.1)).Nodup) {p : Post} (hp : p ∈ P) : idsAt P p.1 = p.2 := by
 induction P with
 | nil => cases hp
 | cons q P ih =>
  rw [List.map_cons, List.nodup_cons] at hn
  rcases List.mem_cons.1 hp with rfl | hp
  ·simp [idsAt]
  ·have : ¬ q.1 = p.1 := fun e => hn.1 (e ▸ List.mem_map_of_mem hp)
   simp only [idsAt, if_neg this]
   exact ih hn.2 hp
theorem idsAt_some {P : List Post} {t : Tag} (h : idsAt P t ≠ []) : ∃ p ∈ P, p.1 = t := by
 induction P with
 | nil => exact absurd rfl h
 | cons q P ih =>
  by_cases e : q.1 = t
  ·exact ⟨q, List.mem_cons_self .., e⟩
  ·simp only [idsAt, if_neg e] at h
   obtain ⟨p, hp, h1⟩ := ih h
   exact ⟨p, List.mem_cons_of_mem _ hp, h1⟩
theorem addT_ne {P : List Post} (h : ∀ p ∈ P, p.2 ≠ []) (t : Tag) (i : Int) : ∀ p ∈ addT P t i, p.2 ≠ [] := by
 induction P with
 | nil => intro p hp; simp [addT] at hp; subst hp; simp
 | cons q P ih =>
  intro p hp
  unfold addT at hp
  split at hp
  ·rcases List.mem_cons.1 hp with rfl | hp
   ·simp
   ·exact h p (List.mem_cons_of_mem _ hp)
  ·rcases List.mem_cons.1 hp with rfl | hp
   ·exact h p (List.mem_cons_self ..)
   ·exact ih (fun r hr => h r (List.mem_cons_of_mem _ hr)) p hp
theorem addN_ne (n : List Tag) (i : Int) : ∀ {P : List Post}, (∀ p ∈ P, p.2 ≠ []) → ∀ p ∈ addN P n i, p.2 ≠ [] := by
 induction n with
 | nil => intro P h; exact h
 | cons t n ih => intro P h; rw [addN_cons]; exact ih (addT_ne h t i)
theorem posts_ne (names : List (List Tag)) : ∀ m, ∀ p ∈ postsF names m, p.2 ≠ []
 | 0 => fun p hp => by cases hp
 | m + 1 => by rw [postsF_succ]; exact addN_ne _ _ (posts_ne names m)
def sumL : List Post → Nat
 | [] => 0
 | p :: P => p.2.length + sumL P
theorem sumL_append (P Q : List Post) : sumL (P ++ Q) = sumL P + sumL Q := by
 induction P with
 | nil => simp [sumL]
 | cons p P ih => simp only [List.cons_append, sumL, ih]; omega
theorem sumL_perm {P Q : List Post} (h : P.Perm Q) : sumL P = sumL Q := by
 induction h with
 | nil => rfl
 | cons x _ ih => simp only [sumL, ih]
 | swap x y l => simp only [sumL]; omega
 | trans _ _ h1 h2 => exact h1.trans h2
theorem sumL_addT (P : List Post) (t : Tag) (i : Int) : sumL (addT P t i) = sumL P + 1 := by
 induction P with
 | nil => rfl
 | cons p P ih =>
  unfold addT
  split
  ·simp only [sumL, List.length_append, List.length_cons, List.length_nil]; omega
  ·simp only [sumL, ih]; omega
theorem sumL_addN (n : List Tag) (i : Int) : ∀ (P : List Post), sumL (addN P n i) = sumL P + n.length := by
 induction n with
 | nil => intro P; rfl
 | cons t n ih => intro P; rw [addN_cons, ih, sumL_addT, List.length_cons]; omega
theorem sumL_posts (names : List (List Tag)) : ∀ m, sumL (postsF names m) = sumN m fun i => (nth names i).length
 | 0 => rfl
 | m + 1 => by
  rw [postsF_succ, sumL_addN, sumL_posts names m]; rfl
structure Canon (names : List (List Tag)) (C : List Post) : Prop where
 ord : C.Pairwise fun x y => ltTag x.1 y.1 = true
 ids : ∀ p ∈ C, p.2 = idsN names p.1 names.length ∧ p.2 ≠ []
 all : ∀ t, idsN names t names.length ≠ [] → ∃ p ∈ C, p.1 = t
theorem canon_posts {names : List (List Tag)} (hd : dist names) : Canon names (indexP names).2 := by
 have hn := postsF_nodup names names.length
 have hp := List.mergeSort_perm (postsF names names.length) leP
 have hs : ((postsF names names.length).mergeSort leP).Pairwise fun x y => leP x y = true := List.pairwise_mergeSort (fun a b c h1 h2 => by
  simp only [leP, Bool.not_eq_true'] at *; exact ltTag_nt h2 h1) (fun a b => by
  simp only [leP, Bool.or_eq_true, Bool.not_eq_true']
  cases h : ltTag b.1 a.1 with
  | false => exact .inl rfl
  | true => exact .inr (ltTag_asym h)) _
 have hn2 : (((postsF names names.length).mergeSort leP).map (·.1)).Nodup := (hp.map _).nodup_iff.2 hn
 refine ⟨?_, fun p hp' => ?_, fun t ht => ?_⟩
 ·show ((postsF names names.length).mergeSort leP).Pairwise _
  have hne : ((postsF names names.length).mergeSort leP).Pairwise fun x y => x.1 ≠ y.1 := by
   unfold List.Nodup at hn2
   rwa [List.pairwise_map] at hn2
  refine (hs.and hne).imp ?_
  intro x y h
  have h1 := h.1
  simp only [leP, Bool.not_eq_true'] at h1
  cases hc : ltTag x.1 y.1 with
  | true => rfl
  | false => exact absurd (ltTag_anti hc h1) h.2
 ·have hm : p ∈ postsF names names.length := hp.mem_iff.1 hp'
  exact ⟨by rw [← idsAt_posts hd p.1 _ (Nat.le_refl _), idsAt_mem hn hm], posts_ne names _ p hm⟩
 ·rw [← idsAt_posts hd t _ (Nat.le_refl _)] at ht
  obtain ⟨p, h1, h2⟩ := idsAt_some ht
  exact ⟨p, hp.mem_iff.2 h1, h2⟩
theorem canon_eq {names : List (List Tag)} {C D : List Post} (hc : Canon names C) (hd : Canon names D) : C = D := by
 have nd : ∀ {E : List Post}, Canon names E → E.Nodup := fun h => h.ord.imp fun {a b} k e => by subst e; rw [ltTag_irr] at k; cases k
 have sub : ∀ {E F : List Post}, Canon names E → Canon names F → ∀ p ∈ E, p ∈ F := fun {E F} hE hF p hp => by
  obtain ⟨e1, e2⟩ := hE.ids p hp
  obtain ⟨q, hq, e3⟩ := hF.all p.1 (e1 ▸ e2)
  have e4 := (hF.ids q hq).1
  have : q = p := Prod.ext e3 (by rw [e4, e3, e1])
  rwa [← this]
 have hperm : C.Perm D := (List.perm_ext_iff_of_nodup (nd hc) (nd hd)).2 fun p => ⟨sub hc hd p, sub hd hc p⟩
 refine List.Perm.eq_of_pairwise (le := fun x y => ltTag x.1 y.1 = true) ?_ hc.ord hd.ord hperm
 intro a b _ _ h1 h2
 have := ltTag_asym h1
 rw [h2] at this; cases this
theorem sub_sum : ∀ {C A : List Post}, A.Nodup → (∀ p ∈ A, p ∈ C) → sumL A ≤ sumL C
 | [], A, _, h => by
  have : A = [] := List.eq_nil_iff_forall_not_mem.2 fun p hp => by cases h p hp
  rw [this]; exact Nat.le_refl _
 | c :: C, A, hn, h => by
  by_cases hc : c ∈ A
  ·obtain ⟨A1, A2, rfl⟩ := List.append_of_mem hc
   have hn' := hn
   rw [List.nodup_append] at hn
   obtain ⟨n1, n2, n3⟩ := hn
   rw [List.nodup_cons] at n2
   have hnd : (A1 ++ A2).Nodup := by
    rw [List.nodup_append]
    exact ⟨n1, n2.2, fun a ha b hb => n3 a ha b (List.mem_cons_of_mem _ hb)⟩
   have ih := sub_sum (C := C) (A := A1 ++ A2) hnd (fun p hp => by
    have hpc : p ≠ c := fun e => by
     subst e
     rcases List.mem_append.1 hp with q | q
     ·exact n3 p q p (List.mem_cons_self ..) rfl
     ·exact n2.1 q
    have hp' : p ∈ A1 ++ c :: A2 := by
     rcases List.mem_append.1 hp with q | q
     ·exact List.mem_append_left _ q
     ·exact List.mem_append_right _ (List.mem_cons_of_mem _ q)
    rcases List.mem_cons.1 (h p hp') with e | q
    ·exact absurd e hpc
    ·exact q)
   rw [sumL_append] at ih ⊢
   simp only [sumL] at ih ⊢
   omega
  ·have ih := sub_sum (C := C) (A := A) hn (fun p hp => by
    rcases List.mem_cons.1 (h p hp) with e | q
    ·exact absurd (e ▸ hp) hc
    ·exact q)
   simp only [sumL]; omega
theorem canon_of_sum {names : List (List Tag)} {C P : List Post} (hc : Canon names C) (ord : P.Pairwise fun x y => ltTag x.1 y.1 = true) (ids : ∀ p ∈ P, p.2 = idsN names p.1 names.length ∧ p.2 ≠ []) (hs : sumL P = sumL C) : P = C := by
 have nd : P.Nodup := ord.imp fun {a b} k e => by subst e; rw [ltTag_irr] at k; cases k
 have sub : ∀ p ∈ P, p ∈ C := fun p hp => by
  obtain ⟨e1, e2⟩ := ids p hp
  obtain ⟨q, hq, e3⟩ := hc.all p.1 (e1 ▸ e2)
  have : q = p := Prod.ext e3 (by rw [(hc.ids q hq).1, e3, e1])
  rwa [← this]
 refine canon_eq ⟨ord, ids, fun t ht => ?_⟩ hc
 obtain ⟨c, h1, h2⟩ := hc.all t ht
 by_cases hm : c ∈ P
 ·exact ⟨c, hm, h2⟩
 ·have := sub_sum (C := C) (A := c :: P) (List.nodup_cons.2 ⟨hm, nd⟩) (fun p hp => by
   rcases List.mem_cons.1 hp with rfl | hp
   ·exact h1
   ·exact sub p hp)
  simp only [sumL] at this
  have h3 : 0 < c.2.length := List.length_pos_iff.2 (hc.ids c h1).2
  omega
theorem nameOk_nodup {n : List Tag} (h : nameOk n = true) : n.Nodup := by
 unfold nameOk at h
 simp only [Bool.and_eq_true] at h
 have hk : ∀ i, i < n.length → nameBad n i = false := allN_iff.1 h.1
 have step : ∀ i, i + 1 < n.length → sless (nth n i).1 (nth n (i + 1)).1 = true := fun i hi => by
  have := hk (i + 1) hi
  unfold nameBad at this
  simp only [Nat.zero_lt_succ, decide_true, Bool.true_and, Nat.add_sub_cancel, Bool.or_eq_false_iff, Bool.not_eq_false'] at this
  exact this.2
 have lt : ∀ d i, i + d + 1 < n.length → sless (nth n i).1 (nth n (i + d + 1)).1 = true := by
  intro d
  induction d with
  | zero => intro i hi; exact step i hi
  | succ d ih => intro i hi; exact sless_trans (ih i (by omega)) (step (i + d + 1) (by omega))
 unfold List.Nodup
 rw [List.pairwise_iff_getElem]
 intro i j hi hj hij e
 obtain ⟨d, rfl⟩ : ∃ d, j = i + d + 1 := ⟨j - i - 1, by omega⟩
 have := lt d i hj
 rw [nth_eq n i hi, nth_eq n _ hj, ← e, sless_irr] at this
 cases this
theorem w_names {names : List (List Tag)} (hw : Wt.w names ≤ 4194304) : names.length ≤ 4194304 ∧ (∀ n ∈ names, n.length ≤ 4194304 ∧ Wt.w n ≤ 4194304) ∧ sumN names.length (fun i => (nth names i).length) ≤ 4194304 := by
 have e : Wt.w names = names.length + sumN names.length fun i => Wt.w (nth names i) := rfl
 rw [e] at hw
 refine ⟨by omega, fun n hn => ?_, ?_⟩
 ·obtain ⟨i, hi, rfl⟩ := List.mem_iff_getElem.1 hn
  have h1 := sumN_get (f := fun i => Wt.w (nth names i)) hi
  simp only [nth_eq names i hi] at h1
  have h2 : names[i].length ≤ Wt.w names[i] := wL_le
  omega
 ·have : sumN names.length (fun i => (nth names i).length) ≤ sumN names.length (fun i => Wt.w (nth names i)) := sumN_mono fun i _ => wL_le
  omega
theorem e_Equal_Tag (a b : List Tag) (ha : a.length ≤ 4194304) : p_slices_Equal_Tag_Tag a b = some (decide (a = b)) := by
 unfold p_slices_Equal_Tag_Tag
 by_cases hl : a.length = b.length
 ·have hl2 : (a.length : Int) = (b.length : Int) := by omega
  rw [decide_eq_true hl2, Bool.not_true, cond_false]
  refine eq_loop hl (fun k hk => ?_) ?_
  ·have hk2 : k < b.length := by omega
   unfold p_slices_Equal_Tag_Tag_b0
   simp only [dlt hk, cond_true, gd.yes (ixN hk), gd.yes (ixN hk2), Int.toNat_natCast, gd.yes (i64S hk (show a.length ≤ 9223372036854775807 by omega))]
   by_cases h : nth a k = nth b k <;> simp [h]
  ·unfold p_slices_Equal_Tag_Tag_b0; simp
 ·have h2 : ¬ (a.length : Int) = (b.length : Int) := by omega
  have h3 : a ≠ b := fun e => hl (by rw [e])
  simp [h2, h3]
theorem e_Equal_int (a b : List Int) (ha : a.length ≤ maxLen) : p_slices_Equal_int_int a b = some (decide (a = b)) := by
 have ha : a.length ≤ 9223372036854775807 := ha
 unfold p_slices_Equal_int_int
 by_cases hl : a.length = b.length
 ·have hl2 : (a.length : Int) = (b.length : Int) := by omega
  rw [decide_eq_true hl2, Bool.not_true, cond_false]
  refine eq_loop hl (fun k hk => ?_) ?_
  ·have hk2 : k < b.length := by omega
   unfold p_slices_Equal_int_int_b0
   simp only [dlt hk, cond_true, gd.yes (ixN hk), gd.yes (ixN hk2), Int.toNat_natCast, gd.yes (i64S hk ha)]
   by_cases h : nth a k = nth b k <;> simp [h]
  ·unfold p_slices_Equal_int_int_b0; simp
 ·have h2 : ¬ (a.length : Int) = (b.length : Int) := by omega
  have h3 : a ≠ b := fun e => hl (by rw [e])
  simp [h2, h3]
theorem e_spec_l11Same (a b : List Int) (ha : a.length ≤ maxLen) : p_spec_l11Same a b = some (decide (a = b)) := by
 have ha : a.length ≤ 9223372036854775807 := ha
 unfold p_spec_l11Same
 by_cases hl : a.length = b.length
 ·have hl2 : (a.length : Int) = (b.length : Int) := by omega
  rw [decide_eq_true hl2, Bool.not_true, cond_false]
  refine eq_loop hl (fun k hk => ?_) ?_
  ·have hk2 : k < b.length := by omega
   unfold p_spec_l11Same_b0
   simp only [dlt hk, cond_true, gd.yes (ixN hk), gd.yes (ixN hk2), Int.toNat_natCast, gd.yes (i64S hk ha)]
   by_cases h : nth a k = nth b k <;> simp [h]
  ·unfold p_spec_l11Same_b0; simp
 ·have h2 : ¬ (a.length : Int) = (b.length : Int) := by omega
  have h3 : a ≠ b := fun e => hl (by rw [e])
  simp [h2, h3]
theorem e_spec_l11Less (a b : Tag) : p_spec_l11Less a b = some (ltTag a b) := by
 unfold p_spec_l11Less ltTag
 cases sless a.1 b.1 with
 | true => rfl
 | false => by_cases h : a.1 = b.1 <;> simp [h]
theorem numberOf_none {q : Option (Unit ⊕ Int)} (h : q = some (.inl ())) : (bd (bd q <| sw (fun _ => some (-1 : Int)) fun q => some q) fun r3 => gd (I64 (r3 + 1)) <| some (r3 + 1)) = some 0 := by
 subst h
 have e : (bd (some (.inl ()) : Option (Unit ⊕ Int)) <| sw (fun _ => some (-1 : Int)) fun q => some q) = some (-1) := rfl
 rw [bd.yes e, gd.yes (by unfold I64; omega)]; rfl
theorem numberOf_some {q : Option (Unit ⊕ Int)} {k : Nat} (hk : k ≤ 4194304) (h : q = some (.inr (k : Int))) : (bd (bd q <| sw (fun _ => some (-1 : Int)) fun q => some q) fun r3 => gd (I64 (r3 + 1)) <| some (r3 + 1)) = some ((k : Int) + 1) := by
 subst h
 have e : (bd (some (.inr (k : Int)) : Option (Unit ⊕ Int)) <| sw (fun _ => some (-1 : Int)) fun q => some q) = some (k : Int) := rfl
 rw [bd.yes e, gd.yes (by unfold I64; omega)]
theorem e_numberOf (names : List (List Tag)) (n : List Tag) (h1 : names.length ≤ 4194304) (h2 : ∀ n ∈ names, n.length ≤ 4194304) :
  (∃ k : Nat, k < names.length ∧ nth names k = n ∧ (∀ j, j < k → nth names j ≠ n) ∧ p_impl_numberOf names n = some ((k : Int) + 1)) ∨ ((∀ k, k < names.length → nth names k ≠ n) ∧ p_impl_numberOf names n = some 0) := by
 have hr : ∀ k, k < names.length → p_slices_IndexFunc_Tag_Tag_numberOf_1_b0 names n (k : Int) = some (if decide (nth names k = n) then .inr (.inr (k : Int)) else .inl ((k + 1 : Nat) : Int)) := fun k hk => by
  unfold p_slices_IndexFunc_Tag_Tag_numberOf_1_b0 p_impl_numberOf_1
  rw [dlt hk, cond_true, gd.yes (ixN hk)]
  simp only [Int.toNat_natCast]
  rw [bd.yes (e_Equal_Tag _ n (h2 _ (nth_mem hk))), bd_some, gd.yes (i64S hk (show names.length ≤ 9223372036854775807 by omega)), addI]
  by_cases h : nth names k = n <;> simp [h]
 unfold p_impl_numberOf p_slices_IndexFunc_Tag_Tag_numberOf_1
 rcases lp_scan (body := p_slices_IndexFunc_Tag_Tag_numberOf_1_b0 names n) (fun k => (k : Int)) names.length (fun k => decide (nth names k = n)) (.inl ()) (fun k => .inr (k : Int)) (fun k hk _ h => by rw [hr k hk, h]; rfl) (fun k hk _ h => by rw [hr k hk, if_pos h]) (fun _ => by unfold p_slices_IndexFunc_Tag_Tag_numberOf_1_b0; simp) with ⟨h1, h2⟩ | ⟨h1, k, hk, hb, hn, h2⟩
 ·refine .inr ⟨fun k hk => of_decide_eq_false (allN_iff.1 h1 k hk), ?_⟩
  exact numberOf_none h2
 ·refine .inl ⟨k, hk, of_decide_eq_true hb, fun j hj => of_decide_eq_false (hn j hj), ?_⟩
  exact numberOf_some (by omega) h2
def nmBad (names : List (List Tag)) (k : Nat) : Bool := !nameOk (nth names k) || !allN k (fun j => decide (nth names j = nth names k))
def namesB (names : List (List Tag)) : Bool := allN names.length (nmBad names) && decide ((names.length : Int) ≤ 6)
theorem e_impl_namesOk (names : List (List Tag)) (hw : Wt.w names ≤ 4194304) : p_impl_namesOk names = some (namesB names) := by
 obtain ⟨h1, h2, _⟩ := w_names hw
 have hr : ∀ k, k < names.length → p_impl_namesOk_b0 names (k : Int) = some (if nmBad names k then .inr (.inr false) else .inl ((k + 1 : Nat) : Int)) := fun k hk => by
  have hl := (h2 _ (nth_mem hk)).1
  unfold p_impl_namesOk_b0 nmBad
  rw [dlt hk, cond_true, gd.yes (ixN hk)]
  simp only [Int.toNat_natCast]
  rw [e_impl_NameOk _ (by unfold maxLen; omega), bd_some]
  cases nameOk (nth names k) with
  | false => rfl
  | true =>
   rw [Bool.not_true, cond_false]
   rcases e_numberOf names (nth names k) h1 (fun n hn => (h2 n hn).1) with ⟨j, hj, e1, e2, e3⟩ | ⟨e2, e3⟩
   ·rw [bd.yes e3, gd.yes (by unfold I64; omega), bd_some, gd.yes (by unfold I64; omega), addI]
    by_cases hjk : j = k
    ·subst hjk
     have : allN j (fun i => decide (nth names i = nth names j)) = true := allN_iff.2 fun i hi => decide_eq_false (e2 i hi)
     rw [this]; simp
    ·have hlt : j < k := by
      rcases Nat.lt_trichotomy j k with h | h | h
      ·exact h
      ·exact absurd h hjk
      ·exact absurd rfl (e2 k h)
     have : allN k (fun i => decide (nth names i = nth names k)) = false := allN_no hlt (decide_eq_true e1)
     rw [this, decide_eq_false (show ¬ (((j + 1 : Nat) : Int) = (k : Int) + 1) by omega)]; simp
   ·exact absurd rfl (e2 k hk)
 unfold p_impl_namesOk namesB
 rcases lp_scan (body := p_impl_namesOk_b0 names) (fun k => (k : Int)) names.length (nmBad names) (.inl ()) (fun _ => .inr false) (fun k hk _ h => by rw [hr k hk, h]; rfl) (fun k hk _ h => by rw [hr k hk, h]; rfl) (fun _ => by unfold p_impl_namesOk_b0; simp) with ⟨h1, h2⟩ | ⟨h1, k, _, _, _, h2⟩
 ·rw [show (lp (p_impl_namesOk_b0 names) 0) = _ from h2, h1]; simp [sw]
 ·rw [show (lp (p_impl_namesOk_b0 names) 0) = _ from h2, h1]; simp [sw]
end Go.Proofs.YtonnpkdadcafcaaGreat
