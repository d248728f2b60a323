/- The walks and the plain laws, part 4: each function that the law reaches computes what its plain function tells, and what the plain functions answer. Conditions: lengths that memory can hold. -/
import Derived.Test.YtonnpkdadcafcaaGreatA3
namespace Go.Proofs.YtonnpkdadcafcaaGreat
open Go Go.Sx Tryz
theorem e_spec_StoreOk (s : Store) (h : okS s) : p_spec_StoreOk s = some (storeB s) := by
 have hpl := h.pl
 have hml := h.ml
 unfold p_spec_StoreOk storeB
 rw [bd.yes (e_spec_IndexOk s.1 h.w1 h.w2)]
 cases hi : indexB s.1 with
 | false => rfl
 | true =>
  have hn6 := (indexB_canon hi).2.2.1
  rw [Bool.not_true, cond_false]
  by_cases h6 : s.2.1.length ≤ 6
  ·rw [decide_eq_false (show ¬ (6 : Int) < (s.2.1.length : Int) by omega), cond_false, decide_eq_true h6]
   by_cases h20 : s.2.2.length ≤ 20
   ·rw [decide_eq_false (show ¬ (20 : Int) < (s.2.2.length : Int) by omega), bd_some, cond_false, decide_eq_true h20, Bool.true_and, Bool.true_and, Bool.true_and]
    have hr0 : ∀ k, k < s.2.1.length → p_spec_StoreOk_b0 s (k : Int) = some (if badP s.1.1.length (nth s.2.1 k) then .inr (.inr false) else .inl ((k + 1 : Nat) : Int)) := fun k hk => by
     obtain ⟨k1, k2⟩ := h.p _ (nth_mem hk)
     have hl : (nth s.2.1 k).1.length ≤ Wt.w (nth s.2.1 k) := Nat.le_trans wL_le (Nat.le_add_right _ _)
     unfold p_spec_StoreOk_b0
     rw [dlt hk, cond_true, gd.yes (ixN hk)]
     simp only [Int.toNat_natCast]
     rw [bd.yes (e_l13Part s.1.1.length (nth s.2.1 k) k1 (by omega)), gd.yes (i64S hk (by omega)), addI]
     cases badP s.1.1.length (nth s.2.1 k) <;> rfl
    rcases lp_scan (body := p_spec_StoreOk_b0 s) (fun k => (k : Int)) s.2.1.length (fun k => badP s.1.1.length (nth s.2.1 k)) (.inl ()) (fun _ => .inr false) (fun k hk _ h => by rw [hr0 k hk, h]; rfl) (fun k hk _ h => by rw [hr0 k hk, h]; rfl) (fun _ => by unfold p_spec_StoreOk_b0; rw [decide_eq_false (show ¬ ((s.2.1.length : Int) < (s.2.1.length : Int)) by omega)]; rfl) with ⟨a1, a2⟩ | ⟨a1, _, _, _, _, a2⟩
    ·rw [show (lp (p_spec_StoreOk_b0 s) 0) = _ from a2, bd_swl, a1, Bool.true_and]
     have hK : ∀ p ∈ s.2.1, partOk p = true := fun p hp => by
      obtain ⟨i, hi, rfl⟩ := List.mem_iff_getElem.1 hp
      have := allN_iff.1 a1 i hi
      rw [nth_eq _ i hi] at this
      exact (badP_ok this).1
     have hr1 : ∀ k, k < s.2.2.length → p_spec_StoreOk_b1 s (k : Int) = some (if badM s.1.1.length (nth s.2.2 k) then .inr (.inr false) else .inl ((k + 1 : Nat) : Int)) := fun k hk => by
      unfold p_spec_StoreOk_b1 badM
      rw [dlt hk, cond_true, gd.yes (ixN hk)]
      simp only [Int.toNat_natCast]
      rw [bd.yes (e_spec_l6In _ _ _), bd.yes (e_spec_l2Row _), gd.yes (i64S hk (by omega)), addI]
      cases inn 1 (nth s.2.2 k).1 (s.1.1.length : Int) <;> cases rowOk (nth s.2.2 k).2 <;> rfl
     rcases lp_scan (body := p_spec_StoreOk_b1 s) (fun k => (k : Int)) s.2.2.length (fun k => badM s.1.1.length (nth s.2.2 k)) (.inl ()) (fun _ => .inr false) (fun k hk _ h => by rw [hr1 k hk, h]; rfl) (fun k hk _ h => by rw [hr1 k hk, h]; rfl) (fun _ => by unfold p_spec_StoreOk_b1; rw [decide_eq_false (show ¬ ((s.2.2.length : Int) < (s.2.2.length : Int)) by omega)]; rfl) with ⟨b1, b2⟩ | ⟨b1, _, _, _, _, b2⟩
     ·rw [show (lp (p_spec_StoreOk_b1 s) 0) = _ from b2, bd_swl, b1, Bool.true_and]
      have hr2 : ∀ k, k < s.1.1.length → p_spec_StoreOk_b2 s ((k : Int) + 1) = some (if badR s k then .inr (.inr false) else .inl (((k + 1 : Nat) : Int) + 1)) := fun k hk => by
       unfold p_spec_StoreOk_b2 badR
       rw [decide_eq_true (show (k : Int) + 1 ≤ (s.1.1.length : Int) by omega), cond_true, bd.yes (e_spec_rows s _ h6 (by omega) h.p hK), gd.yes (show I64 ((k : Int) + 1 + 1) by unfold I64; omega)]
       by_cases hr : 24 < (rowsS s ((k : Int) + 1)).length
       ·rw [decide_eq_true (show (24 : Int) < ((rowsS s ((k : Int) + 1)).length : Int) by omega), decide_eq_true hr]; rfl
       ·rw [decide_eq_false (show ¬ (24 : Int) < ((rowsS s ((k : Int) + 1)).length : Int) by omega), decide_eq_false hr]
        have : (k : Int) + 1 + 1 = ((k + 1 : Nat) : Int) + 1 := by omega
        rw [this]; rfl
      rcases lp_scan (body := p_spec_StoreOk_b2 s) (fun k => (k : Int) + 1) s.1.1.length (badR s) (.inl ()) (fun _ => .inr false) (fun k hk _ h => by rw [hr2 k hk, h]; rfl) (fun k hk _ h => by rw [hr2 k hk, h]; rfl) (fun _ => by unfold p_spec_StoreOk_b2; rw [decide_eq_false (show ¬ ((s.1.1.length : Int) + 1 ≤ (s.1.1.length : Int)) by omega)]; rfl) with ⟨c1, c2⟩ | ⟨c1, _, _, _, _, c2⟩
      ·rw [show (lp (p_spec_StoreOk_b2 s) 1) = _ from c2, bd_swl, c1]
      ·rw [show (lp (p_spec_StoreOk_b2 s) 1) = _ from c2, bd_swr, c1]
     ·rw [show (lp (p_spec_StoreOk_b1 s) 0) = _ from b2, bd_swr, b1]; rfl
    ·rw [show (lp (p_spec_StoreOk_b0 s) 0) = _ from a2, bd_swr, a1]; rfl
   ·rw [decide_eq_true (show (20 : Int) < (s.2.2.length : Int) by omega), bd_some, cond_true, decide_eq_false h20]; rfl
  ·rw [decide_eq_true (show (6 : Int) < (s.2.1.length : Int) by omega), cond_true, decide_eq_false h6]; rfl
theorem e_clonePart (p : Part) (h1 : p.1.length ≤ 1048576) (h2 : p.2.length ≤ 1048576) (h3 : ∀ b ∈ p.2, b.length ≤ 1048576) : p_impl_clonePart p = some p := by
 have h : lp (p_impl_clonePart_b0 p) (([] : List (List Row)), 0) = some p.2 := lp_for (body := p_impl_clonePart_b0 p) (fun k => (p.2.take k, (k : Int))) p.2.length p.2 (fun k hk => by
  have hb := h3 _ (nth_mem hk)
  have hlt : (p.2.take k).length ≤ k := by rw [List.length_take]; omega
  unfold p_impl_clonePart_b0
  rw [dlt hk, cond_true, gd.yes (ixN hk)]
  simp only [Int.toNat_natCast]
  rw [gd.yes (show room (([] : List Row).length + (nth p.2 k).length) by rw [List.length_nil]; unfold room; omega), gd.yes (show room ((p.2.take k).length + 1) by unfold room; omega), gd.yes (show I64 ((k : Int) + 1) by unfold I64; omega), List.nil_append, take_succ_nth hk, addI]) (by
  unfold p_impl_clonePart_b0
  rw [decide_eq_false (show ¬ ((p.2.length : Int) < (p.2.length : Int)) by omega), cond_false, List.take_length])
 unfold p_impl_clonePart
 rw [gd.yes (show room (([] : List Int).length + p.1.length) by rw [List.length_nil]; unfold room; omega), bd.yes h, List.nil_append]
theorem partOk_le {p : Part} (h : partOk p = true) : p.1.length ≤ 1048576 ∧ p.2.length ≤ 1048576 ∧ ∀ b ∈ p.2, b.length ≤ 1048576 := by
 obtain ⟨a, b, c⟩ := partOk_small h
 exact ⟨by omega, by omega, fun x hx => by have := c x hx; omega⟩
def nums (d : Disk) : List Int := d.1.map (·.1)
def atF (d : Disk) (num : Int) : Int := place (nums d) num
theorem nums_len (d : Disk) : (nums d).length = d.1.length := List.length_map ..
theorem nums_nth (d : Disk) {k : Nat} (hk : k < d.1.length) : nth (nums d) k = (nth d.1 k).1 := by
 rw [nth_eq _ k (by rw [nums_len]; exact hk), nth_eq _ k hk]; exact List.getElem_map ..
theorem atF_lt {d : Disk} {num : Int} : atF d num < 0 ∨ ∃ k, k < d.1.length ∧ atF d num = (k : Int) := by
 have := place_lt (l := nums d) (id := num)
 rwa [nums_len] at this
theorem atF_no {d : Disk} {num : Int} (h : allN d.1.length (fun k => decide ((nth d.1 k).1 = num)) = true) : atF d num = -1 :=
 place_no (allN_iff.2 fun k hk => by
  rw [nums_len] at hk
  rw [nums_nth d hk]; exact allN_iff.1 h k hk)
theorem atF_yes {d : Disk} {num : Int} {k : Nat} (hk : k < d.1.length) (h : decide ((nth d.1 k).1 = num) = true) (h2 : ∀ i, i < k → decide ((nth d.1 i).1 = num) = false) : atF d num = (k : Int) :=
 place_yes (by rw [nums_len]; exact hk) (by rw [nums_nth d hk]; exact h) (fun i hi => by rw [nums_nth d (by omega)]; exact h2 i hi)
theorem e_impl_file (d : Disk) (num : Int) (hl : d.1.length ≤ 1048576) : p_impl_Disk_file d num = some (atF d num) := by
 have hr : ∀ k, k < d.1.length → p_slices_IndexFunc_File_File_Disk_file_1_b0 d.1 num (k : Int) = some (if decide ((nth d.1 k).1 = num) then .inr (.inr (k : Int)) else .inl ((k + 1 : Nat) : Int)) := fun k hk => by
  unfold p_slices_IndexFunc_File_File_Disk_file_1_b0 p_impl_Disk_file_1
  rw [dlt hk, cond_true, gd.yes (ixN hk)]
  simp only [Int.toNat_natCast]
  rw [gd.yes (show I64 ((k : Int) + 1) by unfold I64; omega), addI, bd_some]
  by_cases h : (nth d.1 k).1 = num <;> simp [h]
 unfold p_impl_Disk_file p_slices_IndexFunc_File_File_Disk_file_1
 rcases lp_scan (body := p_slices_IndexFunc_File_File_Disk_file_1_b0 d.1 num) (fun k => (k : Int)) d.1.length (fun k => decide ((nth d.1 k).1 = num)) (.inl ()) (fun k => .inr (k : Int)) (fun k hk _ h => by rw [hr k hk, h]; rfl) (fun k hk _ h => by rw [hr k hk, if_pos h]) (fun _ => by unfold p_slices_IndexFunc_File_File_Disk_file_1_b0; rw [decide_eq_false (show ¬ ((d.1.length : Int) < (d.1.length : Int)) by omega)]; rfl) with ⟨h1, h2⟩ | ⟨h1, k, hk, hb, hn, h2⟩
 ·rw [show (lp (p_slices_IndexFunc_File_File_Disk_file_1_b0 d.1 num) 0) = _ from h2, atF_no h1]; rfl
 ·rw [show (lp (p_slices_IndexFunc_File_File_Disk_file_1_b0 d.1 num) 0) = _ from h2, atF_yes hk hb hn]; rfl
theorem e_spec_l21At (d : Disk) (num : Int) (hl : d.1.length ≤ 1048576) : p_spec_l21At d num = some (atF d num) := by
 have hr : ∀ k, k < d.1.length → p_spec_l21At_b0 d num (k : Int) = some (if decide ((nth d.1 k).1 = num) then .inr (.inr (k : Int)) else .inl ((k + 1 : Nat) : Int)) := fun k hk => by
  unfold p_spec_l21At_b0
  rw [dlt hk, cond_true, gd.yes (ixN hk)]
  simp only [Int.toNat_natCast]
  rw [gd.yes (show I64 ((k : Int) + 1) by unfold I64; omega), addI]
  by_cases h : (nth d.1 k).1 = num <;> simp [h]
 unfold p_spec_l21At
 rcases lp_scan (body := p_spec_l21At_b0 d num) (fun k => (k : Int)) d.1.length (fun k => decide ((nth d.1 k).1 = num)) (.inl ()) (fun k => .inr (k : Int)) (fun k hk _ h => by rw [hr k hk, h]; rfl) (fun k hk _ h => by rw [hr k hk, if_pos h]) (fun _ => by unfold p_spec_l21At_b0; rw [decide_eq_false (show ¬ ((d.1.length : Int) < (d.1.length : Int)) by omega)]; rfl) with ⟨h1, h2⟩ | ⟨h1, k, hk, hb, hn, h2⟩
 ·rw [show (lp (p_spec_l21At_b0 d num) 0) = _ from h2, atF_no h1]; rfl
 ·rw [show (lp (p_spec_l21At_b0 d num) 0) = _ from h2, atF_yes hk hb hn]; rfl
def fileBad (d : Disk) (k : Nat) : Bool := !inn 1 (nth d.1 k).1 (d.2.2.2 - 1) || ((decide (0 < k) && decide ((nth d.1 k).1 ≤ (nth d.1 (k - 1)).1)) || !partOk (nth d.1 k).2)
def listBad (d : Disk) (k : Nat) : Bool := decide (atF d (nth d.2.1 k) < 0) || !allN k (fun j => decide (nth d.2.1 j = nth d.2.1 k))
def partsOf (d : Disk) : List Part := d.2.1.map fun n => (nth d.1 (atF d n).toNat).2
def openS (d : Disk) : Store := (indexP d.2.2.1, partsOf d, [])
def diskB (d : Disk) : Bool := inn 1 d.2.2.2 999 && (decide (d.1.length ≤ 20) && (decide (d.2.1.length ≤ 6) && (allN d.1.length (fileBad d) && (allN d.2.1.length (listBad d) && storeB (openS d)))))
structure okD (d : Disk) : Prop where
 w : Wt.w d.2.2.1 ≤ 4194304
 fl : d.1.length ≤ 1048576
 ll : d.2.1.length ≤ 1048576
 f : ∀ f ∈ d.1, Dp.ok f.2 ∧ Wt.w f.2 ≤ 1048576
theorem okD_of {d : Disk} (ok : Dp.ok d) (hw : Wt.w d ≤ 1048576) : okD d := by
 have e : Wt.w d = Wt.w d.1 + (Wt.w d.2.1 + (Wt.w d.2.2.1 + 0)) := rfl
 have l1 : d.1.length ≤ Wt.w d.1 := wL_le
 have l2 : d.2.1.length ≤ Wt.w d.2.1 := wL_le
 refine ⟨by omega, by omega, by omega, fun f hf => ?_⟩
 obtain ⟨i, hi, rfl⟩ := List.mem_iff_getElem.1 hf
 rw [← nth_eq _ i hi]
 have := wL_el (l := d.1) hi
 have e2 : Wt.w (nth d.1 i) = 0 + Wt.w (nth d.1 i).2 := rfl
 exact ⟨(ok.1.2 i hi).2, by omega⟩
theorem postsW_any {names : List (List Tag)} (hw : Wt.w names ≤ 4194304) : postsW (indexP names).2 := by
 obtain ⟨h1, h2, h3⟩ := w_names hw
 have hb := (e_posts names h1 h3 names.length (Nat.le_refl _)).1
 have hp : (indexP names).2.Perm (postsF names names.length) := List.mergeSort_perm _ _
 refine ⟨by rw [hp.length_eq]; have := hb.1; omega, fun k hk => ?_⟩
 have := hb.2 _ (hp.mem_iff.1 (nth_mem hk))
 omega
theorem partsOf_len (d : Disk) : (partsOf d).length = d.2.1.length := List.length_map ..
theorem partsOf_nth (d : Disk) {k : Nat} (hk : k < d.2.1.length) : nth (partsOf d) k = (nth d.1 (atF d (nth d.2.1 k)).toNat).2 := by
 rw [nth_eq _ k (by rw [partsOf_len]; exact hk), nth_eq _ k hk]; exact List.getElem_map ..
theorem okS_open {d : Disk} (h : okD d) (hl : ∀ k, k < d.2.1.length → 0 ≤ atF d (nth d.2.1 k)) : okS (openS d) := by
 refine ⟨h.w, postsW_any h.w, by show (partsOf d).length ≤ _; rw [partsOf_len]; exact h.ll, Nat.zero_le _, fun p hp => ?_⟩
 obtain ⟨k, hk, rfl⟩ := List.mem_iff_getElem.1 (show p ∈ partsOf d from hp)
 have hk2 : k < d.2.1.length := by rw [← partsOf_len]; exact hk
 rw [← nth_eq _ k hk, partsOf_nth d hk2]
 rcases atF_lt (d := d) (num := nth d.2.1 k) with h0 | ⟨j, hj, e⟩
 ·have := hl k hk2; omega
 ·rw [e, Int.toNat_natCast]; exact h.f _ (nth_mem hj)
theorem listBad_at {d : Disk} (h : allN d.2.1.length (listBad d) = true) : ∀ k, k < d.2.1.length → 0 ≤ atF d (nth d.2.1 k) := fun k hk => by
 have := allN_iff.1 h k hk
 unfold listBad at this
 simp only [Bool.or_eq_false_iff, decide_eq_false_iff_not] at this
 omega
theorem fileBad_part {d : Disk} (h : allN d.1.length (fileBad d) = true) : ∀ f ∈ d.1, partOk f.2 = true := fun f hf => by
 obtain ⟨i, hi, rfl⟩ := List.mem_iff_getElem.1 hf
 have := allN_iff.1 h i hi
 rw [← nth_eq _ i hi]
 unfold fileBad at this
 simp only [Bool.or_eq_false_iff, Bool.not_eq_false'] at this
 exact this.2.2
theorem e_impl_open (d : Disk) (h : okD d) (hf : ∀ f ∈ d.1, partOk f.2 = true) (hl : ∀ k, k < d.2.1.length → 0 ≤ atF d (nth d.2.1 k)) : p_impl_Disk_open d = some (openS d) := by
 obtain ⟨h1, h2, h3⟩ := w_names h.w
 have hll := h.ll
 have hfl := h.fl
 have key : lp (p_impl_Disk_open_b0 d) (([] : List Part), 0) = some (partsOf d) := lp_for (body := p_impl_Disk_open_b0 d) (fun k => ((partsOf d).take k, (k : Int))) d.2.1.length (partsOf d) (fun k hk => by
  rcases atF_lt (d := d) (num := nth d.2.1 k) with h0 | ⟨j, hj, e⟩
  ·have := hl k hk; omega
  ·obtain ⟨a, b, c⟩ := partOk_le (hf _ (nth_mem hj))
   have hlt : ((partsOf d).take k).length ≤ k := by rw [List.length_take]; omega
   unfold p_impl_Disk_open_b0
   rw [dlt hk, cond_true, gd.yes (ixN hk)]
   simp only [Int.toNat_natCast]
   rw [bd.yes (e_impl_file d _ hfl), gd.yes (show ix (atF d (nth d.2.1 k)) d.1.length by rw [e]; exact ixN hj), e, Int.toNat_natCast, bd.yes (e_clonePart _ a b c), gd.yes (show room (((partsOf d).take k).length + 1) by unfold room; omega), gd.yes (show I64 ((k : Int) + 1) by unfold I64; omega), take_succ_nth (show k < (partsOf d).length by rw [partsOf_len]; exact hk), partsOf_nth d hk, e, Int.toNat_natCast, addI]) (by
  unfold p_impl_Disk_open_b0
  rw [decide_eq_false (show ¬ ((d.2.1.length : Int) < (d.2.1.length : Int)) by omega), cond_false, ← partsOf_len, List.take_length])
 unfold p_impl_Disk_open
 rw [bd.yes (e_indexOf d.2.2.1 h1 h3), bd.yes key]; rfl
theorem e_l11Of_any (names : List (List Tag)) (h1 : names.length ≤ 4194304) (h2 : ∀ n ∈ names, n.length ≤ 4194304) : p_spec_l11Of names = some (names, allE names 4) := by
 unfold p_spec_l11Of
 have h0 : (([] : List Post), (97 : Int)) = (allE names 0, (97 : Int) + ((0 : Nat) : Int)) := rfl
 rw [h0, bd.yes (lp_for (body := p_spec_l11Of_b0 names) (fun i => (allE names i, (97 : Int) + (i : Int))) 4 (allE names 4) (fun i hi => by
  have hl := allE_len names i
  unfold p_spec_l11Of_b0
  rw [decide_eq_true (show (97 : Int) + (i : Int) ≤ 100 by omega), cond_true, bd.yes (e_rowE names i hi _ (by omega) h1 h2), gd.yes (by unfold I32; omega), allE_succ, show (97 : Int) + (i : Int) + 1 = 97 + ((i + 1 : Nat) : Int) by omega]) (by
  unfold p_spec_l11Of_b0; rw [decide_eq_false (show ¬ ((97 : Int) + ((4 : Nat) : Int) ≤ 100) by omega)]; rfl)), bd.yes (e_spec_l11Names names h1 h2)]
theorem postsW_all {names : List (List Tag)} (h1 : names.length ≤ 4194304) : postsW (allE names 4) := by
 have hl := allE_len names 4
 refine ⟨by omega, fun k hk => ?_⟩
 obtain ⟨i, j, _, _, hp⟩ := allE_mem (nth_mem hk)
 obtain ⟨e1, e2⟩ := cell_mem hp
 rw [e1]
 have := idsN_len names (tg i j) names.length
 show (idsN names (tg i j) names.length).length ≤ _
 omega
theorem e_spec_open (d : Disk) (h : okD d) (hl : ∀ k, k < d.2.1.length → 0 ≤ atF d (nth d.2.1 k)) : p_spec_l21Open d = some ((d.2.2.1, allE d.2.2.1 4), partsOf d, []) := by
 obtain ⟨h1, h2, h3⟩ := w_names h.w
 have hll := h.ll
 have hfl := h.fl
 have key : lp (p_spec_l21Open_b0 d) (([] : List Part), 0) = some (partsOf d) := lp_for (body := p_spec_l21Open_b0 d) (fun k => ((partsOf d).take k, (k : Int))) d.2.1.length (partsOf d) (fun k hk => by
  rcases atF_lt (d := d) (num := nth d.2.1 k) with h0 | ⟨j, hj, e⟩
  ·have := hl k hk; omega
  ·have hlt : ((partsOf d).take k).length ≤ k := by rw [List.length_take]; omega
   unfold p_spec_l21Open_b0
   rw [dlt hk, cond_true, gd.yes (ixN hk)]
   simp only [Int.toNat_natCast]
   rw [bd.yes (e_spec_l21At d _ hfl), gd.yes (show ix (atF d (nth d.2.1 k)) d.1.length by rw [e]; exact ixN hj), e, Int.toNat_natCast, gd.yes (show room (((partsOf d).take k).length + 1) by unfold room; omega), gd.yes (show I64 ((k : Int) + 1) by unfold I64; omega), take_succ_nth (show k < (partsOf d).length by rw [partsOf_len]; exact hk), partsOf_nth d hk, e, Int.toNat_natCast, addI]) (by
  unfold p_spec_l21Open_b0
  rw [decide_eq_false (show ¬ ((d.2.1.length : Int) < (d.2.1.length : Int)) by omega), cond_false, ← partsOf_len, List.take_length])
 unfold p_spec_l21Open
 rw [bd.yes (e_l11Of_any d.2.2.1 h1 (fun n hn => (h2 n hn).1)), bd.yes key]
theorem good_all {names : List (List Tag)} (h : goodN names) : allE names 4 = (indexP names).2 := canon_eq (canon_all h) (canon_posts (goodN_dist h))
theorem namesB_good {names : List (List Tag)} (h : namesB names = true) : goodN names := good_of (x := indexP names) (indexB_P h)
theorem storeB_names {names : List (List Tag)} (P : List Post) (parts : List Part) (mem : List Sample) (h : namesB names = false) : storeB ((names, P), parts, mem) = false := by
 unfold storeB indexB
 rw [show (((names, P), parts, mem) : Store).1.1 = names from rfl, h]; rfl
theorem storeB_all (names : List (List Tag)) (parts : List Part) (mem : List Sample) : storeB ((names, allE names 4), parts, mem) = storeB (indexP names, parts, mem) := by
 cases hb : namesB names with
 | false => rw [storeB_names _ _ _ hb]; exact (storeB_names (indexP names).2 parts mem hb).symm
 | true => rw [good_all (namesB_good hb)]; rfl
theorem place_take (l : List Int) (x : Int) (k : Nat) (hk : k ≤ l.length) : decide (0 ≤ place (l.take k) x) = !allN k (fun j => decide (nth l j = x)) := by
 have hl : (l.take k).length = k := by rw [List.length_take]; omega
 have hn : ∀ j, j < k → nth (l.take k) j = nth l j := fun j hj => by
  rw [nth_eq _ j (by omega), List.getElem_take, ← nth_eq l j (by omega)]
 have ea : allN (l.take k).length (fun j => decide (nth (l.take k) j = x)) = allN k (fun j => decide (nth l j = x)) := by
  rw [hl]
  exact allN_congr fun j hj => by rw [hn j hj]
 cases hc : allN k (fun j => decide (nth l j = x)) with
 | true => rw [place_no (ea.trans hc)]; rfl
 | false =>
  obtain ⟨j, hj, b1, b2⟩ := first_bad (ea.trans hc)
  rw [place_yes hj b1 b2]
  simp
theorem e_Contains (l : List Int) (x : Int) (hl : l.length ≤ 9223372036854775807) : p_slices_Contains_int_int l x = some (decide (0 ≤ place l x)) := by
 unfold p_slices_Contains_int_int
 rw [bd.yes (e_Index l x hl)]
theorem e_impl_files (d : Disk) (h : okD d) (hn : inn 1 d.2.2.2 999 = true) : lp (p_impl_DiskOk_b0 d) 0 = some (if allN d.1.length (fileBad d) then .inl () else .inr false) := by
 have hfl := h.fl
 have hnx : 1 ≤ d.2.2.2 ∧ d.2.2.2 ≤ 999 := by unfold inn at hn; simpa using hn
 have hr : ∀ k, k < d.1.length → p_impl_DiskOk_b0 d (k : Int) = some (if fileBad d k then .inr (.inr false) else .inl ((k + 1 : Nat) : Int)) := fun k hk => by
  have hp := e_impl_PartOk (nth d.1 k).2 (h.f _ (nth_mem hk)).1
  unfold p_impl_DiskOk_b0 fileBad
  rw [dlt hk, cond_true, gd.yes (ixN hk)]
  simp only [Int.toNat_natCast]
  rw [gd.yes (show I64 (d.2.2.2 - 1) by unfold I64; omega), bd.yes (e_impl_within _ _ _), gd.yes (show I64 ((k : Int) + 1) by unfold I64; omega), addI]
  cases inn 1 (nth d.1 k).1 (d.2.2.2 - 1) with
  | false => rfl
  | true =>
   rw [Bool.not_true, cond_false, Bool.false_or]
   by_cases h0 : 0 < k
   ·have e1 : (k : Int) - 1 = ((k - 1 : Nat) : Int) := by omega
    rw [decide_eq_true (show (0 : Int) < (k : Int) by omega), cond_true, decide_eq_true h0, Bool.true_and, gd.yes (show I64 ((k : Int) - 1) by unfold I64; omega), gd.yes (show ix ((k : Int) - 1) d.1.length by unfold ix; omega), e1, Int.toNat_natCast]
    by_cases hq : (nth d.1 k).1 ≤ (nth d.1 (k - 1)).1
    ·rw [decide_eq_true hq]; rfl
    ·rw [decide_eq_false hq, cond_false, Bool.false_or, bd.yes hp]
     cases partOk (nth d.1 k).2 <;> rfl
   ·rw [decide_eq_false (show ¬ (0 : Int) < (k : Int) by omega), cond_false, decide_eq_false h0, Bool.false_and, Bool.false_or, bd.yes hp]
    cases partOk (nth d.1 k).2 <;> rfl
 rcases lp_scan (body := p_impl_DiskOk_b0 d) (fun k => (k : Int)) d.1.length (fileBad d) (.inl ()) (fun _ => .inr false) (fun k hk _ h => by rw [hr k hk, h]; rfl) (fun k hk _ h => by rw [hr k hk, h]; rfl) (fun _ => by unfold p_impl_DiskOk_b0; rw [decide_eq_false (show ¬ ((d.1.length : Int) < (d.1.length : Int)) by omega)]; rfl) with ⟨h1, h2⟩ | ⟨h1, k, _, _, _, h2⟩
 ·rw [show (lp (p_impl_DiskOk_b0 d) 0) = _ from h2, h1]; rfl
 ·rw [show (lp (p_impl_DiskOk_b0 d) 0) = _ from h2, h1]; rfl
theorem e_spec_files (d : Disk) (h : okD d) (hn : inn 1 d.2.2.2 999 = true) : lp (p_spec_DiskOk_b0 d) 0 = some (if allN d.1.length (fileBad d) then .inl () else .inr false) := by
 have hfl := h.fl
 have hnx : 1 ≤ d.2.2.2 ∧ d.2.2.2 ≤ 999 := by unfold inn at hn; simpa using hn
 have hr : ∀ k, k < d.1.length → p_spec_DiskOk_b0 d (k : Int) = some (if fileBad d k then .inr (.inr false) else .inl ((k + 1 : Nat) : Int)) := fun k hk => by
  have hp := e_spec_PartOk (nth d.1 k).2 (h.f _ (nth_mem hk)).1
  unfold p_spec_DiskOk_b0 fileBad
  rw [dlt hk, cond_true, gd.yes (ixN hk)]
  simp only [Int.toNat_natCast]
  rw [gd.yes (show I64 (d.2.2.2 - 1) by unfold I64; omega), bd.yes (e_spec_l6In _ _ _), gd.yes (show I64 ((k : Int) + 1) by unfold I64; omega), addI]
  cases inn 1 (nth d.1 k).1 (d.2.2.2 - 1) with
  | false => rfl
  | true =>
   rw [Bool.not_true, cond_false, Bool.false_or]
   by_cases h0 : 0 < k
   ·have e1 : (k : Int) - 1 = ((k - 1 : Nat) : Int) := by omega
    rw [decide_eq_true (show (0 : Int) < (k : Int) by omega), cond_true, decide_eq_true h0, Bool.true_and, gd.yes (show I64 ((k : Int) - 1) by unfold I64; omega), gd.yes (show ix ((k : Int) - 1) d.1.length by unfold ix; omega), e1, Int.toNat_natCast]
    by_cases hq : (nth d.1 k).1 ≤ (nth d.1 (k - 1)).1
    ·rw [decide_eq_true hq]; rfl
    ·rw [decide_eq_false hq, cond_false, Bool.false_or, bd.yes hp]
     cases partOk (nth d.1 k).2 <;> rfl
   ·rw [decide_eq_false (show ¬ (0 : Int) < (k : Int) by omega), cond_false, decide_eq_false h0, Bool.false_and, Bool.false_or, bd.yes hp]
    cases partOk (nth d.1 k).2 <;> rfl
 rcases lp_scan (body := p_spec_DiskOk_b0 d) (fun k => (k : Int)) d.1.length (fileBad d) (.inl ()) (fun _ => .inr false) (fun k hk _ h => by rw [hr k hk, h]; rfl) (fun k hk _ h => by rw [hr k hk, h]; rfl) (fun _ => by unfold p_spec_DiskOk_b0; rw [decide_eq_false (show ¬ ((d.1.length : Int) < (d.1.length : Int)) by omega)]; rfl) with ⟨h1, h2⟩ | ⟨h1, k, _, _, _, h2⟩
 ·rw [show (lp (p_spec_DiskOk_b0 d) 0) = _ from h2, h1]; rfl
 ·rw [show (lp (p_spec_DiskOk_b0 d) 0) = _ from h2, h1]; rfl
theorem e_impl_list (d : Disk) (h : okD d) : lp (p_impl_DiskOk_b1 d) 0 = some (if allN d.2.1.length (listBad d) then .inl () else .inr false) := by
 have hfl := h.fl
 have hll := h.ll
 have hr : ∀ k, k < d.2.1.length → p_impl_DiskOk_b1 d (k : Int) = some (if listBad d k then .inr (.inr false) else .inl ((k + 1 : Nat) : Int)) := fun k hk => by
  unfold p_impl_DiskOk_b1 listBad
  rw [dlt hk, cond_true, gd.yes (ixN hk)]
  simp only [Int.toNat_natCast]
  rw [bd.yes (e_impl_file d _ hfl), gd.yes (show I64 ((k : Int) + 1) by unfold I64; omega), addI]
  by_cases h0 : atF d (nth d.2.1 k) < 0
  ·rw [decide_eq_true h0]; rfl
  ·rw [decide_eq_false h0, cond_false, Bool.false_or, gd.yes (show sl2 0 (k : Int) d.2.1.length by unfold sl2; omega), List.drop_zero, bd.yes (e_Contains _ _ (by rw [List.length_take]; omega)), place_take _ _ _ (by omega)]
   cases allN k (fun j => decide (nth d.2.1 j = nth d.2.1 k)) <;> rfl
 rcases lp_scan (body := p_impl_DiskOk_b1 d) (fun k => (k : Int)) d.2.1.length (listBad d) (.inl ()) (fun _ => .inr false) (fun k hk _ h => by rw [hr k hk, h]; rfl) (fun k hk _ h => by rw [hr k hk, h]; rfl) (fun _ => by unfold p_impl_DiskOk_b1; rw [decide_eq_false (show ¬ ((d.2.1.length : Int) < (d.2.1.length : Int)) by omega)]; rfl) with ⟨h1, h2⟩ | ⟨h1, k, _, _, _, h2⟩
 ·rw [show (lp (p_impl_DiskOk_b1 d) 0) = _ from h2, h1]; rfl
 ·rw [show (lp (p_impl_DiskOk_b1 d) 0) = _ from h2, h1]; rfl
theorem e_spec_twice (d : Disk) (k : Nat) (hk : k < d.2.1.length) (hll : d.2.1.length ≤ 1048576) : lp (p_spec_DiskOk_b2 d (k : Int)) 0 = some (if allN k (fun j => decide (nth d.2.1 j = nth d.2.1 k)) then .inl () else .inr false) := by
 have hr : ∀ j, j < k → p_spec_DiskOk_b2 d (k : Int) (j : Int) = some (if decide (nth d.2.1 j = nth d.2.1 k) then .inr (.inr false) else .inl ((j + 1 : Nat) : Int)) := fun j hj => by
  unfold p_spec_DiskOk_b2
  rw [decide_eq_true (show (j : Int) < (k : Int) by omega), cond_true, gd.yes (ixN (show j < d.2.1.length by omega))]
  simp only [Int.toNat_natCast]
  rw [gd.yes (show I64 ((j : Int) + 1) by unfold I64; omega), addI]
  cases decide (nth d.2.1 j = nth d.2.1 k) <;> rfl
 rcases lp_scan (body := p_spec_DiskOk_b2 d (k : Int)) (fun j => (j : Int)) k (fun j => decide (nth d.2.1 j = nth d.2.1 k)) (.inl ()) (fun _ => .inr false) (fun k hk _ h => by rw [hr k hk, h]; rfl) (fun k hk _ h => by rw [hr k hk, if_pos h]) (fun _ => by unfold p_spec_DiskOk_b2; rw [decide_eq_false (show ¬ ((k : Int) < (k : Int)) by omega)]; rfl) with ⟨h1, h2⟩ | ⟨h1, _, _, _, _, h2⟩
 ·rw [show (lp (p_spec_DiskOk_b2 d (k : Int)) 0) = _ from h2, h1]; rfl
 ·rw [show (lp (p_spec_DiskOk_b2 d (k : Int)) 0) = _ from h2, h1]; rfl
theorem e_spec_list (d : Disk) (h : okD d) : lp (p_spec_DiskOk_b1 d) 0 = some (if allN d.2.1.length (listBad d) then .inl () else .inr false) := by
 have hfl := h.fl
 have hll := h.ll
 have hr : ∀ k, k < d.2.1.length → p_spec_DiskOk_b1 d (k : Int) = some (if listBad d k then .inr (.inr false) else .inl ((k + 1 : Nat) : Int)) := fun k hk => by
  unfold p_spec_DiskOk_b1 listBad
  rw [dlt hk, cond_true, gd.yes (ixN hk)]
  simp only [Int.toNat_natCast]
  rw [bd.yes (e_spec_l21At d _ hfl), gd.yes (show I64 ((k : Int) + 1) by unfold I64; omega), addI]
  by_cases h0 : atF d (nth d.2.1 k) < 0
  ·rw [decide_eq_true h0]; rfl
  ·rw [decide_eq_false h0, cond_false, Bool.false_or, e_spec_twice d k hk hll]
   cases allN k (fun j => decide (nth d.2.1 j = nth d.2.1 k)) <;> rfl
 rcases lp_scan (body := p_spec_DiskOk_b1 d) (fun k => (k : Int)) d.2.1.length (listBad d) (.inl ()) (fun _ => .inr false) (fun k hk _ h => by rw [hr k hk, h]; rfl) (fun k hk _ h => by rw [hr k hk, h]; rfl) (fun _ => by unfold p_spec_DiskOk_b1; rw [decide_eq_false (show ¬ ((d.2.1.length : Int) < (d.2.1.length : Int)) by omega)]; rfl) with ⟨h1, h2⟩ | ⟨h1, k, _, _, _, h2⟩
 ·rw [show (lp (p_spec_DiskOk_b1 d) 0) = _ from h2, h1]; rfl
 ·rw [show (lp (p_spec_DiskOk_b1 d) 0) = _ from h2, h1]; rfl
theorem e_impl_DiskOk (d : Disk) (h : okD d) : p_impl_DiskOk d = some (diskB d) := by
 unfold p_impl_DiskOk diskB
 rw [bd.yes (e_impl_within _ _ _)]
 cases hn : inn 1 d.2.2.2 999 with
 | false => rfl
 | true =>
  rw [Bool.not_true, cond_false, Bool.true_and]
  by_cases h20 : d.1.length ≤ 20
  ·rw [decide_eq_false (show ¬ (20 : Int) < (d.1.length : Int) by omega), cond_false, decide_eq_true h20, Bool.true_and]
   by_cases h6 : d.2.1.length ≤ 6
   ·rw [decide_eq_false (show ¬ (6 : Int) < (d.2.1.length : Int) by omega), bd_some, cond_false, decide_eq_true h6, Bool.true_and, e_impl_files d h hn]
    cases hf : allN d.1.length (fileBad d) with
    | false => rfl
    | true =>
     rw [if_pos rfl, bd_swl, Bool.true_and, e_impl_list d h]
     cases hl : allN d.2.1.length (listBad d) with
     | false => rfl
     | true =>
      have hat := listBad_at hl
      rw [if_pos rfl, bd_swl, Bool.true_and, bd.yes (e_impl_open d h (fileBad_part hf) hat), bd.yes (e_impl_StoreOk _ (okS_open h hat))]
   ·rw [decide_eq_true (show (6 : Int) < (d.2.1.length : Int) by omega), bd_some, cond_true, decide_eq_false h6]; rfl
  ·rw [decide_eq_true (show (20 : Int) < (d.1.length : Int) by omega), cond_true, decide_eq_false h20]; rfl
theorem e_spec_DiskOk (d : Disk) (h : okD d) : p_spec_DiskOk d = some (diskB d) := by
 unfold p_spec_DiskOk diskB
 rw [bd.yes (e_spec_l6In _ _ _)]
 cases hn : inn 1 d.2.2.2 999 with
 | false => rfl
 | true =>
  rw [Bool.not_true, cond_false, Bool.true_and]
  by_cases h20 : d.1.length ≤ 20
  ·rw [decide_eq_false (show ¬ (20 : Int) < (d.1.length : Int) by omega), cond_false, decide_eq_true h20, Bool.true_and]
   by_cases h6 : d.2.1.length ≤ 6
   ·rw [decide_eq_false (show ¬ (6 : Int) < (d.2.1.length : Int) by omega), cond_false, decide_eq_true h6, Bool.true_and]
    by_cases hm : d.2.2.1.length ≤ 6
    ·rw [decide_eq_false (show ¬ (6 : Int) < (d.2.2.1.length : Int) by omega), bd_some, cond_false, e_spec_files d h hn]
     cases hf : allN d.1.length (fileBad d) with
     | false => rfl
     | true =>
      rw [if_pos rfl, bd_swl, Bool.true_and, e_spec_list d h]
      cases hl : allN d.2.1.length (listBad d) with
      | false => rfl
      | true =>
       have hat := listBad_at hl
       have hok := okS_open h hat
       have hok2 : okS ((d.2.2.1, allE d.2.2.1 4), partsOf d, []) := ⟨h.w, postsW_all (by omega), hok.pl, hok.ml, hok.p⟩
       rw [if_pos rfl, bd_swl, Bool.true_and, bd.yes (e_spec_open d h hat), bd.yes (e_spec_StoreOk _ hok2), storeB_all]; rfl
    ·have hz : storeB (openS d) = false := storeB_names _ _ _ (by unfold namesB; rw [decide_eq_false (show ¬ (d.2.2.1.length : Int) ≤ 6 by omega), Bool.and_false])
     rw [decide_eq_true (show (6 : Int) < (d.2.2.1.length : Int) by omega), bd_some, cond_true, hz, Bool.and_false, Bool.and_false]
   ·rw [decide_eq_true (show (6 : Int) < (d.2.1.length : Int) by omega), cond_true, decide_eq_false h6]; rfl
  ·rw [decide_eq_true (show (20 : Int) < (d.1.length : Int) by omega), cond_true, decide_eq_false h20]; rfl
theorem diskB_parts {d : Disk} (h : diskB d = true) : inn 1 d.2.2.2 999 = true ∧ d.1.length ≤ 20 ∧ d.2.1.length ≤ 6 ∧ allN d.1.length (fileBad d) = true ∧ allN d.2.1.length (listBad d) = true ∧ storeB (openS d) = true := by
 unfold diskB at h
 simp only [Bool.and_eq_true, decide_eq_true_eq] at h
 exact h
theorem e_l12Merge (a b : Part) (oka : Dp.ok a) (okb : Dp.ok b) (h1 : partOk a = true) (h2 : partOk b = true) : p_spec_l12Merge a b = some (pmP a b) := by
 have a1 := partOk_len' h1
 have a2 := partOk_len' h2
 unfold p_spec_l12Merge
 have := lp_for (body := p_spec_l12Merge_b0 a b) (fun k => (blks a b k, ((k + 1 : Nat) : Int))) 6 (blks a b 6) (fun k hk => by
  unfold p_spec_l12Merge_b0
  have g0 : ((k + 1 : Nat) : Int) ≤ 6 := by omega
  have b1 := rowsOf_ok h1 ((k + 1 : Nat) : Int)
  have b2 := rowsOf_ok h2 ((k + 1 : Nat) : Int)
  have l1 := (blockOk_iff.1 b1).2.2
  have l2 := (blockOk_iff.1 b2).2.2
  have r1 : room ((blks a b k).length + 1) := by rw [blks_len]; unfold room; omega
  have r3 : I64 (((k + 1 : Nat) : Int) + 1) := by unfold I64; omega
  simp only [g0, decide_true, cond_true, e_l12Of a _ oka a1, e_l12Of b _ okb a2, bd_some, e_spec_l2Merge _ _ (show (rowsOf a ((k + 1 : Nat) : Int)).length ≤ 100 by omega) (show (rowsOf b ((k + 1 : Nat) : Int)).length ≤ 100 by omega) (blockOk_iff.1 b1).2.1, gd.yes r1, gd.yes r3, blks_succ]
  rfl) (by unfold p_spec_l12Merge_b0; simp)
 have e0 : lp (p_spec_l12Merge_b0 a b) (([] : List (List Row)), 1) = some (blks a b 6) := this
 rw [e0, bd_some, e_l12Make _ (by rw [blks_len]; omega) fun y hy => by
  obtain ⟨i, _, rfl⟩ := List.mem_map.1 hy
  have := blk_len h1 h2 ((i + 1 : Nat) : Int); omega]
 rfl
theorem wInts (l : List Int) : Wt.w l = l.length := by
 show l.length + sumN l.length (fun i => Wt.w (nth l i)) = _
 rw [sumN_zero (f := fun i => Wt.w (nth l i)) fun i _ => rfl]; rfl
theorem small_nil : small (([], []) : Part) := ⟨Nat.zero_le _, Nat.zero_le _, fun _ h => nomatch h⟩
theorem ok_nonames : Dp.ok ([] : List (List Tag)) := ⟨Nat.zero_le _, fun _ hi => absurd hi (Nat.not_lt_zero _)⟩
theorem pmP_nil {a : Part} (h : partOk a = true) : pmP a ([], []) = a := by
 have := pm_none h
 unfold pm at this
 split at this
 ·exact (Prod.mk.inj this).1
 ·exact absurd (Prod.mk.inj this).2 (by decide)
theorem e_cloneDisk (d : Disk) (h : okD d) (h20 : d.1.length ≤ 1000) (hp : ∀ f ∈ d.1, partOk f.2 = true) : p_impl_cloneDisk d = some d := by
 obtain ⟨w1, w2, _⟩ := w_names h.w
 have hll := h.ll
 have key : lp (p_impl_cloneDisk_b0 d) (([] : List File), 0) = some d.1 := lp_for (body := p_impl_cloneDisk_b0 d) (fun k => (d.1.take k, (k : Int))) d.1.length d.1 (fun k hk => by
  have hlt : (d.1.take k).length ≤ k := by rw [List.length_take]; omega
  unfold p_impl_cloneDisk_b0
  rw [dlt hk, cond_true, gd.yes (ixN hk)]
  simp only [Int.toNat_natCast]
  rw [bd.yes (e_clonePart _ (partOk_le (hp _ (nth_mem hk))).1 (partOk_le (hp _ (nth_mem hk))).2.1 (partOk_le (hp _ (nth_mem hk))).2.2), gd.yes (show room ((d.1.take k).length + 1) by unfold room; omega), gd.yes (show I64 ((k : Int) + 1) by unfold I64; omega), take_succ_nth hk, addI]) (by
  unfold p_impl_cloneDisk_b0
  rw [decide_eq_false (show ¬ ((d.1.length : Int) < (d.1.length : Int)) by omega), cond_false, List.take_length])
 unfold p_impl_cloneDisk
 rw [gd.yes (show room (([] : List Int).length + d.2.1.length) by rw [List.length_nil]; unfold room; omega), bd.yes (e_impl_cloneNames _ w1 fun n hn => (w2 n hn).1), bd.yes key, List.nil_append]
theorem e_l21Copy (d : Disk) (h : okD d) (h20 : d.1.length ≤ 1000) (hp : ∀ f ∈ d.1, partOk f.2 = true) : p_spec_l21Copy d = some d := by
 obtain ⟨w1, w2, _⟩ := w_names h.w
 have hll := h.ll
 have key : lp (p_spec_l21Copy_b0 d) (([] : List File), 0) = some d.1 := lp_for (body := p_spec_l21Copy_b0 d) (fun k => (d.1.take k, (k : Int))) d.1.length d.1 (fun k hk => by
  have hlt : (d.1.take k).length ≤ k := by rw [List.length_take]; omega
  have hpk := hp _ (nth_mem hk)
  unfold p_spec_l21Copy_b0
  rw [dlt hk, cond_true, gd.yes (ixN hk)]
  simp only [Int.toNat_natCast]
  rw [bd.yes (e_l12Merge _ _ (h.f _ (nth_mem hk)).1 (small_ok small_nil) hpk (by decide)), pmP_nil hpk, gd.yes (show room ((d.1.take k).length + 1) by unfold room; omega), gd.yes (show I64 ((k : Int) + 1) by unfold I64; omega), take_succ_nth hk, addI]) (by
  unfold p_spec_l21Copy_b0
  rw [decide_eq_false (show ¬ ((d.1.length : Int) < (d.1.length : Int)) by omega), cond_false, List.take_length])
 unfold p_spec_l21Copy
 rw [bd.yes key, gd.yes (show room (([] : List Int).length + d.2.1.length) by rw [List.length_nil]; unfold room; omega), bd.yes (e_spec_l11Names _ w1 fun n hn => (w2 n hn).1), List.nil_append]
theorem e_l21Counts (d : Disk) (num : Int) (hl : d.2.1.length ≤ 1048576) : p_spec_l21Counts d num = some (keepF d num) := by
 unfold p_spec_l21Counts
 rcases lp_scan (body := p_spec_l21Counts_b0 d num) (fun k => (k : Int)) d.2.1.length (fun i => decide (nth d.2.1 i = num)) (.inl ()) (fun _ => .inr true) (fun k hk _ h => by
   unfold p_spec_l21Counts_b0
   rw [dlt hk, cond_true, gd.yes (ixN hk), Int.toNat_natCast, h, cond_false, gd.yes (show I64 ((k : Int) + 1) by unfold I64; omega), addI]) (fun k hk _ h => by
   unfold p_spec_l21Counts_b0
   rw [dlt hk, cond_true, gd.yes (ixN hk), Int.toNat_natCast, h, cond_true]) (fun _ => by unfold p_spec_l21Counts_b0; rw [decide_eq_false (show ¬ ((d.2.1.length : Int) < (d.2.1.length : Int)) by omega)]; rfl) with ⟨h1, h2⟩ | ⟨_, k, hk, hb, _, h2⟩
 ·have hc : keepF d num = false := by
   cases hc : keepF d num with
   | false => rfl
   | true =>
    obtain ⟨i, hi, e⟩ := List.mem_iff_getElem.1 (List.contains_iff_mem.1 hc)
    have := allN_iff.1 h1 i hi
    rw [nth_eq _ i hi, e] at this
    simp at this
  rw [show (lp (p_spec_l21Counts_b0 d num) 0) = _ from h2, hc]; rfl
 ·have hc : keepF d num = true := by
   refine List.contains_iff_mem.2 ?_
   have hb' := of_decide_eq_true hb
   rw [nth_eq _ k hk] at hb'
   rw [← hb']; exact List.getElem_mem hk
  rw [show (lp (p_spec_l21Counts_b0 d num) 0) = _ from h2, hc]; rfl
def tidyL (d : Disk) : List File := d.1.filter fun y => keepF d y.1
def nilD : Disk := ([], [], [], 0)
def tidyP (d : Disk) : Disk := if diskB d then (tidyL d, d.2.1, d.2.2.1, d.2.2.2) else nilD
theorem take_filter {α : Type} [Inhabited α] (p : α → Bool) {l : List α} {k : Nat} (hk : k < l.length) : (l.take (k + 1)).filter p = (l.take k).filter p ++ if p (nth l k) then [nth l k] else [] := by
 rw [take_succ_nth hk, List.filter_append, List.filter_cons, List.filter_nil]
theorem e_l21Tidy (d : Disk) (hf : d.1.length ≤ 1000) (hl : d.2.1.length ≤ 1048576) : p_spec_l21Tidy d = some (tidyL d, d.2.1, d.2.2.1, d.2.2.2) := by
 have key : lp (p_spec_l21Tidy_b0 d) (([] : List File), 0) = some (tidyL d) := lp_for (body := p_spec_l21Tidy_b0 d) (fun k => ((d.1.take k).filter fun y => keepF d y.1, (k : Int))) d.1.length (tidyL d) (fun k hk => by
  have hlt : ((d.1.take k).filter fun y => keepF d y.1).length ≤ k := Nat.le_trans (List.length_filter_le _ _) (by rw [List.length_take]; omega)
  unfold p_spec_l21Tidy_b0
  rw [dlt hk, cond_true, gd.yes (ixN hk)]
  simp only [Int.toNat_natCast]
  rw [bd.yes (e_l21Counts d _ hl), take_filter _ hk]
  cases keepF d (nth d.1 k).1 with
  | false => rw [cond_false, gd.yes (show I64 ((k : Int) + 1) by unfold I64; omega), addI]; simp
  | true => rw [cond_true, gd.yes (show room (((d.1.take k).filter fun y => keepF d y.1).length + 1) by unfold room; omega), gd.yes (show I64 ((k : Int) + 1) by unfold I64; omega), addI]; rfl) (by
  unfold p_spec_l21Tidy_b0 tidyL
  rw [decide_eq_false (show ¬ ((d.1.length : Int) < (d.1.length : Int)) by omega), cond_false, List.take_length])
 unfold p_spec_l21Tidy
 rw [bd.yes key]
def fineD (r : Disk) : Prop := Dp.ok r ∧ Wt.w r ≤ 100000000
theorem fine_disk {files : List File} {l : List Int} {names : List (List Tag)} (next : Int) (h1 : files.length ≤ 40) (h2 : ∀ f ∈ files, small f.2) (h3 : l.length ≤ 1000) (h4 : Dp.ok names) (h5 : Wt.w names ≤ 4194304) : fineD (files, l, names, next) := by
 refine ⟨⟨⟨show files.length ≤ maxLen by unfold maxLen; omega, fun i hi => ⟨trivial, small_ok (h2 _ (nth_mem hi))⟩⟩, ⟨show l.length ≤ maxLen by unfold maxLen; omega, fun _ _ => trivial⟩, h4, trivial⟩, ?_⟩
 have e : Wt.w ((files, l, names, next) : Disk) = Wt.w files + (Wt.w l + (Wt.w names + 0)) := rfl
 have e2 : Wt.w files = files.length + sumN files.length fun i => Wt.w (nth files i) := rfl
 have e3 := sumN_c (f := fun i => Wt.w (nth files i)) (c := 1048576) (n := files.length) fun i hi => by
  have e : Wt.w (nth files i) = 0 + Wt.w (nth files i).2 := rfl
  have := small_w (h2 _ (nth_mem hi))
  omega
 have e4 := Nat.mul_le_mul_right 1048576 h1
 rw [e, e2, wInts]
 omega
theorem fine_nilD : fineD nilD := fine_disk 0 (Nat.zero_le _) (fun _ h => nomatch h) (Nat.zero_le _) ok_nonames (Nat.zero_le _)
theorem fileBad_all {d : Disk} (h : allN d.1.length (fileBad d) = true) : ∀ f ∈ d.1, partOk f.2 = true := fun f hf => by
 obtain ⟨i, hi, rfl⟩ := List.mem_iff_getElem.1 hf
 rw [← nth_eq _ i hi]
 have := allN_iff.1 h i hi
 unfold fileBad at this
 simp only [Bool.or_eq_false_iff, Bool.not_eq_false'] at this
 exact this.2.2
theorem tidyP_fine {d : Disk} (ok : Dp.ok d) (h : okD d) : fineD (tidyP d) := by
 unfold tidyP
 cases hb : diskB d with
 | false => exact fine_nilD
 | true =>
  obtain ⟨_, h20, h6, hf, _, _⟩ := diskB_parts hb
  refine fine_disk _ (Nat.le_trans (List.length_filter_le _ _) (by omega)) (fun f hf' => partOk_small (fileBad_all hf f (List.mem_filter.1 hf').1)) (by omega) ok.2.2.1 h.w
theorem e_impl_DiskTidy (d : Disk) (h : okD d) : p_impl_DiskTidy d = some (tidyP d) := by
 unfold p_impl_DiskTidy tidyP
 rw [bd.yes (e_impl_DiskOk d h)]
 cases hb : diskB d with
 | false => rfl
 | true =>
  obtain ⟨_, h20, h6, hf, _, _⟩ := diskB_parts hb
  have hd : p_slices_DeleteFunc_File_File_DiskTidy_1 d.1 d = some (tidyL d) := by
   unfold p_slices_DeleteFunc_File_File_DiskTidy_1 delF
   rw [gd.yes (show room d.1.length by unfold room; omega), gd.yes (show room d.2.1.length by unfold room; omega)]; rfl
  have hl : (tidyL d).length ≤ 20 := Nat.le_trans (List.length_filter_le _ _) h20
  rw [Bool.not_true, cond_false, bd.yes (e_cloneDisk d h (by omega) (fileBad_all hf)), bd.yes hd, gd.yes (show room (([] : List File).length + (tidyL d).length) by rw [List.length_nil]; unfold room; omega), List.nil_append]
  rfl
theorem e_spec_DiskTidy (d : Disk) (h : okD d) : p_spec_DiskTidy d = some (tidyP d) := by
 unfold p_spec_DiskTidy tidyP
 rw [bd.yes (e_spec_DiskOk d h)]
 cases hb : diskB d with
 | false => rfl
 | true =>
  obtain ⟨_, h20, h6, hf, _, _⟩ := diskB_parts hb
  rw [Bool.not_true, cond_false, bd.yes (e_l21Copy d h (by omega) (fileBad_all hf)), bd.yes (e_l21Tidy d (by omega) (by omega))]
  rfl
theorem markDisk_next {d r : Disk} {k : Int} (m : p_laws_markDisk d 1 = some (k, r)) : r.2.2.2 = d.2.2.2 := by
 unfold p_laws_markDisk at m
 obtain ⟨_, _, m⟩ := bd.of m
 obtain ⟨_, _, m⟩ := bd.of m
 obtain ⟨_, _, m⟩ := bd.of m
 have := Option.some.inj m
 simp at this
 rw [← this.2]
theorem e_FnExactDiskTidy (d : Disk) (ok : Dp.ok d) (so : So.so d) : p_laws_FnExactDiskTidy d = some true := by
 unfold p_laws_FnExactDiskTidy
 rw [s_Disk d 1048576 (by omega) (by omega) ok so, bd_some]
 by_cases hc : cut 1048576 (Wt.w d) < 0
 ·simp [hc]
 ·have hw := cut_w hc (by omega)
  have h := okD_of ok hw
  obtain ⟨okr, wr⟩ := tidyP_fine ok h
  have n2 : Ct.m Disk = 8 := rfl
  have c1 := Ct.le d
  have c2 := Ct.le (tidyP d)
  rw [n2] at c1 c2
  obtain ⟨k1, r1, e1, l1, u1, _⟩ := m_Disk d 1 (by omega) (by omega) ok
  obtain ⟨k2, r2, e2, l2, u2, f2⟩ := m_Disk (tidyP d) 1 (by omega) (by omega) okr
  have h1 : ¬ k1 < 0 := by omega
  have h2 : ¬ k2 < 0 := by omega
  have hf : p_laws_heldDisk (r2.1, r2.2.1, r2.2.2.1, (tidyP d).2.2.2) 1 = some k2 := by rw [← markDisk_next e2]; exact f2
  simp [hc, t_Disk d ok hw, e_spec_DiskTidy d h, e_impl_DiskTidy d h, q_Disk _ _ okr okr, q_Disk d d ok ok, e1, e2, hf, h1, h2]
end Go.Proofs.YtonnpkdadcafcaaGreat
