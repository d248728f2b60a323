/- The walks and the plain laws, part 5: each function that the law reaches computes what its plain function tells, and what the plain functions answer. Conditions: lengths that memory can hold. -/
import Derived.Test.YtonnpkdadcafcaaGreatA4
namespace Go.Proofs.YtonnpkdadcafcaaGreat
open Go Go.Sx Tryz
theorem memR_take (l : List Sample) (id : Int) (o : List Row) {k : Nat} (hk : k < l.length) : memR (l.take (k + 1)) id o = insI id (memR (l.take k) id o) (nth l k) := foldl_take _ _ _ _ hk
theorem e_rowsIn (r a : List Row) (ha : a.length ≤ 500) (hr : r.length ≤ 100) : lp (p_impl_Store_rows_b1 r) (a, 0) = some (mg a r) := by
 have := lp_for (body := p_impl_Store_rows_b1 r) (fun k => (mg a (r.take k), (k : Int))) r.length (mg a r) (fun k hk => by
  have hl := mg_take_len a r k (by omega)
  unfold p_impl_Store_rows_b1
  rw [dlt hk, cond_true, gd.yes (ixN hk)]
  simp only [Int.toNat_natCast]
  rw [bd.yes (e_put _ (nth r k) (by omega)), gd.yes (i64S hk (by omega)), mg_take a r k hk, addI]) (by
  unfold p_impl_Store_rows_b1
  rw [decide_eq_false (show ¬ ((r.length : Int) < (r.length : Int)) by omega), cond_false, List.take_length])
 exact this
theorem e_impl_rows (s : Store) (id : Int) (hp : s.2.1.length ≤ 6) (hm : s.2.2.length ≤ 30) (hP : ∀ p ∈ s.2.1, Dp.ok p ∧ Wt.w p ≤ 1048576) : p_impl_Store_rows s id = some (rowsS s id) := by
 have h0 : lp (p_impl_Store_rows_b0 s id) (([] : List Row), 0) = some (parR s.2.1 id) :=
  lp_for (body := p_impl_Store_rows_b0 s id) (fun k => ((s.2.1.take k).foldl (fun o p => mg o (partOf p id)) [], (k : Int))) s.2.1.length (parR s.2.1 id) (fun k hk => by
   have hl := parR_len (s.2.1.take k) id
   rw [List.length_take, Nat.min_eq_left (by omega)] at hl
   unfold parR at hl
   obtain ⟨k1, k2⟩ := hP _ (nth_mem hk)
   have h24 := partOf_24 (nth s.2.1 k) id
   unfold p_impl_Store_rows_b0
   rw [dlt hk, cond_true, gd.yes (ixN hk)]
   simp only [Int.toNat_natCast]
   rw [bd.yes (e_impl_PartOf (nth s.2.1 k) id k1 k2), bd.yes (e_rowsIn _ _ (by omega) (by omega)), gd.yes (i64S hk (by omega)), foldl_take _ _ _ _ hk, addI]) (by
   unfold p_impl_Store_rows_b0
   rw [decide_eq_false (show ¬ ((s.2.1.length : Int) < (s.2.1.length : Int)) by omega), cond_false, List.take_length]; rfl)
 have hpl := parR_len s.2.1 id
 have h1 : lp (p_impl_Store_rows_b2 s id) (parR s.2.1 id, 0) = some (rowsS s id) :=
  lp_for (body := p_impl_Store_rows_b2 s id) (fun k => (memR (s.2.2.take k) id (parR s.2.1 id), (k : Int))) s.2.2.length (rowsS s id) (fun k hk => by
   have hl := memR_len id (s.2.2.take k) (parR s.2.1 id)
   rw [List.length_take, Nat.min_eq_left (by omega)] at hl
   unfold p_impl_Store_rows_b2
   rw [dlt hk, cond_true, gd.yes (ixN hk), memR_take _ _ _ hk]
   simp only [Int.toNat_natCast]
   by_cases he : (nth s.2.2 k).1 = id
   ·rw [decide_eq_true he, cond_true, bd.yes (e_put _ _ (by omega)), gd.yes (i64S hk (by omega)), addI]
    unfold insI; rw [if_pos he]
   ·rw [decide_eq_false he, cond_false, gd.yes (i64S hk (by omega)), addI]
    unfold insI; rw [if_neg he]) (by
   unfold p_impl_Store_rows_b2
   rw [decide_eq_false (show ¬ ((s.2.2.length : Int) < (s.2.2.length : Int)) by omega), cond_false, List.take_length]; rfl)
 unfold p_impl_Store_rows
 rw [bd.yes h0, bd.yes h1]
theorem e_l2M (a b : List Row) (hab : a.length + b.length ≤ 100000) (h : Asc a) : p_spec_l2Merge a b = some (mg a b) := by
 unfold p_spec_l2Merge
 have g1 : room (([] : List Row).length + a.length) := by rw [List.length_nil]; unfold room; omega
 rw [gd.yes g1, List.nil_append]
 have : lp (p_spec_l2Merge_b0 b) (a, 0) = some (mg a b) := lp_for (body := p_spec_l2Merge_b0 b) (fun k => (mg a (b.take k), (k : Int))) b.length (mg a b) (fun k hk => by
  unfold p_spec_l2Merge_b0
  have hl := mg_take_len a b k (by omega)
  rw [dlt hk, cond_true, gd.yes (ixN hk)]
  simp only [Int.toNat_natCast]
  rw [bd.yes (e_l2Put _ (nth b k) (by omega)), l2_ins _ _ (mg_asc h), gd.yes (i64S hk (by omega)), mg_take a b k hk, addI]) (by
  unfold p_spec_l2Merge_b0
  rw [decide_eq_false (show ¬ ((b.length : Int) < (b.length : Int)) by omega), cond_false, List.take_length])
 rw [bd.yes this]
theorem partOf_yes {p : Part} (h : partOk p = true) (id : Int) : partOf p id = rowsOf p id := by unfold partOf; rw [if_pos h]
theorem e_spec_rows (s : Store) (id : Int) (hp : s.2.1.length ≤ 6) (hm : s.2.2.length ≤ 30) (hP : ∀ p ∈ s.2.1, Dp.ok p ∧ Wt.w p ≤ 1048576) (hK : ∀ p ∈ s.2.1, partOk p = true) : p_spec_l13Rows s id = some (rowsS s id) := by
 have h0 : lp (p_spec_l13Rows_b0 s id) (([] : List Row), 0) = some (parR s.2.1 id) :=
  lp_for (body := p_spec_l13Rows_b0 s id) (fun k => ((s.2.1.take k).foldl (fun o p => mg o (partOf p id)) [], (k : Int))) s.2.1.length (parR s.2.1 id) (fun k hk => by
   have hl := parR_len (s.2.1.take k) id
   have hasc := parR_asc (s.2.1.take k) id
   rw [List.length_take, Nat.min_eq_left (by omega)] at hl
   unfold parR at hl hasc
   obtain ⟨k1, k2⟩ := hP _ (nth_mem hk)
   have hk3 := hK _ (nth_mem hk)
   have h24 := partOf_24 (nth s.2.1 k) id
   have hlen := partOk_len' hk3
   unfold p_spec_l13Rows_b0
   rw [dlt hk, cond_true, gd.yes (ixN hk)]
   simp only [Int.toNat_natCast]
   rw [bd.yes (e_l12Of (nth s.2.1 k) id k1 hlen), ← partOf_yes hk3 id, bd.yes (e_l2M _ _ (by omega) hasc), gd.yes (i64S hk (by omega)), foldl_take _ _ _ _ hk, addI]) (by
   unfold p_spec_l13Rows_b0
   rw [decide_eq_false (show ¬ ((s.2.1.length : Int) < (s.2.1.length : Int)) by omega), cond_false, List.take_length]; rfl)
 have hpl := parR_len s.2.1 id
 have h1 : lp (p_spec_l13Rows_b1 s id) (parR s.2.1 id, 0) = some (rowsS s id) :=
  lp_for (body := p_spec_l13Rows_b1 s id) (fun k => (memR (s.2.2.take k) id (parR s.2.1 id), (k : Int))) s.2.2.length (rowsS s id) (fun k hk => by
   have hl := memR_len id (s.2.2.take k) (parR s.2.1 id)
   have hasc := memR_asc id (s.2.2.take k) (parR s.2.1 id) (parR_asc _ _)
   rw [List.length_take, Nat.min_eq_left (by omega)] at hl
   unfold p_spec_l13Rows_b1
   rw [dlt hk, cond_true, gd.yes (ixN hk), memR_take _ _ _ hk]
   simp only [Int.toNat_natCast]
   by_cases he : (nth s.2.2 k).1 = id
   ·rw [decide_eq_true he, cond_true, bd.yes (e_l2Put _ _ (by omega)), l2_ins _ _ hasc, gd.yes (i64S hk (by omega)), addI]
    unfold insI; rw [if_pos he]
   ·rw [decide_eq_false he, cond_false, gd.yes (i64S hk (by omega)), addI]
    unfold insI; rw [if_neg he]) (by
   unfold p_spec_l13Rows_b1
   rw [decide_eq_false (show ¬ ((s.2.2.length : Int) < (s.2.2.length : Int)) by omega), cond_false, List.take_length]; rfl)
 unfold p_spec_l13Rows
 rw [bd.yes h0, bd.yes h1]
theorem e_Max (l : List Int) (h : l.Pairwise (· < ·)) (h0 : 0 < l.length) (hl : l.length ≤ 1048576) : p_slices_Max_int_int l = some (nth l (l.length - 1)) := by
 unfold p_slices_Max_int_int
 rw [decide_eq_false (show ¬ ((l.length : Int) < 1) by omega), cond_false, gd.yes (show ix 0 l.length by unfold ix; omega)]
 have : lp (p_slices_Max_int_int_b0 l) (nth l 0, ((0 : Nat) : Int) + 1) = some (nth l (l.length - 1)) := lp_for (body := p_slices_Max_int_int_b0 l) (fun k => (nth l k, (k : Int) + 1)) (l.length - 1) (nth l (l.length - 1)) (fun k hk => by
  have hk1 : k + 1 < l.length := by omega
  have hlt : nth l k < nth l (k + 1) := by
   rw [nth_eq l k (by omega), nth_eq l (k + 1) hk1]
   exact List.pairwise_iff_getElem.1 h k (k + 1) (by omega) hk1 (by omega)
  unfold p_slices_Max_int_int_b0
  rw [decide_eq_true (show (k : Int) + 1 < (l.length : Int) by omega), cond_true, addI, gd.yes (ixN hk1), gd.yes (show I64 (((k + 1 : Nat) : Int) + 1) by unfold I64; omega)]
  simp only [Int.toNat_natCast]
  rw [show max (nth l k) (nth l (k + 1)) = nth l (k + 1) by omega]) (by
  unfold p_slices_Max_int_int_b0
  rw [decide_eq_false (show ¬ (((l.length - 1 : Nat) : Int) + 1 < (l.length : Int)) by omega), cond_false])
 have e1 : ((0 : Nat) : Int) + 1 = 1 := rfl
 rw [e1] at this
 rw [bd.yes this]
def lastId (p : Part) : Int := nth p.1 (p.1.length - 1)
def badP (n : Nat) (p : Part) : Bool := !partOk p || (decide (p.1.length = 0) || decide ((n : Int) < lastId p))
def badM (n : Nat) (m : Sample) : Bool := !inn 1 m.1 (n : Int) || !rowOk m.2
def badR (s : Store) (k : Nat) : Bool := decide (24 < (rowsS s ((k : Int) + 1)).length)
def storeB (s : Store) : Bool := indexB s.1 && (decide (s.2.1.length ≤ 6) && (decide (s.2.2.length ≤ 20) && (allN s.2.1.length (fun k => badP s.1.1.length (nth s.2.1 k)) && (allN s.2.2.length (fun k => badM s.1.1.length (nth s.2.2 k)) && allN s.1.1.length (badR s)))))
structure okS (s : Store) : Prop where
 w1 : Wt.w s.1.1 ≤ 4194304
 w2 : postsW s.1.2
 pl : s.2.1.length ≤ 1048576
 ml : s.2.2.length ≤ 1048576
 p : ∀ p ∈ s.2.1, Dp.ok p ∧ Wt.w p ≤ 1048576
theorem badP_ok {n : Nat} {p : Part} (h : badP n p = false) : partOk p = true ∧ 0 < p.1.length ∧ lastId p ≤ (n : Int) := by
 unfold badP at h
 simp only [Bool.or_eq_false_iff, Bool.not_eq_false', decide_eq_false_iff_not] at h
 exact ⟨h.1, by omega, by omega⟩
theorem e_badP (n : Nat) (p : Part) (_ : Dp.ok p) (hl : p.1.length ≤ 1048576) (h1 : p_impl_PartOk p = some (partOk p)) : (bd (p_impl_PartOk p) fun r29 => cond (!r29) (some (true)) (cond (decide (((p.1).length : Int) = 0)) (some (true)) (bd (p_slices_Max_int_int (p.1)) fun r33 => some (decide ((n : Int) < r33))))) = some (badP n p) := by
 rw [bd.yes h1]
 unfold badP
 cases h : partOk p with
 | false => rfl
 | true =>
  rw [Bool.not_true, cond_false, Bool.false_or]
  by_cases h0 : p.1.length = 0
  ·rw [decide_eq_true (show (p.1.length : Int) = 0 by omega), cond_true, decide_eq_true h0]; rfl
  ·rw [decide_eq_false (show ¬ (p.1.length : Int) = 0 by omega), cond_false, decide_eq_false h0, bd.yes (e_Max p.1 (partOk_asc h) (by omega) hl)]; rfl
theorem e_impl_StoreOk (s : Store) (h : okS s) : p_impl_StoreOk s = some (storeB s) := by
 have hpl := h.pl
 have hml := h.ml
 unfold p_impl_StoreOk storeB
 rw [bd.yes (e_impl_IndexOk s.1 h.w1 h.w2)]
 cases hi : indexB s.1 with
 | false => rfl
 | true =>
  have hn6 := (indexB_canon hi).2.2.1
  rw [Bool.not_true, cond_false]
  by_cases h6 : s.2.1.length ≤ 6
  ·rw [decide_eq_false (show ¬ (6 : Int) < (s.2.1.length : Int) by omega), cond_false, decide_eq_true h6]
   by_cases h20 : s.2.2.length ≤ 20
   ·rw [decide_eq_false (show ¬ (20 : Int) < (s.2.2.length : Int) by omega), bd_some, cond_false, decide_eq_true h20, Bool.true_and, Bool.true_and, Bool.true_and]
    have hr0 : ∀ k, k < s.2.1.length → p_impl_StoreOk_b0 s (k : Int) = some (if badP s.1.1.length (nth s.2.1 k) then .inr (.inr false) else .inl ((k + 1 : Nat) : Int)) := fun k hk => by
     obtain ⟨k1, k2⟩ := h.p _ (nth_mem hk)
     have hl : (nth s.2.1 k).1.length ≤ Wt.w (nth s.2.1 k) := Nat.le_trans wL_le (Nat.le_add_right _ _)
     unfold p_impl_StoreOk_b0
     rw [dlt hk, cond_true, gd.yes (ixN hk)]
     simp only [Int.toNat_natCast]
     rw [bd.yes (e_badP s.1.1.length (nth s.2.1 k) k1 (by omega) (e_impl_PartOk _ k1)), gd.yes (i64S hk (by omega)), addI]
     cases badP s.1.1.length (nth s.2.1 k) <;> rfl
    rcases lp_scan (body := p_impl_StoreOk_b0 s) (fun k => (k : Int)) s.2.1.length (fun k => badP s.1.1.length (nth s.2.1 k)) (.inl ()) (fun _ => .inr false) (fun k hk _ h => by rw [hr0 k hk, h]; rfl) (fun k hk _ h => by rw [hr0 k hk, h]; rfl) (fun _ => by unfold p_impl_StoreOk_b0; rw [decide_eq_false (show ¬ ((s.2.1.length : Int) < (s.2.1.length : Int)) by omega)]; rfl) with ⟨a1, a2⟩ | ⟨a1, _, _, _, _, a2⟩
    ·rw [show (lp (p_impl_StoreOk_b0 s) 0) = _ from a2, bd_swl, a1, Bool.true_and]
     have hr1 : ∀ k, k < s.2.2.length → p_impl_StoreOk_b1 s (k : Int) = some (if badM s.1.1.length (nth s.2.2 k) then .inr (.inr false) else .inl ((k + 1 : Nat) : Int)) := fun k hk => by
      unfold p_impl_StoreOk_b1 badM
      rw [dlt hk, cond_true, gd.yes (ixN hk)]
      simp only [Int.toNat_natCast]
      rw [bd.yes (e_impl_within _ _ _), bd.yes (e_impl_rowOk _), gd.yes (i64S hk (by omega)), addI]
      cases inn 1 (nth s.2.2 k).1 (s.1.1.length : Int) <;> cases rowOk (nth s.2.2 k).2 <;> rfl
     rcases lp_scan (body := p_impl_StoreOk_b1 s) (fun k => (k : Int)) s.2.2.length (fun k => badM s.1.1.length (nth s.2.2 k)) (.inl ()) (fun _ => .inr false) (fun k hk _ h => by rw [hr1 k hk, h]; rfl) (fun k hk _ h => by rw [hr1 k hk, h]; rfl) (fun _ => by unfold p_impl_StoreOk_b1; rw [decide_eq_false (show ¬ ((s.2.2.length : Int) < (s.2.2.length : Int)) by omega)]; rfl) with ⟨b1, b2⟩ | ⟨b1, _, _, _, _, b2⟩
     ·rw [show (lp (p_impl_StoreOk_b1 s) 0) = _ from b2, bd_swl, b1, Bool.true_and]
      have hr2 : ∀ k, k < s.1.1.length → p_impl_StoreOk_b2 s ((k : Int) + 1) = some (if badR s k then .inr (.inr false) else .inl (((k + 1 : Nat) : Int) + 1)) := fun k hk => by
       unfold p_impl_StoreOk_b2 badR
       rw [decide_eq_true (show (k : Int) + 1 ≤ (s.1.1.length : Int) by omega), cond_true, bd.yes (e_impl_rows s _ h6 (by omega) h.p), gd.yes (show I64 ((k : Int) + 1 + 1) by unfold I64; omega)]
       by_cases hr : 24 < (rowsS s ((k : Int) + 1)).length
       ·rw [decide_eq_true (show (24 : Int) < ((rowsS s ((k : Int) + 1)).length : Int) by omega), decide_eq_true hr]; rfl
       ·rw [decide_eq_false (show ¬ (24 : Int) < ((rowsS s ((k : Int) + 1)).length : Int) by omega), decide_eq_false hr]
        have : (k : Int) + 1 + 1 = ((k + 1 : Nat) : Int) + 1 := by omega
        rw [this]; rfl
      rcases lp_scan (body := p_impl_StoreOk_b2 s) (fun k => (k : Int) + 1) s.1.1.length (badR s) (.inl ()) (fun _ => .inr false) (fun k hk _ h => by rw [hr2 k hk, h]; rfl) (fun k hk _ h => by rw [hr2 k hk, h]; rfl) (fun _ => by unfold p_impl_StoreOk_b2; rw [decide_eq_false (show ¬ ((s.1.1.length : Int) + 1 ≤ (s.1.1.length : Int)) by omega)]; rfl) with ⟨c1, c2⟩ | ⟨c1, _, _, _, _, c2⟩
      ·rw [show (lp (p_impl_StoreOk_b2 s) 1) = _ from c2, bd_swl, c1]
      ·rw [show (lp (p_impl_StoreOk_b2 s) 1) = _ from c2, bd_swr, c1]
     ·rw [show (lp (p_impl_StoreOk_b1 s) 0) = _ from b2, bd_swr, b1]; rfl
    ·rw [show (lp (p_impl_StoreOk_b0 s) 0) = _ from a2, bd_swr, a1]; rfl
   ·rw [decide_eq_true (show (20 : Int) < (s.2.2.length : Int) by omega), bd_some, cond_true, decide_eq_false h20]; rfl
  ·rw [decide_eq_true (show (6 : Int) < (s.2.1.length : Int) by omega), cond_true, decide_eq_false h6]; rfl
theorem e_l13Part (n : Nat) (p : Part) (hp : Dp.ok p) (hl : p.1.length ≤ 1048576) : p_spec_l13Part p (n : Int) = some (!badP n p) := by
 unfold p_spec_l13Part badP
 rw [bd.yes (e_spec_PartOk p hp)]
 cases h : partOk p with
 | false => rfl
 | true =>
  rw [cond_true, Bool.not_true, Bool.false_or]
  by_cases h0 : p.1.length = 0
  ·rw [decide_eq_false (show ¬ (0 : Int) < (p.1.length : Int) by omega), cond_false, decide_eq_true h0]; rfl
  ·have e1 : (p.1.length : Int) - 1 = ((p.1.length - 1 : Nat) : Int) := by omega
   rw [decide_eq_true (show (0 : Int) < (p.1.length : Int) by omega), cond_true, decide_eq_false h0, Bool.false_or, gd.yes (show I64 ((p.1.length : Int) - 1) by unfold I64; omega), e1, gd.yes (ixN (show p.1.length - 1 < p.1.length by omega)), bd_some, Int.toNat_natCast]
   by_cases hq : (n : Int) < lastId p
   ·have : ¬ nth p.1 (p.1.length - 1) ≤ (n : Int) := by unfold lastId at hq; omega
    rw [decide_eq_false this, decide_eq_true hq]; rfl
   ·have : nth p.1 (p.1.length - 1) ≤ (n : Int) := by unfold lastId at hq; omega
    rw [decide_eq_true this, decide_eq_false hq]; rfl
theorem e_spec_StoreOk (s : Store) (h : okS s) : p_spec_StoreOk s = some (storeB s) := by
 have hpl := h.pl
 have hml := h.ml
 unfold p_spec_StoreOk storeB
 rw [bd.yes (e_spec_IndexOk s.1 h.w1 h.w2)]
 cases hi : indexB s.1 with
 | false => rfl
 | true =>
  have hn6 := (indexB_canon hi).2.2.1
  rw [Bool.not_true, cond_false]
  by_cases h6 : s.2.1.length ≤ 6
  ·rw [decide_eq_false (show ¬ (6 : Int) < (s.2.1.length : Int) by omega), cond_false, decide_eq_true h6]
   by_cases h20 : s.2.2.length ≤ 20
   ·rw [decide_eq_false (show ¬ (20 : Int) < (s.2.2.length : Int) by omega), bd_some, cond_false, decide_eq_true h20, Bool.true_and, Bool.true_and, Bool.true_and]
    have hr0 : ∀ k, k < s.2.1.length → p_spec_StoreOk_b0 s (k : Int) = some (if badP s.1.1.length (nth s.2.1 k) then .inr (.inr false) else .inl ((k + 1 : Nat) : Int)) := fun k hk => by
     obtain ⟨k1, k2⟩ := h.p _ (nth_mem hk)
     have hl : (nth s.2.1 k).1.length ≤ Wt.w (nth s.2.1 k) := Nat.le_trans wL_le (Nat.le_add_right _ _)
     unfold p_spec_StoreOk_b0
     rw [dlt hk, cond_true, gd.yes (ixN hk)]
     simp only [Int.toNat_natCast]
     rw [bd.yes (e_l13Part s.1.1.length (nth s.2.1 k) k1 (by omega)), gd.yes (i64S hk (by omega)), addI]
     cases badP s.1.1.length (nth s.2.1 k) <;> rfl
    rcases lp_scan (body := p_spec_StoreOk_b0 s) (fun k => (k : Int)) s.2.1.length (fun k => badP s.1.1.length (nth s.2.1 k)) (.inl ()) (fun _ => .inr false) (fun k hk _ h => by rw [hr0 k hk, h]; rfl) (fun k hk _ h => by rw [hr0 k hk, h]; rfl) (fun _ => by unfold p_spec_StoreOk_b0; rw [decide_eq_false (show ¬ ((s.2.1.length : Int) < (s.2.1.length : Int)) by omega)]; rfl) with ⟨a1, a2⟩ | ⟨a1, _, _, _, _, a2⟩
    ·rw [show (lp (p_spec_StoreOk_b0 s) 0) = _ from a2, bd_swl, a1, Bool.true_and]
     have hK : ∀ p ∈ s.2.1, partOk p = true := fun p hp => by
      obtain ⟨i, hi, rfl⟩ := List.mem_iff_getElem.1 hp
      have := allN_iff.1 a1 i hi
      rw [nth_eq _ i hi] at this
      exact (badP_ok this).1
     have hr1 : ∀ k, k < s.2.2.length → p_spec_StoreOk_b1 s (k : Int) = some (if badM s.1.1.length (nth s.2.2 k) then .inr (.inr false) else .inl ((k + 1 : Nat) : Int)) := fun k hk => by
      unfold p_spec_StoreOk_b1 badM
      rw [dlt hk, cond_true, gd.yes (ixN hk)]
      simp only [Int.toNat_natCast]
      rw [bd.yes (e_spec_l6In _ _ _), bd.yes (e_spec_l2Row _), gd.yes (i64S hk (by omega)), addI]
      cases inn 1 (nth s.2.2 k).1 (s.1.1.length : Int) <;> cases rowOk (nth s.2.2 k).2 <;> rfl
     rcases lp_scan (body := p_spec_StoreOk_b1 s) (fun k => (k : Int)) s.2.2.length (fun k => badM s.1.1.length (nth s.2.2 k)) (.inl ()) (fun _ => .inr false) (fun k hk _ h => by rw [hr1 k hk, h]; rfl) (fun k hk _ h => by rw [hr1 k hk, h]; rfl) (fun _ => by unfold p_spec_StoreOk_b1; rw [decide_eq_false (show ¬ ((s.2.2.length : Int) < (s.2.2.length : Int)) by omega)]; rfl) with ⟨b1, b2⟩ | ⟨b1, _, _, _, _, b2⟩
     ·rw [show (lp (p_spec_StoreOk_b1 s) 0) = _ from b2, bd_swl, b1, Bool.true_and]
      have hr2 : ∀ k, k < s.1.1.length → p_spec_StoreOk_b2 s ((k : Int) + 1) = some (if badR s k then .inr (.inr false) else .inl (((k + 1 : Nat) : Int) + 1)) := fun k hk => by
       unfold p_spec_StoreOk_b2 badR
       rw [decide_eq_true (show (k : Int) + 1 ≤ (s.1.1.length : Int) by omega), cond_true, bd.yes (e_spec_rows s _ h6 (by omega) h.p hK), gd.yes (show I64 ((k : Int) + 1 + 1) by unfold I64; omega)]
       by_cases hr : 24 < (rowsS s ((k : Int) + 1)).length
       ·rw [decide_eq_true (show (24 : Int) < ((rowsS s ((k : Int) + 1)).length : Int) by omega), decide_eq_true hr]; rfl
       ·rw [decide_eq_false (show ¬ (24 : Int) < ((rowsS s ((k : Int) + 1)).length : Int) by omega), decide_eq_false hr]
        have : (k : Int) + 1 + 1 = ((k + 1 : Nat) : Int) + 1 := by omega
        rw [this]; rfl
      rcases lp_scan (body := p_spec_StoreOk_b2 s) (fun k => (k : Int) + 1) s.1.1.length (badR s) (.inl ()) (fun _ => .inr false) (fun k hk _ h => by rw [hr2 k hk, h]; rfl) (fun k hk _ h => by rw [hr2 k hk, h]; rfl) (fun _ => by unfold p_spec_StoreOk_b2; rw [decide_eq_false (show ¬ ((s.1.1.length : Int) + 1 ≤ (s.1.1.length : Int)) by omega)]; rfl) with ⟨c1, c2⟩ | ⟨c1, _, _, _, _, c2⟩
      ·rw [show (lp (p_spec_StoreOk_b2 s) 1) = _ from c2, bd_swl, c1]
      ·rw [show (lp (p_spec_StoreOk_b2 s) 1) = _ from c2, bd_swr, c1]
     ·rw [show (lp (p_spec_StoreOk_b1 s) 0) = _ from b2, bd_swr, b1]; rfl
    ·rw [show (lp (p_spec_StoreOk_b0 s) 0) = _ from a2, bd_swr, a1]; rfl
   ·rw [decide_eq_true (show (20 : Int) < (s.2.2.length : Int) by omega), bd_some, cond_true, decide_eq_false h20]; rfl
  ·rw [decide_eq_true (show (6 : Int) < (s.2.1.length : Int) by omega), cond_true, decide_eq_false h6]; rfl
structure goodS (s : Store) : Prop where
 i : indexB s.1 = true
 n6 : s.1.1.length ≤ 6
 p6 : s.2.1.length ≤ 6
 m20 : s.2.2.length ≤ 20
 p : ∀ p ∈ s.2.1, partOk p = true ∧ 0 < p.1.length ∧ lastId p ≤ (s.1.1.length : Int)
 m : ∀ m ∈ s.2.2, 1 ≤ m.1 ∧ m.1 ≤ (s.1.1.length : Int) ∧ rowOk m.2 = true
theorem storeB_good {s : Store} (h : storeB s = true) : goodS s := by
 unfold storeB at h
 simp only [Bool.and_eq_true, decide_eq_true_eq] at h
 obtain ⟨h1, h2, h3, h4, h5, _⟩ := h
 refine ⟨h1, (indexB_canon h1).2.2.1, h2, h3, fun p hp => ?_, fun m hm => ?_⟩
 ·obtain ⟨i, hi, rfl⟩ := List.mem_iff_getElem.1 hp
  have := allN_iff.1 h4 i hi
  rw [nth_eq _ i hi] at this
  exact badP_ok this
 ·obtain ⟨i, hi, rfl⟩ := List.mem_iff_getElem.1 hm
  have := allN_iff.1 h5 i hi
  rw [nth_eq _ i hi] at this
  unfold badM inn at this
  simp only [Bool.or_eq_false_iff, Bool.not_eq_false', Bool.and_eq_true, decide_eq_true_eq] at this
  exact ⟨this.1.1, this.1.2, this.2⟩
theorem e_clonePart (p : Part) (h1 : p.1.length ≤ 1048576) (h2 : p.2.length ≤ 1048576) (h3 : ∀ b ∈ p.2, b.length ≤ 1048576) : p_impl_clonePart p = some p := by
 have h : lp (p_impl_clonePart_b0 p) (([] : List (List Row)), 0) = some p.2 := lp_for (body := p_impl_clonePart_b0 p) (fun k => (p.2.take k, (k : Int))) p.2.length p.2 (fun k hk => by
  have hb := h3 _ (nth_mem hk)
  have hlt : (p.2.take k).length ≤ k := by rw [List.length_take]; omega
  unfold p_impl_clonePart_b0
  rw [dlt hk, cond_true, gd.yes (ixN hk)]
  simp only [Int.toNat_natCast]
  rw [gd.yes (show room (([] : List Row).length + (nth p.2 k).length) by rw [List.length_nil]; unfold room; omega), gd.yes (show room ((p.2.take k).length + 1) by unfold room; omega), gd.yes (show I64 ((k : Int) + 1) by unfold I64; omega), List.nil_append, take_succ_nth hk, addI]) (by
  unfold p_impl_clonePart_b0
  rw [decide_eq_false (show ¬ ((p.2.length : Int) < (p.2.length : Int)) by omega), cond_false, List.take_length])
 unfold p_impl_clonePart
 rw [gd.yes (show room (([] : List Int).length + p.1.length) by rw [List.length_nil]; unfold room; omega), bd.yes h, List.nil_append]
theorem partOk_le {p : Part} (h : partOk p = true) : p.1.length ≤ 1048576 ∧ p.2.length ≤ 1048576 ∧ ∀ b ∈ p.2, b.length ≤ 1048576 := by
 obtain ⟨a, b, c⟩ := partOk_small h
 exact ⟨by omega, by omega, fun x hx => by have := c x hx; omega⟩
def nums (d : Disk) : List Int := d.1.map (·.1)
def atF (d : Disk) (num : Int) : Int := place (nums d) num
theorem nums_len (d : Disk) : (nums d).length = d.1.length := List.length_map ..
theorem nums_nth (d : Disk) {k : Nat} (hk : k < d.1.length) : nth (nums d) k = (nth d.1 k).1 := by
 rw [nth_eq _ k (by rw [nums_len]; exact hk), nth_eq _ k hk]; exact List.getElem_map ..
theorem atF_lt {d : Disk} {num : Int} : atF d num < 0 ∨ ∃ k, k < d.1.length ∧ atF d num = (k : Int) := by
 have := place_lt (l := nums d) (id := num)
 rwa [nums_len] at this
theorem atF_no {d : Disk} {num : Int} (h : allN d.1.length (fun k => decide ((nth d.1 k).1 = num)) = true) : atF d num = -1 :=
 place_no (allN_iff.2 fun k hk => by
  rw [nums_len] at hk
  rw [nums_nth d hk]; exact allN_iff.1 h k hk)
theorem atF_yes {d : Disk} {num : Int} {k : Nat} (hk : k < d.1.length) (h : decide ((nth d.1 k).1 = num) = true) (h2 : ∀ i, i < k → decide ((nth d.1 i).1 = num) = false) : atF d num = (k : Int) :=
 place_yes (by rw [nums_len]; exact hk) (by rw [nums_nth d hk]; exact h) (fun i hi => by rw [nums_nth d (by omega)]; exact h2 i hi)
theorem e_impl_file (d : Disk) (num : Int) (hl : d.1.length ≤ 1048576) : p_impl_Disk_file d num = some (atF d num) := by
 have hr : ∀ k, k < d.1.length → p_slices_IndexFunc_File_File_Disk_file_1_b0 d.1 num (k : Int) = some (if decide ((nth d.1 k).1 = num) then .inr (.inr (k : Int)) else .inl ((k + 1 : Nat) : Int)) := fun k hk => by
  unfold p_slices_IndexFunc_File_File_Disk_file_1_b0 p_impl_Disk_file_1
  rw [dlt hk, cond_true, gd.yes (ixN hk)]
  simp only [Int.toNat_natCast]
  rw [gd.yes (show I64 ((k : Int) + 1) by unfold I64; omega), addI, bd_some]
  by_cases h : (nth d.1 k).1 = num <;> simp [h]
 unfold p_impl_Disk_file p_slices_IndexFunc_File_File_Disk_file_1
 rcases lp_scan (body := p_slices_IndexFunc_File_File_Disk_file_1_b0 d.1 num) (fun k => (k : Int)) d.1.length (fun k => decide ((nth d.1 k).1 = num)) (.inl ()) (fun k => .inr (k : Int)) (fun k hk _ h => by rw [hr k hk, h]; rfl) (fun k hk _ h => by rw [hr k hk, if_pos h]) (fun _ => by unfold p_slices_IndexFunc_File_File_Disk_file_1_b0; rw [decide_eq_false (show ¬ ((d.1.length : Int) < (d.1.length : Int)) by omega)]; rfl) with ⟨h1, h2⟩ | ⟨h1, k, hk, hb, hn, h2⟩
 ·rw [show (lp (p_slices_IndexFunc_File_File_Disk_file_1_b0 d.1 num) 0) = _ from h2, atF_no h1]; rfl
 ·rw [show (lp (p_slices_IndexFunc_File_File_Disk_file_1_b0 d.1 num) 0) = _ from h2, atF_yes hk hb hn]; rfl
theorem e_spec_l21At (d : Disk) (num : Int) (hl : d.1.length ≤ 1048576) : p_spec_l21At d num = some (atF d num) := by
 have hr : ∀ k, k < d.1.length → p_spec_l21At_b0 d num (k : Int) = some (if decide ((nth d.1 k).1 = num) then .inr (.inr (k : Int)) else .inl ((k + 1 : Nat) : Int)) := fun k hk => by
  unfold p_spec_l21At_b0
  rw [dlt hk, cond_true, gd.yes (ixN hk)]
  simp only [Int.toNat_natCast]
  rw [gd.yes (show I64 ((k : Int) + 1) by unfold I64; omega), addI]
  by_cases h : (nth d.1 k).1 = num <;> simp [h]
 unfold p_spec_l21At
 rcases lp_scan (body := p_spec_l21At_b0 d num) (fun k => (k : Int)) d.1.length (fun k => decide ((nth d.1 k).1 = num)) (.inl ()) (fun k => .inr (k : Int)) (fun k hk _ h => by rw [hr k hk, h]; rfl) (fun k hk _ h => by rw [hr k hk, if_pos h]) (fun _ => by unfold p_spec_l21At_b0; rw [decide_eq_false (show ¬ ((d.1.length : Int) < (d.1.length : Int)) by omega)]; rfl) with ⟨h1, h2⟩ | ⟨h1, k, hk, hb, hn, h2⟩
 ·rw [show (lp (p_spec_l21At_b0 d num) 0) = _ from h2, atF_no h1]; rfl
 ·rw [show (lp (p_spec_l21At_b0 d num) 0) = _ from h2, atF_yes hk hb hn]; rfl
def fileBad (d : Disk) (k : Nat) : Bool := !inn 1 (nth d.1 k).1 (d.2.2.2 - 1) || ((decide (0 < k) && decide ((nth d.1 k).1 ≤ (nth d.1 (k - 1)).1)) || !partOk (nth d.1 k).2)
def listBad (d : Disk) (k : Nat) : Bool := decide (atF d (nth d.2.1 k) < 0) || !allN k (fun j => decide (nth d.2.1 j = nth d.2.1 k))
def partsOf (d : Disk) : List Part := d.2.1.map fun n => (nth d.1 (atF d n).toNat).2
def openS (d : Disk) : Store := (indexP d.2.2.1, partsOf d, [])
def diskB (d : Disk) : Bool := inn 1 d.2.2.2 999 && (decide (d.1.length ≤ 20) && (decide (d.2.1.length ≤ 6) && (allN d.1.length (fileBad d) && (allN d.2.1.length (listBad d) && storeB (openS d)))))
structure okD (d : Disk) : Prop where
 w : Wt.w d.2.2.1 ≤ 4194304
 fl : d.1.length ≤ 1048576
 ll : d.2.1.length ≤ 1048576
 f : ∀ f ∈ d.1, Dp.ok f.2 ∧ Wt.w f.2 ≤ 1048576
theorem okD_of {d : Disk} (ok : Dp.ok d) (hw : Wt.w d ≤ 1048576) : okD d := by
 have e : Wt.w d = Wt.w d.1 + (Wt.w d.2.1 + (Wt.w d.2.2.1 + 0)) := rfl
 have l1 : d.1.length ≤ Wt.w d.1 := wL_le
 have l2 : d.2.1.length ≤ Wt.w d.2.1 := wL_le
 refine ⟨by omega, by omega, by omega, fun f hf => ?_⟩
 obtain ⟨i, hi, rfl⟩ := List.mem_iff_getElem.1 hf
 rw [← nth_eq _ i hi]
 have := wL_el (l := d.1) hi
 have e2 : Wt.w (nth d.1 i) = 0 + Wt.w (nth d.1 i).2 := rfl
 exact ⟨(ok.1.2 i hi).2, by omega⟩
theorem postsW_any {names : List (List Tag)} (hw : Wt.w names ≤ 4194304) : postsW (indexP names).2 := by
 obtain ⟨h1, h2, h3⟩ := w_names hw
 have hb := (e_posts names h1 h3 names.length (Nat.le_refl _)).1
 have hp : (indexP names).2.Perm (postsF names names.length) := List.mergeSort_perm _ _
 refine ⟨by rw [hp.length_eq]; have := hb.1; omega, fun k hk => ?_⟩
 have := hb.2 _ (hp.mem_iff.1 (nth_mem hk))
 omega
theorem partsOf_len (d : Disk) : (partsOf d).length = d.2.1.length := List.length_map ..
theorem partsOf_nth (d : Disk) {k : Nat} (hk : k < d.2.1.length) : nth (partsOf d) k = (nth d.1 (atF d (nth d.2.1 k)).toNat).2 := by
 rw [nth_eq _ k (by rw [partsOf_len]; exact hk), nth_eq _ k hk]; exact List.getElem_map ..
theorem okS_open {d : Disk} (h : okD d) (hl : ∀ k, k < d.2.1.length → 0 ≤ atF d (nth d.2.1 k)) : okS (openS d) := by
 refine ⟨h.w, postsW_any h.w, by show (partsOf d).length ≤ _; rw [partsOf_len]; exact h.ll, Nat.zero_le _, fun p hp => ?_⟩
 obtain ⟨k, hk, rfl⟩ := List.mem_iff_getElem.1 (show p ∈ partsOf d from hp)
 have hk2 : k < d.2.1.length := by rw [← partsOf_len]; exact hk
 rw [← nth_eq _ k hk, partsOf_nth d hk2]
 rcases atF_lt (d := d) (num := nth d.2.1 k) with h0 | ⟨j, hj, e⟩
 ·have := hl k hk2; omega
 ·rw [e, Int.toNat_natCast]; exact h.f _ (nth_mem hj)
theorem listBad_at {d : Disk} (h : allN d.2.1.length (listBad d) = true) : ∀ k, k < d.2.1.length → 0 ≤ atF d (nth d.2.1 k) := fun k hk => by
 have := allN_iff.1 h k hk
 unfold listBad at this
 simp only [Bool.or_eq_false_iff, decide_eq_false_iff_not] at this
 omega
theorem fileBad_part {d : Disk} (h : allN d.1.length (fileBad d) = true) : ∀ f ∈ d.1, partOk f.2 = true := fun f hf => by
 obtain ⟨i, hi, rfl⟩ := List.mem_iff_getElem.1 hf
 have := allN_iff.1 h i hi
 rw [← nth_eq _ i hi]
 unfold fileBad at this
 simp only [Bool.or_eq_false_iff, Bool.not_eq_false'] at this
 exact this.2.2
theorem e_impl_open (d : Disk) (h : okD d) (hf : ∀ f ∈ d.1, partOk f.2 = true) (hl : ∀ k, k < d.2.1.length → 0 ≤ atF d (nth d.2.1 k)) : p_impl_Disk_open d = some (openS d) := by
 obtain ⟨h1, h2, h3⟩ := w_names h.w
 have hll := h.ll
 have hfl := h.fl
 have key : lp (p_impl_Disk_open_b0 d) (([] : List Part), 0) = some (partsOf d) := lp_for (body := p_impl_Disk_open_b0 d) (fun k => ((partsOf d).take k, (k : Int))) d.2.1.length (partsOf d) (fun k hk => by
  rcases atF_lt (d := d) (num := nth d.2.1 k) with h0 | ⟨j, hj, e⟩
  ·have := hl k hk; omega
  ·obtain ⟨a, b, c⟩ := partOk_le (hf _ (nth_mem hj))
   have hlt : ((partsOf d).take k).length ≤ k := by rw [List.length_take]; omega
   unfold p_impl_Disk_open_b0
   rw [dlt hk, cond_true, gd.yes (ixN hk)]
   simp only [Int.toNat_natCast]
   rw [bd.yes (e_impl_file d _ hfl), gd.yes (show ix (atF d (nth d.2.1 k)) d.1.length by rw [e]; exact ixN hj), e, Int.toNat_natCast, bd.yes (e_clonePart _ a b c), gd.yes (show room (((partsOf d).take k).length + 1) by unfold room; omega), gd.yes (show I64 ((k : Int) + 1) by unfold I64; omega), take_succ_nth (show k < (partsOf d).length by rw [partsOf_len]; exact hk), partsOf_nth d hk, e, Int.toNat_natCast, addI]) (by
  unfold p_impl_Disk_open_b0
  rw [decide_eq_false (show ¬ ((d.2.1.length : Int) < (d.2.1.length : Int)) by omega), cond_false, ← partsOf_len, List.take_length])
 unfold p_impl_Disk_open
 rw [bd.yes (e_indexOf d.2.2.1 h1 h3), bd.yes key]; rfl
theorem e_l11Of_any (names : List (List Tag)) (h1 : names.length ≤ 4194304) (h2 : ∀ n ∈ names, n.length ≤ 4194304) : p_spec_l11Of names = some (names, allE names 4) := by
 unfold p_spec_l11Of
 have h0 : (([] : List Post), (97 : Int)) = (allE names 0, (97 : Int) + ((0 : Nat) : Int)) := rfl
 rw [h0, bd.yes (lp_for (body := p_spec_l11Of_b0 names) (fun i => (allE names i, (97 : Int) + (i : Int))) 4 (allE names 4) (fun i hi => by
  have hl := allE_len names i
  unfold p_spec_l11Of_b0
  rw [decide_eq_true (show (97 : Int) + (i : Int) ≤ 100 by omega), cond_true, bd.yes (e_rowE names i hi _ (by omega) h1 h2), gd.yes (by unfold I32; omega), allE_succ, show (97 : Int) + (i : Int) + 1 = 97 + ((i + 1 : Nat) : Int) by omega]) (by
  unfold p_spec_l11Of_b0; rw [decide_eq_false (show ¬ ((97 : Int) + ((4 : Nat) : Int) ≤ 100) by omega)]; rfl)), bd.yes (e_spec_l11Names names h1 h2)]
theorem postsW_all {names : List (List Tag)} (h1 : names.length ≤ 4194304) : postsW (allE names 4) := by
 have hl := allE_len names 4
 refine ⟨by omega, fun k hk => ?_⟩
 obtain ⟨i, j, _, _, hp⟩ := allE_mem (nth_mem hk)
 obtain ⟨e1, e2⟩ := cell_mem hp
 rw [e1]
 have := idsN_len names (tg i j) names.length
 show (idsN names (tg i j) names.length).length ≤ _
 omega
theorem e_spec_open (d : Disk) (h : okD d) (hl : ∀ k, k < d.2.1.length → 0 ≤ atF d (nth d.2.1 k)) : p_spec_l21Open d = some ((d.2.2.1, allE d.2.2.1 4), partsOf d, []) := by
 obtain ⟨h1, h2, h3⟩ := w_names h.w
 have hll := h.ll
 have hfl := h.fl
 have key : lp (p_spec_l21Open_b0 d) (([] : List Part), 0) = some (partsOf d) := lp_for (body := p_spec_l21Open_b0 d) (fun k => ((partsOf d).take k, (k : Int))) d.2.1.length (partsOf d) (fun k hk => by
  rcases atF_lt (d := d) (num := nth d.2.1 k) with h0 | ⟨j, hj, e⟩
  ·have := hl k hk; omega
  ·have hlt : ((partsOf d).take k).length ≤ k := by rw [List.length_take]; omega
   unfold p_spec_l21Open_b0
   rw [dlt hk, cond_true, gd.yes (ixN hk)]
   simp only [Int.toNat_natCast]
   rw [bd.yes (e_spec_l21At d _ hfl), gd.yes (show ix (atF d (nth d.2.1 k)) d.1.length by rw [e]; exact ixN hj), e, Int.toNat_natCast, gd.yes (show room (((partsOf d).take k).length + 1) by unfold room; omega), gd.yes (show I64 ((k : Int) + 1) by unfold I64; omega), take_succ_nth (show k < (partsOf d).length by rw [partsOf_len]; exact hk), partsOf_nth d hk, e, Int.toNat_natCast, addI]) (by
  unfold p_spec_l21Open_b0
  rw [decide_eq_false (show ¬ ((d.2.1.length : Int) < (d.2.1.length : Int)) by omega), cond_false, ← partsOf_len, List.take_length])
 unfold p_spec_l21Open
 rw [bd.yes (e_l11Of_any d.2.2.1 h1 (fun n hn => (h2 n hn).1)), bd.yes key]
theorem good_all {names : List (List Tag)} (h : goodN names) : allE names 4 = (indexP names).2 := canon_eq (canon_all h) (canon_posts (goodN_dist h))
theorem namesB_good {names : List (List Tag)} (h : namesB names = true) : goodN names := good_of (x := indexP names) (indexB_P h)
theorem storeB_names {names : List (List Tag)} (P : List Post) (parts : List Part) (mem : List Sample) (h : namesB names = false) : storeB ((names, P), parts, mem) = false := by
 unfold storeB indexB
 rw [show (((names, P), parts, mem) : Store).1.1 = names from rfl, h]; rfl
theorem storeB_all (names : List (List Tag)) (parts : List Part) (mem : List Sample) : storeB ((names, allE names 4), parts, mem) = storeB (indexP names, parts, mem) := by
 cases hb : namesB names with
 | false => rw [storeB_names _ _ _ hb]; exact (storeB_names (indexP names).2 parts mem hb).symm
 | true => rw [good_all (namesB_good hb)]; rfl
theorem place_take (l : List Int) (x : Int) (k : Nat) (hk : k ≤ l.length) : decide (0 ≤ place (l.take k) x) = !allN k (fun j => decide (nth l j = x)) := by
 have hl : (l.take k).length = k := by rw [List.length_take]; omega
 have hn : ∀ j, j < k → nth (l.take k) j = nth l j := fun j hj => by
  rw [nth_eq _ j (by omega), List.getElem_take, ← nth_eq l j (by omega)]
 have ea : allN (l.take k).length (fun j => decide (nth (l.take k) j = x)) = allN k (fun j => decide (nth l j = x)) := by
  rw [hl]
  exact allN_congr fun j hj => by rw [hn j hj]
 cases hc : allN k (fun j => decide (nth l j = x)) with
 | true => rw [place_no (ea.trans hc)]; rfl
 | false =>
  obtain ⟨j, hj, b1, b2⟩ := first_bad (ea.trans hc)
  rw [place_yes hj b1 b2]
  simp
theorem e_Contains (l : List Int) (x : Int) (hl : l.length ≤ 9223372036854775807) : p_slices_Contains_int_int l x = some (decide (0 ≤ place l x)) := by
 unfold p_slices_Contains_int_int
 rw [bd.yes (e_Index l x hl)]
theorem e_impl_files (d : Disk) (h : okD d) (hn : inn 1 d.2.2.2 999 = true) : lp (p_impl_DiskOk_b0 d) 0 = some (if allN d.1.length (fileBad d) then .inl () else .inr false) := by
 have hfl := h.fl
 have hnx : 1 ≤ d.2.2.2 ∧ d.2.2.2 ≤ 999 := by unfold inn at hn; simpa using hn
 have hr : ∀ k, k < d.1.length → p_impl_DiskOk_b0 d (k : Int) = some (if fileBad d k then .inr (.inr false) else .inl ((k + 1 : Nat) : Int)) := fun k hk => by
  have hp := e_impl_PartOk (nth d.1 k).2 (h.f _ (nth_mem hk)).1
  unfold p_impl_DiskOk_b0 fileBad
  rw [dlt hk, cond_true, gd.yes (ixN hk)]
  simp only [Int.toNat_natCast]
  rw [gd.yes (show I64 (d.2.2.2 - 1) by unfold I64; omega), bd.yes (e_impl_within _ _ _), gd.yes (show I64 ((k : Int) + 1) by unfold I64; omega), addI]
  cases inn 1 (nth d.1 k).1 (d.2.2.2 - 1) with
  | false => rfl
  | true =>
   rw [Bool.not_true, cond_false, Bool.false_or]
   by_cases h0 : 0 < k
   ·have e1 : (k : Int) - 1 = ((k - 1 : Nat) : Int) := by omega
    rw [decide_eq_true (show (0 : Int) < (k : Int) by omega), cond_true, decide_eq_true h0, Bool.true_and, gd.yes (show I64 ((k : Int) - 1) by unfold I64; omega), gd.yes (show ix ((k : Int) - 1) d.1.length by unfold ix; omega), e1, Int.toNat_natCast]
    by_cases hq : (nth d.1 k).1 ≤ (nth d.1 (k - 1)).1
    ·rw [decide_eq_true hq]; rfl
    ·rw [decide_eq_false hq, cond_false, Bool.false_or, bd.yes hp]
     cases partOk (nth d.1 k).2 <;> rfl
   ·rw [decide_eq_false (show ¬ (0 : Int) < (k : Int) by omega), cond_false, decide_eq_false h0, Bool.false_and, Bool.false_or, bd.yes hp]
    cases partOk (nth d.1 k).2 <;> rfl
 rcases lp_scan (body := p_impl_DiskOk_b0 d) (fun k => (k : Int)) d.1.length (fileBad d) (.inl ()) (fun _ => .inr false) (fun k hk _ h => by rw [hr k hk, h]; rfl) (fun k hk _ h => by rw [hr k hk, h]; rfl) (fun _ => by unfold p_impl_DiskOk_b0; rw [decide_eq_false (show ¬ ((d.1.length : Int) < (d.1.length : Int)) by omega)]; rfl) with ⟨h1, h2⟩ | ⟨h1, k, _, _, _, h2⟩
 ·rw [show (lp (p_impl_DiskOk_b0 d) 0) = _ from h2, h1]; rfl
 ·rw [show (lp (p_impl_DiskOk_b0 d) 0) = _ from h2, h1]; rfl
theorem e_spec_files (d : Disk) (h : okD d) (hn : inn 1 d.2.2.2 999 = true) : lp (p_spec_DiskOk_b0 d) 0 = some (if allN d.1.length (fileBad d) then .inl () else .inr false) := by
 have hfl := h.fl
 have hnx : 1 ≤ d.2.2.2 ∧ d.2.2.2 ≤ 999 := by unfold inn at hn; simpa using hn
 have hr : ∀ k, k < d.1.length → p_spec_DiskOk_b0 d (k : Int) = some (if fileBad d k then .inr (.inr false) else .inl ((k + 1 : Nat) : Int)) := fun k hk => by
  have hp := e_spec_PartOk (nth d.1 k).2 (h.f _ (nth_mem hk)).1
  unfold p_spec_DiskOk_b0 fileBad
  rw [dlt hk, cond_true, gd.yes (ixN hk)]
  simp only [Int.toNat_natCast]
  rw [gd.yes (show I64 (d.2.2.2 - 1) by unfold I64; omega), bd.yes (e_spec_l6In _ _ _), gd.yes (show I64 ((k : Int) + 1) by unfold I64; omega), addI]
  cases inn 1 (nth d.1 k).1 (d.2.2.2 - 1) with
  | false => rfl
  | true =>
   rw [Bool.not_true, cond_false, Bool.false_or]
   by_cases h0 : 0 < k
   ·have e1 : (k : Int) - 1 = ((k - 1 : Nat) : Int) := by omega
    rw [decide_eq_true (show (0 : Int) < (k : Int) by omega), cond_true, decide_eq_true h0, Bool.true_and, gd.yes (show I64 ((k : Int) - 1) by unfold I64; omega), gd.yes (show ix ((k : Int) - 1) d.1.length by unfold ix; omega), e1, Int.toNat_natCast]
    by_cases hq : (nth d.1 k).1 ≤ (nth d.1 (k - 1)).1
    ·rw [decide_eq_true hq]; rfl
    ·rw [decide_eq_false hq, cond_false, Bool.false_or, bd.yes hp]
     cases partOk (nth d.1 k).2 <;> rfl
   ·rw [decide_eq_false (show ¬ (0 : Int) < (k : Int) by omega), cond_false, decide_eq_false h0, Bool.false_and, Bool.false_or, bd.yes hp]
    cases partOk (nth d.1 k).2 <;> rfl
 rcases lp_scan (body := p_spec_DiskOk_b0 d) (fun k => (k : Int)) d.1.length (fileBad d) (.inl ()) (fun _ => .inr false) (fun k hk _ h => by rw [hr k hk, h]; rfl) (fun k hk _ h => by rw [hr k hk, h]; rfl) (fun _ => by unfold p_spec_DiskOk_b0; rw [decide_eq_false (show ¬ ((d.1.length : Int) < (d.1.length : Int)) by omega)]; rfl) with ⟨h1, h2⟩ | ⟨h1, k, _, _, _, h2⟩
 ·rw [show (lp (p_spec_DiskOk_b0 d) 0) = _ from h2, h1]; rfl
 ·rw [show (lp (p_spec_DiskOk_b0 d) 0) = _ from h2, h1]; rfl
theorem e_impl_list (d : Disk) (h : okD d) : lp (p_impl_DiskOk_b1 d) 0 = some (if allN d.2.1.length (listBad d) then .inl () else .inr false) := by
 have hfl := h.fl
 have hll := h.ll
 have hr : ∀ k, k < d.2.1.length → p_impl_DiskOk_b1 d (k : Int) = some (if listBad d k then .inr (.inr false) else .inl ((k + 1 : Nat) : Int)) := fun k hk => by
  unfold p_impl_DiskOk_b1 listBad
  rw [dlt hk, cond_true, gd.yes (ixN hk)]
  simp only [Int.toNat_natCast]
  rw [bd.yes (e_impl_file d _ hfl), gd.yes (show I64 ((k : Int) + 1) by unfold I64; omega), addI]
  by_cases h0 : atF d (nth d.2.1 k) < 0
  ·rw [decide_eq_true h0]; rfl
  ·rw [decide_eq_false h0, cond_false, Bool.false_or, gd.yes (show sl2 0 (k : Int) d.2.1.length by unfold sl2; omega), List.drop_zero, bd.yes (e_Contains _ _ (by rw [List.length_take]; omega)), place_take _ _ _ (by omega)]
   cases allN k (fun j => decide (nth d.2.1 j = nth d.2.1 k)) <;> rfl
 rcases lp_scan (body := p_impl_DiskOk_b1 d) (fun k => (k : Int)) d.2.1.length (listBad d) (.inl ()) (fun _ => .inr false) (fun k hk _ h => by rw [hr k hk, h]; rfl) (fun k hk _ h => by rw [hr k hk, h]; rfl) (fun _ => by unfold p_impl_DiskOk_b1; rw [decide_eq_false (show ¬ ((d.2.1.length : Int) < (d.2.1.length : Int)) by omega)]; rfl) with ⟨h1, h2⟩ | ⟨h1, k, _, _, _, h2⟩
 ·rw [show (lp (p_impl_DiskOk_b1 d) 0) = _ from h2, h1]; rfl
 ·rw [show (lp (p_impl_DiskOk_b1 d) 0) = _ from h2, h1]; rfl
theorem e_spec_twice (d : Disk) (k : Nat) (hk : k < d.2.1.length) (hll : d.2.1.length ≤ 1048576) : lp (p_spec_DiskOk_b2 d (k : Int)) 0 = some (if allN k (fun j => decide (nth d.2.1 j = nth d.2.1 k)) then .inl () else .inr false) := by
 have hr : ∀ j, j < k → p_spec_DiskOk_b2 d (k : Int) (j : Int) = some (if decide (nth d.2.1 j = nth d.2.1 k) then .inr (.inr false) else .inl ((j + 1 : Nat) : Int)) := fun j hj => by
  unfold p_spec_DiskOk_b2
  rw [decide_eq_true (show (j : Int) < (k : Int) by omega), cond_true, gd.yes (ixN (show j < d.2.1.length by omega))]
  simp only [Int.toNat_natCast]
  rw [gd.yes (show I64 ((j : Int) + 1) by unfold I64; omega), addI]
  cases decide (nth d.2.1 j = nth d.2.1 k) <;> rfl
 rcases lp_scan (body := p_spec_DiskOk_b2 d (k : Int)) (fun j => (j : Int)) k (fun j => decide (nth d.2.1 j = nth d.2.1 k)) (.inl ()) (fun _ => .inr false) (fun k hk _ h => by rw [hr k hk, h]; rfl) (fun k hk _ h => by rw [hr k hk, if_pos h]) (fun _ => by unfold p_spec_DiskOk_b2; rw [decide_eq_false (show ¬ ((k : Int) < (k : Int)) by omega)]; rfl) with ⟨h1, h2⟩ | ⟨h1, _, _, _, _, h2⟩
 ·rw [show (lp (p_spec_DiskOk_b2 d (k : Int)) 0) = _ from h2, h1]; rfl
 ·rw [show (lp (p_spec_DiskOk_b2 d (k : Int)) 0) = _ from h2, h1]; rfl
theorem e_spec_list (d : Disk) (h : okD d) : lp (p_spec_DiskOk_b1 d) 0 = some (if allN d.2.1.length (listBad d) then .inl () else .inr false) := by
 have hfl := h.fl
 have hll := h.ll
 have hr : ∀ k, k < d.2.1.length → p_spec_DiskOk_b1 d (k : Int) = some (if listBad d k then .inr (.inr false) else .inl ((k + 1 : Nat) : Int)) := fun k hk => by
  unfold p_spec_DiskOk_b1 listBad
  rw [dlt hk, cond_true, gd.yes (ixN hk)]
  simp only [Int.toNat_natCast]
  rw [bd.yes (e_spec_l21At d _ hfl), gd.yes (show I64 ((k : Int) + 1) by unfold I64; omega), addI]
  by_cases h0 : atF d (nth d.2.1 k) < 0
  ·rw [decide_eq_true h0]; rfl
  ·rw [decide_eq_false h0, cond_false, Bool.false_or, e_spec_twice d k hk hll]
   cases allN k (fun j => decide (nth d.2.1 j = nth d.2.1 k)) <;> rfl
 rcases lp_scan (body := p_spec_DiskOk_b1 d) (fun k => (k : Int)) d.2.1.length (listBad d) (.inl ()) (fun _ => .inr false) (fun k hk _ h => by rw [hr k hk, h]; rfl) (fun k hk _ h => by rw [hr k hk, h]; rfl) (fun _ => by unfold p_spec_DiskOk_b1; rw [decide_eq_false (show ¬ ((d.2.1.length : Int) < (d.2.1.length : Int)) by omega)]; rfl) with ⟨h1, h2⟩ | ⟨h1, k, _, _, _, h2⟩
 ·rw [show (lp (p_spec_DiskOk_b1 d) 0) = _ from h2, h1]; rfl
 ·rw [show (lp (p_spec_DiskOk_b1 d) 0) = _ from h2, h1]; rfl
theorem e_impl_DiskOk (d : Disk) (h : okD d) : p_impl_DiskOk d = some (diskB d) := by
 unfold p_impl_DiskOk diskB
 rw [bd.yes (e_impl_within _ _ _)]
 cases hn : inn 1 d.2.2.2 999 with
 | false => rfl
 | true =>
  rw [Bool.not_true, cond_false, Bool.true_and]
  by_cases h20 : d.1.length ≤ 20
  ·rw [decide_eq_false (show ¬ (20 : Int) < (d.1.length : Int) by omega), cond_false, decide_eq_true h20, Bool.true_and]
   by_cases h6 : d.2.1.length ≤ 6
   ·rw [decide_eq_false (show ¬ (6 : Int) < (d.2.1.length : Int) by omega), bd_some, cond_false, decide_eq_true h6, Bool.true_and, e_impl_files d h hn]
    cases hf : allN d.1.length (fileBad d) with
    | false => rfl
    | true =>
     rw [if_pos rfl, bd_swl, Bool.true_and, e_impl_list d h]
     cases hl : allN d.2.1.length (listBad d) with
     | false => rfl
     | true =>
      have hat := listBad_at hl
      rw [if_pos rfl, bd_swl, Bool.true_and, bd.yes (e_impl_open d h (fileBad_part hf) hat), bd.yes (e_impl_StoreOk _ (okS_open h hat))]
   ·rw [decide_eq_true (show (6 : Int) < (d.2.1.length : Int) by omega), bd_some, cond_true, decide_eq_false h6]; rfl
  ·rw [decide_eq_true (show (20 : Int) < (d.1.length : Int) by omega), cond_true, decide_eq_false h20]; rfl
theorem e_spec_DiskOk (d : Disk) (h : okD d) : p_spec_DiskOk d = some (diskB d) := by
 unfold p_spec_DiskOk diskB
 rw [bd.yes (e_spec_l6In _ _ _)]
 cases hn : inn 1 d.2.2.2 999 with
 | false => rfl
 | true =>
  rw [Bool.not_true, cond_false, Bool.true_and]
  by_cases h20 : d.1.length ≤ 20
  ·rw [decide_eq_false (show ¬ (20 : Int) < (d.1.length : Int) by omega), cond_false, decide_eq_true h20, Bool.true_and]
   by_cases h6 : d.2.1.length ≤ 6
   ·rw [decide_eq_false (show ¬ (6 : Int) < (d.2.1.length : Int) by omega), cond_false, decide_eq_true h6, Bool.true_and]
    by_cases hm : d.2.2.1.length ≤ 6
    ·rw [decide_eq_false (show ¬ (6 : Int) < (d.2.2.1.length : Int) by omega), bd_some, cond_false, e_spec_files d h hn]
     cases hf : allN d.1.length (fileBad d) with
     | false => rfl
     | true =>
      rw [if_pos rfl, bd_swl, Bool.true_and, e_spec_list d h]
      cases hl : allN d.2.1.length (listBad d) with
      | false => rfl
      | true =>
       have hat := listBad_at hl
       have hok := okS_open h hat
       have hok2 : okS ((d.2.2.1, allE d.2.2.1 4), partsOf d, []) := ⟨h.w, postsW_all (by omega), hok.pl, hok.ml, hok.p⟩
       rw [if_pos rfl, bd_swl, Bool.true_and, bd.yes (e_spec_open d h hat), bd.yes (e_spec_StoreOk _ hok2), storeB_all]; rfl
    ·have hz : storeB (openS d) = false := storeB_names _ _ _ (by unfold namesB; rw [decide_eq_false (show ¬ (d.2.2.1.length : Int) ≤ 6 by omega), Bool.and_false])
     rw [decide_eq_true (show (6 : Int) < (d.2.2.1.length : Int) by omega), bd_some, cond_true, hz, Bool.and_false, Bool.and_false]
   ·rw [decide_eq_true (show (6 : Int) < (d.2.1.length : Int) by omega), cond_true, decide_eq_false h6]; rfl
  ·rw [decide_eq_true (show (20 : Int) < (d.1.length : Int) by omega), cond_true, decide_eq_false h20]; rfl
theorem diskB_parts {d : Disk} (h : diskB d = true) : inn 1 d.2.2.2 999 = true ∧ d.1.length ≤ 20 ∧ d.2.1.length ≤ 6 ∧ allN d.1.length (fileBad d) = true ∧ allN d.2.1.length (listBad d) = true ∧ storeB (openS d) = true := by
 unfold diskB at h
 simp only [Bool.and_eq_true, decide_eq_true_eq] at h
 exact h
theorem parF_has (id t : Int) : ∀ (l : List Part) (o : List Row), Asc o → ((at? o t).isSome = true ∨ ∃ p ∈ l, (at? (partOf p id) t).isSome = true) → (at? (l.foldl (fun o p => mg o (partOf p id)) o) t).isSome = true
 | [], o, _, h => by
  rcases h with h | ⟨p, hp, _⟩
  ·exact h
  ·cases hp
 | p :: l, o, ho, h => by
  have hm := mg_at t ho (partOf_asc p id)
  refine parF_has id t l _ (mg_asc ho) ?_
  rcases h with h | ⟨q, hq, h⟩
  ·left
   rw [hm]
   cases hb : at? (partOf p id) t with
   | none => rw [Option.none_or]; exact h
   | some y => rfl
  ·rcases List.mem_cons.1 hq with rfl | hq
   ·left
    rw [hm]
    cases hb : at? (partOf q id) t with
    | none => rw [hb] at h; cases h
    | some y => rfl
   ·exact .inr ⟨q, hq, h⟩
theorem two_len {l : List Part} {p q : Part} (hp : p ∈ l) (hq : q ∈ l) (id : Int) : (mg (partOf p id) (partOf q id)).length ≤ (parR l id).length := asc_len (mg_asc (partOf_asc p id)) (parR_asc l id) fun t ht => by
 rw [mg_at t (partOf_asc p id) (partOf_asc q id)] at ht
 refine parF_has id t l [] nil_asc (.inr ?_)
 cases hb : at? (partOf q id) t with
 | some y => exact ⟨q, hq, by rw [hb]; rfl⟩
 | none =>
  rw [hb, Option.none_or] at ht
  exact ⟨p, hp, ht⟩
theorem memR_ge (id : Int) : ∀ (l : List Sample) (o : List Row), o.length ≤ (memR l id o).length
 | [], _ => Nat.le_refl _
 | m :: l, o => by
  have h1 := memR_ge id l (insI id o m)
  have h2 : o.length ≤ (insI id o m).length := by
   unfold insI
   split
   ·exact (ins_len m.2 o).1
   ·exact Nat.le_refl _
  unfold memR at h1 ⊢
  rw [List.foldl_cons]; omega
theorem ids_last {p : Part} (h : partOk p = true) {x : Int} (hx : x ∈ p.1) : x ≤ lastId p := by
 obtain ⟨i, hi, rfl⟩ := List.mem_iff_getElem.1 hx
 unfold lastId
 rw [← nth_eq p.1 i hi]
 rcases Nat.lt_or_ge i (p.1.length - 1) with h1 | h1
 ·have := ids_mono (partOk_iff h).2.2.1 h1 (by omega); omega
 ·rw [show p.1.length - 1 = i by omega]; exact Int.le_refl _
theorem two_fit {s : Store} (hs : storeB s = true) {p q : Part} (hp : p ∈ s.2.1) (hq : q ∈ s.2.1) : pmOk p q = true := by
 have hg := storeB_good hs
 obtain ⟨p1, _, p3⟩ := hg.p p hp
 obtain ⟨q1, _, q3⟩ := hg.p q hq
 refine pmOk_iff.2 ⟨p1, q1, fun id => ?_⟩
 have ep : partOf p id = rowsOf p id := by unfold partOf; rw [if_pos p1]
 have eq : partOf q id = rowsOf q id := by unfold partOf; rw [if_pos q1]
 by_cases hi : 1 ≤ id ∧ id ≤ (s.1.1.length : Int)
 ·have h5 : allN s.1.1.length (badR s) = true := by
   unfold storeB at hs
   simp only [Bool.and_eq_true] at hs
   exact hs.2.2.2.2.2
  have h6 := allN_iff.1 h5 (id - 1).toNat (by omega)
  unfold badR at h6
  rw [show (((id - 1).toNat : Nat) : Int) + 1 = id by omega] at h6
  have h24 : (rowsS s id).length ≤ 24 := by simpa using h6
  have a := two_len hp hq id
  have b := memR_ge id s.2.2 (parR s.2.1 id)
  rw [ep, eq] at a
  unfold rowsS at h24
  show (mg (rowsOf p id) (rowsOf q id)).length ≤ 24
  omega
 ·have e1 : rowsOf p id = [] := rowsOf_no fun x hx e => hi ⟨e ▸ (partOk_rng p1 x hx).1, by have := ids_last p1 hx; omega⟩
  have e2 : rowsOf q id = [] := rowsOf_no fun x hx e => hi ⟨e ▸ (partOk_rng q1 x hx).1, by have := ids_last q1 hx; omega⟩
  show (mg (rowsOf p id) (rowsOf q id)).length ≤ 24
  rw [e1, e2]; exact Nat.zero_le _
theorem e_l12Merge (a b : Part) (oka : Dp.ok a) (okb : Dp.ok b) (h1 : partOk a = true) (h2 : partOk b = true) : p_spec_l12Merge a b = some (pmP a b) := by
 have a1 := partOk_len' h1
 have a2 := partOk_len' h2
 unfold p_spec_l12Merge
 have := lp_for (body := p_spec_l12Merge_b0 a b) (fun k => (blks a b k, ((k + 1 : Nat) : Int))) 6 (blks a b 6) (fun k hk => by
  unfold p_spec_l12Merge_b0
  have g0 : ((k + 1 : Nat) : Int) ≤ 6 := by omega
  have b1 := rowsOf_ok h1 ((k + 1 : Nat) : Int)
  have b2 := rowsOf_ok h2 ((k + 1 : Nat) : Int)
  have l1 := (blockOk_iff.1 b1).2.2
  have l2 := (blockOk_iff.1 b2).2.2
  have r1 : room ((blks a b k).length + 1) := by rw [blks_len]; unfold room; omega
  have r3 : I64 (((k + 1 : Nat) : Int) + 1) := by unfold I64; omega
  simp only [g0, decide_true, cond_true, e_l12Of a _ oka a1, e_l12Of b _ okb a2, bd_some, e_spec_l2Merge _ _ (show (rowsOf a ((k + 1 : Nat) : Int)).length ≤ 100 by omega) (show (rowsOf b ((k + 1 : Nat) : Int)).length ≤ 100 by omega) (blockOk_iff.1 b1).2.1, gd.yes r1, gd.yes r3, blks_succ]
  rfl) (by unfold p_spec_l12Merge_b0; simp)
 have e0 : lp (p_spec_l12Merge_b0 a b) (([] : List (List Row)), 1) = some (blks a b 6) := this
 rw [e0, bd_some, e_l12Make _ (by rw [blks_len]; omega) fun y hy => by
  obtain ⟨i, _, rfl⟩ := List.mem_map.1 hy
  have := blk_len h1 h2 ((i + 1 : Nat) : Int); omega]
 rfl
def fullB (d : Disk) : Bool := decide (999 ≤ d.2.2.2) || decide (20 ≤ (d.1.length : Int))
def fileP (d : Disk) (num : Int) : Part := (nth d.1 (atF d num).toNat).2
def mlist (d : Disk) (v1 : Int) : List Int := ((([] : List Int) ++ ((d.2.1.take v1.toNat).drop 0)) ++ [d.2.2.2]) ++ ((d.2.1.take (d.2.1.length : Int).toNat).drop (v1 + 2).toNat)
def mergeSt (d : Disk) (v1 : Int) : List Step :=
 [(1, d.2.2.2, pmP (fileP d (nth d.2.1 v1.toNat)) (fileP d (nth d.2.1 (v1 + 1).toNat)), [], []), (2, 0, ([], []), mlist d v1, d.2.2.1), (3, nth d.2.1 v1.toNat, ([], []), [], []), (3, nth d.2.1 (v1 + 1).toNat, ([], []), [], [])]
def smP (d : Disk) (v1 : Int) : List Step := if (diskB d && (inn 0 v1 ((d.2.1.length : Int) - 2) && !fullB d)) = true then mergeSt d v1 else []
structure mergeF (d : Disk) (v1 : Int) (a b : Nat) : Prop where
 v0 : 0 ≤ v1
 v2 : v1 + 2 ≤ (d.2.1.length : Int)
 ea : atF d (nth d.2.1 v1.toNat) = (a : Int)
 eb : atF d (nth d.2.1 (v1 + 1).toNat) = (b : Int)
 ha : a < d.1.length
 hb : b < d.1.length
 fit : pmOk (nth d.1 a).2 (nth d.1 b).2 = true
theorem mergeF_of {d : Disk} {v1 : Int} (hb : diskB d = true) (hi : inn 0 v1 ((d.2.1.length : Int) - 2) = true) : ∃ a b, mergeF d v1 a b := by
 obtain ⟨_, _, _, _, hl, hs⟩ := diskB_parts hb
 have hv : 0 ≤ v1 ∧ v1 ≤ (d.2.1.length : Int) - 2 := by unfold inn at hi; simpa using hi
 have k1 : v1.toNat < d.2.1.length := by omega
 have k2 : (v1 + 1).toNat < d.2.1.length := by omega
 have n1 := listBad_at hl _ k1
 have n2 := listBad_at hl _ k2
 have p1 := partsOf_nth d k1
 have p2 := partsOf_nth d k2
 rcases atF_lt (d := d) (num := nth d.2.1 v1.toNat) with h0 | ⟨a, ha, ea⟩
 ·omega
 rcases atF_lt (d := d) (num := nth d.2.1 (v1 + 1).toNat) with h0 | ⟨b, hb', eb⟩
 ·omega
 rw [ea, Int.toNat_natCast] at p1
 rw [eb, Int.toNat_natCast] at p2
 exact ⟨a, b, hv.1, by omega, ea, eb, ha, hb', two_fit hs (p := (nth d.1 a).2) (q := (nth d.1 b).2) (p1 ▸ nth_mem (l := partsOf d) (by rw [partsOf_len]; exact k1)) (p2 ▸ nth_mem (l := partsOf d) (by rw [partsOf_len]; exact k2))⟩
theorem e_full (d : Disk) (hn : d.2.2.2 ≤ 999) (h20 : d.1.length ≤ 20) : p_impl_Disk_full d = some (fullB d) := by
 unfold p_impl_Disk_full fullB
 by_cases h1 : d.2.2.2 = 999
 ·rw [decide_eq_true h1, cond_true, bd_some, decide_eq_true (show (999 : Int) ≤ d.2.2.2 by omega), Bool.true_or]
 ·rw [decide_eq_false h1, cond_false, bd_some, decide_eq_false (show ¬ (999 : Int) ≤ d.2.2.2 by omega), Bool.false_or]
  exact congrArg some (decide_eq_decide.2 (by omega))
theorem mlist_len (d : Disk) (v1 : Int) : (mlist d v1).length ≤ 2 * d.2.1.length + 1 := by
 unfold mlist
 simp only [List.length_append, List.length_take, List.length_drop, List.length_nil, List.length_cons]
 omega
theorem e_impl_StepsMerge (d : Disk) (v1 : Int) (h : okD d) : p_impl_StepsMerge d v1 = some (smP d v1) := by
 have hfl := h.fl
 have hll := h.ll
 obtain ⟨w1, w2, _⟩ := w_names h.w
 unfold p_impl_StepsMerge smP
 rw [bd.yes (e_impl_DiskOk d h)]
 cases hb : diskB d with
 | false => rfl
 | true =>
  obtain ⟨hn, h20, h6, _, _, _⟩ := diskB_parts hb
  have hnx : 1 ≤ d.2.2.2 ∧ d.2.2.2 ≤ 999 := by unfold inn at hn; simpa using hn
  rw [Bool.not_true, cond_false, gd.yes (show I64 ((d.2.1.length : Int) - 2) by unfold I64; omega), bd.yes (e_impl_within _ _ _), Bool.true_and]
  cases hi : inn 0 v1 ((d.2.1.length : Int) - 2) with
  | false => rfl
  | true =>
   rw [Bool.not_true, cond_false, bd.yes (e_full d hnx.2 h20), bd_some, Bool.true_and]
   cases fullB d with
   | true => rfl
   | false =>
    obtain ⟨a, b, m⟩ := mergeF_of hb hi
    have v0 := m.v0
    have v2 := m.v2
    have fa := h.f _ (nth_mem m.ha)
    have fb := h.f _ (nth_mem m.hb)
    have hr : ∀ n : Nat, n ≤ 1000 → room n := fun n hn => by unfold room; omega
    have hln := mlist_len d v1
    unfold mlist at hln
    rw [cond_false, show (if (!false) = true then mergeSt d v1 else []) = mergeSt d v1 from rfl, gd.yes (show ix v1 d.2.1.length by unfold ix; omega), gd.yes (show I64 (v1 + 1) by unfold I64; omega), gd.yes (show ix (v1 + 1) d.2.1.length by unfold ix; omega), bd.yes (e_impl_file d _ hfl), m.ea, gd.yes (ixN m.ha), bd.yes (e_impl_file d _ hfl), m.eb, gd.yes (ixN m.hb)]
    simp only [Int.toNat_natCast]
    rw [bd.yes (e_impl_PartMerge _ _ fa.1 fb.1 fa.2 fb.2), pm_true m.fit, gd.yes (show sl2 0 v1 d.2.1.length by unfold sl2; omega), gd.yes (hr _ (by simp only [List.length_take, List.length_drop, List.length_nil]; omega)), gd.yes (show I64 (v1 + 2) by unfold I64; omega), gd.yes (show sl2 (v1 + 2) (d.2.1.length : Int) d.2.1.length by unfold sl2; omega),
     gd.yes (hr _ (by simp only [List.length_append, List.length_take, List.length_drop, List.length_nil]; omega)), gd.yes (hr _ (by simp only [List.length_append, List.length_take, List.length_drop, List.length_nil, List.length_cons]; omega)), bd.yes (e_impl_cloneNames _ w1 fun n hn => (w2 n hn).1)]
    unfold mergeSt fileP mlist
    rw [m.ea, m.eb]; rfl
theorem e_spec_StepsMerge (d : Disk) (v1 : Int) (h : okD d) : p_spec_StepsMerge d v1 = some (smP d v1) := by
 have hfl := h.fl
 have hll := h.ll
 obtain ⟨w1, w2, _⟩ := w_names h.w
 unfold p_spec_StepsMerge smP
 rw [bd.yes (e_spec_DiskOk d h)]
 cases hb : diskB d with
 | false => rfl
 | true =>
  obtain ⟨hn, h20, h6, _, _, _⟩ := diskB_parts hb
  have hnx : 1 ≤ d.2.2.2 ∧ d.2.2.2 ≤ 999 := by unfold inn at hn; simpa using hn
  unfold p_spec_l21Merge
  rw [Bool.not_true, cond_false, gd.yes (show I64 ((d.2.1.length : Int) - 2) by unfold I64; omega), bd.yes (e_spec_l6In _ _ _), Bool.true_and]
  cases hi : inn 0 v1 ((d.2.1.length : Int) - 2) with
  | false => rfl
  | true =>
   have hF : (cond (decide ((999 : Int) ≤ d.2.2.2)) (some true) (some (decide ((20 : Int) ≤ (d.1.length : Int))))) = some (fullB d) := by
    unfold fullB
    cases decide ((999 : Int) ≤ d.2.2.2) <;> rfl
   rw [Bool.not_true, cond_false, hF, bd_some, Bool.true_and]
   cases fullB d with
   | true => rfl
   | false =>
    obtain ⟨a, b, m⟩ := mergeF_of hb hi
    obtain ⟨pa, pb, _⟩ := pmOk_iff.1 m.fit
    have v0 := m.v0
    have v2 := m.v2
    have fa := h.f _ (nth_mem m.ha)
    have fb := h.f _ (nth_mem m.hb)
    have hr : ∀ n : Nat, n ≤ 1000 → room n := fun n hn => by unfold room; omega
    rw [cond_false, show (if (!false) = true then mergeSt d v1 else []) = mergeSt d v1 from rfl, gd.yes (show ix v1 d.2.1.length by unfold ix; omega), gd.yes (show I64 (v1 + 1) by unfold I64; omega), gd.yes (show ix (v1 + 1) d.2.1.length by unfold ix; omega), bd.yes (e_spec_l21At d _ hfl), m.ea, gd.yes (ixN m.ha), bd.yes (e_spec_l21At d _ hfl), m.eb, gd.yes (ixN m.hb)]
    simp only [Int.toNat_natCast]
    rw [bd.yes (e_l12Merge _ _ fa.1 fb.1 pa pb), gd.yes (show sl2 0 v1 d.2.1.length by unfold sl2; omega), gd.yes (show I64 (v1 + 2) by unfold I64; omega), gd.yes (show sl2 (v1 + 2) (d.2.1.length : Int) d.2.1.length by unfold sl2; omega), gd.yes (hr _ (by simp only [List.length_take, List.length_drop, List.length_nil]; omega)),
     gd.yes (hr _ (by simp only [List.length_append, List.length_take, List.length_drop, List.length_nil]; omega)), gd.yes (hr _ (by simp only [List.length_append, List.length_take, List.length_drop, List.length_nil, List.length_cons]; omega)), bd.yes (e_spec_l11Names _ w1 fun n hn => (w2 n hn).1)]
    unfold mergeSt fileP mlist
    rw [m.ea, m.eb]; rfl
def fineT (r : List Step) : Prop := Dp.ok r ∧ Wt.w r ≤ 100000000
theorem wInts (l : List Int) : Wt.w l = l.length := by
 show l.length + sumN l.length (fun i => Wt.w (nth l i)) = _
 rw [sumN_zero (f := fun i => Wt.w (nth l i)) fun i _ => rfl]; rfl
theorem fine_step (k n : Int) {p : Part} {l : List Int} {names : List (List Tag)} (hp : small p) (hl : l.length ≤ 1000) (ho : Dp.ok names) (hw : Wt.w names ≤ 4194304) : Dp.ok ((k, n, p, l, names) : Step) ∧ Wt.w ((k, n, p, l, names) : Step) ≤ 10000000 := by
 refine ⟨⟨trivial, trivial, small_ok hp, ⟨show l.length ≤ maxLen by unfold maxLen; omega, fun _ _ => trivial⟩, ho⟩, ?_⟩
 have e : Wt.w ((k, n, p, l, names) : Step) = 0 + (0 + (Wt.w p + (Wt.w l + Wt.w names))) := rfl
 have := small_w hp
 rw [e, wInts]; omega
theorem fine_steps {r : List Step} (h1 : r.length ≤ 8) (h2 : ∀ x ∈ r, Dp.ok x ∧ Wt.w x ≤ 10000000) : fineT r := by
 refine ⟨⟨show r.length ≤ maxLen by unfold maxLen; omega, fun i hi => (h2 _ (nth_mem hi)).1⟩, ?_⟩
 have e : Wt.w r = r.length + sumN r.length fun i => Wt.w (nth r i) := rfl
 have := sumN_c (f := fun i => Wt.w (nth r i)) (c := 10000000) (n := r.length) fun i hi => (h2 _ (nth_mem hi)).2
 omega
theorem small_nil : small (([], []) : Part) := ⟨Nat.zero_le _, Nat.zero_le _, fun _ h => nomatch h⟩
theorem ok_nonames : Dp.ok ([] : List (List Tag)) := ⟨Nat.zero_le _, fun _ hi => absurd hi (Nat.not_lt_zero _)⟩
theorem smP_fine {d : Disk} (v1 : Int) (ok : Dp.ok d) (h : okD d) : fineT (smP d v1) := by
 unfold smP
 split
 ·rename_i hc
  simp only [Bool.and_eq_true] at hc
  obtain ⟨hb, hi, _⟩ := hc
  obtain ⟨a, b, m⟩ := mergeF_of hb hi
  have h6 := (diskB_parts hb).2.2.1
  have hl := mlist_len d v1
  have hp : small (pmP (fileP d (nth d.2.1 v1.toNat)) (fileP d (nth d.2.1 (v1 + 1).toNat))) := by
   unfold fileP
   rw [m.ea, m.eb, Int.toNat_natCast, Int.toNat_natCast]
   exact partOk_small (pm_part m.fit)
  have hn : Wt.w ([] : List (List Tag)) ≤ 4194304 := Nat.zero_le _
  refine fine_steps (show (4 : Nat) ≤ 8 by omega) fun x hx => ?_
  unfold mergeSt at hx
  simp only [List.mem_cons, List.not_mem_nil, or_false] at hx
  rcases hx with rfl | rfl | rfl | rfl
  ·exact fine_step _ _ hp (Nat.zero_le _) ok_nonames hn
  ·exact fine_step _ _ small_nil (by omega) ok.2.2.1 h.w
  ·exact fine_step _ _ small_nil (Nat.zero_le _) ok_nonames hn
  ·exact fine_step _ _ small_nil (Nat.zero_le _) ok_nonames hn
 ·exact fine_steps (Nat.zero_le _) fun _ h => nomatch h
theorem e_FnExactStepsMerge (d : Disk) (v1 : Int) (ok : Dp.ok d) (_ : Dp.ok v1) (so : So.so d) : p_laws_FnExactStepsMerge d v1 = some true := by
 unfold p_laws_FnExactStepsMerge
 rw [s_Disk d 1048576 (by omega) (by omega) ok so, bd_some]
 by_cases hc : cut 1048576 (Wt.w d) < 0
 ·simp [hc]
 ·have hw := cut_w hc (by omega)
  have h := okD_of ok hw
  obtain ⟨okr, wr⟩ := smP_fine v1 ok h
  have n1 : Ct.m (List Step) = 8 := rfl
  have n2 : Ct.m Disk = 8 := rfl
  have c1 := Ct.le d
  have c2 := Ct.le (smP d v1)
  rw [n2] at c1
  rw [n1] at c2
  obtain ⟨k1, r1, e1, l1, u1, _⟩ := m_Disk d 1 (by omega) (by omega) ok
  obtain ⟨k2, r2, e2, l2, u2, f2⟩ := m_StepS (smP d v1) 1 (by omega) (by omega) okr
  have h1 : ¬ k1 < 0 := by omega
  have h2 : ¬ k2 < 0 := by omega
  simp [hc, t_Disk d ok hw, e_spec_StepsMerge d v1 h, e_impl_StepsMerge d v1 h, q_StepS _ _ okr okr, q_Disk d d ok ok, e1, e2, f2, h1, h2]
end Go.Proofs.YtonnpkdadcafcaaGreat
