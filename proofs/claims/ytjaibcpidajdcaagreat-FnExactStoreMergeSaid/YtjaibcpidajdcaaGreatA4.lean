/- The walks and the plain laws, part 4: each function that the law reaches computes what its plain function tells, and what the plain functions answer. Conditions: lengths that memory can hold. -/
import Derived.Test.YtjaibcpidajdcaaGreatA3
namespace Go.Proofs.YtjaibcpidajdcaaGreat
open Go Go.Sx Tryz
theorem bd_swr {α β γ : Type} {f : α → Option γ} {g : β → Option γ} {e : β} : bd (some (.inr e)) (sw f g) = g e := rfl
def insI (id : Int) (o : List Row) (m : Sample) : List Row := if m.1 = id then ins m.2 o else o
def memR (mem : List Sample) (id : Int) (o : List Row) : List Row := mem.foldl (insI id) o
def parR (parts : List Part) (id : Int) : List Row := parts.foldl (fun o p => mg o (partOf p id)) []
def rowsS (s : Store) (id : Int) : List Row := memR s.2.2 id (parR s.2.1 id)
theorem partOf_ok (p : Part) (id : Int) : blockOk (partOf p id) = true := by
 unfold partOf
 cases h : partOk p with
 | true => rw [if_pos rfl]; exact rowsOf_ok h id
 | false => rw [if_neg (by simp)]; rfl
theorem partOf_24 (p : Part) (id : Int) : (partOf p id).length ≤ 24 := (blockOk_iff.1 (partOf_ok p id)).2.2
theorem partOf_asc (p : Part) (id : Int) : Asc (partOf p id) := (blockOk_iff.1 (partOf_ok p id)).2.1
theorem parF_len (id : Int) : ∀ (l : List Part) (o : List Row), (l.foldl (fun o p => mg o (partOf p id)) o).length ≤ o.length + 24 * l.length
 | [], _ => Nat.le_refl _
 | p :: l, o => by
  have h1 := parF_len id l (mg o (partOf p id))
  have h2 := (mg_len (partOf p id) o).2
  have h3 := partOf_24 p id
  rw [List.foldl_cons, List.length_cons]; omega
theorem parR_len (l : List Part) (id : Int) : (parR l id).length ≤ 24 * l.length := by
 have := parF_len id l []
 rw [List.length_nil] at this
 unfold parR; omega
theorem parF_asc (id : Int) : ∀ (l : List Part) (o : List Row), Asc o → Asc (l.foldl (fun o p => mg o (partOf p id)) o)
 | [], _, h => h
 | _ :: l, _, h => parF_asc id l _ (mg_asc h)
theorem parR_asc (l : List Part) (id : Int) : Asc (parR l id) := parF_asc id l [] nil_asc
theorem insI_len (id : Int) (o : List Row) (m : Sample) : (insI id o m).length ≤ o.length + 1 := by
 unfold insI
 split
 ·exact (ins_len m.2 o).2
 ·omega
theorem insI_asc {id : Int} {o : List Row} (m : Sample) (h : Asc o) : Asc (insI id o m) := by
 unfold insI
 split
 ·exact ins_asc m.2 h
 ·exact h
theorem memR_len (id : Int) : ∀ (l : List Sample) (o : List Row), (memR l id o).length ≤ o.length + l.length
 | [], _ => Nat.le_refl _
 | m :: l, o => by
  have h1 := memR_len id l (insI id o m)
  have h2 := insI_len id o m
  unfold memR at h1 ⊢
  rw [List.foldl_cons, List.length_cons]; omega
theorem memR_asc (id : Int) : ∀ (l : List Sample) (o : List Row), Asc o → Asc (memR l id o)
 | [], _, h => h
 | m :: l, _, h => memR_asc id l _ (insI_asc m h)
theorem memR_take (l : List Sample) (id : Int) (o : List Row) {k : Nat} (hk : k < l.length) : memR (l.take (k + 1)) id o = insI id (memR (l.take k) id o) (nth l k) := foldl_take _ _ _ _ hk
theorem e_rowsIn (r a : List Row) (ha : a.length ≤ 500) (hr : r.length ≤ 100) : lp (p_impl_Store_rows_b1 r) (a, 0) = some (mg a r) := by
 have := lp_for (body := p_impl_Store_rows_b1 r) (fun k => (mg a (r.take k), (k : Int))) r.length (mg a r) (fun k hk => by
  have hl := mg_take_len a r k (by omega)
  unfold p_impl_Store_rows_b1
  rw [dlt hk, cond_true, gd.yes (ixN hk)]
  simp only [Int.toNat_natCast]
  rw [bd.yes (e_put _ (nth r k) (by omega)), gd.yes (i64S hk (by omega)), mg_take a r k hk, addI]) (by
  unfold p_impl_Store_rows_b1
  rw [decide_eq_false (show ¬ ((r.length : Int) < (r.length : Int)) by omega), cond_false, List.take_length])
 exact this
theorem e_impl_rows (s : Store) (id : Int) (hp : s.2.1.length ≤ 6) (hm : s.2.2.length ≤ 30) (hP : ∀ p ∈ s.2.1, Dp.ok p ∧ Wt.w p ≤ 1048576) : p_impl_Store_rows s id = some (rowsS s id) := by
 have h0 : lp (p_impl_Store_rows_b0 s id) (([] : List Row), 0) = some (parR s.2.1 id) :=
  lp_for (body := p_impl_Store_rows_b0 s id) (fun k => ((s.2.1.take k).foldl (fun o p => mg o (partOf p id)) [], (k : Int))) s.2.1.length (parR s.2.1 id) (fun k hk => by
   have hl := parR_len (s.2.1.take k) id
   rw [List.length_take, Nat.min_eq_left (by omega)] at hl
   unfold parR at hl
   obtain ⟨k1, k2⟩ := hP _ (nth_mem hk)
   have h24 := partOf_24 (nth s.2.1 k) id
   unfold p_impl_Store_rows_b0
   rw [dlt hk, cond_true, gd.yes (ixN hk)]
   simp only [Int.toNat_natCast]
   rw [bd.yes (e_impl_PartOf (nth s.2.1 k) id k1 k2), bd.yes (e_rowsIn _ _ (by omega) (by omega)), gd.yes (i64S hk (by omega)), foldl_take _ _ _ _ hk, addI]) (by
   unfold p_impl_Store_rows_b0
   rw [decide_eq_false (show ¬ ((s.2.1.length : Int) < (s.2.1.length : Int)) by omega), cond_false, List.take_length]; rfl)
 have hpl := parR_len s.2.1 id
 have h1 : lp (p_impl_Store_rows_b2 s id) (parR s.2.1 id, 0) = some (rowsS s id) :=
  lp_for (body := p_impl_Store_rows_b2 s id) (fun k => (memR (s.2.2.take k) id (parR s.2.1 id), (k : Int))) s.2.2.length (rowsS s id) (fun k hk => by
   have hl := memR_len id (s.2.2.take k) (parR s.2.1 id)
   rw [List.length_take, Nat.min_eq_left (by omega)] at hl
   unfold p_impl_Store_rows_b2
   rw [dlt hk, cond_true, gd.yes (ixN hk), memR_take _ _ _ hk]
   simp only [Int.toNat_natCast]
   by_cases he : (nth s.2.2 k).1 = id
   ·rw [decide_eq_true he, cond_true, bd.yes (e_put _ _ (by omega)), gd.yes (i64S hk (by omega)), addI]
    unfold insI; rw [if_pos he]
   ·rw [decide_eq_false he, cond_false, gd.yes (i64S hk (by omega)), addI]
    unfold insI; rw [if_neg he]) (by
   unfold p_impl_Store_rows_b2
   rw [decide_eq_false (show ¬ ((s.2.2.length : Int) < (s.2.2.length : Int)) by omega), cond_false, List.take_length]; rfl)
 unfold p_impl_Store_rows
 rw [bd.yes h0, bd.yes h1]
theorem e_l2M (a b : List Row) (hab : a.length + b.length ≤ 100000) (h : Asc a) : p_spec_l2Merge a b = some (mg a b) := by
 unfold p_spec_l2Merge
 have g1 : room (([] : List Row).length + a.length) := by rw [List.length_nil]; unfold room; omega
 rw [gd.yes g1, List.nil_append]
 have : lp (p_spec_l2Merge_b0 b) (a, 0) = some (mg a b) := lp_for (body := p_spec_l2Merge_b0 b) (fun k => (mg a (b.take k), (k : Int))) b.length (mg a b) (fun k hk => by
  unfold p_spec_l2Merge_b0
  have hl := mg_take_len a b k (by omega)
  rw [dlt hk, cond_true, gd.yes (ixN hk)]
  simp only [Int.toNat_natCast]
  rw [bd.yes (e_l2Put _ (nth b k) (by omega)), l2_ins _ _ (mg_asc h), gd.yes (i64S hk (by omega)), mg_take a b k hk, addI]) (by
  unfold p_spec_l2Merge_b0
  rw [decide_eq_false (show ¬ ((b.length : Int) < (b.length : Int)) by omega), cond_false, List.take_length])
 rw [bd.yes this]
theorem partOf_yes {p : Part} (h : partOk p = true) (id : Int) : partOf p id = rowsOf p id := by unfold partOf; rw [if_pos h]
theorem e_spec_rows (s : Store) (id : Int) (hp : s.2.1.length ≤ 6) (hm : s.2.2.length ≤ 30) (hP : ∀ p ∈ s.2.1, Dp.ok p ∧ Wt.w p ≤ 1048576) (hK : ∀ p ∈ s.2.1, partOk p = true) : p_spec_l13Rows s id = some (rowsS s id) := by
 have h0 : lp (p_spec_l13Rows_b0 s id) (([] : List Row), 0) = some (parR s.2.1 id) :=
  lp_for (body := p_spec_l13Rows_b0 s id) (fun k => ((s.2.1.take k).foldl (fun o p => mg o (partOf p id)) [], (k : Int))) s.2.1.length (parR s.2.1 id) (fun k hk => by
   have hl := parR_len (s.2.1.take k) id
   have hasc := parR_asc (s.2.1.take k) id
   rw [List.length_take, Nat.min_eq_left (by omega)] at hl
   unfold parR at hl hasc
   obtain ⟨k1, k2⟩ := hP _ (nth_mem hk)
   have hk3 := hK _ (nth_mem hk)
   have h24 := partOf_24 (nth s.2.1 k) id
   have hlen := partOk_len' hk3
   unfold p_spec_l13Rows_b0
   rw [dlt hk, cond_true, gd.yes (ixN hk)]
   simp only [Int.toNat_natCast]
   rw [bd.yes (e_l12Of (nth s.2.1 k) id k1 hlen), ← partOf_yes hk3 id, bd.yes (e_l2M _ _ (by omega) hasc), gd.yes (i64S hk (by omega)), foldl_take _ _ _ _ hk, addI]) (by
   unfold p_spec_l13Rows_b0
   rw [decide_eq_false (show ¬ ((s.2.1.length : Int) < (s.2.1.length : Int)) by omega), cond_false, List.take_length]; rfl)
 have hpl := parR_len s.2.1 id
 have h1 : lp (p_spec_l13Rows_b1 s id) (parR s.2.1 id, 0) = some (rowsS s id) :=
  lp_for (body := p_spec_l13Rows_b1 s id) (fun k => (memR (s.2.2.take k) id (parR s.2.1 id), (k : Int))) s.2.2.length (rowsS s id) (fun k hk => by
   have hl := memR_len id (s.2.2.take k) (parR s.2.1 id)
   have hasc := memR_asc id (s.2.2.take k) (parR s.2.1 id) (parR_asc _ _)
   rw [List.length_take, Nat.min_eq_left (by omega)] at hl
   unfold p_spec_l13Rows_b1
   rw [dlt hk, cond_true, gd.yes (ixN hk), memR_take _ _ _ hk]
   simp only [Int.toNat_natCast]
   by_cases he : (nth s.2.2 k).1 = id
   ·rw [decide_eq_true he, cond_true, bd.yes (e_l2Put _ _ (by omega)), l2_ins _ _ hasc, gd.yes (i64S hk (by omega)), addI]
    unfold insI; rw [if_pos he]
   ·rw [decide_eq_false he, cond_false, gd.yes (i64S hk (by omega)), addI]
    unfold insI; rw [if_neg he]) (by
   unfold p_spec_l13Rows_b1
   rw [decide_eq_false (show ¬ ((s.2.2.length : Int) < (s.2.2.length : Int)) by omega), cond_false, List.take_length]; rfl)
 unfold p_spec_l13Rows
 rw [bd.yes h0, bd.yes h1]
theorem e_Max (l : List Int) (h : l.Pairwise (· < ·)) (h0 : 0 < l.length) (hl : l.length ≤ 1048576) : p_slices_Max_int_int l = some (nth l (l.length - 1)) := by
 unfold p_slices_Max_int_int
 rw [decide_eq_false (show ¬ ((l.length : Int) < 1) by omega), cond_false, gd.yes (show ix 0 l.length by unfold ix; omega)]
 have : lp (p_slices_Max_int_int_b0 l) (nth l 0, ((0 : Nat) : Int) + 1) = some (nth l (l.length - 1)) := lp_for (body := p_slices_Max_int_int_b0 l) (fun k => (nth l k, (k : Int) + 1)) (l.length - 1) (nth l (l.length - 1)) (fun k hk => by
  have hk1 : k + 1 < l.length := by omega
  have hlt : nth l k < nth l (k + 1) := by
   rw [nth_eq l k (by omega), nth_eq l (k + 1) hk1]
   exact List.pairwise_iff_getElem.1 h k (k + 1) (by omega) hk1 (by omega)
  unfold p_slices_Max_int_int_b0
  rw [decide_eq_true (show (k : Int) + 1 < (l.length : Int) by omega), cond_true, addI, gd.yes (ixN hk1), gd.yes (show I64 (((k + 1 : Nat) : Int) + 1) by unfold I64; omega)]
  simp only [Int.toNat_natCast]
  rw [show max (nth l k) (nth l (k + 1)) = nth l (k + 1) by omega]) (by
  unfold p_slices_Max_int_int_b0
  rw [decide_eq_false (show ¬ (((l.length - 1 : Nat) : Int) + 1 < (l.length : Int)) by omega), cond_false])
 have e1 : ((0 : Nat) : Int) + 1 = 1 := rfl
 rw [e1] at this
 rw [bd.yes this]
def lastId (p : Part) : Int := nth p.1 (p.1.length - 1)
def badP (n : Nat) (p : Part) : Bool := !partOk p || (decide (p.1.length = 0) || decide ((n : Int) < lastId p))
def badM (n : Nat) (m : Sample) : Bool := !inn 1 m.1 (n : Int) || !rowOk m.2
def badR (s : Store) (k : Nat) : Bool := decide (24 < (rowsS s ((k : Int) + 1)).length)
def storeB (s : Store) : Bool := indexB s.1 && (decide (s.2.1.length ≤ 6) && (decide (s.2.2.length ≤ 20) && (allN s.2.1.length (fun k => badP s.1.1.length (nth s.2.1 k)) && (allN s.2.2.length (fun k => badM s.1.1.length (nth s.2.2 k)) && allN s.1.1.length (badR s)))))
structure okS (s : Store) : Prop where
 w1 : Wt.w s.1.1 ≤ 4194304
 w2 : postsW s.1.2
 pl : s.2.1.length ≤ 1048576
 ml : s.2.2.length ≤ 1048576
 p : ∀ p ∈ s.2.1, Dp.ok p ∧ Wt.w p ≤ 1048576
theorem badP_ok {n : Nat} {p : Part} (h : badP n p = false) : partOk p = true ∧ 0 < p.1.length ∧ lastId p ≤ (n : Int) := by
 unfold badP at h
 simp only [Bool.or_eq_false_iff, Bool.not_eq_false', decide_eq_false_iff_not] at h
 exact ⟨h.1, by omega, by omega⟩
theorem e_badP (n : Nat) (p : Part) (_ : Dp.ok p) (hl : p.1.length ≤ 1048576) (h1 : p_impl_PartOk p = some (partOk p)) : (bd (p_impl_PartOk p) fun r29 => cond (!r29) (some (true)) (cond (decide (((p.1).length : Int) = 0)) (some (true)) (bd (p_slices_Max_int_int (p.1)) fun r33 => some (decide ((n : Int) < r33))))) = some (badP n p) := by
 rw [bd.yes h1]
 unfold badP
 cases h : partOk p with
 | false => rfl
 | true =>
  rw [Bool.not_true, cond_false, Bool.false_or]
  by_cases h0 : p.1.length = 0
  ·rw [decide_eq_true (show (p.1.length : Int) = 0 by omega), cond_true, decide_eq_true h0]; rfl
  ·rw [decide_eq_false (show ¬ (p.1.length : Int) = 0 by omega), cond_false, decide_eq_false h0, bd.yes (e_Max p.1 (partOk_asc h) (by omega) hl)]; rfl
theorem e_impl_StoreOk (s : Store) (h : okS s) : p_impl_StoreOk s = some (storeB s) := by
 have hpl := h.pl
 have hml := h.ml
 unfold p_impl_StoreOk storeB
 rw [bd.yes (e_impl_IndexOk s.1 h.w1 h.w2)]
 cases hi : indexB s.1 with
 | false => rfl
 | true =>
  have hn6 := (indexB_canon hi).2.2.1
  rw [Bool.not_true, cond_false]
  by_cases h6 : s.2.1.length ≤ 6
  ·rw [decide_eq_false (show ¬ (6 : Int) < (s.2.1.length : Int) by omega), cond_false, decide_eq_true h6]
   by_cases h20 : s.2.2.length ≤ 20
   ·rw [decide_eq_false (show ¬ (20 : Int) < (s.2.2.length : Int) by omega), bd_some, cond_false, decide_eq_true h20, Bool.true_and, Bool.true_and, Bool.true_and]
    have hr0 : ∀ k, k < s.2.1.length → p_impl_StoreOk_b0 s (k : Int) = some (if badP s.1.1.length (nth s.2.1 k) then .inr (.inr false) else .inl ((k + 1 : Nat) : Int)) := fun k hk => by
     obtain ⟨k1, k2⟩ := h.p _ (nth_mem hk)
     have hl : (nth s.2.1 k).1.length ≤ Wt.w (nth s.2.1 k) := Nat.le_trans wL_le (Nat.le_add_right _ _)
     unfold p_impl_StoreOk_b0
     rw [dlt hk, cond_true, gd.yes (ixN hk)]
     simp only [Int.toNat_natCast]
     rw [bd.yes (e_badP s.1.1.length (nth s.2.1 k) k1 (by omega) (e_impl_PartOk _ k1)), gd.yes (i64S hk (by omega)), addI]
     cases badP s.1.1.length (nth s.2.1 k) <;> rfl
    rcases lp_scan (body := p_impl_StoreOk_b0 s) (fun k => (k : Int)) s.2.1.length (fun k => badP s.1.1.length (nth s.2.1 k)) (.inl ()) (fun _ => .inr false) (fun k hk _ h => by rw [hr0 k hk, h]; rfl) (fun k hk _ h => by rw [hr0 k hk, h]; rfl) (fun _ => by unfold p_impl_StoreOk_b0; rw [decide_eq_false (show ¬ ((s.2.1.length : Int) < (s.2.1.length : Int)) by omega)]; rfl) with ⟨a1, a2⟩ | ⟨a1, _, _, _, _, a2⟩
    ·rw [show (lp (p_impl_StoreOk_b0 s) 0) = _ from a2, bd_swl, a1, Bool.true_and]
     have hr1 : ∀ k, k < s.2.2.length → p_impl_StoreOk_b1 s (k : Int) = some (if badM s.1.1.length (nth s.2.2 k) then .inr (.inr false) else .inl ((k + 1 : Nat) : Int)) := fun k hk => by
      unfold p_impl_StoreOk_b1 badM
      rw [dlt hk, cond_true, gd.yes (ixN hk)]
      simp only [Int.toNat_natCast]
      rw [bd.yes (e_impl_within _ _ _), bd.yes (e_impl_rowOk _), gd.yes (i64S hk (by omega)), addI]
      cases inn 1 (nth s.2.2 k).1 (s.1.1.length : Int) <;> cases rowOk (nth s.2.2 k).2 <;> rfl
     rcases lp_scan (body := p_impl_StoreOk_b1 s) (fun k => (k : Int)) s.2.2.length (fun k => badM s.1.1.length (nth s.2.2 k)) (.inl ()) (fun _ => .inr false) (fun k hk _ h => by rw [hr1 k hk, h]; rfl) (fun k hk _ h => by rw [hr1 k hk, h]; rfl) (fun _ => by unfold p_impl_StoreOk_b1; rw [decide_eq_false (show ¬ ((s.2.2.length : Int) < (s.2.2.length : Int)) by omega)]; rfl) with ⟨b1, b2⟩ | ⟨b1, _, _, _, _, b2⟩
     ·rw [show (lp (p_impl_StoreOk_b1 s) 0) = _ from b2, bd_swl, b1, Bool.true_and]
      have hr2 : ∀ k, k < s.1.1.length → p_impl_StoreOk_b2 s ((k : Int) + 1) = some (if badR s k then .inr (.inr false) else .inl (((k + 1 : Nat) : Int) + 1)) := fun k hk => by
       unfold p_impl_StoreOk_b2 badR
       rw [decide_eq_true (show (k : Int) + 1 ≤ (s.1.1.length : Int) by omega), cond_true, bd.yes (e_impl_rows s _ h6 (by omega) h.p), gd.yes (show I64 ((k : Int) + 1 + 1) by unfold I64; omega)]
       by_cases hr : 24 < (rowsS s ((k : Int) + 1)).length
       ·rw [decide_eq_true (show (24 : Int) < ((rowsS s ((k : Int) + 1)).length : Int) by omega), decide_eq_true hr]; rfl
       ·rw [decide_eq_false (show ¬ (24 : Int) < ((rowsS s ((k : Int) + 1)).length : Int) by omega), decide_eq_false hr]
        have : (k : Int) + 1 + 1 = ((k + 1 : Nat) : Int) + 1 := by omega
        rw [this]; rfl
      rcases lp_scan (body := p_impl_StoreOk_b2 s) (fun k => (k : Int) + 1) s.1.1.length (badR s) (.inl ()) (fun _ => .inr false) (fun k hk _ h => by rw [hr2 k hk, h]; rfl) (fun k hk _ h => by rw [hr2 k hk, h]; rfl) (fun _ => by unfold p_impl_StoreOk_b2; rw [decide_eq_false (show ¬ ((s.1.1.length : Int) + 1 ≤ (s.1.1.length : Int)) by omega)]; rfl) with ⟨c1, c2⟩ | ⟨c1, _, _, _, _, c2⟩
      ·rw [show (lp (p_impl_StoreOk_b2 s) 1) = _ from c2, bd_swl, c1]
      ·rw [show (lp (p_impl_StoreOk_b2 s) 1) = _ from c2, bd_swr, c1]
     ·rw [show (lp (p_impl_StoreOk_b1 s) 0) = _ from b2, bd_swr, b1]; rfl
    ·rw [show (lp (p_impl_StoreOk_b0 s) 0) = _ from a2, bd_swr, a1]; rfl
   ·rw [decide_eq_true (show (20 : Int) < (s.2.2.length : Int) by omega), bd_some, cond_true, decide_eq_false h20]; rfl
  ·rw [decide_eq_true (show (6 : Int) < (s.2.1.length : Int) by omega), cond_true, decide_eq_false h6]; rfl
theorem e_l13Part (n : Nat) (p : Part) (hp : Dp.ok p) (hl : p.1.length ≤ 1048576) : p_spec_l13Part p (n : Int) = some (!badP n p) := by
 unfold p_spec_l13Part badP
 rw [bd.yes (e_spec_PartOk p hp)]
 cases h : partOk p with
 | false => rfl
 | true =>
  rw [cond_true, Bool.not_true, Bool.false_or]
  by_cases h0 : p.1.length = 0
  ·rw [decide_eq_false (show ¬ (0 : Int) < (p.1.length : Int) by omega), cond_false, decide_eq_true h0]; rfl
  ·have e1 : (p.1.length : Int) - 1 = ((p.1.length - 1 : Nat) : Int) := by omega
   rw [decide_eq_true (show (0 : Int) < (p.1.length : Int) by omega), cond_true, decide_eq_false h0, Bool.false_or, gd.yes (show I64 ((p.1.length : Int) - 1) by unfold I64; omega), e1, gd.yes (ixN (show p.1.length - 1 < p.1.length by omega)), bd_some, Int.toNat_natCast]
   by_cases hq : (n : Int) < lastId p
   ·have : ¬ nth p.1 (p.1.length - 1) ≤ (n : Int) := by unfold lastId at hq; omega
    rw [decide_eq_false this, decide_eq_true hq]; rfl
   ·have : nth p.1 (p.1.length - 1) ≤ (n : Int) := by unfold lastId at hq; omega
    rw [decide_eq_true this, decide_eq_false hq]; rfl
theorem e_spec_StoreOk (s : Store) (h : okS s) : p_spec_StoreOk s = some (storeB s) := by
 have hpl := h.pl
 have hml := h.ml
 unfold p_spec_StoreOk storeB
 rw [bd.yes (e_spec_IndexOk s.1 h.w1 h.w2)]
 cases hi : indexB s.1 with
 | false => rfl
 | true =>
  have hn6 := (indexB_canon hi).2.2.1
  rw [Bool.not_true, cond_false]
  by_cases h6 : s.2.1.length ≤ 6
  ·rw [decide_eq_false (show ¬ (6 : Int) < (s.2.1.length : Int) by omega), cond_false, decide_eq_true h6]
   by_cases h20 : s.2.2.length ≤ 20
   ·rw [decide_eq_false (show ¬ (20 : Int) < (s.2.2.length : Int) by omega), bd_some, cond_false, decide_eq_true h20, Bool.true_and, Bool.true_and, Bool.true_and]
    have hr0 : ∀ k, k < s.2.1.length → p_spec_StoreOk_b0 s (k : Int) = some (if badP s.1.1.length (nth s.2.1 k) then .inr (.inr false) else .inl ((k + 1 : Nat) : Int)) := fun k hk => by
     obtain ⟨k1, k2⟩ := h.p _ (nth_mem hk)
     have hl : (nth s.2.1 k).1.length ≤ Wt.w (nth s.2.1 k) := Nat.le_trans wL_le (Nat.le_add_right _ _)
     unfold p_spec_StoreOk_b0
     rw [dlt hk, cond_true, gd.yes (ixN hk)]
     simp only [Int.toNat_natCast]
     rw [bd.yes (e_l13Part s.1.1.length (nth s.2.1 k) k1 (by omega)), gd.yes (i64S hk (by omega)), addI]
     cases badP s.1.1.length (nth s.2.1 k) <;> rfl
    rcases lp_scan (body := p_spec_StoreOk_b0 s) (fun k => (k : Int)) s.2.1.length (fun k => badP s.1.1.length (nth s.2.1 k)) (.inl ()) (fun _ => .inr false) (fun k hk _ h => by rw [hr0 k hk, h]; rfl) (fun k hk _ h => by rw [hr0 k hk, h]; rfl) (fun _ => by unfold p_spec_StoreOk_b0; rw [decide_eq_false (show ¬ ((s.2.1.length : Int) < (s.2.1.length : Int)) by omega)]; rfl) with ⟨a1, a2⟩ | ⟨a1, _, _, _, _, a2⟩
    ·rw [show (lp (p_spec_StoreOk_b0 s) 0) = _ from a2, bd_swl, a1, Bool.true_and]
     have hK : ∀ p ∈ s.2.1, partOk p = true := fun p hp => by
      obtain ⟨i, hi, rfl⟩ := List.mem_iff_getElem.1 hp
      have := allN_iff.1 a1 i hi
      rw [nth_eq _ i hi] at this
      exact (badP_ok this).1
     have hr1 : ∀ k, k < s.2.2.length → p_spec_StoreOk_b1 s (k : Int) = some (if badM s.1.1.length (nth s.2.2 k) then .inr (.inr false) else .inl ((k + 1 : Nat) : Int)) := fun k hk => by
      unfold p_spec_StoreOk_b1 badM
      rw [dlt hk, cond_true, gd.yes (ixN hk)]
      simp only [Int.toNat_natCast]
      rw [bd.yes (e_spec_l6In _ _ _), bd.yes (e_spec_l2Row _), gd.yes (i64S hk (by omega)), addI]
      cases inn 1 (nth s.2.2 k).1 (s.1.1.length : Int) <;> cases rowOk (nth s.2.2 k).2 <;> rfl
     rcases lp_scan (body := p_spec_StoreOk_b1 s) (fun k => (k : Int)) s.2.2.length (fun k => badM s.1.1.length (nth s.2.2 k)) (.inl ()) (fun _ => .inr false) (fun k hk _ h => by rw [hr1 k hk, h]; rfl) (fun k hk _ h => by rw [hr1 k hk, h]; rfl) (fun _ => by unfold p_spec_StoreOk_b1; rw [decide_eq_false (show ¬ ((s.2.2.length : Int) < (s.2.2.length : Int)) by omega)]; rfl) with ⟨b1, b2⟩ | ⟨b1, _, _, _, _, b2⟩
     ·rw [show (lp (p_spec_StoreOk_b1 s) 0) = _ from b2, bd_swl, b1, Bool.true_and]
      have hr2 : ∀ k, k < s.1.1.length → p_spec_StoreOk_b2 s ((k : Int) + 1) = some (if badR s k then .inr (.inr false) else .inl (((k + 1 : Nat) : Int) + 1)) := fun k hk => by
       unfold p_spec_StoreOk_b2 badR
       rw [decide_eq_true (show (k : Int) + 1 ≤ (s.1.1.length : Int) by omega), cond_true, bd.yes (e_spec_rows s _ h6 (by omega) h.p hK), gd.yes (show I64 ((k : Int) + 1 + 1) by unfold I64; omega)]
       by_cases hr : 24 < (rowsS s ((k : Int) + 1)).length
       ·rw [decide_eq_true (show (24 : Int) < ((rowsS s ((k : Int) + 1)).length : Int) by omega), decide_eq_true hr]; rfl
       ·rw [decide_eq_false (show ¬ (24 : Int) < ((rowsS s ((k : Int) + 1)).length : Int) by omega), decide_eq_false hr]
        have : (k : Int) + 1 + 1 = ((k + 1 : Nat) : Int) + 1 := by omega
        rw [this]; rfl
      rcases lp_scan (body := p_spec_StoreOk_b2 s) (fun k => (k : Int) + 1) s.1.1.length (badR s) (.inl ()) (fun _ => .inr false) (fun k hk _ h => by rw [hr2 k hk, h]; rfl) (fun k hk _ h => by rw [hr2 k hk, h]; rfl) (fun _ => by unfold p_spec_StoreOk_b2; rw [decide_eq_false (show ¬ ((s.1.1.length : Int) + 1 ≤ (s.1.1.length : Int)) by omega)]; rfl) with ⟨c1, c2⟩ | ⟨c1, _, _, _, _, c2⟩
      ·rw [show (lp (p_spec_StoreOk_b2 s) 1) = _ from c2, bd_swl, c1]
      ·rw [show (lp (p_spec_StoreOk_b2 s) 1) = _ from c2, bd_swr, c1]
     ·rw [show (lp (p_spec_StoreOk_b1 s) 0) = _ from b2, bd_swr, b1]; rfl
    ·rw [show (lp (p_spec_StoreOk_b0 s) 0) = _ from a2, bd_swr, a1]; rfl
   ·rw [decide_eq_true (show (20 : Int) < (s.2.2.length : Int) by omega), bd_some, cond_true, decide_eq_false h20]; rfl
  ·rw [decide_eq_true (show (6 : Int) < (s.2.1.length : Int) by omega), cond_true, decide_eq_false h6]; rfl
theorem okS_of {s : Store} (ok : Dp.ok s) (hw : Wt.w s ≤ 1048576) : okS s := by
 have e : Wt.w s = Wt.w s.1 + (Wt.w s.2.1 + Wt.w s.2.2) := rfl
 obtain ⟨w1, w2⟩ := w_index (x := s.1) (by omega)
 have l1 : s.2.1.length ≤ Wt.w s.2.1 := wL_le
 have l2 : s.2.2.length ≤ Wt.w s.2.2 := wL_le
 refine ⟨w1, w2, by omega, by omega, fun p hp => ?_⟩
 obtain ⟨i, hi, rfl⟩ := List.mem_iff_getElem.1 hp
 rw [← nth_eq _ i hi]
 have := wL_el (l := s.2.1) hi
 exact ⟨ok.2.1.2 i hi, by omega⟩
structure goodS (s : Store) : Prop where
 i : indexB s.1 = true
 n6 : s.1.1.length ≤ 6
 p6 : s.2.1.length ≤ 6
 m20 : s.2.2.length ≤ 20
 p : ∀ p ∈ s.2.1, partOk p = true ∧ 0 < p.1.length ∧ lastId p ≤ (s.1.1.length : Int)
 m : ∀ m ∈ s.2.2, 1 ≤ m.1 ∧ m.1 ≤ (s.1.1.length : Int) ∧ rowOk m.2 = true
theorem storeB_good {s : Store} (h : storeB s = true) : goodS s := by
 unfold storeB at h
 simp only [Bool.and_eq_true, decide_eq_true_eq] at h
 obtain ⟨h1, h2, h3, h4, h5, _⟩ := h
 refine ⟨h1, (indexB_canon h1).2.2.1, h2, h3, fun p hp => ?_, fun m hm => ?_⟩
 ·obtain ⟨i, hi, rfl⟩ := List.mem_iff_getElem.1 hp
  have := allN_iff.1 h4 i hi
  rw [nth_eq _ i hi] at this
  exact badP_ok this
 ·obtain ⟨i, hi, rfl⟩ := List.mem_iff_getElem.1 hm
  have := allN_iff.1 h5 i hi
  rw [nth_eq _ i hi] at this
  unfold badM inn at this
  simp only [Bool.or_eq_false_iff, Bool.not_eq_false', Bool.and_eq_true, decide_eq_true_eq] at this
  exact ⟨this.1.1, this.1.2, this.2⟩
theorem e_clonePart (p : Part) (h1 : p.1.length ≤ 1048576) (h2 : p.2.length ≤ 1048576) (h3 : ∀ b ∈ p.2, b.length ≤ 1048576) : p_impl_clonePart p = some p := by
 have h : lp (p_impl_clonePart_b0 p) (([] : List (List Row)), 0) = some p.2 := lp_for (body := p_impl_clonePart_b0 p) (fun k => (p.2.take k, (k : Int))) p.2.length p.2 (fun k hk => by
  have hb := h3 _ (nth_mem hk)
  have hlt : (p.2.take k).length ≤ k := by rw [List.length_take]; omega
  unfold p_impl_clonePart_b0
  rw [dlt hk, cond_true, gd.yes (ixN hk)]
  simp only [Int.toNat_natCast]
  rw [gd.yes (show room (([] : List Row).length + (nth p.2 k).length) by rw [List.length_nil]; unfold room; omega), gd.yes (show room ((p.2.take k).length + 1) by unfold room; omega), gd.yes (show I64 ((k : Int) + 1) by unfold I64; omega), List.nil_append, take_succ_nth hk, addI]) (by
  unfold p_impl_clonePart_b0
  rw [decide_eq_false (show ¬ ((p.2.length : Int) < (p.2.length : Int)) by omega), cond_false, List.take_length])
 unfold p_impl_clonePart
 rw [gd.yes (show room (([] : List Int).length + p.1.length) by rw [List.length_nil]; unfold room; omega), bd.yes h, List.nil_append]
theorem e_cloneParts (l : List Part) (h : l.length ≤ 1048576) (hp : ∀ p ∈ l, p.1.length ≤ 1048576 ∧ p.2.length ≤ 1048576 ∧ ∀ b ∈ p.2, b.length ≤ 1048576) : p_impl_cloneParts l = some l := by
 have h : lp (p_impl_cloneParts_b0 l) (([] : List Part), 0) = some l := lp_for (body := p_impl_cloneParts_b0 l) (fun k => (l.take k, (k : Int))) l.length l (fun k hk => by
  obtain ⟨a, b, c⟩ := hp _ (nth_mem hk)
  have hlt : (l.take k).length ≤ k := by rw [List.length_take]; omega
  unfold p_impl_cloneParts_b0
  rw [dlt hk, cond_true, gd.yes (ixN hk)]
  simp only [Int.toNat_natCast]
  rw [bd.yes (e_clonePart _ a b c), gd.yes (show room ((l.take k).length + 1) by unfold room; omega), gd.yes (show I64 ((k : Int) + 1) by unfold I64; omega), take_succ_nth hk, addI]) (by
  unfold p_impl_cloneParts_b0
  rw [decide_eq_false (show ¬ ((l.length : Int) < (l.length : Int)) by omega), cond_false, List.take_length])
 unfold p_impl_cloneParts
 rw [bd.yes h]
def copyS (s : Store) : Store := (indexP s.1.1, s.2.1, s.2.2)
def nilS : Store := ((([] : List (List Tag)), ([] : List Post)), ([] : List Part), ([] : List Sample))
theorem partOk_le {p : Part} (h : partOk p = true) : p.1.length ≤ 1048576 ∧ p.2.length ≤ 1048576 ∧ ∀ b ∈ p.2, b.length ≤ 1048576 := by
 obtain ⟨a, b, c⟩ := partOk_small h
 exact ⟨by omega, by omega, fun x hx => by have := c x hx; omega⟩
theorem e_cloneStore (s : Store) (h : goodS s) : p_impl_cloneStore s = some (copyS s) := by
 have h6 := h.n6
 have hp := h.p6
 have hm := h.m20
 unfold p_impl_cloneStore copyS
 rw [bd.yes (e_indexOf' (good_of h.i) (by omega)), bd.yes (e_cloneParts s.2.1 (by omega) (fun p hp => partOk_le (h.p p hp).1)), gd.yes (show room (([] : List Sample).length + s.2.2.length) by rw [List.length_nil]; unfold room; omega), List.nil_append]
theorem e_l13Copy (s : Store) (h : goodS s) : p_spec_l13Copy s = some (copyS s) := by
 have h6 := h.n6
 have hp := h.p6
 have hm := h.m20
 have hg := good_of h.i
 have key : lp (p_spec_l13Copy_b0 s) (([] : List Part), 0) = some s.2.1 := lp_for (body := p_spec_l13Copy_b0 s) (fun k => (s.2.1.take k, (k : Int))) s.2.1.length s.2.1 (fun k hk => by
  obtain ⟨a, b, c⟩ := partOk_le (h.p _ (nth_mem hk)).1
  have hlt : (s.2.1.take k).length ≤ k := by rw [List.length_take]; omega
  have inner : lp (p_spec_l13Copy_b1 s (s.2.1.take k, (k : Int))) (([] : List (List Row)), 0) = some (nth s.2.1 k).2 := lp_for (body := p_spec_l13Copy_b1 s (s.2.1.take k, (k : Int))) (fun j => ((nth s.2.1 k).2.take j, (j : Int))) (nth s.2.1 k).2.length (nth s.2.1 k).2 (fun j hj => by
   have hb := c _ (nth_mem hj)
   have hlt : ((nth s.2.1 k).2.take j).length ≤ j := by rw [List.length_take]; omega
   unfold p_spec_l13Copy_b1
   simp only [Int.toNat_natCast]
   rw [dlt hj, cond_true, gd.yes (ixN hj), gd.yes (show room (([] : List Row).length + (nth (nth s.2.1 k).2 j).length) by rw [List.length_nil]; unfold room; omega), gd.yes (show room (((nth s.2.1 k).2.take j).length + 1) by unfold room; omega), gd.yes (show I64 ((j : Int) + 1) by unfold I64; omega), List.nil_append, take_succ_nth hj, addI]) (by
   unfold p_spec_l13Copy_b1
   simp only [Int.toNat_natCast]
   rw [decide_eq_false (show ¬ (((nth s.2.1 k).2.length : Int) < ((nth s.2.1 k).2.length : Int)) by omega), cond_false, List.take_length])
  unfold p_spec_l13Copy_b0
  rw [dlt hk, cond_true, gd.yes (ixN hk)]
  simp only [Int.toNat_natCast]
  rw [gd.yes (show room (([] : List Int).length + (nth s.2.1 k).1.length) by rw [List.length_nil]; unfold room; omega), bd.yes inner, gd.yes (show room ((s.2.1.take k).length + 1) by unfold room; omega), gd.yes (show I64 ((k : Int) + 1) by unfold I64; omega), List.nil_append, take_succ_nth hk, addI]) (by
  unfold p_spec_l13Copy_b0
  rw [decide_eq_false (show ¬ ((s.2.1.length : Int) < (s.2.1.length : Int)) by omega), cond_false, List.take_length])
 unfold p_spec_l13Copy copyS
 rw [bd.yes key, bd.yes (e_spec_l11Of hg (by omega) (fun m hm => by have := goodN_len hg m hm; omega)), gd.yes (show room (([] : List Sample).length + s.2.2.length) by rw [List.length_nil]; unfold room; omega), List.nil_append]
def fineS (r : Store) : Prop := Dp.ok r ∧ Wt.w r ≤ 100000000
theorem wSam (l : List Sample) : Wt.w l = l.length := by
 show l.length + sumN l.length (fun i => Wt.w (nth l i)) = _
 rw [sumN_zero (f := fun i => Wt.w (nth l i)) fun i _ => rfl]; rfl
theorem wParts {l : List Part} {n : Nat} (h : l.length ≤ n) (hs : ∀ p ∈ l, small p) : Wt.w l ≤ n + n * 1048576 := by
 have e : Wt.w l = l.length + sumN l.length fun i => Wt.w (nth l i) := rfl
 have := sumN_c (f := fun i => Wt.w (nth l i)) (c := 1048576) (n := l.length) fun i hi => small_w (hs _ (nth_mem hi))
 have h2 := Nat.mul_le_mul_right 1048576 h
 omega
theorem fine_mk {x : Index} {parts : List Part} {mem : List Sample} (hx : Dp.ok x ∧ Wt.w x ≤ 100000) (h1 : parts.length ≤ 8) (h2 : ∀ p ∈ parts, small p) (h3 : mem.length ≤ 30) : fineS (x, parts, mem) := by
 refine ⟨⟨hx.1, ⟨show parts.length ≤ maxLen by unfold maxLen; omega, fun i hi => small_ok (h2 _ (nth_mem hi))⟩, show mem.length ≤ maxLen by unfold maxLen; omega, fun _ _ => ⟨trivial, trivial, trivial⟩⟩, ?_⟩
 have e : Wt.w ((x, parts, mem) : Store) = Wt.w x + (Wt.w parts + Wt.w mem) := rfl
 have := wParts h1 h2
 rw [e, wSam]
 have := hx.2
 omega
theorem fine_nil : fineS nilS := fine_mk ⟨⟨⟨Nat.zero_le _, fun i hi => absurd hi (Nat.not_lt_zero _)⟩, Nat.zero_le _, fun i hi => absurd hi (Nat.not_lt_zero _)⟩, by decide⟩ (Nat.zero_le _) (fun _ h => nomatch h) (Nat.zero_le _)
theorem fine_copy {s : Store} (h : goodS s) : fineS (copyS s) :=
 fine_mk (good_index (good_of h.i) (by have := h.n6; omega)) (by have := h.p6; omega) (fun p hp => partOk_small (h.p p hp).1) (by have := h.m20; omega)
theorem parF_has (id t : Int) : ∀ (l : List Part) (o : List Row), Asc o → ((at? o t).isSome = true ∨ ∃ p ∈ l, (at? (partOf p id) t).isSome = true) → (at? (l.foldl (fun o p => mg o (partOf p id)) o) t).isSome = true
 | [], o, _, h => by
  rcases h with h | ⟨p, hp, _⟩
  ·exact h
  ·cases hp
 | p :: l, o, ho, h => by
  have hm := mg_at t ho (partOf_asc p id)
  refine parF_has id t l _ (mg_asc ho) ?_
  rcases h with h | ⟨q, hq, h⟩
  ·left
   rw [hm]
   cases hb : at? (partOf p id) t with
   | none => rw [Option.none_or]; exact h
   | some y => rfl
  ·rcases List.mem_cons.1 hq with rfl | hq
   ·left
    rw [hm]
    cases hb : at? (partOf q id) t with
    | none => rw [hb] at h; cases h
    | some y => rfl
   ·exact .inr ⟨q, hq, h⟩
theorem two_len {l : List Part} {p q : Part} (hp : p ∈ l) (hq : q ∈ l) (id : Int) : (mg (partOf p id) (partOf q id)).length ≤ (parR l id).length := asc_len (mg_asc (partOf_asc p id)) (parR_asc l id) fun t ht => by
 rw [mg_at t (partOf_asc p id) (partOf_asc q id)] at ht
 refine parF_has id t l [] nil_asc (.inr ?_)
 cases hb : at? (partOf q id) t with
 | some y => exact ⟨q, hq, by rw [hb]; rfl⟩
 | none =>
  rw [hb, Option.none_or] at ht
  exact ⟨p, hp, ht⟩
theorem memR_ge (id : Int) : ∀ (l : List Sample) (o : List Row), o.length ≤ (memR l id o).length
 | [], _ => Nat.le_refl _
 | m :: l, o => by
  have h1 := memR_ge id l (insI id o m)
  have h2 : o.length ≤ (insI id o m).length := by
   unfold insI
   split
   ·exact (ins_len m.2 o).1
   ·exact Nat.le_refl _
  unfold memR at h1 ⊢
  rw [List.foldl_cons]; omega
theorem ids_last {p : Part} (h : partOk p = true) {x : Int} (hx : x ∈ p.1) : x ≤ lastId p := by
 obtain ⟨i, hi, rfl⟩ := List.mem_iff_getElem.1 hx
 unfold lastId
 rw [← nth_eq p.1 i hi]
 rcases Nat.lt_or_ge i (p.1.length - 1) with h1 | h1
 ·have := ids_mono (partOk_iff h).2.2.1 h1 (by omega); omega
 ·rw [show p.1.length - 1 = i by omega]; exact Int.le_refl _
theorem two_fit {s : Store} (hs : storeB s = true) {p q : Part} (hp : p ∈ s.2.1) (hq : q ∈ s.2.1) : pmOk p q = true := by
 have hg := storeB_good hs
 obtain ⟨p1, _, p3⟩ := hg.p p hp
 obtain ⟨q1, _, q3⟩ := hg.p q hq
 refine pmOk_iff.2 ⟨p1, q1, fun id => ?_⟩
 have ep : partOf p id = rowsOf p id := by unfold partOf; rw [if_pos p1]
 have eq : partOf q id = rowsOf q id := by unfold partOf; rw [if_pos q1]
 by_cases hi : 1 ≤ id ∧ id ≤ (s.1.1.length : Int)
 ·have h5 : allN s.1.1.length (badR s) = true := by
   unfold storeB at hs
   simp only [Bool.and_eq_true] at hs
   exact hs.2.2.2.2.2
  have h6 := allN_iff.1 h5 (id - 1).toNat (by omega)
  unfold badR at h6
  rw [show (((id - 1).toNat : Nat) : Int) + 1 = id by omega] at h6
  have h24 : (rowsS s id).length ≤ 24 := by simpa using h6
  have a := two_len hp hq id
  have b := memR_ge id s.2.2 (parR s.2.1 id)
  rw [ep, eq] at a
  unfold rowsS at h24
  show (mg (rowsOf p id) (rowsOf q id)).length ≤ 24
  omega
 ·have e1 : rowsOf p id = [] := rowsOf_no fun x hx e => hi ⟨e ▸ (partOk_rng p1 x hx).1, by have := ids_last p1 hx; omega⟩
  have e2 : rowsOf q id = [] := rowsOf_no fun x hx e => hi ⟨e ▸ (partOk_rng q1 x hx).1, by have := ids_last q1 hx; omega⟩
  show (mg (rowsOf p id) (rowsOf q id)).length ≤ 24
  rw [e1, e2]; exact Nat.zero_le _
theorem e_l12Merge (a b : Part) (oka : Dp.ok a) (okb : Dp.ok b) (h1 : partOk a = true) (h2 : partOk b = true) : p_spec_l12Merge a b = some (pmP a b) := by
 have a1 := partOk_len' h1
 have a2 := partOk_len' h2
 unfold p_spec_l12Merge
 have := lp_for (body := p_spec_l12Merge_b0 a b) (fun k => (blks a b k, ((k + 1 : Nat) : Int))) 6 (blks a b 6) (fun k hk => by
  unfold p_spec_l12Merge_b0
  have g0 : ((k + 1 : Nat) : Int) ≤ 6 := by omega
  have b1 := rowsOf_ok h1 ((k + 1 : Nat) : Int)
  have b2 := rowsOf_ok h2 ((k + 1 : Nat) : Int)
  have l1 := (blockOk_iff.1 b1).2.2
  have l2 := (blockOk_iff.1 b2).2.2
  have r1 : room ((blks a b k).length + 1) := by rw [blks_len]; unfold room; omega
  have r3 : I64 (((k + 1 : Nat) : Int) + 1) := by unfold I64; omega
  simp only [g0, decide_true, cond_true, e_l12Of a _ oka a1, e_l12Of b _ okb a2, bd_some, e_spec_l2Merge _ _ (show (rowsOf a ((k + 1 : Nat) : Int)).length ≤ 100 by omega) (show (rowsOf b ((k + 1 : Nat) : Int)).length ≤ 100 by omega) (blockOk_iff.1 b1).2.1, gd.yes r1, gd.yes r3, blks_succ]
  rfl) (by unfold p_spec_l12Merge_b0; simp)
 have e0 : lp (p_spec_l12Merge_b0 a b) (([] : List (List Row)), 1) = some (blks a b 6) := this
 rw [e0, bd_some, e_l12Make _ (by rw [blks_len]; omega) fun y hy => by
  obtain ⟨i, _, rfl⟩ := List.mem_map.1 hy
  have := blk_len h1 h2 ((i + 1 : Nat) : Int); omega]
 rfl
def mergeL (l : List Part) (v1 : Int) : List Part := l.take v1.toNat ++ [pmP (nth l v1.toNat) (nth l (v1 + 1).toNat)] ++ l.drop (v1 + 2).toNat
def mergeS (s : Store) (v1 : Int) : Store × Bool :=
 if storeB s then (if inn 0 v1 ((s.2.1.length : Int) - 2) then ((indexP s.1.1, mergeL s.2.1 v1, s.2.2), true) else (copyS s, false)) else (nilS, false)
theorem set_del {β : Type} {l : List β} {k : Nat} (x : β) (h : k < l.length) : (l.set k x).take (k + 1) ++ (l.set k x).drop (k + 2) = l.take k ++ [x] ++ l.drop (k + 2) := by
 have hk : (l.take k ++ [x]).length = k + 1 := by rw [List.length_append, List.length_take, List.length_singleton, Nat.min_eq_left (by omega)]
 have e : l.set k x = (l.take k ++ [x]) ++ l.drop (k + 1) := by
  rw [List.set_eq_take_append_cons_drop, if_pos h]; simp
 rw [e, List.take_left' hk, show k + 2 = (k + 1) + 1 from rfl, ← List.drop_drop, List.drop_left' hk, List.drop_drop]
theorem mergeL_small {s : Store} {v1 : Int} (hb : storeB s = true) (hi : inn 0 v1 ((s.2.1.length : Int) - 2) = true) : ∀ p ∈ mergeL s.2.1 v1, small p := by
 have h := storeB_good hb
 have hv : 0 ≤ v1 ∧ v1 ≤ (s.2.1.length : Int) - 2 := by unfold inn at hi; simpa using hi
 intro p hp
 unfold mergeL at hp
 rcases List.mem_append.1 hp with hp | hp
 ·rcases List.mem_append.1 hp with hp | hp
  ·exact partOk_small (h.p p (List.mem_of_mem_take hp)).1
  ·rw [List.mem_singleton.1 hp]
   exact partOk_small (pm_part (two_fit hb (nth_mem (by omega)) (nth_mem (by omega))))
 ·exact partOk_small (h.p p (List.mem_of_mem_drop hp)).1
theorem mergeL_le {l : List Part} {v1 : Int} (hi : inn 0 v1 ((l.length : Int) - 2) = true) : (mergeL l v1).length ≤ l.length := by
 have hv : 0 ≤ v1 ∧ v1 ≤ (l.length : Int) - 2 := by unfold inn at hi; simpa using hi
 unfold mergeL
 simp only [List.length_append, List.length_take, List.length_drop, List.length_cons, List.length_nil]
 omega
theorem mergeS_fine (s : Store) (v1 : Int) : fineS (mergeS s v1).1 := by
 unfold mergeS
 cases hb : storeB s with
 | false => exact fine_nil
 | true =>
  have h := storeB_good hb
  rw [if_pos rfl]
  split
  ·rename_i hi
   exact fine_mk (good_index (good_of h.i) (by have := h.n6; omega)) (by have := mergeL_le hi; have := h.p6; omega) (mergeL_small hb hi) (by have := h.m20; omega)
  ·exact fine_copy h
theorem e_impl_StoreMerge (s : Store) (v1 : Int) (h : okS s) : p_impl_StoreMerge s v1 = some (mergeS s v1) := by
 unfold p_impl_StoreMerge mergeS
 rw [bd.yes (e_impl_StoreOk s h)]
 cases hb : storeB s with
 | false => rfl
 | true =>
  have hg := storeB_good hb
  have h6 := hg.p6
  rw [Bool.not_true, cond_false, bd.yes (e_cloneStore s hg), if_pos rfl, gd.yes (show I64 ((s.2.1.length : Int) - 2) by unfold I64; omega), bd.yes (e_impl_within _ _ _)]
  cases hi : inn 0 v1 ((s.2.1.length : Int) - 2) with
  | false => rfl
  | true =>
   have hv : 0 ≤ v1 ∧ v1 ≤ (s.2.1.length : Int) - 2 := by unfold inn at hi; simpa using hi
   have k1 : v1.toNat < s.2.1.length := by omega
   have k2 : (v1 + 1).toNat < s.2.1.length := by omega
   have fa := h.p _ (nth_mem k1)
   have fb := h.p _ (nth_mem k2)
   have fit := two_fit hb (nth_mem k1) (nth_mem k2)
   have ec : (copyS s).2.1 = s.2.1 := rfl
   have n1 : (v1 + 1).toNat = v1.toNat + 1 := by omega
   have n2 : (v1 + 2).toNat = v1.toNat + 2 := by omega
   have hd : p_slices_Delete_Part_Part (s.2.1.set v1.toNat (pm (nth s.2.1 v1.toNat) (nth s.2.1 (v1 + 1).toNat)).1) (v1 + 1) (v1 + 2) = some (mergeL s.2.1 v1) := by
    unfold p_slices_Delete_Part_Part p_delete mergeL
    rw [gd.yes (by rw [List.length_set]; omega), pm_true fit, n1, n2, set_del _ k1]
   rw [Bool.not_true, cond_false, gd.yes (show ix v1 s.2.1.length by unfold ix; omega), gd.yes (show I64 (v1 + 1) by unfold I64; omega), gd.yes (show ix (v1 + 1) s.2.1.length by unfold ix; omega), bd.yes (e_impl_PartMerge _ _ fa.1 fb.1 fa.2 fb.2), ec, gd.yes (show ix v1 s.2.1.length by unfold ix; omega), gd.yes (show I64 (v1 + 2) by unfold I64; omega), bd.yes hd, gd.yes (by have := mergeL_le hi; rw [List.length_nil]; unfold room; omega), List.nil_append, if_pos rfl]
   rfl
theorem e_spec_StoreMerge (s : Store) (v1 : Int) (h : okS s) : p_spec_StoreMerge s v1 = some (mergeS s v1) := by
 unfold p_spec_StoreMerge mergeS
 rw [bd.yes (e_spec_StoreOk s h)]
 cases hb : storeB s with
 | false => rfl
 | true =>
  have hg := storeB_good hb
  have h6 := hg.p6
  have ec : (copyS s).2.1 = s.2.1 := rfl
  rw [Bool.not_true, cond_false, bd.yes (e_l13Copy s hg), if_pos rfl]
  unfold p_spec_l13Merge
  rw [ec, gd.yes (show I64 ((s.2.1.length : Int) - 2) by unfold I64; omega), bd.yes (e_spec_l6In _ _ _)]
  cases hi : inn 0 v1 ((s.2.1.length : Int) - 2) with
  | false => rfl
  | true =>
   have hv : 0 ≤ v1 ∧ v1 ≤ (s.2.1.length : Int) - 2 := by unfold inn at hi; simpa using hi
   have k1 : v1.toNat < s.2.1.length := by omega
   have k2 : (v1 + 1).toNat < s.2.1.length := by omega
   have fa := h.p _ (nth_mem k1)
   have fb := h.p _ (nth_mem k2)
   have hr : ∀ n : Nat, n ≤ 1000 → room n := fun n hn => by unfold room; omega
   rw [Bool.not_true, cond_false, gd.yes (show sl2 0 v1 s.2.1.length by unfold sl2; omega), gd.yes (hr _ (by simp only [List.length_take, List.length_drop, List.length_nil]; omega)), gd.yes (show ix v1 s.2.1.length by unfold ix; omega), gd.yes (show I64 (v1 + 1) by unfold I64; omega), gd.yes (show ix (v1 + 1) s.2.1.length by unfold ix; omega),
    bd.yes (e_l12Merge _ _ fa.1 fb.1 (hg.p _ (nth_mem k1)).1 (hg.p _ (nth_mem k2)).1), gd.yes (hr _ (by simp only [List.length_append, List.length_take, List.length_drop, List.length_nil]; omega)), gd.yes (show I64 (v1 + 2) by unfold I64; omega), gd.yes (show sl2 (v1 + 2) (s.2.1.length : Int) s.2.1.length by unfold sl2; omega), gd.yes (hr _ (by simp only [List.length_append, List.length_take, List.length_drop, List.length_nil, List.length_cons]; omega)), bd_some, if_pos rfl]
   have e1 : (([] : List Part) ++ ((s.2.1.take v1.toNat).drop 0)) ++ [pmP (nth s.2.1 v1.toNat) (nth s.2.1 (v1 + 1).toNat)] ++ ((s.2.1.take (s.2.1.length : Int).toNat).drop (v1 + 2).toNat) = mergeL s.2.1 v1 := by
    unfold mergeL
    rw [List.nil_append, List.drop_zero, Int.toNat_natCast, List.take_length]
   rw [e1]
   rfl
theorem e_FnExactStoreMerge (s : Store) (v1 : Int) (ok : Dp.ok s) (_ : Dp.ok v1) (so : So.so s) : p_laws_FnExactStoreMerge s v1 = some true := by
 unfold p_laws_FnExactStoreMerge
 rw [s_Store s 1048576 (by omega) (by omega) ok so, bd_some]
 by_cases hc : cut 1048576 (Wt.w s) < 0
 ·simp [hc]
 ·have hw := cut_w hc (by omega)
  have h := okS_of ok hw
  obtain ⟨okr, wr⟩ := mergeS_fine s v1
  have n1 : Ct.m Store = 11 := rfl
  have c1 := Ct.le s
  have c2 := Ct.le (mergeS s v1).1
  rw [n1] at c1 c2
  obtain ⟨k1, r1, e1, l1, u1, _⟩ := m_Store s 1 (by omega) (by omega) ok
  obtain ⟨k2, r2, e2, l2, u2, f2⟩ := m_Store (mergeS s v1).1 1 (by omega) (by omega) okr
  have h1 : ¬ k1 < 0 := by omega
  have h2 : ¬ k2 < 0 := by omega
  simp [hc, t_Store s ok hw, e_spec_StoreMerge s v1 h, e_impl_StoreMerge s v1 h, q_Store _ _ okr okr, q_Store s s ok ok, e1, e2, f2, h1, h2]
end Go.Proofs.YtjaibcpidajdcaaGreat
