/- The walks and the plain laws, part 5: each function that the law reaches computes what its plain function tells, and what the plain functions answer. Conditions: lengths that memory can hold. -/
import Derived.Test.YtichamokohjneaaA4
namespace Go.Proofs.Ytichamokohjneaa
open Go Go.Sx
theorem ltTag_step (a b : Tag) (h : ltTag a b = true) : (cond (!(sless a.1 b.1 || decide (a.1 = b.1))) (some true) (cond (decide (a.1 = b.1)) (some (!sless a.2 b.2)) (some false))) = some false := by
 unfold ltTag at h
 cases h1 : sless a.1 b.1 with
 | true =>
  have : ¬ a.1 = b.1 := fun e => by rw [e, sless_irr] at h1; cases h1
  rw [decide_eq_false this]; rfl
 | false =>
  rw [h1, Bool.false_or, Bool.and_eq_true] at h
  rw [h.1, h.2]; first | done | rfl
theorem po_loop (x : Index) (h : indexB x = true) (w2 : postsW x.2) : lp (p_laws_FnPostOrder_b0 x) 1 = some (.inl ()) := by
 have hord := (indexB_canon h).1.ord
 have hP := w2.1
 rw [show (1 : Int) = ((0 : Nat) : Int) + 1 by omega]
 refine lp_for (body := p_laws_FnPostOrder_b0 x) (fun k => (k : Int) + 1) (x.2.length - 1) (.inl ()) (fun k hk => ?_) ?_
 ·have hk1 : k + 1 < x.2.length := by omega
  have e1 : (k : Int) + 1 - 1 = (k : Int) := by omega
  have hlt : ltTag (nth x.2 k).1 (nth x.2 (k + 1)).1 = true := by
   rw [nth_eq x.2 k (by omega), nth_eq x.2 (k + 1) hk1]
   exact List.pairwise_iff_getElem.1 hord k (k + 1) (by omega) hk1 (by omega)
  have hI : I64 ((k : Int) + 1 - 1) := by unfold I64; omega
  have hI2 : I64 ((k : Int) + 1 + 1) := by unfold I64; omega
  unfold p_laws_FnPostOrder_b0
  rw [decide_eq_true (show (k : Int) + 1 < (x.2.length : Int) by omega), cond_true, gd.yes hI, e1, gd.yes (ixN (show k < x.2.length by omega)), addI, gd.yes (ixN hk1)]
  simp only [Int.toNat_natCast]
  rw [bd.yes (ltTag_step _ _ hlt), cond_false, ← addI, gd.yes hI2]
 ·unfold p_laws_FnPostOrder_b0
  rw [decide_eq_false (show ¬ (((x.2.length - 1 : Nat) : Int) + 1 < (x.2.length : Int)) by omega), cond_false]
theorem e_FnPostOrder (c : List UInt8) (_ : Dp.ok c) : p_laws_FnPostOrder c = some true := by
 unfold p_laws_FnPostOrder
 by_cases hc : (1048576 : Int) < (c.length : Int)
 ·rw [decide_eq_true hc]; rfl
 ·obtain ⟨x, e, hn, hs, w1, w2⟩ := d_DrawIndexOk c
  have e1 := e_impl_IndexOk x w1 w2
  have e2 := e_spec_IndexOk x w1 w2
  have hP := w2.1
  rw [decide_eq_false hc, cond_false, bd.yes e, bd.yes e1, bd.yes e2, decide_eq_true rfl, Bool.not_true, cond_false, bd_some]
  cases h : indexB x with
  | false => rw [Bool.not_false, cond_true, bd.yes e2, h]; rfl
  | true =>
   have hC := indexB_canon h
   rw [Bool.not_true, cond_false, po_loop x h w2, bd_swl]
   by_cases h2 : x.2.length < 2
   ·rw [decide_eq_true (show (x.2.length : Int) < 2 by omega), cond_true]
   ·rw [decide_eq_false (show ¬ (x.2.length : Int) < 2 by omega), cond_false]
    have et : x.2.take (x.2.length : Int).toNat = x.2 := by rw [Int.toNat_natCast, List.take_length]
    have i1 : ix 1 x.2.length := by unfold ix; omega
    have i0 : ix 0 x.2.length := by unfold ix; omega
    have s2 : sl2 2 (x.2.length : Int) x.2.length := by unfold sl2; omega
    have s1 : sl2 1 (x.2.length : Int) x.2.length := by unfold sl2; omega
    have rm : room (([nth x.2 1, nth x.2 0] : List Post).length + (x.2.drop 2).length) := by
     rw [List.length_drop]; show room (2 + _); unfold room; omega
    rw [et, gd.yes i1, gd.yes i0, gd.yes s2, gd.yes rm, gd.yes s1]
    have hlt : ltTag (nth x.2 0).1 (nth x.2 1).1 = true := by
     rw [nth_eq x.2 0 (by omega), nth_eq x.2 1 (by omega)]
     exact List.pairwise_iff_getElem.1 hC.1.ord 0 1 (by omega) (by omega) (by omega)
    have wX : postsW ([nth x.2 1, nth x.2 0] ++ x.2.drop 2) := ⟨by rw [List.length_append, List.length_drop]; show 2 + _ ≤ _; omega, fun k hk => by
     rcases List.mem_append.1 (nth_mem hk) with hm | hm
     ·simp only [List.mem_cons, List.not_mem_nil, or_false] at hm
      rcases hm with hm | hm <;> rw [hm] <;> exact w2.2 _ (by omega)
     ·exact postsW_mem w2 _ (List.mem_of_mem_drop hm)⟩
    have wY : postsW (x.2.drop 1) := ⟨by rw [List.length_drop]; omega, fun k hk => postsW_mem w2 _ (List.mem_of_mem_drop (nth_mem hk))⟩
    have fX : indexB (x.1, [nth x.2 1, nth x.2 0] ++ x.2.drop 2) = false := by
     cases hq : indexB (x.1, [nth x.2 1, nth x.2 0] ++ x.2.drop 2) with
     | false => rfl
     | true =>
      have e3 := (indexB_canon hq).2.2.2
      rw [show ((x.1, [nth x.2 1, nth x.2 0] ++ x.2.drop 2) : Index).1 = x.1 from rfl, ← hC.2.2.2] at e3
      have e4 : nth ([nth x.2 1, nth x.2 0] ++ x.2.drop 2) 0 = nth x.2 0 := congrArg (fun l => nth l 0) e3
      have e5 : nth ([nth x.2 1, nth x.2 0] ++ x.2.drop 2) 0 = nth x.2 1 := rfl
      rw [e5] at e4
      rw [e4, ltTag_irr] at hlt
      cases hlt
    have fY : indexB (x.1, x.2.drop 1) = false := by
     cases hq : indexB (x.1, x.2.drop 1) with
     | false => rfl
     | true =>
      have e3 := (indexB_canon hq).2.2.2
      rw [show ((x.1, x.2.drop 1) : Index).1 = x.1 from rfl, ← hC.2.2.2] at e3
      have e4 := congrArg List.length e3
      rw [show ((x.1, x.2.drop 1) : Index).2 = x.2.drop 1 from rfl, List.length_drop] at e4
      omega
    rw [bd.yes (e_impl_IndexOk (x.1, [nth x.2 1, nth x.2 0] ++ x.2.drop 2) w1 wX), fX, Bool.not_false, cond_true, bd.yes (e_impl_IndexOk (x.1, x.2.drop 1) w1 wY), fY]
    rfl
end Go.Proofs.Ytichamokohjneaa
