/- The walks and the plain laws, part 5: each function that the law reaches computes what its plain function tells, and what the plain functions answer. Conditions: lengths that memory can hold. -/
import Derived.Test.YtonnpkdadcafcaaGreatA4
namespace Go.Proofs.YtonnpkdadcafcaaGreat
open Go Go.Sx Tryz
theorem e_eqPost (p q : Post) (hp : p.2.length ≤ maxLen) : p_impl_IndexOk_1 p q = some (decide (p = q)) := by
 unfold p_impl_IndexOk_1
 by_cases h : p.1 = q.1
 ·rw [decide_eq_true h, cond_true, bd.yes (e_Equal_int _ _ hp), bd_some]
  by_cases h2 : p.2 = q.2
  ·have : p = q := Prod.ext h h2
   rw [decide_eq_true h2, decide_eq_true this]
  ·have : p ≠ q := fun e => h2 (by rw [e])
   rw [decide_eq_false h2, decide_eq_false this]
 ·have : p ≠ q := fun e => h (by rw [e])
  rw [decide_eq_false h, cond_false, bd_some, decide_eq_false this]
theorem e_EqualPosts (P Q : List Post) (hP : P.length ≤ maxLen) (hi : ∀ k, k < P.length → (nth P k).2.length ≤ maxLen) : p_slices_EqualFunc_Post_Post_Post_Post_IndexOk_1 P Q = some (decide (P = Q)) := by
 have hP' : P.length ≤ 9223372036854775807 := hP
 unfold p_slices_EqualFunc_Post_Post_Post_Post_IndexOk_1
 by_cases hl : P.length = Q.length
 ·have hl2 : (P.length : Int) = (Q.length : Int) := by omega
  rw [decide_eq_true hl2, Bool.not_true, cond_false]
  refine eq_loop hl (fun k hk => ?_) ?_
  ·have hk2 : k < Q.length := by omega
   unfold p_slices_EqualFunc_Post_Post_Post_Post_IndexOk_1_b0
   rw [dlt hk, cond_true, gd.yes (ixN hk), gd.yes (ixN hk2)]
   simp only [Int.toNat_natCast]
   rw [bd.yes (e_eqPost _ _ (hi k hk)), gd.yes (i64S hk hP'), addI]
   by_cases h : nth P k = nth Q k <;> simp [h]
  ·unfold p_slices_EqualFunc_Post_Post_Post_Post_IndexOk_1_b0; simp
 ·have h2 : ¬ (P.length : Int) = (Q.length : Int) := by omega
  have h3 : P ≠ Q := fun e => hl (by rw [e])
  simp [h2, h3]
def indexB (x : Index) : Bool := namesB x.1 && decide (x.2 = (indexP x.1).2)
def postsW (P : List Post) : Prop := P.length ≤ 4194304 ∧ ∀ k, k < P.length → (nth P k).2.length ≤ 4194304
theorem e_impl_IndexOk (x : Index) (hw : Wt.w x.1 ≤ 4194304) (hp : postsW x.2) : p_impl_IndexOk x = some (indexB x) := by
 obtain ⟨h1, h2, h3⟩ := w_names hw
 unfold p_impl_IndexOk indexB
 rw [bd.yes (e_impl_namesOk x.1 hw)]
 cases namesB x.1 with
 | false => rfl
 | true =>
  have hp1 := hp.1
  rw [cond_true, bd.yes (e_indexOf x.1 h1 h3), bd.yes (e_EqualPosts x.2 _ (by unfold maxLen; omega) (fun k hk => by have := hp.2 k hk; unfold maxLen; omega)), Bool.true_and]
def locBad (names : List (List Tag)) (P : List Post) (k : Nat) : Bool := decide ((nth P k).2.length = 0) || (!decide ((nth P k).2 = idsN names (nth P k).1 names.length) || (decide (0 < k) && !ltTag (nth P (k - 1)).1 (nth P k).1))
theorem nmBad_ok {names : List (List Tag)} {k : Nat} (h : nmBad names k = false) : nameOk (nth names k) = true := by
 unfold nmBad at h
 simp only [Bool.or_eq_false_iff, Bool.not_eq_false'] at h
 exact h.1
theorem e_spec_names (x : Index) (hw : Wt.w x.1 ≤ 4194304) : lp (p_spec_IndexOk_b0 x) (0, 0) = some (if allN x.1.length (nmBad x.1) then .inl ((sumN x.1.length fun i => (nth x.1 i).length : Nat) : Int) else .inr false) := by
 obtain ⟨h1, h2, h3⟩ := w_names hw
 have inner : ∀ k, k < x.1.length → (∀ i, i < k → nmBad x.1 i = false) → nameOk (nth x.1 k) = true → ∀ s : Int, lp (p_spec_IndexOk_b1 x (s, (k : Int))) 0 = some (if allN k (fun j => decide (nth x.1 j = nth x.1 k)) then .inl () else .inr false) := fun k hk hbs hok s => by
  have hr : ∀ j, j < k → p_spec_IndexOk_b1 x (s, (k : Int)) (j : Int) = some (if decide (nth x.1 j = nth x.1 k) then .inr (.inr false) else .inl ((j + 1 : Nat) : Int)) := fun j hj => by
   have hj2 : j < x.1.length := by omega
   unfold p_spec_IndexOk_b1
   rw [decide_eq_true (show ((j : Int) < (k : Int)) by omega), cond_true]
   simp only [Int.toNat_natCast]
   rw [bd.yes (e_spec_l3Text _ (h2 _ (nth_mem hk)).2), gd.yes (ixN hj2), bd.yes (e_spec_l3Text _ (h2 _ (nth_mem hj2)).2), text_eq hok (nmBad_ok (hbs j hj)), gd.yes (by unfold I64; omega), addI]
   by_cases h : nth x.1 j = nth x.1 k
   ·rw [decide_eq_true h, decide_eq_true h.symm]; rfl
   ·rw [decide_eq_false h, decide_eq_false (fun e => h e.symm)]; rfl
  rcases lp_scan (body := p_spec_IndexOk_b1 x (s, (k : Int))) (fun j => (j : Int)) k (fun j => decide (nth x.1 j = nth x.1 k)) (.inl ()) (fun _ => .inr false) (fun j hj _ h => by rw [hr j hj, h]; rfl) (fun j hj _ h => by rw [hr j hj, h]; rfl) (fun _ => by unfold p_spec_IndexOk_b1; rw [decide_eq_false (show ¬ ((k : Int) < (k : Int)) by omega)]; rfl) with ⟨h1, h2⟩ | ⟨h1, _, _, _, _, h2⟩
  ·rw [show (lp (p_spec_IndexOk_b1 x (s, (k : Int))) 0) = _ from h2, h1]; rfl
  ·rw [show (lp (p_spec_IndexOk_b1 x (s, (k : Int))) 0) = _ from h2, h1]; rfl
 have step : ∀ k, k < x.1.length → (∀ i, i < k → nmBad x.1 i = false) → p_spec_IndexOk_b0 x (((sumN k fun i => (nth x.1 i).length : Nat) : Int), (k : Int)) = some (if nmBad x.1 k then .inr (.inr false) else .inl (((sumN (k + 1) fun i => (nth x.1 i).length : Nat) : Int), ((k + 1 : Nat) : Int))) := fun k hk hbs => by
  have hl := (h2 _ (nth_mem hk)).1
  have hs : (sumN k fun i => (nth x.1 i).length) + (nth x.1 k).length ≤ sumN x.1.length fun i => (nth x.1 i).length := sumN_lt (f := fun i => (nth x.1 i).length) hk
  unfold p_spec_IndexOk_b0 nmBad
  rw [dlt hk, cond_true, gd.yes (ixN hk)]
  simp only [Int.toNat_natCast]
  rw [bd.yes (e_spec_NameOk _ (by unfold maxLen; omega))]
  cases hok : nameOk (nth x.1 k) with
  | false => rfl
  | true =>
   rw [Bool.not_true, cond_false, bd.yes (inner k hk hbs hok _)]
   cases allN k (fun j => decide (nth x.1 j = nth x.1 k)) with
   | false => rfl
   | true =>
    show gd (I64 _) (gd (I64 _) (some _)) = _
    rw [gd.yes (by unfold I64; omega), gd.yes (by unfold I64; omega), addI]
    have : ((sumN k fun i => (nth x.1 i).length : Nat) : Int) + ((nth x.1 k).length : Int) = ((sumN (k + 1) fun i => (nth x.1 i).length : Nat) : Int) := by
     show _ = ((((sumN k fun i => (nth x.1 i).length) + (nth x.1 k).length : Nat)) : Int)
     omega
    rw [this]; rfl
 rcases lp_scan (body := p_spec_IndexOk_b0 x) (fun k => (((sumN k fun i => (nth x.1 i).length : Nat) : Int), (k : Int))) x.1.length (nmBad x.1) (.inl ((sumN x.1.length fun i => (nth x.1 i).length : Nat) : Int)) (fun _ => .inr false) (fun k hk hb h => by rw [step k hk hb, h]; rfl) (fun k hk hb h => by rw [step k hk hb, h]; rfl) (fun _ => by unfold p_spec_IndexOk_b0; rw [decide_eq_false (show ¬ ((x.1.length : Int) < (x.1.length : Int)) by omega)]; rfl) with ⟨h1, h2⟩ | ⟨h1, _, _, _, _, h2⟩
 ·rw [show (lp (p_spec_IndexOk_b0 x) (0, 0)) = _ from h2, h1]; rfl
 ·rw [show (lp (p_spec_IndexOk_b0 x) (0, 0)) = _ from h2, h1]; rfl
theorem e_spec_posts (x : Index) (hw : Wt.w x.1 ≤ 4194304) (hp : postsW x.2) (n0 : Nat) (hn0 : n0 ≤ 4194304) : lp (p_spec_IndexOk_b2 x) ((n0 : Int), 0) = some (if allN x.2.length (locBad x.1 x.2) then .inl ((n0 : Int) - ((sumN x.2.length fun i => (nth x.2 i).2.length : Nat) : Int)) else .inr false) := by
 obtain ⟨h1, h2, h3⟩ := w_names hw
 obtain ⟨p1, p2⟩ := hp
 have hs : ∀ k, k ≤ x.2.length → (sumN k fun i => (nth x.2 i).2.length) ≤ k * 4194304 := by
  intro k
  induction k with
  | zero => intro _; exact Nat.le_refl _
  | succ k ih =>
   intro hk
   have := ih (by omega)
   have h4 := p2 k (by omega)
   show (sumN k fun i => (nth x.2 i).2.length) + (nth x.2 k).2.length ≤ _
   omega
 have step : ∀ k, k < x.2.length → p_spec_IndexOk_b2 x ((n0 : Int) - ((sumN k fun i => (nth x.2 i).2.length : Nat) : Int), (k : Int)) = some (if locBad x.1 x.2 k then .inr (.inr false) else .inl ((n0 : Int) - ((sumN (k + 1) fun i => (nth x.2 i).2.length : Nat) : Int), ((k + 1 : Nat) : Int))) := fun k hk => by
  have hl := p2 k hk
  have hsk := hs k (by omega)
  have hkk : k * 4194304 ≤ 4194304 * 4194304 := Nat.mul_le_mul_right _ (by omega)
  have es : ((n0 : Int) - ((sumN k fun i => (nth x.2 i).2.length : Nat) : Int)) - ((nth x.2 k).2.length : Int) = (n0 : Int) - ((sumN (k + 1) fun i => (nth x.2 i).2.length : Nat) : Int) := by
   show _ = (n0 : Int) - ((((sumN k fun i => (nth x.2 i).2.length) + (nth x.2 k).2.length : Nat)) : Int)
   omega
  have fin : (gd (I64 (((n0 : Int) - ((sumN k fun i => (nth x.2 i).2.length : Nat) : Int)) - ((nth x.2 k).2.length : Int))) <| gd (I64 ((k : Int) + 1)) <| (some (.inl (((n0 : Int) - ((sumN k fun i => (nth x.2 i).2.length : Nat) : Int)) - ((nth x.2 k).2.length : Int), (k : Int) + 1)) : Option ((Int × Int) ⊕ (Int ⊕ Bool)))) = some (.inl ((n0 : Int) - ((sumN (k + 1) fun i => (nth x.2 i).2.length : Nat) : Int), ((k + 1 : Nat) : Int))) := by
   rw [gd.yes (by unfold I64; omega), gd.yes (by unfold I64; omega), es, addI]
  unfold p_spec_IndexOk_b2 locBad
  rw [dlt hk, cond_true, gd.yes (ixN hk)]
  simp only [Int.toNat_natCast]
  by_cases hz : (nth x.2 k).2.length = 0
  ·rw [decide_eq_true (show (((nth x.2 k).2.length : Int) = 0) by omega), decide_eq_true hz]; rfl
  ·rw [decide_eq_false (show ¬ (((nth x.2 k).2.length : Int) = 0) by omega), decide_eq_false hz, cond_false, bd.yes (e_spec_l11Ids x.1 _ h1 (fun n hn => (h2 n hn).1)), bd.yes (e_spec_l11Same _ _ (by unfold maxLen; omega))]
   by_cases hi : (nth x.2 k).2 = idsN x.1 (nth x.2 k).1 x.1.length
   ·rw [decide_eq_true hi, Bool.not_true, cond_false]
    by_cases h0 : 0 < k
    ·have e1 : (k : Int) - 1 = ((k - 1 : Nat) : Int) := by omega
     rw [decide_eq_true (show (0 : Int) < (k : Int) by omega), cond_true, gd.yes (by unfold I64; omega), e1, gd.yes (ixN (show k - 1 < x.2.length by omega))]
     simp only [Int.toNat_natCast]
     rw [bd.yes (e_spec_l11Less _ _), decide_eq_true h0]
     cases ltTag (nth x.2 (k - 1)).1 (nth x.2 k).1 with
     | false => rfl
     | true => exact fin
    ·rw [decide_eq_false (show ¬ (0 : Int) < (k : Int) by omega), cond_false, decide_eq_false h0]
     exact fin
   ·rw [decide_eq_false hi]; rfl
 have e0 : ((n0 : Int), (0 : Int)) = ((n0 : Int) - ((sumN 0 fun i => (nth x.2 i).2.length : Nat) : Int), ((0 : Nat) : Int)) := by
  show _ = ((n0 : Int) - ((0 : Nat) : Int), ((0 : Nat) : Int)); simp
 rcases lp_scan (body := p_spec_IndexOk_b2 x) (fun k => ((n0 : Int) - ((sumN k fun i => (nth x.2 i).2.length : Nat) : Int), (k : Int))) x.2.length (locBad x.1 x.2) (.inl ((n0 : Int) - ((sumN x.2.length fun i => (nth x.2 i).2.length : Nat) : Int))) (fun _ => .inr false) (fun k hk hb h => by rw [step k hk, h]; rfl) (fun k hk hb h => by rw [step k hk, h]; rfl) (fun _ => by unfold p_spec_IndexOk_b2; rw [decide_eq_false (show ¬ ((x.2.length : Int) < (x.2.length : Int)) by omega)]; rfl) with ⟨h1, h2⟩ | ⟨h1, _, _, _, _, h2⟩
 ·rw [e0, h2, h1]; rfl
 ·rw [e0, h2, h1]; rfl
theorem sumL_N (P : List Post) : sumL P = sumN P.length fun i => (nth P i).2.length := by
 have : ∀ m, m ≤ P.length → sumL (P.take m) = sumN m fun i => (nth P i).2.length := by
  intro m
  induction m with
  | zero => intro _; rfl
  | succ m ih =>
   intro hm
   rw [take_succ_nth (by omega), sumL_append, ih (by omega)]
   show _ + ((nth P m).2.length + 0) = _
   rfl
 have h := this P.length (Nat.le_refl _)
 rwa [List.take_length] at h
theorem names_dist {names : List (List Tag)} (h : allN names.length (nmBad names) = true) : dist names := fun n hn => by
 obtain ⟨i, hi, rfl⟩ := List.mem_iff_getElem.1 hn
 rw [← nth_eq names i hi]
 exact nameOk_nodup (nmBad_ok (allN_iff.1 h i hi))
theorem e_spec_IndexOk (x : Index) (hw : Wt.w x.1 ≤ 4194304) (hp : postsW x.2) : p_spec_IndexOk x = some (indexB x) := by
 obtain ⟨h1, h2, h3⟩ := w_names hw
 unfold p_spec_IndexOk indexB namesB
 by_cases h6 : 6 < x.1.length
 ·rw [decide_eq_true (show (6 : Int) < (x.1.length : Int) by omega), cond_true, decide_eq_false (show ¬ ((x.1.length : Int) ≤ 6) by omega), Bool.and_false, Bool.false_and]
 ·rw [decide_eq_false (show ¬ (6 : Int) < (x.1.length : Int) by omega), cond_false, decide_eq_true (show ((x.1.length : Int) ≤ 6) by omega), Bool.and_true, bd.yes (e_spec_names x hw)]
  cases hall : allN x.1.length (nmBad x.1) with
  | false => rfl
  | true =>
   have hd := names_dist hall
   have hC := canon_posts hd
   show bd (lp (p_spec_IndexOk_b2 x) ((sumN x.1.length fun i => (nth x.1 i).length : Nat), 0)) _ = _
   rw [bd.yes (e_spec_posts x hw hp _ h3), Bool.true_and]
   have hsC : sumL (indexP x.1).2 = sumN x.1.length fun i => (nth x.1 i).length := by
    rw [← sumL_posts]
    exact sumL_perm (List.mergeSort_perm _ _)
   have hsP := sumL_N x.2
   cases hloc : allN x.2.length (locBad x.1 x.2) with
   | false =>
    have hne : x.2 ≠ (indexP x.1).2 := fun e => by
     have : allN x.2.length (locBad x.1 x.2) = true := allN_iff.2 fun k hk => by
      have hm : nth x.2 k ∈ (indexP x.1).2 := e ▸ nth_mem hk
      obtain ⟨i1, i2⟩ := hC.ids _ hm
      unfold locBad
      rw [decide_eq_false (fun h0 => i2 (List.eq_nil_of_length_eq_zero h0)), decide_eq_true i1]
      by_cases h0 : 0 < k
      ·have ho := hC.ord
       rw [← e, List.pairwise_iff_getElem] at ho
       have := ho (k - 1) k (by omega) hk (by omega)
       rw [← nth_eq x.2 (k - 1) (by omega), ← nth_eq x.2 k hk] at this
       rw [this]; simp
      ·rw [decide_eq_false h0]; rfl
     rw [hloc] at this; cases this
    rw [decide_eq_false hne]; rfl
   | true =>
    have hk := allN_iff.1 hloc
    have adj : ∀ i, i + 1 < x.2.length → ltTag (nth x.2 i).1 (nth x.2 (i + 1)).1 = true := fun i hi => by
     have := hk (i + 1) hi
     unfold locBad at this
     simp only [Nat.zero_lt_succ, decide_true, Bool.true_and, Nat.add_sub_cancel, Bool.or_eq_false_iff, Bool.not_eq_false'] at this
     exact this.2.2
    have lt : ∀ d i, i + d + 1 < x.2.length → ltTag (nth x.2 i).1 (nth x.2 (i + d + 1)).1 = true := by
     intro d
     induction d with
     | zero => intro i hi; exact adj i hi
     | succ d ih => intro i hi; exact ltTag_trans (ih i (by omega)) (adj (i + d + 1) (by omega))
    have ord : x.2.Pairwise fun a b => ltTag a.1 b.1 = true := by
     rw [List.pairwise_iff_getElem]
     intro i j hi hj hij
     obtain ⟨d, rfl⟩ : ∃ d, j = i + d + 1 := ⟨j - i - 1, by omega⟩
     have := lt d i hj
     rwa [nth_eq x.2 i hi, nth_eq x.2 _ hj] at this
    have ids : ∀ p ∈ x.2, p.2 = idsN x.1 p.1 x.1.length ∧ p.2 ≠ [] := fun p hp' => by
     obtain ⟨i, hi, rfl⟩ := List.mem_iff_getElem.1 hp'
     have := hk i hi
     unfold locBad at this
     simp only [Bool.or_eq_false_iff, decide_eq_false_iff_not, Bool.not_eq_false', decide_eq_true_eq] at this
     rw [nth_eq x.2 i hi] at this
     exact ⟨this.2.1, fun e => this.1 (by rw [e]; rfl)⟩
    show some (decide (((sumN x.1.length fun i => (nth x.1 i).length : Nat) : Int) - ((sumN x.2.length fun i => (nth x.2 i).2.length : Nat) : Int) = 0)) = _
    by_cases hE : x.2 = (indexP x.1).2
    ·have : sumL x.2 = sumL (indexP x.1).2 := by rw [← hE]
     rw [decide_eq_true hE, decide_eq_true (by omega)]
    ·have hne : sumL x.2 ≠ sumL (indexP x.1).2 := fun e => hE (canon_of_sum hC ord ids e)
     rw [decide_eq_false hE, decide_eq_false (by omega)]
theorem okI {l : List Int} (h : l.length ≤ 4194304) : Dp.ok l := ⟨by unfold maxLen; omega, fun _ _ => trivial⟩
theorem wtI (l : List Int) : Wt.w l = l.length := by
 show l.length + sumN l.length (fun i => Wt.w (nth l i)) = _
 rw [sumN_zero (f := fun i => Wt.w (nth l i)) fun i _ => rfl]; rfl
theorem indexB_canon {x : Index} (h : indexB x = true) : Canon x.1 x.2 ∧ allN x.1.length (nmBad x.1) = true ∧ x.1.length ≤ 6 ∧ x.2 = (indexP x.1).2 := by
 unfold indexB namesB at h
 simp only [Bool.and_eq_true, decide_eq_true_eq] at h
 obtain ⟨⟨h1, h2⟩, h3⟩ := h
 exact ⟨by rw [h3]; exact canon_posts (names_dist h1), h1, by omega, h3⟩
def tg (i j : Nat) : Tag := (s1 (97 + (i : Int)), s1 (112 + (j : Int)))
def cell (names : List (List Tag)) (i j : Nat) : List Post := if 0 < (idsN names (tg i j) names.length).length then [(tg i j, idsN names (tg i j) names.length)] else []
def rowE (names : List (List Tag)) (i : Nat) : Nat → List Post
 | 0 => []
 | j + 1 => rowE names i j ++ cell names i j
def allE (names : List (List Tag)) : Nat → List Post
 | 0 => []
 | i + 1 => allE names i ++ rowE names i 11
theorem rowE_succ (names : List (List Tag)) (i j : Nat) : rowE names i (j + 1) = rowE names i j ++ cell names i j := rfl
theorem allE_succ (names : List (List Tag)) (i : Nat) : allE names (i + 1) = allE names i ++ rowE names i 11 := rfl
theorem cell_len (names : List (List Tag)) (i j : Nat) : (cell names i j).length ≤ 1 := by unfold cell; split <;> simp
theorem rowE_len (names : List (List Tag)) (i : Nat) : ∀ j, (rowE names i j).length ≤ j
 | 0 => Nat.le_refl _
 | j + 1 => by
  have := rowE_len names i j
  have := cell_len names i j
  rw [rowE_succ, List.length_append]; omega
theorem allE_len (names : List (List Tag)) : ∀ i, (allE names i).length ≤ 11 * i
 | 0 => Nat.le_refl _
 | i + 1 => by
  have := allE_len names i
  have := rowE_len names i 11
  rw [allE_succ, List.length_append]; omega
theorem cell_mem {names : List (List Tag)} {i j : Nat} {p : Post} (h : p ∈ cell names i j) : p = (tg i j, idsN names (tg i j) names.length) ∧ idsN names (tg i j) names.length ≠ [] := by
 unfold cell at h
 split at h
 next hp => exact ⟨List.mem_singleton.1 h, fun e => by rw [e] at hp; cases hp⟩
 next => cases h
theorem rowE_mem {names : List (List Tag)} {i : Nat} {p : Post} : ∀ {j}, p ∈ rowE names i j → ∃ k, k < j ∧ p ∈ cell names i k
 | 0, h => nomatch h
 | j + 1, h => by
  rcases List.mem_append.1 h with h | h
  ·obtain ⟨k, hk, h⟩ := rowE_mem h
   exact ⟨k, by omega, h⟩
  ·exact ⟨j, Nat.lt_succ_self _, h⟩
theorem allE_mem {names : List (List Tag)} {p : Post} : ∀ {i}, p ∈ allE names i → ∃ k j, k < i ∧ j < 11 ∧ p ∈ cell names k j
 | 0, h => nomatch h
 | i + 1, h => by
  rcases List.mem_append.1 h with h | h
  ·obtain ⟨k, j, hk, hj, h⟩ := allE_mem h
   exact ⟨k, j, by omega, hj, h⟩
  ·obtain ⟨j, hj, h⟩ := rowE_mem h
   exact ⟨i, j, Nat.lt_succ_self _, hj, h⟩
theorem rowE_in {names : List (List Tag)} {i k : Nat} {p : Post} (h : p ∈ cell names i k) : ∀ {j}, k < j → p ∈ rowE names i j
 | 0, hk => absurd hk (Nat.not_lt_zero _)
 | j + 1, hk => by
  rw [rowE_succ, List.mem_append]
  by_cases e : k = j
  ·subst e; exact .inr h
  ·exact .inl (rowE_in h (by omega))
theorem allE_in {names : List (List Tag)} {i j : Nat} {p : Post} (hj : j < 11) (h : p ∈ cell names i j) : ∀ {n}, i < n → p ∈ allE names n
 | 0, hk => absurd hk (Nat.not_lt_zero _)
 | n + 1, hk => by
  rw [allE_succ, List.mem_append]
  by_cases e : i = n
  ·subst e; exact .inr (rowE_in h hj)
  ·exact .inl (allE_in hj h (by omega))
theorem s1_lt {a b : Nat} (h : a < b) (hb : b < 128) : sless (s1 (a : Int)) (s1 (b : Int)) = true := by
 show sless ⟨#[UInt8.ofNat a]⟩ ⟨#[UInt8.ofNat b]⟩ = true
 rw [sl_one, decide_eq_true_eq, UInt8.lt_iff_toNat_lt]
 simp only [UInt8.toNat_ofNat']
 omega
theorem tg_lt {i j i' j' : Nat} (_ : i < 4) (_ : j < 11) (hi' : i' < 4) (hj' : j' < 11) (h : i < i' ∨ (i = i' ∧ j < j')) : ltTag (tg i j) (tg i' j') = true := by
 unfold ltTag tg
 rcases h with h | ⟨rfl, h⟩
 ·have := s1_lt (show 97 + i < 97 + i' by omega) (by omega)
  rw [show ((97 + i : Nat) : Int) = 97 + (i : Int) by omega, show ((97 + i' : Nat) : Int) = 97 + (i' : Int) by omega] at this
  rw [this]; rfl
 ·have := s1_lt (show 112 + j < 112 + j' by omega) (by omega)
  rw [show ((112 + j : Nat) : Int) = 112 + (j : Int) by omega, show ((112 + j' : Nat) : Int) = 112 + (j' : Int) by omega] at this
  rw [this]; simp
theorem rowE_ord {names : List (List Tag)} {i : Nat} (hi : i < 4) : ∀ {j}, j ≤ 11 → (rowE names i j).Pairwise fun x y => ltTag x.1 y.1 = true
 | 0, _ => List.Pairwise.nil
 | j + 1, hj => by
  rw [rowE_succ, List.pairwise_append]
  refine ⟨rowE_ord hi (by omega), ?_, fun p hp q hq => ?_⟩
  ·unfold cell; split <;> simp
  ·obtain ⟨k, hk, hp⟩ := rowE_mem hp
   rw [(cell_mem hp).1, (cell_mem hq).1]
   exact tg_lt hi (by omega) hi (by omega) (.inr ⟨rfl, hk⟩)
theorem allE_ord {names : List (List Tag)} : ∀ {i}, i ≤ 4 → (allE names i).Pairwise fun x y => ltTag x.1 y.1 = true
 | 0, _ => List.Pairwise.nil
 | i + 1, hi => by
  rw [allE_succ, List.pairwise_append]
  refine ⟨allE_ord (by omega), rowE_ord (by omega) (Nat.le_refl _), fun p hp q hq => ?_⟩
  obtain ⟨k, j, hk, hj, hp⟩ := allE_mem hp
  obtain ⟨j', hj', hq⟩ := rowE_mem hq
  rw [(cell_mem hp).1, (cell_mem hq).1]
  exact tg_lt (by omega) hj (by omega) hj' (.inl hk)
theorem tg_of {t : Tag} (h : tagB t = true) : ∃ i j, i < 4 ∧ j < 11 ∧ t = tg i j := by
 unfold tagB at h
 simp only [Bool.and_eq_true, decide_eq_true_eq, inn] at h
 obtain ⟨h1, h2, ⟨h3, h4⟩, h5, h6⟩ := h
 refine ⟨(sb t.1 0).toNat - 97, (sb t.2 0).toNat - 112, by omega, by omega, ?_⟩
 have e1 : t.1 = s1 (97 + (((sb t.1 0).toNat - 97 : Nat) : Int)) := by
  have : (97 + (((sb t.1 0).toNat - 97 : Nat) : Int)).toNat = (sb t.1 0).toNat := by omega
  unfold s1
  rw [this, UInt8.ofNat_toNat]
  exact ba_one h1
 have e2 : t.2 = s1 (112 + (((sb t.2 0).toNat - 112 : Nat) : Int)) := by
  have : (112 + (((sb t.2 0).toNat - 112 : Nat) : Int)).toNat = (sb t.2 0).toNat := by omega
  unfold s1
  rw [this, UInt8.ofNat_toNat]
  exact ba_one h2
 exact Prod.ext e1 e2
theorem idsN_name {names : List (List Tag)} {t : Tag} : ∀ {m}, idsN names t m ≠ [] → ∃ k, k < m ∧ t ∈ nth names k
 | 0, h => absurd rfl h
 | m + 1, h => by
  rw [idsN_succ] at h
  cases hc : hasT (nth names m) t with
  | true => exact ⟨m, Nat.lt_succ_self _, hasT_iff.1 hc⟩
  | false =>
   rw [if_neg (by rw [hc]; simp), List.append_nil] at h
   obtain ⟨k, hk, h⟩ := idsN_name h
   exact ⟨k, by omega, h⟩
def goodN (names : List (List Tag)) : Prop := ∀ k, k < names.length → nameOk (nth names k) = true
theorem goodN_dist {names : List (List Tag)} (h : goodN names) : dist names := fun n hn => by
 obtain ⟨i, hi, rfl⟩ := List.mem_iff_getElem.1 hn
 rw [← nth_eq names i hi]
 exact nameOk_nodup (h i hi)
theorem canon_all {names : List (List Tag)} (h : goodN names) : Canon names (allE names 4) := by
 refine ⟨allE_ord (Nat.le_refl _), fun p hp => ?_, fun t ht => ?_⟩
 ·obtain ⟨i, j, _, _, hp⟩ := allE_mem hp
  obtain ⟨e1, e2⟩ := cell_mem hp
  rw [e1]; exact ⟨rfl, e2⟩
 ·obtain ⟨k, hk, hm⟩ := idsN_name ht
  obtain ⟨i, j, hi, hj, rfl⟩ := tg_of (nameOk_tags (h k hk) t hm)
  refine ⟨(tg i j, idsN names (tg i j) names.length), allE_in hj ?_ hi, rfl⟩
  unfold cell
  rw [if_pos (List.length_pos_iff.2 ht)]
  exact List.mem_singleton.2 rfl
theorem e_rowE (names : List (List Tag)) (i : Nat) (hi : i < 4) (acc : List Post) (ha : acc.length ≤ 44) (h1 : names.length ≤ 4194304) (h2 : ∀ n ∈ names, n.length ≤ 4194304) : lp (p_spec_l11Of_b1 names (acc, 97 + (i : Int))) (acc, 112) = some (acc ++ rowE names i 11) := by
 have h0 : (acc, (112 : Int)) = (acc ++ rowE names i 0, (112 : Int) + ((0 : Nat) : Int)) := by rw [show rowE names i 0 = [] from rfl, List.append_nil]; rfl
 rw [h0, lp_for (body := p_spec_l11Of_b1 names (acc, 97 + (i : Int))) (fun j => (acc ++ rowE names i j, (112 : Int) + (j : Int))) 11 (acc ++ rowE names i 11) (fun j hj => by
  have hr := rowE_len names i j
  have ea : (112 : Int) + (j : Int) + 1 = 112 + ((j + 1 : Nat) : Int) := by omega
  unfold p_spec_l11Of_b1
  rw [decide_eq_true (show (112 : Int) + (j : Int) ≤ 122 by omega), cond_true, gd.yes (show asc (97 + (i : Int)) by unfold asc; omega), gd.yes (show asc (112 + (j : Int)) by unfold asc; omega), rowE_succ]
  show bd (p_spec_l11Ids names (tg i j)) _ = _
  rw [bd.yes (e_spec_l11Ids names (tg i j) h1 h2)]
  unfold cell
  by_cases hz : 0 < (idsN names (tg i j) names.length).length
  ·rw [decide_eq_true (show (0 : Int) < ((idsN names (tg i j) names.length).length : Int) by omega), cond_true, if_pos hz, gd.yes (by rw [List.length_append]; unfold room; omega), gd.yes (by unfold I32; omega), List.append_assoc, ea]; rfl
  ·rw [decide_eq_false (show ¬ (0 : Int) < ((idsN names (tg i j) names.length).length : Int) by omega), cond_false, if_neg hz, gd.yes (by unfold I32; omega), List.append_nil, ea]) (by
  unfold p_spec_l11Of_b1; rw [decide_eq_false (show ¬ ((112 : Int) + ((11 : Nat) : Int) ≤ 122) by omega)]; rfl)]
theorem e_spec_l11Of {names : List (List Tag)} (hg : goodN names) (h1 : names.length ≤ 4194304) (h2 : ∀ n ∈ names, n.length ≤ 4194304) : p_spec_l11Of names = some (indexP names) := by
 unfold p_spec_l11Of
 have h0 : (([] : List Post), (97 : Int)) = (allE names 0, (97 : Int) + ((0 : Nat) : Int)) := rfl
 rw [h0, bd.yes (lp_for (body := p_spec_l11Of_b0 names) (fun i => (allE names i, (97 : Int) + (i : Int))) 4 (allE names 4) (fun i hi => by
  have hl := allE_len names i
  unfold p_spec_l11Of_b0
  rw [decide_eq_true (show (97 : Int) + (i : Int) ≤ 100 by omega), cond_true, bd.yes (e_rowE names i hi _ (by omega) h1 h2), gd.yes (by unfold I32; omega), allE_succ, show (97 : Int) + (i : Int) + 1 = 97 + ((i + 1 : Nat) : Int) by omega]) (by
  unfold p_spec_l11Of_b0; rw [decide_eq_false (show ¬ ((97 : Int) + ((4 : Nat) : Int) ≤ 100) by omega)]; rfl)), bd.yes (e_spec_l11Names names h1 h2)]
 have : allE names 4 = (indexP names).2 := canon_eq (canon_all hg) (canon_posts (goodN_dist hg))
 rw [this]; rfl
theorem good_of {x : Index} (h : indexB x = true) : goodN x.1 := fun k hk => nmBad_ok (allN_iff.1 (indexB_canon h).2.1 k hk)
theorem goodN_len {names : List (List Tag)} (h : goodN names) : ∀ n ∈ names, n.length ≤ 3 := fun n hn => by
 obtain ⟨i, hi, rfl⟩ := List.mem_iff_getElem.1 hn
 rw [← nth_eq names i hi]
 exact (nameOk_len (h i hi)).2
theorem goodN_sum {names : List (List Tag)} (h : goodN names) : sumN names.length (fun i => (nth names i).length) ≤ names.length * 3 := by
 have : ∀ m, m ≤ names.length → sumN m (fun i => (nth names i).length) ≤ m * 3 := by
  intro m
  induction m with
  | zero => intro _; exact Nat.le_refl _
  | succ m ih =>
   intro hm
   have h1 := ih (by omega)
   have h2 := (nameOk_len (h m (by omega))).2
   show sumN m (fun i => (nth names i).length) + (nth names m).length ≤ _
   omega
 exact this _ (Nat.le_refl _)
theorem sumN_c {f : Nat → Nat} {c : Nat} : ∀ {n}, (∀ i, i < n → f i ≤ c) → sumN n f ≤ n * c
 | 0, _ => Nat.zero_le _
 | n + 1, h => by
  have h1 := sumN_c (n := n) fun i hi => h i (by omega)
  have h2 := h n (Nat.lt_succ_self _)
  show sumN n f + f n ≤ _
  rw [Nat.add_mul]; omega
theorem sumL_ne {P : List Post} (h : ∀ p ∈ P, p.2 ≠ []) : P.length ≤ sumL P := by
 induction P with
 | nil => exact Nat.zero_le _
 | cons p P ih =>
  have h1 := ih fun q hq => h q (List.mem_cons_of_mem _ hq)
  have h2 := List.length_pos_iff.2 (h p (List.mem_cons_self ..))
  show P.length + 1 ≤ p.2.length + sumL P
  omega
theorem w_good {n : List Tag} (h : nameOk n = true) : Wt.w n ≤ 9 := by
 have hl := (nameOk_len h).2
 have := sumN_c (f := fun i => (nth n i).1.size + (nth n i).2.size) (c := 2) (n := n.length) fun i hi => by
  have := tagB_one (nameOk_tags h _ (nth_mem hi))
  show (nth n i).1.size + (nth n i).2.size ≤ 2
  rw [this.1, this.2]; exact Nat.le_refl _
 rw [w_name]; omega
theorem okTags (n : List Tag) (h : n.length ≤ 4194304) : Dp.ok n := ⟨by unfold maxLen; omega, fun _ _ => ⟨trivial, trivial⟩⟩
theorem good_index {names : List (List Tag)} (h : goodN names) (hl : names.length ≤ 7) : Dp.ok (indexP names) ∧ Wt.w (indexP names) ≤ 100000 := by
 have hC := canon_posts (goodN_dist h)
 have hs : sumL (indexP names).2 = sumN names.length fun i => (nth names i).length := by
  rw [← sumL_posts]
  exact sumL_perm (List.mergeSort_perm _ _)
 have hs2 := goodN_sum h
 have hle := sumL_ne fun p hp => (hC.ids p hp).2
 have hids : ∀ p ∈ (indexP names).2, p.2.length ≤ 7 := fun p hp => by
  have := idsN_len names p.1 names.length
  rw [(hC.ids p hp).1]; omega
 refine ⟨⟨⟨show names.length ≤ maxLen by unfold maxLen; omega, fun i hi => okTags _ (by have := goodN_len h _ (nth_mem (show i < names.length from hi)); show (nth names i).length ≤ _; omega)⟩, by unfold maxLen; omega, fun i hi => ⟨⟨trivial, trivial⟩, okI (by have := hids _ (nth_mem hi); omega)⟩⟩, ?_⟩
 have e : Wt.w (indexP names) = Wt.w names + Wt.w (indexP names).2 := rfl
 have e1 : Wt.w names = names.length + sumN names.length fun i => Wt.w (nth names i) := rfl
 have e2 : Wt.w (indexP names).2 = (indexP names).2.length + sumN (indexP names).2.length fun i => Wt.w (nth (indexP names).2 i) := rfl
 have b1 := sumN_c (f := fun i => Wt.w (nth names i)) (c := 9) (n := names.length) fun i hi => w_good (h i hi)
 have b2 := sumN_c (f := fun i => Wt.w (nth (indexP names).2 i)) (c := 9) (n := (indexP names).2.length) fun i hi => by
  have hm := nth_mem hi
  obtain ⟨i1, i2⟩ := hC.ids _ hm
  rw [i1] at i2
  obtain ⟨k, hk, ht⟩ := idsN_name i2
  have ho := tagB_one (nameOk_tags (h k hk) _ ht)
  have h7 := hids _ hm
  have ew : Wt.w (nth (indexP names).2 i) = ((nth (indexP names).2 i).1.1.size + (nth (indexP names).2 i).1.2.size) + Wt.w (nth (indexP names).2 i).2 := rfl
  show Wt.w (nth (indexP names).2 i) ≤ 9
  rw [ew, wtI, ho.1, ho.2]; omega
 omega
theorem indexB_P {names : List (List Tag)} (h : namesB names = true) : indexB (indexP names) = true := by
 unfold indexB
 rw [show (indexP names).1 = names from rfl, h, decide_eq_true rfl]; rfl
theorem bd_swl {α β γ : Type} {f : α → Option γ} {g : β → Option γ} {e : α} : bd (some (.inl e)) (sw f g) = f e := rfl
theorem bd_swr {α β γ : Type} {f : α → Option γ} {g : β → Option γ} {e : β} : bd (some (.inr e)) (sw f g) = g e := rfl
def insI (id : Int) (o : List Row) (m : Sample) : List Row := if m.1 = id then ins m.2 o else o
def memR (mem : List Sample) (id : Int) (o : List Row) : List Row := mem.foldl (insI id) o
def parR (parts : List Part) (id : Int) : List Row := parts.foldl (fun o p => mg o (partOf p id)) []
def rowsS (s : Store) (id : Int) : List Row := memR s.2.2 id (parR s.2.1 id)
theorem partOf_ok (p : Part) (id : Int) : blockOk (partOf p id) = true := by
 unfold partOf
 cases h : partOk p with
 | true => rw [if_pos rfl]; exact rowsOf_ok h id
 | false => rw [if_neg (by simp)]; rfl
theorem partOf_24 (p : Part) (id : Int) : (partOf p id).length ≤ 24 := (blockOk_iff.1 (partOf_ok p id)).2.2
theorem parF_len (id : Int) : ∀ (l : List Part) (o : List Row), (l.foldl (fun o p => mg o (partOf p id)) o).length ≤ o.length + 24 * l.length
 | [], _ => Nat.le_refl _
 | p :: l, o => by
  have h1 := parF_len id l (mg o (partOf p id))
  have h2 := (mg_len (partOf p id) o).2
  have h3 := partOf_24 p id
  rw [List.foldl_cons, List.length_cons]; omega
theorem parR_len (l : List Part) (id : Int) : (parR l id).length ≤ 24 * l.length := by
 have := parF_len id l []
 rw [List.length_nil] at this
 unfold parR; omega
theorem parF_asc (id : Int) : ∀ (l : List Part) (o : List Row), Asc o → Asc (l.foldl (fun o p => mg o (partOf p id)) o)
 | [], _, h => h
 | _ :: l, _, h => parF_asc id l _ (mg_asc h)
theorem parR_asc (l : List Part) (id : Int) : Asc (parR l id) := parF_asc id l [] nil_asc
theorem insI_len (id : Int) (o : List Row) (m : Sample) : (insI id o m).length ≤ o.length + 1 := by
 unfold insI
 split
 ·exact (ins_len m.2 o).2
 ·omega
theorem insI_asc {id : Int} {o : List Row} (m : Sample) (h : Asc o) : Asc (insI id o m) := by
 unfold insI
 split
 ·exact ins_asc m.2 h
 ·exact h
theorem memR_len (id : Int) : ∀ (l : List Sample) (o : List Row), (memR l id o).length ≤ o.length + l.length
 | [], _ => Nat.le_refl _
 | m :: l, o => by
  have h1 := memR_len id l (insI id o m)
  have h2 := insI_len id o m
  unfold memR at h1 ⊢
  rw [List.foldl_cons, List.length_cons]; omega
theorem memR_asc (id : Int) : ∀ (l : List Sample) (o : List Row), Asc o → Asc (memR l id o)
 | [], _, h => h
 | m :: l, _, h => memR_asc id l _ (insI_asc m h)
theorem memR_take (l : List Sample) (id : Int) (o : List Row) {k : Nat} (hk : k < l.length) : memR (l.take (k + 1)) id o = insI id (memR (l.take k) id o) (nth l k) := foldl_take _ _ _ _ hk
theorem e_rowsIn (r a : List Row) (ha : a.length ≤ 500) (hr : r.length ≤ 100) : lp (p_impl_Store_rows_b1 r) (a, 0) = some (mg a r) := by
 have := lp_for (body := p_impl_Store_rows_b1 r) (fun k => (mg a (r.take k), (k : Int))) r.length (mg a r) (fun k hk => by
  have hl := mg_take_len a r k (by omega)
  unfold p_impl_Store_rows_b1
  rw [dlt hk, cond_true, gd.yes (ixN hk)]
  simp only [Int.toNat_natCast]
  rw [bd.yes (e_put _ (nth r k) (by omega)), gd.yes (i64S hk (by omega)), mg_take a r k hk, addI]) (by
  unfold p_impl_Store_rows_b1
  rw [decide_eq_false (show ¬ ((r.length : Int) < (r.length : Int)) by omega), cond_false, List.take_length])
 exact this
theorem e_impl_rows (s : Store) (id : Int) (hp : s.2.1.length ≤ 6) (hm : s.2.2.length ≤ 30) (hP : ∀ p ∈ s.2.1, Dp.ok p ∧ Wt.w p ≤ 1048576) : p_impl_Store_rows s id = some (rowsS s id) := by
 have h0 : lp (p_impl_Store_rows_b0 s id) (([] : List Row), 0) = some (parR s.2.1 id) :=
  lp_for (body := p_impl_Store_rows_b0 s id) (fun k => ((s.2.1.take k).foldl (fun o p => mg o (partOf p id)) [], (k : Int))) s.2.1.length (parR s.2.1 id) (fun k hk => by
   have hl := parR_len (s.2.1.take k) id
   rw [List.length_take, Nat.min_eq_left (by omega)] at hl
   unfold parR at hl
   obtain ⟨k1, k2⟩ := hP _ (nth_mem hk)
   have h24 := partOf_24 (nth s.2.1 k) id
   unfold p_impl_Store_rows_b0
   rw [dlt hk, cond_true, gd.yes (ixN hk)]
   simp only [Int.toNat_natCast]
   rw [bd.yes (e_impl_PartOf (nth s.2.1 k) id k1 k2), bd.yes (e_rowsIn _ _ (by omega) (by omega)), gd.yes (i64S hk (by omega)), foldl_take _ _ _ _ hk, addI]) (by
   unfold p_impl_Store_rows_b0
   rw [decide_eq_false (show ¬ ((s.2.1.length : Int) < (s.2.1.length : Int)) by omega), cond_false, List.take_length]; rfl)
 have hpl := parR_len s.2.1 id
 have h1 : lp (p_impl_Store_rows_b2 s id) (parR s.2.1 id, 0) = some (rowsS s id) :=
  lp_for (body := p_impl_Store_rows_b2 s id) (fun k => (memR (s.2.2.take k) id (parR s.2.1 id), (k : Int))) s.2.2.length (rowsS s id) (fun k hk => by
   have hl := memR_len id (s.2.2.take k) (parR s.2.1 id)
   rw [List.length_take, Nat.min_eq_left (by omega)] at hl
   unfold p_impl_Store_rows_b2
   rw [dlt hk, cond_true, gd.yes (ixN hk), memR_take _ _ _ hk]
   simp only [Int.toNat_natCast]
   by_cases he : (nth s.2.2 k).1 = id
   ·rw [decide_eq_true he, cond_true, bd.yes (e_put _ _ (by omega)), gd.yes (i64S hk (by omega)), addI]
    unfold insI; rw [if_pos he]
   ·rw [decide_eq_false he, cond_false, gd.yes (i64S hk (by omega)), addI]
    unfold insI; rw [if_neg he]) (by
   unfold p_impl_Store_rows_b2
   rw [decide_eq_false (show ¬ ((s.2.2.length : Int) < (s.2.2.length : Int)) by omega), cond_false, List.take_length]; rfl)
 unfold p_impl_Store_rows
 rw [bd.yes h0, bd.yes h1]
theorem e_l2M (a b : List Row) (hab : a.length + b.length ≤ 100000) (h : Asc a) : p_spec_l2Merge a b = some (mg a b) := by
 unfold p_spec_l2Merge
 have g1 : room (([] : List Row).length + a.length) := by rw [List.length_nil]; unfold room; omega
 rw [gd.yes g1, List.nil_append]
 have : lp (p_spec_l2Merge_b0 b) (a, 0) = some (mg a b) := lp_for (body := p_spec_l2Merge_b0 b) (fun k => (mg a (b.take k), (k : Int))) b.length (mg a b) (fun k hk => by
  unfold p_spec_l2Merge_b0
  have hl := mg_take_len a b k (by omega)
  rw [dlt hk, cond_true, gd.yes (ixN hk)]
  simp only [Int.toNat_natCast]
  rw [bd.yes (e_l2Put _ (nth b k) (by omega)), l2_ins _ _ (mg_asc h), gd.yes (i64S hk (by omega)), mg_take a b k hk, addI]) (by
  unfold p_spec_l2Merge_b0
  rw [decide_eq_false (show ¬ ((b.length : Int) < (b.length : Int)) by omega), cond_false, List.take_length])
 rw [bd.yes this]
theorem partOf_yes {p : Part} (h : partOk p = true) (id : Int) : partOf p id = rowsOf p id := by unfold partOf; rw [if_pos h]
theorem e_spec_rows (s : Store) (id : Int) (hp : s.2.1.length ≤ 6) (hm : s.2.2.length ≤ 30) (hP : ∀ p ∈ s.2.1, Dp.ok p ∧ Wt.w p ≤ 1048576) (hK : ∀ p ∈ s.2.1, partOk p = true) : p_spec_l13Rows s id = some (rowsS s id) := by
 have h0 : lp (p_spec_l13Rows_b0 s id) (([] : List Row), 0) = some (parR s.2.1 id) :=
  lp_for (body := p_spec_l13Rows_b0 s id) (fun k => ((s.2.1.take k).foldl (fun o p => mg o (partOf p id)) [], (k : Int))) s.2.1.length (parR s.2.1 id) (fun k hk => by
   have hl := parR_len (s.2.1.take k) id
   have hasc := parR_asc (s.2.1.take k) id
   rw [List.length_take, Nat.min_eq_left (by omega)] at hl
   unfold parR at hl hasc
   obtain ⟨k1, k2⟩ := hP _ (nth_mem hk)
   have hk3 := hK _ (nth_mem hk)
   have h24 := partOf_24 (nth s.2.1 k) id
   have hlen := partOk_len' hk3
   unfold p_spec_l13Rows_b0
   rw [dlt hk, cond_true, gd.yes (ixN hk)]
   simp only [Int.toNat_natCast]
   rw [bd.yes (e_l12Of (nth s.2.1 k) id k1 hlen), ← partOf_yes hk3 id, bd.yes (e_l2M _ _ (by omega) hasc), gd.yes (i64S hk (by omega)), foldl_take _ _ _ _ hk, addI]) (by
   unfold p_spec_l13Rows_b0
   rw [decide_eq_false (show ¬ ((s.2.1.length : Int) < (s.2.1.length : Int)) by omega), cond_false, List.take_length]; rfl)
 have hpl := parR_len s.2.1 id
 have h1 : lp (p_spec_l13Rows_b1 s id) (parR s.2.1 id, 0) = some (rowsS s id) :=
  lp_for (body := p_spec_l13Rows_b1 s id) (fun k => (memR (s.2.2.take k) id (parR s.2.1 id), (k : Int))) s.2.2.length (rowsS s id) (fun k hk => by
   have hl := memR_len id (s.2.2.take k) (parR s.2.1 id)
   have hasc := memR_asc id (s.2.2.take k) (parR s.2.1 id) (parR_asc _ _)
   rw [List.length_take, Nat.min_eq_left (by omega)] at hl
   unfold p_spec_l13Rows_b1
   rw [dlt hk, cond_true, gd.yes (ixN hk), memR_take _ _ _ hk]
   simp only [Int.toNat_natCast]
   by_cases he : (nth s.2.2 k).1 = id
   ·rw [decide_eq_true he, cond_true, bd.yes (e_l2Put _ _ (by omega)), l2_ins _ _ hasc, gd.yes (i64S hk (by omega)), addI]
    unfold insI; rw [if_pos he]
   ·rw [decide_eq_false he, cond_false, gd.yes (i64S hk (by omega)), addI]
    unfold insI; rw [if_neg he]) (by
   unfold p_spec_l13Rows_b1
   rw [decide_eq_false (show ¬ ((s.2.2.length : Int) < (s.2.2.length : Int)) by omega), cond_false, List.take_length]; rfl)
 unfold p_spec_l13Rows
 rw [bd.yes h0, bd.yes h1]
theorem e_Max (l : List Int) (h : l.Pairwise (· < ·)) (h0 : 0 < l.length) (hl : l.length ≤ 1048576) : p_slices_Max_int_int l = some (nth l (l.length - 1)) := by
 unfold p_slices_Max_int_int
 rw [decide_eq_false (show ¬ ((l.length : Int) < 1) by omega), cond_false, gd.yes (show ix 0 l.length by unfold ix; omega)]
 have : lp (p_slices_Max_int_int_b0 l) (nth l 0, ((0 : Nat) : Int) + 1) = some (nth l (l.length - 1)) := lp_for (body := p_slices_Max_int_int_b0 l) (fun k => (nth l k, (k : Int) + 1)) (l.length - 1) (nth l (l.length - 1)) (fun k hk => by
  have hk1 : k + 1 < l.length := by omega
  have hlt : nth l k < nth l (k + 1) := by
   rw [nth_eq l k (by omega), nth_eq l (k + 1) hk1]
   exact List.pairwise_iff_getElem.1 h k (k + 1) (by omega) hk1 (by omega)
  unfold p_slices_Max_int_int_b0
  rw [decide_eq_true (show (k : Int) + 1 < (l.length : Int) by omega), cond_true, addI, gd.yes (ixN hk1), gd.yes (show I64 (((k + 1 : Nat) : Int) + 1) by unfold I64; omega)]
  simp only [Int.toNat_natCast]
  rw [show max (nth l k) (nth l (k + 1)) = nth l (k + 1) by omega]) (by
  unfold p_slices_Max_int_int_b0
  rw [decide_eq_false (show ¬ (((l.length - 1 : Nat) : Int) + 1 < (l.length : Int)) by omega), cond_false])
 have e1 : ((0 : Nat) : Int) + 1 = 1 := rfl
 rw [e1] at this
 rw [bd.yes this]
def lastId (p : Part) : Int := nth p.1 (p.1.length - 1)
def badP (n : Nat) (p : Part) : Bool := !partOk p || (decide (p.1.length = 0) || decide ((n : Int) < lastId p))
def badM (n : Nat) (m : Sample) : Bool := !inn 1 m.1 (n : Int) || !rowOk m.2
def badR (s : Store) (k : Nat) : Bool := decide (24 < (rowsS s ((k : Int) + 1)).length)
def storeB (s : Store) : Bool := indexB s.1 && (decide (s.2.1.length ≤ 6) && (decide (s.2.2.length ≤ 20) && (allN s.2.1.length (fun k => badP s.1.1.length (nth s.2.1 k)) && (allN s.2.2.length (fun k => badM s.1.1.length (nth s.2.2 k)) && allN s.1.1.length (badR s)))))
structure okS (s : Store) : Prop where
 w1 : Wt.w s.1.1 ≤ 4194304
 w2 : postsW s.1.2
 pl : s.2.1.length ≤ 1048576
 ml : s.2.2.length ≤ 1048576
 p : ∀ p ∈ s.2.1, Dp.ok p ∧ Wt.w p ≤ 1048576
theorem badP_ok {n : Nat} {p : Part} (h : badP n p = false) : partOk p = true ∧ 0 < p.1.length ∧ lastId p ≤ (n : Int) := by
 unfold badP at h
 simp only [Bool.or_eq_false_iff, Bool.not_eq_false', decide_eq_false_iff_not] at h
 exact ⟨h.1, by omega, by omega⟩
theorem e_badP (n : Nat) (p : Part) (_ : Dp.ok p) (hl : p.1.length ≤ 1048576) (h1 : p_impl_PartOk p = some (partOk p)) : (bd (p_impl_PartOk p) fun r29 => cond (!r29) (some (true)) (cond (decide (((p.1).length : Int) = 0)) (some (true)) (bd (p_slices_Max_int_int (p.1)) fun r33 => some (decide ((n : Int) < r33))))) = some (badP n p) := by
 rw [bd.yes h1]
 unfold badP
 cases h : partOk p with
 | false => rfl
 | true =>
  rw [Bool.not_true, cond_false, Bool.false_or]
  by_cases h0 : p.1.length = 0
  ·rw [decide_eq_true (show (p.1.length : Int) = 0 by omega), cond_true, decide_eq_true h0]; rfl
  ·rw [decide_eq_false (show ¬ (p.1.length : Int) = 0 by omega), cond_false, decide_eq_false h0, bd.yes (e_Max p.1 (partOk_asc h) (by omega) hl)]; rfl
theorem e_impl_StoreOk (s : Store) (h : okS s) : p_impl_StoreOk s = some (storeB s) := by
 have hpl := h.pl
 have hml := h.ml
 unfold p_impl_StoreOk storeB
 rw [bd.yes (e_impl_IndexOk s.1 h.w1 h.w2)]
 cases hi : indexB s.1 with
 | false => rfl
 | true =>
  have hn6 := (indexB_canon hi).2.2.1
  rw [Bool.not_true, cond_false]
  by_cases h6 : s.2.1.length ≤ 6
  ·rw [decide_eq_false (show ¬ (6 : Int) < (s.2.1.length : Int) by omega), cond_false, decide_eq_true h6]
   by_cases h20 : s.2.2.length ≤ 20
   ·rw [decide_eq_false (show ¬ (20 : Int) < (s.2.2.length : Int) by omega), bd_some, cond_false, decide_eq_true h20, Bool.true_and, Bool.true_and, Bool.true_and]
    have hr0 : ∀ k, k < s.2.1.length → p_impl_StoreOk_b0 s (k : Int) = some (if badP s.1.1.length (nth s.2.1 k) then .inr (.inr false) else .inl ((k + 1 : Nat) : Int)) := fun k hk => by
     obtain ⟨k1, k2⟩ := h.p _ (nth_mem hk)
     have hl : (nth s.2.1 k).1.length ≤ Wt.w (nth s.2.1 k) := Nat.le_trans wL_le (Nat.le_add_right _ _)
     unfold p_impl_StoreOk_b0
     rw [dlt hk, cond_true, gd.yes (ixN hk)]
     simp only [Int.toNat_natCast]
     rw [bd.yes (e_badP s.1.1.length (nth s.2.1 k) k1 (by omega) (e_impl_PartOk _ k1)), gd.yes (i64S hk (by omega)), addI]
     cases badP s.1.1.length (nth s.2.1 k) <;> rfl
    rcases lp_scan (body := p_impl_StoreOk_b0 s) (fun k => (k : Int)) s.2.1.length (fun k => badP s.1.1.length (nth s.2.1 k)) (.inl ()) (fun _ => .inr false) (fun k hk _ h => by rw [hr0 k hk, h]; rfl) (fun k hk _ h => by rw [hr0 k hk, h]; rfl) (fun _ => by unfold p_impl_StoreOk_b0; rw [decide_eq_false (show ¬ ((s.2.1.length : Int) < (s.2.1.length : Int)) by omega)]; rfl) with ⟨a1, a2⟩ | ⟨a1, _, _, _, _, a2⟩
    ·rw [show (lp (p_impl_StoreOk_b0 s) 0) = _ from a2, bd_swl, a1, Bool.true_and]
     have hr1 : ∀ k, k < s.2.2.length → p_impl_StoreOk_b1 s (k : Int) = some (if badM s.1.1.length (nth s.2.2 k) then .inr (.inr false) else .inl ((k + 1 : Nat) : Int)) := fun k hk => by
      unfold p_impl_StoreOk_b1 badM
      rw [dlt hk, cond_true, gd.yes (ixN hk)]
      simp only [Int.toNat_natCast]
      rw [bd.yes (e_impl_within _ _ _), bd.yes (e_impl_rowOk _), gd.yes (i64S hk (by omega)), addI]
      cases inn 1 (nth s.2.2 k).1 (s.1.1.length : Int) <;> cases rowOk (nth s.2.2 k).2 <;> rfl
     rcases lp_scan (body := p_impl_StoreOk_b1 s) (fun k => (k : Int)) s.2.2.length (fun k => badM s.1.1.length (nth s.2.2 k)) (.inl ()) (fun _ => .inr false) (fun k hk _ h => by rw [hr1 k hk, h]; rfl) (fun k hk _ h => by rw [hr1 k hk, h]; rfl) (fun _ => by unfold p_impl_StoreOk_b1; rw [decide_eq_false (show ¬ ((s.2.2.length : Int) < (s.2.2.length : Int)) by omega)]; rfl) with ⟨b1, b2⟩ | ⟨b1, _, _, _, _, b2⟩
     ·rw [show (lp (p_impl_StoreOk_b1 s) 0) = _ from b2, bd_swl, b1, Bool.true_and]
      have hr2 : ∀ k, k < s.1.1.length → p_impl_StoreOk_b2 s ((k : Int) + 1) = some (if badR s k then .inr (.inr false) else .inl (((k + 1 : Nat) : Int) + 1)) := fun k hk => by
       unfold p_impl_StoreOk_b2 badR
       rw [decide_eq_true (show (k : Int) + 1 ≤ (s.1.1.length : Int) by omega), cond_true, bd.yes (e_impl_rows s _ h6 (by omega) h.p), gd.yes (show I64 ((k : Int) + 1 + 1) by unfold I64; omega)]
       by_cases hr : 24 < (rowsS s ((k : Int) + 1)).length
       ·rw [decide_eq_true (show (24 : Int) < ((rowsS s ((k : Int) + 1)).length : Int) by omega), decide_eq_true hr]; rfl
       ·rw [decide_eq_false (show ¬ (24 : Int) < ((rowsS s ((k : Int) + 1)).length : Int) by omega), decide_eq_false hr]
        have : (k : Int) + 1 + 1 = ((k + 1 : Nat) : Int) + 1 := by omega
        rw [this]; rfl
      rcases lp_scan (body := p_impl_StoreOk_b2 s) (fun k => (k : Int) + 1) s.1.1.length (badR s) (.inl ()) (fun _ => .inr false) (fun k hk _ h => by rw [hr2 k hk, h]; rfl) (fun k hk _ h => by rw [hr2 k hk, h]; rfl) (fun _ => by unfold p_impl_StoreOk_b2; rw [decide_eq_false (show ¬ ((s.1.1.length : Int) + 1 ≤ (s.1.1.length : Int)) by omega)]; rfl) with ⟨c1, c2⟩ | ⟨c1, _, _, _, _, c2⟩
      ·rw [show (lp (p_impl_StoreOk_b2 s) 1) = _ from c2, bd_swl, c1]
      ·rw [show (lp (p_impl_StoreOk_b2 s) 1) = _ from c2, bd_swr, c1]
     ·rw [show (lp (p_impl_StoreOk_b1 s) 0) = _ from b2, bd_swr, b1]; rfl
    ·rw [show (lp (p_impl_StoreOk_b0 s) 0) = _ from a2, bd_swr, a1]; rfl
   ·rw [decide_eq_true (show (20 : Int) < (s.2.2.length : Int) by omega), bd_some, cond_true, decide_eq_false h20]; rfl
  ·rw [decide_eq_true (show (6 : Int) < (s.2.1.length : Int) by omega), cond_true, decide_eq_false h6]; rfl
theorem e_l13Part (n : Nat) (p : Part) (hp : Dp.ok p) (hl : p.1.length ≤ 1048576) : p_spec_l13Part p (n : Int) = some (!badP n p) := by
 unfold p_spec_l13Part badP
 rw [bd.yes (e_spec_PartOk p hp)]
 cases h : partOk p with
 | false => rfl
 | true =>
  rw [cond_true, Bool.not_true, Bool.false_or]
  by_cases h0 : p.1.length = 0
  ·rw [decide_eq_false (show ¬ (0 : Int) < (p.1.length : Int) by omega), cond_false, decide_eq_true h0]; rfl
  ·have e1 : (p.1.length : Int) - 1 = ((p.1.length - 1 : Nat) : Int) := by omega
   rw [decide_eq_true (show (0 : Int) < (p.1.length : Int) by omega), cond_true, decide_eq_false h0, Bool.false_or, gd.yes (show I64 ((p.1.length : Int) - 1) by unfold I64; omega), e1, gd.yes (ixN (show p.1.length - 1 < p.1.length by omega)), bd_some, Int.toNat_natCast]
   by_cases hq : (n : Int) < lastId p
   ·have : ¬ nth p.1 (p.1.length - 1) ≤ (n : Int) := by unfold lastId at hq; omega
    rw [decide_eq_false this, decide_eq_true hq]; rfl
   ·have : nth p.1 (p.1.length - 1) ≤ (n : Int) := by unfold lastId at hq; omega
    rw [decide_eq_true this, decide_eq_false hq]; rfl
theorem e_spec_StoreOk (s : Store) (h : okS s) : p_spec_StoreOk s = some (storeB s) := by
 have hpl := h.pl
 have hml := h.ml
 unfold p_spec_StoreOk storeB
 rw [bd.yes (e_spec_IndexOk s.1 h.w1 h.w2)]
 cases hi : indexB s.1 with
 | false => rfl
 | true =>
  have hn6 := (indexB_canon hi).2.2.1
  rw [Bool.not_true, cond_false]
  by_cases h6 : s.2.1.length ≤ 6
  ·rw [decide_eq_false (show ¬ (6 : Int) < (s.2.1.length : Int) by omega), cond_false, decide_eq_true h6]
   by_cases h20 : s.2.2.length ≤ 20
   ·rw [decide_eq_false (show ¬ (20 : Int) < (s.2.2.length : Int) by omega), bd_some, cond_false, decide_eq_true h20, Bool.true_and, Bool.true_and, Bool.true_and]
    have hr0 : ∀ k, k < s.2.1.length → p_spec_StoreOk_b0 s (k : Int) = some (if badP s.1.1.length (nth s.2.1 k) then .inr (.inr false) else .inl ((k + 1 : Nat) : Int)) := fun k hk => by
     obtain ⟨k1, k2⟩ := h.p _ (nth_mem hk)
     have hl : (nth s.2.1 k).1.length ≤ Wt.w (nth s.2.1 k) := Nat.le_trans wL_le (Nat.le_add_right _ _)
     unfold p_spec_StoreOk_b0
     rw [dlt hk, cond_true, gd.yes (ixN hk)]
     simp only [Int.toNat_natCast]
     rw [bd.yes (e_l13Part s.1.1.length (nth s.2.1 k) k1 (by omega)), gd.yes (i64S hk (by omega)), addI]
     cases badP s.1.1.length (nth s.2.1 k) <;> rfl
    rcases lp_scan (body := p_spec_StoreOk_b0 s) (fun k => (k : Int)) s.2.1.length (fun k => badP s.1.1.length (nth s.2.1 k)) (.inl ()) (fun _ => .inr false) (fun k hk _ h => by rw [hr0 k hk, h]; rfl) (fun k hk _ h => by rw [hr0 k hk, h]; rfl) (fun _ => by unfold p_spec_StoreOk_b0; rw [decide_eq_false (show ¬ ((s.2.1.length : Int) < (s.2.1.length : Int)) by omega)]; rfl) with ⟨a1, a2⟩ | ⟨a1, _, _, _, _, a2⟩
    ·rw [show (lp (p_spec_StoreOk_b0 s) 0) = _ from a2, bd_swl, a1, Bool.true_and]
     have hK : ∀ p ∈ s.2.1, partOk p = true := fun p hp => by
      obtain ⟨i, hi, rfl⟩ := List.mem_iff_getElem.1 hp
      have := allN_iff.1 a1 i hi
      rw [nth_eq _ i hi] at this
      exact (badP_ok this).1
     have hr1 : ∀ k, k < s.2.2.length → p_spec_StoreOk_b1 s (k : Int) = some (if badM s.1.1.length (nth s.2.2 k) then .inr (.inr false) else .inl ((k + 1 : Nat) : Int)) := fun k hk => by
      unfold p_spec_StoreOk_b1 badM
      rw [dlt hk, cond_true, gd.yes (ixN hk)]
      simp only [Int.toNat_natCast]
      rw [bd.yes (e_spec_l6In _ _ _), bd.yes (e_spec_l2Row _), gd.yes (i64S hk (by omega)), addI]
      cases inn 1 (nth s.2.2 k).1 (s.1.1.length : Int) <;> cases rowOk (nth s.2.2 k).2 <;> rfl
     rcases lp_scan (body := p_spec_StoreOk_b1 s) (fun k => (k : Int)) s.2.2.length (fun k => badM s.1.1.length (nth s.2.2 k)) (.inl ()) (fun _ => .inr false) (fun k hk _ h => by rw [hr1 k hk, h]; rfl) (fun k hk _ h => by rw [hr1 k hk, h]; rfl) (fun _ => by unfold p_spec_StoreOk_b1; rw [decide_eq_false (show ¬ ((s.2.2.length : Int) < (s.2.2.length : Int)) by omega)]; rfl) with ⟨b1, b2⟩ | ⟨b1, _, _, _, _, b2⟩
     ·rw [show (lp (p_spec_StoreOk_b1 s) 0) = _ from b2, bd_swl, b1, Bool.true_and]
      have hr2 : ∀ k, k < s.1.1.length → p_spec_StoreOk_b2 s ((k : Int) + 1) = some (if badR s k then .inr (.inr false) else .inl (((k + 1 : Nat) : Int) + 1)) := fun k hk => by
       unfold p_spec_StoreOk_b2 badR
       rw [decide_eq_true (show (k : Int) + 1 ≤ (s.1.1.length : Int) by omega), cond_true, bd.yes (e_spec_rows s _ h6 (by omega) h.p hK), gd.yes (show I64 ((k : Int) + 1 + 1) by unfold I64; omega)]
       by_cases hr : 24 < (rowsS s ((k : Int) + 1)).length
       ·rw [decide_eq_true (show (24 : Int) < ((rowsS s ((k : Int) + 1)).length : Int) by omega), decide_eq_true hr]; rfl
       ·rw [decide_eq_false (show ¬ (24 : Int) < ((rowsS s ((k : Int) + 1)).length : Int) by omega), decide_eq_false hr]
        have : (k : Int) + 1 + 1 = ((k + 1 : Nat) : Int) + 1 := by omega
        rw [this]; rfl
      rcases lp_scan (body := p_spec_StoreOk_b2 s) (fun k => (k : Int) + 1) s.1.1.length (badR s) (.inl ()) (fun _ => .inr false) (fun k hk _ h => by rw [hr2 k hk, h]; rfl) (fun k hk _ h => by rw [hr2 k hk, h]; rfl) (fun _ => by unfold p_spec_StoreOk_b2; rw [decide_eq_false (show ¬ ((s.1.1.length : Int) + 1 ≤ (s.1.1.length : Int)) by omega)]; rfl) with ⟨c1, c2⟩ | ⟨c1, _, _, _, _, c2⟩
      ·rw [show (lp (p_spec_StoreOk_b2 s) 1) = _ from c2, bd_swl, c1]
      ·rw [show (lp (p_spec_StoreOk_b2 s) 1) = _ from c2, bd_swr, c1]
     ·rw [show (lp (p_spec_StoreOk_b1 s) 0) = _ from b2, bd_swr, b1]; rfl
    ·rw [show (lp (p_spec_StoreOk_b0 s) 0) = _ from a2, bd_swr, a1]; rfl
   ·rw [decide_eq_true (show (20 : Int) < (s.2.2.length : Int) by omega), bd_some, cond_true, decide_eq_false h20]; rfl
  ·rw [decide_eq_true (show (6 : Int) < (s.2.1.length : Int) by omega), cond_true, decide_eq_false h6]; rfl
structure goodS (s : Store) : Prop where
 i : indexB s.1 = true
 n6 : s.1.1.length ≤ 6
 p6 : s.2.1.length ≤ 6
 m20 : s.2.2.length ≤ 20
 p : ∀ p ∈ s.2.1, partOk p = true ∧ 0 < p.1.length ∧ lastId p ≤ (s.1.1.length : Int)
 m : ∀ m ∈ s.2.2, 1 ≤ m.1 ∧ m.1 ≤ (s.1.1.length : Int) ∧ rowOk m.2 = true
theorem storeB_good {s : Store} (h : storeB s = true) : goodS s := by
 unfold storeB at h
 simp only [Bool.and_eq_true, decide_eq_true_eq] at h
 obtain ⟨h1, h2, h3, h4, h5, _⟩ := h
 refine ⟨h1, (indexB_canon h1).2.2.1, h2, h3, fun p hp => ?_, fun m hm => ?_⟩
 ·obtain ⟨i, hi, rfl⟩ := List.mem_iff_getElem.1 hp
  have := allN_iff.1 h4 i hi
  rw [nth_eq _ i hi] at this
  exact badP_ok this
 ·obtain ⟨i, hi, rfl⟩ := List.mem_iff_getElem.1 hm
  have := allN_iff.1 h5 i hi
  rw [nth_eq _ i hi] at this
  unfold badM inn at this
  simp only [Bool.or_eq_false_iff, Bool.not_eq_false', Bool.and_eq_true, decide_eq_true_eq] at this
  exact ⟨this.1.1, this.1.2, this.2⟩
theorem e_clonePart (p : Part) (h1 : p.1.length ≤ 1048576) (h2 : p.2.length ≤ 1048576) (h3 : ∀ b ∈ p.2, b.length ≤ 1048576) : p_impl_clonePart p = some p := by
 have h : lp (p_impl_clonePart_b0 p) (([] : List (List Row)), 0) = some p.2 := lp_for (body := p_impl_clonePart_b0 p) (fun k => (p.2.take k, (k : Int))) p.2.length p.2 (fun k hk => by
  have hb := h3 _ (nth_mem hk)
  have hlt : (p.2.take k).length ≤ k := by rw [List.length_take]; omega
  unfold p_impl_clonePart_b0
  rw [dlt hk, cond_true, gd.yes (ixN hk)]
  simp only [Int.toNat_natCast]
  rw [gd.yes (show room (([] : List Row).length + (nth p.2 k).length) by rw [List.length_nil]; unfold room; omega), gd.yes (show room ((p.2.take k).length + 1) by unfold room; omega), gd.yes (show I64 ((k : Int) + 1) by unfold I64; omega), List.nil_append, take_succ_nth hk, addI]) (by
  unfold p_impl_clonePart_b0
  rw [decide_eq_false (show ¬ ((p.2.length : Int) < (p.2.length : Int)) by omega), cond_false, List.take_length])
 unfold p_impl_clonePart
 rw [gd.yes (show room (([] : List Int).length + p.1.length) by rw [List.length_nil]; unfold room; omega), bd.yes h, List.nil_append]
def copyS (s : Store) : Store := (indexP s.1.1, s.2.1, s.2.2)
def nilS : Store := ((([] : List (List Tag)), ([] : List Post)), ([] : List Part), ([] : List Sample))
theorem partOk_le {p : Part} (h : partOk p = true) : p.1.length ≤ 1048576 ∧ p.2.length ≤ 1048576 ∧ ∀ b ∈ p.2, b.length ≤ 1048576 := by
 obtain ⟨a, b, c⟩ := partOk_small h
 exact ⟨by omega, by omega, fun x hx => by have := c x hx; omega⟩
theorem e_l13Copy (s : Store) (h : goodS s) : p_spec_l13Copy s = some (copyS s) := by
 have h6 := h.n6
 have hp := h.p6
 have hm := h.m20
 have hg := good_of h.i
 have key : lp (p_spec_l13Copy_b0 s) (([] : List Part), 0) = some s.2.1 := lp_for (body := p_spec_l13Copy_b0 s) (fun k => (s.2.1.take k, (k : Int))) s.2.1.length s.2.1 (fun k hk => by
  obtain ⟨a, b, c⟩ := partOk_le (h.p _ (nth_mem hk)).1
  have hlt : (s.2.1.take k).length ≤ k := by rw [List.length_take]; omega
  have inner : lp (p_spec_l13Copy_b1 s (s.2.1.take k, (k : Int))) (([] : List (List Row)), 0) = some (nth s.2.1 k).2 := lp_for (body := p_spec_l13Copy_b1 s (s.2.1.take k, (k : Int))) (fun j => ((nth s.2.1 k).2.take j, (j : Int))) (nth s.2.1 k).2.length (nth s.2.1 k).2 (fun j hj => by
   have hb := c _ (nth_mem hj)
   have hlt : ((nth s.2.1 k).2.take j).length ≤ j := by rw [List.length_take]; omega
   unfold p_spec_l13Copy_b1
   simp only [Int.toNat_natCast]
   rw [dlt hj, cond_true, gd.yes (ixN hj), gd.yes (show room (([] : List Row).length + (nth (nth s.2.1 k).2 j).length) by rw [List.length_nil]; unfold room; omega), gd.yes (show room (((nth s.2.1 k).2.take j).length + 1) by unfold room; omega), gd.yes (show I64 ((j : Int) + 1) by unfold I64; omega), List.nil_append, take_succ_nth hj, addI]) (by
   unfold p_spec_l13Copy_b1
   simp only [Int.toNat_natCast]
   rw [decide_eq_false (show ¬ (((nth s.2.1 k).2.length : Int) < ((nth s.2.1 k).2.length : Int)) by omega), cond_false, List.take_length])
  unfold p_spec_l13Copy_b0
  rw [dlt hk, cond_true, gd.yes (ixN hk)]
  simp only [Int.toNat_natCast]
  rw [gd.yes (show room (([] : List Int).length + (nth s.2.1 k).1.length) by rw [List.length_nil]; unfold room; omega), bd.yes inner, gd.yes (show room ((s.2.1.take k).length + 1) by unfold room; omega), gd.yes (show I64 ((k : Int) + 1) by unfold I64; omega), List.nil_append, take_succ_nth hk, addI]) (by
  unfold p_spec_l13Copy_b0
  rw [decide_eq_false (show ¬ ((s.2.1.length : Int) < (s.2.1.length : Int)) by omega), cond_false, List.take_length])
 unfold p_spec_l13Copy copyS
 rw [bd.yes key, bd.yes (e_spec_l11Of hg (by omega) (fun m hm => by have := goodN_len hg m hm; omega)), gd.yes (show room (([] : List Sample).length + s.2.2.length) by rw [List.length_nil]; unfold room; omega), List.nil_append]
def fineS (r : Store) : Prop := Dp.ok r ∧ Wt.w r ≤ 100000000
theorem wSam (l : List Sample) : Wt.w l = l.length := by
 show l.length + sumN l.length (fun i => Wt.w (nth l i)) = _
 rw [sumN_zero (f := fun i => Wt.w (nth l i)) fun i _ => rfl]; rfl
theorem wParts {l : List Part} {n : Nat} (h : l.length ≤ n) (hs : ∀ p ∈ l, small p) : Wt.w l ≤ n + n * 1048576 := by
 have e : Wt.w l = l.length + sumN l.length fun i => Wt.w (nth l i) := rfl
 have := sumN_c (f := fun i => Wt.w (nth l i)) (c := 1048576) (n := l.length) fun i hi => small_w (hs _ (nth_mem hi))
 have h2 := Nat.mul_le_mul_right 1048576 h
 omega
theorem fine_mk {x : Index} {parts : List Part} {mem : List Sample} (hx : Dp.ok x ∧ Wt.w x ≤ 100000) (h1 : parts.length ≤ 8) (h2 : ∀ p ∈ parts, small p) (h3 : mem.length ≤ 30) : fineS (x, parts, mem) := by
 refine ⟨⟨hx.1, ⟨show parts.length ≤ maxLen by unfold maxLen; omega, fun i hi => small_ok (h2 _ (nth_mem hi))⟩, show mem.length ≤ maxLen by unfold maxLen; omega, fun _ _ => ⟨trivial, trivial, trivial⟩⟩, ?_⟩
 have e : Wt.w ((x, parts, mem) : Store) = Wt.w x + (Wt.w parts + Wt.w mem) := rfl
 have := wParts h1 h2
 rw [e, wSam]
 have := hx.2
 omega
theorem fine_nil : fineS nilS := fine_mk ⟨⟨⟨Nat.zero_le _, fun i hi => absurd hi (Nat.not_lt_zero _)⟩, Nat.zero_le _, fun i hi => absurd hi (Nat.not_lt_zero _)⟩, by decide⟩ (Nat.zero_le _) (fun _ h => nomatch h) (Nat.zero_le _)
theorem fine_copy {s : Store} (h : goodS s) : fineS (copyS s) :=
 fine_mk (good_index (good_of h.i) (by have := h.n6; omega)) (by have := h.p6; omega) (fun p hp => partOk_small (h.p p hp).1) (by have := h.m20; omega)
def nums (d : Disk) : List Int := d.1.map (·.1)
def atF (d : Disk) (num : Int) : Int := place (nums d) num
theorem nums_len (d : Disk) : (nums d).length = d.1.length := List.length_map ..
theorem nums_nth (d : Disk) {k : Nat} (hk : k < d.1.length) : nth (nums d) k = (nth d.1 k).1 := by
 rw [nth_eq _ k (by rw [nums_len]; exact hk), nth_eq _ k hk]; exact List.getElem_map ..
theorem atF_lt {d : Disk} {num : Int} : atF d num < 0 ∨ ∃ k, k < d.1.length ∧ atF d num = (k : Int) := by
 have := place_lt (l := nums d) (id := num)
 rwa [nums_len] at this
theorem atF_no {d : Disk} {num : Int} (h : allN d.1.length (fun k => decide ((nth d.1 k).1 = num)) = true) : atF d num = -1 :=
 place_no (allN_iff.2 fun k hk => by
  rw [nums_len] at hk
  rw [nums_nth d hk]; exact allN_iff.1 h k hk)
theorem atF_yes {d : Disk} {num : Int} {k : Nat} (hk : k < d.1.length) (h : decide ((nth d.1 k).1 = num) = true) (h2 : ∀ i, i < k → decide ((nth d.1 i).1 = num) = false) : atF d num = (k : Int) :=
 place_yes (by rw [nums_len]; exact hk) (by rw [nums_nth d hk]; exact h) (fun i hi => by rw [nums_nth d (by omega)]; exact h2 i hi)
theorem e_impl_file (d : Disk) (num : Int) (hl : d.1.length ≤ 1048576) : p_impl_Disk_file d num = some (atF d num) := by
 have hr : ∀ k, k < d.1.length → p_slices_IndexFunc_File_File_Disk_file_1_b0 d.1 num (k : Int) = some (if decide ((nth d.1 k).1 = num) then .inr (.inr (k : Int)) else .inl ((k + 1 : Nat) : Int)) := fun k hk => by
  unfold p_slices_IndexFunc_File_File_Disk_file_1_b0 p_impl_Disk_file_1
  rw [dlt hk, cond_true, gd.yes (ixN hk)]
  simp only [Int.toNat_natCast]
  rw [gd.yes (show I64 ((k : Int) + 1) by unfold I64; omega), addI, bd_some]
  by_cases h : (nth d.1 k).1 = num <;> simp [h]
 unfold p_impl_Disk_file p_slices_IndexFunc_File_File_Disk_file_1
 rcases lp_scan (body := p_slices_IndexFunc_File_File_Disk_file_1_b0 d.1 num) (fun k => (k : Int)) d.1.length (fun k => decide ((nth d.1 k).1 = num)) (.inl ()) (fun k => .inr (k : Int)) (fun k hk _ h => by rw [hr k hk, h]; rfl) (fun k hk _ h => by rw [hr k hk, if_pos h]) (fun _ => by unfold p_slices_IndexFunc_File_File_Disk_file_1_b0; rw [decide_eq_false (show ¬ ((d.1.length : Int) < (d.1.length : Int)) by omega)]; rfl) with ⟨h1, h2⟩ | ⟨h1, k, hk, hb, hn, h2⟩
 ·rw [show (lp (p_slices_IndexFunc_File_File_Disk_file_1_b0 d.1 num) 0) = _ from h2, atF_no h1]; rfl
 ·rw [show (lp (p_slices_IndexFunc_File_File_Disk_file_1_b0 d.1 num) 0) = _ from h2, atF_yes hk hb hn]; rfl
theorem e_spec_l21At (d : Disk) (num : Int) (hl : d.1.length ≤ 1048576) : p_spec_l21At d num = some (atF d num) := by
 have hr : ∀ k, k < d.1.length → p_spec_l21At_b0 d num (k : Int) = some (if decide ((nth d.1 k).1 = num) then .inr (.inr (k : Int)) else .inl ((k + 1 : Nat) : Int)) := fun k hk => by
  unfold p_spec_l21At_b0
  rw [dlt hk, cond_true, gd.yes (ixN hk)]
  simp only [Int.toNat_natCast]
  rw [gd.yes (show I64 ((k : Int) + 1) by unfold I64; omega), addI]
  by_cases h : (nth d.1 k).1 = num <;> simp [h]
 unfold p_spec_l21At
 rcases lp_scan (body := p_spec_l21At_b0 d num) (fun k => (k : Int)) d.1.length (fun k => decide ((nth d.1 k).1 = num)) (.inl ()) (fun k => .inr (k : Int)) (fun k hk _ h => by rw [hr k hk, h]; rfl) (fun k hk _ h => by rw [hr k hk, if_pos h]) (fun _ => by unfold p_spec_l21At_b0; rw [decide_eq_false (show ¬ ((d.1.length : Int) < (d.1.length : Int)) by omega)]; rfl) with ⟨h1, h2⟩ | ⟨h1, k, hk, hb, hn, h2⟩
 ·rw [show (lp (p_spec_l21At_b0 d num) 0) = _ from h2, atF_no h1]; rfl
 ·rw [show (lp (p_spec_l21At_b0 d num) 0) = _ from h2, atF_yes hk hb hn]; rfl
def fileBad (d : Disk) (k : Nat) : Bool := !inn 1 (nth d.1 k).1 (d.2.2.2 - 1) || ((decide (0 < k) && decide ((nth d.1 k).1 ≤ (nth d.1 (k - 1)).1)) || !partOk (nth d.1 k).2)
def listBad (d : Disk) (k : Nat) : Bool := decide (atF d (nth d.2.1 k) < 0) || !allN k (fun j => decide (nth d.2.1 j = nth d.2.1 k))
def partsOf (d : Disk) : List Part := d.2.1.map fun n => (nth d.1 (atF d n).toNat).2
def openS (d : Disk) : Store := (indexP d.2.2.1, partsOf d, [])
def diskB (d : Disk) : Bool := inn 1 d.2.2.2 999 && (decide (d.1.length ≤ 20) && (decide (d.2.1.length ≤ 6) && (allN d.1.length (fileBad d) && (allN d.2.1.length (listBad d) && storeB (openS d)))))
structure okD (d : Disk) : Prop where
 w : Wt.w d.2.2.1 ≤ 4194304
 fl : d.1.length ≤ 1048576
 ll : d.2.1.length ≤ 1048576
 f : ∀ f ∈ d.1, Dp.ok f.2 ∧ Wt.w f.2 ≤ 1048576
theorem okD_of {d : Disk} (ok : Dp.ok d) (hw : Wt.w d ≤ 1048576) : okD d := by
 have e : Wt.w d = Wt.w d.1 + (Wt.w d.2.1 + (Wt.w d.2.2.1 + 0)) := rfl
 have l1 : d.1.length ≤ Wt.w d.1 := wL_le
 have l2 : d.2.1.length ≤ Wt.w d.2.1 := wL_le
 refine ⟨by omega, by omega, by omega, fun f hf => ?_⟩
 obtain ⟨i, hi, rfl⟩ := List.mem_iff_getElem.1 hf
 rw [← nth_eq _ i hi]
 have := wL_el (l := d.1) hi
 have e2 : Wt.w (nth d.1 i) = 0 + Wt.w (nth d.1 i).2 := rfl
 exact ⟨(ok.1.2 i hi).2, by omega⟩
theorem postsW_any {names : List (List Tag)} (hw : Wt.w names ≤ 4194304) : postsW (indexP names).2 := by
 obtain ⟨h1, h2, h3⟩ := w_names hw
 have hb := (e_posts names h1 h3 names.length (Nat.le_refl _)).1
 have hp : (indexP names).2.Perm (postsF names names.length) := List.mergeSort_perm _ _
 refine ⟨by rw [hp.length_eq]; have := hb.1; omega, fun k hk => ?_⟩
 have := hb.2 _ (hp.mem_iff.1 (nth_mem hk))
 omega
theorem partsOf_len (d : Disk) : (partsOf d).length = d.2.1.length := List.length_map ..
theorem partsOf_nth (d : Disk) {k : Nat} (hk : k < d.2.1.length) : nth (partsOf d) k = (nth d.1 (atF d (nth d.2.1 k)).toNat).2 := by
 rw [nth_eq _ k (by rw [partsOf_len]; exact hk), nth_eq _ k hk]; exact List.getElem_map ..
theorem okS_open {d : Disk} (h : okD d) (hl : ∀ k, k < d.2.1.length → 0 ≤ atF d (nth d.2.1 k)) : okS (openS d) := by
 refine ⟨h.w, postsW_any h.w, by show (partsOf d).length ≤ _; rw [partsOf_len]; exact h.ll, Nat.zero_le _, fun p hp => ?_⟩
 obtain ⟨k, hk, rfl⟩ := List.mem_iff_getElem.1 (show p ∈ partsOf d from hp)
 have hk2 : k < d.2.1.length := by rw [← partsOf_len]; exact hk
 rw [← nth_eq _ k hk, partsOf_nth d hk2]
 rcases atF_lt (d := d) (num := nth d.2.1 k) with h0 | ⟨j, hj, e⟩
 ·have := hl k hk2; omega
 ·rw [e, Int.toNat_natCast]; exact h.f _ (nth_mem hj)
theorem listBad_at {d : Disk} (h : allN d.2.1.length (listBad d) = true) : ∀ k, k < d.2.1.length → 0 ≤ atF d (nth d.2.1 k) := fun k hk => by
 have := allN_iff.1 h k hk
 unfold listBad at this
 simp only [Bool.or_eq_false_iff, decide_eq_false_iff_not] at this
 omega
theorem fileBad_part {d : Disk} (h : allN d.1.length (fileBad d) = true) : ∀ f ∈ d.1, partOk f.2 = true := fun f hf => by
 obtain ⟨i, hi, rfl⟩ := List.mem_iff_getElem.1 hf
 have := allN_iff.1 h i hi
 rw [← nth_eq _ i hi]
 unfold fileBad at this
 simp only [Bool.or_eq_false_iff, Bool.not_eq_false'] at this
 exact this.2.2
theorem e_impl_open (d : Disk) (h : okD d) (hf : ∀ f ∈ d.1, partOk f.2 = true) (hl : ∀ k, k < d.2.1.length → 0 ≤ atF d (nth d.2.1 k)) : p_impl_Disk_open d = some (openS d) := by
 obtain ⟨h1, h2, h3⟩ := w_names h.w
 have hll := h.ll
 have hfl := h.fl
 have key : lp (p_impl_Disk_open_b0 d) (([] : List Part), 0) = some (partsOf d) := lp_for (body := p_impl_Disk_open_b0 d) (fun k => ((partsOf d).take k, (k : Int))) d.2.1.length (partsOf d) (fun k hk => by
  rcases atF_lt (d := d) (num := nth d.2.1 k) with h0 | ⟨j, hj, e⟩
  ·have := hl k hk; omega
  ·obtain ⟨a, b, c⟩ := partOk_le (hf _ (nth_mem hj))
   have hlt : ((partsOf d).take k).length ≤ k := by rw [List.length_take]; omega
   unfold p_impl_Disk_open_b0
   rw [dlt hk, cond_true, gd.yes (ixN hk)]
   simp only [Int.toNat_natCast]
   rw [bd.yes (e_impl_file d _ hfl), gd.yes (show ix (atF d (nth d.2.1 k)) d.1.length by rw [e]; exact ixN hj), e, Int.toNat_natCast, bd.yes (e_clonePart _ a b c), gd.yes (show room (((partsOf d).take k).length + 1) by unfold room; omega), gd.yes (show I64 ((k : Int) + 1) by unfold I64; omega), take_succ_nth (show k < (partsOf d).length by rw [partsOf_len]; exact hk), partsOf_nth d hk, e, Int.toNat_natCast, addI]) (by
  unfold p_impl_Disk_open_b0
  rw [decide_eq_false (show ¬ ((d.2.1.length : Int) < (d.2.1.length : Int)) by omega), cond_false, ← partsOf_len, List.take_length])
 unfold p_impl_Disk_open
 rw [bd.yes (e_indexOf d.2.2.1 h1 h3), bd.yes key]; rfl
theorem e_l11Of_any (names : List (List Tag)) (h1 : names.length ≤ 4194304) (h2 : ∀ n ∈ names, n.length ≤ 4194304) : p_spec_l11Of names = some (names, allE names 4) := by
 unfold p_spec_l11Of
 have h0 : (([] : List Post), (97 : Int)) = (allE names 0, (97 : Int) + ((0 : Nat) : Int)) := rfl
 rw [h0, bd.yes (lp_for (body := p_spec_l11Of_b0 names) (fun i => (allE names i, (97 : Int) + (i : Int))) 4 (allE names 4) (fun i hi => by
  have hl := allE_len names i
  unfold p_spec_l11Of_b0
  rw [decide_eq_true (show (97 : Int) + (i : Int) ≤ 100 by omega), cond_true, bd.yes (e_rowE names i hi _ (by omega) h1 h2), gd.yes (by unfold I32; omega), allE_succ, show (97 : Int) + (i : Int) + 1 = 97 + ((i + 1 : Nat) : Int) by omega]) (by
  unfold p_spec_l11Of_b0; rw [decide_eq_false (show ¬ ((97 : Int) + ((4 : Nat) : Int) ≤ 100) by omega)]; rfl)), bd.yes (e_spec_l11Names names h1 h2)]
theorem postsW_all {names : List (List Tag)} (h1 : names.length ≤ 4194304) : postsW (allE names 4) := by
 have hl := allE_len names 4
 refine ⟨by omega, fun k hk => ?_⟩
 obtain ⟨i, j, _, _, hp⟩ := allE_mem (nth_mem hk)
 obtain ⟨e1, e2⟩ := cell_mem hp
 rw [e1]
 have := idsN_len names (tg i j) names.length
 show (idsN names (tg i j) names.length).length ≤ _
 omega
theorem e_spec_open (d : Disk) (h : okD d) (hl : ∀ k, k < d.2.1.length → 0 ≤ atF d (nth d.2.1 k)) : p_spec_l21Open d = some ((d.2.2.1, allE d.2.2.1 4), partsOf d, []) := by
 obtain ⟨h1, h2, h3⟩ := w_names h.w
 have hll := h.ll
 have hfl := h.fl
 have key : lp (p_spec_l21Open_b0 d) (([] : List Part), 0) = some (partsOf d) := lp_for (body := p_spec_l21Open_b0 d) (fun k => ((partsOf d).take k, (k : Int))) d.2.1.length (partsOf d) (fun k hk => by
  rcases atF_lt (d := d) (num := nth d.2.1 k) with h0 | ⟨j, hj, e⟩
  ·have := hl k hk; omega
  ·have hlt : ((partsOf d).take k).length ≤ k := by rw [List.length_take]; omega
   unfold p_spec_l21Open_b0
   rw [dlt hk, cond_true, gd.yes (ixN hk)]
   simp only [Int.toNat_natCast]
   rw [bd.yes (e_spec_l21At d _ hfl), gd.yes (show ix (atF d (nth d.2.1 k)) d.1.length by rw [e]; exact ixN hj), e, Int.toNat_natCast, gd.yes (show room (((partsOf d).take k).length + 1) by unfold room; omega), gd.yes (show I64 ((k : Int) + 1) by unfold I64; omega), take_succ_nth (show k < (partsOf d).length by rw [partsOf_len]; exact hk), partsOf_nth d hk, e, Int.toNat_natCast, addI]) (by
  unfold p_spec_l21Open_b0
  rw [decide_eq_false (show ¬ ((d.2.1.length : Int) < (d.2.1.length : Int)) by omega), cond_false, ← partsOf_len, List.take_length])
 unfold p_spec_l21Open
 rw [bd.yes (e_l11Of_any d.2.2.1 h1 (fun n hn => (h2 n hn).1)), bd.yes key]
theorem good_all {names : List (List Tag)} (h : goodN names) : allE names 4 = (indexP names).2 := canon_eq (canon_all h) (canon_posts (goodN_dist h))
theorem namesB_good {names : List (List Tag)} (h : namesB names = true) : goodN names := good_of (x := indexP names) (indexB_P h)
theorem storeB_names {names : List (List Tag)} (P : List Post) (parts : List Part) (mem : List Sample) (h : namesB names = false) : storeB ((names, P), parts, mem) = false := by
 unfold storeB indexB
 rw [show (((names, P), parts, mem) : Store).1.1 = names from rfl, h]; rfl
theorem storeB_all (names : List (List Tag)) (parts : List Part) (mem : List Sample) : storeB ((names, allE names 4), parts, mem) = storeB (indexP names, parts, mem) := by
 cases hb : namesB names with
 | false => rw [storeB_names _ _ _ hb]; exact (storeB_names (indexP names).2 parts mem hb).symm
 | true => rw [good_all (namesB_good hb)]; rfl
theorem place_take (l : List Int) (x : Int) (k : Nat) (hk : k ≤ l.length) : decide (0 ≤ place (l.take k) x) = !allN k (fun j => decide (nth l j = x)) := by
 have hl : (l.take k).length = k := by rw [List.length_take]; omega
 have hn : ∀ j, j < k → nth (l.take k) j = nth l j := fun j hj => by
  rw [nth_eq _ j (by omega), List.getElem_take, ← nth_eq l j (by omega)]
 have ea : allN (l.take k).length (fun j => decide (nth (l.take k) j = x)) = allN k (fun j => decide (nth l j = x)) := by
  rw [hl]
  exact allN_congr fun j hj => by rw [hn j hj]
 cases hc : allN k (fun j => decide (nth l j = x)) with
 | true => rw [place_no (ea.trans hc)]; rfl
 | false =>
  obtain ⟨j, hj, b1, b2⟩ := first_bad (ea.trans hc)
  rw [place_yes hj b1 b2]
  simp
theorem e_Contains (l : List Int) (x : Int) (hl : l.length ≤ 9223372036854775807) : p_slices_Contains_int_int l x = some (decide (0 ≤ place l x)) := by
 unfold p_slices_Contains_int_int
 rw [bd.yes (e_Index l x hl)]
theorem e_impl_files (d : Disk) (h : okD d) (hn : inn 1 d.2.2.2 999 = true) : lp (p_impl_DiskOk_b0 d) 0 = some (if allN d.1.length (fileBad d) then .inl () else .inr false) := by
 have hfl := h.fl
 have hnx : 1 ≤ d.2.2.2 ∧ d.2.2.2 ≤ 999 := by unfold inn at hn; simpa using hn
 have hr : ∀ k, k < d.1.length → p_impl_DiskOk_b0 d (k : Int) = some (if fileBad d k then .inr (.inr false) else .inl ((k + 1 : Nat) : Int)) := fun k hk => by
  have hp := e_impl_PartOk (nth d.1 k).2 (h.f _ (nth_mem hk)).1
  unfold p_impl_DiskOk_b0 fileBad
  rw [dlt hk, cond_true, gd.yes (ixN hk)]
  simp only [Int.toNat_natCast]
  rw [gd.yes (show I64 (d.2.2.2 - 1) by unfold I64; omega), bd.yes (e_impl_within _ _ _), gd.yes (show I64 ((k : Int) + 1) by unfold I64; omega), addI]
  cases inn 1 (nth d.1 k).1 (d.2.2.2 - 1) with
  | false => rfl
  | true =>
   rw [Bool.not_true, cond_false, Bool.false_or]
   by_cases h0 : 0 < k
   ·have e1 : (k : Int) - 1 = ((k - 1 : Nat) : Int) := by omega
    rw [decide_eq_true (show (0 : Int) < (k : Int) by omega), cond_true, decide_eq_true h0, Bool.true_and, gd.yes (show I64 ((k : Int) - 1) by unfold I64; omega), gd.yes (show ix ((k : Int) - 1) d.1.length by unfold ix; omega), e1, Int.toNat_natCast]
    by_cases hq : (nth d.1 k).1 ≤ (nth d.1 (k - 1)).1
    ·rw [decide_eq_true hq]; rfl
    ·rw [decide_eq_false hq, cond_false, Bool.false_or, bd.yes hp]
     cases partOk (nth d.1 k).2 <;> rfl
   ·rw [decide_eq_false (show ¬ (0 : Int) < (k : Int) by omega), cond_false, decide_eq_false h0, Bool.false_and, Bool.false_or, bd.yes hp]
    cases partOk (nth d.1 k).2 <;> rfl
 rcases lp_scan (body := p_impl_DiskOk_b0 d) (fun k => (k : Int)) d.1.length (fileBad d) (.inl ()) (fun _ => .inr false) (fun k hk _ h => by rw [hr k hk, h]; rfl) (fun k hk _ h => by rw [hr k hk, h]; rfl) (fun _ => by unfold p_impl_DiskOk_b0; rw [decide_eq_false (show ¬ ((d.1.length : Int) < (d.1.length : Int)) by omega)]; rfl) with ⟨h1, h2⟩ | ⟨h1, k, _, _, _, h2⟩
 ·rw [show (lp (p_impl_DiskOk_b0 d) 0) = _ from h2, h1]; rfl
 ·rw [show (lp (p_impl_DiskOk_b0 d) 0) = _ from h2, h1]; rfl
theorem e_spec_files (d : Disk) (h : okD d) (hn : inn 1 d.2.2.2 999 = true) : lp (p_spec_DiskOk_b0 d) 0 = some (if allN d.1.length (fileBad d) then .inl () else .inr false) := by
 have hfl := h.fl
 have hnx : 1 ≤ d.2.2.2 ∧ d.2.2.2 ≤ 999 := by unfold inn at hn; simpa using hn
 have hr : ∀ k, k < d.1.length → p_spec_DiskOk_b0 d (k : Int) = some (if fileBad d k then .inr (.inr false) else .inl ((k + 1 : Nat) : Int)) := fun k hk => by
  have hp := e_spec_PartOk (nth d.1 k).2 (h.f _ (nth_mem hk)).1
  unfold p_spec_DiskOk_b0 fileBad
  rw [dlt hk, cond_true, gd.yes (ixN hk)]
  simp only [Int.toNat_natCast]
  rw [gd.yes (show I64 (d.2.2.2 - 1) by unfold I64; omega), bd.yes (e_spec_l6In _ _ _), gd.yes (show I64 ((k : Int) + 1) by unfold I64; omega), addI]
  cases inn 1 (nth d.1 k).1 (d.2.2.2 - 1) with
  | false => rfl
  | true =>
   rw [Bool.not_true, cond_false, Bool.false_or]
   by_cases h0 : 0 < k
   ·have e1 : (k : Int) - 1 = ((k - 1 : Nat) : Int) := by omega
    rw [decide_eq_true (show (0 : Int) < (k : Int) by omega), cond_true, decide_eq_true h0, Bool.true_and, gd.yes (show I64 ((k : Int) - 1) by unfold I64; omega), gd.yes (show ix ((k : Int) - 1) d.1.length by unfold ix; omega), e1, Int.toNat_natCast]
    by_cases hq : (nth d.1 k).1 ≤ (nth d.1 (k - 1)).1
    ·rw [decide_eq_true hq]; rfl
    ·rw [decide_eq_false hq, cond_false, Bool.false_or, bd.yes hp]
     cases partOk (nth d.1 k).2 <;> rfl
   ·rw [decide_eq_false (show ¬ (0 : Int) < (k : Int) by omega), cond_false, decide_eq_false h0, Bool.false_and, Bool.false_or, bd.yes hp]
    cases partOk (nth d.1 k).2 <;> rfl
 rcases lp_scan (body := p_spec_DiskOk_b0 d) (fun k => (k : Int)) d.1.length (fileBad d) (.inl ()) (fun _ => .inr false) (fun k hk _ h => by rw [hr k hk, h]; rfl) (fun k hk _ h => by rw [hr k hk, h]; rfl) (fun _ => by unfold p_spec_DiskOk_b0; rw [decide_eq_false (show ¬ ((d.1.length : Int) < (d.1.length : Int)) by omega)]; rfl) with ⟨h1, h2⟩ | ⟨h1, k, _, _, _, h2⟩
 ·rw [show (lp (p_spec_DiskOk_b0 d) 0) = _ from h2, h1]; rfl
 ·rw [show (lp (p_spec_DiskOk_b0 d) 0) = _ from h2, h1]; rfl
theorem e_impl_list (d : Disk) (h : okD d) : lp (p_impl_DiskOk_b1 d) 0 = some (if allN d.2.1.length (listBad d) then .inl () else .inr false) := by
 have hfl := h.fl
 have hll := h.ll
 have hr : ∀ k, k < d.2.1.length → p_impl_DiskOk_b1 d (k : Int) = some (if listBad d k then .inr (.inr false) else .inl ((k + 1 : Nat) : Int)) := fun k hk => by
  unfold p_impl_DiskOk_b1 listBad
  rw [dlt hk, cond_true, gd.yes (ixN hk)]
  simp only [Int.toNat_natCast]
  rw [bd.yes (e_impl_file d _ hfl), gd.yes (show I64 ((k : Int) + 1) by unfold I64; omega), addI]
  by_cases h0 : atF d (nth d.2.1 k) < 0
  ·rw [decide_eq_true h0]; rfl
  ·rw [decide_eq_false h0, cond_false, Bool.false_or, gd.yes (show sl2 0 (k : Int) d.2.1.length by unfold sl2; omega), List.drop_zero, bd.yes (e_Contains _ _ (by rw [List.length_take]; omega)), place_take _ _ _ (by omega)]
   cases allN k (fun j => decide (nth d.2.1 j = nth d.2.1 k)) <;> rfl
 rcases lp_scan (body := p_impl_DiskOk_b1 d) (fun k => (k : Int)) d.2.1.length (listBad d) (.inl ()) (fun _ => .inr false) (fun k hk _ h => by rw [hr k hk, h]; rfl) (fun k hk _ h => by rw [hr k hk, h]; rfl) (fun _ => by unfold p_impl_DiskOk_b1; rw [decide_eq_false (show ¬ ((d.2.1.length : Int) < (d.2.1.length : Int)) by omega)]; rfl) with ⟨h1, h2⟩ | ⟨h1, k, _, _, _, h2⟩
 ·rw [show (lp (p_impl_DiskOk_b1 d) 0) = _ from h2, h1]; rfl
 ·rw [show (lp (p_impl_DiskOk_b1 d) 0) = _ from h2, h1]; rfl
theorem e_spec_twice (d : Disk) (k : Nat) (hk : k < d.2.1.length) (hll : d.2.1.length ≤ 1048576) : lp (p_spec_DiskOk_b2 d (k : Int)) 0 = some (if allN k (fun j => decide (nth d.2.1 j = nth d.2.1 k)) then .inl () else .inr false) := by
 have hr : ∀ j, j < k → p_spec_DiskOk_b2 d (k : Int) (j : Int) = some (if decide (nth d.2.1 j = nth d.2.1 k) then .inr (.inr false) else .inl ((j + 1 : Nat) : Int)) := fun j hj => by
  unfold p_spec_DiskOk_b2
  rw [decide_eq_true (show (j : Int) < (k : Int) by omega), cond_true, gd.yes (ixN (show j < d.2.1.length by omega))]
  simp only [Int.toNat_natCast]
  rw [gd.yes (show I64 ((j : Int) + 1) by unfold I64; omega), addI]
  cases decide (nth d.2.1 j = nth d.2.1 k) <;> rfl
 rcases lp_scan (body := p_spec_DiskOk_b2 d (k : Int)) (fun j => (j : Int)) k (fun j => decide (nth d.2.1 j = nth d.2.1 k)) (.inl ()) (fun _ => .inr false) (fun k hk _ h => by rw [hr k hk, h]; rfl) (fun k hk _ h => by rw [hr k hk, if_pos h]) (fun _ => by unfold p_spec_DiskOk_b2; rw [decide_eq_false (show ¬ ((k : Int) < (k : Int)) by omega)]; rfl) with ⟨h1, h2⟩ | ⟨h1, _, _, _, _, h2⟩
 ·rw [show (lp (p_spec_DiskOk_b2 d (k : Int)) 0) = _ from h2, h1]; rfl
 ·rw [show (lp (p_spec_DiskOk_b2 d (k : Int)) 0) = _ from h2, h1]; rfl
theorem e_spec_list (d : Disk) (h : okD d) : lp (p_spec_DiskOk_b1 d) 0 = some (if allN d.2.1.length (listBad d) then .inl () else .inr false) := by
 have hfl := h.fl
 have hll := h.ll
 have hr : ∀ k, k < d.2.1.length → p_spec_DiskOk_b1 d (k : Int) = some (if listBad d k then .inr (.inr false) else .inl ((k + 1 : Nat) : Int)) := fun k hk => by
  unfold p_spec_DiskOk_b1 listBad
  rw [dlt hk, cond_true, gd.yes (ixN hk)]
  simp only [Int.toNat_natCast]
  rw [bd.yes (e_spec_l21At d _ hfl), gd.yes (show I64 ((k : Int) + 1) by unfold I64; omega), addI]
  by_cases h0 : atF d (nth d.2.1 k) < 0
  ·rw [decide_eq_true h0]; rfl
  ·rw [decide_eq_false h0, cond_false, Bool.false_or, e_spec_twice d k hk hll]
   cases allN k (fun j => decide (nth d.2.1 j = nth d.2.1 k)) <;> rfl
 rcases lp_scan (body := p_spec_DiskOk_b1 d) (fun k => (k : Int)) d.2.1.length (listBad d) (.inl ()) (fun _ => .inr false) (fun k hk _ h => by rw [hr k hk, h]; rfl) (fun k hk _ h => by rw [hr k hk, h]; rfl) (fun _ => by unfold p_spec_DiskOk_b1; rw [decide_eq_false (show ¬ ((d.2.1.length : Int) < (d.2.1.length : Int)) by omega)]; rfl) with ⟨h1, h2⟩ | ⟨h1, k, _, _, _, h2⟩
 ·rw [show (lp (p_spec_DiskOk_b1 d) 0) = _ from h2, h1]; rfl
 ·rw [show (lp (p_spec_DiskOk_b1 d) 0) = _ from h2, h1]; rfl
theorem e_impl_DiskOk (d : Disk) (h : okD d) : p_impl_DiskOk d = some (diskB d) := by
 unfold p_impl_DiskOk diskB
 rw [bd.yes (e_impl_within _ _ _)]
 cases hn : inn 1 d.2.2.2 999 with
 | false => rfl
 | true =>
  rw [Bool.not_true, cond_false, Bool.true_and]
  by_cases h20 : d.1.length ≤ 20
  ·rw [decide_eq_false (show ¬ (20 : Int) < (d.1.length : Int) by omega), cond_false, decide_eq_true h20, Bool.true_and]
   by_cases h6 : d.2.1.length ≤ 6
   ·rw [decide_eq_false (show ¬ (6 : Int) < (d.2.1.length : Int) by omega), bd_some, cond_false, decide_eq_true h6, Bool.true_and, e_impl_files d h hn]
    cases hf : allN d.1.length (fileBad d) with
    | false => rfl
    | true =>
     rw [if_pos rfl, bd_swl, Bool.true_and, e_impl_list d h]
     cases hl : allN d.2.1.length (listBad d) with
     | false => rfl
     | true =>
      have hat := listBad_at hl
      rw [if_pos rfl, bd_swl, Bool.true_and, bd.yes (e_impl_open d h (fileBad_part hf) hat), bd.yes (e_impl_StoreOk _ (okS_open h hat))]
   ·rw [decide_eq_true (show (6 : Int) < (d.2.1.length : Int) by omega), bd_some, cond_true, decide_eq_false h6]; rfl
  ·rw [decide_eq_true (show (20 : Int) < (d.1.length : Int) by omega), cond_true, decide_eq_false h20]; rfl
theorem e_spec_DiskOk (d : Disk) (h : okD d) : p_spec_DiskOk d = some (diskB d) := by
 unfold p_spec_DiskOk diskB
 rw [bd.yes (e_spec_l6In _ _ _)]
 cases hn : inn 1 d.2.2.2 999 with
 | false => rfl
 | true =>
  rw [Bool.not_true, cond_false, Bool.true_and]
  by_cases h20 : d.1.length ≤ 20
  ·rw [decide_eq_false (show ¬ (20 : Int) < (d.1.length : Int) by omega), cond_false, decide_eq_true h20, Bool.true_and]
   by_cases h6 : d.2.1.length ≤ 6
   ·rw [decide_eq_false (show ¬ (6 : Int) < (d.2.1.length : Int) by omega), cond_false, decide_eq_true h6, Bool.true_and]
    by_cases hm : d.2.2.1.length ≤ 6
    ·rw [decide_eq_false (show ¬ (6 : Int) < (d.2.2.1.length : Int) by omega), bd_some, cond_false, e_spec_files d h hn]
     cases hf : allN d.1.length (fileBad d) with
     | false => rfl
     | true =>
      rw [if_pos rfl, bd_swl, Bool.true_and, e_spec_list d h]
      cases hl : allN d.2.1.length (listBad d) with
      | false => rfl
      | true =>
       have hat := listBad_at hl
       have hok := okS_open h hat
       have hok2 : okS ((d.2.2.1, allE d.2.2.1 4), partsOf d, []) := ⟨h.w, postsW_all (by omega), hok.pl, hok.ml, hok.p⟩
       rw [if_pos rfl, bd_swl, Bool.true_and, bd.yes (e_spec_open d h hat), bd.yes (e_spec_StoreOk _ hok2), storeB_all]; rfl
    ·have hz : storeB (openS d) = false := storeB_names _ _ _ (by unfold namesB; rw [decide_eq_false (show ¬ (d.2.2.1.length : Int) ≤ 6 by omega), Bool.and_false])
     rw [decide_eq_true (show (6 : Int) < (d.2.2.1.length : Int) by omega), bd_some, cond_true, hz, Bool.and_false, Bool.and_false]
   ·rw [decide_eq_true (show (6 : Int) < (d.2.1.length : Int) by omega), cond_true, decide_eq_false h6]; rfl
  ·rw [decide_eq_true (show (20 : Int) < (d.1.length : Int) by omega), cond_true, decide_eq_false h20]; rfl
def openP (d : Disk) : Store := if diskB d then openS d else nilS
theorem diskB_parts {d : Disk} (h : diskB d = true) : inn 1 d.2.2.2 999 = true ∧ d.1.length ≤ 20 ∧ d.2.1.length ≤ 6 ∧ allN d.1.length (fileBad d) = true ∧ allN d.2.1.length (listBad d) = true ∧ storeB (openS d) = true := by
 unfold diskB at h
 simp only [Bool.and_eq_true, decide_eq_true_eq] at h
 exact h
theorem openP_fine (d : Disk) : fineS (openP d) := by
 unfold openP
 cases hb : diskB d with
 | false => exact fine_nil
 | true => exact fine_copy (storeB_good (diskB_parts hb).2.2.2.2.2)
theorem e_impl_DiskOpen (d : Disk) (h : okD d) : p_impl_DiskOpen d = some (openP d) := by
 unfold p_impl_DiskOpen openP
 rw [bd.yes (e_impl_DiskOk d h)]
 cases hb : diskB d with
 | false => rfl
 | true =>
  obtain ⟨_, _, _, hf, hl, _⟩ := diskB_parts hb
  rw [Bool.not_true, cond_false, bd.yes (e_impl_open d h (fileBad_part hf) (listBad_at hl))]; rfl
theorem e_spec_DiskOpen (d : Disk) (h : okD d) : p_spec_DiskOpen d = some (openP d) := by
 unfold p_spec_DiskOpen openP
 rw [bd.yes (e_spec_DiskOk d h)]
 cases hb : diskB d with
 | false => rfl
 | true =>
  obtain ⟨_, _, _, hf, hl, hs⟩ := diskB_parts hb
  have hg := storeB_good hs
  have hgn : goodN d.2.2.1 := good_of hg.i
  have e : ((d.2.2.1, allE d.2.2.1 4), partsOf d, ([] : List Sample)) = openS d := by rw [good_all hgn]; rfl
  rw [Bool.not_true, cond_false, bd.yes (e_spec_open d h (listBad_at hl)), e, bd.yes (e_l13Copy _ hg)]; rfl
theorem e_FnExactDiskOpen (d : Disk) (ok : Dp.ok d) (so : So.so d) : p_laws_FnExactDiskOpen d = some true := by
 unfold p_laws_FnExactDiskOpen
 rw [s_Disk d 1048576 (by omega) (by omega) ok so, bd_some]
 by_cases hc : cut 1048576 (Wt.w d) < 0
 ·simp [hc]
 ·have hw := cut_w hc (by omega)
  have h := okD_of ok hw
  obtain ⟨okr, wr⟩ := openP_fine d
  have n1 : Ct.m Store = 11 := rfl
  have n2 : Ct.m Disk = 8 := rfl
  have c1 := Ct.le d
  have c2 := Ct.le (openP d)
  rw [n2] at c1
  rw [n1] at c2
  obtain ⟨k1, r1, e1, l1, u1, _⟩ := m_Disk d 1 (by omega) (by omega) ok
  obtain ⟨k2, r2, e2, l2, u2, f2⟩ := m_Store (openP d) 1 (by omega) (by omega) okr
  have h1 : ¬ k1 < 0 := by omega
  have h2 : ¬ k2 < 0 := by omega
  simp [hc, t_Disk d ok hw, e_spec_DiskOpen d h, e_impl_DiskOpen d h, q_Store _ _ okr okr, q_Disk d d ok ok, e1, e2, f2, h1, h2]
end Go.Proofs.YtonnpkdadcafcaaGreat
