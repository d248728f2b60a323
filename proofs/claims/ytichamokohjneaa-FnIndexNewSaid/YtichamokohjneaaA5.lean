/- The walks and the plain laws, part 5: each function that the law reaches computes what its plain function tells, and what the plain functions answer. Conditions: lengths that memory can hold. -/
import Derived.Test.YtichamokohjneaaA4
namespace Go.Proofs.Ytichamokohjneaa
open Go Go.Sx
theorem e_spec_names (x : Index) (hw : Wt.w x.1 ≤ 4194304) : lp (p_spec_IndexOk_b0 x) (0, 0) = some (if allN x.1.length (nmBad x.1) then .inl ((sumN x.1.length fun i => (nth x.1 i).length : Nat) : Int) else .inr false) := by
 obtain ⟨h1, h2, h3⟩ := w_names hw
 have inner : ∀ k, k < x.1.length → (∀ i, i < k → nmBad x.1 i = false) → nameOk (nth x.1 k) = true → ∀ s : Int, lp (p_spec_IndexOk_b1 x (s, (k : Int))) 0 = some (if allN k (fun j => decide (nth x.1 j = nth x.1 k)) then .inl () else .inr false) := fun k hk hbs hok s => by
  have hr : ∀ j, j < k → p_spec_IndexOk_b1 x (s, (k : Int)) (j : Int) = some (if decide (nth x.1 j = nth x.1 k) then .inr (.inr false) else .inl ((j + 1 : Nat) : Int)) := fun j hj => by
   have hj2 : j < x.1.length := by omega
   unfold p_spec_IndexOk_b1
   rw [decide_eq_true (show ((j : Int) < (k : Int)) by omega), cond_true]
   simp only [Int.toNat_natCast]
   rw [bd.yes (e_spec_l3Text _ (h2 _ (nth_mem hk)).2), gd.yes (ixN hj2), bd.yes (e_spec_l3Text _ (h2 _ (nth_mem hj2)).2), text_eq hok (nmBad_ok (hbs j hj)), gd.yes (by unfold I64; omega), addI]
   by_cases h : nth x.1 j = nth x.1 k
   ·rw [decide_eq_true h, decide_eq_true h.symm]; rfl
   ·rw [decide_eq_false h, decide_eq_false (fun e => h e.symm)]; rfl
  rcases lp_scan (body := p_spec_IndexOk_b1 x (s, (k : Int))) (fun j => (j : Int)) k (fun j => decide (nth x.1 j = nth x.1 k)) (.inl ()) (fun _ => .inr false) (fun j hj _ h => by rw [hr j hj, h]; rfl) (fun j hj _ h => by rw [hr j hj, h]; rfl) (fun _ => by unfold p_spec_IndexOk_b1; rw [decide_eq_false (show ¬ ((k : Int) < (k : Int)) by omega)]; rfl) with ⟨h1, h2⟩ | ⟨h1, _, _, _, _, h2⟩
  ·rw [show (lp (p_spec_IndexOk_b1 x (s, (k : Int))) 0) = _ from h2, h1]; rfl
  ·rw [show (lp (p_spec_IndexOk_b1 x (s, (k : Int))) 0) = _ from h2, h1]; rfl
 have step : ∀ k, k < x.1.length → (∀ i, i < k → nmBad x.1 i = false) → p_spec_IndexOk_b0 x (((sumN k fun i => (nth x.1 i).length : Nat) : Int), (k : Int)) = some (if nmBad x.1 k then .inr (.inr false) else .inl (((sumN (k + 1) fun i => (nth x.1 i).length : Nat) : Int), ((k + 1 : Nat) : Int))) := fun k hk hbs => by
  have hl := (h2 _ (nth_mem hk)).1
  have hs : (sumN k fun i => (nth x.1 i).length) + (nth x.1 k).length ≤ sumN x.1.length fun i => (nth x.1 i).length := sumN_lt (f := fun i => (nth x.1 i).length) hk
  unfold p_spec_IndexOk_b0 nmBad
  rw [dlt hk, cond_true, gd.yes (ixN hk)]
  simp only [Int.toNat_natCast]
  rw [bd.yes (e_spec_NameOk _ (by unfold maxLen; omega))]
  cases hok : nameOk (nth x.1 k) with
  | false => rfl
  | true =>
   rw [Bool.not_true, cond_false, bd.yes (inner k hk hbs hok _)]
   cases allN k (fun j => decide (nth x.1 j = nth x.1 k)) with
   | false => rfl
   | true =>
    show gd (I64 _) (gd (I64 _) (some _)) = _
    rw [gd.yes (by unfold I64; omega), gd.yes (by unfold I64; omega), addI]
    have : ((sumN k fun i => (nth x.1 i).length : Nat) : Int) + ((nth x.1 k).length : Int) = ((sumN (k + 1) fun i => (nth x.1 i).length : Nat) : Int) := by
     show _ = ((((sumN k fun i => (nth x.1 i).length) + (nth x.1 k).length : Nat)) : Int)
     omega
    rw [this]; rfl
 rcases lp_scan (body := p_spec_IndexOk_b0 x) (fun k => (((sumN k fun i => (nth x.1 i).length : Nat) : Int), (k : Int))) x.1.length (nmBad x.1) (.inl ((sumN x.1.length fun i => (nth x.1 i).length : Nat) : Int)) (fun _ => .inr false) (fun k hk hb h => by rw [step k hk hb, h]; rfl) (fun k hk hb h => by rw [step k hk hb, h]; rfl) (fun _ => by unfold p_spec_IndexOk_b0; rw [decide_eq_false (show ¬ ((x.1.length : Int) < (x.1.length : Int)) by omega)]; rfl) with ⟨h1, h2⟩ | ⟨h1, _, _, _, _, h2⟩
 ·rw [show (lp (p_spec_IndexOk_b0 x) (0, 0)) = _ from h2, h1]; rfl
 ·rw [show (lp (p_spec_IndexOk_b0 x) (0, 0)) = _ from h2, h1]; rfl
theorem e_spec_posts (x : Index) (hw : Wt.w x.1 ≤ 4194304) (hp : postsW x.2) (n0 : Nat) (hn0 : n0 ≤ 4194304) : lp (p_spec_IndexOk_b2 x) ((n0 : Int), 0) = some (if allN x.2.length (locBad x.1 x.2) then .inl ((n0 : Int) - ((sumN x.2.length fun i => (nth x.2 i).2.length : Nat) : Int)) else .inr false) := by
 obtain ⟨h1, h2, h3⟩ := w_names hw
 obtain ⟨p1, p2⟩ := hp
 have hs : ∀ k, k ≤ x.2.length → (sumN k fun i => (nth x.2 i).2.length) ≤ k * 4194304 := by
  intro k
  induction k with
  | zero => intro _; exact Nat.le_refl _
  | succ k ih =>
   intro hk
   have := ih (by omega)
   have h4 := p2 k (by omega)
   show (sumN k fun i => (nth x.2 i).2.length) + (nth x.2 k).2.length ≤ _
   omega
 have step : ∀ k, k < x.2.length → p_spec_IndexOk_b2 x ((n0 : Int) - ((sumN k fun i => (nth x.2 i).2.length : Nat) : Int), (k : Int)) = some (if locBad x.1 x.2 k then .inr (.inr false) else .inl ((n0 : Int) - ((sumN (k + 1) fun i => (nth x.2 i).2.length : Nat) : Int), ((k + 1 : Nat) : Int))) := fun k hk => by
  have hl := p2 k hk
  have hsk := hs k (by omega)
  have hkk : k * 4194304 ≤ 4194304 * 4194304 := Nat.mul_le_mul_right _ (by omega)
  have es : ((n0 : Int) - ((sumN k fun i => (nth x.2 i).2.length : Nat) : Int)) - ((nth x.2 k).2.length : Int) = (n0 : Int) - ((sumN (k + 1) fun i => (nth x.2 i).2.length : Nat) : Int) := by
   show _ = (n0 : Int) - ((((sumN k fun i => (nth x.2 i).2.length) + (nth x.2 k).2.length : Nat)) : Int)
   omega
  have fin : (gd (I64 (((n0 : Int) - ((sumN k fun i => (nth x.2 i).2.length : Nat) : Int)) - ((nth x.2 k).2.length : Int))) <| gd (I64 ((k : Int) + 1)) <| (some (.inl (((n0 : Int) - ((sumN k fun i => (nth x.2 i).2.length : Nat) : Int)) - ((nth x.2 k).2.length : Int), (k : Int) + 1)) : Option ((Int × Int) ⊕ (Int ⊕ Bool)))) = some (.inl ((n0 : Int) - ((sumN (k + 1) fun i => (nth x.2 i).2.length : Nat) : Int), ((k + 1 : Nat) : Int))) := by
   rw [gd.yes (by unfold I64; omega), gd.yes (by unfold I64; omega), es, addI]
  unfold p_spec_IndexOk_b2 locBad
  rw [dlt hk, cond_true, gd.yes (ixN hk)]
  simp only [Int.toNat_natCast]
  by_cases hz : (nth x.2 k).2.length = 0
  ·rw [decide_eq_true (show (((nth x.2 k).2.length : Int) = 0) by omega), decide_eq_true hz]; rfl
  ·rw [decide_eq_false (show ¬ (((nth x.2 k).2.length : Int) = 0) by omega), decide_eq_false hz, cond_false, bd.yes (e_spec_l11Ids x.1 _ h1 (fun n hn => (h2 n hn).1)), bd.yes (e_spec_l11Same _ _ (by unfold maxLen; omega))]
   by_cases hi : (nth x.2 k).2 = idsN x.1 (nth x.2 k).1 x.1.length
   ·rw [decide_eq_true hi, Bool.not_true, cond_false]
    by_cases h0 : 0 < k
    ·have e1 : (k : Int) - 1 = ((k - 1 : Nat) : Int) := by omega
     rw [decide_eq_true (show (0 : Int) < (k : Int) by omega), cond_true, gd.yes (by unfold I64; omega), e1, gd.yes (ixN (show k - 1 < x.2.length by omega))]
     simp only [Int.toNat_natCast]
     rw [bd.yes (e_spec_l11Less _ _), decide_eq_true h0]
     cases ltTag (nth x.2 (k - 1)).1 (nth x.2 k).1 with
     | false => rfl
     | true => exact fin
    ·rw [decide_eq_false (show ¬ (0 : Int) < (k : Int) by omega), cond_false, decide_eq_false h0]
     exact fin
   ·rw [decide_eq_false hi]; rfl
 have e0 : ((n0 : Int), (0 : Int)) = ((n0 : Int) - ((sumN 0 fun i => (nth x.2 i).2.length : Nat) : Int), ((0 : Nat) : Int)) := by
  show _ = ((n0 : Int) - ((0 : Nat) : Int), ((0 : Nat) : Int)); simp
 rcases lp_scan (body := p_spec_IndexOk_b2 x) (fun k => ((n0 : Int) - ((sumN k fun i => (nth x.2 i).2.length : Nat) : Int), (k : Int))) x.2.length (locBad x.1 x.2) (.inl ((n0 : Int) - ((sumN x.2.length fun i => (nth x.2 i).2.length : Nat) : Int))) (fun _ => .inr false) (fun k hk hb h => by rw [step k hk, h]; rfl) (fun k hk hb h => by rw [step k hk, h]; rfl) (fun _ => by unfold p_spec_IndexOk_b2; rw [decide_eq_false (show ¬ ((x.2.length : Int) < (x.2.length : Int)) by omega)]; rfl) with ⟨h1, h2⟩ | ⟨h1, _, _, _, _, h2⟩
 ·rw [e0, h2, h1]; rfl
 ·rw [e0, h2, h1]; rfl
theorem sumL_N (P : List Post) : sumL P = sumN P.length fun i => (nth P i).2.length := by
 have : ∀ m, m ≤ P.length → sumL (P.take m) = sumN m fun i => (nth P i).2.length := by
  intro m
  induction m with
  | zero => intro _; rfl
  | succ m ih =>
   intro hm
   rw [take_succ_nth (by omega), sumL_append, ih (by omega)]
   show _ + ((nth P m).2.length + 0) = _
   rfl
 have h := this P.length (Nat.le_refl _)
 rwa [List.take_length] at h
theorem names_dist {names : List (List Tag)} (h : allN names.length (nmBad names) = true) : dist names := fun n hn => by
 obtain ⟨i, hi, rfl⟩ := List.mem_iff_getElem.1 hn
 rw [← nth_eq names i hi]
 exact nameOk_nodup (nmBad_ok (allN_iff.1 h i hi))
theorem e_spec_IndexOk (x : Index) (hw : Wt.w x.1 ≤ 4194304) (hp : postsW x.2) : p_spec_IndexOk x = some (indexB x) := by
 obtain ⟨h1, h2, h3⟩ := w_names hw
 unfold p_spec_IndexOk indexB namesB
 by_cases h6 : 6 < x.1.length
 ·rw [decide_eq_true (show (6 : Int) < (x.1.length : Int) by omega), cond_true, decide_eq_false (show ¬ ((x.1.length : Int) ≤ 6) by omega), Bool.and_false, Bool.false_and]
 ·rw [decide_eq_false (show ¬ (6 : Int) < (x.1.length : Int) by omega), cond_false, decide_eq_true (show ((x.1.length : Int) ≤ 6) by omega), Bool.and_true, bd.yes (e_spec_names x hw)]
  cases hall : allN x.1.length (nmBad x.1) with
  | false => rfl
  | true =>
   have hd := names_dist hall
   have hC := canon_posts hd
   show bd (lp (p_spec_IndexOk_b2 x) ((sumN x.1.length fun i => (nth x.1 i).length : Nat), 0)) _ = _
   rw [bd.yes (e_spec_posts x hw hp _ h3), Bool.true_and]
   have hsC : sumL (indexP x.1).2 = sumN x.1.length fun i => (nth x.1 i).length := by
    rw [← sumL_posts]
    exact sumL_perm (List.mergeSort_perm _ _)
   have hsP := sumL_N x.2
   cases hloc : allN x.2.length (locBad x.1 x.2) with
   | false =>
    have hne : x.2 ≠ (indexP x.1).2 := fun e => by
     have : allN x.2.length (locBad x.1 x.2) = true := allN_iff.2 fun k hk => by
      have hm : nth x.2 k ∈ (indexP x.1).2 := e ▸ nth_mem hk
      obtain ⟨i1, i2⟩ := hC.ids _ hm
      unfold locBad
      rw [decide_eq_false (fun h0 => i2 (List.eq_nil_of_length_eq_zero h0)), decide_eq_true i1]
      by_cases h0 : 0 < k
      ·have ho := hC.ord
       rw [← e, List.pairwise_iff_getElem] at ho
       have := ho (k - 1) k (by omega) hk (by omega)
       rw [← nth_eq x.2 (k - 1) (by omega), ← nth_eq x.2 k hk] at this
       rw [this]; simp
      ·rw [decide_eq_false h0]; rfl
     rw [hloc] at this; cases this
    rw [decide_eq_false hne]; rfl
   | true =>
    have hk := allN_iff.1 hloc
    have adj : ∀ i, i + 1 < x.2.length → ltTag (nth x.2 i).1 (nth x.2 (i + 1)).1 = true := fun i hi => by
     have := hk (i + 1) hi
     unfold locBad at this
     simp only [Nat.zero_lt_succ, decide_true, Bool.true_and, Nat.add_sub_cancel, Bool.or_eq_false_iff, Bool.not_eq_false'] at this
     exact this.2.2
    have lt : ∀ d i, i + d + 1 < x.2.length → ltTag (nth x.2 i).1 (nth x.2 (i + d + 1)).1 = true := by
     intro d
     induction d with
     | zero => intro i hi; exact adj i hi
     | succ d ih => intro i hi; exact ltTag_trans (ih i (by omega)) (adj (i + d + 1) (by omega))
    have ord : x.2.Pairwise fun a b => ltTag a.1 b.1 = true := by
     rw [List.pairwise_iff_getElem]
     intro i j hi hj hij
     obtain ⟨d, rfl⟩ : ∃ d, j = i + d + 1 := ⟨j - i - 1, by omega⟩
     have := lt d i hj
     rwa [nth_eq x.2 i hi, nth_eq x.2 _ hj] at this
    have ids : ∀ p ∈ x.2, p.2 = idsN x.1 p.1 x.1.length ∧ p.2 ≠ [] := fun p hp' => by
     obtain ⟨i, hi, rfl⟩ := List.mem_iff_getElem.1 hp'
     have := hk i hi
     unfold locBad at this
     simp only [Bool.or_eq_false_iff, decide_eq_false_iff_not, Bool.not_eq_false', decide_eq_true_eq] at this
     rw [nth_eq x.2 i hi] at this
     exact ⟨this.2.1, fun e => this.1 (by rw [e]; rfl)⟩
    show some (decide (((sumN x.1.length fun i => (nth x.1 i).length : Nat) : Int) - ((sumN x.2.length fun i => (nth x.2 i).2.length : Nat) : Int) = 0)) = _
    by_cases hE : x.2 = (indexP x.1).2
    ·have : sumL x.2 = sumL (indexP x.1).2 := by rw [← hE]
     rw [decide_eq_true hE, decide_eq_true (by omega)]
    ·have hne : sumL x.2 ≠ sumL (indexP x.1).2 := fun e => hE (canon_of_sum hC ord ids e)
     rw [decide_eq_false hE, decide_eq_false (by omega)]
theorem w_index {x : Index} (hw : Wt.w x ≤ 1048576) : Wt.w x.1 ≤ 4194304 ∧ postsW x.2 := by
 have e : Wt.w x = Wt.w x.1 + Wt.w x.2 := rfl
 have e2 : Wt.w x.2 = x.2.length + sumN x.2.length fun i => Wt.w (nth x.2 i) := rfl
 refine ⟨by omega, by omega, fun k hk => ?_⟩
 have h1 := sumN_get (f := fun i => Wt.w (nth x.2 i)) hk
 have h2 : Wt.w (nth x.2 k) = Wt.w (nth x.2 k).1 + Wt.w (nth x.2 k).2 := rfl
 have h3 : (nth x.2 k).2.length ≤ Wt.w (nth x.2 k).2 := wL_le
 have h4 : Wt.w (nth x.2 k) ≤ sumN x.2.length fun i => Wt.w (nth x.2 i) := h1
 omega
theorem okI {l : List Int} (h : l.length ≤ 4194304) : Dp.ok l := ⟨by unfold maxLen; omega, fun _ _ => trivial⟩
theorem wtI (l : List Int) : Wt.w l = l.length := by
 show l.length + sumN l.length (fun i => Wt.w (nth l i)) = _
 rw [sumN_zero (f := fun i => Wt.w (nth l i)) fun i _ => rfl]; rfl
theorem indexB_canon {x : Index} (h : indexB x = true) : Canon x.1 x.2 ∧ allN x.1.length (nmBad x.1) = true ∧ x.1.length ≤ 6 ∧ x.2 = (indexP x.1).2 := by
 unfold indexB namesB at h
 simp only [Bool.and_eq_true, decide_eq_true_eq] at h
 obtain ⟨⟨h1, h2⟩, h3⟩ := h
 exact ⟨by rw [h3]; exact canon_posts (names_dist h1), h1, by omega, h3⟩
def tg (i j : Nat) : Tag := (s1 (97 + (i : Int)), s1 (112 + (j : Int)))
def cell (names : List (List Tag)) (i j : Nat) : List Post := if 0 < (idsN names (tg i j) names.length).length then [(tg i j, idsN names (tg i j) names.length)] else []
def rowE (names : List (List Tag)) (i : Nat) : Nat → List Post
 | 0 => []
 | j + 1 => rowE names i j ++ cell names i j
def allE (names : List (List Tag)) : Nat → List Post
 | 0 => []
 | i + 1 => allE names i ++ rowE names i 11
theorem rowE_succ (names : List (List Tag)) (i j : Nat) : rowE names i (j + 1) = rowE names i j ++ cell names i j := rfl
theorem allE_succ (names : List (List Tag)) (i : Nat) : allE names (i + 1) = allE names i ++ rowE names i 11 := rfl
theorem cell_len (names : List (List Tag)) (i j : Nat) : (cell names i j).length ≤ 1 := by unfold cell; split <;> simp
theorem rowE_len (names : List (List Tag)) (i : Nat) : ∀ j, (rowE names i j).length ≤ j
 | 0 => Nat.le_refl _
 | j + 1 => by
  have := rowE_len names i j
  have := cell_len names i j
  rw [rowE_succ, List.length_append]; omega
theorem allE_len (names : List (List Tag)) : ∀ i, (allE names i).length ≤ 11 * i
 | 0 => Nat.le_refl _
 | i + 1 => by
  have := allE_len names i
  have := rowE_len names i 11
  rw [allE_succ, List.length_append]; omega
theorem cell_mem {names : List (List Tag)} {i j : Nat} {p : Post} (h : p ∈ cell names i j) : p = (tg i j, idsN names (tg i j) names.length) ∧ idsN names (tg i j) names.length ≠ [] := by
 unfold cell at h
 split at h
 next hp => exact ⟨List.mem_singleton.1 h, fun e => by rw [e] at hp; cases hp⟩
 next => cases h
theorem rowE_mem {names : List (List Tag)} {i : Nat} {p : Post} : ∀ {j}, p ∈ rowE names i j → ∃ k, k < j ∧ p ∈ cell names i k
 | 0, h => nomatch h
 | j + 1, h => by
  rcases List.mem_append.1 h with h | h
  ·obtain ⟨k, hk, h⟩ := rowE_mem h
   exact ⟨k, by omega, h⟩
  ·exact ⟨j, Nat.lt_succ_self _, h⟩
theorem allE_mem {names : List (List Tag)} {p : Post} : ∀ {i}, p ∈ allE names i → ∃ k j, k < i ∧ j < 11 ∧ p ∈ cell names k j
 | 0, h => nomatch h
 | i + 1, h => by
  rcases List.mem_append.1 h with h | h
  ·obtain ⟨k, j, hk, hj, h⟩ := allE_mem h
   exact ⟨k, j, by omega, hj, h⟩
  ·obtain ⟨j, hj, h⟩ := rowE_mem h
   exact ⟨i, j, Nat.lt_succ_self _, hj, h⟩
theorem rowE_in {names : List (List Tag)} {i k : Nat} {p : Post} (h : p ∈ cell names i k) : ∀ {j}, k < j → p ∈ rowE names i j
 | 0, hk => absurd hk (Nat.not_lt_zero _)
 | j + 1, hk => by
  rw [rowE_succ, List.mem_append]
  by_cases e : k = j
  ·subst e; exact .inr h
  ·exact .inl (rowE_in h (by omega))
theorem allE_in {names : List (List Tag)} {i j : Nat} {p : Post} (hj : j < 11) (h : p ∈ cell names i j) : ∀ {n}, i < n → p ∈ allE names n
 | 0, hk => absurd hk (Nat.not_lt_zero _)
 | n + 1, hk => by
  rw [allE_succ, List.mem_append]
  by_cases e : i = n
  ·subst e; exact .inr (rowE_in h hj)
  ·exact .inl (allE_in hj h (by omega))
theorem s1_lt {a b : Nat} (h : a < b) (hb : b < 128) : sless (s1 (a : Int)) (s1 (b : Int)) = true := by
 show sless ⟨#[UInt8.ofNat a]⟩ ⟨#[UInt8.ofNat b]⟩ = true
 rw [sl_one, decide_eq_true_eq, UInt8.lt_iff_toNat_lt]
 simp only [UInt8.toNat_ofNat']
 omega
theorem tg_lt {i j i' j' : Nat} (_ : i < 4) (_ : j < 11) (hi' : i' < 4) (hj' : j' < 11) (h : i < i' ∨ (i = i' ∧ j < j')) : ltTag (tg i j) (tg i' j') = true := by
 unfold ltTag tg
 rcases h with h | ⟨rfl, h⟩
 ·have := s1_lt (show 97 + i < 97 + i' by omega) (by omega)
  rw [show ((97 + i : Nat) : Int) = 97 + (i : Int) by omega, show ((97 + i' : Nat) : Int) = 97 + (i' : Int) by omega] at this
  rw [this]; rfl
 ·have := s1_lt (show 112 + j < 112 + j' by omega) (by omega)
  rw [show ((112 + j : Nat) : Int) = 112 + (j : Int) by omega, show ((112 + j' : Nat) : Int) = 112 + (j' : Int) by omega] at this
  rw [this]; simp
theorem rowE_ord {names : List (List Tag)} {i : Nat} (hi : i < 4) : ∀ {j}, j ≤ 11 → (rowE names i j).Pairwise fun x y => ltTag x.1 y.1 = true
 | 0, _ => List.Pairwise.nil
 | j + 1, hj => by
  rw [rowE_succ, List.pairwise_append]
  refine ⟨rowE_ord hi (by omega), ?_, fun p hp q hq => ?_⟩
  ·unfold cell; split <;> simp
  ·obtain ⟨k, hk, hp⟩ := rowE_mem hp
   rw [(cell_mem hp).1, (cell_mem hq).1]
   exact tg_lt hi (by omega) hi (by omega) (.inr ⟨rfl, hk⟩)
theorem allE_ord {names : List (List Tag)} : ∀ {i}, i ≤ 4 → (allE names i).Pairwise fun x y => ltTag x.1 y.1 = true
 | 0, _ => List.Pairwise.nil
 | i + 1, hi => by
  rw [allE_succ, List.pairwise_append]
  refine ⟨allE_ord (by omega), rowE_ord (by omega) (Nat.le_refl _), fun p hp q hq => ?_⟩
  obtain ⟨k, j, hk, hj, hp⟩ := allE_mem hp
  obtain ⟨j', hj', hq⟩ := rowE_mem hq
  rw [(cell_mem hp).1, (cell_mem hq).1]
  exact tg_lt (by omega) hj (by omega) hj' (.inl hk)
theorem tg_of {t : Tag} (h : tagB t = true) : ∃ i j, i < 4 ∧ j < 11 ∧ t = tg i j := by
 unfold tagB at h
 simp only [Bool.and_eq_true, decide_eq_true_eq, inn] at h
 obtain ⟨h1, h2, ⟨h3, h4⟩, h5, h6⟩ := h
 refine ⟨(sb t.1 0).toNat - 97, (sb t.2 0).toNat - 112, by omega, by omega, ?_⟩
 have e1 : t.1 = s1 (97 + (((sb t.1 0).toNat - 97 : Nat) : Int)) := by
  have : (97 + (((sb t.1 0).toNat - 97 : Nat) : Int)).toNat = (sb t.1 0).toNat := by omega
  unfold s1
  rw [this, UInt8.ofNat_toNat]
  exact ba_one h1
 have e2 : t.2 = s1 (112 + (((sb t.2 0).toNat - 112 : Nat) : Int)) := by
  have : (112 + (((sb t.2 0).toNat - 112 : Nat) : Int)).toNat = (sb t.2 0).toNat := by omega
  unfold s1
  rw [this, UInt8.ofNat_toNat]
  exact ba_one h2
 exact Prod.ext e1 e2
theorem idsN_name {names : List (List Tag)} {t : Tag} : ∀ {m}, idsN names t m ≠ [] → ∃ k, k < m ∧ t ∈ nth names k
 | 0, h => absurd rfl h
 | m + 1, h => by
  rw [idsN_succ] at h
  cases hc : hasT (nth names m) t with
  | true => exact ⟨m, Nat.lt_succ_self _, hasT_iff.1 hc⟩
  | false =>
   rw [if_neg (by rw [hc]; simp), List.append_nil] at h
   obtain ⟨k, hk, h⟩ := idsN_name h
   exact ⟨k, by omega, h⟩
def goodN (names : List (List Tag)) : Prop := ∀ k, k < names.length → nameOk (nth names k) = true
theorem goodN_dist {names : List (List Tag)} (h : goodN names) : dist names := fun n hn => by
 obtain ⟨i, hi, rfl⟩ := List.mem_iff_getElem.1 hn
 rw [← nth_eq names i hi]
 exact nameOk_nodup (h i hi)
theorem canon_all {names : List (List Tag)} (h : goodN names) : Canon names (allE names 4) := by
 refine ⟨allE_ord (Nat.le_refl _), fun p hp => ?_, fun t ht => ?_⟩
 ·obtain ⟨i, j, _, _, hp⟩ := allE_mem hp
  obtain ⟨e1, e2⟩ := cell_mem hp
  rw [e1]; exact ⟨rfl, e2⟩
 ·obtain ⟨k, hk, hm⟩ := idsN_name ht
  obtain ⟨i, j, hi, hj, rfl⟩ := tg_of (nameOk_tags (h k hk) t hm)
  refine ⟨(tg i j, idsN names (tg i j) names.length), allE_in hj ?_ hi, rfl⟩
  unfold cell
  rw [if_pos (List.length_pos_iff.2 ht)]
  exact List.mem_singleton.2 rfl
theorem e_rowE (names : List (List Tag)) (i : Nat) (hi : i < 4) (acc : List Post) (ha : acc.length ≤ 44) (h1 : names.length ≤ 4194304) (h2 : ∀ n ∈ names, n.length ≤ 4194304) : lp (p_spec_l11Of_b1 names (acc, 97 + (i : Int))) (acc, 112) = some (acc ++ rowE names i 11) := by
 have h0 : (acc, (112 : Int)) = (acc ++ rowE names i 0, (112 : Int) + ((0 : Nat) : Int)) := by rw [show rowE names i 0 = [] from rfl, List.append_nil]; rfl
 rw [h0, lp_for (body := p_spec_l11Of_b1 names (acc, 97 + (i : Int))) (fun j => (acc ++ rowE names i j, (112 : Int) + (j : Int))) 11 (acc ++ rowE names i 11) (fun j hj => by
  have hr := rowE_len names i j
  have ea : (112 : Int) + (j : Int) + 1 = 112 + ((j + 1 : Nat) : Int) := by omega
  unfold p_spec_l11Of_b1
  rw [decide_eq_true (show (112 : Int) + (j : Int) ≤ 122 by omega), cond_true, gd.yes (show asc (97 + (i : Int)) by unfold asc; omega), gd.yes (show asc (112 + (j : Int)) by unfold asc; omega), rowE_succ]
  show bd (p_spec_l11Ids names (tg i j)) _ = _
  rw [bd.yes (e_spec_l11Ids names (tg i j) h1 h2)]
  unfold cell
  by_cases hz : 0 < (idsN names (tg i j) names.length).length
  ·rw [decide_eq_true (show (0 : Int) < ((idsN names (tg i j) names.length).length : Int) by omega), cond_true, if_pos hz, gd.yes (by rw [List.length_append]; unfold room; omega), gd.yes (by unfold I32; omega), List.append_assoc, ea]; rfl
  ·rw [decide_eq_false (show ¬ (0 : Int) < ((idsN names (tg i j) names.length).length : Int) by omega), cond_false, if_neg hz, gd.yes (by unfold I32; omega), List.append_nil, ea]) (by
  unfold p_spec_l11Of_b1; rw [decide_eq_false (show ¬ ((112 : Int) + ((11 : Nat) : Int) ≤ 122) by omega)]; rfl)]
theorem e_spec_l11Of {names : List (List Tag)} (hg : goodN names) (h1 : names.length ≤ 4194304) (h2 : ∀ n ∈ names, n.length ≤ 4194304) : p_spec_l11Of names = some (indexP names) := by
 unfold p_spec_l11Of
 have h0 : (([] : List Post), (97 : Int)) = (allE names 0, (97 : Int) + ((0 : Nat) : Int)) := rfl
 rw [h0, bd.yes (lp_for (body := p_spec_l11Of_b0 names) (fun i => (allE names i, (97 : Int) + (i : Int))) 4 (allE names 4) (fun i hi => by
  have hl := allE_len names i
  unfold p_spec_l11Of_b0
  rw [decide_eq_true (show (97 : Int) + (i : Int) ≤ 100 by omega), cond_true, bd.yes (e_rowE names i hi _ (by omega) h1 h2), gd.yes (by unfold I32; omega), allE_succ, show (97 : Int) + (i : Int) + 1 = 97 + ((i + 1 : Nat) : Int) by omega]) (by
  unfold p_spec_l11Of_b0; rw [decide_eq_false (show ¬ ((97 : Int) + ((4 : Nat) : Int) ≤ 100) by omega)]; rfl)), bd.yes (e_spec_l11Names names h1 h2)]
 have : allE names 4 = (indexP names).2 := canon_eq (canon_all hg) (canon_posts (goodN_dist hg))
 rw [this]; rfl
def numP (names : List (List Tag)) (n : List Tag) : Nat → Nat
 | 0 => 0
 | m + 1 => if numP names n m = 0 then (if nth names m = n then m + 1 else 0) else numP names n m
theorem numP_zero {names : List (List Tag)} {n : List Tag} : ∀ {m}, (∀ k, k < m → nth names k ≠ n) → numP names n m = 0
 | 0, _ => rfl
 | m + 1, h => by
  unfold numP
  rw [if_pos (numP_zero fun k hk => h k (by omega)), if_neg (h m (Nat.lt_succ_self _))]
theorem numP_at {names : List (List Tag)} {n : List Tag} {k : Nat} (h1 : nth names k = n) (h2 : ∀ j, j < k → nth names j ≠ n) : ∀ {m}, k < m → numP names n m = k + 1
 | 0, h => absurd h (Nat.not_lt_zero _)
 | m + 1, h => by
  unfold numP
  by_cases e : k = m
  ·subst e
   rw [if_pos (numP_zero h2), if_pos h1]
  ·have := numP_at h1 h2 (m := m) (by omega)
   rw [this, if_neg (by omega)]
def addP (x : Index) (n : List Tag) : Index × Int × Bool :=
  if indexB x && nameOk n then
    (if 0 < numP x.1 n x.1.length then (indexP x.1, (numP x.1 n x.1.length : Int), true)
     else if x.1.length = 6 then (indexP x.1, 0, false)
     else (indexP (x.1 ++ [n]), (x.1.length : Int) + 1, true))
  else (([], []), 0, false)
theorem good_of {x : Index} (h : indexB x = true) : goodN x.1 := fun k hk => nmBad_ok (allN_iff.1 (indexB_canon h).2.1 k hk)
theorem good_snoc {names : List (List Tag)} {n : List Tag} (h : goodN names) (hn : nameOk n = true) : goodN (names ++ [n]) := fun k hk => by
 rw [List.length_append, List.length_singleton] at hk
 by_cases e : k < names.length
 ·rw [nth_eq _ _ (by rw [List.length_append]; omega), List.getElem_append_left e, ← nth_eq names k e]; exact h k e
 ·have : k = names.length := by omega
  subst this
  rw [nth_eq _ _ (by simp)]; simpa using hn
theorem goodN_len {names : List (List Tag)} (h : goodN names) : ∀ n ∈ names, n.length ≤ 3 := fun n hn => by
 obtain ⟨i, hi, rfl⟩ := List.mem_iff_getElem.1 hn
 rw [← nth_eq names i hi]
 exact (nameOk_len (h i hi)).2
theorem goodN_sum {names : List (List Tag)} (h : goodN names) : sumN names.length (fun i => (nth names i).length) ≤ names.length * 3 := by
 have : ∀ m, m ≤ names.length → sumN m (fun i => (nth names i).length) ≤ m * 3 := by
  intro m
  induction m with
  | zero => intro _; exact Nat.le_refl _
  | succ m ih =>
   intro hm
   have h1 := ih (by omega)
   have h2 := (nameOk_len (h m (by omega))).2
   show sumN m (fun i => (nth names i).length) + (nth names m).length ≤ _
   omega
 exact this _ (Nat.le_refl _)
theorem e_indexOf' {names : List (List Tag)} (h : goodN names) (hl : names.length ≤ 7) : p_impl_indexOf names = some (indexP names) := by
 have := goodN_sum h
 exact e_indexOf names (by omega) (by omega)
theorem e_impl_IndexAdd (x : Index) (n : List Tag) (hw : Wt.w x.1 ≤ 4194304) (hp : postsW x.2) (hn : n.length ≤ 4194304) : p_impl_IndexAdd x n = some (addP x n) := by
 obtain ⟨h1, h2, h3⟩ := w_names hw
 unfold p_impl_IndexAdd addP
 rw [bd.yes (e_impl_IndexOk x hw hp)]
 cases h : indexB x with
 | false => rfl
 | true =>
  have hg := good_of h
  have h6 := (indexB_canon h).2.2.1
  rw [Bool.not_true, cond_false, bd.yes (e_impl_NameOk n (by unfold maxLen; omega)), bd_some]
  cases hok : nameOk n with
  | false => rfl
  | true =>
   rw [Bool.not_true, cond_false]
   show _ = some (if 0 < numP x.1 n x.1.length then (indexP x.1, (numP x.1 n x.1.length : Int), true) else if x.1.length = 6 then (indexP x.1, 0, false) else (indexP (x.1 ++ [n]), (x.1.length : Int) + 1, true))
   rcases e_numberOf x.1 n h1 (fun m hm => (h2 m hm).1) with ⟨k, hk, e1, e2, e3⟩ | ⟨e2, e3⟩
   ·rw [bd.yes e3, numP_at e1 e2 hk, if_pos (Nat.succ_pos _), decide_eq_true (show (0 : Int) < (k : Int) + 1 by omega), cond_true, bd.yes (e_indexOf' hg (by omega)), addI]
   ·rw [bd.yes e3, numP_zero e2, if_neg (Nat.lt_irrefl 0), decide_eq_false (Int.lt_irrefl 0), cond_false]
    by_cases e6 : x.1.length = 6
    ·rw [decide_eq_true (show (x.1.length : Int) = 6 by omega), cond_true, bd.yes (e_indexOf' hg (by omega)), if_pos e6]
    ·rw [decide_eq_false (show ¬ (x.1.length : Int) = 6 by omega), cond_false, gd.yes (by unfold I64; omega), bd.yes (e_impl_cloneNames x.1 h1 (fun m hm => (h2 m hm).1)), gd.yes (by unfold room; omega), bd.yes (e_indexOf' (good_snoc hg hok) (by rw [List.length_append, List.length_singleton]; omega)), if_neg e6]
theorem sumN_c {f : Nat → Nat} {c : Nat} : ∀ {n}, (∀ i, i < n → f i ≤ c) → sumN n f ≤ n * c
 | 0, _ => Nat.zero_le _
 | n + 1, h => by
  have h1 := sumN_c (n := n) fun i hi => h i (by omega)
  have h2 := h n (Nat.lt_succ_self _)
  show sumN n f + f n ≤ _
  rw [Nat.add_mul]; omega
theorem sumL_ne {P : List Post} (h : ∀ p ∈ P, p.2 ≠ []) : P.length ≤ sumL P := by
 induction P with
 | nil => exact Nat.zero_le _
 | cons p P ih =>
  have h1 := ih fun q hq => h q (List.mem_cons_of_mem _ hq)
  have h2 := List.length_pos_iff.2 (h p (List.mem_cons_self ..))
  show P.length + 1 ≤ p.2.length + sumL P
  omega
theorem w_good {n : List Tag} (h : nameOk n = true) : Wt.w n ≤ 9 := by
 have hl := (nameOk_len h).2
 have := sumN_c (f := fun i => (nth n i).1.size + (nth n i).2.size) (c := 2) (n := n.length) fun i hi => by
  have := tagB_one (nameOk_tags h _ (nth_mem hi))
  show (nth n i).1.size + (nth n i).2.size ≤ 2
  rw [this.1, this.2]; exact Nat.le_refl _
 rw [w_name]; omega
theorem okTags (n : List Tag) (h : n.length ≤ 4194304) : Dp.ok n := ⟨by unfold maxLen; omega, fun _ _ => ⟨trivial, trivial⟩⟩
theorem good_index {names : List (List Tag)} (h : goodN names) (hl : names.length ≤ 7) : Dp.ok (indexP names) ∧ Wt.w (indexP names) ≤ 100000 := by
 have hC := canon_posts (goodN_dist h)
 have hs : sumL (indexP names).2 = sumN names.length fun i => (nth names i).length := by
  rw [← sumL_posts]
  exact sumL_perm (List.mergeSort_perm _ _)
 have hs2 := goodN_sum h
 have hle := sumL_ne fun p hp => (hC.ids p hp).2
 have hids : ∀ p ∈ (indexP names).2, p.2.length ≤ 7 := fun p hp => by
  have := idsN_len names p.1 names.length
  rw [(hC.ids p hp).1]; omega
 refine ⟨⟨⟨show names.length ≤ maxLen by unfold maxLen; omega, fun i hi => okTags _ (by have := goodN_len h _ (nth_mem (show i < names.length from hi)); show (nth names i).length ≤ _; omega)⟩, by unfold maxLen; omega, fun i hi => ⟨⟨trivial, trivial⟩, okI (by have := hids _ (nth_mem hi); omega)⟩⟩, ?_⟩
 have e : Wt.w (indexP names) = Wt.w names + Wt.w (indexP names).2 := rfl
 have e1 : Wt.w names = names.length + sumN names.length fun i => Wt.w (nth names i) := rfl
 have e2 : Wt.w (indexP names).2 = (indexP names).2.length + sumN (indexP names).2.length fun i => Wt.w (nth (indexP names).2 i) := rfl
 have b1 := sumN_c (f := fun i => Wt.w (nth names i)) (c := 9) (n := names.length) fun i hi => w_good (h i hi)
 have b2 := sumN_c (f := fun i => Wt.w (nth (indexP names).2 i)) (c := 9) (n := (indexP names).2.length) fun i hi => by
  have hm := nth_mem hi
  obtain ⟨i1, i2⟩ := hC.ids _ hm
  rw [i1] at i2
  obtain ⟨k, hk, ht⟩ := idsN_name i2
  have ho := tagB_one (nameOk_tags (h k hk) _ ht)
  have h7 := hids _ hm
  have ew : Wt.w (nth (indexP names).2 i) = ((nth (indexP names).2 i).1.1.size + (nth (indexP names).2 i).1.2.size) + Wt.w (nth (indexP names).2 i).2 := rfl
  show Wt.w (nth (indexP names).2 i) ≤ 9
  rw [ew, wtI, ho.1, ho.2]; omega
 omega
theorem d_of (b : List UInt8) (p : Int) (l : List ByteArray) (hb : b.length ≤ 2000) (h0 : 0 ≤ p) (h1 : p ≤ 1000000) (hl : 1 ≤ l.length) (hl2 : l.length ≤ 1000) :
  ∃ x, p_spec_l6Rd_of (b, p) l = some (x, p + 1) ∧ x ∈ l := by
 obtain ⟨x, e, a, k⟩ := d_pick b p (l.length : Int) hb h0 h1 (by omega)
 have k := k (by omega)
 have hx : x.toNat < l.length := by omega
 refine ⟨nth l x.toNat, ?_, nth_mem hx⟩
 unfold p_spec_l6Rd_of
 rw [bd.yes e, gd.yes (show ix x l.length by unfold ix; omega)]
theorem d_l71Tag (b : List UInt8) (p : Int) (hb : b.length ≤ 2000) (h0 : 0 ≤ p) (h1 : p + 2 ≤ 1000000) :
  ∃ t : Tag, p_spec_l71Tag (b, p) = some (t, p + 2) ∧ t.1.size = 1 ∧ t.2.size = 1 := by
 obtain ⟨x, e1, m1⟩ := d_of b p [(⟨#[97]⟩ : ByteArray), (⟨#[98]⟩ : ByteArray), (⟨#[99]⟩ : ByteArray)] hb h0 (by omega) (by decide) (by decide)
 obtain ⟨y, e2, m2⟩ := d_of b (p + 1) [(⟨#[112]⟩ : ByteArray), (⟨#[113]⟩ : ByteArray), (⟨#[122]⟩ : ByteArray)] hb (by omega) (by omega) (by decide) (by decide)
 refine ⟨(x, y), ?_, ?_, ?_⟩
 ·unfold p_spec_l71Tag
  rw [bd.yes e1, bd.yes e2, show p + 1 + 1 = p + 2 by omega]
 ·simp only [List.mem_cons, List.not_mem_nil, or_false] at m1
  rcases m1 with rfl | rfl | rfl <;> rfl
 ·simp only [List.mem_cons, List.not_mem_nil, or_false] at m2
  rcases m2 with rfl | rfl | rfl <;> rfl
def smallN (n : List Tag) : Prop := n.length ≤ 5 ∧ ∀ t ∈ n, t.1.size ≤ 2 ∧ t.2.size ≤ 2
theorem smallN_snoc {n : List Tag} {t : Tag} (h : n.length ≤ 4) (h2 : ∀ t ∈ n, t.1.size ≤ 2 ∧ t.2.size ≤ 2) (ht : t.1.size ≤ 2 ∧ t.2.size ≤ 2) : smallN (n ++ [t]) :=
 ⟨by rw [List.length_append, List.length_singleton]; omega, fun u hu => by
  rcases List.mem_append.1 hu with hu | hu
  ·exact h2 u hu
  ·rw [List.mem_singleton.1 hu]; exact ht⟩
theorem smallN_set {n : List Tag} {t : Tag} {k : Nat} (h : n.length ≤ 5) (h2 : ∀ t ∈ n, t.1.size ≤ 2 ∧ t.2.size ≤ 2) (ht : t.1.size ≤ 2 ∧ t.2.size ≤ 2) : smallN (n.set k t) :=
 ⟨by rw [List.length_set]; exact h, fun u hu => by
  rcases List.mem_or_eq_of_mem_set hu with hu | rfl
  ·exact h2 u hu
  ·exact ht⟩
theorem d_nameLoop (b : List UInt8) (hb : b.length ≤ 2000) (q : Int) (p : Int) (h0 : 0 ≤ p) (h1 : p + 10 ≤ 1000000) :
  ∃ n p', lp (p_spec_l71Name_b0 (b, q)) (p, ([] : List Tag), 0) = some (p', n) ∧ p ≤ p' ∧ p' ≤ p + 6 ∧ n.length ≤ 3 ∧ ∀ t ∈ n, t.1.size ≤ 2 ∧ t.2.size ≤ 2 := by
 have key : ∀ r : Nat, r ≤ 3 → ∀ (k : Nat), k + r = 3 → ∀ (p1 : Int) (n : List Tag), 0 ≤ p1 → p1 + 2 * r ≤ 1000000 → n.length ≤ k → (∀ t ∈ n, t.1.size ≤ 2 ∧ t.2.size ≤ 2) →
   ∃ n' p', lp (p_spec_l71Name_b0 (b, q)) (p1, n, (k : Int)) = some (p', n') ∧ p1 ≤ p' ∧ p' ≤ p1 + 2 * r ∧ n'.length ≤ 3 ∧ ∀ t ∈ n', t.1.size ≤ 2 ∧ t.2.size ≤ 2 := by
  intro r
  induction r with
  | zero =>
   intro _ k hk p1 n q0 q1 hn ht
   refine ⟨n, p1, lp.stop ?_, by omega, by omega, by omega, ht⟩
   unfold p_spec_l71Name_b0
   have : k = 3 := by omega
   subst this; rfl
  | succ r ih =>
   intro hr k hk p1 n q0 q1 hn ht
   obtain ⟨x, e1, a1, b1⟩ := d_pick b p1 2 hb q0 (by omega) (by decide)
   obtain ⟨y, e2, m2⟩ := d_of b (p1 + 1) [(⟨#[112]⟩ : ByteArray), (⟨#[113]⟩ : ByteArray), (⟨#[122]⟩ : ByteArray)] hb (by omega) (by omega) (by decide) (by decide)
   have hk3 : k < ([(⟨#[97]⟩ : ByteArray), (⟨#[98]⟩ : ByteArray), (⟨#[99]⟩ : ByteArray)] : List ByteArray).length := by show k < 3; omega
   have hy : y.size ≤ 2 := by
    simp only [List.mem_cons, List.not_mem_nil, or_false] at m2
    rcases m2 with rfl | rfl | rfl <;> decide
   have hx : (nth ([(⟨#[97]⟩ : ByteArray), (⟨#[98]⟩ : ByteArray), (⟨#[99]⟩ : ByteArray)] : List ByteArray) k).size ≤ 2 := by
    have := nth_mem hk3
    simp only [List.mem_cons, List.not_mem_nil, or_false] at this
    rcases this with h | h | h <;> rw [h] <;> decide
   by_cases hz : x = 0
   ·have step : p_spec_l71Name_b0 (b, q) (p1, n, (k : Int)) = some (.inl (p1 + 1 + 1, n ++ [(nth ([(⟨#[97]⟩ : ByteArray), (⟨#[98]⟩ : ByteArray), (⟨#[99]⟩ : ByteArray)] : List ByteArray) k, y)], ((k + 1 : Nat) : Int))) := by
     unfold p_spec_l71Name_b0
     rw [dlt hk3, cond_true, gd.yes (ixN hk3), bd.yes e1, decide_eq_true hz, cond_true, bd.yes e2, gd.yes (show room (n.length + 1) by unfold room; omega), gd.yes (show I64 ((k : Int) + 1) by unfold I64; omega), addI]
     rfl
    rw [lp.step step]
    obtain ⟨n', p', g1, g2, g3, g4, g5⟩ := ih (by omega) (k + 1) (by omega) (p1 + 1 + 1) (n ++ [(nth ([(⟨#[97]⟩ : ByteArray), (⟨#[98]⟩ : ByteArray), (⟨#[99]⟩ : ByteArray)] : List ByteArray) k, y)]) (by omega) (by omega) (by rw [List.length_append, List.length_singleton]; omega) (fun u hu => by
     rcases List.mem_append.1 hu with hu | hu
     ·exact ht u hu
     ·rw [List.mem_singleton.1 hu]; exact ⟨hx, hy⟩)
    exact ⟨n', p', g1, by omega, by omega, g4, g5⟩
   ·have step : p_spec_l71Name_b0 (b, q) (p1, n, (k : Int)) = some (.inl (p1 + 1, n, ((k + 1 : Nat) : Int))) := by
     unfold p_spec_l71Name_b0
     rw [dlt hk3, cond_true, gd.yes (ixN hk3), bd.yes e1, decide_eq_false hz, cond_false, gd.yes (show I64 ((k : Int) + 1) by unfold I64; omega), addI]
    rw [lp.step step]
    obtain ⟨n', p', g1, g2, g3, g4, g5⟩ := ih (by omega) (k + 1) (by omega) (p1 + 1) n (by omega) (by omega) (by omega) ht
    exact ⟨n', p', g1, by omega, by omega, g4, g5⟩
 obtain ⟨n', p', g1, g2, g3, g4, g5⟩ := key 3 (Nat.le_refl _) 0 rfl p [] h0 (by omega) (Nat.zero_le _) (fun _ h => nomatch h)
 exact ⟨n', p', g1, g2, by omega, g4, g5⟩
theorem d_l71Name (b : List UInt8) (p : Int) (hb : b.length ≤ 2000) (h0 : 0 ≤ p) (h1 : p + 16 ≤ 1000000) :
  ∃ n p', p_spec_l71Name (b, p) = some (n, p') ∧ p ≤ p' ∧ p' ≤ p + 16 ∧ smallN n := by
 obtain ⟨n, p1, e, a1, a2, hl, ht⟩ := d_nameLoop b hb p p h0 (by omega)
 have fin : ∀ (m : List Tag) (q : Int), 1 ≤ m.length → m.length ≤ 4 → (∀ t ∈ m, t.1.size ≤ 2 ∧ t.2.size ≤ 2) → 0 ≤ q → q + 8 ≤ 1000000 → ∃ n p', (bd (p_spec_l6Rd_pick (b, q) 40) fun r42 => cond (decide (r42.1 = 0)) (bd (p_spec_l71Tag (b, r42.2)) fun r46 => gd (room (m.length + 1)) <| some (m ++ [r46.1], r46.2)) (cond (decide (r42.1 = 1)) (gd (ix 0 m.length) <| bd (p_spec_l6Rd_of (b, r42.2) ([(⟨#[]⟩ : ByteArray), (⟨#[111]⟩ : ByteArray), (⟨#[112, 112]⟩ : ByteArray)] : List ByteArray)) fun r58 => some (m.set 0 (((nth m 0).1), r58.1), r58.2)) (some (m, r42.2)))) = some (n, p') ∧ q ≤ p' ∧ p' ≤ q + 8 ∧ smallN n := by
  intro m q m1 m2 mt q0 q1
  obtain ⟨x, e1, _, _⟩ := d_pick b q 40 hb q0 (by omega) (by decide)
  rw [bd.yes e1]
  by_cases hx : x = 0
  ·obtain ⟨t, e2, s1, s2⟩ := d_l71Tag b (q + 1) hb (by omega) (by omega)
   rw [decide_eq_true hx, cond_true, bd.yes e2, gd.yes (by unfold room; omega)]
   exact ⟨m ++ [t], _, rfl, by omega, by omega, smallN_snoc m2 mt ⟨by omega, by omega⟩⟩
  ·rw [decide_eq_false hx, cond_false]
   by_cases hx1 : x = 1
   ·obtain ⟨y, e2, m3⟩ := d_of b (q + 1) [(⟨#[]⟩ : ByteArray), (⟨#[111]⟩ : ByteArray), (⟨#[112, 112]⟩ : ByteArray)] hb (by omega) (by omega) (by decide) (by decide)
    have hy : y.size ≤ 2 := by
     simp only [List.mem_cons, List.not_mem_nil, or_false] at m3
     rcases m3 with rfl | rfl | rfl <;> decide
    rw [decide_eq_true hx1, cond_true, gd.yes (by unfold ix; omega), bd.yes e2]
    exact ⟨_, _, rfl, by omega, by omega, smallN_set (by omega) mt ⟨(mt _ (nth_mem (by omega))).1, hy⟩⟩
   ·rw [decide_eq_false hx1, cond_false]
    exact ⟨_, _, rfl, by omega, by omega, by omega, mt⟩
 unfold p_spec_l71Name
 rw [bd.yes e]
 by_cases hz : n.length = 0
 ·obtain ⟨t, e2, s1, s2⟩ := d_l71Tag b p1 hb (by omega) (by omega)
  rw [decide_eq_true (show (n.length : Int) = 0 by omega), cond_true, bd.yes e2, gd.yes (show room (n.length + 1) by unfold room; omega)]
  obtain ⟨n', p', g1, g2, g3, g4⟩ := fin (n ++ [t]) (p1 + 2) (by rw [List.length_append, List.length_singleton]; omega) (by rw [List.length_append, List.length_singleton]; omega) (smallN_snoc (by omega) ht ⟨by omega, by omega⟩).2 (by omega) (by omega)
  exact ⟨n', p', g1, by omega, by omega, g4⟩
 ·rw [decide_eq_false (show ¬ (n.length : Int) = 0 by omega), cond_false]
  obtain ⟨n', p', g1, g2, g3, g4⟩ := fin n p1 (by omega) (by omega) ht (by omega) (by omega)
  exact ⟨n', p', g1, by omega, by omega, g4⟩
theorem smallN_w {n : List Tag} (h : smallN n) : Wt.w n ≤ 25 := by
 have := sumN_c (f := fun i => (nth n i).1.size + (nth n i).2.size) (c := 4) (n := n.length) fun i hi => by
  have := h.2 _ (nth_mem hi)
  show (nth n i).1.size + (nth n i).2.size ≤ 4
  omega
 have := h.1
 rw [w_name]; omega
theorem smallN_good {n : List Tag} (h : nameOk n = true) : smallN n :=
 ⟨by have := (nameOk_len h).2; omega, fun t ht => by have := tagB_one (nameOk_tags h t ht); rw [this.1, this.2]; exact ⟨by decide, by decide⟩⟩
structure smallX (x : Index) : Prop where
 n : x.1.length ≤ 7
 s : ∀ n ∈ x.1, smallN n
 p : x.2.length ≤ 30
 i : ∀ p ∈ x.2, p.2.length ≤ 7
theorem smallNs_w {names : List (List Tag)} (h : names.length ≤ 7) (h2 : ∀ n ∈ names, smallN n) : Wt.w names ≤ 4194304 := by
 have := sumN_c (f := fun i => Wt.w (nth names i)) (c := 25) (n := names.length) fun i hi => smallN_w (h2 _ (nth_mem hi))
 have e : Wt.w names = names.length + sumN names.length fun i => Wt.w (nth names i) := rfl
 omega
theorem smallX_w {x : Index} (h : smallX x) : Wt.w x.1 ≤ 4194304 ∧ postsW x.2 :=
 ⟨smallNs_w h.n h.s, by have := h.p; omega, fun k hk => by have := h.i _ (nth_mem hk); omega⟩
def drawn (names : List (List Tag)) : Prop := goodN names ∧ names.length ≤ 6
theorem drawn_small {names : List (List Tag)} (h : drawn names) : smallX (indexP names) := by
 have hC := canon_posts (goodN_dist h.1)
 have hl := h.2
 have hs : sumL (indexP names).2 = sumN names.length fun i => (nth names i).length := by
  rw [← sumL_posts]
  exact sumL_perm (List.mergeSort_perm _ _)
 have hs2 := goodN_sum h.1
 have hle := sumL_ne fun p hp => (hC.ids p hp).2
 refine ⟨by show names.length ≤ 7; omega, fun n hn => ?_, by omega, fun p hp => ?_⟩
 ·obtain ⟨i, hi, rfl⟩ := List.mem_iff_getElem.1 (show n ∈ names from hn)
  rw [← nth_eq names i hi]
  exact smallN_good (h.1 i hi)
 ·have := idsN_len names p.1 names.length
  rw [(hC.ids p hp).1]; omega
theorem d_l11At (x : Index) (n : List Tag) (hw : Wt.w x.1 ≤ 4194304) (hn : Wt.w n ≤ 4194304) : ∃ r : Int, p_spec_l11At x n = some r ∧ 0 ≤ r := by
 obtain ⟨h1, h2, h3⟩ := w_names hw
 have hr : ∀ k, k < x.1.length → p_spec_l11At_b0 x n (k : Int) = some (if decide (textN (nth x.1 k) = textN n) then .inr (.inr ((k + 1 : Nat) : Int)) else .inl ((k + 1 : Nat) : Int)) := fun k hk => by
  unfold p_spec_l11At_b0
  rw [dlt hk, cond_true, gd.yes (ixN hk)]
  simp only [Int.toNat_natCast]
  rw [bd.yes (e_spec_l3Text _ (h2 _ (nth_mem hk)).2), bd.yes (e_spec_l3Text n hn), addI]
  cases decide (textN (nth x.1 k) = textN n) with
  | true => rw [cond_true, gd.yes (by unfold I64; omega)]; rfl
  | false => rw [cond_false, gd.yes (by unfold I64; omega)]; rfl
 unfold p_spec_l11At
 rcases lp_scan (body := p_spec_l11At_b0 x n) (fun k => (k : Int)) x.1.length (fun k => decide (textN (nth x.1 k) = textN n)) (.inl ()) (fun k => .inr ((k + 1 : Nat) : Int)) (fun k hk _ h => by rw [hr k hk, h]; rfl) (fun k hk _ h => by rw [hr k hk, if_pos h]) (fun _ => by unfold p_spec_l11At_b0; rw [decide_eq_false (show ¬ ((x.1.length : Int) < (x.1.length : Int)) by omega)]; rfl) with ⟨_, a2⟩ | ⟨_, k, _, _, _, a2⟩
 ·rw [show (lp (p_spec_l11At_b0 x n) 0) = _ from a2]; exact ⟨0, rfl, Int.le_refl _⟩
 ·rw [show (lp (p_spec_l11At_b0 x n) 0) = _ from a2]; exact ⟨_, rfl, by omega⟩
theorem d_l11Add {names : List (List Tag)} (h : drawn names) (n : List Tag) (hn : smallN n) : ∃ names' i ok, p_spec_l11Add (indexP names) n = some (indexP names', i, ok) ∧ drawn names' := by
 have hx := drawn_small h
 obtain ⟨hw, _⟩ := smallX_w hx
 have hwn := smallN_w hn
 have hnl := hn.1
 have h6 := h.2
 have hlen := goodN_len h.1
 obtain ⟨r, e, hr⟩ := d_l11At (indexP names) n hw (by omega)
 have ex : (indexP names).1 = names := rfl
 unfold p_spec_l11Add
 rw [bd.yes e]
 by_cases h0 : 0 < r
 ·rw [decide_eq_true h0, cond_true]
  exact ⟨names, r, true, rfl, h⟩
 ·rw [decide_eq_false h0, cond_false, bd.yes (e_spec_NameOk n (by unfold maxLen; omega))]
  cases hok : nameOk n with
  | false => exact ⟨names, 0, false, rfl, h⟩
  | true =>
   rw [Bool.not_true, cond_false, bd_some, ex]
   by_cases e6 : names.length = 6
   ·rw [decide_eq_true (show (6 : Int) ≤ (names.length : Int) by omega), cond_true]
    exact ⟨names, 0, false, rfl, h⟩
   ·have hgs := good_snoc h.1 hok
    have hls : (names ++ [n]).length ≤ 6 := by rw [List.length_append, List.length_singleton]; omega
    rw [decide_eq_false (show ¬ (6 : Int) ≤ (names.length : Int) by omega), cond_false, bd.yes (e_spec_l11Names names (by omega) (fun m hm => by have := hlen m hm; omega)), gd.yes (by rw [List.length_nil]; unfold room; omega), gd.yes (by unfold room; omega), List.nil_append, bd.yes (e_spec_l11Of hgs (by omega) (fun m hm => by have := goodN_len hgs m hm; omega))]
    exact ⟨names ++ [n], _, _, rfl, hgs, hls⟩
theorem indexP_nil : indexP [] = (([], []) : Index) := by
 unfold indexP
 show (([] : List (List Tag)), ([] : List Post).mergeSort leP) = _
 rw [List.mergeSort_nil]
theorem drawn_nil : drawn [] := ⟨fun _ hk => absurd hk (Nat.not_lt_zero _), Nat.zero_le _⟩
theorem d_indexLoop (b : List UInt8) (hb : b.length ≤ 2000) (q : Int) : ∀ (m : Nat), m ≤ 9 → ∀ (p : Int) (names : List (List Tag)), drawn names → 0 ≤ p → p + 16 * m ≤ 1000000 →
  ∃ p' names', lp (p_spec_l71Index_b0 (b, q)) (p, (indexP names).1, (indexP names).2, (m : Int)) = some (p', (indexP names').1, (indexP names').2) ∧ p ≤ p' ∧ p' ≤ p + 16 * m ∧ drawn names' := by
 intro m
 induction m with
 | zero =>
  intro _ p names h h0 h1
  refine ⟨p, names, lp.stop ?_, by omega, by omega, h⟩
  unfold p_spec_l71Index_b0
  rfl
 | succ m ih =>
  intro hm p names h h0 h1
  obtain ⟨n, p1, e1, a1, a2, hs⟩ := d_l71Name b p hb h0 (by omega)
  obtain ⟨names1, i, ok, e2, h2⟩ := d_l11Add h n hs
  have step : p_spec_l71Index_b0 (b, q) (p, (indexP names).1, (indexP names).2, ((m + 1 : Nat) : Int)) = some (.inl (p1, (indexP names1).1, (indexP names1).2, (m : Int))) := by
   unfold p_spec_l71Index_b0
   rw [decide_eq_true (show (0 : Int) < ((m + 1 : Nat) : Int) by omega), cond_true, bd.yes e1, bd.yes e2, gd.yes (show I64 (((m + 1 : Nat) : Int) - 1) by unfold I64; omega), show ((m + 1 : Nat) : Int) - 1 = (m : Int) by omega]
  rw [lp.step step]
  obtain ⟨p', names', g1, g2, g3, g4⟩ := ih (by omega) p1 names1 h2 (by omega) (by omega)
  exact ⟨p', names', g1, by omega, by omega, g4⟩
theorem d_l71Index (b : List UInt8) (p : Int) (hb : b.length ≤ 2000) (h0 : 0 ≤ p) (h1 : p + 200 ≤ 1000000) :
  ∃ x p', p_spec_l71Index (b, p) = some (x, p') ∧ p ≤ p' ∧ p' ≤ p + 200 ∧ smallX x := by
 obtain ⟨m, e1, a1, b1⟩ := d_pick b p 9 hb h0 (by omega) (by decide)
 have b1 := b1 (by decide)
 obtain ⟨p2, names, e2, a2, b2, hd⟩ := d_indexLoop b hb p m.toNat (by omega) (p + 1) [] drawn_nil (by omega) (by omega)
 rw [indexP_nil, show ((m.toNat : Nat) : Int) = m by omega] at e2
 obtain ⟨k, e3, a3, b3⟩ := d_pick b p2 24 hb (by omega) (by omega) (by decide)
 have hx := drawn_small hd
 have hp := hx.p
 have hn6 : (indexP names).1.length ≤ 6 := hd.2
 unfold p_spec_l71Index
 rw [bd.yes (show p_spec_l11New = some (([], []) : Index) from rfl), bd.yes e1, bd.yes e2, bd.yes e3]
 by_cases hk : k = 0
 ·obtain ⟨n, p4, e4, a4, b4, hs⟩ := d_l71Name b (p2 + 1) hb (by omega) (by omega)
  rw [decide_eq_true hk, cond_true, bd.yes e4, gd.yes (show room ((indexP names).1.length + 1) by unfold room; omega)]
  refine ⟨_, _, rfl, by omega, by omega, ⟨?_, fun u hu => ?_, hp, hx.i⟩⟩
  ·show ((indexP names).1 ++ [n]).length ≤ 7
   rw [List.length_append, List.length_singleton]; omega
  ·rcases List.mem_append.1 (show u ∈ (indexP names).1 ++ [n] from hu) with hu | hu
   ·exact hx.s u hu
   ·rw [List.mem_singleton.1 hu]; exact hs
 ·rw [decide_eq_false hk, cond_false]
  by_cases hk1 : k = 1
  ·rw [decide_eq_true hk1, cond_true]
   by_cases hz : 0 < (indexP names).2.length
   ·obtain ⟨i, e4, a4, b4⟩ := d_pick b (p2 + 1) ((indexP names).2.length : Int) hb (by omega) (by omega) (by omega)
    have b4 := b4 (by omega)
    obtain ⟨j, e5, a5, b5⟩ := d_pick b (p2 + 1 + 1) 3 hb (by omega) (by omega) (by decide)
    have b5 := b5 (by decide)
    rw [decide_eq_true (show (0 : Int) < ((indexP names).2.length : Int) by omega), cond_true, bd.yes e4, bd.yes e5, gd.yes (show I64 (1 + j) by unfold I64; omega), gd.yes (show ix i (indexP names).2.length by unfold ix; omega)]
    refine ⟨_, _, rfl, by omega, by omega, ⟨hx.n, hx.s, ?_, fun u hu => ?_⟩⟩
    ·show ((indexP names).2.set _ _).length ≤ 30
     rw [List.length_set]; exact hp
    ·rcases List.mem_or_eq_of_mem_set (show u ∈ (indexP names).2.set _ _ from hu) with hu | rfl
     ·exact hx.i u hu
     ·show ([1 + j] : List Int).length ≤ 7; simp
   ·rw [decide_eq_false (show ¬ (0 : Int) < ((indexP names).2.length : Int) by omega), cond_false]
    exact ⟨_, _, rfl, by omega, by omega, hx⟩
  ·rw [decide_eq_false hk1, cond_false]
   by_cases hk2 : k = 2
   ·rw [decide_eq_true hk2, cond_true]
    by_cases hz : 0 < (indexP names).2.length
    ·rw [decide_eq_true (show (0 : Int) < ((indexP names).2.length : Int) by omega), cond_true, gd.yes (show sl2 1 ((indexP names).2.length : Int) (indexP names).2.length by unfold sl2; omega)]
     refine ⟨_, _, rfl, by omega, by omega, ⟨hx.n, hx.s, ?_, fun u hu => ?_⟩⟩
     ·show ((((indexP names).2.take _).drop 1)).length ≤ 30
      rw [List.length_drop, List.length_take]; omega
     ·exact hx.i u (List.mem_of_mem_take (List.mem_of_mem_drop (show u ∈ ((indexP names).2.take _).drop 1 from hu)))
    ·rw [decide_eq_false (show ¬ (0 : Int) < ((indexP names).2.length : Int) by omega), cond_false]
     exact ⟨_, _, rfl, by omega, by omega, hx⟩
   ·rw [decide_eq_false hk2, cond_false]
    exact ⟨_, _, rfl, by omega, by omega, hx⟩
theorem e_lyNames (a b : List Tag) (ha : a.length ≤ 4194304) : p_laws_lyName a b = some (decide (a = b)) := by
 unfold p_laws_lyName
 by_cases hl : a.length = b.length
 ·have hl2 : (a.length : Int) = (b.length : Int) := by omega
  rw [decide_eq_true hl2, Bool.not_true, cond_false]
  refine eq_loop hl (fun k hk => ?_) ?_
  ·have hk2 : k < b.length := by omega
   unfold p_laws_lyName_b0
   simp only [dlt hk, cond_true, gd.yes (ixN hk), gd.yes (ixN hk2), Int.toNat_natCast, gd.yes (i64S hk (show a.length ≤ 9223372036854775807 by omega))]
   by_cases h : nth a k = nth b k <;> simp [h]
  ·unfold p_laws_lyName_b0; simp
 ·have h2 : ¬ (a.length : Int) = (b.length : Int) := by omega
  have h3 : a ≠ b := fun e => hl (by rw [e])
  simp [h2, h3]
theorem e_lyIntsI (a b : List Int) (ha : a.length ≤ 4194304) : p_laws_lyInts a b = some (decide (a = b)) := by
 unfold p_laws_lyInts
 by_cases hl : a.length = b.length
 ·have hl2 : (a.length : Int) = (b.length : Int) := by omega
  rw [decide_eq_true hl2, Bool.not_true, cond_false]
  refine eq_loop hl (fun k hk => ?_) ?_
  ·have hk2 : k < b.length := by omega
   unfold p_laws_lyInts_b0
   simp only [dlt hk, cond_true, gd.yes (ixN hk), gd.yes (ixN hk2), Int.toNat_natCast, gd.yes (i64S hk (show a.length ≤ 9223372036854775807 by omega))]
   by_cases h : nth a k = nth b k <;> simp [h]
  ·unfold p_laws_lyInts_b0; simp
 ·have h2 : ¬ (a.length : Int) = (b.length : Int) := by omega
  have h3 : a ≠ b := fun e => hl (by rw [e])
  simp [h2, h3]
theorem list_ext_nth {α : Type} [Inhabited α] {a b : List α} (h : a.length = b.length) (h2 : ∀ k, k < a.length → nth a k = nth b k) : a = b :=
 List.ext_getElem h fun k h1 h3 => by rw [← nth_eq a k h1, ← nth_eq b k h3]; exact h2 k h1
theorem e_lyIndex (a b : Index) (hw : Wt.w a.1 ≤ 4194304) (hp : postsW a.2) : p_laws_lyIndex a b = some (decide (a = b)) := by
 obtain ⟨h1, h2, _⟩ := w_names hw
 have hp1 := hp.1
 unfold p_laws_lyIndex
 by_cases hl1 : a.1.length = b.1.length
 ·by_cases hl2 : a.2.length = b.2.length
  ·rw [decide_eq_true (show (a.1.length : Int) = (b.1.length : Int) by omega), Bool.not_true, cond_false, decide_eq_true (show (a.2.length : Int) = (b.2.length : Int) by omega), Bool.not_true, bd_some, cond_false]
   have r0 : ∀ k, k < a.1.length → p_laws_lyIndex_b0 a b (k : Int) = some (if !decide (nth a.1 k = nth b.1 k) then .inr (.inr false) else .inl ((k + 1 : Nat) : Int)) := fun k hk => by
    have hk2 : k < b.1.length := by omega
    unfold p_laws_lyIndex_b0
    rw [dlt hk, cond_true, gd.yes (ixN hk), gd.yes (ixN hk2)]
    simp only [Int.toNat_natCast]
    rw [bd.yes (e_lyNames _ _ (h2 _ (nth_mem hk)).1), gd.yes (i64S hk (show a.1.length ≤ 9223372036854775807 by omega)), addI]
    by_cases h : nth a.1 k = nth b.1 k <;> simp [h]
   have r1 : ∀ k, k < a.2.length → p_laws_lyIndex_b1 a b (k : Int) = some (if !decide (nth a.2 k = nth b.2 k) then .inr (.inr false) else .inl ((k + 1 : Nat) : Int)) := fun k hk => by
    have hk2 : k < b.2.length := by omega
    unfold p_laws_lyIndex_b1
    rw [dlt hk, cond_true, gd.yes (ixN hk), gd.yes (ixN hk2)]
    simp only [Int.toNat_natCast]
    rw [bd.yes (e_lyIntsI _ _ (hp.2 k hk)), gd.yes (i64S hk (show a.2.length ≤ 9223372036854775807 by omega)), addI]
    have ee : (nth a.2 k = nth b.2 k) ↔ ((nth a.2 k).1 = (nth b.2 k).1 ∧ (nth a.2 k).2 = (nth b.2 k).2) := Prod.ext_iff
    by_cases h : (nth a.2 k).1 = (nth b.2 k).1 <;> by_cases h' : (nth a.2 k).2 = (nth b.2 k).2 <;> simp [h, h', ee]
   rcases lp_scan (body := p_laws_lyIndex_b0 a b) (fun k => (k : Int)) a.1.length (fun k => !decide (nth a.1 k = nth b.1 k)) (.inl ()) (fun _ => .inr false) (fun k hk _ h => by rw [r0 k hk, h]; rfl) (fun k hk _ h => by rw [r0 k hk, h]; rfl) (fun _ => by unfold p_laws_lyIndex_b0; simp) with ⟨g1, g2⟩ | ⟨_, k, hk, hb, _, g2⟩
   ·rw [show (lp (p_laws_lyIndex_b0 a b) 0) = _ from g2]
    simp only [bd_some, sw]
    rcases lp_scan (body := p_laws_lyIndex_b1 a b) (fun k => (k : Int)) a.2.length (fun k => !decide (nth a.2 k = nth b.2 k)) (.inl ()) (fun _ => .inr false) (fun k hk _ h => by rw [r1 k hk, h]; rfl) (fun k hk _ h => by rw [r1 k hk, h]; rfl) (fun _ => by unfold p_laws_lyIndex_b1; simp) with ⟨q1, q2⟩ | ⟨_, k, hk, hb, _, q2⟩
    ·rw [show (lp (p_laws_lyIndex_b1 a b) 0) = _ from q2]
     have : a = b := Prod.ext (list_ext_nth hl1 fun k hk => by simpa using allN_iff.1 g1 k hk) (list_ext_nth hl2 fun k hk => by simpa using allN_iff.1 q1 k hk)
     rw [decide_eq_true this]; rfl
    ·rw [show (lp (p_laws_lyIndex_b1 a b) 0) = _ from q2]
     have : a ≠ b := fun e => by rw [e] at hb; simp at hb
     rw [decide_eq_false this]; rfl
   ·rw [show (lp (p_laws_lyIndex_b0 a b) 0) = _ from g2]
    have : a ≠ b := fun e => by rw [e] at hb; simp at hb
    rw [decide_eq_false this]; rfl
  ·have : a ≠ b := fun e => hl2 (by rw [e])
   rw [decide_eq_true (show (a.1.length : Int) = (b.1.length : Int) by omega), Bool.not_true, cond_false, decide_eq_false (show ¬ (a.2.length : Int) = (b.2.length : Int) by omega), decide_eq_false this]; rfl
 ·have : a ≠ b := fun e => hl1 (by rw [e])
  rw [decide_eq_false (show ¬ (a.1.length : Int) = (b.1.length : Int) by omega), decide_eq_false this]; rfl
theorem namesB_of {x : Index} (h : indexB x = true) : namesB x.1 = true := by
 unfold indexB at h
 rw [Bool.and_eq_true] at h
 exact h.1
theorem indexB_P {names : List (List Tag)} (h : namesB names = true) : indexB (indexP names) = true := by
 unfold indexB
 rw [show (indexP names).1 = names from rfl, h, decide_eq_true rfl]; rfl
theorem nth_snoc_lt {names : List (List Tag)} {n : List Tag} {k : Nat} (h : k < names.length) : nth (names ++ [n]) k = nth names k := by
 rw [nth_eq _ _ (by rw [List.length_append]; omega), List.getElem_append_left h, ← nth_eq names k h]
theorem nth_snoc_eq {names : List (List Tag)} {n : List Tag} : nth (names ++ [n]) names.length = n := by
 rw [nth_eq _ _ (by simp)]; simp
theorem namesB_snoc {names : List (List Tag)} {n : List Tag} (h : namesB names = true) (hn : nameOk n = true) (h0 : ∀ k, k < names.length → nth names k ≠ n) (h6 : names.length ≤ 5) : namesB (names ++ [n]) = true := by
 unfold namesB at h ⊢
 rw [Bool.and_eq_true] at h ⊢
 refine ⟨allN_iff.2 fun k hk => ?_, by rw [List.length_append, List.length_singleton]; simp; omega⟩
 rw [List.length_append, List.length_singleton] at hk
 by_cases e : k < names.length
 ·have := allN_iff.1 h.1 k e
  unfold nmBad at this ⊢
  rw [nth_snoc_lt e]
  have hc : (allN k fun j => decide (nth (names ++ [n]) j = nth names k)) = allN k fun j => decide (nth names j = nth names k) := by
   cases hq : (allN k fun j => decide (nth names j = nth names k)) with
   | true => exact allN_iff.2 fun j hj => by rw [nth_snoc_lt (by omega)]; exact allN_iff.1 hq j hj
   | false =>
    obtain ⟨j, hj, hb, _⟩ := first_bad hq
    exact allN_no hj (by rw [nth_snoc_lt (by omega)]; exact hb)
  rw [hc]; exact this
 ·have : k = names.length := by omega
  subst this
  unfold nmBad
  rw [nth_snoc_eq, hn, allN_iff.2 fun j hj => decide_eq_false (by rw [nth_snoc_lt hj]; exact h0 j hj)]; rfl
theorem bd_swl {α β γ : Type} {f : α → Option γ} {g : β → Option γ} {e : α} : bd (some (.inl e)) (sw f g) = f e := rfl
theorem index_self {x : Index} (h : indexB x = true) : indexP x.1 = x := by
 have := (indexB_canon h).2.2.2
 exact Prod.ext rfl this.symm
theorem d_DrawIndexOk (c : List UInt8) : ∃ x : Index, p_spec_DrawIndexOk c = some x ∧ x.1.length ≤ 7 ∧ (∀ n ∈ x.1, smallN n) ∧ Wt.w x.1 ≤ 4194304 ∧ postsW x.2 := by
 obtain ⟨b, e0, hb⟩ := d_l6Open c
 obtain ⟨x, p1, e1, a1, b1, hx⟩ := d_l71Index b 0 hb (by decide) (by decide)
 obtain ⟨w1, w2⟩ := smallX_w hx
 obtain ⟨k, e2, a2, b2⟩ := d_pick b p1 6 hb (by omega) (by omega) (by decide)
 have hp30 := hx.p
 unfold p_spec_DrawIndexOk
 rw [bd.yes e0, bd.yes e1, bd.yes e2]
 by_cases hk : k = 0
 ·obtain ⟨t, e3, s1, s2⟩ := d_l71Tag b (p1 + 1) hb (by omega) (by omega)
  rw [decide_eq_true hk, cond_true, bd.yes e3, gd.yes (show room (x.2.length + 1) by unfold room; omega)]
  refine ⟨_, rfl, hx.n, hx.s, w1, ?_, fun i hi => ?_⟩
  ·show (x.2 ++ [_]).length ≤ _
   rw [List.length_append, List.length_singleton]; omega
  ·rcases List.mem_append.1 (nth_mem (l := x.2 ++ [(t, ([1] : List Int))]) hi) with h | h
   ·have := hx.i _ h
    show (nth (x.2 ++ [(t, ([1] : List Int))]) i).2.length ≤ _
    omega
   ·show (nth (x.2 ++ [(t, ([1] : List Int))]) i).2.length ≤ _
    rw [List.mem_singleton.1 h, List.length_singleton]; omega
 ·rw [decide_eq_false hk, cond_false]
  exact ⟨x, rfl, hx.n, hx.s, w1, w2⟩
theorem namesB_take {names : List (List Tag)} (h : namesB names = true) : ∀ k, k ≤ names.length → namesB (names.take k) = true
 | 0, _ => by unfold namesB; rfl
 | k + 1, hk => by
  have ih := namesB_take h k (by omega)
  have h' := h
  unfold namesB at h'
  simp only [Bool.and_eq_true, decide_eq_true_eq] at h'
  have hb := allN_iff.1 h'.1 k (by omega)
  have hbad := hb
  unfold nmBad at hbad
  simp only [Bool.or_eq_false_iff, Bool.not_eq_false'] at hbad
  rw [take_succ_nth (show k < names.length by omega)]
  refine namesB_snoc ih hbad.1 (fun j hj => ?_) (by rw [List.length_take]; omega)
  rw [List.length_take, Nat.min_eq_left (by omega)] at hj
  have := of_decide_eq_false (allN_iff.1 hbad.2 j hj)
  rw [nth_eq _ j (by rw [List.length_take]; omega), List.getElem_take, ← nth_eq names j (by omega)]
  exact this
theorem in_add {names : List (List Tag)} (h : namesB names = true) {k : Nat} (hk : k < names.length) : addP (indexP (names.take k)) (nth names k) = (indexP (names.take (k + 1)), (k : Int) + 1, true) := by
 have h0 := namesB_take h k (by omega)
 have h' := h
 unfold namesB at h'
 simp only [Bool.and_eq_true, decide_eq_true_eq] at h'
 have hbad := allN_iff.1 h'.1 k hk
 unfold nmBad at hbad
 simp only [Bool.or_eq_false_iff, Bool.not_eq_false'] at hbad
 have hl : (names.take k).length = k := by rw [List.length_take]; omega
 have hz : numP (names.take k) (nth names k) (names.take k).length = 0 := numP_zero fun j hj => by
  rw [hl] at hj
  have := of_decide_eq_false (allN_iff.1 hbad.2 j hj)
  rw [nth_eq _ j (by omega), List.getElem_take, ← nth_eq names j (by omega)]
  exact this
 have e1 : (indexP (names.take k)).1 = names.take k := rfl
 unfold addP
 rw [indexB_P h0, hbad.1, Bool.and_self, if_pos rfl, e1, hz, if_neg (Nat.lt_irrefl 0), hl, if_neg (by omega), ← take_succ_nth hk]
theorem in_loop (x : Index) (h : indexB x = true) (_ : Wt.w x.1 ≤ 4194304) (hs : ∀ n ∈ x.1, smallN n) : lp (p_laws_FnIndexNew_b0 x) (([] : List (List Tag)), ([] : List Post), 0) = some (.inl x) := by
 have hB := namesB_of h
 have hself := index_self h
 have hC := indexB_canon h
 have h6 := hC.2.2.1
 have hg := good_of h
 have e0 : indexP (x.1.take 0) = (([], []) : Index) := by rw [List.take_zero, indexP_nil]
 have := lp_for (body := p_laws_FnIndexNew_b0 x) (fun k => ((indexP (x.1.take k)).1, (indexP (x.1.take k)).2, (k : Int))) x.1.length (.inl x) (fun k hk => by
  have hgt : goodN (x.1.take k) := good_of (indexB_P (namesB_take hB k (by omega)))
  have hlt : (x.1.take k).length ≤ 7 := by rw [List.length_take]; omega
  obtain ⟨okx, wx⟩ := good_index hgt hlt
  obtain ⟨wa, wb⟩ := w_index (x := indexP (x.1.take k)) (by omega)
  have hn5 := (hs _ (nth_mem hk)).1
  have ea : p_impl_IndexAdd ((indexP (x.1.take k)).1, (indexP (x.1.take k)).2) (nth x.1 k) = some (indexP (x.1.take (k + 1)), (k : Int) + 1, true) := by
   rw [show ((indexP (x.1.take k)).1, (indexP (x.1.take k)).2) = indexP (x.1.take k) from rfl, e_impl_IndexAdd _ _ wa wb (by omega), in_add hB hk]
  have hI : I64 ((k : Int) + 1) := by unfold I64; omega
  unfold p_laws_FnIndexNew_b0
  rw [dlt hk, cond_true, gd.yes (ixN hk)]
  simp only [Int.toNat_natCast]
  rw [bd.yes ea, Bool.not_true, cond_false, gd.yes hI, decide_eq_true rfl, Bool.not_true, bd_some, cond_false, gd.yes hI, addI]) (by
  unfold p_laws_FnIndexNew_b0
  rw [decide_eq_false (show ¬ ((x.1.length : Int) < (x.1.length : Int)) by omega), cond_false, List.take_length, hself])
 simp only [e0] at this
 exact this
theorem indexB_nil : indexB (([], []) : Index) = true := by rw [← indexP_nil]; exact indexB_P (by unfold namesB; rfl)
theorem e_FnIndexNew (c : List UInt8) (_ : Dp.ok c) : p_laws_FnIndexNew c = some true := by
 unfold p_laws_FnIndexNew
 by_cases hc : (1048576 : Int) < (c.length : Int)
 ·rw [decide_eq_true hc]; rfl
 ·obtain ⟨x, e, hn, hs, w1, w2⟩ := d_DrawIndexOk c
  have e1 := e_impl_IndexOk x w1 w2
  have e2 := e_spec_IndexOk x w1 w2
  have e3 : p_impl_IndexOk (([], []) : Index) = some true := by
   rw [e_impl_IndexOk _ (by decide) ⟨Nat.zero_le _, fun k hk => absurd hk (Nat.not_lt_zero _)⟩, indexB_nil]
  rw [decide_eq_false hc, cond_false, bd.yes e, bd.yes e1, bd.yes e2, decide_eq_true rfl, Bool.not_true, cond_false, bd_some]
  cases h : indexB x with
  | false => rw [Bool.not_false, cond_true, bd.yes e2, h]; rfl
  | true =>
   rw [Bool.not_true, cond_false, in_loop x h w1 hs, bd_swl, bd.yes (e_lyIndex x x w1 w2), decide_eq_true rfl, cond_true, bd.yes e3, bd_some]
end Go.Proofs.Ytichamokohjneaa
