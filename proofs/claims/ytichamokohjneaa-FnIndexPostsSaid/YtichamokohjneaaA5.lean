/- The walks and the plain laws, part 5: each function that the law reaches computes what its plain function tells, and what the plain functions answer. Conditions: lengths that memory can hold. -/
import Derived.Test.YtichamokohjneaaA4
namespace Go.Proofs.Ytichamokohjneaa
open Go Go.Sx
theorem tg_lt {i j i' j' : Nat} (_ : i < 4) (_ : j < 11) (hi' : i' < 4) (hj' : j' < 11) (h : i < i' ∨ (i = i' ∧ j < j')) : ltTag (tg i j) (tg i' j') = true := by
 unfold ltTag tg
 rcases h with h | ⟨rfl, h⟩
 ·have := s1_lt (show 97 + i < 97 + i' by omega) (by omega)
  rw [show ((97 + i : Nat) : Int) = 97 + (i : Int) by omega, show ((97 + i' : Nat) : Int) = 97 + (i' : Int) by omega] at this
  rw [this]; rfl
 ·have := s1_lt (show 112 + j < 112 + j' by omega) (by omega)
  rw [show ((112 + j : Nat) : Int) = 112 + (j : Int) by omega, show ((112 + j' : Nat) : Int) = 112 + (j' : Int) by omega] at this
  rw [this]; simp
theorem rowE_ord {names : List (List Tag)} {i : Nat} (hi : i < 4) : ∀ {j}, j ≤ 11 → (rowE names i j).Pairwise fun x y => ltTag x.1 y.1 = true
 | 0, _ => List.Pairwise.nil
 | j + 1, hj => by
  rw [rowE_succ, List.pairwise_append]
  refine ⟨rowE_ord hi (by omega), ?_, fun p hp q hq => ?_⟩
  ·unfold cell; split <;> simp
  ·obtain ⟨k, hk, hp⟩ := rowE_mem hp
   rw [(cell_mem hp).1, (cell_mem hq).1]
   exact tg_lt hi (by omega) hi (by omega) (.inr ⟨rfl, hk⟩)
theorem allE_ord {names : List (List Tag)} : ∀ {i}, i ≤ 4 → (allE names i).Pairwise fun x y => ltTag x.1 y.1 = true
 | 0, _ => List.Pairwise.nil
 | i + 1, hi => by
  rw [allE_succ, List.pairwise_append]
  refine ⟨allE_ord (by omega), rowE_ord (by omega) (Nat.le_refl _), fun p hp q hq => ?_⟩
  obtain ⟨k, j, hk, hj, hp⟩ := allE_mem hp
  obtain ⟨j', hj', hq⟩ := rowE_mem hq
  rw [(cell_mem hp).1, (cell_mem hq).1]
  exact tg_lt (by omega) hj (by omega) hj' (.inl hk)
theorem tg_of {t : Tag} (h : tagB t = true) : ∃ i j, i < 4 ∧ j < 11 ∧ t = tg i j := by
 unfold tagB at h
 simp only [Bool.and_eq_true, decide_eq_true_eq, inn] at h
 obtain ⟨h1, h2, ⟨h3, h4⟩, h5, h6⟩ := h
 refine ⟨(sb t.1 0).toNat - 97, (sb t.2 0).toNat - 112, by omega, by omega, ?_⟩
 have e1 : t.1 = s1 (97 + (((sb t.1 0).toNat - 97 : Nat) : Int)) := by
  have : (97 + (((sb t.1 0).toNat - 97 : Nat) : Int)).toNat = (sb t.1 0).toNat := by omega
  unfold s1
  rw [this, UInt8.ofNat_toNat]
  exact ba_one h1
 have e2 : t.2 = s1 (112 + (((sb t.2 0).toNat - 112 : Nat) : Int)) := by
  have : (112 + (((sb t.2 0).toNat - 112 : Nat) : Int)).toNat = (sb t.2 0).toNat := by omega
  unfold s1
  rw [this, UInt8.ofNat_toNat]
  exact ba_one h2
 exact Prod.ext e1 e2
theorem idsN_name {names : List (List Tag)} {t : Tag} : ∀ {m}, idsN names t m ≠ [] → ∃ k, k < m ∧ t ∈ nth names k
 | 0, h => absurd rfl h
 | m + 1, h => by
  rw [idsN_succ] at h
  cases hc : hasT (nth names m) t with
  | true => exact ⟨m, Nat.lt_succ_self _, hasT_iff.1 hc⟩
  | false =>
   rw [if_neg (by rw [hc]; simp), List.append_nil] at h
   obtain ⟨k, hk, h⟩ := idsN_name h
   exact ⟨k, by omega, h⟩
def goodN (names : List (List Tag)) : Prop := ∀ k, k < names.length → nameOk (nth names k) = true
theorem goodN_dist {names : List (List Tag)} (h : goodN names) : dist names := fun n hn => by
 obtain ⟨i, hi, rfl⟩ := List.mem_iff_getElem.1 hn
 rw [← nth_eq names i hi]
 exact nameOk_nodup (h i hi)
theorem canon_all {names : List (List Tag)} (h : goodN names) : Canon names (allE names 4) := by
 refine ⟨allE_ord (Nat.le_refl _), fun p hp => ?_, fun t ht => ?_⟩
 ·obtain ⟨i, j, _, _, hp⟩ := allE_mem hp
  obtain ⟨e1, e2⟩ := cell_mem hp
  rw [e1]; exact ⟨rfl, e2⟩
 ·obtain ⟨k, hk, hm⟩ := idsN_name ht
  obtain ⟨i, j, hi, hj, rfl⟩ := tg_of (nameOk_tags (h k hk) t hm)
  refine ⟨(tg i j, idsN names (tg i j) names.length), allE_in hj ?_ hi, rfl⟩
  unfold cell
  rw [if_pos (List.length_pos_iff.2 ht)]
  exact List.mem_singleton.2 rfl
theorem e_rowE (names : List (List Tag)) (i : Nat) (hi : i < 4) (acc : List Post) (ha : acc.length ≤ 44) (h1 : names.length ≤ 4194304) (h2 : ∀ n ∈ names, n.length ≤ 4194304) : lp (p_spec_l11Of_b1 names (acc, 97 + (i : Int))) (acc, 112) = some (acc ++ rowE names i 11) := by
 have h0 : (acc, (112 : Int)) = (acc ++ rowE names i 0, (112 : Int) + ((0 : Nat) : Int)) := by rw [show rowE names i 0 = [] from rfl, List.append_nil]; rfl
 rw [h0, lp_for (body := p_spec_l11Of_b1 names (acc, 97 + (i : Int))) (fun j => (acc ++ rowE names i j, (112 : Int) + (j : Int))) 11 (acc ++ rowE names i 11) (fun j hj => by
  have hr := rowE_len names i j
  have ea : (112 : Int) + (j : Int) + 1 = 112 + ((j + 1 : Nat) : Int) := by omega
  unfold p_spec_l11Of_b1
  rw [decide_eq_true (show (112 : Int) + (j : Int) ≤ 122 by omega), cond_true, gd.yes (show asc (97 + (i : Int)) by unfold asc; omega), gd.yes (show asc (112 + (j : Int)) by unfold asc; omega), rowE_succ]
  show bd (p_spec_l11Ids names (tg i j)) _ = _
  rw [bd.yes (e_spec_l11Ids names (tg i j) h1 h2)]
  unfold cell
  by_cases hz : 0 < (idsN names (tg i j) names.length).length
  ·rw [decide_eq_true (show (0 : Int) < ((idsN names (tg i j) names.length).length : Int) by omega), cond_true, if_pos hz, gd.yes (by rw [List.length_append]; unfold room; omega), gd.yes (by unfold I32; omega), List.append_assoc, ea]; rfl
  ·rw [decide_eq_false (show ¬ (0 : Int) < ((idsN names (tg i j) names.length).length : Int) by omega), cond_false, if_neg hz, gd.yes (by unfold I32; omega), List.append_nil, ea]) (by
  unfold p_spec_l11Of_b1; rw [decide_eq_false (show ¬ ((112 : Int) + ((11 : Nat) : Int) ≤ 122) by omega)]; rfl)]
theorem e_spec_l11Of {names : List (List Tag)} (hg : goodN names) (h1 : names.length ≤ 4194304) (h2 : ∀ n ∈ names, n.length ≤ 4194304) : p_spec_l11Of names = some (indexP names) := by
 unfold p_spec_l11Of
 have h0 : (([] : List Post), (97 : Int)) = (allE names 0, (97 : Int) + ((0 : Nat) : Int)) := rfl
 rw [h0, bd.yes (lp_for (body := p_spec_l11Of_b0 names) (fun i => (allE names i, (97 : Int) + (i : Int))) 4 (allE names 4) (fun i hi => by
  have hl := allE_len names i
  unfold p_spec_l11Of_b0
  rw [decide_eq_true (show (97 : Int) + (i : Int) ≤ 100 by omega), cond_true, bd.yes (e_rowE names i hi _ (by omega) h1 h2), gd.yes (by unfold I32; omega), allE_succ, show (97 : Int) + (i : Int) + 1 = 97 + ((i + 1 : Nat) : Int) by omega]) (by
  unfold p_spec_l11Of_b0; rw [decide_eq_false (show ¬ ((97 : Int) + ((4 : Nat) : Int) ≤ 100) by omega)]; rfl)), bd.yes (e_spec_l11Names names h1 h2)]
 have : allE names 4 = (indexP names).2 := canon_eq (canon_all hg) (canon_posts (goodN_dist hg))
 rw [this]; rfl
theorem good_snoc {names : List (List Tag)} {n : List Tag} (h : goodN names) (hn : nameOk n = true) : goodN (names ++ [n]) := fun k hk => by
 rw [List.length_append, List.length_singleton] at hk
 by_cases e : k < names.length
 ·rw [nth_eq _ _ (by rw [List.length_append]; omega), List.getElem_append_left e, ← nth_eq names k e]; exact h k e
 ·have : k = names.length := by omega
  subst this
  rw [nth_eq _ _ (by simp)]; simpa using hn
theorem goodN_len {names : List (List Tag)} (h : goodN names) : ∀ n ∈ names, n.length ≤ 3 := fun n hn => by
 obtain ⟨i, hi, rfl⟩ := List.mem_iff_getElem.1 hn
 rw [← nth_eq names i hi]
 exact (nameOk_len (h i hi)).2
theorem goodN_sum {names : List (List Tag)} (h : goodN names) : sumN names.length (fun i => (nth names i).length) ≤ names.length * 3 := by
 have : ∀ m, m ≤ names.length → sumN m (fun i => (nth names i).length) ≤ m * 3 := by
  intro m
  induction m with
  | zero => intro _; exact Nat.le_refl _
  | succ m ih =>
   intro hm
   have h1 := ih (by omega)
   have h2 := (nameOk_len (h m (by omega))).2
   show sumN m (fun i => (nth names i).length) + (nth names m).length ≤ _
   omega
 exact this _ (Nat.le_refl _)
theorem sumN_c {f : Nat → Nat} {c : Nat} : ∀ {n}, (∀ i, i < n → f i ≤ c) → sumN n f ≤ n * c
 | 0, _ => Nat.zero_le _
 | n + 1, h => by
  have h1 := sumN_c (n := n) fun i hi => h i (by omega)
  have h2 := h n (Nat.lt_succ_self _)
  show sumN n f + f n ≤ _
  rw [Nat.add_mul]; omega
theorem sumL_ne {P : List Post} (h : ∀ p ∈ P, p.2 ≠ []) : P.length ≤ sumL P := by
 induction P with
 | nil => exact Nat.zero_le _
 | cons p P ih =>
  have h1 := ih fun q hq => h q (List.mem_cons_of_mem _ hq)
  have h2 := List.length_pos_iff.2 (h p (List.mem_cons_self ..))
  show P.length + 1 ≤ p.2.length + sumL P
  omega
theorem d_of (b : List UInt8) (p : Int) (l : List ByteArray) (hb : b.length ≤ 2000) (h0 : 0 ≤ p) (h1 : p ≤ 1000000) (hl : 1 ≤ l.length) (hl2 : l.length ≤ 1000) :
  ∃ x, p_spec_l6Rd_of (b, p) l = some (x, p + 1) ∧ x ∈ l := by
 obtain ⟨x, e, a, k⟩ := d_pick b p (l.length : Int) hb h0 h1 (by omega)
 have k := k (by omega)
 have hx : x.toNat < l.length := by omega
 refine ⟨nth l x.toNat, ?_, nth_mem hx⟩
 unfold p_spec_l6Rd_of
 rw [bd.yes e, gd.yes (show ix x l.length by unfold ix; omega)]
theorem d_l71Tag (b : List UInt8) (p : Int) (hb : b.length ≤ 2000) (h0 : 0 ≤ p) (h1 : p + 2 ≤ 1000000) :
  ∃ t : Tag, p_spec_l71Tag (b, p) = some (t, p + 2) ∧ t.1.size = 1 ∧ t.2.size = 1 := by
 obtain ⟨x, e1, m1⟩ := d_of b p [(⟨#[97]⟩ : ByteArray), (⟨#[98]⟩ : ByteArray), (⟨#[99]⟩ : ByteArray)] hb h0 (by omega) (by decide) (by decide)
 obtain ⟨y, e2, m2⟩ := d_of b (p + 1) [(⟨#[112]⟩ : ByteArray), (⟨#[113]⟩ : ByteArray), (⟨#[122]⟩ : ByteArray)] hb (by omega) (by omega) (by decide) (by decide)
 refine ⟨(x, y), ?_, ?_, ?_⟩
 ·unfold p_spec_l71Tag
  rw [bd.yes e1, bd.yes e2, show p + 1 + 1 = p + 2 by omega]
 ·simp only [List.mem_cons, List.not_mem_nil, or_false] at m1
  rcases m1 with rfl | rfl | rfl <;> rfl
 ·simp only [List.mem_cons, List.not_mem_nil, or_false] at m2
  rcases m2 with rfl | rfl | rfl <;> rfl
def smallN (n : List Tag) : Prop := n.length ≤ 5 ∧ ∀ t ∈ n, t.1.size ≤ 2 ∧ t.2.size ≤ 2
theorem smallN_snoc {n : List Tag} {t : Tag} (h : n.length ≤ 4) (h2 : ∀ t ∈ n, t.1.size ≤ 2 ∧ t.2.size ≤ 2) (ht : t.1.size ≤ 2 ∧ t.2.size ≤ 2) : smallN (n ++ [t]) :=
 ⟨by rw [List.length_append, List.length_singleton]; omega, fun u hu => by
  rcases List.mem_append.1 hu with hu | hu
  ·exact h2 u hu
  ·rw [List.mem_singleton.1 hu]; exact ht⟩
theorem smallN_set {n : List Tag} {t : Tag} {k : Nat} (h : n.length ≤ 5) (h2 : ∀ t ∈ n, t.1.size ≤ 2 ∧ t.2.size ≤ 2) (ht : t.1.size ≤ 2 ∧ t.2.size ≤ 2) : smallN (n.set k t) :=
 ⟨by rw [List.length_set]; exact h, fun u hu => by
  rcases List.mem_or_eq_of_mem_set hu with hu | rfl
  ·exact h2 u hu
  ·exact ht⟩
theorem d_nameLoop (b : List UInt8) (hb : b.length ≤ 2000) (q : Int) (p : Int) (h0 : 0 ≤ p) (h1 : p + 10 ≤ 1000000) :
  ∃ n p', lp (p_spec_l71Name_b0 (b, q)) (p, ([] : List Tag), 0) = some (p', n) ∧ p ≤ p' ∧ p' ≤ p + 6 ∧ n.length ≤ 3 ∧ ∀ t ∈ n, t.1.size ≤ 2 ∧ t.2.size ≤ 2 := by
 have key : ∀ r : Nat, r ≤ 3 → ∀ (k : Nat), k + r = 3 → ∀ (p1 : Int) (n : List Tag), 0 ≤ p1 → p1 + 2 * r ≤ 1000000 → n.length ≤ k → (∀ t ∈ n, t.1.size ≤ 2 ∧ t.2.size ≤ 2) →
   ∃ n' p', lp (p_spec_l71Name_b0 (b, q)) (p1, n, (k : Int)) = some (p', n') ∧ p1 ≤ p' ∧ p' ≤ p1 + 2 * r ∧ n'.length ≤ 3 ∧ ∀ t ∈ n', t.1.size ≤ 2 ∧ t.2.size ≤ 2 := by
  intro r
  induction r with
  | zero =>
   intro _ k hk p1 n q0 q1 hn ht
   refine ⟨n, p1, lp.stop ?_, by omega, by omega, by omega, ht⟩
   unfold p_spec_l71Name_b0
   have : k = 3 := by omega
   subst this; rfl
  | succ r ih =>
   intro hr k hk p1 n q0 q1 hn ht
   obtain ⟨x, e1, a1, b1⟩ := d_pick b p1 2 hb q0 (by omega) (by decide)
   obtain ⟨y, e2, m2⟩ := d_of b (p1 + 1) [(⟨#[112]⟩ : ByteArray), (⟨#[113]⟩ : ByteArray), (⟨#[122]⟩ : ByteArray)] hb (by omega) (by omega) (by decide) (by decide)
   have hk3 : k < ([(⟨#[97]⟩ : ByteArray), (⟨#[98]⟩ : ByteArray), (⟨#[99]⟩ : ByteArray)] : List ByteArray).length := by show k < 3; omega
   have hy : y.size ≤ 2 := by
    simp only [List.mem_cons, List.not_mem_nil, or_false] at m2
    rcases m2 with rfl | rfl | rfl <;> decide
   have hx : (nth ([(⟨#[97]⟩ : ByteArray), (⟨#[98]⟩ : ByteArray), (⟨#[99]⟩ : ByteArray)] : List ByteArray) k).size ≤ 2 := by
    have := nth_mem hk3
    simp only [List.mem_cons, List.not_mem_nil, or_false] at this
    rcases this with h | h | h <;> rw [h] <;> decide
   by_cases hz : x = 0
   ·have step : p_spec_l71Name_b0 (b, q) (p1, n, (k : Int)) = some (.inl (p1 + 1 + 1, n ++ [(nth ([(⟨#[97]⟩ : ByteArray), (⟨#[98]⟩ : ByteArray), (⟨#[99]⟩ : ByteArray)] : List ByteArray) k, y)], ((k + 1 : Nat) : Int))) := by
     unfold p_spec_l71Name_b0
     rw [dlt hk3, cond_true, gd.yes (ixN hk3), bd.yes e1, decide_eq_true hz, cond_true, bd.yes e2, gd.yes (show room (n.length + 1) by unfold room; omega), gd.yes (show I64 ((k : Int) + 1) by unfold I64; omega), addI]
     rfl
    rw [lp.step step]
    obtain ⟨n', p', g1, g2, g3, g4, g5⟩ := ih (by omega) (k + 1) (by omega) (p1 + 1 + 1) (n ++ [(nth ([(⟨#[97]⟩ : ByteArray), (⟨#[98]⟩ : ByteArray), (⟨#[99]⟩ : ByteArray)] : List ByteArray) k, y)]) (by omega) (by omega) (by rw [List.length_append, List.length_singleton]; omega) (fun u hu => by
     rcases List.mem_append.1 hu with hu | hu
     ·exact ht u hu
     ·rw [List.mem_singleton.1 hu]; exact ⟨hx, hy⟩)
    exact ⟨n', p', g1, by omega, by omega, g4, g5⟩
   ·have step : p_spec_l71Name_b0 (b, q) (p1, n, (k : Int)) = some (.inl (p1 + 1, n, ((k + 1 : Nat) : Int))) := by
     unfold p_spec_l71Name_b0
     rw [dlt hk3, cond_true, gd.yes (ixN hk3), bd.yes e1, decide_eq_false hz, cond_false, gd.yes (show I64 ((k : Int) + 1) by unfold I64; omega), addI]
    rw [lp.step step]
    obtain ⟨n', p', g1, g2, g3, g4, g5⟩ := ih (by omega) (k + 1) (by omega) (p1 + 1) n (by omega) (by omega) (by omega) ht
    exact ⟨n', p', g1, by omega, by omega, g4, g5⟩
 obtain ⟨n', p', g1, g2, g3, g4, g5⟩ := key 3 (Nat.le_refl _) 0 rfl p [] h0 (by omega) (Nat.zero_le _) (fun _ h => nomatch h)
 exact ⟨n', p', g1, g2, by omega, g4, g5⟩
theorem d_l71Name (b : List UInt8) (p : Int) (hb : b.length ≤ 2000) (h0 : 0 ≤ p) (h1 : p + 16 ≤ 1000000) :
  ∃ n p', p_spec_l71Name (b, p) = some (n, p') ∧ p ≤ p' ∧ p' ≤ p + 16 ∧ smallN n := by
 obtain ⟨n, p1, e, a1, a2, hl, ht⟩ := d_nameLoop b hb p p h0 (by omega)
 have fin : ∀ (m : List Tag) (q : Int), 1 ≤ m.length → m.length ≤ 4 → (∀ t ∈ m, t.1.size ≤ 2 ∧ t.2.size ≤ 2) → 0 ≤ q → q + 8 ≤ 1000000 → ∃ n p', (bd (p_spec_l6Rd_pick (b, q) 40) fun r42 => cond (decide (r42.1 = 0)) (bd (p_spec_l71Tag (b, r42.2)) fun r46 => gd (room (m.length + 1)) <| some (m ++ [r46.1], r46.2)) (cond (decide (r42.1 = 1)) (gd (ix 0 m.length) <| bd (p_spec_l6Rd_of (b, r42.2) ([(⟨#[]⟩ : ByteArray), (⟨#[111]⟩ : ByteArray), (⟨#[112, 112]⟩ : ByteArray)] : List ByteArray)) fun r58 => some (m.set 0 (((nth m 0).1), r58.1), r58.2)) (some (m, r42.2)))) = some (n, p') ∧ q ≤ p' ∧ p' ≤ q + 8 ∧ smallN n := by
  intro m q m1 m2 mt q0 q1
  obtain ⟨x, e1, _, _⟩ := d_pick b q 40 hb q0 (by omega) (by decide)
  rw [bd.yes e1]
  by_cases hx : x = 0
  ·obtain ⟨t, e2, s1, s2⟩ := d_l71Tag b (q + 1) hb (by omega) (by omega)
   rw [decide_eq_true hx, cond_true, bd.yes e2, gd.yes (by unfold room; omega)]
   exact ⟨m ++ [t], _, rfl, by omega, by omega, smallN_snoc m2 mt ⟨by omega, by omega⟩⟩
  ·rw [decide_eq_false hx, cond_false]
   by_cases hx1 : x = 1
   ·obtain ⟨y, e2, m3⟩ := d_of b (q + 1) [(⟨#[]⟩ : ByteArray), (⟨#[111]⟩ : ByteArray), (⟨#[112, 112]⟩ : ByteArray)] hb (by omega) (by omega) (by decide) (by decide)
    have hy : y.size ≤ 2 := by
     simp only [List.mem_cons, List.not_mem_nil, or_false] at m3
     rcases m3 with rfl | rfl | rfl <;> decide
    rw [decide_eq_true hx1, cond_true, gd.yes (by unfold ix; omega), bd.yes e2]
    exact ⟨_, _, rfl, by omega, by omega, smallN_set (by omega) mt ⟨(mt _ (nth_mem (by omega))).1, hy⟩⟩
   ·rw [decide_eq_false hx1, cond_false]
    exact ⟨_, _, rfl, by omega, by omega, by omega, mt⟩
 unfold p_spec_l71Name
 rw [bd.yes e]
 by_cases hz : n.length = 0
 ·obtain ⟨t, e2, s1, s2⟩ := d_l71Tag b p1 hb (by omega) (by omega)
  rw [decide_eq_true (show (n.length : Int) = 0 by omega), cond_true, bd.yes e2, gd.yes (show room (n.length + 1) by unfold room; omega)]
  obtain ⟨n', p', g1, g2, g3, g4⟩ := fin (n ++ [t]) (p1 + 2) (by rw [List.length_append, List.length_singleton]; omega) (by rw [List.length_append, List.length_singleton]; omega) (smallN_snoc (by omega) ht ⟨by omega, by omega⟩).2 (by omega) (by omega)
  exact ⟨n', p', g1, by omega, by omega, g4⟩
 ·rw [decide_eq_false (show ¬ (n.length : Int) = 0 by omega), cond_false]
  obtain ⟨n', p', g1, g2, g3, g4⟩ := fin n p1 (by omega) (by omega) ht (by omega) (by omega)
  exact ⟨n', p', g1, by omega, by omega, g4⟩
theorem smallN_w {n : List Tag} (h : smallN n) : Wt.w n ≤ 25 := by
 have := sumN_c (f := fun i => (nth n i).1.size + (nth n i).2.size) (c := 4) (n := n.length) fun i hi => by
  have := h.2 _ (nth_mem hi)
  show (nth n i).1.size + (nth n i).2.size ≤ 4
  omega
 have := h.1
 rw [w_name]; omega
theorem smallN_good {n : List Tag} (h : nameOk n = true) : smallN n :=
 ⟨by have := (nameOk_len h).2; omega, fun t ht => by have := tagB_one (nameOk_tags h t ht); rw [this.1, this.2]; exact ⟨by decide, by decide⟩⟩
structure smallX (x : Index) : Prop where
 n : x.1.length ≤ 7
 s : ∀ n ∈ x.1, smallN n
 p : x.2.length ≤ 30
 i : ∀ p ∈ x.2, p.2.length ≤ 7
theorem smallNs_w {names : List (List Tag)} (h : names.length ≤ 7) (h2 : ∀ n ∈ names, smallN n) : Wt.w names ≤ 4194304 := by
 have := sumN_c (f := fun i => Wt.w (nth names i)) (c := 25) (n := names.length) fun i hi => smallN_w (h2 _ (nth_mem hi))
 have e : Wt.w names = names.length + sumN names.length fun i => Wt.w (nth names i) := rfl
 omega
theorem smallX_w {x : Index} (h : smallX x) : Wt.w x.1 ≤ 4194304 ∧ postsW x.2 :=
 ⟨smallNs_w h.n h.s, by have := h.p; omega, fun k hk => by have := h.i _ (nth_mem hk); omega⟩
def drawn (names : List (List Tag)) : Prop := goodN names ∧ names.length ≤ 6
theorem drawn_small {names : List (List Tag)} (h : drawn names) : smallX (indexP names) := by
 have hC := canon_posts (goodN_dist h.1)
 have hl := h.2
 have hs : sumL (indexP names).2 = sumN names.length fun i => (nth names i).length := by
  rw [← sumL_posts]
  exact sumL_perm (List.mergeSort_perm _ _)
 have hs2 := goodN_sum h.1
 have hle := sumL_ne fun p hp => (hC.ids p hp).2
 refine ⟨by show names.length ≤ 7; omega, fun n hn => ?_, by omega, fun p hp => ?_⟩
 ·obtain ⟨i, hi, rfl⟩ := List.mem_iff_getElem.1 (show n ∈ names from hn)
  rw [← nth_eq names i hi]
  exact smallN_good (h.1 i hi)
 ·have := idsN_len names p.1 names.length
  rw [(hC.ids p hp).1]; omega
theorem d_l11At (x : Index) (n : List Tag) (hw : Wt.w x.1 ≤ 4194304) (hn : Wt.w n ≤ 4194304) : ∃ r : Int, p_spec_l11At x n = some r ∧ 0 ≤ r := by
 obtain ⟨h1, h2, h3⟩ := w_names hw
 have hr : ∀ k, k < x.1.length → p_spec_l11At_b0 x n (k : Int) = some (if decide (textN (nth x.1 k) = textN n) then .inr (.inr ((k + 1 : Nat) : Int)) else .inl ((k + 1 : Nat) : Int)) := fun k hk => by
  unfold p_spec_l11At_b0
  rw [dlt hk, cond_true, gd.yes (ixN hk)]
  simp only [Int.toNat_natCast]
  rw [bd.yes (e_spec_l3Text _ (h2 _ (nth_mem hk)).2), bd.yes (e_spec_l3Text n hn), addI]
  cases decide (textN (nth x.1 k) = textN n) with
  | true => rw [cond_true, gd.yes (by unfold I64; omega)]; rfl
  | false => rw [cond_false, gd.yes (by unfold I64; omega)]; rfl
 unfold p_spec_l11At
 rcases lp_scan (body := p_spec_l11At_b0 x n) (fun k => (k : Int)) x.1.length (fun k => decide (textN (nth x.1 k) = textN n)) (.inl ()) (fun k => .inr ((k + 1 : Nat) : Int)) (fun k hk _ h => by rw [hr k hk, h]; rfl) (fun k hk _ h => by rw [hr k hk, if_pos h]) (fun _ => by unfold p_spec_l11At_b0; rw [decide_eq_false (show ¬ ((x.1.length : Int) < (x.1.length : Int)) by omega)]; rfl) with ⟨_, a2⟩ | ⟨_, k, _, _, _, a2⟩
 ·rw [show (lp (p_spec_l11At_b0 x n) 0) = _ from a2]; exact ⟨0, rfl, Int.le_refl _⟩
 ·rw [show (lp (p_spec_l11At_b0 x n) 0) = _ from a2]; exact ⟨_, rfl, by omega⟩
theorem d_l11Add {names : List (List Tag)} (h : drawn names) (n : List Tag) (hn : smallN n) : ∃ names' i ok, p_spec_l11Add (indexP names) n = some (indexP names', i, ok) ∧ drawn names' := by
 have hx := drawn_small h
 obtain ⟨hw, _⟩ := smallX_w hx
 have hwn := smallN_w hn
 have hnl := hn.1
 have h6 := h.2
 have hlen := goodN_len h.1
 obtain ⟨r, e, hr⟩ := d_l11At (indexP names) n hw (by omega)
 have ex : (indexP names).1 = names := rfl
 unfold p_spec_l11Add
 rw [bd.yes e]
 by_cases h0 : 0 < r
 ·rw [decide_eq_true h0, cond_true]
  exact ⟨names, r, true, rfl, h⟩
 ·rw [decide_eq_false h0, cond_false, bd.yes (e_spec_NameOk n (by unfold maxLen; omega))]
  cases hok : nameOk n with
  | false => exact ⟨names, 0, false, rfl, h⟩
  | true =>
   rw [Bool.not_true, cond_false, bd_some, ex]
   by_cases e6 : names.length = 6
   ·rw [decide_eq_true (show (6 : Int) ≤ (names.length : Int) by omega), cond_true]
    exact ⟨names, 0, false, rfl, h⟩
   ·have hgs := good_snoc h.1 hok
    have hls : (names ++ [n]).length ≤ 6 := by rw [List.length_append, List.length_singleton]; omega
    rw [decide_eq_false (show ¬ (6 : Int) ≤ (names.length : Int) by omega), cond_false, bd.yes (e_spec_l11Names names (by omega) (fun m hm => by have := hlen m hm; omega)), gd.yes (by rw [List.length_nil]; unfold room; omega), gd.yes (by unfold room; omega), List.nil_append, bd.yes (e_spec_l11Of hgs (by omega) (fun m hm => by have := goodN_len hgs m hm; omega))]
    exact ⟨names ++ [n], _, _, rfl, hgs, hls⟩
theorem indexP_nil : indexP [] = (([], []) : Index) := by
 unfold indexP
 show (([] : List (List Tag)), ([] : List Post).mergeSort leP) = _
 rw [List.mergeSort_nil]
theorem drawn_nil : drawn [] := ⟨fun _ hk => absurd hk (Nat.not_lt_zero _), Nat.zero_le _⟩
theorem d_indexLoop (b : List UInt8) (hb : b.length ≤ 2000) (q : Int) : ∀ (m : Nat), m ≤ 9 → ∀ (p : Int) (names : List (List Tag)), drawn names → 0 ≤ p → p + 16 * m ≤ 1000000 →
  ∃ p' names', lp (p_spec_l71Index_b0 (b, q)) (p, (indexP names).1, (indexP names).2, (m : Int)) = some (p', (indexP names').1, (indexP names').2) ∧ p ≤ p' ∧ p' ≤ p + 16 * m ∧ drawn names' := by
 intro m
 induction m with
 | zero =>
  intro _ p names h h0 h1
  refine ⟨p, names, lp.stop ?_, by omega, by omega, h⟩
  unfold p_spec_l71Index_b0
  rfl
 | succ m ih =>
  intro hm p names h h0 h1
  obtain ⟨n, p1, e1, a1, a2, hs⟩ := d_l71Name b p hb h0 (by omega)
  obtain ⟨names1, i, ok, e2, h2⟩ := d_l11Add h n hs
  have step : p_spec_l71Index_b0 (b, q) (p, (indexP names).1, (indexP names).2, ((m + 1 : Nat) : Int)) = some (.inl (p1, (indexP names1).1, (indexP names1).2, (m : Int))) := by
   unfold p_spec_l71Index_b0
   rw [decide_eq_true (show (0 : Int) < ((m + 1 : Nat) : Int) by omega), cond_true, bd.yes e1, bd.yes e2, gd.yes (show I64 (((m + 1 : Nat) : Int) - 1) by unfold I64; omega), show ((m + 1 : Nat) : Int) - 1 = (m : Int) by omega]
  rw [lp.step step]
  obtain ⟨p', names', g1, g2, g3, g4⟩ := ih (by omega) p1 names1 h2 (by omega) (by omega)
  exact ⟨p', names', g1, by omega, by omega, g4⟩
theorem d_l71Index (b : List UInt8) (p : Int) (hb : b.length ≤ 2000) (h0 : 0 ≤ p) (h1 : p + 200 ≤ 1000000) :
  ∃ x p', p_spec_l71Index (b, p) = some (x, p') ∧ p ≤ p' ∧ p' ≤ p + 200 ∧ smallX x := by
 obtain ⟨m, e1, a1, b1⟩ := d_pick b p 9 hb h0 (by omega) (by decide)
 have b1 := b1 (by decide)
 obtain ⟨p2, names, e2, a2, b2, hd⟩ := d_indexLoop b hb p m.toNat (by omega) (p + 1) [] drawn_nil (by omega) (by omega)
 rw [indexP_nil, show ((m.toNat : Nat) : Int) = m by omega] at e2
 obtain ⟨k, e3, a3, b3⟩ := d_pick b p2 24 hb (by omega) (by omega) (by decide)
 have hx := drawn_small hd
 have hp := hx.p
 have hn6 : (indexP names).1.length ≤ 6 := hd.2
 unfold p_spec_l71Index
 rw [bd.yes (show p_spec_l11New = some (([], []) : Index) from rfl), bd.yes e1, bd.yes e2, bd.yes e3]
 by_cases hk : k = 0
 ·obtain ⟨n, p4, e4, a4, b4, hs⟩ := d_l71Name b (p2 + 1) hb (by omega) (by omega)
  rw [decide_eq_true hk, cond_true, bd.yes e4, gd.yes (show room ((indexP names).1.length + 1) by unfold room; omega)]
  refine ⟨_, _, rfl, by omega, by omega, ⟨?_, fun u hu => ?_, hp, hx.i⟩⟩
  ·show ((indexP names).1 ++ [n]).length ≤ 7
   rw [List.length_append, List.length_singleton]; omega
  ·rcases List.mem_append.1 (show u ∈ (indexP names).1 ++ [n] from hu) with hu | hu
   ·exact hx.s u hu
   ·rw [List.mem_singleton.1 hu]; exact hs
 ·rw [decide_eq_false hk, cond_false]
  by_cases hk1 : k = 1
  ·rw [decide_eq_true hk1, cond_true]
   by_cases hz : 0 < (indexP names).2.length
   ·obtain ⟨i, e4, a4, b4⟩ := d_pick b (p2 + 1) ((indexP names).2.length : Int) hb (by omega) (by omega) (by omega)
    have b4 := b4 (by omega)
    obtain ⟨j, e5, a5, b5⟩ := d_pick b (p2 + 1 + 1) 3 hb (by omega) (by omega) (by decide)
    have b5 := b5 (by decide)
    rw [decide_eq_true (show (0 : Int) < ((indexP names).2.length : Int) by omega), cond_true, bd.yes e4, bd.yes e5, gd.yes (show I64 (1 + j) by unfold I64; omega), gd.yes (show ix i (indexP names).2.length by unfold ix; omega)]
    refine ⟨_, _, rfl, by omega, by omega, ⟨hx.n, hx.s, ?_, fun u hu => ?_⟩⟩
    ·show ((indexP names).2.set _ _).length ≤ 30
     rw [List.length_set]; exact hp
    ·rcases List.mem_or_eq_of_mem_set (show u ∈ (indexP names).2.set _ _ from hu) with hu | rfl
     ·exact hx.i u hu
     ·show ([1 + j] : List Int).length ≤ 7; simp
   ·rw [decide_eq_false (show ¬ (0 : Int) < ((indexP names).2.length : Int) by omega), cond_false]
    exact ⟨_, _, rfl, by omega, by omega, hx⟩
  ·rw [decide_eq_false hk1, cond_false]
   by_cases hk2 : k = 2
   ·rw [decide_eq_true hk2, cond_true]
    by_cases hz : 0 < (indexP names).2.length
    ·rw [decide_eq_true (show (0 : Int) < ((indexP names).2.length : Int) by omega), cond_true, gd.yes (show sl2 1 ((indexP names).2.length : Int) (indexP names).2.length by unfold sl2; omega)]
     refine ⟨_, _, rfl, by omega, by omega, ⟨hx.n, hx.s, ?_, fun u hu => ?_⟩⟩
     ·show ((((indexP names).2.take _).drop 1)).length ≤ 30
      rw [List.length_drop, List.length_take]; omega
     ·exact hx.i u (List.mem_of_mem_take (List.mem_of_mem_drop (show u ∈ ((indexP names).2.take _).drop 1 from hu)))
    ·rw [decide_eq_false (show ¬ (0 : Int) < ((indexP names).2.length : Int) by omega), cond_false]
     exact ⟨_, _, rfl, by omega, by omega, hx⟩
   ·rw [decide_eq_false hk2, cond_false]
    exact ⟨_, _, rfl, by omega, by omega, hx⟩
theorem e_lyIntsI (a b : List Int) (ha : a.length ≤ 4194304) : p_laws_lyInts a b = some (decide (a = b)) := by
 unfold p_laws_lyInts
 by_cases hl : a.length = b.length
 ·have hl2 : (a.length : Int) = (b.length : Int) := by omega
  rw [decide_eq_true hl2, Bool.not_true, cond_false]
  refine eq_loop hl (fun k hk => ?_) ?_
  ·have hk2 : k < b.length := by omega
   unfold p_laws_lyInts_b0
   simp only [dlt hk, cond_true, gd.yes (ixN hk), gd.yes (ixN hk2), Int.toNat_natCast, gd.yes (i64S hk (show a.length ≤ 9223372036854775807 by omega))]
   by_cases h : nth a k = nth b k <;> simp [h]
  ·unfold p_laws_lyInts_b0; simp
 ·have h2 : ¬ (a.length : Int) = (b.length : Int) := by omega
  have h3 : a ≠ b := fun e => hl (by rw [e])
  simp [h2, h3]
theorem e_lyAmongI (l : List Int) (v : Int) (hl : l.length ≤ 4194304) : p_laws_lyAmong l v = some (decide (v ∈ l)) := by
 have hr : ∀ k, k < l.length → p_laws_lyAmong_b0 l v (k : Int) = some (if decide (nth l k = v) then .inr (.inr true) else .inl ((k + 1 : Nat) : Int)) := fun k hk => by
  unfold p_laws_lyAmong_b0
  simp only [dlt hk, cond_true, gd.yes (ixN hk), Int.toNat_natCast, gd.yes (i64S hk (show l.length ≤ 9223372036854775807 by omega))]
  by_cases h : nth l k = v <;> simp [h]
 unfold p_laws_lyAmong
 rcases lp_scan (body := p_laws_lyAmong_b0 l v) (fun k => (k : Int)) l.length (fun k => decide (nth l k = v)) (.inl ()) (fun _ => .inr true) (fun k hk _ h => by rw [hr k hk, h]; rfl) (fun k hk _ h => by rw [hr k hk, h]; rfl) (fun _ => by unfold p_laws_lyAmong_b0; simp) with ⟨h1, h2⟩ | ⟨h1, k, hk, hb, _, h2⟩
 ·rw [show (lp (p_laws_lyAmong_b0 l v) 0) = _ from h2]
  have : v ∉ l := fun hm => by
   obtain ⟨i, hi, rfl⟩ := List.mem_iff_getElem.1 hm
   have := of_decide_eq_false (allN_iff.1 h1 i hi)
   exact this (nth_eq l i hi)
  rw [decide_eq_false this]; rfl
 ·rw [show (lp (p_laws_lyAmong_b0 l v) 0) = _ from h2]
  have : v ∈ l := by rw [← of_decide_eq_true hb]; exact nth_mem hk
  rw [decide_eq_true this]; rfl
theorem bd_swl {α β γ : Type} {f : α → Option γ} {g : β → Option γ} {e : α} : bd (some (.inl e)) (sw f g) = f e := rfl
theorem findN_in {names : List (List Tag)} {f : List Cond} {k : Nat} : ∀ {m}, k < m → ((k : Int) + 1 ∈ findN names f m ↔ fitsP f (nth names k) = true)
 | 0, hm => absurd hm (Nat.not_lt_zero _)
 | m + 1, hm => by
  have hlt : ∀ v ∈ findN names f m, v ≤ m := fun v hv => by
   have : ∀ j, ∀ v ∈ findN names f j, v ≤ j := by
    intro j
    induction j with
    | zero => intro v hv; cases hv
    | succ j ih =>
     intro v hv
     rw [findN_succ, List.mem_append] at hv
     rcases hv with hv | hv
     ·have := ih v hv; omega
     ·split at hv
      ·rw [List.mem_singleton.1 hv]; omega
      ·cases hv
   exact this m v hv
  rw [findN_succ, List.mem_append]
  by_cases e : k = m
  ·subst e
   constructor
   ·rintro (h | h)
    ·have := hlt _ h; omega
    ·split at h
     next hf => exact hf
     next => cases h
   ·intro h
    rw [if_pos h]
    exact .inr (List.mem_singleton.2 rfl)
  ·rw [findN_in (m := m) (by omega)]
   constructor
   ·rintro (h | h)
    ·exact h
    ·split at h
     ·have := List.mem_singleton.1 h; omega
     ·cases h
   ·exact .inl
theorem fitsP_one {t : Tag} {b : Bool} {n : List Tag} : fitsP [(t, b)] n = !decide (hasT n t = b) := by
 unfold fitsP
 show allN 1 _ = _
 cases hc : decide (hasT n t = b) with
 | false =>
  refine allN_iff.2 fun k hk => ?_
  have : k = 0 := by omega
  subst this
  exact hc
 | true => exact allN_no (k := 0) (by omega) hc
theorem idsN_find {names : List (List Tag)} {t : Tag} : ∀ m, idsN names t m = findN names [(t, false)] m
 | 0 => rfl
 | m + 1 => by
  rw [idsN_succ, findN_succ, idsN_find m, fitsP_one]
  cases hasT (nth names m) t <;> rfl
theorem e_lyHas (n : List Tag) (t : Tag) (hn : n.length ≤ maxLen) : p_laws_lyHas n t = some (hasT n t) := by
 have hn' : n.length ≤ 9223372036854775807 := hn
 have hr : ∀ k, k < n.length → p_laws_lyHas_b0 n t (k : Int) = some (if decide (nth n k = t) then .inr (.inr true) else .inl ((k + 1 : Nat) : Int)) := fun k hk => by
  unfold p_laws_lyHas_b0
  simp only [dlt hk, cond_true, gd.yes (ixN hk), Int.toNat_natCast, gd.yes (i64S hk hn')]
  by_cases h : nth n k = t <;> simp [h]
 unfold p_laws_lyHas
 rcases lp_scan (body := p_laws_lyHas_b0 n t) (fun k => (k : Int)) n.length (fun k => decide (nth n k = t)) (.inl ()) (fun _ => .inr true) (fun k hk _ h => by simp [hr k hk, of_decide_eq_false h]) (fun k hk _ h => by simp [hr k hk, of_decide_eq_true h]) (fun _ => by unfold p_laws_lyHas_b0; simp) with ⟨h1, h2⟩ | ⟨h1, k, hk, hb, _, h2⟩
 ·rw [show (lp (p_laws_lyHas_b0 n t) 0) = _ from h2]
  have : t ∉ n := fun ht => by
   have := (allN_mem (l := n) (p := fun x => decide (x = t))).1 h1 t ht
   simp at this
  rw [hasT_no this]; rfl
 ·rw [show (lp (p_laws_lyHas_b0 n t) 0) = _ from h2]
  have : t ∈ n := (of_decide_eq_true hb) ▸ nth_mem hk
  rw [hasT_iff.2 this]; rfl
theorem d_DrawIndexOk (c : List UInt8) : ∃ x : Index, p_spec_DrawIndexOk c = some x ∧ x.1.length ≤ 7 ∧ (∀ n ∈ x.1, smallN n) ∧ Wt.w x.1 ≤ 4194304 ∧ postsW x.2 := by
 obtain ⟨b, e0, hb⟩ := d_l6Open c
 obtain ⟨x, p1, e1, a1, b1, hx⟩ := d_l71Index b 0 hb (by decide) (by decide)
 obtain ⟨w1, w2⟩ := smallX_w hx
 obtain ⟨k, e2, a2, b2⟩ := d_pick b p1 6 hb (by omega) (by omega) (by decide)
 have hp30 := hx.p
 unfold p_spec_DrawIndexOk
 rw [bd.yes e0, bd.yes e1, bd.yes e2]
 by_cases hk : k = 0
 ·obtain ⟨t, e3, s1, s2⟩ := d_l71Tag b (p1 + 1) hb (by omega) (by omega)
  rw [decide_eq_true hk, cond_true, bd.yes e3, gd.yes (show room (x.2.length + 1) by unfold room; omega)]
  refine ⟨_, rfl, hx.n, hx.s, w1, ?_, fun i hi => ?_⟩
  ·show (x.2 ++ [_]).length ≤ _
   rw [List.length_append, List.length_singleton]; omega
  ·rcases List.mem_append.1 (nth_mem (l := x.2 ++ [(t, ([1] : List Int))]) hi) with h | h
   ·have := hx.i _ h
    show (nth (x.2 ++ [(t, ([1] : List Int))]) i).2.length ≤ _
    omega
   ·show (nth (x.2 ++ [(t, ([1] : List Int))]) i).2.length ≤ _
    rw [List.mem_singleton.1 h, List.length_singleton]; omega
 ·rw [decide_eq_false hk, cond_false]
  exact ⟨x, rfl, hx.n, hx.s, w1, w2⟩
theorem posts_ids {x : Index} (h : indexB x = true) {p : Post} (hp : p ∈ x.2) : p.2 = idsN x.1 p.1 x.1.length := ((indexB_canon h).1.ids p hp).1
theorem posts_sum {x : Index} (h : indexB x = true) : sumL x.2 = sumN x.1.length fun i => (nth x.1 i).length := by
 rw [(indexB_canon h).2.2.2, ← sumL_posts]
 exact sumL_perm (List.mergeSort_perm _ _)
theorem ip_inner (x : Index) (h : indexB x = true) (hs : ∀ n ∈ x.1, smallN n) (s : Int × Int) (k : Nat) (hsk : s.2 = (k : Int)) (hk : k < x.2.length) : lp (p_laws_FnIndexPosts_b1 x s) 1 = some (.inl ()) := by
 have h6 := (indexB_canon h).2.2.1
 rw [show (1 : Int) = ((0 : Nat) : Int) + 1 by omega]
 refine lp_for (body := p_laws_FnIndexPosts_b1 x s) (fun j => (j : Int) + 1) x.1.length (.inl ()) (fun j hj => ?_) ?_
 ·have e1 : (j : Int) + 1 - 1 = (j : Int) := by omega
  have hI : I64 ((j : Int) + 1 - 1) := by unfold I64; omega
  have hI2 : I64 ((j : Int) + 1 + 1) := by unfold I64; omega
  have hn := (hs _ (nth_mem hj)).1
  have hl := idsN_len x.1 (nth x.2 k).1 x.1.length
  have e2 : p_laws_lyHas (nth x.1 j) (nth x.2 k).1 = some (hasT (nth x.1 j) (nth x.2 k).1) := e_lyHas _ _ (by unfold maxLen; omega)
  have e3 : p_laws_lyAmong (nth x.2 k).2 ((j : Int) + 1) = some (hasT (nth x.1 j) (nth x.2 k).1) := by
   rw [posts_ids h (nth_mem hk), e_lyAmongI _ _ (by omega), idsN_find]
   have := findN_in (names := x.1) (f := [((nth x.2 k).1, false)]) (k := j) hj
   rw [fitsP_one] at this
   cases hq : hasT (nth x.1 j) (nth x.2 k).1 with
   | true => rw [decide_eq_true (this.2 (by rw [hq]; rfl))]
   | false => rw [decide_eq_false fun h => by rw [hq] at this; cases this.1 h]
  unfold p_laws_FnIndexPosts_b1
  rw [decide_eq_true (show (j : Int) + 1 ≤ (x.1.length : Int) by omega), cond_true, gd.yes hI, e1, gd.yes (ixN hj), hsk]
  simp only [Int.toNat_natCast]
  rw [bd.yes e2, bd.yes e3, decide_eq_true rfl, Bool.not_true, cond_false, gd.yes hI2]
  have e : (j : Int) + 1 + 1 = ((j + 1 : Nat) : Int) + 1 := by omega
  rw [e]
 ·unfold p_laws_FnIndexPosts_b1
  rw [decide_eq_false (show ¬ ((x.1.length : Int) + 1 ≤ (x.1.length : Int)) by omega), cond_false]
theorem ip_outer (x : Index) (h : indexB x = true) (hs : ∀ n ∈ x.1, smallN n) (w1 : Wt.w x.1 ≤ 4194304) (w2 : postsW x.2) : lp (p_laws_FnIndexPosts_b0 x) (0, 0) = some (.inl ((sumL x.2 : Nat) : Int)) := by
 have h6 := (indexB_canon h).2.2.1
 have hN := (w_names w1).2.2
 have hps := posts_sum h
 have hsl := sumL_N x.2
 have hP := w2.1
 rw [hsl]
 refine lp_for (body := p_laws_FnIndexPosts_b0 x) (fun k => (((sumN k fun i => (nth x.2 i).2.length : Nat) : Int), (k : Int))) x.2.length (.inl _) (fun k hk => ?_) ?_
 ·have hlt := sumN_lt (f := fun i => (nth x.2 i).2.length) hk
  have hpi := posts_ids h (nth_mem hk)
  have hl := idsN_len x.1 (nth x.2 k).1 x.1.length
  have e1 : p_impl_IndexPost x (nth x.2 k).1 = some (nth x.2 k).2 := by
   rw [e_impl_IndexPost x _ w1 w2]; unfold postP; rw [if_pos h, ← hpi]
  have e2 : p_laws_lyInts (nth x.2 k).2 (nth x.2 k).2 = some true := by
   rw [e_lyIntsI _ _ (by rw [hpi]; omega), decide_eq_true rfl]
  unfold p_laws_FnIndexPosts_b0
  rw [dlt hk, cond_true, gd.yes (ixN hk)]
  simp only [Int.toNat_natCast]
  rw [bd.yes e1, bd.yes e2, Bool.not_true, cond_false, ip_inner x h hs _ k rfl hk, bd_swl]
  have hI1 : I64 (((sumN k fun i => (nth x.2 i).2.length : Nat) : Int) + ((nth x.2 k).2.length : Int)) := by unfold I64; omega
  have hI2 : I64 ((k : Int) + 1) := by unfold I64; omega
  rw [gd.yes hI1, gd.yes hI2, addI]
  have : ((sumN k fun i => (nth x.2 i).2.length : Nat) : Int) + ((nth x.2 k).2.length : Int) = ((sumN (k + 1) fun i => (nth x.2 i).2.length : Nat) : Int) := by
   rw [show (sumN (k + 1) fun i => (nth x.2 i).2.length) = (sumN k fun i => (nth x.2 i).2.length) + (nth x.2 k).2.length from rfl]; omega
  rw [this]
 ·unfold p_laws_FnIndexPosts_b0
  rw [decide_eq_false (show ¬ ((x.2.length : Int) < (x.2.length : Int)) by omega), cond_false]
theorem ip_sub (x : Index) (hN : sumN x.1.length (fun i => (nth x.1 i).length) ≤ 4194304) (hl : x.1.length ≤ 7) : lp (p_laws_FnIndexPosts_b2 x) (((sumN x.1.length fun i => (nth x.1 i).length : Nat) : Int), 0) = some 0 := by
 have := lp_for (body := p_laws_FnIndexPosts_b2 x) (fun k => (((sumN x.1.length fun i => (nth x.1 i).length : Nat) : Int) - ((sumN k fun i => (nth x.1 i).length : Nat) : Int), (k : Int))) x.1.length 0 (fun k hk => by
  have hlt := sumN_lt (f := fun i => (nth x.1 i).length) hk
  have e0 : (sumN (k + 1) fun i => (nth x.1 i).length) = (sumN k fun i => (nth x.1 i).length) + (nth x.1 k).length := rfl
  unfold p_laws_FnIndexPosts_b2
  rw [dlt hk, cond_true, gd.yes (ixN hk)]
  simp only [Int.toNat_natCast]
  have hI1 : I64 (((sumN x.1.length fun i => (nth x.1 i).length : Nat) : Int) - ((sumN k fun i => (nth x.1 i).length : Nat) : Int) - ((nth x.1 k).length : Int)) := by unfold I64; omega
  have hI2 : I64 ((k : Int) + 1) := by unfold I64; omega
  rw [gd.yes hI1, gd.yes hI2, addI]
  have : ((sumN x.1.length fun i => (nth x.1 i).length : Nat) : Int) - ((sumN k fun i => (nth x.1 i).length : Nat) : Int) - ((nth x.1 k).length : Int) = ((sumN x.1.length fun i => (nth x.1 i).length : Nat) : Int) - ((sumN (k + 1) fun i => (nth x.1 i).length : Nat) : Int) := by
   rw [e0]; omega
  rw [this]) (by
  unfold p_laws_FnIndexPosts_b2
  rw [decide_eq_false (show ¬ ((x.1.length : Int) < (x.1.length : Int)) by omega), cond_false, Int.sub_self])
 have e0 : ((sumN x.1.length fun i => (nth x.1 i).length : Nat) : Int) - ((sumN 0 fun i => (nth x.1 i).length : Nat) : Int) = ((sumN x.1.length fun i => (nth x.1 i).length : Nat) : Int) := by
  rw [show (sumN 0 fun i => (nth x.1 i).length) = 0 from rfl]; omega
 simp only [e0] at this
 exact this
theorem e_FnIndexPosts (c : List UInt8) (_ : Dp.ok c) : p_laws_FnIndexPosts c = some true := by
 unfold p_laws_FnIndexPosts
 by_cases hc : (1048576 : Int) < (c.length : Int)
 ·rw [decide_eq_true hc]; rfl
 ·obtain ⟨x, e, hn, hs, w1, w2⟩ := d_DrawIndexOk c
  have e1 := e_impl_IndexOk x w1 w2
  have e2 := e_spec_IndexOk x w1 w2
  rw [decide_eq_false hc, cond_false, bd.yes e, bd.yes e1, bd.yes e2, decide_eq_true rfl, Bool.not_true, cond_false, bd_some]
  cases h : indexB x with
  | false => rw [Bool.not_false, cond_true, bd.yes e2, h]; rfl
  | true =>
   rw [Bool.not_true, cond_false, ip_outer x h hs w1 w2, bd_swl, posts_sum h, bd.yes (ip_sub x (w_names w1).2.2 hn), decide_eq_true rfl]
end Go.Proofs.Ytichamokohjneaa
