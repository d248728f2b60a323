/- Plain laws of the plain functions. Conditions: lengths that memory can hold. -/
import Derived.Test.YtfcdncblogldnaaP7
namespace Go.Proofs.Ytfcdncblogldnaa
open Go Go.Sx
theorem e_lyRows (a b : List Row) (ha : a.length ≤ 9223372036854775807) : p_laws_lyRows a b = some (decide (a = b)) := by
  unfold p_laws_lyRows
  by_cases hl : a.length = b.length
  · have hl2 : (a.length : Int) = (b.length : Int) := by omega
    simp only [hl2, decide_true, Bool.not_true, cond_false]
    refine eq_loop hl (fun k hk => ?_) ?_
    · have hk2 : k < b.length := by omega
      unfold p_laws_lyRows_b0
      simp only [dlt hk, cond_true, gd.yes (ixN hk), gd.yes (ixN hk2), Int.toNat_natCast, gd.yes (i64S hk ha)]
      by_cases h : nth a k = nth b k <;> simp [h]
    · unfold p_laws_lyRows_b0; simp
  · have h2 : ¬ (a.length : Int) = (b.length : Int) := by omega
    have h3 : a ≠ b := fun e => hl (by rw [e])
    simp [h2, h3]
theorem e_lyAmong (l : List Int) (n : Int) (hl : l.length ≤ 9223372036854775807) : p_laws_lyAmong l n = some (decide (0 ≤ place l n)) := by
  unfold p_laws_lyAmong
  rcases lp_scan (body := p_laws_lyAmong_b0 l n) (fun k => (k : Int)) l.length (fun i => decide (nth l i = n)) (.inl ()) (fun _ => .inr true) (fun k hk _ h => by
      have h' : ¬ nth l k = n := by simpa using h
      unfold p_laws_lyAmong_b0; simp [hk, gd.yes (ixN hk), h', gd.yes (i64S hk hl)]) (fun k hk _ h => by
      have h' : nth l k = n := by simpa using h
      unfold p_laws_lyAmong_b0; simp [hk, gd.yes (ixN hk), h']) (fun _ => by unfold p_laws_lyAmong_b0; simp) with ⟨h1, h2⟩ | ⟨h1, k, hk, hb, hn, h2⟩
  · rw [show (lp (p_laws_lyAmong_b0 l n) 0) = _ from h2, place_no h1]; rfl
  · rw [show (lp (p_laws_lyAmong_b0 l n) 0) = _ from h2, place_yes hk hb hn]
    have : (0 : Int) ≤ (k : Int) := by omega
    simp [sw, this]
/-- what a valid part is -/
theorem partOk_iff {p : Part} (h : partOk p = true) : p.1.length = p.2.length ∧ (∀ k, k < p.1.length → 1 ≤ nth p.1 k ∧ nth p.1 k ≤ 6) ∧ (∀ k, 0 < k → k < p.1.length → nth p.1 (k - 1) < nth p.1 k) ∧ (∀ k, k < p.2.length → 0 < (nth p.2 k).length ∧ blockOk (nth p.2 k) = true) := by
  unfold partOk at h
  simp only [Bool.and_eq_true, decide_eq_true_eq] at h
  obtain ⟨h1, h2⟩ := h
  have h2 := allN_iff.1 h2
  refine ⟨h1, fun k hk => ?_, fun k h0 hk => ?_, fun k hk => ?_⟩
  · have := h2 k hk; simp only [partBad, inn, Bool.or_eq_false_iff, Bool.not_eq_false', Bool.and_eq_true, decide_eq_true_eq] at this; exact this.1.1.1
  · have := h2 k hk; simp [partBad, h0] at this; exact this.1.1.2
  · have := h2 k (by omega); simp [partBad] at this; exact ⟨List.length_pos_iff.2 this.2, this.1.2⟩
theorem ids_mono {p : Part} (h : ∀ k, 0 < k → k < p.1.length → nth p.1 (k - 1) < nth p.1 k) : ∀ {j k : Nat}, j < k → k < p.1.length → nth p.1 j < nth p.1 k := by
  intro j k hjk hk
  induction k with
  | zero => omega
  | succ k ih =>
    have h1 := h (k + 1) (by omega) hk
    rw [show k + 1 - 1 = k by omega] at h1
    rcases Nat.lt_or_eq_of_le (Nat.le_of_lt_succ hjk) with h' | rfl
    · have := ih h' (by omega); omega
    · exact h1
theorem sumN_swap {n m : Nat} {f : Nat → Nat → Nat} : sumN n (fun i => sumN m fun k => f i k) = sumN m (fun k => sumN n fun i => f i k) := by
  induction n with
  | zero => simp only [sumN]; exact (sumN_zero fun _ _ => rfl).symm
  | succ n ih =>
    simp only [sumN, ih]
    clear ih
    induction m with
    | zero => rfl
    | succ m ih => simp only [sumN] at ih ⊢; omega
theorem sumN_congr {n : Nat} {f g : Nat → Nat} (h : ∀ i, i < n → f i = g i) : sumN n f = sumN n g := by
  induction n with
  | zero => rfl
  | succ n ih => simp only [sumN, ih fun i hi => h i (by omega), h n (by omega)]
/-- at most one is not nothing -/
theorem sumN_one {n : Nat} {f : Nat → Nat} {k : Nat} (hk : k < n) (h : ∀ i, i < n → i ≠ k → f i = 0) : sumN n f = f k := by
  induction n with
  | zero => omega
  | succ n ih =>
    simp only [sumN]
    by_cases e : k = n
    · subst e
      rw [sumN_zero fun i hi => h i (by omega) (by omega)]; omega
    · rw [ih (by omega) fun i hi hne => h i (by omega) hne, h n (by omega) (by omega)]; omega
/-- the rows of a series, by its place -/
theorem rowsOf_sum {p : Part} (h : partOk p = true) (id : Int) : (rowsOf p id).length = sumN p.2.length fun k => if nth p.1 k = id then (nth p.2 k).length else 0 := by
  obtain ⟨h1, h2, h3, h4⟩ := partOk_iff h
  have inj : ∀ i k, i < p.1.length → k < p.1.length → nth p.1 i = nth p.1 k → i = k := fun i k hi hk e => by
    rcases Nat.lt_trichotomy i k with h' | h' | h'
    · have := ids_mono h3 h' hk; omega
    · exact h'
    · have := ids_mono h3 h' hi; omega
  unfold rowsOf
  cases ha : allN p.1.length (fun i => decide (nth p.1 i = id)) with
  | true =>
    rw [place_no ha, if_pos (by decide)]
    rw [sumN_zero fun i hi => if_neg (by simpa using allN_iff.1 ha i (by omega))]; rfl
  | false =>
    obtain ⟨k, hk, e1, e2⟩ := first_bad ha
    have e1' : nth p.1 k = id := by simpa using e1
    rw [place_yes hk e1 e2, if_neg (by omega), sumN_one (k := k) (by omega) fun i hi hne => if_neg fun e => hne (inj i k (by omega) hk (by rw [e, e1']))]
    simp [e1']
theorem rowsOf_pos {p : Part} (h : partOk p = true) (id : Int) : (0 ≤ place p.1 id) ↔ 0 < (rowsOf p id).length := by
  obtain ⟨h1, h2, h3, h4⟩ := partOk_iff h
  unfold rowsOf
  rcases place_lt (l := p.1) (id := id) with hp | ⟨k, hk, hp⟩
  · rw [if_pos hp]; simp; omega
  · rw [hp, if_neg (by omega)]
    have := (h4 k (by omega)).1
    simp; omega
/-- all rows -/
def many_ (p : Part) : Nat := sumN p.2.length fun k => (nth p.2 k).length
theorem rowsOf_all {p : Part} (h : partOk p = true) : sumN 8 (fun i => (rowsOf p (i : Int)).length) = many_ p := by
  obtain ⟨h1, h2, h3, h4⟩ := partOk_iff h
  rw [sumN_congr fun i _ => rowsOf_sum h (i : Int), sumN_swap]
  refine sumN_congr fun k hk => ?_
  have := h2 k (by omega)
  rw [sumN_one (k := (nth p.1 k).toNat) (by omega) fun i hi hne => if_neg fun e => hne (by omega)]
  rw [if_pos (by omega)]
theorem e_impl_PartRows (p : Part) (ok : Dp.ok p) (hw : Wt.w p ≤ 1048576) (h : partOk p = true) : p_impl_PartRows p = some (many_ p : Int) := by
  unfold p_impl_PartRows
  rw [e_impl_PartOk p ok, h, bd_some]
  have hl : p.2.length ≤ 1048576 := Nat.le_trans wL_le (Nat.le_trans wP_2 hw)
  have hs : ∀ k, k ≤ p.2.length → sumN k (fun i => (nth p.2 i).length) ≤ 1048576 := fun k hk => by
    refine Nat.le_trans (sumN_le hk) (Nat.le_trans ?_ hw)
    show _ ≤ Wt.w p.1 + (p.2.length + sumN p.2.length fun i => Wt.w (nth p.2 i))
    have : sumN p.2.length (fun i => (nth p.2 i).length) ≤ sumN p.2.length fun i => Wt.w (nth p.2 i) := sumN_mono fun i _ => wL_le
    omega
  have := lp_for (body := p_impl_PartRows_b0 p) (fun k => (((sumN k (fun i => (nth p.2 i).length) : Nat) : Int), (k : Int))) p.2.length (sumN p.2.length (fun i => (nth p.2 i).length) : Nat) (fun k hk => by
      unfold p_impl_PartRows_b0
      have h1 := hs (k + 1) hk
      simp only [sumN] at h1
      have h2 : I64 (((sumN k (fun i => (nth p.2 i).length) : Nat) : Int) + ((nth p.2 k).length : Int)) := by unfold I64; omega
      simp only [dlt hk, cond_true, gd.yes (ixN hk), Int.toNat_natCast, gd.yes h2, gd.yes (i64S hk (by omega)), sumN]
      simp) (by unfold p_impl_PartRows_b0; simp)
  have e : lp (p_impl_PartRows_b0 p) (0, 0) = some (many_ p : Int) := by simpa [sumN, many_] using this
  simp [e]
theorem e_FnPartOf (c : List UInt8) (_ : Dp.ok c) : p_laws_FnPartOf c = some true := by
  unfold p_laws_FnPartOf
  by_cases hc : (1048576 : Int) < (c.length : Int)
  · simp [hc]
  · obtain ⟨r, e0, hsm⟩ := d_DrawPartOf c
    have ok := small_ok hsm
    have hw := small_w hsm
    have hpl : (partOf r.1 r.2).length ≤ 1048576 := Nat.le_trans wL_le (Nat.le_trans partOf_w hw)
    simp only [hc, decide_false, cond_false, e0, bd_some, e_impl_PartOf r.1 r.2 ok hw, e_spec_PartOf r.1 r.2 ok hw, e_lyRows _ _ (Nat.le_trans hpl (by decide)), e_spec_PartOk r.1 ok, decide_true, Bool.not_true, cond_false]
    cases hp : partOk r.1 with
    | false => rfl
    | true =>
      have hl := partOk_len' hp
      have hi : ∀ i : Nat, sumN (i + 1) (fun i => (rowsOf r.1 (i : Int)).length) ≤ 100000000 → True := fun _ _ => trivial
      have hb : ∀ i, i ≤ 8 → sumN i (fun i => (rowsOf r.1 (i : Int)).length) ≤ 8 * 1048576 := fun i hi => by
        refine Nat.le_trans (sumN_bound (m := 1048576) fun j _ => rowsOf_len hl hw) (Nat.mul_le_mul_right _ hi)
      have hloop := lp_for (body := p_laws_FnPartOf_b0 r) (fun k => (((sumN k (fun i => (rowsOf r.1 (i : Int)).length) : Nat) : Int), (k : Int))) 8 (.inl ((sumN 8 (fun i => (rowsOf r.1 (i : Int)).length) : Nat) : Int)) (fun k hk => by
        unfold p_laws_FnPartOf_b0
        have h7 : ((k : Nat) : Int) ≤ 7 := by omega
        have hpo : partOf r.1 (k : Int) = rowsOf r.1 (k : Int) := by unfold partOf; rw [hp]; rfl
        have ham : decide (0 ≤ place r.1.1 (k : Int)) = decide (0 < ((rowsOf r.1 (k : Int)).length : Int)) := by
          have h9 := rowsOf_pos hp (k : Int)
          have h8 : (0 ≤ place r.1.1 (k : Int)) ↔ (0 : Int) < ((rowsOf r.1 (k : Int)).length : Int) := by rw [h9]; omega
          simp only [h8]
        have h1 := hb (k + 1) (by omega)
        simp only [sumN] at h1
        have g1 : I64 (((sumN k (fun i => (rowsOf r.1 (i : Int)).length) : Nat) : Int) + ((rowsOf r.1 (k : Int)).length : Int)) := by unfold I64; omega
        have g2 : I64 ((k : Int) + 1) := by unfold I64; omega
        simp only [h7, decide_true, cond_true, e_impl_PartOf r.1 _ ok hw, bd_some, hpo, e_lyAmong _ _ ok.1.1, ham, Bool.not_true, cond_false, gd.yes g1, gd.yes g2, sumN]
        simp) (by unfold p_laws_FnPartOf_b0; simp)
      have hl0 : lp (p_laws_FnPartOf_b0 r) (0, 0) = some (.inl ((sumN 8 (fun i => (rowsOf r.1 (i : Int)).length) : Nat) : Int)) := by simpa [sumN] using hloop
      simp [hl0, sw, e_impl_PartRows r.1 ok hw hp, rowsOf_all hp]
end Go.Proofs.Ytfcdncblogldnaa
