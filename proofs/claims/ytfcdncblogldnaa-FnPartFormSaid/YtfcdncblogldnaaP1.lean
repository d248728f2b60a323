/- Plain laws of the plain functions. Conditions: lengths that memory can hold. -/
import Derived.Test.YtfcdncblogldnaaW3
import Derived.Test.YtfcdncblogldnaaSxB

namespace Go.Proofs.Ytfcdncblogldnaa
open Go Go.Sx
def inn (lo n hi : Int) : Bool := decide (lo ≤ n) && decide (n ≤ hi)
theorem e_impl_within (n lo hi : Int) : p_impl_within n lo hi = some (inn lo n hi) := by
  unfold p_impl_within inn; cases decide (lo ≤ n) <;> rfl
theorem e_spec_l6In (n lo hi : Int) : p_spec_l6In n lo hi = some (inn lo n hi) := by
  unfold p_spec_l6In inn; cases decide (lo ≤ n) <;> rfl
def rowOk (r : Row) : Bool := inn 0 r.1 99 && inn (-99) r.2 99
theorem e_impl_rowOk (r : Row) : p_impl_rowOk r = some (rowOk r) := by
  unfold p_impl_rowOk rowOk; simp only [e_impl_within, bd_some]; cases inn 0 r.1 99 <;> rfl
theorem e_spec_l2Row (r : Row) : p_spec_l2Row r = some (rowOk r) := by
  unfold p_spec_l2Row rowOk; simp only [e_spec_l6In, bd_some]; cases inn 0 r.1 99 <;> rfl
def rowBad (b : List Row) (k : Nat) : Bool := !rowOk (nth b k) || (decide (0 < k) && decide ((nth b k).1 ≤ (nth b (k - 1)).1))
def blockOk (b : List Row) : Bool := allN b.length (rowBad b) && decide ((b.length : Int) ≤ 24)
theorem e_impl_BlockOk (b : List Row) (hb : b.length ≤ maxLen) : p_impl_BlockOk b = some (blockOk b) := by
  have hb' : b.length ≤ 9223372036854775807 := hb
  have hr : ∀ k, k < b.length → p_impl_BlockOk_b0 b (k : Int) = some (if rowBad b k then .inr (.inr false) else .inl ((k + 1 : Nat) : Int)) := fun k hk => by
    unfold p_impl_BlockOk_b0 rowBad
    simp only [dlt hk, cond_true, gd.yes (ixN hk), e_impl_rowOk, bd_some, Int.toNat_natCast, gd.yes (i64S hk hb')]
    cases h1 : rowOk (nth b k) with
    | false => simp
    | true =>
      simp only [Bool.not_true, cond_false, Bool.false_or]
      by_cases h0 : 0 < k
      · have h0' : (0 : Int) < k := by omega
        have e1 : (k : Int) - 1 = ((k - 1 : Nat) : Int) := by omega
        have hi : I64 ((k - 1 : Nat) : Int) := by unfold I64; omega
        simp only [h0, h0', decide_true, cond_true, e1, gd.yes hi, gd.yes (ixN (show k - 1 < b.length by omega)), Int.toNat_natCast, bd_some, Bool.true_and]
        cases decide ((nth b k).1 ≤ (nth b (k - 1)).1) <;> simp
      · have h0' : ¬ (0 : Int) < k := by omega
        simp [h0]
  unfold p_impl_BlockOk blockOk
  rcases lp_scan (body := p_impl_BlockOk_b0 b) (fun k => (k : Int)) b.length (rowBad b) (.inl ()) (fun _ => .inr false) (fun k hk _ h => by simp [hr k hk, h]) (fun k hk _ h => by simp [hr k hk, h]) (fun _ => by unfold p_impl_BlockOk_b0; simp) with ⟨h1, h2⟩ | ⟨h1, k, _, _, _, h2⟩
  · rw [show (lp (p_impl_BlockOk_b0 b) 0) = _ from h2, h1]; simp [sw]
  · rw [show (lp (p_impl_BlockOk_b0 b) 0) = _ from h2, h1]; simp [sw]
theorem e_spec_BlockOk (b : List Row) (hb : b.length ≤ maxLen) : p_spec_BlockOk b = some (blockOk b) := by
  have hb' : b.length ≤ 9223372036854775807 := hb
  have hr : ∀ k, k < b.length → p_spec_BlockOk_b0 b (k : Int) = some (if rowBad b k then .inr (.inr false) else .inl ((k + 1 : Nat) : Int)) := fun k hk => by
    unfold p_spec_BlockOk_b0 rowBad
    simp only [dlt hk, cond_true, gd.yes (ixN hk), e_spec_l2Row, bd_some, Int.toNat_natCast, gd.yes (i64S hk hb')]
    cases h1 : rowOk (nth b k) with
    | false => simp
    | true =>
      simp only [Bool.not_true, cond_false, Bool.false_or]
      by_cases h0 : 0 < k
      · have h0' : (0 : Int) < k := by omega
        have e1 : (k : Int) - 1 = ((k - 1 : Nat) : Int) := by omega
        have hi : I64 ((k - 1 : Nat) : Int) := by unfold I64; omega
        simp only [h0, h0', decide_true, cond_true, e1, gd.yes hi, gd.yes (ixN (show k - 1 < b.length by omega)), Int.toNat_natCast, bd_some, Bool.true_and]
        cases decide ((nth b k).1 ≤ (nth b (k - 1)).1) <;> simp
      · simp [h0]
  unfold p_spec_BlockOk blockOk
  rcases lp_scan (body := p_spec_BlockOk_b0 b) (fun k => (k : Int)) b.length (rowBad b) (.inl ()) (fun _ => .inr false) (fun k hk _ h => by simp [hr k hk, h]) (fun k hk _ h => by simp [hr k hk, h]) (fun _ => by unfold p_spec_BlockOk_b0; simp) with ⟨h1, h2⟩ | ⟨h1, k, _, _, _, h2⟩
  · rw [show (lp (p_spec_BlockOk_b0 b) 0) = _ from h2, h1]; simp [sw]
  · rw [show (lp (p_spec_BlockOk_b0 b) 0) = _ from h2, h1]; simp [sw]
def partBad (p : Part) (k : Nat) : Bool := ((!inn 1 (nth p.1 k) 6 || (decide (0 < k) && decide (nth p.1 k ≤ nth p.1 (k - 1)))) || !blockOk (nth p.2 k)) || decide ((nth p.2 k).length = 0)
def partOk (p : Part) : Bool := decide (p.1.length = p.2.length) && allN p.1.length (partBad p)
theorem e_impl_PartOk (p : Part) (hp : Dp.ok p) : p_impl_PartOk p = some (partOk p) := by
  obtain ⟨⟨hp1, _⟩, _, hp2⟩ := hp
  have hp1 : p.1.length ≤ 9223372036854775807 := hp1
  unfold p_impl_PartOk partOk
  by_cases hl : p.1.length = p.2.length
  · have hr : ∀ k, k < p.1.length → p_impl_PartOk_b0 p (k : Int) = some (if partBad p k then .inr (.inr false) else .inl ((k + 1 : Nat) : Int)) := fun k hk => by
      have hk2 : k < p.2.length := by omega
      unfold p_impl_PartOk_b0 partBad
      simp only [dlt hk, cond_true, gd.yes (ixN hk), gd.yes (ixN hk2), e_impl_within, e_impl_BlockOk _ (hp2 k hk2).1, bd_some, Int.toNat_natCast, gd.yes (i64S hk hp1)]
      cases h1 : inn 1 (nth p.1 k) 6 with
      | false => simp
      | true =>
        by_cases h0 : 0 < k
        · have h0' : (0 : Int) < k := by omega
          have e1 : (k : Int) - 1 = ((k - 1 : Nat) : Int) := by omega
          have hi : I64 ((k - 1 : Nat) : Int) := by unfold I64; omega
          simp only [h0, h0', decide_true, cond_true, e1, gd.yes hi, gd.yes (ixN (show k - 1 < p.1.length by omega)), Int.toNat_natCast, bd_some, Bool.true_and, Bool.not_true, cond_false, Bool.false_or]
          cases decide (nth p.1 k ≤ nth p.1 (k - 1)) <;> cases blockOk (nth p.2 k) <;> cases h9 : decide ((nth p.2 k).length = 0) <;> simp_all
        · simp only [h0, Bool.not_true, cond_false, Bool.false_or, decide_false, Bool.false_and]
          cases blockOk (nth p.2 k) <;> cases h9 : decide ((nth p.2 k).length = 0) <;> simp_all
    rcases lp_scan (body := p_impl_PartOk_b0 p) (fun k => (k : Int)) p.1.length (partBad p) (.inl ()) (fun _ => .inr false) (fun k hk _ h => by simp [hr k hk, h]) (fun k hk _ h => by simp [hr k hk, h]) (fun _ => by unfold p_impl_PartOk_b0; simp) with ⟨h1, h2⟩ | ⟨h1, k, _, _, _, h2⟩
    · rw [show (lp (p_impl_PartOk_b0 p) 0) = _ from h2, h1]; simp [sw, hl]
    · rw [show (lp (p_impl_PartOk_b0 p) 0) = _ from h2, h1]; simp [sw, hl]
  · have : ¬ (p.1.length : Int) = (p.2.length : Int) := by omega
    simp [this, hl]
theorem e_spec_PartOk (p : Part) (hp : Dp.ok p) : p_spec_PartOk p = some (partOk p) := by
  obtain ⟨⟨hp1, _⟩, _, hp2⟩ := hp
  have hp1 : p.1.length ≤ 9223372036854775807 := hp1
  unfold p_spec_PartOk partOk
  by_cases hl : p.1.length = p.2.length
  · have hr : ∀ k, k < p.1.length → p_spec_PartOk_b0 p (k : Int) = some (if partBad p k then .inr (.inr false) else .inl ((k + 1 : Nat) : Int)) := fun k hk => by
      have hk2 : k < p.2.length := by omega
      unfold p_spec_PartOk_b0 partBad
      simp only [dlt hk, cond_true, gd.yes (ixN hk), gd.yes (ixN hk2), e_spec_l6In, e_spec_BlockOk _ (hp2 k hk2).1, bd_some, Int.toNat_natCast, gd.yes (i64S hk hp1)]
      cases h1 : inn 1 (nth p.1 k) 6 with
      | false => simp
      | true =>
        by_cases h0 : 0 < k
        · have h0' : (0 : Int) < k := by omega
          have e1 : (k : Int) - 1 = ((k - 1 : Nat) : Int) := by omega
          have hi : I64 ((k - 1 : Nat) : Int) := by unfold I64; omega
          simp only [h0, h0', decide_true, cond_true, e1, gd.yes hi, gd.yes (ixN (show k - 1 < p.1.length by omega)), Int.toNat_natCast, bd_some, Bool.true_and, Bool.not_true, cond_false, Bool.false_or]
          cases decide (nth p.1 k ≤ nth p.1 (k - 1)) <;> cases blockOk (nth p.2 k) <;> cases h9 : decide ((nth p.2 k).length = 0) <;> simp_all
        · simp only [h0, Bool.not_true, cond_false, Bool.false_or, decide_false, Bool.false_and]
          cases blockOk (nth p.2 k) <;> cases h9 : decide ((nth p.2 k).length = 0) <;> simp_all
    rcases lp_scan (body := p_spec_PartOk_b0 p) (fun k => (k : Int)) p.1.length (partBad p) (.inl ()) (fun _ => .inr false) (fun k hk _ h => by simp [hr k hk, h]) (fun k hk _ h => by simp [hr k hk, h]) (fun _ => by unfold p_spec_PartOk_b0; simp) with ⟨h1, h2⟩ | ⟨h1, k, _, _, _, h2⟩
    · rw [show (lp (p_spec_PartOk_b0 p) 0) = _ from h2, h1]; simp [sw, hl]
    · rw [show (lp (p_spec_PartOk_b0 p) 0) = _ from h2, h1]; simp [sw, hl]
  · have : ¬ (p.1.length : Int) = (p.2.length : Int) := by omega
    simp [this, hl]
theorem mt_total (k : Int) (h0 : 0 ≤ k) (hk : k ≤ 1152921504606846976) : ∃ t, p_laws_markText k = some t := by
  unfold p_laws_markText
  by_cases hz : k ≤ 0
  · simp [hz]
  · simp only [hz, decide_false, cond_false]
    obtain ⟨e, he, hs⟩ := lp.rule (body := p_laws_markText_b0) (fun σ => 0 ≤ σ.1 ∧ ∃ j, j ≤ 61 ∧ σ.2.size + j ≤ 61 ∧ σ.1 < (2 : Int) ^ j) (fun σ => σ.1.toNat) (fun e => e.size ≤ 61) (fun σ hI => by
      obtain ⟨i0, j, j1, j2, j3⟩ := hI
      unfold p_laws_markText_b0
      by_cases hp : 0 < σ.1
      · left
        have hj : 0 < j := by
          rcases Nat.eq_zero_or_pos j with rfl | h
          · simp at j3; omega
          · exact h
        have hpow : (2 : Int) ^ j = 2 * 2 ^ (j - 1) := by
          rw [show j = (j - 1) + 1 by omega, Int.pow_succ]; simp; omega
        have hbig : (2 : Int) ^ j ≤ 2 ^ 61 := by
          have : (2 : Nat) ^ j ≤ 2 ^ 61 := Nat.pow_le_pow_right (by decide) j1
          have h2 : ((2 ^ j : Nat) : Int) ≤ ((2 ^ 61 : Nat) : Int) := by omega
          simpa using h2
        have hm : 0 ≤ σ.1.tmod 10 ∧ σ.1.tmod 10 < 10 := by
          rw [Int.tmod_eq_emod_of_nonneg i0]; omega
        have hd : σ.1.tdiv 10 = σ.1 / 10 := Int.tdiv_eq_ediv_of_nonneg i0
        have g1 : I64 (σ.1.tmod 10) := by unfold I64; omega
        have g2 : I64 (48 + σ.1.tmod 10) := by unfold I64; omega
        have g3 : I64 (σ.1.tdiv 10) := by rw [hd]; unfold I64; omega
        have g4 : room ((s2 [b8 (48 + σ.1.tmod 10)]).size + σ.2.size) := by
          have : (s2 [b8 (48 + σ.1.tmod 10)]).size = 1 := rfl
          unfold room; omega
        refine ⟨(σ.1.tdiv 10, s2 [b8 (48 + σ.1.tmod 10)] ++ σ.2), by simp only [hp, decide_true, cond_true, gd.yes g1, gd.yes g2, gd.yes g3, gd.yes g4], ⟨by rw [hd]; show 0 ≤ σ.1 / 10; omega, j - 1, by omega, ?_, ?_⟩, ?_⟩
        · have : (s2 [b8 (48 + σ.1.tmod 10)] ++ σ.2).size = 1 + σ.2.size := by rw [ByteArray.size_append]; rfl
          show (s2 [b8 (48 + σ.1.tmod 10)] ++ σ.2).size + (j - 1) ≤ 61
          omega
        · show σ.1.tdiv 10 < _
          rw [hd]; omega
        · show (σ.1.tdiv 10).toNat < σ.1.toNat
          rw [hd]; omega
      · right
        exact ⟨σ.2, by simp [hp], by omega⟩) (s := (k, (⟨#[]⟩ : ByteArray))) ⟨h0, 61, Nat.le_refl _, Nat.le_refl _, by show k < _; omega⟩
    rw [he, bd_some]
    have : room ((⟨#[109]⟩ : ByteArray).size + e.size) := by
      have h1 : (⟨#[109]⟩ : ByteArray).size = 1 := rfl
      unfold room; omega
    rw [gd.yes this]
    exact ⟨_, rfl⟩
-- KIT
theorem s_IntS (a : (List Int)) (left : Int) (h0 : 0 ≤ left) (h1 : left ≤ 1048576) (ok : Dp.ok a) : p_laws_szIntS a left = some (cut left (Wt.w a)) := by
  have hm : a.length ≤ 9223372036854775807 := ok.1
  unfold p_laws_szIntS
  have hw : Wt.w a = a.length := by show a.length + sumN a.length (fun i => Wt.w (nth a i)) = _; rw [sumN_zero (f := fun i => Wt.w (nth a i)) fun i _ => rfl]; rfl
  rw [hw]; exact sz_strl (by unfold I64; omega)
theorem s_RowS (a : (List Row)) (left : Int) (h0 : 0 ≤ left) (h1 : left ≤ 1048576) (ok : Dp.ok a) : p_laws_szRowS a left = some (cut left (Wt.w a)) := by
  have hm : a.length ≤ 9223372036854775807 := ok.1
  unfold p_laws_szRowS
  have hw : Wt.w a = a.length := by show a.length + sumN a.length (fun i => Wt.w (nth a i)) = _; rw [sumN_zero (f := fun i => Wt.w (nth a i)) fun i _ => rfl]; rfl
  rw [hw]; exact sz_strl (by unfold I64; omega)
theorem s_RowSS (a : (List (List Row))) (left : Int) (h0 : 0 ≤ left) (h1 : left ≤ 1048576) (ok : Dp.ok a) : p_laws_szRowSS a left = some (cut left (Wt.w a)) := by
  have hm : a.length ≤ 9223372036854775807 := ok.1
  unfold p_laws_szRowSS
  refine sz_str (w2 := sumN a.length fun i => Wt.w (nth a i)) (by unfold I64; omega) fun hc => ?_
  rw [cut_lt] at hc; rw [← cut_pos hc]
  exact sz_loop (l := a) (by omega) (by omega) (fun k hk m m0 m1 => by
    unfold p_laws_szRowSS_b0
    simp only [dlt hk, cond_true, gd.yes (ixN hk), Int.toNat_natCast, s_RowS (nth a k) m m0 m1 (ok.2 k hk), bd_some, gd.yes (i64S hk hm)]
    by_cases hc : cut m (Wt.w (nth a k)) < 0 <;> simp [hc]) (fun m => by unfold p_laws_szRowSS_b0; simp)
theorem s_Part (a : Part) (left : Int) (h0 : 0 ≤ left) (h1 : left ≤ 1048576) (ok : Dp.ok a) : p_laws_szPart a left = some (cut left (Wt.w a)) := by
  have hw : Wt.w a = Wt.w a.1 + (Wt.w a.2) := by
    simp only [Wt.w]
    first | done | omega
  rw [hw]; unfold p_laws_szPart
  refine sz_step (s_IntS a.1 left h0 h1 ok.1) fun c0 => ?_
  exact sz_last (s_RowSS a.2 (cut left (Wt.w a.1)) (cut_nn c0) (cut_rng h1) ok.2)
theorem t_IntS (a : (List Int)) (ok : Dp.ok a) (hw : Wt.w a ≤ 1048576) : p_laws_toIntS a = some a := by
  have hm : a.length ≤ 1048576 := Nat.le_trans wL_le hw
  unfold p_laws_toIntS
  rw [gd.yes (by unfold many; omega)]
  simp only [Int.toNat_natCast]
  rw [to_loop (l := a) (by simp) (fun k hk r hr => by
    unfold p_laws_toIntS_b0
    have hk2 : k < r.length := by omega
    simp only [dlt hk, cond_true, gd.yes (ixN hk), gd.yes (ixN hk2), Int.toNat_natCast, bd_some, gd.yes (i64S hk (by omega))]
    first | done | rfl) (fun r => by unfold p_laws_toIntS_b0; simp)]
  rfl
theorem t_Row (a : Row) (ok : Dp.ok a) (hw : Wt.w a ≤ 1048576) : p_laws_toRow a = some a := by
  unfold p_laws_toRow
  rfl
theorem t_RowS (a : (List Row)) (ok : Dp.ok a) (hw : Wt.w a ≤ 1048576) : p_laws_toRowS a = some a := by
  have hm : a.length ≤ 1048576 := Nat.le_trans wL_le hw
  unfold p_laws_toRowS
  rw [gd.yes (by unfold many; omega)]
  simp only [Int.toNat_natCast]
  rw [to_loop (l := a) (by simp) (fun k hk r hr => by
    unfold p_laws_toRowS_b0
    have hk2 : k < r.length := by omega
    simp only [dlt hk, cond_true, gd.yes (ixN hk), gd.yes (ixN hk2), Int.toNat_natCast, t_Row (nth a k) (ok.2 k hk) (Nat.le_trans (wL_el hk) hw), bd_some, gd.yes (i64S hk (by omega))]
    first | done | rfl) (fun r => by unfold p_laws_toRowS_b0; simp)]
  rfl
theorem t_RowSS (a : (List (List Row))) (ok : Dp.ok a) (hw : Wt.w a ≤ 1048576) : p_laws_toRowSS a = some a := by
  have hm : a.length ≤ 1048576 := Nat.le_trans wL_le hw
  unfold p_laws_toRowSS
  rw [gd.yes (by unfold many; omega)]
  simp only [Int.toNat_natCast]
  rw [to_loop (l := a) (by simp) (fun k hk r hr => by
    unfold p_laws_toRowSS_b0
    have hk2 : k < r.length := by omega
    simp only [dlt hk, cond_true, gd.yes (ixN hk), gd.yes (ixN hk2), Int.toNat_natCast, t_RowS (nth a k) (ok.2 k hk) (Nat.le_trans (wL_el hk) hw), bd_some, gd.yes (i64S hk (by omega))]
    first | done | rfl) (fun r => by unfold p_laws_toRowSS_b0; simp)]
  rfl
theorem t_Part (a : Part) (ok : Dp.ok a) (hw : Wt.w a ≤ 1048576) : p_laws_toPart a = some a := by
  unfold p_laws_toPart
  simp only [t_IntS a.1 ok.1 (by simp only [Wt.w] at hw ⊢; omega), t_RowSS a.2 ok.2 (by simp only [Wt.w] at hw ⊢; omega), bd_some]
theorem q_IntS (a b : (List Int)) (ha : Dp.ok a) (hb : Dp.ok b) : p_laws_eqIntS a b = some (decide (a = b)) := by
  have hm : a.length ≤ 9223372036854775807 := ha.1
  unfold p_laws_eqIntS
  by_cases hl : a.length = b.length
  · have hl2 : (a.length : Int) = (b.length : Int) := by omega
    simp only [hl2, decide_true, Bool.not_true, cond_false]
    refine eq_loop hl (fun k hk => ?_) ?_
    · have hk2 : k < b.length := by omega
      unfold p_laws_eqIntS_b0
      simp only [dlt hk, cond_true, gd.yes (ixN hk), gd.yes (ixN hk2), Int.toNat_natCast, bd_some, gd.yes (i64S hk hm)]
      by_cases h : nth a k = nth b k <;> simp [h]
    · unfold p_laws_eqIntS_b0; simp
  · have h2 : ¬ (a.length : Int) = (b.length : Int) := by omega
    have h3 : a ≠ b := fun e => hl (by rw [e])
    simp [h2, h3]
theorem q_Row (a b : Row) (ha : Dp.ok a) (hb : Dp.ok b) : p_laws_eqRow a b = some (decide (a = b)) := by
  have he : a = b ↔ a.1 = b.1 ∧ a.2 = b.2 := by
    constructor
    · rintro rfl; simp
    · rintro ⟨h0, h1⟩; exact Prod.ext h0 (h1)
  unfold p_laws_eqRow
  simp only [bd_some, he]
  by_cases h0 : a.1 = b.1
  · by_cases h1 : a.2 = b.2
    · simp [h0, h1]
    · simp [h0, h1]
  · simp [h0]
theorem q_RowS (a b : (List Row)) (ha : Dp.ok a) (hb : Dp.ok b) : p_laws_eqRowS a b = some (decide (a = b)) := by
  have hm : a.length ≤ 9223372036854775807 := ha.1
  unfold p_laws_eqRowS
  by_cases hl : a.length = b.length
  · have hl2 : (a.length : Int) = (b.length : Int) := by omega
    simp only [hl2, decide_true, Bool.not_true, cond_false]
    refine eq_loop hl (fun k hk => ?_) ?_
    · have hk2 : k < b.length := by omega
      unfold p_laws_eqRowS_b0
      simp only [dlt hk, cond_true, gd.yes (ixN hk), gd.yes (ixN hk2), Int.toNat_natCast, q_Row (nth a k) (nth b k) (ha.2 k hk) (hb.2 k hk2), bd_some, gd.yes (i64S hk hm)]
      by_cases h : nth a k = nth b k <;> simp [h]
    · unfold p_laws_eqRowS_b0; simp
  · have h2 : ¬ (a.length : Int) = (b.length : Int) := by omega
    have h3 : a ≠ b := fun e => hl (by rw [e])
    simp [h2, h3]
theorem q_RowSS (a b : (List (List Row))) (ha : Dp.ok a) (hb : Dp.ok b) : p_laws_eqRowSS a b = some (decide (a = b)) := by
  have hm : a.length ≤ 9223372036854775807 := ha.1
  unfold p_laws_eqRowSS
  by_cases hl : a.length = b.length
  · have hl2 : (a.length : Int) = (b.length : Int) := by omega
    simp only [hl2, decide_true, Bool.not_true, cond_false]
    refine eq_loop hl (fun k hk => ?_) ?_
    · have hk2 : k < b.length := by omega
      unfold p_laws_eqRowSS_b0
      simp only [dlt hk, cond_true, gd.yes (ixN hk), gd.yes (ixN hk2), Int.toNat_natCast, q_RowS (nth a k) (nth b k) (ha.2 k hk) (hb.2 k hk2), bd_some, gd.yes (i64S hk hm)]
      by_cases h : nth a k = nth b k <;> simp [h]
    · unfold p_laws_eqRowSS_b0; simp
  · have h2 : ¬ (a.length : Int) = (b.length : Int) := by omega
    have h3 : a ≠ b := fun e => hl (by rw [e])
    simp [h2, h3]
theorem q_Part (a b : Part) (ha : Dp.ok a) (hb : Dp.ok b) : p_laws_eqPart a b = some (decide (a = b)) := by
  have he : a = b ↔ a.1 = b.1 ∧ a.2 = b.2 := by
    constructor
    · rintro rfl; simp
    · rintro ⟨h0, h1⟩; exact Prod.ext h0 (h1)
  unfold p_laws_eqPart
  simp only [q_IntS a.1 b.1 ha.1 hb.1, q_RowSS a.2 b.2 ha.2 hb.2, bd_some, he]
  by_cases h0 : a.1 = b.1
  · by_cases h1 : a.2 = b.2
    · simp [h0, h1]
    · simp [h0, h1]
  · simp [h0]
theorem m_IntS (a : (List Int)) (k : Int) (h0 : 0 ≤ k) (hB : k + (Ct.ct a : Nat) ≤ 1152921504606846976) (ok : Dp.ok a) : MkR p_laws_markIntS p_laws_heldIntS a k := by
  have hm : a.length ≤ 9223372036854775807 := ok.1
  obtain ⟨k1, r, e1, e2, e3, e4, e5⟩ := mark_loop (l := a) (B := 1152921504606846976) (bm := p_laws_markIntS_b0 a) (bh := fun r => p_laws_heldIntS_b0 r) (fun i hi r hr hn k h0 hB => by
    have hi2 : i < r.length := by omega
    have hc : Ct.ct (nth a i) = 1 := rfl
    have g1 : I64 (k + 1) := i64B (by omega) (by omega)
    refine ⟨k, k + 1, ?_, by omega, by omega, fun r' hr' hu => ?_⟩
    · unfold p_laws_markIntS_b0
      simp only [dlt hi, cond_true, Int.toNat_natCast, List.length_set, gd.yes (ixN hi2), nth_set_eq hi2, List.set_set, hn, gd.yes g1, bd_some, gd.yes (i64S hi hm)]
      first | done | rfl
    · have hi3 : i < r'.length := by omega
      unfold p_laws_heldIntS_b0
      simp [hi3, gd.yes (ixN hi3), hu, gd.yes g1, gd.yes (i64S hi hm)])
    (fun r k hr => by unfold p_laws_markIntS_b0; simp) (fun r k hr => by unfold p_laws_heldIntS_b0; simp [hr]) h0 hB
  refine ⟨k1, r, ?_, e3, e4, ?_⟩
  · unfold p_laws_markIntS; rw [e1]; rfl
  · unfold p_laws_heldIntS; rw [e5]; rfl
theorem m_RowS (a : (List Row)) (k : Int) (h0 : 0 ≤ k) (hB : k + (Ct.ct a : Nat) ≤ 1152921504606846976) (ok : Dp.ok a) : MkR p_laws_markRowS p_laws_heldRowS a k := by
  have hm : a.length ≤ 9223372036854775807 := ok.1
  obtain ⟨k1, r, e1, e2, e3, e4, e5⟩ := mark_loop (l := a) (B := 1152921504606846976) (bm := p_laws_markRowS_b0 a) (bh := fun r => p_laws_heldRowS_b0 r) (fun i hi r hr hn k h0 hB => by
    have hi2 : i < r.length := by omega
    have hc : Ct.ct (nth a i) = 1 + (1) := rfl
    have g1 : I64 (k + 1) := i64B (by omega) (by omega)
    have g2 : I64 ((k + 1) + 1) := i64B (by omega) (by omega)
    refine ⟨(k, k + 1), (k + 1) + 1, ?_, by omega, by omega, fun r' hr' hu => ?_⟩
    · unfold p_laws_markRowS_b0
      simp only [dlt hi, cond_true, Int.toNat_natCast, List.length_set, gd.yes (ixN hi2), nth_set_eq hi2, List.set_set, hn, gd.yes g1, gd.yes g2, bd_some, gd.yes (i64S hi hm)]
      first | done | rfl
    · have hi3 : i < r'.length := by omega
      unfold p_laws_heldRowS_b0
      simp [hi3, gd.yes (ixN hi3), hu, gd.yes g1, gd.yes g2, gd.yes (i64S hi hm)])
    (fun r k hr => by unfold p_laws_markRowS_b0; simp) (fun r k hr => by unfold p_laws_heldRowS_b0; simp [hr]) h0 hB
  refine ⟨k1, r, ?_, e3, e4, ?_⟩
  · unfold p_laws_markRowS; rw [e1]; rfl
  · unfold p_laws_heldRowS; rw [e5]; rfl
theorem m_RowSS (a : (List (List Row))) (k : Int) (h0 : 0 ≤ k) (hB : k + (Ct.ct a : Nat) ≤ 1152921504606846976) (ok : Dp.ok a) : MkR p_laws_markRowSS p_laws_heldRowSS a k := by
  have hm : a.length ≤ 9223372036854775807 := ok.1
  obtain ⟨k1, r, e1, e2, e3, e4, e5⟩ := mark_loop (l := a) (B := 1152921504606846976) (bm := p_laws_markRowSS_b0 a) (bh := fun r => p_laws_heldRowSS_b0 r) (fun i hi r hr hn k h0 hB => by
    have hi2 : i < r.length := by omega
    have hc : Ct.ct (nth a i) = Ct.ct (nth a i) := rfl
    obtain ⟨c1, s1, x1, y1, z1, w1⟩ := m_RowS (nth a i) (k) (by omega) (by omega) (ok.2 i hi)
    have q1 : ¬ c1 < 0 := by omega
    refine ⟨s1, c1, ?_, by omega, by omega, fun r' hr' hu => ?_⟩
    · unfold p_laws_markRowSS_b0
      simp only [dlt hi, cond_true, Int.toNat_natCast, List.length_set, gd.yes (ixN hi2), nth_set_eq hi2, List.set_set, hn, x1, bd_some, gd.yes (i64S hi hm)]
      first | done | rfl
    · have hi3 : i < r'.length := by omega
      unfold p_laws_heldRowSS_b0
      simp [hi3, gd.yes (ixN hi3), hu, w1, q1, gd.yes (i64S hi hm)])
    (fun r k hr => by unfold p_laws_markRowSS_b0; simp) (fun r k hr => by unfold p_laws_heldRowSS_b0; simp [hr]) h0 hB
  refine ⟨k1, r, ?_, e3, e4, ?_⟩
  · unfold p_laws_markRowSS; rw [e1]; rfl
  · unfold p_laws_heldRowSS; rw [e5]; rfl
theorem m_Part (a : Part) (k : Int) (h0 : 0 ≤ k) (hB : k + (Ct.ct a : Nat) ≤ 1152921504606846976) (ok : Dp.ok a) : MkR0 p_laws_markPart a k := by
  have hc : Ct.ct a = Ct.ct a.1 + (Ct.ct a.2) := rfl
  obtain ⟨k1, r1, e1, l1, u1, f1⟩ := m_IntS a.1 k (by omega) (by omega) ok.1
  obtain ⟨k2, r2, e2, l2, u2, f2⟩ := m_RowSS a.2 k1 (by omega) (by omega) ok.2
  refine ⟨k2, (r1, r2), ?_, by omega, by omega⟩
  · unfold p_laws_markPart; simp only [e1, e2, bd_some]
theorem q_File (a b : File) (ha : Dp.ok a) (hb : Dp.ok b) : p_laws_eqFile a b = some (decide (a = b)) := by
  have he : a = b ↔ a.1 = b.1 ∧ a.2 = b.2 := by
    constructor
    · rintro rfl; simp
    · rintro ⟨h0, h1⟩; exact Prod.ext h0 (h1)
  unfold p_laws_eqFile
  simp only [q_Part a.2 b.2 ha.2 hb.2, bd_some, he]
  by_cases h0 : a.1 = b.1
  · by_cases h1 : a.2 = b.2
    · simp [h0, h1]
    · simp [h0, h1]
  · simp [h0]
theorem q_FileS (a b : (List File)) (ha : Dp.ok a) (hb : Dp.ok b) : p_laws_eqFileS a b = some (decide (a = b)) := by
  have hm : a.length ≤ 9223372036854775807 := ha.1
  unfold p_laws_eqFileS
  by_cases hl : a.length = b.length
  · have hl2 : (a.length : Int) = (b.length : Int) := by omega
    simp only [hl2, decide_true, Bool.not_true, cond_false]
    refine eq_loop hl (fun k hk => ?_) ?_
    · have hk2 : k < b.length := by omega
      unfold p_laws_eqFileS_b0
      simp only [dlt hk, cond_true, gd.yes (ixN hk), gd.yes (ixN hk2), Int.toNat_natCast, q_File (nth a k) (nth b k) (ha.2 k hk) (hb.2 k hk2), bd_some, gd.yes (i64S hk hm)]
      by_cases h : nth a k = nth b k <;> simp [h]
    · unfold p_laws_eqFileS_b0; simp
  · have h2 : ¬ (a.length : Int) = (b.length : Int) := by omega
    have h3 : a ≠ b := fun e => hl (by rw [e])
    simp [h2, h3]
theorem q_Tag (a b : Tag) (ha : Dp.ok a) (hb : Dp.ok b) : p_laws_eqTag a b = some (decide (a = b)) := by
  have he : a = b ↔ a.1 = b.1 ∧ a.2 = b.2 := by
    constructor
    · rintro rfl; simp
    · rintro ⟨h0, h1⟩; exact Prod.ext h0 (h1)
  unfold p_laws_eqTag
  simp only [bd_some, he]
  by_cases h0 : a.1 = b.1
  · by_cases h1 : a.2 = b.2
    · simp [h0, h1]
    · simp [h0, h1]
  · simp [h0]
theorem q_TagS (a b : (List Tag)) (ha : Dp.ok a) (hb : Dp.ok b) : p_laws_eqTagS a b = some (decide (a = b)) := by
  have hm : a.length ≤ 9223372036854775807 := ha.1
  unfold p_laws_eqTagS
  by_cases hl : a.length = b.length
  · have hl2 : (a.length : Int) = (b.length : Int) := by omega
    simp only [hl2, decide_true, Bool.not_true, cond_false]
    refine eq_loop hl (fun k hk => ?_) ?_
    · have hk2 : k < b.length := by omega
      unfold p_laws_eqTagS_b0
      simp only [dlt hk, cond_true, gd.yes (ixN hk), gd.yes (ixN hk2), Int.toNat_natCast, q_Tag (nth a k) (nth b k) (ha.2 k hk) (hb.2 k hk2), bd_some, gd.yes (i64S hk hm)]
      by_cases h : nth a k = nth b k <;> simp [h]
    · unfold p_laws_eqTagS_b0; simp
  · have h2 : ¬ (a.length : Int) = (b.length : Int) := by omega
    have h3 : a ≠ b := fun e => hl (by rw [e])
    simp [h2, h3]
theorem q_TagSS (a b : (List (List Tag))) (ha : Dp.ok a) (hb : Dp.ok b) : p_laws_eqTagSS a b = some (decide (a = b)) := by
  have hm : a.length ≤ 9223372036854775807 := ha.1
  unfold p_laws_eqTagSS
  by_cases hl : a.length = b.length
  · have hl2 : (a.length : Int) = (b.length : Int) := by omega
    simp only [hl2, decide_true, Bool.not_true, cond_false]
    refine eq_loop hl (fun k hk => ?_) ?_
    · have hk2 : k < b.length := by omega
      unfold p_laws_eqTagSS_b0
      simp only [dlt hk, cond_true, gd.yes (ixN hk), gd.yes (ixN hk2), Int.toNat_natCast, q_TagS (nth a k) (nth b k) (ha.2 k hk) (hb.2 k hk2), bd_some, gd.yes (i64S hk hm)]
      by_cases h : nth a k = nth b k <;> simp [h]
    · unfold p_laws_eqTagSS_b0; simp
  · have h2 : ¬ (a.length : Int) = (b.length : Int) := by omega
    have h3 : a ≠ b := fun e => hl (by rw [e])
    simp [h2, h3]
theorem q_Disk (a b : Disk) (ha : Dp.ok a) (hb : Dp.ok b) : p_laws_eqDisk a b = some (decide (a = b)) := by
  have he : a = b ↔ a.1 = b.1 ∧ a.2.1 = b.2.1 ∧ a.2.2.1 = b.2.2.1 ∧ a.2.2.2 = b.2.2.2 := by
    constructor
    · rintro rfl; simp
    · rintro ⟨h0, h1, h2, h3⟩; exact Prod.ext h0 (Prod.ext h1 (Prod.ext h2 (h3)))
  unfold p_laws_eqDisk
  simp only [q_FileS a.1 b.1 ha.1 hb.1, q_IntS a.2.1 b.2.1 ha.2.1 hb.2.1, q_TagSS a.2.2.1 b.2.2.1 ha.2.2.1 hb.2.2.1, bd_some, he]
  by_cases h0 : a.1 = b.1
  · by_cases h1 : a.2.1 = b.2.1
    · by_cases h2 : a.2.2.1 = b.2.2.1
      · by_cases h3 : a.2.2.2 = b.2.2.2
        · simp [h0, h1, h2, h3]
        · simp [h0, h1, h2, h3]
      · simp [h0, h1, h2]
    · simp [h0, h1]
  · simp [h0]
theorem m_FileS (a : (List File)) (k : Int) (h0 : 0 ≤ k) (hB : k + (Ct.ct a : Nat) ≤ 1152921504606846976) (ok : Dp.ok a) : MkR p_laws_markFileS p_laws_heldFileS a k := by
  have hm : a.length ≤ 9223372036854775807 := ok.1
  obtain ⟨k1, r, e1, e2, e3, e4, e5⟩ := mark_loop (l := a) (B := 1152921504606846976) (bm := p_laws_markFileS_b0 a) (bh := fun r => p_laws_heldFileS_b0 r) (fun i hi r hr hn k h0 hB => by
    have hi2 : i < r.length := by omega
    have hc : Ct.ct (nth a i) = 1 + ((Ct.ct (((nth a i).2).1)) + (Ct.ct (((nth a i).2).2))) := rfl
    have g1 : I64 (k + 1) := i64B (by omega) (by omega)
    obtain ⟨c1, s1, x1, y1, z1, w1⟩ := m_IntS (((nth a i).2).1) (k + 1) (by omega) (by omega) (ok.2 i hi).2.1
    have q1 : ¬ c1 < 0 := by omega
    obtain ⟨c2, s2, x2, y2, z2, w2⟩ := m_RowSS (((nth a i).2).2) (c1) (by omega) (by omega) (ok.2 i hi).2.2
    have q2 : ¬ c2 < 0 := by omega
    refine ⟨(k, (s1, s2)), c2, ?_, by omega, by omega, fun r' hr' hu => ?_⟩
    · unfold p_laws_markFileS_b0
      simp only [dlt hi, cond_true, Int.toNat_natCast, List.length_set, gd.yes (ixN hi2), nth_set_eq hi2, List.set_set, hn, gd.yes g1, x1, x2, bd_some, gd.yes (i64S hi hm)]
      first | done | rfl
    · have hi3 : i < r'.length := by omega
      unfold p_laws_heldFileS_b0
      simp [hi3, gd.yes (ixN hi3), hu, gd.yes g1, w1, q1, w2, q2, gd.yes (i64S hi hm)])
    (fun r k hr => by unfold p_laws_markFileS_b0; simp) (fun r k hr => by unfold p_laws_heldFileS_b0; simp [hr]) h0 hB
  refine ⟨k1, r, ?_, e3, e4, ?_⟩
  · unfold p_laws_markFileS; rw [e1]; rfl
  · unfold p_laws_heldFileS; rw [e5]; rfl
theorem m_TagS (a : (List Tag)) (k : Int) (h0 : 0 ≤ k) (hB : k + (Ct.ct a : Nat) ≤ 1152921504606846976) (ok : Dp.ok a) : MkR p_laws_markTagS p_laws_heldTagS a k := by
  have hm : a.length ≤ 9223372036854775807 := ok.1
  obtain ⟨k1, r, e1, e2, e3, e4, e5⟩ := mark_loop (l := a) (B := 1152921504606846976) (bm := p_laws_markTagS_b0 a) (bh := fun r => p_laws_heldTagS_b0 r) (fun i hi r hr hn k h0 hB => by
    have hi2 : i < r.length := by omega
    have hc : Ct.ct (nth a i) = 1 + (1) := rfl
    obtain ⟨t0, ht0⟩ := mt_total (k) (by omega) (by omega)
    have g1 : I64 (k + 1) := i64B (by omega) (by omega)
    obtain ⟨t1, ht1⟩ := mt_total (k + 1) (by omega) (by omega)
    have g2 : I64 ((k + 1) + 1) := i64B (by omega) (by omega)
    refine ⟨(t0, t1), (k + 1) + 1, ?_, by omega, by omega, fun r' hr' hu => ?_⟩
    · unfold p_laws_markTagS_b0
      simp only [dlt hi, cond_true, Int.toNat_natCast, List.length_set, gd.yes (ixN hi2), nth_set_eq hi2, List.set_set, hn, ht0, gd.yes g1, ht1, gd.yes g2, bd_some, gd.yes (i64S hi hm)]
      first | done | rfl
    · have hi3 : i < r'.length := by omega
      unfold p_laws_heldTagS_b0
      simp [hi3, gd.yes (ixN hi3), hu, ht0, gd.yes g1, ht1, gd.yes g2, gd.yes (i64S hi hm)])
    (fun r k hr => by unfold p_laws_markTagS_b0; simp) (fun r k hr => by unfold p_laws_heldTagS_b0; simp [hr]) h0 hB
  refine ⟨k1, r, ?_, e3, e4, ?_⟩
  · unfold p_laws_markTagS; rw [e1]; rfl
  · unfold p_laws_heldTagS; rw [e5]; rfl
theorem m_TagSS (a : (List (List Tag))) (k : Int) (h0 : 0 ≤ k) (hB : k + (Ct.ct a : Nat) ≤ 1152921504606846976) (ok : Dp.ok a) : MkR p_laws_markTagSS p_laws_heldTagSS a k := by
  have hm : a.length ≤ 9223372036854775807 := ok.1
  obtain ⟨k1, r, e1, e2, e3, e4, e5⟩ := mark_loop (l := a) (B := 1152921504606846976) (bm := p_laws_markTagSS_b0 a) (bh := fun r => p_laws_heldTagSS_b0 r) (fun i hi r hr hn k h0 hB => by
    have hi2 : i < r.length := by omega
    have hc : Ct.ct (nth a i) = Ct.ct (nth a i) := rfl
    obtain ⟨c1, s1, x1, y1, z1, w1⟩ := m_TagS (nth a i) (k) (by omega) (by omega) (ok.2 i hi)
    have q1 : ¬ c1 < 0 := by omega
    refine ⟨s1, c1, ?_, by omega, by omega, fun r' hr' hu => ?_⟩
    · unfold p_laws_markTagSS_b0
      simp only [dlt hi, cond_true, Int.toNat_natCast, List.length_set, gd.yes (ixN hi2), nth_set_eq hi2, List.set_set, hn, x1, bd_some, gd.yes (i64S hi hm)]
      first | done | rfl
    · have hi3 : i < r'.length := by omega
      unfold p_laws_heldTagSS_b0
      simp [hi3, gd.yes (ixN hi3), hu, w1, q1, gd.yes (i64S hi hm)])
    (fun r k hr => by unfold p_laws_markTagSS_b0; simp) (fun r k hr => by unfold p_laws_heldTagSS_b0; simp [hr]) h0 hB
  refine ⟨k1, r, ?_, e3, e4, ?_⟩
  · unfold p_laws_markTagSS; rw [e1]; rfl
  · unfold p_laws_heldTagSS; rw [e5]; rfl
theorem m_Disk (a : Disk) (k : Int) (h0 : 0 ≤ k) (hB : k + (Ct.ct a : Nat) ≤ 1152921504606846976) (ok : Dp.ok a) : MkR p_laws_markDisk p_laws_heldDisk a k := by
  have hc : Ct.ct a = Ct.ct a.1 + (Ct.ct a.2.1 + (Ct.ct a.2.2.1 + (1))) := rfl
  obtain ⟨k1, r1, e1, l1, u1, f1⟩ := m_FileS a.1 k (by omega) (by omega) ok.1
  have q1 : ¬ k1 < 0 := by omega
  obtain ⟨k2, r2, e2, l2, u2, f2⟩ := m_IntS a.2.1 k1 (by omega) (by omega) ok.2.1
  have q2 : ¬ k2 < 0 := by omega
  obtain ⟨k3, r3, e3, l3, u3, f3⟩ := m_TagSS a.2.2.1 k2 (by omega) (by omega) ok.2.2.1
  have q3 : ¬ k3 < 0 := by omega
  refine ⟨k3, (r1, r2, r3, a.2.2.2), ?_, by omega, by omega, ?_⟩
  · unfold p_laws_markDisk; simp only [e1, e2, e3, bd_some]
  · unfold p_laws_heldDisk; simp [f1, q1, f2, q2, f3, q3]
end Go.Proofs.Ytfcdncblogldnaa
