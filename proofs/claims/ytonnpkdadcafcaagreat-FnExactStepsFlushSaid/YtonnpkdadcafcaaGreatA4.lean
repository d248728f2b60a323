/- The walks and the plain laws, part 4: each function that the law reaches computes what its plain function tells, and what the plain functions answer. Conditions: lengths that memory can hold. -/
import Derived.Test.YtonnpkdadcafcaaGreatA3
namespace Go.Proofs.YtonnpkdadcafcaaGreat
open Go Go.Sx Tryz
theorem s_Index (a : Index) (left : Int) (h0 : 0 ≤ left) (h1 : left ≤ 1048576) (ok : Dp.ok a) (so : So.so a) : p_laws_szIndex a left = some (cut left (Wt.w a)) := by
 have hw : Wt.w a = Wt.w a.1 + (Wt.w a.2) := by
  simp only [Wt.w]
  first | done | omega
 rw [hw]; unfold p_laws_szIndex
 refine sz_step (s_TagSS a.1 left h0 h1 ok.1 so.1) fun c0 => ?_
 exact sz_last (s_PostS a.2 (cut left (Wt.w a.1)) (cut_nn c0) (cut_rng h1) ok.2 so.2)
theorem s_PartS (a : (List Part)) (left : Int) (h0 : 0 ≤ left) (h1 : left ≤ 1048576) (ok : Dp.ok a) : p_laws_szPartS a left = some (cut left (Wt.w a)) := by
 have hm : a.length ≤ 9223372036854775807 := ok.1
 unfold p_laws_szPartS
 refine sz_str (w2 := sumN a.length fun i => Wt.w (nth a i)) (by unfold I64; omega) fun hc => ?_
 rw [cut_lt] at hc; rw [← cut_pos hc]
 exact sz_loop (l := a) (by omega) (by omega) (fun k hk m m0 m1 => by
  unfold p_laws_szPartS_b0
  simp only [dlt hk, cond_true, gd.yes (ixN hk), Int.toNat_natCast, s_Part (nth a k) m m0 m1 (ok.2 k hk), bd_some, gd.yes (i64S hk hm)]
  by_cases hc : cut m (Wt.w (nth a k)) < 0 <;> simp [hc]) (fun m => by unfold p_laws_szPartS_b0; simp)
theorem s_SampleS (a : (List Sample)) (left : Int) (h0 : 0 ≤ left) (h1 : left ≤ 1048576) (ok : Dp.ok a) : p_laws_szSampleS a left = some (cut left (Wt.w a)) := by
 have hm : a.length ≤ 9223372036854775807 := ok.1
 unfold p_laws_szSampleS
 have hw : Wt.w a = a.length := by show a.length + sumN a.length (fun i => Wt.w (nth a i)) = _; rw [sumN_zero (f := fun i => Wt.w (nth a i)) fun i _ => rfl]; rfl
 rw [hw]; exact sz_strl (by unfold I64; omega)
theorem s_Store (a : Store) (left : Int) (h0 : 0 ≤ left) (h1 : left ≤ 1048576) (ok : Dp.ok a) (so : So.so a) : p_laws_szStore a left = some (cut left (Wt.w a)) := by
 have hw : Wt.w a = Wt.w a.1 + (Wt.w a.2.1 + (Wt.w a.2.2)) := by
  simp only [Wt.w]
  first | done | omega
 rw [hw]; unfold p_laws_szStore
 refine sz_step (s_Index a.1 left h0 h1 ok.1 so.1) fun c0 => ?_
 refine sz_step (s_PartS a.2.1 (cut left (Wt.w a.1)) (cut_nn c0) (cut_rng h1) ok.2.1) fun c1 => ?_
 exact sz_last (s_SampleS a.2.2 (cut (cut left (Wt.w a.1)) (Wt.w a.2.1)) (cut_nn c1) (cut_rng (cut_rng h1)) ok.2.2)
theorem t_Post (a : Post) (ok : Dp.ok a) (hw : Wt.w a ≤ 1048576) : p_laws_toPost a = some a := by
 unfold p_laws_toPost
 simp only [t_Tag a.1 ok.1 (by simp only [Wt.w] at hw ⊢; omega), t_IntS a.2 ok.2 (by simp only [Wt.w] at hw ⊢; omega), bd_some]
theorem t_PostS (a : (List Post)) (ok : Dp.ok a) (hw : Wt.w a ≤ 1048576) : p_laws_toPostS a = some a := by
 have hm : a.length ≤ 1048576 := Nat.le_trans wL_le hw
 unfold p_laws_toPostS
 rw [gd.yes (by unfold many; omega)]
 simp only [Int.toNat_natCast]
 rw [to_loop (l := a) (by simp) (fun k hk r hr => by
  unfold p_laws_toPostS_b0
  have hk2 : k < r.length := by omega
  simp only [dlt hk, cond_true, gd.yes (ixN hk), gd.yes (ixN hk2), Int.toNat_natCast, t_Post (nth a k) (ok.2 k hk) (Nat.le_trans (wL_el hk) hw), bd_some, gd.yes (i64S hk (by omega))]
  first | done | rfl) (fun r => by unfold p_laws_toPostS_b0; simp)]
 rfl
theorem t_Index (a : Index) (ok : Dp.ok a) (hw : Wt.w a ≤ 1048576) : p_laws_toIndex a = some a := by
 unfold p_laws_toIndex
 simp only [t_TagSS a.1 ok.1 (by simp only [Wt.w] at hw ⊢; omega), t_PostS a.2 ok.2 (by simp only [Wt.w] at hw ⊢; omega), bd_some]
theorem t_PartS (a : (List Part)) (ok : Dp.ok a) (hw : Wt.w a ≤ 1048576) : p_laws_toPartS a = some a := by
 have hm : a.length ≤ 1048576 := Nat.le_trans wL_le hw
 unfold p_laws_toPartS
 rw [gd.yes (by unfold many; omega)]
 simp only [Int.toNat_natCast]
 rw [to_loop (l := a) (by simp) (fun k hk r hr => by
  unfold p_laws_toPartS_b0
  have hk2 : k < r.length := by omega
  simp only [dlt hk, cond_true, gd.yes (ixN hk), gd.yes (ixN hk2), Int.toNat_natCast, t_Part (nth a k) (ok.2 k hk) (Nat.le_trans (wL_el hk) hw), bd_some, gd.yes (i64S hk (by omega))]
  first | done | rfl) (fun r => by unfold p_laws_toPartS_b0; simp)]
 rfl
theorem t_Sample (a : Sample) (ok : Dp.ok a) (hw : Wt.w a ≤ 1048576) : p_laws_toSample a = some a := by
 unfold p_laws_toSample
 simp only [t_Row a.2 ok.2 (by simp only [Wt.w] at hw ⊢; omega), bd_some]
theorem t_SampleS (a : (List Sample)) (ok : Dp.ok a) (hw : Wt.w a ≤ 1048576) : p_laws_toSampleS a = some a := by
 have hm : a.length ≤ 1048576 := Nat.le_trans wL_le hw
 unfold p_laws_toSampleS
 rw [gd.yes (by unfold many; omega)]
 simp only [Int.toNat_natCast]
 rw [to_loop (l := a) (by simp) (fun k hk r hr => by
  unfold p_laws_toSampleS_b0
  have hk2 : k < r.length := by omega
  simp only [dlt hk, cond_true, gd.yes (ixN hk), gd.yes (ixN hk2), Int.toNat_natCast, t_Sample (nth a k) (ok.2 k hk) (Nat.le_trans (wL_el hk) hw), bd_some, gd.yes (i64S hk (by omega))]
  first | done | rfl) (fun r => by unfold p_laws_toSampleS_b0; simp)]
 rfl
theorem t_Store (a : Store) (ok : Dp.ok a) (hw : Wt.w a ≤ 1048576) : p_laws_toStore a = some a := by
 unfold p_laws_toStore
 simp only [t_Index a.1 ok.1 (by simp only [Wt.w] at hw ⊢; omega), t_PartS a.2.1 ok.2.1 (by simp only [Wt.w] at hw ⊢; omega), t_SampleS a.2.2 ok.2.2 (by simp only [Wt.w] at hw ⊢; omega), bd_some]
theorem q_Step (a b : Step) (ha : Dp.ok a) (hb : Dp.ok b) : p_laws_eqStep a b = some (decide (a = b)) := by
 have he : a = b ↔ a.1 = b.1 ∧ a.2.1 = b.2.1 ∧ a.2.2.1 = b.2.2.1 ∧ a.2.2.2.1 = b.2.2.2.1 ∧ a.2.2.2.2 = b.2.2.2.2 := by
  constructor
  ·rintro rfl; simp
  ·rintro ⟨h0, h1, h2, h3, h4⟩; exact Prod.ext h0 (Prod.ext h1 (Prod.ext h2 (Prod.ext h3 (h4))))
 unfold p_laws_eqStep
 simp only [q_Part a.2.2.1 b.2.2.1 ha.2.2.1 hb.2.2.1, q_IntS a.2.2.2.1 b.2.2.2.1 ha.2.2.2.1 hb.2.2.2.1, q_TagSS a.2.2.2.2 b.2.2.2.2 ha.2.2.2.2 hb.2.2.2.2, bd_some, he]
 by_cases h0 : a.1 = b.1
 ·by_cases h1 : a.2.1 = b.2.1
  ·by_cases h2 : a.2.2.1 = b.2.2.1
   ·by_cases h3 : a.2.2.2.1 = b.2.2.2.1
    ·by_cases h4 : a.2.2.2.2 = b.2.2.2.2
     ·simp [h0, h1, h2, h3, h4]
     ·simp [h0, h1, h2, h3, h4]
    ·simp [h0, h1, h2, h3]
   ·simp [h0, h1, h2]
  ·simp [h0, h1]
 ·simp [h0]
theorem q_StepS (a b : (List Step)) (ha : Dp.ok a) (hb : Dp.ok b) : p_laws_eqStepS a b = some (decide (a = b)) := by
 have hm : a.length ≤ 9223372036854775807 := ha.1
 unfold p_laws_eqStepS
 by_cases hl : a.length = b.length
 ·have hl2 : (a.length : Int) = (b.length : Int) := by omega
  simp only [hl2, decide_true, Bool.not_true, cond_false]
  refine eq_loop hl (fun k hk => ?_) ?_
  ·have hk2 : k < b.length := by omega
   unfold p_laws_eqStepS_b0
   simp only [dlt hk, cond_true, gd.yes (ixN hk), gd.yes (ixN hk2), Int.toNat_natCast, q_Step (nth a k) (nth b k) (ha.2 k hk) (hb.2 k hk2), bd_some, gd.yes (i64S hk hm)]
   by_cases h : nth a k = nth b k <;> simp [h]
  ·unfold p_laws_eqStepS_b0; simp
 ·have h2 : ¬ (a.length : Int) = (b.length : Int) := by omega
  have h3 : a ≠ b := fun e => hl (by rw [e])
  simp [h2, h3]
theorem m_StepS (a : (List Step)) (k : Int) (h0 : 0 ≤ k) (hB : k + (Ct.ct a : Nat) ≤ 1152921504606846976) (ok : Dp.ok a) : MkR p_laws_markStepS p_laws_heldStepS a k := by
 have hm : a.length ≤ 9223372036854775807 := ok.1
 obtain ⟨k1, r, e1, e2, e3, e4, e5⟩ := mark_loop (l := a) (B := 1152921504606846976) (bm := p_laws_markStepS_b0 a) (bh := fun r => p_laws_heldStepS_b0 r) (fun i hi r hr hn k h0 hB => by
  have hi2 : i < r.length := by omega
  have hc : Ct.ct (nth a i) = 1 + (1 + (((Ct.ct (((nth a i).2.2.1).1)) + (Ct.ct (((nth a i).2.2.1).2))) + ((Ct.ct ((nth a i).2.2.2.1)) + (Ct.ct ((nth a i).2.2.2.2))))) := rfl
  have g1 : I64 (k + 1) := i64B (by omega) (by omega)
  have g2 : I64 ((k + 1) + 1) := i64B (by omega) (by omega)
  obtain ⟨c1, s1, x1, y1, z1, w1⟩ := m_IntS (((nth a i).2.2.1).1) ((k + 1) + 1) (by omega) (by omega) (ok.2 i hi).2.2.1.1
  have q1 : ¬ c1 < 0 := by omega
  obtain ⟨c2, s2, x2, y2, z2, w2⟩ := m_RowSS (((nth a i).2.2.1).2) (c1) (by omega) (by omega) (ok.2 i hi).2.2.1.2
  have q2 : ¬ c2 < 0 := by omega
  obtain ⟨c3, s3, x3, y3, z3, w3⟩ := m_IntS ((nth a i).2.2.2.1) (c2) (by omega) (by omega) (ok.2 i hi).2.2.2.1
  have q3 : ¬ c3 < 0 := by omega
  obtain ⟨c4, s4, x4, y4, z4, w4⟩ := m_TagSS ((nth a i).2.2.2.2) (c3) (by omega) (by omega) (ok.2 i hi).2.2.2.2
  have q4 : ¬ c4 < 0 := by omega
  refine ⟨(k, k + 1, (s1, s2), s3, s4), c4, ?_, by omega, by omega, fun r' hr' hu => ?_⟩
  ·unfold p_laws_markStepS_b0
   simp only [dlt hi, cond_true, Int.toNat_natCast, gd.yes (ixN hi2), hn, gd.yes g1, gd.yes g2, x1, x2, x3, x4, bd_some, gd.yes (i64S hi hm)]
   first | done | rfl
  ·have hi3 : i < r'.length := by omega
   unfold p_laws_heldStepS_b0
   simp [hi3, gd.yes (ixN hi3), hu, gd.yes g1, gd.yes g2, w1, q1, w2, q2, w3, q3, w4, q4, gd.yes (i64S hi hm)])
  (fun r k hr => by unfold p_laws_markStepS_b0; simp) (fun r k hr => by unfold p_laws_heldStepS_b0; simp [hr]) h0 hB
 refine ⟨k1, r, ?_, e3, e4, ?_⟩
 ·unfold p_laws_markStepS; rw [e1]; rfl
 ·unfold p_laws_heldStepS; rw [e5]; rfl
def inn (lo n hi : Int) : Bool := decide (lo ≤ n) && decide (n ≤ hi)
theorem e_impl_within (n lo hi : Int) : p_impl_within n lo hi = some (inn lo n hi) := by
 unfold p_impl_within inn; cases decide (lo ≤ n) <;> rfl
theorem e_spec_l6In (n lo hi : Int) : p_spec_l6In n lo hi = some (inn lo n hi) := by
 unfold p_spec_l6In inn; cases decide (lo ≤ n) <;> rfl
def rowOk (r : Row) : Bool := inn 0 r.1 99 && inn (-99) r.2 99
theorem e_impl_rowOk (r : Row) : p_impl_rowOk r = some (rowOk r) := by
 unfold p_impl_rowOk rowOk; simp only [e_impl_within, bd_some]; cases inn 0 r.1 99 <;> rfl
theorem e_spec_l2Row (r : Row) : p_spec_l2Row r = some (rowOk r) := by
 unfold p_spec_l2Row rowOk; simp only [e_spec_l6In, bd_some]; cases inn 0 r.1 99 <;> rfl
def rowBad (b : List Row) (k : Nat) : Bool := !rowOk (nth b k) || (decide (0 < k) && decide ((nth b k).1 ≤ (nth b (k - 1)).1))
def blockOk (b : List Row) : Bool := allN b.length (rowBad b) && decide ((b.length : Int) ≤ 24)
theorem e_impl_BlockOk (b : List Row) (hb : b.length ≤ maxLen) : p_impl_BlockOk b = some (blockOk b) := by
 have hb' : b.length ≤ 9223372036854775807 := hb
 have hr : ∀ k, k < b.length → p_impl_BlockOk_b0 b (k : Int) = some (if rowBad b k then .inr (.inr false) else .inl ((k + 1 : Nat) : Int)) := fun k hk => by
  unfold p_impl_BlockOk_b0 rowBad
  simp only [dlt hk, cond_true, gd.yes (ixN hk), e_impl_rowOk, bd_some, Int.toNat_natCast, gd.yes (i64S hk hb')]
  cases h1 : rowOk (nth b k) with
  | false => simp
  | true =>
   simp only [Bool.not_true, cond_false, Bool.false_or]
   by_cases h0 : 0 < k
   ·have h0' : (0 : Int) < k := by omega
    have e1 : (k : Int) - 1 = ((k - 1 : Nat) : Int) := by omega
    have hi : I64 ((k - 1 : Nat) : Int) := by unfold I64; omega
    simp only [h0, h0', decide_true, cond_true, e1, gd.yes hi, gd.yes (ixN (show k - 1 < b.length by omega)), Int.toNat_natCast, bd_some, Bool.true_and]
    cases decide ((nth b k).1 ≤ (nth b (k - 1)).1) <;> simp
   ·have h0' : ¬ (0 : Int) < k := by omega
    simp [h0]
 unfold p_impl_BlockOk blockOk
 rcases lp_scan (body := p_impl_BlockOk_b0 b) (fun k => (k : Int)) b.length (rowBad b) (.inl ()) (fun _ => .inr false) (fun k hk _ h => by simp [hr k hk, h]) (fun k hk _ h => by simp [hr k hk, h]) (fun _ => by unfold p_impl_BlockOk_b0; simp) with ⟨h1, h2⟩ | ⟨h1, k, _, _, _, h2⟩
 ·rw [show (lp (p_impl_BlockOk_b0 b) 0) = _ from h2, h1]; simp [sw]
 ·rw [show (lp (p_impl_BlockOk_b0 b) 0) = _ from h2, h1]; simp [sw]
theorem e_spec_BlockOk (b : List Row) (hb : b.length ≤ maxLen) : p_spec_BlockOk b = some (blockOk b) := by
 have hb' : b.length ≤ 9223372036854775807 := hb
 have hr : ∀ k, k < b.length → p_spec_BlockOk_b0 b (k : Int) = some (if rowBad b k then .inr (.inr false) else .inl ((k + 1 : Nat) : Int)) := fun k hk => by
  unfold p_spec_BlockOk_b0 rowBad
  simp only [dlt hk, cond_true, gd.yes (ixN hk), e_spec_l2Row, bd_some, Int.toNat_natCast, gd.yes (i64S hk hb')]
  cases h1 : rowOk (nth b k) with
  | false => simp
  | true =>
   simp only [Bool.not_true, cond_false, Bool.false_or]
   by_cases h0 : 0 < k
   ·have h0' : (0 : Int) < k := by omega
    have e1 : (k : Int) - 1 = ((k - 1 : Nat) : Int) := by omega
    have hi : I64 ((k - 1 : Nat) : Int) := by unfold I64; omega
    simp only [h0, h0', decide_true, cond_true, e1, gd.yes hi, gd.yes (ixN (show k - 1 < b.length by omega)), Int.toNat_natCast, bd_some, Bool.true_and]
    cases decide ((nth b k).1 ≤ (nth b (k - 1)).1) <;> simp
   ·simp [h0]
 unfold p_spec_BlockOk blockOk
 rcases lp_scan (body := p_spec_BlockOk_b0 b) (fun k => (k : Int)) b.length (rowBad b) (.inl ()) (fun _ => .inr false) (fun k hk _ h => by simp [hr k hk, h]) (fun k hk _ h => by simp [hr k hk, h]) (fun _ => by unfold p_spec_BlockOk_b0; simp) with ⟨h1, h2⟩ | ⟨h1, k, _, _, _, h2⟩
 ·rw [show (lp (p_spec_BlockOk_b0 b) 0) = _ from h2, h1]; simp [sw]
 ·rw [show (lp (p_spec_BlockOk_b0 b) 0) = _ from h2, h1]; simp [sw]
def partBad (p : Part) (k : Nat) : Bool := ((!inn 1 (nth p.1 k) 6 || (decide (0 < k) && decide (nth p.1 k ≤ nth p.1 (k - 1)))) || !blockOk (nth p.2 k)) || decide ((nth p.2 k).length = 0)
def partOk (p : Part) : Bool := decide (p.1.length = p.2.length) && allN p.1.length (partBad p)
theorem e_impl_PartOk (p : Part) (hp : Dp.ok p) : p_impl_PartOk p = some (partOk p) := by
 obtain ⟨⟨hp1, _⟩, _, hp2⟩ := hp
 have hp1 : p.1.length ≤ 9223372036854775807 := hp1
 unfold p_impl_PartOk partOk
 by_cases hl : p.1.length = p.2.length
 ·have hr : ∀ k, k < p.1.length → p_impl_PartOk_b0 p (k : Int) = some (if partBad p k then .inr (.inr false) else .inl ((k + 1 : Nat) : Int)) := fun k hk => by
   have hk2 : k < p.2.length := by omega
   unfold p_impl_PartOk_b0 partBad
   simp only [dlt hk, cond_true, gd.yes (ixN hk), gd.yes (ixN hk2), e_impl_within, e_impl_BlockOk _ (hp2 k hk2).1, bd_some, Int.toNat_natCast, gd.yes (i64S hk hp1)]
   cases h1 : inn 1 (nth p.1 k) 6 with
   | false => simp
   | true =>
    by_cases h0 : 0 < k
    ·have h0' : (0 : Int) < k := by omega
     have e1 : (k : Int) - 1 = ((k - 1 : Nat) : Int) := by omega
     have hi : I64 ((k - 1 : Nat) : Int) := by unfold I64; omega
     simp only [h0, h0', decide_true, cond_true, e1, gd.yes hi, gd.yes (ixN (show k - 1 < p.1.length by omega)), Int.toNat_natCast, Bool.true_and, Bool.not_true, cond_false, Bool.false_or]
     cases decide (nth p.1 k ≤ nth p.1 (k - 1)) <;> cases blockOk (nth p.2 k) <;> cases h9 : decide ((nth p.2 k).length = 0) <;> simp_all
    ·simp only [h0, Bool.not_true, cond_false, Bool.false_or, decide_false, Bool.false_and]
     cases blockOk (nth p.2 k) <;> cases h9 : decide ((nth p.2 k).length = 0) <;> simp_all
  rcases lp_scan (body := p_impl_PartOk_b0 p) (fun k => (k : Int)) p.1.length (partBad p) (.inl ()) (fun _ => .inr false) (fun k hk _ h => by simp [hr k hk, h]) (fun k hk _ h => by simp [hr k hk, h]) (fun _ => by unfold p_impl_PartOk_b0; simp) with ⟨h1, h2⟩ | ⟨h1, k, _, _, _, h2⟩
  ·rw [show (lp (p_impl_PartOk_b0 p) 0) = _ from h2, h1]; simp [sw, hl]
  ·rw [show (lp (p_impl_PartOk_b0 p) 0) = _ from h2, h1]; simp [sw, hl]
 ·have : ¬ (p.1.length : Int) = (p.2.length : Int) := by omega
  simp [this, hl]
theorem e_spec_PartOk (p : Part) (hp : Dp.ok p) : p_spec_PartOk p = some (partOk p) := by
 obtain ⟨⟨hp1, _⟩, _, hp2⟩ := hp
 have hp1 : p.1.length ≤ 9223372036854775807 := hp1
 unfold p_spec_PartOk partOk
 by_cases hl : p.1.length = p.2.length
 ·have hr : ∀ k, k < p.1.length → p_spec_PartOk_b0 p (k : Int) = some (if partBad p k then .inr (.inr false) else .inl ((k + 1 : Nat) : Int)) := fun k hk => by
   have hk2 : k < p.2.length := by omega
   unfold p_spec_PartOk_b0 partBad
   simp only [dlt hk, cond_true, gd.yes (ixN hk), gd.yes (ixN hk2), e_spec_l6In, e_spec_BlockOk _ (hp2 k hk2).1, bd_some, Int.toNat_natCast, gd.yes (i64S hk hp1)]
   cases h1 : inn 1 (nth p.1 k) 6 with
   | false => simp
   | true =>
    by_cases h0 : 0 < k
    ·have h0' : (0 : Int) < k := by omega
     have e1 : (k : Int) - 1 = ((k - 1 : Nat) : Int) := by omega
     have hi : I64 ((k - 1 : Nat) : Int) := by unfold I64; omega
     simp only [h0, h0', decide_true, cond_true, e1, gd.yes hi, gd.yes (ixN (show k - 1 < p.1.length by omega)), Int.toNat_natCast, Bool.true_and, Bool.not_true, cond_false, Bool.false_or]
     cases decide (nth p.1 k ≤ nth p.1 (k - 1)) <;> cases blockOk (nth p.2 k) <;> cases h9 : decide ((nth p.2 k).length = 0) <;> simp_all
    ·simp only [h0, Bool.not_true, cond_false, Bool.false_or, decide_false, Bool.false_and]
     cases blockOk (nth p.2 k) <;> cases h9 : decide ((nth p.2 k).length = 0) <;> simp_all
  rcases lp_scan (body := p_spec_PartOk_b0 p) (fun k => (k : Int)) p.1.length (partBad p) (.inl ()) (fun _ => .inr false) (fun k hk _ h => by simp [hr k hk, h]) (fun k hk _ h => by simp [hr k hk, h]) (fun _ => by unfold p_spec_PartOk_b0; simp) with ⟨h1, h2⟩ | ⟨h1, k, _, _, _, h2⟩
  ·rw [show (lp (p_spec_PartOk_b0 p) 0) = _ from h2, h1]; simp [sw, hl]
  ·rw [show (lp (p_spec_PartOk_b0 p) 0) = _ from h2, h1]; simp [sw, hl]
 ·have : ¬ (p.1.length : Int) = (p.2.length : Int) := by omega
  simp [this, hl]
def place (l : List Int) (id : Int) : Int := match (List.range l.length).find? (fun i => decide (nth l i = id)) with | some i => i | none => -1
theorem place_no {l : List Int} {id : Int} (h : allN l.length (fun i => decide (nth l i = id)) = true) : place l id = -1 := by
 unfold place
 rw [List.find?_eq_none.2]
 intro i hi
 have := allN_iff.1 h i (by simpa using hi)
 simpa using this
theorem place_yes {l : List Int} {id : Int} {k : Nat} (hk : k < l.length) (h : decide (nth l k = id) = true) (h2 : ∀ i, i < k → decide (nth l i = id) = false) : place l id = k := by
 unfold place
 have : (List.range l.length).find? (fun i => decide (nth l i = id)) = some k := by
  rw [List.find?_range_eq_some]
  exact ⟨h, by simpa using hk, fun i hi => by simpa using h2 i hi⟩
 rw [this]
theorem e_Index (l : List Int) (id : Int) (ok : l.length ≤ 9223372036854775807) : p_slices_Index_int_int l id = some (place l id) := by
 unfold p_slices_Index_int_int
 rcases lp_scan (body := p_slices_Index_int_int_b0 l id) (fun k => (k : Int)) l.length (fun i => decide (nth l i = id)) (.inl ()) (fun k => .inr (k : Int)) (fun k hk _ h => by
   have h' : ¬ id = nth l k := fun e => by simp [e] at h
   unfold p_slices_Index_int_int_b0; simp [hk, gd.yes (ixN hk), h', gd.yes (i64S hk ok)]) (fun k hk _ h => by
   have h' : id = nth l k := by simp at h; exact h.symm
   unfold p_slices_Index_int_int_b0; simp [hk, gd.yes (ixN hk), h']) (fun _ => by unfold p_slices_Index_int_int_b0; simp) with ⟨h1, h2⟩ | ⟨h1, k, hk, hb, hn, h2⟩
 ·rw [show (lp (p_slices_Index_int_int_b0 l id) 0) = _ from h2, place_no h1]; rfl
 ·rw [show (lp (p_slices_Index_int_int_b0 l id) 0) = _ from h2, place_yes hk hb hn]; rfl
theorem place_lt {l : List Int} {id : Int} : place l id < 0 ∨ ∃ k, k < l.length ∧ place l id = (k : Int) := by
 cases ha : allN l.length (fun i => decide (nth l i = id)) with
 | true => exact .inl (by rw [place_no ha]; decide)
 | false =>
  obtain ⟨k, hk, h1, h2⟩ := first_bad ha
  exact .inr ⟨k, hk, place_yes hk h1 h2⟩
def rowsOf (p : Part) (id : Int) : List Row := if place p.1 id < 0 then [] else nth p.2 (place p.1 id).toNat
theorem partOk_len' {p : Part} (h : partOk p = true) : p.1.length = p.2.length := by
 unfold partOk at h; simp at h; exact h.1
theorem e_l12Of (p : Part) (id : Int) (ok : Dp.ok p) (hl : p.1.length = p.2.length) : p_spec_l12Of p id = some (rowsOf p id) := by
 have hm : p.1.length ≤ 9223372036854775807 := ok.1.1
 unfold p_spec_l12Of rowsOf
 rcases lp_scan (body := p_spec_l12Of_b0 p id) (fun k => (k : Int)) p.1.length (fun i => decide (nth p.1 i = id)) (.inl ()) (fun k => .inr (nth p.2 k)) (fun k hk _ h => by
   have h' : ¬ nth p.1 k = id := by simpa using h
   unfold p_spec_l12Of_b0; simp [hk, gd.yes (ixN hk), h', gd.yes (i64S hk hm)]) (fun k hk _ h => by
   have h' : nth p.1 k = id := by simpa using h
   have hk2 : k < p.2.length := by omega
   unfold p_spec_l12Of_b0; simp [hk, gd.yes (ixN hk), h', gd.yes (ixN hk2)]) (fun _ => by unfold p_spec_l12Of_b0; simp) with ⟨h1, h2⟩ | ⟨h1, k, hk, hb, hn, h2⟩
 ·rw [show (lp (p_spec_l12Of_b0 p id) 0) = _ from h2, place_no h1]; rfl
 ·rw [show (lp (p_spec_l12Of_b0 p id) 0) = _ from h2, place_yes hk hb hn]
  have : ¬ (k : Int) < 0 := by omega
  simp [sw, this]
def partOf (p : Part) (id : Int) : List Row := if partOk p then rowsOf p id else []
theorem e_impl_PartOf (p : Part) (id : Int) (ok : Dp.ok p) (hw : Wt.w p ≤ 1048576) : p_impl_PartOf p id = some (partOf p id) := by
 unfold p_impl_PartOf partOf
 rw [e_Index p.1 id ok.1.1, bd_some, e_impl_PartOk p ok, bd_some]
 cases h : partOk p with
 | false => rfl
 | true =>
  have hl := partOk_len' h
  rcases place_lt (l := p.1) (id := id) with hp | ⟨k, hk, hp⟩
  ·simp [hp, rowsOf]
  ·have h0 : ¬ (k : Int) < 0 := by omega
   have hk2 : k < p.2.length := by omega
   have hr : room (nth p.2 k).length := by
    have : (nth p.2 k).length ≤ 1048576 := Nat.le_trans wL_le (Nat.le_trans (wL_el hk2) (Nat.le_trans wP_2 hw))
    unfold room; omega
   simp [hp, rowsOf, h0, gd.yes (ixN hk2), gd.yes hr]
theorem ok_rows (l : List Row) (h : l.length ≤ 1048576) : Dp.ok l := ⟨Nat.le_trans h (by decide), fun _ _ => ⟨trivial, trivial⟩⟩
def l2 (r : Row) : Bool → List Row → List Row
 | put, [] => if put then [] else [r]
 | put, x :: t => (if !put && decide (r.1 ≤ x.1) then [r] else []) ++ ((if x.1 = r.1 then [] else [x]) ++ l2 r (put || decide (r.1 ≤ x.1)) t)
theorem drop_nth {α : Type} [Inhabited α] {l : List α} {k : Nat} (hk : k < l.length) : l.drop k = nth l k :: l.drop (k + 1) := by
 rw [nth_eq l k hk, List.drop_eq_getElem_cons hk]
theorem e_l2Put (b : List Row) (r : Row) (hb : b.length ≤ 1048576) : p_spec_l2Put b r = some (l2 r false b) := by
 unfold p_spec_l2Put
 obtain ⟨e, he, hs1, hs2⟩ := lp.rule (body := p_spec_l2Put_b0 b r) (fun σ => ∃ k : Nat, k ≤ b.length ∧ σ.2.2 = (k : Int) ∧ σ.1.length ≤ 2 * k ∧ σ.1 ++ l2 r σ.2.1 (b.drop k) = l2 r false b) (fun σ => b.length - σ.2.2.toNat)
  (fun e => e.1.length ≤ 2 * b.length ∧ e.1 ++ (if e.2 then [] else [r]) = l2 r false b) (fun σ hI => by
   obtain ⟨k, k1, k2, k3, k4⟩ := hI
   unfold p_spec_l2Put_b0
   rw [k2]
   by_cases hk : k < b.length
   ·left
    rw [drop_nth hk] at k4
    have hi := i64S hk (by omega)
    have r1 : room (σ.1.length + 1) := by unfold room; omega
    have r2 : room ((σ.1 ++ [r]).length + 1) := by simp; unfold room; omega
    simp only [dlt hk, cond_true, gd.yes (ixN hk), Int.toNat_natCast, gd.yes hi, gd.yes r1, gd.yes r2]
    obtain ⟨o, put, i⟩ := σ
    simp only at k2 k3 k4 ⊢
    cases put with
    | true =>
     simp only [l2, Bool.not_true, Bool.false_and, Bool.false_eq_true, if_false, List.nil_append, Bool.true_or] at k4
     simp only [Bool.not_true, cond_false, bd_some]
     by_cases hx : (nth b k).1 = r.1
     ·simp only [hx, if_true, List.nil_append] at k4
      exact ⟨(o, true, ((k + 1 : Nat) : Int)), by simp [hx], ⟨k + 1, hk, rfl, by simp only; omega, k4⟩, by simp only; omega⟩
     ·simp only [hx, if_false] at k4
      exact ⟨(o ++ [nth b k], true, ((k + 1 : Nat) : Int)), by simp [hx], ⟨k + 1, hk, rfl, by simp; omega, by simpa using k4⟩, by simp only; omega⟩
    | false =>
     by_cases hle : r.1 ≤ (nth b k).1
     ·simp only [l2, hle, decide_true, Bool.not_false, Bool.true_and, if_true, Bool.or_true] at k4
      by_cases hx : (nth b k).1 = r.1
      ·simp only [hx, if_true, List.nil_append] at k4
       exact ⟨(o ++ [r], true, ((k + 1 : Nat) : Int)), by simp [hx], ⟨k + 1, hk, rfl, by simp; omega, by simpa using k4⟩, by simp only; omega⟩
      ·simp only [hx, if_false] at k4
       exact ⟨(o ++ [r] ++ [nth b k], true, ((k + 1 : Nat) : Int)), by simp [hx, hle], ⟨k + 1, hk, rfl, by simp; omega, by simpa using k4⟩, by simp only; omega⟩
     ·simp only [l2, hle, decide_false, Bool.not_false, Bool.and_false, Bool.false_eq_true, if_false, List.nil_append, Bool.or_false] at k4
      have hx : ¬ (nth b k).1 = r.1 := by omega
      simp only [hx, if_false] at k4
      exact ⟨(o ++ [nth b k], false, ((k + 1 : Nat) : Int)), by simp [hx, hle], ⟨k + 1, hk, rfl, by simp; omega, by simpa using k4⟩, by simp only; omega⟩
   ·right
    have hk' : k = b.length := by omega
    subst hk'
    refine ⟨(σ.1, σ.2.1), by simp, k3, ?_⟩
    rw [List.drop_length] at k4
    simpa [l2] using k4) (s := (([] : List Row), false, (0 : Int))) ⟨0, Nat.zero_le _, rfl, by simp, by simp⟩
 rw [he, bd_some]
 have r1 : room (e.1.length + 1) := by unfold room; omega
 cases hp : e.2 with
 | true => simp [hp] at hs2; simp [hs2]
 | false => simp [hp] at hs2; simp [gd.yes r1, hs2]
def mkP (i : Nat) : List (List Row) → Part
 | [] => ([], [])
 | b :: t => if 0 < b.length then (((i + 1 : Nat) : Int) :: (mkP (i + 1) t).1, b :: (mkP (i + 1) t).2) else mkP (i + 1) t
theorem mkP_len : ∀ (l : List (List Row)) (i : Nat), (mkP i l).1.length = (mkP i l).2.length ∧ (mkP i l).1.length ≤ l.length
 | [], i => by simp [mkP]
 | b :: t, i => by
  have := mkP_len t (i + 1)
  unfold mkP
  split <;> simp <;> omega
theorem mkP_mem : ∀ (l : List (List Row)) (i : Nat) (b : List Row), b ∈ (mkP i l).2 → b ∈ l
 | [], i, b, h => by simp [mkP] at h
 | c :: t, i, b, h => by
  unfold mkP at h
  split at h
  ·rcases List.mem_cons.1 h with rfl | h
   ·simp
   ·exact List.mem_cons_of_mem _ (mkP_mem t (i + 1) b h)
  ·exact List.mem_cons_of_mem _ (mkP_mem t (i + 1) b h)
theorem nth_mem {α : Type} [Inhabited α] {l : List α} {k : Nat} (h : k < l.length) : nth l k ∈ l := by rw [nth_eq l k h]; exact List.getElem_mem h
theorem e_l12Make (v : List (List Row)) (hv : v.length ≤ 1048576) (hb : ∀ b ∈ v, b.length ≤ 1048576) : p_spec_l12Make v = some (mkP 0 v) := by
 unfold p_spec_l12Make
 obtain ⟨e, he, hs⟩ := lp.rule (body := p_spec_l12Make_b0 v) (fun σ => ∃ k : Nat, k ≤ v.length ∧ σ.2.2 = (k : Int) ∧ σ.1.length ≤ k ∧ σ.2.1.length ≤ k ∧ σ.1 ++ (mkP k (v.drop k)).1 = (mkP 0 v).1 ∧ σ.2.1 ++ (mkP k (v.drop k)).2 = (mkP 0 v).2) (fun σ => v.length - σ.2.2.toNat)
  (fun e => e = mkP 0 v) (fun σ hI => by
   obtain ⟨k, k1, k2, k3, k4, k5, k6⟩ := hI
   unfold p_spec_l12Make_b0
   rw [k2]
   by_cases hk : k < v.length
   ·left
    rw [drop_nth hk] at k5 k6
    have hi := i64S hk (by omega)
    have r1 : room (σ.1.length + 1) := by unfold room; omega
    have r2 : room (σ.2.1.length + 1) := by unfold room; omega
    have r3 : room (([] : List Row).length + (nth v k).length) := by have := hb _ (nth_mem hk); unfold room; simp; omega
    simp only [dlt hk, cond_true, gd.yes (ixN hk), Int.toNat_natCast, gd.yes hi, gd.yes r1, gd.yes r2, gd.yes r3]
    by_cases hz : 0 < (nth v k).length
    ·have hz' : (0 : Int) < ((nth v k).length : Int) := by omega
     simp only [mkP, hz, if_true] at k5 k6
     simp only [hz', decide_true, cond_true]
     exact ⟨_, rfl, ⟨k + 1, hk, rfl, by simp; omega, by simp; omega, by simpa using k5, by simpa using k6⟩, by simp only; omega⟩
    ·have hz' : ¬ (0 : Int) < ((nth v k).length : Int) := by omega
     simp only [mkP, hz, if_false] at k5 k6
     simp only [hz', decide_false, cond_false]
     exact ⟨_, rfl, ⟨k + 1, hk, rfl, by simp only; omega, by simp only; omega, k5, k6⟩, by simp only; omega⟩
   ·right
    have hk' : k = v.length := by omega
    subst hk'
    rw [List.drop_length] at k5 k6
    refine ⟨(σ.1, σ.2.1), by simp, ?_⟩
    simp [mkP] at k5 k6
    rw [k5, k6]) (s := (([] : List Int), ([] : List (List Row)), (0 : Int))) ⟨0, Nat.zero_le _, rfl, Nat.le_refl _, Nat.le_refl _, by simp, by simp⟩
 rw [he, hs]; rfl
def small (p : Part) : Prop := p.1.length ≤ 10 ∧ p.2.length ≤ 10 ∧ ∀ b ∈ p.2, b.length ≤ 2000
theorem small_ok {p : Part} (h : small p) : Dp.ok p := by
 obtain ⟨h1, h2, h3⟩ := h
 exact ⟨⟨Nat.le_trans h1 (by decide), fun _ _ => trivial⟩, ⟨Nat.le_trans h2 (by decide), fun i hi => ok_rows _ (Nat.le_trans (h3 _ (nth_mem hi)) (by decide))⟩⟩
theorem wRow {b : List Row} : Wt.w b = b.length := by show b.length + sumN b.length (fun i => Wt.w (nth b i)) = _; rw [sumN_zero (f := fun i => Wt.w (nth b i)) fun i _ => rfl]; rfl
theorem sumN_bound {n m : Nat} {f : Nat → Nat} (h : ∀ i, i < n → f i ≤ m) : sumN n f ≤ n * m := by
 induction n with
 | zero => simp [sumN]
 | succ n ih => have := ih fun i hi => h i (by omega); have := h n (by omega); simp only [sumN, Nat.add_mul]; omega
theorem small_w {p : Part} (h : small p) : Wt.w p ≤ 1048576 := by
 obtain ⟨h1, h2, h3⟩ := h
 have a1 : Wt.w p.1 = p.1.length := by show p.1.length + sumN p.1.length (fun i => Wt.w (nth p.1 i)) = _; rw [sumN_zero (f := fun i => Wt.w (nth p.1 i)) fun i _ => rfl]; rfl
 have a2 : sumN p.2.length (fun i => Wt.w (nth p.2 i)) ≤ p.2.length * 2000 := sumN_bound fun i hi => by rw [wRow]; exact h3 _ (nth_mem hi)
 have a3 : p.2.length * 2000 ≤ 10 * 2000 := Nat.mul_le_mul_right _ h2
 show Wt.w p.1 + (p.2.length + sumN p.2.length fun i => Wt.w (nth p.2 i)) ≤ _
 omega
theorem partOk_iff {p : Part} (h : partOk p = true) : p.1.length = p.2.length ∧ (∀ k, k < p.1.length → 1 ≤ nth p.1 k ∧ nth p.1 k ≤ 6) ∧ (∀ k, 0 < k → k < p.1.length → nth p.1 (k - 1) < nth p.1 k) ∧ (∀ k, k < p.2.length → 0 < (nth p.2 k).length ∧ blockOk (nth p.2 k) = true) := by
 unfold partOk at h
 simp only [Bool.and_eq_true, decide_eq_true_eq] at h
 obtain ⟨h1, h2⟩ := h
 have h2 := allN_iff.1 h2
 refine ⟨h1, fun k hk => ?_, fun k h0 hk => ?_, fun k hk => ?_⟩
 ·have := h2 k hk; simp only [partBad, inn, Bool.or_eq_false_iff, Bool.not_eq_false', Bool.and_eq_true, decide_eq_true_eq] at this; exact this.1.1.1
 ·have := h2 k hk; simp [partBad, h0] at this; exact this.1.1.2
 ·have := h2 k (by omega); simp [partBad] at this; exact ⟨List.length_pos_iff.2 this.2, this.1.2⟩
theorem ids_mono {p : Part} (h : ∀ k, 0 < k → k < p.1.length → nth p.1 (k - 1) < nth p.1 k) : ∀ {j k : Nat}, j < k → k < p.1.length → nth p.1 j < nth p.1 k := by
 intro j k hjk hk
 induction k with
 | zero => omega
 | succ k ih =>
  have h1 := h (k + 1) (by omega) hk
  rw [show k + 1 - 1 = k by omega] at h1
  rcases Nat.lt_or_eq_of_le (Nat.le_of_lt_succ hjk) with h' | rfl
  ·have := ih h' (by omega); omega
  ·exact h1
theorem rowsOf_pos {p : Part} (h : partOk p = true) (id : Int) : (0 ≤ place p.1 id) ↔ 0 < (rowsOf p id).length := by
 obtain ⟨h1, h2, h3, h4⟩ := partOk_iff h
 unfold rowsOf
 rcases place_lt (l := p.1) (id := id) with hp | ⟨k, hk, hp⟩
 ·rw [if_pos hp]; simp; omega
 ·rw [hp, if_neg (by omega)]
  have := (h4 k (by omega)).1
  simp; omega
def ins (r : Row) : List Row → List Row
 | [] => [r]
 | x :: t => if x.1 < r.1 then x :: ins r t else if x.1 = r.1 then r :: t else r :: x :: t
theorem ins_len (r : Row) : ∀ l : List Row, l.length ≤ (ins r l).length ∧ (ins r l).length ≤ l.length + 1
 | [] => by simp [ins]
 | x :: t => by
  have := ins_len r t
  unfold ins
  split
  ·simp; omega
  ·split <;> simp
theorem ins_pre (r : Row) : ∀ (p s : List Row), (∀ x ∈ p, x.1 < r.1) → ins r (p ++ s) = p ++ ins r s
 | [], s, _ => rfl
 | x :: p, s, h => by
  have hx := h x (by simp)
  rw [List.cons_append, ins, if_pos hx, ins_pre r p s fun y hy => h y (by simp [hy]), List.cons_append]
def Asc (l : List Row) : Prop := l.Pairwise fun x y => x.1 < y.1
theorem e_put (b : List Row) (r : Row) (hb : b.length ≤ 1048576) : p_impl_put b r = some (ins r b) := by
 unfold p_impl_put
 have r0 : room (([] : List Row).length + b.length) := by unfold room; simp; omega
 simp only [gd.yes r0, List.nil_append]
 have key : ∃ k : Nat, k ≤ b.length ∧ (∀ i, i < k → (nth b i).1 < r.1) ∧ (k < b.length → ¬ (nth b k).1 < r.1) ∧ lp (p_impl_put_b0 b r) 0 = some (k : Int) := by
  rcases lp_scan (body := p_impl_put_b0 b r) (fun k => (k : Int)) b.length (fun k => !decide ((nth b k).1 < r.1)) (b.length : Int) (fun k => (k : Int)) (fun k hk _ h => by
    have h' : (nth b k).1 < r.1 := by simpa using h
    unfold p_impl_put_b0; simp [hk, gd.yes (ixN hk), h', gd.yes (i64S hk (by omega))]) (fun k hk _ h => by
    have h' : ¬ (nth b k).1 < r.1 := by simpa using h
    unfold p_impl_put_b0; simp [hk, gd.yes (ixN hk), h']) (fun _ => by unfold p_impl_put_b0; simp) with ⟨h1, h2⟩ | ⟨h1, k, hk, hb', hn, h2⟩
  ·exact ⟨b.length, Nat.le_refl _, fun i hi => by simpa using allN_iff.1 h1 i hi, fun h => absurd h (Nat.lt_irrefl _), h2⟩
  ·exact ⟨k, Nat.le_of_lt hk, fun i hi => by simpa using hn i hi, fun _ => by simpa using hb', h2⟩
 obtain ⟨k, k1, k2, k3, k4⟩ := key
 rw [k4, bd_some]
 have hpre : ∀ x ∈ b.take k, x.1 < r.1 := fun x hx => by
  obtain ⟨i, hi, rfl⟩ := List.mem_iff_getElem.1 hx
  have hik : i < k := by simp at hi; omega
  have := k2 i hik
  rw [nth_eq b i (by omega)] at this
  simpa using this
 have hins : ins r b = b.take k ++ ins r (b.drop k) := by
  conv => lhs; rw [← List.take_append_drop k b]
  rw [ins_pre r _ _ hpre]
 by_cases hk : k < b.length
 ·have h3 := k3 hk
  rw [drop_nth hk, ins, if_neg h3] at hins
  simp only [dlt hk, cond_true, gd.yes (ixN hk), bd_some, Int.toNat_natCast]
  by_cases he : (nth b k).1 = r.1
  ·rw [if_pos he] at hins
   rw [hins, List.set_eq_take_append_cons_drop, if_pos hk]
   simp [he]
  ·rw [if_neg he] at hins
   have g1 : (0 : Int) ≤ (k : Int) ∧ (k : Int) ≤ (b.length : Int) := by omega
   have g2 : room (b.length + [r].length) := by unfold room; simp; omega
   have g3 : 0 < [r].length := by simp
   unfold p_slices_Insert_Row_Row p_insert
   have e1 : b.take k ++ [r] ++ b.drop k = ins r b := by rw [hins, drop_nth hk]; simp
   simp only [he, decide_false, cond_false, gd.yes g1, gd.yes g2, gd.yes g3, bd_some, Int.toNat_natCast, e1]
   have := ins_len r b
   have g4 : room (([] : List Row).length + (ins r b).length) := by unfold room; simp; omega
   simp only [gd.yes g4]
 ·have hk' : k = b.length := by omega
  subst hk'
  have g1 : (0 : Int) ≤ (b.length : Int) ∧ (b.length : Int) ≤ (b.length : Int) := by omega
  have g2 : room (b.length + [r].length) := by unfold room; simp; omega
  have g3 : 0 < [r].length := by simp
  rw [List.drop_length] at hins
  have e1 : b.take b.length ++ [r] ++ b.drop b.length = ins r b := by rw [hins, List.drop_length]; simp [ins]
  unfold p_slices_Insert_Row_Row p_insert
  simp only [Int.lt_irrefl, decide_false, cond_false, bd_some, gd.yes g1, gd.yes g2, gd.yes g3, Int.toNat_natCast, e1]
  have := ins_len r b
  have g4 : room (([] : List Row).length + (ins r b).length) := by unfold room; simp; omega
  simp only [gd.yes g4]
theorem l2_true (r : Row) : ∀ l : List Row, (∀ x ∈ l, r.1 < x.1) → l2 r true l = l
 | [], _ => rfl
 | x :: t, h => by
  have hx := h x (by simp)
  simp only [l2, Bool.not_true, Bool.false_and, Bool.false_eq_true, if_false, List.nil_append, Bool.true_or]
  rw [if_neg (by omega), l2_true r t fun y hy => h y (by simp [hy])]; rfl
theorem l2_ins (r : Row) : ∀ l : List Row, Asc l → l2 r false l = ins r l
 | [], _ => rfl
 | x :: t, h => by
  unfold Asc at h
  obtain ⟨h1, h2⟩ := List.pairwise_cons.1 h
  simp only [l2, ins, Bool.not_false, Bool.true_and, Bool.false_or]
  by_cases hle : r.1 ≤ x.1
  ·simp only [hle, decide_true, if_true]
   rw [if_neg (show ¬ x.1 < r.1 by omega), l2_true r t fun y hy => by have := h1 y hy; omega]
   by_cases he : x.1 = r.1 <;> simp [he]
  ·simp only [hle, decide_false, Bool.false_eq_true, if_false, List.nil_append]
   rw [if_pos (show x.1 < r.1 by omega), if_neg (show ¬ x.1 = r.1 by omega), l2_ins r t h2]; rfl
theorem ins_mem {r y : Row} : ∀ {l : List Row}, y ∈ ins r l → y = r ∨ y ∈ l
 | [], h => by simp [ins] at h; exact .inl h
 | x :: t, h => by
  unfold ins at h
  split at h
  ·rcases List.mem_cons.1 h with h | h
   ·exact .inr (by simp [h])
   ·exact (ins_mem h).imp id fun h => by simp [h]
  ·split at h
   ·rcases List.mem_cons.1 h with h | h
    ·exact .inl h
    ·exact .inr (by simp [h])
   ·rcases List.mem_cons.1 h with h | h
    ·exact .inl h
    ·exact .inr h
theorem ins_asc (r : Row) : ∀ {l : List Row}, Asc l → Asc (ins r l)
 | [], _ => by simp [ins, Asc]
 | x :: t, h => by
  unfold Asc at h ⊢
  obtain ⟨h1, h2⟩ := List.pairwise_cons.1 h
  unfold ins
  split
  ·rename_i hx
   refine List.pairwise_cons.2 ⟨fun y hy => ?_, ins_asc r h2⟩
   rcases ins_mem hy with rfl | hy
   ·exact hx
   ·exact h1 y hy
  ·split
   ·rename_i hx he
    exact List.pairwise_cons.2 ⟨fun y hy => by have := h1 y hy; omega, h2⟩
   ·rename_i hx he
    refine List.pairwise_cons.2 ⟨fun y hy => ?_, h⟩
    rcases List.mem_cons.1 hy with rfl | hy
    ·omega
    ·have := h1 y hy; omega
def mg (a b : List Row) : List Row := b.foldl (fun o r => ins r o) a
theorem mg_asc {a b : List Row} (ha : Asc a) : Asc (mg a b) := by
 unfold mg
 induction b generalizing a with
 | nil => exact ha
 | cons x b ih => exact ih (ins_asc x ha)
theorem mg_len : ∀ (b a : List Row), a.length ≤ (mg a b).length ∧ (mg a b).length ≤ a.length + b.length
 | [], a => by simp [mg]
 | x :: b, a => by
  have h1 := ins_len x a
  have h2 := mg_len b (ins x a)
  unfold mg at h2 ⊢
  simp only [List.foldl_cons, List.length_cons] at h2 ⊢
  omega
theorem nil_asc : Asc [] := List.Pairwise.nil
theorem blockOk_iff {b : List Row} : blockOk b = true ↔ (∀ x ∈ b, rowOk x = true) ∧ Asc b ∧ b.length ≤ 24 := by
 unfold blockOk
 rw [Bool.and_eq_true, allN_iff, decide_eq_true_eq]
 constructor
 ·rintro ⟨h1, h2⟩
  have hp : ∀ k, k < b.length → rowOk (nth b k) = true ∧ (0 < k → (nth b (k - 1)).1 < (nth b k).1) := fun k hk => by
   have := h1 k hk
   simp only [rowBad, Bool.or_eq_false_iff, Bool.not_eq_false', Bool.and_eq_false_iff, decide_eq_false_iff_not] at this
   exact ⟨this.1, fun h0 => by rcases this.2 with h | h <;> omega⟩
  refine ⟨fun x hx => ?_, ?_, by omega⟩
  ·obtain ⟨i, hi, rfl⟩ := List.mem_iff_getElem.1 hx
   rw [← nth_eq b i hi]; exact (hp i hi).1
  ·refine List.pairwise_iff_getElem.2 fun i j hi hj hij => ?_
   rw [← nth_eq b i hi, ← nth_eq b j hj]
   clear hi
   induction j with
   | zero => omega
   | succ j ih =>
    have h3 := (hp (j + 1) hj).2 (by omega)
    rw [show j + 1 - 1 = j by omega] at h3
    rcases Nat.lt_or_eq_of_le (Nat.le_of_lt_succ hij) with h' | rfl
    ·have := ih (by omega) h'; omega
    ·exact h3
 ·rintro ⟨h1, h2, h3⟩
  refine ⟨fun k hk => ?_, by omega⟩
  have r1 : rowOk (nth b k) = true := h1 _ (nth_mem hk)
  simp only [rowBad, r1, Bool.not_true, Bool.false_or, Bool.and_eq_false_iff, decide_eq_false_iff_not]
  rcases Nat.eq_zero_or_pos k with h0 | h0
  ·exact .inl (by omega)
  ·refine .inr ?_
   have := List.pairwise_iff_getElem.1 h2 (k - 1) k (by omega) hk (by omega)
   rw [← nth_eq b (k - 1) (by omega), ← nth_eq b k hk] at this
   omega
theorem foldl_take {α β : Type} [Inhabited α] (f : β → α → β) (s : β) (l : List α) (k : Nat) (hk : k < l.length) : (l.take (k + 1)).foldl f s = f ((l.take k).foldl f s) (nth l k) := by
 rw [nth_eq l k hk, List.take_succ_eq_append_getElem hk, List.foldl_append]; rfl
theorem mg_take (a b : List Row) (k : Nat) (hk : k < b.length) : mg a (b.take (k + 1)) = ins (nth b k) (mg a (b.take k)) := foldl_take _ _ _ _ hk
theorem mg_take_len (a b : List Row) (k : Nat) (hk : k ≤ b.length) : (mg a (b.take k)).length ≤ a.length + b.length := by
 have := (mg_len (b.take k) a).2
 rw [List.length_take] at this; omega
theorem mkP_snoc : ∀ (l : List (List Row)) (i : Nat) (b : List Row), mkP i (l ++ [b]) = if 0 < b.length then ((mkP i l).1 ++ [((i + l.length + 1 : Nat) : Int)], (mkP i l).2 ++ [b]) else mkP i l
 | [], i, b => by simp only [List.nil_append, mkP]; split <;> rfl
 | c :: t, i, b => by
  simp only [List.cons_append, mkP, mkP_snoc t (i + 1) b, List.length_cons]
  have e : i + 1 + t.length + 1 = i + (t.length + 1) + 1 := by omega
  rw [e]
  split <;> split <;> simp
theorem rowsOf_at {p : Part} (hp : p.1.Pairwise (· < ·)) {k : Nat} (hk : k < p.1.length) : rowsOf p (nth p.1 k) = nth p.2 k := by
 unfold rowsOf
 rw [place_yes hk (by simp) fun i hi => by
  have := List.pairwise_iff_getElem.1 hp i k (by omega) hk hi
  rw [← nth_eq p.1 i (by omega), ← nth_eq p.1 k hk] at this
  simp; omega]
 rw [if_neg (by omega)]; rfl
theorem rowsOf_no {p : Part} {id : Int} (h : ∀ x ∈ p.1, x ≠ id) : rowsOf p id = [] := by
 unfold rowsOf
 rw [place_no (allN_iff.2 fun i hi => by simpa using h _ (nth_mem hi)), if_pos (by decide)]
theorem partOk_asc {p : Part} (h : partOk p = true) : p.1.Pairwise (· < ·) := List.pairwise_iff_getElem.2 fun i j hi hj hij => by
 rw [← nth_eq p.1 i hi, ← nth_eq p.1 j hj]; exact ids_mono (partOk_iff h).2.2.1 hij hj
theorem partOk_rng {p : Part} (h : partOk p = true) : ∀ x ∈ p.1, 1 ≤ x ∧ x ≤ 6 := fun x hx => by
 obtain ⟨i, hi, rfl⟩ := List.mem_iff_getElem.1 hx
 rw [← nth_eq p.1 i hi]; exact (partOk_iff h).2.1 i hi
theorem rowsOf_ok {p : Part} (h : partOk p = true) (id : Int) : blockOk (rowsOf p id) = true := by
 unfold rowsOf
 rcases place_lt (l := p.1) (id := id) with hp | ⟨k, hk, hp⟩
 ·rw [if_pos hp]; rfl
 ·rw [hp, if_neg (by omega)]; exact ((partOk_iff h).2.2.2 k (by have := (partOk_iff h).1; omega)).2
theorem rowsOf_out {p : Part} (h : partOk p = true) {id : Int} (hi : ¬ (1 ≤ id ∧ id ≤ 6)) : rowsOf p id = [] := rowsOf_no fun x hx e => hi (e ▸ partOk_rng h x hx)
theorem rowsOf_in {p : Part} (h : partOk p = true) {id : Int} : 0 < (rowsOf p id).length ↔ id ∈ p.1 := by
 rw [← rowsOf_pos h]
 constructor
 ·intro h0
  rcases place_lt (l := p.1) (id := id) with hp | ⟨k, hk, hp⟩
  ·omega
  ·refine Classical.byContradiction fun hn => ?_
   rw [place_no (allN_iff.2 fun i hi => by simp; exact fun e => hn (e ▸ nth_mem hi))] at h0
   omega
 ·intro hm
  obtain ⟨k, hk, rfl⟩ := List.mem_iff_getElem.1 hm
  rcases place_lt (l := p.1) (id := p.1[k]) with hp | ⟨k, hk, hp⟩
  ·exfalso
   have := rowsOf_at (partOk_asc h) hk
   unfold rowsOf at this
   rw [nth_eq p.1 k hk, if_pos hp] at this
   have h5 := ((partOk_iff h).2.2.2 k (by have := (partOk_iff h).1; omega)).1
   rw [← this] at h5
   simp at h5
  ·omega
theorem asc_ids : ∀ {a b : List Int}, a.Pairwise (· < ·) → b.Pairwise (· < ·) → (∀ x, x ∈ a ↔ x ∈ b) → a = b
 | [], [], _, _, _ => rfl
 | [], y :: b, _, _, h => by have := (h y).2 (by simp); simp at this
 | x :: a, [], _, _, h => by have := (h x).1 (by simp); simp at this
 | x :: a, y :: b, ha, hb, h => by
  obtain ⟨a1, a2⟩ := List.pairwise_cons.1 ha
  obtain ⟨b1, b2⟩ := List.pairwise_cons.1 hb
  have hxy : x = y := by
   rcases List.mem_cons.1 ((h x).1 (by simp)) with e | hx
   ·exact e
   ·rcases List.mem_cons.1 ((h y).2 (by simp)) with e | hy
    ·exact e.symm
    ·have h1 := b1 _ hx; have h2 := a1 _ hy; omega
  subst hxy
  congr 1
  refine asc_ids a2 b2 fun z => ?_
  have := h z
  simp only [List.mem_cons] at this
  constructor
  ·intro hz
   rcases this.1 (.inr hz) with e | hz'
   ·have := a1 z hz; omega
   ·exact hz'
  ·intro hz
   rcases this.2 (.inr hz) with e | hz'
   ·have := b1 z hz; omega
   ·exact hz'
theorem list_nth {α : Type} [Inhabited α] {a b : List α} (h : a.length = b.length) (k : ∀ i, i < a.length → nth a i = nth b i) : a = b := List.ext_getElem h fun i h1 h2 => by
 rw [← nth_eq a i h1, ← nth_eq b i h2]; exact k i h1
theorem part_ext {p q : Part} (hp : partOk p = true) (hq : partOk q = true) (h : ∀ id, rowsOf p id = rowsOf q id) : p = q := by
 have e1 : p.1 = q.1 := asc_ids (partOk_asc hp) (partOk_asc hq) fun x => by rw [← rowsOf_in hp, ← rowsOf_in hq, h]
 have l1 := (partOk_iff hp).1
 have l2 := (partOk_iff hq).1
 have l3 := congrArg List.length e1
 refine Prod.ext e1 (list_nth (by omega) fun i hi => ?_)
 have h1 := rowsOf_at (partOk_asc hp) (k := i) (by omega)
 have h2 := rowsOf_at (partOk_asc hq) (k := i) (by omega)
 rw [← h1, ← h2, ← e1]; exact h _
theorem partOk_small {p : Part} (h : partOk p = true) : small p := by
 obtain ⟨h1, h2, h3, h4⟩ := partOk_iff h
 have hk : ∀ k : Nat, k < p.1.length → ((k : Nat) : Int) + 1 ≤ nth p.1 k := fun k => by
  induction k with
  | zero => intro hk; have := (h2 0 hk).1; omega
  | succ k ih =>
   intro hk
   have := h3 (k + 1) (by omega) hk
   rw [show k + 1 - 1 = k by omega] at this
   have := ih (by omega); omega
 have hl : p.1.length ≤ 10 := by
  rcases Nat.lt_or_ge p.1.length 7 with h' | h'
  ·omega
  ·have := hk 6 (by omega); have := (h2 6 (by omega)).2; omega
 refine ⟨hl, by omega, fun b hb => ?_⟩
 obtain ⟨i, hi, rfl⟩ := List.mem_iff_getElem.1 hb
 have := (blockOk_iff.1 (h4 i hi).2).2.2
 rw [nth_eq p.2 i hi] at this; omega
theorem ba_one {x : ByteArray} (h : x.size = 1) : x = ⟨#[sb x 0]⟩ := by
 have : x.data.size = 1 := h
 apply ByteArray.ext
 apply Array.ext
 ·rw [this]; rfl
 ·intro i h1 h2
  have hi : i = 0 := by omega
  subst hi
  simp [sb, this]
theorem sl_one (a b : UInt8) : sless ⟨#[a]⟩ ⟨#[b]⟩ = decide (a < b) := by
 rw [sless_lt]
 have e : ∀ c : UInt8, (⟨#[c]⟩ : ByteArray).toList = [c] := fun c => by simp [ByteArray.toList, ByteArray.toList.loop, ByteArray.size, ByteArray.get!]
 have h2 : ([a] < [b]) ↔ a < b := by rw [List.cons_lt_cons_iff]; simp
 rw [e, e]
 exact decide_eq_decide.2 h2
def tagB (t : Tag) : Bool := decide (t.1.size = 1) && (decide (t.2.size = 1) && (inn 97 ((sb t.1 0).toNat : Int) 100 && inn 112 ((sb t.2 0).toNat : Int) 122))
theorem e_spec_l3Tag (t : Tag) : p_spec_l3Tag t = some (tagB t) := by
 unfold p_spec_l3Tag tagB
 have c1 : decide ((t.1.size : Int) = 1) = decide (t.1.size = 1) := decide_eq_decide.2 (by omega)
 have c2 : decide ((t.2.size : Int) = 1) = decide (t.2.size = 1) := decide_eq_decide.2 (by omega)
 rw [c1, c2]
 by_cases h1 : t.1.size = 1
 ·by_cases h2 : t.2.size = 1
  ·simp only [h1, h2, decide_true, cond_true, gd.yes (show ix 0 1 by unfold ix; omega), e_spec_l6In, bd_some, Bool.true_and]
   cases inn 97 ((sb t.1 0).toNat : Int) 100 <;> simp
  ·simp [h1, h2]
 ·simp [h1]
theorem rng_one {x : ByteArray} (h : x.size = 1) (lo hi : UInt8) : (!sless x ⟨#[lo]⟩ && (sless x ⟨#[hi]⟩ || decide (x = ⟨#[hi]⟩))) = inn (lo.toNat : Int) ((sb x 0).toNat : Int) (hi.toNat : Int) := by
 have hx := ba_one h
 generalize sb x 0 = c at *
 subst hx
 rw [sl_one, sl_one]
 have e1 : (!decide (c < lo)) = decide ((lo.toNat : Int) ≤ (c.toNat : Int)) := by
  by_cases k : c < lo
  ·have : c.toNat < lo.toNat := UInt8.lt_iff_toNat_lt.1 k
   simp [k]; omega
  ·have : ¬ c.toNat < lo.toNat := fun q => k (UInt8.lt_iff_toNat_lt.2 q)
   simp [k]; omega
 have e2 : (decide (c < hi) || decide ((⟨#[c]⟩ : ByteArray) = ⟨#[hi]⟩)) = decide ((c.toNat : Int) ≤ (hi.toNat : Int)) := by
  by_cases k : c < hi
  ·have : c.toNat < hi.toNat := UInt8.lt_iff_toNat_lt.1 k
   simp [k]; omega
  ·have h3 : ¬ c.toNat < hi.toNat := fun q => k (UInt8.lt_iff_toNat_lt.2 q)
   by_cases e : c = hi
   ·subst e; simp
   ·have h4 : c.toNat ≠ hi.toNat := fun q => e (UInt8.toNat_inj.1 q)
    have h5 : (⟨#[c]⟩ : ByteArray) ≠ ⟨#[hi]⟩ := fun q => e (by
     have := congrArg (fun b : ByteArray => b.data.toList) q
     simpa using this)
    simp [k, h5]; omega
 rw [e1, e2]; rfl
theorem e_impl_tagOk (t : Tag) : p_impl_tagOk t = some (tagB t) := by
 unfold p_impl_tagOk tagB
 have c1 : decide ((t.1.size : Int) = 1) = decide (t.1.size = 1) := decide_eq_decide.2 (by omega)
 have c2 : decide ((t.2.size : Int) = 1) = decide (t.2.size = 1) := decide_eq_decide.2 (by omega)
 rw [c1, c2]
 by_cases h1 : t.1.size = 1
 ·have r1 := rng_one h1 97 100
  rw [show ((97 : UInt8).toNat : Int) = 97 from rfl, show ((100 : UInt8).toNat : Int) = 100 from rfl] at r1
  rw [← r1]
  by_cases h2 : t.2.size = 1
  ·have r2 := rng_one h2 112 122
   rw [show ((112 : UInt8).toNat : Int) = 112 from rfl, show ((122 : UInt8).toNat : Int) = 122 from rfl] at r2
   rw [← r2]
   simp only [h1, h2, decide_true, cond_true, Bool.true_and]
   cases (!sless t.1 ⟨#[97]⟩) <;> cases (sless t.1 ⟨#[100]⟩ || decide (t.1 = ⟨#[100]⟩)) <;> cases (!sless t.2 ⟨#[112]⟩) <;> rfl
  ·simp only [h1, h2, decide_true, decide_false, cond_true, cond_false, Bool.true_and, Bool.false_and]
   cases (!sless t.1 ⟨#[97]⟩) <;> cases (sless t.1 ⟨#[100]⟩ || decide (t.1 = ⟨#[100]⟩)) <;> rfl
 ·simp [h1]
def nameBad (n : List Tag) (k : Nat) : Bool := !tagB (nth n k) || (decide (0 < k) && !sless (nth n (k - 1)).1 (nth n k).1)
def nameOk (n : List Tag) : Bool := allN n.length (nameBad n) && inn 1 (n.length : Int) 3
theorem e_impl_NameOk (n : List Tag) (hn : n.length ≤ maxLen) : p_impl_NameOk n = some (nameOk n) := by
 have hn' : n.length ≤ 9223372036854775807 := hn
 have hr : ∀ k, k < n.length → p_impl_NameOk_b0 n (k : Int) = some (if nameBad n k then .inr (.inr false) else .inl ((k + 1 : Nat) : Int)) := fun k hk => by
  unfold p_impl_NameOk_b0 nameBad
  simp only [dlt hk, cond_true, gd.yes (ixN hk), e_impl_tagOk, bd_some, Int.toNat_natCast, gd.yes (i64S hk hn')]
  cases h1 : tagB (nth n k) with
  | false => simp
  | true =>
   simp only [Bool.not_true, cond_false, Bool.false_or]
   by_cases h0 : 0 < k
   ·have h0' : (0 : Int) < k := by omega
    have e1 : (k : Int) - 1 = ((k - 1 : Nat) : Int) := by omega
    have hi : I64 ((k - 1 : Nat) : Int) := by unfold I64; omega
    simp only [h0, h0', decide_true, cond_true, e1, gd.yes hi, gd.yes (ixN (show k - 1 < n.length by omega)), Int.toNat_natCast, bd_some, Bool.true_and]
    cases sless (nth n (k - 1)).1 (nth n k).1 <;> simp
   ·simp [h0]
 unfold p_impl_NameOk nameOk
 rcases lp_scan (body := p_impl_NameOk_b0 n) (fun k => (k : Int)) n.length (nameBad n) (.inl ()) (fun _ => .inr false) (fun k hk _ h => by simp [hr k hk, h]) (fun k hk _ h => by simp [hr k hk, h]) (fun _ => by unfold p_impl_NameOk_b0; simp) with ⟨h1, h2⟩ | ⟨h1, k, _, _, _, h2⟩
 ·rw [show (lp (p_impl_NameOk_b0 n) 0) = _ from h2, h1]; simp [sw, e_impl_within]
 ·rw [show (lp (p_impl_NameOk_b0 n) 0) = _ from h2, h1]; simp [sw]
theorem e_spec_NameOk (n : List Tag) (hn : n.length ≤ maxLen) : p_spec_NameOk n = some (nameOk n) := by
 have hn' : n.length ≤ 9223372036854775807 := hn
 have hr : ∀ k, k < n.length → p_spec_NameOk_b0 n (k : Int) = some (if nameBad n k then .inr (.inr false) else .inl ((k + 1 : Nat) : Int)) := fun k hk => by
  unfold p_spec_NameOk_b0 nameBad
  simp only [dlt hk, cond_true, gd.yes (ixN hk), e_spec_l3Tag, bd_some, Int.toNat_natCast, gd.yes (i64S hk hn')]
  cases h1 : tagB (nth n k) with
  | false => simp
  | true =>
   simp only [Bool.not_true, cond_false, Bool.false_or]
   by_cases h0 : 0 < k
   ·have h0' : (0 : Int) < k := by omega
    have e1 : (k : Int) - 1 = ((k - 1 : Nat) : Int) := by omega
    have hi : I64 ((k - 1 : Nat) : Int) := by unfold I64; omega
    simp only [h0, h0', decide_true, cond_true, e1, gd.yes hi, gd.yes (ixN (show k - 1 < n.length by omega)), Int.toNat_natCast, bd_some, Bool.true_and]
    cases sless (nth n (k - 1)).1 (nth n k).1 <;> simp
   ·simp [h0]
 unfold p_spec_NameOk nameOk
 rcases lp_scan (body := p_spec_NameOk_b0 n) (fun k => (k : Int)) n.length (nameBad n) (.inl ()) (fun _ => .inr false) (fun k hk _ h => by simp [hr k hk, h]) (fun k hk _ h => by simp [hr k hk, h]) (fun _ => by unfold p_spec_NameOk_b0; simp) with ⟨h1, h2⟩ | ⟨h1, k, _, _, _, h2⟩
 ·rw [show (lp (p_spec_NameOk_b0 n) 0) = _ from h2, h1]; simp [sw, e_spec_l6In]
 ·rw [show (lp (p_spec_NameOk_b0 n) 0) = _ from h2, h1]; simp [sw]
theorem allN_mem {α : Type} [Inhabited α] {l : List α} {p : α → Bool} : allN l.length (fun k => p (nth l k)) = true ↔ ∀ x ∈ l, p x = false := by
 rw [allN_iff]
 constructor
 ·intro h x hx
  obtain ⟨i, hi, rfl⟩ := List.mem_iff_getElem.1 hx
  have := h i hi
  rwa [nth_eq l i hi] at this
 ·intro h i hi
  rw [nth_eq l i hi]
  exact h _ (List.getElem_mem hi)
def hasT (n : List Tag) (t : Tag) : Bool := n.any fun x => decide (x = t)
theorem hasT_iff {n : List Tag} {t : Tag} : hasT n t = true ↔ t ∈ n := by simp [hasT]
theorem hasT_no {n : List Tag} {t : Tag} (h : t ∉ n) : hasT n t = false := by
 cases hc : hasT n t with
 | false => rfl
 | true => exact absurd (hasT_iff.1 hc) h
theorem e_spec_l3Has (n : List Tag) (t : Tag) (hn : n.length ≤ maxLen) : p_spec_l3Has n t = some (hasT n t) := by
 have hn' : n.length ≤ 9223372036854775807 := hn
 have hr : ∀ k, k < n.length → p_spec_l3Has_b0 n t (k : Int) = some (if decide (nth n k = t) then .inr (.inr true) else .inl ((k + 1 : Nat) : Int)) := fun k hk => by
  unfold p_spec_l3Has_b0
  simp only [dlt hk, cond_true, gd.yes (ixN hk), Int.toNat_natCast, gd.yes (i64S hk hn')]
  by_cases h : nth n k = t <;> simp [h]
 unfold p_spec_l3Has
 rcases lp_scan (body := p_spec_l3Has_b0 n t) (fun k => (k : Int)) n.length (fun k => decide (nth n k = t)) (.inl ()) (fun _ => .inr true) (fun k hk _ h => by simp [hr k hk, of_decide_eq_false h]) (fun k hk _ h => by simp [hr k hk, of_decide_eq_true h]) (fun _ => by unfold p_spec_l3Has_b0; simp) with ⟨h1, h2⟩ | ⟨h1, k, hk, hb, _, h2⟩
 ·rw [show (lp (p_spec_l3Has_b0 n t) 0) = _ from h2]
  have : t ∉ n := fun ht => by
   have := (allN_mem (l := n) (p := fun x => decide (x = t))).1 h1 t ht
   simp at this
  simp [sw, hasT_no this]
 ·rw [show (lp (p_spec_l3Has_b0 n t) 0) = _ from h2]
  have : t ∈ n := (of_decide_eq_true hb) ▸ nth_mem hk
  simp [sw, hasT_iff.2 this]
theorem e_impl_cloneNames (names : List (List Tag)) (h1 : names.length ≤ 4194304) (h2 : ∀ n ∈ names, n.length ≤ 4194304) : p_impl_cloneNames names = some names := by
 unfold p_impl_cloneNames
 rw [show (([] : List (List Tag)), (0 : Int)) = (names.take 0, ((0 : Nat) : Int)) from rfl, lp_for (fun k => (names.take k, (k : Int))) names.length names (fun k hk => by
  unfold p_impl_cloneNames_b0
  have hl := h2 _ (nth_mem hk)
  simp only [dlt hk, cond_true, gd.yes (ixN hk), Int.toNat_natCast, List.length_nil, List.nil_append, List.length_take]
  rw [gd.yes (by unfold room; omega), gd.yes (by unfold room; omega), gd.yes (by unfold I64; omega), take_succ_nth hk]
  rfl) (by unfold p_impl_cloneNames_b0; simp)]
 rfl
theorem e_spec_l11Names (names : List (List Tag)) (h1 : names.length ≤ 4194304) (h2 : ∀ n ∈ names, n.length ≤ 4194304) : p_spec_l11Names names = some names := by
 unfold p_spec_l11Names
 rw [show (([] : List (List Tag)), (0 : Int)) = (names.take 0, ((0 : Nat) : Int)) from rfl, lp_for (fun k => (names.take k, (k : Int))) names.length names (fun k hk => by
  unfold p_spec_l11Names_b0
  have hl := h2 _ (nth_mem hk)
  simp only [dlt hk, cond_true, gd.yes (ixN hk), Int.toNat_natCast, List.length_nil, List.nil_append, List.length_take]
  rw [gd.yes (by unfold room; omega), gd.yes (by unfold room; omega), gd.yes (by unfold I64; omega), take_succ_nth hk]
  rfl) (by unfold p_spec_l11Names_b0; simp)]
 rfl
def addT : List Post → Tag → Int → List Post
 | [], t, i => [(t, [i])]
 | p :: P, t, i => if p.1 = t then (p.1, p.2 ++ [i]) :: P else p :: addT P t i
def addN (P : List Post) (n : List Tag) (i : Int) : List Post := n.foldl (fun P t => addT P t i) P
def postsF (names : List (List Tag)) : Nat → List Post
 | 0 => []
 | m + 1 => addN (postsF names m) (nth names m) ((m : Int) + 1)
def indexP (names : List (List Tag)) : Index := (names, (postsF names names.length).mergeSort leP)
theorem addT_old (P : List Post) (t : Tag) (i : Int) (h : t ∈ P.map (·.1)) : (addT P t i).map (·.1) = P.map (·.1) := by
 induction P with
 | nil => cases h
 | cons p P ih =>
  unfold addT
  by_cases e : p.1 = t
  ·simp [e]
  ·rw [if_neg e, List.map_cons, List.map_cons, ih]
   rcases List.mem_cons.1 h with h | h
   ·exact absurd h.symm e
   ·exact h
theorem addT_new (P : List Post) (t : Tag) (i : Int) (h : t ∉ P.map (·.1)) : (addT P t i).map (·.1) = P.map (·.1) ++ [t] := by
 induction P with
 | nil => rfl
 | cons p P ih =>
  unfold addT
  have e : p.1 ≠ t := fun e => h (by rw [List.map_cons, e]; exact List.mem_cons_self ..)
  rw [if_neg e, List.map_cons, List.map_cons, ih (fun q => h (by rw [List.map_cons]; exact List.mem_cons_of_mem _ q))]
  rfl
theorem addT_nodup {P : List Post} (h : (P.map (·.1)).Nodup) (t : Tag) (i : Int) : ((addT P t i).map (·.1)).Nodup := by
 by_cases hm : t ∈ P.map (·.1)
 ·rw [addT_old P t i hm]; exact h
 ·rw [addT_new P t i hm, List.nodup_append]
  exact ⟨h, by simp, fun a ha b hb => by simp at hb; subst hb; exact fun e => hm (e ▸ ha)⟩
theorem addN_cons (P : List Post) (t : Tag) (n : List Tag) (i : Int) : addN P (t :: n) i = addN (addT P t i) n i := rfl
theorem postsF_succ (names : List (List Tag)) (m : Nat) : postsF names (m + 1) = addN (postsF names m) (nth names m) ((m : Int) + 1) := rfl
theorem addN_nodup (n : List Tag) (i : Int) : ∀ {P : List Post}, (P.map (·.1)).Nodup → ((addN P n i).map (·.1)).Nodup := by
 unfold addN
 induction n with
 | nil => intro P h; exact h
 | cons t n ih => intro P h; exact ih (addT_nodup h t i)
theorem postsF_nodup (names : List (List Tag)) : ∀ m, ((postsF names m).map (·.1)).Nodup
 | 0 => by simp [postsF]
 | m + 1 => addN_nodup _ _ (postsF_nodup names m)
def bnd (P : List Post) (c : Nat) : Prop := P.length ≤ c ∧ ∀ p ∈ P, p.2.length ≤ c
theorem bnd_addT {P : List Post} {c : Nat} (h : bnd P c) (t : Tag) (i : Int) : bnd (addT P t i) (c + 1) := by
 obtain ⟨h1, h2⟩ := h
 have len : (addT P t i).length ≤ P.length + 1 := by
  clear h1 h2
  induction P with
  | nil => simp [addT]
  | cons p P ih => unfold addT; split <;> simp <;> omega
 refine ⟨by omega, ?_⟩
 clear len h1
 induction P with
 | nil => intro p hp; simp [addT] at hp; subst hp; simp
 | cons q P ih =>
  intro p hp
  unfold addT at hp
  split at hp
  ·rcases List.mem_cons.1 hp with rfl | hp
   ·have := h2 q (List.mem_cons_self ..)
    simp; omega
   ·have := h2 p (List.mem_cons_of_mem _ hp); omega
  ·rcases List.mem_cons.1 hp with rfl | hp
   ·have := h2 p (List.mem_cons_self ..); omega
   ·exact ih (fun r hr => h2 r (List.mem_cons_of_mem _ hr)) p hp
theorem addT_none {P : List Post} {t : Tag} (i : Int) (h : ∀ k, k < P.length → (nth P k).1 ≠ t) : addT P t i = P ++ [(t, [i])] := by
 induction P with
 | nil => rfl
 | cons p P ih =>
  have h0 : p.1 ≠ t := h 0 (by simp)
  unfold addT
  rw [if_neg h0, ih (fun k hk => h (k + 1) (by simp; omega))]; rfl
theorem addT_some {P : List Post} {t : Tag} (i : Int) : ∀ {k : Nat}, k < P.length → (nth P k).1 = t → (∀ j, j < k → (nth P j).1 ≠ t) → addT P t i = P.set k ((nth P k).1, (nth P k).2 ++ [i]) := by
 induction P with
 | nil => intro k hk; simp at hk
 | cons p P ih =>
  intro k hk he hn
  cases k with
  | zero =>
   have he : p.1 = t := he
   unfold addT; rw [if_pos he]; rfl
  | succ k =>
   have h0 : p.1 ≠ t := hn 0 (by omega)
   unfold addT
   rw [if_neg h0, ih (k := k) (by simpa using hk) he (fun j hj => hn (j + 1) (by omega))]
   rfl
theorem e_IndexFunc1 (P : List Post) (t : Tag) (hP : P.length ≤ 4194304) : (∃ k : Nat, k < P.length ∧ (nth P k).1 = t ∧ (∀ j, j < k → (nth P j).1 ≠ t) ∧ p_slices_IndexFunc_Post_Post_indexOf_1 P t = some (k : Int)) ∨ ((∀ k, k < P.length → (nth P k).1 ≠ t) ∧ p_slices_IndexFunc_Post_Post_indexOf_1 P t = some (-1)) := by
 have hr : ∀ k, k < P.length → p_slices_IndexFunc_Post_Post_indexOf_1_b0 P t (k : Int) = some (if decide ((nth P k).1 = t) then .inr (.inr (k : Int)) else .inl ((k + 1 : Nat) : Int)) := fun k hk => by
  unfold p_slices_IndexFunc_Post_Post_indexOf_1_b0 p_impl_indexOf_1
  simp only [dlt hk, cond_true, gd.yes (ixN hk), Int.toNat_natCast, bd_some, gd.yes (i64S hk (by omega))]
  by_cases h : (nth P k).1 = t <;> simp [h]
 unfold p_slices_IndexFunc_Post_Post_indexOf_1
 rcases lp_scan (body := p_slices_IndexFunc_Post_Post_indexOf_1_b0 P t) (fun k => (k : Int)) P.length (fun k => decide ((nth P k).1 = t)) (.inl ()) (fun k => .inr (k : Int)) (fun k hk _ h => by simp [hr k hk, of_decide_eq_false h]) (fun k hk _ h => by rw [hr k hk, if_pos h]) (fun _ => by unfold p_slices_IndexFunc_Post_Post_indexOf_1_b0; simp) with ⟨h1, h2⟩ | ⟨h1, k, hk, hb, hn, h2⟩
 ·exact .inr ⟨fun k hk => of_decide_eq_false (allN_iff.1 h1 k hk), by rw [show (lp (p_slices_IndexFunc_Post_Post_indexOf_1_b0 P t) 0) = _ from h2]; rfl⟩
 ·exact .inl ⟨k, hk, of_decide_eq_true hb, fun j hj => of_decide_eq_false (hn j hj), by rw [show (lp (p_slices_IndexFunc_Post_Post_indexOf_1_b0 P t) 0) = _ from h2]; rfl⟩
theorem e_tags (names : List (List Tag)) (Q : List Post) (m : Nat) (hm : m < 4194304) (c : Nat) (n : List Tag) (hn : n = nth names m) (hc : c + n.length ≤ 4194304) : ∀ (r j : Nat) (P : List Post), j + r = n.length → bnd P (c + j) →
  lp (p_impl_indexOf_b1 names (Q, (m : Int))) (P, (j : Int)) = some (addN P (n.drop j) ((m : Int) + 1)) ∧ bnd (addN P (n.drop j) ((m : Int) + 1)) (c + n.length)
 | 0, j, P, hj, hb => by
  have : n.drop j = [] := List.drop_eq_nil_of_le (by omega)
  rw [this]
  refine ⟨lp.stop ?_, by rw [show c + n.length = c + j by omega]; exact hb⟩
  unfold p_impl_indexOf_b1
  simp only [Int.toNat_natCast, ← hn]
  rw [decide_eq_false (show ¬ ((j : Int) < (n.length : Int)) by omega)]; rfl
 | r + 1, j, P, hj, hb => by
  have hjn : j < n.length := by omega
  have hd : n.drop j = nth n j :: n.drop (j + 1) := by rw [nth_eq n j hjn]; exact List.drop_eq_getElem_cons hjn
  have hP1 := hb.1
  have step : p_impl_indexOf_b1 names (Q, (m : Int)) (P, (j : Int)) = some (.inl (addT P (nth n j) ((m : Int) + 1), ((j + 1 : Nat) : Int))) := by
   unfold p_impl_indexOf_b1
   simp only [Int.toNat_natCast, ← hn, dlt hjn, cond_true, gd.yes (ixN hjn)]
   rcases e_IndexFunc1 P (nth n j) (by omega) with ⟨k, hk, he, hno, hf⟩ | ⟨hno, hf⟩
   ·have hl := hb.2 _ (nth_mem hk)
    rw [hf]
    simp only [bd_some]
    rw [decide_eq_false (show ¬ ((k : Int) < 0) by omega)]
    rw [cond_false, gd.yes (ixN hk)]
    simp only [Int.toNat_natCast]
    rw [gd.yes (by unfold I64; omega), gd.yes (by unfold room; omega), gd.yes (by unfold I64; omega), addT_some _ hk he hno]
    rfl
   ·rw [hf]
    simp only [bd_some]
    rw [decide_eq_true (show ((-1 : Int) < 0) by omega)]
    have e1 : nth (P ++ [(nth n j, ([] : List Int))]) P.length = (nth n j, []) := nth_append_new
    simp only [cond_true, e1, List.nil_append, List.length_nil]
    rw [gd.yes (by unfold room; omega), gd.yes (by unfold ix; simp; omega), gd.yes (by unfold I64; omega), gd.yes (by unfold room; omega), gd.yes (by unfold I64; omega), addT_none _ hno]
    simp
  rw [lp.step step, hd, addN_cons]
  exact e_tags names Q m hm c n hn hc r (j + 1) _ (by omega) (by rw [← Nat.add_assoc]; exact bnd_addT hb _ _)
theorem e_posts (names : List (List Tag)) (hN : names.length ≤ 4194304) (hs : sumN names.length (fun i => (nth names i).length) ≤ 4194304) : ∀ m, m ≤ names.length → bnd (postsF names m) (sumN m fun i => (nth names i).length) ∧ lp (p_impl_indexOf_b0 names) (([] : List Post), (0 : Int)) = lp (p_impl_indexOf_b0 names) (postsF names m, (m : Int))
 | 0, _ => ⟨⟨by simp [postsF], fun p hp => by simp [postsF] at hp⟩, rfl⟩
 | m + 1, hm => by
  obtain ⟨b, e⟩ := e_posts names hN hs m (by omega)
  have hmn : m < names.length := by omega
  have hle : sumN m (fun i => (nth names i).length) + (nth names m).length ≤ sumN names.length (fun i => (nth names i).length) := sumN_lt hmn
  obtain ⟨t1, t2⟩ := e_tags names (postsF names m) m (by omega) _ (nth names m) rfl (by omega) (nth names m).length 0 (postsF names m) (by omega) b
  rw [List.drop_zero] at t1 t2
  refine ⟨t2, ?_⟩
  rw [e, lp.step (s' := (postsF names (m + 1), ((m + 1 : Nat) : Int)))]
  rw [postsF_succ]
  unfold p_impl_indexOf_b0
  rw [show ((0 : Nat) : Int) = 0 from rfl] at t1
  rw [dlt hmn, cond_true, gd.yes (ixN hmn), bd.yes t1]
  rw [gd.yes (by unfold I64; omega), addI]
theorem e_indexOf (names : List (List Tag)) (hN : names.length ≤ 4194304) (hs : sumN names.length (fun i => (nth names i).length) ≤ 4194304) : p_impl_indexOf names = some (indexP names) := by
 have hn : ∀ n ∈ names, n.length ≤ 4194304 := fun n h => by
  obtain ⟨i, hi, rfl⟩ := List.mem_iff_getElem.1 h
  have := sumN_get (f := fun i => (nth names i).length) hi
  simp only [nth_eq names i hi] at this
  omega
 obtain ⟨b, e⟩ := e_posts names hN hs names.length (Nat.le_refl _)
 unfold p_impl_indexOf
 rw [e_impl_cloneNames names hN hn]
 simp only [bd_some]
 rw [e, lp.stop (e := postsF names names.length) (by
  unfold p_impl_indexOf_b0
  rw [decide_eq_false (show ¬ ((names.length : Int) < (names.length : Int)) by omega)]; rfl)]
 simp only [bd_some]
 have hl := b.1
 unfold p_slices_SortFunc_Post_Post_indexOf_2 sortP
 rw [gd.yes (show room (postsF names names.length).length by unfold room; omega), gd.yes (postsF_nodup names _)]
 rfl
def textK (n : List Tag) : Nat → ByteArray
 | 0 => ⟨#[]⟩
 | m + 1 => (((if 0 < m then textK n m ++ ⟨#[44]⟩ else textK n m) ++ (nth n m).1) ++ ⟨#[61]⟩) ++ (nth n m).2
def textN (n : List Tag) : ByteArray := textK n n.length
theorem textK_size (n : List Tag) : ∀ m, (textK n m).size ≤ 2 * m + sumN m fun i => (nth n i).1.size + (nth n i).2.size
 | 0 => Nat.zero_le _
 | m + 1 => by
  have ih := textK_size n m
  show ((((if 0 < m then textK n m ++ ⟨#[44]⟩ else textK n m) ++ (nth n m).1) ++ ⟨#[61]⟩) ++ (nth n m).2).size ≤ 2 * (m + 1) + (sumN m (fun i => (nth n i).1.size + (nth n i).2.size) + ((nth n m).1.size + (nth n m).2.size))
  have e1 : ((⟨#[61]⟩ : ByteArray)).size = 1 := rfl
  have e2 : ((⟨#[44]⟩ : ByteArray)).size = 1 := rfl
  split
  ·simp only [ByteArray.size_append, e1, e2]; omega
  ·simp only [ByteArray.size_append, e1]; omega
theorem textK_pos {n : List Tag} {m : Nat} (h : 0 < m) : textK n (m + 1) = (((textK n m ++ ⟨#[44]⟩) ++ (nth n m).1) ++ ⟨#[61]⟩) ++ (nth n m).2 := by
 show (((if 0 < m then textK n m ++ ⟨#[44]⟩ else textK n m) ++ (nth n m).1) ++ ⟨#[61]⟩) ++ (nth n m).2 = _
 rw [if_pos h]
theorem textK_neg {n : List Tag} {m : Nat} (h : ¬ 0 < m) : textK n (m + 1) = ((textK n m ++ (nth n m).1) ++ ⟨#[61]⟩) ++ (nth n m).2 := by
 show (((if 0 < m then textK n m ++ ⟨#[44]⟩ else textK n m) ++ (nth n m).1) ++ ⟨#[61]⟩) ++ (nth n m).2 = _
 rw [if_neg h]
theorem w_name (n : List Tag) : Wt.w n = n.length + sumN n.length fun i => (nth n i).1.size + (nth n i).2.size := rfl
theorem e_spec_l3Text (n : List Tag) (hw : Wt.w n ≤ 4194304) : p_spec_l3Text n = some (textN n) := by
 rw [w_name] at hw
 unfold p_spec_l3Text textN
 have e44 : ((⟨#[44]⟩ : ByteArray)).size = 1 := rfl
 have e61 : ((⟨#[61]⟩ : ByteArray)).size = 1 := rfl
 rw [show ((⟨#[]⟩ : ByteArray), (0 : Int)) = (textK n 0, ((0 : Nat) : Int)) from rfl, lp_for (fun k => (textK n k, (k : Int))) n.length (textK n n.length) (fun m hm => by
  have h1 := textK_size n m
  have h2 : (sumN m fun i => (nth n i).1.size + (nth n i).2.size) + ((nth n m).1.size + (nth n m).2.size) ≤ sumN n.length fun i => (nth n i).1.size + (nth n i).2.size := sumN_lt (f := fun i => (nth n i).1.size + (nth n i).2.size) hm
  unfold p_spec_l3Text_b0
  rw [dlt hm, cond_true]
  by_cases h0 : 0 < m
  ·rw [decide_eq_true (show (0 : Int) < (m : Int) by omega), cond_true]
   rw [gd.yes (by simp only [room, e44]; omega), gd.yes (ixN hm), gd.yes (by simp only [room, ByteArray.size_append, e44, Int.toNat_natCast]; omega), gd.yes (by simp only [room, ByteArray.size_append, e44, e61, Int.toNat_natCast]; omega), gd.yes (by simp only [room, ByteArray.size_append, e44, e61, Int.toNat_natCast]; omega), gd.yes (by unfold I64; omega), addI]
   rw [textK_pos h0]
   rfl
  ·rw [decide_eq_false (show ¬ (0 : Int) < (m : Int) by omega), cond_false]
   rw [gd.yes (ixN hm), gd.yes (by simp only [room, Int.toNat_natCast]; omega), gd.yes (by simp only [room, ByteArray.size_append, e61, Int.toNat_natCast]; omega), gd.yes (by simp only [room, ByteArray.size_append, e61, Int.toNat_natCast]; omega), gd.yes (by unfold I64; omega), addI]
   rw [textK_neg h0]
   rfl) (by unfold p_spec_l3Text_b0; rw [decide_eq_false (show ¬ ((n.length : Int) < (n.length : Int)) by omega)]; rfl)]
 rfl
def oneB (t : Tag) : Prop := t.1.size = 1 ∧ t.2.size = 1
theorem tagB_one {t : Tag} (h : tagB t = true) : oneB t := by
 unfold tagB at h
 simp only [Bool.and_eq_true, decide_eq_true_eq] at h
 exact ⟨h.1, h.2.1⟩
theorem nameOk_tags {n : List Tag} (h : nameOk n = true) : ∀ t ∈ n, tagB t = true := by
 intro t ht
 unfold nameOk at h
 simp only [Bool.and_eq_true] at h
 obtain ⟨i, hi, rfl⟩ := List.mem_iff_getElem.1 ht
 have := allN_iff.1 h.1 i hi
 unfold nameBad at this
 simp only [Bool.or_eq_false_iff] at this
 rw [← nth_eq n i hi]
 simpa using this.1
def kb (t : Tag) : UInt8 := sb t.1 0
def vb (t : Tag) : UInt8 := sb t.2 0
def bytesT : List Tag → List UInt8
 | [] => []
 | [t] => [kb t, 61, vb t]
 | t :: u :: r => kb t :: 61 :: vb t :: 44 :: bytesT (u :: r)
theorem bytesT_snoc (l : List Tag) (t : Tag) : bytesT (l ++ [t]) = if l = [] then [kb t, 61, vb t] else bytesT l ++ [44, kb t, 61, vb t] := by
 induction l with
 | nil => rfl
 | cons u l ih =>
  cases l with
  | nil => rfl
  | cons v l =>
   simp only [List.cons_append, bytesT] at ih ⊢
   rw [ih]
   simp
theorem one_bytes {x : ByteArray} (h : x.size = 1) : x.data.toList = [sb x 0] := by
 have := ba_one h
 generalize sb x 0 = c at *
 subst this; rfl
theorem textK_bytes (n : List Tag) (h1 : ∀ t ∈ n, oneB t) : ∀ m, m ≤ n.length → (textK n m).data.toList = bytesT (n.take m)
 | 0, _ => rfl
 | m + 1, hm => by
  have hmn : m < n.length := by omega
  have ih := textK_bytes n h1 m (by omega)
  obtain ⟨o1, o2⟩ := h1 _ (nth_mem hmn)
  rw [take_succ_nth hmn, bytesT_snoc]
  unfold textK
  have e1 := one_bytes o1
  have e2 := one_bytes o2
  by_cases h0 : 0 < m
  ·have hne : n.take m ≠ [] := fun e => by have := congrArg List.length e; rw [List.length_take, List.length_nil] at this; omega
   rw [if_pos h0, if_neg hne]
   simp only [ByteArray.data_append, Array.toList_append, ih, e1, e2]
   simp [kb, vb]
  ·have hm0 : m = 0 := by omega
   subst hm0
   simp only [ByteArray.data_append, Array.toList_append, e1, e2]
   simp [textK, kb, vb]
theorem tag_ext {t u : Tag} (h1 : oneB t) (h2 : oneB u) (hk : kb t = kb u) (hv : vb t = vb u) : t = u := by
 have a1 := ba_one h1.1
 have a2 := ba_one h1.2
 have b1 := ba_one h2.1
 have b2 := ba_one h2.2
 refine Prod.ext ?_ ?_
 ·rw [a1, b1]; unfold kb at hk; rw [hk]
 ·rw [a2, b2]; unfold vb at hv; rw [hv]
theorem bytesT_inj : ∀ {a b : List Tag}, (∀ t ∈ a, oneB t) → (∀ t ∈ b, oneB t) → bytesT a = bytesT b → a = b
 | [], [], _, _, _ => rfl
 | [], [t], _, _, h => by simp [bytesT] at h
 | [], t :: u :: r, _, _, h => by simp [bytesT] at h
 | [t], [], _, _, h => by simp [bytesT] at h
 | t :: u :: r, [], _, _, h => by simp [bytesT] at h
 | [t], [u], ha, hb, h => by
  simp only [bytesT, List.cons.injEq, and_true, true_and] at h
  rw [tag_ext (ha t (by simp)) (hb u (by simp)) h.1 h.2]
 | [t], u :: v :: r, _, _, h => by simp [bytesT] at h
 | t :: u :: r, [v], _, _, h => by simp [bytesT] at h
 | t :: u :: r, v :: w :: q, ha, hb, h => by
  simp only [bytesT, List.cons.injEq, true_and] at h
  rw [tag_ext (ha t (by simp)) (hb v (by simp)) h.1 h.2.1, bytesT_inj (a := u :: r) (b := w :: q) (fun x hx => ha x (List.mem_cons_of_mem _ hx)) (fun x hx => hb x (List.mem_cons_of_mem _ hx)) h.2.2]
theorem textN_inj {a b : List Tag} (ha : ∀ t ∈ a, oneB t) (hb : ∀ t ∈ b, oneB t) (h : textN a = textN b) : a = b := by
 have e1 := textK_bytes a ha a.length (Nat.le_refl _)
 have e2 := textK_bytes b hb b.length (Nat.le_refl _)
 rw [List.take_length] at e1 e2
 refine bytesT_inj ha hb ?_
 rw [← e1, ← e2]
 show (textN a).data.toList = (textN b).data.toList
 rw [h]
theorem text_eq {a b : List Tag} (ha : nameOk a = true) (hb : nameOk b = true) : decide (textN a = textN b) = decide (a = b) := by
 by_cases h : a = b
 ·subst h; simp
 ·have : textN a ≠ textN b := fun e => h (textN_inj (fun t ht => tagB_one (nameOk_tags ha t ht)) (fun t ht => tagB_one (nameOk_tags hb t ht)) e)
  simp [h, this]
def idsN (names : List (List Tag)) (t : Tag) : Nat → List Int
 | 0 => []
 | m + 1 => idsN names t m ++ (if hasT (nth names m) t then [(m : Int) + 1] else [])
theorem idsN_succ (names : List (List Tag)) (t : Tag) (m : Nat) : idsN names t (m + 1) = idsN names t m ++ (if hasT (nth names m) t then [(m : Int) + 1] else []) := rfl
theorem idsN_len (names : List (List Tag)) (t : Tag) : ∀ m, (idsN names t m).length ≤ m
 | 0 => Nat.le_refl _
 | m + 1 => by
  have := idsN_len names t m
  rw [idsN_succ]
  split <;> simp <;> omega
theorem e_spec_l11Ids (names : List (List Tag)) (t : Tag) (h1 : names.length ≤ 4194304) (h2 : ∀ n ∈ names, n.length ≤ 4194304) : p_spec_l11Ids names t = some (idsN names t names.length) := by
 unfold p_spec_l11Ids
 rw [show (([] : List Int), (0 : Int)) = (idsN names t 0, ((0 : Nat) : Int)) from rfl, lp_for (fun k => (idsN names t k, (k : Int))) names.length (idsN names t names.length) (fun m hm => by
  have hl := h2 _ (nth_mem hm)
  have hi := idsN_len names t m
  unfold p_spec_l11Ids_b0
  rw [dlt hm, cond_true, gd.yes (ixN hm)]
  simp only [Int.toNat_natCast]
  rw [bd.yes (e_spec_l3Has (nth names m) t (by unfold maxLen; omega))]
  cases hc : hasT (nth names m) t with
  | true =>
   rw [cond_true, gd.yes (by unfold I64; omega), gd.yes (by unfold room; omega), idsN_succ, if_pos hc, addI]
  | false =>
   rw [cond_false, gd.yes (by unfold I64; omega), addI, idsN_succ, if_neg (by rw [hc]; simp), List.append_nil]) (by
  unfold p_spec_l11Ids_b0; rw [decide_eq_false (show ¬ ((names.length : Int) < (names.length : Int)) by omega)]; rfl)]
 rfl
def idsAt : List Post → Tag → List Int
 | [], _ => []
 | p :: P, t => if p.1 = t then p.2 else idsAt P t
theorem idsAt_addT (P : List Post) (t : Tag) (i : Int) (u : Tag) : idsAt (addT P t i) u = if u = t then idsAt P u ++ [i] else idsAt P u := by
 induction P with
 | nil =>
  unfold addT idsAt
  by_cases h : t = u
  ·subst h; simp
  ·have h' : ¬ u = t := fun e => h e.symm
   simp [h, h', idsAt]
 | cons p P ih =>
  unfold addT
  by_cases hp : p.1 = t
  ·rw [if_pos hp]
   by_cases hu : u = t
   ·subst hu; simp [idsAt, hp]
   ·have : ¬ p.1 = u := fun e => hu (e ▸ hp)
    simp [idsAt, this, hu]
  ·rw [if_neg hp]
   by_cases hu : p.1 = u
   ·have : ¬ u = t := fun e => hp (hu.trans e)
    simp [idsAt, hu, this]
   ·simp only [idsAt, if_neg hu, ih]
theorem idsAt_addN (n : List Tag) (i : Int) (u : Tag) : ∀ {P : List Post}, n.Nodup → idsAt (addN P n i) u = if hasT n u then idsAt P u ++ [i] else idsAt P u := by
 induction n with
 | nil => intro P _; rfl
 | cons t n ih =>
  intro P hn
  rw [List.nodup_cons] at hn
  rw [addN_cons, ih hn.2, idsAt_addT]
  have hc : hasT (t :: n) u = (decide (t = u) || hasT n u) := rfl
  rw [hc]
  by_cases h1 : u = t
  ·subst h1
   rw [hasT_no hn.1]; simp
  ·have h2 : ¬ t = u := fun e => h1 e.symm
   simp [h1, h2]
def dist (names : List (List Tag)) : Prop := ∀ n ∈ names, n.Nodup
theorem idsAt_posts {names : List (List Tag)} (hd : dist names) (u : Tag) : ∀ m, m ≤ names.length → idsAt (postsF names m) u = idsN names u m
 | 0, _ => rfl
 | m + 1, hm => by
  rw [postsF_succ, idsAt_addN _ _ _ (hd _ (nth_mem (show m < names.length by omega))), idsAt_posts hd u m (by omega)]
  rw [idsN_succ]
  cases h : hasT (nth names m) u with
  | true => simp
  | false => simp
theorem idsAt_mem {P : List Post} (hn : (P.map (·.1)).Nodup) {p : Post} (hp : p ∈ P) : idsAt P p.1 = p.2 := by
 induction P with
 | nil => cases hp
 | cons q P ih =>
  rw [List.map_cons, List.nodup_cons] at hn
  rcases List.mem_cons.1 hp with rfl | hp
  ·simp [idsAt]
  ·have : ¬ q.1 = p.1 := fun e => hn.1 (e ▸ List.mem_map_of_mem hp)
   simp only [idsAt, if_neg this]
   exact ih hn.2 hp
theorem idsAt_some {P : List Post} {t : Tag} (h : idsAt P t ≠ []) : ∃ p ∈ P, p.1 = t := by
 induction P with
 | nil => exact absurd rfl h
 | cons q P ih =>
  by_cases e : q.1 = t
  ·exact ⟨q, List.mem_cons_self .., e⟩
  ·simp only [idsAt, if_neg e] at h
   obtain ⟨p, hp, h1⟩ := ih h
   exact ⟨p, List.mem_cons_of_mem _ hp, h1⟩
theorem addT_ne {P : List Post} (h : ∀ p ∈ P, p.2 ≠ []) (t : Tag) (i : Int) : ∀ p ∈ addT P t i, p.2 ≠ [] := by
 induction P with
 | nil => intro p hp; simp [addT] at hp; subst hp; simp
 | cons q P ih =>
  intro p hp
  unfold addT at hp
  split at hp
  ·rcases List.mem_cons.1 hp with rfl | hp
   ·simp
   ·exact h p (List.mem_cons_of_mem _ hp)
  ·rcases List.mem_cons.1 hp with rfl | hp
   ·exact h p (List.mem_cons_self ..)
   ·exact ih (fun r hr => h r (List.mem_cons_of_mem _ hr)) p hp
theorem addN_ne (n : List Tag) (i : Int) : ∀ {P : List Post}, (∀ p ∈ P, p.2 ≠ []) → ∀ p ∈ addN P n i, p.2 ≠ [] := by
 induction n with
 | nil => intro P h; exact h
 | cons t n ih => intro P h; rw [addN_cons]; exact ih (addT_ne h t i)
theorem posts_ne (names : List (List Tag)) : ∀ m, ∀ p ∈ postsF names m, p.2 ≠ []
 | 0 => fun p hp => by cases hp
 | m + 1 => by rw [postsF_succ]; exact addN_ne _ _ (posts_ne names m)
def sumL : List Post → Nat
 | [] => 0
 | p :: P => p.2.length + sumL P
theorem sumL_append (P Q : List Post) : sumL (P ++ Q) = sumL P + sumL Q := by
 induction P with
 | nil => simp [sumL]
 | cons p P ih => simp only [List.cons_append, sumL, ih]; omega
theorem sumL_perm {P Q : List Post} (h : P.Perm Q) : sumL P = sumL Q := by
 induction h with
 | nil => rfl
 | cons x _ ih => simp only [sumL, ih]
 | swap x y l => simp only [sumL]; omega
 | trans _ _ h1 h2 => exact h1.trans h2
theorem sumL_addT (P : List Post) (t : Tag) (i : Int) : sumL (addT P t i) = sumL P + 1 := by
 induction P with
 | nil => rfl
 | cons p P ih =>
  unfold addT
  split
  ·simp only [sumL, List.length_append, List.length_cons, List.length_nil]; omega
  ·simp only [sumL, ih]; omega
theorem sumL_addN (n : List Tag) (i : Int) : ∀ (P : List Post), sumL (addN P n i) = sumL P + n.length := by
 induction n with
 | nil => intro P; rfl
 | cons t n ih => intro P; rw [addN_cons, ih, sumL_addT, List.length_cons]; omega
theorem sumL_posts (names : List (List Tag)) : ∀ m, sumL (postsF names m) = sumN m fun i => (nth names i).length
 | 0 => rfl
 | m + 1 => by
  rw [postsF_succ, sumL_addN, sumL_posts names m]; rfl
structure Canon (names : List (List Tag)) (C : List Post) : Prop where
 ord : C.Pairwise fun x y => ltTag x.1 y.1 = true
 ids : ∀ p ∈ C, p.2 = idsN names p.1 names.length ∧ p.2 ≠ []
 all : ∀ t, idsN names t names.length ≠ [] → ∃ p ∈ C, p.1 = t
theorem canon_posts {names : List (List Tag)} (hd : dist names) : Canon names (indexP names).2 := by
 have hn := postsF_nodup names names.length
 have hp := List.mergeSort_perm (postsF names names.length) leP
 have hs : ((postsF names names.length).mergeSort leP).Pairwise fun x y => leP x y = true := List.pairwise_mergeSort (fun a b c h1 h2 => by
  simp only [leP, Bool.not_eq_true'] at *; exact ltTag_nt h2 h1) (fun a b => by
  simp only [leP, Bool.or_eq_true, Bool.not_eq_true']
  cases h : ltTag b.1 a.1 with
  | false => exact .inl rfl
  | true => exact .inr (ltTag_asym h)) _
 have hn2 : (((postsF names names.length).mergeSort leP).map (·.1)).Nodup := (hp.map _).nodup_iff.2 hn
 refine ⟨?_, fun p hp' => ?_, fun t ht => ?_⟩
 ·show ((postsF names names.length).mergeSort leP).Pairwise _
  have hne : ((postsF names names.length).mergeSort leP).Pairwise fun x y => x.1 ≠ y.1 := by
   unfold List.Nodup at hn2
   rwa [List.pairwise_map] at hn2
  refine (hs.and hne).imp ?_
  intro x y h
  have h1 := h.1
  simp only [leP, Bool.not_eq_true'] at h1
  cases hc : ltTag x.1 y.1 with
  | true => rfl
  | false => exact absurd (ltTag_anti hc h1) h.2
 ·have hm : p ∈ postsF names names.length := hp.mem_iff.1 hp'
  exact ⟨by rw [← idsAt_posts hd p.1 _ (Nat.le_refl _), idsAt_mem hn hm], posts_ne names _ p hm⟩
 ·rw [← idsAt_posts hd t _ (Nat.le_refl _)] at ht
  obtain ⟨p, h1, h2⟩ := idsAt_some ht
  exact ⟨p, hp.mem_iff.2 h1, h2⟩
theorem canon_eq {names : List (List Tag)} {C D : List Post} (hc : Canon names C) (hd : Canon names D) : C = D := by
 have nd : ∀ {E : List Post}, Canon names E → E.Nodup := fun h => h.ord.imp fun {a b} k e => by subst e; rw [ltTag_irr] at k; cases k
 have sub : ∀ {E F : List Post}, Canon names E → Canon names F → ∀ p ∈ E, p ∈ F := fun {E F} hE hF p hp => by
  obtain ⟨e1, e2⟩ := hE.ids p hp
  obtain ⟨q, hq, e3⟩ := hF.all p.1 (e1 ▸ e2)
  have e4 := (hF.ids q hq).1
  have : q = p := Prod.ext e3 (by rw [e4, e3, e1])
  rwa [← this]
 have hperm : C.Perm D := (List.perm_ext_iff_of_nodup (nd hc) (nd hd)).2 fun p => ⟨sub hc hd p, sub hd hc p⟩
 refine List.Perm.eq_of_pairwise (le := fun x y => ltTag x.1 y.1 = true) ?_ hc.ord hd.ord hperm
 intro a b _ _ h1 h2
 have := ltTag_asym h1
 rw [h2] at this; cases this
theorem sub_sum : ∀ {C A : List Post}, A.Nodup → (∀ p ∈ A, p ∈ C) → sumL A ≤ sumL C
 | [], A, _, h => by
  have : A = [] := List.eq_nil_iff_forall_not_mem.2 fun p hp => by cases h p hp
  rw [this]; exact Nat.le_refl _
 | c :: C, A, hn, h => by
  by_cases hc : c ∈ A
  ·obtain ⟨A1, A2, rfl⟩ := List.append_of_mem hc
   have hn' := hn
   rw [List.nodup_append] at hn
   obtain ⟨n1, n2, n3⟩ := hn
   rw [List.nodup_cons] at n2
   have hnd : (A1 ++ A2).Nodup := by
    rw [List.nodup_append]
    exact ⟨n1, n2.2, fun a ha b hb => n3 a ha b (List.mem_cons_of_mem _ hb)⟩
   have ih := sub_sum (C := C) (A := A1 ++ A2) hnd (fun p hp => by
    have hpc : p ≠ c := fun e => by
     subst e
     rcases List.mem_append.1 hp with q | q
     ·exact n3 p q p (List.mem_cons_self ..) rfl
     ·exact n2.1 q
    have hp' : p ∈ A1 ++ c :: A2 := by
     rcases List.mem_append.1 hp with q | q
     ·exact List.mem_append_left _ q
     ·exact List.mem_append_right _ (List.mem_cons_of_mem _ q)
    rcases List.mem_cons.1 (h p hp') with e | q
    ·exact absurd e hpc
    ·exact q)
   rw [sumL_append] at ih ⊢
   simp only [sumL] at ih ⊢
   omega
  ·have ih := sub_sum (C := C) (A := A) hn (fun p hp => by
    rcases List.mem_cons.1 (h p hp) with e | q
    ·exact absurd (e ▸ hp) hc
    ·exact q)
   simp only [sumL]; omega
theorem canon_of_sum {names : List (List Tag)} {C P : List Post} (hc : Canon names C) (ord : P.Pairwise fun x y => ltTag x.1 y.1 = true) (ids : ∀ p ∈ P, p.2 = idsN names p.1 names.length ∧ p.2 ≠ []) (hs : sumL P = sumL C) : P = C := by
 have nd : P.Nodup := ord.imp fun {a b} k e => by subst e; rw [ltTag_irr] at k; cases k
 have sub : ∀ p ∈ P, p ∈ C := fun p hp => by
  obtain ⟨e1, e2⟩ := ids p hp
  obtain ⟨q, hq, e3⟩ := hc.all p.1 (e1 ▸ e2)
  have : q = p := Prod.ext e3 (by rw [(hc.ids q hq).1, e3, e1])
  rwa [← this]
 refine canon_eq ⟨ord, ids, fun t ht => ?_⟩ hc
 obtain ⟨c, h1, h2⟩ := hc.all t ht
 by_cases hm : c ∈ P
 ·exact ⟨c, hm, h2⟩
 ·have := sub_sum (C := C) (A := c :: P) (List.nodup_cons.2 ⟨hm, nd⟩) (fun p hp => by
   rcases List.mem_cons.1 hp with rfl | hp
   ·exact h1
   ·exact sub p hp)
  simp only [sumL] at this
  have h3 : 0 < c.2.length := List.length_pos_iff.2 (hc.ids c h1).2
  omega
theorem nameOk_nodup {n : List Tag} (h : nameOk n = true) : n.Nodup := by
 unfold nameOk at h
 simp only [Bool.and_eq_true] at h
 have hk : ∀ i, i < n.length → nameBad n i = false := allN_iff.1 h.1
 have step : ∀ i, i + 1 < n.length → sless (nth n i).1 (nth n (i + 1)).1 = true := fun i hi => by
  have := hk (i + 1) hi
  unfold nameBad at this
  simp only [Nat.zero_lt_succ, decide_true, Bool.true_and, Nat.add_sub_cancel, Bool.or_eq_false_iff, Bool.not_eq_false'] at this
  exact this.2
 have lt : ∀ d i, i + d + 1 < n.length → sless (nth n i).1 (nth n (i + d + 1)).1 = true := by
  intro d
  induction d with
  | zero => intro i hi; exact step i hi
  | succ d ih => intro i hi; exact sless_trans (ih i (by omega)) (step (i + d + 1) (by omega))
 unfold List.Nodup
 rw [List.pairwise_iff_getElem]
 intro i j hi hj hij e
 obtain ⟨d, rfl⟩ : ∃ d, j = i + d + 1 := ⟨j - i - 1, by omega⟩
 have := lt d i hj
 rw [nth_eq n i hi, nth_eq n _ hj, ← e, sless_irr] at this
 cases this
theorem w_names {names : List (List Tag)} (hw : Wt.w names ≤ 4194304) : names.length ≤ 4194304 ∧ (∀ n ∈ names, n.length ≤ 4194304 ∧ Wt.w n ≤ 4194304) ∧ sumN names.length (fun i => (nth names i).length) ≤ 4194304 := by
 have e : Wt.w names = names.length + sumN names.length fun i => Wt.w (nth names i) := rfl
 rw [e] at hw
 refine ⟨by omega, fun n hn => ?_, ?_⟩
 ·obtain ⟨i, hi, rfl⟩ := List.mem_iff_getElem.1 hn
  have h1 := sumN_get (f := fun i => Wt.w (nth names i)) hi
  simp only [nth_eq names i hi] at h1
  have h2 : names[i].length ≤ Wt.w names[i] := wL_le
  omega
 ·have : sumN names.length (fun i => (nth names i).length) ≤ sumN names.length (fun i => Wt.w (nth names i)) := sumN_mono fun i _ => wL_le
  omega
theorem e_Equal_Tag (a b : List Tag) (ha : a.length ≤ 4194304) : p_slices_Equal_Tag_Tag a b = some (decide (a = b)) := by
 unfold p_slices_Equal_Tag_Tag
 by_cases hl : a.length = b.length
 ·have hl2 : (a.length : Int) = (b.length : Int) := by omega
  rw [decide_eq_true hl2, Bool.not_true, cond_false]
  refine eq_loop hl (fun k hk => ?_) ?_
  ·have hk2 : k < b.length := by omega
   unfold p_slices_Equal_Tag_Tag_b0
   simp only [dlt hk, cond_true, gd.yes (ixN hk), gd.yes (ixN hk2), Int.toNat_natCast, gd.yes (i64S hk (show a.length ≤ 9223372036854775807 by omega))]
   by_cases h : nth a k = nth b k <;> simp [h]
  ·unfold p_slices_Equal_Tag_Tag_b0; simp
 ·have h2 : ¬ (a.length : Int) = (b.length : Int) := by omega
  have h3 : a ≠ b := fun e => hl (by rw [e])
  simp [h2, h3]
theorem e_Equal_int (a b : List Int) (ha : a.length ≤ maxLen) : p_slices_Equal_int_int a b = some (decide (a = b)) := by
 have ha : a.length ≤ 9223372036854775807 := ha
 unfold p_slices_Equal_int_int
 by_cases hl : a.length = b.length
 ·have hl2 : (a.length : Int) = (b.length : Int) := by omega
  rw [decide_eq_true hl2, Bool.not_true, cond_false]
  refine eq_loop hl (fun k hk => ?_) ?_
  ·have hk2 : k < b.length := by omega
   unfold p_slices_Equal_int_int_b0
   simp only [dlt hk, cond_true, gd.yes (ixN hk), gd.yes (ixN hk2), Int.toNat_natCast, gd.yes (i64S hk ha)]
   by_cases h : nth a k = nth b k <;> simp [h]
  ·unfold p_slices_Equal_int_int_b0; simp
 ·have h2 : ¬ (a.length : Int) = (b.length : Int) := by omega
  have h3 : a ≠ b := fun e => hl (by rw [e])
  simp [h2, h3]
theorem e_spec_l11Same (a b : List Int) (ha : a.length ≤ maxLen) : p_spec_l11Same a b = some (decide (a = b)) := by
 have ha : a.length ≤ 9223372036854775807 := ha
 unfold p_spec_l11Same
 by_cases hl : a.length = b.length
 ·have hl2 : (a.length : Int) = (b.length : Int) := by omega
  rw [decide_eq_true hl2, Bool.not_true, cond_false]
  refine eq_loop hl (fun k hk => ?_) ?_
  ·have hk2 : k < b.length := by omega
   unfold p_spec_l11Same_b0
   simp only [dlt hk, cond_true, gd.yes (ixN hk), gd.yes (ixN hk2), Int.toNat_natCast, gd.yes (i64S hk ha)]
   by_cases h : nth a k = nth b k <;> simp [h]
  ·unfold p_spec_l11Same_b0; simp
 ·have h2 : ¬ (a.length : Int) = (b.length : Int) := by omega
  have h3 : a ≠ b := fun e => hl (by rw [e])
  simp [h2, h3]
theorem e_spec_l11Less (a b : Tag) : p_spec_l11Less a b = some (ltTag a b) := by
 unfold p_spec_l11Less ltTag
 cases sless a.1 b.1 with
 | true => rfl
 | false => by_cases h : a.1 = b.1 <;> simp [h]
theorem numberOf_none {q : Option (Unit ⊕ Int)} (h : q = some (.inl ())) : (bd (bd q <| sw (fun _ => some (-1 : Int)) fun q => some q) fun r3 => gd (I64 (r3 + 1)) <| some (r3 + 1)) = some 0 := by
 subst h
 have e : (bd (some (.inl ()) : Option (Unit ⊕ Int)) <| sw (fun _ => some (-1 : Int)) fun q => some q) = some (-1) := rfl
 rw [bd.yes e, gd.yes (by unfold I64; omega)]; rfl
theorem numberOf_some {q : Option (Unit ⊕ Int)} {k : Nat} (hk : k ≤ 4194304) (h : q = some (.inr (k : Int))) : (bd (bd q <| sw (fun _ => some (-1 : Int)) fun q => some q) fun r3 => gd (I64 (r3 + 1)) <| some (r3 + 1)) = some ((k : Int) + 1) := by
 subst h
 have e : (bd (some (.inr (k : Int)) : Option (Unit ⊕ Int)) <| sw (fun _ => some (-1 : Int)) fun q => some q) = some (k : Int) := rfl
 rw [bd.yes e, gd.yes (by unfold I64; omega)]
theorem e_numberOf (names : List (List Tag)) (n : List Tag) (h1 : names.length ≤ 4194304) (h2 : ∀ n ∈ names, n.length ≤ 4194304) :
  (∃ k : Nat, k < names.length ∧ nth names k = n ∧ (∀ j, j < k → nth names j ≠ n) ∧ p_impl_numberOf names n = some ((k : Int) + 1)) ∨ ((∀ k, k < names.length → nth names k ≠ n) ∧ p_impl_numberOf names n = some 0) := by
 have hr : ∀ k, k < names.length → p_slices_IndexFunc_Tag_Tag_numberOf_1_b0 names n (k : Int) = some (if decide (nth names k = n) then .inr (.inr (k : Int)) else .inl ((k + 1 : Nat) : Int)) := fun k hk => by
  unfold p_slices_IndexFunc_Tag_Tag_numberOf_1_b0 p_impl_numberOf_1
  rw [dlt hk, cond_true, gd.yes (ixN hk)]
  simp only [Int.toNat_natCast]
  rw [bd.yes (e_Equal_Tag _ n (h2 _ (nth_mem hk))), bd_some, gd.yes (i64S hk (show names.length ≤ 9223372036854775807 by omega)), addI]
  by_cases h : nth names k = n <;> simp [h]
 unfold p_impl_numberOf p_slices_IndexFunc_Tag_Tag_numberOf_1
 rcases lp_scan (body := p_slices_IndexFunc_Tag_Tag_numberOf_1_b0 names n) (fun k => (k : Int)) names.length (fun k => decide (nth names k = n)) (.inl ()) (fun k => .inr (k : Int)) (fun k hk _ h => by rw [hr k hk, h]; rfl) (fun k hk _ h => by rw [hr k hk, if_pos h]) (fun _ => by unfold p_slices_IndexFunc_Tag_Tag_numberOf_1_b0; simp) with ⟨h1, h2⟩ | ⟨h1, k, hk, hb, hn, h2⟩
 ·refine .inr ⟨fun k hk => of_decide_eq_false (allN_iff.1 h1 k hk), ?_⟩
  exact numberOf_none h2
 ·refine .inl ⟨k, hk, of_decide_eq_true hb, fun j hj => of_decide_eq_false (hn j hj), ?_⟩
  exact numberOf_some (by omega) h2
def nmBad (names : List (List Tag)) (k : Nat) : Bool := !nameOk (nth names k) || !allN k (fun j => decide (nth names j = nth names k))
def namesB (names : List (List Tag)) : Bool := allN names.length (nmBad names) && decide ((names.length : Int) ≤ 6)
theorem e_impl_namesOk (names : List (List Tag)) (hw : Wt.w names ≤ 4194304) : p_impl_namesOk names = some (namesB names) := by
 obtain ⟨h1, h2, _⟩ := w_names hw
 have hr : ∀ k, k < names.length → p_impl_namesOk_b0 names (k : Int) = some (if nmBad names k then .inr (.inr false) else .inl ((k + 1 : Nat) : Int)) := fun k hk => by
  have hl := (h2 _ (nth_mem hk)).1
  unfold p_impl_namesOk_b0 nmBad
  rw [dlt hk, cond_true, gd.yes (ixN hk)]
  simp only [Int.toNat_natCast]
  rw [e_impl_NameOk _ (by unfold maxLen; omega), bd_some]
  cases nameOk (nth names k) with
  | false => rfl
  | true =>
   rw [Bool.not_true, cond_false]
   rcases e_numberOf names (nth names k) h1 (fun n hn => (h2 n hn).1) with ⟨j, hj, e1, e2, e3⟩ | ⟨e2, e3⟩
   ·rw [bd.yes e3, gd.yes (by unfold I64; omega), bd_some, gd.yes (by unfold I64; omega), addI]
    by_cases hjk : j = k
    ·subst hjk
     have : allN j (fun i => decide (nth names i = nth names j)) = true := allN_iff.2 fun i hi => decide_eq_false (e2 i hi)
     rw [this]; simp
    ·have hlt : j < k := by
      rcases Nat.lt_trichotomy j k with h | h | h
      ·exact h
      ·exact absurd h hjk
      ·exact absurd rfl (e2 k h)
     have : allN k (fun i => decide (nth names i = nth names k)) = false := allN_no hlt (decide_eq_true e1)
     rw [this, decide_eq_false (show ¬ (((j + 1 : Nat) : Int) = (k : Int) + 1) by omega)]; simp
   ·exact absurd rfl (e2 k hk)
 unfold p_impl_namesOk namesB
 rcases lp_scan (body := p_impl_namesOk_b0 names) (fun k => (k : Int)) names.length (nmBad names) (.inl ()) (fun _ => .inr false) (fun k hk _ h => by rw [hr k hk, h]; rfl) (fun k hk _ h => by rw [hr k hk, h]; rfl) (fun _ => by unfold p_impl_namesOk_b0; simp) with ⟨h1, h2⟩ | ⟨h1, k, _, _, _, h2⟩
 ·rw [show (lp (p_impl_namesOk_b0 names) 0) = _ from h2, h1]; simp [sw]
 ·rw [show (lp (p_impl_namesOk_b0 names) 0) = _ from h2, h1]; simp [sw]
theorem e_eqPost (p q : Post) (hp : p.2.length ≤ maxLen) : p_impl_IndexOk_1 p q = some (decide (p = q)) := by
 unfold p_impl_IndexOk_1
 by_cases h : p.1 = q.1
 ·rw [decide_eq_true h, cond_true, bd.yes (e_Equal_int _ _ hp), bd_some]
  by_cases h2 : p.2 = q.2
  ·have : p = q := Prod.ext h h2
   rw [decide_eq_true h2, decide_eq_true this]
  ·have : p ≠ q := fun e => h2 (by rw [e])
   rw [decide_eq_false h2, decide_eq_false this]
 ·have : p ≠ q := fun e => h (by rw [e])
  rw [decide_eq_false h, cond_false, bd_some, decide_eq_false this]
theorem e_EqualPosts (P Q : List Post) (hP : P.length ≤ maxLen) (hi : ∀ k, k < P.length → (nth P k).2.length ≤ maxLen) : p_slices_EqualFunc_Post_Post_Post_Post_IndexOk_1 P Q = some (decide (P = Q)) := by
 have hP' : P.length ≤ 9223372036854775807 := hP
 unfold p_slices_EqualFunc_Post_Post_Post_Post_IndexOk_1
 by_cases hl : P.length = Q.length
 ·have hl2 : (P.length : Int) = (Q.length : Int) := by omega
  rw [decide_eq_true hl2, Bool.not_true, cond_false]
  refine eq_loop hl (fun k hk => ?_) ?_
  ·have hk2 : k < Q.length := by omega
   unfold p_slices_EqualFunc_Post_Post_Post_Post_IndexOk_1_b0
   rw [dlt hk, cond_true, gd.yes (ixN hk), gd.yes (ixN hk2)]
   simp only [Int.toNat_natCast]
   rw [bd.yes (e_eqPost _ _ (hi k hk)), gd.yes (i64S hk hP'), addI]
   by_cases h : nth P k = nth Q k <;> simp [h]
  ·unfold p_slices_EqualFunc_Post_Post_Post_Post_IndexOk_1_b0; simp
 ·have h2 : ¬ (P.length : Int) = (Q.length : Int) := by omega
  have h3 : P ≠ Q := fun e => hl (by rw [e])
  simp [h2, h3]
def indexB (x : Index) : Bool := namesB x.1 && decide (x.2 = (indexP x.1).2)
def postsW (P : List Post) : Prop := P.length ≤ 4194304 ∧ ∀ k, k < P.length → (nth P k).2.length ≤ 4194304
theorem e_impl_IndexOk (x : Index) (hw : Wt.w x.1 ≤ 4194304) (hp : postsW x.2) : p_impl_IndexOk x = some (indexB x) := by
 obtain ⟨h1, h2, h3⟩ := w_names hw
 unfold p_impl_IndexOk indexB
 rw [bd.yes (e_impl_namesOk x.1 hw)]
 cases namesB x.1 with
 | false => rfl
 | true =>
  have hp1 := hp.1
  rw [cond_true, bd.yes (e_indexOf x.1 h1 h3), bd.yes (e_EqualPosts x.2 _ (by unfold maxLen; omega) (fun k hk => by have := hp.2 k hk; unfold maxLen; omega)), Bool.true_and]
def locBad (names : List (List Tag)) (P : List Post) (k : Nat) : Bool := decide ((nth P k).2.length = 0) || (!decide ((nth P k).2 = idsN names (nth P k).1 names.length) || (decide (0 < k) && !ltTag (nth P (k - 1)).1 (nth P k).1))
theorem nmBad_ok {names : List (List Tag)} {k : Nat} (h : nmBad names k = false) : nameOk (nth names k) = true := by
 unfold nmBad at h
 simp only [Bool.or_eq_false_iff, Bool.not_eq_false'] at h
 exact h.1
theorem e_spec_names (x : Index) (hw : Wt.w x.1 ≤ 4194304) : lp (p_spec_IndexOk_b0 x) (0, 0) = some (if allN x.1.length (nmBad x.1) then .inl ((sumN x.1.length fun i => (nth x.1 i).length : Nat) : Int) else .inr false) := by
 obtain ⟨h1, h2, h3⟩ := w_names hw
 have inner : ∀ k, k < x.1.length → (∀ i, i < k → nmBad x.1 i = false) → nameOk (nth x.1 k) = true → ∀ s : Int, lp (p_spec_IndexOk_b1 x (s, (k : Int))) 0 = some (if allN k (fun j => decide (nth x.1 j = nth x.1 k)) then .inl () else .inr false) := fun k hk hbs hok s => by
  have hr : ∀ j, j < k → p_spec_IndexOk_b1 x (s, (k : Int)) (j : Int) = some (if decide (nth x.1 j = nth x.1 k) then .inr (.inr false) else .inl ((j + 1 : Nat) : Int)) := fun j hj => by
   have hj2 : j < x.1.length := by omega
   unfold p_spec_IndexOk_b1
   rw [decide_eq_true (show ((j : Int) < (k : Int)) by omega), cond_true]
   simp only [Int.toNat_natCast]
   rw [bd.yes (e_spec_l3Text _ (h2 _ (nth_mem hk)).2), gd.yes (ixN hj2), bd.yes (e_spec_l3Text _ (h2 _ (nth_mem hj2)).2), text_eq hok (nmBad_ok (hbs j hj)), gd.yes (by unfold I64; omega), addI]
   by_cases h : nth x.1 j = nth x.1 k
   ·rw [decide_eq_true h, decide_eq_true h.symm]; rfl
   ·rw [decide_eq_false h, decide_eq_false (fun e => h e.symm)]; rfl
  rcases lp_scan (body := p_spec_IndexOk_b1 x (s, (k : Int))) (fun j => (j : Int)) k (fun j => decide (nth x.1 j = nth x.1 k)) (.inl ()) (fun _ => .inr false) (fun j hj _ h => by rw [hr j hj, h]; rfl) (fun j hj _ h => by rw [hr j hj, h]; rfl) (fun _ => by unfold p_spec_IndexOk_b1; rw [decide_eq_false (show ¬ ((k : Int) < (k : Int)) by omega)]; rfl) with ⟨h1, h2⟩ | ⟨h1, _, _, _, _, h2⟩
  ·rw [show (lp (p_spec_IndexOk_b1 x (s, (k : Int))) 0) = _ from h2, h1]; rfl
  ·rw [show (lp (p_spec_IndexOk_b1 x (s, (k : Int))) 0) = _ from h2, h1]; rfl
 have step : ∀ k, k < x.1.length → (∀ i, i < k → nmBad x.1 i = false) → p_spec_IndexOk_b0 x (((sumN k fun i => (nth x.1 i).length : Nat) : Int), (k : Int)) = some (if nmBad x.1 k then .inr (.inr false) else .inl (((sumN (k + 1) fun i => (nth x.1 i).length : Nat) : Int), ((k + 1 : Nat) : Int))) := fun k hk hbs => by
  have hl := (h2 _ (nth_mem hk)).1
  have hs : (sumN k fun i => (nth x.1 i).length) + (nth x.1 k).length ≤ sumN x.1.length fun i => (nth x.1 i).length := sumN_lt (f := fun i => (nth x.1 i).length) hk
  unfold p_spec_IndexOk_b0 nmBad
  rw [dlt hk, cond_true, gd.yes (ixN hk)]
  simp only [Int.toNat_natCast]
  rw [bd.yes (e_spec_NameOk _ (by unfold maxLen; omega))]
  cases hok : nameOk (nth x.1 k) with
  | false => rfl
  | true =>
   rw [Bool.not_true, cond_false, bd.yes (inner k hk hbs hok _)]
   cases allN k (fun j => decide (nth x.1 j = nth x.1 k)) with
   | false => rfl
   | true =>
    show gd (I64 _) (gd (I64 _) (some _)) = _
    rw [gd.yes (by unfold I64; omega), gd.yes (by unfold I64; omega), addI]
    have : ((sumN k fun i => (nth x.1 i).length : Nat) : Int) + ((nth x.1 k).length : Int) = ((sumN (k + 1) fun i => (nth x.1 i).length : Nat) : Int) := by
     show _ = ((((sumN k fun i => (nth x.1 i).length) + (nth x.1 k).length : Nat)) : Int)
     omega
    rw [this]; rfl
 rcases lp_scan (body := p_spec_IndexOk_b0 x) (fun k => (((sumN k fun i => (nth x.1 i).length : Nat) : Int), (k : Int))) x.1.length (nmBad x.1) (.inl ((sumN x.1.length fun i => (nth x.1 i).length : Nat) : Int)) (fun _ => .inr false) (fun k hk hb h => by rw [step k hk hb, h]; rfl) (fun k hk hb h => by rw [step k hk hb, h]; rfl) (fun _ => by unfold p_spec_IndexOk_b0; rw [decide_eq_false (show ¬ ((x.1.length : Int) < (x.1.length : Int)) by omega)]; rfl) with ⟨h1, h2⟩ | ⟨h1, _, _, _, _, h2⟩
 ·rw [show (lp (p_spec_IndexOk_b0 x) (0, 0)) = _ from h2, h1]; rfl
 ·rw [show (lp (p_spec_IndexOk_b0 x) (0, 0)) = _ from h2, h1]; rfl
theorem e_spec_posts (x : Index) (hw : Wt.w x.1 ≤ 4194304) (hp : postsW x.2) (n0 : Nat) (hn0 : n0 ≤ 4194304) : lp (p_spec_IndexOk_b2 x) ((n0 : Int), 0) = some (if allN x.2.length (locBad x.1 x.2) then .inl ((n0 : Int) - ((sumN x.2.length fun i => (nth x.2 i).2.length : Nat) : Int)) else .inr false) := by
 obtain ⟨h1, h2, h3⟩ := w_names hw
 obtain ⟨p1, p2⟩ := hp
 have hs : ∀ k, k ≤ x.2.length → (sumN k fun i => (nth x.2 i).2.length) ≤ k * 4194304 := by
  intro k
  induction k with
  | zero => intro _; exact Nat.le_refl _
  | succ k ih =>
   intro hk
   have := ih (by omega)
   have h4 := p2 k (by omega)
   show (sumN k fun i => (nth x.2 i).2.length) + (nth x.2 k).2.length ≤ _
   omega
 have step : ∀ k, k < x.2.length → p_spec_IndexOk_b2 x ((n0 : Int) - ((sumN k fun i => (nth x.2 i).2.length : Nat) : Int), (k : Int)) = some (if locBad x.1 x.2 k then .inr (.inr false) else .inl ((n0 : Int) - ((sumN (k + 1) fun i => (nth x.2 i).2.length : Nat) : Int), ((k + 1 : Nat) : Int))) := fun k hk => by
  have hl := p2 k hk
  have hsk := hs k (by omega)
  have hkk : k * 4194304 ≤ 4194304 * 4194304 := Nat.mul_le_mul_right _ (by omega)
  have es : ((n0 : Int) - ((sumN k fun i => (nth x.2 i).2.length : Nat) : Int)) - ((nth x.2 k).2.length : Int) = (n0 : Int) - ((sumN (k + 1) fun i => (nth x.2 i).2.length : Nat) : Int) := by
   show _ = (n0 : Int) - ((((sumN k fun i => (nth x.2 i).2.length) + (nth x.2 k).2.length : Nat)) : Int)
   omega
  have fin : (gd (I64 (((n0 : Int) - ((sumN k fun i => (nth x.2 i).2.length : Nat) : Int)) - ((nth x.2 k).2.length : Int))) <| gd (I64 ((k : Int) + 1)) <| (some (.inl (((n0 : Int) - ((sumN k fun i => (nth x.2 i).2.length : Nat) : Int)) - ((nth x.2 k).2.length : Int), (k : Int) + 1)) : Option ((Int × Int) ⊕ (Int ⊕ Bool)))) = some (.inl ((n0 : Int) - ((sumN (k + 1) fun i => (nth x.2 i).2.length : Nat) : Int), ((k + 1 : Nat) : Int))) := by
   rw [gd.yes (by unfold I64; omega), gd.yes (by unfold I64; omega), es, addI]
  unfold p_spec_IndexOk_b2 locBad
  rw [dlt hk, cond_true, gd.yes (ixN hk)]
  simp only [Int.toNat_natCast]
  by_cases hz : (nth x.2 k).2.length = 0
  ·rw [decide_eq_true (show (((nth x.2 k).2.length : Int) = 0) by omega), decide_eq_true hz]; rfl
  ·rw [decide_eq_false (show ¬ (((nth x.2 k).2.length : Int) = 0) by omega), decide_eq_false hz, cond_false, bd.yes (e_spec_l11Ids x.1 _ h1 (fun n hn => (h2 n hn).1)), bd.yes (e_spec_l11Same _ _ (by unfold maxLen; omega))]
   by_cases hi : (nth x.2 k).2 = idsN x.1 (nth x.2 k).1 x.1.length
   ·rw [decide_eq_true hi, Bool.not_true, cond_false]
    by_cases h0 : 0 < k
    ·have e1 : (k : Int) - 1 = ((k - 1 : Nat) : Int) := by omega
     rw [decide_eq_true (show (0 : Int) < (k : Int) by omega), cond_true, gd.yes (by unfold I64; omega), e1, gd.yes (ixN (show k - 1 < x.2.length by omega))]
     simp only [Int.toNat_natCast]
     rw [bd.yes (e_spec_l11Less _ _), decide_eq_true h0]
     cases ltTag (nth x.2 (k - 1)).1 (nth x.2 k).1 with
     | false => rfl
     | true => exact fin
    ·rw [decide_eq_false (show ¬ (0 : Int) < (k : Int) by omega), cond_false, decide_eq_false h0]
     exact fin
   ·rw [decide_eq_false hi]; rfl
 have e0 : ((n0 : Int), (0 : Int)) = ((n0 : Int) - ((sumN 0 fun i => (nth x.2 i).2.length : Nat) : Int), ((0 : Nat) : Int)) := by
  show _ = ((n0 : Int) - ((0 : Nat) : Int), ((0 : Nat) : Int)); simp
 rcases lp_scan (body := p_spec_IndexOk_b2 x) (fun k => ((n0 : Int) - ((sumN k fun i => (nth x.2 i).2.length : Nat) : Int), (k : Int))) x.2.length (locBad x.1 x.2) (.inl ((n0 : Int) - ((sumN x.2.length fun i => (nth x.2 i).2.length : Nat) : Int))) (fun _ => .inr false) (fun k hk hb h => by rw [step k hk, h]; rfl) (fun k hk hb h => by rw [step k hk, h]; rfl) (fun _ => by unfold p_spec_IndexOk_b2; rw [decide_eq_false (show ¬ ((x.2.length : Int) < (x.2.length : Int)) by omega)]; rfl) with ⟨h1, h2⟩ | ⟨h1, _, _, _, _, h2⟩
 ·rw [e0, h2, h1]; rfl
 ·rw [e0, h2, h1]; rfl
theorem sumL_N (P : List Post) : sumL P = sumN P.length fun i => (nth P i).2.length := by
 have : ∀ m, m ≤ P.length → sumL (P.take m) = sumN m fun i => (nth P i).2.length := by
  intro m
  induction m with
  | zero => intro _; rfl
  | succ m ih =>
   intro hm
   rw [take_succ_nth (by omega), sumL_append, ih (by omega)]
   show _ + ((nth P m).2.length + 0) = _
   rfl
 have h := this P.length (Nat.le_refl _)
 rwa [List.take_length] at h
theorem names_dist {names : List (List Tag)} (h : allN names.length (nmBad names) = true) : dist names := fun n hn => by
 obtain ⟨i, hi, rfl⟩ := List.mem_iff_getElem.1 hn
 rw [← nth_eq names i hi]
 exact nameOk_nodup (nmBad_ok (allN_iff.1 h i hi))
theorem e_spec_IndexOk (x : Index) (hw : Wt.w x.1 ≤ 4194304) (hp : postsW x.2) : p_spec_IndexOk x = some (indexB x) := by
 obtain ⟨h1, h2, h3⟩ := w_names hw
 unfold p_spec_IndexOk indexB namesB
 by_cases h6 : 6 < x.1.length
 ·rw [decide_eq_true (show (6 : Int) < (x.1.length : Int) by omega), cond_true, decide_eq_false (show ¬ ((x.1.length : Int) ≤ 6) by omega), Bool.and_false, Bool.false_and]
 ·rw [decide_eq_false (show ¬ (6 : Int) < (x.1.length : Int) by omega), cond_false, decide_eq_true (show ((x.1.length : Int) ≤ 6) by omega), Bool.and_true, bd.yes (e_spec_names x hw)]
  cases hall : allN x.1.length (nmBad x.1) with
  | false => rfl
  | true =>
   have hd := names_dist hall
   have hC := canon_posts hd
   show bd (lp (p_spec_IndexOk_b2 x) ((sumN x.1.length fun i => (nth x.1 i).length : Nat), 0)) _ = _
   rw [bd.yes (e_spec_posts x hw hp _ h3), Bool.true_and]
   have hsC : sumL (indexP x.1).2 = sumN x.1.length fun i => (nth x.1 i).length := by
    rw [← sumL_posts]
    exact sumL_perm (List.mergeSort_perm _ _)
   have hsP := sumL_N x.2
   cases hloc : allN x.2.length (locBad x.1 x.2) with
   | false =>
    have hne : x.2 ≠ (indexP x.1).2 := fun e => by
     have : allN x.2.length (locBad x.1 x.2) = true := allN_iff.2 fun k hk => by
      have hm : nth x.2 k ∈ (indexP x.1).2 := e ▸ nth_mem hk
      obtain ⟨i1, i2⟩ := hC.ids _ hm
      unfold locBad
      rw [decide_eq_false (fun h0 => i2 (List.eq_nil_of_length_eq_zero h0)), decide_eq_true i1]
      by_cases h0 : 0 < k
      ·have ho := hC.ord
       rw [← e, List.pairwise_iff_getElem] at ho
       have := ho (k - 1) k (by omega) hk (by omega)
       rw [← nth_eq x.2 (k - 1) (by omega), ← nth_eq x.2 k hk] at this
       rw [this]; simp
      ·rw [decide_eq_false h0]; rfl
     rw [hloc] at this; cases this
    rw [decide_eq_false hne]; rfl
   | true =>
    have hk := allN_iff.1 hloc
    have adj : ∀ i, i + 1 < x.2.length → ltTag (nth x.2 i).1 (nth x.2 (i + 1)).1 = true := fun i hi => by
     have := hk (i + 1) hi
     unfold locBad at this
     simp only [Nat.zero_lt_succ, decide_true, Bool.true_and, Nat.add_sub_cancel, Bool.or_eq_false_iff, Bool.not_eq_false'] at this
     exact this.2.2
    have lt : ∀ d i, i + d + 1 < x.2.length → ltTag (nth x.2 i).1 (nth x.2 (i + d + 1)).1 = true := by
     intro d
     induction d with
     | zero => intro i hi; exact adj i hi
     | succ d ih => intro i hi; exact ltTag_trans (ih i (by omega)) (adj (i + d + 1) (by omega))
    have ord : x.2.Pairwise fun a b => ltTag a.1 b.1 = true := by
     rw [List.pairwise_iff_getElem]
     intro i j hi hj hij
     obtain ⟨d, rfl⟩ : ∃ d, j = i + d + 1 := ⟨j - i - 1, by omega⟩
     have := lt d i hj
     rwa [nth_eq x.2 i hi, nth_eq x.2 _ hj] at this
    have ids : ∀ p ∈ x.2, p.2 = idsN x.1 p.1 x.1.length ∧ p.2 ≠ [] := fun p hp' => by
     obtain ⟨i, hi, rfl⟩ := List.mem_iff_getElem.1 hp'
     have := hk i hi
     unfold locBad at this
     simp only [Bool.or_eq_false_iff, decide_eq_false_iff_not, Bool.not_eq_false', decide_eq_true_eq] at this
     rw [nth_eq x.2 i hi] at this
     exact ⟨this.2.1, fun e => this.1 (by rw [e]; rfl)⟩
    show some (decide (((sumN x.1.length fun i => (nth x.1 i).length : Nat) : Int) - ((sumN x.2.length fun i => (nth x.2 i).2.length : Nat) : Int) = 0)) = _
    by_cases hE : x.2 = (indexP x.1).2
    ·have : sumL x.2 = sumL (indexP x.1).2 := by rw [← hE]
     rw [decide_eq_true hE, decide_eq_true (by omega)]
    ·have hne : sumL x.2 ≠ sumL (indexP x.1).2 := fun e => hE (canon_of_sum hC ord ids e)
     rw [decide_eq_false hE, decide_eq_false (by omega)]
theorem w_index {x : Index} (hw : Wt.w x ≤ 1048576) : Wt.w x.1 ≤ 4194304 ∧ postsW x.2 := by
 have e : Wt.w x = Wt.w x.1 + Wt.w x.2 := rfl
 have e2 : Wt.w x.2 = x.2.length + sumN x.2.length fun i => Wt.w (nth x.2 i) := rfl
 refine ⟨by omega, by omega, fun k hk => ?_⟩
 have h1 := sumN_get (f := fun i => Wt.w (nth x.2 i)) hk
 have h2 : Wt.w (nth x.2 k) = Wt.w (nth x.2 k).1 + Wt.w (nth x.2 k).2 := rfl
 have h3 : (nth x.2 k).2.length ≤ Wt.w (nth x.2 k).2 := wL_le
 have h4 : Wt.w (nth x.2 k) ≤ sumN x.2.length fun i => Wt.w (nth x.2 i) := h1
 omega
theorem indexB_canon {x : Index} (h : indexB x = true) : Canon x.1 x.2 ∧ allN x.1.length (nmBad x.1) = true ∧ x.1.length ≤ 6 ∧ x.2 = (indexP x.1).2 := by
 unfold indexB namesB at h
 simp only [Bool.and_eq_true, decide_eq_true_eq] at h
 obtain ⟨⟨h1, h2⟩, h3⟩ := h
 exact ⟨by rw [h3]; exact canon_posts (names_dist h1), h1, by omega, h3⟩
def tg (i j : Nat) : Tag := (s1 (97 + (i : Int)), s1 (112 + (j : Int)))
def cell (names : List (List Tag)) (i j : Nat) : List Post := if 0 < (idsN names (tg i j) names.length).length then [(tg i j, idsN names (tg i j) names.length)] else []
def rowE (names : List (List Tag)) (i : Nat) : Nat → List Post
 | 0 => []
 | j + 1 => rowE names i j ++ cell names i j
def allE (names : List (List Tag)) : Nat → List Post
 | 0 => []
 | i + 1 => allE names i ++ rowE names i 11
theorem rowE_succ (names : List (List Tag)) (i j : Nat) : rowE names i (j + 1) = rowE names i j ++ cell names i j := rfl
theorem allE_succ (names : List (List Tag)) (i : Nat) : allE names (i + 1) = allE names i ++ rowE names i 11 := rfl
theorem cell_len (names : List (List Tag)) (i j : Nat) : (cell names i j).length ≤ 1 := by unfold cell; split <;> simp
theorem rowE_len (names : List (List Tag)) (i : Nat) : ∀ j, (rowE names i j).length ≤ j
 | 0 => Nat.le_refl _
 | j + 1 => by
  have := rowE_len names i j
  have := cell_len names i j
  rw [rowE_succ, List.length_append]; omega
theorem allE_len (names : List (List Tag)) : ∀ i, (allE names i).length ≤ 11 * i
 | 0 => Nat.le_refl _
 | i + 1 => by
  have := allE_len names i
  have := rowE_len names i 11
  rw [allE_succ, List.length_append]; omega
theorem cell_mem {names : List (List Tag)} {i j : Nat} {p : Post} (h : p ∈ cell names i j) : p = (tg i j, idsN names (tg i j) names.length) ∧ idsN names (tg i j) names.length ≠ [] := by
 unfold cell at h
 split at h
 next hp => exact ⟨List.mem_singleton.1 h, fun e => by rw [e] at hp; cases hp⟩
 next => cases h
theorem rowE_mem {names : List (List Tag)} {i : Nat} {p : Post} : ∀ {j}, p ∈ rowE names i j → ∃ k, k < j ∧ p ∈ cell names i k
 | 0, h => nomatch h
 | j + 1, h => by
  rcases List.mem_append.1 h with h | h
  ·obtain ⟨k, hk, h⟩ := rowE_mem h
   exact ⟨k, by omega, h⟩
  ·exact ⟨j, Nat.lt_succ_self _, h⟩
theorem allE_mem {names : List (List Tag)} {p : Post} : ∀ {i}, p ∈ allE names i → ∃ k j, k < i ∧ j < 11 ∧ p ∈ cell names k j
 | 0, h => nomatch h
 | i + 1, h => by
  rcases List.mem_append.1 h with h | h
  ·obtain ⟨k, j, hk, hj, h⟩ := allE_mem h
   exact ⟨k, j, by omega, hj, h⟩
  ·obtain ⟨j, hj, h⟩ := rowE_mem h
   exact ⟨i, j, Nat.lt_succ_self _, hj, h⟩
theorem rowE_in {names : List (List Tag)} {i k : Nat} {p : Post} (h : p ∈ cell names i k) : ∀ {j}, k < j → p ∈ rowE names i j
 | 0, hk => absurd hk (Nat.not_lt_zero _)
 | j + 1, hk => by
  rw [rowE_succ, List.mem_append]
  by_cases e : k = j
  ·subst e; exact .inr h
  ·exact .inl (rowE_in h (by omega))
theorem allE_in {names : List (List Tag)} {i j : Nat} {p : Post} (hj : j < 11) (h : p ∈ cell names i j) : ∀ {n}, i < n → p ∈ allE names n
 | 0, hk => absurd hk (Nat.not_lt_zero _)
 | n + 1, hk => by
  rw [allE_succ, List.mem_append]
  by_cases e : i = n
  ·subst e; exact .inr (rowE_in h hj)
  ·exact .inl (allE_in hj h (by omega))
theorem s1_lt {a b : Nat} (h : a < b) (hb : b < 128) : sless (s1 (a : Int)) (s1 (b : Int)) = true := by
 show sless ⟨#[UInt8.ofNat a]⟩ ⟨#[UInt8.ofNat b]⟩ = true
 rw [sl_one, decide_eq_true_eq, UInt8.lt_iff_toNat_lt]
 simp only [UInt8.toNat_ofNat']
 omega
theorem tg_lt {i j i' j' : Nat} (_ : i < 4) (_ : j < 11) (hi' : i' < 4) (hj' : j' < 11) (h : i < i' ∨ (i = i' ∧ j < j')) : ltTag (tg i j) (tg i' j') = true := by
 unfold ltTag tg
 rcases h with h | ⟨rfl, h⟩
 ·have := s1_lt (show 97 + i < 97 + i' by omega) (by omega)
  rw [show ((97 + i : Nat) : Int) = 97 + (i : Int) by omega, show ((97 + i' : Nat) : Int) = 97 + (i' : Int) by omega] at this
  rw [this]; rfl
 ·have := s1_lt (show 112 + j < 112 + j' by omega) (by omega)
  rw [show ((112 + j : Nat) : Int) = 112 + (j : Int) by omega, show ((112 + j' : Nat) : Int) = 112 + (j' : Int) by omega] at this
  rw [this]; simp
theorem rowE_ord {names : List (List Tag)} {i : Nat} (hi : i < 4) : ∀ {j}, j ≤ 11 → (rowE names i j).Pairwise fun x y => ltTag x.1 y.1 = true
 | 0, _ => List.Pairwise.nil
 | j + 1, hj => by
  rw [rowE_succ, List.pairwise_append]
  refine ⟨rowE_ord hi (by omega), ?_, fun p hp q hq => ?_⟩
  ·unfold cell; split <;> simp
  ·obtain ⟨k, hk, hp⟩ := rowE_mem hp
   rw [(cell_mem hp).1, (cell_mem hq).1]
   exact tg_lt hi (by omega) hi (by omega) (.inr ⟨rfl, hk⟩)
theorem allE_ord {names : List (List Tag)} : ∀ {i}, i ≤ 4 → (allE names i).Pairwise fun x y => ltTag x.1 y.1 = true
 | 0, _ => List.Pairwise.nil
 | i + 1, hi => by
  rw [allE_succ, List.pairwise_append]
  refine ⟨allE_ord (by omega), rowE_ord (by omega) (Nat.le_refl _), fun p hp q hq => ?_⟩
  obtain ⟨k, j, hk, hj, hp⟩ := allE_mem hp
  obtain ⟨j', hj', hq⟩ := rowE_mem hq
  rw [(cell_mem hp).1, (cell_mem hq).1]
  exact tg_lt (by omega) hj (by omega) hj' (.inl hk)
theorem tg_of {t : Tag} (h : tagB t = true) : ∃ i j, i < 4 ∧ j < 11 ∧ t = tg i j := by
 unfold tagB at h
 simp only [Bool.and_eq_true, decide_eq_true_eq, inn] at h
 obtain ⟨h1, h2, ⟨h3, h4⟩, h5, h6⟩ := h
 refine ⟨(sb t.1 0).toNat - 97, (sb t.2 0).toNat - 112, by omega, by omega, ?_⟩
 have e1 : t.1 = s1 (97 + (((sb t.1 0).toNat - 97 : Nat) : Int)) := by
  have : (97 + (((sb t.1 0).toNat - 97 : Nat) : Int)).toNat = (sb t.1 0).toNat := by omega
  unfold s1
  rw [this, UInt8.ofNat_toNat]
  exact ba_one h1
 have e2 : t.2 = s1 (112 + (((sb t.2 0).toNat - 112 : Nat) : Int)) := by
  have : (112 + (((sb t.2 0).toNat - 112 : Nat) : Int)).toNat = (sb t.2 0).toNat := by omega
  unfold s1
  rw [this, UInt8.ofNat_toNat]
  exact ba_one h2
 exact Prod.ext e1 e2
theorem idsN_name {names : List (List Tag)} {t : Tag} : ∀ {m}, idsN names t m ≠ [] → ∃ k, k < m ∧ t ∈ nth names k
 | 0, h => absurd rfl h
 | m + 1, h => by
  rw [idsN_succ] at h
  cases hc : hasT (nth names m) t with
  | true => exact ⟨m, Nat.lt_succ_self _, hasT_iff.1 hc⟩
  | false =>
   rw [if_neg (by rw [hc]; simp), List.append_nil] at h
   obtain ⟨k, hk, h⟩ := idsN_name h
   exact ⟨k, by omega, h⟩
def goodN (names : List (List Tag)) : Prop := ∀ k, k < names.length → nameOk (nth names k) = true
theorem goodN_dist {names : List (List Tag)} (h : goodN names) : dist names := fun n hn => by
 obtain ⟨i, hi, rfl⟩ := List.mem_iff_getElem.1 hn
 rw [← nth_eq names i hi]
 exact nameOk_nodup (h i hi)
theorem canon_all {names : List (List Tag)} (h : goodN names) : Canon names (allE names 4) := by
 refine ⟨allE_ord (Nat.le_refl _), fun p hp => ?_, fun t ht => ?_⟩
 ·obtain ⟨i, j, _, _, hp⟩ := allE_mem hp
  obtain ⟨e1, e2⟩ := cell_mem hp
  rw [e1]; exact ⟨rfl, e2⟩
 ·obtain ⟨k, hk, hm⟩ := idsN_name ht
  obtain ⟨i, j, hi, hj, rfl⟩ := tg_of (nameOk_tags (h k hk) t hm)
  refine ⟨(tg i j, idsN names (tg i j) names.length), allE_in hj ?_ hi, rfl⟩
  unfold cell
  rw [if_pos (List.length_pos_iff.2 ht)]
  exact List.mem_singleton.2 rfl
theorem e_rowE (names : List (List Tag)) (i : Nat) (hi : i < 4) (acc : List Post) (ha : acc.length ≤ 44) (h1 : names.length ≤ 4194304) (h2 : ∀ n ∈ names, n.length ≤ 4194304) : lp (p_spec_l11Of_b1 names (acc, 97 + (i : Int))) (acc, 112) = some (acc ++ rowE names i 11) := by
 have h0 : (acc, (112 : Int)) = (acc ++ rowE names i 0, (112 : Int) + ((0 : Nat) : Int)) := by rw [show rowE names i 0 = [] from rfl, List.append_nil]; rfl
 rw [h0, lp_for (body := p_spec_l11Of_b1 names (acc, 97 + (i : Int))) (fun j => (acc ++ rowE names i j, (112 : Int) + (j : Int))) 11 (acc ++ rowE names i 11) (fun j hj => by
  have hr := rowE_len names i j
  have ea : (112 : Int) + (j : Int) + 1 = 112 + ((j + 1 : Nat) : Int) := by omega
  unfold p_spec_l11Of_b1
  rw [decide_eq_true (show (112 : Int) + (j : Int) ≤ 122 by omega), cond_true, gd.yes (show asc (97 + (i : Int)) by unfold asc; omega), gd.yes (show asc (112 + (j : Int)) by unfold asc; omega), rowE_succ]
  show bd (p_spec_l11Ids names (tg i j)) _ = _
  rw [bd.yes (e_spec_l11Ids names (tg i j) h1 h2)]
  unfold cell
  by_cases hz : 0 < (idsN names (tg i j) names.length).length
  ·rw [decide_eq_true (show (0 : Int) < ((idsN names (tg i j) names.length).length : Int) by omega), cond_true, if_pos hz, gd.yes (by rw [List.length_append]; unfold room; omega), gd.yes (by unfold I32; omega), List.append_assoc, ea]; rfl
  ·rw [decide_eq_false (show ¬ (0 : Int) < ((idsN names (tg i j) names.length).length : Int) by omega), cond_false, if_neg hz, gd.yes (by unfold I32; omega), List.append_nil, ea]) (by
  unfold p_spec_l11Of_b1; rw [decide_eq_false (show ¬ ((112 : Int) + ((11 : Nat) : Int) ≤ 122) by omega)]; rfl)]
theorem good_of {x : Index} (h : indexB x = true) : goodN x.1 := fun k hk => nmBad_ok (allN_iff.1 (indexB_canon h).2.1 k hk)
theorem sumN_c {f : Nat → Nat} {c : Nat} : ∀ {n}, (∀ i, i < n → f i ≤ c) → sumN n f ≤ n * c
 | 0, _ => Nat.zero_le _
 | n + 1, h => by
  have h1 := sumN_c (n := n) fun i hi => h i (by omega)
  have h2 := h n (Nat.lt_succ_self _)
  show sumN n f + f n ≤ _
  rw [Nat.add_mul]; omega
theorem list_ext_nth {α : Type} [Inhabited α] {a b : List α} (h : a.length = b.length) (h2 : ∀ k, k < a.length → nth a k = nth b k) : a = b :=
 List.ext_getElem h fun k h1 h3 => by rw [← nth_eq a k h1, ← nth_eq b k h3]; exact h2 k h1
theorem indexB_P {names : List (List Tag)} (h : namesB names = true) : indexB (indexP names) = true := by
 unfold indexB
 rw [show (indexP names).1 = names from rfl, h, decide_eq_true rfl]; rfl
theorem bd_swl {α β γ : Type} {f : α → Option γ} {g : β → Option γ} {e : α} : bd (some (.inl e)) (sw f g) = f e := rfl
theorem bd_swr {α β γ : Type} {f : α → Option γ} {g : β → Option γ} {e : β} : bd (some (.inr e)) (sw f g) = g e := rfl
def insI (id : Int) (o : List Row) (m : Sample) : List Row := if m.1 = id then ins m.2 o else o
def memR (mem : List Sample) (id : Int) (o : List Row) : List Row := mem.foldl (insI id) o
def parR (parts : List Part) (id : Int) : List Row := parts.foldl (fun o p => mg o (partOf p id)) []
def rowsS (s : Store) (id : Int) : List Row := memR s.2.2 id (parR s.2.1 id)
theorem partOf_ok (p : Part) (id : Int) : blockOk (partOf p id) = true := by
 unfold partOf
 cases h : partOk p with
 | true => rw [if_pos rfl]; exact rowsOf_ok h id
 | false => rw [if_neg (by simp)]; rfl
theorem partOf_24 (p : Part) (id : Int) : (partOf p id).length ≤ 24 := (blockOk_iff.1 (partOf_ok p id)).2.2
theorem parF_len (id : Int) : ∀ (l : List Part) (o : List Row), (l.foldl (fun o p => mg o (partOf p id)) o).length ≤ o.length + 24 * l.length
 | [], _ => Nat.le_refl _
 | p :: l, o => by
  have h1 := parF_len id l (mg o (partOf p id))
  have h2 := (mg_len (partOf p id) o).2
  have h3 := partOf_24 p id
  rw [List.foldl_cons, List.length_cons]; omega
theorem parR_len (l : List Part) (id : Int) : (parR l id).length ≤ 24 * l.length := by
 have := parF_len id l []
 rw [List.length_nil] at this
 unfold parR; omega
theorem parF_asc (id : Int) : ∀ (l : List Part) (o : List Row), Asc o → Asc (l.foldl (fun o p => mg o (partOf p id)) o)
 | [], _, h => h
 | _ :: l, _, h => parF_asc id l _ (mg_asc h)
theorem parR_asc (l : List Part) (id : Int) : Asc (parR l id) := parF_asc id l [] nil_asc
theorem insI_len (id : Int) (o : List Row) (m : Sample) : (insI id o m).length ≤ o.length + 1 := by
 unfold insI
 split
 ·exact (ins_len m.2 o).2
 ·omega
theorem insI_asc {id : Int} {o : List Row} (m : Sample) (h : Asc o) : Asc (insI id o m) := by
 unfold insI
 split
 ·exact ins_asc m.2 h
 ·exact h
theorem memR_len (id : Int) : ∀ (l : List Sample) (o : List Row), (memR l id o).length ≤ o.length + l.length
 | [], _ => Nat.le_refl _
 | m :: l, o => by
  have h1 := memR_len id l (insI id o m)
  have h2 := insI_len id o m
  unfold memR at h1 ⊢
  rw [List.foldl_cons, List.length_cons]; omega
theorem memR_asc (id : Int) : ∀ (l : List Sample) (o : List Row), Asc o → Asc (memR l id o)
 | [], _, h => h
 | m :: l, _, h => memR_asc id l _ (insI_asc m h)
theorem memR_take (l : List Sample) (id : Int) (o : List Row) {k : Nat} (hk : k < l.length) : memR (l.take (k + 1)) id o = insI id (memR (l.take k) id o) (nth l k) := foldl_take _ _ _ _ hk
theorem e_rowsIn (r a : List Row) (ha : a.length ≤ 500) (hr : r.length ≤ 100) : lp (p_impl_Store_rows_b1 r) (a, 0) = some (mg a r) := by
 have := lp_for (body := p_impl_Store_rows_b1 r) (fun k => (mg a (r.take k), (k : Int))) r.length (mg a r) (fun k hk => by
  have hl := mg_take_len a r k (by omega)
  unfold p_impl_Store_rows_b1
  rw [dlt hk, cond_true, gd.yes (ixN hk)]
  simp only [Int.toNat_natCast]
  rw [bd.yes (e_put _ (nth r k) (by omega)), gd.yes (i64S hk (by omega)), mg_take a r k hk, addI]) (by
  unfold p_impl_Store_rows_b1
  rw [decide_eq_false (show ¬ ((r.length : Int) < (r.length : Int)) by omega), cond_false, List.take_length])
 exact this
theorem e_impl_rows (s : Store) (id : Int) (hp : s.2.1.length ≤ 6) (hm : s.2.2.length ≤ 30) (hP : ∀ p ∈ s.2.1, Dp.ok p ∧ Wt.w p ≤ 1048576) : p_impl_Store_rows s id = some (rowsS s id) := by
 have h0 : lp (p_impl_Store_rows_b0 s id) (([] : List Row), 0) = some (parR s.2.1 id) :=
  lp_for (body := p_impl_Store_rows_b0 s id) (fun k => ((s.2.1.take k).foldl (fun o p => mg o (partOf p id)) [], (k : Int))) s.2.1.length (parR s.2.1 id) (fun k hk => by
   have hl := parR_len (s.2.1.take k) id
   rw [List.length_take, Nat.min_eq_left (by omega)] at hl
   unfold parR at hl
   obtain ⟨k1, k2⟩ := hP _ (nth_mem hk)
   have h24 := partOf_24 (nth s.2.1 k) id
   unfold p_impl_Store_rows_b0
   rw [dlt hk, cond_true, gd.yes (ixN hk)]
   simp only [Int.toNat_natCast]
   rw [bd.yes (e_impl_PartOf (nth s.2.1 k) id k1 k2), bd.yes (e_rowsIn _ _ (by omega) (by omega)), gd.yes (i64S hk (by omega)), foldl_take _ _ _ _ hk, addI]) (by
   unfold p_impl_Store_rows_b0
   rw [decide_eq_false (show ¬ ((s.2.1.length : Int) < (s.2.1.length : Int)) by omega), cond_false, List.take_length]; rfl)
 have hpl := parR_len s.2.1 id
 have h1 : lp (p_impl_Store_rows_b2 s id) (parR s.2.1 id, 0) = some (rowsS s id) :=
  lp_for (body := p_impl_Store_rows_b2 s id) (fun k => (memR (s.2.2.take k) id (parR s.2.1 id), (k : Int))) s.2.2.length (rowsS s id) (fun k hk => by
   have hl := memR_len id (s.2.2.take k) (parR s.2.1 id)
   rw [List.length_take, Nat.min_eq_left (by omega)] at hl
   unfold p_impl_Store_rows_b2
   rw [dlt hk, cond_true, gd.yes (ixN hk), memR_take _ _ _ hk]
   simp only [Int.toNat_natCast]
   by_cases he : (nth s.2.2 k).1 = id
   ·rw [decide_eq_true he, cond_true, bd.yes (e_put _ _ (by omega)), gd.yes (i64S hk (by omega)), addI]
    unfold insI; rw [if_pos he]
   ·rw [decide_eq_false he, cond_false, gd.yes (i64S hk (by omega)), addI]
    unfold insI; rw [if_neg he]) (by
   unfold p_impl_Store_rows_b2
   rw [decide_eq_false (show ¬ ((s.2.2.length : Int) < (s.2.2.length : Int)) by omega), cond_false, List.take_length]; rfl)
 unfold p_impl_Store_rows
 rw [bd.yes h0, bd.yes h1]
theorem e_l2M (a b : List Row) (hab : a.length + b.length ≤ 100000) (h : Asc a) : p_spec_l2Merge a b = some (mg a b) := by
 unfold p_spec_l2Merge
 have g1 : room (([] : List Row).length + a.length) := by rw [List.length_nil]; unfold room; omega
 rw [gd.yes g1, List.nil_append]
 have : lp (p_spec_l2Merge_b0 b) (a, 0) = some (mg a b) := lp_for (body := p_spec_l2Merge_b0 b) (fun k => (mg a (b.take k), (k : Int))) b.length (mg a b) (fun k hk => by
  unfold p_spec_l2Merge_b0
  have hl := mg_take_len a b k (by omega)
  rw [dlt hk, cond_true, gd.yes (ixN hk)]
  simp only [Int.toNat_natCast]
  rw [bd.yes (e_l2Put _ (nth b k) (by omega)), l2_ins _ _ (mg_asc h), gd.yes (i64S hk (by omega)), mg_take a b k hk, addI]) (by
  unfold p_spec_l2Merge_b0
  rw [decide_eq_false (show ¬ ((b.length : Int) < (b.length : Int)) by omega), cond_false, List.take_length])
 rw [bd.yes this]
theorem partOf_yes {p : Part} (h : partOk p = true) (id : Int) : partOf p id = rowsOf p id := by unfold partOf; rw [if_pos h]
theorem e_spec_rows (s : Store) (id : Int) (hp : s.2.1.length ≤ 6) (hm : s.2.2.length ≤ 30) (hP : ∀ p ∈ s.2.1, Dp.ok p ∧ Wt.w p ≤ 1048576) (hK : ∀ p ∈ s.2.1, partOk p = true) : p_spec_l13Rows s id = some (rowsS s id) := by
 have h0 : lp (p_spec_l13Rows_b0 s id) (([] : List Row), 0) = some (parR s.2.1 id) :=
  lp_for (body := p_spec_l13Rows_b0 s id) (fun k => ((s.2.1.take k).foldl (fun o p => mg o (partOf p id)) [], (k : Int))) s.2.1.length (parR s.2.1 id) (fun k hk => by
   have hl := parR_len (s.2.1.take k) id
   have hasc := parR_asc (s.2.1.take k) id
   rw [List.length_take, Nat.min_eq_left (by omega)] at hl
   unfold parR at hl hasc
   obtain ⟨k1, k2⟩ := hP _ (nth_mem hk)
   have hk3 := hK _ (nth_mem hk)
   have h24 := partOf_24 (nth s.2.1 k) id
   have hlen := partOk_len' hk3
   unfold p_spec_l13Rows_b0
   rw [dlt hk, cond_true, gd.yes (ixN hk)]
   simp only [Int.toNat_natCast]
   rw [bd.yes (e_l12Of (nth s.2.1 k) id k1 hlen), ← partOf_yes hk3 id, bd.yes (e_l2M _ _ (by omega) hasc), gd.yes (i64S hk (by omega)), foldl_take _ _ _ _ hk, addI]) (by
   unfold p_spec_l13Rows_b0
   rw [decide_eq_false (show ¬ ((s.2.1.length : Int) < (s.2.1.length : Int)) by omega), cond_false, List.take_length]; rfl)
 have hpl := parR_len s.2.1 id
 have h1 : lp (p_spec_l13Rows_b1 s id) (parR s.2.1 id, 0) = some (rowsS s id) :=
  lp_for (body := p_spec_l13Rows_b1 s id) (fun k => (memR (s.2.2.take k) id (parR s.2.1 id), (k : Int))) s.2.2.length (rowsS s id) (fun k hk => by
   have hl := memR_len id (s.2.2.take k) (parR s.2.1 id)
   have hasc := memR_asc id (s.2.2.take k) (parR s.2.1 id) (parR_asc _ _)
   rw [List.length_take, Nat.min_eq_left (by omega)] at hl
   unfold p_spec_l13Rows_b1
   rw [dlt hk, cond_true, gd.yes (ixN hk), memR_take _ _ _ hk]
   simp only [Int.toNat_natCast]
   by_cases he : (nth s.2.2 k).1 = id
   ·rw [decide_eq_true he, cond_true, bd.yes (e_l2Put _ _ (by omega)), l2_ins _ _ hasc, gd.yes (i64S hk (by omega)), addI]
    unfold insI; rw [if_pos he]
   ·rw [decide_eq_false he, cond_false, gd.yes (i64S hk (by omega)), addI]
    unfold insI; rw [if_neg he]) (by
   unfold p_spec_l13Rows_b1
   rw [decide_eq_false (show ¬ ((s.2.2.length : Int) < (s.2.2.length : Int)) by omega), cond_false, List.take_length]; rfl)
 unfold p_spec_l13Rows
 rw [bd.yes h0, bd.yes h1]
theorem e_Max (l : List Int) (h : l.Pairwise (· < ·)) (h0 : 0 < l.length) (hl : l.length ≤ 1048576) : p_slices_Max_int_int l = some (nth l (l.length - 1)) := by
 unfold p_slices_Max_int_int
 rw [decide_eq_false (show ¬ ((l.length : Int) < 1) by omega), cond_false, gd.yes (show ix 0 l.length by unfold ix; omega)]
 have : lp (p_slices_Max_int_int_b0 l) (nth l 0, ((0 : Nat) : Int) + 1) = some (nth l (l.length - 1)) := lp_for (body := p_slices_Max_int_int_b0 l) (fun k => (nth l k, (k : Int) + 1)) (l.length - 1) (nth l (l.length - 1)) (fun k hk => by
  have hk1 : k + 1 < l.length := by omega
  have hlt : nth l k < nth l (k + 1) := by
   rw [nth_eq l k (by omega), nth_eq l (k + 1) hk1]
   exact List.pairwise_iff_getElem.1 h k (k + 1) (by omega) hk1 (by omega)
  unfold p_slices_Max_int_int_b0
  rw [decide_eq_true (show (k : Int) + 1 < (l.length : Int) by omega), cond_true, addI, gd.yes (ixN hk1), gd.yes (show I64 (((k + 1 : Nat) : Int) + 1) by unfold I64; omega)]
  simp only [Int.toNat_natCast]
  rw [show max (nth l k) (nth l (k + 1)) = nth l (k + 1) by omega]) (by
  unfold p_slices_Max_int_int_b0
  rw [decide_eq_false (show ¬ (((l.length - 1 : Nat) : Int) + 1 < (l.length : Int)) by omega), cond_false])
 have e1 : ((0 : Nat) : Int) + 1 = 1 := rfl
 rw [e1] at this
 rw [bd.yes this]
def lastId (p : Part) : Int := nth p.1 (p.1.length - 1)
def badP (n : Nat) (p : Part) : Bool := !partOk p || (decide (p.1.length = 0) || decide ((n : Int) < lastId p))
def badM (n : Nat) (m : Sample) : Bool := !inn 1 m.1 (n : Int) || !rowOk m.2
def badR (s : Store) (k : Nat) : Bool := decide (24 < (rowsS s ((k : Int) + 1)).length)
def storeB (s : Store) : Bool := indexB s.1 && (decide (s.2.1.length ≤ 6) && (decide (s.2.2.length ≤ 20) && (allN s.2.1.length (fun k => badP s.1.1.length (nth s.2.1 k)) && (allN s.2.2.length (fun k => badM s.1.1.length (nth s.2.2 k)) && allN s.1.1.length (badR s)))))
structure okS (s : Store) : Prop where
 w1 : Wt.w s.1.1 ≤ 4194304
 w2 : postsW s.1.2
 pl : s.2.1.length ≤ 1048576
 ml : s.2.2.length ≤ 1048576
 p : ∀ p ∈ s.2.1, Dp.ok p ∧ Wt.w p ≤ 1048576
theorem badP_ok {n : Nat} {p : Part} (h : badP n p = false) : partOk p = true ∧ 0 < p.1.length ∧ lastId p ≤ (n : Int) := by
 unfold badP at h
 simp only [Bool.or_eq_false_iff, Bool.not_eq_false', decide_eq_false_iff_not] at h
 exact ⟨h.1, by omega, by omega⟩
theorem e_badP (n : Nat) (p : Part) (_ : Dp.ok p) (hl : p.1.length ≤ 1048576) (h1 : p_impl_PartOk p = some (partOk p)) : (bd (p_impl_PartOk p) fun r29 => cond (!r29) (some (true)) (cond (decide (((p.1).length : Int) = 0)) (some (true)) (bd (p_slices_Max_int_int (p.1)) fun r33 => some (decide ((n : Int) < r33))))) = some (badP n p) := by
 rw [bd.yes h1]
 unfold badP
 cases h : partOk p with
 | false => rfl
 | true =>
  rw [Bool.not_true, cond_false, Bool.false_or]
  by_cases h0 : p.1.length = 0
  ·rw [decide_eq_true (show (p.1.length : Int) = 0 by omega), cond_true, decide_eq_true h0]; rfl
  ·rw [decide_eq_false (show ¬ (p.1.length : Int) = 0 by omega), cond_false, decide_eq_false h0, bd.yes (e_Max p.1 (partOk_asc h) (by omega) hl)]; rfl
theorem e_impl_StoreOk (s : Store) (h : okS s) : p_impl_StoreOk s = some (storeB s) := by
 have hpl := h.pl
 have hml := h.ml
 unfold p_impl_StoreOk storeB
 rw [bd.yes (e_impl_IndexOk s.1 h.w1 h.w2)]
 cases hi : indexB s.1 with
 | false => rfl
 | true =>
  have hn6 := (indexB_canon hi).2.2.1
  rw [Bool.not_true, cond_false]
  by_cases h6 : s.2.1.length ≤ 6
  ·rw [decide_eq_false (show ¬ (6 : Int) < (s.2.1.length : Int) by omega), cond_false, decide_eq_true h6]
   by_cases h20 : s.2.2.length ≤ 20
   ·rw [decide_eq_false (show ¬ (20 : Int) < (s.2.2.length : Int) by omega), bd_some, cond_false, decide_eq_true h20, Bool.true_and, Bool.true_and, Bool.true_and]
    have hr0 : ∀ k, k < s.2.1.length → p_impl_StoreOk_b0 s (k : Int) = some (if badP s.1.1.length (nth s.2.1 k) then .inr (.inr false) else .inl ((k + 1 : Nat) : Int)) := fun k hk => by
     obtain ⟨k1, k2⟩ := h.p _ (nth_mem hk)
     have hl : (nth s.2.1 k).1.length ≤ Wt.w (nth s.2.1 k) := Nat.le_trans wL_le (Nat.le_add_right _ _)
     unfold p_impl_StoreOk_b0
     rw [dlt hk, cond_true, gd.yes (ixN hk)]
     simp only [Int.toNat_natCast]
     rw [bd.yes (e_badP s.1.1.length (nth s.2.1 k) k1 (by omega) (e_impl_PartOk _ k1)), gd.yes (i64S hk (by omega)), addI]
     cases badP s.1.1.length (nth s.2.1 k) <;> rfl
    rcases lp_scan (body := p_impl_StoreOk_b0 s) (fun k => (k : Int)) s.2.1.length (fun k => badP s.1.1.length (nth s.2.1 k)) (.inl ()) (fun _ => .inr false) (fun k hk _ h => by rw [hr0 k hk, h]; rfl) (fun k hk _ h => by rw [hr0 k hk, h]; rfl) (fun _ => by unfold p_impl_StoreOk_b0; rw [decide_eq_false (show ¬ ((s.2.1.length : Int) < (s.2.1.length : Int)) by omega)]; rfl) with ⟨a1, a2⟩ | ⟨a1, _, _, _, _, a2⟩
    ·rw [show (lp (p_impl_StoreOk_b0 s) 0) = _ from a2, bd_swl, a1, Bool.true_and]
     have hr1 : ∀ k, k < s.2.2.length → p_impl_StoreOk_b1 s (k : Int) = some (if badM s.1.1.length (nth s.2.2 k) then .inr (.inr false) else .inl ((k + 1 : Nat) : Int)) := fun k hk => by
      unfold p_impl_StoreOk_b1 badM
      rw [dlt hk, cond_true, gd.yes (ixN hk)]
      simp only [Int.toNat_natCast]
      rw [bd.yes (e_impl_within _ _ _), bd.yes (e_impl_rowOk _), gd.yes (i64S hk (by omega)), addI]
      cases inn 1 (nth s.2.2 k).1 (s.1.1.length : Int) <;> cases rowOk (nth s.2.2 k).2 <;> rfl
     rcases lp_scan (body := p_impl_StoreOk_b1 s) (fun k => (k : Int)) s.2.2.length (fun k => badM s.1.1.length (nth s.2.2 k)) (.inl ()) (fun _ => .inr false) (fun k hk _ h => by rw [hr1 k hk, h]; rfl) (fun k hk _ h => by rw [hr1 k hk, h]; rfl) (fun _ => by unfold p_impl_StoreOk_b1; rw [decide_eq_false (show ¬ ((s.2.2.length : Int) < (s.2.2.length : Int)) by omega)]; rfl) with ⟨b1, b2⟩ | ⟨b1, _, _, _, _, b2⟩
     ·rw [show (lp (p_impl_StoreOk_b1 s) 0) = _ from b2, bd_swl, b1, Bool.true_and]
      have hr2 : ∀ k, k < s.1.1.length → p_impl_StoreOk_b2 s ((k : Int) + 1) = some (if badR s k then .inr (.inr false) else .inl (((k + 1 : Nat) : Int) + 1)) := fun k hk => by
       unfold p_impl_StoreOk_b2 badR
       rw [decide_eq_true (show (k : Int) + 1 ≤ (s.1.1.length : Int) by omega), cond_true, bd.yes (e_impl_rows s _ h6 (by omega) h.p), gd.yes (show I64 ((k : Int) + 1 + 1) by unfold I64; omega)]
       by_cases hr : 24 < (rowsS s ((k : Int) + 1)).length
       ·rw [decide_eq_true (show (24 : Int) < ((rowsS s ((k : Int) + 1)).length : Int) by omega), decide_eq_true hr]; rfl
       ·rw [decide_eq_false (show ¬ (24 : Int) < ((rowsS s ((k : Int) + 1)).length : Int) by omega), decide_eq_false hr]
        have : (k : Int) + 1 + 1 = ((k + 1 : Nat) : Int) + 1 := by omega
        rw [this]; rfl
      rcases lp_scan (body := p_impl_StoreOk_b2 s) (fun k => (k : Int) + 1) s.1.1.length (badR s) (.inl ()) (fun _ => .inr false) (fun k hk _ h => by rw [hr2 k hk, h]; rfl) (fun k hk _ h => by rw [hr2 k hk, h]; rfl) (fun _ => by unfold p_impl_StoreOk_b2; rw [decide_eq_false (show ¬ ((s.1.1.length : Int) + 1 ≤ (s.1.1.length : Int)) by omega)]; rfl) with ⟨c1, c2⟩ | ⟨c1, _, _, _, _, c2⟩
      ·rw [show (lp (p_impl_StoreOk_b2 s) 1) = _ from c2, bd_swl, c1]
      ·rw [show (lp (p_impl_StoreOk_b2 s) 1) = _ from c2, bd_swr, c1]
     ·rw [show (lp (p_impl_StoreOk_b1 s) 0) = _ from b2, bd_swr, b1]; rfl
    ·rw [show (lp (p_impl_StoreOk_b0 s) 0) = _ from a2, bd_swr, a1]; rfl
   ·rw [decide_eq_true (show (20 : Int) < (s.2.2.length : Int) by omega), bd_some, cond_true, decide_eq_false h20]; rfl
  ·rw [decide_eq_true (show (6 : Int) < (s.2.1.length : Int) by omega), cond_true, decide_eq_false h6]; rfl
theorem e_l13Part (n : Nat) (p : Part) (hp : Dp.ok p) (hl : p.1.length ≤ 1048576) : p_spec_l13Part p (n : Int) = some (!badP n p) := by
 unfold p_spec_l13Part badP
 rw [bd.yes (e_spec_PartOk p hp)]
 cases h : partOk p with
 | false => rfl
 | true =>
  rw [cond_true, Bool.not_true, Bool.false_or]
  by_cases h0 : p.1.length = 0
  ·rw [decide_eq_false (show ¬ (0 : Int) < (p.1.length : Int) by omega), cond_false, decide_eq_true h0]; rfl
  ·have e1 : (p.1.length : Int) - 1 = ((p.1.length - 1 : Nat) : Int) := by omega
   rw [decide_eq_true (show (0 : Int) < (p.1.length : Int) by omega), cond_true, decide_eq_false h0, Bool.false_or, gd.yes (show I64 ((p.1.length : Int) - 1) by unfold I64; omega), e1, gd.yes (ixN (show p.1.length - 1 < p.1.length by omega)), bd_some, Int.toNat_natCast]
   by_cases hq : (n : Int) < lastId p
   ·have : ¬ nth p.1 (p.1.length - 1) ≤ (n : Int) := by unfold lastId at hq; omega
    rw [decide_eq_false this, decide_eq_true hq]; rfl
   ·have : nth p.1 (p.1.length - 1) ≤ (n : Int) := by unfold lastId at hq; omega
    rw [decide_eq_true this, decide_eq_false hq]; rfl
theorem e_spec_StoreOk (s : Store) (h : okS s) : p_spec_StoreOk s = some (storeB s) := by
 have hpl := h.pl
 have hml := h.ml
 unfold p_spec_StoreOk storeB
 rw [bd.yes (e_spec_IndexOk s.1 h.w1 h.w2)]
 cases hi : indexB s.1 with
 | false => rfl
 | true =>
  have hn6 := (indexB_canon hi).2.2.1
  rw [Bool.not_true, cond_false]
  by_cases h6 : s.2.1.length ≤ 6
  ·rw [decide_eq_false (show ¬ (6 : Int) < (s.2.1.length : Int) by omega), cond_false, decide_eq_true h6]
   by_cases h20 : s.2.2.length ≤ 20
   ·rw [decide_eq_false (show ¬ (20 : Int) < (s.2.2.length : Int) by omega), bd_some, cond_false, decide_eq_true h20, Bool.true_and, Bool.true_and, Bool.true_and]
    have hr0 : ∀ k, k < s.2.1.length → p_spec_StoreOk_b0 s (k : Int) = some (if badP s.1.1.length (nth s.2.1 k) then .inr (.inr false) else .inl ((k + 1 : Nat) : Int)) := fun k hk => by
     obtain ⟨k1, k2⟩ := h.p _ (nth_mem hk)
     have hl : (nth s.2.1 k).1.length ≤ Wt.w (nth s.2.1 k) := Nat.le_trans wL_le (Nat.le_add_right _ _)
     unfold p_spec_StoreOk_b0
     rw [dlt hk, cond_true, gd.yes (ixN hk)]
     simp only [Int.toNat_natCast]
     rw [bd.yes (e_l13Part s.1.1.length (nth s.2.1 k) k1 (by omega)), gd.yes (i64S hk (by omega)), addI]
     cases badP s.1.1.length (nth s.2.1 k) <;> rfl
    rcases lp_scan (body := p_spec_StoreOk_b0 s) (fun k => (k : Int)) s.2.1.length (fun k => badP s.1.1.length (nth s.2.1 k)) (.inl ()) (fun _ => .inr false) (fun k hk _ h => by rw [hr0 k hk, h]; rfl) (fun k hk _ h => by rw [hr0 k hk, h]; rfl) (fun _ => by unfold p_spec_StoreOk_b0; rw [decide_eq_false (show ¬ ((s.2.1.length : Int) < (s.2.1.length : Int)) by omega)]; rfl) with ⟨a1, a2⟩ | ⟨a1, _, _, _, _, a2⟩
    ·rw [show (lp (p_spec_StoreOk_b0 s) 0) = _ from a2, bd_swl, a1, Bool.true_and]
     have hK : ∀ p ∈ s.2.1, partOk p = true := fun p hp => by
      obtain ⟨i, hi, rfl⟩ := List.mem_iff_getElem.1 hp
      have := allN_iff.1 a1 i hi
      rw [nth_eq _ i hi] at this
      exact (badP_ok this).1
     have hr1 : ∀ k, k < s.2.2.length → p_spec_StoreOk_b1 s (k : Int) = some (if badM s.1.1.length (nth s.2.2 k) then .inr (.inr false) else .inl ((k + 1 : Nat) : Int)) := fun k hk => by
      unfold p_spec_StoreOk_b1 badM
      rw [dlt hk, cond_true, gd.yes (ixN hk)]
      simp only [Int.toNat_natCast]
      rw [bd.yes (e_spec_l6In _ _ _), bd.yes (e_spec_l2Row _), gd.yes (i64S hk (by omega)), addI]
      cases inn 1 (nth s.2.2 k).1 (s.1.1.length : Int) <;> cases rowOk (nth s.2.2 k).2 <;> rfl
     rcases lp_scan (body := p_spec_StoreOk_b1 s) (fun k => (k : Int)) s.2.2.length (fun k => badM s.1.1.length (nth s.2.2 k)) (.inl ()) (fun _ => .inr false) (fun k hk _ h => by rw [hr1 k hk, h]; rfl) (fun k hk _ h => by rw [hr1 k hk, h]; rfl) (fun _ => by unfold p_spec_StoreOk_b1; rw [decide_eq_false (show ¬ ((s.2.2.length : Int) < (s.2.2.length : Int)) by omega)]; rfl) with ⟨b1, b2⟩ | ⟨b1, _, _, _, _, b2⟩
     ·rw [show (lp (p_spec_StoreOk_b1 s) 0) = _ from b2, bd_swl, b1, Bool.true_and]
      have hr2 : ∀ k, k < s.1.1.length → p_spec_StoreOk_b2 s ((k : Int) + 1) = some (if badR s k then .inr (.inr false) else .inl (((k + 1 : Nat) : Int) + 1)) := fun k hk => by
       unfold p_spec_StoreOk_b2 badR
       rw [decide_eq_true (show (k : Int) + 1 ≤ (s.1.1.length : Int) by omega), cond_true, bd.yes (e_spec_rows s _ h6 (by omega) h.p hK), gd.yes (show I64 ((k : Int) + 1 + 1) by unfold I64; omega)]
       by_cases hr : 24 < (rowsS s ((k : Int) + 1)).length
       ·rw [decide_eq_true (show (24 : Int) < ((rowsS s ((k : Int) + 1)).length : Int) by omega), decide_eq_true hr]; rfl
       ·rw [decide_eq_false (show ¬ (24 : Int) < ((rowsS s ((k : Int) + 1)).length : Int) by omega), decide_eq_false hr]
        have : (k : Int) + 1 + 1 = ((k + 1 : Nat) : Int) + 1 := by omega
        rw [this]; rfl
      rcases lp_scan (body := p_spec_StoreOk_b2 s) (fun k => (k : Int) + 1) s.1.1.length (badR s) (.inl ()) (fun _ => .inr false) (fun k hk _ h => by rw [hr2 k hk, h]; rfl) (fun k hk _ h => by rw [hr2 k hk, h]; rfl) (fun _ => by unfold p_spec_StoreOk_b2; rw [decide_eq_false (show ¬ ((s.1.1.length : Int) + 1 ≤ (s.1.1.length : Int)) by omega)]; rfl) with ⟨c1, c2⟩ | ⟨c1, _, _, _, _, c2⟩
      ·rw [show (lp (p_spec_StoreOk_b2 s) 1) = _ from c2, bd_swl, c1]
      ·rw [show (lp (p_spec_StoreOk_b2 s) 1) = _ from c2, bd_swr, c1]
     ·rw [show (lp (p_spec_StoreOk_b1 s) 0) = _ from b2, bd_swr, b1]; rfl
    ·rw [show (lp (p_spec_StoreOk_b0 s) 0) = _ from a2, bd_swr, a1]; rfl
   ·rw [decide_eq_true (show (20 : Int) < (s.2.2.length : Int) by omega), bd_some, cond_true, decide_eq_false h20]; rfl
  ·rw [decide_eq_true (show (6 : Int) < (s.2.1.length : Int) by omega), cond_true, decide_eq_false h6]; rfl
theorem okS_of {s : Store} (ok : Dp.ok s) (hw : Wt.w s ≤ 1048576) : okS s := by
 have e : Wt.w s = Wt.w s.1 + (Wt.w s.2.1 + Wt.w s.2.2) := rfl
 obtain ⟨w1, w2⟩ := w_index (x := s.1) (by omega)
 have l1 : s.2.1.length ≤ Wt.w s.2.1 := wL_le
 have l2 : s.2.2.length ≤ Wt.w s.2.2 := wL_le
 refine ⟨w1, w2, by omega, by omega, fun p hp => ?_⟩
 obtain ⟨i, hi, rfl⟩ := List.mem_iff_getElem.1 hp
 rw [← nth_eq _ i hi]
 have := wL_el (l := s.2.1) hi
 exact ⟨ok.2.1.2 i hi, by omega⟩
structure goodS (s : Store) : Prop where
 i : indexB s.1 = true
 n6 : s.1.1.length ≤ 6
 p6 : s.2.1.length ≤ 6
 m20 : s.2.2.length ≤ 20
 p : ∀ p ∈ s.2.1, partOk p = true ∧ 0 < p.1.length ∧ lastId p ≤ (s.1.1.length : Int)
 m : ∀ m ∈ s.2.2, 1 ≤ m.1 ∧ m.1 ≤ (s.1.1.length : Int) ∧ rowOk m.2 = true
theorem storeB_good {s : Store} (h : storeB s = true) : goodS s := by
 unfold storeB at h
 simp only [Bool.and_eq_true, decide_eq_true_eq] at h
 obtain ⟨h1, h2, h3, h4, h5, _⟩ := h
 refine ⟨h1, (indexB_canon h1).2.2.1, h2, h3, fun p hp => ?_, fun m hm => ?_⟩
 ·obtain ⟨i, hi, rfl⟩ := List.mem_iff_getElem.1 hp
  have := allN_iff.1 h4 i hi
  rw [nth_eq _ i hi] at this
  exact badP_ok this
 ·obtain ⟨i, hi, rfl⟩ := List.mem_iff_getElem.1 hm
  have := allN_iff.1 h5 i hi
  rw [nth_eq _ i hi] at this
  unfold badM inn at this
  simp only [Bool.or_eq_false_iff, Bool.not_eq_false', Bool.and_eq_true, decide_eq_true_eq] at this
  exact ⟨this.1.1, this.1.2, this.2⟩
theorem e_clonePart (p : Part) (h1 : p.1.length ≤ 1048576) (h2 : p.2.length ≤ 1048576) (h3 : ∀ b ∈ p.2, b.length ≤ 1048576) : p_impl_clonePart p = some p := by
 have h : lp (p_impl_clonePart_b0 p) (([] : List (List Row)), 0) = some p.2 := lp_for (body := p_impl_clonePart_b0 p) (fun k => (p.2.take k, (k : Int))) p.2.length p.2 (fun k hk => by
  have hb := h3 _ (nth_mem hk)
  have hlt : (p.2.take k).length ≤ k := by rw [List.length_take]; omega
  unfold p_impl_clonePart_b0
  rw [dlt hk, cond_true, gd.yes (ixN hk)]
  simp only [Int.toNat_natCast]
  rw [gd.yes (show room (([] : List Row).length + (nth p.2 k).length) by rw [List.length_nil]; unfold room; omega), gd.yes (show room ((p.2.take k).length + 1) by unfold room; omega), gd.yes (show I64 ((k : Int) + 1) by unfold I64; omega), List.nil_append, take_succ_nth hk, addI]) (by
  unfold p_impl_clonePart_b0
  rw [decide_eq_false (show ¬ ((p.2.length : Int) < (p.2.length : Int)) by omega), cond_false, List.take_length])
 unfold p_impl_clonePart
 rw [gd.yes (show room (([] : List Int).length + p.1.length) by rw [List.length_nil]; unfold room; omega), bd.yes h, List.nil_append]
theorem partOk_le {p : Part} (h : partOk p = true) : p.1.length ≤ 1048576 ∧ p.2.length ≤ 1048576 ∧ ∀ b ∈ p.2, b.length ≤ 1048576 := by
 obtain ⟨a, b, c⟩ := partOk_small h
 exact ⟨by omega, by omega, fun x hx => by have := c x hx; omega⟩
def blkM (mem : List Sample) (n : Nat) : List (List Row) := (List.range n).map fun i => memR mem ((i + 1 : Nat) : Int) []
def memP (mem : List Sample) : Part := mkP 0 (blkM mem 6)
theorem blkM_len (mem : List Sample) (n : Nat) : (blkM mem n).length = n := by simp [blkM]
theorem blkM_nth (mem : List Sample) {n i : Nat} (h : i < n) : nth (blkM mem n) i = memR mem ((i + 1 : Nat) : Int) [] := by
 rw [nth_eq _ i (by rw [blkM_len]; exact h)]; simp [blkM]
theorem blkM_succ (mem : List Sample) (n : Nat) : blkM mem (n + 1) = blkM mem n ++ [memR mem ((n + 1 : Nat) : Int) []] := by simp [blkM, List.range_succ]
theorem memR_nil_len (mem : List Sample) (id : Int) : (memR mem id []).length ≤ mem.length := by
 have := memR_len id mem []
 rw [List.length_nil] at this; omega
theorem e_flushed (s : Store) (hm : s.2.2.length ≤ 30) : p_impl_Store_flushed s = some (memP s.2.2) := by
 have key : lp (p_impl_Store_flushed_b0 s) (([] : List Int), ([] : List (List Row)), ((0 : Nat) : Int) + 1) = some ((memP s.2.2).1, (memP s.2.2).2) := lp_for (body := p_impl_Store_flushed_b0 s) (fun k => ((mkP 0 (blkM s.2.2 k)).1, (mkP 0 (blkM s.2.2 k)).2, (k : Int) + 1)) 6 ((memP s.2.2).1, (memP s.2.2).2) (fun k hk => by
  have er : p_impl_Store_rows ((([] : List (List Tag)), ([] : List Post)), ([] : List Part), s.2.2) ((k : Int) + 1) = some (memR s.2.2 ((k : Int) + 1) []) := e_impl_rows ((([] : List (List Tag)), ([] : List Post)), ([] : List Part), s.2.2) ((k : Int) + 1) (Nat.zero_le _) hm (fun p hp => by cases hp)
  have hl := mkP_len (blkM s.2.2 k) 0
  rw [blkM_len] at hl
  unfold p_impl_Store_flushed_b0
  rw [decide_eq_true (show (k : Int) + 1 ≤ 6 by omega), cond_true, bd.yes er]
  have e2 : (k : Int) + 1 + 1 = ((k + 1 : Nat) : Int) + 1 := by omega
  have hI : I64 ((k : Int) + 1 + 1) := by unfold I64; omega
  have e3 : blkM s.2.2 (k + 1) = blkM s.2.2 k ++ [memR s.2.2 ((k : Int) + 1) []] := by rw [blkM_succ, ← addI]
  rw [e3, mkP_snoc, blkM_len, Nat.zero_add, ← addI]
  by_cases h0 : 0 < (memR s.2.2 ((k : Int) + 1) []).length
  ·rw [decide_eq_true (show (0 : Int) < ((memR s.2.2 ((k : Int) + 1) []).length : Int) by omega), cond_true, if_pos h0, gd.yes (show room ((mkP 0 (blkM s.2.2 k)).1.length + 1) by unfold room; omega), gd.yes (show room ((mkP 0 (blkM s.2.2 k)).2.length + 1) by unfold room; omega), gd.yes hI]
  ·rw [decide_eq_false (show ¬ (0 : Int) < ((memR s.2.2 ((k : Int) + 1) []).length : Int) by omega), cond_false, if_neg h0, gd.yes hI]) (by
  unfold p_impl_Store_flushed_b0
  rfl)
 have e1 : ((0 : Nat) : Int) + 1 = 1 := rfl
 rw [e1] at key
 unfold p_impl_Store_flushed
 rw [bd.yes key]
theorem memR_snoc (l : List Sample) (m : Sample) (id : Int) : memR (l ++ [m]) id [] = insI id (memR l id []) m := by unfold memR; rw [List.foldl_append]; rfl
theorem blkM_set (l : List Sample) (m : Sample) (j : Nat) (hj : j < 6) (hm : m.1 = ((j + 1 : Nat) : Int)) : (blkM l 6).set j (ins m.2 (nth (blkM l 6) j)) = blkM (l ++ [m]) 6 := by
 refine list_ext_nth (by rw [List.length_set, blkM_len, blkM_len]) fun k hk => ?_
 rw [List.length_set, blkM_len] at hk
 rw [blkM_nth _ hk, memR_snoc]
 by_cases e : k = j
 ·subst e
  rw [nth_set_eq (by rw [blkM_len]; exact hk), blkM_nth _ hk]
  unfold insI
  rw [if_pos hm]
 ·rw [nth_set_ne e, blkM_nth _ hk]
  unfold insI
  rw [if_neg (by rw [hm]; omega)]
theorem blkM_nil : (List.replicate (6 : Int).toNat (Zr.z0 : List Row)) = blkM [] 6 := rfl
theorem e_l13Mem (s : Store) (hm : s.2.2.length ≤ 30) (hid : ∀ m ∈ s.2.2, 1 ≤ m.1 ∧ m.1 ≤ 6) : p_spec_l13Mem s = some (memP s.2.2) := by
 have key : lp (p_spec_l13Mem_b0 s) (blkM [] 6, 0) = some (blkM s.2.2 6) := lp_for (body := p_spec_l13Mem_b0 s) (fun k => (blkM (s.2.2.take k) 6, (k : Int))) s.2.2.length (blkM s.2.2 6) (fun k hk => by
  obtain ⟨a1, a2⟩ := hid _ (nth_mem hk)
  obtain ⟨j, hj⟩ : ∃ j : Nat, (nth s.2.2 k).1 = ((j + 1 : Nat) : Int) := ⟨((nth s.2.2 k).1 - 1).toNat, by omega⟩
  have hj6 : j < 6 := by omega
  have e1 : (nth s.2.2 k).1 - 1 = (j : Int) := by omega
  have hb : (nth (blkM (s.2.2.take k) 6) j).length ≤ 30 := by
   rw [blkM_nth _ hj6]
   have := memR_nil_len (s.2.2.take k) ((j + 1 : Nat) : Int)
   rw [List.length_take] at this; omega
  have hasc : Asc (nth (blkM (s.2.2.take k) 6) j) := by rw [blkM_nth _ hj6]; exact memR_asc _ _ _ nil_asc
  unfold p_spec_l13Mem_b0
  rw [dlt hk, cond_true, gd.yes (ixN hk)]
  simp only [Int.toNat_natCast]
  have e2 : ((nth s.2.2 k).1 - 1).toNat = j := by omega
  rw [gd.yes (show ix ((nth s.2.2 k).1 - 1) (blkM (s.2.2.take k) 6).length by rw [blkM_len]; unfold ix; omega), gd.yes (show I64 ((nth s.2.2 k).1 - 1) by unfold I64; omega), e2]
  rw [bd.yes (e_l2Put _ _ (by omega)), l2_ins _ _ hasc, gd.yes (show I64 ((k : Int) + 1) by unfold I64; omega), blkM_set _ _ j hj6 hj, take_succ_nth hk, addI]) (by
  unfold p_spec_l13Mem_b0
  rw [decide_eq_false (show ¬ ((s.2.2.length : Int) < (s.2.2.length : Int)) by omega), cond_false, List.take_length])
 unfold p_spec_l13Mem
 rw [gd.yes (show many 6 by unfold many; omega), blkM_nil, bd.yes key, bd.yes (e_l12Make _ (by rw [blkM_len]; omega) (fun b hb => by
  obtain ⟨i, hi, rfl⟩ := List.mem_iff_getElem.1 hb
  rw [← nth_eq _ i hi, blkM_nth _ (by rw [blkM_len] at hi; exact hi)]
  have := memR_nil_len s.2.2 ((i + 1 : Nat) : Int)
  omega))]
 rfl
theorem memP_small (mem : List Sample) (hm : mem.length ≤ 30) : small (memP mem) := by
 have hl := mkP_len (blkM mem 6) 0
 rw [blkM_len] at hl
 refine ⟨by unfold memP; omega, by unfold memP; omega, fun b hb => ?_⟩
 have := mkP_mem _ _ _ hb
 obtain ⟨i, hi, rfl⟩ := List.mem_iff_getElem.1 this
 rw [← nth_eq _ i hi, blkM_nth _ (by rw [blkM_len] at hi; exact hi)]
 have := memR_nil_len mem ((i + 1 : Nat) : Int)
 omega
def nums (d : Disk) : List Int := d.1.map (·.1)
def atF (d : Disk) (num : Int) : Int := place (nums d) num
theorem nums_len (d : Disk) : (nums d).length = d.1.length := List.length_map ..
theorem nums_nth (d : Disk) {k : Nat} (hk : k < d.1.length) : nth (nums d) k = (nth d.1 k).1 := by
 rw [nth_eq _ k (by rw [nums_len]; exact hk), nth_eq _ k hk]; exact List.getElem_map ..
theorem atF_lt {d : Disk} {num : Int} : atF d num < 0 ∨ ∃ k, k < d.1.length ∧ atF d num = (k : Int) := by
 have := place_lt (l := nums d) (id := num)
 rwa [nums_len] at this
theorem atF_no {d : Disk} {num : Int} (h : allN d.1.length (fun k => decide ((nth d.1 k).1 = num)) = true) : atF d num = -1 :=
 place_no (allN_iff.2 fun k hk => by
  rw [nums_len] at hk
  rw [nums_nth d hk]; exact allN_iff.1 h k hk)
theorem atF_yes {d : Disk} {num : Int} {k : Nat} (hk : k < d.1.length) (h : decide ((nth d.1 k).1 = num) = true) (h2 : ∀ i, i < k → decide ((nth d.1 i).1 = num) = false) : atF d num = (k : Int) :=
 place_yes (by rw [nums_len]; exact hk) (by rw [nums_nth d hk]; exact h) (fun i hi => by rw [nums_nth d (by omega)]; exact h2 i hi)
theorem e_impl_file (d : Disk) (num : Int) (hl : d.1.length ≤ 1048576) : p_impl_Disk_file d num = some (atF d num) := by
 have hr : ∀ k, k < d.1.length → p_slices_IndexFunc_File_File_Disk_file_1_b0 d.1 num (k : Int) = some (if decide ((nth d.1 k).1 = num) then .inr (.inr (k : Int)) else .inl ((k + 1 : Nat) : Int)) := fun k hk => by
  unfold p_slices_IndexFunc_File_File_Disk_file_1_b0 p_impl_Disk_file_1
  rw [dlt hk, cond_true, gd.yes (ixN hk)]
  simp only [Int.toNat_natCast]
  rw [gd.yes (show I64 ((k : Int) + 1) by unfold I64; omega), addI, bd_some]
  by_cases h : (nth d.1 k).1 = num <;> simp [h]
 unfold p_impl_Disk_file p_slices_IndexFunc_File_File_Disk_file_1
 rcases lp_scan (body := p_slices_IndexFunc_File_File_Disk_file_1_b0 d.1 num) (fun k => (k : Int)) d.1.length (fun k => decide ((nth d.1 k).1 = num)) (.inl ()) (fun k => .inr (k : Int)) (fun k hk _ h => by rw [hr k hk, h]; rfl) (fun k hk _ h => by rw [hr k hk, if_pos h]) (fun _ => by unfold p_slices_IndexFunc_File_File_Disk_file_1_b0; rw [decide_eq_false (show ¬ ((d.1.length : Int) < (d.1.length : Int)) by omega)]; rfl) with ⟨h1, h2⟩ | ⟨h1, k, hk, hb, hn, h2⟩
 ·rw [show (lp (p_slices_IndexFunc_File_File_Disk_file_1_b0 d.1 num) 0) = _ from h2, atF_no h1]; rfl
 ·rw [show (lp (p_slices_IndexFunc_File_File_Disk_file_1_b0 d.1 num) 0) = _ from h2, atF_yes hk hb hn]; rfl
theorem e_spec_l21At (d : Disk) (num : Int) (hl : d.1.length ≤ 1048576) : p_spec_l21At d num = some (atF d num) := by
 have hr : ∀ k, k < d.1.length → p_spec_l21At_b0 d num (k : Int) = some (if decide ((nth d.1 k).1 = num) then .inr (.inr (k : Int)) else .inl ((k + 1 : Nat) : Int)) := fun k hk => by
  unfold p_spec_l21At_b0
  rw [dlt hk, cond_true, gd.yes (ixN hk)]
  simp only [Int.toNat_natCast]
  rw [gd.yes (show I64 ((k : Int) + 1) by unfold I64; omega), addI]
  by_cases h : (nth d.1 k).1 = num <;> simp [h]
 unfold p_spec_l21At
 rcases lp_scan (body := p_spec_l21At_b0 d num) (fun k => (k : Int)) d.1.length (fun k => decide ((nth d.1 k).1 = num)) (.inl ()) (fun k => .inr (k : Int)) (fun k hk _ h => by rw [hr k hk, h]; rfl) (fun k hk _ h => by rw [hr k hk, if_pos h]) (fun _ => by unfold p_spec_l21At_b0; rw [decide_eq_false (show ¬ ((d.1.length : Int) < (d.1.length : Int)) by omega)]; rfl) with ⟨h1, h2⟩ | ⟨h1, k, hk, hb, hn, h2⟩
 ·rw [show (lp (p_spec_l21At_b0 d num) 0) = _ from h2, atF_no h1]; rfl
 ·rw [show (lp (p_spec_l21At_b0 d num) 0) = _ from h2, atF_yes hk hb hn]; rfl
def fileBad (d : Disk) (k : Nat) : Bool := !inn 1 (nth d.1 k).1 (d.2.2.2 - 1) || ((decide (0 < k) && decide ((nth d.1 k).1 ≤ (nth d.1 (k - 1)).1)) || !partOk (nth d.1 k).2)
def listBad (d : Disk) (k : Nat) : Bool := decide (atF d (nth d.2.1 k) < 0) || !allN k (fun j => decide (nth d.2.1 j = nth d.2.1 k))
def partsOf (d : Disk) : List Part := d.2.1.map fun n => (nth d.1 (atF d n).toNat).2
def openS (d : Disk) : Store := (indexP d.2.2.1, partsOf d, [])
def diskB (d : Disk) : Bool := inn 1 d.2.2.2 999 && (decide (d.1.length ≤ 20) && (decide (d.2.1.length ≤ 6) && (allN d.1.length (fileBad d) && (allN d.2.1.length (listBad d) && storeB (openS d)))))
structure okD (d : Disk) : Prop where
 w : Wt.w d.2.2.1 ≤ 4194304
 fl : d.1.length ≤ 1048576
 ll : d.2.1.length ≤ 1048576
 f : ∀ f ∈ d.1, Dp.ok f.2 ∧ Wt.w f.2 ≤ 1048576
theorem okD_of {d : Disk} (ok : Dp.ok d) (hw : Wt.w d ≤ 1048576) : okD d := by
 have e : Wt.w d = Wt.w d.1 + (Wt.w d.2.1 + (Wt.w d.2.2.1 + 0)) := rfl
 have l1 : d.1.length ≤ Wt.w d.1 := wL_le
 have l2 : d.2.1.length ≤ Wt.w d.2.1 := wL_le
 refine ⟨by omega, by omega, by omega, fun f hf => ?_⟩
 obtain ⟨i, hi, rfl⟩ := List.mem_iff_getElem.1 hf
 rw [← nth_eq _ i hi]
 have := wL_el (l := d.1) hi
 have e2 : Wt.w (nth d.1 i) = 0 + Wt.w (nth d.1 i).2 := rfl
 exact ⟨(ok.1.2 i hi).2, by omega⟩
theorem postsW_any {names : List (List Tag)} (hw : Wt.w names ≤ 4194304) : postsW (indexP names).2 := by
 obtain ⟨h1, h2, h3⟩ := w_names hw
 have hb := (e_posts names h1 h3 names.length (Nat.le_refl _)).1
 have hp : (indexP names).2.Perm (postsF names names.length) := List.mergeSort_perm _ _
 refine ⟨by rw [hp.length_eq]; have := hb.1; omega, fun k hk => ?_⟩
 have := hb.2 _ (hp.mem_iff.1 (nth_mem hk))
 omega
theorem partsOf_len (d : Disk) : (partsOf d).length = d.2.1.length := List.length_map ..
theorem partsOf_nth (d : Disk) {k : Nat} (hk : k < d.2.1.length) : nth (partsOf d) k = (nth d.1 (atF d (nth d.2.1 k)).toNat).2 := by
 rw [nth_eq _ k (by rw [partsOf_len]; exact hk), nth_eq _ k hk]; exact List.getElem_map ..
theorem okS_open {d : Disk} (h : okD d) (hl : ∀ k, k < d.2.1.length → 0 ≤ atF d (nth d.2.1 k)) : okS (openS d) := by
 refine ⟨h.w, postsW_any h.w, by show (partsOf d).length ≤ _; rw [partsOf_len]; exact h.ll, Nat.zero_le _, fun p hp => ?_⟩
 obtain ⟨k, hk, rfl⟩ := List.mem_iff_getElem.1 (show p ∈ partsOf d from hp)
 have hk2 : k < d.2.1.length := by rw [← partsOf_len]; exact hk
 rw [← nth_eq _ k hk, partsOf_nth d hk2]
 rcases atF_lt (d := d) (num := nth d.2.1 k) with h0 | ⟨j, hj, e⟩
 ·have := hl k hk2; omega
 ·rw [e, Int.toNat_natCast]; exact h.f _ (nth_mem hj)
theorem listBad_at {d : Disk} (h : allN d.2.1.length (listBad d) = true) : ∀ k, k < d.2.1.length → 0 ≤ atF d (nth d.2.1 k) := fun k hk => by
 have := allN_iff.1 h k hk
 unfold listBad at this
 simp only [Bool.or_eq_false_iff, decide_eq_false_iff_not] at this
 omega
theorem fileBad_part {d : Disk} (h : allN d.1.length (fileBad d) = true) : ∀ f ∈ d.1, partOk f.2 = true := fun f hf => by
 obtain ⟨i, hi, rfl⟩ := List.mem_iff_getElem.1 hf
 have := allN_iff.1 h i hi
 rw [← nth_eq _ i hi]
 unfold fileBad at this
 simp only [Bool.or_eq_false_iff, Bool.not_eq_false'] at this
 exact this.2.2
theorem e_impl_open (d : Disk) (h : okD d) (hf : ∀ f ∈ d.1, partOk f.2 = true) (hl : ∀ k, k < d.2.1.length → 0 ≤ atF d (nth d.2.1 k)) : p_impl_Disk_open d = some (openS d) := by
 obtain ⟨h1, h2, h3⟩ := w_names h.w
 have hll := h.ll
 have hfl := h.fl
 have key : lp (p_impl_Disk_open_b0 d) (([] : List Part), 0) = some (partsOf d) := lp_for (body := p_impl_Disk_open_b0 d) (fun k => ((partsOf d).take k, (k : Int))) d.2.1.length (partsOf d) (fun k hk => by
  rcases atF_lt (d := d) (num := nth d.2.1 k) with h0 | ⟨j, hj, e⟩
  ·have := hl k hk; omega
  ·obtain ⟨a, b, c⟩ := partOk_le (hf _ (nth_mem hj))
   have hlt : ((partsOf d).take k).length ≤ k := by rw [List.length_take]; omega
   unfold p_impl_Disk_open_b0
   rw [dlt hk, cond_true, gd.yes (ixN hk)]
   simp only [Int.toNat_natCast]
   rw [bd.yes (e_impl_file d _ hfl), gd.yes (show ix (atF d (nth d.2.1 k)) d.1.length by rw [e]; exact ixN hj), e, Int.toNat_natCast, bd.yes (e_clonePart _ a b c), gd.yes (show room (((partsOf d).take k).length + 1) by unfold room; omega), gd.yes (show I64 ((k : Int) + 1) by unfold I64; omega), take_succ_nth (show k < (partsOf d).length by rw [partsOf_len]; exact hk), partsOf_nth d hk, e, Int.toNat_natCast, addI]) (by
  unfold p_impl_Disk_open_b0
  rw [decide_eq_false (show ¬ ((d.2.1.length : Int) < (d.2.1.length : Int)) by omega), cond_false, ← partsOf_len, List.take_length])
 unfold p_impl_Disk_open
 rw [bd.yes (e_indexOf d.2.2.1 h1 h3), bd.yes key]; rfl
theorem e_l11Of_any (names : List (List Tag)) (h1 : names.length ≤ 4194304) (h2 : ∀ n ∈ names, n.length ≤ 4194304) : p_spec_l11Of names = some (names, allE names 4) := by
 unfold p_spec_l11Of
 have h0 : (([] : List Post), (97 : Int)) = (allE names 0, (97 : Int) + ((0 : Nat) : Int)) := rfl
 rw [h0, bd.yes (lp_for (body := p_spec_l11Of_b0 names) (fun i => (allE names i, (97 : Int) + (i : Int))) 4 (allE names 4) (fun i hi => by
  have hl := allE_len names i
  unfold p_spec_l11Of_b0
  rw [decide_eq_true (show (97 : Int) + (i : Int) ≤ 100 by omega), cond_true, bd.yes (e_rowE names i hi _ (by omega) h1 h2), gd.yes (by unfold I32; omega), allE_succ, show (97 : Int) + (i : Int) + 1 = 97 + ((i + 1 : Nat) : Int) by omega]) (by
  unfold p_spec_l11Of_b0; rw [decide_eq_false (show ¬ ((97 : Int) + ((4 : Nat) : Int) ≤ 100) by omega)]; rfl)), bd.yes (e_spec_l11Names names h1 h2)]
theorem postsW_all {names : List (List Tag)} (h1 : names.length ≤ 4194304) : postsW (allE names 4) := by
 have hl := allE_len names 4
 refine ⟨by omega, fun k hk => ?_⟩
 obtain ⟨i, j, _, _, hp⟩ := allE_mem (nth_mem hk)
 obtain ⟨e1, e2⟩ := cell_mem hp
 rw [e1]
 have := idsN_len names (tg i j) names.length
 show (idsN names (tg i j) names.length).length ≤ _
 omega
theorem e_spec_open (d : Disk) (h : okD d) (hl : ∀ k, k < d.2.1.length → 0 ≤ atF d (nth d.2.1 k)) : p_spec_l21Open d = some ((d.2.2.1, allE d.2.2.1 4), partsOf d, []) := by
 obtain ⟨h1, h2, h3⟩ := w_names h.w
 have hll := h.ll
 have hfl := h.fl
 have key : lp (p_spec_l21Open_b0 d) (([] : List Part), 0) = some (partsOf d) := lp_for (body := p_spec_l21Open_b0 d) (fun k => ((partsOf d).take k, (k : Int))) d.2.1.length (partsOf d) (fun k hk => by
  rcases atF_lt (d := d) (num := nth d.2.1 k) with h0 | ⟨j, hj, e⟩
  ·have := hl k hk; omega
  ·have hlt : ((partsOf d).take k).length ≤ k := by rw [List.length_take]; omega
   unfold p_spec_l21Open_b0
   rw [dlt hk, cond_true, gd.yes (ixN hk)]
   simp only [Int.toNat_natCast]
   rw [bd.yes (e_spec_l21At d _ hfl), gd.yes (show ix (atF d (nth d.2.1 k)) d.1.length by rw [e]; exact ixN hj), e, Int.toNat_natCast, gd.yes (show room (((partsOf d).take k).length + 1) by unfold room; omega), gd.yes (show I64 ((k : Int) + 1) by unfold I64; omega), take_succ_nth (show k < (partsOf d).length by rw [partsOf_len]; exact hk), partsOf_nth d hk, e, Int.toNat_natCast, addI]) (by
  unfold p_spec_l21Open_b0
  rw [decide_eq_false (show ¬ ((d.2.1.length : Int) < (d.2.1.length : Int)) by omega), cond_false, ← partsOf_len, List.take_length])
 unfold p_spec_l21Open
 rw [bd.yes (e_l11Of_any d.2.2.1 h1 (fun n hn => (h2 n hn).1)), bd.yes key]
theorem good_all {names : List (List Tag)} (h : goodN names) : allE names 4 = (indexP names).2 := canon_eq (canon_all h) (canon_posts (goodN_dist h))
theorem namesB_good {names : List (List Tag)} (h : namesB names = true) : goodN names := good_of (x := indexP names) (indexB_P h)
theorem storeB_names {names : List (List Tag)} (P : List Post) (parts : List Part) (mem : List Sample) (h : namesB names = false) : storeB ((names, P), parts, mem) = false := by
 unfold storeB indexB
 rw [show (((names, P), parts, mem) : Store).1.1 = names from rfl, h]; rfl
theorem storeB_all (names : List (List Tag)) (parts : List Part) (mem : List Sample) : storeB ((names, allE names 4), parts, mem) = storeB (indexP names, parts, mem) := by
 cases hb : namesB names with
 | false => rw [storeB_names _ _ _ hb]; exact (storeB_names (indexP names).2 parts mem hb).symm
 | true => rw [good_all (namesB_good hb)]; rfl
theorem place_take (l : List Int) (x : Int) (k : Nat) (hk : k ≤ l.length) : decide (0 ≤ place (l.take k) x) = !allN k (fun j => decide (nth l j = x)) := by
 have hl : (l.take k).length = k := by rw [List.length_take]; omega
 have hn : ∀ j, j < k → nth (l.take k) j = nth l j := fun j hj => by
  rw [nth_eq _ j (by omega), List.getElem_take, ← nth_eq l j (by omega)]
 have ea : allN (l.take k).length (fun j => decide (nth (l.take k) j = x)) = allN k (fun j => decide (nth l j = x)) := by
  rw [hl]
  exact allN_congr fun j hj => by rw [hn j hj]
 cases hc : allN k (fun j => decide (nth l j = x)) with
 | true => rw [place_no (ea.trans hc)]; rfl
 | false =>
  obtain ⟨j, hj, b1, b2⟩ := first_bad (ea.trans hc)
  rw [place_yes hj b1 b2]
  simp
theorem e_Contains (l : List Int) (x : Int) (hl : l.length ≤ 9223372036854775807) : p_slices_Contains_int_int l x = some (decide (0 ≤ place l x)) := by
 unfold p_slices_Contains_int_int
 rw [bd.yes (e_Index l x hl)]
theorem e_impl_files (d : Disk) (h : okD d) (hn : inn 1 d.2.2.2 999 = true) : lp (p_impl_DiskOk_b0 d) 0 = some (if allN d.1.length (fileBad d) then .inl () else .inr false) := by
 have hfl := h.fl
 have hnx : 1 ≤ d.2.2.2 ∧ d.2.2.2 ≤ 999 := by unfold inn at hn; simpa using hn
 have hr : ∀ k, k < d.1.length → p_impl_DiskOk_b0 d (k : Int) = some (if fileBad d k then .inr (.inr false) else .inl ((k + 1 : Nat) : Int)) := fun k hk => by
  have hp := e_impl_PartOk (nth d.1 k).2 (h.f _ (nth_mem hk)).1
  unfold p_impl_DiskOk_b0 fileBad
  rw [dlt hk, cond_true, gd.yes (ixN hk)]
  simp only [Int.toNat_natCast]
  rw [gd.yes (show I64 (d.2.2.2 - 1) by unfold I64; omega), bd.yes (e_impl_within _ _ _), gd.yes (show I64 ((k : Int) + 1) by unfold I64; omega), addI]
  cases inn 1 (nth d.1 k).1 (d.2.2.2 - 1) with
  | false => rfl
  | true =>
   rw [Bool.not_true, cond_false, Bool.false_or]
   by_cases h0 : 0 < k
   ·have e1 : (k : Int) - 1 = ((k - 1 : Nat) : Int) := by omega
    rw [decide_eq_true (show (0 : Int) < (k : Int) by omega), cond_true, decide_eq_true h0, Bool.true_and, gd.yes (show I64 ((k : Int) - 1) by unfold I64; omega), gd.yes (show ix ((k : Int) - 1) d.1.length by unfold ix; omega), e1, Int.toNat_natCast]
    by_cases hq : (nth d.1 k).1 ≤ (nth d.1 (k - 1)).1
    ·rw [decide_eq_true hq]; rfl
    ·rw [decide_eq_false hq, cond_false, Bool.false_or, bd.yes hp]
     cases partOk (nth d.1 k).2 <;> rfl
   ·rw [decide_eq_false (show ¬ (0 : Int) < (k : Int) by omega), cond_false, decide_eq_false h0, Bool.false_and, Bool.false_or, bd.yes hp]
    cases partOk (nth d.1 k).2 <;> rfl
 rcases lp_scan (body := p_impl_DiskOk_b0 d) (fun k => (k : Int)) d.1.length (fileBad d) (.inl ()) (fun _ => .inr false) (fun k hk _ h => by rw [hr k hk, h]; rfl) (fun k hk _ h => by rw [hr k hk, h]; rfl) (fun _ => by unfold p_impl_DiskOk_b0; rw [decide_eq_false (show ¬ ((d.1.length : Int) < (d.1.length : Int)) by omega)]; rfl) with ⟨h1, h2⟩ | ⟨h1, k, _, _, _, h2⟩
 ·rw [show (lp (p_impl_DiskOk_b0 d) 0) = _ from h2, h1]; rfl
 ·rw [show (lp (p_impl_DiskOk_b0 d) 0) = _ from h2, h1]; rfl
theorem e_spec_files (d : Disk) (h : okD d) (hn : inn 1 d.2.2.2 999 = true) : lp (p_spec_DiskOk_b0 d) 0 = some (if allN d.1.length (fileBad d) then .inl () else .inr false) := by
 have hfl := h.fl
 have hnx : 1 ≤ d.2.2.2 ∧ d.2.2.2 ≤ 999 := by unfold inn at hn; simpa using hn
 have hr : ∀ k, k < d.1.length → p_spec_DiskOk_b0 d (k : Int) = some (if fileBad d k then .inr (.inr false) else .inl ((k + 1 : Nat) : Int)) := fun k hk => by
  have hp := e_spec_PartOk (nth d.1 k).2 (h.f _ (nth_mem hk)).1
  unfold p_spec_DiskOk_b0 fileBad
  rw [dlt hk, cond_true, gd.yes (ixN hk)]
  simp only [Int.toNat_natCast]
  rw [gd.yes (show I64 (d.2.2.2 - 1) by unfold I64; omega), bd.yes (e_spec_l6In _ _ _), gd.yes (show I64 ((k : Int) + 1) by unfold I64; omega), addI]
  cases inn 1 (nth d.1 k).1 (d.2.2.2 - 1) with
  | false => rfl
  | true =>
   rw [Bool.not_true, cond_false, Bool.false_or]
   by_cases h0 : 0 < k
   ·have e1 : (k : Int) - 1 = ((k - 1 : Nat) : Int) := by omega
    rw [decide_eq_true (show (0 : Int) < (k : Int) by omega), cond_true, decide_eq_true h0, Bool.true_and, gd.yes (show I64 ((k : Int) - 1) by unfold I64; omega), gd.yes (show ix ((k : Int) - 1) d.1.length by unfold ix; omega), e1, Int.toNat_natCast]
    by_cases hq : (nth d.1 k).1 ≤ (nth d.1 (k - 1)).1
    ·rw [decide_eq_true hq]; rfl
    ·rw [decide_eq_false hq, cond_false, Bool.false_or, bd.yes hp]
     cases partOk (nth d.1 k).2 <;> rfl
   ·rw [decide_eq_false (show ¬ (0 : Int) < (k : Int) by omega), cond_false, decide_eq_false h0, Bool.false_and, Bool.false_or, bd.yes hp]
    cases partOk (nth d.1 k).2 <;> rfl
 rcases lp_scan (body := p_spec_DiskOk_b0 d) (fun k => (k : Int)) d.1.length (fileBad d) (.inl ()) (fun _ => .inr false) (fun k hk _ h => by rw [hr k hk, h]; rfl) (fun k hk _ h => by rw [hr k hk, h]; rfl) (fun _ => by unfold p_spec_DiskOk_b0; rw [decide_eq_false (show ¬ ((d.1.length : Int) < (d.1.length : Int)) by omega)]; rfl) with ⟨h1, h2⟩ | ⟨h1, k, _, _, _, h2⟩
 ·rw [show (lp (p_spec_DiskOk_b0 d) 0) = _ from h2, h1]; rfl
 ·rw [show (lp (p_spec_DiskOk_b0 d) 0) = _ from h2, h1]; rfl
theorem e_impl_list (d : Disk) (h : okD d) : lp (p_impl_DiskOk_b1 d) 0 = some (if allN d.2.1.length (listBad d) then .inl () else .inr false) := by
 have hfl := h.fl
 have hll := h.ll
 have hr : ∀ k, k < d.2.1.length → p_impl_DiskOk_b1 d (k : Int) = some (if listBad d k then .inr (.inr false) else .inl ((k + 1 : Nat) : Int)) := fun k hk => by
  unfold p_impl_DiskOk_b1 listBad
  rw [dlt hk, cond_true, gd.yes (ixN hk)]
  simp only [Int.toNat_natCast]
  rw [bd.yes (e_impl_file d _ hfl), gd.yes (show I64 ((k : Int) + 1) by unfold I64; omega), addI]
  by_cases h0 : atF d (nth d.2.1 k) < 0
  ·rw [decide_eq_true h0]; rfl
  ·rw [decide_eq_false h0, cond_false, Bool.false_or, gd.yes (show sl2 0 (k : Int) d.2.1.length by unfold sl2; omega), List.drop_zero, bd.yes (e_Contains _ _ (by rw [List.length_take]; omega)), place_take _ _ _ (by omega)]
   cases allN k (fun j => decide (nth d.2.1 j = nth d.2.1 k)) <;> rfl
 rcases lp_scan (body := p_impl_DiskOk_b1 d) (fun k => (k : Int)) d.2.1.length (listBad d) (.inl ()) (fun _ => .inr false) (fun k hk _ h => by rw [hr k hk, h]; rfl) (fun k hk _ h => by rw [hr k hk, h]; rfl) (fun _ => by unfold p_impl_DiskOk_b1; rw [decide_eq_false (show ¬ ((d.2.1.length : Int) < (d.2.1.length : Int)) by omega)]; rfl) with ⟨h1, h2⟩ | ⟨h1, k, _, _, _, h2⟩
 ·rw [show (lp (p_impl_DiskOk_b1 d) 0) = _ from h2, h1]; rfl
 ·rw [show (lp (p_impl_DiskOk_b1 d) 0) = _ from h2, h1]; rfl
theorem e_spec_twice (d : Disk) (k : Nat) (hk : k < d.2.1.length) (hll : d.2.1.length ≤ 1048576) : lp (p_spec_DiskOk_b2 d (k : Int)) 0 = some (if allN k (fun j => decide (nth d.2.1 j = nth d.2.1 k)) then .inl () else .inr false) := by
 have hr : ∀ j, j < k → p_spec_DiskOk_b2 d (k : Int) (j : Int) = some (if decide (nth d.2.1 j = nth d.2.1 k) then .inr (.inr false) else .inl ((j + 1 : Nat) : Int)) := fun j hj => by
  unfold p_spec_DiskOk_b2
  rw [decide_eq_true (show (j : Int) < (k : Int) by omega), cond_true, gd.yes (ixN (show j < d.2.1.length by omega))]
  simp only [Int.toNat_natCast]
  rw [gd.yes (show I64 ((j : Int) + 1) by unfold I64; omega), addI]
  cases decide (nth d.2.1 j = nth d.2.1 k) <;> rfl
 rcases lp_scan (body := p_spec_DiskOk_b2 d (k : Int)) (fun j => (j : Int)) k (fun j => decide (nth d.2.1 j = nth d.2.1 k)) (.inl ()) (fun _ => .inr false) (fun k hk _ h => by rw [hr k hk, h]; rfl) (fun k hk _ h => by rw [hr k hk, if_pos h]) (fun _ => by unfold p_spec_DiskOk_b2; rw [decide_eq_false (show ¬ ((k : Int) < (k : Int)) by omega)]; rfl) with ⟨h1, h2⟩ | ⟨h1, _, _, _, _, h2⟩
 ·rw [show (lp (p_spec_DiskOk_b2 d (k : Int)) 0) = _ from h2, h1]; rfl
 ·rw [show (lp (p_spec_DiskOk_b2 d (k : Int)) 0) = _ from h2, h1]; rfl
theorem e_spec_list (d : Disk) (h : okD d) : lp (p_spec_DiskOk_b1 d) 0 = some (if allN d.2.1.length (listBad d) then .inl () else .inr false) := by
 have hfl := h.fl
 have hll := h.ll
 have hr : ∀ k, k < d.2.1.length → p_spec_DiskOk_b1 d (k : Int) = some (if listBad d k then .inr (.inr false) else .inl ((k + 1 : Nat) : Int)) := fun k hk => by
  unfold p_spec_DiskOk_b1 listBad
  rw [dlt hk, cond_true, gd.yes (ixN hk)]
  simp only [Int.toNat_natCast]
  rw [bd.yes (e_spec_l21At d _ hfl), gd.yes (show I64 ((k : Int) + 1) by unfold I64; omega), addI]
  by_cases h0 : atF d (nth d.2.1 k) < 0
  ·rw [decide_eq_true h0]; rfl
  ·rw [decide_eq_false h0, cond_false, Bool.false_or, e_spec_twice d k hk hll]
   cases allN k (fun j => decide (nth d.2.1 j = nth d.2.1 k)) <;> rfl
 rcases lp_scan (body := p_spec_DiskOk_b1 d) (fun k => (k : Int)) d.2.1.length (listBad d) (.inl ()) (fun _ => .inr false) (fun k hk _ h => by rw [hr k hk, h]; rfl) (fun k hk _ h => by rw [hr k hk, h]; rfl) (fun _ => by unfold p_spec_DiskOk_b1; rw [decide_eq_false (show ¬ ((d.2.1.length : Int) < (d.2.1.length : Int)) by omega)]; rfl) with ⟨h1, h2⟩ | ⟨h1, k, _, _, _, h2⟩
 ·rw [show (lp (p_spec_DiskOk_b1 d) 0) = _ from h2, h1]; rfl
 ·rw [show (lp (p_spec_DiskOk_b1 d) 0) = _ from h2, h1]; rfl
theorem e_impl_DiskOk (d : Disk) (h : okD d) : p_impl_DiskOk d = some (diskB d) := by
 unfold p_impl_DiskOk diskB
 rw [bd.yes (e_impl_within _ _ _)]
 cases hn : inn 1 d.2.2.2 999 with
 | false => rfl
 | true =>
  rw [Bool.not_true, cond_false, Bool.true_and]
  by_cases h20 : d.1.length ≤ 20
  ·rw [decide_eq_false (show ¬ (20 : Int) < (d.1.length : Int) by omega), cond_false, decide_eq_true h20, Bool.true_and]
   by_cases h6 : d.2.1.length ≤ 6
   ·rw [decide_eq_false (show ¬ (6 : Int) < (d.2.1.length : Int) by omega), bd_some, cond_false, decide_eq_true h6, Bool.true_and, e_impl_files d h hn]
    cases hf : allN d.1.length (fileBad d) with
    | false => rfl
    | true =>
     rw [if_pos rfl, bd_swl, Bool.true_and, e_impl_list d h]
     cases hl : allN d.2.1.length (listBad d) with
     | false => rfl
     | true =>
      have hat := listBad_at hl
      rw [if_pos rfl, bd_swl, Bool.true_and, bd.yes (e_impl_open d h (fileBad_part hf) hat), bd.yes (e_impl_StoreOk _ (okS_open h hat))]
   ·rw [decide_eq_true (show (6 : Int) < (d.2.1.length : Int) by omega), bd_some, cond_true, decide_eq_false h6]; rfl
  ·rw [decide_eq_true (show (20 : Int) < (d.1.length : Int) by omega), cond_true, decide_eq_false h20]; rfl
theorem e_spec_DiskOk (d : Disk) (h : okD d) : p_spec_DiskOk d = some (diskB d) := by
 unfold p_spec_DiskOk diskB
 rw [bd.yes (e_spec_l6In _ _ _)]
 cases hn : inn 1 d.2.2.2 999 with
 | false => rfl
 | true =>
  rw [Bool.not_true, cond_false, Bool.true_and]
  by_cases h20 : d.1.length ≤ 20
  ·rw [decide_eq_false (show ¬ (20 : Int) < (d.1.length : Int) by omega), cond_false, decide_eq_true h20, Bool.true_and]
   by_cases h6 : d.2.1.length ≤ 6
   ·rw [decide_eq_false (show ¬ (6 : Int) < (d.2.1.length : Int) by omega), cond_false, decide_eq_true h6, Bool.true_and]
    by_cases hm : d.2.2.1.length ≤ 6
    ·rw [decide_eq_false (show ¬ (6 : Int) < (d.2.2.1.length : Int) by omega), bd_some, cond_false, e_spec_files d h hn]
     cases hf : allN d.1.length (fileBad d) with
     | false => rfl
     | true =>
      rw [if_pos rfl, bd_swl, Bool.true_and, e_spec_list d h]
      cases hl : allN d.2.1.length (listBad d) with
      | false => rfl
      | true =>
       have hat := listBad_at hl
       have hok := okS_open h hat
       have hok2 : okS ((d.2.2.1, allE d.2.2.1 4), partsOf d, []) := ⟨h.w, postsW_all (by omega), hok.pl, hok.ml, hok.p⟩
       rw [if_pos rfl, bd_swl, Bool.true_and, bd.yes (e_spec_open d h hat), bd.yes (e_spec_StoreOk _ hok2), storeB_all]; rfl
    ·have hz : storeB (openS d) = false := storeB_names _ _ _ (by unfold namesB; rw [decide_eq_false (show ¬ (d.2.2.1.length : Int) ≤ 6 by omega), Bool.and_false])
     rw [decide_eq_true (show (6 : Int) < (d.2.2.1.length : Int) by omega), bd_some, cond_true, hz, Bool.and_false, Bool.and_false]
   ·rw [decide_eq_true (show (6 : Int) < (d.2.1.length : Int) by omega), cond_true, decide_eq_false h6]; rfl
  ·rw [decide_eq_true (show (20 : Int) < (d.1.length : Int) by omega), cond_true, decide_eq_false h20]; rfl
theorem diskB_parts {d : Disk} (h : diskB d = true) : inn 1 d.2.2.2 999 = true ∧ d.1.length ≤ 20 ∧ d.2.1.length ≤ 6 ∧ allN d.1.length (fileBad d) = true ∧ allN d.2.1.length (listBad d) = true ∧ storeB (openS d) = true := by
 unfold diskB at h
 simp only [Bool.and_eq_true, decide_eq_true_eq] at h
 exact h
def fullB (d : Disk) : Bool := decide (999 ≤ d.2.2.2) || decide (20 ≤ (d.1.length : Int))
theorem e_full (d : Disk) (hn : d.2.2.2 ≤ 999) (h20 : d.1.length ≤ 20) : p_impl_Disk_full d = some (fullB d) := by
 unfold p_impl_Disk_full fullB
 by_cases h1 : d.2.2.2 = 999
 ·rw [decide_eq_true h1, cond_true, bd_some, decide_eq_true (show (999 : Int) ≤ d.2.2.2 by omega), Bool.true_or]
 ·rw [decide_eq_false h1, cond_false, bd_some, decide_eq_false (show ¬ (999 : Int) ≤ d.2.2.2 by omega), Bool.false_or]
  exact congrArg some (decide_eq_decide.2 (by omega))
def fineT (r : List Step) : Prop := Dp.ok r ∧ Wt.w r ≤ 100000000
theorem wInts (l : List Int) : Wt.w l = l.length := by
 show l.length + sumN l.length (fun i => Wt.w (nth l i)) = _
 rw [sumN_zero (f := fun i => Wt.w (nth l i)) fun i _ => rfl]; rfl
theorem fine_step (k n : Int) {p : Part} {l : List Int} {names : List (List Tag)} (hp : small p) (hl : l.length ≤ 1000) (ho : Dp.ok names) (hw : Wt.w names ≤ 4194304) : Dp.ok ((k, n, p, l, names) : Step) ∧ Wt.w ((k, n, p, l, names) : Step) ≤ 10000000 := by
 refine ⟨⟨trivial, trivial, small_ok hp, ⟨show l.length ≤ maxLen by unfold maxLen; omega, fun _ _ => trivial⟩, ho⟩, ?_⟩
 have e : Wt.w ((k, n, p, l, names) : Step) = 0 + (0 + (Wt.w p + (Wt.w l + Wt.w names))) := rfl
 have := small_w hp
 rw [e, wInts]; omega
theorem fine_steps {r : List Step} (h1 : r.length ≤ 8) (h2 : ∀ x ∈ r, Dp.ok x ∧ Wt.w x ≤ 10000000) : fineT r := by
 refine ⟨⟨show r.length ≤ maxLen by unfold maxLen; omega, fun i hi => (h2 _ (nth_mem hi)).1⟩, ?_⟩
 have e : Wt.w r = r.length + sumN r.length fun i => Wt.w (nth r i) := rfl
 have := sumN_c (f := fun i => Wt.w (nth r i)) (c := 10000000) (n := r.length) fun i hi => (h2 _ (nth_mem hi)).2
 omega
theorem small_nil : small (([], []) : Part) := ⟨Nat.zero_le _, Nat.zero_le _, fun _ h => nomatch h⟩
theorem ok_nonames : Dp.ok ([] : List (List Tag)) := ⟨Nat.zero_le _, fun _ hi => absurd hi (Nat.not_lt_zero _)⟩
def zigN (n : Int) : Nat := (if n < 0 then (-2) * n - 1 else 2 * n).toNat
theorem zigN_inj {a b : Int} (h : zigN a = zigN b) : a = b := by unfold zigN at h; split at h <;> split at h <;> omega
theorem b8_nat {n : Int} (h0 : 0 ≤ n) (h1 : n < 256) : ((b8 n).toNat : Int) = n := by
 rw [b8_wrap, IntKind.wrap_u8]; omega
def putL (z : Nat) : List UInt8 := if 128 ≤ z then b8 ((z % 128 + 128 : Nat) : Int) :: putL (z / 128) else [b8 (z : Int)]
termination_by z
decreasing_by omega
theorem putL_big {z : Nat} (h : 128 ≤ z) : putL z = b8 ((z % 128 + 128 : Nat) : Int) :: putL (z / 128) := by rw [putL, if_pos h]
theorem putL_small {z : Nat} (h : ¬ 128 ≤ z) : putL z = [b8 (z : Int)] := by rw [putL, if_neg h]
theorem putL_cut : ∀ (z1 z2 : Nat) (r1 r2 : List UInt8), putL z1 ++ r1 = putL z2 ++ r2 → z1 = z2 ∧ r1 = r2 := fun z1 => by
 induction z1 using Nat.strongRecOn with
 | ind z1 ih =>
  intro z2 r1 r2 h
  have key : ∀ {m n : Nat}, m < 256 → n < 256 → b8 (m : Int) = b8 (n : Int) → m = n := fun {m n} hm hn e => by
   have h1 := b8_nat (n := (m : Int)) (by omega) (by omega)
   have h2 := b8_nat (n := (n : Int)) (by omega) (by omega)
   rw [e] at h1; omega
  by_cases h1 : 128 ≤ z1
  ·by_cases h2 : 128 ≤ z2
   ·rw [putL_big h1, putL_big h2, List.cons_append, List.cons_append] at h
    obtain ⟨e1, e2⟩ := List.cons.inj h
    have := key (by omega) (by omega) e1
    obtain ⟨e3, e4⟩ := ih (z1 / 128) (by omega) (z2 / 128) r1 r2 e2
    exact ⟨by omega, e4⟩
   ·rw [putL_big h1, putL_small h2, List.cons_append, List.cons_append] at h
    have := key (by omega) (by omega) (List.cons.inj h).1
    omega
  ·by_cases h2 : 128 ≤ z2
   ·rw [putL_small h1, putL_big h2, List.cons_append, List.cons_append] at h
    have := key (by omega) (by omega) (List.cons.inj h).1
    omega
   ·rw [putL_small h1, putL_small h2, List.cons_append, List.cons_append] at h
    obtain ⟨e1, e2⟩ := List.cons.inj h
    exact ⟨key (by omega) (by omega) e1, e2⟩
def low (b : UInt8) : Bool := decide (b.toNat < 128)
theorem putL_low (z : Nat) : (putL z).countP low = 1 := by
 induction z using Nat.strongRecOn with
 | ind z ih =>
  by_cases h : 128 ≤ z
  ·rw [putL_big h, List.countP_cons, ih _ (by omega)]
   have := b8_nat (n := ((z % 128 + 128 : Nat) : Int)) (by omega) (by omega)
   have e : low (b8 ((z % 128 + 128 : Nat) : Int)) = false := decide_eq_false (by omega)
   rw [e]; rfl
  ·rw [putL_small h, List.countP_cons, List.countP_nil]
   have := b8_nat (n := (z : Int)) (by omega) (by omega)
   have e : low (b8 (z : Int)) = true := decide_eq_true (by omega)
   rw [e]; rfl
theorem putL_len (z : Nat) : (putL z).length ≤ z + 1 := by
 induction z using Nat.strongRecOn with
 | ind z ih =>
  by_cases h : 128 ≤ z
  ·rw [putL_big h, List.length_cons]; have := ih (z / 128) (by omega); omega
  ·rw [putL_small h, List.length_singleton]; omega
def stepN (last step : Int) (i : Nat) (x : Int) : Nat := zigN (if i < 2 then x - last else x - last - step)
def packL (last step : Int) (i : Nat) : List Int → List UInt8
 | [] => []
 | x :: t => putL (stepN last step i x) ++ packL x (x - last) (i + 1) t
theorem packL_low : ∀ (a : List Int) (last step : Int) (i : Nat), (packL last step i a).countP low = a.length
 | [], _, _, _ => rfl
 | x :: t, last, step, i => by
  unfold packL
  rw [List.countP_append, putL_low, packL_low t, List.length_cons]; omega
theorem packL_cut : ∀ (a b : List Int) (last step : Int) (i : Nat) (r1 r2 : List UInt8), a.length = b.length → packL last step i a ++ r1 = packL last step i b ++ r2 → a = b ∧ r1 = r2
 | [], [], _, _, _, _, _, _, h => ⟨rfl, h⟩
 | [], _ :: _, _, _, _, _, _, hl, _ => by simp at hl
 | _ :: _, [], _, _, _, _, _, hl, _ => by simp at hl
 | x :: a, y :: b, last, step, i, r1, r2, hl, h => by
  unfold packL at h
  rw [List.append_assoc, List.append_assoc] at h
  obtain ⟨e1, e2⟩ := putL_cut _ _ _ _ h
  have e3 := zigN_inj e1
  have e4 : x = y := by split at e3 <;> omega
  subst e4
  obtain ⟨e5, e6⟩ := packL_cut a b x (x - last) (i + 1) r1 r2 (by simpa using hl) e2
  exact ⟨by rw [e5], e6⟩
def packB (b : List Row) : List UInt8 := b8 (((packL 0 0 0 (b.map (·.1))).length : Nat) : Int) :: (packL 0 0 0 (b.map (·.1)) ++ packL 0 0 0 (b.map (·.2)))
theorem packB_inj {a b : List Row} (h : packB a = packB b) : a = b := by
 unfold packB at h
 have h := (List.cons.inj h).2
 have hc := congrArg (List.countP low) h
 simp only [List.countP_append, packL_low, List.length_map] at hc
 obtain ⟨e1, e2⟩ := packL_cut _ _ 0 0 0 _ _ (by simp only [List.length_map]; omega) h
 obtain ⟨e3, _⟩ := packL_cut (a.map (·.2)) (b.map (·.2)) 0 0 0 [] [] (by simp only [List.length_map]; omega) (by rw [List.append_nil, List.append_nil]; exact e2)
 have hl : a.length = b.length := by omega
 refine List.ext_getElem hl fun i h1 h2 => Prod.ext ?_ ?_
 ·have q := congrArg (fun l : List Int => l[i]?) e1
  simp only [List.getElem?_map, List.getElem?_eq_getElem h1, List.getElem?_eq_getElem h2, Option.map_some] at q
  exact Option.some.inj q
 ·have q := congrArg (fun l : List Int => l[i]?) e3
  simp only [List.getElem?_map, List.getElem?_eq_getElem h1, List.getElem?_eq_getElem h2, Option.map_some] at q
  exact Option.some.inj q
theorem s2_app (a b : List UInt8) : s2 a ++ s2 b = s2 (a ++ b) := by
 unfold s2
 apply ByteArray.ext
 simp
theorem s2_size (a : List UInt8) : (s2 a).size = a.length := rfl
theorem s2_inj {a b : List UInt8} (h : s2 a = s2 b) : a = b := by
 have := congrArg (fun x : ByteArray => x.data.toList) h
 exact this
theorem e_putL : ∀ (z : Nat) (o : List UInt8), z ≤ 100000 → o.length + z ≤ 1000000000 → ∃ (q : Nat) (p : List UInt8), lp p_spec_l1Put_b0 ((z : Int), s2 o) = some (((q : Nat) : Int), s2 p) ∧ q < 128 ∧ p ++ [b8 ((q : Nat) : Int)] = o ++ putL z ∧ p.length ≤ o.length + z := fun z => by
 induction z using Nat.strongRecOn with
 | ind z ih =>
  intro o hz ho
  by_cases h : 128 ≤ z
  ·obtain ⟨q, p, e1, e2, e3, e4⟩ := ih (z / 128) (by omega) (o ++ [b8 ((z % 128 + 128 : Nat) : Int)]) (by omega) (by rw [List.length_append, List.length_singleton]; omega)
   refine ⟨q, p, ?_, e2, by rw [e3, putL_big h, List.append_assoc, List.singleton_append], by rw [List.length_append, List.length_singleton] at e4; omega⟩
   rw [← e1]
   refine lp.step ?_
   have t1 : (z : Int).tmod 128 = ((z % 128 : Nat) : Int) := by rw [show ((z : Int).tmod 128) = (((z % 128 : Nat)) : Int) from rfl]
   have t2 : (z : Int).tdiv 128 = ((z / 128 : Nat) : Int) := rfl
   unfold p_spec_l1Put_b0 p_spec_l1Byte
   simp only [t1, t2]
   have m0 : z % 128 < 128 := Nat.mod_lt _ (by decide)
   have m1 : z / 128 ≤ z := Nat.div_le_self _ _
   generalize z % 128 = zm at *
   generalize z / 128 = zd at *
   rw [decide_eq_true (show (128 : Int) ≤ (z : Int) by omega), cond_true, gd.yes (show I64 ((zm : Nat) : Int) by unfold I64; omega), gd.yes (show I64 (((zm : Nat) : Int) + 128) by unfold I64; omega), bd_some, gd.yes (show room ((s2 o).size + (s2 [b8 (((zm : Nat) : Int) + 128)]).size) by rw [s2_size, s2_size, List.length_singleton]; unfold room; omega), gd.yes (show I64 ((zd : Nat) : Int) by unfold I64; omega), s2_app]
   rfl
  ·refine ⟨z, o, lp.stop ?_, by omega, by rw [putL_small h], by omega⟩
   unfold p_spec_l1Put_b0
   rw [decide_eq_false (show ¬ (128 : Int) ≤ (z : Int) by omega)]; rfl
theorem e_spec_l1Put (z : Nat) (hz : z ≤ 100000) : p_spec_l1Put (z : Int) = some (s2 (putL z)) := by
 obtain ⟨q, p, e1, e2, e3, e4⟩ := e_putL z [] hz (by rw [List.length_nil]; omega)
 rw [List.nil_append] at e3
 have el := congrArg List.length e3
 rw [List.length_append, List.length_singleton] at el
 rw [List.length_nil] at e4
 unfold p_spec_l1Put p_spec_l1Byte
 rw [bd.yes (show lp p_spec_l1Put_b0 ((z : Int), (⟨#[]⟩ : ByteArray)) = some (((q : Nat) : Int), s2 p) from e1), bd_some, gd.yes (show room ((s2 p).size + (s2 [b8 ((q : Nat) : Int)]).size) by rw [s2_size, s2_size, List.length_singleton]; unfold room; omega), s2_app, e3]
theorem e_spec_l1Zig (n : Int) (h : -100000 ≤ n ∧ n ≤ 100000) : p_spec_l1Zig n = some ((zigN n : Nat) : Int) := by
 unfold p_spec_l1Zig zigN
 by_cases h0 : n < 0
 ·rw [decide_eq_true h0, cond_true, gd.yes (show I64 ((-2) * n) by unfold I64; omega), gd.yes (show I64 ((-2) * n - 1) by unfold I64; omega), if_pos h0]
  exact congrArg some (by omega)
 ·rw [decide_eq_false h0, cond_false, gd.yes (show I64 (2 * n) by unfold I64; omega), if_neg h0]
  exact congrArg some (by omega)
def nums99 (l : List Int) : Prop := ∀ x ∈ l, -99 ≤ x ∧ x ≤ 99
theorem stepN_le {last step x : Int} {i : Nat} (h1 : -99 ≤ last ∧ last ≤ 99) (h2 : -200 ≤ step ∧ step ≤ 200) (h3 : -99 ≤ x ∧ x ≤ 99) : stepN last step i x ≤ 1000 := by
 unfold stepN zigN
 split <;> split <;> omega
theorem packL_len : ∀ (l : List Int) (last step : Int) (i : Nat), nums99 l → (-99 ≤ last ∧ last ≤ 99) → (-200 ≤ step ∧ step ≤ 200) → (packL last step i l).length ≤ 1001 * l.length
 | [], _, _, _, _, _, _ => Nat.zero_le _
 | x :: t, last, step, i, hn, hl, hs => by
  have hx := hn x (List.mem_cons_self ..)
  have h1 := packL_len t x (x - last) (i + 1) (fun y hy => hn y (List.mem_cons_of_mem _ hy)) hx (by omega)
  have h2 := putL_len (stepN last step i x)
  have h3 := stepN_le (i := i) hl hs hx
  unfold packL
  rw [List.length_append, List.length_cons]; omega
theorem e_packFrom (l : List Int) (hn : nums99 l) (hl : l.length ≤ 24) : ∀ (t : List Int) (k : Nat) (last step : Int) (o : List UInt8), l.drop k = t → k ≤ l.length → (-99 ≤ last ∧ last ≤ 99) → (-200 ≤ step ∧ step ≤ 200) → o.length ≤ 1001 * k →
  lp (p_spec_l1Pack_b0 l) (s2 o, last, step, (k : Int)) = some (s2 (o ++ packL last step k t))
 | [], k, last, step, o, hd, hk, _, _, _ => by
  have : l.length ≤ k := by
   have := congrArg List.length hd
   rw [List.length_drop, List.length_nil] at this; omega
  rw [lp.stop (e := s2 o)]
  ·unfold packL; rw [List.append_nil]
  ·unfold p_spec_l1Pack_b0
   rw [decide_eq_false (show ¬ ((k : Int) < (l.length : Int)) by omega)]; rfl
 | x :: t, k, last, step, o, hd, hk, h1, h2, ho => by
  have hlt : k < l.length := by
   have := congrArg List.length hd
   rw [List.length_drop, List.length_cons] at this; omega
  have ex : nth l k = x := by
   have := List.drop_eq_getElem_cons hlt
   rw [hd] at this
   rw [nth_eq l k hlt]; exact (List.cons.inj this).1.symm
  have et : l.drop (k + 1) = t := by
   have := List.drop_eq_getElem_cons hlt
   rw [hd] at this
   exact (List.cons.inj this).2.symm
  have hx : -99 ≤ x ∧ x ≤ 99 := hn x (ex ▸ nth_mem hlt)
  have hz := stepN_le (i := k) h1 h2 hx
  have hp := putL_len (stepN last step k x)
  have ih := e_packFrom l hn hl t (k + 1) x (x - last) (o ++ putL (stepN last step k x)) et (by omega) hx (by omega) (by rw [List.length_append]; omega)
  have ro : room ((s2 o).size + (s2 (putL (stepN last step k x))).size) := by rw [s2_size, s2_size]; unfold room; omega
  unfold packL
  rw [← List.append_assoc, ← ih]
  refine lp.step ?_
  unfold p_spec_l1Pack_b0
  rw [dlt hlt, cond_true, gd.yes (ixN hlt)]
  simp only [Int.toNat_natCast, ex]
  rw [gd.yes (show I64 (x - last) by unfold I64; omega)]
  by_cases h2' : k < 2
  ·have es : stepN last step k x = zigN (x - last) := by unfold stepN; rw [if_pos h2']
   rw [decide_eq_true (show (k : Int) < 2 by omega), cond_true, bd.yes (e_spec_l1Zig _ (by omega)), ← es, bd.yes (e_spec_l1Put _ (by omega)), gd.yes ro, gd.yes (show I64 ((k : Int) + 1) by unfold I64; omega), s2_app, addI]
  ·have es : stepN last step k x = zigN (x - last - step) := by unfold stepN; rw [if_neg h2']
   rw [decide_eq_false (show ¬ (k : Int) < 2 by omega), cond_false, gd.yes (show I64 (x - last - step) by unfold I64; omega), bd.yes (e_spec_l1Zig _ (by omega)), ← es, bd.yes (e_spec_l1Put _ (by omega)), gd.yes ro, gd.yes (show I64 ((k : Int) + 1) by unfold I64; omega), s2_app, addI]
theorem e_spec_l1Pack (l : List Int) (hn : nums99 l) (hl : l.length ≤ 24) : p_spec_l1Pack l = some (s2 (packL 0 0 0 l)) := by
 have := e_packFrom l hn hl l 0 0 0 [] rfl (Nat.zero_le _) (by omega) (by omega) (Nat.zero_le _)
 rw [List.nil_append] at this
 unfold p_spec_l1Pack
 rw [bd.yes (show lp (p_spec_l1Pack_b0 l) ((⟨#[]⟩ : ByteArray), 0, 0, 0) = _ from this)]
theorem map_take_snoc {α β : Type} [Inhabited α] (f : α → β) (l : List α) {k : Nat} (h : k < l.length) : (l.take (k + 1)).map f = (l.take k).map f ++ [f (nth l k)] := by
 rw [List.take_succ_eq_append_getElem h, List.map_append, nth_eq l k h]; rfl
theorem e_spec_BlockPack (b : List Row) (h : blockOk b = true) : p_spec_BlockPack b = some (s2 (packB b)) := by
 obtain ⟨h1, _, h3⟩ := blockOk_iff.1 h
 have hr : ∀ x ∈ b, (0 ≤ x.1 ∧ x.1 ≤ 99) ∧ (-99 ≤ x.2 ∧ x.2 ≤ 99) := fun x hx => by
  have := h1 x hx
  unfold rowOk inn at this
  simpa using this
 have hT : nums99 (b.map (·.1)) := fun x hx => by
  obtain ⟨y, hy, rfl⟩ := List.mem_map.1 hx
  have := hr y hy; omega
 have hV : nums99 (b.map (·.2)) := fun x hx => by
  obtain ⟨y, hy, rfl⟩ := List.mem_map.1 hx
  have := hr y hy; omega
 have key : lp (p_spec_BlockPack_b0 b) (([] : List Int), ([] : List Int), 0) = some (b.map (·.1), b.map (·.2)) := lp_for (body := p_spec_BlockPack_b0 b) (fun k => ((b.take k).map (·.1), (b.take k).map (·.2), (k : Int))) b.length _ (fun k hk => by
  have l1 : ((b.take k).map (·.1)).length ≤ 24 := by rw [List.length_map, List.length_take]; omega
  have l2 : ((b.take k).map (·.2)).length ≤ 24 := by rw [List.length_map, List.length_take]; omega
  unfold p_spec_BlockPack_b0
  rw [dlt hk, cond_true, gd.yes (ixN hk)]
  simp only [Int.toNat_natCast]
  rw [gd.yes (show room (((b.take k).map (·.1)).length + 1) by unfold room; omega), gd.yes (show room (((b.take k).map (·.2)).length + 1) by unfold room; omega), gd.yes (show I64 ((k : Int) + 1) by unfold I64; omega), addI, map_take_snoc _ b hk, map_take_snoc _ b hk]) (by
  unfold p_spec_BlockPack_b0
  rw [decide_eq_false (show ¬ ((b.length : Int) < (b.length : Int)) by omega), cond_false, List.take_length])
 have g1 := packL_len _ 0 0 0 hT (by omega) (by omega)
 have g2 := packL_len _ 0 0 0 hV (by omega) (by omega)
 rw [List.length_map] at g1 g2
 unfold p_spec_BlockPack p_spec_l1Byte
 rw [bd.yes (e_spec_BlockOk b (by unfold maxLen; omega)), h, Bool.not_true, cond_false, bd.yes key, bd.yes (e_spec_l1Pack _ hT (by rw [List.length_map]; exact h3)), bd_some, gd.yes (by rw [s2_size, s2_size, List.length_singleton]; unfold room; omega), bd.yes (e_spec_l1Pack _ hV (by rw [List.length_map]; exact h3)), s2_app, gd.yes (by simp only [s2_size, List.length_append, List.length_singleton]; unfold room; omega), s2_app]
 rfl
theorem blockPack_eq {a b : List Row} : decide (s2 (packB a) = s2 (packB b)) = decide (a = b) := decide_eq_decide.2 ⟨fun h => packB_inj (s2_inj h), fun h => by rw [h]⟩
theorem e_Equal_Row (a b : List Row) (ha : a.length ≤ 4194304) : p_slices_Equal_Row_Row a b = some (decide (a = b)) := by
 unfold p_slices_Equal_Row_Row
 by_cases hl : a.length = b.length
 ·have hl2 : (a.length : Int) = (b.length : Int) := by omega
  rw [decide_eq_true hl2, Bool.not_true, cond_false]
  refine eq_loop hl (fun k hk => ?_) ?_
  ·have hk2 : k < b.length := by omega
   unfold p_slices_Equal_Row_Row_b0
   simp only [dlt hk, cond_true, gd.yes (ixN hk), gd.yes (ixN hk2), Int.toNat_natCast, gd.yes (i64S hk (show a.length ≤ 9223372036854775807 by omega))]
   by_cases h : nth a k = nth b k <;> simp [h]
  ·unfold p_slices_Equal_Row_Row_b0; simp
 ·have h2 : ¬ (a.length : Int) = (b.length : Int) := by omega
  have h3 : a ≠ b := fun e => hl (by rw [e])
  simp [h2, h3]
theorem e_Equal_RowS (a b : List (List Row)) (ha : a.length ≤ 4194304) (hi : ∀ x ∈ a, x.length ≤ 4194304) : p_slices_EqualFunc_Row_Row_Row_Row_slices_Equal_Row_Row a b = some (decide (a = b)) := by
 unfold p_slices_EqualFunc_Row_Row_Row_Row_slices_Equal_Row_Row
 by_cases hl : a.length = b.length
 ·have hl2 : (a.length : Int) = (b.length : Int) := by omega
  rw [decide_eq_true hl2, Bool.not_true, cond_false]
  refine eq_loop hl (fun k hk => ?_) ?_
  ·have hk2 : k < b.length := by omega
   unfold p_slices_EqualFunc_Row_Row_Row_Row_slices_Equal_Row_Row_b0
   rw [dlt hk, cond_true, gd.yes (ixN hk), gd.yes (ixN hk2)]
   simp only [Int.toNat_natCast]
   rw [bd.yes (e_Equal_Row _ _ (hi _ (nth_mem hk))), gd.yes (i64S hk (show a.length ≤ 9223372036854775807 by omega)), addI]
   by_cases h : nth a k = nth b k <;> simp [h]
  ·unfold p_slices_EqualFunc_Row_Row_Row_Row_slices_Equal_Row_Row_b0; simp
 ·have h2 : ¬ (a.length : Int) = (b.length : Int) := by omega
  have h3 : a ≠ b := fun e => hl (by rw [e])
  simp [h2, h3]
theorem e_Equal_TagS (a b : List (List Tag)) (ha : a.length ≤ 4194304) (hi : ∀ x ∈ a, x.length ≤ 4194304) : p_slices_EqualFunc_Tag_Tag_Tag_Tag_slices_Equal_Tag_Tag a b = some (decide (a = b)) := by
 unfold p_slices_EqualFunc_Tag_Tag_Tag_Tag_slices_Equal_Tag_Tag
 by_cases hl : a.length = b.length
 ·have hl2 : (a.length : Int) = (b.length : Int) := by omega
  rw [decide_eq_true hl2, Bool.not_true, cond_false]
  refine eq_loop hl (fun k hk => ?_) ?_
  ·have hk2 : k < b.length := by omega
   unfold p_slices_EqualFunc_Tag_Tag_Tag_Tag_slices_Equal_Tag_Tag_b0
   rw [dlt hk, cond_true, gd.yes (ixN hk), gd.yes (ixN hk2)]
   simp only [Int.toNat_natCast]
   rw [bd.yes (e_Equal_Tag _ _ (hi _ (nth_mem hk))), gd.yes (i64S hk (show a.length ≤ 9223372036854775807 by omega)), addI]
   by_cases h : nth a k = nth b k <;> simp [h]
  ·unfold p_slices_EqualFunc_Tag_Tag_Tag_Tag_slices_Equal_Tag_Tag_b0; simp
 ·have h2 : ¬ (a.length : Int) = (b.length : Int) := by omega
  have h3 : a ≠ b := fun e => hl (by rw [e])
  simp [h2, h3]
theorem e_samePart (p q : Part) (hp : small p) : p_impl_samePart p q = some (decide (p = q)) := by
 obtain ⟨h1, h2, h3⟩ := hp
 unfold p_impl_samePart
 rw [bd.yes (e_Equal_int _ _ (show p.1.length ≤ maxLen by unfold maxLen; omega))]
 by_cases h : p.1 = q.1
 ·rw [decide_eq_true h, cond_true, bd.yes (e_Equal_RowS _ _ (by omega) fun x hx => by have := h3 x hx; omega), bd_some]
  by_cases h' : p.2 = q.2
  ·rw [decide_eq_true h', decide_eq_true (show p = q from Prod.ext h h')]
  ·rw [decide_eq_false h', decide_eq_false (fun e : p = q => h' (by rw [e]))]
 ·rw [decide_eq_false h, cond_false, bd_some, decide_eq_false (fun e : p = q => h (by rw [e]))]
theorem e_EqualParts (P Q : List Part) (hP : P.length ≤ 4194304) (hi : ∀ p ∈ P, small p) : p_slices_EqualFunc_Part_Part_Part_Part_samePart P Q = some (decide (P = Q)) := by
 unfold p_slices_EqualFunc_Part_Part_Part_Part_samePart
 by_cases hl : P.length = Q.length
 ·have hl2 : (P.length : Int) = (Q.length : Int) := by omega
  rw [decide_eq_true hl2, Bool.not_true, cond_false]
  refine eq_loop hl (fun k hk => ?_) ?_
  ·have hk2 : k < Q.length := by omega
   unfold p_slices_EqualFunc_Part_Part_Part_Part_samePart_b0
   rw [dlt hk, cond_true, gd.yes (ixN hk), gd.yes (ixN hk2)]
   simp only [Int.toNat_natCast]
   rw [bd.yes (e_samePart _ _ (hi _ (nth_mem hk))), gd.yes (i64S hk (show P.length ≤ 9223372036854775807 by omega)), addI]
   by_cases h : nth P k = nth Q k <;> simp [h]
  ·unfold p_slices_EqualFunc_Part_Part_Part_Part_samePart_b0; simp
 ·have h2 : ¬ (P.length : Int) = (Q.length : Int) := by omega
  have h3 : P ≠ Q := fun e => hl (by rw [e])
  simp [h2, h3]
def fitsB (d : Disk) (s : Store) : Bool := storeB s && (diskB d && (decide (s.2.1 = partsOf d) && (decide (d.2.2.1.length ≤ s.1.1.length) && decide (d.2.2.1 = s.1.1.take d.2.2.1.length))))
theorem e_matches (d : Disk) (s : Store) (h : okD d) (hs : okS s) : p_impl_matches s d = some (fitsB d s) := by
 unfold p_impl_matches fitsB
 rw [bd.yes (e_impl_StoreOk s hs)]
 cases hb : storeB s with
 | false => rfl
 | true =>
  have hg := storeB_good hb
  rw [Bool.not_true, cond_false, Bool.true_and, bd.yes (e_impl_DiskOk d h)]
  cases hd : diskB d with
  | false => rfl
  | true =>
   obtain ⟨_, _, _, hf, hl, _⟩ := diskB_parts hd
   obtain ⟨w1, w2, _⟩ := w_names h.w
   have p6 := hg.p6
   rw [Bool.not_true, cond_false, Bool.true_and, bd.yes (e_impl_open d h (fileBad_part hf) (listBad_at hl)), show (openS d).2.1 = partsOf d from rfl, bd.yes (e_EqualParts _ _ (by omega) fun p hp => partOk_small (hg.p p hp).1)]
   cases decide (s.2.1 = partsOf d) with
   | false => rfl
   | true =>
    rw [Bool.not_true, cond_false, Bool.true_and]
    by_cases hn : d.2.2.1.length ≤ s.1.1.length
    ·rw [decide_eq_true (show (d.2.2.1.length : Int) ≤ (s.1.1.length : Int) by omega), cond_true, gd.yes (show sl2 0 (d.2.2.1.length : Int) s.1.1.length by unfold sl2; omega), decide_eq_true hn, Bool.true_and]
     simp only [Int.toNat_natCast, List.drop_zero]
     rw [bd.yes (e_Equal_TagS _ _ w1 fun n hn => (w2 n hn).1)]; rfl
    ·rw [decide_eq_false (show ¬ (d.2.2.1.length : Int) ≤ (s.1.1.length : Int) by omega), cond_false, decide_eq_false hn]; rfl
theorem rows_ids {p q : Part} (hp : partOk p = true) (hq : partOk q = true) (h : ∀ i, i < 6 → rowsOf p ((i + 1 : Nat) : Int) = rowsOf q ((i + 1 : Nat) : Int)) : p = q := part_ext hp hq fun id => by
 by_cases hi : 1 ≤ id ∧ id ≤ 6
 ·have := h (id - 1).toNat (by omega)
  rw [show (((id - 1).toNat + 1 : Nat) : Int) = id by omega] at this
  exact this
 ·rw [rowsOf_out hp hi, rowsOf_out hq hi]
def badIds (p q : Part) (i : Nat) : Bool := !decide (rowsOf p ((i + 1 : Nat) : Int) = rowsOf q ((i + 1 : Nat) : Int))
theorem badIds_all {p q : Part} (hp : partOk p = true) (hq : partOk q = true) : allN 6 (badIds p q) = decide (p = q) := by
 cases hb : allN 6 (badIds p q) with
 | true =>
  refine (decide_eq_true (rows_ids hp hq fun i hi => ?_)).symm
  have := allN_iff.1 hb i hi
  unfold badIds at this
  simpa using this
 | false =>
  obtain ⟨j, _, h1, _⟩ := first_bad hb
  refine (decide_eq_false fun e => ?_).symm
  subst e
  unfold badIds at h1
  simp at h1
theorem e_fitsIds (d : Disk) (s : Store) (k j : Nat) (hk : k < s.2.1.length) (_ : j < d.1.length) (okp : Dp.ok (nth d.1 j).2) (okq : Dp.ok (nth s.2.1 k)) (hp : partOk (nth d.1 j).2 = true) (hq : partOk (nth s.2.1 k) = true) :
  lp (p_spec_l21Fits_b2 d s (k : Int) (j : Int)) 1 = some (if decide ((nth d.1 j).2 = nth s.2.1 k) then .inl () else .inr false) := by
 have a1 := partOk_len' hp
 have a2 := partOk_len' hq
 have hr : ∀ i, i < 6 → p_spec_l21Fits_b2 d s (k : Int) (j : Int) ((i + 1 : Nat) : Int) = some (if badIds (nth d.1 j).2 (nth s.2.1 k) i then .inr (.inr false) else .inl ((i + 1 + 1 : Nat) : Int)) := fun i hi => by
  unfold p_spec_l21Fits_b2 badIds
  rw [decide_eq_true (show ((i + 1 : Nat) : Int) ≤ 6 by omega), cond_true, gd.yes (ixN hk)]
  simp only [Int.toNat_natCast]
  rw [bd.yes (e_l12Of _ _ okp a1), bd.yes (e_spec_BlockPack _ (rowsOf_ok hp _)), bd.yes (e_l12Of _ _ okq a2), bd.yes (e_spec_BlockPack _ (rowsOf_ok hq _)), blockPack_eq, gd.yes (show I64 (((i + 1 : Nat) : Int) + 1) by unfold I64; omega), addI]
  cases decide (rowsOf (nth d.1 j).2 ((i + 1 : Nat) : Int) = rowsOf (nth s.2.1 k) ((i + 1 : Nat) : Int)) <;> rfl
 rw [← badIds_all hp hq]
 rcases lp_scan (body := p_spec_l21Fits_b2 d s (k : Int) (j : Int)) (fun i => ((i + 1 : Nat) : Int)) 6 (badIds (nth d.1 j).2 (nth s.2.1 k)) (.inl ()) (fun _ => .inr false) (fun i hi _ hb => by rw [hr i hi, hb]; rfl) (fun i hi _ hb => by rw [hr i hi, if_pos hb]) (fun _ => by unfold p_spec_l21Fits_b2; rw [decide_eq_false (by omega)]; rfl) with ⟨h1, h2⟩ | ⟨h1, _, _, _, _, h2⟩
 ·rw [show (lp (p_spec_l21Fits_b2 d s (k : Int) (j : Int)) 1) = _ from h2, h1]; rfl
 ·rw [show (lp (p_spec_l21Fits_b2 d s (k : Int) (j : Int)) 1) = _ from h2, h1]; rfl
theorem all_nth {α : Type} [Inhabited α] [DecidableEq α] {a b : List α} (hl : a.length = b.length) : allN a.length (fun k => !decide (nth a k = nth b k)) = decide (a = b) := by
 cases hb : allN a.length (fun k => !decide (nth a k = nth b k)) with
 | true => exact (decide_eq_true (list_nth hl fun i hi => by simpa using allN_iff.1 hb i hi)).symm
 | false =>
  obtain ⟨j, _, h1, _⟩ := first_bad hb
  refine (decide_eq_false fun e => ?_).symm
  subst e
  simp at h1
theorem e_spec_Fits (d : Disk) (s : Store) (h : okD d) (hs : okS s) : p_spec_l21Fits d s = some (fitsB d s) := by
 unfold p_spec_l21Fits fitsB
 rw [bd.yes (e_spec_DiskOk d h)]
 cases hd : diskB d with
 | false => cases storeB s <;> rfl
 | true =>
  rw [Bool.not_true, cond_false, bd.yes (e_spec_StoreOk s hs)]
  cases hb : storeB s with
  | false => rfl
  | true =>
   have hg := storeB_good hb
   obtain ⟨_, _, h6, hf, hl, ho⟩ := diskB_parts hd
   obtain ⟨w1, w2, _⟩ := w_names h.w
   obtain ⟨u1, u2, _⟩ := w_names hs.w1
   have hgd : goodN d.2.2.1 := good_of (storeB_good ho).i
   have hgs : goodN s.1.1 := good_of hg.i
   have p6 := hg.p6
   have n6 := hg.n6
   rw [Bool.not_true, cond_false, Bool.true_and, Bool.true_and]
   by_cases hl1 : s.2.1.length = d.2.1.length
   ·rw [decide_eq_true (show (s.2.1.length : Int) = (d.2.1.length : Int) by omega), Bool.not_true, cond_false, bd_some]
    by_cases hn : d.2.2.1.length ≤ s.1.1.length
    ·rw [decide_eq_false (show ¬ (s.1.1.length : Int) < (d.2.2.1.length : Int) by omega), cond_false, decide_eq_true hn, Bool.true_and]
     have tk : ∀ k, k < d.2.2.1.length → nth (s.1.1.take d.2.2.1.length) k = nth s.1.1 k := fun k hk => by
      rw [nth_eq _ k (by rw [List.length_take]; omega), nth_eq _ k (by omega)]; exact List.getElem_take ..
     have hr : ∀ k, k < d.2.2.1.length → p_spec_l21Fits_b0 d s (k : Int) = some (if !decide (nth d.2.2.1 k = nth (s.1.1.take d.2.2.1.length) k) then .inr (.inr false) else .inl ((k + 1 : Nat) : Int)) := fun k hk => by
      have hk2 : k < s.1.1.length := by omega
      unfold p_spec_l21Fits_b0
      rw [dlt hk, cond_true, gd.yes (ixN hk), tk k hk]
      simp only [Int.toNat_natCast]
      rw [bd.yes (e_spec_l3Text _ (w2 _ (nth_mem hk)).2), gd.yes (ixN hk2), bd.yes (e_spec_l3Text _ (u2 _ (nth_mem hk2)).2), text_eq (hgd k hk) (hgs k hk2), gd.yes (show I64 ((k : Int) + 1) by unfold I64; omega), addI]
      cases decide (nth d.2.2.1 k = nth s.1.1 k) <;> rfl
     have k1 : lp (p_spec_l21Fits_b0 d s) 0 = some (if decide (d.2.2.1 = s.1.1.take d.2.2.1.length) then .inl () else .inr false) := by
      rw [← all_nth (a := d.2.2.1) (b := s.1.1.take d.2.2.1.length) (by rw [List.length_take]; omega)]
      rcases lp_scan (body := p_spec_l21Fits_b0 d s) (fun k => (k : Int)) d.2.2.1.length (fun k => !decide (nth d.2.2.1 k = nth (s.1.1.take d.2.2.1.length) k)) (.inl ()) (fun _ => .inr false) (fun k hk _ hb => by rw [hr k hk, hb]; rfl) (fun k hk _ hb => by rw [hr k hk, if_pos hb]) (fun _ => by unfold p_spec_l21Fits_b0; rw [decide_eq_false (show ¬ ((d.2.2.1.length : Int) < (d.2.2.1.length : Int)) by omega)]; rfl) with ⟨h1, h2⟩ | ⟨h1, _, _, _, _, h2⟩
      ·rw [show (lp (p_spec_l21Fits_b0 d s) 0) = _ from h2, h1]; rfl
      ·rw [show (lp (p_spec_l21Fits_b0 d s) 0) = _ from h2, h1]; rfl
     rw [k1]
     cases decide (d.2.2.1 = s.1.1.take d.2.2.1.length) with
     | false => rw [Bool.and_false]; rfl
     | true =>
      rw [if_pos rfl, bd_swl, Bool.and_true]
      have hr2 : ∀ k, k < s.2.1.length → p_spec_l21Fits_b1 d s (k : Int) = some (if !decide (nth s.2.1 k = nth (partsOf d) k) then .inr (.inr false) else .inl ((k + 1 : Nat) : Int)) := fun k hk => by
       have hk2 : k < d.2.1.length := by omega
       rcases atF_lt (d := d) (num := nth d.2.1 k) with h0 | ⟨j, hj, e⟩
       ·have := listBad_at hl k hk2; omega
       ·have hk3 : (k : Int) < (d.2.1.length : Int) := by omega
        have hqk := hg.p _ (nth_mem hk)
        have ep : nth (partsOf d) k = (nth d.1 j).2 := by rw [partsOf_nth d hk2, e, Int.toNat_natCast]
        have := e_fitsIds d s k j hk hj (h.f _ (nth_mem hj)).1 (hs.p _ (nth_mem hk)).1 (fileBad_part hf _ (nth_mem hj)) hqk.1
        unfold p_spec_l21Fits_b1
        rw [decide_eq_true hk3, cond_true, gd.yes (ixN hk2)]
        simp only [Int.toNat_natCast]
        rw [bd.yes (e_spec_l21At d _ h.fl), e, gd.yes (ixN hj), this, ep, gd.yes (show I64 ((k : Int) + 1) by unfold I64; omega), addI]
        by_cases hq : (nth d.1 j).2 = nth s.2.1 k
        ·rw [decide_eq_true hq, decide_eq_true hq.symm]; rfl
        ·rw [decide_eq_false hq, decide_eq_false (fun e => hq e.symm)]; rfl
      have k2 : lp (p_spec_l21Fits_b1 d s) 0 = some (if decide (s.2.1 = partsOf d) then .inl () else .inr false) := by
       rw [← all_nth (a := s.2.1) (b := partsOf d) (by rw [partsOf_len]; exact hl1)]
       rcases lp_scan (body := p_spec_l21Fits_b1 d s) (fun k => (k : Int)) s.2.1.length (fun k => !decide (nth s.2.1 k = nth (partsOf d) k)) (.inl ()) (fun _ => .inr false) (fun k hk _ hb => by rw [hr2 k hk, hb]; rfl) (fun k hk _ hb => by rw [hr2 k hk, if_pos hb]) (fun _ => by unfold p_spec_l21Fits_b1; rw [decide_eq_false (show ¬ ((s.2.1.length : Int) < (d.2.1.length : Int)) by omega)]; rfl) with ⟨h1, h2⟩ | ⟨h1, _, _, _, _, h2⟩
       ·rw [show (lp (p_spec_l21Fits_b1 d s) 0) = _ from h2, h1]; rfl
       ·rw [show (lp (p_spec_l21Fits_b1 d s) 0) = _ from h2, h1]; rfl
      rw [k2]
      cases decide (s.2.1 = partsOf d) <;> rfl
    ·rw [decide_eq_true (show (s.1.1.length : Int) < (d.2.2.1.length : Int) by omega), cond_true, decide_eq_false hn, Bool.false_and, Bool.and_false]
   ·rw [decide_eq_false (show ¬ (s.2.1.length : Int) = (d.2.1.length : Int) by omega), decide_eq_false (show ¬ s.2.1 = partsOf d from fun e => hl1 (by rw [e, partsOf_len])), Bool.false_and]; rfl
def noB (d : Disk) (s : Store) : Bool := decide (s.2.2.length = 0) || (decide (6 ≤ d.2.1.length) || fullB d)
def flushSt (d : Disk) (s : Store) : List Step := [(1, d.2.2.2, memP s.2.2, [], []), (2, 0, ([], []), (([] : List Int) ++ d.2.1) ++ [d.2.2.2], s.1.1)]
def sfP (d : Disk) (s : Store) : List Step := if (fitsB d s && !noB d s) = true then flushSt d s else []
theorem fitsB_parts {d : Disk} {s : Store} (h : fitsB d s = true) : storeB s = true ∧ diskB d = true := by
 unfold fitsB at h
 simp only [Bool.and_eq_true] at h
 exact ⟨h.1, h.2.1⟩
theorem e_impl_StepsFlush (d : Disk) (s : Store) (h : okD d) (hs : okS s) : p_impl_StepsFlush d s = some (sfP d s) := by
 unfold p_impl_StepsFlush sfP
 rw [bd.yes (e_matches d s h hs)]
 cases hf : fitsB d s with
 | false => rfl
 | true =>
  obtain ⟨hb, hd⟩ := fitsB_parts hf
  obtain ⟨hn, h20, h6, _, _, _⟩ := diskB_parts hd
  have hnx : 1 ≤ d.2.2.2 ∧ d.2.2.2 ≤ 999 := by unfold inn at hn; simpa using hn
  have hg := storeB_good hb
  have m20 := hg.m20
  obtain ⟨u1, u2, _⟩ := w_names hs.w1
  rw [Bool.not_true, cond_false, Bool.true_and]
  have hB : (cond (decide ((s.2.2.length : Int) = 0)) (some true) (cond (decide ((d.2.1.length : Int) = 6)) (some true) (bd (p_impl_Disk_full d) fun r15 => some r15))) = some (noB d s) := by
   rw [bd.yes (e_full d hnx.2 h20)]
   unfold noB
   by_cases h0 : s.2.2.length = 0
   ·rw [decide_eq_true (show (s.2.2.length : Int) = 0 by omega), decide_eq_true h0]; rfl
   ·rw [decide_eq_false (show ¬ (s.2.2.length : Int) = 0 by omega), decide_eq_false h0]
    by_cases h1 : 6 ≤ d.2.1.length
    ·rw [decide_eq_true (show (d.2.1.length : Int) = 6 by omega), decide_eq_true h1]; rfl
    ·rw [decide_eq_false (show ¬ (d.2.1.length : Int) = 6 by omega), decide_eq_false h1]; rfl
  rw [hB, bd_some]
  cases noB d s with
  | true => rfl
  | false =>
   rw [cond_false, bd.yes (e_flushed s (by omega)), gd.yes (show room (([] : List Int).length + d.2.1.length) by rw [List.length_nil]; unfold room; omega), gd.yes (show room ((([] : List Int) ++ d.2.1).length + 1) by rw [List.nil_append]; unfold room; omega), bd.yes (e_impl_cloneNames _ u1 fun n hn => (u2 n hn).1)]
   rfl
theorem e_spec_StepsFlush (d : Disk) (s : Store) (h : okD d) (hs : okS s) : p_spec_StepsFlush d s = some (sfP d s) := by
 unfold p_spec_StepsFlush sfP
 rw [bd.yes (e_spec_Fits d s h hs)]
 cases hf : fitsB d s with
 | false => rfl
 | true =>
  obtain ⟨hb, hd⟩ := fitsB_parts hf
  obtain ⟨hn, h20, h6, _, _, _⟩ := diskB_parts hd
  have hg := storeB_good hb
  have m20 := hg.m20
  have n6 := hg.n6
  obtain ⟨u1, u2, _⟩ := w_names hs.w1
  unfold p_spec_l21Flush
  rw [Bool.not_true, cond_false, Bool.true_and]
  have hB : (cond (decide ((s.2.2.length : Int) = 0)) (some true) (cond (decide ((6 : Int) ≤ (d.2.1.length : Int))) (some true) (cond (decide ((999 : Int) ≤ d.2.2.2)) (some true) (some (decide ((20 : Int) ≤ (d.1.length : Int))))))) = some (noB d s) := by
   unfold noB fullB
   by_cases h0 : s.2.2.length = 0
   ·rw [decide_eq_true (show (s.2.2.length : Int) = 0 by omega), decide_eq_true h0]; rfl
   ·rw [decide_eq_false (show ¬ (s.2.2.length : Int) = 0 by omega), decide_eq_false h0]
    by_cases h1 : 6 ≤ d.2.1.length
    ·rw [decide_eq_true (show (6 : Int) ≤ (d.2.1.length : Int) by omega), decide_eq_true h1]; rfl
    ·rw [decide_eq_false (show ¬ (6 : Int) ≤ (d.2.1.length : Int) by omega), decide_eq_false h1]
     cases decide ((999 : Int) ≤ d.2.2.2) <;> rfl
  rw [hB, bd_some]
  cases noB d s with
  | true => rfl
  | false =>
   rw [cond_false, gd.yes (show room (([] : List Int).length + d.2.1.length) by rw [List.length_nil]; unfold room; omega), gd.yes (show room ((([] : List Int) ++ d.2.1).length + 1) by rw [List.nil_append]; unfold room; omega), bd.yes (e_l13Mem s (by omega) fun m hm => by obtain ⟨a, b, _⟩ := hg.m m hm; omega), bd.yes (e_spec_l11Names _ u1 fun n hn => (u2 n hn).1)]
   rfl
theorem sfP_fine {d : Disk} {s : Store} (ok : Dp.ok s) (hs : okS s) : fineT (sfP d s) := by
 unfold sfP
 split
 ·rename_i hc
  simp only [Bool.and_eq_true] at hc
  obtain ⟨hb, hd⟩ := fitsB_parts hc.1
  have h6 := (diskB_parts hd).2.2.1
  have m20 := (storeB_good hb).m20
  have hn : Wt.w ([] : List (List Tag)) ≤ 4194304 := Nat.zero_le _
  refine fine_steps (show (2 : Nat) ≤ 8 by omega) fun x hx => ?_
  unfold flushSt at hx
  simp only [List.mem_cons, List.not_mem_nil, or_false] at hx
  rcases hx with rfl | rfl
  ·exact fine_step _ _ (memP_small _ (by omega)) (Nat.zero_le _) ok_nonames hn
  ·exact fine_step _ _ small_nil (by simp only [List.length_append, List.length_nil, List.length_singleton]; omega) ok.1.1 hs.w1
 ·exact fine_steps (Nat.zero_le _) fun _ h => nomatch h
theorem e_FnExactStepsFlush (d : Disk) (s : Store) (ok : Dp.ok d) (oks : Dp.ok s) (so : So.so d) (sos : So.so s) : p_laws_FnExactStepsFlush d s = some true := by
 unfold p_laws_FnExactStepsFlush
 rw [s_Disk d 1048576 (by omega) (by omega) ok so, bd_some]
 by_cases hc : cut 1048576 (Wt.w d) < 0
 ·simp [hc]
 ·have hw := cut_w hc (by omega)
  have h := okD_of ok hw
  rw [decide_eq_false hc, cond_false, s_Store s (cut 1048576 (Wt.w d)) (cut_nn hc) (cut_rng (by omega)) oks sos, bd_some]
  by_cases hd : cut (cut 1048576 (Wt.w d)) (Wt.w s) < 0
  ·simp [hd]
  ·have hws := cut_w hd (cut_rng (by omega))
   have hs := okS_of oks hws
   obtain ⟨okr, wr⟩ := sfP_fine (d := d) oks hs
   rw [decide_eq_false hd, cond_false, bd.yes (t_Disk d ok hw), bd.yes (t_Store s oks hws), bd.yes (e_spec_StepsFlush d s h hs), bd.yes (e_impl_StepsFlush d s h hs)]
   have n1 : Ct.m (List Step) = 8 := rfl
   have n2 : Ct.m Disk = 8 := rfl
   have n3 : Ct.m Store = 11 := rfl
   have c1 := Ct.le d
   have c2 := Ct.le (sfP d s)
   have c3 := Ct.le s
   rw [n2] at c1
   rw [n1] at c2
   rw [n3] at c3
   obtain ⟨k1, r1, e1, l1, u1, _⟩ := m_Disk d 1 (by omega) (by omega) ok
   obtain ⟨k2, r2, e2, l2, u2, f2⟩ := m_StepS (sfP d s) 1 (by omega) (by omega) okr
   obtain ⟨k3, r3, e3, l3, u3, _⟩ := m_Store s k1 (by omega) (by omega) oks
   have h1 : ¬ k1 < 0 := by omega
   have h2 : ¬ k2 < 0 := by omega
   have h3 : ¬ k3 < 0 := by omega
   simp [q_StepS _ _ okr okr, q_Disk d d ok ok, q_Store s s oks oks, e1, e2, e3, f2, h2, h3]
end Go.Proofs.YtonnpkdadcafcaaGreat
