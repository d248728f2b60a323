/- Plain laws of the plain functions. Conditions: lengths that memory can hold. -/
import Derived.Test.YtfcdncblogldnaaP2
namespace Go.Proofs.Ytfcdncblogldnaa
open Go Go.Sx
/-- the first place of id, or -1 -/
def place (l : List Int) (id : Int) : Int := match (List.range l.length).find? (fun i => decide (nth l i = id)) with | some i => i | none => -1
theorem place_no {l : List Int} {id : Int} (h : allN l.length (fun i => decide (nth l i = id)) = true) : place l id = -1 := by
  unfold place
  rw [List.find?_eq_none.2]
  intro i hi
  have := allN_iff.1 h i (by simpa using hi)
  simpa using this
theorem place_yes {l : List Int} {id : Int} {k : Nat} (hk : k < l.length) (h : decide (nth l k = id) = true) (h2 : ∀ i, i < k → decide (nth l i = id) = false) : place l id = k := by
  unfold place
  have : (List.range l.length).find? (fun i => decide (nth l i = id)) = some k := by
    rw [List.find?_range_eq_some]
    exact ⟨h, by simpa using hk, fun i hi => by simpa using h2 i hi⟩
  rw [this]
theorem e_Index (l : List Int) (id : Int) (ok : l.length ≤ 9223372036854775807) : p_slices_Index_int_int l id = some (place l id) := by
  unfold p_slices_Index_int_int
  rcases lp_scan (body := p_slices_Index_int_int_b0 l id) (fun k => (k : Int)) l.length (fun i => decide (nth l i = id)) (.inl ()) (fun k => .inr (k : Int)) (fun k hk _ h => by
      have h' : ¬ id = nth l k := fun e => by simp [e] at h
      unfold p_slices_Index_int_int_b0; simp [hk, gd.yes (ixN hk), h', gd.yes (i64S hk ok)]) (fun k hk _ h => by
      have h' : id = nth l k := by simp at h; exact h.symm
      unfold p_slices_Index_int_int_b0; simp [hk, gd.yes (ixN hk), h']) (fun _ => by unfold p_slices_Index_int_int_b0; simp) with ⟨h1, h2⟩ | ⟨h1, k, hk, hb, hn, h2⟩
  · rw [show (lp (p_slices_Index_int_int_b0 l id) 0) = _ from h2, place_no h1]; rfl
  · rw [show (lp (p_slices_Index_int_int_b0 l id) 0) = _ from h2, place_yes hk hb hn]; rfl
theorem place_lt {l : List Int} {id : Int} : place l id < 0 ∨ ∃ k, k < l.length ∧ place l id = (k : Int) := by
  cases ha : allN l.length (fun i => decide (nth l i = id)) with
  | true => exact .inl (by rw [place_no ha]; decide)
  | false =>
    obtain ⟨k, hk, h1, h2⟩ := first_bad ha
    exact .inr ⟨k, hk, place_yes hk h1 h2⟩
/-- the rows of series id -/
def rowsOf (p : Part) (id : Int) : List Row := if place p.1 id < 0 then [] else nth p.2 (place p.1 id).toNat
theorem partOk_len' {p : Part} (h : partOk p = true) : p.1.length = p.2.length := by
  unfold partOk at h; simp at h; exact h.1
theorem e_l12Of (p : Part) (id : Int) (ok : Dp.ok p) (hl : p.1.length = p.2.length) : p_spec_l12Of p id = some (rowsOf p id) := by
  have hm : p.1.length ≤ 9223372036854775807 := ok.1.1
  unfold p_spec_l12Of rowsOf
  rcases lp_scan (body := p_spec_l12Of_b0 p id) (fun k => (k : Int)) p.1.length (fun i => decide (nth p.1 i = id)) (.inl ()) (fun k => .inr (nth p.2 k)) (fun k hk _ h => by
      have h' : ¬ nth p.1 k = id := by simpa using h
      unfold p_spec_l12Of_b0; simp [hk, gd.yes (ixN hk), h', gd.yes (i64S hk hm)]) (fun k hk _ h => by
      have h' : nth p.1 k = id := by simpa using h
      have hk2 : k < p.2.length := by omega
      unfold p_spec_l12Of_b0; simp [hk, gd.yes (ixN hk), h', gd.yes (ixN hk2)]) (fun _ => by unfold p_spec_l12Of_b0; simp) with ⟨h1, h2⟩ | ⟨h1, k, hk, hb, hn, h2⟩
  · rw [show (lp (p_spec_l12Of_b0 p id) 0) = _ from h2, place_no h1]; rfl
  · rw [show (lp (p_spec_l12Of_b0 p id) 0) = _ from h2, place_yes hk hb hn]
    have : ¬ (k : Int) < 0 := by omega
    simp [sw, this]
theorem rowsOf_w {p : Part} {id : Int} (hl : p.1.length = p.2.length) : Wt.w (rowsOf p id) ≤ Wt.w p := by
  unfold rowsOf
  rcases place_lt (l := p.1) (id := id) with h | ⟨k, hk, h⟩
  · rw [if_pos h]; exact Nat.zero_le _
  · rw [h, if_neg (by omega)]
    exact Nat.le_trans (wL_el (l := p.2) (k := k) (by omega)) wP_2
theorem rowsOf_len {p : Part} {id : Int} (hl : p.1.length = p.2.length) (hw : Wt.w p ≤ 1048576) : (rowsOf p id).length ≤ 1048576 := Nat.le_trans wL_le (Nat.le_trans (rowsOf_w hl) hw)
def partOf (p : Part) (id : Int) : List Row := if partOk p then rowsOf p id else []
theorem e_spec_PartOf (p : Part) (id : Int) (ok : Dp.ok p) (hw : Wt.w p ≤ 1048576) : p_spec_PartOf p id = some (partOf p id) := by
  unfold p_spec_PartOf partOf
  rw [e_spec_PartOk p ok, bd_some]
  cases h : partOk p with
  | false => rfl
  | true =>
    have hl := partOk_len' h
    have hr : room (rowsOf p id).length := by have := rowsOf_len (id := id) hl hw; unfold room; omega
    simp [e_l12Of p id ok hl, gd.yes hr]
theorem e_impl_PartOf (p : Part) (id : Int) (ok : Dp.ok p) (hw : Wt.w p ≤ 1048576) : p_impl_PartOf p id = some (partOf p id) := by
  unfold p_impl_PartOf partOf
  rw [e_Index p.1 id ok.1.1, bd_some, e_impl_PartOk p ok, bd_some]
  cases h : partOk p with
  | false => rfl
  | true =>
    have hl := partOk_len' h
    rcases place_lt (l := p.1) (id := id) with hp | ⟨k, hk, hp⟩
    · simp [hp, rowsOf]
    · have h0 : ¬ (k : Int) < 0 := by omega
      have hk2 : k < p.2.length := by omega
      have hr : room (nth p.2 k).length := by
        have : (nth p.2 k).length ≤ 1048576 := Nat.le_trans wL_le (Nat.le_trans (wL_el hk2) (Nat.le_trans wP_2 hw))
        unfold room; omega
      simp [hp, rowsOf, h0, gd.yes (ixN hk2), gd.yes hr]
theorem ok_rows (l : List Row) (h : l.length ≤ 1048576) : Dp.ok l := ⟨Nat.le_trans h (by decide), fun _ _ => ⟨trivial, trivial⟩⟩
theorem partOf_w {p : Part} {id : Int} : Wt.w (partOf p id) ≤ Wt.w p := by
  unfold partOf
  cases h : partOk p with
  | false => exact Nat.zero_le _
  | true => exact rowsOf_w (partOk_len' h)
theorem e_FnExactPartOf (a : Part) (id : Int) (ok : Dp.ok a) (_ : Dp.ok id) : p_laws_FnExactPartOf a id = some true := by
  unfold p_laws_FnExactPartOf
  rw [s_Part a 1048576 (by omega) (by omega) ok, bd_some]
  by_cases hc : cut 1048576 (Wt.w a) < 0
  · simp [hc]
  · have hw := cut_w hc (by omega)
    have hpw := Nat.le_trans (partOf_w (p := a) (id := id)) hw
    have hpl : (partOf a id).length ≤ 1048576 := Nat.le_trans wL_le hpw
    have okp := ok_rows _ hpl
    have c1 := Ct.le a
    have c2 := Ct.le (partOf a id)
    have n1 : Ct.m Part = 3 := rfl
    have n2 : Ct.m (List Row) = 2 := rfl
    rw [n1] at c1
    rw [n2] at c2
    obtain ⟨k1, r1, e1, l1, u1⟩ := m_Part a 1 (by omega) (by omega) ok
    obtain ⟨k2, r2, e2, l2, u2, f2⟩ := m_RowS (partOf a id) 1 (by omega) (by omega) okp
    have h1 : ¬ k1 < 0 := by omega
    have h2 : ¬ k2 < 0 := by omega
    simp [hc, t_Part a ok hw, e_spec_PartOf a id ok hw, e_impl_PartOf a id ok hw, q_Part a a ok ok, q_RowS _ _ okp okp, e1, e2, f2, h1, h2]
end Go.Proofs.Ytfcdncblogldnaa
