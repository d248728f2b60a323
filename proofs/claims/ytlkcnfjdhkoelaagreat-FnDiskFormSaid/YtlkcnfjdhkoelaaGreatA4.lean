/- The walks and the plain laws, part 4: each function that the law reaches computes what its plain function tells, and what the plain functions answer. Conditions: lengths that memory can hold. -/
import Derived.Test.YtlkcnfjdhkoelaaGreatA3
namespace Go.Proofs.YtlkcnfjdhkoelaaGreat
open Go Go.Sx Tryz
theorem e_Index (l : List Int) (id : Int) (ok : l.length ≤ 9223372036854775807) : p_slices_Index_int_int l id = some (place l id) := by
 unfold p_slices_Index_int_int
 rcases lp_scan (body := p_slices_Index_int_int_b0 l id) (fun k => (k : Int)) l.length (fun i => decide (nth l i = id)) (.inl ()) (fun k => .inr (k : Int)) (fun k hk _ h => by
   have h' : ¬ id = nth l k := fun e => by simp [e] at h
   unfold p_slices_Index_int_int_b0; simp [hk, gd.yes (ixN hk), h', gd.yes (i64S hk ok)]) (fun k hk _ h => by
   have h' : id = nth l k := by simp at h; exact h.symm
   unfold p_slices_Index_int_int_b0; simp [hk, gd.yes (ixN hk), h']) (fun _ => by unfold p_slices_Index_int_int_b0; simp) with ⟨h1, h2⟩ | ⟨h1, k, hk, hb, hn, h2⟩
 ·rw [show (lp (p_slices_Index_int_int_b0 l id) 0) = _ from h2, place_no h1]; rfl
 ·rw [show (lp (p_slices_Index_int_int_b0 l id) 0) = _ from h2, place_yes hk hb hn]; rfl
theorem place_lt {l : List Int} {id : Int} : place l id < 0 ∨ ∃ k, k < l.length ∧ place l id = (k : Int) := by
 cases ha : allN l.length (fun i => decide (nth l i = id)) with
 | true => exact .inl (by rw [place_no ha]; decide)
 | false =>
  obtain ⟨k, hk, h1, h2⟩ := first_bad ha
  exact .inr ⟨k, hk, place_yes hk h1 h2⟩
def rowsOf (p : Part) (id : Int) : List Row := if place p.1 id < 0 then [] else nth p.2 (place p.1 id).toNat
theorem partOk_len' {p : Part} (h : partOk p = true) : p.1.length = p.2.length := by
 unfold partOk at h; simp at h; exact h.1
theorem e_l12Of (p : Part) (id : Int) (ok : Dp.ok p) (hl : p.1.length = p.2.length) : p_spec_l12Of p id = some (rowsOf p id) := by
 have hm : p.1.length ≤ 9223372036854775807 := ok.1.1
 unfold p_spec_l12Of rowsOf
 rcases lp_scan (body := p_spec_l12Of_b0 p id) (fun k => (k : Int)) p.1.length (fun i => decide (nth p.1 i = id)) (.inl ()) (fun k => .inr (nth p.2 k)) (fun k hk _ h => by
   have h' : ¬ nth p.1 k = id := by simpa using h
   unfold p_spec_l12Of_b0; simp [hk, gd.yes (ixN hk), h', gd.yes (i64S hk hm)]) (fun k hk _ h => by
   have h' : nth p.1 k = id := by simpa using h
   have hk2 : k < p.2.length := by omega
   unfold p_spec_l12Of_b0; simp [hk, gd.yes (ixN hk), h', gd.yes (ixN hk2)]) (fun _ => by unfold p_spec_l12Of_b0; simp) with ⟨h1, h2⟩ | ⟨h1, k, hk, hb, hn, h2⟩
 ·rw [show (lp (p_spec_l12Of_b0 p id) 0) = _ from h2, place_no h1]; rfl
 ·rw [show (lp (p_spec_l12Of_b0 p id) 0) = _ from h2, place_yes hk hb hn]
  have : ¬ (k : Int) < 0 := by omega
  simp [sw, this]
def partOf (p : Part) (id : Int) : List Row := if partOk p then rowsOf p id else []
theorem e_impl_PartOf (p : Part) (id : Int) (ok : Dp.ok p) (hw : Wt.w p ≤ 1048576) : p_impl_PartOf p id = some (partOf p id) := by
 unfold p_impl_PartOf partOf
 rw [e_Index p.1 id ok.1.1, bd_some, e_impl_PartOk p ok, bd_some]
 cases h : partOk p with
 | false => rfl
 | true =>
  have hl := partOk_len' h
  rcases place_lt (l := p.1) (id := id) with hp | ⟨k, hk, hp⟩
  ·simp [hp, rowsOf]
  ·have h0 : ¬ (k : Int) < 0 := by omega
   have hk2 : k < p.2.length := by omega
   have hr : room (nth p.2 k).length := by
    have : (nth p.2 k).length ≤ 1048576 := Nat.le_trans wL_le (Nat.le_trans (wL_el hk2) (Nat.le_trans wP_2 hw))
    unfold room; omega
   simp [hp, rowsOf, h0, gd.yes (ixN hk2), gd.yes hr]
theorem ok_rows (l : List Row) (h : l.length ≤ 1048576) : Dp.ok l := ⟨Nat.le_trans h (by decide), fun _ _ => ⟨trivial, trivial⟩⟩
def disk0 : Disk := (([] : List File), ([] : List Int), ([] : List (List Tag)), 1)
theorem tmod_rng {a n : Int} (ha : 0 ≤ a) (hn : 0 < n) : 0 ≤ a.tmod n ∧ a.tmod n < n := ⟨Int.tmod_nonneg n ha, Int.tmod_lt_of_pos a hn⟩
theorem tdiv_rng {a n : Int} (ha : 0 ≤ a) (hn : 0 < n) : 0 ≤ a.tdiv n ∧ a.tdiv n ≤ a := by
 rw [Int.tdiv_eq_ediv_of_nonneg ha]
 exact ⟨Int.ediv_nonneg ha (by omega), Int.ediv_le_self n ha⟩
theorem u8_rng (b : UInt8) : (0 : Int) ≤ (b.toNat : Int) ∧ (b.toNat : Int) ≤ 255 := by have := b.toNat_lt; omega
theorem xr_nn (a b : Int) : 0 ≤ xr a b := by unfold xr; omega
theorem xr_lt {a b : Int} (ha : 0 ≤ a) (ha2 : a < 4611686018427387904) (hb : 0 ≤ b) (hb2 : b < 4611686018427387904) : xr a b < 4611686018427387904 := by
 unfold xr
 have : a.toNat ^^^ b.toNat < 2 ^ 62 := Nat.xor_lt_two_pow (by omega) (by omega)
 omega
theorem d_pick (b : List UInt8) (p n : Int) (hb : b.length ≤ 2000) (h0 : 0 ≤ p) (h1 : p ≤ 1000000) (hn : n ≤ 1000000000) :
  ∃ x, p_spec_l6Rd_pick (b, p) n = some (x, p + 1) ∧ 0 ≤ x ∧ (1 ≤ n → x < n) := by
 unfold p_spec_l6Rd_pick
 have g0 : I64 (p + 1) := by unfold I64; omega
 have ep : p + 1 - 1 = p := by omega
 have gp : I64 p := by unfold I64; omega
 simp only [ep, gd.yes g0, gd.yes gp]
 by_cases hn1 : n < 1
 ·exact ⟨0, by simp [hn1], Int.le_refl _, fun h => by omega⟩
 ·by_cases hb0 : (b.length : Int) = 0
  ·exact ⟨0, by simp [hn1, hb0], Int.le_refl _, fun h => by omega⟩
  ·simp only [hn1, hb0, decide_false, cond_false, bd_some]
   by_cases hp : p < (b.length : Int)
   ·have hx := tmod_rng (u8_rng (nth b p.toNat)).1 (show 0 < n by omega)
    have g1 : ix p b.length := ⟨h0, hp⟩
    have g2 : n ≠ 0 := by omega
    have g3 : I64 (((nth b p.toNat).toNat : Int).tmod n) := by unfold I64; omega
    simp only [hp, decide_true, cond_true, gd.yes g1, gd.yes g2, gd.yes g3]
    exact ⟨_, rfl, hx.1, fun _ => hx.2⟩
   ·simp only [hp, decide_false, cond_false]
    have hL : (0 : Int) < (b.length : Int) := by omega
    have hm := tmod_rng h0 hL
    have hm2 := tmod_rng (show 0 ≤ p * 7 + 3 by omega) hL
    have hq := tdiv_rng h0 hL
    have u1 := u8_rng (nth b (p.tmod (b.length : Int)).toNat)
    have u2 := u8_rng (nth b ((p * 7 + 3).tmod (b.length : Int)).toNat)
    have g1 : (b.length : Int) ≠ 0 := hb0
    have g2 : I64 (p.tmod (b.length : Int)) := by unfold I64; omega
    have g3 : ix (p.tmod (b.length : Int)) b.length := hm
    have g4 : I64 (p * 7) := by unfold I64; omega
    have g5 : I64 (p * 7 + 3) := by unfold I64; omega
    have g6 : I64 ((p * 7 + 3).tmod (b.length : Int)) := by unfold I64; omega
    have g7 : ix ((p * 7 + 3).tmod (b.length : Int)) b.length := hm2
    have g8 : I64 (p * 29) := by unfold I64; omega
    have g9 : I64 (p.tdiv (b.length : Int)) := by unfold I64; omega
    simp only [gd.yes g1, gd.yes g2, gd.yes g3, gd.yes g4, gd.yes g5, gd.yes g6, gd.yes g7, gd.yes g8, gd.yes g9]
    generalize ((nth b (p.tmod (b.length : Int)).toNat).toNat : Int) = y1 at *
    generalize ((nth b ((p * 7 + 3).tmod (b.length : Int)).toNat).toNat : Int) = y2 at *
    generalize p.tdiv (b.length : Int) = q at *
    have k1 : I64 (y1 * 131) := by unfold I64; omega
    have k2 : I64 (y2 * 1117) := by unfold I64; omega
    have k3 : I64 (y1 * 131 + y2 * 1117) := by unfold I64; omega
    have k4 : I64 (y1 * 131 + y2 * 1117 + p * 29) := by unfold I64; omega
    have k5 : I64 (q * 53) := by unfold I64; omega
    have k6 : I64 (y1 * 131 + y2 * 1117 + p * 29 + q * 53) := by unfold I64; omega
    simp only [gd.yes k1, gd.yes k2, gd.yes k3, gd.yes k4, gd.yes k5, gd.yes k6]
    have hx0 : 0 ≤ y1 * 131 + y2 * 1117 + p * 29 + q * 53 := by omega
    have hx1 : y1 * 131 + y2 * 1117 + p * 29 + q * 53 < 1000000000 := by omega
    generalize y1 * 131 + y2 * 1117 + p * 29 + q * 53 = x at *
    have hd := tdiv_rng hx0 (show (0 : Int) < 64 by decide)
    have m1 : I64 (x.tdiv 64) := by unfold I64; omega
    have m2 : nn x := by unfold nn; omega
    have m3 : nn (x.tdiv 64) := by unfold nn; omega
    have hr0 := xr_nn x (x.tdiv 64)
    have hr1 := xr_lt hx0 (by omega) hd.1 (by omega) (b := x.tdiv 64)
    have hz := tmod_rng hr0 (show 0 < n by omega)
    have m4 : n ≠ 0 := by omega
    have m5 : I64 ((xr x (x.tdiv 64)).tmod n) := by unfold I64; omega
    simp only [gd.yes m1, gd.yes m2, gd.yes m3, gd.yes m4, gd.yes m5]
    exact ⟨_, rfl, hz.1, fun _ => hz.2⟩
def l2 (r : Row) : Bool → List Row → List Row
 | put, [] => if put then [] else [r]
 | put, x :: t => (if !put && decide (r.1 ≤ x.1) then [r] else []) ++ ((if x.1 = r.1 then [] else [x]) ++ l2 r (put || decide (r.1 ≤ x.1)) t)
theorem l2_len (r : Row) : ∀ (l : List Row) (put : Bool), (l2 r put l).length ≤ 2 * l.length + 1
 | [], put => by cases put <;> simp [l2]
 | x :: t, put => by
  have := l2_len r t (put || decide (r.1 ≤ x.1))
  simp only [l2, List.length_append, List.length_cons]
  split <;> split <;> simp <;> omega
theorem drop_nth {α : Type} [Inhabited α] {l : List α} {k : Nat} (hk : k < l.length) : l.drop k = nth l k :: l.drop (k + 1) := by
 rw [nth_eq l k hk, List.drop_eq_getElem_cons hk]
theorem e_l2Put (b : List Row) (r : Row) (hb : b.length ≤ 1048576) : p_spec_l2Put b r = some (l2 r false b) := by
 unfold p_spec_l2Put
 obtain ⟨e, he, hs1, hs2⟩ := lp.rule (body := p_spec_l2Put_b0 b r) (fun σ => ∃ k : Nat, k ≤ b.length ∧ σ.2.2 = (k : Int) ∧ σ.1.length ≤ 2 * k ∧ σ.1 ++ l2 r σ.2.1 (b.drop k) = l2 r false b) (fun σ => b.length - σ.2.2.toNat)
  (fun e => e.1.length ≤ 2 * b.length ∧ e.1 ++ (if e.2 then [] else [r]) = l2 r false b) (fun σ hI => by
   obtain ⟨k, k1, k2, k3, k4⟩ := hI
   unfold p_spec_l2Put_b0
   rw [k2]
   by_cases hk : k < b.length
   ·left
    rw [drop_nth hk] at k4
    have hi := i64S hk (by omega)
    have r1 : room (σ.1.length + 1) := by unfold room; omega
    have r2 : room ((σ.1 ++ [r]).length + 1) := by simp; unfold room; omega
    simp only [dlt hk, cond_true, gd.yes (ixN hk), Int.toNat_natCast, gd.yes hi, gd.yes r1, gd.yes r2]
    obtain ⟨o, put, i⟩ := σ
    simp only at k2 k3 k4 ⊢
    cases put with
    | true =>
     simp only [l2, Bool.not_true, Bool.false_and, Bool.false_eq_true, if_false, List.nil_append, Bool.true_or] at k4
     simp only [Bool.not_true, cond_false, bd_some]
     by_cases hx : (nth b k).1 = r.1
     ·simp only [hx, if_true, List.nil_append] at k4
      exact ⟨(o, true, ((k + 1 : Nat) : Int)), by simp [hx], ⟨k + 1, hk, rfl, by simp only; omega, k4⟩, by simp only; omega⟩
     ·simp only [hx, if_false] at k4
      exact ⟨(o ++ [nth b k], true, ((k + 1 : Nat) : Int)), by simp [hx], ⟨k + 1, hk, rfl, by simp; omega, by simpa using k4⟩, by simp only; omega⟩
    | false =>
     by_cases hle : r.1 ≤ (nth b k).1
     ·simp only [l2, hle, decide_true, Bool.not_false, Bool.true_and, if_true, Bool.or_true] at k4
      by_cases hx : (nth b k).1 = r.1
      ·simp only [hx, if_true, List.nil_append] at k4
       exact ⟨(o ++ [r], true, ((k + 1 : Nat) : Int)), by simp [hx], ⟨k + 1, hk, rfl, by simp; omega, by simpa using k4⟩, by simp only; omega⟩
      ·simp only [hx, if_false] at k4
       exact ⟨(o ++ [r] ++ [nth b k], true, ((k + 1 : Nat) : Int)), by simp [hx, hle], ⟨k + 1, hk, rfl, by simp; omega, by simpa using k4⟩, by simp only; omega⟩
     ·simp only [l2, hle, decide_false, Bool.not_false, Bool.and_false, Bool.false_eq_true, if_false, List.nil_append, Bool.or_false] at k4
      have hx : ¬ (nth b k).1 = r.1 := by omega
      simp only [hx, if_false] at k4
      exact ⟨(o ++ [nth b k], false, ((k + 1 : Nat) : Int)), by simp [hx, hle], ⟨k + 1, hk, rfl, by simp; omega, by simpa using k4⟩, by simp only; omega⟩
   ·right
    have hk' : k = b.length := by omega
    subst hk'
    refine ⟨(σ.1, σ.2.1), by simp, k3, ?_⟩
    rw [List.drop_length] at k4
    simpa [l2] using k4) (s := (([] : List Row), false, (0 : Int))) ⟨0, Nat.zero_le _, rfl, by simp, by simp⟩
 rw [he, bd_some]
 have r1 : room (e.1.length + 1) := by unfold room; omega
 cases hp : e.2 with
 | true => simp [hp] at hs2; simp [hs2]
 | false => simp [hp] at hs2; simp [gd.yes r1, hs2]
theorem d_l71Row (b : List UInt8) (p : Int) (hb : b.length ≤ 2000) (h0 : 0 ≤ p) (h1 : p + 4 ≤ 1000000) :
  ∃ r p', p_spec_l71Row (b, p) = some (r, p') ∧ p ≤ p' ∧ p' ≤ p + 4 := by
 obtain ⟨x1, e1, a1, b1⟩ := d_pick b p 40 hb h0 (by omega) (by decide)
 obtain ⟨x2, e2, a2, b2⟩ := d_pick b (p + 1) 20 hb (by omega) (by omega) (by decide)
 obtain ⟨x3, e3, a3, b3⟩ := d_pick b (p + 1 + 1) 40 hb (by omega) (by omega) (by decide)
 obtain ⟨x4, e4, a4, b4⟩ := d_pick b (p + 1 + 1 + 1) 3 hb (by omega) (by omega) (by decide)
 have g1 : I64 (x2 - 6) := by have := b2 (by decide); unfold I64; omega
 have b4 := b4 (by decide)
 have g2 : ix x4 ([-1, 99, 100] : List Int).length := ⟨a4, b4⟩
 have g3 : ix x4 ([-99, 99, 100] : List Int).length := ⟨a4, b4⟩
 unfold p_spec_l71Row
 simp only [e1, e2, e3, e4, bd_some, gd.yes g1, gd.yes g2, gd.yes g3]
 cases decide (x3 = 0) with
 | true => exact ⟨_, _, rfl, by omega, by omega⟩
 | false => cases decide (x3 = 1) with
  | true => exact ⟨_, _, rfl, by omega, by omega⟩
  | false => exact ⟨_, _, rfl, by omega, by omega⟩
theorem d_l71Block (b : List UInt8) (p : Int) (hb : b.length ≤ 2000) (h0 : 0 ≤ p) (h1 : p + 200 ≤ 1000000) :
  ∃ r p', p_spec_l71Block (b, p) = some (r, p') ∧ p ≤ p' ∧ p' ≤ p + 200 ∧ r.length ≤ 2000 := by
 obtain ⟨x1, e1, a1, b1⟩ := d_pick b p 9 hb h0 (by omega) (by decide)
 have b1 := b1 (by decide)
 unfold p_spec_l71Block
 simp only [e1, bd_some]
 obtain ⟨s, hs, i1, i2, i3⟩ := lp.rule (body := p_spec_l71Block_b0 (b, p)) (fun σ => 0 ≤ σ.2.2 ∧ σ.2.2 ≤ 8 ∧ p ≤ σ.1 ∧ σ.1 ≤ p + 1 + 4 * (8 - σ.2.2) ∧ ((σ.2.1.length : Nat) : Int) + 1 ≤ (2 : Int) ^ (9 - σ.2.2).toNat) (fun σ => σ.2.2.toNat)
  (fun e => p ≤ e.1 ∧ e.1 ≤ p + 40 ∧ e.2.length ≤ 600) (fun σ hI => by
   obtain ⟨j1, j2, j3, j4, j5⟩ := hI
   unfold p_spec_l71Block_b0
   by_cases hz : 0 < σ.2.2
   ·left
    obtain ⟨r, p', q1, q2, q3⟩ := d_l71Row b σ.1 hb (by omega) (by omega)
    have g1 : I64 (σ.2.2 - 1) := by unfold I64; omega
    have hpow : (2 : Int) ^ (9 - (σ.2.2 - 1)).toNat = 2 * 2 ^ (9 - σ.2.2).toNat := by
     rw [show (9 - (σ.2.2 - 1)).toNat = (9 - σ.2.2).toNat + 1 by omega, Int.pow_succ]; omega
    have hlim : (2 : Int) ^ (9 - σ.2.2).toNat ≤ 2 ^ 9 := by
     have h : (2 : Nat) ^ (9 - σ.2.2).toNat ≤ 2 ^ 9 := Nat.pow_le_pow_right (by decide) (by omega)
     have h2 : ((2 ^ (9 - σ.2.2).toNat : Nat) : Int) ≤ ((2 ^ 9 : Nat) : Int) := by omega
     simpa using h2
    simp only [hz, decide_true, cond_true, q1, bd_some, e_spec_l2Row, gd.yes g1]
    cases hok : rowOk r with
    | true =>
     have hl : σ.2.1.length ≤ 1048576 := by omega
     simp only [cond_true, e_l2Put _ r hl, bd_some]
     have := l2_len r σ.2.1 false
     exact ⟨_, rfl, ⟨by simp only; omega, by simp only; omega, by simp only; omega, by simp only; omega, by simp only; rw [hpow]; omega⟩, by simp only; omega⟩
    | false =>
     simp only [cond_false]
     exact ⟨_, rfl, ⟨by simp only; omega, by simp only; omega, by simp only; omega, by simp only; omega, by simp only; rw [hpow]; omega⟩, by simp only; omega⟩
   ·right
    have hz0 : σ.2.2 = 0 := by omega
    rw [hz0] at j5
    have hpw : (2 : Int) ^ (9 - (0 : Int)).toNat = 512 := by decide
    rw [hpw] at j5
    exact ⟨(σ.1, σ.2.1), by simp [hz], by simp only; omega, by simp only; omega, by simp only; omega⟩) (s := (p + 1, ([] : List Row), x1)) ⟨a1, by simp only; omega, by simp only; omega, by simp only; omega, by
   have h : (1 : Nat) ≤ 2 ^ (9 - x1).toNat := Nat.one_le_two_pow
   have h2 : ((1 : Nat) : Int) ≤ ((2 ^ (9 - x1).toNat : Nat) : Int) := by omega
   simpa using h2⟩
 rw [hs, bd_some]
 obtain ⟨x2, e2, a2, b2⟩ := d_pick b s.1 24 hb (by omega) (by omega) (by decide)
 simp only [e2, bd_some]
 by_cases hx0 : x2 = 0
 ·obtain ⟨r, p', q1, q2, q3⟩ := d_l71Row b (s.1 + 1) hb (by omega) (by omega)
  have r1 : room (s.2.length + 1) := by unfold room; omega
  simp only [hx0, decide_true, cond_true, q1, bd_some, gd.yes r1]
  exact ⟨_, _, rfl, by omega, by omega, by simp; omega⟩
 ·by_cases hx1 : x2 = 1
  ·simp only [hx1, decide_false, cond_false, decide_true, cond_true, Int.reduceEq]
   obtain ⟨t, ht, u1, u2, u3⟩ := lp.rule (body := p_spec_l71Block_b1 (b, p)) (fun σ => s.1 + 1 ≤ σ.1 ∧ σ.1 ≤ s.1 + 1 + (σ.2.2 - 50) ∧ 50 ≤ σ.2.2 ∧ (σ.2.2 = 50 ∧ σ.2.1.length ≤ 600 ∨ σ.2.2 ≤ 50 + (σ.2.1.length : Int) ∧ σ.2.1.length ≤ 24)) (fun σ => 700 - σ.2.1.length)
    (fun e => s.1 + 1 ≤ e.2 ∧ e.2 ≤ s.1 + 30 ∧ e.1.length ≤ 700) (fun σ hI => by
     obtain ⟨j1, j2, j3, j4⟩ := hI
     unfold p_spec_l71Block_b1
     obtain ⟨x, q1, q2, q3⟩ := d_pick b σ.1 2 hb (by omega) (by omega) (by decide)
     have q3 := q3 (by decide)
     have g1 : I64 (24 - x) := by unfold I64; omega
     simp only [q1, bd_some, gd.yes g1]
     by_cases hc : (σ.2.1.length : Int) < 24 - x
     ·left
      have r1 : room (σ.2.1.length + 1) := by unfold room; omega
      have g2 : I64 (σ.2.2 + 1) := by unfold I64; omega
      simp only [hc, decide_true, cond_true, gd.yes r1, gd.yes g2]
      exact ⟨_, rfl, ⟨by simp only; omega, by simp only; omega, by simp only; omega, by simp; omega⟩, by simp; omega⟩
     ·right
      simp only [hc, decide_false, cond_false]
      exact ⟨_, rfl, by simp only; omega, by simp only; omega, by simp only; omega⟩) (s := (s.1 + 1, s.2, 50)) ⟨Int.le_refl _, by simp only; omega, Int.le_refl _, .inl ⟨rfl, i3⟩⟩
   rw [ht, bd_some]
   exact ⟨_, _, rfl, by omega, by omega, by omega⟩
  ·simp only [hx0, hx1, decide_false, cond_false]
   exact ⟨_, _, rfl, by omega, by omega, by omega⟩
def mkP (i : Nat) : List (List Row) → Part
 | [] => ([], [])
 | b :: t => if 0 < b.length then (((i + 1 : Nat) : Int) :: (mkP (i + 1) t).1, b :: (mkP (i + 1) t).2) else mkP (i + 1) t
theorem mkP_len : ∀ (l : List (List Row)) (i : Nat), (mkP i l).1.length = (mkP i l).2.length ∧ (mkP i l).1.length ≤ l.length
 | [], i => by simp [mkP]
 | b :: t, i => by
  have := mkP_len t (i + 1)
  unfold mkP
  split <;> simp <;> omega
theorem mkP_mem : ∀ (l : List (List Row)) (i : Nat) (b : List Row), b ∈ (mkP i l).2 → b ∈ l
 | [], i, b, h => by simp [mkP] at h
 | c :: t, i, b, h => by
  unfold mkP at h
  split at h
  ·rcases List.mem_cons.1 h with rfl | h
   ·simp
   ·exact List.mem_cons_of_mem _ (mkP_mem t (i + 1) b h)
  ·exact List.mem_cons_of_mem _ (mkP_mem t (i + 1) b h)
theorem nth_mem {α : Type} [Inhabited α] {l : List α} {k : Nat} (h : k < l.length) : nth l k ∈ l := by rw [nth_eq l k h]; exact List.getElem_mem h
theorem e_l12Make (v : List (List Row)) (hv : v.length ≤ 1048576) (hb : ∀ b ∈ v, b.length ≤ 1048576) : p_spec_l12Make v = some (mkP 0 v) := by
 unfold p_spec_l12Make
 obtain ⟨e, he, hs⟩ := lp.rule (body := p_spec_l12Make_b0 v) (fun σ => ∃ k : Nat, k ≤ v.length ∧ σ.2.2 = (k : Int) ∧ σ.1.length ≤ k ∧ σ.2.1.length ≤ k ∧ σ.1 ++ (mkP k (v.drop k)).1 = (mkP 0 v).1 ∧ σ.2.1 ++ (mkP k (v.drop k)).2 = (mkP 0 v).2) (fun σ => v.length - σ.2.2.toNat)
  (fun e => e = mkP 0 v) (fun σ hI => by
   obtain ⟨k, k1, k2, k3, k4, k5, k6⟩ := hI
   unfold p_spec_l12Make_b0
   rw [k2]
   by_cases hk : k < v.length
   ·left
    rw [drop_nth hk] at k5 k6
    have hi := i64S hk (by omega)
    have r1 : room (σ.1.length + 1) := by unfold room; omega
    have r2 : room (σ.2.1.length + 1) := by unfold room; omega
    have r3 : room (([] : List Row).length + (nth v k).length) := by have := hb _ (nth_mem hk); unfold room; simp; omega
    simp only [dlt hk, cond_true, gd.yes (ixN hk), Int.toNat_natCast, gd.yes hi, gd.yes r1, gd.yes r2, gd.yes r3]
    by_cases hz : 0 < (nth v k).length
    ·have hz' : (0 : Int) < ((nth v k).length : Int) := by omega
     simp only [mkP, hz, if_true] at k5 k6
     simp only [hz', decide_true, cond_true]
     exact ⟨_, rfl, ⟨k + 1, hk, rfl, by simp; omega, by simp; omega, by simpa using k5, by simpa using k6⟩, by simp only; omega⟩
    ·have hz' : ¬ (0 : Int) < ((nth v k).length : Int) := by omega
     simp only [mkP, hz, if_false] at k5 k6
     simp only [hz', decide_false, cond_false]
     exact ⟨_, rfl, ⟨k + 1, hk, rfl, by simp only; omega, by simp only; omega, k5, k6⟩, by simp only; omega⟩
   ·right
    have hk' : k = v.length := by omega
    subst hk'
    rw [List.drop_length] at k5 k6
    refine ⟨(σ.1, σ.2.1), by simp, ?_⟩
    simp [mkP] at k5 k6
    rw [k5, k6]) (s := (([] : List Int), ([] : List (List Row)), (0 : Int))) ⟨0, Nat.zero_le _, rfl, Nat.le_refl _, Nat.le_refl _, by simp, by simp⟩
 rw [he, hs]; rfl
def small (p : Part) : Prop := p.1.length ≤ 10 ∧ p.2.length ≤ 10 ∧ ∀ b ∈ p.2, b.length ≤ 2000
theorem small_ok {p : Part} (h : small p) : Dp.ok p := by
 obtain ⟨h1, h2, h3⟩ := h
 exact ⟨⟨Nat.le_trans h1 (by decide), fun _ _ => trivial⟩, ⟨Nat.le_trans h2 (by decide), fun i hi => ok_rows _ (Nat.le_trans (h3 _ (nth_mem hi)) (by decide))⟩⟩
theorem wRow {b : List Row} : Wt.w b = b.length := by show b.length + sumN b.length (fun i => Wt.w (nth b i)) = _; rw [sumN_zero (f := fun i => Wt.w (nth b i)) fun i _ => rfl]; rfl
theorem sumN_bound {n m : Nat} {f : Nat → Nat} (h : ∀ i, i < n → f i ≤ m) : sumN n f ≤ n * m := by
 induction n with
 | zero => simp [sumN]
 | succ n ih => have := ih fun i hi => h i (by omega); have := h n (by omega); simp only [sumN, Nat.add_mul]; omega
theorem small_w {p : Part} (h : small p) : Wt.w p ≤ 1048576 := by
 obtain ⟨h1, h2, h3⟩ := h
 have a1 : Wt.w p.1 = p.1.length := by show p.1.length + sumN p.1.length (fun i => Wt.w (nth p.1 i)) = _; rw [sumN_zero (f := fun i => Wt.w (nth p.1 i)) fun i _ => rfl]; rfl
 have a2 : sumN p.2.length (fun i => Wt.w (nth p.2 i)) ≤ p.2.length * 2000 := sumN_bound fun i hi => by rw [wRow]; exact h3 _ (nth_mem hi)
 have a3 : p.2.length * 2000 ≤ 10 * 2000 := Nat.mul_le_mul_right _ h2
 show Wt.w p.1 + (p.2.length + sumN p.2.length fun i => Wt.w (nth p.2 i)) ≤ _
 omega
theorem d_l6Open (c : List UInt8) : ∃ b, p_spec_l6Open c = some (b, 0) ∧ b.length ≤ 2000 := by
 unfold p_spec_l6Open
 by_cases h : (2000 : Int) < (c.length : Int)
 ·have g : sl2 0 2000 c.length := by unfold sl2; omega
  simp only [h, decide_true, cond_true, gd.yes g]
  exact ⟨_, rfl, by simp; omega⟩
 ·simp only [h, decide_false, cond_false]
  exact ⟨_, rfl, by omega⟩
theorem d_l72Part (b : List UInt8) (p : Int) (hb : b.length ≤ 2000) (h0 : 0 ≤ p) (h1 : p + 900 ≤ 1000000) :
  ∃ r p', p_spec_l72Part (b, p) = some (r, p') ∧ p ≤ p' ∧ p' ≤ p + 900 ∧ r.1.length ≤ 5 ∧ r.2.length ≤ 5 ∧ ∀ x ∈ r.2, x.length ≤ 2000 := by
 unfold p_spec_l72Part
 obtain ⟨s, hs, i1, i2, i3, i4⟩ := lp.rule (body := p_spec_l72Part_b0 (b, p)) (fun σ => p ≤ σ.1 ∧ σ.1 ≤ p + 201 * σ.2.2 ∧ 0 ≤ σ.2.2 ∧ σ.2.2 ≤ 4 ∧ (σ.2.1.length : Int) = σ.2.2 ∧ ∀ x ∈ σ.2.1, x.length ≤ 2000) (fun σ => (4 - σ.2.2).toNat)
  (fun e => p ≤ e.1 ∧ e.1 ≤ p + 804 ∧ e.2.length ≤ 4 ∧ ∀ x ∈ e.2, x.length ≤ 2000) (fun σ hI => by
   obtain ⟨j1, j2, j3, j4, j5, j6⟩ := hI
   unfold p_spec_l72Part_b0
   by_cases hz : σ.2.2 < 4
   ·left
    obtain ⟨x, q1, q2, q3⟩ := d_pick b σ.1 2 hb (by omega) (by omega) (by decide)
    have g1 : I64 (σ.2.2 + 1) := by unfold I64; omega
    have r1 : room (σ.2.1.length + 1) := by unfold room; omega
    simp only [hz, decide_true, cond_true, q1, bd_some, gd.yes g1, gd.yes r1]
    by_cases hx : x = 0
    ·obtain ⟨r, p', w1, w2, w3, w4⟩ := d_l71Block b (σ.1 + 1) hb (by omega) (by omega)
     simp only [hx, decide_true, cond_true, w1, bd_some]
     refine ⟨_, rfl, ⟨by simp only; omega, by simp only; omega, by simp only; omega, by simp only; omega, by simp; omega, fun y hy => ?_⟩, by simp only; omega⟩
     rcases List.mem_append.1 hy with hy | hy
     ·exact j6 y hy
     ·simp at hy; subst hy; exact w4
    ·simp only [hx, decide_false, cond_false]
     refine ⟨_, rfl, ⟨by simp only; omega, by simp only; omega, by simp only; omega, by simp only; omega, by simp; omega, fun y hy => ?_⟩, by simp only; omega⟩
     rcases List.mem_append.1 hy with hy | hy
     ·exact j6 y hy
     ·simp at hy; subst hy; simp
   ·right
    simp only [hz, decide_false, cond_false]
    exact ⟨_, rfl, by simp only; omega, by simp only; omega, by simp only; omega, j6⟩) (s := (p, ([] : List (List Row)), 0)) ⟨Int.le_refl _, by simp, Int.le_refl _, by simp, rfl, by simp⟩
 simp only [hs, bd_some, e_l12Make s.2 (by omega) (fun x hx => Nat.le_trans (i4 x hx) (by decide))]
 obtain ⟨m1, m2⟩ := mkP_len s.2 0
 have m3 := mkP_mem s.2 0
 obtain ⟨x, q1, q2, q3⟩ := d_pick b s.1 24 hb (by omega) (by omega) (by decide)
 obtain ⟨y, w1, w2, w3⟩ := d_pick b (s.1 + 1) 9 hb (by omega) (by omega) (by decide)
 have r1 : room ((mkP 0 s.2).1.length + 1) := by unfold room; omega
 have r2 : room ((mkP 0 s.2).2.length + 1) := by unfold room; omega
 simp only [q1, w1, bd_some, gd.yes r1, gd.yes r2]
 by_cases hx : x = 0
 ·simp only [hx, decide_true, cond_true]
  exact ⟨_, _, rfl, by omega, by omega, by simp; omega, by simp only; omega, fun z hz => i4 z (m3 z hz)⟩
 ·by_cases hx1 : x = 1
  ·simp only [hx1, decide_false, cond_false, decide_true, cond_true, Int.reduceEq]
   refine ⟨_, _, rfl, by omega, by omega, by simp; omega, by simp; omega, fun z hz => ?_⟩
   rcases List.mem_append.1 hz with hz | hz
   ·exact i4 z (m3 z hz)
   ·simp at hz; subst hz; simp
  ·simp only [hx, hx1, decide_false, cond_false]
   exact ⟨_, _, rfl, by omega, by omega, by omega, by omega, fun z hz => i4 z (m3 z hz)⟩
theorem partOk_iff {p : Part} (h : partOk p = true) : p.1.length = p.2.length ∧ (∀ k, k < p.1.length → 1 ≤ nth p.1 k ∧ nth p.1 k ≤ 6) ∧ (∀ k, 0 < k → k < p.1.length → nth p.1 (k - 1) < nth p.1 k) ∧ (∀ k, k < p.2.length → 0 < (nth p.2 k).length ∧ blockOk (nth p.2 k) = true) := by
 unfold partOk at h
 simp only [Bool.and_eq_true, decide_eq_true_eq] at h
 obtain ⟨h1, h2⟩ := h
 have h2 := allN_iff.1 h2
 refine ⟨h1, fun k hk => ?_, fun k h0 hk => ?_, fun k hk => ?_⟩
 ·have := h2 k hk; simp only [partBad, inn, Bool.or_eq_false_iff, Bool.not_eq_false', Bool.and_eq_true, decide_eq_true_eq] at this; exact this.1.1.1
 ·have := h2 k hk; simp [partBad, h0] at this; exact this.1.1.2
 ·have := h2 k (by omega); simp [partBad] at this; exact ⟨List.length_pos_iff.2 this.2, this.1.2⟩
theorem ids_mono {p : Part} (h : ∀ k, 0 < k → k < p.1.length → nth p.1 (k - 1) < nth p.1 k) : ∀ {j k : Nat}, j < k → k < p.1.length → nth p.1 j < nth p.1 k := by
 intro j k hjk hk
 induction k with
 | zero => omega
 | succ k ih =>
  have h1 := h (k + 1) (by omega) hk
  rw [show k + 1 - 1 = k by omega] at h1
  rcases Nat.lt_or_eq_of_le (Nat.le_of_lt_succ hjk) with h' | rfl
  ·have := ih h' (by omega); omega
  ·exact h1
def ins (r : Row) : List Row → List Row
 | [] => [r]
 | x :: t => if x.1 < r.1 then x :: ins r t else if x.1 = r.1 then r :: t else r :: x :: t
theorem ins_len (r : Row) : ∀ l : List Row, l.length ≤ (ins r l).length ∧ (ins r l).length ≤ l.length + 1
 | [] => by simp [ins]
 | x :: t => by
  have := ins_len r t
  unfold ins
  split
  ·simp; omega
  ·split <;> simp
theorem ins_pre (r : Row) : ∀ (p s : List Row), (∀ x ∈ p, x.1 < r.1) → ins r (p ++ s) = p ++ ins r s
 | [], s, _ => rfl
 | x :: p, s, h => by
  have hx := h x (by simp)
  rw [List.cons_append, ins, if_pos hx, ins_pre r p s fun y hy => h y (by simp [hy]), List.cons_append]
def Asc (l : List Row) : Prop := l.Pairwise fun x y => x.1 < y.1
theorem e_put (b : List Row) (r : Row) (hb : b.length ≤ 1048576) : p_impl_put b r = some (ins r b) := by
 unfold p_impl_put
 have r0 : room (([] : List Row).length + b.length) := by unfold room; simp; omega
 simp only [gd.yes r0, List.nil_append]
 have key : ∃ k : Nat, k ≤ b.length ∧ (∀ i, i < k → (nth b i).1 < r.1) ∧ (k < b.length → ¬ (nth b k).1 < r.1) ∧ lp (p_impl_put_b0 b r) 0 = some (k : Int) := by
  rcases lp_scan (body := p_impl_put_b0 b r) (fun k => (k : Int)) b.length (fun k => !decide ((nth b k).1 < r.1)) (b.length : Int) (fun k => (k : Int)) (fun k hk _ h => by
    have h' : (nth b k).1 < r.1 := by simpa using h
    unfold p_impl_put_b0; simp [hk, gd.yes (ixN hk), h', gd.yes (i64S hk (by omega))]) (fun k hk _ h => by
    have h' : ¬ (nth b k).1 < r.1 := by simpa using h
    unfold p_impl_put_b0; simp [hk, gd.yes (ixN hk), h']) (fun _ => by unfold p_impl_put_b0; simp) with ⟨h1, h2⟩ | ⟨h1, k, hk, hb', hn, h2⟩
  ·exact ⟨b.length, Nat.le_refl _, fun i hi => by simpa using allN_iff.1 h1 i hi, fun h => absurd h (Nat.lt_irrefl _), h2⟩
  ·exact ⟨k, Nat.le_of_lt hk, fun i hi => by simpa using hn i hi, fun _ => by simpa using hb', h2⟩
 obtain ⟨k, k1, k2, k3, k4⟩ := key
 rw [k4, bd_some]
 have hpre : ∀ x ∈ b.take k, x.1 < r.1 := fun x hx => by
  obtain ⟨i, hi, rfl⟩ := List.mem_iff_getElem.1 hx
  have hik : i < k := by simp at hi; omega
  have := k2 i hik
  rw [nth_eq b i (by omega)] at this
  simpa using this
 have hins : ins r b = b.take k ++ ins r (b.drop k) := by
  conv => lhs; rw [← List.take_append_drop k b]
  rw [ins_pre r _ _ hpre]
 by_cases hk : k < b.length
 ·have h3 := k3 hk
  rw [drop_nth hk, ins, if_neg h3] at hins
  simp only [dlt hk, cond_true, gd.yes (ixN hk), bd_some, Int.toNat_natCast]
  by_cases he : (nth b k).1 = r.1
  ·rw [if_pos he] at hins
   rw [hins, List.set_eq_take_append_cons_drop, if_pos hk]
   simp [he]
  ·rw [if_neg he] at hins
   have g1 : (0 : Int) ≤ (k : Int) ∧ (k : Int) ≤ (b.length : Int) := by omega
   have g2 : room (b.length + [r].length) := by unfold room; simp; omega
   have g3 : 0 < [r].length := by simp
   unfold p_slices_Insert_Row_Row p_insert
   have e1 : b.take k ++ [r] ++ b.drop k = ins r b := by rw [hins, drop_nth hk]; simp
   simp only [he, decide_false, cond_false, gd.yes g1, gd.yes g2, gd.yes g3, bd_some, Int.toNat_natCast, e1]
   have := ins_len r b
   have g4 : room (([] : List Row).length + (ins r b).length) := by unfold room; simp; omega
   simp only [gd.yes g4]
 ·have hk' : k = b.length := by omega
  subst hk'
  have g1 : (0 : Int) ≤ (b.length : Int) ∧ (b.length : Int) ≤ (b.length : Int) := by omega
  have g2 : room (b.length + [r].length) := by unfold room; simp; omega
  have g3 : 0 < [r].length := by simp
  rw [List.drop_length] at hins
  have e1 : b.take b.length ++ [r] ++ b.drop b.length = ins r b := by rw [hins, List.drop_length]; simp [ins]
  unfold p_slices_Insert_Row_Row p_insert
  simp only [Int.lt_irrefl, decide_false, cond_false, bd_some, gd.yes g1, gd.yes g2, gd.yes g3, Int.toNat_natCast, e1]
  have := ins_len r b
  have g4 : room (([] : List Row).length + (ins r b).length) := by unfold room; simp; omega
  simp only [gd.yes g4]
theorem l2_true (r : Row) : ∀ l : List Row, (∀ x ∈ l, r.1 < x.1) → l2 r true l = l
 | [], _ => rfl
 | x :: t, h => by
  have hx := h x (by simp)
  simp only [l2, Bool.not_true, Bool.false_and, Bool.false_eq_true, if_false, List.nil_append, Bool.true_or]
  rw [if_neg (by omega), l2_true r t fun y hy => h y (by simp [hy])]; rfl
theorem l2_ins (r : Row) : ∀ l : List Row, Asc l → l2 r false l = ins r l
 | [], _ => rfl
 | x :: t, h => by
  unfold Asc at h
  obtain ⟨h1, h2⟩ := List.pairwise_cons.1 h
  simp only [l2, ins, Bool.not_false, Bool.true_and, Bool.false_or]
  by_cases hle : r.1 ≤ x.1
  ·simp only [hle, decide_true, if_true]
   rw [if_neg (show ¬ x.1 < r.1 by omega), l2_true r t fun y hy => by have := h1 y hy; omega]
   by_cases he : x.1 = r.1 <;> simp [he]
  ·simp only [hle, decide_false, Bool.false_eq_true, if_false, List.nil_append]
   rw [if_pos (show x.1 < r.1 by omega), if_neg (show ¬ x.1 = r.1 by omega), l2_ins r t h2]; rfl
theorem ins_mem {r y : Row} : ∀ {l : List Row}, y ∈ ins r l → y = r ∨ y ∈ l
 | [], h => by simp [ins] at h; exact .inl h
 | x :: t, h => by
  unfold ins at h
  split at h
  ·rcases List.mem_cons.1 h with h | h
   ·exact .inr (by simp [h])
   ·exact (ins_mem h).imp id fun h => by simp [h]
  ·split at h
   ·rcases List.mem_cons.1 h with h | h
    ·exact .inl h
    ·exact .inr (by simp [h])
   ·rcases List.mem_cons.1 h with h | h
    ·exact .inl h
    ·exact .inr h
theorem ins_asc (r : Row) : ∀ {l : List Row}, Asc l → Asc (ins r l)
 | [], _ => by simp [ins, Asc]
 | x :: t, h => by
  unfold Asc at h ⊢
  obtain ⟨h1, h2⟩ := List.pairwise_cons.1 h
  unfold ins
  split
  ·rename_i hx
   refine List.pairwise_cons.2 ⟨fun y hy => ?_, ins_asc r h2⟩
   rcases ins_mem hy with rfl | hy
   ·exact hx
   ·exact h1 y hy
  ·split
   ·rename_i hx he
    exact List.pairwise_cons.2 ⟨fun y hy => by have := h1 y hy; omega, h2⟩
   ·rename_i hx he
    refine List.pairwise_cons.2 ⟨fun y hy => ?_, h⟩
    rcases List.mem_cons.1 hy with rfl | hy
    ·omega
    ·have := h1 y hy; omega
def mg (a b : List Row) : List Row := b.foldl (fun o r => ins r o) a
theorem mg_asc {a b : List Row} (ha : Asc a) : Asc (mg a b) := by
 unfold mg
 induction b generalizing a with
 | nil => exact ha
 | cons x b ih => exact ih (ins_asc x ha)
theorem mg_len : ∀ (b a : List Row), a.length ≤ (mg a b).length ∧ (mg a b).length ≤ a.length + b.length
 | [], a => by simp [mg]
 | x :: b, a => by
  have h1 := ins_len x a
  have h2 := mg_len b (ins x a)
  unfold mg at h2 ⊢
  simp only [List.foldl_cons, List.length_cons] at h2 ⊢
  omega
theorem mg_mem {y : Row} : ∀ {b a : List Row}, y ∈ mg a b → y ∈ a ∨ y ∈ b
 | [], a, h => .inl h
 | x :: b, a, h => by
  have h : y ∈ mg (ins x a) b := h
  rcases mg_mem h with h | h
  ·rcases ins_mem h with rfl | h
   ·exact .inr (by simp)
   ·exact .inl h
  ·exact .inr (by simp [h])
theorem nil_asc : Asc [] := List.Pairwise.nil
theorem blockOk_iff {b : List Row} : blockOk b = true ↔ (∀ x ∈ b, rowOk x = true) ∧ Asc b ∧ b.length ≤ 24 := by
 unfold blockOk
 rw [Bool.and_eq_true, allN_iff, decide_eq_true_eq]
 constructor
 ·rintro ⟨h1, h2⟩
  have hp : ∀ k, k < b.length → rowOk (nth b k) = true ∧ (0 < k → (nth b (k - 1)).1 < (nth b k).1) := fun k hk => by
   have := h1 k hk
   simp only [rowBad, Bool.or_eq_false_iff, Bool.not_eq_false', Bool.and_eq_false_iff, decide_eq_false_iff_not] at this
   exact ⟨this.1, fun h0 => by rcases this.2 with h | h <;> omega⟩
  refine ⟨fun x hx => ?_, ?_, by omega⟩
  ·obtain ⟨i, hi, rfl⟩ := List.mem_iff_getElem.1 hx
   rw [← nth_eq b i hi]; exact (hp i hi).1
  ·refine List.pairwise_iff_getElem.2 fun i j hi hj hij => ?_
   rw [← nth_eq b i hi, ← nth_eq b j hj]
   clear hi
   induction j with
   | zero => omega
   | succ j ih =>
    have h3 := (hp (j + 1) hj).2 (by omega)
    rw [show j + 1 - 1 = j by omega] at h3
    rcases Nat.lt_or_eq_of_le (Nat.le_of_lt_succ hij) with h' | rfl
    ·have := ih (by omega) h'; omega
    ·exact h3
 ·rintro ⟨h1, h2, h3⟩
  refine ⟨fun k hk => ?_, by omega⟩
  have r1 : rowOk (nth b k) = true := h1 _ (nth_mem hk)
  simp only [rowBad, r1, Bool.not_true, Bool.false_or, Bool.and_eq_false_iff, decide_eq_false_iff_not]
  rcases Nat.eq_zero_or_pos k with h0 | h0
  ·exact .inl (by omega)
  ·refine .inr ?_
   have := List.pairwise_iff_getElem.1 h2 (k - 1) k (by omega) hk (by omega)
   rw [← nth_eq b (k - 1) (by omega), ← nth_eq b k hk] at this
   omega
theorem foldl_take {α β : Type} [Inhabited α] (f : β → α → β) (s : β) (l : List α) (k : Nat) (hk : k < l.length) : (l.take (k + 1)).foldl f s = f ((l.take k).foldl f s) (nth l k) := by
 rw [nth_eq l k hk, List.take_succ_eq_append_getElem hk, List.foldl_append]; rfl
theorem mg_take (a b : List Row) (k : Nat) (hk : k < b.length) : mg a (b.take (k + 1)) = ins (nth b k) (mg a (b.take k)) := foldl_take _ _ _ _ hk
theorem mg_take_len (a b : List Row) (k : Nat) (hk : k ≤ b.length) : (mg a (b.take k)).length ≤ a.length + b.length := by
 have := (mg_len (b.take k) a).2
 rw [List.length_take] at this; omega
theorem e_spec_l2Merge (a b : List Row) (ha : a.length ≤ 100) (hb : b.length ≤ 100) (h : Asc a) : p_spec_l2Merge a b = some (mg a b) := by
 unfold p_spec_l2Merge
 have g1 : room (([] : List Row).length + a.length) := by unfold room; simp; omega
 simp only [gd.yes g1, List.nil_append]
 have := lp_for (body := p_spec_l2Merge_b0 b) (fun k => (mg a (b.take k), (k : Int))) b.length (mg a b) (fun k hk => by
  unfold p_spec_l2Merge_b0
  have hl := mg_take_len a b k (by omega)
  simp only [dlt hk, cond_true, gd.yes (ixN hk), Int.toNat_natCast, e_l2Put _ (nth b k) (show (mg a (b.take k)).length ≤ 1048576 by omega), l2_ins _ _ (mg_asc h), bd_some, gd.yes (i64S hk (by omega)), mg_take a b k hk]
  rfl) (by unfold p_spec_l2Merge_b0; simp)
 have e0 : lp (p_spec_l2Merge_b0 b) (a, 0) = some (mg a b) := this
 rw [e0]; rfl
theorem partOk_asc {p : Part} (h : partOk p = true) : p.1.Pairwise (· < ·) := List.pairwise_iff_getElem.2 fun i j hi hj hij => by
 rw [← nth_eq p.1 i hi, ← nth_eq p.1 j hj]; exact ids_mono (partOk_iff h).2.2.1 hij hj
theorem rowsOf_ok {p : Part} (h : partOk p = true) (id : Int) : blockOk (rowsOf p id) = true := by
 unfold rowsOf
 rcases place_lt (l := p.1) (id := id) with hp | ⟨k, hk, hp⟩
 ·rw [if_pos hp]; rfl
 ·rw [hp, if_neg (by omega)]; exact ((partOk_iff h).2.2.2 k (by have := (partOk_iff h).1; omega)).2
theorem partOk_small {p : Part} (h : partOk p = true) : small p := by
 obtain ⟨h1, h2, h3, h4⟩ := partOk_iff h
 have hk : ∀ k : Nat, k < p.1.length → ((k : Nat) : Int) + 1 ≤ nth p.1 k := fun k => by
  induction k with
  | zero => intro hk; have := (h2 0 hk).1; omega
  | succ k ih =>
   intro hk
   have := h3 (k + 1) (by omega) hk
   rw [show k + 1 - 1 = k by omega] at this
   have := ih (by omega); omega
 have hl : p.1.length ≤ 10 := by
  rcases Nat.lt_or_ge p.1.length 7 with h' | h'
  ·omega
  ·have := hk 6 (by omega); have := (h2 6 (by omega)).2; omega
 refine ⟨hl, by omega, fun b hb => ?_⟩
 obtain ⟨i, hi, rfl⟩ := List.mem_iff_getElem.1 hb
 have := (blockOk_iff.1 (h4 i hi).2).2.2
 rw [nth_eq p.2 i hi] at this; omega
def blk (a b : Part) (id : Int) : List Row := mg (rowsOf a id) (rowsOf b id)
def blks (a b : Part) (n : Nat) : List (List Row) := (List.range n).map fun i => blk a b ((i + 1 : Nat) : Int)
def pmP (a b : Part) : Part := mkP 0 (blks a b 6)
theorem blks_len (a b : Part) (n : Nat) : (blks a b n).length = n := by simp [blks]
theorem blks_succ (a b : Part) (n : Nat) : blks a b (n + 1) = blks a b n ++ [blk a b ((n + 1 : Nat) : Int)] := by simp [blks, List.range_succ]
theorem ba_one {x : ByteArray} (h : x.size = 1) : x = ⟨#[sb x 0]⟩ := by
 have : x.data.size = 1 := h
 apply ByteArray.ext
 apply Array.ext
 ·rw [this]; rfl
 ·intro i h1 h2
  have hi : i = 0 := by omega
  subst hi
  simp [sb, this]
theorem sl_one (a b : UInt8) : sless ⟨#[a]⟩ ⟨#[b]⟩ = decide (a < b) := by
 rw [sless_lt]
 have e : ∀ c : UInt8, (⟨#[c]⟩ : ByteArray).toList = [c] := fun c => by simp [ByteArray.toList, ByteArray.toList.loop, ByteArray.size, ByteArray.get!]
 have h2 : ([a] < [b]) ↔ a < b := by rw [List.cons_lt_cons_iff]; simp
 rw [e, e]
 exact decide_eq_decide.2 h2
def tagB (t : Tag) : Bool := decide (t.1.size = 1) && (decide (t.2.size = 1) && (inn 97 ((sb t.1 0).toNat : Int) 100 && inn 112 ((sb t.2 0).toNat : Int) 122))
theorem e_spec_l3Tag (t : Tag) : p_spec_l3Tag t = some (tagB t) := by
 unfold p_spec_l3Tag tagB
 have c1 : decide ((t.1.size : Int) = 1) = decide (t.1.size = 1) := decide_eq_decide.2 (by omega)
 have c2 : decide ((t.2.size : Int) = 1) = decide (t.2.size = 1) := decide_eq_decide.2 (by omega)
 rw [c1, c2]
 by_cases h1 : t.1.size = 1
 ·by_cases h2 : t.2.size = 1
  ·simp only [h1, h2, decide_true, cond_true, gd.yes (show ix 0 1 by unfold ix; omega), e_spec_l6In, bd_some, Bool.true_and]
   cases inn 97 ((sb t.1 0).toNat : Int) 100 <;> simp
  ·simp [h1, h2]
 ·simp [h1]
theorem rng_one {x : ByteArray} (h : x.size = 1) (lo hi : UInt8) : (!sless x ⟨#[lo]⟩ && (sless x ⟨#[hi]⟩ || decide (x = ⟨#[hi]⟩))) = inn (lo.toNat : Int) ((sb x 0).toNat : Int) (hi.toNat : Int) := by
 have hx := ba_one h
 generalize sb x 0 = c at *
 subst hx
 rw [sl_one, sl_one]
 have e1 : (!decide (c < lo)) = decide ((lo.toNat : Int) ≤ (c.toNat : Int)) := by
  by_cases k : c < lo
  ·have : c.toNat < lo.toNat := UInt8.lt_iff_toNat_lt.1 k
   simp [k]; omega
  ·have : ¬ c.toNat < lo.toNat := fun q => k (UInt8.lt_iff_toNat_lt.2 q)
   simp [k]; omega
 have e2 : (decide (c < hi) || decide ((⟨#[c]⟩ : ByteArray) = ⟨#[hi]⟩)) = decide ((c.toNat : Int) ≤ (hi.toNat : Int)) := by
  by_cases k : c < hi
  ·have : c.toNat < hi.toNat := UInt8.lt_iff_toNat_lt.1 k
   simp [k]; omega
  ·have h3 : ¬ c.toNat < hi.toNat := fun q => k (UInt8.lt_iff_toNat_lt.2 q)
   by_cases e : c = hi
   ·subst e; simp
   ·have h4 : c.toNat ≠ hi.toNat := fun q => e (UInt8.toNat_inj.1 q)
    have h5 : (⟨#[c]⟩ : ByteArray) ≠ ⟨#[hi]⟩ := fun q => e (by
     have := congrArg (fun b : ByteArray => b.data.toList) q
     simpa using this)
    simp [k, h5]; omega
 rw [e1, e2]; rfl
theorem e_impl_tagOk (t : Tag) : p_impl_tagOk t = some (tagB t) := by
 unfold p_impl_tagOk tagB
 have c1 : decide ((t.1.size : Int) = 1) = decide (t.1.size = 1) := decide_eq_decide.2 (by omega)
 have c2 : decide ((t.2.size : Int) = 1) = decide (t.2.size = 1) := decide_eq_decide.2 (by omega)
 rw [c1, c2]
 by_cases h1 : t.1.size = 1
 ·have r1 := rng_one h1 97 100
  rw [show ((97 : UInt8).toNat : Int) = 97 from rfl, show ((100 : UInt8).toNat : Int) = 100 from rfl] at r1
  rw [← r1]
  by_cases h2 : t.2.size = 1
  ·have r2 := rng_one h2 112 122
   rw [show ((112 : UInt8).toNat : Int) = 112 from rfl, show ((122 : UInt8).toNat : Int) = 122 from rfl] at r2
   rw [← r2]
   simp only [h1, h2, decide_true, cond_true, Bool.true_and]
   cases (!sless t.1 ⟨#[97]⟩) <;> cases (sless t.1 ⟨#[100]⟩ || decide (t.1 = ⟨#[100]⟩)) <;> cases (!sless t.2 ⟨#[112]⟩) <;> rfl
  ·simp only [h1, h2, decide_true, decide_false, cond_true, cond_false, Bool.true_and, Bool.false_and]
   cases (!sless t.1 ⟨#[97]⟩) <;> cases (sless t.1 ⟨#[100]⟩ || decide (t.1 = ⟨#[100]⟩)) <;> rfl
 ·simp [h1]
def nameBad (n : List Tag) (k : Nat) : Bool := !tagB (nth n k) || (decide (0 < k) && !sless (nth n (k - 1)).1 (nth n k).1)
def nameOk (n : List Tag) : Bool := allN n.length (nameBad n) && inn 1 (n.length : Int) 3
theorem e_impl_NameOk (n : List Tag) (hn : n.length ≤ maxLen) : p_impl_NameOk n = some (nameOk n) := by
 have hn' : n.length ≤ 9223372036854775807 := hn
 have hr : ∀ k, k < n.length → p_impl_NameOk_b0 n (k : Int) = some (if nameBad n k then .inr (.inr false) else .inl ((k + 1 : Nat) : Int)) := fun k hk => by
  unfold p_impl_NameOk_b0 nameBad
  simp only [dlt hk, cond_true, gd.yes (ixN hk), e_impl_tagOk, bd_some, Int.toNat_natCast, gd.yes (i64S hk hn')]
  cases h1 : tagB (nth n k) with
  | false => simp
  | true =>
   simp only [Bool.not_true, cond_false, Bool.false_or]
   by_cases h0 : 0 < k
   ·have h0' : (0 : Int) < k := by omega
    have e1 : (k : Int) - 1 = ((k - 1 : Nat) : Int) := by omega
    have hi : I64 ((k - 1 : Nat) : Int) := by unfold I64; omega
    simp only [h0, h0', decide_true, cond_true, e1, gd.yes hi, gd.yes (ixN (show k - 1 < n.length by omega)), Int.toNat_natCast, bd_some, Bool.true_and]
    cases sless (nth n (k - 1)).1 (nth n k).1 <;> simp
   ·simp [h0]
 unfold p_impl_NameOk nameOk
 rcases lp_scan (body := p_impl_NameOk_b0 n) (fun k => (k : Int)) n.length (nameBad n) (.inl ()) (fun _ => .inr false) (fun k hk _ h => by simp [hr k hk, h]) (fun k hk _ h => by simp [hr k hk, h]) (fun _ => by unfold p_impl_NameOk_b0; simp) with ⟨h1, h2⟩ | ⟨h1, k, _, _, _, h2⟩
 ·rw [show (lp (p_impl_NameOk_b0 n) 0) = _ from h2, h1]; simp [sw, e_impl_within]
 ·rw [show (lp (p_impl_NameOk_b0 n) 0) = _ from h2, h1]; simp [sw]
theorem e_spec_NameOk (n : List Tag) (hn : n.length ≤ maxLen) : p_spec_NameOk n = some (nameOk n) := by
 have hn' : n.length ≤ 9223372036854775807 := hn
 have hr : ∀ k, k < n.length → p_spec_NameOk_b0 n (k : Int) = some (if nameBad n k then .inr (.inr false) else .inl ((k + 1 : Nat) : Int)) := fun k hk => by
  unfold p_spec_NameOk_b0 nameBad
  simp only [dlt hk, cond_true, gd.yes (ixN hk), e_spec_l3Tag, bd_some, Int.toNat_natCast, gd.yes (i64S hk hn')]
  cases h1 : tagB (nth n k) with
  | false => simp
  | true =>
   simp only [Bool.not_true, cond_false, Bool.false_or]
   by_cases h0 : 0 < k
   ·have h0' : (0 : Int) < k := by omega
    have e1 : (k : Int) - 1 = ((k - 1 : Nat) : Int) := by omega
    have hi : I64 ((k - 1 : Nat) : Int) := by unfold I64; omega
    simp only [h0, h0', decide_true, cond_true, e1, gd.yes hi, gd.yes (ixN (show k - 1 < n.length by omega)), Int.toNat_natCast, bd_some, Bool.true_and]
    cases sless (nth n (k - 1)).1 (nth n k).1 <;> simp
   ·simp [h0]
 unfold p_spec_NameOk nameOk
 rcases lp_scan (body := p_spec_NameOk_b0 n) (fun k => (k : Int)) n.length (nameBad n) (.inl ()) (fun _ => .inr false) (fun k hk _ h => by simp [hr k hk, h]) (fun k hk _ h => by simp [hr k hk, h]) (fun _ => by unfold p_spec_NameOk_b0; simp) with ⟨h1, h2⟩ | ⟨h1, k, _, _, _, h2⟩
 ·rw [show (lp (p_spec_NameOk_b0 n) 0) = _ from h2, h1]; simp [sw, e_spec_l6In]
 ·rw [show (lp (p_spec_NameOk_b0 n) 0) = _ from h2, h1]; simp [sw]
theorem allN_mem {α : Type} [Inhabited α] {l : List α} {p : α → Bool} : allN l.length (fun k => p (nth l k)) = true ↔ ∀ x ∈ l, p x = false := by
 rw [allN_iff]
 constructor
 ·intro h x hx
  obtain ⟨i, hi, rfl⟩ := List.mem_iff_getElem.1 hx
  have := h i hi
  rwa [nth_eq l i hi] at this
 ·intro h i hi
  rw [nth_eq l i hi]
  exact h _ (List.getElem_mem hi)
def hasT (n : List Tag) (t : Tag) : Bool := n.any fun x => decide (x = t)
theorem hasT_iff {n : List Tag} {t : Tag} : hasT n t = true ↔ t ∈ n := by simp [hasT]
theorem hasT_no {n : List Tag} {t : Tag} (h : t ∉ n) : hasT n t = false := by
 cases hc : hasT n t with
 | false => rfl
 | true => exact absurd (hasT_iff.1 hc) h
theorem e_spec_l3Has (n : List Tag) (t : Tag) (hn : n.length ≤ maxLen) : p_spec_l3Has n t = some (hasT n t) := by
 have hn' : n.length ≤ 9223372036854775807 := hn
 have hr : ∀ k, k < n.length → p_spec_l3Has_b0 n t (k : Int) = some (if decide (nth n k = t) then .inr (.inr true) else .inl ((k + 1 : Nat) : Int)) := fun k hk => by
  unfold p_spec_l3Has_b0
  simp only [dlt hk, cond_true, gd.yes (ixN hk), Int.toNat_natCast, gd.yes (i64S hk hn')]
  by_cases h : nth n k = t <;> simp [h]
 unfold p_spec_l3Has
 rcases lp_scan (body := p_spec_l3Has_b0 n t) (fun k => (k : Int)) n.length (fun k => decide (nth n k = t)) (.inl ()) (fun _ => .inr true) (fun k hk _ h => by simp [hr k hk, of_decide_eq_false h]) (fun k hk _ h => by simp [hr k hk, of_decide_eq_true h]) (fun _ => by unfold p_spec_l3Has_b0; simp) with ⟨h1, h2⟩ | ⟨h1, k, hk, hb, _, h2⟩
 ·rw [show (lp (p_spec_l3Has_b0 n t) 0) = _ from h2]
  have : t ∉ n := fun ht => by
   have := (allN_mem (l := n) (p := fun x => decide (x = t))).1 h1 t ht
   simp at this
  simp [sw, hasT_no this]
 ·rw [show (lp (p_spec_l3Has_b0 n t) 0) = _ from h2]
  have : t ∈ n := (of_decide_eq_true hb) ▸ nth_mem hk
  simp [sw, hasT_iff.2 this]
theorem e_impl_cloneNames (names : List (List Tag)) (h1 : names.length ≤ 4194304) (h2 : ∀ n ∈ names, n.length ≤ 4194304) : p_impl_cloneNames names = some names := by
 unfold p_impl_cloneNames
 rw [show (([] : List (List Tag)), (0 : Int)) = (names.take 0, ((0 : Nat) : Int)) from rfl, lp_for (fun k => (names.take k, (k : Int))) names.length names (fun k hk => by
  unfold p_impl_cloneNames_b0
  have hl := h2 _ (nth_mem hk)
  simp only [dlt hk, cond_true, gd.yes (ixN hk), Int.toNat_natCast, List.length_nil, List.nil_append, List.length_take]
  rw [gd.yes (by unfold room; omega), gd.yes (by unfold room; omega), gd.yes (by unfold I64; omega), take_succ_nth hk]
  rfl) (by unfold p_impl_cloneNames_b0; simp)]
 rfl
theorem e_spec_l11Names (names : List (List Tag)) (h1 : names.length ≤ 4194304) (h2 : ∀ n ∈ names, n.length ≤ 4194304) : p_spec_l11Names names = some names := by
 unfold p_spec_l11Names
 rw [show (([] : List (List Tag)), (0 : Int)) = (names.take 0, ((0 : Nat) : Int)) from rfl, lp_for (fun k => (names.take k, (k : Int))) names.length names (fun k hk => by
  unfold p_spec_l11Names_b0
  have hl := h2 _ (nth_mem hk)
  simp only [dlt hk, cond_true, gd.yes (ixN hk), Int.toNat_natCast, List.length_nil, List.nil_append, List.length_take]
  rw [gd.yes (by unfold room; omega), gd.yes (by unfold room; omega), gd.yes (by unfold I64; omega), take_succ_nth hk]
  rfl) (by unfold p_spec_l11Names_b0; simp)]
 rfl
def addT : List Post → Tag → Int → List Post
 | [], t, i => [(t, [i])]
 | p :: P, t, i => if p.1 = t then (p.1, p.2 ++ [i]) :: P else p :: addT P t i
def addN (P : List Post) (n : List Tag) (i : Int) : List Post := n.foldl (fun P t => addT P t i) P
def postsF (names : List (List Tag)) : Nat → List Post
 | 0 => []
 | m + 1 => addN (postsF names m) (nth names m) ((m : Int) + 1)
def indexP (names : List (List Tag)) : Index := (names, (postsF names names.length).mergeSort leP)
theorem addT_old (P : List Post) (t : Tag) (i : Int) (h : t ∈ P.map (·.1)) : (addT P t i).map (·.1) = P.map (·.1) := by
 induction P with
 | nil => cases h
 | cons p P ih =>
  unfold addT
  by_cases e : p.1 = t
  ·simp [e]
  ·rw [if_neg e, List.map_cons, List.map_cons, ih]
   rcases List.mem_cons.1 h with h | h
   ·exact absurd h.symm e
   ·exact h
theorem addT_new (P : List Post) (t : Tag) (i : Int) (h : t ∉ P.map (·.1)) : (addT P t i).map (·.1) = P.map (·.1) ++ [t] := by
 induction P with
 | nil => rfl
 | cons p P ih =>
  unfold addT
  have e : p.1 ≠ t := fun e => h (by rw [List.map_cons, e]; exact List.mem_cons_self ..)
  rw [if_neg e, List.map_cons, List.map_cons, ih (fun q => h (by rw [List.map_cons]; exact List.mem_cons_of_mem _ q))]
  rfl
theorem addT_nodup {P : List Post} (h : (P.map (·.1)).Nodup) (t : Tag) (i : Int) : ((addT P t i).map (·.1)).Nodup := by
 by_cases hm : t ∈ P.map (·.1)
 ·rw [addT_old P t i hm]; exact h
 ·rw [addT_new P t i hm, List.nodup_append]
  exact ⟨h, by simp, fun a ha b hb => by simp at hb; subst hb; exact fun e => hm (e ▸ ha)⟩
theorem addN_cons (P : List Post) (t : Tag) (n : List Tag) (i : Int) : addN P (t :: n) i = addN (addT P t i) n i := rfl
theorem postsF_succ (names : List (List Tag)) (m : Nat) : postsF names (m + 1) = addN (postsF names m) (nth names m) ((m : Int) + 1) := rfl
theorem addN_nodup (n : List Tag) (i : Int) : ∀ {P : List Post}, (P.map (·.1)).Nodup → ((addN P n i).map (·.1)).Nodup := by
 unfold addN
 induction n with
 | nil => intro P h; exact h
 | cons t n ih => intro P h; exact ih (addT_nodup h t i)
theorem postsF_nodup (names : List (List Tag)) : ∀ m, ((postsF names m).map (·.1)).Nodup
 | 0 => by simp [postsF]
 | m + 1 => addN_nodup _ _ (postsF_nodup names m)
def bnd (P : List Post) (c : Nat) : Prop := P.length ≤ c ∧ ∀ p ∈ P, p.2.length ≤ c
theorem bnd_addT {P : List Post} {c : Nat} (h : bnd P c) (t : Tag) (i : Int) : bnd (addT P t i) (c + 1) := by
 obtain ⟨h1, h2⟩ := h
 have len : (addT P t i).length ≤ P.length + 1 := by
  clear h1 h2
  induction P with
  | nil => simp [addT]
  | cons p P ih => unfold addT; split <;> simp <;> omega
 refine ⟨by omega, ?_⟩
 clear len h1
 induction P with
 | nil => intro p hp; simp [addT] at hp; subst hp; simp
 | cons q P ih =>
  intro p hp
  unfold addT at hp
  split at hp
  ·rcases List.mem_cons.1 hp with rfl | hp
   ·have := h2 q (List.mem_cons_self ..)
    simp; omega
   ·have := h2 p (List.mem_cons_of_mem _ hp); omega
  ·rcases List.mem_cons.1 hp with rfl | hp
   ·have := h2 p (List.mem_cons_self ..); omega
   ·exact ih (fun r hr => h2 r (List.mem_cons_of_mem _ hr)) p hp
theorem addT_none {P : List Post} {t : Tag} (i : Int) (h : ∀ k, k < P.length → (nth P k).1 ≠ t) : addT P t i = P ++ [(t, [i])] := by
 induction P with
 | nil => rfl
 | cons p P ih =>
  have h0 : p.1 ≠ t := h 0 (by simp)
  unfold addT
  rw [if_neg h0, ih (fun k hk => h (k + 1) (by simp; omega))]; rfl
theorem addT_some {P : List Post} {t : Tag} (i : Int) : ∀ {k : Nat}, k < P.length → (nth P k).1 = t → (∀ j, j < k → (nth P j).1 ≠ t) → addT P t i = P.set k ((nth P k).1, (nth P k).2 ++ [i]) := by
 induction P with
 | nil => intro k hk; simp at hk
 | cons p P ih =>
  intro k hk he hn
  cases k with
  | zero =>
   have he : p.1 = t := he
   unfold addT; rw [if_pos he]; rfl
  | succ k =>
   have h0 : p.1 ≠ t := hn 0 (by omega)
   unfold addT
   rw [if_neg h0, ih (k := k) (by simpa using hk) he (fun j hj => hn (j + 1) (by omega))]
   rfl
theorem e_IndexFunc1 (P : List Post) (t : Tag) (hP : P.length ≤ 4194304) : (∃ k : Nat, k < P.length ∧ (nth P k).1 = t ∧ (∀ j, j < k → (nth P j).1 ≠ t) ∧ p_slices_IndexFunc_Post_Post_indexOf_1 P t = some (k : Int)) ∨ ((∀ k, k < P.length → (nth P k).1 ≠ t) ∧ p_slices_IndexFunc_Post_Post_indexOf_1 P t = some (-1)) := by
 have hr : ∀ k, k < P.length → p_slices_IndexFunc_Post_Post_indexOf_1_b0 P t (k : Int) = some (if decide ((nth P k).1 = t) then .inr (.inr (k : Int)) else .inl ((k + 1 : Nat) : Int)) := fun k hk => by
  unfold p_slices_IndexFunc_Post_Post_indexOf_1_b0 p_impl_indexOf_1
  simp only [dlt hk, cond_true, gd.yes (ixN hk), Int.toNat_natCast, bd_some, gd.yes (i64S hk (by omega))]
  by_cases h : (nth P k).1 = t <;> simp [h]
 unfold p_slices_IndexFunc_Post_Post_indexOf_1
 rcases lp_scan (body := p_slices_IndexFunc_Post_Post_indexOf_1_b0 P t) (fun k => (k : Int)) P.length (fun k => decide ((nth P k).1 = t)) (.inl ()) (fun k => .inr (k : Int)) (fun k hk _ h => by simp [hr k hk, of_decide_eq_false h]) (fun k hk _ h => by rw [hr k hk, if_pos h]) (fun _ => by unfold p_slices_IndexFunc_Post_Post_indexOf_1_b0; simp) with ⟨h1, h2⟩ | ⟨h1, k, hk, hb, hn, h2⟩
 ·exact .inr ⟨fun k hk => of_decide_eq_false (allN_iff.1 h1 k hk), by rw [show (lp (p_slices_IndexFunc_Post_Post_indexOf_1_b0 P t) 0) = _ from h2]; rfl⟩
 ·exact .inl ⟨k, hk, of_decide_eq_true hb, fun j hj => of_decide_eq_false (hn j hj), by rw [show (lp (p_slices_IndexFunc_Post_Post_indexOf_1_b0 P t) 0) = _ from h2]; rfl⟩
theorem e_tags (names : List (List Tag)) (Q : List Post) (m : Nat) (hm : m < 4194304) (c : Nat) (n : List Tag) (hn : n = nth names m) (hc : c + n.length ≤ 4194304) : ∀ (r j : Nat) (P : List Post), j + r = n.length → bnd P (c + j) →
  lp (p_impl_indexOf_b1 names (Q, (m : Int))) (P, (j : Int)) = some (addN P (n.drop j) ((m : Int) + 1)) ∧ bnd (addN P (n.drop j) ((m : Int) + 1)) (c + n.length)
 | 0, j, P, hj, hb => by
  have : n.drop j = [] := List.drop_eq_nil_of_le (by omega)
  rw [this]
  refine ⟨lp.stop ?_, by rw [show c + n.length = c + j by omega]; exact hb⟩
  unfold p_impl_indexOf_b1
  simp only [Int.toNat_natCast, ← hn]
  rw [decide_eq_false (show ¬ ((j : Int) < (n.length : Int)) by omega)]; rfl
 | r + 1, j, P, hj, hb => by
  have hjn : j < n.length := by omega
  have hd : n.drop j = nth n j :: n.drop (j + 1) := by rw [nth_eq n j hjn]; exact List.drop_eq_getElem_cons hjn
  have hP1 := hb.1
  have step : p_impl_indexOf_b1 names (Q, (m : Int)) (P, (j : Int)) = some (.inl (addT P (nth n j) ((m : Int) + 1), ((j + 1 : Nat) : Int))) := by
   unfold p_impl_indexOf_b1
   simp only [Int.toNat_natCast, ← hn, dlt hjn, cond_true, gd.yes (ixN hjn)]
   rcases e_IndexFunc1 P (nth n j) (by omega) with ⟨k, hk, he, hno, hf⟩ | ⟨hno, hf⟩
   ·have hl := hb.2 _ (nth_mem hk)
    rw [hf]
    simp only [bd_some]
    rw [decide_eq_false (show ¬ ((k : Int) < 0) by omega)]
    rw [cond_false, gd.yes (ixN hk)]
    simp only [Int.toNat_natCast]
    rw [gd.yes (by unfold I64; omega), gd.yes (by unfold room; omega), gd.yes (by unfold I64; omega), addT_some _ hk he hno]
    rfl
   ·rw [hf]
    simp only [bd_some]
    rw [decide_eq_true (show ((-1 : Int) < 0) by omega)]
    have e1 : nth (P ++ [(nth n j, ([] : List Int))]) P.length = (nth n j, []) := nth_append_new
    simp only [cond_true, e1, List.nil_append, List.length_nil]
    rw [gd.yes (by unfold room; omega), gd.yes (by unfold ix; simp; omega), gd.yes (by unfold I64; omega), gd.yes (by unfold room; omega), gd.yes (by unfold I64; omega), addT_none _ hno]
    simp
  rw [lp.step step, hd, addN_cons]
  exact e_tags names Q m hm c n hn hc r (j + 1) _ (by omega) (by rw [← Nat.add_assoc]; exact bnd_addT hb _ _)
theorem e_posts (names : List (List Tag)) (hN : names.length ≤ 4194304) (hs : sumN names.length (fun i => (nth names i).length) ≤ 4194304) : ∀ m, m ≤ names.length → bnd (postsF names m) (sumN m fun i => (nth names i).length) ∧ lp (p_impl_indexOf_b0 names) (([] : List Post), (0 : Int)) = lp (p_impl_indexOf_b0 names) (postsF names m, (m : Int))
 | 0, _ => ⟨⟨by simp [postsF], fun p hp => by simp [postsF] at hp⟩, rfl⟩
 | m + 1, hm => by
  obtain ⟨b, e⟩ := e_posts names hN hs m (by omega)
  have hmn : m < names.length := by omega
  have hle : sumN m (fun i => (nth names i).length) + (nth names m).length ≤ sumN names.length (fun i => (nth names i).length) := sumN_lt hmn
  obtain ⟨t1, t2⟩ := e_tags names (postsF names m) m (by omega) _ (nth names m) rfl (by omega) (nth names m).length 0 (postsF names m) (by omega) b
  rw [List.drop_zero] at t1 t2
  refine ⟨t2, ?_⟩
  rw [e, lp.step (s' := (postsF names (m + 1), ((m + 1 : Nat) : Int)))]
  rw [postsF_succ]
  unfold p_impl_indexOf_b0
  rw [show ((0 : Nat) : Int) = 0 from rfl] at t1
  rw [dlt hmn, cond_true, gd.yes (ixN hmn), bd.yes t1]
  rw [gd.yes (by unfold I64; omega), addI]
theorem e_indexOf (names : List (List Tag)) (hN : names.length ≤ 4194304) (hs : sumN names.length (fun i => (nth names i).length) ≤ 4194304) : p_impl_indexOf names = some (indexP names) := by
 have hn : ∀ n ∈ names, n.length ≤ 4194304 := fun n h => by
  obtain ⟨i, hi, rfl⟩ := List.mem_iff_getElem.1 h
  have := sumN_get (f := fun i => (nth names i).length) hi
  simp only [nth_eq names i hi] at this
  omega
 obtain ⟨b, e⟩ := e_posts names hN hs names.length (Nat.le_refl _)
 unfold p_impl_indexOf
 rw [e_impl_cloneNames names hN hn]
 simp only [bd_some]
 rw [e, lp.stop (e := postsF names names.length) (by
  unfold p_impl_indexOf_b0
  rw [decide_eq_false (show ¬ ((names.length : Int) < (names.length : Int)) by omega)]; rfl)]
 simp only [bd_some]
 have hl := b.1
 unfold p_slices_SortFunc_Post_Post_indexOf_2 sortP
 rw [gd.yes (show room (postsF names names.length).length by unfold room; omega), gd.yes (postsF_nodup names _)]
 rfl
def textK (n : List Tag) : Nat → ByteArray
 | 0 => ⟨#[]⟩
 | m + 1 => (((if 0 < m then textK n m ++ ⟨#[44]⟩ else textK n m) ++ (nth n m).1) ++ ⟨#[61]⟩) ++ (nth n m).2
def textN (n : List Tag) : ByteArray := textK n n.length
theorem textK_size (n : List Tag) : ∀ m, (textK n m).size ≤ 2 * m + sumN m fun i => (nth n i).1.size + (nth n i).2.size
 | 0 => Nat.zero_le _
 | m + 1 => by
  have ih := textK_size n m
  show ((((if 0 < m then textK n m ++ ⟨#[44]⟩ else textK n m) ++ (nth n m).1) ++ ⟨#[61]⟩) ++ (nth n m).2).size ≤ 2 * (m + 1) + (sumN m (fun i => (nth n i).1.size + (nth n i).2.size) + ((nth n m).1.size + (nth n m).2.size))
  have e1 : ((⟨#[61]⟩ : ByteArray)).size = 1 := rfl
  have e2 : ((⟨#[44]⟩ : ByteArray)).size = 1 := rfl
  split
  ·simp only [ByteArray.size_append, e1, e2]; omega
  ·simp only [ByteArray.size_append, e1]; omega
theorem textK_pos {n : List Tag} {m : Nat} (h : 0 < m) : textK n (m + 1) = (((textK n m ++ ⟨#[44]⟩) ++ (nth n m).1) ++ ⟨#[61]⟩) ++ (nth n m).2 := by
 show (((if 0 < m then textK n m ++ ⟨#[44]⟩ else textK n m) ++ (nth n m).1) ++ ⟨#[61]⟩) ++ (nth n m).2 = _
 rw [if_pos h]
theorem textK_neg {n : List Tag} {m : Nat} (h : ¬ 0 < m) : textK n (m + 1) = ((textK n m ++ (nth n m).1) ++ ⟨#[61]⟩) ++ (nth n m).2 := by
 show (((if 0 < m then textK n m ++ ⟨#[44]⟩ else textK n m) ++ (nth n m).1) ++ ⟨#[61]⟩) ++ (nth n m).2 = _
 rw [if_neg h]
theorem w_name (n : List Tag) : Wt.w n = n.length + sumN n.length fun i => (nth n i).1.size + (nth n i).2.size := rfl
theorem e_spec_l3Text (n : List Tag) (hw : Wt.w n ≤ 4194304) : p_spec_l3Text n = some (textN n) := by
 rw [w_name] at hw
 unfold p_spec_l3Text textN
 have e44 : ((⟨#[44]⟩ : ByteArray)).size = 1 := rfl
 have e61 : ((⟨#[61]⟩ : ByteArray)).size = 1 := rfl
 rw [show ((⟨#[]⟩ : ByteArray), (0 : Int)) = (textK n 0, ((0 : Nat) : Int)) from rfl, lp_for (fun k => (textK n k, (k : Int))) n.length (textK n n.length) (fun m hm => by
  have h1 := textK_size n m
  have h2 : (sumN m fun i => (nth n i).1.size + (nth n i).2.size) + ((nth n m).1.size + (nth n m).2.size) ≤ sumN n.length fun i => (nth n i).1.size + (nth n i).2.size := sumN_lt (f := fun i => (nth n i).1.size + (nth n i).2.size) hm
  unfold p_spec_l3Text_b0
  rw [dlt hm, cond_true]
  by_cases h0 : 0 < m
  ·rw [decide_eq_true (show (0 : Int) < (m : Int) by omega), cond_true]
   rw [gd.yes (by simp only [room, e44]; omega), gd.yes (ixN hm), gd.yes (by simp only [room, ByteArray.size_append, e44, Int.toNat_natCast]; omega), gd.yes (by simp only [room, ByteArray.size_append, e44, e61, Int.toNat_natCast]; omega), gd.yes (by simp only [room, ByteArray.size_append, e44, e61, Int.toNat_natCast]; omega), gd.yes (by unfold I64; omega), addI]
   rw [textK_pos h0]
   rfl
  ·rw [decide_eq_false (show ¬ (0 : Int) < (m : Int) by omega), cond_false]
   rw [gd.yes (ixN hm), gd.yes (by simp only [room, Int.toNat_natCast]; omega), gd.yes (by simp only [room, ByteArray.size_append, e61, Int.toNat_natCast]; omega), gd.yes (by simp only [room, ByteArray.size_append, e61, Int.toNat_natCast]; omega), gd.yes (by unfold I64; omega), addI]
   rw [textK_neg h0]
   rfl) (by unfold p_spec_l3Text_b0; rw [decide_eq_false (show ¬ ((n.length : Int) < (n.length : Int)) by omega)]; rfl)]
 rfl
def oneB (t : Tag) : Prop := t.1.size = 1 ∧ t.2.size = 1
theorem tagB_one {t : Tag} (h : tagB t = true) : oneB t := by
 unfold tagB at h
 simp only [Bool.and_eq_true, decide_eq_true_eq] at h
 exact ⟨h.1, h.2.1⟩
theorem nameOk_tags {n : List Tag} (h : nameOk n = true) : ∀ t ∈ n, tagB t = true := by
 intro t ht
 unfold nameOk at h
 simp only [Bool.and_eq_true] at h
 obtain ⟨i, hi, rfl⟩ := List.mem_iff_getElem.1 ht
 have := allN_iff.1 h.1 i hi
 unfold nameBad at this
 simp only [Bool.or_eq_false_iff] at this
 rw [← nth_eq n i hi]
 simpa using this.1
theorem nameOk_len {n : List Tag} (h : nameOk n = true) : 1 ≤ n.length ∧ n.length ≤ 3 := by
 unfold nameOk inn at h
 simp only [Bool.and_eq_true, decide_eq_true_eq] at h
 omega
def kb (t : Tag) : UInt8 := sb t.1 0
def vb (t : Tag) : UInt8 := sb t.2 0
def bytesT : List Tag → List UInt8
 | [] => []
 | [t] => [kb t, 61, vb t]
 | t :: u :: r => kb t :: 61 :: vb t :: 44 :: bytesT (u :: r)
theorem bytesT_snoc (l : List Tag) (t : Tag) : bytesT (l ++ [t]) = if l = [] then [kb t, 61, vb t] else bytesT l ++ [44, kb t, 61, vb t] := by
 induction l with
 | nil => rfl
 | cons u l ih =>
  cases l with
  | nil => rfl
  | cons v l =>
   simp only [List.cons_append, bytesT] at ih ⊢
   rw [ih]
   simp
theorem one_bytes {x : ByteArray} (h : x.size = 1) : x.data.toList = [sb x 0] := by
 have := ba_one h
 generalize sb x 0 = c at *
 subst this; rfl
theorem textK_bytes (n : List Tag) (h1 : ∀ t ∈ n, oneB t) : ∀ m, m ≤ n.length → (textK n m).data.toList = bytesT (n.take m)
 | 0, _ => rfl
 | m + 1, hm => by
  have hmn : m < n.length := by omega
  have ih := textK_bytes n h1 m (by omega)
  obtain ⟨o1, o2⟩ := h1 _ (nth_mem hmn)
  rw [take_succ_nth hmn, bytesT_snoc]
  unfold textK
  have e1 := one_bytes o1
  have e2 := one_bytes o2
  by_cases h0 : 0 < m
  ·have hne : n.take m ≠ [] := fun e => by have := congrArg List.length e; rw [List.length_take, List.length_nil] at this; omega
   rw [if_pos h0, if_neg hne]
   simp only [ByteArray.data_append, Array.toList_append, ih, e1, e2]
   simp [kb, vb]
  ·have hm0 : m = 0 := by omega
   subst hm0
   simp only [ByteArray.data_append, Array.toList_append, e1, e2]
   simp [textK, kb, vb]
theorem tag_ext {t u : Tag} (h1 : oneB t) (h2 : oneB u) (hk : kb t = kb u) (hv : vb t = vb u) : t = u := by
 have a1 := ba_one h1.1
 have a2 := ba_one h1.2
 have b1 := ba_one h2.1
 have b2 := ba_one h2.2
 refine Prod.ext ?_ ?_
 ·rw [a1, b1]; unfold kb at hk; rw [hk]
 ·rw [a2, b2]; unfold vb at hv; rw [hv]
theorem bytesT_inj : ∀ {a b : List Tag}, (∀ t ∈ a, oneB t) → (∀ t ∈ b, oneB t) → bytesT a = bytesT b → a = b
 | [], [], _, _, _ => rfl
 | [], [t], _, _, h => by simp [bytesT] at h
 | [], t :: u :: r, _, _, h => by simp [bytesT] at h
 | [t], [], _, _, h => by simp [bytesT] at h
 | t :: u :: r, [], _, _, h => by simp [bytesT] at h
 | [t], [u], ha, hb, h => by
  simp only [bytesT, List.cons.injEq, and_true, true_and] at h
  rw [tag_ext (ha t (by simp)) (hb u (by simp)) h.1 h.2]
 | [t], u :: v :: r, _, _, h => by simp [bytesT] at h
 | t :: u :: r, [v], _, _, h => by simp [bytesT] at h
 | t :: u :: r, v :: w :: q, ha, hb, h => by
  simp only [bytesT, List.cons.injEq, true_and] at h
  rw [tag_ext (ha t (by simp)) (hb v (by simp)) h.1 h.2.1, bytesT_inj (a := u :: r) (b := w :: q) (fun x hx => ha x (List.mem_cons_of_mem _ hx)) (fun x hx => hb x (List.mem_cons_of_mem _ hx)) h.2.2]
theorem textN_inj {a b : List Tag} (ha : ∀ t ∈ a, oneB t) (hb : ∀ t ∈ b, oneB t) (h : textN a = textN b) : a = b := by
 have e1 := textK_bytes a ha a.length (Nat.le_refl _)
 have e2 := textK_bytes b hb b.length (Nat.le_refl _)
 rw [List.take_length] at e1 e2
 refine bytesT_inj ha hb ?_
 rw [← e1, ← e2]
 show (textN a).data.toList = (textN b).data.toList
 rw [h]
theorem text_eq {a b : List Tag} (ha : nameOk a = true) (hb : nameOk b = true) : decide (textN a = textN b) = decide (a = b) := by
 by_cases h : a = b
 ·subst h; simp
 ·have : textN a ≠ textN b := fun e => h (textN_inj (fun t ht => tagB_one (nameOk_tags ha t ht)) (fun t ht => tagB_one (nameOk_tags hb t ht)) e)
  simp [h, this]
def idsN (names : List (List Tag)) (t : Tag) : Nat → List Int
 | 0 => []
 | m + 1 => idsN names t m ++ (if hasT (nth names m) t then [(m : Int) + 1] else [])
theorem idsN_succ (names : List (List Tag)) (t : Tag) (m : Nat) : idsN names t (m + 1) = idsN names t m ++ (if hasT (nth names m) t then [(m : Int) + 1] else []) := rfl
theorem idsN_len (names : List (List Tag)) (t : Tag) : ∀ m, (idsN names t m).length ≤ m
 | 0 => Nat.le_refl _
 | m + 1 => by
  have := idsN_len names t m
  rw [idsN_succ]
  split <;> simp <;> omega
theorem e_spec_l11Ids (names : List (List Tag)) (t : Tag) (h1 : names.length ≤ 4194304) (h2 : ∀ n ∈ names, n.length ≤ 4194304) : p_spec_l11Ids names t = some (idsN names t names.length) := by
 unfold p_spec_l11Ids
 rw [show (([] : List Int), (0 : Int)) = (idsN names t 0, ((0 : Nat) : Int)) from rfl, lp_for (fun k => (idsN names t k, (k : Int))) names.length (idsN names t names.length) (fun m hm => by
  have hl := h2 _ (nth_mem hm)
  have hi := idsN_len names t m
  unfold p_spec_l11Ids_b0
  rw [dlt hm, cond_true, gd.yes (ixN hm)]
  simp only [Int.toNat_natCast]
  rw [bd.yes (e_spec_l3Has (nth names m) t (by unfold maxLen; omega))]
  cases hc : hasT (nth names m) t with
  | true =>
   rw [cond_true, gd.yes (by unfold I64; omega), gd.yes (by unfold room; omega), idsN_succ, if_pos hc, addI]
  | false =>
   rw [cond_false, gd.yes (by unfold I64; omega), addI, idsN_succ, if_neg (by rw [hc]; simp), List.append_nil]) (by
  unfold p_spec_l11Ids_b0; rw [decide_eq_false (show ¬ ((names.length : Int) < (names.length : Int)) by omega)]; rfl)]
 rfl
def idsAt : List Post → Tag → List Int
 | [], _ => []
 | p :: P, t => if p.1 = t then p.2 else idsAt P t
theorem idsAt_addT (P : List Post) (t : Tag) (i : Int) (u : Tag) : idsAt (addT P t i) u = if u = t then idsAt P u ++ [i] else idsAt P u := by
 induction P with
 | nil =>
  unfold addT idsAt
  by_cases h : t = u
  ·subst h; simp
  ·have h' : ¬ u = t := fun e => h e.symm
   simp [h, h', idsAt]
 | cons p P ih =>
  unfold addT
  by_cases hp : p.1 = t
  ·rw [if_pos hp]
   by_cases hu : u = t
   ·subst hu; simp [idsAt, hp]
   ·have : ¬ p.1 = u := fun e => hu (e ▸ hp)
    simp [idsAt, this, hu]
  ·rw [if_neg hp]
   by_cases hu : p.1 = u
   ·have : ¬ u = t := fun e => hp (hu.trans e)
    simp [idsAt, hu, this]
   ·simp only [idsAt, if_neg hu, ih]
theorem idsAt_addN (n : List Tag) (i : Int) (u : Tag) : ∀ {P : List Post}, n.Nodup → idsAt (addN P n i) u = if hasT n u then idsAt P u ++ [i] else idsAt P u := by
 induction n with
 | nil => intro P _; rfl
 | cons t n ih =>
  intro P hn
  rw [List.nodup_cons] at hn
  rw [addN_cons, ih hn.2, idsAt_addT]
  have hc : hasT (t :: n) u = (decide (t = u) || hasT n u) := rfl
  rw [hc]
  by_cases h1 : u = t
  ·subst h1
   rw [hasT_no hn.1]; simp
  ·have h2 : ¬ t = u := fun e => h1 e.symm
   simp [h1, h2]
def dist (names : List (List Tag)) : Prop := ∀ n ∈ names, n.Nodup
theorem idsAt_posts {names : List (List Tag)} (hd : dist names) (u : Tag) : ∀ m, m ≤ names.length → idsAt (postsF names m) u = idsN names u m
 | 0, _ => rfl
 | m + 1, hm => by
  rw [postsF_succ, idsAt_addN _ _ _ (hd _ (nth_mem (show m < names.length by omega))), idsAt_posts hd u m (by omega)]
  rw [idsN_succ]
  cases h : hasT (nth names m) u with
  | true => simp
  | false => simp
theorem idsAt_mem {P : List Post} (hn : (P.map (·.1)).Nodup) {p : Post} (hp : p ∈ P) : idsAt P p.1 = p.2 := by
 induction P with
 | nil => cases hp
 | cons q P ih =>
  rw [List.map_cons, List.nodup_cons] at hn
  rcases List.mem_cons.1 hp with rfl | hp
  ·simp [idsAt]
  ·have : ¬ q.1 = p.1 := fun e => hn.1 (e ▸ List.mem_map_of_mem hp)
   simp only [idsAt, if_neg this]
   exact ih hn.2 hp
theorem idsAt_some {P : List Post} {t : Tag} (h : idsAt P t ≠ []) : ∃ p ∈ P, p.1 = t := by
 induction P with
 | nil => exact absurd rfl h
 | cons q P ih =>
  by_cases e : q.1 = t
  ·exact ⟨q, List.mem_cons_self .., e⟩
  ·simp only [idsAt, if_neg e] at h
   obtain ⟨p, hp, h1⟩ := ih h
   exact ⟨p, List.mem_cons_of_mem _ hp, h1⟩
theorem addT_ne {P : List Post} (h : ∀ p ∈ P, p.2 ≠ []) (t : Tag) (i : Int) : ∀ p ∈ addT P t i, p.2 ≠ [] := by
 induction P with
 | nil => intro p hp; simp [addT] at hp; subst hp; simp
 | cons q P ih =>
  intro p hp
  unfold addT at hp
  split at hp
  ·rcases List.mem_cons.1 hp with rfl | hp
   ·simp
   ·exact h p (List.mem_cons_of_mem _ hp)
  ·rcases List.mem_cons.1 hp with rfl | hp
   ·exact h p (List.mem_cons_self ..)
   ·exact ih (fun r hr => h r (List.mem_cons_of_mem _ hr)) p hp
theorem addN_ne (n : List Tag) (i : Int) : ∀ {P : List Post}, (∀ p ∈ P, p.2 ≠ []) → ∀ p ∈ addN P n i, p.2 ≠ [] := by
 induction n with
 | nil => intro P h; exact h
 | cons t n ih => intro P h; rw [addN_cons]; exact ih (addT_ne h t i)
theorem posts_ne (names : List (List Tag)) : ∀ m, ∀ p ∈ postsF names m, p.2 ≠ []
 | 0 => fun p hp => by cases hp
 | m + 1 => by rw [postsF_succ]; exact addN_ne _ _ (posts_ne names m)
def sumL : List Post → Nat
 | [] => 0
 | p :: P => p.2.length + sumL P
theorem sumL_append (P Q : List Post) : sumL (P ++ Q) = sumL P + sumL Q := by
 induction P with
 | nil => simp [sumL]
 | cons p P ih => simp only [List.cons_append, sumL, ih]; omega
theorem sumL_perm {P Q : List Post} (h : P.Perm Q) : sumL P = sumL Q := by
 induction h with
 | nil => rfl
 | cons x _ ih => simp only [sumL, ih]
 | swap x y l => simp only [sumL]; omega
 | trans _ _ h1 h2 => exact h1.trans h2
theorem sumL_addT (P : List Post) (t : Tag) (i : Int) : sumL (addT P t i) = sumL P + 1 := by
 induction P with
 | nil => rfl
 | cons p P ih =>
  unfold addT
  split
  ·simp only [sumL, List.length_append, List.length_cons, List.length_nil]; omega
  ·simp only [sumL, ih]; omega
theorem sumL_addN (n : List Tag) (i : Int) : ∀ (P : List Post), sumL (addN P n i) = sumL P + n.length := by
 induction n with
 | nil => intro P; rfl
 | cons t n ih => intro P; rw [addN_cons, ih, sumL_addT, List.length_cons]; omega
theorem sumL_posts (names : List (List Tag)) : ∀ m, sumL (postsF names m) = sumN m fun i => (nth names i).length
 | 0 => rfl
 | m + 1 => by
  rw [postsF_succ, sumL_addN, sumL_posts names m]; rfl
structure Canon (names : List (List Tag)) (C : List Post) : Prop where
 ord : C.Pairwise fun x y => ltTag x.1 y.1 = true
 ids : ∀ p ∈ C, p.2 = idsN names p.1 names.length ∧ p.2 ≠ []
 all : ∀ t, idsN names t names.length ≠ [] → ∃ p ∈ C, p.1 = t
theorem canon_posts {names : List (List Tag)} (hd : dist names) : Canon names (indexP names).2 := by
 have hn := postsF_nodup names names.length
 have hp := List.mergeSort_perm (postsF names names.length) leP
 have hs : ((postsF names names.length).mergeSort leP).Pairwise fun x y => leP x y = true := List.pairwise_mergeSort (fun a b c h1 h2 => by
  simp only [leP, Bool.not_eq_true'] at *; exact ltTag_nt h2 h1) (fun a b => by
  simp only [leP, Bool.or_eq_true, Bool.not_eq_true']
  cases h : ltTag b.1 a.1 with
  | false => exact .inl rfl
  | true => exact .inr (ltTag_asym h)) _
 have hn2 : (((postsF names names.length).mergeSort leP).map (·.1)).Nodup := (hp.map _).nodup_iff.2 hn
 refine ⟨?_, fun p hp' => ?_, fun t ht => ?_⟩
 ·show ((postsF names names.length).mergeSort leP).Pairwise _
  have hne : ((postsF names names.length).mergeSort leP).Pairwise fun x y => x.1 ≠ y.1 := by
   unfold List.Nodup at hn2
   rwa [List.pairwise_map] at hn2
  refine (hs.and hne).imp ?_
  intro x y h
  have h1 := h.1
  simp only [leP, Bool.not_eq_true'] at h1
  cases hc : ltTag x.1 y.1 with
  | true => rfl
  | false => exact absurd (ltTag_anti hc h1) h.2
 ·have hm : p ∈ postsF names names.length := hp.mem_iff.1 hp'
  exact ⟨by rw [← idsAt_posts hd p.1 _ (Nat.le_refl _), idsAt_mem hn hm], posts_ne names _ p hm⟩
 ·rw [← idsAt_posts hd t _ (Nat.le_refl _)] at ht
  obtain ⟨p, h1, h2⟩ := idsAt_some ht
  exact ⟨p, hp.mem_iff.2 h1, h2⟩
theorem canon_eq {names : List (List Tag)} {C D : List Post} (hc : Canon names C) (hd : Canon names D) : C = D := by
 have nd : ∀ {E : List Post}, Canon names E → E.Nodup := fun h => h.ord.imp fun {a b} k e => by subst e; rw [ltTag_irr] at k; cases k
 have sub : ∀ {E F : List Post}, Canon names E → Canon names F → ∀ p ∈ E, p ∈ F := fun {E F} hE hF p hp => by
  obtain ⟨e1, e2⟩ := hE.ids p hp
  obtain ⟨q, hq, e3⟩ := hF.all p.1 (e1 ▸ e2)
  have e4 := (hF.ids q hq).1
  have : q = p := Prod.ext e3 (by rw [e4, e3, e1])
  rwa [← this]
 have hperm : C.Perm D := (List.perm_ext_iff_of_nodup (nd hc) (nd hd)).2 fun p => ⟨sub hc hd p, sub hd hc p⟩
 refine List.Perm.eq_of_pairwise (le := fun x y => ltTag x.1 y.1 = true) ?_ hc.ord hd.ord hperm
 intro a b _ _ h1 h2
 have := ltTag_asym h1
 rw [h2] at this; cases this
theorem sub_sum : ∀ {C A : List Post}, A.Nodup → (∀ p ∈ A, p ∈ C) → sumL A ≤ sumL C
 | [], A, _, h => by
  have : A = [] := List.eq_nil_iff_forall_not_mem.2 fun p hp => by cases h p hp
  rw [this]; exact Nat.le_refl _
 | c :: C, A, hn, h => by
  by_cases hc : c ∈ A
  ·obtain ⟨A1, A2, rfl⟩ := List.append_of_mem hc
   have hn' := hn
   rw [List.nodup_append] at hn
   obtain ⟨n1, n2, n3⟩ := hn
   rw [List.nodup_cons] at n2
   have hnd : (A1 ++ A2).Nodup := by
    rw [List.nodup_append]
    exact ⟨n1, n2.2, fun a ha b hb => n3 a ha b (List.mem_cons_of_mem _ hb)⟩
   have ih := sub_sum (C := C) (A := A1 ++ A2) hnd (fun p hp => by
    have hpc : p ≠ c := fun e => by
     subst e
     rcases List.mem_append.1 hp with q | q
     ·exact n3 p q p (List.mem_cons_self ..) rfl
     ·exact n2.1 q
    have hp' : p ∈ A1 ++ c :: A2 := by
     rcases List.mem_append.1 hp with q | q
     ·exact List.mem_append_left _ q
     ·exact List.mem_append_right _ (List.mem_cons_of_mem _ q)
    rcases List.mem_cons.1 (h p hp') with e | q
    ·exact absurd e hpc
    ·exact q)
   rw [sumL_append] at ih ⊢
   simp only [sumL] at ih ⊢
   omega
  ·have ih := sub_sum (C := C) (A := A) hn (fun p hp => by
    rcases List.mem_cons.1 (h p hp) with e | q
    ·exact absurd (e ▸ hp) hc
    ·exact q)
   simp only [sumL]; omega
theorem canon_of_sum {names : List (List Tag)} {C P : List Post} (hc : Canon names C) (ord : P.Pairwise fun x y => ltTag x.1 y.1 = true) (ids : ∀ p ∈ P, p.2 = idsN names p.1 names.length ∧ p.2 ≠ []) (hs : sumL P = sumL C) : P = C := by
 have nd : P.Nodup := ord.imp fun {a b} k e => by subst e; rw [ltTag_irr] at k; cases k
 have sub : ∀ p ∈ P, p ∈ C := fun p hp => by
  obtain ⟨e1, e2⟩ := ids p hp
  obtain ⟨q, hq, e3⟩ := hc.all p.1 (e1 ▸ e2)
  have : q = p := Prod.ext e3 (by rw [(hc.ids q hq).1, e3, e1])
  rwa [← this]
 refine canon_eq ⟨ord, ids, fun t ht => ?_⟩ hc
 obtain ⟨c, h1, h2⟩ := hc.all t ht
 by_cases hm : c ∈ P
 ·exact ⟨c, hm, h2⟩
 ·have := sub_sum (C := C) (A := c :: P) (List.nodup_cons.2 ⟨hm, nd⟩) (fun p hp => by
   rcases List.mem_cons.1 hp with rfl | hp
   ·exact h1
   ·exact sub p hp)
  simp only [sumL] at this
  have h3 : 0 < c.2.length := List.length_pos_iff.2 (hc.ids c h1).2
  omega
theorem nameOk_nodup {n : List Tag} (h : nameOk n = true) : n.Nodup := by
 unfold nameOk at h
 simp only [Bool.and_eq_true] at h
 have hk : ∀ i, i < n.length → nameBad n i = false := allN_iff.1 h.1
 have step : ∀ i, i + 1 < n.length → sless (nth n i).1 (nth n (i + 1)).1 = true := fun i hi => by
  have := hk (i + 1) hi
  unfold nameBad at this
  simp only [Nat.zero_lt_succ, decide_true, Bool.true_and, Nat.add_sub_cancel, Bool.or_eq_false_iff, Bool.not_eq_false'] at this
  exact this.2
 have lt : ∀ d i, i + d + 1 < n.length → sless (nth n i).1 (nth n (i + d + 1)).1 = true := by
  intro d
  induction d with
  | zero => intro i hi; exact step i hi
  | succ d ih => intro i hi; exact sless_trans (ih i (by omega)) (step (i + d + 1) (by omega))
 unfold List.Nodup
 rw [List.pairwise_iff_getElem]
 intro i j hi hj hij e
 obtain ⟨d, rfl⟩ : ∃ d, j = i + d + 1 := ⟨j - i - 1, by omega⟩
 have := lt d i hj
 rw [nth_eq n i hi, nth_eq n _ hj, ← e, sless_irr] at this
 cases this
theorem w_names {names : List (List Tag)} (hw : Wt.w names ≤ 4194304) : names.length ≤ 4194304 ∧ (∀ n ∈ names, n.length ≤ 4194304 ∧ Wt.w n ≤ 4194304) ∧ sumN names.length (fun i => (nth names i).length) ≤ 4194304 := by
 have e : Wt.w names = names.length + sumN names.length fun i => Wt.w (nth names i) := rfl
 rw [e] at hw
 refine ⟨by omega, fun n hn => ?_, ?_⟩
 ·obtain ⟨i, hi, rfl⟩ := List.mem_iff_getElem.1 hn
  have h1 := sumN_get (f := fun i => Wt.w (nth names i)) hi
  simp only [nth_eq names i hi] at h1
  have h2 : names[i].length ≤ Wt.w names[i] := wL_le
  omega
 ·have : sumN names.length (fun i => (nth names i).length) ≤ sumN names.length (fun i => Wt.w (nth names i)) := sumN_mono fun i _ => wL_le
  omega
theorem e_Equal_Tag (a b : List Tag) (ha : a.length ≤ 4194304) : p_slices_Equal_Tag_Tag a b = some (decide (a = b)) := by
 unfold p_slices_Equal_Tag_Tag
 by_cases hl : a.length = b.length
 ·have hl2 : (a.length : Int) = (b.length : Int) := by omega
  rw [decide_eq_true hl2, Bool.not_true, cond_false]
  refine eq_loop hl (fun k hk => ?_) ?_
  ·have hk2 : k < b.length := by omega
   unfold p_slices_Equal_Tag_Tag_b0
   simp only [dlt hk, cond_true, gd.yes (ixN hk), gd.yes (ixN hk2), Int.toNat_natCast, gd.yes (i64S hk (show a.length ≤ 9223372036854775807 by omega))]
   by_cases h : nth a k = nth b k <;> simp [h]
  ·unfold p_slices_Equal_Tag_Tag_b0; simp
 ·have h2 : ¬ (a.length : Int) = (b.length : Int) := by omega
  have h3 : a ≠ b := fun e => hl (by rw [e])
  simp [h2, h3]
theorem e_Equal_int (a b : List Int) (ha : a.length ≤ maxLen) : p_slices_Equal_int_int a b = some (decide (a = b)) := by
 have ha : a.length ≤ 9223372036854775807 := ha
 unfold p_slices_Equal_int_int
 by_cases hl : a.length = b.length
 ·have hl2 : (a.length : Int) = (b.length : Int) := by omega
  rw [decide_eq_true hl2, Bool.not_true, cond_false]
  refine eq_loop hl (fun k hk => ?_) ?_
  ·have hk2 : k < b.length := by omega
   unfold p_slices_Equal_int_int_b0
   simp only [dlt hk, cond_true, gd.yes (ixN hk), gd.yes (ixN hk2), Int.toNat_natCast, gd.yes (i64S hk ha)]
   by_cases h : nth a k = nth b k <;> simp [h]
  ·unfold p_slices_Equal_int_int_b0; simp
 ·have h2 : ¬ (a.length : Int) = (b.length : Int) := by omega
  have h3 : a ≠ b := fun e => hl (by rw [e])
  simp [h2, h3]
theorem e_spec_l11Same (a b : List Int) (ha : a.length ≤ maxLen) : p_spec_l11Same a b = some (decide (a = b)) := by
 have ha : a.length ≤ 9223372036854775807 := ha
 unfold p_spec_l11Same
 by_cases hl : a.length = b.length
 ·have hl2 : (a.length : Int) = (b.length : Int) := by omega
  rw [decide_eq_true hl2, Bool.not_true, cond_false]
  refine eq_loop hl (fun k hk => ?_) ?_
  ·have hk2 : k < b.length := by omega
   unfold p_spec_l11Same_b0
   simp only [dlt hk, cond_true, gd.yes (ixN hk), gd.yes (ixN hk2), Int.toNat_natCast, gd.yes (i64S hk ha)]
   by_cases h : nth a k = nth b k <;> simp [h]
  ·unfold p_spec_l11Same_b0; simp
 ·have h2 : ¬ (a.length : Int) = (b.length : Int) := by omega
  have h3 : a ≠ b := fun e => hl (by rw [e])
  simp [h2, h3]
theorem e_spec_l11Less (a b : Tag) : p_spec_l11Less a b = some (ltTag a b) := by
 unfold p_spec_l11Less ltTag
 cases sless a.1 b.1 with
 | true => rfl
 | false => by_cases h : a.1 = b.1 <;> simp [h]
theorem numberOf_none {q : Option (Unit ⊕ Int)} (h : q = some (.inl ())) : (bd (bd q <| sw (fun _ => some (-1 : Int)) fun q => some q) fun r3 => gd (I64 (r3 + 1)) <| some (r3 + 1)) = some 0 := by
 subst h
 have e : (bd (some (.inl ()) : Option (Unit ⊕ Int)) <| sw (fun _ => some (-1 : Int)) fun q => some q) = some (-1) := rfl
 rw [bd.yes e, gd.yes (by unfold I64; omega)]; rfl
theorem numberOf_some {q : Option (Unit ⊕ Int)} {k : Nat} (hk : k ≤ 4194304) (h : q = some (.inr (k : Int))) : (bd (bd q <| sw (fun _ => some (-1 : Int)) fun q => some q) fun r3 => gd (I64 (r3 + 1)) <| some (r3 + 1)) = some ((k : Int) + 1) := by
 subst h
 have e : (bd (some (.inr (k : Int)) : Option (Unit ⊕ Int)) <| sw (fun _ => some (-1 : Int)) fun q => some q) = some (k : Int) := rfl
 rw [bd.yes e, gd.yes (by unfold I64; omega)]
theorem e_numberOf (names : List (List Tag)) (n : List Tag) (h1 : names.length ≤ 4194304) (h2 : ∀ n ∈ names, n.length ≤ 4194304) :
  (∃ k : Nat, k < names.length ∧ nth names k = n ∧ (∀ j, j < k → nth names j ≠ n) ∧ p_impl_numberOf names n = some ((k : Int) + 1)) ∨ ((∀ k, k < names.length → nth names k ≠ n) ∧ p_impl_numberOf names n = some 0) := by
 have hr : ∀ k, k < names.length → p_slices_IndexFunc_Tag_Tag_numberOf_1_b0 names n (k : Int) = some (if decide (nth names k = n) then .inr (.inr (k : Int)) else .inl ((k + 1 : Nat) : Int)) := fun k hk => by
  unfold p_slices_IndexFunc_Tag_Tag_numberOf_1_b0 p_impl_numberOf_1
  rw [dlt hk, cond_true, gd.yes (ixN hk)]
  simp only [Int.toNat_natCast]
  rw [bd.yes (e_Equal_Tag _ n (h2 _ (nth_mem hk))), bd_some, gd.yes (i64S hk (show names.length ≤ 9223372036854775807 by omega)), addI]
  by_cases h : nth names k = n <;> simp [h]
 unfold p_impl_numberOf p_slices_IndexFunc_Tag_Tag_numberOf_1
 rcases lp_scan (body := p_slices_IndexFunc_Tag_Tag_numberOf_1_b0 names n) (fun k => (k : Int)) names.length (fun k => decide (nth names k = n)) (.inl ()) (fun k => .inr (k : Int)) (fun k hk _ h => by rw [hr k hk, h]; rfl) (fun k hk _ h => by rw [hr k hk, if_pos h]) (fun _ => by unfold p_slices_IndexFunc_Tag_Tag_numberOf_1_b0; simp) with ⟨h1, h2⟩ | ⟨h1, k, hk, hb, hn, h2⟩
 ·refine .inr ⟨fun k hk => of_decide_eq_false (allN_iff.1 h1 k hk), ?_⟩
  exact numberOf_none h2
 ·refine .inl ⟨k, hk, of_decide_eq_true hb, fun j hj => of_decide_eq_false (hn j hj), ?_⟩
  exact numberOf_some (by omega) h2
def nmBad (names : List (List Tag)) (k : Nat) : Bool := !nameOk (nth names k) || !allN k (fun j => decide (nth names j = nth names k))
def namesB (names : List (List Tag)) : Bool := allN names.length (nmBad names) && decide ((names.length : Int) ≤ 6)
theorem e_impl_namesOk (names : List (List Tag)) (hw : Wt.w names ≤ 4194304) : p_impl_namesOk names = some (namesB names) := by
 obtain ⟨h1, h2, _⟩ := w_names hw
 have hr : ∀ k, k < names.length → p_impl_namesOk_b0 names (k : Int) = some (if nmBad names k then .inr (.inr false) else .inl ((k + 1 : Nat) : Int)) := fun k hk => by
  have hl := (h2 _ (nth_mem hk)).1
  unfold p_impl_namesOk_b0 nmBad
  rw [dlt hk, cond_true, gd.yes (ixN hk)]
  simp only [Int.toNat_natCast]
  rw [e_impl_NameOk _ (by unfold maxLen; omega), bd_some]
  cases nameOk (nth names k) with
  | false => rfl
  | true =>
   rw [Bool.not_true, cond_false]
   rcases e_numberOf names (nth names k) h1 (fun n hn => (h2 n hn).1) with ⟨j, hj, e1, e2, e3⟩ | ⟨e2, e3⟩
   ·rw [bd.yes e3, gd.yes (by unfold I64; omega), bd_some, gd.yes (by unfold I64; omega), addI]
    by_cases hjk : j = k
    ·subst hjk
     have : allN j (fun i => decide (nth names i = nth names j)) = true := allN_iff.2 fun i hi => decide_eq_false (e2 i hi)
     rw [this]; simp
    ·have hlt : j < k := by
      rcases Nat.lt_trichotomy j k with h | h | h
      ·exact h
      ·exact absurd h hjk
      ·exact absurd rfl (e2 k h)
     have : allN k (fun i => decide (nth names i = nth names k)) = false := allN_no hlt (decide_eq_true e1)
     rw [this, decide_eq_false (show ¬ (((j + 1 : Nat) : Int) = (k : Int) + 1) by omega)]; simp
   ·exact absurd rfl (e2 k hk)
 unfold p_impl_namesOk namesB
 rcases lp_scan (body := p_impl_namesOk_b0 names) (fun k => (k : Int)) names.length (nmBad names) (.inl ()) (fun _ => .inr false) (fun k hk _ h => by rw [hr k hk, h]; rfl) (fun k hk _ h => by rw [hr k hk, h]; rfl) (fun _ => by unfold p_impl_namesOk_b0; simp) with ⟨h1, h2⟩ | ⟨h1, k, _, _, _, h2⟩
 ·rw [show (lp (p_impl_namesOk_b0 names) 0) = _ from h2, h1]; simp [sw]
 ·rw [show (lp (p_impl_namesOk_b0 names) 0) = _ from h2, h1]; simp [sw]
theorem e_eqPost (p q : Post) (hp : p.2.length ≤ maxLen) : p_impl_IndexOk_1 p q = some (decide (p = q)) := by
 unfold p_impl_IndexOk_1
 by_cases h : p.1 = q.1
 ·rw [decide_eq_true h, cond_true, bd.yes (e_Equal_int _ _ hp), bd_some]
  by_cases h2 : p.2 = q.2
  ·have : p = q := Prod.ext h h2
   rw [decide_eq_true h2, decide_eq_true this]
  ·have : p ≠ q := fun e => h2 (by rw [e])
   rw [decide_eq_false h2, decide_eq_false this]
 ·have : p ≠ q := fun e => h (by rw [e])
  rw [decide_eq_false h, cond_false, bd_some, decide_eq_false this]
theorem e_EqualPosts (P Q : List Post) (hP : P.length ≤ maxLen) (hi : ∀ k, k < P.length → (nth P k).2.length ≤ maxLen) : p_slices_EqualFunc_Post_Post_Post_Post_IndexOk_1 P Q = some (decide (P = Q)) := by
 have hP' : P.length ≤ 9223372036854775807 := hP
 unfold p_slices_EqualFunc_Post_Post_Post_Post_IndexOk_1
 by_cases hl : P.length = Q.length
 ·have hl2 : (P.length : Int) = (Q.length : Int) := by omega
  rw [decide_eq_true hl2, Bool.not_true, cond_false]
  refine eq_loop hl (fun k hk => ?_) ?_
  ·have hk2 : k < Q.length := by omega
   unfold p_slices_EqualFunc_Post_Post_Post_Post_IndexOk_1_b0
   rw [dlt hk, cond_true, gd.yes (ixN hk), gd.yes (ixN hk2)]
   simp only [Int.toNat_natCast]
   rw [bd.yes (e_eqPost _ _ (hi k hk)), gd.yes (i64S hk hP'), addI]
   by_cases h : nth P k = nth Q k <;> simp [h]
  ·unfold p_slices_EqualFunc_Post_Post_Post_Post_IndexOk_1_b0; simp
 ·have h2 : ¬ (P.length : Int) = (Q.length : Int) := by omega
  have h3 : P ≠ Q := fun e => hl (by rw [e])
  simp [h2, h3]
def indexB (x : Index) : Bool := namesB x.1 && decide (x.2 = (indexP x.1).2)
def postsW (P : List Post) : Prop := P.length ≤ 4194304 ∧ ∀ k, k < P.length → (nth P k).2.length ≤ 4194304
theorem e_impl_IndexOk (x : Index) (hw : Wt.w x.1 ≤ 4194304) (hp : postsW x.2) : p_impl_IndexOk x = some (indexB x) := by
 obtain ⟨h1, h2, h3⟩ := w_names hw
 unfold p_impl_IndexOk indexB
 rw [bd.yes (e_impl_namesOk x.1 hw)]
 cases namesB x.1 with
 | false => rfl
 | true =>
  have hp1 := hp.1
  rw [cond_true, bd.yes (e_indexOf x.1 h1 h3), bd.yes (e_EqualPosts x.2 _ (by unfold maxLen; omega) (fun k hk => by have := hp.2 k hk; unfold maxLen; omega)), Bool.true_and]
def locBad (names : List (List Tag)) (P : List Post) (k : Nat) : Bool := decide ((nth P k).2.length = 0) || (!decide ((nth P k).2 = idsN names (nth P k).1 names.length) || (decide (0 < k) && !ltTag (nth P (k - 1)).1 (nth P k).1))
theorem nmBad_ok {names : List (List Tag)} {k : Nat} (h : nmBad names k = false) : nameOk (nth names k) = true := by
 unfold nmBad at h
 simp only [Bool.or_eq_false_iff, Bool.not_eq_false'] at h
 exact h.1
theorem e_spec_names (x : Index) (hw : Wt.w x.1 ≤ 4194304) : lp (p_spec_IndexOk_b0 x) (0, 0) = some (if allN x.1.length (nmBad x.1) then .inl ((sumN x.1.length fun i => (nth x.1 i).length : Nat) : Int) else .inr false) := by
 obtain ⟨h1, h2, h3⟩ := w_names hw
 have inner : ∀ k, k < x.1.length → (∀ i, i < k → nmBad x.1 i = false) → nameOk (nth x.1 k) = true → ∀ s : Int, lp (p_spec_IndexOk_b1 x (s, (k : Int))) 0 = some (if allN k (fun j => decide (nth x.1 j = nth x.1 k)) then .inl () else .inr false) := fun k hk hbs hok s => by
  have hr : ∀ j, j < k → p_spec_IndexOk_b1 x (s, (k : Int)) (j : Int) = some (if decide (nth x.1 j = nth x.1 k) then .inr (.inr false) else .inl ((j + 1 : Nat) : Int)) := fun j hj => by
   have hj2 : j < x.1.length := by omega
   unfold p_spec_IndexOk_b1
   rw [decide_eq_true (show ((j : Int) < (k : Int)) by omega), cond_true]
   simp only [Int.toNat_natCast]
   rw [bd.yes (e_spec_l3Text _ (h2 _ (nth_mem hk)).2), gd.yes (ixN hj2), bd.yes (e_spec_l3Text _ (h2 _ (nth_mem hj2)).2), text_eq hok (nmBad_ok (hbs j hj)), gd.yes (by unfold I64; omega), addI]
   by_cases h : nth x.1 j = nth x.1 k
   ·rw [decide_eq_true h, decide_eq_true h.symm]; rfl
   ·rw [decide_eq_false h, decide_eq_false (fun e => h e.symm)]; rfl
  rcases lp_scan (body := p_spec_IndexOk_b1 x (s, (k : Int))) (fun j => (j : Int)) k (fun j => decide (nth x.1 j = nth x.1 k)) (.inl ()) (fun _ => .inr false) (fun j hj _ h => by rw [hr j hj, h]; rfl) (fun j hj _ h => by rw [hr j hj, h]; rfl) (fun _ => by unfold p_spec_IndexOk_b1; rw [decide_eq_false (show ¬ ((k : Int) < (k : Int)) by omega)]; rfl) with ⟨h1, h2⟩ | ⟨h1, _, _, _, _, h2⟩
  ·rw [show (lp (p_spec_IndexOk_b1 x (s, (k : Int))) 0) = _ from h2, h1]; rfl
  ·rw [show (lp (p_spec_IndexOk_b1 x (s, (k : Int))) 0) = _ from h2, h1]; rfl
 have step : ∀ k, k < x.1.length → (∀ i, i < k → nmBad x.1 i = false) → p_spec_IndexOk_b0 x (((sumN k fun i => (nth x.1 i).length : Nat) : Int), (k : Int)) = some (if nmBad x.1 k then .inr (.inr false) else .inl (((sumN (k + 1) fun i => (nth x.1 i).length : Nat) : Int), ((k + 1 : Nat) : Int))) := fun k hk hbs => by
  have hl := (h2 _ (nth_mem hk)).1
  have hs : (sumN k fun i => (nth x.1 i).length) + (nth x.1 k).length ≤ sumN x.1.length fun i => (nth x.1 i).length := sumN_lt (f := fun i => (nth x.1 i).length) hk
  unfold p_spec_IndexOk_b0 nmBad
  rw [dlt hk, cond_true, gd.yes (ixN hk)]
  simp only [Int.toNat_natCast]
  rw [bd.yes (e_spec_NameOk _ (by unfold maxLen; omega))]
  cases hok : nameOk (nth x.1 k) with
  | false => rfl
  | true =>
   rw [Bool.not_true, cond_false, bd.yes (inner k hk hbs hok _)]
   cases allN k (fun j => decide (nth x.1 j = nth x.1 k)) with
   | false => rfl
   | true =>
    show gd (I64 _) (gd (I64 _) (some _)) = _
    rw [gd.yes (by unfold I64; omega), gd.yes (by unfold I64; omega), addI]
    have : ((sumN k fun i => (nth x.1 i).length : Nat) : Int) + ((nth x.1 k).length : Int) = ((sumN (k + 1) fun i => (nth x.1 i).length : Nat) : Int) := by
     show _ = ((((sumN k fun i => (nth x.1 i).length) + (nth x.1 k).length : Nat)) : Int)
     omega
    rw [this]; rfl
 rcases lp_scan (body := p_spec_IndexOk_b0 x) (fun k => (((sumN k fun i => (nth x.1 i).length : Nat) : Int), (k : Int))) x.1.length (nmBad x.1) (.inl ((sumN x.1.length fun i => (nth x.1 i).length : Nat) : Int)) (fun _ => .inr false) (fun k hk hb h => by rw [step k hk hb, h]; rfl) (fun k hk hb h => by rw [step k hk hb, h]; rfl) (fun _ => by unfold p_spec_IndexOk_b0; rw [decide_eq_false (show ¬ ((x.1.length : Int) < (x.1.length : Int)) by omega)]; rfl) with ⟨h1, h2⟩ | ⟨h1, _, _, _, _, h2⟩
 ·rw [show (lp (p_spec_IndexOk_b0 x) (0, 0)) = _ from h2, h1]; rfl
 ·rw [show (lp (p_spec_IndexOk_b0 x) (0, 0)) = _ from h2, h1]; rfl
theorem e_spec_posts (x : Index) (hw : Wt.w x.1 ≤ 4194304) (hp : postsW x.2) (n0 : Nat) (hn0 : n0 ≤ 4194304) : lp (p_spec_IndexOk_b2 x) ((n0 : Int), 0) = some (if allN x.2.length (locBad x.1 x.2) then .inl ((n0 : Int) - ((sumN x.2.length fun i => (nth x.2 i).2.length : Nat) : Int)) else .inr false) := by
 obtain ⟨h1, h2, h3⟩ := w_names hw
 obtain ⟨p1, p2⟩ := hp
 have hs : ∀ k, k ≤ x.2.length → (sumN k fun i => (nth x.2 i).2.length) ≤ k * 4194304 := by
  intro k
  induction k with
  | zero => intro _; exact Nat.le_refl _
  | succ k ih =>
   intro hk
   have := ih (by omega)
   have h4 := p2 k (by omega)
   show (sumN k fun i => (nth x.2 i).2.length) + (nth x.2 k).2.length ≤ _
   omega
 have step : ∀ k, k < x.2.length → p_spec_IndexOk_b2 x ((n0 : Int) - ((sumN k fun i => (nth x.2 i).2.length : Nat) : Int), (k : Int)) = some (if locBad x.1 x.2 k then .inr (.inr false) else .inl ((n0 : Int) - ((sumN (k + 1) fun i => (nth x.2 i).2.length : Nat) : Int), ((k + 1 : Nat) : Int))) := fun k hk => by
  have hl := p2 k hk
  have hsk := hs k (by omega)
  have hkk : k * 4194304 ≤ 4194304 * 4194304 := Nat.mul_le_mul_right _ (by omega)
  have es : ((n0 : Int) - ((sumN k fun i => (nth x.2 i).2.length : Nat) : Int)) - ((nth x.2 k).2.length : Int) = (n0 : Int) - ((sumN (k + 1) fun i => (nth x.2 i).2.length : Nat) : Int) := by
   show _ = (n0 : Int) - ((((sumN k fun i => (nth x.2 i).2.length) + (nth x.2 k).2.length : Nat)) : Int)
   omega
  have fin : (gd (I64 (((n0 : Int) - ((sumN k fun i => (nth x.2 i).2.length : Nat) : Int)) - ((nth x.2 k).2.length : Int))) <| gd (I64 ((k : Int) + 1)) <| (some (.inl (((n0 : Int) - ((sumN k fun i => (nth x.2 i).2.length : Nat) : Int)) - ((nth x.2 k).2.length : Int), (k : Int) + 1)) : Option ((Int × Int) ⊕ (Int ⊕ Bool)))) = some (.inl ((n0 : Int) - ((sumN (k + 1) fun i => (nth x.2 i).2.length : Nat) : Int), ((k + 1 : Nat) : Int))) := by
   rw [gd.yes (by unfold I64; omega), gd.yes (by unfold I64; omega), es, addI]
  unfold p_spec_IndexOk_b2 locBad
  rw [dlt hk, cond_true, gd.yes (ixN hk)]
  simp only [Int.toNat_natCast]
  by_cases hz : (nth x.2 k).2.length = 0
  ·rw [decide_eq_true (show (((nth x.2 k).2.length : Int) = 0) by omega), decide_eq_true hz]; rfl
  ·rw [decide_eq_false (show ¬ (((nth x.2 k).2.length : Int) = 0) by omega), decide_eq_false hz, cond_false, bd.yes (e_spec_l11Ids x.1 _ h1 (fun n hn => (h2 n hn).1)), bd.yes (e_spec_l11Same _ _ (by unfold maxLen; omega))]
   by_cases hi : (nth x.2 k).2 = idsN x.1 (nth x.2 k).1 x.1.length
   ·rw [decide_eq_true hi, Bool.not_true, cond_false]
    by_cases h0 : 0 < k
    ·have e1 : (k : Int) - 1 = ((k - 1 : Nat) : Int) := by omega
     rw [decide_eq_true (show (0 : Int) < (k : Int) by omega), cond_true, gd.yes (by unfold I64; omega), e1, gd.yes (ixN (show k - 1 < x.2.length by omega))]
     simp only [Int.toNat_natCast]
     rw [bd.yes (e_spec_l11Less _ _), decide_eq_true h0]
     cases ltTag (nth x.2 (k - 1)).1 (nth x.2 k).1 with
     | false => rfl
     | true => exact fin
    ·rw [decide_eq_false (show ¬ (0 : Int) < (k : Int) by omega), cond_false, decide_eq_false h0]
     exact fin
   ·rw [decide_eq_false hi]; rfl
 have e0 : ((n0 : Int), (0 : Int)) = ((n0 : Int) - ((sumN 0 fun i => (nth x.2 i).2.length : Nat) : Int), ((0 : Nat) : Int)) := by
  show _ = ((n0 : Int) - ((0 : Nat) : Int), ((0 : Nat) : Int)); simp
 rcases lp_scan (body := p_spec_IndexOk_b2 x) (fun k => ((n0 : Int) - ((sumN k fun i => (nth x.2 i).2.length : Nat) : Int), (k : Int))) x.2.length (locBad x.1 x.2) (.inl ((n0 : Int) - ((sumN x.2.length fun i => (nth x.2 i).2.length : Nat) : Int))) (fun _ => .inr false) (fun k hk hb h => by rw [step k hk, h]; rfl) (fun k hk hb h => by rw [step k hk, h]; rfl) (fun _ => by unfold p_spec_IndexOk_b2; rw [decide_eq_false (show ¬ ((x.2.length : Int) < (x.2.length : Int)) by omega)]; rfl) with ⟨h1, h2⟩ | ⟨h1, _, _, _, _, h2⟩
 ·rw [e0, h2, h1]; rfl
 ·rw [e0, h2, h1]; rfl
theorem sumL_N (P : List Post) : sumL P = sumN P.length fun i => (nth P i).2.length := by
 have : ∀ m, m ≤ P.length → sumL (P.take m) = sumN m fun i => (nth P i).2.length := by
  intro m
  induction m with
  | zero => intro _; rfl
  | succ m ih =>
   intro hm
   rw [take_succ_nth (by omega), sumL_append, ih (by omega)]
   show _ + ((nth P m).2.length + 0) = _
   rfl
 have h := this P.length (Nat.le_refl _)
 rwa [List.take_length] at h
theorem names_dist {names : List (List Tag)} (h : allN names.length (nmBad names) = true) : dist names := fun n hn => by
 obtain ⟨i, hi, rfl⟩ := List.mem_iff_getElem.1 hn
 rw [← nth_eq names i hi]
 exact nameOk_nodup (nmBad_ok (allN_iff.1 h i hi))
theorem e_spec_IndexOk (x : Index) (hw : Wt.w x.1 ≤ 4194304) (hp : postsW x.2) : p_spec_IndexOk x = some (indexB x) := by
 obtain ⟨h1, h2, h3⟩ := w_names hw
 unfold p_spec_IndexOk indexB namesB
 by_cases h6 : 6 < x.1.length
 ·rw [decide_eq_true (show (6 : Int) < (x.1.length : Int) by omega), cond_true, decide_eq_false (show ¬ ((x.1.length : Int) ≤ 6) by omega), Bool.and_false, Bool.false_and]
 ·rw [decide_eq_false (show ¬ (6 : Int) < (x.1.length : Int) by omega), cond_false, decide_eq_true (show ((x.1.length : Int) ≤ 6) by omega), Bool.and_true, bd.yes (e_spec_names x hw)]
  cases hall : allN x.1.length (nmBad x.1) with
  | false => rfl
  | true =>
   have hd := names_dist hall
   have hC := canon_posts hd
   show bd (lp (p_spec_IndexOk_b2 x) ((sumN x.1.length fun i => (nth x.1 i).length : Nat), 0)) _ = _
   rw [bd.yes (e_spec_posts x hw hp _ h3), Bool.true_and]
   have hsC : sumL (indexP x.1).2 = sumN x.1.length fun i => (nth x.1 i).length := by
    rw [← sumL_posts]
    exact sumL_perm (List.mergeSort_perm _ _)
   have hsP := sumL_N x.2
   cases hloc : allN x.2.length (locBad x.1 x.2) with
   | false =>
    have hne : x.2 ≠ (indexP x.1).2 := fun e => by
     have : allN x.2.length (locBad x.1 x.2) = true := allN_iff.2 fun k hk => by
      have hm : nth x.2 k ∈ (indexP x.1).2 := e ▸ nth_mem hk
      obtain ⟨i1, i2⟩ := hC.ids _ hm
      unfold locBad
      rw [decide_eq_false (fun h0 => i2 (List.eq_nil_of_length_eq_zero h0)), decide_eq_true i1]
      by_cases h0 : 0 < k
      ·have ho := hC.ord
       rw [← e, List.pairwise_iff_getElem] at ho
       have := ho (k - 1) k (by omega) hk (by omega)
       rw [← nth_eq x.2 (k - 1) (by omega), ← nth_eq x.2 k hk] at this
       rw [this]; simp
      ·rw [decide_eq_false h0]; rfl
     rw [hloc] at this; cases this
    rw [decide_eq_false hne]; rfl
   | true =>
    have hk := allN_iff.1 hloc
    have adj : ∀ i, i + 1 < x.2.length → ltTag (nth x.2 i).1 (nth x.2 (i + 1)).1 = true := fun i hi => by
     have := hk (i + 1) hi
     unfold locBad at this
     simp only [Nat.zero_lt_succ, decide_true, Bool.true_and, Nat.add_sub_cancel, Bool.or_eq_false_iff, Bool.not_eq_false'] at this
     exact this.2.2
    have lt : ∀ d i, i + d + 1 < x.2.length → ltTag (nth x.2 i).1 (nth x.2 (i + d + 1)).1 = true := by
     intro d
     induction d with
     | zero => intro i hi; exact adj i hi
     | succ d ih => intro i hi; exact ltTag_trans (ih i (by omega)) (adj (i + d + 1) (by omega))
    have ord : x.2.Pairwise fun a b => ltTag a.1 b.1 = true := by
     rw [List.pairwise_iff_getElem]
     intro i j hi hj hij
     obtain ⟨d, rfl⟩ : ∃ d, j = i + d + 1 := ⟨j - i - 1, by omega⟩
     have := lt d i hj
     rwa [nth_eq x.2 i hi, nth_eq x.2 _ hj] at this
    have ids : ∀ p ∈ x.2, p.2 = idsN x.1 p.1 x.1.length ∧ p.2 ≠ [] := fun p hp' => by
     obtain ⟨i, hi, rfl⟩ := List.mem_iff_getElem.1 hp'
     have := hk i hi
     unfold locBad at this
     simp only [Bool.or_eq_false_iff, decide_eq_false_iff_not, Bool.not_eq_false', decide_eq_true_eq] at this
     rw [nth_eq x.2 i hi] at this
     exact ⟨this.2.1, fun e => this.1 (by rw [e]; rfl)⟩
    show some (decide (((sumN x.1.length fun i => (nth x.1 i).length : Nat) : Int) - ((sumN x.2.length fun i => (nth x.2 i).2.length : Nat) : Int) = 0)) = _
    by_cases hE : x.2 = (indexP x.1).2
    ·have : sumL x.2 = sumL (indexP x.1).2 := by rw [← hE]
     rw [decide_eq_true hE, decide_eq_true (by omega)]
    ·have hne : sumL x.2 ≠ sumL (indexP x.1).2 := fun e => hE (canon_of_sum hC ord ids e)
     rw [decide_eq_false hE, decide_eq_false (by omega)]
def postP (x : Index) (t : Tag) : List Int := if indexB x then idsN x.1 t x.1.length else []
theorem indexB_canon {x : Index} (h : indexB x = true) : Canon x.1 x.2 ∧ allN x.1.length (nmBad x.1) = true ∧ x.1.length ≤ 6 ∧ x.2 = (indexP x.1).2 := by
 unfold indexB namesB at h
 simp only [Bool.and_eq_true, decide_eq_true_eq] at h
 obtain ⟨⟨h1, h2⟩, h3⟩ := h
 exact ⟨by rw [h3]; exact canon_posts (names_dist h1), h1, by omega, h3⟩
def tg (i j : Nat) : Tag := (s1 (97 + (i : Int)), s1 (112 + (j : Int)))
def cell (names : List (List Tag)) (i j : Nat) : List Post := if 0 < (idsN names (tg i j) names.length).length then [(tg i j, idsN names (tg i j) names.length)] else []
def rowE (names : List (List Tag)) (i : Nat) : Nat → List Post
 | 0 => []
 | j + 1 => rowE names i j ++ cell names i j
def allE (names : List (List Tag)) : Nat → List Post
 | 0 => []
 | i + 1 => allE names i ++ rowE names i 11
theorem rowE_succ (names : List (List Tag)) (i j : Nat) : rowE names i (j + 1) = rowE names i j ++ cell names i j := rfl
theorem allE_succ (names : List (List Tag)) (i : Nat) : allE names (i + 1) = allE names i ++ rowE names i 11 := rfl
theorem cell_len (names : List (List Tag)) (i j : Nat) : (cell names i j).length ≤ 1 := by unfold cell; split <;> simp
theorem rowE_len (names : List (List Tag)) (i : Nat) : ∀ j, (rowE names i j).length ≤ j
 | 0 => Nat.le_refl _
 | j + 1 => by
  have := rowE_len names i j
  have := cell_len names i j
  rw [rowE_succ, List.length_append]; omega
theorem allE_len (names : List (List Tag)) : ∀ i, (allE names i).length ≤ 11 * i
 | 0 => Nat.le_refl _
 | i + 1 => by
  have := allE_len names i
  have := rowE_len names i 11
  rw [allE_succ, List.length_append]; omega
theorem cell_mem {names : List (List Tag)} {i j : Nat} {p : Post} (h : p ∈ cell names i j) : p = (tg i j, idsN names (tg i j) names.length) ∧ idsN names (tg i j) names.length ≠ [] := by
 unfold cell at h
 split at h
 next hp => exact ⟨List.mem_singleton.1 h, fun e => by rw [e] at hp; cases hp⟩
 next => cases h
theorem rowE_mem {names : List (List Tag)} {i : Nat} {p : Post} : ∀ {j}, p ∈ rowE names i j → ∃ k, k < j ∧ p ∈ cell names i k
 | 0, h => nomatch h
 | j + 1, h => by
  rcases List.mem_append.1 h with h | h
  ·obtain ⟨k, hk, h⟩ := rowE_mem h
   exact ⟨k, by omega, h⟩
  ·exact ⟨j, Nat.lt_succ_self _, h⟩
theorem allE_mem {names : List (List Tag)} {p : Post} : ∀ {i}, p ∈ allE names i → ∃ k j, k < i ∧ j < 11 ∧ p ∈ cell names k j
 | 0, h => nomatch h
 | i + 1, h => by
  rcases List.mem_append.1 h with h | h
  ·obtain ⟨k, j, hk, hj, h⟩ := allE_mem h
   exact ⟨k, j, by omega, hj, h⟩
  ·obtain ⟨j, hj, h⟩ := rowE_mem h
   exact ⟨i, j, Nat.lt_succ_self _, hj, h⟩
theorem rowE_in {names : List (List Tag)} {i k : Nat} {p : Post} (h : p ∈ cell names i k) : ∀ {j}, k < j → p ∈ rowE names i j
 | 0, hk => absurd hk (Nat.not_lt_zero _)
 | j + 1, hk => by
  rw [rowE_succ, List.mem_append]
  by_cases e : k = j
  ·subst e; exact .inr h
  ·exact .inl (rowE_in h (by omega))
theorem allE_in {names : List (List Tag)} {i j : Nat} {p : Post} (hj : j < 11) (h : p ∈ cell names i j) : ∀ {n}, i < n → p ∈ allE names n
 | 0, hk => absurd hk (Nat.not_lt_zero _)
 | n + 1, hk => by
  rw [allE_succ, List.mem_append]
  by_cases e : i = n
  ·subst e; exact .inr (rowE_in h hj)
  ·exact .inl (allE_in hj h (by omega))
theorem s1_lt {a b : Nat} (h : a < b) (hb : b < 128) : sless (s1 (a : Int)) (s1 (b : Int)) = true := by
 show sless ⟨#[UInt8.ofNat a]⟩ ⟨#[UInt8.ofNat b]⟩ = true
 rw [sl_one, decide_eq_true_eq, UInt8.lt_iff_toNat_lt]
 simp only [UInt8.toNat_ofNat']
 omega
theorem tg_lt {i j i' j' : Nat} (_ : i < 4) (_ : j < 11) (hi' : i' < 4) (hj' : j' < 11) (h : i < i' ∨ (i = i' ∧ j < j')) : ltTag (tg i j) (tg i' j') = true := by
 unfold ltTag tg
 rcases h with h | ⟨rfl, h⟩
 ·have := s1_lt (show 97 + i < 97 + i' by omega) (by omega)
  rw [show ((97 + i : Nat) : Int) = 97 + (i : Int) by omega, show ((97 + i' : Nat) : Int) = 97 + (i' : Int) by omega] at this
  rw [this]; rfl
 ·have := s1_lt (show 112 + j < 112 + j' by omega) (by omega)
  rw [show ((112 + j : Nat) : Int) = 112 + (j : Int) by omega, show ((112 + j' : Nat) : Int) = 112 + (j' : Int) by omega] at this
  rw [this]; simp
theorem rowE_ord {names : List (List Tag)} {i : Nat} (hi : i < 4) : ∀ {j}, j ≤ 11 → (rowE names i j).Pairwise fun x y => ltTag x.1 y.1 = true
 | 0, _ => List.Pairwise.nil
 | j + 1, hj => by
  rw [rowE_succ, List.pairwise_append]
  refine ⟨rowE_ord hi (by omega), ?_, fun p hp q hq => ?_⟩
  ·unfold cell; split <;> simp
  ·obtain ⟨k, hk, hp⟩ := rowE_mem hp
   rw [(cell_mem hp).1, (cell_mem hq).1]
   exact tg_lt hi (by omega) hi (by omega) (.inr ⟨rfl, hk⟩)
theorem allE_ord {names : List (List Tag)} : ∀ {i}, i ≤ 4 → (allE names i).Pairwise fun x y => ltTag x.1 y.1 = true
 | 0, _ => List.Pairwise.nil
 | i + 1, hi => by
  rw [allE_succ, List.pairwise_append]
  refine ⟨allE_ord (by omega), rowE_ord (by omega) (Nat.le_refl _), fun p hp q hq => ?_⟩
  obtain ⟨k, j, hk, hj, hp⟩ := allE_mem hp
  obtain ⟨j', hj', hq⟩ := rowE_mem hq
  rw [(cell_mem hp).1, (cell_mem hq).1]
  exact tg_lt (by omega) hj (by omega) hj' (.inl hk)
theorem tg_of {t : Tag} (h : tagB t = true) : ∃ i j, i < 4 ∧ j < 11 ∧ t = tg i j := by
 unfold tagB at h
 simp only [Bool.and_eq_true, decide_eq_true_eq, inn] at h
 obtain ⟨h1, h2, ⟨h3, h4⟩, h5, h6⟩ := h
 refine ⟨(sb t.1 0).toNat - 97, (sb t.2 0).toNat - 112, by omega, by omega, ?_⟩
 have e1 : t.1 = s1 (97 + (((sb t.1 0).toNat - 97 : Nat) : Int)) := by
  have : (97 + (((sb t.1 0).toNat - 97 : Nat) : Int)).toNat = (sb t.1 0).toNat := by omega
  unfold s1
  rw [this, UInt8.ofNat_toNat]
  exact ba_one h1
 have e2 : t.2 = s1 (112 + (((sb t.2 0).toNat - 112 : Nat) : Int)) := by
  have : (112 + (((sb t.2 0).toNat - 112 : Nat) : Int)).toNat = (sb t.2 0).toNat := by omega
  unfold s1
  rw [this, UInt8.ofNat_toNat]
  exact ba_one h2
 exact Prod.ext e1 e2
theorem idsN_name {names : List (List Tag)} {t : Tag} : ∀ {m}, idsN names t m ≠ [] → ∃ k, k < m ∧ t ∈ nth names k
 | 0, h => absurd rfl h
 | m + 1, h => by
  rw [idsN_succ] at h
  cases hc : hasT (nth names m) t with
  | true => exact ⟨m, Nat.lt_succ_self _, hasT_iff.1 hc⟩
  | false =>
   rw [if_neg (by rw [hc]; simp), List.append_nil] at h
   obtain ⟨k, hk, h⟩ := idsN_name h
   exact ⟨k, by omega, h⟩
def goodN (names : List (List Tag)) : Prop := ∀ k, k < names.length → nameOk (nth names k) = true
theorem goodN_dist {names : List (List Tag)} (h : goodN names) : dist names := fun n hn => by
 obtain ⟨i, hi, rfl⟩ := List.mem_iff_getElem.1 hn
 rw [← nth_eq names i hi]
 exact nameOk_nodup (h i hi)
theorem canon_all {names : List (List Tag)} (h : goodN names) : Canon names (allE names 4) := by
 refine ⟨allE_ord (Nat.le_refl _), fun p hp => ?_, fun t ht => ?_⟩
 ·obtain ⟨i, j, _, _, hp⟩ := allE_mem hp
  obtain ⟨e1, e2⟩ := cell_mem hp
  rw [e1]; exact ⟨rfl, e2⟩
 ·obtain ⟨k, hk, hm⟩ := idsN_name ht
  obtain ⟨i, j, hi, hj, rfl⟩ := tg_of (nameOk_tags (h k hk) t hm)
  refine ⟨(tg i j, idsN names (tg i j) names.length), allE_in hj ?_ hi, rfl⟩
  unfold cell
  rw [if_pos (List.length_pos_iff.2 ht)]
  exact List.mem_singleton.2 rfl
theorem e_rowE (names : List (List Tag)) (i : Nat) (hi : i < 4) (acc : List Post) (ha : acc.length ≤ 44) (h1 : names.length ≤ 4194304) (h2 : ∀ n ∈ names, n.length ≤ 4194304) : lp (p_spec_l11Of_b1 names (acc, 97 + (i : Int))) (acc, 112) = some (acc ++ rowE names i 11) := by
 have h0 : (acc, (112 : Int)) = (acc ++ rowE names i 0, (112 : Int) + ((0 : Nat) : Int)) := by rw [show rowE names i 0 = [] from rfl, List.append_nil]; rfl
 rw [h0, lp_for (body := p_spec_l11Of_b1 names (acc, 97 + (i : Int))) (fun j => (acc ++ rowE names i j, (112 : Int) + (j : Int))) 11 (acc ++ rowE names i 11) (fun j hj => by
  have hr := rowE_len names i j
  have ea : (112 : Int) + (j : Int) + 1 = 112 + ((j + 1 : Nat) : Int) := by omega
  unfold p_spec_l11Of_b1
  rw [decide_eq_true (show (112 : Int) + (j : Int) ≤ 122 by omega), cond_true, gd.yes (show asc (97 + (i : Int)) by unfold asc; omega), gd.yes (show asc (112 + (j : Int)) by unfold asc; omega), rowE_succ]
  show bd (p_spec_l11Ids names (tg i j)) _ = _
  rw [bd.yes (e_spec_l11Ids names (tg i j) h1 h2)]
  unfold cell
  by_cases hz : 0 < (idsN names (tg i j) names.length).length
  ·rw [decide_eq_true (show (0 : Int) < ((idsN names (tg i j) names.length).length : Int) by omega), cond_true, if_pos hz, gd.yes (by rw [List.length_append]; unfold room; omega), gd.yes (by unfold I32; omega), List.append_assoc, ea]; rfl
  ·rw [decide_eq_false (show ¬ (0 : Int) < ((idsN names (tg i j) names.length).length : Int) by omega), cond_false, if_neg hz, gd.yes (by unfold I32; omega), List.append_nil, ea]) (by
  unfold p_spec_l11Of_b1; rw [decide_eq_false (show ¬ ((112 : Int) + ((11 : Nat) : Int) ≤ 122) by omega)]; rfl)]
theorem e_spec_l11Of {names : List (List Tag)} (hg : goodN names) (h1 : names.length ≤ 4194304) (h2 : ∀ n ∈ names, n.length ≤ 4194304) : p_spec_l11Of names = some (indexP names) := by
 unfold p_spec_l11Of
 have h0 : (([] : List Post), (97 : Int)) = (allE names 0, (97 : Int) + ((0 : Nat) : Int)) := rfl
 rw [h0, bd.yes (lp_for (body := p_spec_l11Of_b0 names) (fun i => (allE names i, (97 : Int) + (i : Int))) 4 (allE names 4) (fun i hi => by
  have hl := allE_len names i
  unfold p_spec_l11Of_b0
  rw [decide_eq_true (show (97 : Int) + (i : Int) ≤ 100 by omega), cond_true, bd.yes (e_rowE names i hi _ (by omega) h1 h2), gd.yes (by unfold I32; omega), allE_succ, show (97 : Int) + (i : Int) + 1 = 97 + ((i + 1 : Nat) : Int) by omega]) (by
  unfold p_spec_l11Of_b0; rw [decide_eq_false (show ¬ ((97 : Int) + ((4 : Nat) : Int) ≤ 100) by omega)]; rfl)), bd.yes (e_spec_l11Names names h1 h2)]
 have : allE names 4 = (indexP names).2 := canon_eq (canon_all hg) (canon_posts (goodN_dist hg))
 rw [this]; rfl
theorem e_l11At (x : Index) (n : List Tag) (hg : goodN x.1) (hn : nameOk n = true) (hw : Wt.w x.1 ≤ 4194304) (hwn : Wt.w n ≤ 4194304) :
  (∃ k : Nat, k < x.1.length ∧ nth x.1 k = n ∧ (∀ j, j < k → nth x.1 j ≠ n) ∧ p_spec_l11At x n = some ((k : Int) + 1)) ∨ ((∀ k, k < x.1.length → nth x.1 k ≠ n) ∧ p_spec_l11At x n = some 0) := by
 obtain ⟨h1, h2, h3⟩ := w_names hw
 have hr : ∀ k, k < x.1.length → p_spec_l11At_b0 x n (k : Int) = some (if decide (nth x.1 k = n) then .inr (.inr ((k + 1 : Nat) : Int)) else .inl ((k + 1 : Nat) : Int)) := fun k hk => by
  unfold p_spec_l11At_b0
  rw [dlt hk, cond_true, gd.yes (ixN hk)]
  simp only [Int.toNat_natCast]
  rw [bd.yes (e_spec_l3Text _ (h2 _ (nth_mem hk)).2), bd.yes (e_spec_l3Text n hwn), text_eq (hg k hk) hn, addI]
  cases decide (nth x.1 k = n) with
  | true => rw [cond_true, gd.yes (by unfold I64; omega)]; rfl
  | false => rw [cond_false, gd.yes (by unfold I64; omega)]; rfl
 unfold p_spec_l11At
 rcases lp_scan (body := p_spec_l11At_b0 x n) (fun k => (k : Int)) x.1.length (fun k => decide (nth x.1 k = n)) (.inl ()) (fun k => .inr ((k + 1 : Nat) : Int)) (fun k hk _ h => by rw [hr k hk, h]; rfl) (fun k hk _ h => by rw [hr k hk, if_pos h]) (fun _ => by unfold p_spec_l11At_b0; rw [decide_eq_false (show ¬ ((x.1.length : Int) < (x.1.length : Int)) by omega)]; rfl) with ⟨a1, a2⟩ | ⟨a1, k, hk, hb, hn, a2⟩
 ·refine .inr ⟨fun k hk => of_decide_eq_false (allN_iff.1 a1 k hk), ?_⟩
  rw [show (lp (p_spec_l11At_b0 x n) 0) = _ from a2]; rfl
 ·refine .inl ⟨k, hk, of_decide_eq_true hb, fun j hj => of_decide_eq_false (hn j hj), ?_⟩
  rw [show (lp (p_spec_l11At_b0 x n) 0) = _ from a2, addI]; rfl
def numP (names : List (List Tag)) (n : List Tag) : Nat → Nat
 | 0 => 0
 | m + 1 => if numP names n m = 0 then (if nth names m = n then m + 1 else 0) else numP names n m
theorem numP_zero {names : List (List Tag)} {n : List Tag} : ∀ {m}, (∀ k, k < m → nth names k ≠ n) → numP names n m = 0
 | 0, _ => rfl
 | m + 1, h => by
  unfold numP
  rw [if_pos (numP_zero fun k hk => h k (by omega)), if_neg (h m (Nat.lt_succ_self _))]
theorem numP_at {names : List (List Tag)} {n : List Tag} {k : Nat} (h1 : nth names k = n) (h2 : ∀ j, j < k → nth names j ≠ n) : ∀ {m}, k < m → numP names n m = k + 1
 | 0, h => absurd h (Nat.not_lt_zero _)
 | m + 1, h => by
  unfold numP
  by_cases e : k = m
  ·subst e
   rw [if_pos (numP_zero h2), if_pos h1]
  ·have := numP_at h1 h2 (m := m) (by omega)
   rw [this, if_neg (by omega)]
def addP (x : Index) (n : List Tag) : Index × Int × Bool :=
  if indexB x && nameOk n then
    (if 0 < numP x.1 n x.1.length then (indexP x.1, (numP x.1 n x.1.length : Int), true)
     else if x.1.length = 6 then (indexP x.1, 0, false)
     else (indexP (x.1 ++ [n]), (x.1.length : Int) + 1, true))
  else (([], []), 0, false)
theorem good_of {x : Index} (h : indexB x = true) : goodN x.1 := fun k hk => nmBad_ok (allN_iff.1 (indexB_canon h).2.1 k hk)
theorem good_snoc {names : List (List Tag)} {n : List Tag} (h : goodN names) (hn : nameOk n = true) : goodN (names ++ [n]) := fun k hk => by
 rw [List.length_append, List.length_singleton] at hk
 by_cases e : k < names.length
 ·rw [nth_eq _ _ (by rw [List.length_append]; omega), List.getElem_append_left e, ← nth_eq names k e]; exact h k e
 ·have : k = names.length := by omega
  subst this
  rw [nth_eq _ _ (by simp)]; simpa using hn
theorem goodN_len {names : List (List Tag)} (h : goodN names) : ∀ n ∈ names, n.length ≤ 3 := fun n hn => by
 obtain ⟨i, hi, rfl⟩ := List.mem_iff_getElem.1 hn
 rw [← nth_eq names i hi]
 exact (nameOk_len (h i hi)).2
theorem sumN_c {f : Nat → Nat} {c : Nat} : ∀ {n}, (∀ i, i < n → f i ≤ c) → sumN n f ≤ n * c
 | 0, _ => Nat.zero_le _
 | n + 1, h => by
  have h1 := sumN_c (n := n) fun i hi => h i (by omega)
  have h2 := h n (Nat.lt_succ_self _)
  show sumN n f + f n ≤ _
  rw [Nat.add_mul]; omega
def newW : World := ((([], []), [], []), ([], [], [], 1))
theorem e_spec_WorldNew : p_spec_WorldNew = some newW := by
 unfold p_spec_WorldNew p_spec_l13New
 rfl
theorem d_of (b : List UInt8) (p : Int) (l : List ByteArray) (hb : b.length ≤ 2000) (h0 : 0 ≤ p) (h1 : p ≤ 1000000) (hl : 1 ≤ l.length) (hl2 : l.length ≤ 1000) :
  ∃ x, p_spec_l6Rd_of (b, p) l = some (x, p + 1) ∧ x ∈ l := by
 obtain ⟨x, e, a, k⟩ := d_pick b p (l.length : Int) hb h0 h1 (by omega)
 have k := k (by omega)
 have hx : x.toNat < l.length := by omega
 refine ⟨nth l x.toNat, ?_, nth_mem hx⟩
 unfold p_spec_l6Rd_of
 rw [bd.yes e, gd.yes (show ix x l.length by unfold ix; omega)]
theorem d_l71Tag (b : List UInt8) (p : Int) (hb : b.length ≤ 2000) (h0 : 0 ≤ p) (h1 : p + 2 ≤ 1000000) :
  ∃ t : Tag, p_spec_l71Tag (b, p) = some (t, p + 2) ∧ t.1.size = 1 ∧ t.2.size = 1 := by
 obtain ⟨x, e1, m1⟩ := d_of b p [(⟨#[97]⟩ : ByteArray), (⟨#[98]⟩ : ByteArray), (⟨#[99]⟩ : ByteArray)] hb h0 (by omega) (by decide) (by decide)
 obtain ⟨y, e2, m2⟩ := d_of b (p + 1) [(⟨#[112]⟩ : ByteArray), (⟨#[113]⟩ : ByteArray), (⟨#[122]⟩ : ByteArray)] hb (by omega) (by omega) (by decide) (by decide)
 refine ⟨(x, y), ?_, ?_, ?_⟩
 ·unfold p_spec_l71Tag
  rw [bd.yes e1, bd.yes e2, show p + 1 + 1 = p + 2 by omega]
 ·simp only [List.mem_cons, List.not_mem_nil, or_false] at m1
  rcases m1 with rfl | rfl | rfl <;> rfl
 ·simp only [List.mem_cons, List.not_mem_nil, or_false] at m2
  rcases m2 with rfl | rfl | rfl <;> rfl
def smallN (n : List Tag) : Prop := n.length ≤ 5 ∧ ∀ t ∈ n, t.1.size ≤ 2 ∧ t.2.size ≤ 2
theorem smallN_snoc {n : List Tag} {t : Tag} (h : n.length ≤ 4) (h2 : ∀ t ∈ n, t.1.size ≤ 2 ∧ t.2.size ≤ 2) (ht : t.1.size ≤ 2 ∧ t.2.size ≤ 2) : smallN (n ++ [t]) :=
 ⟨by rw [List.length_append, List.length_singleton]; omega, fun u hu => by
  rcases List.mem_append.1 hu with hu | hu
  ·exact h2 u hu
  ·rw [List.mem_singleton.1 hu]; exact ht⟩
theorem smallN_set {n : List Tag} {t : Tag} {k : Nat} (h : n.length ≤ 5) (h2 : ∀ t ∈ n, t.1.size ≤ 2 ∧ t.2.size ≤ 2) (ht : t.1.size ≤ 2 ∧ t.2.size ≤ 2) : smallN (n.set k t) :=
 ⟨by rw [List.length_set]; exact h, fun u hu => by
  rcases List.mem_or_eq_of_mem_set hu with hu | rfl
  ·exact h2 u hu
  ·exact ht⟩
theorem d_nameLoop (b : List UInt8) (hb : b.length ≤ 2000) (q : Int) (p : Int) (h0 : 0 ≤ p) (h1 : p + 10 ≤ 1000000) :
  ∃ n p', lp (p_spec_l71Name_b0 (b, q)) (p, ([] : List Tag), 0) = some (p', n) ∧ p ≤ p' ∧ p' ≤ p + 6 ∧ n.length ≤ 3 ∧ ∀ t ∈ n, t.1.size ≤ 2 ∧ t.2.size ≤ 2 := by
 have key : ∀ r : Nat, r ≤ 3 → ∀ (k : Nat), k + r = 3 → ∀ (p1 : Int) (n : List Tag), 0 ≤ p1 → p1 + 2 * r ≤ 1000000 → n.length ≤ k → (∀ t ∈ n, t.1.size ≤ 2 ∧ t.2.size ≤ 2) →
   ∃ n' p', lp (p_spec_l71Name_b0 (b, q)) (p1, n, (k : Int)) = some (p', n') ∧ p1 ≤ p' ∧ p' ≤ p1 + 2 * r ∧ n'.length ≤ 3 ∧ ∀ t ∈ n', t.1.size ≤ 2 ∧ t.2.size ≤ 2 := by
  intro r
  induction r with
  | zero =>
   intro _ k hk p1 n q0 q1 hn ht
   refine ⟨n, p1, lp.stop ?_, by omega, by omega, by omega, ht⟩
   unfold p_spec_l71Name_b0
   have : k = 3 := by omega
   subst this; rfl
  | succ r ih =>
   intro hr k hk p1 n q0 q1 hn ht
   obtain ⟨x, e1, a1, b1⟩ := d_pick b p1 2 hb q0 (by omega) (by decide)
   obtain ⟨y, e2, m2⟩ := d_of b (p1 + 1) [(⟨#[112]⟩ : ByteArray), (⟨#[113]⟩ : ByteArray), (⟨#[122]⟩ : ByteArray)] hb (by omega) (by omega) (by decide) (by decide)
   have hk3 : k < ([(⟨#[97]⟩ : ByteArray), (⟨#[98]⟩ : ByteArray), (⟨#[99]⟩ : ByteArray)] : List ByteArray).length := by show k < 3; omega
   have hy : y.size ≤ 2 := by
    simp only [List.mem_cons, List.not_mem_nil, or_false] at m2
    rcases m2 with rfl | rfl | rfl <;> decide
   have hx : (nth ([(⟨#[97]⟩ : ByteArray), (⟨#[98]⟩ : ByteArray), (⟨#[99]⟩ : ByteArray)] : List ByteArray) k).size ≤ 2 := by
    have := nth_mem hk3
    simp only [List.mem_cons, List.not_mem_nil, or_false] at this
    rcases this with h | h | h <;> rw [h] <;> decide
   by_cases hz : x = 0
   ·have step : p_spec_l71Name_b0 (b, q) (p1, n, (k : Int)) = some (.inl (p1 + 1 + 1, n ++ [(nth ([(⟨#[97]⟩ : ByteArray), (⟨#[98]⟩ : ByteArray), (⟨#[99]⟩ : ByteArray)] : List ByteArray) k, y)], ((k + 1 : Nat) : Int))) := by
     unfold p_spec_l71Name_b0
     rw [dlt hk3, cond_true, gd.yes (ixN hk3), bd.yes e1, decide_eq_true hz, cond_true, bd.yes e2, gd.yes (show room (n.length + 1) by unfold room; omega), gd.yes (show I64 ((k : Int) + 1) by unfold I64; omega), addI]
     rfl
    rw [lp.step step]
    obtain ⟨n', p', g1, g2, g3, g4, g5⟩ := ih (by omega) (k + 1) (by omega) (p1 + 1 + 1) (n ++ [(nth ([(⟨#[97]⟩ : ByteArray), (⟨#[98]⟩ : ByteArray), (⟨#[99]⟩ : ByteArray)] : List ByteArray) k, y)]) (by omega) (by omega) (by rw [List.length_append, List.length_singleton]; omega) (fun u hu => by
     rcases List.mem_append.1 hu with hu | hu
     ·exact ht u hu
     ·rw [List.mem_singleton.1 hu]; exact ⟨hx, hy⟩)
    exact ⟨n', p', g1, by omega, by omega, g4, g5⟩
   ·have step : p_spec_l71Name_b0 (b, q) (p1, n, (k : Int)) = some (.inl (p1 + 1, n, ((k + 1 : Nat) : Int))) := by
     unfold p_spec_l71Name_b0
     rw [dlt hk3, cond_true, gd.yes (ixN hk3), bd.yes e1, decide_eq_false hz, cond_false, gd.yes (show I64 ((k : Int) + 1) by unfold I64; omega), addI]
    rw [lp.step step]
    obtain ⟨n', p', g1, g2, g3, g4, g5⟩ := ih (by omega) (k + 1) (by omega) (p1 + 1) n (by omega) (by omega) (by omega) ht
    exact ⟨n', p', g1, by omega, by omega, g4, g5⟩
 obtain ⟨n', p', g1, g2, g3, g4, g5⟩ := key 3 (Nat.le_refl _) 0 rfl p [] h0 (by omega) (Nat.zero_le _) (fun _ h => nomatch h)
 exact ⟨n', p', g1, g2, by omega, g4, g5⟩
theorem d_l71Name (b : List UInt8) (p : Int) (hb : b.length ≤ 2000) (h0 : 0 ≤ p) (h1 : p + 16 ≤ 1000000) :
  ∃ n p', p_spec_l71Name (b, p) = some (n, p') ∧ p ≤ p' ∧ p' ≤ p + 16 ∧ smallN n := by
 obtain ⟨n, p1, e, a1, a2, hl, ht⟩ := d_nameLoop b hb p p h0 (by omega)
 have fin : ∀ (m : List Tag) (q : Int), 1 ≤ m.length → m.length ≤ 4 → (∀ t ∈ m, t.1.size ≤ 2 ∧ t.2.size ≤ 2) → 0 ≤ q → q + 8 ≤ 1000000 → ∃ n p', (bd (p_spec_l6Rd_pick (b, q) 40) fun r42 => cond (decide (r42.1 = 0)) (bd (p_spec_l71Tag (b, r42.2)) fun r46 => gd (room (m.length + 1)) <| some (m ++ [r46.1], r46.2)) (cond (decide (r42.1 = 1)) (gd (ix 0 m.length) <| bd (p_spec_l6Rd_of (b, r42.2) ([(⟨#[]⟩ : ByteArray), (⟨#[111]⟩ : ByteArray), (⟨#[112, 112]⟩ : ByteArray)] : List ByteArray)) fun r58 => some (m.set 0 (((nth m 0).1), r58.1), r58.2)) (some (m, r42.2)))) = some (n, p') ∧ q ≤ p' ∧ p' ≤ q + 8 ∧ smallN n := by
  intro m q m1 m2 mt q0 q1
  obtain ⟨x, e1, _, _⟩ := d_pick b q 40 hb q0 (by omega) (by decide)
  rw [bd.yes e1]
  by_cases hx : x = 0
  ·obtain ⟨t, e2, s1, s2⟩ := d_l71Tag b (q + 1) hb (by omega) (by omega)
   rw [decide_eq_true hx, cond_true, bd.yes e2, gd.yes (by unfold room; omega)]
   exact ⟨m ++ [t], _, rfl, by omega, by omega, smallN_snoc m2 mt ⟨by omega, by omega⟩⟩
  ·rw [decide_eq_false hx, cond_false]
   by_cases hx1 : x = 1
   ·obtain ⟨y, e2, m3⟩ := d_of b (q + 1) [(⟨#[]⟩ : ByteArray), (⟨#[111]⟩ : ByteArray), (⟨#[112, 112]⟩ : ByteArray)] hb (by omega) (by omega) (by decide) (by decide)
    have hy : y.size ≤ 2 := by
     simp only [List.mem_cons, List.not_mem_nil, or_false] at m3
     rcases m3 with rfl | rfl | rfl <;> decide
    rw [decide_eq_true hx1, cond_true, gd.yes (by unfold ix; omega), bd.yes e2]
    exact ⟨_, _, rfl, by omega, by omega, smallN_set (by omega) mt ⟨(mt _ (nth_mem (by omega))).1, hy⟩⟩
   ·rw [decide_eq_false hx1, cond_false]
    exact ⟨_, _, rfl, by omega, by omega, by omega, mt⟩
 unfold p_spec_l71Name
 rw [bd.yes e]
 by_cases hz : n.length = 0
 ·obtain ⟨t, e2, s1, s2⟩ := d_l71Tag b p1 hb (by omega) (by omega)
  rw [decide_eq_true (show (n.length : Int) = 0 by omega), cond_true, bd.yes e2, gd.yes (show room (n.length + 1) by unfold room; omega)]
  obtain ⟨n', p', g1, g2, g3, g4⟩ := fin (n ++ [t]) (p1 + 2) (by rw [List.length_append, List.length_singleton]; omega) (by rw [List.length_append, List.length_singleton]; omega) (smallN_snoc (by omega) ht ⟨by omega, by omega⟩).2 (by omega) (by omega)
  exact ⟨n', p', g1, by omega, by omega, g4⟩
 ·rw [decide_eq_false (show ¬ (n.length : Int) = 0 by omega), cond_false]
  obtain ⟨n', p', g1, g2, g3, g4⟩ := fin n p1 (by omega) (by omega) ht (by omega) (by omega)
  exact ⟨n', p', g1, by omega, by omega, g4⟩
theorem smallN_w {n : List Tag} (h : smallN n) : Wt.w n ≤ 25 := by
 have := sumN_c (f := fun i => (nth n i).1.size + (nth n i).2.size) (c := 4) (n := n.length) fun i hi => by
  have := h.2 _ (nth_mem hi)
  show (nth n i).1.size + (nth n i).2.size ≤ 4
  omega
 have := h.1
 rw [w_name]; omega
theorem smallN_good {n : List Tag} (h : nameOk n = true) : smallN n :=
 ⟨by have := (nameOk_len h).2; omega, fun t ht => by have := tagB_one (nameOk_tags h t ht); rw [this.1, this.2]; exact ⟨by decide, by decide⟩⟩
theorem smallNs_w {names : List (List Tag)} (h : names.length ≤ 7) (h2 : ∀ n ∈ names, smallN n) : Wt.w names ≤ 4194304 := by
 have := sumN_c (f := fun i => Wt.w (nth names i)) (c := 25) (n := names.length) fun i hi => smallN_w (h2 _ (nth_mem hi))
 have e : Wt.w names = names.length + sumN names.length fun i => Wt.w (nth names i) := rfl
 omega
theorem indexP_nil : indexP [] = (([], []) : Index) := by
 unfold indexP
 show (([] : List (List Tag)), ([] : List Post).mergeSort leP) = _
 rw [List.mergeSort_nil]
theorem list_ext_nth {α : Type} [Inhabited α] {a b : List α} (h : a.length = b.length) (h2 : ∀ k, k < a.length → nth a k = nth b k) : a = b :=
 List.ext_getElem h fun k h1 h3 => by rw [← nth_eq a k h1, ← nth_eq b k h3]; exact h2 k h1
theorem namesB_of {x : Index} (h : indexB x = true) : namesB x.1 = true := by
 unfold indexB at h
 rw [Bool.and_eq_true] at h
 exact h.1
theorem indexB_P {names : List (List Tag)} (h : namesB names = true) : indexB (indexP names) = true := by
 unfold indexB
 rw [show (indexP names).1 = names from rfl, h, decide_eq_true rfl]; rfl
theorem numP_iff (names : List (List Tag)) (n : List Tag) : ∀ m, numP names n m = 0 ↔ ∀ k, k < m → nth names k ≠ n
 | 0 => ⟨fun _ k hk => absurd hk (Nat.not_lt_zero _), fun _ => rfl⟩
 | m + 1 => by
  have ih := numP_iff names n m
  unfold numP
  by_cases h0 : numP names n m = 0
  ·rw [if_pos h0]
   by_cases hm : nth names m = n
   ·rw [if_pos hm]
    exact ⟨fun e => absurd e (Nat.succ_ne_zero _), fun h => absurd hm (h m (Nat.lt_succ_self _))⟩
   ·rw [if_neg hm]
    refine ⟨fun _ k hk => ?_, fun _ => rfl⟩
    by_cases e : k = m
    ·subst e; exact hm
    ·exact ih.1 h0 k (by omega)
  ·rw [if_neg h0]
   exact ⟨fun e => absurd e h0, fun h => absurd (ih.2 fun k hk => h k (by omega)) h0⟩
theorem nth_snoc_lt {names : List (List Tag)} {n : List Tag} {k : Nat} (h : k < names.length) : nth (names ++ [n]) k = nth names k := by
 rw [nth_eq _ _ (by rw [List.length_append]; omega), List.getElem_append_left h, ← nth_eq names k h]
theorem nth_snoc_eq {names : List (List Tag)} {n : List Tag} : nth (names ++ [n]) names.length = n := by
 rw [nth_eq _ _ (by simp)]; simp
theorem namesB_snoc {names : List (List Tag)} {n : List Tag} (h : namesB names = true) (hn : nameOk n = true) (h0 : ∀ k, k < names.length → nth names k ≠ n) (h6 : names.length ≤ 5) : namesB (names ++ [n]) = true := by
 unfold namesB at h ⊢
 rw [Bool.and_eq_true] at h ⊢
 refine ⟨allN_iff.2 fun k hk => ?_, by rw [List.length_append, List.length_singleton]; simp; omega⟩
 rw [List.length_append, List.length_singleton] at hk
 by_cases e : k < names.length
 ·have := allN_iff.1 h.1 k e
  unfold nmBad at this ⊢
  rw [nth_snoc_lt e]
  have hc : (allN k fun j => decide (nth (names ++ [n]) j = nth names k)) = allN k fun j => decide (nth names j = nth names k) := by
   cases hq : (allN k fun j => decide (nth names j = nth names k)) with
   | true => exact allN_iff.2 fun j hj => by rw [nth_snoc_lt (by omega)]; exact allN_iff.1 hq j hj
   | false =>
    obtain ⟨j, hj, hb, _⟩ := first_bad hq
    exact allN_no hj (by rw [nth_snoc_lt (by omega)]; exact hb)
  rw [hc]; exact this
 ·have : k = names.length := by omega
  subst this
  unfold nmBad
  rw [nth_snoc_eq, hn, allN_iff.2 fun j hj => decide_eq_false (by rw [nth_snoc_lt hj]; exact h0 j hj)]; rfl
theorem bd_swl {α β γ : Type} {f : α → Option γ} {g : β → Option γ} {e : α} : bd (some (.inl e)) (sw f g) = f e := rfl
theorem bd_swr {α β γ : Type} {f : α → Option γ} {g : β → Option γ} {e : β} : bd (some (.inr e)) (sw f g) = g e := rfl
theorem index_self {x : Index} (h : indexB x = true) : indexP x.1 = x := by
 have := (indexB_canon h).2.2.2
 exact Prod.ext rfl this.symm
theorem idsN_snoc {names : List (List Tag)} {n : List Tag} (t : Tag) : ∀ {m}, m ≤ names.length → idsN (names ++ [n]) t m = idsN names t m
 | 0, _ => rfl
 | m + 1, h => by rw [idsN_succ, idsN_succ, idsN_snoc t (by omega), nth_snoc_lt (by omega)]
theorem numP_get {names : List (List Tag)} {n : List Tag} : ∀ {m}, 0 < numP names n m → ∃ K, K < m ∧ numP names n m = K + 1 ∧ nth names K = n
 | 0, h => absurd h (Nat.lt_irrefl 0)
 | m + 1, h => by
  unfold numP at h ⊢
  by_cases h0 : numP names n m = 0
  ·rw [if_pos h0] at h ⊢
   by_cases hm : nth names m = n
   ·rw [if_pos hm]; exact ⟨m, Nat.lt_succ_self _, rfl, hm⟩
   ·rw [if_neg hm] at h; exact absurd h (Nat.lt_irrefl 0)
  ·rw [if_neg h0] at h ⊢
   obtain ⟨K, h1, h2, h3⟩ := numP_get (m := m) h
   exact ⟨K, by omega, h2, h3⟩
theorem addP_at {x : Index} {n : List Tag} (h : (addP x n).2.2 = true) : ∃ names K, (addP x n).1 = indexP names ∧ (addP x n).2.1 = ((K + 1 : Nat) : Int) ∧ K < names.length ∧ nth names K = n ∧ indexB (indexP names) = true ∧ nameOk n = true ∧ ∀ t, ∀ v ∈ postP x t, v ∈ postP (indexP names) t := by
 cases hi : indexB x with
 | false => unfold addP at h; rw [hi] at h; cases h
 | true =>
  cases hn : nameOk n with
  | false => unfold addP at h; rw [hi, hn] at h; cases h
  | true =>
   have ez : addP x n = (if 0 < numP x.1 n x.1.length then (indexP x.1, (numP x.1 n x.1.length : Int), true) else if x.1.length = 6 then (indexP x.1, 0, false) else (indexP (x.1 ++ [n]), (x.1.length : Int) + 1, true)) := by
    unfold addP; rw [hi, hn]; rfl
   have hB := namesB_of hi
   by_cases h0 : 0 < numP x.1 n x.1.length
   ·obtain ⟨K, k1, k2, k3⟩ := numP_get h0
    rw [if_pos h0, k2] at ez
    refine ⟨x.1, K, by rw [ez], by rw [ez], k1, k3, indexB_P hB, rfl, fun t v hv => ?_⟩
    rw [index_self hi]; exact hv
   ·rw [if_neg h0] at ez
    by_cases e6 : x.1.length = 6
    ·rw [if_pos e6] at ez; rw [ez] at h; cases h
    ·rw [if_neg e6] at ez
     have h6 := (indexB_canon hi).2.2.1
     have hne := (numP_iff x.1 n x.1.length).1 (by omega)
     have hB2 := indexB_P (namesB_snoc hB hn hne (by omega))
     refine ⟨x.1 ++ [n], x.1.length, by rw [ez], by rw [ez]; show (x.1.length : Int) + 1 = _; omega, by rw [List.length_append, List.length_singleton]; omega, nth_snoc_eq, hB2, rfl, fun t v hv => ?_⟩
     unfold postP at hv ⊢
     rw [if_pos hi] at hv
     rw [if_pos hB2]
     show v ∈ idsN (x.1 ++ [n]) t (x.1 ++ [n]).length
     rw [List.length_append, List.length_singleton, idsN_succ, idsN_snoc t (Nat.le_refl _)]
     exact List.mem_append.2 (.inl hv)
def insI (id : Int) (o : List Row) (m : Sample) : List Row := if m.1 = id then ins m.2 o else o
def memR (mem : List Sample) (id : Int) (o : List Row) : List Row := mem.foldl (insI id) o
def parR (parts : List Part) (id : Int) : List Row := parts.foldl (fun o p => mg o (partOf p id)) []
def rowsS (s : Store) (id : Int) : List Row := memR s.2.2 id (parR s.2.1 id)
theorem partOf_ok (p : Part) (id : Int) : blockOk (partOf p id) = true := by
 unfold partOf
 cases h : partOk p with
 | true => rw [if_pos rfl]; exact rowsOf_ok h id
 | false => rw [if_neg (by simp)]; rfl
theorem partOf_24 (p : Part) (id : Int) : (partOf p id).length ≤ 24 := (blockOk_iff.1 (partOf_ok p id)).2.2
theorem parF_len (id : Int) : ∀ (l : List Part) (o : List Row), (l.foldl (fun o p => mg o (partOf p id)) o).length ≤ o.length + 24 * l.length
 | [], _ => Nat.le_refl _
 | p :: l, o => by
  have h1 := parF_len id l (mg o (partOf p id))
  have h2 := (mg_len (partOf p id) o).2
  have h3 := partOf_24 p id
  rw [List.foldl_cons, List.length_cons]; omega
theorem parR_len (l : List Part) (id : Int) : (parR l id).length ≤ 24 * l.length := by
 have := parF_len id l []
 rw [List.length_nil] at this
 unfold parR; omega
theorem parF_asc (id : Int) : ∀ (l : List Part) (o : List Row), Asc o → Asc (l.foldl (fun o p => mg o (partOf p id)) o)
 | [], _, h => h
 | _ :: l, _, h => parF_asc id l _ (mg_asc h)
theorem parR_asc (l : List Part) (id : Int) : Asc (parR l id) := parF_asc id l [] nil_asc
theorem insI_len (id : Int) (o : List Row) (m : Sample) : (insI id o m).length ≤ o.length + 1 := by
 unfold insI
 split
 ·exact (ins_len m.2 o).2
 ·omega
theorem insI_asc {id : Int} {o : List Row} (m : Sample) (h : Asc o) : Asc (insI id o m) := by
 unfold insI
 split
 ·exact ins_asc m.2 h
 ·exact h
theorem memR_len (id : Int) : ∀ (l : List Sample) (o : List Row), (memR l id o).length ≤ o.length + l.length
 | [], _ => Nat.le_refl _
 | m :: l, o => by
  have h1 := memR_len id l (insI id o m)
  have h2 := insI_len id o m
  unfold memR at h1 ⊢
  rw [List.foldl_cons, List.length_cons]; omega
theorem memR_asc (id : Int) : ∀ (l : List Sample) (o : List Row), Asc o → Asc (memR l id o)
 | [], _, h => h
 | m :: l, _, h => memR_asc id l _ (insI_asc m h)
theorem memR_take (l : List Sample) (id : Int) (o : List Row) {k : Nat} (hk : k < l.length) : memR (l.take (k + 1)) id o = insI id (memR (l.take k) id o) (nth l k) := foldl_take _ _ _ _ hk
theorem e_rowsIn (r a : List Row) (ha : a.length ≤ 500) (hr : r.length ≤ 100) : lp (p_impl_Store_rows_b1 r) (a, 0) = some (mg a r) := by
 have := lp_for (body := p_impl_Store_rows_b1 r) (fun k => (mg a (r.take k), (k : Int))) r.length (mg a r) (fun k hk => by
  have hl := mg_take_len a r k (by omega)
  unfold p_impl_Store_rows_b1
  rw [dlt hk, cond_true, gd.yes (ixN hk)]
  simp only [Int.toNat_natCast]
  rw [bd.yes (e_put _ (nth r k) (by omega)), gd.yes (i64S hk (by omega)), mg_take a r k hk, addI]) (by
  unfold p_impl_Store_rows_b1
  rw [decide_eq_false (show ¬ ((r.length : Int) < (r.length : Int)) by omega), cond_false, List.take_length])
 exact this
theorem e_impl_rows (s : Store) (id : Int) (hp : s.2.1.length ≤ 6) (hm : s.2.2.length ≤ 30) (hP : ∀ p ∈ s.2.1, Dp.ok p ∧ Wt.w p ≤ 1048576) : p_impl_Store_rows s id = some (rowsS s id) := by
 have h0 : lp (p_impl_Store_rows_b0 s id) (([] : List Row), 0) = some (parR s.2.1 id) :=
  lp_for (body := p_impl_Store_rows_b0 s id) (fun k => ((s.2.1.take k).foldl (fun o p => mg o (partOf p id)) [], (k : Int))) s.2.1.length (parR s.2.1 id) (fun k hk => by
   have hl := parR_len (s.2.1.take k) id
   rw [List.length_take, Nat.min_eq_left (by omega)] at hl
   unfold parR at hl
   obtain ⟨k1, k2⟩ := hP _ (nth_mem hk)
   have h24 := partOf_24 (nth s.2.1 k) id
   unfold p_impl_Store_rows_b0
   rw [dlt hk, cond_true, gd.yes (ixN hk)]
   simp only [Int.toNat_natCast]
   rw [bd.yes (e_impl_PartOf (nth s.2.1 k) id k1 k2), bd.yes (e_rowsIn _ _ (by omega) (by omega)), gd.yes (i64S hk (by omega)), foldl_take _ _ _ _ hk, addI]) (by
   unfold p_impl_Store_rows_b0
   rw [decide_eq_false (show ¬ ((s.2.1.length : Int) < (s.2.1.length : Int)) by omega), cond_false, List.take_length]; rfl)
 have hpl := parR_len s.2.1 id
 have h1 : lp (p_impl_Store_rows_b2 s id) (parR s.2.1 id, 0) = some (rowsS s id) :=
  lp_for (body := p_impl_Store_rows_b2 s id) (fun k => (memR (s.2.2.take k) id (parR s.2.1 id), (k : Int))) s.2.2.length (rowsS s id) (fun k hk => by
   have hl := memR_len id (s.2.2.take k) (parR s.2.1 id)
   rw [List.length_take, Nat.min_eq_left (by omega)] at hl
   unfold p_impl_Store_rows_b2
   rw [dlt hk, cond_true, gd.yes (ixN hk), memR_take _ _ _ hk]
   simp only [Int.toNat_natCast]
   by_cases he : (nth s.2.2 k).1 = id
   ·rw [decide_eq_true he, cond_true, bd.yes (e_put _ _ (by omega)), gd.yes (i64S hk (by omega)), addI]
    unfold insI; rw [if_pos he]
   ·rw [decide_eq_false he, cond_false, gd.yes (i64S hk (by omega)), addI]
    unfold insI; rw [if_neg he]) (by
   unfold p_impl_Store_rows_b2
   rw [decide_eq_false (show ¬ ((s.2.2.length : Int) < (s.2.2.length : Int)) by omega), cond_false, List.take_length]; rfl)
 unfold p_impl_Store_rows
 rw [bd.yes h0, bd.yes h1]
theorem e_l2M (a b : List Row) (hab : a.length + b.length ≤ 100000) (h : Asc a) : p_spec_l2Merge a b = some (mg a b) := by
 unfold p_spec_l2Merge
 have g1 : room (([] : List Row).length + a.length) := by rw [List.length_nil]; unfold room; omega
 rw [gd.yes g1, List.nil_append]
 have : lp (p_spec_l2Merge_b0 b) (a, 0) = some (mg a b) := lp_for (body := p_spec_l2Merge_b0 b) (fun k => (mg a (b.take k), (k : Int))) b.length (mg a b) (fun k hk => by
  unfold p_spec_l2Merge_b0
  have hl := mg_take_len a b k (by omega)
  rw [dlt hk, cond_true, gd.yes (ixN hk)]
  simp only [Int.toNat_natCast]
  rw [bd.yes (e_l2Put _ (nth b k) (by omega)), l2_ins _ _ (mg_asc h), gd.yes (i64S hk (by omega)), mg_take a b k hk, addI]) (by
  unfold p_spec_l2Merge_b0
  rw [decide_eq_false (show ¬ ((b.length : Int) < (b.length : Int)) by omega), cond_false, List.take_length])
 rw [bd.yes this]
theorem partOf_yes {p : Part} (h : partOk p = true) (id : Int) : partOf p id = rowsOf p id := by unfold partOf; rw [if_pos h]
theorem e_spec_rows (s : Store) (id : Int) (hp : s.2.1.length ≤ 6) (hm : s.2.2.length ≤ 30) (hP : ∀ p ∈ s.2.1, Dp.ok p ∧ Wt.w p ≤ 1048576) (hK : ∀ p ∈ s.2.1, partOk p = true) : p_spec_l13Rows s id = some (rowsS s id) := by
 have h0 : lp (p_spec_l13Rows_b0 s id) (([] : List Row), 0) = some (parR s.2.1 id) :=
  lp_for (body := p_spec_l13Rows_b0 s id) (fun k => ((s.2.1.take k).foldl (fun o p => mg o (partOf p id)) [], (k : Int))) s.2.1.length (parR s.2.1 id) (fun k hk => by
   have hl := parR_len (s.2.1.take k) id
   have hasc := parR_asc (s.2.1.take k) id
   rw [List.length_take, Nat.min_eq_left (by omega)] at hl
   unfold parR at hl hasc
   obtain ⟨k1, k2⟩ := hP _ (nth_mem hk)
   have hk3 := hK _ (nth_mem hk)
   have h24 := partOf_24 (nth s.2.1 k) id
   have hlen := partOk_len' hk3
   unfold p_spec_l13Rows_b0
   rw [dlt hk, cond_true, gd.yes (ixN hk)]
   simp only [Int.toNat_natCast]
   rw [bd.yes (e_l12Of (nth s.2.1 k) id k1 hlen), ← partOf_yes hk3 id, bd.yes (e_l2M _ _ (by omega) hasc), gd.yes (i64S hk (by omega)), foldl_take _ _ _ _ hk, addI]) (by
   unfold p_spec_l13Rows_b0
   rw [decide_eq_false (show ¬ ((s.2.1.length : Int) < (s.2.1.length : Int)) by omega), cond_false, List.take_length]; rfl)
 have hpl := parR_len s.2.1 id
 have h1 : lp (p_spec_l13Rows_b1 s id) (parR s.2.1 id, 0) = some (rowsS s id) :=
  lp_for (body := p_spec_l13Rows_b1 s id) (fun k => (memR (s.2.2.take k) id (parR s.2.1 id), (k : Int))) s.2.2.length (rowsS s id) (fun k hk => by
   have hl := memR_len id (s.2.2.take k) (parR s.2.1 id)
   have hasc := memR_asc id (s.2.2.take k) (parR s.2.1 id) (parR_asc _ _)
   rw [List.length_take, Nat.min_eq_left (by omega)] at hl
   unfold p_spec_l13Rows_b1
   rw [dlt hk, cond_true, gd.yes (ixN hk), memR_take _ _ _ hk]
   simp only [Int.toNat_natCast]
   by_cases he : (nth s.2.2 k).1 = id
   ·rw [decide_eq_true he, cond_true, bd.yes (e_l2Put _ _ (by omega)), l2_ins _ _ hasc, gd.yes (i64S hk (by omega)), addI]
    unfold insI; rw [if_pos he]
   ·rw [decide_eq_false he, cond_false, gd.yes (i64S hk (by omega)), addI]
    unfold insI; rw [if_neg he]) (by
   unfold p_spec_l13Rows_b1
   rw [decide_eq_false (show ¬ ((s.2.2.length : Int) < (s.2.2.length : Int)) by omega), cond_false, List.take_length]; rfl)
 unfold p_spec_l13Rows
 rw [bd.yes h0, bd.yes h1]
theorem e_Max (l : List Int) (h : l.Pairwise (· < ·)) (h0 : 0 < l.length) (hl : l.length ≤ 1048576) : p_slices_Max_int_int l = some (nth l (l.length - 1)) := by
 unfold p_slices_Max_int_int
 rw [decide_eq_false (show ¬ ((l.length : Int) < 1) by omega), cond_false, gd.yes (show ix 0 l.length by unfold ix; omega)]
 have : lp (p_slices_Max_int_int_b0 l) (nth l 0, ((0 : Nat) : Int) + 1) = some (nth l (l.length - 1)) := lp_for (body := p_slices_Max_int_int_b0 l) (fun k => (nth l k, (k : Int) + 1)) (l.length - 1) (nth l (l.length - 1)) (fun k hk => by
  have hk1 : k + 1 < l.length := by omega
  have hlt : nth l k < nth l (k + 1) := by
   rw [nth_eq l k (by omega), nth_eq l (k + 1) hk1]
   exact List.pairwise_iff_getElem.1 h k (k + 1) (by omega) hk1 (by omega)
  unfold p_slices_Max_int_int_b0
  rw [decide_eq_true (show (k : Int) + 1 < (l.length : Int) by omega), cond_true, addI, gd.yes (ixN hk1), gd.yes (show I64 (((k + 1 : Nat) : Int) + 1) by unfold I64; omega)]
  simp only [Int.toNat_natCast]
  rw [show max (nth l k) (nth l (k + 1)) = nth l (k + 1) by omega]) (by
  unfold p_slices_Max_int_int_b0
  rw [decide_eq_false (show ¬ (((l.length - 1 : Nat) : Int) + 1 < (l.length : Int)) by omega), cond_false])
 have e1 : ((0 : Nat) : Int) + 1 = 1 := rfl
 rw [e1] at this
 rw [bd.yes this]
def lastId (p : Part) : Int := nth p.1 (p.1.length - 1)
def badP (n : Nat) (p : Part) : Bool := !partOk p || (decide (p.1.length = 0) || decide ((n : Int) < lastId p))
def badM (n : Nat) (m : Sample) : Bool := !inn 1 m.1 (n : Int) || !rowOk m.2
def badR (s : Store) (k : Nat) : Bool := decide (24 < (rowsS s ((k : Int) + 1)).length)
def storeB (s : Store) : Bool := indexB s.1 && (decide (s.2.1.length ≤ 6) && (decide (s.2.2.length ≤ 20) && (allN s.2.1.length (fun k => badP s.1.1.length (nth s.2.1 k)) && (allN s.2.2.length (fun k => badM s.1.1.length (nth s.2.2 k)) && allN s.1.1.length (badR s)))))
structure okS (s : Store) : Prop where
 w1 : Wt.w s.1.1 ≤ 4194304
 w2 : postsW s.1.2
 pl : s.2.1.length ≤ 1048576
 ml : s.2.2.length ≤ 1048576
 p : ∀ p ∈ s.2.1, Dp.ok p ∧ Wt.w p ≤ 1048576
theorem badP_ok {n : Nat} {p : Part} (h : badP n p = false) : partOk p = true ∧ 0 < p.1.length ∧ lastId p ≤ (n : Int) := by
 unfold badP at h
 simp only [Bool.or_eq_false_iff, Bool.not_eq_false', decide_eq_false_iff_not] at h
 exact ⟨h.1, by omega, by omega⟩
theorem e_badP (n : Nat) (p : Part) (_ : Dp.ok p) (hl : p.1.length ≤ 1048576) (h1 : p_impl_PartOk p = some (partOk p)) : (bd (p_impl_PartOk p) fun r29 => cond (!r29) (some (true)) (cond (decide (((p.1).length : Int) = 0)) (some (true)) (bd (p_slices_Max_int_int (p.1)) fun r33 => some (decide ((n : Int) < r33))))) = some (badP n p) := by
 rw [bd.yes h1]
 unfold badP
 cases h : partOk p with
 | false => rfl
 | true =>
  rw [Bool.not_true, cond_false, Bool.false_or]
  by_cases h0 : p.1.length = 0
  ·rw [decide_eq_true (show (p.1.length : Int) = 0 by omega), cond_true, decide_eq_true h0]; rfl
  ·rw [decide_eq_false (show ¬ (p.1.length : Int) = 0 by omega), cond_false, decide_eq_false h0, bd.yes (e_Max p.1 (partOk_asc h) (by omega) hl)]; rfl
theorem e_impl_StoreOk (s : Store) (h : okS s) : p_impl_StoreOk s = some (storeB s) := by
 have hpl := h.pl
 have hml := h.ml
 unfold p_impl_StoreOk storeB
 rw [bd.yes (e_impl_IndexOk s.1 h.w1 h.w2)]
 cases hi : indexB s.1 with
 | false => rfl
 | true =>
  have hn6 := (indexB_canon hi).2.2.1
  rw [Bool.not_true, cond_false]
  by_cases h6 : s.2.1.length ≤ 6
  ·rw [decide_eq_false (show ¬ (6 : Int) < (s.2.1.length : Int) by omega), cond_false, decide_eq_true h6]
   by_cases h20 : s.2.2.length ≤ 20
   ·rw [decide_eq_false (show ¬ (20 : Int) < (s.2.2.length : Int) by omega), bd_some, cond_false, decide_eq_true h20, Bool.true_and, Bool.true_and, Bool.true_and]
    have hr0 : ∀ k, k < s.2.1.length → p_impl_StoreOk_b0 s (k : Int) = some (if badP s.1.1.length (nth s.2.1 k) then .inr (.inr false) else .inl ((k + 1 : Nat) : Int)) := fun k hk => by
     obtain ⟨k1, k2⟩ := h.p _ (nth_mem hk)
     have hl : (nth s.2.1 k).1.length ≤ Wt.w (nth s.2.1 k) := Nat.le_trans wL_le (Nat.le_add_right _ _)
     unfold p_impl_StoreOk_b0
     rw [dlt hk, cond_true, gd.yes (ixN hk)]
     simp only [Int.toNat_natCast]
     rw [bd.yes (e_badP s.1.1.length (nth s.2.1 k) k1 (by omega) (e_impl_PartOk _ k1)), gd.yes (i64S hk (by omega)), addI]
     cases badP s.1.1.length (nth s.2.1 k) <;> rfl
    rcases lp_scan (body := p_impl_StoreOk_b0 s) (fun k => (k : Int)) s.2.1.length (fun k => badP s.1.1.length (nth s.2.1 k)) (.inl ()) (fun _ => .inr false) (fun k hk _ h => by rw [hr0 k hk, h]; rfl) (fun k hk _ h => by rw [hr0 k hk, h]; rfl) (fun _ => by unfold p_impl_StoreOk_b0; rw [decide_eq_false (show ¬ ((s.2.1.length : Int) < (s.2.1.length : Int)) by omega)]; rfl) with ⟨a1, a2⟩ | ⟨a1, _, _, _, _, a2⟩
    ·rw [show (lp (p_impl_StoreOk_b0 s) 0) = _ from a2, bd_swl, a1, Bool.true_and]
     have hr1 : ∀ k, k < s.2.2.length → p_impl_StoreOk_b1 s (k : Int) = some (if badM s.1.1.length (nth s.2.2 k) then .inr (.inr false) else .inl ((k + 1 : Nat) : Int)) := fun k hk => by
      unfold p_impl_StoreOk_b1 badM
      rw [dlt hk, cond_true, gd.yes (ixN hk)]
      simp only [Int.toNat_natCast]
      rw [bd.yes (e_impl_within _ _ _), bd.yes (e_impl_rowOk _), gd.yes (i64S hk (by omega)), addI]
      cases inn 1 (nth s.2.2 k).1 (s.1.1.length : Int) <;> cases rowOk (nth s.2.2 k).2 <;> rfl
     rcases lp_scan (body := p_impl_StoreOk_b1 s) (fun k => (k : Int)) s.2.2.length (fun k => badM s.1.1.length (nth s.2.2 k)) (.inl ()) (fun _ => .inr false) (fun k hk _ h => by rw [hr1 k hk, h]; rfl) (fun k hk _ h => by rw [hr1 k hk, h]; rfl) (fun _ => by unfold p_impl_StoreOk_b1; rw [decide_eq_false (show ¬ ((s.2.2.length : Int) < (s.2.2.length : Int)) by omega)]; rfl) with ⟨b1, b2⟩ | ⟨b1, _, _, _, _, b2⟩
     ·rw [show (lp (p_impl_StoreOk_b1 s) 0) = _ from b2, bd_swl, b1, Bool.true_and]
      have hr2 : ∀ k, k < s.1.1.length → p_impl_StoreOk_b2 s ((k : Int) + 1) = some (if badR s k then .inr (.inr false) else .inl (((k + 1 : Nat) : Int) + 1)) := fun k hk => by
       unfold p_impl_StoreOk_b2 badR
       rw [decide_eq_true (show (k : Int) + 1 ≤ (s.1.1.length : Int) by omega), cond_true, bd.yes (e_impl_rows s _ h6 (by omega) h.p), gd.yes (show I64 ((k : Int) + 1 + 1) by unfold I64; omega)]
       by_cases hr : 24 < (rowsS s ((k : Int) + 1)).length
       ·rw [decide_eq_true (show (24 : Int) < ((rowsS s ((k : Int) + 1)).length : Int) by omega), decide_eq_true hr]; rfl
       ·rw [decide_eq_false (show ¬ (24 : Int) < ((rowsS s ((k : Int) + 1)).length : Int) by omega), decide_eq_false hr]
        have : (k : Int) + 1 + 1 = ((k + 1 : Nat) : Int) + 1 := by omega
        rw [this]; rfl
      rcases lp_scan (body := p_impl_StoreOk_b2 s) (fun k => (k : Int) + 1) s.1.1.length (badR s) (.inl ()) (fun _ => .inr false) (fun k hk _ h => by rw [hr2 k hk, h]; rfl) (fun k hk _ h => by rw [hr2 k hk, h]; rfl) (fun _ => by unfold p_impl_StoreOk_b2; rw [decide_eq_false (show ¬ ((s.1.1.length : Int) + 1 ≤ (s.1.1.length : Int)) by omega)]; rfl) with ⟨c1, c2⟩ | ⟨c1, _, _, _, _, c2⟩
      ·rw [show (lp (p_impl_StoreOk_b2 s) 1) = _ from c2, bd_swl, c1]
      ·rw [show (lp (p_impl_StoreOk_b2 s) 1) = _ from c2, bd_swr, c1]
     ·rw [show (lp (p_impl_StoreOk_b1 s) 0) = _ from b2, bd_swr, b1]; rfl
    ·rw [show (lp (p_impl_StoreOk_b0 s) 0) = _ from a2, bd_swr, a1]; rfl
   ·rw [decide_eq_true (show (20 : Int) < (s.2.2.length : Int) by omega), bd_some, cond_true, decide_eq_false h20]; rfl
  ·rw [decide_eq_true (show (6 : Int) < (s.2.1.length : Int) by omega), cond_true, decide_eq_false h6]; rfl
theorem e_l13Part (n : Nat) (p : Part) (hp : Dp.ok p) (hl : p.1.length ≤ 1048576) : p_spec_l13Part p (n : Int) = some (!badP n p) := by
 unfold p_spec_l13Part badP
 rw [bd.yes (e_spec_PartOk p hp)]
 cases h : partOk p with
 | false => rfl
 | true =>
  rw [cond_true, Bool.not_true, Bool.false_or]
  by_cases h0 : p.1.length = 0
  ·rw [decide_eq_false (show ¬ (0 : Int) < (p.1.length : Int) by omega), cond_false, decide_eq_true h0]; rfl
  ·have e1 : (p.1.length : Int) - 1 = ((p.1.length - 1 : Nat) : Int) := by omega
   rw [decide_eq_true (show (0 : Int) < (p.1.length : Int) by omega), cond_true, decide_eq_false h0, Bool.false_or, gd.yes (show I64 ((p.1.length : Int) - 1) by unfold I64; omega), e1, gd.yes (ixN (show p.1.length - 1 < p.1.length by omega)), bd_some, Int.toNat_natCast]
   by_cases hq : (n : Int) < lastId p
   ·have : ¬ nth p.1 (p.1.length - 1) ≤ (n : Int) := by unfold lastId at hq; omega
    rw [decide_eq_false this, decide_eq_true hq]; rfl
   ·have : nth p.1 (p.1.length - 1) ≤ (n : Int) := by unfold lastId at hq; omega
    rw [decide_eq_true this, decide_eq_false hq]; rfl
theorem e_spec_StoreOk (s : Store) (h : okS s) : p_spec_StoreOk s = some (storeB s) := by
 have hpl := h.pl
 have hml := h.ml
 unfold p_spec_StoreOk storeB
 rw [bd.yes (e_spec_IndexOk s.1 h.w1 h.w2)]
 cases hi : indexB s.1 with
 | false => rfl
 | true =>
  have hn6 := (indexB_canon hi).2.2.1
  rw [Bool.not_true, cond_false]
  by_cases h6 : s.2.1.length ≤ 6
  ·rw [decide_eq_false (show ¬ (6 : Int) < (s.2.1.length : Int) by omega), cond_false, decide_eq_true h6]
   by_cases h20 : s.2.2.length ≤ 20
   ·rw [decide_eq_false (show ¬ (20 : Int) < (s.2.2.length : Int) by omega), bd_some, cond_false, decide_eq_true h20, Bool.true_and, Bool.true_and, Bool.true_and]
    have hr0 : ∀ k, k < s.2.1.length → p_spec_StoreOk_b0 s (k : Int) = some (if badP s.1.1.length (nth s.2.1 k) then .inr (.inr false) else .inl ((k + 1 : Nat) : Int)) := fun k hk => by
     obtain ⟨k1, k2⟩ := h.p _ (nth_mem hk)
     have hl : (nth s.2.1 k).1.length ≤ Wt.w (nth s.2.1 k) := Nat.le_trans wL_le (Nat.le_add_right _ _)
     unfold p_spec_StoreOk_b0
     rw [dlt hk, cond_true, gd.yes (ixN hk)]
     simp only [Int.toNat_natCast]
     rw [bd.yes (e_l13Part s.1.1.length (nth s.2.1 k) k1 (by omega)), gd.yes (i64S hk (by omega)), addI]
     cases badP s.1.1.length (nth s.2.1 k) <;> rfl
    rcases lp_scan (body := p_spec_StoreOk_b0 s) (fun k => (k : Int)) s.2.1.length (fun k => badP s.1.1.length (nth s.2.1 k)) (.inl ()) (fun _ => .inr false) (fun k hk _ h => by rw [hr0 k hk, h]; rfl) (fun k hk _ h => by rw [hr0 k hk, h]; rfl) (fun _ => by unfold p_spec_StoreOk_b0; rw [decide_eq_false (show ¬ ((s.2.1.length : Int) < (s.2.1.length : Int)) by omega)]; rfl) with ⟨a1, a2⟩ | ⟨a1, _, _, _, _, a2⟩
    ·rw [show (lp (p_spec_StoreOk_b0 s) 0) = _ from a2, bd_swl, a1, Bool.true_and]
     have hK : ∀ p ∈ s.2.1, partOk p = true := fun p hp => by
      obtain ⟨i, hi, rfl⟩ := List.mem_iff_getElem.1 hp
      have := allN_iff.1 a1 i hi
      rw [nth_eq _ i hi] at this
      exact (badP_ok this).1
     have hr1 : ∀ k, k < s.2.2.length → p_spec_StoreOk_b1 s (k : Int) = some (if badM s.1.1.length (nth s.2.2 k) then .inr (.inr false) else .inl ((k + 1 : Nat) : Int)) := fun k hk => by
      unfold p_spec_StoreOk_b1 badM
      rw [dlt hk, cond_true, gd.yes (ixN hk)]
      simp only [Int.toNat_natCast]
      rw [bd.yes (e_spec_l6In _ _ _), bd.yes (e_spec_l2Row _), gd.yes (i64S hk (by omega)), addI]
      cases inn 1 (nth s.2.2 k).1 (s.1.1.length : Int) <;> cases rowOk (nth s.2.2 k).2 <;> rfl
     rcases lp_scan (body := p_spec_StoreOk_b1 s) (fun k => (k : Int)) s.2.2.length (fun k => badM s.1.1.length (nth s.2.2 k)) (.inl ()) (fun _ => .inr false) (fun k hk _ h => by rw [hr1 k hk, h]; rfl) (fun k hk _ h => by rw [hr1 k hk, h]; rfl) (fun _ => by unfold p_spec_StoreOk_b1; rw [decide_eq_false (show ¬ ((s.2.2.length : Int) < (s.2.2.length : Int)) by omega)]; rfl) with ⟨b1, b2⟩ | ⟨b1, _, _, _, _, b2⟩
     ·rw [show (lp (p_spec_StoreOk_b1 s) 0) = _ from b2, bd_swl, b1, Bool.true_and]
      have hr2 : ∀ k, k < s.1.1.length → p_spec_StoreOk_b2 s ((k : Int) + 1) = some (if badR s k then .inr (.inr false) else .inl (((k + 1 : Nat) : Int) + 1)) := fun k hk => by
       unfold p_spec_StoreOk_b2 badR
       rw [decide_eq_true (show (k : Int) + 1 ≤ (s.1.1.length : Int) by omega), cond_true, bd.yes (e_spec_rows s _ h6 (by omega) h.p hK), gd.yes (show I64 ((k : Int) + 1 + 1) by unfold I64; omega)]
       by_cases hr : 24 < (rowsS s ((k : Int) + 1)).length
       ·rw [decide_eq_true (show (24 : Int) < ((rowsS s ((k : Int) + 1)).length : Int) by omega), decide_eq_true hr]; rfl
       ·rw [decide_eq_false (show ¬ (24 : Int) < ((rowsS s ((k : Int) + 1)).length : Int) by omega), decide_eq_false hr]
        have : (k : Int) + 1 + 1 = ((k + 1 : Nat) : Int) + 1 := by omega
        rw [this]; rfl
      rcases lp_scan (body := p_spec_StoreOk_b2 s) (fun k => (k : Int) + 1) s.1.1.length (badR s) (.inl ()) (fun _ => .inr false) (fun k hk _ h => by rw [hr2 k hk, h]; rfl) (fun k hk _ h => by rw [hr2 k hk, h]; rfl) (fun _ => by unfold p_spec_StoreOk_b2; rw [decide_eq_false (show ¬ ((s.1.1.length : Int) + 1 ≤ (s.1.1.length : Int)) by omega)]; rfl) with ⟨c1, c2⟩ | ⟨c1, _, _, _, _, c2⟩
      ·rw [show (lp (p_spec_StoreOk_b2 s) 1) = _ from c2, bd_swl, c1]
      ·rw [show (lp (p_spec_StoreOk_b2 s) 1) = _ from c2, bd_swr, c1]
     ·rw [show (lp (p_spec_StoreOk_b1 s) 0) = _ from b2, bd_swr, b1]; rfl
    ·rw [show (lp (p_spec_StoreOk_b0 s) 0) = _ from a2, bd_swr, a1]; rfl
   ·rw [decide_eq_true (show (20 : Int) < (s.2.2.length : Int) by omega), bd_some, cond_true, decide_eq_false h20]; rfl
  ·rw [decide_eq_true (show (6 : Int) < (s.2.1.length : Int) by omega), cond_true, decide_eq_false h6]; rfl
theorem e_clonePart (p : Part) (h1 : p.1.length ≤ 1048576) (h2 : p.2.length ≤ 1048576) (h3 : ∀ b ∈ p.2, b.length ≤ 1048576) : p_impl_clonePart p = some p := by
 have h : lp (p_impl_clonePart_b0 p) (([] : List (List Row)), 0) = some p.2 := lp_for (body := p_impl_clonePart_b0 p) (fun k => (p.2.take k, (k : Int))) p.2.length p.2 (fun k hk => by
  have hb := h3 _ (nth_mem hk)
  have hlt : (p.2.take k).length ≤ k := by rw [List.length_take]; omega
  unfold p_impl_clonePart_b0
  rw [dlt hk, cond_true, gd.yes (ixN hk)]
  simp only [Int.toNat_natCast]
  rw [gd.yes (show room (([] : List Row).length + (nth p.2 k).length) by rw [List.length_nil]; unfold room; omega), gd.yes (show room ((p.2.take k).length + 1) by unfold room; omega), gd.yes (show I64 ((k : Int) + 1) by unfold I64; omega), List.nil_append, take_succ_nth hk, addI]) (by
  unfold p_impl_clonePart_b0
  rw [decide_eq_false (show ¬ ((p.2.length : Int) < (p.2.length : Int)) by omega), cond_false, List.take_length])
 unfold p_impl_clonePart
 rw [gd.yes (show room (([] : List Int).length + p.1.length) by rw [List.length_nil]; unfold room; omega), bd.yes h, List.nil_append]
theorem partOk_le {p : Part} (h : partOk p = true) : p.1.length ≤ 1048576 ∧ p.2.length ≤ 1048576 ∧ ∀ b ∈ p.2, b.length ≤ 1048576 := by
 obtain ⟨a, b, c⟩ := partOk_small h
 exact ⟨by omega, by omega, fun x hx => by have := c x hx; omega⟩
def blkM (mem : List Sample) (n : Nat) : List (List Row) := (List.range n).map fun i => memR mem ((i + 1 : Nat) : Int) []
def memP (mem : List Sample) : Part := mkP 0 (blkM mem 6)
theorem blkM_len (mem : List Sample) (n : Nat) : (blkM mem n).length = n := by simp [blkM]
theorem blkM_nth (mem : List Sample) {n i : Nat} (h : i < n) : nth (blkM mem n) i = memR mem ((i + 1 : Nat) : Int) [] := by
 rw [nth_eq _ i (by rw [blkM_len]; exact h)]; simp [blkM]
theorem memR_nil_len (mem : List Sample) (id : Int) : (memR mem id []).length ≤ mem.length := by
 have := memR_len id mem []
 rw [List.length_nil] at this; omega
theorem memR_snoc (l : List Sample) (m : Sample) (id : Int) : memR (l ++ [m]) id [] = insI id (memR l id []) m := by unfold memR; rw [List.foldl_append]; rfl
theorem blkM_set (l : List Sample) (m : Sample) (j : Nat) (hj : j < 6) (hm : m.1 = ((j + 1 : Nat) : Int)) : (blkM l 6).set j (ins m.2 (nth (blkM l 6) j)) = blkM (l ++ [m]) 6 := by
 refine list_ext_nth (by rw [List.length_set, blkM_len, blkM_len]) fun k hk => ?_
 rw [List.length_set, blkM_len] at hk
 rw [blkM_nth _ hk, memR_snoc]
 by_cases e : k = j
 ·subst e
  rw [nth_set_eq (by rw [blkM_len]; exact hk), blkM_nth _ hk]
  unfold insI
  rw [if_pos hm]
 ·rw [nth_set_ne e, blkM_nth _ hk]
  unfold insI
  rw [if_neg (by rw [hm]; omega)]
theorem blkM_nil : (List.replicate (6 : Int).toNat (Zr.z0 : List Row)) = blkM [] 6 := rfl
theorem e_l13Mem (s : Store) (hm : s.2.2.length ≤ 30) (hid : ∀ m ∈ s.2.2, 1 ≤ m.1 ∧ m.1 ≤ 6) : p_spec_l13Mem s = some (memP s.2.2) := by
 have key : lp (p_spec_l13Mem_b0 s) (blkM [] 6, 0) = some (blkM s.2.2 6) := lp_for (body := p_spec_l13Mem_b0 s) (fun k => (blkM (s.2.2.take k) 6, (k : Int))) s.2.2.length (blkM s.2.2 6) (fun k hk => by
  obtain ⟨a1, a2⟩ := hid _ (nth_mem hk)
  obtain ⟨j, hj⟩ : ∃ j : Nat, (nth s.2.2 k).1 = ((j + 1 : Nat) : Int) := ⟨((nth s.2.2 k).1 - 1).toNat, by omega⟩
  have hj6 : j < 6 := by omega
  have e1 : (nth s.2.2 k).1 - 1 = (j : Int) := by omega
  have hb : (nth (blkM (s.2.2.take k) 6) j).length ≤ 30 := by
   rw [blkM_nth _ hj6]
   have := memR_nil_len (s.2.2.take k) ((j + 1 : Nat) : Int)
   rw [List.length_take] at this; omega
  have hasc : Asc (nth (blkM (s.2.2.take k) 6) j) := by rw [blkM_nth _ hj6]; exact memR_asc _ _ _ nil_asc
  unfold p_spec_l13Mem_b0
  rw [dlt hk, cond_true, gd.yes (ixN hk)]
  simp only [Int.toNat_natCast]
  have e2 : ((nth s.2.2 k).1 - 1).toNat = j := by omega
  rw [gd.yes (show ix ((nth s.2.2 k).1 - 1) (blkM (s.2.2.take k) 6).length by rw [blkM_len]; unfold ix; omega), gd.yes (show I64 ((nth s.2.2 k).1 - 1) by unfold I64; omega), e2]
  rw [bd.yes (e_l2Put _ _ (by omega)), l2_ins _ _ hasc, gd.yes (show I64 ((k : Int) + 1) by unfold I64; omega), blkM_set _ _ j hj6 hj, take_succ_nth hk, addI]) (by
  unfold p_spec_l13Mem_b0
  rw [decide_eq_false (show ¬ ((s.2.2.length : Int) < (s.2.2.length : Int)) by omega), cond_false, List.take_length])
 unfold p_spec_l13Mem
 rw [gd.yes (show many 6 by unfold many; omega), blkM_nil, bd.yes key, bd.yes (e_l12Make _ (by rw [blkM_len]; omega) (fun b hb => by
  obtain ⟨i, hi, rfl⟩ := List.mem_iff_getElem.1 hb
  rw [← nth_eq _ i hi, blkM_nth _ (by rw [blkM_len] at hi; exact hi)]
  have := memR_nil_len s.2.2 ((i + 1 : Nat) : Int)
  omega))]
 rfl
theorem e_l11Add' (x : Index) (n : List Tag) (hi : indexB x = true) (hok : nameOk n = true) (hw : Wt.w x.1 ≤ 4194304) (hn : Wt.w n ≤ 4194304) : p_spec_l11Add (indexP x.1) n = some (addP x n) := by
 obtain ⟨h1, h2, h3⟩ := w_names hw
 have hnl : n.length ≤ Wt.w n := wL_le
 have hg := good_of hi
 have h6 := (indexB_canon hi).2.2.1
 unfold addP
 rw [hi, hok]
 show _ = some (if 0 < numP x.1 n x.1.length then (indexP x.1, (numP x.1 n x.1.length : Int), true) else if x.1.length = 6 then (indexP x.1, 0, false) else (indexP (x.1 ++ [n]), (x.1.length : Int) + 1, true))
 unfold p_spec_l11Add
 have ex : (indexP x.1).1 = x.1 := rfl
 rcases e_l11At (indexP x.1) n hg hok hw hn with ⟨k, hk, e1, e2, e3⟩ | ⟨e2, e3⟩
 ·rw [ex] at hk e1 e2
  rw [bd.yes e3, numP_at e1 e2 hk, if_pos (Nat.succ_pos _), decide_eq_true (show (0 : Int) < (k : Int) + 1 by omega), cond_true, addI]
 ·rw [ex] at e2
  rw [bd.yes e3, numP_zero e2, if_neg (Nat.lt_irrefl 0), decide_eq_false (Int.lt_irrefl 0), cond_false, bd.yes (e_spec_NameOk n (by unfold maxLen; omega)), hok, Bool.not_true, cond_false, bd_some, ex]
  by_cases e6 : x.1.length = 6
  ·rw [decide_eq_true (show (6 : Int) ≤ (x.1.length : Int) by omega), cond_true, if_pos e6]
  ·have hgs := good_snoc hg hok
   have hls : (x.1 ++ [n]).length ≤ 4194304 := by rw [List.length_append, List.length_singleton]; omega
   rw [decide_eq_false (show ¬ (6 : Int) ≤ (x.1.length : Int) by omega), cond_false, bd.yes (e_spec_l11Names x.1 h1 (fun m hm => (h2 m hm).1)), gd.yes (by rw [List.length_nil]; unfold room; omega), gd.yes (by unfold room; omega), List.nil_append, bd.yes (e_spec_l11Of hgs hls (fun m hm => by have := goodN_len hgs m hm; omega)), if_neg e6]
   have : ((indexP (x.1 ++ [n])).1.length : Int) = (x.1.length : Int) + 1 := by
    show ((x.1 ++ [n]).length : Int) = _
    rw [List.length_append, List.length_singleton]; omega
   rw [this]
def nums (d : Disk) : List Int := d.1.map (·.1)
def atF (d : Disk) (num : Int) : Int := place (nums d) num
theorem nums_len (d : Disk) : (nums d).length = d.1.length := List.length_map ..
theorem nums_nth (d : Disk) {k : Nat} (hk : k < d.1.length) : nth (nums d) k = (nth d.1 k).1 := by
 rw [nth_eq _ k (by rw [nums_len]; exact hk), nth_eq _ k hk]; exact List.getElem_map ..
theorem atF_lt {d : Disk} {num : Int} : atF d num < 0 ∨ ∃ k, k < d.1.length ∧ atF d num = (k : Int) := by
 have := place_lt (l := nums d) (id := num)
 rwa [nums_len] at this
theorem atF_no {d : Disk} {num : Int} (h : allN d.1.length (fun k => decide ((nth d.1 k).1 = num)) = true) : atF d num = -1 :=
 place_no (allN_iff.2 fun k hk => by
  rw [nums_len] at hk
  rw [nums_nth d hk]; exact allN_iff.1 h k hk)
theorem atF_yes {d : Disk} {num : Int} {k : Nat} (hk : k < d.1.length) (h : decide ((nth d.1 k).1 = num) = true) (h2 : ∀ i, i < k → decide ((nth d.1 i).1 = num) = false) : atF d num = (k : Int) :=
 place_yes (by rw [nums_len]; exact hk) (by rw [nums_nth d hk]; exact h) (fun i hi => by rw [nums_nth d (by omega)]; exact h2 i hi)
theorem e_impl_file (d : Disk) (num : Int) (hl : d.1.length ≤ 1048576) : p_impl_Disk_file d num = some (atF d num) := by
 have hr : ∀ k, k < d.1.length → p_slices_IndexFunc_File_File_Disk_file_1_b0 d.1 num (k : Int) = some (if decide ((nth d.1 k).1 = num) then .inr (.inr (k : Int)) else .inl ((k + 1 : Nat) : Int)) := fun k hk => by
  unfold p_slices_IndexFunc_File_File_Disk_file_1_b0 p_impl_Disk_file_1
  rw [dlt hk, cond_true, gd.yes (ixN hk)]
  simp only [Int.toNat_natCast]
  rw [gd.yes (show I64 ((k : Int) + 1) by unfold I64; omega), addI, bd_some]
  by_cases h : (nth d.1 k).1 = num <;> simp [h]
 unfold p_impl_Disk_file p_slices_IndexFunc_File_File_Disk_file_1
 rcases lp_scan (body := p_slices_IndexFunc_File_File_Disk_file_1_b0 d.1 num) (fun k => (k : Int)) d.1.length (fun k => decide ((nth d.1 k).1 = num)) (.inl ()) (fun k => .inr (k : Int)) (fun k hk _ h => by rw [hr k hk, h]; rfl) (fun k hk _ h => by rw [hr k hk, if_pos h]) (fun _ => by unfold p_slices_IndexFunc_File_File_Disk_file_1_b0; rw [decide_eq_false (show ¬ ((d.1.length : Int) < (d.1.length : Int)) by omega)]; rfl) with ⟨h1, h2⟩ | ⟨h1, k, hk, hb, hn, h2⟩
 ·rw [show (lp (p_slices_IndexFunc_File_File_Disk_file_1_b0 d.1 num) 0) = _ from h2, atF_no h1]; rfl
 ·rw [show (lp (p_slices_IndexFunc_File_File_Disk_file_1_b0 d.1 num) 0) = _ from h2, atF_yes hk hb hn]; rfl
theorem e_spec_l21At (d : Disk) (num : Int) (hl : d.1.length ≤ 1048576) : p_spec_l21At d num = some (atF d num) := by
 have hr : ∀ k, k < d.1.length → p_spec_l21At_b0 d num (k : Int) = some (if decide ((nth d.1 k).1 = num) then .inr (.inr (k : Int)) else .inl ((k + 1 : Nat) : Int)) := fun k hk => by
  unfold p_spec_l21At_b0
  rw [dlt hk, cond_true, gd.yes (ixN hk)]
  simp only [Int.toNat_natCast]
  rw [gd.yes (show I64 ((k : Int) + 1) by unfold I64; omega), addI]
  by_cases h : (nth d.1 k).1 = num <;> simp [h]
 unfold p_spec_l21At
 rcases lp_scan (body := p_spec_l21At_b0 d num) (fun k => (k : Int)) d.1.length (fun k => decide ((nth d.1 k).1 = num)) (.inl ()) (fun k => .inr (k : Int)) (fun k hk _ h => by rw [hr k hk, h]; rfl) (fun k hk _ h => by rw [hr k hk, if_pos h]) (fun _ => by unfold p_spec_l21At_b0; rw [decide_eq_false (show ¬ ((d.1.length : Int) < (d.1.length : Int)) by omega)]; rfl) with ⟨h1, h2⟩ | ⟨h1, k, hk, hb, hn, h2⟩
 ·rw [show (lp (p_spec_l21At_b0 d num) 0) = _ from h2, atF_no h1]; rfl
 ·rw [show (lp (p_spec_l21At_b0 d num) 0) = _ from h2, atF_yes hk hb hn]; rfl
def fileBad (d : Disk) (k : Nat) : Bool := !inn 1 (nth d.1 k).1 (d.2.2.2 - 1) || ((decide (0 < k) && decide ((nth d.1 k).1 ≤ (nth d.1 (k - 1)).1)) || !partOk (nth d.1 k).2)
def listBad (d : Disk) (k : Nat) : Bool := decide (atF d (nth d.2.1 k) < 0) || !allN k (fun j => decide (nth d.2.1 j = nth d.2.1 k))
def partsOf (d : Disk) : List Part := d.2.1.map fun n => (nth d.1 (atF d n).toNat).2
def openS (d : Disk) : Store := (indexP d.2.2.1, partsOf d, [])
def diskB (d : Disk) : Bool := inn 1 d.2.2.2 999 && (decide (d.1.length ≤ 20) && (decide (d.2.1.length ≤ 6) && (allN d.1.length (fileBad d) && (allN d.2.1.length (listBad d) && storeB (openS d)))))
structure okD (d : Disk) : Prop where
 w : Wt.w d.2.2.1 ≤ 4194304
 fl : d.1.length ≤ 1048576
 ll : d.2.1.length ≤ 1048576
 f : ∀ f ∈ d.1, Dp.ok f.2 ∧ Wt.w f.2 ≤ 1048576
theorem postsW_any {names : List (List Tag)} (hw : Wt.w names ≤ 4194304) : postsW (indexP names).2 := by
 obtain ⟨h1, h2, h3⟩ := w_names hw
 have hb := (e_posts names h1 h3 names.length (Nat.le_refl _)).1
 have hp : (indexP names).2.Perm (postsF names names.length) := List.mergeSort_perm _ _
 refine ⟨by rw [hp.length_eq]; have := hb.1; omega, fun k hk => ?_⟩
 have := hb.2 _ (hp.mem_iff.1 (nth_mem hk))
 omega
theorem partsOf_len (d : Disk) : (partsOf d).length = d.2.1.length := List.length_map ..
theorem partsOf_nth (d : Disk) {k : Nat} (hk : k < d.2.1.length) : nth (partsOf d) k = (nth d.1 (atF d (nth d.2.1 k)).toNat).2 := by
 rw [nth_eq _ k (by rw [partsOf_len]; exact hk), nth_eq _ k hk]; exact List.getElem_map ..
theorem okS_open {d : Disk} (h : okD d) (hl : ∀ k, k < d.2.1.length → 0 ≤ atF d (nth d.2.1 k)) : okS (openS d) := by
 refine ⟨h.w, postsW_any h.w, by show (partsOf d).length ≤ _; rw [partsOf_len]; exact h.ll, Nat.zero_le _, fun p hp => ?_⟩
 obtain ⟨k, hk, rfl⟩ := List.mem_iff_getElem.1 (show p ∈ partsOf d from hp)
 have hk2 : k < d.2.1.length := by rw [← partsOf_len]; exact hk
 rw [← nth_eq _ k hk, partsOf_nth d hk2]
 rcases atF_lt (d := d) (num := nth d.2.1 k) with h0 | ⟨j, hj, e⟩
 ·have := hl k hk2; omega
 ·rw [e, Int.toNat_natCast]; exact h.f _ (nth_mem hj)
theorem listBad_at {d : Disk} (h : allN d.2.1.length (listBad d) = true) : ∀ k, k < d.2.1.length → 0 ≤ atF d (nth d.2.1 k) := fun k hk => by
 have := allN_iff.1 h k hk
 unfold listBad at this
 simp only [Bool.or_eq_false_iff, decide_eq_false_iff_not] at this
 omega
theorem fileBad_part {d : Disk} (h : allN d.1.length (fileBad d) = true) : ∀ f ∈ d.1, partOk f.2 = true := fun f hf => by
 obtain ⟨i, hi, rfl⟩ := List.mem_iff_getElem.1 hf
 have := allN_iff.1 h i hi
 rw [← nth_eq _ i hi]
 unfold fileBad at this
 simp only [Bool.or_eq_false_iff, Bool.not_eq_false'] at this
 exact this.2.2
theorem e_impl_open (d : Disk) (h : okD d) (hf : ∀ f ∈ d.1, partOk f.2 = true) (hl : ∀ k, k < d.2.1.length → 0 ≤ atF d (nth d.2.1 k)) : p_impl_Disk_open d = some (openS d) := by
 obtain ⟨h1, h2, h3⟩ := w_names h.w
 have hll := h.ll
 have hfl := h.fl
 have key : lp (p_impl_Disk_open_b0 d) (([] : List Part), 0) = some (partsOf d) := lp_for (body := p_impl_Disk_open_b0 d) (fun k => ((partsOf d).take k, (k : Int))) d.2.1.length (partsOf d) (fun k hk => by
  rcases atF_lt (d := d) (num := nth d.2.1 k) with h0 | ⟨j, hj, e⟩
  ·have := hl k hk; omega
  ·obtain ⟨a, b, c⟩ := partOk_le (hf _ (nth_mem hj))
   have hlt : ((partsOf d).take k).length ≤ k := by rw [List.length_take]; omega
   unfold p_impl_Disk_open_b0
   rw [dlt hk, cond_true, gd.yes (ixN hk)]
   simp only [Int.toNat_natCast]
   rw [bd.yes (e_impl_file d _ hfl), gd.yes (show ix (atF d (nth d.2.1 k)) d.1.length by rw [e]; exact ixN hj), e, Int.toNat_natCast, bd.yes (e_clonePart _ a b c), gd.yes (show room (((partsOf d).take k).length + 1) by unfold room; omega), gd.yes (show I64 ((k : Int) + 1) by unfold I64; omega), take_succ_nth (show k < (partsOf d).length by rw [partsOf_len]; exact hk), partsOf_nth d hk, e, Int.toNat_natCast, addI]) (by
  unfold p_impl_Disk_open_b0
  rw [decide_eq_false (show ¬ ((d.2.1.length : Int) < (d.2.1.length : Int)) by omega), cond_false, ← partsOf_len, List.take_length])
 unfold p_impl_Disk_open
 rw [bd.yes (e_indexOf d.2.2.1 h1 h3), bd.yes key]; rfl
theorem e_l11Of_any (names : List (List Tag)) (h1 : names.length ≤ 4194304) (h2 : ∀ n ∈ names, n.length ≤ 4194304) : p_spec_l11Of names = some (names, allE names 4) := by
 unfold p_spec_l11Of
 have h0 : (([] : List Post), (97 : Int)) = (allE names 0, (97 : Int) + ((0 : Nat) : Int)) := rfl
 rw [h0, bd.yes (lp_for (body := p_spec_l11Of_b0 names) (fun i => (allE names i, (97 : Int) + (i : Int))) 4 (allE names 4) (fun i hi => by
  have hl := allE_len names i
  unfold p_spec_l11Of_b0
  rw [decide_eq_true (show (97 : Int) + (i : Int) ≤ 100 by omega), cond_true, bd.yes (e_rowE names i hi _ (by omega) h1 h2), gd.yes (by unfold I32; omega), allE_succ, show (97 : Int) + (i : Int) + 1 = 97 + ((i + 1 : Nat) : Int) by omega]) (by
  unfold p_spec_l11Of_b0; rw [decide_eq_false (show ¬ ((97 : Int) + ((4 : Nat) : Int) ≤ 100) by omega)]; rfl)), bd.yes (e_spec_l11Names names h1 h2)]
theorem postsW_all {names : List (List Tag)} (h1 : names.length ≤ 4194304) : postsW (allE names 4) := by
 have hl := allE_len names 4
 refine ⟨by omega, fun k hk => ?_⟩
 obtain ⟨i, j, _, _, hp⟩ := allE_mem (nth_mem hk)
 obtain ⟨e1, e2⟩ := cell_mem hp
 rw [e1]
 have := idsN_len names (tg i j) names.length
 show (idsN names (tg i j) names.length).length ≤ _
 omega
theorem e_spec_open (d : Disk) (h : okD d) (hl : ∀ k, k < d.2.1.length → 0 ≤ atF d (nth d.2.1 k)) : p_spec_l21Open d = some ((d.2.2.1, allE d.2.2.1 4), partsOf d, []) := by
 obtain ⟨h1, h2, h3⟩ := w_names h.w
 have hll := h.ll
 have hfl := h.fl
 have key : lp (p_spec_l21Open_b0 d) (([] : List Part), 0) = some (partsOf d) := lp_for (body := p_spec_l21Open_b0 d) (fun k => ((partsOf d).take k, (k : Int))) d.2.1.length (partsOf d) (fun k hk => by
  rcases atF_lt (d := d) (num := nth d.2.1 k) with h0 | ⟨j, hj, e⟩
  ·have := hl k hk; omega
  ·have hlt : ((partsOf d).take k).length ≤ k := by rw [List.length_take]; omega
   unfold p_spec_l21Open_b0
   rw [dlt hk, cond_true, gd.yes (ixN hk)]
   simp only [Int.toNat_natCast]
   rw [bd.yes (e_spec_l21At d _ hfl), gd.yes (show ix (atF d (nth d.2.1 k)) d.1.length by rw [e]; exact ixN hj), e, Int.toNat_natCast, gd.yes (show room (((partsOf d).take k).length + 1) by unfold room; omega), gd.yes (show I64 ((k : Int) + 1) by unfold I64; omega), take_succ_nth (show k < (partsOf d).length by rw [partsOf_len]; exact hk), partsOf_nth d hk, e, Int.toNat_natCast, addI]) (by
  unfold p_spec_l21Open_b0
  rw [decide_eq_false (show ¬ ((d.2.1.length : Int) < (d.2.1.length : Int)) by omega), cond_false, ← partsOf_len, List.take_length])
 unfold p_spec_l21Open
 rw [bd.yes (e_l11Of_any d.2.2.1 h1 (fun n hn => (h2 n hn).1)), bd.yes key]
theorem good_all {names : List (List Tag)} (h : goodN names) : allE names 4 = (indexP names).2 := canon_eq (canon_all h) (canon_posts (goodN_dist h))
theorem namesB_good {names : List (List Tag)} (h : namesB names = true) : goodN names := good_of (x := indexP names) (indexB_P h)
theorem storeB_names {names : List (List Tag)} (P : List Post) (parts : List Part) (mem : List Sample) (h : namesB names = false) : storeB ((names, P), parts, mem) = false := by
 unfold storeB indexB
 rw [show (((names, P), parts, mem) : Store).1.1 = names from rfl, h]; rfl
theorem storeB_all (names : List (List Tag)) (parts : List Part) (mem : List Sample) : storeB ((names, allE names 4), parts, mem) = storeB (indexP names, parts, mem) := by
 cases hb : namesB names with
 | false => rw [storeB_names _ _ _ hb]; exact (storeB_names (indexP names).2 parts mem hb).symm
 | true => rw [good_all (namesB_good hb)]; rfl
theorem place_take (l : List Int) (x : Int) (k : Nat) (hk : k ≤ l.length) : decide (0 ≤ place (l.take k) x) = !allN k (fun j => decide (nth l j = x)) := by
 have hl : (l.take k).length = k := by rw [List.length_take]; omega
 have hn : ∀ j, j < k → nth (l.take k) j = nth l j := fun j hj => by
  rw [nth_eq _ j (by omega), List.getElem_take, ← nth_eq l j (by omega)]
 have ea : allN (l.take k).length (fun j => decide (nth (l.take k) j = x)) = allN k (fun j => decide (nth l j = x)) := by
  rw [hl]
  exact allN_congr fun j hj => by rw [hn j hj]
 cases hc : allN k (fun j => decide (nth l j = x)) with
 | true => rw [place_no (ea.trans hc)]; rfl
 | false =>
  obtain ⟨j, hj, b1, b2⟩ := first_bad (ea.trans hc)
  rw [place_yes hj b1 b2]
  simp
theorem e_Contains (l : List Int) (x : Int) (hl : l.length ≤ 9223372036854775807) : p_slices_Contains_int_int l x = some (decide (0 ≤ place l x)) := by
 unfold p_slices_Contains_int_int
 rw [bd.yes (e_Index l x hl)]
theorem e_impl_files (d : Disk) (h : okD d) (hn : inn 1 d.2.2.2 999 = true) : lp (p_impl_DiskOk_b0 d) 0 = some (if allN d.1.length (fileBad d) then .inl () else .inr false) := by
 have hfl := h.fl
 have hnx : 1 ≤ d.2.2.2 ∧ d.2.2.2 ≤ 999 := by unfold inn at hn; simpa using hn
 have hr : ∀ k, k < d.1.length → p_impl_DiskOk_b0 d (k : Int) = some (if fileBad d k then .inr (.inr false) else .inl ((k + 1 : Nat) : Int)) := fun k hk => by
  have hp := e_impl_PartOk (nth d.1 k).2 (h.f _ (nth_mem hk)).1
  unfold p_impl_DiskOk_b0 fileBad
  rw [dlt hk, cond_true, gd.yes (ixN hk)]
  simp only [Int.toNat_natCast]
  rw [gd.yes (show I64 (d.2.2.2 - 1) by unfold I64; omega), bd.yes (e_impl_within _ _ _), gd.yes (show I64 ((k : Int) + 1) by unfold I64; omega), addI]
  cases inn 1 (nth d.1 k).1 (d.2.2.2 - 1) with
  | false => rfl
  | true =>
   rw [Bool.not_true, cond_false, Bool.false_or]
   by_cases h0 : 0 < k
   ·have e1 : (k : Int) - 1 = ((k - 1 : Nat) : Int) := by omega
    rw [decide_eq_true (show (0 : Int) < (k : Int) by omega), cond_true, decide_eq_true h0, Bool.true_and, gd.yes (show I64 ((k : Int) - 1) by unfold I64; omega), gd.yes (show ix ((k : Int) - 1) d.1.length by unfold ix; omega), e1, Int.toNat_natCast]
    by_cases hq : (nth d.1 k).1 ≤ (nth d.1 (k - 1)).1
    ·rw [decide_eq_true hq]; rfl
    ·rw [decide_eq_false hq, cond_false, Bool.false_or, bd.yes hp]
     cases partOk (nth d.1 k).2 <;> rfl
   ·rw [decide_eq_false (show ¬ (0 : Int) < (k : Int) by omega), cond_false, decide_eq_false h0, Bool.false_and, Bool.false_or, bd.yes hp]
    cases partOk (nth d.1 k).2 <;> rfl
 rcases lp_scan (body := p_impl_DiskOk_b0 d) (fun k => (k : Int)) d.1.length (fileBad d) (.inl ()) (fun _ => .inr false) (fun k hk _ h => by rw [hr k hk, h]; rfl) (fun k hk _ h => by rw [hr k hk, h]; rfl) (fun _ => by unfold p_impl_DiskOk_b0; rw [decide_eq_false (show ¬ ((d.1.length : Int) < (d.1.length : Int)) by omega)]; rfl) with ⟨h1, h2⟩ | ⟨h1, k, _, _, _, h2⟩
 ·rw [show (lp (p_impl_DiskOk_b0 d) 0) = _ from h2, h1]; rfl
 ·rw [show (lp (p_impl_DiskOk_b0 d) 0) = _ from h2, h1]; rfl
theorem e_spec_files (d : Disk) (h : okD d) (hn : inn 1 d.2.2.2 999 = true) : lp (p_spec_DiskOk_b0 d) 0 = some (if allN d.1.length (fileBad d) then .inl () else .inr false) := by
 have hfl := h.fl
 have hnx : 1 ≤ d.2.2.2 ∧ d.2.2.2 ≤ 999 := by unfold inn at hn; simpa using hn
 have hr : ∀ k, k < d.1.length → p_spec_DiskOk_b0 d (k : Int) = some (if fileBad d k then .inr (.inr false) else .inl ((k + 1 : Nat) : Int)) := fun k hk => by
  have hp := e_spec_PartOk (nth d.1 k).2 (h.f _ (nth_mem hk)).1
  unfold p_spec_DiskOk_b0 fileBad
  rw [dlt hk, cond_true, gd.yes (ixN hk)]
  simp only [Int.toNat_natCast]
  rw [gd.yes (show I64 (d.2.2.2 - 1) by unfold I64; omega), bd.yes (e_spec_l6In _ _ _), gd.yes (show I64 ((k : Int) + 1) by unfold I64; omega), addI]
  cases inn 1 (nth d.1 k).1 (d.2.2.2 - 1) with
  | false => rfl
  | true =>
   rw [Bool.not_true, cond_false, Bool.false_or]
   by_cases h0 : 0 < k
   ·have e1 : (k : Int) - 1 = ((k - 1 : Nat) : Int) := by omega
    rw [decide_eq_true (show (0 : Int) < (k : Int) by omega), cond_true, decide_eq_true h0, Bool.true_and, gd.yes (show I64 ((k : Int) - 1) by unfold I64; omega), gd.yes (show ix ((k : Int) - 1) d.1.length by unfold ix; omega), e1, Int.toNat_natCast]
    by_cases hq : (nth d.1 k).1 ≤ (nth d.1 (k - 1)).1
    ·rw [decide_eq_true hq]; rfl
    ·rw [decide_eq_false hq, cond_false, Bool.false_or, bd.yes hp]
     cases partOk (nth d.1 k).2 <;> rfl
   ·rw [decide_eq_false (show ¬ (0 : Int) < (k : Int) by omega), cond_false, decide_eq_false h0, Bool.false_and, Bool.false_or, bd.yes hp]
    cases partOk (nth d.1 k).2 <;> rfl
 rcases lp_scan (body := p_spec_DiskOk_b0 d) (fun k => (k : Int)) d.1.length (fileBad d) (.inl ()) (fun _ => .inr false) (fun k hk _ h => by rw [hr k hk, h]; rfl) (fun k hk _ h => by rw [hr k hk, h]; rfl) (fun _ => by unfold p_spec_DiskOk_b0; rw [decide_eq_false (show ¬ ((d.1.length : Int) < (d.1.length : Int)) by omega)]; rfl) with ⟨h1, h2⟩ | ⟨h1, k, _, _, _, h2⟩
 ·rw [show (lp (p_spec_DiskOk_b0 d) 0) = _ from h2, h1]; rfl
 ·rw [show (lp (p_spec_DiskOk_b0 d) 0) = _ from h2, h1]; rfl
theorem e_impl_list (d : Disk) (h : okD d) : lp (p_impl_DiskOk_b1 d) 0 = some (if allN d.2.1.length (listBad d) then .inl () else .inr false) := by
 have hfl := h.fl
 have hll := h.ll
 have hr : ∀ k, k < d.2.1.length → p_impl_DiskOk_b1 d (k : Int) = some (if listBad d k then .inr (.inr false) else .inl ((k + 1 : Nat) : Int)) := fun k hk => by
  unfold p_impl_DiskOk_b1 listBad
  rw [dlt hk, cond_true, gd.yes (ixN hk)]
  simp only [Int.toNat_natCast]
  rw [bd.yes (e_impl_file d _ hfl), gd.yes (show I64 ((k : Int) + 1) by unfold I64; omega), addI]
  by_cases h0 : atF d (nth d.2.1 k) < 0
  ·rw [decide_eq_true h0]; rfl
  ·rw [decide_eq_false h0, cond_false, Bool.false_or, gd.yes (show sl2 0 (k : Int) d.2.1.length by unfold sl2; omega), List.drop_zero, bd.yes (e_Contains _ _ (by rw [List.length_take]; omega)), place_take _ _ _ (by omega)]
   cases allN k (fun j => decide (nth d.2.1 j = nth d.2.1 k)) <;> rfl
 rcases lp_scan (body := p_impl_DiskOk_b1 d) (fun k => (k : Int)) d.2.1.length (listBad d) (.inl ()) (fun _ => .inr false) (fun k hk _ h => by rw [hr k hk, h]; rfl) (fun k hk _ h => by rw [hr k hk, h]; rfl) (fun _ => by unfold p_impl_DiskOk_b1; rw [decide_eq_false (show ¬ ((d.2.1.length : Int) < (d.2.1.length : Int)) by omega)]; rfl) with ⟨h1, h2⟩ | ⟨h1, k, _, _, _, h2⟩
 ·rw [show (lp (p_impl_DiskOk_b1 d) 0) = _ from h2, h1]; rfl
 ·rw [show (lp (p_impl_DiskOk_b1 d) 0) = _ from h2, h1]; rfl
theorem e_spec_twice (d : Disk) (k : Nat) (hk : k < d.2.1.length) (hll : d.2.1.length ≤ 1048576) : lp (p_spec_DiskOk_b2 d (k : Int)) 0 = some (if allN k (fun j => decide (nth d.2.1 j = nth d.2.1 k)) then .inl () else .inr false) := by
 have hr : ∀ j, j < k → p_spec_DiskOk_b2 d (k : Int) (j : Int) = some (if decide (nth d.2.1 j = nth d.2.1 k) then .inr (.inr false) else .inl ((j + 1 : Nat) : Int)) := fun j hj => by
  unfold p_spec_DiskOk_b2
  rw [decide_eq_true (show (j : Int) < (k : Int) by omega), cond_true, gd.yes (ixN (show j < d.2.1.length by omega))]
  simp only [Int.toNat_natCast]
  rw [gd.yes (show I64 ((j : Int) + 1) by unfold I64; omega), addI]
  cases decide (nth d.2.1 j = nth d.2.1 k) <;> rfl
 rcases lp_scan (body := p_spec_DiskOk_b2 d (k : Int)) (fun j => (j : Int)) k (fun j => decide (nth d.2.1 j = nth d.2.1 k)) (.inl ()) (fun _ => .inr false) (fun k hk _ h => by rw [hr k hk, h]; rfl) (fun k hk _ h => by rw [hr k hk, if_pos h]) (fun _ => by unfold p_spec_DiskOk_b2; rw [decide_eq_false (show ¬ ((k : Int) < (k : Int)) by omega)]; rfl) with ⟨h1, h2⟩ | ⟨h1, _, _, _, _, h2⟩
 ·rw [show (lp (p_spec_DiskOk_b2 d (k : Int)) 0) = _ from h2, h1]; rfl
 ·rw [show (lp (p_spec_DiskOk_b2 d (k : Int)) 0) = _ from h2, h1]; rfl
theorem e_spec_list (d : Disk) (h : okD d) : lp (p_spec_DiskOk_b1 d) 0 = some (if allN d.2.1.length (listBad d) then .inl () else .inr false) := by
 have hfl := h.fl
 have hll := h.ll
 have hr : ∀ k, k < d.2.1.length → p_spec_DiskOk_b1 d (k : Int) = some (if listBad d k then .inr (.inr false) else .inl ((k + 1 : Nat) : Int)) := fun k hk => by
  unfold p_spec_DiskOk_b1 listBad
  rw [dlt hk, cond_true, gd.yes (ixN hk)]
  simp only [Int.toNat_natCast]
  rw [bd.yes (e_spec_l21At d _ hfl), gd.yes (show I64 ((k : Int) + 1) by unfold I64; omega), addI]
  by_cases h0 : atF d (nth d.2.1 k) < 0
  ·rw [decide_eq_true h0]; rfl
  ·rw [decide_eq_false h0, cond_false, Bool.false_or, e_spec_twice d k hk hll]
   cases allN k (fun j => decide (nth d.2.1 j = nth d.2.1 k)) <;> rfl
 rcases lp_scan (body := p_spec_DiskOk_b1 d) (fun k => (k : Int)) d.2.1.length (listBad d) (.inl ()) (fun _ => .inr false) (fun k hk _ h => by rw [hr k hk, h]; rfl) (fun k hk _ h => by rw [hr k hk, h]; rfl) (fun _ => by unfold p_spec_DiskOk_b1; rw [decide_eq_false (show ¬ ((d.2.1.length : Int) < (d.2.1.length : Int)) by omega)]; rfl) with ⟨h1, h2⟩ | ⟨h1, k, _, _, _, h2⟩
 ·rw [show (lp (p_spec_DiskOk_b1 d) 0) = _ from h2, h1]; rfl
 ·rw [show (lp (p_spec_DiskOk_b1 d) 0) = _ from h2, h1]; rfl
theorem e_impl_DiskOk (d : Disk) (h : okD d) : p_impl_DiskOk d = some (diskB d) := by
 unfold p_impl_DiskOk diskB
 rw [bd.yes (e_impl_within _ _ _)]
 cases hn : inn 1 d.2.2.2 999 with
 | false => rfl
 | true =>
  rw [Bool.not_true, cond_false, Bool.true_and]
  by_cases h20 : d.1.length ≤ 20
  ·rw [decide_eq_false (show ¬ (20 : Int) < (d.1.length : Int) by omega), cond_false, decide_eq_true h20, Bool.true_and]
   by_cases h6 : d.2.1.length ≤ 6
   ·rw [decide_eq_false (show ¬ (6 : Int) < (d.2.1.length : Int) by omega), bd_some, cond_false, decide_eq_true h6, Bool.true_and, e_impl_files d h hn]
    cases hf : allN d.1.length (fileBad d) with
    | false => rfl
    | true =>
     rw [if_pos rfl, bd_swl, Bool.true_and, e_impl_list d h]
     cases hl : allN d.2.1.length (listBad d) with
     | false => rfl
     | true =>
      have hat := listBad_at hl
      rw [if_pos rfl, bd_swl, Bool.true_and, bd.yes (e_impl_open d h (fileBad_part hf) hat), bd.yes (e_impl_StoreOk _ (okS_open h hat))]
   ·rw [decide_eq_true (show (6 : Int) < (d.2.1.length : Int) by omega), bd_some, cond_true, decide_eq_false h6]; rfl
  ·rw [decide_eq_true (show (20 : Int) < (d.1.length : Int) by omega), cond_true, decide_eq_false h20]; rfl
theorem e_spec_DiskOk (d : Disk) (h : okD d) : p_spec_DiskOk d = some (diskB d) := by
 unfold p_spec_DiskOk diskB
 rw [bd.yes (e_spec_l6In _ _ _)]
 cases hn : inn 1 d.2.2.2 999 with
 | false => rfl
 | true =>
  rw [Bool.not_true, cond_false, Bool.true_and]
  by_cases h20 : d.1.length ≤ 20
  ·rw [decide_eq_false (show ¬ (20 : Int) < (d.1.length : Int) by omega), cond_false, decide_eq_true h20, Bool.true_and]
   by_cases h6 : d.2.1.length ≤ 6
   ·rw [decide_eq_false (show ¬ (6 : Int) < (d.2.1.length : Int) by omega), cond_false, decide_eq_true h6, Bool.true_and]
    by_cases hm : d.2.2.1.length ≤ 6
    ·rw [decide_eq_false (show ¬ (6 : Int) < (d.2.2.1.length : Int) by omega), bd_some, cond_false, e_spec_files d h hn]
     cases hf : allN d.1.length (fileBad d) with
     | false => rfl
     | true =>
      rw [if_pos rfl, bd_swl, Bool.true_and, e_spec_list d h]
      cases hl : allN d.2.1.length (listBad d) with
      | false => rfl
      | true =>
       have hat := listBad_at hl
       have hok := okS_open h hat
       have hok2 : okS ((d.2.2.1, allE d.2.2.1 4), partsOf d, []) := ⟨h.w, postsW_all (by omega), hok.pl, hok.ml, hok.p⟩
       rw [if_pos rfl, bd_swl, Bool.true_and, bd.yes (e_spec_open d h hat), bd.yes (e_spec_StoreOk _ hok2), storeB_all]; rfl
    ·have hz : storeB (openS d) = false := storeB_names _ _ _ (by unfold namesB; rw [decide_eq_false (show ¬ (d.2.2.1.length : Int) ≤ 6 by omega), Bool.and_false])
     rw [decide_eq_true (show (6 : Int) < (d.2.2.1.length : Int) by omega), bd_some, cond_true, hz, Bool.and_false, Bool.and_false]
   ·rw [decide_eq_true (show (6 : Int) < (d.2.1.length : Int) by omega), cond_true, decide_eq_false h6]; rfl
  ·rw [decide_eq_true (show (20 : Int) < (d.1.length : Int) by omega), cond_true, decide_eq_false h20]; rfl
theorem diskB_parts {d : Disk} (h : diskB d = true) : inn 1 d.2.2.2 999 = true ∧ d.1.length ≤ 20 ∧ d.2.1.length ≤ 6 ∧ allN d.1.length (fileBad d) = true ∧ allN d.2.1.length (listBad d) = true ∧ storeB (openS d) = true := by
 unfold diskB at h
 simp only [Bool.and_eq_true, decide_eq_true_eq] at h
 exact h
def tagT (t : Tag) : ByteArray := (t.1 ++ (⟨#[61]⟩ : ByteArray)) ++ t.2
def bl (b : ByteArray) : List UInt8 := b.data.toList
theorem bl_inj {a b : ByteArray} (h : bl a = bl b) : a = b := ByteArray.ext (Array.toList_inj.1 h)
theorem bl_app (a b : ByteArray) : bl (a ++ b) = bl a ++ bl b := by simp [bl]
theorem bl_len (b : ByteArray) : (bl b).length = b.size := rfl
theorem s2_len (l : List UInt8) : (s2 l).size = l.length := rfl
theorem bl_extract (b : ByteArray) (i j : Nat) : bl (b.extract i j) = ((bl b).take j).drop i := by
 unfold bl
 rw [ByteArray.data_extract, Array.toList_extract]
 simp [List.extract_eq_take_drop, List.drop_take]
theorem s2_extract (l : List UInt8) (i j : Nat) : (s2 l).extract i j = s2 ((l.take j).drop i) := bl_inj (bl_extract _ _ _)
theorem s2_cat (a b : List UInt8) : s2 a ++ s2 b = s2 (a ++ b) := bl_inj (bl_app _ _)
def consH (b : UInt8) : List (List UInt8) → List (List UInt8)
 | [] => [[b]]
 | w :: ws => (b :: w) :: ws
def spl (c : UInt8) : List UInt8 → List (List UInt8)
 | [] => [[]]
 | b :: l => if b = c then [] :: spl c l else consH b (spl c l)
theorem spl_ne (c : UInt8) : ∀ l, spl c l ≠ []
 | [] => by simp [spl]
 | b :: l => by
  unfold spl
  split
  ·simp
  ·cases spl c l <;> simp [consH]
theorem idx_yes (c : UInt8) : ∀ l : List UInt8, c ∈ l → ∃ m : Nat, Lib.indexByte l c = (m : Int) ∧ m < l.length ∧ spl c l = l.take m :: spl c (l.drop (m + 1)) ∧ l.count c = (l.drop (m + 1)).count c + 1
 | [], h => nomatch h
 | b :: l, h => by
  by_cases e : b = c
  ·subst e
   exact ⟨0, by simp [Lib.indexByte], by simp, by simp [spl], by simp⟩
  ·have h' : c ∈ l := by
    rcases List.mem_cons.1 h with h | h
    ·exact absurd h.symm e
    ·exact h
   obtain ⟨m, h1, h2, h3, h4⟩ := idx_yes c l h'
   refine ⟨m + 1, ?_, by simp only [List.length_cons]; omega, ?_, ?_⟩
   ·have e2 : (b == c) = false := by simpa using e
    have e3 : (Lib.indexByte l c == -1) = false := by rw [h1]; simp
    unfold Lib.indexByte
    rw [e2, e3, h1]; rfl
   ·show (if b = c then [] :: spl c l else consH b (spl c l)) = _
    rw [if_neg e, h3]; rfl
   ·rw [List.drop_succ_cons, List.count_cons, h4]; simp [e]
theorem idx_no (c : UInt8) : ∀ l : List UInt8, c ∉ l → Lib.indexByte l c = -1 ∧ spl c l = [l] ∧ l.count c = 0
 | [], _ => ⟨rfl, rfl, rfl⟩
 | b :: l, h => by
  have e : b ≠ c := fun e => h (e ▸ List.mem_cons_self ..)
  obtain ⟨h1, h2, h3⟩ := idx_no c l (fun hm => h (List.mem_cons_of_mem _ hm))
  have e2 : (b == c) = false := by simpa using e
  refine ⟨?_, ?_, ?_⟩
  ·unfold Lib.indexByte
   rw [e2, h1]; rfl
  ·show (if b = c then [] :: spl c l else consH b (spl c l)) = _
   rw [if_neg e, h2]; rfl
  ·rw [List.count_cons, h3]; simp [e]
theorem spl_len (c : UInt8) (k : Nat) : ∀ l : List UInt8, l.count c = k → (spl c l).length = k + 1 := by
 induction k with
 | zero =>
  intro l h
  rw [(idx_no c l (fun hm => absurd (List.count_pos_iff.2 hm) (by omega))).2.1]; rfl
 | succ k ih =>
  intro l h
  obtain ⟨m, _, _, h3, h4⟩ := idx_yes c l (List.count_pos_iff.1 (by omega))
  rw [h3, List.length_cons, ih _ (by omega)]
theorem spl_word (c : UInt8) : ∀ (l : List UInt8), ∀ w ∈ spl c l, w.length ≤ l.length
 | [], w, h => by
  rw [List.mem_singleton.1 h]; exact Nat.le_refl _
 | b :: l, w, h => by
  have ih := spl_word c l
  unfold spl at h
  split at h
  ·rcases List.mem_cons.1 h with h | h
   ·rw [h]; exact Nat.zero_le _
   ·have := ih w h; rw [List.length_cons]; omega
  ·cases hs : spl c l with
   | nil => exact absurd hs (spl_ne c l)
   | cons x xs =>
    rw [hs] at h ih
    rcases List.mem_cons.1 h with h | h
    ·have := ih x (List.mem_cons_self ..); rw [h, List.length_cons, List.length_cons]; omega
    ·have := ih w (List.mem_cons_of_mem _ h); rw [List.length_cons]; omega
def addL (b : UInt8) : List (List UInt8) → List (List UInt8)
 | [] => [[b]]
 | [w] => [w ++ [b]]
 | w :: w2 :: ws => w :: addL b (w2 :: ws)
theorem addL_cons (b : UInt8) (w : List UInt8) {ws : List (List UInt8)} (h : ws ≠ []) : addL b (w :: ws) = w :: addL b ws := by
 cases ws with
 | nil => exact absurd rfl h
 | cons _ _ => rfl
theorem spl_snoc (c b : UInt8) : ∀ l, spl c (l ++ [b]) = if b = c then spl c l ++ [[]] else addL b (spl c l)
 | [] => by
  show (if b = c then [] :: [[]] else [[b]]) = _
  split <;> simp [spl, addL]
 | x :: l => by
  have ih := spl_snoc c b l
  show (if x = c then [] :: spl c (l ++ [b]) else consH x (spl c (l ++ [b]))) = if b = c then (if x = c then [] :: spl c l else consH x (spl c l)) ++ [[]] else addL b (if x = c then [] :: spl c l else consH x (spl c l))
  have hne := spl_ne c l
  rw [ih]
  by_cases hx : x = c
  ·simp only [if_pos hx]
   by_cases hb : b = c
   ·simp only [if_pos hb]; rfl
   ·simp only [if_neg hb]; rw [addL_cons b [] hne]
  ·simp only [if_neg hx]
   cases hs : spl c l with
   | nil => exact absurd hs hne
   | cons w ws =>
    by_cases hb : b = c
    ·simp only [if_pos hb]; rfl
    ·simp only [if_neg hb]
     cases ws with
     | nil => rfl
     | cons _ _ => rfl
theorem addL_set (b : UInt8) : ∀ L : List (List UInt8), L ≠ [] → (L.map s2).set (L.length - 1) (nth (L.map s2) (L.length - 1) ++ s2 [b]) = (addL b L).map s2
 | [], h => absurd rfl h
 | [w], _ => by
  show [s2 w ++ s2 [b]] = [s2 (w ++ [b])]
  rw [s2_cat]
 | w :: w2 :: ws, _ => by
  have ih := addL_set b (w2 :: ws) (by simp)
  rw [addL_cons b w (by simp)]
  show (s2 w :: (w2 :: ws).map s2).set ((w2 :: ws).length - 1 + 1) (nth (s2 w :: (w2 :: ws).map s2) ((w2 :: ws).length - 1 + 1) ++ s2 [b]) = s2 w :: (addL b (w2 :: ws)).map s2
  rw [List.set_cons_succ]
  exact congrArg _ ih
theorem sb_bl (s : ByteArray) {k : Nat} (hk : k < s.size) : sb s k = (bl s)[k]'hk := by
 unfold sb bl
 rw [Array.getD_eq_getD_getElem?, Array.getElem?_eq_getElem (by simpa using hk)]
 simp
theorem take_bl {l : List UInt8} {k : Nat} (hk : k < l.length) : l.take (k + 1) = l.take k ++ [l[k]] := by rw [List.take_succ_eq_append_getElem hk]
theorem e_l3Cut (s : ByteArray) (c : UInt8) (hs : s.size ≤ 1048576) : p_spec_l3Cut s c = some ((spl c (bl s)).map s2) := by
 have key : lp (p_spec_l3Cut_b0 s c) (([(⟨#[]⟩ : ByteArray)] : List ByteArray), 0) = some ((spl c (bl s)).map s2) := lp_for (body := p_spec_l3Cut_b0 s c) (fun k => ((spl c ((bl s).take k)).map s2, (k : Int))) s.size ((spl c (bl s)).map s2) (fun k hk => by
  have hk' : k < (bl s).length := hk
  have hle : ((spl c ((bl s).take k)).map s2).length ≤ k + 1 := by
   rw [List.length_map, spl_len c _ _ rfl]
   have := List.count_le_length (a := c) (l := (bl s).take k)
   rw [List.length_take] at this
   omega
  have hne : 0 < ((spl c ((bl s).take k)).map s2).length := by rw [List.length_map]; exact List.length_pos_iff.2 (spl_ne _ _)
  have hsz : ∀ L : List (List UInt8), (∀ w ∈ L, w.length ≤ 1048576) → ∀ j, (nth (L.map s2) j).size ≤ 1048576 := fun L hL j => by
   by_cases hj : j < (L.map s2).length
   ·rw [nth_eq _ j hj, List.getElem_map, s2_len]; exact hL _ (List.getElem_mem _)
   ·unfold nth; rw [List.getD_eq_getElem?_getD, List.getElem?_eq_none (by omega)]; exact Nat.zero_le _
  have hw : ∀ w ∈ spl c ((bl s).take k), w.length ≤ 1048576 := fun w hw => by
   have := spl_word c ((bl s).take k) w hw
   rw [List.length_take] at this; omega
  unfold p_spec_l3Cut_b0
  rw [decide_eq_true (show (k : Int) < (s.size : Int) by omega), cond_true, gd.yes (ixN hk)]
  simp only [Int.toNat_natCast]
  have ht : (bl s).take (k + 1) = (bl s).take k ++ [sb s k] := by rw [take_bl hk', sb_bl s hk]; rfl
  rw [ht, spl_snoc]
  by_cases e : sb s k = c
  ·rw [decide_eq_true (show (((sb s k).toNat : Nat) : Int) = (c.toNat : Int) by rw [e]), cond_true, if_pos e, gd.yes (by unfold room; omega), gd.yes (by unfold I64; omega), addI, List.map_append]; rfl
  ·rw [decide_eq_false (show ¬ (((sb s k).toNat : Nat) : Int) = (c.toNat : Int) by intro h; exact e (UInt8.toNat_inj.1 (by omega))), cond_false, if_neg e]
   have e3 : ((((spl c ((bl s).take k)).map s2).length : Int) - 1).toNat = (spl c ((bl s).take k)).length - 1 := by rw [List.length_map]; omega
   have h4 := hsz _ hw ((spl c ((bl s).take k)).length - 1)
   rw [gd.yes (by unfold I64; omega), gd.yes (by unfold ix; omega), e3, gd.yes (by unfold room; rw [s2_len]; simp only [List.length_singleton]; omega), gd.yes (by unfold I64; omega), addI, addL_set _ _ (spl_ne _ _)]) (by
  unfold p_spec_l3Cut_b0
  rw [decide_eq_false (show ¬ ((s.size : Int) < (s.size : Int)) by omega), cond_false, ← bl_len, List.take_length])
 unfold p_spec_l3Cut
 rw [bd.yes key]
def ixW (w : List UInt8) : Nat := (Lib.indexByte w 61).toNat
def keyW (w : List UInt8) : List UInt8 := if 61 ∈ w then w.take (ixW w) else w
def valW (w : List UInt8) : List UInt8 := if 61 ∈ w then w.drop (ixW w + 1) else []
def notW (k : List UInt8) : Bool := decide (1 ≤ k.length ∧ k.drop (k.length - 1) = [33])
def keyN (k : List UInt8) : List UInt8 := if notW k then k.take (k.length - 1) else k
def condW (w : List UInt8) : Cond := ((s2 (keyN (keyW w)), s2 (valW w)), notW (keyW w))
def condS : List UInt8 → Option Cond
 | [a, b, c] => if b = 61 ∧ tagB (s2 [a], s2 [c]) = true then some ((s2 [a], s2 [c]), false) else none
 | [a, b, c, d] => if b = 33 ∧ c = 61 ∧ tagB (s2 [a], s2 [d]) = true then some ((s2 [a], s2 [d]), true) else none
 | _ => none
def textW (c : Cond) : ByteArray := if c.2 then (c.1.1 ++ (⟨#[33, 61]⟩ : ByteArray)) ++ c.1.2 else (c.1.1 ++ (⟨#[61]⟩ : ByteArray)) ++ c.1.2
theorem tagB_bytes {a c : UInt8} (h : tagB (s2 [a], s2 [c]) = true) : 97 ≤ a.toNat ∧ a.toNat ≤ 100 ∧ 112 ≤ c.toNat ∧ c.toNat ≤ 122 := by
 unfold tagB inn at h
 simp only [Bool.and_eq_true, decide_eq_true_eq] at h
 have ea : sb (s2 [a]) 0 = a := rfl
 have ec : sb (s2 [c]) 0 = c := rfl
 rw [ea, ec] at h
 omega
theorem u8_ne {a : UInt8} {k : Nat} (h : a.toNat ≠ k) (hk : k < 256) : a ≠ UInt8.ofNat k := fun e => by
 have := congrArg UInt8.toNat e
 rw [UInt8.toNat_ofNat'] at this
 omega
theorem size_one {b : ByteArray} (h : b.size = 1) : ∃ x, b = s2 [x] := by
 have hl : (bl b).length = 1 := h
 match hb : bl b, hl with
 | [x], _ => exact ⟨x, bl_inj (by rw [hb]; rfl)⟩
theorem condS_W {w : List UInt8} {c : Cond} (h : condS w = some c) : condW w = c ∧ tagB c.1 = true ∧ textW c = s2 w := by
 unfold condS at h
 split at h
 ·rename_i a b d
  split at h
  ·rename_i hc
   obtain ⟨rfl, ht⟩ := hc
   have hb := tagB_bytes ht
   have n1 : a ≠ 61 := u8_ne (k := 61) (by omega) (by decide)
   have n2 : a ≠ 33 := u8_ne (k := 33) (by omega) (by decide)
   obtain rfl := Option.some.inj h
   refine ⟨?_, ht, rfl⟩
   have hm : (61 : UInt8) ∈ [a, 61, d] := by simp
   have hi : Lib.indexByte [a, 61, d] 61 = 1 := by simp [Lib.indexByte, n1]
   have hk : keyW [a, 61, d] = [a] := by unfold keyW ixW; rw [if_pos hm, hi]; rfl
   have hv : valW [a, 61, d] = [d] := by unfold valW ixW; rw [if_pos hm, hi]; rfl
   have hn : notW [a] = false := by unfold notW; simp [n2]
   unfold condW keyN
   rw [hk, hv, hn]; rfl
  ·cases h
 ·rename_i a b d e
  split at h
  ·rename_i hc
   obtain ⟨rfl, rfl, ht⟩ := hc
   have hb := tagB_bytes ht
   have n1 : a ≠ 61 := u8_ne (k := 61) (by omega) (by decide)
   obtain rfl := Option.some.inj h
   refine ⟨?_, ht, rfl⟩
   have hm : (61 : UInt8) ∈ [a, 33, 61, e] := by simp
   have hi : Lib.indexByte [a, 33, 61, e] 61 = 2 := by simp [Lib.indexByte, n1]
   have hk : keyW [a, 33, 61, e] = [a, 33] := by unfold keyW ixW; rw [if_pos hm, hi]; rfl
   have hv : valW [a, 33, 61, e] = [e] := by unfold valW ixW; rw [if_pos hm, hi]; rfl
   have hn : notW [a, 33] = true := by unfold notW; simp
   unfold condW keyN
   rw [hk, hv, hn]; rfl
  ·cases h
 ·cases h
theorem condW_S {w : List UInt8} (ht : tagB (condW w).1 = true) (he : textW (condW w) = s2 w) : condS w = some (condW w) := by
 generalize condW w = c at ht he
 obtain ⟨⟨k, v⟩, n⟩ := c
 obtain ⟨h1, h2⟩ := tagB_one ht
 obtain ⟨x, hx⟩ := size_one h1
 obtain ⟨y, hy⟩ := size_one h2
 have hx : k = s2 [x] := hx
 have hy : v = s2 [y] := hy
 subst hx hy
 cases n with
 | false =>
  have hw : w = [x, 61, y] := (congrArg bl he).symm
  subst hw
  show (if (61 : UInt8) = 61 ∧ tagB (s2 [x], s2 [y]) = true then _ else _) = _
  rw [if_pos ⟨rfl, ht⟩]
 | true =>
  have hw : w = [x, 33, 61, y] := (congrArg bl he).symm
  subst hw
  show (if (33 : UInt8) = 33 ∧ (61 : UInt8) = 61 ∧ tagB (s2 [x], s2 [y]) = true then _ else _) = _
  rw [if_pos ⟨rfl, rfl, ht⟩]
theorem sb_s2 (l : List UInt8) (k : Nat) : sb (s2 l) k = l.getD k 0 := by
 unfold sb s2
 simp [Array.getD_eq_getD_getElem?, List.getD_eq_getElem?_getD]
theorem l3_tail (x : List UInt8) (n : Bool) (hl : x.length ≤ 1048576) : ∃ c0, (bd (cond (!decide (((s2 x).size : Int) = 3)) (some (true)) (gd (ix 1 (s2 x).size) <| some (!decide (((sb (s2 x) 1).toNat : Int) = ((61 : UInt8).toNat : Int))))) fun b14 => cond (b14) (some ((((⟨#[]⟩), (⟨#[]⟩)), n), false)) (gd (sl2 0 1 (s2 x).size) <| gd (sl2 2 ((s2 x).size : Int) (s2 x).size) <| bd (p_spec_l3Tag (((s2 x).extract 0 1), ((s2 x).extract 2 ((s2 x).size : Int).toNat))) fun r21 => some (((((s2 x).extract 0 1), ((s2 x).extract 2 ((s2 x).size : Int).toNat)), n), r21)) : Option (Cond × Bool)) = some c0 ∧
  (c0.2 = true → ∃ a c, x = [a, 61, c] ∧ tagB (s2 [a], s2 [c]) = true ∧ c0.1 = ((s2 [a], s2 [c]), n)) ∧ (∀ a c, x = [a, 61, c] → tagB (s2 [a], s2 [c]) = true → c0.2 = true) := by
 by_cases h3 : x.length = 3
 ·match x, h3 with
  | [a, b, c], _ =>
   rw [s2_len, decide_eq_true (show (([a, b, c].length : Nat) : Int) = 3 from rfl), Bool.not_true, cond_false, gd.yes (show ix 1 ([a, b, c].length) by unfold ix; simp), sb_s2, bd_some]
   show ∃ c0, (cond (!decide (((b.toNat : Nat) : Int) = ((61 : UInt8).toNat : Int))) _ _ : Option (Cond × Bool)) = some c0 ∧ _
   by_cases hb : b = 61
   ·subst hb
    rw [decide_eq_true rfl, Bool.not_true, cond_false, gd.yes (show sl2 0 1 ([a, 61, c].length) by unfold sl2; simp), gd.yes (show sl2 2 (([a, 61, c].length : Nat) : Int) ([a, 61, c].length) by unfold sl2; simp), s2_extract, s2_extract, bd.yes (e_spec_l3Tag _)]
    refine ⟨_, rfl, ⟨fun h => ⟨a, c, rfl, h, rfl⟩, fun a' c' e ht => ?_⟩⟩
    simp only [List.cons.injEq] at e
    obtain ⟨rfl, _, rfl, _⟩ := e
    exact ht
   ·rw [decide_eq_false (show ¬ ((b.toNat : Nat) : Int) = ((61 : UInt8).toNat : Int) by intro h; exact hb (UInt8.toNat_inj.1 (by omega))), Bool.not_false, cond_true]
    refine ⟨_, rfl, ⟨fun h => by simp at h, fun a' c' e _ => ?_⟩⟩
    simp only [List.cons.injEq] at e
    exact absurd e.2.1 hb
 ·rw [s2_len, decide_eq_false (show ¬ (x.length : Int) = 3 by omega), Bool.not_false, cond_true, bd_some, cond_true]
  refine ⟨_, rfl, ⟨fun h => by simp at h, fun a' c' e _ => ?_⟩⟩
  subst e; exact absurd rfl h3
theorem e_l3Cond (w : List UInt8) (hl : w.length ≤ 1048576) : ∃ c0, p_spec_l3Cond (s2 w) = some (c0, (condS w).isSome) ∧ ∀ c, condS w = some c → c0 = c := by
 have e33 : ((33 : UInt8).toNat : Int) = 33 := rfl
 unfold p_spec_l3Cond
 have fin : ∀ (x : List UInt8) (n : Bool), x.length ≤ 1048576 → (∀ a c, x = [a, 61, c] → condS w = if tagB (s2 [a], s2 [c]) = true then some ((s2 [a], s2 [c]), n) else none) → ((∀ a c, x ≠ [a, 61, c]) → condS w = none) → ∃ c0, (bd (cond (!decide (((s2 x).size : Int) = 3)) (some (true)) (gd (ix 1 (s2 x).size) <| some (!decide (((sb (s2 x) 1).toNat : Int) = ((61 : UInt8).toNat : Int))))) fun b14 => cond (b14) (some ((((⟨#[]⟩), (⟨#[]⟩)), n), false)) (gd (sl2 0 1 (s2 x).size) <| gd (sl2 2 ((s2 x).size : Int) (s2 x).size) <| bd (p_spec_l3Tag (((s2 x).extract 0 1), ((s2 x).extract 2 ((s2 x).size : Int).toNat))) fun r21 => some (((((s2 x).extract 0 1), ((s2 x).extract 2 ((s2 x).size : Int).toNat)), n), r21)) : Option (Cond × Bool)) = some (c0, (condS w).isSome) ∧ ∀ c, condS w = some c → c0 = c := fun x n hx h1 h2 => by
  obtain ⟨⟨c0, b⟩, g1, g2, g3⟩ := l3_tail x n hx
  refine ⟨c0, ?_, ?_⟩
  ·rw [g1]
   congr 2
   cases hb : b with
   | true =>
    obtain ⟨a, c, e, ht, _⟩ := g2 hb
    rw [h1 a c e, if_pos ht]; rfl
   | false =>
    by_cases hx3 : ∃ a c, x = [a, 61, c]
    ·obtain ⟨a, c, e⟩ := hx3
     rw [h1 a c e]
     by_cases ht : tagB (s2 [a], s2 [c]) = true
     ·have := g3 a c e ht
      rw [show (c0, b).2 = b from rfl, hb] at this; cases this
     ·rw [if_neg ht]; rfl
    ·rw [h2 (fun a c e => hx3 ⟨a, c, e⟩)]; rfl
  ·intro c hc
   by_cases hx3 : ∃ a c, x = [a, 61, c]
   ·obtain ⟨a, d, e⟩ := hx3
    rw [h1 a d e] at hc
    split at hc
    ·rename_i ht
     obtain ⟨a', d', e', _, g5⟩ := g2 (g3 a d e ht)
     rw [e] at e'
     simp only [List.cons.injEq] at e'
     obtain ⟨rfl, _, rfl, _⟩ := e'
     rw [← Option.some.inj hc]; exact g5
    ·cases hc
   ·rw [h2 (fun a c e => hx3 ⟨a, c, e⟩)] at hc; cases hc
 by_cases h4 : w.length = 4
 ·match w, h4 with
  | [a, b, c, d], _ =>
   rw [s2_len, decide_eq_true (show (([a, b, c, d].length : Nat) : Int) = 4 from rfl), cond_true, gd.yes (show ix 1 ([a, b, c, d].length) by unfold ix; simp), sb_s2, bd_some]
   show ∃ c0, (bd (cond (decide (((b.toNat : Nat) : Int) = ((33 : UInt8).toNat : Int))) _ _) _ : Option (Cond × Bool)) = some _ ∧ _
   by_cases hb : b = 33
   ·subst hb
    rw [decide_eq_true rfl, cond_true, gd.yes (show sl2 0 1 ([a, 33, c, d].length) by unfold sl2; simp), gd.yes (show sl2 2 (([a, 33, c, d].length : Nat) : Int) ([a, 33, c, d].length) by unfold sl2; simp), s2_extract, s2_extract, gd.yes (by unfold room; rw [s2_len, s2_len]; simp), bd_some, s2_cat]
    refine fin [a, c, d] true (by simp) (fun a' c' e => ?_) (fun hne => ?_)
    ·simp only [List.cons.injEq] at e
     obtain ⟨rfl, rfl, rfl, _⟩ := e
     show (if (33 : UInt8) = 33 ∧ (61 : UInt8) = 61 ∧ tagB (s2 [a], s2 [d]) = true then _ else _) = _
     simp
    ·show (if (33 : UInt8) = 33 ∧ c = 61 ∧ tagB (s2 [a], s2 [d]) = true then _ else _) = _
     rw [if_neg (fun hc => hne a d (by rw [hc.2.1]))]
   ·rw [decide_eq_false (show ¬ ((b.toNat : Nat) : Int) = ((33 : UInt8).toNat : Int) by intro h; exact hb (UInt8.toNat_inj.1 (by omega))), cond_false, bd_some]
    refine fin [a, b, c, d] false (by simp) (fun a' c' e => by simp at e) (fun _ => ?_)
    show (if b = 33 ∧ c = 61 ∧ tagB (s2 [a], s2 [d]) = true then _ else _) = _
    rw [if_neg (fun hc => hb hc.1)]
 ·rw [s2_len, decide_eq_false (show ¬ (w.length : Int) = 4 by omega), cond_false, bd_some, cond_false, bd_some]
  refine fin w false hl (fun a c e => ?_) (fun hne => ?_)
  ·subst e
   show (if (61 : UInt8) = 61 ∧ tagB (s2 [a], s2 [c]) = true then _ else _) = _
   simp
  ·unfold condS
   split
   ·rename_i a b c
    rw [if_neg (fun hc => hne a c (by rw [hc.1]))]
   ·exact absurd rfl h4
   ·rfl
theorem nth_s2 {ws : List (List UInt8)} {k : Nat} (hk : k < ws.length) : nth (ws.map s2) k = s2 (nth ws k) := by
 rw [nth_eq _ k (by rw [List.length_map]; exact hk), List.getElem_map, ← nth_eq ws k hk]
def wordsP (s : ByteArray) : List (List UInt8) := spl 44 (bl s)
def badW (ws : List (List UInt8)) (k : Nat) : Bool := (condS (nth ws k)).isNone || decide (3 ≤ k)
def goodP (s : ByteArray) : Bool := allN (wordsP s).length (badW (wordsP s))
def readP (s : ByteArray) : List Cond × Bool := if s = (⟨#[42]⟩ : ByteArray) then ([], true) else if goodP s then ((wordsP s).map condW, true) else ([], false)
theorem goodP_iff (s : ByteArray) : goodP s = true ↔ (∀ w ∈ wordsP s, condS w = some (condW w)) ∧ (wordsP s).length ≤ 3 := by
 unfold goodP
 rw [allN_iff]
 constructor
 ·intro h
  refine ⟨fun w hw => ?_, ?_⟩
  ·obtain ⟨i, hi, rfl⟩ := List.mem_iff_getElem.1 hw
   have := h i hi
   unfold badW at this
   rw [Bool.or_eq_false_iff, nth_eq _ i hi] at this
   cases hc : condS (wordsP s)[i] with
   | none => rw [hc] at this; exact absurd this.1 (by decide)
   | some c => rw [(condS_W hc).1]
  ·rcases Nat.lt_or_ge 3 (wordsP s).length with h3 | h3
   ·have := h 3 h3
    unfold badW at this
    rw [Bool.or_eq_false_iff] at this
    exact absurd this.2 (by decide)
   ·exact h3
 ·rintro ⟨h1, h2⟩ i hi
  unfold badW
  rw [nth_eq _ i hi, h1 _ (List.getElem_mem hi), decide_eq_false (show ¬ 3 ≤ i by omega)]; rfl
theorem words_le {s : ByteArray} (hs : s.size ≤ 1048576) : (∀ w ∈ wordsP s, w.length ≤ 1048576) ∧ (wordsP s).length ≤ 1048577 := by
 refine ⟨fun w hw => Nat.le_trans (spl_word 44 (bl s) w hw) hs, ?_⟩
 unfold wordsP
 rw [spl_len 44 _ _ rfl]
 have := List.count_le_length (a := (44 : UInt8)) (l := bl s)
 rw [bl_len] at this
 omega
theorem e_spec_FilterRead (s : ByteArray) (hs : s.size ≤ 1048576) : p_spec_FilterRead s = some (readP s) := by
 obtain ⟨w1, w2⟩ := words_le hs
 unfold p_spec_FilterRead readP
 by_cases h42 : s = (⟨#[42]⟩ : ByteArray)
 ·rw [decide_eq_true h42, cond_true, if_pos h42]
 ·have hl : ((wordsP s).map s2).length = (wordsP s).length := List.length_map ..
  rw [decide_eq_false h42, cond_false, if_neg h42, bd.yes (show p_spec_l3Cut s 44 = some ((wordsP s).map s2) from e_l3Cut s 44 hs)]
  have hgood : ∀ k, k < (wordsP s).length → badW (wordsP s) k = false → condS (nth (wordsP s) k) = some (condW (nth (wordsP s) k)) ∧ k < 3 := fun k hk h => by
   unfold badW at h
   rw [Bool.or_eq_false_iff] at h
   refine ⟨?_, by have := of_decide_eq_false h.2; omega⟩
   cases hc : condS (nth (wordsP s) k) with
   | none => rw [hc] at h; exact absurd h.1 (by decide)
   | some c => rw [(condS_W hc).1]
  rcases lp_scan (body := p_spec_FilterRead_b0 ((wordsP s).map s2)) (fun k => (((wordsP s).take k).map condW, (k : Int))) (wordsP s).length (badW (wordsP s)) (.inl ((wordsP s).map condW)) (fun _ => .inr (([] : List Cond), false)) (fun k hk _ h => by
    obtain ⟨g1, g2⟩ := hgood k hk h
    obtain ⟨c0, e0, e1⟩ := e_l3Cond (nth (wordsP s) k) (w1 _ (nth_mem hk))
    have hlt : (((wordsP s).take k).map condW).length = k := by rw [List.length_map, List.length_take]; omega
    unfold p_spec_FilterRead_b0
    rw [hl, dlt hk, cond_true, gd.yes (ixN hk)]
    simp only [Int.toNat_natCast]
    rw [nth_s2 hk, bd.yes e0, g1, e1 _ g1]
    show (bd (cond (!true) (some true) (some (decide ((3 : Int) ≤ ((((wordsP s).take k).map condW).length : Int))))) _ : Option _) = _
    rw [hlt, decide_eq_false (show ¬ (3 : Int) ≤ (k : Int) by omega), Bool.not_true, cond_false, bd_some, cond_false, gd.yes (by unfold room; omega), gd.yes (by unfold I64; omega), addI, take_succ_nth hk, List.map_append]
    rfl) (fun k hk hbf h => by
    obtain ⟨c0, e0, e1⟩ := e_l3Cond (nth (wordsP s) k) (w1 _ (nth_mem hk))
    have hlt : (((wordsP s).take k).map condW).length = k := by rw [List.length_map, List.length_take]; omega
    unfold p_spec_FilterRead_b0
    rw [hl, dlt hk, cond_true, gd.yes (ixN hk)]
    simp only [Int.toNat_natCast]
    rw [nth_s2 hk, bd.yes e0]
    unfold badW at h
    cases hc : condS (nth (wordsP s) k) with
    | none => rfl
    | some c =>
     rw [hc] at h
     have h3 : 3 ≤ k := by simpa using h
     show (bd (cond (!true) (some true) (some (decide ((3 : Int) ≤ ((((wordsP s).take k).map condW).length : Int))))) _ : Option _) = _
     rw [hlt, decide_eq_true (show (3 : Int) ≤ (k : Int) by omega), Bool.not_true, cond_false, bd_some, cond_true]) (fun _ => by
    unfold p_spec_FilterRead_b0
    rw [hl, decide_eq_false (show ¬ (((wordsP s).length : Int) < ((wordsP s).length : Int)) by omega), cond_false, List.take_length]) with ⟨h1, h2⟩ | ⟨h1, k, _, _, _, h2⟩
  ·have hg : goodP s = true := h1
   rw [show (lp (p_spec_FilterRead_b0 ((wordsP s).map s2)) (([] : List Cond), 0)) = _ from h2, if_pos hg]; rfl
  ·have hg : goodP s = false := h1
   rw [show (lp (p_spec_FilterRead_b0 ((wordsP s).map s2)) (([] : List Cond), 0)) = _ from h2, if_neg (by rw [hg]; decide)]; rfl
theorem readP_len (s : ByteArray) : (readP s).1.length ≤ 3 ∧ ∀ c ∈ (readP s).1, tagB c.1 = true := by
 unfold readP
 split
 ·exact ⟨Nat.zero_le _, fun _ h => nomatch h⟩
 ·split
  ·rename_i hg
   obtain ⟨h1, h2⟩ := (goodP_iff s).1 hg
   refine ⟨by rw [List.length_map]; exact h2, fun c hc => ?_⟩
   obtain ⟨w, hw, rfl⟩ := List.mem_map.1 hc
   exact (condS_W (h1 w hw)).2.1
  ·exact ⟨Nat.zero_le _, fun _ h => nomatch h⟩
def tagW (w : List UInt8) : Tag := (s2 (keyW w), s2 (valW w))
theorem nameOk_parts {n : List Tag} (h : nameOk n = true) : (∀ t ∈ n, tagB t = true) ∧ 1 ≤ n.length ∧ n.length ≤ 3 := by
 refine ⟨nameOk_tags h, ?_⟩
 unfold nameOk at h
 rw [Bool.and_eq_true] at h
 have := h.2
 unfold inn at this
 simp only [Bool.and_eq_true, decide_eq_true_eq] at this
 omega
def nameG (s : ByteArray) : Prop := nameOk ((wordsP s).map tagW) = true ∧ ∀ w ∈ wordsP s, tagT (tagW w) = s2 w
theorem tag_word {w : List UInt8} (ht : tagB (tagW w) = true) (he : tagT (tagW w) = s2 w) : ∃ x y, w = [x, 61, y] ∧ condW w = (tagW w, false) ∧ condS w = some (tagW w, false) := by
 obtain ⟨h1, h2⟩ := tagB_one ht
 obtain ⟨x, hx⟩ := size_one h1
 obtain ⟨y, hy⟩ := size_one h2
 have hk : keyW w = [x] := congrArg bl hx
 have hv : valW w = [y] := congrArg bl hy
 have hw : w = [x, 61, y] := by
  have : bl (tagT (tagW w)) = w := congrArg bl he
  rw [← this]
  unfold tagT tagW
  rw [hk, hv]; rfl
 have ht' : tagB (s2 [x], s2 [y]) = true := by
  have := ht
  unfold tagW at this
  rwa [hk, hv] at this
 have hb := tagB_bytes ht'
 have n2 : x ≠ 33 := u8_ne (k := 33) (by omega) (by decide)
 have hn : notW [x] = false := by unfold notW; simp [n2]
 have hc : condW w = (tagW w, false) := by
  unfold condW tagW keyN
  rw [hk, hn]; rfl
 refine ⟨x, y, hw, hc, ?_⟩
 rw [← hc]
 refine condW_S (by rw [hc]; exact ht) ?_
 rw [hc]; exact he
theorem nameG_iff (s : ByteArray) : nameG s ↔ s ≠ (⟨#[42]⟩ : ByteArray) ∧ goodP s = true ∧ (∀ w ∈ wordsP s, (condW w).2 = false) ∧ nameOk ((wordsP s).map fun w => (condW w).1) = true := by
 constructor
 ·rintro ⟨h1, h2⟩
  obtain ⟨t1, _, t3⟩ := nameOk_parts h1
  rw [List.length_map] at t3
  have hw : ∀ w ∈ wordsP s, ∃ x y, w = [x, 61, y] ∧ condW w = (tagW w, false) ∧ condS w = some (tagW w, false) := fun w hw => tag_word (t1 _ (List.mem_map_of_mem hw)) (h2 w hw)
  refine ⟨fun e => ?_, (goodP_iff s).2 ⟨fun w hm => by obtain ⟨_, _, _, e1, e2⟩ := hw w hm; rw [e1]; exact e2, t3⟩, fun w hm => by obtain ⟨_, _, _, e1, _⟩ := hw w hm; rw [e1], ?_⟩
  ·subst e
   obtain ⟨x, y, e, _⟩ := hw [42] (by show [42] ∈ spl 44 [42]; simp [spl, consH])
   cases e
  ·rw [← h1]
   congr 1
   exact List.map_congr_left fun w hm => by obtain ⟨_, _, _, e1, _⟩ := hw w hm; rw [e1]
 ·rintro ⟨_, h1, h2, h3⟩
  obtain ⟨g1, g2⟩ := (goodP_iff s).1 h1
  have hw : ∀ w ∈ wordsP s, (condW w).1 = tagW w := fun w hm => by
   have hn := h2 w hm
   have hn : notW (keyW w) = false := hn
   show (s2 (keyN (keyW w)), s2 (valW w)) = _
   unfold keyN tagW
   rw [hn]; rfl
  refine ⟨?_, fun w hm => ?_⟩
  ·rw [← h3]
   congr 1
   exact List.map_congr_left fun w hm => (hw w hm).symm
  ·have := (condS_W (g1 w hm)).2.2
   unfold textW at this
   rw [h2 w hm, if_neg (by decide)] at this
   rw [← hw w hm]; exact this
noncomputable def nameP (s : ByteArray) : List Tag × Bool := @ite _ (nameG s) (Classical.propDecidable _) ((wordsP s).map tagW, true) ([], false)
theorem e_spec_NameRead (s : ByteArray) (hs : s.size ≤ 1048576) : p_spec_NameRead s = some (nameP s) := by
 obtain ⟨hlen, _⟩ := readP_len s
 unfold p_spec_NameRead
 rw [bd.yes (e_spec_FilterRead s hs)]
 have hsc := lp_scan (body := p_spec_NameRead_b0 (readP s)) (fun k => (((readP s).1.take k).map (·.1), (k : Int))) (readP s).1.length (fun k => (nth (readP s).1 k).2) (.inl ((readP s).1.map (·.1))) (fun _ => .inr (([] : List Tag), false)) (fun k hk _ h => by
   have hlt : (((readP s).1.take k).map (·.1)).length ≤ k := by rw [List.length_map, List.length_take]; omega
   unfold p_spec_NameRead_b0
   rw [dlt hk, cond_true, gd.yes (ixN hk)]
   simp only [Int.toNat_natCast]
   rw [h, cond_false, gd.yes (by unfold room; omega), gd.yes (by unfold I64; omega), addI, take_succ_nth hk, List.map_append]
   rfl) (fun k hk _ h => by
   unfold p_spec_NameRead_b0
   rw [dlt hk, cond_true, gd.yes (ixN hk)]
   simp only [Int.toNat_natCast]
   rw [h, cond_true]) (fun _ => by
   unfold p_spec_NameRead_b0
   rw [decide_eq_false (show ¬ (((readP s).1.length : Int) < ((readP s).1.length : Int)) by omega), cond_false, List.take_length])
 have hfail : ¬ nameG s → nameP s = ([], false) := fun h => by unfold nameP; rw [if_neg h]
 rcases hsc with ⟨h1, h2⟩ | ⟨h1, k, hk, hb, _, h2⟩
 ·rw [show (lp (p_spec_NameRead_b0 (readP s)) (([] : List Tag), 0)) = _ from h2]
  show (bd (cond (!(readP s).2) (some true) (bd (p_spec_NameOk ((readP s).1.map (·.1))) fun r32 => some (!r32))) fun b29 => cond b29 (some (([] : List Tag), false)) (some (((readP s).1.map (·.1)), true))) = _
  rw [bd.yes (e_spec_NameOk ((readP s).1.map (·.1)) (by rw [List.length_map]; unfold maxLen; omega))]
  by_cases h42 : s = (⟨#[42]⟩ : ByteArray)
  ·rw [hfail (fun hg => ((nameG_iff s).1 hg).1 h42)]
   unfold readP
   rw [if_pos h42]; rfl
  ·cases hg : goodP s with
   | false =>
    rw [hfail (fun hg' => by rw [((nameG_iff s).1 hg').2.1] at hg; cases hg)]
    unfold readP
    rw [if_neg h42, hg, if_neg (by decide)]; rfl
   | true =>
    have er : readP s = ((wordsP s).map condW, true) := by unfold readP; rw [if_neg h42, if_pos hg]
    rw [er] at h1 ⊢
    have hnot : ∀ w ∈ wordsP s, (condW w).2 = false := fun w hw => by
     obtain ⟨i, hi, rfl⟩ := List.mem_iff_getElem.1 hw
     have := allN_iff.1 h1 i (by rw [List.length_map]; exact hi)
     rwa [nth_eq _ i (by rw [List.length_map]; exact hi), List.getElem_map] at this
    show (bd (cond (!true) (some true) (some (!nameOk (((wordsP s).map condW).map (·.1))))) fun b29 => cond b29 (some (([] : List Tag), false)) (some ((((wordsP s).map condW).map (·.1)), true))) = _
    rw [Bool.not_true, cond_false, bd_some, List.map_map]
    have ef : (fun x : Cond => x.1) ∘ condW = fun w => (condW w).1 := rfl
    rw [ef]
    cases hn : nameOk ((wordsP s).map fun w => (condW w).1) with
    | false =>
     rw [hfail (fun hg' => by rw [((nameG_iff s).1 hg').2.2.2] at hn; cases hn)]; rfl
    | true =>
     have hG : nameG s := (nameG_iff s).2 ⟨h42, hg, hnot, hn⟩
     have em : (wordsP s).map (fun w => (condW w).1) = (wordsP s).map tagW := List.map_congr_left fun w hm => by
      have hn : notW (keyW w) = false := hnot w hm
      show (s2 (keyN (keyW w)), s2 (valW w)) = _
      unfold keyN tagW
      rw [hn]; rfl
     unfold nameP
     rw [if_pos hG, Bool.not_true, cond_false, em]
 ·rw [show (lp (p_spec_NameRead_b0 (readP s)) (([] : List Tag), 0)) = _ from h2]
  show some (([] : List Tag), false) = _
  rw [hfail (fun hg => ?_)]
  obtain ⟨g1, g2, g3, _⟩ := (nameG_iff s).1 hg
  have er : readP s = ((wordsP s).map condW, true) := by unfold readP; rw [if_neg g1, if_pos g2]
  rw [er] at hb hk
  rw [List.length_map] at hk
  rw [nth_eq _ k (by rw [List.length_map]; exact hk), List.getElem_map, g3 _ (List.getElem_mem hk)] at hb
  cases hb
theorem nameP_len (s : ByteArray) : (nameP s).1.length ≤ 3 ∧ ∀ t ∈ (nameP s).1, tagB t = true := by
 unfold nameP
 split
 ·rename_i hg
  obtain ⟨t1, _, t3⟩ := nameOk_parts hg.1
  exact ⟨t3, t1⟩
 ·exact ⟨Nat.zero_le _, fun _ h => nomatch h⟩
def wB (b : List Row) : Prop := Asc b ∧ ∀ r ∈ b, 0 ≤ r.1 ∧ r.1 ≤ 99
theorem asc_cnt : ∀ (l : List Row) (lo : Int), Asc l → (∀ r ∈ l, lo ≤ r.1 ∧ r.1 ≤ 99) → lo ≤ 100 → (l.length : Int) ≤ 100 - lo
 | [], lo, _, _, h => by simp; omega
 | x :: t, lo, h1, h2, h3 => by
  have hx := h2 x (List.mem_cons_self ..)
  have ht := List.pairwise_cons.1 h1
  have := asc_cnt t (x.1 + 1) ht.2 (fun r hr => ⟨by have := ht.1 r hr; omega, (h2 r (List.mem_cons_of_mem _ hr)).2⟩) (by omega)
  rw [List.length_cons]; omega
theorem wB_len {b : List Row} (h : wB b) : b.length ≤ 100 := by have := asc_cnt b 0 h.1 h.2 (by decide); omega
theorem wB_nil : wB [] := ⟨nil_asc, fun _ h => nomatch h⟩
theorem wB_mg {a b : List Row} (ha : wB a) (hb : wB b) : wB (mg a b) := ⟨mg_asc ha.1, fun r hr => (mg_mem hr).elim (ha.2 r) (hb.2 r)⟩
theorem wB_ins {r : Row} {b : List Row} (h : wB b) (h0 : 0 ≤ r.1 ∧ r.1 ≤ 99) : wB (ins r b) := ⟨ins_asc r h.1, fun x hx => by
 rcases ins_mem hx with rfl | hx
 ·exact h0
 ·exact h.2 x hx⟩
structure wP (p : Part) : Prop where
 e : p.1.length = p.2.length
 l : p.1.length ≤ 6
 b : ∀ b ∈ p.2, wB b
theorem wP_nil : wP ([], []) := ⟨rfl, Nat.zero_le _, fun _ h => nomatch h⟩
theorem wP_small {p : Part} (h : wP p) : small p := ⟨by have := h.l; omega, by have := h.l; have := h.e; omega, fun b hb => by have := wB_len (h.b b hb); omega⟩
theorem wP_ok {p : Part} (h : wP p) : Dp.ok p := small_ok (wP_small h)
theorem place_in {l : List Int} {x : Int} : place l x < 0 ∨ (place l x).toNat < l.length := by
 rcases place_lt (l := l) (id := x) with h | ⟨k, h1, h2⟩
 ·exact .inl h
 ·exact .inr (by omega)
theorem wP_rows {p : Part} (h : wP p) (id : Int) : wB (rowsOf p id) := by
 unfold rowsOf
 rcases place_in (l := p.1) (x := id) with h0 | h0
 ·rw [if_pos h0]; exact wB_nil
 ·by_cases h1 : place p.1 id < 0
  ·rw [if_pos h1]; exact wB_nil
  ·rw [if_neg h1]; exact h.b _ (nth_mem (by rw [← h.e]; exact h0))
theorem wP_mk {l : List (List Row)} (hl : l.length ≤ 6) (h : ∀ b ∈ l, wB b) : wP (mkP 0 l) := by
 obtain ⟨a, b⟩ := mkP_len l 0
 exact ⟨a, by omega, fun x hx => h x (mkP_mem l 0 x hx)⟩
theorem wP_pm {a b : Part} (ha : wP a) (hb : wP b) : wP (pmP a b) := wP_mk (by rw [blks_len]; exact Nat.le_refl _) fun x hx => by
 obtain ⟨i, _, rfl⟩ := List.mem_map.1 hx
 exact wB_mg (wP_rows ha _) (wP_rows hb _)
theorem e_l12Merge_w {a b : Part} (h1 : wP a) (h2 : wP b) : p_spec_l12Merge a b = some (pmP a b) := by
 unfold p_spec_l12Merge
 have := lp_for (body := p_spec_l12Merge_b0 a b) (fun k => (blks a b k, ((k + 1 : Nat) : Int))) 6 (blks a b 6) (fun k hk => by
  unfold p_spec_l12Merge_b0
  have g0 : ((k + 1 : Nat) : Int) ≤ 6 := by omega
  have b1 := wP_rows h1 ((k + 1 : Nat) : Int)
  have b2 := wP_rows h2 ((k + 1 : Nat) : Int)
  have r1 : room ((blks a b k).length + 1) := by rw [blks_len]; unfold room; omega
  have r3 : I64 (((k + 1 : Nat) : Int) + 1) := by unfold I64; omega
  simp only [g0, decide_true, cond_true, e_l12Of a _ (wP_ok h1) h1.e, e_l12Of b _ (wP_ok h2) h2.e, bd_some, e_spec_l2Merge _ _ (wB_len b1) (wB_len b2) b1.1, gd.yes r1, gd.yes r3, blks_succ]
  rfl) (by unfold p_spec_l12Merge_b0; simp)
 have e0 : lp (p_spec_l12Merge_b0 a b) (([] : List (List Row)), 1) = some (blks a b 6) := this
 rw [e0, bd_some, e_l12Make _ (by rw [blks_len]; omega) fun y hy => by
  obtain ⟨i, _, rfl⟩ := List.mem_map.1 hy
  have := wB_len (wB_mg (wP_rows h1 ((i + 1 : Nat) : Int)) (wP_rows h2 ((i + 1 : Nat) : Int)))
  show (mg _ _).length ≤ _
  omega]
 rfl
structure wS (s : Store) : Prop where
 i : indexB s.1 = true
 p6 : s.2.1.length ≤ 6
 p : ∀ p ∈ s.2.1, wP p
 m20 : s.2.2.length ≤ 20
 m : ∀ m ∈ s.2.2, 1 ≤ m.1 ∧ m.1 ≤ 6 ∧ rowOk m.2 = true
structure wD (d : Disk) : Prop where
 f20 : d.1.length ≤ 20
 f : ∀ f ∈ d.1, wP f.2
 l6 : d.2.1.length ≤ 6
 a : ∀ n ∈ d.2.1, n ∈ nums d
 n : indexB (indexP d.2.2.1) = true
 x : 1 ≤ d.2.2.2 ∧ d.2.2.2 ≤ 999
theorem names_w {names : List (List Tag)} (h : indexB (indexP names) = true) : Wt.w names ≤ 4194304 :=
 smallNs_w (by have := (indexB_canon h).2.2.1; have e : (indexP names).1 = names := rfl; rw [e] at this; omega) fun n hn => by
  obtain ⟨i, hi, rfl⟩ := List.mem_iff_getElem.1 hn
  rw [← nth_eq names i hi]
  exact smallN_good (good_of h i hi)
theorem wS_ix {s : Store} (h : wS s) : indexB (indexP s.1.1) = true := by rw [index_self h.i]; exact h.i
theorem wD_ok {d : Disk} (h : wD d) : okD d := ⟨names_w h.n, by have := h.f20; omega, by have := h.l6; omega, fun f hf => ⟨wP_ok (h.f f hf), small_w (wP_small (h.f f hf))⟩⟩
theorem wS_ok {s : Store} (h : wS s) : okS s := by
 have e := index_self h.i
 refine ⟨names_w (wS_ix h), ?_, by have := h.p6; omega, by have := h.m20; omega, fun p hp => ⟨wP_ok (h.p p hp), small_w (wP_small (h.p p hp))⟩⟩
 rw [show s.1.2 = (indexP s.1.1).2 from (congrArg Prod.snd e).symm]
 exact postsW_any (names_w (wS_ix h))
theorem wD_at {d : Disk} (h : wD d) {n : Int} (hn : n ∈ d.2.1) : ∃ k, k < d.1.length ∧ atF d n = (k : Int) := by
 rcases atF_lt (d := d) (num := n) with h0 | h0
 ·exfalso
  obtain ⟨f, hf, e⟩ := List.mem_map.1 (h.a n hn)
  obtain ⟨i, hi, rfl⟩ := List.mem_iff_getElem.1 hf
  have hp := place_take (nums d) n (nums d).length (Nat.le_refl _)
  rw [List.take_length] at hp
  have hc : allN (nums d).length (fun j => decide (nth (nums d) j = n)) = false := by
   refine allN_no (k := i) (by rw [nums_len]; exact hi) ?_
   rw [nums_nth d hi, nth_eq _ i hi]
   exact decide_eq_true e
  rw [hc] at hp
  have := of_decide_eq_true (p := 0 ≤ place (nums d) n) (by rw [hp]; rfl)
  unfold atF at h0; omega
 ·exact h0
theorem wD_all {d : Disk} (h : wD d) : ∀ k, k < d.2.1.length → 0 ≤ atF d (nth d.2.1 k) := fun k hk => by
 obtain ⟨j, _, e⟩ := wD_at h (nth_mem hk); omega
theorem wS_open {d : Disk} (h : wD d) : wS (openS d) := by
 refine ⟨h.n, by show (partsOf d).length ≤ 6; rw [partsOf_len]; exact h.l6, fun p hp => ?_, Nat.zero_le _, fun _ h => nomatch h⟩
 obtain ⟨n, hn, rfl⟩ := List.mem_map.1 (show p ∈ partsOf d from hp)
 obtain ⟨k, hk, e⟩ := wD_at h hn
 rw [e, Int.toNat_natCast]; exact h.f _ (nth_mem hk)
theorem e_l21Open_w {d : Disk} (h : wD d) : p_spec_l21Open d = some (openS d) := by
 rw [e_spec_open d (wD_ok h) (wD_all h)]
 have hg : goodN d.2.2.1 := good_of h.n
 have : ((d.2.2.1, allE d.2.2.1 4) : Index) = indexP d.2.2.1 := Prod.ext rfl (good_all hg)
 rw [this]; rfl
theorem e_l13Copy_w {s : Store} (h : wS s) : p_spec_l13Copy s = some s := by
 have h6 := (indexB_canon h.i).2.2.1
 have hp := h.p6
 have hm := h.m20
 have hg := good_of h.i
 have key : lp (p_spec_l13Copy_b0 s) (([] : List Part), 0) = some s.2.1 := lp_for (body := p_spec_l13Copy_b0 s) (fun k => (s.2.1.take k, (k : Int))) s.2.1.length s.2.1 (fun k hk => by
  obtain ⟨a, b, c⟩ := wP_small (h.p _ (nth_mem hk))
  have hlt : (s.2.1.take k).length ≤ k := by rw [List.length_take]; omega
  have inner : lp (p_spec_l13Copy_b1 s (s.2.1.take k, (k : Int))) (([] : List (List Row)), 0) = some (nth s.2.1 k).2 := lp_for (body := p_spec_l13Copy_b1 s (s.2.1.take k, (k : Int))) (fun j => ((nth s.2.1 k).2.take j, (j : Int))) (nth s.2.1 k).2.length (nth s.2.1 k).2 (fun j hj => by
   have hb := c _ (nth_mem hj)
   have hlt : ((nth s.2.1 k).2.take j).length ≤ j := by rw [List.length_take]; omega
   unfold p_spec_l13Copy_b1
   simp only [Int.toNat_natCast]
   rw [dlt hj, cond_true, gd.yes (ixN hj), gd.yes (show room (([] : List Row).length + (nth (nth s.2.1 k).2 j).length) by rw [List.length_nil]; unfold room; omega), gd.yes (show room (((nth s.2.1 k).2.take j).length + 1) by unfold room; omega), gd.yes (show I64 ((j : Int) + 1) by unfold I64; omega), List.nil_append, take_succ_nth hj, addI]) (by
   unfold p_spec_l13Copy_b1
   simp only [Int.toNat_natCast]
   rw [decide_eq_false (show ¬ (((nth s.2.1 k).2.length : Int) < ((nth s.2.1 k).2.length : Int)) by omega), cond_false, List.take_length])
  unfold p_spec_l13Copy_b0
  rw [dlt hk, cond_true, gd.yes (ixN hk)]
  simp only [Int.toNat_natCast]
  rw [gd.yes (show room (([] : List Int).length + (nth s.2.1 k).1.length) by rw [List.length_nil]; unfold room; omega), bd.yes inner, gd.yes (show room ((s.2.1.take k).length + 1) by unfold room; omega), gd.yes (show I64 ((k : Int) + 1) by unfold I64; omega), List.nil_append, take_succ_nth hk, addI]) (by
  unfold p_spec_l13Copy_b0
  rw [decide_eq_false (show ¬ ((s.2.1.length : Int) < (s.2.1.length : Int)) by omega), cond_false, List.take_length])
 unfold p_spec_l13Copy
 rw [bd.yes key, bd.yes (e_spec_l11Of hg (by omega) (fun m hm => by have := goodN_len hg m hm; omega)), gd.yes (show room (([] : List Sample).length + s.2.2.length) by rw [List.length_nil]; unfold room; omega), List.nil_append, index_self h.i]
def copyD (d : Disk) : Disk := (d.1.map fun f => (f.1, pmP f.2 ([], [])), d.2)
theorem copyD_nums (d : Disk) : nums (copyD d) = nums d := by unfold nums copyD; rw [List.map_map]; rfl
theorem wD_copy {d : Disk} (h : wD d) : wD (copyD d) := by
 refine ⟨by show (d.1.map _).length ≤ 20; rw [List.length_map]; exact h.f20, fun f hf => ?_, h.l6, fun n hn => by rw [copyD_nums]; exact h.a n hn, h.n, h.x⟩
 obtain ⟨g, hg, rfl⟩ := List.mem_map.1 (show f ∈ d.1.map _ from hf)
 exact wP_pm (h.f g hg) wP_nil
theorem map_nth {α β : Type} [Inhabited α] [Inhabited β] (f : α → β) {l : List α} {k : Nat} (hk : k < l.length) : nth (l.map f) k = f (nth l k) := by
 rw [nth_eq _ k (by rw [List.length_map]; exact hk), nth_eq _ k hk]; exact List.getElem_map ..
theorem e_l21Copy_w {d : Disk} (h : wD d) : p_spec_l21Copy d = some (copyD d) := by
 obtain ⟨w1, w2, _⟩ := w_names (names_w h.n)
 have hll := h.l6
 have h20 := h.f20
 have hcl : (copyD d).1.length = d.1.length := List.length_map ..
 have key : lp (p_spec_l21Copy_b0 d) (([] : List File), 0) = some (copyD d).1 := lp_for (body := p_spec_l21Copy_b0 d) (fun k => ((copyD d).1.take k, (k : Int))) d.1.length (copyD d).1 (fun k hk => by
  have hlt : ((copyD d).1.take k).length ≤ k := by rw [List.length_take]; omega
  unfold p_spec_l21Copy_b0
  rw [dlt hk, cond_true, gd.yes (ixN hk)]
  simp only [Int.toNat_natCast]
  rw [bd.yes (e_l12Merge_w (h.f _ (nth_mem hk)) wP_nil), gd.yes (show room (((copyD d).1.take k).length + 1) by unfold room; omega), gd.yes (show I64 ((k : Int) + 1) by unfold I64; omega), take_succ_nth (show k < (copyD d).1.length by omega), show nth (copyD d).1 k = _ from map_nth _ hk, addI]) (by
  unfold p_spec_l21Copy_b0
  rw [decide_eq_false (show ¬ ((d.1.length : Int) < (d.1.length : Int)) by omega), cond_false, ← hcl, List.take_length])
 unfold p_spec_l21Copy
 rw [bd.yes key, gd.yes (show room (([] : List Int).length + d.2.1.length) by rw [List.length_nil]; unfold room; omega), bd.yes (e_spec_l11Names _ w1 fun n hn => (w2 n hn).1), List.nil_append]
 rfl
theorem place_nth {l : List Int} {id : Int} {k : Nat} (h : place l id = (k : Int)) : nth l k = id := by
 cases hc : allN l.length (fun i => decide (nth l i = id)) with
 | true => rw [place_no hc] at h; omega
 | false =>
  obtain ⟨j, hj, b1, b2⟩ := first_bad hc
  rw [place_yes hj b1 b2] at h
  have : j = k := by omega
  subst this
  exact of_decide_eq_true b1
def cntF (d : Disk) (num : Int) : Bool := d.2.1.contains num
theorem cntF_iff {d : Disk} {num : Int} : cntF d num = true ↔ num ∈ d.2.1 := List.contains_iff_mem
theorem e_l21Counts_w (d : Disk) (num : Int) (hl : d.2.1.length ≤ 1048576) : p_spec_l21Counts d num = some (cntF d num) := by
 unfold p_spec_l21Counts
 rcases lp_scan (body := p_spec_l21Counts_b0 d num) (fun k => (k : Int)) d.2.1.length (fun i => decide (nth d.2.1 i = num)) (.inl ()) (fun _ => .inr true) (fun k hk _ h => by
   unfold p_spec_l21Counts_b0
   rw [dlt hk, cond_true, gd.yes (ixN hk), Int.toNat_natCast, h, cond_false, gd.yes (show I64 ((k : Int) + 1) by unfold I64; omega), addI]) (fun k hk _ h => by
   unfold p_spec_l21Counts_b0
   rw [dlt hk, cond_true, gd.yes (ixN hk), Int.toNat_natCast, h, cond_true]) (fun _ => by unfold p_spec_l21Counts_b0; rw [decide_eq_false (show ¬ ((d.2.1.length : Int) < (d.2.1.length : Int)) by omega)]; rfl) with ⟨h1, h2⟩ | ⟨_, k, hk, hb, _, h2⟩
 ·have hc : cntF d num = false := by
   cases hc : cntF d num with
   | false => rfl
   | true =>
    obtain ⟨i, hi, e⟩ := List.mem_iff_getElem.1 (cntF_iff.1 hc)
    have := allN_iff.1 h1 i hi
    rw [nth_eq _ i hi, e] at this
    simp at this
  rw [show (lp (p_spec_l21Counts_b0 d num) 0) = _ from h2, hc]; rfl
 ·have hc : cntF d num = true := by
   refine cntF_iff.2 ?_
   have hb' := of_decide_eq_true hb
   rw [nth_eq _ k hk] at hb'
   rw [← hb']; exact List.getElem_mem hk
  rw [show (lp (p_spec_l21Counts_b0 d num) 0) = _ from h2, hc]; rfl
theorem take_filter_w {α : Type} [Inhabited α] (p : α → Bool) {l : List α} {k : Nat} (hk : k < l.length) : (l.take (k + 1)).filter p = (l.take k).filter p ++ if p (nth l k) then [nth l k] else [] := by
 rw [take_succ_nth hk, List.filter_append, List.filter_cons, List.filter_nil]
def tidyW (d : Disk) : Disk := (d.1.filter fun y => cntF d y.1, d.2)
theorem e_l21Tidy_w (d : Disk) (hf : d.1.length ≤ 1000) (hl : d.2.1.length ≤ 1048576) : p_spec_l21Tidy d = some (tidyW d) := by
 have key : lp (p_spec_l21Tidy_b0 d) (([] : List File), 0) = some (tidyW d).1 := lp_for (body := p_spec_l21Tidy_b0 d) (fun k => ((d.1.take k).filter fun y => cntF d y.1, (k : Int))) d.1.length (tidyW d).1 (fun k hk => by
  have hlt : ((d.1.take k).filter fun y => cntF d y.1).length ≤ k := Nat.le_trans (List.length_filter_le _ _) (by rw [List.length_take]; omega)
  unfold p_spec_l21Tidy_b0
  rw [dlt hk, cond_true, gd.yes (ixN hk)]
  simp only [Int.toNat_natCast]
  rw [bd.yes (e_l21Counts_w d _ hl), take_filter_w _ hk]
  cases cntF d (nth d.1 k).1 with
  | false => rw [cond_false, gd.yes (show I64 ((k : Int) + 1) by unfold I64; omega), addI]; simp
  | true => rw [cond_true, gd.yes (show room (((d.1.take k).filter fun y => cntF d y.1).length + 1) by unfold room; omega), gd.yes (show I64 ((k : Int) + 1) by unfold I64; omega), addI]; rfl) (by
  unfold p_spec_l21Tidy_b0 tidyW
  rw [decide_eq_false (show ¬ ((d.1.length : Int) < (d.1.length : Int)) by omega), cond_false, List.take_length])
 unfold p_spec_l21Tidy
 rw [bd.yes key]
 rfl
theorem wD_tidy {d : Disk} (h : wD d) : wD (tidyW d) := by
 refine ⟨Nat.le_trans (List.length_filter_le _ _) h.f20, fun f hf => h.f f (List.mem_filter.1 hf).1, h.l6, fun n hn => ?_, h.n, h.x⟩
 obtain ⟨f, hf, e⟩ := List.mem_map.1 (h.a n hn)
 exact List.mem_map.2 ⟨f, List.mem_filter.2 ⟨hf, cntF_iff.2 (by rw [e]; exact hn)⟩, e⟩
def wW (w : World) : Prop := wS w.1 ∧ wD w.2
theorem d_l22Fall {w : World} (h : wW w) : ∃ w', p_spec_l22Fall w = some w' ∧ wW w' := by
 have ht := wD_tidy h.2
 have hc := wD_copy ht
 unfold p_spec_l22Fall
 rw [bd.yes (e_l21Tidy_w w.2 (by have := h.2.f20; omega) (by have := h.2.l6; omega)), bd.yes (e_l21Copy_w ht), bd.yes (e_l21Open_w hc), bd.yes (e_l13Copy_w (wS_open hc))]
 exact ⟨_, rfl, wS_open hc, hc⟩
theorem d_l22Copy {w : World} (h : wW w) : ∃ w', p_spec_l22Copy w = some w' ∧ wW w' := by
 unfold p_spec_l22Copy
 rw [bd.yes (e_l13Copy_w h.1), bd.yes (e_l21Copy_w h.2)]
 exact ⟨_, rfl, h.1, wD_copy h.2⟩
def stepW (d : Disk) (x : Step) : Disk :=
 if x.1 = 1 then (d.1 ++ [(x.2.1, x.2.2.1)], d.2.1, d.2.2.1, wr64 (x.2.1 + 1))
 else if x.1 = 2 then (d.1, x.2.2.2.1, x.2.2.2.2, d.2.2.2)
 else if x.1 = 3 then (if 0 ≤ atF d x.2.1 ∧ cntF d x.2.1 = false then (d.1.take (atF d x.2.1).toNat ++ d.1.drop ((atF d x.2.1).toNat + 1), d.2.1, d.2.2.1, d.2.2.2) else d)
 else d
theorem e_l21Do_w {d : Disk} {x : Step} (hd : d.1.length ≤ 1000) (hll : d.2.1.length ≤ 1000) (hl : x.2.2.2.1.length ≤ 1000) (hn : Wt.w x.2.2.2.2 ≤ 4194304) : p_spec_l21Do d x = some (stepW d x) := by
 have hr : ∀ n : Nat, n ≤ 4194304 → room n := fun n hn => by unfold room; omega
 obtain ⟨w1, w2, _⟩ := w_names hn
 unfold p_spec_l21Do stepW
 by_cases h1 : x.1 = 1
 ·rw [decide_eq_true h1, cond_true, if_pos h1, gd.yes (hr _ (by rw [List.length_nil]; omega)), List.nil_append, gd.yes (hr _ (by omega))]
 ·rw [decide_eq_false h1, cond_false, if_neg h1]
  by_cases h2 : x.1 = 2
  ·rw [decide_eq_true h2, cond_true, if_pos h2, gd.yes (hr _ (by rw [List.length_nil]; omega)), bd.yes (e_spec_l11Names _ w1 fun n hn => (w2 n hn).1), List.nil_append]
  ·rw [decide_eq_false h2, cond_false, if_neg h2]
   by_cases h3 : x.1 = 3
   ·rw [decide_eq_true h3, cond_true, if_pos h3, bd.yes (e_spec_l21At d _ (by omega))]
    rcases atF_lt (d := d) (num := x.2.1) with h0 | ⟨k, hk, e⟩
    ·rw [decide_eq_false (show ¬ (0 : Int) ≤ atF d x.2.1 by omega), cond_false, bd_some, cond_false, if_neg (fun hc => absurd hc.1 (by omega))]
    ·rw [e, decide_eq_true (Int.natCast_nonneg k), cond_true, bd.yes (e_l21Counts_w d _ (by omega)), bd_some]
     cases cntF d x.2.1 with
     | true => rw [Bool.not_true, cond_false, if_neg (fun hc => absurd hc.2 (by decide))]
     | false =>
      rw [Bool.not_false, cond_true, if_pos ⟨Int.natCast_nonneg k, rfl⟩, gd.yes (show sl2 0 (k : Int) d.1.length by unfold sl2; omega), gd.yes (show I64 ((k : Int) + 1) by unfold I64; omega), gd.yes (show sl2 ((k : Int) + 1) (d.1.length : Int) d.1.length by unfold sl2; omega),
       gd.yes (hr _ (by simp only [List.length_take, List.length_drop, List.length_nil]; omega)), gd.yes (hr _ (by simp only [List.length_append, List.length_take, List.length_drop, List.length_nil]; omega)), List.nil_append, List.drop_zero, Int.toNat_natCast, Int.toNat_natCast, List.take_length, show ((k : Int) + 1).toNat = k + 1 by omega]
   ·rw [decide_eq_false h3, cond_false, if_neg h3]
def stW (d : Disk) (x : Step) : Prop :=
 (x.1 = 1 ∧ d.1.length ≤ 19 ∧ wP x.2.2.1 ∧ x.2.1 = d.2.2.2 ∧ d.2.2.2 ≤ 998 ∧ x.2.2.2.1 = [] ∧ x.2.2.2.2 = []) ∨
 (x.1 = 2 ∧ x.2.2.2.1.length ≤ 6 ∧ (∀ n ∈ x.2.2.2.1, n ∈ nums d) ∧ indexB (indexP x.2.2.2.2) = true) ∨
 (x.1 = 3 ∧ x.2.2.2.1 = [] ∧ x.2.2.2.2 = [])
theorem d_l21Do {d : Disk} {x : Step} (h : wD d) (hx : stW d x) : p_spec_l21Do d x = some (stepW d x) ∧ wD (stepW d x) := by
 have f20 := h.f20
 have l6 := h.l6
 rcases hx with ⟨h1, h2, h3, h4, h5, h6, h7⟩ | ⟨h1, h2, h3, h4⟩ | ⟨h1, h2, h3⟩
 ·refine ⟨e_l21Do_w (by omega) (by omega) (by rw [h6]; exact Nat.zero_le _) (by rw [h7]; exact Nat.zero_le _), ?_⟩
  unfold stepW
  rw [if_pos h1]
  have hx := h.x
  have hw : wr64 (x.2.1 + 1) = d.2.2.2 + 1 := by rw [h4]; exact wr64_id (by unfold I64; omega)
  refine ⟨by show (d.1 ++ [_]).length ≤ 20; rw [List.length_append, List.length_singleton]; omega, fun f hf => ?_, l6, fun n hn => ?_, h.n, by show 1 ≤ wr64 (x.2.1 + 1) ∧ wr64 (x.2.1 + 1) ≤ 999; rw [hw]; omega⟩
  ·rcases List.mem_append.1 hf with hf | hf
   ·exact h.f f hf
   ·rw [List.mem_singleton.1 hf]; exact h3
  ·have := h.a n hn
   unfold nums at this ⊢
   rw [List.map_append]
   exact List.mem_append.2 (.inl this)
 ·refine ⟨e_l21Do_w (by omega) (by omega) (by omega) (names_w h4), ?_⟩
  unfold stepW
  rw [if_neg (by omega), if_pos h1]
  exact ⟨f20, h.f, h2, h3, h4, h.x⟩
 ·refine ⟨e_l21Do_w (by omega) (by omega) (by rw [h2]; exact Nat.zero_le _) (by rw [h3]; exact Nat.zero_le _), ?_⟩
  unfold stepW
  rw [if_neg (by omega), if_neg (by omega), if_pos h1]
  split
  ·rename_i hc
   rcases atF_lt (d := d) (num := x.2.1) with h0 | ⟨k, hk, e⟩
   ·omega
   rw [e, Int.toNat_natCast]
   refine ⟨by simp only [List.length_append, List.length_take, List.length_drop]; omega, fun f hf => ?_, l6, fun n hn => ?_, h.n, h.x⟩
   ·rcases List.mem_append.1 hf with hf | hf
    ·exact h.f f (List.mem_of_mem_take hf)
    ·exact h.f f (List.mem_of_mem_drop hf)
   ·have hne : n ≠ x.2.1 := fun e => by have := cntF_iff (d := d).2 hn; rw [e, hc.2] at this; cases this
    obtain ⟨f, hf, en⟩ := List.mem_map.1 (h.a n hn)
    have hfk : (nth d.1 k).1 = x.2.1 := by
     have := place_nth (l := nums d) (id := x.2.1) (k := k) e
     rwa [nums_nth d hk] at this
    refine List.mem_map.2 ⟨f, ?_, en⟩
    obtain ⟨j, hj, ej⟩ := List.mem_iff_getElem.1 hf
    have hjk : j ≠ k := fun e => by subst e; rw [nth_eq _ j hj, ej, en] at hfk; exact hne hfk
    rw [← ej]
    rcases Nat.lt_or_gt_of_ne hjk with hlt | hgt
    ·exact List.mem_append.2 (.inl (List.mem_iff_getElem.2 ⟨j, by rw [List.length_take]; omega, by rw [List.getElem_take]⟩))
    ·exact List.mem_append.2 (.inr (List.mem_iff_getElem.2 ⟨j - (k + 1), by rw [List.length_drop]; omega, by rw [List.getElem_drop]; congr 1; omega⟩))
  ·exact h
theorem rowOk_t {r : Row} (h : rowOk r = true) : 0 ≤ r.1 ∧ r.1 ≤ 99 := by
 unfold rowOk inn at h
 simp only [Bool.and_eq_true, decide_eq_true_eq] at h
 exact h.1
theorem wB_mem (id : Int) : ∀ (l : List Sample) (o : List Row), wB o → (∀ m ∈ l, rowOk m.2 = true) → wB (memR l id o)
 | [], _, h, _ => h
 | m :: t, o, h, hm => by
  refine wB_mem id t (insI id o m) ?_ (fun x hx => hm x (List.mem_cons_of_mem _ hx))
  unfold insI
  split
  ·exact wB_ins h (rowOk_t (hm m (List.mem_cons_self ..)))
  ·exact h
theorem wP_mem {l : List Sample} (h : ∀ m ∈ l, rowOk m.2 = true) : wP (memP l) := wP_mk (by rw [blkM_len]; exact Nat.le_refl _) fun b hb => by
 obtain ⟨i, _, rfl⟩ := List.mem_map.1 hb
 exact wB_mem _ l [] wB_nil h
def parW (parts : List Part) (id : Int) : List Row := parts.foldl (fun o p => mg o (rowsOf p id)) []
theorem parW_B (id : Int) : ∀ (l : List Part) (o : List Row), wB o → (∀ p ∈ l, wP p) → wB (l.foldl (fun o p => mg o (rowsOf p id)) o)
 | [], _, h, _ => h
 | p :: t, _, h, hp => parW_B id t _ (wB_mg h (wP_rows (hp p (List.mem_cons_self ..)) id)) (fun x hx => hp x (List.mem_cons_of_mem _ hx))
theorem e_rows_w (s : Store) (id : Int) (hp : s.2.1.length ≤ 6) (hm : s.2.2.length ≤ 30) (hP : ∀ p ∈ s.2.1, wP p) (hM : ∀ m ∈ s.2.2, rowOk m.2 = true) : p_spec_l13Rows s id = some (memR s.2.2 id (parW s.2.1 id)) := by
 have h0 : lp (p_spec_l13Rows_b0 s id) (([] : List Row), 0) = some (parW s.2.1 id) :=
  lp_for (body := p_spec_l13Rows_b0 s id) (fun k => ((s.2.1.take k).foldl (fun o p => mg o (rowsOf p id)) [], (k : Int))) s.2.1.length (parW s.2.1 id) (fun k hk => by
   have hB := parW_B id (s.2.1.take k) [] wB_nil (fun p hp => hP p (List.mem_of_mem_take hp))
   have hl := wB_len hB
   have hk2 := hP _ (nth_mem hk)
   have hr := wP_rows hk2 id
   have hr2 := wB_len hr
   unfold p_spec_l13Rows_b0
   rw [dlt hk, cond_true, gd.yes (ixN hk)]
   simp only [Int.toNat_natCast]
   rw [bd.yes (e_l12Of (nth s.2.1 k) id (wP_ok hk2) hk2.e), bd.yes (e_l2M _ _ (by omega) hB.1), gd.yes (i64S hk (by omega)), foldl_take _ _ _ _ hk, addI]) (by
   unfold p_spec_l13Rows_b0
   rw [decide_eq_false (show ¬ ((s.2.1.length : Int) < (s.2.1.length : Int)) by omega), cond_false, List.take_length]; rfl)
 have hB0 : wB (parW s.2.1 id) := parW_B id s.2.1 [] wB_nil hP
 have h1 : lp (p_spec_l13Rows_b1 s id) (parW s.2.1 id, 0) = some (memR s.2.2 id (parW s.2.1 id)) :=
  lp_for (body := p_spec_l13Rows_b1 s id) (fun k => (memR (s.2.2.take k) id (parW s.2.1 id), (k : Int))) s.2.2.length (memR s.2.2 id (parW s.2.1 id)) (fun k hk => by
   have hB := wB_mem id (s.2.2.take k) _ hB0 (fun m hm => hM m (List.mem_of_mem_take hm))
   have hl := wB_len hB
   unfold p_spec_l13Rows_b1
   rw [dlt hk, cond_true, gd.yes (ixN hk), memR_take _ _ _ hk]
   simp only [Int.toNat_natCast]
   by_cases he : (nth s.2.2 k).1 = id
   ·rw [decide_eq_true he, cond_true, bd.yes (e_l2Put _ _ (by omega)), l2_ins _ _ hB.1, gd.yes (i64S hk (by omega)), addI]
    unfold insI; rw [if_pos he]
   ·rw [decide_eq_false he, cond_false, gd.yes (i64S hk (by omega)), addI]
    unfold insI; rw [if_neg he]) (by
   unfold p_spec_l13Rows_b1
   rw [decide_eq_false (show ¬ ((s.2.2.length : Int) < (s.2.2.length : Int)) by omega), cond_false, List.take_length])
 unfold p_spec_l13Rows
 rw [bd.yes h0, bd.yes h1]
theorem d_l13Add {s : Store} (h : wS s) {n : List Tag} (r : Row) (hn : nameOk n = true) : ∃ s' ok, p_spec_l13Add s n r = some (s', ok) ∧ wS s' := by
 have h6 := h.p6
 have h20 := h.m20
 have e0 : p_spec_l11Add s.1 n = some (addP s.1 n) := by
  have := e_l11Add' s.1 n h.i hn (names_w (wS_ix h)) (by have := smallN_w (smallN_good hn); omega)
  rwa [index_self h.i] at this
 unfold p_spec_l13Add
 rw [bd.yes e0]
 cases ha : (addP s.1 n).2.2 with
 | false => exact ⟨s, false, rfl, h⟩
 | true =>
  rw [Bool.not_true, cond_false, bd.yes (e_spec_l2Row r)]
  cases hr : rowOk r with
  | false => exact ⟨s, false, rfl, h⟩
  | true =>
   rw [Bool.not_true, cond_false]
   by_cases hm : (20 : Int) ≤ (s.2.2.length : Int)
   ·rw [decide_eq_true hm]; exact ⟨s, false, rfl, h⟩
   ·obtain ⟨names, K, z1, z2, hK, _, hB, _, _⟩ := addP_at ha
    have hc := (indexB_canon hB).2.2.1
    have en : (indexP names).1 = names := rfl
    rw [en] at hc
    have hM : ∀ m ∈ s.2.2 ++ [((addP s.1 n).2.1, r)], 1 ≤ m.1 ∧ m.1 ≤ 6 ∧ rowOk m.2 = true := fun m hm => by
     rcases List.mem_append.1 hm with hm | hm
     ·exact h.m m hm
     ·rw [List.mem_singleton.1 hm]; exact ⟨by rw [z2]; omega, by rw [z2]; omega, hr⟩
    have hl : (s.2.2 ++ [((addP s.1 n).2.1, r)]).length ≤ 20 := by rw [List.length_append, List.length_singleton]; omega
    rw [decide_eq_false hm, bd_some, cond_false, List.nil_append, gd.yes (show room (([] : List Sample).length + s.2.2.length) by rw [List.length_nil]; unfold room; omega), gd.yes (show room (s.2.2.length + 1) by unfold room; omega), bd.yes (e_rows_w ((addP s.1 n).1, s.2.1, s.2.2 ++ [((addP s.1 n).2.1, r)]) _ h6 (by show (s.2.2 ++ [_]).length ≤ 30; omega) h.p (fun m hm => (hM m hm).2.2))]
    cases decide ((24 : Int) < ((memR (s.2.2 ++ [((addP s.1 n).2.1, r)]) (addP s.1 n).2.1 (parW s.2.1 (addP s.1 n).2.1)).length : Int)) with
    | true => exact ⟨s, false, rfl, h⟩
    | false => exact ⟨_, true, rfl, ⟨by rw [z1]; exact hB, h6, h.p, hl, hM⟩⟩
end Go.Proofs.YtlkcnfjdhkoelaaGreat
