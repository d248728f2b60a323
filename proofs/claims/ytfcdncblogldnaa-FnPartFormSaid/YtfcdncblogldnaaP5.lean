/- Plain laws of the plain functions. Conditions: lengths that memory can hold. -/
import Derived.Test.YtfcdncblogldnaaP4
namespace Go.Proofs.Ytfcdncblogldnaa
open Go Go.Sx
theorem tmod_rng {a n : Int} (ha : 0 ≤ a) (hn : 0 < n) : 0 ≤ a.tmod n ∧ a.tmod n < n := ⟨Int.tmod_nonneg n ha, Int.tmod_lt_of_pos a hn⟩
theorem tdiv_rng {a n : Int} (ha : 0 ≤ a) (hn : 0 < n) : 0 ≤ a.tdiv n ∧ a.tdiv n ≤ a := by
  rw [Int.tdiv_eq_ediv_of_nonneg ha]
  exact ⟨Int.ediv_nonneg ha (by omega), Int.ediv_le_self n ha⟩
theorem u8_rng (b : UInt8) : (0 : Int) ≤ (b.toNat : Int) ∧ (b.toNat : Int) ≤ 255 := by have := b.toNat_lt; omega
theorem xr_nn (a b : Int) : 0 ≤ xr a b := by unfold xr; omega
theorem xr_lt {a b : Int} (ha : 0 ≤ a) (ha2 : a < 4611686018427387904) (hb : 0 ≤ b) (hb2 : b < 4611686018427387904) : xr a b < 4611686018427387904 := by
  unfold xr
  have : a.toNat ^^^ b.toNat < 2 ^ 62 := Nat.xor_lt_two_pow (by omega) (by omega)
  omega
theorem d_pick (b : List UInt8) (p n : Int) (hb : b.length ≤ 2000) (h0 : 0 ≤ p) (h1 : p ≤ 1000000) (hn : n ≤ 1000000000) :
    ∃ x, p_spec_l6Rd_pick (b, p) n = some (x, p + 1) ∧ 0 ≤ x ∧ (1 ≤ n → x < n) := by
  unfold p_spec_l6Rd_pick
  have g0 : I64 (p + 1) := by unfold I64; omega
  have ep : p + 1 - 1 = p := by omega
  have gp : I64 p := by unfold I64; omega
  simp only [ep, gd.yes g0, gd.yes gp]
  by_cases hn1 : n < 1
  · exact ⟨0, by simp [hn1], Int.le_refl _, fun h => by omega⟩
  · by_cases hb0 : (b.length : Int) = 0
    · exact ⟨0, by simp [hn1, hb0], Int.le_refl _, fun h => by omega⟩
    · simp only [hn1, hb0, decide_false, cond_false, bd_some]
      by_cases hp : p < (b.length : Int)
      · have hx := tmod_rng (u8_rng (nth b p.toNat)).1 (show 0 < n by omega)
        have g1 : ix p b.length := ⟨h0, hp⟩
        have g2 : n ≠ 0 := by omega
        have g3 : I64 (((nth b p.toNat).toNat : Int).tmod n) := by unfold I64; omega
        simp only [hp, decide_true, cond_true, gd.yes g1, gd.yes g2, gd.yes g3]
        exact ⟨_, rfl, hx.1, fun _ => hx.2⟩
      · simp only [hp, decide_false, cond_false]
        have hL : (0 : Int) < (b.length : Int) := by omega
        have hm := tmod_rng h0 hL
        have hm2 := tmod_rng (show 0 ≤ p * 7 + 3 by omega) hL
        have hq := tdiv_rng h0 hL
        have u1 := u8_rng (nth b (p.tmod (b.length : Int)).toNat)
        have u2 := u8_rng (nth b ((p * 7 + 3).tmod (b.length : Int)).toNat)
        have g1 : (b.length : Int) ≠ 0 := hb0
        have g2 : I64 (p.tmod (b.length : Int)) := by unfold I64; omega
        have g3 : ix (p.tmod (b.length : Int)) b.length := hm
        have g4 : I64 (p * 7) := by unfold I64; omega
        have g5 : I64 (p * 7 + 3) := by unfold I64; omega
        have g6 : I64 ((p * 7 + 3).tmod (b.length : Int)) := by unfold I64; omega
        have g7 : ix ((p * 7 + 3).tmod (b.length : Int)) b.length := hm2
        have g8 : I64 (p * 29) := by unfold I64; omega
        have g9 : I64 (p.tdiv (b.length : Int)) := by unfold I64; omega
        simp only [gd.yes g1, gd.yes g2, gd.yes g3, gd.yes g4, gd.yes g5, gd.yes g6, gd.yes g7, gd.yes g8, gd.yes g9]
        generalize ((nth b (p.tmod (b.length : Int)).toNat).toNat : Int) = y1 at *
        generalize ((nth b ((p * 7 + 3).tmod (b.length : Int)).toNat).toNat : Int) = y2 at *
        generalize p.tdiv (b.length : Int) = q at *
        have k1 : I64 (y1 * 131) := by unfold I64; omega
        have k2 : I64 (y2 * 1117) := by unfold I64; omega
        have k3 : I64 (y1 * 131 + y2 * 1117) := by unfold I64; omega
        have k4 : I64 (y1 * 131 + y2 * 1117 + p * 29) := by unfold I64; omega
        have k5 : I64 (q * 53) := by unfold I64; omega
        have k6 : I64 (y1 * 131 + y2 * 1117 + p * 29 + q * 53) := by unfold I64; omega
        simp only [gd.yes k1, gd.yes k2, gd.yes k3, gd.yes k4, gd.yes k5, gd.yes k6]
        have hx0 : 0 ≤ y1 * 131 + y2 * 1117 + p * 29 + q * 53 := by omega
        have hx1 : y1 * 131 + y2 * 1117 + p * 29 + q * 53 < 1000000000 := by omega
        generalize y1 * 131 + y2 * 1117 + p * 29 + q * 53 = x at *
        have hd := tdiv_rng hx0 (show (0 : Int) < 64 by decide)
        have m1 : I64 (x.tdiv 64) := by unfold I64; omega
        have m2 : nn x := by unfold nn; omega
        have m3 : nn (x.tdiv 64) := by unfold nn; omega
        have hr0 := xr_nn x (x.tdiv 64)
        have hr1 := xr_lt hx0 (by omega) hd.1 (by omega) (b := x.tdiv 64)
        have hz := tmod_rng hr0 (show 0 < n by omega)
        have m4 : n ≠ 0 := by omega
        have m5 : I64 ((xr x (x.tdiv 64)).tmod n) := by unfold I64; omega
        simp only [gd.yes m1, gd.yes m2, gd.yes m3, gd.yes m4, gd.yes m5]
        exact ⟨_, rfl, hz.1, fun _ => hz.2⟩
end Go.Proofs.Ytfcdncblogldnaa
