/- Plain laws of the plain functions. Conditions: lengths that memory can hold. -/
import Derived.Test.YtfcdncblogldnaaP5
namespace Go.Proofs.Ytfcdncblogldnaa
open Go Go.Sx
/-- a row laid in, as the reference does it: whatever the order -/
def l2 (r : Row) : Bool → List Row → List Row
  | put, [] => if put then [] else [r]
  | put, x :: t => (if !put && decide (r.1 ≤ x.1) then [r] else []) ++ ((if x.1 = r.1 then [] else [x]) ++ l2 r (put || decide (r.1 ≤ x.1)) t)
theorem l2_len (r : Row) : ∀ (l : List Row) (put : Bool), (l2 r put l).length ≤ 2 * l.length + 1
  | [], put => by cases put <;> simp [l2]
  | x :: t, put => by
    have := l2_len r t (put || decide (r.1 ≤ x.1))
    simp only [l2, List.length_append, List.length_cons]
    split <;> split <;> simp <;> omega
theorem drop_nth {α : Type} [Inhabited α] {l : List α} {k : Nat} (hk : k < l.length) : l.drop k = nth l k :: l.drop (k + 1) := by
  rw [nth_eq l k hk, List.drop_eq_getElem_cons hk]
theorem e_l2Put (b : List Row) (r : Row) (hb : b.length ≤ 1048576) : p_spec_l2Put b r = some (l2 r false b) := by
  unfold p_spec_l2Put
  obtain ⟨e, he, hs1, hs2⟩ := lp.rule (body := p_spec_l2Put_b0 b r) (fun σ => ∃ k : Nat, k ≤ b.length ∧ σ.2.2 = (k : Int) ∧ σ.1.length ≤ 2 * k ∧ σ.1 ++ l2 r σ.2.1 (b.drop k) = l2 r false b) (fun σ => b.length - σ.2.2.toNat)
    (fun e => e.1.length ≤ 2 * b.length ∧ e.1 ++ (if e.2 then [] else [r]) = l2 r false b) (fun σ hI => by
      obtain ⟨k, k1, k2, k3, k4⟩ := hI
      unfold p_spec_l2Put_b0
      rw [k2]
      by_cases hk : k < b.length
      · left
        rw [drop_nth hk] at k4
        have hi := i64S hk (by omega)
        have r1 : room (σ.1.length + 1) := by unfold room; omega
        have r2 : room ((σ.1 ++ [r]).length + 1) := by simp; unfold room; omega
        simp only [dlt hk, cond_true, gd.yes (ixN hk), Int.toNat_natCast, gd.yes hi, gd.yes r1, gd.yes r2]
        obtain ⟨o, put, i⟩ := σ
        simp only at k2 k3 k4 ⊢
        cases put with
        | true =>
          simp only [l2, Bool.not_true, Bool.false_and, Bool.false_eq_true, if_false, List.nil_append, Bool.true_or] at k4
          simp only [Bool.not_true, cond_false, bd_some]
          by_cases hx : (nth b k).1 = r.1
          · simp only [hx, if_true, List.nil_append] at k4
            exact ⟨(o, true, ((k + 1 : Nat) : Int)), by simp [hx], ⟨k + 1, hk, rfl, by simp only; omega, k4⟩, by simp only; omega⟩
          · simp only [hx, if_false] at k4
            exact ⟨(o ++ [nth b k], true, ((k + 1 : Nat) : Int)), by simp [hx], ⟨k + 1, hk, rfl, by simp; omega, by simpa using k4⟩, by simp only; omega⟩
        | false =>
          by_cases hle : r.1 ≤ (nth b k).1
          · simp only [l2, hle, decide_true, Bool.not_false, Bool.true_and, if_true, Bool.or_true] at k4
            by_cases hx : (nth b k).1 = r.1
            · simp only [hx, if_true, List.nil_append] at k4
              exact ⟨(o ++ [r], true, ((k + 1 : Nat) : Int)), by simp [hx], ⟨k + 1, hk, rfl, by simp; omega, by simpa using k4⟩, by simp only; omega⟩
            · simp only [hx, if_false] at k4
              exact ⟨(o ++ [r] ++ [nth b k], true, ((k + 1 : Nat) : Int)), by simp [hx, hle], ⟨k + 1, hk, rfl, by simp; omega, by simpa using k4⟩, by simp only; omega⟩
          · simp only [l2, hle, decide_false, Bool.not_false, Bool.and_false, Bool.false_eq_true, if_false, List.nil_append, Bool.or_false] at k4
            have hx : ¬ (nth b k).1 = r.1 := by omega
            simp only [hx, if_false] at k4
            exact ⟨(o ++ [nth b k], false, ((k + 1 : Nat) : Int)), by simp [hx, hle], ⟨k + 1, hk, rfl, by simp; omega, by simpa using k4⟩, by simp only; omega⟩
      · right
        have hk' : k = b.length := by omega
        subst hk'
        refine ⟨(σ.1, σ.2.1), by simp, k3, ?_⟩
        rw [List.drop_length] at k4
        simpa [l2] using k4) (s := (([] : List Row), false, (0 : Int))) ⟨0, Nat.zero_le _, rfl, by simp, by simp⟩
  rw [he, bd_some]
  have r1 : room (e.1.length + 1) := by unfold room; omega
  cases hp : e.2 with
  | true => simp [hp] at hs2; simp [hp, hs2]
  | false => simp [hp] at hs2; simp [hp, gd.yes r1, hs2]
theorem d_l71Row (b : List UInt8) (p : Int) (hb : b.length ≤ 2000) (h0 : 0 ≤ p) (h1 : p + 4 ≤ 1000000) :
    ∃ r p', p_spec_l71Row (b, p) = some (r, p') ∧ p ≤ p' ∧ p' ≤ p + 4 := by
  obtain ⟨x1, e1, a1, b1⟩ := d_pick b p 40 hb h0 (by omega) (by decide)
  obtain ⟨x2, e2, a2, b2⟩ := d_pick b (p + 1) 20 hb (by omega) (by omega) (by decide)
  obtain ⟨x3, e3, a3, b3⟩ := d_pick b (p + 1 + 1) 40 hb (by omega) (by omega) (by decide)
  obtain ⟨x4, e4, a4, b4⟩ := d_pick b (p + 1 + 1 + 1) 3 hb (by omega) (by omega) (by decide)
  have g1 : I64 (x2 - 6) := by have := b2 (by decide); unfold I64; omega
  have b4 := b4 (by decide)
  have g2 : ix x4 ([-1, 99, 100] : List Int).length := ⟨a4, b4⟩
  have g3 : ix x4 ([-99, 99, 100] : List Int).length := ⟨a4, b4⟩
  unfold p_spec_l71Row
  simp only [e1, e2, e3, e4, bd_some, gd.yes g1, gd.yes g2, gd.yes g3]
  cases decide (x3 = 0) with
  | true => exact ⟨_, _, rfl, by omega, by omega⟩
  | false => cases decide (x3 = 1) with
    | true => exact ⟨_, _, rfl, by omega, by omega⟩
    | false => exact ⟨_, _, rfl, by omega, by omega⟩
theorem d_l71Block (b : List UInt8) (p : Int) (hb : b.length ≤ 2000) (h0 : 0 ≤ p) (h1 : p + 200 ≤ 1000000) :
    ∃ r p', p_spec_l71Block (b, p) = some (r, p') ∧ p ≤ p' ∧ p' ≤ p + 200 ∧ r.length ≤ 2000 := by
  obtain ⟨x1, e1, a1, b1⟩ := d_pick b p 9 hb h0 (by omega) (by decide)
  have b1 := b1 (by decide)
  unfold p_spec_l71Block
  simp only [e1, bd_some]
  obtain ⟨s, hs, i1, i2, i3⟩ := lp.rule (body := p_spec_l71Block_b0 (b, p)) (fun σ => 0 ≤ σ.2.2 ∧ σ.2.2 ≤ 8 ∧ p ≤ σ.1 ∧ σ.1 ≤ p + 1 + 4 * (8 - σ.2.2) ∧ ((σ.2.1.length : Nat) : Int) + 1 ≤ (2 : Int) ^ (9 - σ.2.2).toNat) (fun σ => σ.2.2.toNat)
    (fun e => p ≤ e.1 ∧ e.1 ≤ p + 40 ∧ e.2.length ≤ 600) (fun σ hI => by
      obtain ⟨j1, j2, j3, j4, j5⟩ := hI
      unfold p_spec_l71Block_b0
      by_cases hz : 0 < σ.2.2
      · left
        obtain ⟨r, p', q1, q2, q3⟩ := d_l71Row b σ.1 hb (by omega) (by omega)
        have g1 : I64 (σ.2.2 - 1) := by unfold I64; omega
        have hpow : (2 : Int) ^ (9 - (σ.2.2 - 1)).toNat = 2 * 2 ^ (9 - σ.2.2).toNat := by
          rw [show (9 - (σ.2.2 - 1)).toNat = (9 - σ.2.2).toNat + 1 by omega, Int.pow_succ]; omega
        have hlim : (2 : Int) ^ (9 - σ.2.2).toNat ≤ 2 ^ 9 := by
          have h : (2 : Nat) ^ (9 - σ.2.2).toNat ≤ 2 ^ 9 := Nat.pow_le_pow_right (by decide) (by omega)
          have h2 : ((2 ^ (9 - σ.2.2).toNat : Nat) : Int) ≤ ((2 ^ 9 : Nat) : Int) := by omega
          simpa using h2
        simp only [hz, decide_true, cond_true, q1, bd_some, e_spec_l2Row, gd.yes g1]
        cases hok : rowOk r with
        | true =>
          have hl : σ.2.1.length ≤ 1048576 := by omega
          simp only [cond_true, e_l2Put _ r hl, bd_some]
          have := l2_len r σ.2.1 false
          exact ⟨_, rfl, ⟨by simp only; omega, by simp only; omega, by simp only; omega, by simp only; omega, by simp only; rw [hpow]; omega⟩, by simp only; omega⟩
        | false =>
          simp only [cond_false]
          exact ⟨_, rfl, ⟨by simp only; omega, by simp only; omega, by simp only; omega, by simp only; omega, by simp only; rw [hpow]; omega⟩, by simp only; omega⟩
      · right
        have hz0 : σ.2.2 = 0 := by omega
        rw [hz0] at j5
        have hpw : (2 : Int) ^ (9 - (0 : Int)).toNat = 512 := by decide
        rw [hpw] at j5
        exact ⟨(σ.1, σ.2.1), by simp [hz], by simp only; omega, by simp only; omega, by simp only; omega⟩) (s := (p + 1, ([] : List Row), x1)) ⟨a1, by simp only; omega, by simp only; omega, by simp only; omega, by
      have h : (1 : Nat) ≤ 2 ^ (9 - x1).toNat := Nat.one_le_two_pow
      have h2 : ((1 : Nat) : Int) ≤ ((2 ^ (9 - x1).toNat : Nat) : Int) := by omega
      simpa using h2⟩
  rw [hs, bd_some]
  obtain ⟨x2, e2, a2, b2⟩ := d_pick b s.1 24 hb (by omega) (by omega) (by decide)
  simp only [e2, bd_some]
  by_cases hx0 : x2 = 0
  · obtain ⟨r, p', q1, q2, q3⟩ := d_l71Row b (s.1 + 1) hb (by omega) (by omega)
    have r1 : room (s.2.length + 1) := by unfold room; omega
    simp only [hx0, decide_true, cond_true, q1, bd_some, gd.yes r1]
    exact ⟨_, _, rfl, by omega, by omega, by simp; omega⟩
  · by_cases hx1 : x2 = 1
    · simp only [hx0, hx1, decide_false, cond_false, decide_true, cond_true, Int.reduceEq]
      obtain ⟨t, ht, u1, u2, u3⟩ := lp.rule (body := p_spec_l71Block_b1 (b, p)) (fun σ => s.1 + 1 ≤ σ.1 ∧ σ.1 ≤ s.1 + 1 + (σ.2.2 - 50) ∧ 50 ≤ σ.2.2 ∧ (σ.2.2 = 50 ∧ σ.2.1.length ≤ 600 ∨ σ.2.2 ≤ 50 + (σ.2.1.length : Int) ∧ σ.2.1.length ≤ 24)) (fun σ => 700 - σ.2.1.length)
        (fun e => s.1 + 1 ≤ e.2 ∧ e.2 ≤ s.1 + 30 ∧ e.1.length ≤ 700) (fun σ hI => by
          obtain ⟨j1, j2, j3, j4⟩ := hI
          unfold p_spec_l71Block_b1
          obtain ⟨x, q1, q2, q3⟩ := d_pick b σ.1 2 hb (by omega) (by omega) (by decide)
          have q3 := q3 (by decide)
          have g1 : I64 (24 - x) := by unfold I64; omega
          simp only [q1, bd_some, gd.yes g1]
          by_cases hc : (σ.2.1.length : Int) < 24 - x
          · left
            have r1 : room (σ.2.1.length + 1) := by unfold room; omega
            have g2 : I64 (σ.2.2 + 1) := by unfold I64; omega
            simp only [hc, decide_true, cond_true, gd.yes r1, gd.yes g2]
            exact ⟨_, rfl, ⟨by simp only; omega, by simp only; omega, by simp only; omega, by simp; omega⟩, by simp; omega⟩
          · right
            simp only [hc, decide_false, cond_false]
            exact ⟨_, rfl, by simp only; omega, by simp only; omega, by simp only; omega⟩) (s := (s.1 + 1, s.2, 50)) ⟨Int.le_refl _, by simp only; omega, Int.le_refl _, .inl ⟨rfl, i3⟩⟩
      rw [ht, bd_some]
      exact ⟨_, _, rfl, by omega, by omega, by omega⟩
    · simp only [hx0, hx1, decide_false, cond_false]
      exact ⟨_, _, rfl, by omega, by omega, by omega⟩
end Go.Proofs.Ytfcdncblogldnaa
