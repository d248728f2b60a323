/- Plain laws of the plain functions. Conditions: lengths that memory can hold. -/
import Derived.Test.YtfcdncblogldnaaP6
namespace Go.Proofs.Ytfcdncblogldnaa
open Go Go.Sx
/-- what is not empty, with its number -/
def mkP (i : Nat) : List (List Row) → Part
  | [] => ([], [])
  | b :: t => if 0 < b.length then (((i + 1 : Nat) : Int) :: (mkP (i + 1) t).1, b :: (mkP (i + 1) t).2) else mkP (i + 1) t
theorem mkP_len : ∀ (l : List (List Row)) (i : Nat), (mkP i l).1.length = (mkP i l).2.length ∧ (mkP i l).1.length ≤ l.length
  | [], i => by simp [mkP]
  | b :: t, i => by
    have := mkP_len t (i + 1)
    unfold mkP
    split <;> simp <;> omega
theorem mkP_mem : ∀ (l : List (List Row)) (i : Nat) (b : List Row), b ∈ (mkP i l).2 → b ∈ l
  | [], i, b, h => by simp [mkP] at h
  | c :: t, i, b, h => by
    unfold mkP at h
    split at h
    · rcases List.mem_cons.1 h with rfl | h
      · simp
      · exact List.mem_cons_of_mem _ (mkP_mem t (i + 1) b h)
    · exact List.mem_cons_of_mem _ (mkP_mem t (i + 1) b h)
theorem nth_mem {α : Type} [Inhabited α] {l : List α} {k : Nat} (h : k < l.length) : nth l k ∈ l := by rw [nth_eq l k h]; exact List.getElem_mem h
theorem e_l12Make (v : List (List Row)) (hv : v.length ≤ 1048576) (hb : ∀ b ∈ v, b.length ≤ 1048576) : p_spec_l12Make v = some (mkP 0 v) := by
  unfold p_spec_l12Make
  obtain ⟨e, he, hs⟩ := lp.rule (body := p_spec_l12Make_b0 v) (fun σ => ∃ k : Nat, k ≤ v.length ∧ σ.2.2 = (k : Int) ∧ σ.1.length ≤ k ∧ σ.2.1.length ≤ k ∧ σ.1 ++ (mkP k (v.drop k)).1 = (mkP 0 v).1 ∧ σ.2.1 ++ (mkP k (v.drop k)).2 = (mkP 0 v).2) (fun σ => v.length - σ.2.2.toNat)
    (fun e => e = mkP 0 v) (fun σ hI => by
      obtain ⟨k, k1, k2, k3, k4, k5, k6⟩ := hI
      unfold p_spec_l12Make_b0
      rw [k2]
      by_cases hk : k < v.length
      · left
        rw [drop_nth hk] at k5 k6
        have hi := i64S hk (by omega)
        have r1 : room (σ.1.length + 1) := by unfold room; omega
        have r2 : room (σ.2.1.length + 1) := by unfold room; omega
        have r3 : room (([] : List Row).length + (nth v k).length) := by have := hb _ (nth_mem hk); unfold room; simp; omega
        simp only [dlt hk, cond_true, gd.yes (ixN hk), Int.toNat_natCast, gd.yes hi, gd.yes r1, gd.yes r2, gd.yes r3]
        by_cases hz : 0 < (nth v k).length
        · have hz' : (0 : Int) < ((nth v k).length : Int) := by omega
          simp only [mkP, hz, if_true] at k5 k6
          simp only [hz', decide_true, cond_true]
          exact ⟨_, rfl, ⟨k + 1, hk, rfl, by simp; omega, by simp; omega, by simpa using k5, by simpa using k6⟩, by simp only; omega⟩
        · have hz' : ¬ (0 : Int) < ((nth v k).length : Int) := by omega
          simp only [mkP, hz, if_false] at k5 k6
          simp only [hz', decide_false, cond_false]
          exact ⟨_, rfl, ⟨k + 1, hk, rfl, by simp only; omega, by simp only; omega, k5, k6⟩, by simp only; omega⟩
      · right
        have hk' : k = v.length := by omega
        subst hk'
        rw [List.drop_length] at k5 k6
        refine ⟨(σ.1, σ.2.1), by simp, ?_⟩
        simp [mkP] at k5 k6
        rw [k5, k6]) (s := (([] : List Int), ([] : List (List Row)), (0 : Int))) ⟨0, Nat.zero_le _, rfl, Nat.le_refl _, Nat.le_refl _, by simp, by simp⟩
  rw [he, hs]; rfl
/-- a small part -/
def small (p : Part) : Prop := p.1.length ≤ 10 ∧ p.2.length ≤ 10 ∧ ∀ b ∈ p.2, b.length ≤ 2000
theorem small_ok {p : Part} (h : small p) : Dp.ok p := by
  obtain ⟨h1, h2, h3⟩ := h
  exact ⟨⟨Nat.le_trans h1 (by decide), fun _ _ => trivial⟩, ⟨Nat.le_trans h2 (by decide), fun i hi => ok_rows _ (Nat.le_trans (h3 _ (nth_mem hi)) (by decide))⟩⟩
theorem wRow {b : List Row} : Wt.w b = b.length := by show b.length + sumN b.length (fun i => Wt.w (nth b i)) = _; rw [sumN_zero (f := fun i => Wt.w (nth b i)) fun i _ => rfl]; rfl
theorem sumN_bound {n m : Nat} {f : Nat → Nat} (h : ∀ i, i < n → f i ≤ m) : sumN n f ≤ n * m := by
  induction n with
  | zero => simp [sumN]
  | succ n ih => have := ih fun i hi => h i (by omega); have := h n (by omega); simp only [sumN, Nat.add_mul]; omega
theorem small_w {p : Part} (h : small p) : Wt.w p ≤ 1048576 := by
  obtain ⟨h1, h2, h3⟩ := h
  have a1 : Wt.w p.1 = p.1.length := by show p.1.length + sumN p.1.length (fun i => Wt.w (nth p.1 i)) = _; rw [sumN_zero (f := fun i => Wt.w (nth p.1 i)) fun i _ => rfl]; rfl
  have a2 : sumN p.2.length (fun i => Wt.w (nth p.2 i)) ≤ p.2.length * 2000 := sumN_bound fun i hi => by rw [wRow]; exact h3 _ (nth_mem hi)
  have a3 : p.2.length * 2000 ≤ 10 * 2000 := Nat.mul_le_mul_right _ h2
  show Wt.w p.1 + (p.2.length + sumN p.2.length fun i => Wt.w (nth p.2 i)) ≤ _
  omega
theorem d_l6Open (c : List UInt8) : ∃ b, p_spec_l6Open c = some (b, 0) ∧ b.length ≤ 2000 := by
  unfold p_spec_l6Open
  by_cases h : (2000 : Int) < (c.length : Int)
  · have g : sl2 0 2000 c.length := by unfold sl2; omega
    simp only [h, decide_true, cond_true, gd.yes g]
    exact ⟨_, rfl, by simp; omega⟩
  · simp only [h, decide_false, cond_false]
    exact ⟨_, rfl, by omega⟩
theorem d_l72Part (b : List UInt8) (p : Int) (hb : b.length ≤ 2000) (h0 : 0 ≤ p) (h1 : p + 900 ≤ 1000000) :
    ∃ r p', p_spec_l72Part (b, p) = some (r, p') ∧ p ≤ p' ∧ p' ≤ p + 900 ∧ r.1.length ≤ 5 ∧ r.2.length ≤ 5 ∧ ∀ x ∈ r.2, x.length ≤ 2000 := by
  unfold p_spec_l72Part
  obtain ⟨s, hs, i1, i2, i3, i4⟩ := lp.rule (body := p_spec_l72Part_b0 (b, p)) (fun σ => p ≤ σ.1 ∧ σ.1 ≤ p + 201 * σ.2.2 ∧ 0 ≤ σ.2.2 ∧ σ.2.2 ≤ 4 ∧ (σ.2.1.length : Int) = σ.2.2 ∧ ∀ x ∈ σ.2.1, x.length ≤ 2000) (fun σ => (4 - σ.2.2).toNat)
    (fun e => p ≤ e.1 ∧ e.1 ≤ p + 804 ∧ e.2.length ≤ 4 ∧ ∀ x ∈ e.2, x.length ≤ 2000) (fun σ hI => by
      obtain ⟨j1, j2, j3, j4, j5, j6⟩ := hI
      unfold p_spec_l72Part_b0
      by_cases hz : σ.2.2 < 4
      · left
        obtain ⟨x, q1, q2, q3⟩ := d_pick b σ.1 2 hb (by omega) (by omega) (by decide)
        have g1 : I64 (σ.2.2 + 1) := by unfold I64; omega
        have r1 : room (σ.2.1.length + 1) := by unfold room; omega
        simp only [hz, decide_true, cond_true, q1, bd_some, gd.yes g1, gd.yes r1]
        by_cases hx : x = 0
        · obtain ⟨r, p', w1, w2, w3, w4⟩ := d_l71Block b (σ.1 + 1) hb (by omega) (by omega)
          simp only [hx, decide_true, cond_true, w1, bd_some]
          refine ⟨_, rfl, ⟨by simp only; omega, by simp only; omega, by simp only; omega, by simp only; omega, by simp; omega, fun y hy => ?_⟩, by simp only; omega⟩
          rcases List.mem_append.1 hy with hy | hy
          · exact j6 y hy
          · simp at hy; subst hy; exact w4
        · simp only [hx, decide_false, cond_false]
          refine ⟨_, rfl, ⟨by simp only; omega, by simp only; omega, by simp only; omega, by simp only; omega, by simp; omega, fun y hy => ?_⟩, by simp only; omega⟩
          rcases List.mem_append.1 hy with hy | hy
          · exact j6 y hy
          · simp at hy; subst hy; simp
      · right
        simp only [hz, decide_false, cond_false]
        exact ⟨_, rfl, by simp only; omega, by simp only; omega, by simp only; omega, j6⟩) (s := (p, ([] : List (List Row)), 0)) ⟨Int.le_refl _, by simp, Int.le_refl _, by simp, rfl, by simp⟩
  simp only [hs, bd_some, e_l12Make s.2 (by omega) (fun x hx => Nat.le_trans (i4 x hx) (by decide))]
  obtain ⟨m1, m2⟩ := mkP_len s.2 0
  have m3 := mkP_mem s.2 0
  obtain ⟨x, q1, q2, q3⟩ := d_pick b s.1 24 hb (by omega) (by omega) (by decide)
  obtain ⟨y, w1, w2, w3⟩ := d_pick b (s.1 + 1) 9 hb (by omega) (by omega) (by decide)
  have r1 : room ((mkP 0 s.2).1.length + 1) := by unfold room; omega
  have r2 : room ((mkP 0 s.2).2.length + 1) := by unfold room; omega
  simp only [q1, w1, bd_some, gd.yes r1, gd.yes r2]
  by_cases hx : x = 0
  · simp only [hx, decide_true, cond_true]
    exact ⟨_, _, rfl, by omega, by omega, by simp; omega, by simp only; omega, fun z hz => i4 z (m3 z hz)⟩
  · by_cases hx1 : x = 1
    · simp only [hx, hx1, decide_false, cond_false, decide_true, cond_true, Int.reduceEq]
      refine ⟨_, _, rfl, by omega, by omega, by simp; omega, by simp; omega, fun z hz => ?_⟩
      rcases List.mem_append.1 hz with hz | hz
      · exact i4 z (m3 z hz)
      · simp at hz; subst hz; simp
    · simp only [hx, hx1, decide_false, cond_false]
      exact ⟨_, _, rfl, by omega, by omega, by omega, by omega, fun z hz => i4 z (m3 z hz)⟩
theorem d_DrawPartOf (c : List UInt8) : ∃ r, p_spec_DrawPartOf c = some r ∧ small r.1 := by
  obtain ⟨b, e0, hb⟩ := d_l6Open c
  obtain ⟨r, p', e1, a1, a2, a3, a4, a5⟩ := d_l72Part b 0 hb (by decide) (by decide)
  have hsm : small r := ⟨by omega, by omega, a5⟩
  unfold p_spec_DrawPartOf
  simp only [e0, e1, bd_some]
  obtain ⟨x1, f1, g1, h1⟩ := d_pick b p' 4 hb (by omega) (by omega) (by decide)
  obtain ⟨x2, f2, g2, h2⟩ := d_pick b (p' + 1) (r.1.length : Int) hb (by omega) (by omega) (by omega)
  obtain ⟨x3, f3, g3, h3⟩ := d_pick b (p' + 1) 8 hb (by omega) (by omega) (by decide)
  obtain ⟨x4, f4, g4, h4⟩ := d_pick b p' 8 hb (by omega) (by omega) (by decide)
  simp only [f1, f2, f3, f4, bd_some]
  by_cases hl : (0 : Int) < (r.1.length : Int)
  · have hi : ix x2 r.1.length := ⟨g2, h2 (by omega)⟩
    simp only [hl, decide_true, cond_true, gd.yes hi]
    cases decide (0 < x1) with
    | true => exact ⟨_, rfl, hsm⟩
    | false => exact ⟨_, rfl, hsm⟩
  · simp only [hl, decide_false, cond_false]
    exact ⟨_, rfl, hsm⟩
theorem d_DrawPartOk (c : List UInt8) : ∃ r, p_spec_DrawPartOk c = some r ∧ small r := by
  obtain ⟨b, e0, hb⟩ := d_l6Open c
  obtain ⟨r, p', e1, a1, a2, a3, a4, a5⟩ := d_l72Part b 0 hb (by decide) (by decide)
  have hsm : small r := ⟨by omega, by omega, a5⟩
  unfold p_spec_DrawPartOk
  simp only [e0, e1, bd_some]
  obtain ⟨x1, f1, g1, h1⟩ := d_pick b p' 5 hb (by omega) (by omega) (by decide)
  obtain ⟨x2, f2, g2, h2⟩ := d_pick b (p' + 1) 7 hb (by omega) (by omega) (by decide)
  have h2 := h2 (by decide)
  obtain ⟨y, q', e2, b1, b2, b3⟩ := d_l71Block b (p' + 1 + 1) hb (by omega) (by omega)
  have k1 : I64 (1 + x2) := by unfold I64; omega
  have k2 : room (r.1.length + 1) := by unfold room; omega
  have k3 : room (r.2.length + 1) := by unfold room; omega
  simp only [f1, f2, e2, bd_some, gd.yes k1, gd.yes k2, gd.yes k3]
  cases decide (x1 = 0) with
  | true =>
    refine ⟨_, rfl, by simp; omega, by simp; omega, fun z hz => ?_⟩
    rcases List.mem_append.1 hz with hz | hz
    · exact a5 z hz
    · simp at hz; subst hz; exact b3
  | false => exact ⟨_, rfl, hsm⟩
theorem d_DrawPartRows (c : List UInt8) : ∃ r, p_spec_DrawPartRows c = some r ∧ small r := by
  obtain ⟨b, e0, hb⟩ := d_l6Open c
  obtain ⟨r, p', e1, a1, a2, a3, a4, a5⟩ := d_l72Part b 0 hb (by decide) (by decide)
  unfold p_spec_DrawPartRows
  simp only [e0, e1, bd_some]
  exact ⟨_, rfl, by omega, by omega, a5⟩
theorem d_DrawPartMerge (c : List UInt8) : ∃ r, p_spec_DrawPartMerge c = some r ∧ small r.1 ∧ small r.2 := by
  obtain ⟨b, e0, hb⟩ := d_l6Open c
  obtain ⟨r, p', e1, a1, a2, a3, a4, a5⟩ := d_l72Part b 0 hb (by decide) (by decide)
  obtain ⟨r2, p2, e2, b1, b2, b3, b4, b5⟩ := d_l72Part b p' hb (by omega) (by omega)
  unfold p_spec_DrawPartMerge
  simp only [e0, e1, e2, bd_some]
  have s1 : small r := ⟨by omega, by omega, a5⟩
  have s2 : small r2 := ⟨by omega, by omega, b5⟩
  exact ⟨_, rfl, s1, s2⟩
end Go.Proofs.Ytfcdncblogldnaa
