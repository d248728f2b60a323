/- Plain laws of the plain functions. Conditions: lengths that memory can hold. -/
import Derived.Test.YtfcdncblogldnaaP8
namespace Go.Proofs.Ytfcdncblogldnaa
open Go Go.Sx
theorem nth_append_left' {α : Type} [Inhabited α] {l k : List α} {i : Nat} (h : i < l.length) : nth (l ++ k) i = nth l i := nth_append_left h
theorem e_FnPartForm (c d : List UInt8) (_ : Dp.ok c) (_ : Dp.ok d) : p_laws_FnPartForm c d = some true := by
  unfold p_laws_FnPartForm
  by_cases hc : (1048576 : Int) < (c.length : Int)
  · simp [hc]
  by_cases hd : (1048576 : Int) < (d.length : Int)
  · simp [hd]
  obtain ⟨p, e0, hsm⟩ := d_DrawPartOk c
  have ok := small_ok hsm
  have hw := small_w hsm
  simp only [hc, hd, decide_false, cond_false, bd_some, e0, e_impl_PartOk p ok, e_spec_PartOk p ok, decide_true, Bool.not_true]
  cases hp : partOk p with
  | false => rfl
  | true =>
    obtain ⟨h1, h2, h3, h4⟩ := partOk_iff hp
    obtain ⟨s1, s2, s3⟩ := hsm
    have hl : p.1.length ≤ 9223372036854775807 := by omega
    have hloop := lp_for (body := p_laws_FnPartForm_b0 p) (fun k => (k : Int)) p.1.length (.inl ()) (fun k hk => by
      unfold p_laws_FnPartForm_b0
      have hk2 : k < p.2.length := by omega
      obtain ⟨a1, a2⟩ := h4 k hk2
      have a3 : ¬ ((nth p.2 k).length : Int) = 0 := by omega
      have hbl : (nth p.2 k).length ≤ maxLen := Nat.le_trans (s3 _ (nth_mem hk2)) (by decide)
      simp only [dlt hk, cond_true, Int.toNat_natCast, gd.yes (ixN hk2), gd.yes (ixN hk), a3, decide_false, cond_false, e_impl_BlockOk _ hbl, a2, Bool.not_true, bd_some, gd.yes (i64S hk hl)]
      by_cases hk0 : 0 < k
      · have hk0' : (0 : Int) < (k : Int) := by omega
        have e1 : (k : Int) - 1 = ((k - 1 : Nat) : Int) := by omega
        have g1 : I64 ((k - 1 : Nat) : Int) := by unfold I64; omega
        have g2 : ix ((k - 1 : Nat) : Int) p.1.length := ixN (by omega)
        have := h3 k hk0 hk
        have hn : ¬ nth p.1 k ≤ nth p.1 (k - 1) := by omega
        simp only [hk0', decide_true, cond_true, e1, gd.yes g1, gd.yes g2, Int.toNat_natCast, hn, decide_false, bd_some, cond_false]
        rfl
      · have hk0' : ¬ (0 : Int) < (k : Int) := by omega
        simp only [hk0', decide_false, cond_false, bd_some]
        rfl) (by unfold p_laws_FnPartForm_b0; simp)
    have hl0 : lp (p_laws_FnPartForm_b0 p) 0 = some (.inl ()) := hloop
    simp only [Bool.not_true, bd_some, cond_false, hl0, sw]
    by_cases hz : (p.1.length : Int) = 0
    · simp [hz]
    · have hn : 0 < p.1.length := by omega
      have hm := tmod_rng (show (0 : Int) ≤ (d.length : Int) by omega) (show (0 : Int) < (p.1.length : Int) by omega)
      generalize hkdef : (d.length : Int).tmod (p.1.length : Int) = ki at *
      obtain ⟨k, rfl⟩ := Int.eq_ofNat_of_zero_le hm.1
      have hk : k < p.1.length := by omega
      have hk2 : k < p.2.length := by omega
      have g1 : I64 (k : Int) := by unfold I64; omega
      have g2 : room (([] : List (List Row)).length + p.2.length) := by simp; unfold room; omega
      have g3 : ix (k : Int) (([] : List (List Row)) ++ p.2).length := ixN (by simpa using hk2)
      have g4 : room (([] : List Int).length + p.1.length) := by simp; unfold room; omega
      have g5 : room ((([] : List Int) ++ p.1).length + 1) := by simp; unfold room; omega
      have g6 : room ((([] : List (List Row)) ++ p.2).length + 1) := by simp; unfold room; omega
      simp only [hz, decide_false, cond_false, ne_eq, not_false_eq_true, gd.yes trivial, gd.yes hz, gd.yes g1, gd.yes g2, gd.yes g3, gd.yes g4, gd.yes g5, gd.yes g6, gd.yes (ixN hk), gd.yes (ixN hk2), Int.toNat_natCast, List.nil_append]
      have hmem : ∀ b ∈ p.2.set k [], b.length ≤ 2000 := fun b hb => by
        rcases List.mem_or_eq_of_mem_set hb with h | h
        · exact s3 b h
        · subst h; simp
      have okx : Dp.ok ((p.1, p.2.set k []) : Part) := small_ok ⟨s1, by simp only [List.length_set]; exact s2, hmem⟩
      have oky : Dp.ok ((p.1 ++ [nth p.1 k], p.2 ++ [nth p.2 k]) : Part) := by
        refine ⟨⟨?_, fun _ _ => trivial⟩, ⟨?_, fun i hi => ok_rows _ ?_⟩⟩
        · simp; exact Nat.le_trans (Nat.succ_le_succ s1) (by decide)
        · simp; exact Nat.le_trans (Nat.succ_le_succ s2) (by decide)
        · have hmem := nth_mem hi
          simp only at hmem
          rcases List.mem_append.1 hmem with h | h
          · exact Nat.le_trans (s3 _ h) (by decide)
          · simp only [List.mem_singleton] at h
            rw [h]; exact Nat.le_trans (s3 _ (nth_mem hk2)) (by decide)
      have okz : Dp.ok ((p.1, ([] : List (List Row))) : Part) := small_ok ⟨s1, Nat.zero_le _, by simp⟩
      have fx : partOk (p.1, p.2.set k []) = false := by
        cases h : partOk (p.1, p.2.set k []) with
        | false => rfl
        | true =>
          have := ((partOk_iff h).2.2.2 k (by simpa using hk2)).1
          simp only [nth_set_eq hk2] at this
          simp at this
      have fy : partOk (p.1 ++ [nth p.1 k], p.2 ++ [nth p.2 k]) = false := by
        cases h : partOk (p.1 ++ [nth p.1 k], p.2 ++ [nth p.2 k]) with
        | false => rfl
        | true =>
          have := ids_mono (partOk_iff h).2.2.1 (j := k) (k := p.1.length) hk (by simp)
          simp only [nth_append_new] at this
          rw [nth_append_left hk] at this
          omega
      have fz : partOk (p.1, ([] : List (List Row))) = false := by
        cases h : partOk (p.1, ([] : List (List Row))) with
        | false => rfl
        | true => have := (partOk_iff h).1; simp at this; simp [this] at hn
      have g7 : room (p.1.length + 1) := by unfold room; omega
      have g8 : room (p.2.length + 1) := by unfold room; omega
      simp only [e_impl_PartOk _ okx, e_impl_PartOk _ oky, e_impl_PartOk _ okz, fx, fy, fz, bd_some, gd.yes g7, gd.yes g8]
      rfl
end Go.Proofs.Ytfcdncblogldnaa
