/- Plain laws of the plain functions. Conditions: lengths that memory can hold. -/
import Derived.Test.YtfcdncblogldnaaP1
namespace Go.Proofs.Ytfcdncblogldnaa
open Go Go.Sx
theorem e_FnExactPartOk (a : Part) (ok : Dp.ok a) : p_laws_FnExactPartOk a = some true := by
  unfold p_laws_FnExactPartOk
  rw [s_Part a 1048576 (by omega) (by omega) ok, bd_some]
  by_cases hc : cut 1048576 (Wt.w a) < 0
  · simp [hc]
  · have hw := cut_w hc (by omega)
    simp [hc, t_Part a ok hw, e_spec_PartOk a ok, e_impl_PartOk a ok, q_Part a a ok ok]
theorem partRows_loop (a : Part) (ok : Dp.ok a) (hw : Wt.w a ≤ 1048576) : ∃ r, lp (p_impl_PartRows_b0 a) (0, 0) = some r ∧ lp (p_spec_PartRows_b0 a) (0, 0) = some r := by
  have hl : a.2.length ≤ 1048576 := Nat.le_trans wL_le (Nat.le_trans wP_2 hw)
  have hs : ∀ k, k ≤ a.2.length → sumN k (fun i => (nth a.2 i).length) ≤ 1048576 := fun k hk => by
    refine Nat.le_trans (sumN_le hk) (Nat.le_trans ?_ hw)
    show _ ≤ Wt.w a.1 + (a.2.length + sumN a.2.length fun i => Wt.w (nth a.2 i))
    have : sumN a.2.length (fun i => (nth a.2 i).length) ≤ sumN a.2.length fun i => Wt.w (nth a.2 i) := sumN_mono fun i _ => wL_le
    omega
  refine ⟨(sumN a.2.length (fun i => (nth a.2 i).length) : Nat), ?_, ?_⟩
  · have := lp_for (body := p_impl_PartRows_b0 a) (fun k => (((sumN k (fun i => (nth a.2 i).length) : Nat) : Int), (k : Int))) a.2.length (sumN a.2.length (fun i => (nth a.2 i).length) : Nat) (fun k hk => by
      unfold p_impl_PartRows_b0
      have h1 := hs (k + 1) hk
      simp only [sumN] at h1
      have h2 : I64 (((sumN k (fun i => (nth a.2 i).length) : Nat) : Int) + ((nth a.2 k).length : Int)) := by unfold I64; omega
      simp only [dlt hk, cond_true, gd.yes (ixN hk), Int.toNat_natCast, gd.yes h2, gd.yes (i64S hk (by omega)), sumN]
      simp) (by unfold p_impl_PartRows_b0; simp)
    simpa [sumN] using this
  · have := lp_for (body := p_spec_PartRows_b0 a) (fun k => (((sumN k (fun i => (nth a.2 i).length) : Nat) : Int), (k : Int))) a.2.length (sumN a.2.length (fun i => (nth a.2 i).length) : Nat) (fun k hk => by
      unfold p_spec_PartRows_b0
      have h1 := hs (k + 1) hk
      simp only [sumN] at h1
      have h2 : I64 (((sumN k (fun i => (nth a.2 i).length) : Nat) : Int) + ((nth a.2 k).length : Int)) := by unfold I64; omega
      simp only [dlt hk, cond_true, gd.yes (ixN hk), Int.toNat_natCast, gd.yes h2, gd.yes (i64S hk (by omega)), sumN]
      simp) (by unfold p_spec_PartRows_b0; simp)
    simpa [sumN] using this
theorem e_FnExactPartRows (a : Part) (ok : Dp.ok a) : p_laws_FnExactPartRows a = some true := by
  unfold p_laws_FnExactPartRows
  rw [s_Part a 1048576 (by omega) (by omega) ok, bd_some]
  by_cases hc : cut 1048576 (Wt.w a) < 0
  · simp [hc]
  · have hw := cut_w hc (by omega)
    obtain ⟨r, h1, h2⟩ := partRows_loop a ok hw
    simp only [hc, decide_false, cond_false, t_Part a ok hw, bd_some]
    unfold p_spec_PartRows p_impl_PartRows
    simp only [e_spec_PartOk a ok, e_impl_PartOk a ok, bd_some, h1, h2]
    cases partOk a <;> simp [q_Part a a ok ok]
end Go.Proofs.Ytfcdncblogldnaa
