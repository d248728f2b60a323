/- Plain laws of the plain functions. Conditions: lengths that memory can hold. -/
import Derived.Test.YtfcdncblogldnaaP3
namespace Go.Proofs.Ytfcdncblogldnaa
open Go Go.Sx
def disk0 : Disk := (([] : List File), ([] : List Int), ([] : List (List Tag)), 1)
theorem disk0_ok : Dp.ok disk0 := ⟨⟨Nat.zero_le _, fun i hi => absurd hi (Nat.not_lt_zero _)⟩, ⟨Nat.zero_le _, fun i hi => absurd hi (Nat.not_lt_zero _)⟩, ⟨Nat.zero_le _, fun i hi => absurd hi (Nat.not_lt_zero _)⟩, trivial⟩
theorem e_FnExactDiskNew : p_laws_FnExactDiskNew = some true := by
  have e1 : p_spec_DiskNew = some disk0 := rfl
  have e2 : p_impl_DiskNew = some disk0 := rfl
  obtain ⟨k1, r1, m1, l1, u1, f1⟩ := m_FileS disk0.1 1 (by omega) (by decide) disk0_ok.1
  unfold p_laws_FnExactDiskNew
  obtain ⟨k, r, m, l, u, f⟩ := m_Disk disk0 1 (by omega) (by decide) disk0_ok
  have hk : ¬ k < 0 := by omega
  have hr : r.2.2.2 = disk0.2.2.2 := by
    unfold p_laws_markDisk at m
    obtain ⟨_, _, m⟩ := bd.of m
    obtain ⟨_, _, m⟩ := bd.of m
    obtain ⟨_, _, m⟩ := bd.of m
    have := Option.some.inj m
    simp at this
    rw [← this.2]
  have hf : p_laws_heldDisk (r.1, r.2.1, r.2.2.1, disk0.2.2.2) 1 = some k := by rw [← hr]; exact f
  simp [e1, e2, q_Disk disk0 disk0 disk0_ok disk0_ok, m, hf, hk]
end Go.Proofs.Ytfcdncblogldnaa
