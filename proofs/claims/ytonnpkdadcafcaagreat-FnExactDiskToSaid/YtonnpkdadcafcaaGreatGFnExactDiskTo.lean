/- What the row says of the program is so. Conditions: none. -/
import Derived.Test.YtonnpkdadcafcaaGreatRows
import Derived.JoinedOf
namespace Go.Proofs.YtonnpkdadcafcaaGreat
open Go
set_option maxRecDepth 100000 in
set_option maxHeartbeats 4000000 in
theorem closed_FnExactDiskTo : joinedFacts Tryz.pinned.checked.prog 8 Tryz.f8 Rows.fnExactDiskToSpec Rows.fnExactDiskToRow = true := by
  unfold joinedFacts
  rw [Bool.and_eq_true, Bool.and_eq_true, Bool.and_eq_true, Bool.and_eq_true, Bool.and_eq_true, Bool.and_eq_true, Bool.and_eq_true, Bool.and_eq_true, Bool.and_eq_true, Bool.and_eq_true, Bool.and_eq_true, Bool.and_eq_true, Bool.and_eq_true, Bool.and_eq_true, Bool.and_eq_true, Bool.and_eq_true, Bool.and_eq_true, Bool.and_eq_true, Bool.and_eq_true, Bool.and_eq_true, Bool.and_eq_true, Bool.and_eq_true, Bool.and_eq_true, Bool.and_eq_true, Bool.and_eq_true, Bool.and_eq_true, Bool.and_eq_true, Bool.and_eq_true, Bool.and_eq_true, Bool.and_eq_true, Bool.and_eq_true]
  repeat' apply And.intro
  all_goals as_aux_lemma => kernel_rfl
end Go.Proofs.YtonnpkdadcafcaaGreat
