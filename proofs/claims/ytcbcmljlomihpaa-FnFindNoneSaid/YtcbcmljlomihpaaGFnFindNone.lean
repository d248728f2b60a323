/- What the row says of the program is so. Conditions: none. -/
import Derived.Test.YtcbcmljlomihpaaRows
import Derived.JoinedOf
namespace Go.Proofs.Ytcbcmljlomihpaa
open Go
set_option maxRecDepth 100000 in
set_option maxHeartbeats 4000000 in
theorem closed_FnFindNone : joinedFacts Try.pinned.checked.prog 3 Try.f3 Rows.fnFindNoneSpec Rows.fnFindNoneRow = true := by
  unfold joinedFacts
  rw [Bool.and_eq_true, Bool.and_eq_true, Bool.and_eq_true, Bool.and_eq_true, Bool.and_eq_true, Bool.and_eq_true, Bool.and_eq_true, Bool.and_eq_true, Bool.and_eq_true, Bool.and_eq_true, Bool.and_eq_true, Bool.and_eq_true, Bool.and_eq_true, Bool.and_eq_true, Bool.and_eq_true, Bool.and_eq_true, Bool.and_eq_true, Bool.and_eq_true, Bool.and_eq_true, Bool.and_eq_true, Bool.and_eq_true, Bool.and_eq_true, Bool.and_eq_true, Bool.and_eq_true, Bool.and_eq_true, Bool.and_eq_true, Bool.and_eq_true, Bool.and_eq_true, Bool.and_eq_true, Bool.and_eq_true, Bool.and_eq_true]
  repeat' apply And.intro
  all_goals as_aux_lemma => kernel_rfl
end Go.Proofs.Ytcbcmljlomihpaa
