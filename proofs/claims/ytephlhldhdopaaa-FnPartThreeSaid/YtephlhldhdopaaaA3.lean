/- The walks and the plain laws, part 3: each function that the law reaches computes what its plain function tells, and what the plain functions answer. Conditions: lengths that memory can hold. -/
import Derived.Test.YtephlhldhdopaaaA2
namespace Go.Proofs.Ytephlhldhdopaaa
open Go Go.Sx
theorem pm_three {a b c : Part} (hab : pmOk a b = true) (hx : pmOk (pmP a b) c = true) : pmOk b c = true ∧ pmOk a (pmP b c) = true ∧ pmP a (pmP b c) = pmP (pmP a b) c := by
  obtain ⟨ha, hb, _⟩ := pmOk_iff.1 hab
  obtain ⟨hp, hc, h24⟩ := pmOk_iff.1 hx
  have e : ∀ id, blk (pmP a b) c id = mg (rowsOf a id) (mg (rowsOf b id) (rowsOf c id)) := fun id => by
    unfold blk; rw [pmP_eq ha hb, mg_assoc (rowsOf_asc ha id) (rowsOf_asc hb id) (rowsOf_asc hc id)]
  have hbc : pmOk b c = true := pmOk_iff.2 ⟨hb, hc, fun id => by
    have h1 := h24 id
    rw [e] at h1
    have := mg_le (rowsOf_asc ha id) (mg_asc (b := rowsOf c id) (rowsOf_asc hb id))
    unfold blk; omega⟩
  have hq := pm_part hbc
  have e2 : ∀ id, blk a (pmP b c) id = mg (rowsOf a id) (mg (rowsOf b id) (rowsOf c id)) := fun id => by
    unfold blk; rw [pmP_eq hb hc]
  have hz : pmOk a (pmP b c) = true := pmOk_iff.2 ⟨ha, hq, fun id => by rw [e2, ← e]; exact h24 id⟩
  refine ⟨hbc, hz, part_ext (pm_part hz) (pm_part hx) fun id => ?_⟩
  rw [pmP_rows ha hq, pmP_rows hp hc, e, e2]
theorem e_FnPartThree (c d : List UInt8) (_ : Dp.ok c) (_ : Dp.ok d) : p_laws_FnPartThree c d = some true := by
  unfold p_laws_FnPartThree
  by_cases hc : (1048576 : Int) < (c.length : Int)
  · simp [hc]
  · simp only [hc, decide_false, cond_false, bd_some]
    by_cases hd : (1048576 : Int) < (d.length : Int)
    · simp [hd]
    · obtain ⟨q, e2, hq1, hq2⟩ := d_DrawPartMerge c
      obtain ⟨s, e3, hs1, hs2⟩ := d_DrawPartMerge d
      have ok1 := small_ok hq1
      have ok2 := small_ok hq2
      have ok3 := small_ok hs1
      have w1 := small_w hq1
      have w2 := small_w hq2
      have w3 := small_w hs1
      have sm := pm_small q.1 q.2
      have okm := small_ok sm
      have wm := small_w sm
      have sz : small ((([] : List Int), ([] : List (List Row))) : Part) := ⟨by simp, by simp, by simp⟩
      have sbc := pm_small q.2 s.1
      simp only [hd, decide_false, cond_false, e2, e3, bd_some, e_spec_PartMerge q.1 q.2 ok1 ok2, e_impl_PartMerge q.1 q.2 ok1 ok2 w1 w2, e_lyPart _ _ okm, decide_true, Bool.not_true, e_spec_PartOk _ ok3,
        e_impl_PartMerge q.1 q.1 ok1 ok1 w1 w1, e_impl_PartMerge q.1 _ ok1 (small_ok sz) w1 (small_w sz), e_impl_PartMerge _ s.1 okm ok3 wm w3, e_impl_PartMerge q.2 s.1 ok2 ok3 w2 w3, e_impl_PartMerge q.1 _ ok1 (small_ok sbc) w1 (small_w sbc)]
      by_cases hm : pmOk q.1 q.2 = true
      · obtain ⟨ha, hb, _⟩ := pmOk_iff.1 hm
        cases h3 : partOk s.1 with
        | false => simp [pm_true hm]
        | true =>
          simp only [pm_true hm, Bool.not_true, cond_false, pm_own ha, pm_none ha, e_lyPart _ _ ok1, decide_true, cond_true, bd_some]
          by_cases hx : pmOk (pmP q.1 q.2) s.1 = true
          · obtain ⟨g1, g2, g3⟩ := pm_three hm hx
            have okz : Dp.ok (pmP (pmP q.1 q.2) s.1) := small_ok (partOk_small (pm_part hx))
            simp [pm_true hx, pm_true g1, pm_true g2, g3, e_lyPart _ _ okz]
          · simp [pm_false hx]
      · simp [pm_false hm]
end Go.Proofs.Ytephlhldhdopaaa
