/- The walks and the plain laws, part 3: each function that the law reaches computes what its plain function tells, and what the plain functions answer. Conditions: lengths that memory can hold. -/
import Derived.Test.YtephlhldhdopaaaA2
namespace Go.Proofs.Ytephlhldhdopaaa
open Go Go.Sx
theorem e_put (b : List Row) (r : Row) (hb : b.length ≤ 1048576) : p_impl_put b r = some (ins r b) := by
  unfold p_impl_put
  have r0 : room (([] : List Row).length + b.length) := by unfold room; simp; omega
  simp only [gd.yes r0, List.nil_append]
  have key : ∃ k : Nat, k ≤ b.length ∧ (∀ i, i < k → (nth b i).1 < r.1) ∧ (k < b.length → ¬ (nth b k).1 < r.1) ∧ lp (p_impl_put_b0 b r) 0 = some (k : Int) := by
    rcases lp_scan (body := p_impl_put_b0 b r) (fun k => (k : Int)) b.length (fun k => !decide ((nth b k).1 < r.1)) (b.length : Int) (fun k => (k : Int)) (fun k hk _ h => by
        have h' : (nth b k).1 < r.1 := by simpa using h
        unfold p_impl_put_b0; simp [hk, gd.yes (ixN hk), h', gd.yes (i64S hk (by omega))]) (fun k hk _ h => by
        have h' : ¬ (nth b k).1 < r.1 := by simpa using h
        unfold p_impl_put_b0; simp [hk, gd.yes (ixN hk), h']) (fun _ => by unfold p_impl_put_b0; simp) with ⟨h1, h2⟩ | ⟨h1, k, hk, hb', hn, h2⟩
    · exact ⟨b.length, Nat.le_refl _, fun i hi => by simpa using allN_iff.1 h1 i hi, fun h => absurd h (Nat.lt_irrefl _), h2⟩
    · exact ⟨k, Nat.le_of_lt hk, fun i hi => by simpa using hn i hi, fun _ => by simpa using hb', h2⟩
  obtain ⟨k, k1, k2, k3, k4⟩ := key
  rw [k4, bd_some]
  have hpre : ∀ x ∈ b.take k, x.1 < r.1 := fun x hx => by
    obtain ⟨i, hi, rfl⟩ := List.mem_iff_getElem.1 hx
    have hik : i < k := by simp at hi; omega
    have := k2 i hik
    rw [nth_eq b i (by omega)] at this
    simpa using this
  have hins : ins r b = b.take k ++ ins r (b.drop k) := by
    conv => lhs; rw [← List.take_append_drop k b]
    rw [ins_pre r _ _ hpre]
  by_cases hk : k < b.length
  · have h3 := k3 hk
    rw [drop_nth hk, ins, if_neg h3] at hins
    simp only [dlt hk, cond_true, gd.yes (ixN hk), bd_some, Int.toNat_natCast]
    by_cases he : (nth b k).1 = r.1
    · rw [if_pos he] at hins
      rw [hins, List.set_eq_take_append_cons_drop, if_pos hk]
      simp [he]
    · rw [if_neg he] at hins
      have g1 : (0 : Int) ≤ (k : Int) ∧ (k : Int) ≤ (b.length : Int) := by omega
      have g2 : room (b.length + [r].length) := by unfold room; simp; omega
      have g3 : 0 < [r].length := by simp
      unfold p_slices_Insert_Row_Row p_insert
      have e1 : b.take k ++ [r] ++ b.drop k = ins r b := by rw [hins, drop_nth hk]; simp
      simp only [he, decide_false, cond_false, gd.yes g1, gd.yes g2, gd.yes g3, bd_some, Int.toNat_natCast, e1]
      have := ins_len r b
      have g4 : room (([] : List Row).length + (ins r b).length) := by unfold room; simp; omega
      simp only [gd.yes g4]
  · have hk' : k = b.length := by omega
    subst hk'
    have g1 : (0 : Int) ≤ (b.length : Int) ∧ (b.length : Int) ≤ (b.length : Int) := by omega
    have g2 : room (b.length + [r].length) := by unfold room; simp; omega
    have g3 : 0 < [r].length := by simp
    rw [List.drop_length] at hins
    have e1 : b.take b.length ++ [r] ++ b.drop b.length = ins r b := by rw [hins, List.drop_length]; simp [ins]
    unfold p_slices_Insert_Row_Row p_insert
    simp only [Int.lt_irrefl, decide_false, cond_false, bd_some, gd.yes g1, gd.yes g2, gd.yes g3, Int.toNat_natCast, e1]
    have := ins_len r b
    have g4 : room (([] : List Row).length + (ins r b).length) := by unfold room; simp; omega
    simp only [gd.yes g4]
/-- the reference lays it in the same way where times ascend -/
theorem l2_true (r : Row) : ∀ l : List Row, (∀ x ∈ l, r.1 < x.1) → l2 r true l = l
  | [], _ => rfl
  | x :: t, h => by
    have hx := h x (by simp)
    simp only [l2, Bool.not_true, Bool.false_and, Bool.false_eq_true, if_false, List.nil_append, Bool.true_or]
    rw [if_neg (by omega), l2_true r t fun y hy => h y (by simp [hy])]; rfl
theorem l2_ins (r : Row) : ∀ l : List Row, Asc l → l2 r false l = ins r l
  | [], _ => rfl
  | x :: t, h => by
    unfold Asc at h
    obtain ⟨h1, h2⟩ := List.pairwise_cons.1 h
    simp only [l2, ins, Bool.not_false, Bool.true_and, Bool.false_or]
    by_cases hle : r.1 ≤ x.1
    · simp only [hle, decide_true, if_true]
      rw [if_neg (show ¬ x.1 < r.1 by omega), l2_true r t fun y hy => by have := h1 y hy; omega]
      by_cases he : x.1 = r.1 <;> simp [he]
    · simp only [hle, decide_false, Bool.false_eq_true, if_false, List.nil_append]
      rw [if_pos (show x.1 < r.1 by omega), if_neg (show ¬ x.1 = r.1 by omega), l2_ins r t h2]; rfl
theorem ins_mem {r y : Row} : ∀ {l : List Row}, y ∈ ins r l → y = r ∨ y ∈ l
  | [], h => by simp [ins] at h; exact .inl h
  | x :: t, h => by
    unfold ins at h
    split at h
    · rcases List.mem_cons.1 h with h | h
      · exact .inr (by simp [h])
      · exact (ins_mem h).imp id fun h => by simp [h]
    · split at h
      · rcases List.mem_cons.1 h with h | h
        · exact .inl h
        · exact .inr (by simp [h])
      · rcases List.mem_cons.1 h with h | h
        · exact .inl h
        · exact .inr h
theorem ins_asc (r : Row) : ∀ {l : List Row}, Asc l → Asc (ins r l)
  | [], _ => by simp [ins, Asc]
  | x :: t, h => by
    unfold Asc at h ⊢
    obtain ⟨h1, h2⟩ := List.pairwise_cons.1 h
    unfold ins
    split
    · rename_i hx
      refine List.pairwise_cons.2 ⟨fun y hy => ?_, ins_asc r h2⟩
      rcases ins_mem hy with rfl | hy
      · exact hx
      · exact h1 y hy
    · split
      · rename_i hx he
        exact List.pairwise_cons.2 ⟨fun y hy => by have := h1 y hy; omega, h2⟩
      · rename_i hx he
        refine List.pairwise_cons.2 ⟨fun y hy => ?_, h⟩
        rcases List.mem_cons.1 hy with rfl | hy
        · omega
        · have := h1 y hy; omega
/-- all rows of two blocks -/
def mg (a b : List Row) : List Row := b.foldl (fun o r => ins r o) a
theorem mg_asc {a b : List Row} (ha : Asc a) : Asc (mg a b) := by
  unfold mg
  induction b generalizing a with
  | nil => exact ha
  | cons x b ih => exact ih (ins_asc x ha)
theorem mg_len : ∀ (b a : List Row), a.length ≤ (mg a b).length ∧ (mg a b).length ≤ a.length + b.length
  | [], a => by simp [mg]
  | x :: b, a => by
    have h1 := ins_len x a
    have h2 := mg_len b (ins x a)
    unfold mg at h2 ⊢
    simp only [List.foldl_cons, List.length_cons] at h2 ⊢
    omega
theorem mg_mem {y : Row} : ∀ {b a : List Row}, y ∈ mg a b → y ∈ a ∨ y ∈ b
  | [], a, h => .inl h
  | x :: b, a, h => by
    have h : y ∈ mg (ins x a) b := h
    rcases mg_mem h with h | h
    · rcases ins_mem h with rfl | h
      · exact .inr (by simp)
      · exact .inl h
    · exact .inr (by simp [h])
/-- what a valid block is -/
theorem blockOk_iff {b : List Row} : blockOk b = true ↔ (∀ x ∈ b, rowOk x = true) ∧ Asc b ∧ b.length ≤ 24 := by
  unfold blockOk
  rw [Bool.and_eq_true, allN_iff, decide_eq_true_eq]
  constructor
  · rintro ⟨h1, h2⟩
    have hp : ∀ k, k < b.length → rowOk (nth b k) = true ∧ (0 < k → (nth b (k - 1)).1 < (nth b k).1) := fun k hk => by
      have := h1 k hk
      simp only [rowBad, Bool.or_eq_false_iff, Bool.not_eq_false', Bool.and_eq_false_iff, decide_eq_false_iff_not] at this
      exact ⟨this.1, fun h0 => by rcases this.2 with h | h <;> omega⟩
    refine ⟨fun x hx => ?_, ?_, by omega⟩
    · obtain ⟨i, hi, rfl⟩ := List.mem_iff_getElem.1 hx
      rw [← nth_eq b i hi]; exact (hp i hi).1
    · refine List.pairwise_iff_getElem.2 fun i j hi hj hij => ?_
      rw [← nth_eq b i hi, ← nth_eq b j hj]
      clear hi
      induction j with
      | zero => omega
      | succ j ih =>
        have h3 := (hp (j + 1) hj).2 (by omega)
        rw [show j + 1 - 1 = j by omega] at h3
        rcases Nat.lt_or_eq_of_le (Nat.le_of_lt_succ hij) with h' | rfl
        · have := ih (by omega) h'; omega
        · exact h3
  · rintro ⟨h1, h2, h3⟩
    refine ⟨fun k hk => ?_, by omega⟩
    have r1 : rowOk (nth b k) = true := h1 _ (nth_mem hk)
    simp only [rowBad, r1, Bool.not_true, Bool.false_or, Bool.and_eq_false_iff, decide_eq_false_iff_not]
    rcases Nat.eq_zero_or_pos k with h0 | h0
    · exact .inl (by omega)
    · refine .inr ?_
      have := List.pairwise_iff_getElem.1 h2 (k - 1) k (by omega) hk (by omega)
      rw [← nth_eq b (k - 1) (by omega), ← nth_eq b k hk] at this
      omega
theorem mg_ok {a b : List Row} (ha : blockOk a = true) (hb : blockOk b = true) : blockOk (mg a b) = decide ((mg a b).length ≤ 24) := by
  obtain ⟨a1, a2, a3⟩ := blockOk_iff.1 ha
  obtain ⟨b1, b2, b3⟩ := blockOk_iff.1 hb
  cases h : blockOk (mg a b) with
  | true => simp [(blockOk_iff.1 h).2.2]
  | false =>
    symm
    rw [decide_eq_false_iff_not]
    intro hl
    have : blockOk (mg a b) = true := blockOk_iff.2 ⟨fun x hx => (mg_mem hx).elim (a1 x) (b1 x), mg_asc a2, hl⟩
    rw [h] at this; cases this
theorem foldl_take {α β : Type} [Inhabited α] (f : β → α → β) (s : β) (l : List α) (k : Nat) (hk : k < l.length) : (l.take (k + 1)).foldl f s = f ((l.take k).foldl f s) (nth l k) := by
  rw [nth_eq l k hk, List.take_succ_eq_append_getElem hk, List.foldl_append]; rfl
theorem mg_take (a b : List Row) (k : Nat) (hk : k < b.length) : mg a (b.take (k + 1)) = ins (nth b k) (mg a (b.take k)) := foldl_take _ _ _ _ hk
theorem mg_take_len (a b : List Row) (k : Nat) (hk : k ≤ b.length) : (mg a (b.take k)).length ≤ a.length + b.length := by
  have := (mg_len (b.take k) a).2
  rw [List.length_take] at this; omega
theorem e_impl_BlockMerge (a b : List Row) (ha : a.length ≤ 1048576) (hb : b.length ≤ 1048576) : p_impl_BlockMerge a b = some (if blockOk a = true ∧ blockOk b = true ∧ (mg a b).length ≤ 24 then (mg a b, true) else ([], false)) := by
  have m : (1048576 : Nat) ≤ maxLen := by decide
  unfold p_impl_BlockMerge
  rw [e_impl_BlockOk a (Nat.le_trans ha m), bd_some]
  cases h1 : blockOk a with
  | false => simp
  | true =>
    simp only [Bool.not_true, cond_false, e_impl_BlockOk b (Nat.le_trans hb m), bd_some]
    cases h2 : blockOk b with
    | false => simp
    | true =>
      have la := (blockOk_iff.1 h1).2.2
      have lb := (blockOk_iff.1 h2).2.2
      have g1 : room (([] : List Row).length + a.length) := by unfold room; simp; omega
      simp only [Bool.not_true, cond_false, gd.yes g1, List.nil_append]
      have := lp_for (body := p_impl_BlockMerge_b0 b) (fun k => (mg a (b.take k), (k : Int))) b.length (mg a b) (fun k hk => by
        unfold p_impl_BlockMerge_b0
        have hl := mg_take_len a b k (by omega)
        simp only [dlt hk, cond_true, gd.yes (ixN hk), Int.toNat_natCast, e_put _ (nth b k) (show (mg a (b.take k)).length ≤ 1048576 by omega), bd_some, gd.yes (i64S hk (by omega)), mg_take a b k hk]
        rfl) (by unfold p_impl_BlockMerge_b0; simp)
      have e0 : lp (p_impl_BlockMerge_b0 b) (a, 0) = some (mg a b) := this
      rw [e0, bd_some]
      by_cases hl : (mg a b).length ≤ 24
      · have : ¬ (24 : Int) < ((mg a b).length : Int) := by omega
        simp [this, hl]
      · have : (24 : Int) < ((mg a b).length : Int) := by omega
        simp [this, hl]
theorem e_spec_l2Merge (a b : List Row) (ha : a.length ≤ 100) (hb : b.length ≤ 100) (h : Asc a) : p_spec_l2Merge a b = some (mg a b) := by
  unfold p_spec_l2Merge
  have g1 : room (([] : List Row).length + a.length) := by unfold room; simp; omega
  simp only [gd.yes g1, List.nil_append]
  have := lp_for (body := p_spec_l2Merge_b0 b) (fun k => (mg a (b.take k), (k : Int))) b.length (mg a b) (fun k hk => by
    unfold p_spec_l2Merge_b0
    have hl := mg_take_len a b k (by omega)
    simp only [dlt hk, cond_true, gd.yes (ixN hk), Int.toNat_natCast, e_l2Put _ (nth b k) (show (mg a (b.take k)).length ≤ 1048576 by omega), l2_ins _ _ (mg_asc h), bd_some, gd.yes (i64S hk (by omega)), mg_take a b k hk]
    rfl) (by unfold p_spec_l2Merge_b0; simp)
  have e0 : lp (p_spec_l2Merge_b0 b) (a, 0) = some (mg a b) := this
  rw [e0]; rfl
/-- a part is valid -/
theorem partOk_of {p : Part} (h1 : p.1.length = p.2.length) (h2 : ∀ x ∈ p.1, 1 ≤ x ∧ x ≤ 6) (h3 : p.1.Pairwise (· < ·)) (h4 : ∀ b ∈ p.2, 0 < b.length ∧ blockOk b = true) : partOk p = true := by
  unfold partOk
  rw [Bool.and_eq_true, decide_eq_true_eq, allN_iff]
  refine ⟨h1, fun k hk => ?_⟩
  have a1 := h2 _ (nth_mem hk)
  have a2 := h4 _ (nth_mem (show k < p.2.length by omega))
  have a3 : 0 < k → nth p.1 (k - 1) < nth p.1 k := fun h0 => by
    have := List.pairwise_iff_getElem.1 h3 (k - 1) k (by omega) hk (by omega)
    rwa [← nth_eq p.1 (k - 1) (by omega), ← nth_eq p.1 k hk] at this
  have a4 : inn 1 (nth p.1 k) 6 = true := by unfold inn; simp; omega
  have a5 : ¬ (nth p.2 k).length = 0 := by omega
  simp only [partBad, a4, a2.2, Bool.not_true, Bool.false_or, Bool.or_false]
  rw [decide_eq_false a5, Bool.or_false, Bool.and_eq_false_iff, decide_eq_false_iff_not, decide_eq_false_iff_not]
  rcases Nat.eq_zero_or_pos k with h0 | h0
  · exact .inl (by omega)
  · exact .inr (by have := a3 h0; omega)
theorem mkP_rng : ∀ (l : List (List Row)) (i : Nat), ∀ x ∈ (mkP i l).1, ∃ j, j < l.length ∧ x = ((i + j + 1 : Nat) : Int) ∧ 0 < (nth l j).length
  | [], i, x, h => by simp [mkP] at h
  | b :: t, i, x, h => by
    unfold mkP at h
    have step : x ∈ (mkP (i + 1) t).1 → ∃ j, j < (b :: t).length ∧ x = ((i + j + 1 : Nat) : Int) ∧ 0 < (nth (b :: t) j).length := fun h => by
      obtain ⟨j, h1, h2, h3⟩ := mkP_rng t (i + 1) x h
      exact ⟨j + 1, by simpa using h1, by rw [h2]; omega, h3⟩
    split at h
    · rename_i hb
      rcases List.mem_cons.1 h with rfl | h
      · exact ⟨0, by simp, rfl, hb⟩
      · exact step h
    · exact step h
theorem mkP_asc : ∀ (l : List (List Row)) (i : Nat), (mkP i l).1.Pairwise (· < ·)
  | [], i => by simp [mkP]
  | b :: t, i => by
    unfold mkP
    split
    · refine List.pairwise_cons.2 ⟨fun x hx => ?_, mkP_asc t (i + 1)⟩
      obtain ⟨j, _, h, _⟩ := mkP_rng t (i + 1) x hx
      omega
    · exact mkP_asc t (i + 1)
theorem mkP_pos : ∀ (l : List (List Row)) (i : Nat), ∀ b ∈ (mkP i l).2, 0 < b.length
  | [], i, x, h => by simp [mkP] at h
  | b :: t, i, x, h => by
    unfold mkP at h
    split at h
    · rename_i hb
      rcases List.mem_cons.1 h with rfl | h
      · exact hb
      · exact mkP_pos t (i + 1) x h
    · exact mkP_pos t (i + 1) x h
theorem mkP_has : ∀ (l : List (List Row)) (i j : Nat), j < l.length → 0 < (nth l j).length → ∃ k, k < (mkP i l).1.length ∧ nth (mkP i l).1 k = ((i + j + 1 : Nat) : Int) ∧ nth (mkP i l).2 k = nth l j
  | [], i, j, h, _ => by simp at h
  | b :: t, i, 0, h, hp => by
    have hb : 0 < b.length := hp
    unfold mkP
    rw [if_pos hb]
    exact ⟨0, by simp, rfl, rfl⟩
  | b :: t, i, j + 1, h, hp => by
    obtain ⟨k, h1, h2, h3⟩ := mkP_has t (i + 1) j (by simpa using h) hp
    unfold mkP
    split
    · exact ⟨k + 1, by simpa using h1, by rw [show nth (_ :: (mkP (i + 1) t).1) (k + 1) = nth (mkP (i + 1) t).1 k from rfl, h2]; omega, h3⟩
    · exact ⟨k, h1, by rw [h2]; omega, h3⟩
theorem mkP_snoc : ∀ (l : List (List Row)) (i : Nat) (b : List Row), mkP i (l ++ [b]) = if 0 < b.length then ((mkP i l).1 ++ [((i + l.length + 1 : Nat) : Int)], (mkP i l).2 ++ [b]) else mkP i l
  | [], i, b => by simp only [List.nil_append, mkP]; split <;> rfl
  | c :: t, i, b => by
    simp only [List.cons_append, mkP, mkP_snoc t (i + 1) b, List.length_cons]
    have e : i + 1 + t.length + 1 = i + (t.length + 1) + 1 := by omega
    rw [e]
    split <;> split <;> simp
/-- where the ids ascend, the rows of an id that stands there -/
theorem rowsOf_at {p : Part} (hp : p.1.Pairwise (· < ·)) {k : Nat} (hk : k < p.1.length) : rowsOf p (nth p.1 k) = nth p.2 k := by
  unfold rowsOf
  rw [place_yes hk (by simp) fun i hi => by
    have := List.pairwise_iff_getElem.1 hp i k (by omega) hk hi
    rw [← nth_eq p.1 i (by omega), ← nth_eq p.1 k hk] at this
    simp; omega]
  rw [if_neg (by omega)]; rfl
theorem rowsOf_no {p : Part} {id : Int} (h : ∀ x ∈ p.1, x ≠ id) : rowsOf p id = [] := by
  unfold rowsOf
  rw [place_no (allN_iff.2 fun i hi => by simpa using h _ (nth_mem hi)), if_pos (by decide)]
theorem partOk_rng {p : Part} (h : partOk p = true) : ∀ x ∈ p.1, 1 ≤ x ∧ x ≤ 6 := fun x hx => by
  obtain ⟨i, hi, rfl⟩ := List.mem_iff_getElem.1 hx
  rw [← nth_eq p.1 i hi]; exact (partOk_iff h).2.1 i hi
theorem rowsOf_ok {p : Part} (h : partOk p = true) (id : Int) : blockOk (rowsOf p id) = true := by
  unfold rowsOf
  rcases place_lt (l := p.1) (id := id) with hp | ⟨k, hk, hp⟩
  · rw [if_pos hp]; rfl
  · rw [hp, if_neg (by omega)]; exact ((partOk_iff h).2.2.2 k (by have := (partOk_iff h).1; omega)).2
theorem rowsOf_out {p : Part} (h : partOk p = true) {id : Int} (hi : ¬ (1 ≤ id ∧ id ≤ 6)) : rowsOf p id = [] := rowsOf_no fun x hx e => hi (e ▸ partOk_rng h x hx)
theorem partOk_small {p : Part} (h : partOk p = true) : small p := by
  obtain ⟨h1, h2, h3, h4⟩ := partOk_iff h
  have hk : ∀ k : Nat, k < p.1.length → ((k : Nat) : Int) + 1 ≤ nth p.1 k := fun k => by
    induction k with
    | zero => intro hk; have := (h2 0 hk).1; omega
    | succ k ih =>
      intro hk
      have := h3 (k + 1) (by omega) hk
      rw [show k + 1 - 1 = k by omega] at this
      have := ih (by omega); omega
  have hl : p.1.length ≤ 10 := by
    rcases Nat.lt_or_ge p.1.length 7 with h' | h'
    · omega
    · have := hk 6 (by omega); have := (h2 6 (by omega)).2; omega
  refine ⟨hl, by omega, fun b hb => ?_⟩
  obtain ⟨i, hi, rfl⟩ := List.mem_iff_getElem.1 hb
  have := (blockOk_iff.1 (h4 i hi).2).2.2
  rw [nth_eq p.2 i hi] at this; omega
def blk (a b : Part) (id : Int) : List Row := mg (rowsOf a id) (rowsOf b id)
def blks (a b : Part) (n : Nat) : List (List Row) := (List.range n).map fun i => blk a b ((i + 1 : Nat) : Int)
def pmP (a b : Part) : Part := mkP 0 (blks a b 6)
def pmOk (a b : Part) : Bool := partOk a && partOk b && allN 6 fun i => decide (24 < (blk a b ((i + 1 : Nat) : Int)).length)
def pm (a b : Part) : Part × Bool := if pmOk a b = true then (pmP a b, true) else (([], []), false)
theorem blks_len (a b : Part) (n : Nat) : (blks a b n).length = n := by simp [blks]
theorem blks_nth (a b : Part) {n i : Nat} (h : i < n) : nth (blks a b n) i = blk a b ((i + 1 : Nat) : Int) := by
  rw [nth_eq _ i (by rw [blks_len]; exact h)]; simp [blks]
theorem blks_succ (a b : Part) (n : Nat) : blks a b (n + 1) = blks a b n ++ [blk a b ((n + 1 : Nat) : Int)] := by simp [blks, List.range_succ]
theorem blk_out {a b : Part} (ha : partOk a = true) (hb : partOk b = true) {id : Int} (h : ¬ (1 ≤ id ∧ id ≤ 6)) : blk a b id = [] := by
  unfold blk; rw [rowsOf_out ha h, rowsOf_out hb h]; rfl
theorem pmOk_iff {a b : Part} : pmOk a b = true ↔ partOk a = true ∧ partOk b = true ∧ ∀ id, (blk a b id).length ≤ 24 := by
  unfold pmOk
  rw [Bool.and_eq_true, Bool.and_eq_true, allN_iff]
  constructor
  · rintro ⟨⟨h1, h2⟩, h3⟩
    refine ⟨h1, h2, fun id => ?_⟩
    by_cases hi : 1 ≤ id ∧ id ≤ 6
    · have := h3 (id - 1).toNat (by omega)
      rw [show (((id - 1).toNat + 1 : Nat) : Int) = id by omega] at this
      simpa using this
    · rw [blk_out h1 h2 hi]; simp
  · rintro ⟨h1, h2, h3⟩
    exact ⟨⟨h1, h2⟩, fun i hi => by simpa using h3 _⟩
theorem blk_ok {a b : Part} (ha : partOk a = true) (hb : partOk b = true) (id : Int) : blockOk (blk a b id) = decide ((blk a b id).length ≤ 24) := mg_ok (rowsOf_ok ha id) (rowsOf_ok hb id)
theorem blk_len {a b : Part} (ha : partOk a = true) (hb : partOk b = true) (id : Int) : (blk a b id).length ≤ 48 := by
  have h1 := (blockOk_iff.1 (rowsOf_ok ha id)).2.2
  have h2 := (blockOk_iff.1 (rowsOf_ok hb id)).2.2
  have := (mg_len (rowsOf b id) (rowsOf a id)).2
  unfold blk; omega
theorem pmP_rows {a b : Part} (ha : partOk a = true) (hb : partOk b = true) (id : Int) : rowsOf (pmP a b) id = blk a b id := by
  by_cases hi : 1 ≤ id ∧ id ≤ 6
  · obtain ⟨j, hj, rfl⟩ : ∃ j : Nat, j < 6 ∧ id = ((j + 1 : Nat) : Int) := ⟨(id - 1).toNat, by omega, by omega⟩
    by_cases hp : 0 < (blk a b ((j + 1 : Nat) : Int)).length
    · obtain ⟨k, h1, h2, h3⟩ := mkP_has (blks a b 6) 0 j (by rw [blks_len]; exact hj) (by rw [blks_nth a b hj]; exact hp)
      have := rowsOf_at (p := pmP a b) (mkP_asc _ _) h1
      have e : nth (pmP a b).1 k = ((j + 1 : Nat) : Int) := by rw [show nth (pmP a b).1 k = _ from h2]; omega
      rw [e] at this
      rw [this, show nth (pmP a b).2 k = _ from h3, blks_nth a b hj]
    · rw [rowsOf_no fun x hx e => ?_]
      · exact (List.length_eq_zero_iff.1 (by omega)).symm
      · obtain ⟨j', g1, g2, g3⟩ := mkP_rng (blks a b 6) 0 x hx
        rw [blks_len] at g1
        have : j' = j := by omega
        subst this
        rw [blks_nth a b g1] at g3
        exact hp g3
  · rw [blk_out ha hb hi]
    refine rowsOf_no fun x hx e => hi ?_
    obtain ⟨j', g1, g2, g3⟩ := mkP_rng (blks a b 6) 0 x hx
    rw [blks_len] at g1
    omega
theorem pmP_ok {a b : Part} (ha : partOk a = true) (hb : partOk b = true) : partOk (pmP a b) = allN 6 fun i => decide (24 < (blk a b ((i + 1 : Nat) : Int)).length) := by
  cases h : allN 6 fun i => decide (24 < (blk a b ((i + 1 : Nat) : Int)).length) with
  | true =>
    have h := allN_iff.1 h
    refine partOk_of (mkP_len _ _).1 (fun x hx => ?_) (mkP_asc _ _) fun y hy => ⟨mkP_pos _ _ y hy, ?_⟩
    · obtain ⟨j', g1, g2, g3⟩ := mkP_rng (blks a b 6) 0 x hx
      rw [blks_len] at g1; omega
    · have := mkP_mem _ _ y hy
      obtain ⟨i, hi, rfl⟩ := List.mem_map.1 this
      rw [blk_ok ha hb]
      have := h i (List.mem_range.1 hi)
      simpa using this
  | false =>
    obtain ⟨j, hj, h1, _⟩ := first_bad h
    have h1 : 24 < (blk a b ((j + 1 : Nat) : Int)).length := by simpa using h1
    cases h2 : partOk (pmP a b) with
    | false => rfl
    | true =>
      have := (blockOk_iff.1 (rowsOf_ok h2 ((j + 1 : Nat) : Int))).2.2
      rw [pmP_rows ha hb] at this
      omega
theorem pm_part {a b : Part} (h : pmOk a b = true) : partOk (pmP a b) = true := by
  obtain ⟨h1, h2, h3⟩ := pmOk_iff.1 h
  rw [pmP_ok h1 h2]
  exact allN_iff.2 fun i _ => by simpa using h3 _
theorem pm_small (a b : Part) : small (pm a b).1 := by
  unfold pm
  split
  · rename_i h; exact partOk_small (pm_part h)
  · exact ⟨by simp, by simp, by simp⟩
theorem e_impl_PartMerge (a b : Part) (oka : Dp.ok a) (okb : Dp.ok b) (wa : Wt.w a ≤ 1048576) (wb : Wt.w b ≤ 1048576) : p_impl_PartMerge a b = some (pm a b) := by
  unfold p_impl_PartMerge
  rw [e_impl_PartOk a oka, bd_some]
  cases h1 : partOk a with
  | false => simp [pm, pmOk, h1]
  | true =>
    simp only [Bool.not_true, cond_false, e_impl_PartOk b okb, bd_some]
    cases h2 : partOk b with
    | false => simp [pm, pmOk, h1, h2]
    | true =>
      simp only [Bool.not_true, cond_false]
      have hb : ∀ k : Nat, k < 6 → p_impl_PartMerge_b0 a b ((mkP 0 (blks a b k)).1, (mkP 0 (blks a b k)).2, ((k + 1 : Nat) : Int)) = some (if 24 < (blk a b ((k + 1 : Nat) : Int)).length then .inr (.inr (([], []), false)) else .inl ((mkP 0 (blks a b (k + 1))).1, (mkP 0 (blks a b (k + 1))).2, ((k + 1 + 1 : Nat) : Int))) := fun k hk => by
        unfold p_impl_PartMerge_b0
        have g0 : ((k + 1 : Nat) : Int) ≤ 6 := by omega
        have b1 := rowsOf_ok h1 ((k + 1 : Nat) : Int)
        have b2 := rowsOf_ok h2 ((k + 1 : Nat) : Int)
        have l1 := (blockOk_iff.1 b1).2.2
        have l2 := (blockOk_iff.1 b2).2.2
        have e1 : partOf a ((k + 1 : Nat) : Int) = rowsOf a ((k + 1 : Nat) : Int) := by unfold partOf; rw [if_pos h1]
        have e2 : partOf b ((k + 1 : Nat) : Int) = rowsOf b ((k + 1 : Nat) : Int) := by unfold partOf; rw [if_pos h2]
        simp only [g0, decide_true, cond_true, e_impl_PartOf a _ oka wa, e_impl_PartOf b _ okb wb, bd_some, e1, e2, e_impl_BlockMerge _ _ (show (rowsOf a ((k + 1 : Nat) : Int)).length ≤ 1048576 by omega) (show (rowsOf b ((k + 1 : Nat) : Int)).length ≤ 1048576 by omega), b1, b2, true_and]
        rw [show mg (rowsOf a ((k + 1 : Nat) : Int)) (rowsOf b ((k + 1 : Nat) : Int)) = blk a b ((k + 1 : Nat) : Int) from rfl]
        by_cases hl : (blk a b ((k + 1 : Nat) : Int)).length ≤ 24
        · rw [if_pos hl, if_neg (by omega)]
          have q1 := (mkP_len (blks a b k) 0).1
          have q2 := (mkP_len (blks a b k) 0).2
          rw [blks_len] at q2
          have r1 : room ((mkP 0 (blks a b k)).1.length + 1) := by unfold room; omega
          have r2 : room ((mkP 0 (blks a b k)).2.length + 1) := by unfold room; omega
          have r3 : I64 (((k + 1 : Nat) : Int) + 1) := by unfold I64; omega
          simp only [Bool.not_true, cond_false, gd.yes r1, gd.yes r2, gd.yes r3, blks_succ, mkP_snoc, blks_len]
          by_cases hz : 0 < (blk a b ((k + 1 : Nat) : Int)).length
          · have hz' : (0 : Int) < ((blk a b ((k + 1 : Nat) : Int)).length : Int) := by omega
            simp only [hz, hz', decide_true, cond_true, if_true]
            rw [show 0 + k + 1 = k + 1 by omega]; rfl
          · have hz' : ¬ (0 : Int) < ((blk a b ((k + 1 : Nat) : Int)).length : Int) := by omega
            simp only [hz, hz', decide_false, cond_false, if_false]; rfl
        · rw [if_neg hl, if_pos (by omega)]; rfl
      rcases lp_scan (body := p_impl_PartMerge_b0 a b) (fun k => ((mkP 0 (blks a b k)).1, (mkP 0 (blks a b k)).2, ((k + 1 : Nat) : Int))) 6 (fun i => decide (24 < (blk a b ((i + 1 : Nat) : Int)).length)) (.inl (pmP a b)) (fun _ => .inr (([], []), false)) (fun k hk _ h => by
          have h' : ¬ 24 < (blk a b ((k + 1 : Nat) : Int)).length := by simpa using h
          rw [hb k hk, if_neg h']) (fun k hk _ h => by
          have h' : 24 < (blk a b ((k + 1 : Nat) : Int)).length := by simpa using h
          rw [hb k hk, if_pos h']) (fun _ => by unfold p_impl_PartMerge_b0; simp [pmP]) with ⟨q1, q2⟩ | ⟨q1, k, _, _, _, q2⟩
      · have e0 : lp (p_impl_PartMerge_b0 a b) (([] : List Int), ([] : List (List Row)), 1) = some (.inl (pmP a b)) := q2
        have hp : pm a b = (pmP a b, true) := by unfold pm; rw [if_pos (by unfold pmOk; rw [h1, h2, q1]; rfl)]
        rw [e0, hp]; rfl
      · have e0 : lp (p_impl_PartMerge_b0 a b) (([] : List Int), ([] : List (List Row)), 1) = some (.inr (([], []), false)) := q2
        have hp : pm a b = (([], []), false) := by unfold pm; rw [if_neg (by unfold pmOk; rw [h1, h2, q1]; simp)]
        rw [e0, hp]; rfl
theorem e_spec_PartMerge (a b : Part) (oka : Dp.ok a) (okb : Dp.ok b) : p_spec_PartMerge a b = some (pm a b) := by
  unfold p_spec_PartMerge
  rw [e_spec_PartOk a oka, bd_some]
  cases h1 : partOk a with
  | false => simp [pm, pmOk, h1]
  | true =>
    simp only [Bool.not_true, cond_false, e_spec_PartOk b okb, bd_some]
    cases h2 : partOk b with
    | false => simp [pm, pmOk, h1, h2]
    | true =>
      have a1 := partOk_len' h1
      have a2 := partOk_len' h2
      have hm : p_spec_l12Merge a b = some (pmP a b) := by
        unfold p_spec_l12Merge
        have := lp_for (body := p_spec_l12Merge_b0 a b) (fun k => (blks a b k, ((k + 1 : Nat) : Int))) 6 (blks a b 6) (fun k hk => by
          unfold p_spec_l12Merge_b0
          have g0 : ((k + 1 : Nat) : Int) ≤ 6 := by omega
          have b1 := rowsOf_ok h1 ((k + 1 : Nat) : Int)
          have b2 := rowsOf_ok h2 ((k + 1 : Nat) : Int)
          have l1 := (blockOk_iff.1 b1).2.2
          have l2 := (blockOk_iff.1 b2).2.2
          have r1 : room ((blks a b k).length + 1) := by rw [blks_len]; unfold room; omega
          have r3 : I64 (((k + 1 : Nat) : Int) + 1) := by unfold I64; omega
          simp only [g0, decide_true, cond_true, e_l12Of a _ oka a1, e_l12Of b _ okb a2, bd_some, e_spec_l2Merge _ _ (show (rowsOf a ((k + 1 : Nat) : Int)).length ≤ 100 by omega) (show (rowsOf b ((k + 1 : Nat) : Int)).length ≤ 100 by omega) (blockOk_iff.1 b1).2.1, gd.yes r1, gd.yes r3, blks_succ]
          rfl) (by unfold p_spec_l12Merge_b0; simp)
        have e0 : lp (p_spec_l12Merge_b0 a b) (([] : List (List Row)), 1) = some (blks a b 6) := this
        rw [e0, bd_some, e_l12Make _ (by rw [blks_len]; omega) fun y hy => by
          obtain ⟨i, _, rfl⟩ := List.mem_map.1 hy
          have := blk_len h1 h2 ((i + 1 : Nat) : Int); omega]
        rfl
      have okp : Dp.ok (pmP a b) := by
        have hl := mkP_len (blks a b 6) 0
        rw [blks_len] at hl
        have h1' : (pmP a b).1.length ≤ 6 := hl.2
        have h2' : (pmP a b).2.length ≤ 6 := by rw [← show (pmP a b).1.length = (pmP a b).2.length from hl.1]; exact hl.2
        refine small_ok ⟨by omega, by omega, fun y hy => ?_⟩
        have := mkP_mem _ _ y hy
        obtain ⟨i, hi, rfl⟩ := List.mem_map.1 this
        have := blk_len h1 h2 ((i + 1 : Nat) : Int); omega
      simp only [Bool.not_true, cond_false, hm, bd_some, e_spec_PartOk _ okp, pmP_ok h1 h2]
      cases hq : allN 6 fun i => decide (24 < (blk a b ((i + 1 : Nat) : Int)).length) with
      | true =>
        have hp : pm a b = (pmP a b, true) := by unfold pm; rw [if_pos (by unfold pmOk; rw [h1, h2, hq]; rfl)]
        rw [hp]; rfl
      | false =>
        have hp : pm a b = (([], []), false) := by unfold pm; rw [if_neg (by unfold pmOk; rw [h1, h2, hq]; simp)]
        rw [hp]; rfl
theorem e_FnExactPartMerge (a b : Part) (oka : Dp.ok a) (okb : Dp.ok b) : p_laws_FnExactPartMerge a b = some true := by
  unfold p_laws_FnExactPartMerge
  rw [s_Part a 1048576 (by omega) (by omega) oka, bd_some]
  by_cases hc : cut 1048576 (Wt.w a) < 0
  · simp [hc]
  · have hwa := cut_w hc (by omega)
    simp only [hc, decide_false, cond_false]
    rw [s_Part b (cut 1048576 (Wt.w a)) (cut_nn hc) (cut_rng (by omega)) okb, bd_some]
    by_cases hd : cut (cut 1048576 (Wt.w a)) (Wt.w b) < 0
    · simp [hd]
    · have hwb := cut_w hd (cut_rng (by omega))
      have hs := pm_small a b
      have okp := small_ok hs
      have hwp := small_w hs
      have n1 : Ct.m Part = 3 := rfl
      have c1 := Ct.le a
      have c2 := Ct.le b
      have c3 := Ct.le (pm a b).1
      rw [n1] at c1 c2 c3
      obtain ⟨k1, r1, e1, l1, u1⟩ := m_Part a 1 (by omega) (by omega) oka
      obtain ⟨k2, r2, e2, l2, u2⟩ := m_Part b k1 (by omega) (by omega) okb
      obtain ⟨k3, r3, e3, l3, u3, f3⟩ := m_Part (pm a b).1 1 (by omega) (by omega) okp
      have h1 : ¬ k1 < 0 := by omega
      have h2 : ¬ k2 < 0 := by omega
      have h3 : ¬ k3 < 0 := by omega
      simp [hd, t_Part a oka hwa, t_Part b okb hwb, e_spec_PartMerge a b oka okb, e_impl_PartMerge a b oka okb hwa hwb, q_Part _ _ okp okp, q_Part a a oka oka, q_Part b b okb okb, e1, e2, e3, f3, h1, h2, h3]
end Go.Proofs.Ytephlhldhdopaaa
