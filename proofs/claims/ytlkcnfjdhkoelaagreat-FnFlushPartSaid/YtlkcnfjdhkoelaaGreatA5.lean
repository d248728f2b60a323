/- The walks and the plain laws, part 5: each function that the law reaches computes what its plain function tells, and what the plain functions answer. Conditions: lengths that memory can hold. -/
import Derived.Test.YtlkcnfjdhkoelaaGreatA4
namespace Go.Proofs.YtlkcnfjdhkoelaaGreat
open Go Go.Sx Tryz
theorem d_l21Flush {d : Disk} {s : Store} (h : wD d) (hs : wS s) : ∃ l, p_spec_l21Flush d s = some l ∧ l.length ≤ 1000 ∧ ∀ k, k < l.length → stW (playW d l k) (nth l k) := by
 have hx := h.x
 have f20 := h.f20
 have m20 := hs.m20
 have l6 := h.l6
 obtain ⟨u1, u2, _⟩ := w_names (names_w (wS_ix hs))
 unfold p_spec_l21Flush
 by_cases h0 : (s.2.2.length : Int) = 0
 ·rw [decide_eq_true h0]; exact ⟨[], rfl, Nat.zero_le _, fun _ h => nomatch h⟩
 rw [decide_eq_false h0, cond_false]
 by_cases h1 : (6 : Int) ≤ (d.2.1.length : Int)
 ·rw [decide_eq_true h1]; exact ⟨[], rfl, Nat.zero_le _, fun _ h => nomatch h⟩
 rw [decide_eq_false h1, cond_false]
 by_cases h2 : (999 : Int) ≤ d.2.2.2
 ·rw [decide_eq_true h2]; exact ⟨[], rfl, Nat.zero_le _, fun _ h => nomatch h⟩
 rw [decide_eq_false h2, cond_false]
 by_cases h3 : (20 : Int) ≤ (d.1.length : Int)
 ·rw [decide_eq_true h3]; exact ⟨[], rfl, Nat.zero_le _, fun _ h => nomatch h⟩
 rw [decide_eq_false h3, bd_some, cond_false, gd.yes (show room (([] : List Int).length + d.2.1.length) by rw [List.length_nil]; unfold room; omega), gd.yes (show room ((([] : List Int) ++ d.2.1).length + 1) by rw [List.nil_append]; unfold room; omega), bd.yes (e_l13Mem s (by omega) fun m hm => ⟨(hs.m m hm).1, (hs.m m hm).2.1⟩), bd.yes (e_spec_l11Names _ u1 fun n hn => (u2 n hn).1)]
 refine ⟨_, rfl, (show (2 : Nat) ≤ 1000 by decide), fun k hk => ?_⟩
 match k, hk with
 | 0, _ => exact .inl ⟨rfl, by show d.1.length ≤ 19; omega, wP_mem fun m hm => (hs.m m hm).2.2, rfl, by show d.2.2.2 ≤ 998; omega, rfl, rfl⟩
 | 1, _ =>
  refine .inr (.inl ⟨rfl, ?_, fun n hn => ?_, wS_ix hs⟩)
  ·show ((([] : List Int) ++ d.2.1) ++ [d.2.2.2]).length ≤ 6
   simp only [List.length_append, List.length_nil, List.length_cons]; omega
  ·show n ∈ (d.1 ++ [(d.2.2.2, memP s.2.2)]).map (·.1)
   rw [List.map_append]
   rcases List.mem_append.1 (show n ∈ (([] : List Int) ++ d.2.1) ++ [d.2.2.2] from hn) with hn | hn
   ·exact List.mem_append.2 (.inl (h.a n hn))
   ·exact List.mem_append.2 (.inr hn)
theorem d_l21Merge {d : Disk} (h : wD d) (v1 : Int) : ∃ l, p_spec_l21Merge d v1 = some l ∧ l.length ≤ 1000 ∧ ∀ k, k < l.length → stW (playW d l k) (nth l k) := by
 have hx := h.x
 have f20 := h.f20
 have l6 := h.l6
 obtain ⟨u1, u2, _⟩ := w_names (names_w h.n)
 unfold p_spec_l21Merge
 rw [gd.yes (show I64 ((d.2.1.length : Int) - 2) by unfold I64; omega), bd.yes (e_spec_l6In _ _ _)]
 cases hi : inn 0 v1 ((d.2.1.length : Int) - 2) with
 | false => exact ⟨[], rfl, Nat.zero_le _, fun _ h => nomatch h⟩
 | true =>
  rw [Bool.not_true, cond_false]
  by_cases h2 : (999 : Int) ≤ d.2.2.2
  ·rw [decide_eq_true h2]; exact ⟨[], rfl, Nat.zero_le _, fun _ h => nomatch h⟩
  rw [decide_eq_false h2, cond_false]
  by_cases h3 : (20 : Int) ≤ (d.1.length : Int)
  ·rw [decide_eq_true h3]; exact ⟨[], rfl, Nat.zero_le _, fun _ h => nomatch h⟩
  have hv : 0 ≤ v1 ∧ v1 ≤ (d.2.1.length : Int) - 2 := by unfold inn at hi; simpa using hi
  have k1 : v1.toNat < d.2.1.length := by omega
  have k2 : (v1 + 1).toNat < d.2.1.length := by omega
  obtain ⟨a, ha, ea⟩ := wD_at h (nth_mem k1)
  obtain ⟨b, hb, eb⟩ := wD_at h (nth_mem k2)
  have hr : ∀ n : Nat, n ≤ 1000 → room n := fun n hn => by unfold room; omega
  rw [decide_eq_false h3, bd_some, cond_false, gd.yes (show ix v1 d.2.1.length by unfold ix; omega), gd.yes (show I64 (v1 + 1) by unfold I64; omega), gd.yes (show ix (v1 + 1) d.2.1.length by unfold ix; omega), bd.yes (e_spec_l21At d _ (by omega)), ea, gd.yes (ixN ha), bd.yes (e_spec_l21At d _ (by omega)), eb, gd.yes (ixN hb)]
  simp only [Int.toNat_natCast]
  rw [bd.yes (e_l12Merge_w (h.f _ (nth_mem ha)) (h.f _ (nth_mem hb))), gd.yes (show sl2 0 v1 d.2.1.length by unfold sl2; omega), gd.yes (show I64 (v1 + 2) by unfold I64; omega), gd.yes (show sl2 (v1 + 2) (d.2.1.length : Int) d.2.1.length by unfold sl2; omega), gd.yes (hr _ (by simp only [List.length_take, List.length_drop, List.length_nil]; omega)),
   gd.yes (hr _ (by simp only [List.length_append, List.length_take, List.length_drop, List.length_nil]; omega)), gd.yes (hr _ (by simp only [List.length_append, List.length_take, List.length_drop, List.length_nil, List.length_cons]; omega)), bd.yes (e_spec_l11Names _ u1 fun n hn => (u2 n hn).1)]
  refine ⟨_, rfl, (show (4 : Nat) ≤ 1000 by decide), fun k hk => ?_⟩
  match k, hk with
  | 0, _ => exact .inl ⟨rfl, by show d.1.length ≤ 19; omega, wP_pm (h.f _ (nth_mem ha)) (h.f _ (nth_mem hb)), rfl, by show d.2.2.2 ≤ 998; omega, rfl, rfl⟩
  | 1, _ =>
   refine .inr (.inl ⟨rfl, ?_, fun n hn => ?_, h.n⟩)
   ·show (((([] : List Int) ++ ((d.2.1.take v1.toNat).drop 0)) ++ [d.2.2.2]) ++ ((d.2.1.take (d.2.1.length : Int).toNat).drop (v1 + 2).toNat)).length ≤ 6
    simp only [List.length_append, List.length_take, List.length_drop, List.length_nil, List.length_cons]; omega
   ·show n ∈ (d.1 ++ [((d.2.2.2, pmP (nth d.1 a).2 (nth d.1 b).2) : File)]).map (·.1)
    rw [List.map_append]
    have hn : n ∈ (((([] : List Int) ++ ((d.2.1.take v1.toNat).drop 0)) ++ [d.2.2.2]) ++ ((d.2.1.take (d.2.1.length : Int).toNat).drop (v1 + 2).toNat)) := hn
    simp only [List.nil_append, List.drop_zero] at hn
    rcases List.mem_append.1 hn with hn | hn
    ·rcases List.mem_append.1 hn with hn | hn
     ·exact List.mem_append.2 (.inl (h.a n (List.mem_of_mem_take hn)))
     ·exact List.mem_append.2 (.inr hn)
    ·exact List.mem_append.2 (.inl (h.a n (List.mem_of_mem_take (List.mem_of_mem_drop hn))))
  | 2, _ => exact .inr (.inr ⟨rfl, rfl, rfl⟩)
  | 3, _ => exact .inr (.inr ⟨rfl, rfl, rfl⟩)
theorem d_l22Do {w : World} (h : wW w) {e : Event} (he : e.2.2.2.1.length ≤ 1000) : ∃ w', p_spec_l22Do w e = some w' ∧ wW w' := by
 unfold p_spec_l22Do
 by_cases h1 : e.1 = 1
 ·rw [decide_eq_true h1, cond_true, bd.yes (e_spec_NameOk _ (by unfold maxLen; omega))]
  cases hn : nameOk e.2.2.2.1 with
  | false => exact ⟨w, rfl, h⟩
  | true =>
   obtain ⟨s', ok, e1, hs⟩ := d_l13Add h.1 e.2.2.2.2 hn
   rw [cond_true, bd.yes e1]
   exact ⟨_, rfl, hs, h.2⟩
 rw [decide_eq_false h1, cond_false]
 by_cases h2 : e.1 = 2
 ·obtain ⟨s', ok, e1, hs⟩ := d_l13Flush h.1
  obtain ⟨l, e2, hl, hx⟩ := d_l21Flush h.2 h.1
  obtain ⟨w', e3, hw⟩ := d_l22Steps h hx hl e.2.2.1 hs
  rw [decide_eq_true h2, cond_true, bd.yes e1, bd.yes e2, bd.yes e3]
  exact ⟨_, rfl, hw⟩
 rw [decide_eq_false h2, cond_false]
 by_cases h3 : e.1 = 3
 ·obtain ⟨s', ok, e1, hs⟩ := d_l13Merge h.1 e.2.1
  obtain ⟨l, e2, hl, hx⟩ := d_l21Merge h.2 e.2.1
  obtain ⟨w', e3, hw⟩ := d_l22Steps h hx hl e.2.2.1 hs
  rw [decide_eq_true h3, cond_true, bd.yes e1, bd.yes e2, bd.yes e3]
  exact ⟨_, rfl, hw⟩
 rw [decide_eq_false h3, cond_false]
 by_cases h4 : e.1 = 4
 ·obtain ⟨w', e1, hw⟩ := d_l22Fall h
  rw [decide_eq_true h4, cond_true, bd.yes e1]
  exact ⟨_, rfl, hw⟩
 ·rw [decide_eq_false h4]
  exact ⟨w, rfl, h⟩
theorem d_l72Known (b : List UInt8) (p : Int) (hb : b.length ≤ 2000) (h0 : 0 ≤ p) (h1 : p + 20 ≤ 1000000) : ∃ n p', p_spec_l72Known (b, p) = some (n, p') ∧ p ≤ p' ∧ p' ≤ p + 17 ∧ n.length ≤ 1000 := by
 obtain ⟨x, e1, _, _⟩ := d_pick b p 4 hb h0 (by omega) (by decide)
 unfold p_spec_l72Known
 rw [bd.yes e1]
 by_cases hx : x = 0
 ·obtain ⟨n, p', e2, a1, a2, hn⟩ := d_l71Name b (p + 1) hb (by omega) (by omega)
  rw [decide_eq_true hx, cond_true, bd.yes e2]
  exact ⟨n, p', rfl, by omega, by omega, by have := hn.1; omega⟩
 ·obtain ⟨t, e2, ht⟩ := d_of b (p + 1) [(⟨#[97, 61, 112]⟩ : ByteArray), (⟨#[97, 61, 113, 44, 98, 61, 112]⟩ : ByteArray), (⟨#[98, 61, 122, 44, 99, 61, 113]⟩ : ByteArray)] hb (by omega) (by omega) (by decide) (by decide)
  have hs : t.size ≤ 1048576 := by
   simp only [List.mem_cons, List.not_mem_nil, or_false] at ht
   rcases ht with rfl | rfl | rfl <;> decide
  rw [decide_eq_false hx, cond_false, bd.yes e2, bd.yes (e_spec_NameRead t hs)]
  exact ⟨_, _, rfl, by omega, by omega, by have := (nameP_len t).1; omega⟩
theorem ev_add (b : List UInt8) (p : Int) (hb : b.length ≤ 2000) (h0 : 0 ≤ p) (h1 : p + 30 ≤ 1000000) : ∃ (e : Event) (p' : Int), (bd (p_spec_l72Known (b, p)) fun r48 => bd (p_spec_l71Row (b, r48.2)) fun r51 => some (((1, 0, 0, r48.1, r51.1) : Event), r51.2)) = some (e, p') ∧ p ≤ p' ∧ p' ≤ p + 21 ∧ e.2.2.2.1.length ≤ 1000 := by
 obtain ⟨n, q, e1, a1, a2, hn⟩ := d_l72Known b p hb h0 (by omega)
 obtain ⟨r, q2, e2, b1, b2⟩ := d_l71Row b q hb (by omega) (by omega)
 rw [bd.yes e1, bd.yes e2]
 exact ⟨_, _, rfl, by omega, by omega, hn⟩
theorem ev_flush (b : List UInt8) (p : Int) (hb : b.length ≤ 2000) (h0 : 0 ≤ p) (h1 : p + 30 ≤ 1000000) : ∃ (e : Event) (p' : Int), (bd (p_spec_l6Rd_pick (b, p) 5) fun r15 => gd (ix r15.1 ([2, 2, 2, 0, 1] : List Int).length) <| some (((2, 0, (nth ([2, 2, 2, 0, 1] : List Int) r15.1.toNat), ([]), (0, 0)) : Event), r15.2)) = some (e, p') ∧ p ≤ p' ∧ p' ≤ p + 21 ∧ e.2.2.2.1.length ≤ 1000 := by
 obtain ⟨x, e1, a1, a2⟩ := d_pick b p 5 hb h0 (by omega) (by decide)
 rw [bd.yes e1, gd.yes (show ix x ([2, 2, 2, 0, 1] : List Int).length from ⟨a1, a2 (by decide)⟩)]
 exact ⟨_, _, rfl, by omega, by omega, Nat.zero_le _⟩
theorem ev_merge (b : List UInt8) (p : Int) (n : Nat) (hn : n ≤ 1000) (hb : b.length ≤ 2000) (h0 : 0 ≤ p) (h1 : p + 30 ≤ 1000000) : ∃ (e : Event) (p' : Int), (cond (decide (1 < (n : Int))) (gd (I64 ((n : Int) - 1)) <| bd (p_spec_l6Rd_pick (b, p) ((n : Int) - 1)) fun r22 => bd (p_spec_l6Rd_pick (b, r22.2) 6) fun r27 => gd (ix r27.1 ([4, 4, 0, 1, 2, 3] : List Int).length) <| some (((3, r22.1, (nth ([4, 4, 0, 1, 2, 3] : List Int) r27.1.toNat), ([]), (0, 0)) : Event), r27.2)) (bd (p_spec_l72Known (b, p)) fun r48 => bd (p_spec_l71Row (b, r48.2)) fun r51 => some (((1, 0, 0, r48.1, r51.1) : Event), r51.2))) = some (e, p') ∧ p ≤ p' ∧ p' ≤ p + 21 ∧ e.2.2.2.1.length ≤ 1000 := by
 cases decide (1 < (n : Int)) with
 | false => exact ev_add b p hb h0 h1
 | true =>
  obtain ⟨x, e1, _, _⟩ := d_pick b p ((n : Int) - 1) hb h0 (by omega) (by omega)
  obtain ⟨y, e2, a1, a2⟩ := d_pick b (p + 1) 6 hb (by omega) (by omega) (by decide)
  rw [cond_true, gd.yes (show I64 ((n : Int) - 1) by unfold I64; omega), bd.yes e1, bd.yes e2, gd.yes (show ix y ([4, 4, 0, 1, 2, 3] : List Int).length from ⟨a1, a2 (by decide)⟩)]
  exact ⟨_, _, rfl, by omega, by omega, Nat.zero_le _⟩
theorem ev_fall (b : List UInt8) (p : Int) (hb : b.length ≤ 2000) (h0 : 0 ≤ p) (h1 : p + 40 ≤ 1000000) : ∃ (e : Event) (p' : Int), (bd (p_spec_l6Rd_pick (b, p) 4) fun r38 => cond (decide (r38.1 = 0)) (some (((4, 0, 0, ([]), (0, 0)) : Event), r38.2)) (bd (p_spec_l72Known (b, r38.2)) fun r48 => bd (p_spec_l71Row (b, r48.2)) fun r51 => some (((1, 0, 0, r48.1, r51.1) : Event), r51.2))) = some (e, p') ∧ p ≤ p' ∧ p' ≤ p + 22 ∧ e.2.2.2.1.length ≤ 1000 := by
 obtain ⟨x, e1, _, _⟩ := d_pick b p 4 hb h0 (by omega) (by decide)
 rw [bd.yes e1]
 cases decide (x = 0) with
 | true => exact ⟨_, _, rfl, by omega, by omega, Nat.zero_le _⟩
 | false =>
  obtain ⟨e, q, h, a, c, d⟩ := ev_add b (p + 1) hb (by omega) (by omega)
  rw [cond_false, h]
  exact ⟨e, q, rfl, by omega, by omega, d⟩
theorem d_l72Event (b : List UInt8) (p : Int) (w : World) (hw : w.2.2.1.length ≤ 1000) (hb : b.length ≤ 2000) (h0 : 0 ≤ p) (h1 : p + 50 ≤ 1000000) : ∃ (e : Event) (p' : Int), p_spec_l72Event (b, p) w = some (e, p') ∧ p ≤ p' ∧ p' ≤ p + 25 ∧ e.2.2.2.1.length ≤ 1000 := by
 obtain ⟨x, e1, _, _⟩ := d_pick b p 10 hb h0 (by omega) (by decide)
 have wk : ∀ {o : Option (Event × Int)}, (∃ (e : Event) (p' : Int), o = some (e, p') ∧ p + 1 ≤ p' ∧ p' ≤ p + 1 + 22 ∧ e.2.2.2.1.length ≤ 1000) → ∃ (e : Event) (p' : Int), o = some (e, p') ∧ p ≤ p' ∧ p' ≤ p + 25 ∧ e.2.2.2.1.length ≤ 1000 := fun ⟨e, q, a, c, d, f⟩ => ⟨e, q, a, by omega, by omega, f⟩
 have wk2 : ∀ {o : Option (Event × Int)}, (∃ (e : Event) (p' : Int), o = some (e, p') ∧ p + 1 ≤ p' ∧ p' ≤ p + 1 + 21 ∧ e.2.2.2.1.length ≤ 1000) → ∃ (e : Event) (p' : Int), o = some (e, p') ∧ p ≤ p' ∧ p' ≤ p + 25 ∧ e.2.2.2.1.length ≤ 1000 := fun ⟨e, q, a, c, d, f⟩ => ⟨e, q, a, by omega, by omega, f⟩
 unfold p_spec_l72Event
 rw [bd.yes e1]
 simp only
 by_cases x0 : x = 0
 ·rw [decide_eq_true x0, cond_true, cond_true]
  exact wk2 (ev_flush b (p + 1) hb (by omega) (by omega))
 ·rw [decide_eq_false x0, cond_false]
  by_cases x1 : x = 1
  ·rw [decide_eq_true x1, cond_true]
   exact wk2 (ev_flush b (p + 1) hb (by omega) (by omega))
  ·rw [decide_eq_false x1, cond_false]
   by_cases x2 : x = 2
   ·rw [decide_eq_true x2, cond_true]
    exact wk2 (ev_merge b (p + 1) w.2.2.1.length hw hb (by omega) (by omega))
   ·rw [decide_eq_false x2, cond_false]
    by_cases x3 : x = 3
    ·rw [decide_eq_true x3, cond_true]
     exact wk (ev_fall b (p + 1) hb (by omega) (by omega))
    ·rw [decide_eq_false x3, cond_false]
     exact wk2 (ev_add b (p + 1) hb (by omega) (by omega))
theorem wW_new : wW newW := by
 have hB : indexB (indexP []) = true := indexB_P (by unfold namesB; rfl)
 refine ⟨⟨?_, Nat.zero_le _, (fun _ h => nomatch h), Nat.zero_le _, (fun _ h => nomatch h)⟩, ⟨Nat.zero_le _, (fun _ h => nomatch h), Nat.zero_le _, (fun _ h => nomatch h), hB, (show (1 : Int) ≤ 1 ∧ (1 : Int) ≤ 999 by decide)⟩⟩
 rw [indexP_nil] at hB; exact hB
abbrev PlayT := Int × (List (List Tag)) × (List Post) × (List Part) × (List Sample) × (List File) × (List Int) × (List (List Tag)) × Int × (List Event) × Int
def ofP (s : PlayT) : World := (((s.2.1, s.2.2.1), s.2.2.2.1, s.2.2.2.2.1), (s.2.2.2.2.2.1, s.2.2.2.2.2.2.1, s.2.2.2.2.2.2.2.1, s.2.2.2.2.2.2.2.2.1))
theorem d_l72Play (b : List UInt8) (p : Int) (hb : b.length ≤ 2000) (h0 : 0 ≤ p) (h1 : p + 2000 ≤ 1000000) : ∃ (l : List Event) (w : World) (p' : Int), p_spec_l72Play (b, p) = some (l, w, p') ∧ wW w ∧ p ≤ p' ∧ p' ≤ p + 1500 := by
 obtain ⟨n, e1, a1, a2⟩ := d_pick b p 46 hb h0 (by omega) (by decide)
 have a2 := a2 (by decide)
 obtain ⟨x, hx, i1, i2, i3⟩ := lp.rule (body := p_spec_l72Play_b0 (b, p)) (fun s : PlayT => wW (ofP s) ∧ p ≤ s.1 ∧ s.1 ≤ p + 1 + 30 * (45 - s.2.2.2.2.2.2.2.2.2.2) ∧ s.2.2.2.2.2.2.2.2.2.2 ≤ 45 ∧ 0 ≤ s.2.2.2.2.2.2.2.2.2.2 ∧ (s.2.2.2.2.2.2.2.2.2.1.length : Int) ≤ 45 - s.2.2.2.2.2.2.2.2.2.2) (fun s => s.2.2.2.2.2.2.2.2.2.2.toNat)
  (fun x => wW (((x.1, x.2.1), x.2.2.1, x.2.2.2.1), (x.2.2.2.2.1, x.2.2.2.2.2.1, x.2.2.2.2.2.2.1, x.2.2.2.2.2.2.2.1)) ∧ p ≤ x.2.2.2.2.2.2.2.2.2 ∧ x.2.2.2.2.2.2.2.2.2 ≤ p + 1400) (fun s hI => by
   obtain ⟨j1, j2, j3, j4, j5, j6⟩ := hI
   unfold p_spec_l72Play_b0
   by_cases hz : 0 < s.2.2.2.2.2.2.2.2.2.2
   ·left
    obtain ⟨e, q, f1, f2, f3, f4⟩ := d_l72Event b s.1 (ofP s) (by have := j1.2.l6; omega) hb (by omega) (by omega)
    obtain ⟨w', g1, g2⟩ := d_l22Do j1 f4
    unfold ofP at f1 g1
    rw [decide_eq_true hz, cond_true, bd.yes f1, gd.yes (show room (s.2.2.2.2.2.2.2.2.2.1.length + 1) by unfold room; omega), bd.yes g1, gd.yes (show I64 (s.2.2.2.2.2.2.2.2.2.2 - 1) by unfold I64; omega)]
    refine ⟨_, rfl, ⟨g2, by simp only; omega, by simp only; omega, by simp only; omega, by simp only; omega, ?_⟩, by simp only; omega⟩
    simp only [List.length_append, List.length_singleton]; omega
   ·right
    rw [decide_eq_false hz, cond_false]
    exact ⟨_, rfl, j1, by simp only; omega, by simp only; omega⟩) (s := (p + 1, newW.1.1.1, newW.1.1.2, newW.1.2.1, newW.1.2.2, newW.2.1, newW.2.2.1, newW.2.2.2.1, newW.2.2.2.2, ([] : List Event), n)) ⟨wW_new, by simp only; omega, by simp only; omega, by simp only; omega, by simp only; omega, by simp only [List.length_nil]; omega⟩
 obtain ⟨w', g1, g2⟩ := d_l22Copy i1
 unfold p_spec_l72Play
 rw [bd.yes e_spec_WorldNew, bd.yes e1, bd.yes hx, bd.yes g1]
 exact ⟨_, _, _, rfl, g2, by omega, by omega⟩
structure vS (s : Store) : Prop where
 w1 : Wt.w s.1.1 ≤ 4194304
 w2 : postsW s.1.2
 nl : s.1.1.length ≤ 100
 pl : s.2.1.length ≤ 100
 ml : s.2.2.length ≤ 100
 p : ∀ p ∈ s.2.1, Dp.ok p ∧ Wt.w p ≤ 1048576
theorem vS_ok {s : Store} (h : vS s) : okS s := ⟨h.w1, h.w2, by have := h.pl; omega, by have := h.ml; omega, h.p⟩
structure vD (d : Disk) : Prop where
 w : Wt.w d.2.2.1 ≤ 4194304
 fl : d.1.length ≤ 100
 ll : d.2.1.length ≤ 100
 f : ∀ f ∈ d.1, Dp.ok f.2 ∧ Wt.w f.2 ≤ 1048576
 x : 0 ≤ d.2.2.2 ∧ d.2.2.2 ≤ 1000
theorem wS_v {s : Store} (h : wS s) : vS s := ⟨(wS_ok h).w1, (wS_ok h).w2, by have := (indexB_canon h.i).2.2.1; omega, by have := h.p6; omega, by have := h.m20; omega, (wS_ok h).p⟩
theorem wD_v {d : Disk} (h : wD d) : vD d := ⟨(wD_ok h).w, by have := h.f20; omega, by have := h.l6; omega, (wD_ok h).f, by have := h.x; omega⟩
theorem wD_names {d : Disk} (h : wD d) : d.2.2.1.length ≤ 6 ∧ ∀ n ∈ d.2.2.1, smallN n := by
 have e : (indexP d.2.2.1).1 = d.2.2.1 := rfl
 have := (indexB_canon h.n).2.2.1
 rw [e] at this
 refine ⟨this, fun n hn => ?_⟩
 obtain ⟨i, hi, rfl⟩ := List.mem_iff_getElem.1 hn
 rw [← nth_eq d.2.2.1 i hi]
 exact smallN_good (good_of h.n i hi)
theorem d_l72World (b : List UInt8) (p : Int) (hb : b.length ≤ 2000) (h0 : 0 ≤ p) (h1 : p + 2000 ≤ 1000000) : ∃ (w : World) (p' : Int), p_spec_l72World (b, p) = some (w, p') ∧ vS w.1 ∧ vD w.2 ∧ p ≤ p' ∧ p' ≤ p + 1600 := by
 obtain ⟨l, w, q, e1, hw, a1, a2⟩ := d_l72Play b p hb h0 h1
 obtain ⟨x, e2, _, _⟩ := d_pick b q 40 hb (by omega) (by omega) (by decide)
 have hs := wS_v hw.1
 have hd := wD_v hw.2
 have hl := hw.2.l6
 have hm := hw.1.m20
 have hf := hw.2.f20
 unfold p_spec_l72World
 rw [bd.yes e1]
 simp only
 rw [bd.yes e2]
 simp only
 by_cases x0 : x = 0
 ·obtain ⟨y, e3, b1, b2⟩ := d_pick b (q + 1) 6 hb (by omega) (by omega) (by decide)
  have b2 := b2 (by decide)
  rw [decide_eq_true x0, cond_true, bd.yes e3, gd.yes (show I64 (1 + y) by unfold I64; omega), gd.yes (show room (w.2.2.1.length + 1) by unfold room; omega)]
  exact ⟨_, _, rfl, hs, ⟨hd.w, hd.fl, by show (w.2.2.1 ++ [1 + y]).length ≤ 100; rw [List.length_append, List.length_singleton]; omega, hd.f, hd.x⟩, by omega, by omega⟩
 rw [decide_eq_false x0, cond_false]
 by_cases x1 : x = 1
 ·obtain ⟨y, e3, b1, b2⟩ := d_pick b (q + 1) 7 hb (by omega) (by omega) (by decide)
  obtain ⟨r, q2, e4, c1, c2⟩ := d_l71Row b (q + 1 + 1) hb (by omega) (by omega)
  have b2 := b2 (by decide)
  rw [decide_eq_true x1, cond_true, bd.yes e3, gd.yes (show I64 (1 + y) by unfold I64; omega), bd.yes e4, gd.yes (show room (w.1.2.2.length + 1) by unfold room; omega)]
  exact ⟨_, _, rfl, ⟨hs.w1, hs.w2, hs.nl, hs.pl, by show (w.1.2.2 ++ [(1 + y, r)]).length ≤ 100; rw [List.length_append, List.length_singleton]; omega, hs.p⟩, hd, by omega, by omega⟩
 rw [decide_eq_false x1, cond_false]
 by_cases x2 : x = 2
 ·rw [decide_eq_true x2, cond_true]
  by_cases hz : (0 : Int) < (w.2.1.length : Int)
  ·rw [decide_eq_true hz, cond_true, gd.yes (show sl2 1 (w.2.1.length : Int) w.2.1.length by unfold sl2; omega)]
   exact ⟨_, _, rfl, hs, ⟨hd.w, by show ((w.2.1.take _).drop 1).length ≤ 100; rw [List.length_drop, List.length_take]; omega, hd.ll, fun f hf => hd.f f (List.mem_of_mem_take (List.mem_of_mem_drop hf)), hd.x⟩, by omega, by omega⟩
  ·rw [decide_eq_false hz, cond_false]
   exact ⟨_, _, rfl, hs, hd, by omega, by omega⟩
 rw [decide_eq_false x2, cond_false]
 by_cases x3 : x = 3
 ·obtain ⟨n, q2, e3, c1, c2, hn⟩ := d_l71Name b (q + 1) hb (by omega) (by omega)
  obtain ⟨n1, n2⟩ := wD_names hw.2
  rw [decide_eq_true x3, cond_true, bd.yes e3, gd.yes (show room (w.2.2.2.1.length + 1) by unfold room; omega)]
  exact ⟨_, _, rfl, hs, ⟨smallNs_w (names := w.2.2.2.1 ++ [n]) (by rw [List.length_append, List.length_singleton]; omega) (fun m hm => by
   rcases List.mem_append.1 hm with hm | hm
   ·exact n2 m hm
   ·rw [List.mem_singleton.1 hm]; exact hn), hd.fl, hd.ll, hd.f, hd.x⟩, by omega, by omega⟩
 ·rw [decide_eq_false x3, cond_false]
  exact ⟨_, _, rfl, hs, hd, by omega, by omega⟩
abbrev FlT := Int × (List (List Tag)) × (List Post) × (List Part) × (List Sample) × Int
theorem d_DrawStoreFlush (c : List UInt8) : ∃ s, p_spec_DrawStoreFlush c = some s ∧ vS s := by
 obtain ⟨b, e0, hb⟩ := d_l6Open c
 obtain ⟨w, q, e1, hs, _, a1, a2⟩ := d_l72World b 0 hb (by decide) (by decide)
 obtain ⟨x, hx, i1⟩ := lp.rule (body := p_spec_DrawStoreFlush_b0 (b, 0)) (fun s : FlT => vS ((s.2.1, s.2.2.1), s.2.2.2.1, s.2.2.2.2.1) ∧ 0 ≤ s.2.2.2.2.2 ∧ s.2.2.2.2.2 ≤ 3 ∧ 0 ≤ s.1 ∧ s.1 ≤ 1700 + 1700 * s.2.2.2.2.2) (fun s => (3 - s.2.2.2.2.2).toNat)
  (fun x => vS ((x.1, x.2.1), x.2.2.1, x.2.2.2)) (fun s hI => by
   obtain ⟨j1, j2, j3, j4, j5⟩ := hI
   unfold p_spec_DrawStoreFlush_b0
   by_cases hz : s.2.2.2.2.2 < 3
   ·rw [decide_eq_true hz, cond_true]
    cases decide ((s.2.2.2.2.1.length : Int) = 0) with
    | false => exact .inr ⟨_, rfl, j1⟩
    | true =>
     obtain ⟨y, e2, _, _⟩ := d_pick b s.1 8 hb j4 (by omega) (by decide)
     rw [cond_true, bd.yes e2]
     simp only
     cases decide (0 < y) with
     | false => exact .inr ⟨_, rfl, j1⟩
     | true =>
      obtain ⟨w', q', e3, hs', _, c1, c2⟩ := d_l72World b (s.1 + 1) hb (by omega) (by omega)
      rw [cond_true, bd.yes e3, gd.yes (show I64 (s.2.2.2.2.2 + 1) by unfold I64; omega)]
      exact .inl ⟨_, rfl, ⟨hs', by simp only; omega, by simp only; omega, by simp only; omega, by simp only; omega⟩, by simp only; omega⟩
   ·rw [decide_eq_false hz, cond_false]
    exact .inr ⟨_, rfl, j1⟩) (s := (q, w.1.1.1, w.1.1.2, w.1.2.1, w.1.2.2, 0)) ⟨hs, by simp only; omega, by simp only; omega, by simp only; omega, by simp only; omega⟩
 unfold p_spec_DrawStoreFlush
 rw [bd.yes e0, bd.yes e1, bd.yes hx]
 exact ⟨_, rfl, i1⟩
theorem e_impl_BlockPut {b : List Row} {r : Row} (hb : blockOk b = true) (hr : rowOk r = true) (h : (ins r b).length ≤ 24) : p_impl_BlockPut b r = some (ins r b, true) := by
 have h24 := (blockOk_iff.1 hb).2.2
 unfold p_impl_BlockPut
 rw [bd.yes (e_impl_BlockOk b (by unfold maxLen; omega)), hb, Bool.not_true, cond_false, bd.yes (e_impl_rowOk r), hr, Bool.not_true, bd_some, cond_false, bd.yes (e_put b r (by omega)), decide_eq_false (show ¬ (24 : Int) < ((ins r b).length : Int) by omega), cond_false]
theorem memR_take_le (l : List Sample) (id : Int) (o : List Row) (k : Nat) : (memR (l.take k) id o).length ≤ (memR l id o).length := by
 have h := memR_ge id (l.drop k) (memR (l.take k) id o)
 have e : memR (l.drop k) id (memR (l.take k) id o) = memR l id o := by
  unfold memR
  rw [← List.foldl_append, List.take_append_drop]
 rw [e] at h; exact h
theorem memR_rows (id : Int) : ∀ (l : List Sample) (o : List Row), (∀ x ∈ o, rowOk x = true) → (∀ m ∈ l, rowOk m.2 = true) → ∀ x ∈ memR l id o, rowOk x = true
 | [], _, h, _ => h
 | m :: t, o, h, hm => memR_rows id t (insI id o m) (fun x hx => by
  unfold insI at hx
  split at hx
  ·rcases ins_mem hx with rfl | hx
   ·exact hm m (List.mem_cons_self ..)
   ·exact h x hx
  ·exact h x hx) (fun x hx => hm x (List.mem_cons_of_mem _ hx))
theorem mem_block {l : List Sample} (hm : ∀ m ∈ l, rowOk m.2 = true) (hl : l.length ≤ 20) (id : Int) : blockOk (memR l id []) = true :=
 blockOk_iff.2 ⟨memR_rows id l [] (fun _ h => nomatch h) hm, memR_asc id l [] nil_asc, by have := memR_nil_len l id; omega⟩
theorem memP_ok {l : List Sample} (hm : ∀ m ∈ l, rowOk m.2 = true) (hl : l.length ≤ 20) : partOk (memP l) = true := by
 refine partOk_of (mkP_len _ _).1 (fun x hx => ?_) (mkP_asc _ _) fun y hy => ⟨mkP_pos _ _ y hy, ?_⟩
 ·obtain ⟨j, g1, g2, _⟩ := mkP_rng (blkM l 6) 0 x hx
  rw [blkM_len] at g1; omega
 ·have := mkP_mem _ _ y hy
  obtain ⟨i, _, rfl⟩ := List.mem_map.1 this
  exact mem_block hm hl _
theorem memP_rows (l : List Sample) {j : Nat} (hj : j < 6) : rowsOf (memP l) ((j + 1 : Nat) : Int) = memR l ((j + 1 : Nat) : Int) [] := by
 by_cases hp : 0 < (memR l ((j + 1 : Nat) : Int) []).length
 ·obtain ⟨k, h1, h2, h3⟩ := mkP_has (blkM l 6) 0 j (by rw [blkM_len]; exact hj) (by rw [blkM_nth l hj]; exact hp)
  have := rowsOf_at (p := memP l) (mkP_asc _ _) h1
  have e : nth (memP l).1 k = ((j + 1 : Nat) : Int) := by rw [show nth (memP l).1 k = _ from h2]; omega
  rw [e] at this
  rw [this, show nth (memP l).2 k = _ from h3, blkM_nth l hj]
 ·rw [rowsOf_no fun x hx e => ?_]
  ·exact (List.length_eq_zero_iff.1 (by omega)).symm
  ·obtain ⟨j', g1, g2, g3⟩ := mkP_rng (blkM l 6) 0 x hx
   rw [blkM_len] at g1
   have : j' = j := by omega
   subst this
   rw [blkM_nth l g1] at g3
   exact hp g3
theorem e_lyStore_self (a : Store) (hw : Wt.w a.1.1 ≤ 4194304) (hp : postsW a.1.2) (h1 : a.2.1.length ≤ 1048576) (h2 : a.2.2.length ≤ 1048576) (ok : ∀ p ∈ a.2.1, Dp.ok p) : p_laws_lyStore a a = some true := by
 have k0 : lp (p_laws_lyStore_b0 a a) 0 = some (.inl ()) := lp_for (body := p_laws_lyStore_b0 a a) (fun k => (k : Int)) a.2.1.length (.inl ()) (fun k hk => by
  unfold p_laws_lyStore_b0
  rw [dlt hk, cond_true, gd.yes (ixN hk), gd.yes (ixN hk)]
  simp only [Int.toNat_natCast]
  rw [bd.yes (e_lyPart _ _ (ok _ (nth_mem hk))), decide_eq_true rfl, Bool.not_true, cond_false, gd.yes (show I64 ((k : Int) + 1) by unfold I64; omega), addI]) (by
  unfold p_laws_lyStore_b0; rw [decide_eq_false (show ¬ ((a.2.1.length : Int) < (a.2.1.length : Int)) by omega)]; rfl)
 have k1 : lp (p_laws_lyStore_b1 a a) 0 = some (.inl ()) := lp_for (body := p_laws_lyStore_b1 a a) (fun k => (k : Int)) a.2.2.length (.inl ()) (fun k hk => by
  unfold p_laws_lyStore_b1
  rw [dlt hk, cond_true, gd.yes (ixN hk), gd.yes (ixN hk)]
  simp only [Int.toNat_natCast]
  rw [decide_eq_true trivial, Bool.not_true, cond_false, gd.yes (show I64 ((k : Int) + 1) by unfold I64; omega), addI]) (by
  unfold p_laws_lyStore_b1; rw [decide_eq_false (show ¬ ((a.2.2.length : Int) < (a.2.2.length : Int)) by omega)]; rfl)
 unfold p_laws_lyStore
 rw [bd.yes (e_lyIndex a.1 a.1 hw hp), decide_eq_true rfl, decide_eq_true rfl, decide_eq_true rfl]
 simp only [Bool.not_true, cond_false, bd_some]
 rw [k0, bd_swl, k1, bd_swl]
theorem e_FnFlushPart (c : List UInt8) (_ : Dp.ok c) : p_laws_FnFlushPart c = some true := by
 unfold p_laws_FnFlushPart
 by_cases hc : (1048576 : Int) < (c.length : Int)
 ·rw [decide_eq_true hc]; rfl
 ·obtain ⟨s, e, hv⟩ := d_DrawStoreFlush c
  have hs := vS_ok hv
  obtain ⟨okf, wf⟩ := flushP_fine s
  have hly : p_laws_lyStore (flushP s).1 (flushP s).1 = some true := by
   have h0 : ∀ s' : Store, storeB s = true → s'.1 = indexP s.1.1 → s'.2.1.length ≤ 7 → s'.2.2.length ≤ 20 → (∀ p ∈ s'.2.1, Dp.ok p) → p_laws_lyStore s' s' = some true := fun s' hb e1 e2 e3 e4 => by
    refine e_lyStore_self s' ?_ ?_ (by omega) (by omega) e4
    ·rw [e1]; exact hv.w1
    ·rw [e1]; exact postsW_any hv.w1
   unfold flushP
   cases hb : storeB s with
   | false => exact e_lyStore_self nilS (Nat.zero_le _) ⟨Nat.zero_le _, fun k hk => absurd hk (Nat.not_lt_zero k)⟩ (Nat.zero_le _) (Nat.zero_le _) (fun _ h => nomatch h)
   | true =>
    have hg := storeB_good hb
    rw [if_pos rfl]
    split
    ·exact h0 (copyS s) hb rfl (by have := hg.p6; show s.2.1.length ≤ 7; omega) hg.m20 (fun p hp => (hv.p p hp).1)
    ·refine h0 (indexP s.1.1, s.2.1 ++ [memP s.2.2], []) hb rfl (by have := hg.p6; show (s.2.1 ++ [_]).length ≤ 7; rw [List.length_append, List.length_singleton]; omega) (Nat.zero_le _) (fun p hp => ?_)
     rcases List.mem_append.1 hp with hp | hp
     ·exact (hv.p p hp).1
     ·rw [List.mem_singleton.1 hp]; exact small_ok (memP_small _ (by have := hg.m20; omega))
  rw [decide_eq_false hc, cond_false, bd.yes e, bd.yes (e_spec_StoreFlush s hs), bd.yes (e_impl_StoreFlush s hs), decide_eq_true rfl, Bool.not_true, cond_false, bd.yes hly, Bool.not_true, cond_false, bd_some]
  cases hf : (flushP s).2 with
  | false => rw [Bool.not_false, cond_true, cond_true, bd.yes hly]; rfl
  | true =>
   have hb : storeB s = true := by
    cases hb : storeB s with
    | true => rfl
    | false => unfold flushP at hf; rw [hb] at hf; cases hf
   have hg := storeB_good hb
   have hm20 := hg.m20
   have hp6 := hg.p6
   have ef : (flushP s).1 = (indexP s.1.1, s.2.1 ++ [memP s.2.2], []) := by
    unfold flushP at hf ⊢
    rw [hb, if_pos rfl] at hf ⊢
    split at hf
    ·cases hf
    ·rename_i hn; rw [if_neg hn]
   have hM : ∀ m ∈ s.2.2, rowOk m.2 = true := fun m hm => (hg.m m hm).2.2
   have hpk := memP_ok hM hm20
   have hsm := partOk_small hpk
   have hlen : ((flushP s).1.2.1.length : Int) - 1 = (s.2.1.length : Int) := by rw [ef]; show ((s.2.1 ++ [memP s.2.2]).length : Int) - 1 = _; rw [List.length_append, List.length_singleton]; omega
   have hlast : nth (flushP s).1.2.1 (((flushP s).1.2.1.length : Int) - 1).toNat = memP s.2.2 := by
    rw [hlen, Int.toNat_natCast, ef]
    show nth (s.2.1 ++ [memP s.2.2]) s.2.1.length = _
    rw [nth_eq _ _ (by simp)]; simp
   have inner : ∀ id : Int, lp (p_laws_FnFlushPart_b1 s id) (([] : List Row), 0) = some (memR s.2.2 id []) := fun id => lp_for (body := p_laws_FnFlushPart_b1 s id) (fun k => (memR (s.2.2.take k) id [], (k : Int))) s.2.2.length (memR s.2.2 id []) (fun k hk => by
    have g1 := memR_take_le s.2.2 id [] (k + 1)
    have g3 := memR_nil_len s.2.2 id
    have hr := hM _ (nth_mem hk)
    have hq : blockOk (memR (s.2.2.take k) id []) = true := mem_block (fun m hm => hM m (List.mem_of_mem_take hm)) (by rw [List.length_take]; omega) id
    have hst := memR_take s.2.2 id [] hk
    unfold p_laws_FnFlushPart_b1
    rw [dlt hk, cond_true, gd.yes (ixN hk), hst]
    simp only [Int.toNat_natCast]
    by_cases he : (nth s.2.2 k).1 = id
    ·have hi : insI id (memR (s.2.2.take k) id []) (nth s.2.2 k) = ins (nth s.2.2 k).2 (memR (s.2.2.take k) id []) := by unfold insI; rw [if_pos he]
     rw [decide_eq_true he, cond_true, bd.yes (e_impl_BlockPut hq hr (by rw [← hi, ← hst]; omega)), gd.yes (show I64 ((k : Int) + 1) by unfold I64; omega), hi, addI]
    ·rw [decide_eq_false he, cond_false, gd.yes (show I64 ((k : Int) + 1) by unfold I64; omega), addI]
     unfold insI; rw [if_neg he]) (by
    unfold p_laws_FnFlushPart_b1
    rw [decide_eq_false (show ¬ ((s.2.2.length : Int) < (s.2.2.length : Int)) by omega), cond_false, List.take_length])
   have key : lp (p_laws_FnFlushPart_b0 s (flushP s)) (((0 : Nat) : Int) + 1) = some (.inl ()) := lp_for (body := p_laws_FnFlushPart_b0 s (flushP s)) (fun k => (k : Int) + 1) 6 (.inl ()) (fun k hk => by
    have e1 : (k : Int) + 1 = ((k + 1 : Nat) : Int) := by omega
    have hr : partOf (memP s.2.2) ((k : Int) + 1) = memR s.2.2 ((k : Int) + 1) [] := by rw [partOf_yes hpk, e1, memP_rows s.2.2 hk]
    have g3 := memR_nil_len s.2.2 ((k : Int) + 1)
    unfold p_laws_FnFlushPart_b0
    rw [decide_eq_true (show (k : Int) + 1 ≤ 6 by omega), cond_true, bd.yes (inner _), hlast, bd.yes (e_impl_PartOf _ _ (small_ok hsm) (small_w hsm)), hr, bd.yes (e_lyRows _ _ (by omega)), decide_eq_true rfl, Bool.not_true, cond_false, gd.yes (show I64 ((k : Int) + 1 + 1) by unfold I64; omega)]
    have e2 : (k : Int) + 1 + 1 = ((k + 1 : Nat) : Int) + 1 := by omega
    rw [e2]) (by
    unfold p_laws_FnFlushPart_b0
    rfl)
   have e1 : ((0 : Nat) : Int) + 1 = 1 := rfl
   rw [e1] at key
   have hix : ix (((flushP s).1.2.1.length : Int) - 1) (flushP s).1.2.1.length := by unfold ix; omega
   rw [Bool.not_true, cond_false, gd.yes (show I64 (((flushP s).1.2.1.length : Int) - 1) by unfold I64; omega), gd.yes hix, key, bd_swl, hlast, bd.yes (e_impl_PartOk _ (small_ok hsm)), hpk]
end Go.Proofs.YtlkcnfjdhkoelaaGreat
