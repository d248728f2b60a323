/- The walks and the plain laws, part 5: each function that the law reaches computes what its plain function tells, and what the plain functions answer. Conditions: lengths that memory can hold. -/
import Derived.Test.YtlkcnfjdhkoelaaGreatA4
namespace Go.Proofs.YtlkcnfjdhkoelaaGreat
open Go Go.Sx Tryz
theorem d_l13Flush {s : Store} (h : wS s) : ∃ s' ok, p_spec_l13Flush s = some (s', ok) ∧ wS s' := by
 have h6 := h.p6
 have h20 := h.m20
 unfold p_spec_l13Flush
 by_cases h0 : (s.2.2.length : Int) = 0
 ·rw [decide_eq_true h0]; exact ⟨s, false, rfl, h⟩
 ·rw [decide_eq_false h0, cond_false]
  by_cases h1 : (6 : Int) ≤ (s.2.1.length : Int)
  ·rw [decide_eq_true h1]; exact ⟨s, false, rfl, h⟩
  ·rw [decide_eq_false h1, bd_some, cond_false, List.nil_append, gd.yes (show room (([] : List Part).length + s.2.1.length) by rw [List.length_nil]; unfold room; omega), bd.yes (e_l13Mem s (by omega) fun m hm => ⟨(h.m m hm).1, (h.m m hm).2.1⟩), gd.yes (show room (s.2.1.length + 1) by unfold room; omega)]
   refine ⟨_, _, rfl, h.i, by show (s.2.1 ++ [_]).length ≤ 6; rw [List.length_append, List.length_singleton]; omega, fun p hp => ?_, Nat.zero_le _, fun _ h => nomatch h⟩
   rcases List.mem_append.1 hp with hp | hp
   ·exact h.p p hp
   ·rw [List.mem_singleton.1 hp]; exact wP_mem fun m hm => (h.m m hm).2.2
theorem d_l13Merge {s : Store} (h : wS s) (v1 : Int) : ∃ s' ok, p_spec_l13Merge s v1 = some (s', ok) ∧ wS s' := by
 have h6 := h.p6
 unfold p_spec_l13Merge
 rw [gd.yes (show I64 ((s.2.1.length : Int) - 2) by unfold I64; omega), bd.yes (e_spec_l6In _ _ _)]
 cases hi : inn 0 v1 ((s.2.1.length : Int) - 2) with
 | false => exact ⟨s, false, rfl, h⟩
 | true =>
  have hv : 0 ≤ v1 ∧ v1 ≤ (s.2.1.length : Int) - 2 := by unfold inn at hi; simpa using hi
  have k1 : v1.toNat < s.2.1.length := by omega
  have k2 : (v1 + 1).toNat < s.2.1.length := by omega
  have hr : ∀ n : Nat, n ≤ 1000 → room n := fun n hn => by unfold room; omega
  rw [Bool.not_true, cond_false, gd.yes (show sl2 0 v1 s.2.1.length by unfold sl2; omega), gd.yes (hr _ (by simp only [List.length_take, List.length_drop, List.length_nil]; omega)), gd.yes (show ix v1 s.2.1.length by unfold ix; omega), gd.yes (show I64 (v1 + 1) by unfold I64; omega), gd.yes (show ix (v1 + 1) s.2.1.length by unfold ix; omega), bd.yes (e_l12Merge_w (h.p _ (nth_mem k1)) (h.p _ (nth_mem k2))), gd.yes (hr _ (by simp only [List.length_append, List.length_take, List.length_drop, List.length_nil]; omega)), gd.yes (show I64 (v1 + 2) by unfold I64; omega), gd.yes (show sl2 (v1 + 2) (s.2.1.length : Int) s.2.1.length by unfold sl2; omega), gd.yes (hr _ (by simp only [List.length_append, List.length_take, List.length_drop, List.length_nil, List.length_cons]; omega))]
  refine ⟨_, _, rfl, h.i, by simp only [List.length_append, List.length_take, List.length_drop, List.length_nil, List.length_cons]; omega, fun p hp => ?_, h.m20, h.m⟩
  simp only [List.nil_append, List.drop_zero] at hp
  rcases List.mem_append.1 hp with hp | hp
  ·rcases List.mem_append.1 hp with hp | hp
   ·exact h.p p (List.mem_of_mem_take hp)
   ·rw [List.mem_singleton.1 hp]; exact wP_pm (h.p _ (nth_mem k1)) (h.p _ (nth_mem k2))
  ·exact h.p p (List.mem_of_mem_take (List.mem_of_mem_drop hp))
def playW (d : Disk) (l : List Step) (k : Nat) : Disk := (l.take k).foldl stepW d
theorem playW_succ (d : Disk) {l : List Step} {k : Nat} (hk : k < l.length) : playW d l (k + 1) = stepW (playW d l k) (nth l k) := by
 unfold playW
 rw [take_succ_nth hk, List.foldl_append]; rfl
theorem playW_D {d : Disk} {l : List Step} (h : wD d) (hx : ∀ k, k < l.length → stW (playW d l k) (nth l k)) : ∀ k, k ≤ l.length → wD (playW d l k)
 | 0, _ => h
 | k + 1, hk => by
  rw [playW_succ d (show k < l.length by omega)]
  exact (d_l21Do (playW_D h hx k (by omega)) (hx k (by omega))).2
theorem d_l21To {d : Disk} {l : List Step} (h : wD d) (hx : ∀ k, k < l.length → stW (playW d l k) (nth l k)) (hl : l.length ≤ 1000) (v2 : Int) (_ : 0 ≤ v2) : ∃ d', p_spec_l21To d l v2 = some d' ∧ wD d' := by
 have key : lp (p_spec_l21To_b0 l v2) (d.1, d.2.1, d.2.2.1, d.2.2.2, 0) = some (playW d l (min v2 (l.length : Int)).toNat) :=
  lp_for (body := p_spec_l21To_b0 l v2) (fun k => ((playW d l k).1, (playW d l k).2.1, (playW d l k).2.2.1, (playW d l k).2.2.2, (k : Int))) (min v2 (l.length : Int)).toNat (playW d l (min v2 (l.length : Int)).toNat) (fun k hk => by
   have k1 : k < l.length := by omega
   unfold p_spec_l21To_b0
   simp only
   rw [decide_eq_true (show (k : Int) < (l.length : Int) by omega), cond_true, decide_eq_true (show (k : Int) < v2 by omega), bd_some, cond_true, gd.yes (ixN k1), Int.toNat_natCast]
   rw [bd.yes (d_l21Do (playW_D h hx k (by omega)) (hx k k1)).1, gd.yes (show I64 ((k : Int) + 1) by unfold I64; omega), playW_succ d k1, addI]) (by
   unfold p_spec_l21To_b0
   simp only
   by_cases hq : (((min v2 (l.length : Int)).toNat : Nat) : Int) < (l.length : Int)
   ·rw [decide_eq_true hq, cond_true, decide_eq_false (by omega), bd_some, cond_false]
   ·rw [decide_eq_false hq, cond_false, bd_some, cond_false])
 unfold p_spec_l21To
 rw [bd.yes key]
 exact ⟨_, rfl, playW_D h hx _ (by omega)⟩
theorem d_l22Steps {w : World} (h : wW w) {l : List Step} (hx : ∀ k, k < l.length → stW (playW w.2 l k) (nth l k)) (hl : l.length ≤ 1000) (v2 : Int) {s : Store} (hs : wS s) : ∃ w', p_spec_l22Steps w l v2 s = some w' ∧ wW w' := by
 unfold p_spec_l22Steps
 by_cases h0 : (l.length : Int) = 0
 ·rw [decide_eq_true h0]; exact ⟨w, rfl, h⟩
 ·rw [decide_eq_false h0, cond_false]
  by_cases h2 : v2 < 0
  ·rw [decide_eq_true h2]; exact ⟨w, rfl, h⟩
  ·obtain ⟨d', e, hd⟩ := d_l21To h.2 hx hl v2 (by omega)
   rw [decide_eq_false h2, bd_some, cond_false, bd.yes e]
   cases decide (v2 < (l.length : Int)) with
   | true =>
    obtain ⟨w', e2, hw⟩ := d_l22Fall (w := (w.1, d')) ⟨h.1, hd⟩
    rw [cond_true, bd.yes e2]
    exact ⟨w', rfl, hw⟩
   | false => exact ⟨(s, d'), rfl, hs, hd⟩
theorem d_l21Flush {d : Disk} {s : Store} (h : wD d) (hs : wS s) : ∃ l, p_spec_l21Flush d s = some l ∧ l.length ≤ 1000 ∧ ∀ k, k < l.length → stW (playW d l k) (nth l k) := by
 have hx := h.x
 have f20 := h.f20
 have m20 := hs.m20
 have l6 := h.l6
 obtain ⟨u1, u2, _⟩ := w_names (names_w (wS_ix hs))
 unfold p_spec_l21Flush
 by_cases h0 : (s.2.2.length : Int) = 0
 ·rw [decide_eq_true h0]; exact ⟨[], rfl, Nat.zero_le _, fun _ h => nomatch h⟩
 rw [decide_eq_false h0, cond_false]
 by_cases h1 : (6 : Int) ≤ (d.2.1.length : Int)
 ·rw [decide_eq_true h1]; exact ⟨[], rfl, Nat.zero_le _, fun _ h => nomatch h⟩
 rw [decide_eq_false h1, cond_false]
 by_cases h2 : (999 : Int) ≤ d.2.2.2
 ·rw [decide_eq_true h2]; exact ⟨[], rfl, Nat.zero_le _, fun _ h => nomatch h⟩
 rw [decide_eq_false h2, cond_false]
 by_cases h3 : (20 : Int) ≤ (d.1.length : Int)
 ·rw [decide_eq_true h3]; exact ⟨[], rfl, Nat.zero_le _, fun _ h => nomatch h⟩
 rw [decide_eq_false h3, bd_some, cond_false, gd.yes (show room (([] : List Int).length + d.2.1.length) by rw [List.length_nil]; unfold room; omega), gd.yes (show room ((([] : List Int) ++ d.2.1).length + 1) by rw [List.nil_append]; unfold room; omega), bd.yes (e_l13Mem s (by omega) fun m hm => ⟨(hs.m m hm).1, (hs.m m hm).2.1⟩), bd.yes (e_spec_l11Names _ u1 fun n hn => (u2 n hn).1)]
 refine ⟨_, rfl, (show (2 : Nat) ≤ 1000 by decide), fun k hk => ?_⟩
 match k, hk with
 | 0, _ => exact .inl ⟨rfl, by show d.1.length ≤ 19; omega, wP_mem fun m hm => (hs.m m hm).2.2, rfl, by show d.2.2.2 ≤ 998; omega, rfl, rfl⟩
 | 1, _ =>
  refine .inr (.inl ⟨rfl, ?_, fun n hn => ?_, wS_ix hs⟩)
  ·show ((([] : List Int) ++ d.2.1) ++ [d.2.2.2]).length ≤ 6
   simp only [List.length_append, List.length_nil, List.length_cons]; omega
  ·show n ∈ (d.1 ++ [(d.2.2.2, memP s.2.2)]).map (·.1)
   rw [List.map_append]
   rcases List.mem_append.1 (show n ∈ (([] : List Int) ++ d.2.1) ++ [d.2.2.2] from hn) with hn | hn
   ·exact List.mem_append.2 (.inl (h.a n hn))
   ·exact List.mem_append.2 (.inr hn)
theorem d_l21Merge {d : Disk} (h : wD d) (v1 : Int) : ∃ l, p_spec_l21Merge d v1 = some l ∧ l.length ≤ 1000 ∧ ∀ k, k < l.length → stW (playW d l k) (nth l k) := by
 have hx := h.x
 have f20 := h.f20
 have l6 := h.l6
 obtain ⟨u1, u2, _⟩ := w_names (names_w h.n)
 unfold p_spec_l21Merge
 rw [gd.yes (show I64 ((d.2.1.length : Int) - 2) by unfold I64; omega), bd.yes (e_spec_l6In _ _ _)]
 cases hi : inn 0 v1 ((d.2.1.length : Int) - 2) with
 | false => exact ⟨[], rfl, Nat.zero_le _, fun _ h => nomatch h⟩
 | true =>
  rw [Bool.not_true, cond_false]
  by_cases h2 : (999 : Int) ≤ d.2.2.2
  ·rw [decide_eq_true h2]; exact ⟨[], rfl, Nat.zero_le _, fun _ h => nomatch h⟩
  rw [decide_eq_false h2, cond_false]
  by_cases h3 : (20 : Int) ≤ (d.1.length : Int)
  ·rw [decide_eq_true h3]; exact ⟨[], rfl, Nat.zero_le _, fun _ h => nomatch h⟩
  have hv : 0 ≤ v1 ∧ v1 ≤ (d.2.1.length : Int) - 2 := by unfold inn at hi; simpa using hi
  have k1 : v1.toNat < d.2.1.length := by omega
  have k2 : (v1 + 1).toNat < d.2.1.length := by omega
  obtain ⟨a, ha, ea⟩ := wD_at h (nth_mem k1)
  obtain ⟨b, hb, eb⟩ := wD_at h (nth_mem k2)
  have hr : ∀ n : Nat, n ≤ 1000 → room n := fun n hn => by unfold room; omega
  rw [decide_eq_false h3, bd_some, cond_false, gd.yes (show ix v1 d.2.1.length by unfold ix; omega), gd.yes (show I64 (v1 + 1) by unfold I64; omega), gd.yes (show ix (v1 + 1) d.2.1.length by unfold ix; omega), bd.yes (e_spec_l21At d _ (by omega)), ea, gd.yes (ixN ha), bd.yes (e_spec_l21At d _ (by omega)), eb, gd.yes (ixN hb)]
  simp only [Int.toNat_natCast]
  rw [bd.yes (e_l12Merge_w (h.f _ (nth_mem ha)) (h.f _ (nth_mem hb))), gd.yes (show sl2 0 v1 d.2.1.length by unfold sl2; omega), gd.yes (show I64 (v1 + 2) by unfold I64; omega), gd.yes (show sl2 (v1 + 2) (d.2.1.length : Int) d.2.1.length by unfold sl2; omega), gd.yes (hr _ (by simp only [List.length_take, List.length_drop, List.length_nil]; omega)),
   gd.yes (hr _ (by simp only [List.length_append, List.length_take, List.length_drop, List.length_nil]; omega)), gd.yes (hr _ (by simp only [List.length_append, List.length_take, List.length_drop, List.length_nil, List.length_cons]; omega)), bd.yes (e_spec_l11Names _ u1 fun n hn => (u2 n hn).1)]
  refine ⟨_, rfl, (show (4 : Nat) ≤ 1000 by decide), fun k hk => ?_⟩
  match k, hk with
  | 0, _ => exact .inl ⟨rfl, by show d.1.length ≤ 19; omega, wP_pm (h.f _ (nth_mem ha)) (h.f _ (nth_mem hb)), rfl, by show d.2.2.2 ≤ 998; omega, rfl, rfl⟩
  | 1, _ =>
   refine .inr (.inl ⟨rfl, ?_, fun n hn => ?_, h.n⟩)
   ·show (((([] : List Int) ++ ((d.2.1.take v1.toNat).drop 0)) ++ [d.2.2.2]) ++ ((d.2.1.take (d.2.1.length : Int).toNat).drop (v1 + 2).toNat)).length ≤ 6
    simp only [List.length_append, List.length_take, List.length_drop, List.length_nil, List.length_cons]; omega
   ·show n ∈ (d.1 ++ [((d.2.2.2, pmP (nth d.1 a).2 (nth d.1 b).2) : File)]).map (·.1)
    rw [List.map_append]
    have hn : n ∈ (((([] : List Int) ++ ((d.2.1.take v1.toNat).drop 0)) ++ [d.2.2.2]) ++ ((d.2.1.take (d.2.1.length : Int).toNat).drop (v1 + 2).toNat)) := hn
    simp only [List.nil_append, List.drop_zero] at hn
    rcases List.mem_append.1 hn with hn | hn
    ·rcases List.mem_append.1 hn with hn | hn
     ·exact List.mem_append.2 (.inl (h.a n (List.mem_of_mem_take hn)))
     ·exact List.mem_append.2 (.inr hn)
    ·exact List.mem_append.2 (.inl (h.a n (List.mem_of_mem_take (List.mem_of_mem_drop hn))))
  | 2, _ => exact .inr (.inr ⟨rfl, rfl, rfl⟩)
  | 3, _ => exact .inr (.inr ⟨rfl, rfl, rfl⟩)
theorem d_l22Do {w : World} (h : wW w) {e : Event} (he : e.2.2.2.1.length ≤ 1000) : ∃ w', p_spec_l22Do w e = some w' ∧ wW w' := by
 unfold p_spec_l22Do
 by_cases h1 : e.1 = 1
 ·rw [decide_eq_true h1, cond_true, bd.yes (e_spec_NameOk _ (by unfold maxLen; omega))]
  cases hn : nameOk e.2.2.2.1 with
  | false => exact ⟨w, rfl, h⟩
  | true =>
   obtain ⟨s', ok, e1, hs⟩ := d_l13Add h.1 e.2.2.2.2 hn
   rw [cond_true, bd.yes e1]
   exact ⟨_, rfl, hs, h.2⟩
 rw [decide_eq_false h1, cond_false]
 by_cases h2 : e.1 = 2
 ·obtain ⟨s', ok, e1, hs⟩ := d_l13Flush h.1
  obtain ⟨l, e2, hl, hx⟩ := d_l21Flush h.2 h.1
  obtain ⟨w', e3, hw⟩ := d_l22Steps h hx hl e.2.2.1 hs
  rw [decide_eq_true h2, cond_true, bd.yes e1, bd.yes e2, bd.yes e3]
  exact ⟨_, rfl, hw⟩
 rw [decide_eq_false h2, cond_false]
 by_cases h3 : e.1 = 3
 ·obtain ⟨s', ok, e1, hs⟩ := d_l13Merge h.1 e.2.1
  obtain ⟨l, e2, hl, hx⟩ := d_l21Merge h.2 e.2.1
  obtain ⟨w', e3, hw⟩ := d_l22Steps h hx hl e.2.2.1 hs
  rw [decide_eq_true h3, cond_true, bd.yes e1, bd.yes e2, bd.yes e3]
  exact ⟨_, rfl, hw⟩
 rw [decide_eq_false h3, cond_false]
 by_cases h4 : e.1 = 4
 ·obtain ⟨w', e1, hw⟩ := d_l22Fall h
  rw [decide_eq_true h4, cond_true, bd.yes e1]
  exact ⟨_, rfl, hw⟩
 ·rw [decide_eq_false h4]
  exact ⟨w, rfl, h⟩
theorem d_l72Known (b : List UInt8) (p : Int) (hb : b.length ≤ 2000) (h0 : 0 ≤ p) (h1 : p + 20 ≤ 1000000) : ∃ n p', p_spec_l72Known (b, p) = some (n, p') ∧ p ≤ p' ∧ p' ≤ p + 17 ∧ n.length ≤ 1000 := by
 obtain ⟨x, e1, _, _⟩ := d_pick b p 4 hb h0 (by omega) (by decide)
 unfold p_spec_l72Known
 rw [bd.yes e1]
 by_cases hx : x = 0
 ·obtain ⟨n, p', e2, a1, a2, hn⟩ := d_l71Name b (p + 1) hb (by omega) (by omega)
  rw [decide_eq_true hx, cond_true, bd.yes e2]
  exact ⟨n, p', rfl, by omega, by omega, by have := hn.1; omega⟩
 ·obtain ⟨t, e2, ht⟩ := d_of b (p + 1) [(⟨#[97, 61, 112]⟩ : ByteArray), (⟨#[97, 61, 113, 44, 98, 61, 112]⟩ : ByteArray), (⟨#[98, 61, 122, 44, 99, 61, 113]⟩ : ByteArray)] hb (by omega) (by omega) (by decide) (by decide)
  have hs : t.size ≤ 1048576 := by
   simp only [List.mem_cons, List.not_mem_nil, or_false] at ht
   rcases ht with rfl | rfl | rfl <;> decide
  rw [decide_eq_false hx, cond_false, bd.yes e2, bd.yes (e_spec_NameRead t hs)]
  exact ⟨_, _, rfl, by omega, by omega, by have := (nameP_len t).1; omega⟩
theorem ev_add (b : List UInt8) (p : Int) (hb : b.length ≤ 2000) (h0 : 0 ≤ p) (h1 : p + 30 ≤ 1000000) : ∃ (e : Event) (p' : Int), (bd (p_spec_l72Known (b, p)) fun r48 => bd (p_spec_l71Row (b, r48.2)) fun r51 => some (((1, 0, 0, r48.1, r51.1) : Event), r51.2)) = some (e, p') ∧ p ≤ p' ∧ p' ≤ p + 21 ∧ e.2.2.2.1.length ≤ 1000 := by
 obtain ⟨n, q, e1, a1, a2, hn⟩ := d_l72Known b p hb h0 (by omega)
 obtain ⟨r, q2, e2, b1, b2⟩ := d_l71Row b q hb (by omega) (by omega)
 rw [bd.yes e1, bd.yes e2]
 exact ⟨_, _, rfl, by omega, by omega, hn⟩
theorem ev_flush (b : List UInt8) (p : Int) (hb : b.length ≤ 2000) (h0 : 0 ≤ p) (h1 : p + 30 ≤ 1000000) : ∃ (e : Event) (p' : Int), (bd (p_spec_l6Rd_pick (b, p) 5) fun r15 => gd (ix r15.1 ([2, 2, 2, 0, 1] : List Int).length) <| some (((2, 0, (nth ([2, 2, 2, 0, 1] : List Int) r15.1.toNat), ([]), (0, 0)) : Event), r15.2)) = some (e, p') ∧ p ≤ p' ∧ p' ≤ p + 21 ∧ e.2.2.2.1.length ≤ 1000 := by
 obtain ⟨x, e1, a1, a2⟩ := d_pick b p 5 hb h0 (by omega) (by decide)
 rw [bd.yes e1, gd.yes (show ix x ([2, 2, 2, 0, 1] : List Int).length from ⟨a1, a2 (by decide)⟩)]
 exact ⟨_, _, rfl, by omega, by omega, Nat.zero_le _⟩
theorem ev_merge (b : List UInt8) (p : Int) (n : Nat) (hn : n ≤ 1000) (hb : b.length ≤ 2000) (h0 : 0 ≤ p) (h1 : p + 30 ≤ 1000000) : ∃ (e : Event) (p' : Int), (cond (decide (1 < (n : Int))) (gd (I64 ((n : Int) - 1)) <| bd (p_spec_l6Rd_pick (b, p) ((n : Int) - 1)) fun r22 => bd (p_spec_l6Rd_pick (b, r22.2) 6) fun r27 => gd (ix r27.1 ([4, 4, 0, 1, 2, 3] : List Int).length) <| some (((3, r22.1, (nth ([4, 4, 0, 1, 2, 3] : List Int) r27.1.toNat), ([]), (0, 0)) : Event), r27.2)) (bd (p_spec_l72Known (b, p)) fun r48 => bd (p_spec_l71Row (b, r48.2)) fun r51 => some (((1, 0, 0, r48.1, r51.1) : Event), r51.2))) = some (e, p') ∧ p ≤ p' ∧ p' ≤ p + 21 ∧ e.2.2.2.1.length ≤ 1000 := by
 cases decide (1 < (n : Int)) with
 | false => exact ev_add b p hb h0 h1
 | true =>
  obtain ⟨x, e1, _, _⟩ := d_pick b p ((n : Int) - 1) hb h0 (by omega) (by omega)
  obtain ⟨y, e2, a1, a2⟩ := d_pick b (p + 1) 6 hb (by omega) (by omega) (by decide)
  rw [cond_true, gd.yes (show I64 ((n : Int) - 1) by unfold I64; omega), bd.yes e1, bd.yes e2, gd.yes (show ix y ([4, 4, 0, 1, 2, 3] : List Int).length from ⟨a1, a2 (by decide)⟩)]
  exact ⟨_, _, rfl, by omega, by omega, Nat.zero_le _⟩
theorem ev_fall (b : List UInt8) (p : Int) (hb : b.length ≤ 2000) (h0 : 0 ≤ p) (h1 : p + 40 ≤ 1000000) : ∃ (e : Event) (p' : Int), (bd (p_spec_l6Rd_pick (b, p) 4) fun r38 => cond (decide (r38.1 = 0)) (some (((4, 0, 0, ([]), (0, 0)) : Event), r38.2)) (bd (p_spec_l72Known (b, r38.2)) fun r48 => bd (p_spec_l71Row (b, r48.2)) fun r51 => some (((1, 0, 0, r48.1, r51.1) : Event), r51.2))) = some (e, p') ∧ p ≤ p' ∧ p' ≤ p + 22 ∧ e.2.2.2.1.length ≤ 1000 := by
 obtain ⟨x, e1, _, _⟩ := d_pick b p 4 hb h0 (by omega) (by decide)
 rw [bd.yes e1]
 cases decide (x = 0) with
 | true => exact ⟨_, _, rfl, by omega, by omega, Nat.zero_le _⟩
 | false =>
  obtain ⟨e, q, h, a, c, d⟩ := ev_add b (p + 1) hb (by omega) (by omega)
  rw [cond_false, h]
  exact ⟨e, q, rfl, by omega, by omega, d⟩
theorem d_l72Event (b : List UInt8) (p : Int) (w : World) (hw : w.2.2.1.length ≤ 1000) (hb : b.length ≤ 2000) (h0 : 0 ≤ p) (h1 : p + 50 ≤ 1000000) : ∃ (e : Event) (p' : Int), p_spec_l72Event (b, p) w = some (e, p') ∧ p ≤ p' ∧ p' ≤ p + 25 ∧ e.2.2.2.1.length ≤ 1000 := by
 obtain ⟨x, e1, _, _⟩ := d_pick b p 10 hb h0 (by omega) (by decide)
 have wk : ∀ {o : Option (Event × Int)}, (∃ (e : Event) (p' : Int), o = some (e, p') ∧ p + 1 ≤ p' ∧ p' ≤ p + 1 + 22 ∧ e.2.2.2.1.length ≤ 1000) → ∃ (e : Event) (p' : Int), o = some (e, p') ∧ p ≤ p' ∧ p' ≤ p + 25 ∧ e.2.2.2.1.length ≤ 1000 := fun ⟨e, q, a, c, d, f⟩ => ⟨e, q, a, by omega, by omega, f⟩
 have wk2 : ∀ {o : Option (Event × Int)}, (∃ (e : Event) (p' : Int), o = some (e, p') ∧ p + 1 ≤ p' ∧ p' ≤ p + 1 + 21 ∧ e.2.2.2.1.length ≤ 1000) → ∃ (e : Event) (p' : Int), o = some (e, p') ∧ p ≤ p' ∧ p' ≤ p + 25 ∧ e.2.2.2.1.length ≤ 1000 := fun ⟨e, q, a, c, d, f⟩ => ⟨e, q, a, by omega, by omega, f⟩
 unfold p_spec_l72Event
 rw [bd.yes e1]
 simp only
 by_cases x0 : x = 0
 ·rw [decide_eq_true x0, cond_true, cond_true]
  exact wk2 (ev_flush b (p + 1) hb (by omega) (by omega))
 ·rw [decide_eq_false x0, cond_false]
  by_cases x1 : x = 1
  ·rw [decide_eq_true x1, cond_true]
   exact wk2 (ev_flush b (p + 1) hb (by omega) (by omega))
  ·rw [decide_eq_false x1, cond_false]
   by_cases x2 : x = 2
   ·rw [decide_eq_true x2, cond_true]
    exact wk2 (ev_merge b (p + 1) w.2.2.1.length hw hb (by omega) (by omega))
   ·rw [decide_eq_false x2, cond_false]
    by_cases x3 : x = 3
    ·rw [decide_eq_true x3, cond_true]
     exact wk (ev_fall b (p + 1) hb (by omega) (by omega))
    ·rw [decide_eq_false x3, cond_false]
     exact wk2 (ev_add b (p + 1) hb (by omega) (by omega))
theorem wW_new : wW newW := by
 have hB : indexB (indexP []) = true := indexB_P (by unfold namesB; rfl)
 refine ⟨⟨?_, Nat.zero_le _, (fun _ h => nomatch h), Nat.zero_le _, (fun _ h => nomatch h)⟩, ⟨Nat.zero_le _, (fun _ h => nomatch h), Nat.zero_le _, (fun _ h => nomatch h), hB, (show (1 : Int) ≤ 1 ∧ (1 : Int) ≤ 999 by decide)⟩⟩
 rw [indexP_nil] at hB; exact hB
abbrev PlayT := Int × (List (List Tag)) × (List Post) × (List Part) × (List Sample) × (List File) × (List Int) × (List (List Tag)) × Int × (List Event) × Int
def ofP (s : PlayT) : World := (((s.2.1, s.2.2.1), s.2.2.2.1, s.2.2.2.2.1), (s.2.2.2.2.2.1, s.2.2.2.2.2.2.1, s.2.2.2.2.2.2.2.1, s.2.2.2.2.2.2.2.2.1))
theorem d_l72Play (b : List UInt8) (p : Int) (hb : b.length ≤ 2000) (h0 : 0 ≤ p) (h1 : p + 2000 ≤ 1000000) : ∃ (l : List Event) (w : World) (p' : Int), p_spec_l72Play (b, p) = some (l, w, p') ∧ wW w ∧ p ≤ p' ∧ p' ≤ p + 1500 := by
 obtain ⟨n, e1, a1, a2⟩ := d_pick b p 46 hb h0 (by omega) (by decide)
 have a2 := a2 (by decide)
 obtain ⟨x, hx, i1, i2, i3⟩ := lp.rule (body := p_spec_l72Play_b0 (b, p)) (fun s : PlayT => wW (ofP s) ∧ p ≤ s.1 ∧ s.1 ≤ p + 1 + 30 * (45 - s.2.2.2.2.2.2.2.2.2.2) ∧ s.2.2.2.2.2.2.2.2.2.2 ≤ 45 ∧ 0 ≤ s.2.2.2.2.2.2.2.2.2.2 ∧ (s.2.2.2.2.2.2.2.2.2.1.length : Int) ≤ 45 - s.2.2.2.2.2.2.2.2.2.2) (fun s => s.2.2.2.2.2.2.2.2.2.2.toNat)
  (fun x => wW (((x.1, x.2.1), x.2.2.1, x.2.2.2.1), (x.2.2.2.2.1, x.2.2.2.2.2.1, x.2.2.2.2.2.2.1, x.2.2.2.2.2.2.2.1)) ∧ p ≤ x.2.2.2.2.2.2.2.2.2 ∧ x.2.2.2.2.2.2.2.2.2 ≤ p + 1400) (fun s hI => by
   obtain ⟨j1, j2, j3, j4, j5, j6⟩ := hI
   unfold p_spec_l72Play_b0
   by_cases hz : 0 < s.2.2.2.2.2.2.2.2.2.2
   ·left
    obtain ⟨e, q, f1, f2, f3, f4⟩ := d_l72Event b s.1 (ofP s) (by have := j1.2.l6; omega) hb (by omega) (by omega)
    obtain ⟨w', g1, g2⟩ := d_l22Do j1 f4
    unfold ofP at f1 g1
    rw [decide_eq_true hz, cond_true, bd.yes f1, gd.yes (show room (s.2.2.2.2.2.2.2.2.2.1.length + 1) by unfold room; omega), bd.yes g1, gd.yes (show I64 (s.2.2.2.2.2.2.2.2.2.2 - 1) by unfold I64; omega)]
    refine ⟨_, rfl, ⟨g2, by simp only; omega, by simp only; omega, by simp only; omega, by simp only; omega, ?_⟩, by simp only; omega⟩
    simp only [List.length_append, List.length_singleton]; omega
   ·right
    rw [decide_eq_false hz, cond_false]
    exact ⟨_, rfl, j1, by simp only; omega, by simp only; omega⟩) (s := (p + 1, newW.1.1.1, newW.1.1.2, newW.1.2.1, newW.1.2.2, newW.2.1, newW.2.2.1, newW.2.2.2.1, newW.2.2.2.2, ([] : List Event), n)) ⟨wW_new, by simp only; omega, by simp only; omega, by simp only; omega, by simp only; omega, by simp only [List.length_nil]; omega⟩
 obtain ⟨w', g1, g2⟩ := d_l22Copy i1
 unfold p_spec_l72Play
 rw [bd.yes e_spec_WorldNew, bd.yes e1, bd.yes hx, bd.yes g1]
 exact ⟨_, _, _, rfl, g2, by omega, by omega⟩
structure vS (s : Store) : Prop where
 w1 : Wt.w s.1.1 ≤ 4194304
 w2 : postsW s.1.2
 nl : s.1.1.length ≤ 100
 pl : s.2.1.length ≤ 100
 ml : s.2.2.length ≤ 100
 p : ∀ p ∈ s.2.1, Dp.ok p ∧ Wt.w p ≤ 1048576
structure vD (d : Disk) : Prop where
 w : Wt.w d.2.2.1 ≤ 4194304
 fl : d.1.length ≤ 100
 ll : d.2.1.length ≤ 100
 f : ∀ f ∈ d.1, Dp.ok f.2 ∧ Wt.w f.2 ≤ 1048576
 x : 0 ≤ d.2.2.2 ∧ d.2.2.2 ≤ 1000
theorem vD_ok {d : Disk} (h : vD d) : okD d := ⟨h.w, by have := h.fl; omega, by have := h.ll; omega, h.f⟩
theorem wS_v {s : Store} (h : wS s) : vS s := ⟨(wS_ok h).w1, (wS_ok h).w2, by have := (indexB_canon h.i).2.2.1; omega, by have := h.p6; omega, by have := h.m20; omega, (wS_ok h).p⟩
theorem wD_v {d : Disk} (h : wD d) : vD d := ⟨(wD_ok h).w, by have := h.f20; omega, by have := h.l6; omega, (wD_ok h).f, by have := h.x; omega⟩
theorem wD_names {d : Disk} (h : wD d) : d.2.2.1.length ≤ 6 ∧ ∀ n ∈ d.2.2.1, smallN n := by
 have e : (indexP d.2.2.1).1 = d.2.2.1 := rfl
 have := (indexB_canon h.n).2.2.1
 rw [e] at this
 refine ⟨this, fun n hn => ?_⟩
 obtain ⟨i, hi, rfl⟩ := List.mem_iff_getElem.1 hn
 rw [← nth_eq d.2.2.1 i hi]
 exact smallN_good (good_of h.n i hi)
theorem d_l72World (b : List UInt8) (p : Int) (hb : b.length ≤ 2000) (h0 : 0 ≤ p) (h1 : p + 2000 ≤ 1000000) : ∃ (w : World) (p' : Int), p_spec_l72World (b, p) = some (w, p') ∧ vS w.1 ∧ vD w.2 ∧ p ≤ p' ∧ p' ≤ p + 1600 := by
 obtain ⟨l, w, q, e1, hw, a1, a2⟩ := d_l72Play b p hb h0 h1
 obtain ⟨x, e2, _, _⟩ := d_pick b q 40 hb (by omega) (by omega) (by decide)
 have hs := wS_v hw.1
 have hd := wD_v hw.2
 have hl := hw.2.l6
 have hm := hw.1.m20
 have hf := hw.2.f20
 unfold p_spec_l72World
 rw [bd.yes e1]
 simp only
 rw [bd.yes e2]
 simp only
 by_cases x0 : x = 0
 ·obtain ⟨y, e3, b1, b2⟩ := d_pick b (q + 1) 6 hb (by omega) (by omega) (by decide)
  have b2 := b2 (by decide)
  rw [decide_eq_true x0, cond_true, bd.yes e3, gd.yes (show I64 (1 + y) by unfold I64; omega), gd.yes (show room (w.2.2.1.length + 1) by unfold room; omega)]
  exact ⟨_, _, rfl, hs, ⟨hd.w, hd.fl, by show (w.2.2.1 ++ [1 + y]).length ≤ 100; rw [List.length_append, List.length_singleton]; omega, hd.f, hd.x⟩, by omega, by omega⟩
 rw [decide_eq_false x0, cond_false]
 by_cases x1 : x = 1
 ·obtain ⟨y, e3, b1, b2⟩ := d_pick b (q + 1) 7 hb (by omega) (by omega) (by decide)
  obtain ⟨r, q2, e4, c1, c2⟩ := d_l71Row b (q + 1 + 1) hb (by omega) (by omega)
  have b2 := b2 (by decide)
  rw [decide_eq_true x1, cond_true, bd.yes e3, gd.yes (show I64 (1 + y) by unfold I64; omega), bd.yes e4, gd.yes (show room (w.1.2.2.length + 1) by unfold room; omega)]
  exact ⟨_, _, rfl, ⟨hs.w1, hs.w2, hs.nl, hs.pl, by show (w.1.2.2 ++ [(1 + y, r)]).length ≤ 100; rw [List.length_append, List.length_singleton]; omega, hs.p⟩, hd, by omega, by omega⟩
 rw [decide_eq_false x1, cond_false]
 by_cases x2 : x = 2
 ·rw [decide_eq_true x2, cond_true]
  by_cases hz : (0 : Int) < (w.2.1.length : Int)
  ·rw [decide_eq_true hz, cond_true, gd.yes (show sl2 1 (w.2.1.length : Int) w.2.1.length by unfold sl2; omega)]
   exact ⟨_, _, rfl, hs, ⟨hd.w, by show ((w.2.1.take _).drop 1).length ≤ 100; rw [List.length_drop, List.length_take]; omega, hd.ll, fun f hf => hd.f f (List.mem_of_mem_take (List.mem_of_mem_drop hf)), hd.x⟩, by omega, by omega⟩
  ·rw [decide_eq_false hz, cond_false]
   exact ⟨_, _, rfl, hs, hd, by omega, by omega⟩
 rw [decide_eq_false x2, cond_false]
 by_cases x3 : x = 3
 ·obtain ⟨n, q2, e3, c1, c2, hn⟩ := d_l71Name b (q + 1) hb (by omega) (by omega)
  obtain ⟨n1, n2⟩ := wD_names hw.2
  rw [decide_eq_true x3, cond_true, bd.yes e3, gd.yes (show room (w.2.2.2.1.length + 1) by unfold room; omega)]
  exact ⟨_, _, rfl, hs, ⟨smallNs_w (names := w.2.2.2.1 ++ [n]) (by rw [List.length_append, List.length_singleton]; omega) (fun m hm => by
   rcases List.mem_append.1 hm with hm | hm
   ·exact n2 m hm
   ·rw [List.mem_singleton.1 hm]; exact hn), hd.fl, hd.ll, hd.f, hd.x⟩, by omega, by omega⟩
 ·rw [decide_eq_false x3, cond_false]
  exact ⟨_, _, rfl, hs, hd, by omega, by omega⟩
theorem d_DrawDiskOk (c : List UInt8) : ∃ d, p_spec_DrawDiskOk c = some d ∧ okD d ∧ d.1.length ≤ 101 ∧ d.2.1.length ≤ 101 := by
 obtain ⟨b, e0, hb⟩ := d_l6Open c
 obtain ⟨w, q, e1, _, hd, a1, a2⟩ := d_l72World b 0 hb (by decide) (by decide)
 obtain ⟨x, e2, _, _⟩ := d_pick b q 8 hb (by omega) (by omega) (by decide)
 have hl := hd.ll
 have hf := hd.fl
 have hx := hd.x
 unfold p_spec_DrawDiskOk
 rw [bd.yes e0, bd.yes e1]
 simp only
 rw [bd.yes e2]
 simp only
 by_cases x0 : x = 0
 ·obtain ⟨y, e3, _, _⟩ := d_pick b (q + 1) 9 hb (by omega) (by omega) (by decide)
  rw [decide_eq_true x0, cond_true, bd.yes e3, gd.yes (show room (w.2.2.1.length + 1) by unfold room; omega)]
  have h1 : (w.2.2.1 ++ [y]).length ≤ 101 := by rw [List.length_append, List.length_singleton]; omega
  exact ⟨_, rfl, ⟨hd.w, (vD_ok hd).fl, by show (w.2.2.1 ++ [y]).length ≤ _; omega, hd.f⟩, by show w.2.1.length ≤ _; omega, h1⟩
 rw [decide_eq_false x0, cond_false]
 by_cases x1 : x = 1
 ·obtain ⟨y, e3, _, _⟩ := d_pick b (q + 1) 4 hb (by omega) (by omega) (by decide)
  rw [decide_eq_true x1, cond_true, bd.yes e3]
  exact ⟨_, rfl, ⟨hd.w, (vD_ok hd).fl, (vD_ok hd).ll, hd.f⟩, by show w.2.1.length ≤ _; omega, by show w.2.2.1.length ≤ _; omega⟩
 rw [decide_eq_false x1, cond_false]
 by_cases x2 : x = 2
 ·obtain ⟨y, e3, c1, c2⟩ := d_pick b (q + 1) 2 hb (by omega) (by omega) (by decide)
  have c2 := c2 (by decide)
  obtain ⟨r, q2, e4, _, _, r1, r2, r3⟩ := d_l72Part b (q + 1 + 1) hb (by omega) (by omega)
  have hsm : small r := ⟨by omega, by omega, r3⟩
  rw [decide_eq_true x2, cond_true, bd.yes e3, gd.yes (show I64 (w.2.2.2.2 - y) by unfold I64; omega), bd.yes e4, gd.yes (show room (w.2.1.length + 1) by unfold room; omega)]
  have h1 : (w.2.1 ++ [(w.2.2.2.2 - y, r)]).length ≤ 101 := by rw [List.length_append, List.length_singleton]; omega
  exact ⟨_, rfl, ⟨hd.w, by show (w.2.1 ++ [(w.2.2.2.2 - y, r)]).length ≤ _; omega, (vD_ok hd).ll, fun f hf => by
   rcases List.mem_append.1 hf with hf | hf
   ·exact hd.f f hf
   ·rw [List.mem_singleton.1 hf]; exact ⟨small_ok hsm, small_w hsm⟩⟩, h1, by show w.2.2.1.length ≤ _; omega⟩
 ·rw [decide_eq_false x2, cond_false]
  exact ⟨_, rfl, vD_ok hd, by omega, by omega⟩
theorem storeB_empty : storeB ((([] : List (List Tag)), ([] : List Post)), ([] : List Part), ([] : List Sample)) = true := by
 have hB : indexB (indexP []) = true := indexB_P (by unfold namesB; rfl)
 rw [indexP_nil] at hB
 unfold storeB
 rw [show ((((([] : List (List Tag)), ([] : List Post)), ([] : List Part), ([] : List Sample)) : Store).1) = ((([], []) : Index)) from rfl, hB]
 rfl
theorem files_asc {d : Disk} (h : allN d.1.length (fileBad d) = true) : ∀ j i, i < j → j < d.1.length → (nth d.1 i).1 < (nth d.1 j).1
 | 0, _, h0, _ => absurd h0 (Nat.not_lt_zero _)
 | j + 1, i, h1, h2 => by
  have hf := allN_iff.1 h (j + 1) h2
  unfold fileBad at hf
  simp only [Bool.or_eq_false_iff, Bool.and_eq_false_iff, decide_eq_false_iff_not, Nat.add_sub_cancel] at hf
  have hlt : (nth d.1 j).1 < (nth d.1 (j + 1)).1 := by
   rcases hf.2.1 with h3 | h3
   ·omega
   ·omega
  by_cases e : i = j
  ·rw [e]; exact hlt
  ·have := files_asc h j i (by omega) (by omega)
   omega
theorem files_rng {d : Disk} (h : allN d.1.length (fileBad d) = true) {i : Nat} (hi : i < d.1.length) : (nth d.1 i).1 < d.2.2.2 := by
 have hf := allN_iff.1 h i hi
 unfold fileBad inn at hf
 simp only [Bool.or_eq_false_iff, Bool.not_eq_false', Bool.and_eq_true, decide_eq_true_eq] at hf
 have := hf.1.2
 omega
theorem diskB_next {d : Disk} (h : diskB (d.1, d.2.1 ++ [d.2.2.2], d.2.2.1, d.2.2.2) = true) : False := by
 obtain ⟨_, _, _, hf, hl, _⟩ := diskB_parts h
 have hf : allN d.1.length (fileBad d) = true := hf
 have h0 := listBad_at hl d.2.1.length (by show d.2.1.length < (d.2.1 ++ [d.2.2.2]).length; simp)
 have e : nth (d.2.1 ++ [d.2.2.2]) d.2.1.length = d.2.2.2 := by rw [nth_eq _ _ (by simp)]; simp
 have h1 : 0 ≤ atF d (nth (d.2.1 ++ [d.2.2.2]) d.2.1.length) := h0
 rw [e] at h1
 rcases atF_lt (d := d) (num := d.2.2.2) with h2 | ⟨k, hk, h2⟩
 ·omega
 ·have h3 := place_nth (l := nums d) h2
  rw [nums_nth d hk] at h3
  have := files_rng hf hk
  omega
theorem diskB_twice {d : Disk} (h0 : 0 < d.2.1.length) (h : diskB (d.1, d.2.1 ++ [nth d.2.1 0], d.2.2.1, d.2.2.2) = true) : False := by
 obtain ⟨_, _, _, _, hl, _⟩ := diskB_parts h
 have h1 := allN_iff.1 hl d.2.1.length (by show d.2.1.length < (d.2.1 ++ [nth d.2.1 0]).length; simp)
 unfold listBad at h1
 simp only [Bool.or_eq_false_iff, Bool.not_eq_false'] at h1
 have h2 := allN_iff.1 h1.2 0 h0
 have e1 : nth (d.2.1 ++ [nth d.2.1 0]) d.2.1.length = nth d.2.1 0 := by rw [nth_eq _ _ (by simp)]; simp
 have e2 : nth (d.2.1 ++ [nth d.2.1 0]) 0 = nth d.2.1 0 := by rw [nth_eq _ 0 (by simp), List.getElem_append_left h0, ← nth_eq _ 0 h0]
 rw [e1, e2] at h2
 simp at h2
theorem diskB_new : diskB disk0 = true := by
 have e : openS disk0 = ((([] : List (List Tag)), ([] : List Post)), ([] : List Part), ([] : List Sample)) := by
  unfold openS
  rw [show disk0.2.2.1 = ([] : List (List Tag)) from rfl, indexP_nil]; rfl
 unfold diskB
 rw [e, storeB_empty]
 rfl
theorem okD_new : okD disk0 := ⟨Nat.zero_le _, Nat.zero_le _, Nat.zero_le _, fun _ h => nomatch h⟩
theorem e_FnDiskForm (c : List UInt8) (_ : Dp.ok c) : p_laws_FnDiskForm c = some true := by
 unfold p_laws_FnDiskForm
 by_cases hc : (1048576 : Int) < (c.length : Int)
 ·rw [decide_eq_true hc]; rfl
 ·obtain ⟨d, e, hd, hf101, hl101⟩ := d_DrawDiskOk c
  rw [decide_eq_false hc, cond_false, bd.yes e, bd.yes (e_impl_DiskOk d hd), bd.yes (e_spec_DiskOk d hd), decide_eq_true rfl, Bool.not_true, cond_false, bd_some]
  cases hb : diskB d with
  | false => rw [Bool.not_false, cond_true, bd.yes (e_spec_DiskOk d hd), hb]; rfl
  | true =>
   obtain ⟨_, h20, h6, hf, hl, _⟩ := diskB_parts hb
   have cnt : ∀ k, k < d.2.1.length → lp (p_laws_FnDiskForm_b1 d (k : Int)) (0, 0) = some 1 := fun k hk => by
    rcases atF_lt (d := d) (num := nth d.2.1 k) with h0 | ⟨j, hj, ej⟩
    ·have := listBad_at hl k hk; omega
    ·have hn := place_nth (l := nums d) ej
     rw [nums_nth d hj] at hn
     have := lp_for (body := p_laws_FnDiskForm_b1 d (k : Int)) (fun i => ((if j < i then 1 else 0 : Int), (i : Int))) d.1.length (1 : Int) (fun i hi => by
      unfold p_laws_FnDiskForm_b1
      rw [dlt hi, cond_true, gd.yes (ixN hi), gd.yes (ixN hk)]
      simp only [Int.toNat_natCast]
      rw [gd.yes (show I64 ((i : Int) + 1) by unfold I64; omega), addI]
      by_cases hij : i = j
      ·subst hij
       rw [decide_eq_true hn, cond_true, if_neg (Nat.lt_irrefl i), if_pos (Nat.lt_succ_self i), gd.yes (show I64 ((0 : Int) + 1) by unfold I64; omega)]
       rfl
      ·have hne : ¬ (nth d.1 i).1 = nth d.2.1 k := fun e => by
        rcases Nat.lt_or_gt_of_ne hij with hlt | hgt
        ·have := files_asc hf j i hlt hj; omega
        ·have := files_asc hf i j hgt hi; omega
       rw [decide_eq_false hne, cond_false]
       by_cases hji : j < i
       ·rw [if_pos hji, if_pos (Nat.lt_succ_of_lt hji), gd.yes (show I64 ((i + 1 : Nat) : Int) by unfold I64; omega)]
       ·rw [if_neg hji, if_neg (by omega), gd.yes (show I64 ((i + 1 : Nat) : Int) by unfold I64; omega)]) (by
      unfold p_laws_FnDiskForm_b1
      rw [decide_eq_false (show ¬ ((d.1.length : Int) < (d.1.length : Int)) by omega), cond_false, if_pos hj])
     rw [if_neg (Nat.not_lt_zero j)] at this
     exact this
   have key : lp (p_laws_FnDiskForm_b0 d) 0 = some (.inl ()) := lp_for (body := p_laws_FnDiskForm_b0 d) (fun k => (k : Int)) d.2.1.length (.inl ()) (fun k hk => by
    unfold p_laws_FnDiskForm_b0
    rw [dlt hk, cond_true, bd.yes (cnt k hk), decide_eq_true rfl, Bool.not_true, cond_false, gd.yes (show I64 ((k : Int) + 1) by unfold I64; omega), addI]) (by
    unfold p_laws_FnDiskForm_b0; rw [decide_eq_false (show ¬ ((d.2.1.length : Int) < (d.2.1.length : Int)) by omega)]; rfl)
   have ok2 : ∀ n : Int, okD (d.1, d.2.1 ++ [n], d.2.2.1, d.2.2.2) := fun n => ⟨hd.w, hd.fl, by show (d.2.1 ++ [n]).length ≤ _; rw [List.length_append, List.length_singleton]; omega, hd.f⟩
   have eN : p_impl_DiskNew = some disk0 := rfl
   have bx : diskB (d.1, d.2.1 ++ [d.2.2.2], d.2.2.1, d.2.2.2) = false := by
    cases h : diskB (d.1, d.2.1 ++ [d.2.2.2], d.2.2.1, d.2.2.2) with
    | false => rfl
    | true => exact (diskB_next h).elim
   rw [Bool.not_true, cond_false, key, bd_swl, gd.yes (show room (([] : List Int).length + d.2.1.length) by rw [List.length_nil]; unfold room; omega), List.nil_append, gd.yes (show room (d.2.1.length + 1) by unfold room; omega)]
   by_cases h0 : 0 < d.2.1.length
   ·have bt : diskB (d.1, d.2.1 ++ [nth d.2.1 0], d.2.2.1, d.2.2.2) = false := by
     cases h : diskB (d.1, d.2.1 ++ [nth d.2.1 0], d.2.2.1, d.2.2.2) with
     | false => rfl
     | true => exact (diskB_twice h0 h).elim
    rw [decide_eq_true (show (0 : Int) < (d.2.1.length : Int) by omega), cond_true, gd.yes (show ix 0 d.2.1.length by unfold ix; omega), bd.yes (e_impl_DiskOk _ (ok2 _)), bx, Bool.not_false, cond_true, decide_eq_false (show ¬ (d.2.1.length : Int) = 0 by omega), cond_false, bd.yes (e_impl_DiskOk _ (ok2 _)), bt, Bool.not_false, cond_true, bd.yes eN, bd.yes (e_impl_DiskOk _ okD_new), diskB_new]
   ·rw [decide_eq_false (show ¬ (0 : Int) < (d.2.1.length : Int) by omega), cond_false, bd.yes (e_impl_DiskOk _ (ok2 _)), bx, Bool.not_false, cond_true, decide_eq_true (show (d.2.1.length : Int) = 0 by omega), cond_true, bd.yes eN, bd.yes (e_impl_DiskOk _ okD_new), diskB_new]
end Go.Proofs.YtlkcnfjdhkoelaaGreat
