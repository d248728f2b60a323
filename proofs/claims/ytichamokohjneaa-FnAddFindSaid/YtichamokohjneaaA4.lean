/- The walks and the plain laws, part 4: each function that the law reaches computes what its plain function tells, and what the plain functions answer. Conditions: lengths that memory can hold. -/
import Derived.Test.YtichamokohjneaaA3
namespace Go.Proofs.Ytichamokohjneaa
open Go Go.Sx
theorem e_scanS (b : Nat) (d : Array PostH) (hb : b ≤ d.size) (hs : d.size ≤ 1073741824) (s : (List PostH) × Int × Int) (h1 : s.1 = d.toList) : ∀ (n i : Nat), b - i ≤ n → 1 ≤ i → i ≤ b →
  lp (p_partialInsertionSortH_b1 (b : Int) s) (i : Int) = some ((Sort.scanSorted ltP d b i : Nat) : Int)
 | n, i, hn, h0, hi => by
  rw [Sort.scanSorted]
  by_cases h : i < b
  ·cases n with
   | zero => omega
   | succ n =>
    have e1 : decide ((i : Int) < (b : Int)) = true := decide_eq_true (by omega)
    have c : (i : Int) - 1 = ((i - 1 : Nat) : Int) := by omega
    have step : p_partialInsertionSortH_b1 (b : Int) s (i : Int) = cond (!ltP d[i]! d[i - 1]!) (some (.inl ((i + 1 : Nat) : Int))) (some (.inr (i : Int))) := by
     unfold p_partialInsertionSortH_b1
     rw [h1]
     simp (disch := first | (unfold I64; omega) | (unfold ix; (try simp only [List.length_set, lenA]); omega)) only [e1, cond_true, c, gd_true, natI, nthA, e_cmpH, bd_some, ltN, addI]
    cases hl : ltP d[i]! d[i - 1]! with
    | false =>
     rw [lp.step (by rw [step, hl]; rfl), if_pos (by simp [h])]
     exact e_scanS b d hb hs s h1 n (i + 1) (by omega) (by omega) (by omega)
    | true => rw [lp.stop (by rw [step, hl]; rfl), if_neg (by simp)]
  ·rw [lp.stop (e := (i : Int)) (by unfold p_partialInsertionSortH_b1; rw [decide_eq_false (show ¬ ((i : Int) < (b : Int)) by omega)]; rfl), if_neg (by simp [h])]
theorem sz_shD : ∀ (j : Nat) (d : Array PostH), (Sort.shiftDown ltP j d).size = d.size
 | 0, d => rfl
 | j + 1, d => by
  unfold Sort.shiftDown
  split
  ·rfl
  ·rw [sz_shD j, Sort.swp_size]
theorem sz_shU (b : Nat) : ∀ (n j : Nat) (d : Array PostH), b - j ≤ n → (Sort.shiftUp ltP b j d).size = d.size
 | n, j, d, hn => by
  rw [Sort.shiftUp]
  split
  ·split
   ·rfl
   ·cases n with
    | zero => omega
    | succ n => rw [sz_shU b n _ _ (by omega), Sort.swp_size]
  ·rfl
theorem e_shD : ∀ (j : Nat) (d : Array PostH), j < d.size → d.size ≤ 1073741824 → lp p_partialInsertionSortH_b2 (d.toList, (j : Int)) = some (Sort.shiftDown ltP j d).toList
 | 0, d, hj, hs => lp.stop (by unfold p_partialInsertionSortH_b2; rw [decide_eq_false (show ¬ ((1 : Int) ≤ ((0 : Nat) : Int)) by omega)]; rfl)
 | j + 1, d, hj, hs => by
  have e1 : decide ((1 : Int) ≤ ((j + 1 : Nat) : Int)) = true := decide_eq_true (by omega)
  have step : p_partialInsertionSortH_b2 (d.toList, ((j + 1 : Nat) : Int)) = cond (!ltP d[j + 1]! d[j]!) (some (.inr d.toList)) (some (.inl ((Sort.swp d (j + 1) j).toList, (j : Int)))) := by
   unfold p_partialInsertionSortH_b2
   simp (disch := first | (unfold I64; omega) | (unfold ix; (try simp only [List.length_set, lenA]); omega)) only [e1, cond_true, gd_true, subI, natI, nthA, e_cmpH, bd_some, ltN, swpA']
  unfold Sort.shiftDown
  cases hl : ltP d[j + 1]! d[j]! with
  | false => rw [lp.stop (by rw [step, hl]; rfl)]; rfl
  | true =>
   rw [lp.step (by rw [step, hl]; rfl), e_shD j _ (by rw [Sort.swp_size]; omega) (by rw [Sort.swp_size]; exact hs)]; rfl
theorem e_shU (b : Nat) : ∀ (n j : Nat) (d : Array PostH), b - j ≤ n → 1 ≤ j → b ≤ d.size → d.size ≤ 1073741824 → lp (p_partialInsertionSortH_b3 (b : Int)) (d.toList, (j : Int)) = some (Sort.shiftUp ltP b j d).toList
 | n, j, d, hn, h0, hb, hs => by
  rw [Sort.shiftUp]
  by_cases h : j < b
  ·cases n with
   | zero => omega
   | succ n =>
    have e1 : decide ((j : Int) < (b : Int)) = true := decide_eq_true (by omega)
    have c : (j : Int) - 1 = ((j - 1 : Nat) : Int) := by omega
    have step : p_partialInsertionSortH_b3 (b : Int) (d.toList, (j : Int)) = cond (!ltP d[j]! d[j - 1]!) (some (.inr d.toList)) (some (.inl ((Sort.swp d j (j - 1)).toList, ((j + 1 : Nat) : Int)))) := by
     unfold p_partialInsertionSortH_b3
     simp (disch := first | (unfold I64; omega) | (unfold ix; (try simp only [List.length_set, lenA]); omega)) only [e1, cond_true, c, gd_true, natI, nthA, e_cmpH, bd_some, ltN, swpA', addI]
    rw [if_pos h]
    cases hl : ltP d[j]! d[j - 1]! with
    | false => rw [lp.stop (by rw [step, hl]; rfl)]; rfl
    | true =>
     rw [lp.step (by rw [step, hl]; rfl), e_shU b n (j + 1) _ (by omega) (by omega) (by rw [Sort.swp_size]; exact hb) (by rw [Sort.swp_size]; exact hs)]; rfl
  ·rw [if_neg h, lp.stop (e := d.toList) (by unfold p_partialInsertionSortH_b3; rw [decide_eq_false (show ¬ ((j : Int) < (b : Int)) by omega)]; rfl)]
theorem e_parI (a b : Nat) : ∀ (s i : Nat) (d : Array PostH), s ≤ 5 → a < i → i ≤ b → b ≤ d.size → d.size ≤ 1073741824 →
  bd (lp (p_partialInsertionSortH_b0 (a : Int) (b : Int)) (d.toList, (i : Int), 5 - (s : Int))) (sw (fun e => some (false, e)) (fun q => some q)) = some ((Sort.partialIns ltP a b s i d).2, (Sort.partialIns ltP a b s i d).1.toList)
 | 0, i, d, hs5, hai, hib, hb, hs => by
  rw [lp.stop (e := .inl d.toList) (by unfold p_partialInsertionSortH_b0; rw [decide_eq_false (show ¬ ((5 : Int) - ((0 : Nat) : Int) < 5) by omega)]; rfl)]
  rfl
 | s + 1, i, d, hs5, hai, hib, hb, hs => by
  have e1 : decide ((5 : Int) - ((s + 1 : Nat) : Int) < 5) = true := decide_eq_true (by omega)
  have hu := e_scanS b d hb hs (d.toList, (i : Int), (5 : Int) - ((s + 1 : Nat) : Int)) rfl _ i (Nat.le_refl _) (by omega) hib
  have gu : i ≤ Sort.scanSorted ltP d b i ∧ Sort.scanSorted ltP d b i ≤ b := by
   clear hu
   have : ∀ (n i : Nat), b - i ≤ n → i ≤ b → i ≤ Sort.scanSorted ltP d b i ∧ Sort.scanSorted ltP d b i ≤ b := by
    intro n
    induction n with
    | zero => intro i hn hi; rw [Sort.scanSorted, if_neg (by simp; omega)]; exact ⟨Nat.le_refl _, hi⟩
    | succ n ih =>
     intro i hn hi
     rw [Sort.scanSorted]
     split
     ·rename_i h; simp only [Bool.and_eq_true, decide_eq_true_eq] at h
      have := ih (i + 1) (by omega) (by omega); omega
     ·exact ⟨Nat.le_refl _, hi⟩
   exact this _ i (Nat.le_refl _) hib
  rw [Sort.partialIns_succ]
  generalize hI : Sort.scanSorted ltP d b i = i2 at *
  by_cases hE : i2 = b
  ·rw [lp.stop (e := .inr (true, d.toList)) (by
    unfold p_partialInsertionSortH_b0
    simp only [e1, cond_true, hu, bd_some]
    rw [decide_eq_true (show ((i2 : Int) = (b : Int)) by omega)]; rfl)]
   simp [hE, bd, sw]
  ·by_cases hL : b - a < 50
   ·rw [lp.stop (e := .inr (false, d.toList)) (by
     unfold p_partialInsertionSortH_b0
     simp only [e1, cond_true, hu, bd_some]
     rw [decide_eq_false (show ¬ ((i2 : Int) = (b : Int)) by omega), gd.yes (by unfold I64; omega), decide_eq_true (show ((b : Int) - (a : Int) < 50) by omega)]; rfl)]
    simp [hE, hL, bd, sw]
   ·have c : (i2 : Int) - 1 = ((i2 - 1 : Nat) : Int) := by omega
    have c2 : (i2 : Int) - (a : Int) = ((i2 - a : Nat) : Int) := by omega
    have c3 : (b : Int) - (i2 : Int) = ((b - i2 : Nat) : Int) := by omega
    have c4 : (5 : Int) - ((s + 1 : Nat) : Int) + 1 = 5 - (s : Int) := by omega
    have hz : (Sort.swp d i2 (i2 - 1)).size = d.size := Sort.swp_size _ _ _
    rw [if_neg hE, if_neg hL]
    generalize hD : Sort.swp d i2 (i2 - 1) = d1 at *
    have hz2 : ((if i2 - a ≥ 2 then Sort.shiftDown ltP (i2 - 1) d1 else d1)).size = d.size := by split <;> simp only [sz_shD, hz]
    have step : p_partialInsertionSortH_b0 (a : Int) (b : Int) (d.toList, (i : Int), 5 - ((s + 1 : Nat) : Int)) =
      some (.inl ((if b - i2 ≥ 2 then Sort.shiftUp ltP b (i2 + 1) (if i2 - a ≥ 2 then Sort.shiftDown ltP (i2 - 1) d1 else d1) else (if i2 - a ≥ 2 then Sort.shiftDown ltP (i2 - 1) d1 else d1)).toList, (i2 : Int), 5 - (s : Int))) := by
     unfold p_partialInsertionSortH_b0
     simp only [e1, cond_true, hu, bd_some]
     rw [decide_eq_false (show ¬ ((i2 : Int) = (b : Int)) by omega), gd.yes (by unfold I64; omega), decide_eq_false (show ¬ ((b : Int) - (a : Int) < 50) by omega)]
     simp (disch := first | (unfold I64; omega) | (unfold ix; (try simp only [List.length_set, lenA]); omega)) only [cond_false, c, c2, gd_true, natI, nthA, swpA', hD]
     have hsd := e_shD (i2 - 1) d1 (by omega) (by omega)
     have j1 : (cond (decide ((2 : Int) ≤ ((i2 - a : Nat) : Int))) (bd (lp p_partialInsertionSortH_b2 (d1.toList, ((i2 - 1 : Nat) : Int))) fun x52 => some x52) (some d1.toList)) = some (if i2 - a ≥ 2 then Sort.shiftDown ltP (i2 - 1) d1 else d1).toList := by
      by_cases hq : i2 - a ≥ 2
      ·rw [decide_eq_true (show ((2 : Int) ≤ ((i2 - a : Nat) : Int)) by omega), if_pos hq, cond_true, hsd]; rfl
      ·rw [decide_eq_false (show ¬ ((2 : Int) ≤ ((i2 - a : Nat) : Int)) by omega), if_neg hq]; rfl
     rw [j1]
     generalize (if i2 - a ≥ 2 then Sort.shiftDown ltP (i2 - 1) d1 else d1) = d2 at *
     simp (disch := first | (unfold I64; omega) | (unfold ix; (try simp only [List.length_set, lenA]); omega)) only [bd_some, c3]
     by_cases hq : b - i2 ≥ 2
     ·rw [decide_eq_true (show ((2 : Int) ≤ ((b - i2 : Nat) : Int)) by omega), if_pos hq]
      simp (disch := first | (unfold I64; omega)) only [cond_true, addI, e_shU b _ (i2 + 1) d2 (Nat.le_refl _) (by omega) (by omega) (by omega), bd_some, c4]
     ·rw [decide_eq_false (show ¬ ((2 : Int) ≤ ((b - i2 : Nat) : Int)) by omega), if_neg hq]
      simp (disch := first | (unfold I64; omega)) only [cond_false, c4]
    rw [lp.step step]
    exact e_parI a b s i2 _ (by omega) (by omega) (by omega) (by split <;> simp only [sz_shU b _ _ _ (Nat.le_refl _), hz2] <;> exact hb) (by split <;> simp only [sz_shU b _ _ _ (Nat.le_refl _), hz2] <;> exact hs)
theorem e_par (a b : Nat) (d : Array PostH) (ha : a < b) (hb : b ≤ d.size) (hs : d.size ≤ 1073741824) :
  p_partialInsertionSortH d.toList (a : Int) (b : Int) = some ((Sort.partialInsertionSort ltP d a b).2, (Sort.partialInsertionSort ltP d a b).1.toList) := by
 unfold p_partialInsertionSortH
 rw [gd.yes (by unfold I64; omega), addI]
 exact e_parI a b 5 (a + 1) d (by omega) (by omega) (by omega) hb hs
theorem e_ord (d : Array PostH) (x y s : Nat) (hx : x < d.size) (hy : y < d.size) (hs : s ≤ 1000) :
  ∃ u v t : Nat, p_order2H d.toList (x : Int) (y : Int) (s : Int) = some ((u : Int), (v : Int), (t : Int)) ∧ (u = x ∧ v = y ∨ u = y ∧ v = x) ∧ t ≤ s + 1 := by
 unfold p_order2H
 simp (disch := first | (unfold I64; omega) | (unfold ix; (try simp only [List.length_set, lenA]); omega)) only [gd_true, natI, nthA, e_cmpH, bd_some, cmH_lt, addI]
 cases ltP d[y]! d[x]! with
 | true => exact ⟨y, x, s + 1, rfl, .inr ⟨rfl, rfl⟩, Nat.le_refl _⟩
 | false => exact ⟨x, y, s, rfl, .inl ⟨rfl, rfl⟩, Nat.le_succ _⟩
theorem e_med (d : Array PostH) (x y z s : Nat) (hx : x < d.size) (hy : y < d.size) (hz : z < d.size) (hs : s ≤ 900) :
  ∃ u t : Nat, p_medianH d.toList (x : Int) (y : Int) (z : Int) (s : Int) = some ((u : Int), (t : Int)) ∧ (u = x ∨ u = y ∨ u = z) ∧ t ≤ s + 3 := by
 unfold p_medianH
 obtain ⟨u1, v1, t1, e1, k1, l1⟩ := e_ord d x y s hx hy (by omega)
 obtain ⟨u2, v2, t2, e2, k2, l2⟩ := e_ord d v1 z t1 (by omega) hz (by omega)
 obtain ⟨u3, v3, t3, e3, k3, l3⟩ := e_ord d u1 u2 t2 (by omega) (by omega) (by omega)
 simp only [e1, bd_some, e2, e3]
 exact ⟨v3, t3, rfl, by omega, by omega⟩
theorem e_adj (d : Array PostH) (x s : Nat) (hx : x + 1 < d.size) (h0 : 1 ≤ x) (hs : s ≤ 900) (hb : d.size ≤ 1073741824) :
  ∃ u t : Nat, p_medianAdjacentH d.toList (x : Int) (s : Int) = some ((u : Int), (t : Int)) ∧ (u = x - 1 ∨ u = x ∨ u = x + 1) ∧ t ≤ s + 3 := by
 unfold p_medianAdjacentH
 have c : (x : Int) - 1 = ((x - 1 : Nat) : Int) := by omega
 obtain ⟨u, t, e, k, l⟩ := e_med d (x - 1) x (x + 1) s (by omega) (by omega) hx hs
 simp (disch := first | (unfold I64; omega)) only [gd_true, c, addI, e, bd_some]
 exact ⟨u, t, rfl, k, l⟩
theorem e_piv (a b : Nat) (d : Array PostH) (ha : a < b) (hb : b ≤ d.size) (hs : d.size ≤ 1073741824) :
  ∃ (p : Nat) (h : Int), p_choosePivotH d.toList (a : Int) (b : Int) = some ((p : Int), h) ∧ a ≤ p ∧ p < b := by
 unfold p_choosePivotH
 have c0 : (b : Int) - (a : Int) = ((b - a : Nat) : Int) := by omega
 have c1 : (((b - a : Nat) : Int)).tdiv 4 = (((b - a) / 4 : Nat) : Int) := (Int.ofNat_tdiv (b - a) 4).symm
 have hq : (b - a) / 4 * 4 ≤ b - a := Nat.div_mul_le_self _ _
 have hq2 : b - a < (b - a) / 4 * 4 + 4 := by omega
 simp only [c0, c1]
 generalize (b - a) / 4 = q at *
 have f1 : (a : Int) + (q : Int) * 1 = ((a + q : Nat) : Int) := by omega
 have f2 : (a : Int) + (q : Int) * 2 = ((a + q * 2 : Nat) : Int) := by omega
 have f3 : (a : Int) + (q : Int) * 3 = ((a + q * 3 : Nat) : Int) := by omega
 simp (disch := first | (unfold I64; omega)) only [gd_true, f1, f2, f3]
 have key : ∃ (s p : Nat), (cond (decide (8 ≤ ((b - a : Nat) : Int))) (bd (cond (decide (50 ≤ ((b - a : Nat) : Int))) (bd (p_medianAdjacentH d.toList ((a + q : Nat) : Int) 0) fun r18 => bd (p_medianAdjacentH d.toList ((a + q * 2 : Nat) : Int) r18.2) fun r21 => bd (p_medianAdjacentH d.toList ((a + q * 3 : Nat) : Int) r21.2) fun r24 => some (r24.2, r18.1, r21.1, r24.1)) (some (0, ((a + q : Nat) : Int), ((a + q * 2 : Nat) : Int), ((a + q * 3 : Nat) : Int)))) fun x15 => bd (p_medianH d.toList x15.2.1 x15.2.2.1 x15.2.2.2 x15.1) fun r27 => some (r27.2, r27.1)) (some (0, ((a + q * 2 : Nat) : Int)))) = some ((s : Int), (p : Int)) ∧ a ≤ p ∧ p < b := by
  by_cases h8 : 8 ≤ b - a
  ·rw [decide_eq_true (show (8 : Int) ≤ ((b - a : Nat) : Int) by omega), cond_true]
   by_cases h50 : 50 ≤ b - a
   ·rw [decide_eq_true (show (50 : Int) ≤ ((b - a : Nat) : Int) by omega), cond_true]
    obtain ⟨u1, t1, e1, k1, l1⟩ := e_adj d (a + q) 0 (by omega) (by omega) (by omega) hs
    obtain ⟨u2, t2, e2, k2, l2⟩ := e_adj d (a + q * 2) t1 (by omega) (by omega) (by omega) hs
    obtain ⟨u3, t3, e3, k3, l3⟩ := e_adj d (a + q * 3) t2 (by omega) (by omega) (by omega) hs
    obtain ⟨u4, t4, e4, k4, l4⟩ := e_med d u1 u2 u3 t3 (by omega) (by omega) (by omega) (by omega)
    rw [show ((0 : Nat) : Int) = 0 from rfl] at e1
    simp only [e1, bd_some, e2, e3, e4]
    exact ⟨t4, u4, rfl, by omega, by omega⟩
   ·rw [decide_eq_false (show ¬ (50 : Int) ≤ ((b - a : Nat) : Int) by omega), cond_false]
    obtain ⟨u4, t4, e4, k4, l4⟩ := e_med d (a + q) (a + q * 2) (a + q * 3) 0 (by omega) (by omega) (by omega) (by omega)
    rw [show ((0 : Nat) : Int) = 0 from rfl] at e4
    simp only [bd_some, e4]
    exact ⟨t4, u4, rfl, by omega, by omega⟩
  ·rw [decide_eq_false (show ¬ (8 : Int) ≤ ((b - a : Nat) : Int) by omega), cond_false]
   exact ⟨0, a + q * 2, rfl, by omega, by omega⟩
 obtain ⟨s, p, e, k1, k2⟩ := key
 rw [e]
 simp only [bd_some]
 cases decide ((s : Int) = 0) <;> cases decide ((s : Int) = 12) <;> exact ⟨p, _, rfl, k1, k2⟩
theorem tab256 : ∀ k : Fin 256, (sb kstr_307d5e k.val).toNat = Sort.bitsLen k.val := by decide +kernel
theorem sz_k : kstr_307d5e.size = 256 := by decide +kernel
theorem w64N (n : Nat) (h : n < 18446744073709551616) : (w64 (n : Int)).toNat = n := by
 have := w64_wrap (n : Int)
 have h2 : IntKind.u64.wrap (n : Int) = (n : Int) := by show (n : Int) % (2 ^ 64 : Int) = _; omega
 omega
theorem wrN (x : UInt64) (k : Nat) (hk : k ≤ 64) : (wr x (k : Int)).toNat = x.toNat / 2 ^ k := by
 have h1 := x.toNat_lt
 unfold wr
 have h2 : x.toNat / 2 ^ k ≤ x.toNat := Nat.div_le_self _ _
 rw [natI, Nat.min_eq_left hk, UInt64.toNat_ofNat_of_lt' (show _ < 2 ^ 64 by omega)]
theorem b8N (n : Nat) (h : n < 256) : (b8 (n : Int)).toNat = n := by
 have := b8_wrap (n : Int)
 have h2 : IntKind.u8.wrap (n : Int) = (n : Int) := by show (n : Int) % (2 ^ 8 : Int) = _; omega
 omega
theorem e_len (n : Nat) (hn : n ≤ 1073741824) : ∃ L : Nat, p_math_bits_Len (w64 (n : Int)) = some (L : Int) ∧ L ≤ 32 ∧ (1 ≤ n → 2 ^ L ≤ 2 * n) := by
 have hx := w64N n (by omega)
 generalize w64 (n : Int) = x at *
 unfold p_math_bits_Len p_math_bits_Len64
 have s1 : (cond (decide ((4294967296 : UInt64).toNat ≤ x.toNat)) (some (wr x ((32 : UInt64).toNat : Int), (32 : Int))) (some (x, 0))) = some (x, 0) := by
  rw [decide_eq_false (show ¬ ((4294967296 : UInt64).toNat ≤ x.toNat) by rw [show (4294967296 : UInt64).toNat = 4294967296 from rfl]; omega)]; rfl
 rw [s1]
 simp only [bd_some]
 obtain ⟨y, p, e2, hp, hy⟩ : ∃ (y : UInt64) (p : Nat), (cond (decide ((65536 : UInt64).toNat ≤ x.toNat)) (gd (I64 (0 + 16)) <| some (wr x ((16 : UInt64).toNat : Int), (0 : Int) + 16)) (some (x, 0))) = some (y, (p : Int)) ∧ (p = 0 ∧ y.toNat = n ∧ n < 65536 ∨ p = 16 ∧ y.toNat = n / 65536 ∧ 65536 ≤ n) ∧ y.toNat < 65536 := by
  by_cases h : 65536 ≤ n
  ·rw [decide_eq_true (show ((65536 : UInt64).toNat ≤ x.toNat) by rw [show (65536 : UInt64).toNat = 65536 from rfl]; omega), cond_true, gd.yes (by unfold I64; omega)]
   have := wrN x 16 (by omega)
   rw [hx] at this
   exact ⟨_, 16, rfl, .inr ⟨rfl, this, h⟩, by have e : ((16 : UInt64).toNat : Int) = ((16 : Nat) : Int) := rfl; rw [e, this]; omega⟩
  ·rw [decide_eq_false (show ¬ ((65536 : UInt64).toNat ≤ x.toNat) by rw [show (65536 : UInt64).toNat = 65536 from rfl]; omega)]
   exact ⟨x, 0, rfl, .inl ⟨rfl, hx, by omega⟩, by omega⟩
 rw [e2]
 simp only [bd_some]
 obtain ⟨z, q, e3, hq, hz⟩ : ∃ (z : UInt64) (q : Nat), (cond (decide ((256 : UInt64).toNat ≤ y.toNat)) (gd (I64 ((p : Int) + 8)) <| some (wr y ((8 : UInt64).toNat : Int), (p : Int) + 8)) (some (y, (p : Int)))) = some (z, (q : Int)) ∧ (q = p ∧ z.toNat = y.toNat ∨ q = p + 8 ∧ z.toNat = y.toNat / 256 ∧ 256 ≤ y.toNat) ∧ z.toNat < 256 := by
  by_cases h : 256 ≤ y.toNat
  ·rw [decide_eq_true (show ((256 : UInt64).toNat ≤ y.toNat) by rw [show (256 : UInt64).toNat = 256 from rfl]; omega), cond_true, gd.yes (by unfold I64; omega)]
   have := wrN y 8 (by omega)
   exact ⟨_, p + 8, rfl, .inr ⟨rfl, this, h⟩, by have e : ((8 : UInt64).toNat : Int) = ((8 : Nat) : Int) := rfl; rw [e, this]; omega⟩
  ·rw [decide_eq_false (show ¬ ((256 : UInt64).toNat ≤ y.toNat) by rw [show (256 : UInt64).toNat = 256 from rfl]; omega)]
   exact ⟨y, p, rfl, .inl ⟨rfl, rfl⟩, by omega⟩
 rw [e3]
 simp only [bd_some, b8N z.toNat hz]
 have ht := tab256 ⟨z.toNat, hz⟩
 simp only [] at ht
 have hb : Sort.bitsLen z.toNat ≤ 8 := (Sort.bitsLen_le_iff z.toNat 8).2 (by omega)
 rw [gd.yes (by unfold ix; rw [sz_k]; omega), gd.yes (by unfold I64; rw [ht]; omega), ht]
 simp only [bd_some]
 refine ⟨q + Sort.bitsLen z.toNat, by congr 1, by omega, fun h1 => ?_⟩
 have hz0 : 0 < z.toNat := by omega
 have h2 := Sort.two_pow_bitsLen_le hz0
 generalize Sort.bitsLen z.toNat = L at *
 rw [Nat.pow_add]
 have hcase : 2 ^ q * z.toNat ≤ n := by
  rcases hq with ⟨rfl, hzy⟩ | ⟨rfl, hzy, _⟩ <;> rcases hp with ⟨rfl, hyn, _⟩ | ⟨rfl, hyn, _⟩ <;> simp only [hzy, hyn, Nat.reduceAdd, Nat.reducePow] <;> omega
 calc 2 ^ q * 2 ^ L ≤ 2 ^ q * (2 * z.toNat) := Nat.mul_le_mul_left _ h2
  _ = 2 * (2 ^ q * z.toNat) := by rw [Nat.mul_left_comm]
  _ ≤ 2 * n := Nat.mul_le_mul_left _ hcase
theorem wl1 (L : Nat) (h : L ≤ 32) : (wl (1 : UInt64) (L : Int)).toNat = 2 ^ L := by
 unfold wl
 have hp : 2 ^ L ≤ 2 ^ 32 := Nat.pow_le_pow_right (by omega) h
 have e : ((1 : UInt64).toNat : Int) * 2 ^ (min (L : Int).toNat 64) = ((2 ^ L : Nat) : Int) := by
  rw [natI, Nat.min_eq_left (by omega)]
  show (1 : Int) * 2 ^ L = _
  rw [Int.one_mul]; push_cast; rfl
 rw [e, w64N _ (by omega)]
theorem e_brk (a b : Nat) (d : Array PostH) (ha : a ≤ b) (hb : b ≤ d.size) (hs : d.size ≤ 1073741824) :
  ∃ r : Array PostH, p_breakPatternsH d.toList (a : Int) (b : Int) = some r.toList ∧ Sort.PermIn a b d r := by
 unfold p_breakPatternsH
 have c0 : (b : Int) - (a : Int) = ((b - a : Nat) : Int) := by omega
 rw [gd.yes (by unfold I64; omega), c0]
 by_cases h8 : 8 ≤ b - a
 ·rw [decide_eq_true (show (8 : Int) ≤ ((b - a : Nat) : Int) by omega), cond_true]
  obtain ⟨L, eL, hL, hL2⟩ := e_len (b - a) (by omega)
  have hL2 := hL2 (by omega)
  have e1 : p_slices_nextPowerOfTwo ((b - a : Nat) : Int) = some (wl (1 : UInt64) (L : Int)) := by
   unfold p_slices_nextPowerOfTwo
   rw [eL]; simp only [bd_some]
   rw [gd.yes (by omega)]
  have hM := wl1 L hL
  have hpos : 0 < 2 ^ L := Nat.two_pow_pos _
  rw [e1]; simp only [bd_some]
  generalize wl (1 : UInt64) (L : Int) = M at *
  have c1 : (((b - a : Nat) : Int)).tdiv 4 = (((b - a) / 4 : Nat) : Int) := (Int.ofNat_tdiv (b - a) 4).symm
  have hq : (b - a) / 4 * 4 ≤ b - a := Nat.div_mul_le_self _ _
  have hq2 : b - a < (b - a) / 4 * 4 + 4 := by omega
  rw [c1]
  have hbody : ∀ r4 Q, p_breakPatternsH_b0 (a : Int) (b : Int) r4 Q = p_breakPatternsH_b0 (a : Int) (b : Int) r4 Q := fun _ _ => rfl
  have c2 : ((b : Int) - (a : Int)).tdiv 4 = (((b - a) / 4 : Nat) : Int) := by rw [c0, c1]
  generalize (b - a) / 4 = q at *
  rw [gd.yes (by unfold I64; omega), gd.yes (by unfold I64; omega), gd.yes (by unfold I64; omega), gd.yes (by unfold I64; omega)]
  have hMs : (M - 1).toNat = 2 ^ L - 1 := by
   rw [UInt64.toNat_sub_of_le]
   ·rw [hM]; rfl
   ·rw [UInt64.le_iff_toNat_le, hM]; exact hpos
  have step : ∀ (d' : Array PostH) (x : UInt64) (i : Nat), d'.size = d.size → a + q * 2 - 1 ≤ i → i ≤ a + q * 2 + 1 →
    ∃ (y : UInt64) (o : Nat), a ≤ o ∧ o < b ∧ p_breakPatternsH_b0 (a : Int) (b : Int) M (d'.toList, x, (i : Int)) = some (.inl ((Sort.swp d' i o).toList, y, ((i + 1 : Nat) : Int))) := by
   intro d' x i hz h1 h2
   unfold p_breakPatternsH_b0
   rw [c2, gd.yes (by unfold I64; omega)]
   rw [decide_eq_true (show ((i : Int) ≤ (a : Int) + (q : Int) * 2 + 1) by omega), cond_true]
   obtain ⟨u, v, eN⟩ : ∃ u v, p_slices_xorshift_Next x = some (u, v) := ⟨_, _, rfl⟩
   rw [eN]; simp only [bd_some]
   have hand : (u &&& (M - 1)).toNat ≤ 2 ^ L - 1 := by rw [UInt64.toNat_and, hMs]; exact Nat.and_le_right
   generalize (u &&& (M - 1)).toNat = w at *
   have hp32 : 2 ^ L ≤ 2 ^ 32 := Nat.pow_le_pow_right (by omega) hL
   rw [gd.yes (by unfold I64; omega)]
   obtain ⟨t, et, ht⟩ : ∃ t : Nat, (cond (decide ((b : Int) - (a : Int) ≤ (w : Int))) (gd (I64 ((w : Int) - ((b : Int) - (a : Int)))) <| some ((w : Int) - ((b : Int) - (a : Int)))) (some (w : Int))) = some (t : Int) ∧ t < b - a := by
    by_cases hw : b - a ≤ w
    ·rw [decide_eq_true (show ((b : Int) - (a : Int) ≤ (w : Int)) by omega), cond_true, gd.yes (by unfold I64; omega)]
     exact ⟨w - (b - a), by congr 1; omega, by omega⟩
    ·rw [decide_eq_false (show ¬ ((b : Int) - (a : Int) ≤ (w : Int)) by omega)]
     exact ⟨w, rfl, by omega⟩
   rw [et]
   have c3 : (a : Int) + (t : Int) = ((a + t : Nat) : Int) := by omega
   refine ⟨v, a + t, by omega, by omega, ?_⟩
   simp (disch := first | (unfold I64; omega) | (unfold ix; (try simp only [List.length_set, lenA]); omega)) only [bd_some, c3, gd_true, natI, nthA, swpA', addI]
  have cI : (a : Int) + (q : Int) * 2 - 1 = ((a + q * 2 - 1 : Nat) : Int) := by omega
  rw [cI]
  obtain ⟨e, he, r, rfl, hr⟩ := lp.rule (body := p_breakPatternsH_b0 (a : Int) (b : Int) M) (fun Q => ∃ (d' : Array PostH) (x : UInt64) (i : Nat), Q = (d'.toList, x, (i : Int)) ∧ Sort.PermIn a b d d' ∧ a + q * 2 - 1 ≤ i ∧ i ≤ a + q * 2 + 2)
   (fun Q => ((a + q * 2 + 2 : Nat) - Q.2.2 : Int).toNat) (fun e => ∃ r : Array PostH, e = r.toList ∧ Sort.PermIn a b d r) (by
    rintro _ ⟨d', x, i, rfl, hp, h1, h2⟩
    by_cases hi : i ≤ a + q * 2 + 1
    ·obtain ⟨y, o, ho1, ho2, hst⟩ := step d' x i hp.1 h1 hi
     refine .inl ⟨_, hst, ⟨_, y, i + 1, rfl, Sort.permIn_trans _ _ _ a b hp (Sort.swp_permIn d' a b i o (by omega) (by omega) ho1 ho2 (by rw [hp.1]; exact hb)), by omega, by omega⟩, ?_⟩
     simp only []; omega
    ·refine .inr ⟨d'.toList, ?_, d', rfl, hp⟩
     unfold p_breakPatternsH_b0
     rw [c2, gd.yes (by unfold I64; omega), decide_eq_false (show ¬ ((i : Int) ≤ (a : Int) + (q : Int) * 2 + 1) by omega)]; rfl)
   (s := (d.toList, w64 ((b - a : Nat) : Int), ((a + q * 2 - 1 : Nat) : Int))) ⟨d, _, _, rfl, Sort.permIn_refl d a b, Nat.le_refl _, by omega⟩
  rw [he]
  exact ⟨r, rfl, hr⟩
 ·rw [decide_eq_false (show ¬ (8 : Int) ≤ ((b - a : Nat) : Int) by omega)]
  exact ⟨d, rfl, Sort.permIn_refl d a b⟩
noncomputable def pdqT (rc : (List PostH) → Int → Int → Int → Option ((List PostH))) (l : List PostH) (a b lim : Int) (wb wp : Bool) (p : Int) : Option (((List PostH) × Int × Int × Int × Bool × Bool) ⊕ (Unit ⊕ (List PostH))) :=
 bd (cond (decide (0 < a)) (gd (I64 (a - 1)) <| gd (ix (a - 1) l.length) <| gd (ix p l.length) <| bd (p_impl_indexOf_2 (nth l ((a - 1).toNat)) (nth l p.toNat)) fun r66 => some (!(decide (r66 < 0)))) (some (false))) fun b60 => cond (b60) (bd (p_partitionEqualH l a b p) fun r69 => some (.inl (r69.2, r69.1, b, lim, wb, wp))) (bd (p_partitionH l a b p) fun r73 => gd (I64 (r73.1 - a)) <| gd (I64 (b - r73.1)) <| gd (I64 ((b - a).tdiv 8)) <| cond (decide ((r73.1 - a) < (b - r73.1))) (bd (rc r73.2.2 a r73.1 lim) fun r81 => gd (I64 (r73.1 + 1)) <| some (.inl (r81, r73.1 + 1, b, lim, decide (((b - a).tdiv 8) ≤ (r73.1 - a)), r73.2.1))) (gd (I64 (r73.1 + 1)) <| bd (rc r73.2.2 (r73.1 + 1) b lim) fun r87 => some (.inl (r87, a, r73.1, lim, decide (((b - a).tdiv 8) ≤ (b - r73.1)), r73.2.1))))
theorem pdq_b0s (rc : (List PostH) → Int → Int → Int → Option ((List PostH))) (Q : List PostH × Int × Int × Int × Bool × Bool) : p_pdqsortH_b0 rc Q =
  (gd (I64 (Q.2.2.1 - Q.2.1)) <| cond (decide ((Q.2.2.1 - Q.2.1) ≤ 12)) (bd (p_insertionSortH Q.1 Q.2.1 Q.2.2.1) fun r16 => some (.inr (.inr r16))) (cond (decide (Q.2.2.2.1 = 0)) (bd (p_heapSortH Q.1 Q.2.1 Q.2.2.1) fun r21 => some (.inr (.inr r21))) (bd (cond (!Q.2.2.2.2.1) (bd (p_breakPatternsH Q.1 Q.2.1 Q.2.2.1) fun r29 => gd (I64 (Q.2.2.2.1 - 1)) <| some (r29, Q.2.2.2.1 - 1)) (some (Q.1, Q.2.2.2.1))) fun x26 => bd (p_choosePivotH x26.1 Q.2.1 Q.2.2.1) fun r35 => bd (cond (decide (r35.2 = 2)) (bd (p_reverseRangeH x26.1 Q.2.1 Q.2.2.1) fun r41 => gd (I64 (Q.2.2.1 - 1)) <| gd (I64 (r35.1 - Q.2.1)) <| gd (I64 ((Q.2.2.1 - 1) - (r35.1 - Q.2.1))) <| some (r41, (Q.2.2.1 - 1) - (r35.1 - Q.2.1), 1)) (some (x26.1, r35.1, r35.2))) fun x38 => bd (cond Q.2.2.2.2.1 (cond Q.2.2.2.2.2 (some (decide (x38.2.2 = 1))) (some (false))) (some (false))) fun b49 => cond (b49) (bd (p_partialInsertionSortH x38.1 Q.2.1 Q.2.2.1) fun r54 => cond (r54.1) (some (.inr (.inr r54.2))) (pdqT rc r54.2 Q.2.1 Q.2.2.1 x26.2 Q.2.2.2.2.1 Q.2.2.2.2.2 x38.2.1)) (pdqT rc x38.1 Q.2.1 Q.2.2.1 x26.2 Q.2.2.2.2.1 Q.2.2.2.2.2 x38.2.1)))) := by unfold p_pdqsortH_b0 pdqT; rfl
theorem pdq_b0g (rc : (List PostH) → Int → Int → Int → Option ((List PostH))) (l : List PostH) (a b lim : Int) (wb wp : Bool) (Q : List PostH × Int × Int × Int × Bool × Bool) (h1 : Q.1 = l) (h2 : Q.2.1 = a) (h3 : Q.2.2.1 = b) (h4 : Q.2.2.2.1 = lim) (h5 : Q.2.2.2.2.1 = wb) (h6 : Q.2.2.2.2.2 = wp) : p_pdqsortH_b0 rc Q =
  (gd (I64 (b - a)) <| cond (decide ((b - a) ≤ 12)) (bd (p_insertionSortH l a b) fun r16 => some (.inr (.inr r16))) (cond (decide (lim = 0)) (bd (p_heapSortH l a b) fun r21 => some (.inr (.inr r21))) (bd (cond (!wb) (bd (p_breakPatternsH l a b) fun r29 => gd (I64 (lim - 1)) <| some (r29, lim - 1)) (some (l, lim))) fun x26 => bd (p_choosePivotH x26.1 a b) fun r35 => bd (cond (decide (r35.2 = 2)) (bd (p_reverseRangeH x26.1 a b) fun r41 => gd (I64 (b - 1)) <| gd (I64 (r35.1 - a)) <| gd (I64 ((b - 1) - (r35.1 - a))) <| some (r41, (b - 1) - (r35.1 - a), 1)) (some (x26.1, r35.1, r35.2))) fun x38 => bd (cond wb (cond wp (some (decide (x38.2.2 = 1))) (some (false))) (some (false))) fun b49 => cond (b49) (bd (p_partialInsertionSortH x38.1 a b) fun r54 => cond (r54.1) (some (.inr (.inr r54.2))) (pdqT rc r54.2 a b x26.2 wb wp x38.2.1)) (pdqT rc x38.1 a b x26.2 wb wp x38.2.1)))) := by subst h1 h2 h3 h4 h5 h6; exact pdq_b0s rc Q
theorem pdq_b0 (rc : (List PostH) → Int → Int → Int → Option ((List PostH))) (l : List PostH) (a b lim : Int) (wb wp : Bool) : p_pdqsortH_b0 rc (l, a, b, lim, wb, wp) =
  (gd (I64 (b - a)) <| cond (decide ((b - a) ≤ 12)) (bd (p_insertionSortH l a b) fun r16 => some (.inr (.inr r16))) (cond (decide (lim = 0)) (bd (p_heapSortH l a b) fun r21 => some (.inr (.inr r21))) (bd (cond (!wb) (bd (p_breakPatternsH l a b) fun r29 => gd (I64 (lim - 1)) <| some (r29, lim - 1)) (some (l, lim))) fun x26 => bd (p_choosePivotH x26.1 a b) fun r35 => bd (cond (decide (r35.2 = 2)) (bd (p_reverseRangeH x26.1 a b) fun r41 => gd (I64 (b - 1)) <| gd (I64 (r35.1 - a)) <| gd (I64 ((b - 1) - (r35.1 - a))) <| some (r41, (b - 1) - (r35.1 - a), 1)) (some (x26.1, r35.1, r35.2))) fun x38 => bd (cond wb (cond wp (some (decide (x38.2.2 = 1))) (some (false))) (some (false))) fun b49 => cond (b49) (bd (p_partialInsertionSortH x38.1 a b) fun r54 => cond (r54.1) (some (.inr (.inr r54.2))) (pdqT rc r54.2 a b x26.2 wb wp x38.2.1)) (pdqT rc x38.1 a b x26.2 wb wp x38.2.1)))) := pdq_b0g rc l a b lim wb wp _ rfl rfl rfl rfl rfl rfl
def PS (f : (List PostH) → Int → Int → Int → Option ((List PostH))) (N : Nat) : Prop := ∀ (d : Array PostH) (a b lim : Nat), b - a < N → a ≤ b → b ≤ d.size → d.size ≤ 1073741824 → lim ≤ 1000 → Sort.Below ltP a b d →
 ∃ r : Array PostH, f d.toList (a : Int) (b : Int) (lim : Int) = some r.toList ∧ Sort.PermIn a b d r ∧ Sort.SortedIn ltP a b r
theorem eta2 {α β : Type} (x : α × β) : x = (x.1, x.2) := rfl
theorem eta3 {α β γ : Type} (x : α × β × γ) : x = (x.1, x.2.1, x.2.2) := rfl
theorem e_tailP {rc : (List PostH) → Int → Int → Int → Option ((List PostH))} {N : Nat} (H : PS rc N) (d d4 : Array PostH) (a b lim mid : Nat) (_ _ ap : Bool) (hN : b - a ≤ N) (hb : b ≤ d.size) (hs : d.size ≤ 1073741824) (hl : lim ≤ 1000) (g1 : a ≤ mid) (g2 : mid < b) (hs4 : d4.size = d.size)
  (hBa : Sort.Below ltP a mid d4) (hBr : Sort.Below ltP (mid + 1) b d4)
  (hleft : ∀ L, Sort.PermIn a mid d4 L → Sort.SortedIn ltP a mid L → Sort.Below ltP (mid + 1) b L ∧ ∀ R, Sort.PermIn (mid + 1) b L R → Sort.SortedIn ltP (mid + 1) b R → Sort.PermIn a b d R ∧ Sort.SortedIn ltP a b R)
  (hright : ∀ L, Sort.PermIn (mid + 1) b d4 L → Sort.SortedIn ltP (mid + 1) b L → Sort.Below ltP a mid L ∧ ∀ R, Sort.PermIn a mid L R → Sort.SortedIn ltP a mid R → Sort.PermIn a b d R ∧ Sort.SortedIn ltP a b R) :
  ∃ (d' : Array PostH) (a' b' : Nat) (wb' wp' : Bool), (gd (I64 ((mid : Int) - (a : Int))) <| gd (I64 ((b : Int) - (mid : Int))) <| gd (I64 (((b : Int) - (a : Int)).tdiv 8)) <| cond (decide (((mid : Int) - (a : Int)) < ((b : Int) - (mid : Int)))) (bd (rc d4.toList (a : Int) (mid : Int) (lim : Int)) fun r81 => gd (I64 ((mid : Int) + 1)) <| some (.inl (r81, (mid : Int) + 1, (b : Int), (lim : Int), decide ((((b : Int) - (a : Int)).tdiv 8) ≤ ((mid : Int) - (a : Int))), ap))) (gd (I64 ((mid : Int) + 1)) <| bd (rc d4.toList ((mid : Int) + 1) (b : Int) (lim : Int)) fun r87 => some (.inl (r87, (a : Int), (mid : Int), (lim : Int), decide ((((b : Int) - (a : Int)).tdiv 8) ≤ ((b : Int) - (mid : Int))), ap)))) = (some (.inl (d'.toList, (a' : Int), (b' : Int), (lim : Int), wb', wp')) : Option (((List PostH) × Int × Int × Int × Bool × Bool) ⊕ (Unit ⊕ (List PostH)))) ∧ a' ≤ b' ∧ b' - a' < b - a ∧ d'.size = d.size ∧ b' ≤ d'.size ∧ Sort.Below ltP a' b' d' ∧
   ∀ R, Sort.PermIn a' b' d' R → Sort.SortedIn ltP a' b' R → Sort.PermIn a b d R ∧ Sort.SortedIn ltP a b R := by
 have c8 : ((b : Int) - (a : Int)).tdiv 8 = (((b - a) / 8 : Nat) : Int) := by rw [show (b : Int) - (a : Int) = ((b - a : Nat) : Int) by omega]; exact (Int.ofNat_tdiv (b - a) 8).symm
 have h8 : (b - a) / 8 ≤ b - a := Nat.div_le_self _ _
 rw [gd.yes (by unfold I64; omega), gd.yes (by unfold I64; omega), c8, gd.yes (by unfold I64; omega)]
 by_cases hlt : mid - a < b - mid
 ·rw [decide_eq_true (show ((mid : Int) - (a : Int) < (b : Int) - (mid : Int)) by omega), cond_true]
  obtain ⟨L, eL, l1, l2⟩ := H d4 a mid lim (by omega) g1 (by rw [hs4]; omega) (by rw [hs4]; exact hs) hl hBa
  obtain ⟨hBL, hfin⟩ := hleft L l1 l2
  rw [bd.yes eL, gd.yes (by unfold I64; omega), addI]
  exact ⟨L, mid + 1, b, _, _, rfl, by omega, by omega, by rw [l1.1, hs4], by rw [l1.1, hs4]; exact hb, hBL, hfin⟩
 ·rw [decide_eq_false (show ¬ ((mid : Int) - (a : Int) < (b : Int) - (mid : Int)) by omega), cond_false]
  obtain ⟨L, eL, l1, l2⟩ := H d4 (mid + 1) b lim (by omega) (by omega) (by rw [hs4]; exact hb) (by rw [hs4]; exact hs) hl hBr
  obtain ⟨hBL, hfin⟩ := hright L l1 l2
  rw [gd.yes (by unfold I64; omega), addI, bd.yes eL]
  exact ⟨L, a, mid, _, _, rfl, g1, by omega, by rw [l1.1, hs4], by rw [l1.1, hs4]; omega, hBL, hfin⟩
theorem e_tail {rc : (List PostH) → Int → Int → Int → Option ((List PostH))} {N : Nat} (H : PS rc N) (d : Array PostH) (a b lim p : Nat) (wb wp : Bool) (hN : b - a ≤ N) (ha : a ≤ p) (hp : p < b) (hb : b ≤ d.size) (hs : d.size ≤ 1073741824) (hl : lim ≤ 1000) (hB : Sort.Below ltP a b d) :
  ∃ (d' : Array PostH) (a' b' : Nat) (wb' wp' : Bool), pdqT rc d.toList (a : Int) (b : Int) (lim : Int) wb wp (p : Int) = some (.inl (d'.toList, (a' : Int), (b' : Int), (lim : Int), wb', wp')) ∧ a' ≤ b' ∧ b' - a' < b - a ∧ d'.size = d.size ∧ b' ≤ d'.size ∧ Sort.Below ltP a' b' d' ∧
   ∀ R, Sort.PermIn a' b' d' R → Sort.SortedIn ltP a' b' R → Sort.PermIn a b d R ∧ Sort.SortedIn ltP a b R := by
 have hS := ltP_swo (β := HV)
 unfold pdqT
 obtain ⟨e, he, hc⟩ : ∃ e : Bool, (cond (decide ((0 : Int) < (a : Int))) (gd (I64 ((a : Int) - 1)) <| gd (ix ((a : Int) - 1) d.toList.length) <| gd (ix (p : Int) d.toList.length) <| bd (p_impl_indexOf_2 (nth d.toList (((a : Int) - 1).toNat)) (nth d.toList (p : Int).toNat)) fun r66 => some (!(decide (r66 < 0)))) (some (false))) = some e ∧ (e = true → 0 < a ∧ ltP d[a - 1]! d[p]! = false) := by
  by_cases h0 : 0 < a
  ·have c : (a : Int) - 1 = ((a - 1 : Nat) : Int) := by omega
   refine ⟨!ltP d[a - 1]! d[p]!, ?_, fun h => ⟨h0, by simpa using h⟩⟩
   rw [decide_eq_true (show (0 : Int) < (a : Int) by omega)]
   simp (disch := first | (unfold I64; omega) | (unfold ix; (try simp only [List.length_set, lenA]); omega)) only [cond_true, c, gd_true, natI, nthA, e_cmpH, bd_some, ltN]
  ·exact ⟨false, by rw [decide_eq_false (show ¬ (0 : Int) < (a : Int) by omega)]; rfl, fun h => by cases h⟩
 rw [he]
 simp only [bd_some]
 cases e with
 | true =>
  obtain ⟨h0, hnl⟩ := hc rfl
  obtain ⟨g1, g2, hs4, hB4, hfin⟩ := Sort.round_eq hS (Sort.partitionEqual_holds ltP) h0 ha hp hb hB hnl (eta2 (Sort.partitionEqual ltP d a b p))
  rw [cond_true, e_parE a b p d ha hp hb hs]
  generalize (Sort.partitionEqual ltP d a b p).1 = mid at *
  generalize (Sort.partitionEqual ltP d a b p).2 = d4 at *
  simp only [bd_some]
  exact ⟨_, _, b, wb, wp, rfl, g2, by omega, hs4, by rw [hs4]; exact hb, hB4, hfin⟩
 | false =>
  obtain ⟨g1, g2, hs4, hBa, hBr, hleft, hright⟩ := Sort.round_part hS (Sort.partition_holds ltP) ha hp hb hB (eta3 (Sort.partition ltP d a b p))
  rw [cond_false, e_part a b p d ha hp hb hs]
  simp only [bd_some]
  generalize (Sort.partition ltP d a b p).1 = mid at *
  generalize (Sort.partition ltP d a b p).2.1 = ap at *
  generalize (Sort.partition ltP d a b p).2.2 = d4 at *
  exact e_tailP H d d4 a b lim mid wb wp ap hN hb hs hl g1 g2 hs4 hBa hBr hleft hright
theorem e_pdqL {rc : (List PostH) → Int → Int → Int → Option ((List PostH))} {N : Nat} (H : PS rc N) (v0 : List PostH) : ∀ (n : Nat) (d : Array PostH) (a b lim : Nat) (wb wp : Bool), b - a < n → b - a ≤ N → a ≤ b → b ≤ d.size → d.size ≤ 1073741824 → lim ≤ 1000 → Sort.Below ltP a b d →
  ∃ r : Array PostH, bd (lp (p_pdqsortH_b0 rc) (d.toList, (a : Int), (b : Int), (lim : Int), wb, wp)) (sw (fun _ => some v0) (fun q => some q)) = some r.toList ∧ Sort.PermIn a b d r ∧ Sort.SortedIn ltP a b r
 | 0, _, _, _, _, _, _, h, _, _, _, _, _, _ => absurd h (Nat.not_lt_zero _)
 | n + 1, d, a, b, lim, wb, wp, hn, hN, hab, hb, hs, hl, hB => by
  have hS := ltP_swo (β := HV)
  by_cases h12 : b - a ≤ 12
  ·rw [lp.stop (e := .inr (Sort.insertionSort ltP d a b).toList) (by
    rw [pdq_b0, gd.yes (by unfold I64; omega), decide_eq_true (show ((b : Int) - (a : Int) ≤ 12) by omega), cond_true, e_ins a b d hab hb hs]; rfl)]
   exact ⟨_, rfl, Sort.insertionSort_holds hS d a b hab hb⟩
  ·have e12 : decide ((b : Int) - (a : Int) ≤ 12) = false := decide_eq_false (by omega)
   by_cases hl0 : lim = 0
   ·rw [lp.stop (e := .inr (Sort.heapSort ltP d a b).toList) (by
     rw [pdq_b0, gd.yes (by unfold I64; omega), e12, cond_false, decide_eq_true (show ((lim : Int) = 0) by omega), cond_true, e_heap a b d hab hb hs]; rfl)]
    exact ⟨_, rfl, Sort.heapSort_holds hS d a b hab hb⟩
   ·obtain ⟨d1, lim1, hx1, P1, hl1⟩ : ∃ (d1 : Array PostH) (lim1 : Nat), (cond (!wb) (bd (p_breakPatternsH d.toList (a : Int) (b : Int)) fun r29 => gd (I64 ((lim : Int) - 1)) <| some (r29, (lim : Int) - 1)) (some (d.toList, (lim : Int)))) = some (d1.toList, (lim1 : Int)) ∧ Sort.PermIn a b d d1 ∧ lim1 ≤ 1000 := by
     cases wb with
     | true => exact ⟨d, lim, rfl, Sort.permIn_refl d a b, hl⟩
     | false =>
      obtain ⟨r, hr, hp⟩ := e_brk a b d hab hb hs
      refine ⟨r, lim - 1, ?_, hp, by omega⟩
      rw [Bool.not_false, cond_true, hr]
      simp only [bd_some]
      rw [gd.yes (by unfold I64; omega), show (lim : Int) - 1 = ((lim - 1 : Nat) : Int) by omega]
    have b1 : b ≤ d1.size := by rw [P1.1]; exact hb
    obtain ⟨pv, h, hpv, pa, pb⟩ := e_piv a b d1 (by omega) b1 (by rw [P1.1]; exact hs)
    obtain ⟨d2, pv2, h2, hx2, P2, pa2, pb2⟩ : ∃ (d2 : Array PostH) (pv2 : Nat) (h2 : Int), (cond (decide (h = 2)) (bd (p_reverseRangeH d1.toList (a : Int) (b : Int)) fun r41 => gd (I64 ((b : Int) - 1)) <| gd (I64 ((pv : Int) - (a : Int))) <| gd (I64 (((b : Int) - 1) - ((pv : Int) - (a : Int)))) <| some (r41, ((b : Int) - 1) - ((pv : Int) - (a : Int)), (1 : Int))) (some (d1.toList, (pv : Int), h))) = some (d2.toList, (pv2 : Int), h2) ∧ Sort.PermIn a b d1 d2 ∧ a ≤ pv2 ∧ pv2 < b := by
     cases decide (h = 2) with
     | false => exact ⟨d1, pv, h, rfl, Sort.permIn_refl d1 a b, pa, pb⟩
     | true =>
      refine ⟨Sort.reverseRange d1 a b, (b - 1) - (pv - a), 1, ?_, Sort.reverseRange_holds d1 a b hab b1, by omega, by omega⟩
      rw [cond_true, e_rev a b d1 (by omega) b1 (by rw [P1.1]; exact hs)]
      simp only [bd_some]
      rw [gd.yes (by unfold I64; omega), gd.yes (by unfold I64; omega), gd.yes (by unfold I64; omega), show ((b : Int) - 1) - ((pv : Int) - (a : Int)) = (((b - 1) - (pv - a) : Nat) : Int) by omega]
    have b2 : b ≤ d2.size := by rw [P2.1]; exact b1
    have s2 : d2.size ≤ 1073741824 := by rw [P2.1, P1.1]; exact hs
    have B2 : Sort.Below ltP a b d2 := (hB.perm hb P1).perm b1 P2
    have P02 : Sort.PermIn a b d d2 := Sort.permIn_trans _ _ _ a b P1 P2
    obtain ⟨bb, hbb⟩ : ∃ bb : Bool, (cond wb (cond wp (some (decide (h2 = 1))) (some (false))) (some (false))) = some bb := by cases wb <;> cases wp <;> exact ⟨_, rfl⟩
    have start : ∀ K, cond bb (bd (p_partialInsertionSortH d2.toList (a : Int) (b : Int)) fun r54 => cond (r54.1) (some (.inr (.inr r54.2))) (pdqT rc r54.2 (a : Int) (b : Int) (lim1 : Int) wb wp (pv2 : Int))) (pdqT rc d2.toList (a : Int) (b : Int) (lim1 : Int) wb wp (pv2 : Int)) = K → p_pdqsortH_b0 rc (d.toList, (a : Int), (b : Int), (lim : Int), wb, wp) = K := by
     intro K hK
     rw [pdq_b0, gd.yes (by unfold I64; omega), e12, cond_false, decide_eq_false (show ¬ ((lim : Int) = 0) by omega), cond_false, hx1]
     simp only [bd_some]
     rw [hpv]
     simp only [bd_some]
     rw [hx2]
     simp only [bd_some]
     rw [hbb]
     exact hK
    have go : ∀ d3 : Array PostH, Sort.PermIn a b d2 d3 → p_pdqsortH_b0 rc (d.toList, (a : Int), (b : Int), (lim : Int), wb, wp) = pdqT rc d3.toList (a : Int) (b : Int) (lim1 : Int) wb wp (pv2 : Int) →
      ∃ r : Array PostH, bd (lp (p_pdqsortH_b0 rc) (d.toList, (a : Int), (b : Int), (lim : Int), wb, wp)) (sw (fun _ => some v0) (fun q => some q)) = some r.toList ∧ Sort.PermIn a b d r ∧ Sort.SortedIn ltP a b r := by
     intro d3 P3 hst
     have b3 : b ≤ d3.size := by rw [P3.1]; exact b2
     obtain ⟨d', a', b', wb', wp', hT, q1, q2, q3, q4, q5, q6⟩ := e_tail H d3 a b lim1 pv2 wb wp hN pa2 pb2 b3 (by rw [P3.1]; exact s2) hl1 (B2.perm b2 P3)
     rw [lp.step (hst.trans hT)]
     obtain ⟨r, hr, r1, r2⟩ := e_pdqL H v0 n d' a' b' lim1 wb' wp' (by omega) (by omega) q1 q4 (by rw [q3, P3.1]; exact s2) hl1 q5
     obtain ⟨k1, k2⟩ := q6 r r1 r2
     exact ⟨r, hr, Sort.permIn_trans _ _ _ a b (Sort.permIn_trans _ _ _ a b P02 P3) k1, k2⟩
    cases bb with
    | false => exact go d2 (Sort.permIn_refl d2 a b) (start _ rfl)
    | true =>
     have hpi := Sort.partialInsertionSort_holds hS d2 a b (by omega) b2 B2
     have est : p_pdqsortH_b0 rc (d.toList, (a : Int), (b : Int), (lim : Int), wb, wp) = cond (Sort.partialInsertionSort ltP d2 a b).2 (some (.inr (.inr (Sort.partialInsertionSort ltP d2 a b).1.toList))) (pdqT rc (Sort.partialInsertionSort ltP d2 a b).1.toList (a : Int) (b : Int) (lim1 : Int) wb wp (pv2 : Int)) := by
      refine start _ ?_
      rw [cond_true, e_par a b d2 (by omega) b2 s2]
      rfl
     cases ht : (Sort.partialInsertionSort ltP d2 a b).2 with
     | true =>
      rw [ht, cond_true] at est
      rw [lp.stop est]
      exact ⟨_, rfl, Sort.permIn_trans _ _ _ a b P02 hpi.1, hpi.2 ht⟩
     | false =>
      rw [ht, cond_false] at est
      exact go _ hpi.1 est
theorem e_pdq : ∀ N : Nat, PS (p_pdqsortH N) N
 | 0 => fun d a b lim h => absurd h (Nat.not_lt_zero _)
 | N + 1 => fun d a b lim h hab hb hs hl hB => e_pdqL (e_pdq N) d.toList _ d a b lim true true (Nat.lt_succ_self _) (by omega) hab hb hs hl hB
theorem e_SortH (l : List PostH) (hs : l.length ≤ 1073741824) : ∃ r : List PostH, p_SortFuncH l = some r ∧ r.Perm l ∧ r.Pairwise (fun x y => ltP y x = false) := by
 obtain ⟨L, eL, hL, _⟩ := e_len l.length hs
 obtain ⟨r, hr, h1, h2⟩ := e_pdq (l.length + 1) l.toArray 0 l.length L (by omega) (Nat.zero_le _) (by simp) (by simpa using hs) (by omega) (.inl rfl)
 unfold p_SortFuncH
 rw [eL]
 simp only [bd_some]
 rw [show l.toArray.toList = l from rfl, show ((0 : Nat) : Int) = 0 from rfl] at hr
 rw [hr]
 refine ⟨r.toList, rfl, ?_, ?_⟩
 ·have := h1.2.2
  have e1 : r.extract 0 l.length = r := by
   have : l.length = r.size := by rw [h1.1]; simp
   rw [this]; exact Array.extract_size
  have e2 : l.toArray.extract 0 l.length = l.toArray := by
   have : l.length = l.toArray.size := by simp
   rw [this]; exact Array.extract_size
  rw [e1, e2] at this
  exact this
 ·rw [List.pairwise_iff_getElem]
  intro i j hi hj hij
  have hsz : r.size = l.length := by rw [h1.1]; simp
  have := h2 i j (Nat.zero_le _) hij (by rw [← hsz]; simpa using hj)
  rw [getElem!_pos r i (by simpa using hi), getElem!_pos r j (by simpa using hj)] at this
  simpa using this
noncomputable def p_slices_SortFunc_Post_Post_indexOf_2 (v0 : List Post) : Option (List Post) := sortP v0
theorem c_slices_SortFunc_Post_Post_indexOf_2 {r : List Post} (v0 : List Post) (x_v0 : Option Addr × Nat) (n_v0 : Nat) (e_v0 : n_v0 = v0.length) (H : p_slices_SortFunc_Post_Post_indexOf_2 v0 = some r) : Fn' Try.prog 113 #[.slice x_v0.1 n_v0 x_v0.2, .func (.func 114) #[] #[]] [] [tree (.slice x_v0.1 n_v0 x_v0.2) v0] (ι := Unit) (fun _ => .tuple #[]) (fun _ => []) (fun _ => [tree (.slice x_v0.1 n_v0 x_v0.2) r]) := by
 subst e_v0
 have H : sortP v0 = some r := H
 refine Fn'.sortN H ⟨⟨_, Try.func113, by kernel_rfl, by kernel_rfl⟩⟩ fun l' hl => ?_
 obtain ⟨r', h1, h2, h3⟩ := e_SortH l' (by rw [hl]; exact (gd.of H).1)
 refine ⟨r', h2, h3, ?_⟩
 have := c_SortFuncH l' x_v0 l'.length rfl h1
 rw [hl] at this; exact this
noncomputable def p_impl_indexOf_b1 (v0 : (List (List Tag))) (Q13 : (List Post) × Int) (Q27 : (List Post) × Int) : Option (((List Post) × Int) ⊕ ((List Post))) := cond (decide (Q27.2 < ((nth v0 Q13.2.toNat).length : Int))) (gd (ix Q27.2 (nth v0 Q13.2.toNat).length) <| bd (p_slices_IndexFunc_Post_Post_indexOf_1 Q27.1 (nth (nth v0 Q13.2.toNat) Q27.2.toNat)) fun r38 => cond (decide (r38 < 0)) (gd (room (Q27.1.length + 1)) <| gd (ix (Q27.1.length : Int) (Q27.1 ++ [((nth (nth v0 Q13.2.toNat) Q27.2.toNat), ([]))]).length) <| gd (I64 (Q13.2 + 1)) <| gd (room (((nth (Q27.1 ++ [((nth (nth v0 Q13.2.toNat) Q27.2.toNat), ([]))]) ((Q27.1.length : Int).toNat)).2).length + 1)) <| gd (I64 (Q27.2 + 1)) <| some (.inl (((Q27.1 ++ [((nth (nth v0 Q13.2.toNat) Q27.2.toNat), ([]))]).set ((Q27.1.length : Int).toNat) (((nth (Q27.1 ++ [((nth (nth v0 Q13.2.toNat) Q27.2.toNat), ([]))]) ((Q27.1.length : Int).toNat)).1), (((nth (Q27.1 ++ [((nth (nth v0 Q13.2.toNat) Q27.2.toNat), ([]))]) ((Q27.1.length : Int).toNat)).2) ++ [Q13.2 + 1]))), Q27.2 + 1))) (gd (ix r38 Q27.1.length) <| gd (I64 (Q13.2 + 1)) <| gd (room (((nth Q27.1 r38.toNat).2).length + 1)) <| gd (I64 (Q27.2 + 1)) <| some (.inl ((Q27.1.set r38.toNat (((nth Q27.1 r38.toNat).1), (((nth Q27.1 r38.toNat).2) ++ [Q13.2 + 1]))), Q27.2 + 1)))) (some (.inr Q27.1))
noncomputable def p_impl_indexOf_b0 (v0 : (List (List Tag))) (Q13 : (List Post) × Int) : Option (((List Post) × Int) ⊕ ((List Post))) := cond (decide (Q13.2 < (v0.length : Int))) (gd (ix Q13.2 v0.length) <| bd (lp (p_impl_indexOf_b1 v0 Q13) (Q13.1, 0)) fun x23 => gd (I64 (Q13.2 + 1)) <| some (.inl (x23, Q13.2 + 1))) (some (.inr Q13.1))
noncomputable def p_impl_indexOf (v0 : (List (List Tag))) : Option (Index) := bd (p_impl_cloneNames v0) fun r3 => bd (lp (p_impl_indexOf_b0 v0) (([] : List Post), 0)) fun x9 => bd (p_slices_SortFunc_Post_Post_indexOf_2 x9) fun r62 => some (r3, r62)
theorem c_impl_indexOf {r : Index} (v0 : (List (List Tag))) (x_v0 : Option Addr × Nat) (H : p_impl_indexOf v0 = some r) : Fn' Try.prog 65 #[.slice x_v0.1 v0.length x_v0.2] [imm (.slice x_v0.1 v0.length x_v0.2) v0] [] (ι := (Option Addr × Nat) × (Option Addr × Nat)) (fun x => .agg #[.slice x.1.1 r.1.length x.1.2, .slice x.2.1 r.2.length x.2.2]) (fun _ => []) (fun x => [tree (.slice x.1.1 r.1.length x.1.2) r.1, tree (.slice x.2.1 r.2.length x.2.2) r.2]) := by
 refine calls_of (args := [_]) Try.func65 rfl (by kernel_rfl) Try.ntmps65 (by simp) fun c => ?_
 unfold p_impl_indexOf at H
 refine Tr.openD Ent.z fun X1 => ?_
 refine Tr.seq (Tr.region ?_)
 refine Rg.ed (e_alloc ty26) rfl (by decide) ?_
 rintro _ _ _ ⟨g2, rfl, rfl, rfl⟩
 refine Rg.nl (nT ?_)
 refine Tr.seq (Tr.region ?_)
 refine Rg.q (v := .slice x_v0.1 v0.length x_v0.2) (Pu.qo (p_move rfl)) (by decide) ?_
 obtain ⟨r3, h4, H⟩ := bd.of H
 refine Rg.ed (e_callB (vs := [.slice x_v0.1 v0.length x_v0.2]) (c_impl_cloneNames v0 x_v0 h4) (fun _ => (Solo.tree Solo.nil)) rfl (EntsB.cons (Ent.b (Ent.dimm Ent.z)) EntsB.nil)) rfl (by decide) ?_
 rintro _ _ _ ⟨x5, rfl, rfl, rfl⟩
 refine Rg.ed (e_lit0 Post Try.underlying24 ty33) rfl (by decide) ?_
 rintro _ _ _ ⟨a6, c7, rfl, rfl, rfl⟩
 refine Rg.q (v := .agg #[.slice x5.1 r3.length x5.2, .slice a6 (([] : List Post).length) c7]) (Pu.qo (p_buildS (vs := [(0, .slice x5.1 r3.length x5.2), (1, .slice a6 (([] : List Post).length) c7)]) (cs := #[.slice x5.1 r3.length x5.2, .slice a6 (([] : List Post).length) c7]) ty26 pl26 rfl rfl)) (by decide) ?_
 refine Rg.ed (e_alloc ty26) rfl (by decide) ?_
 rintro _ _ _ ⟨g8, rfl, rfl, rfl⟩
 refine Rg.en (e_store (v := .agg #[.slice x5.1 r3.length x5.2, .slice a6 (([] : List Post).length) c7]) (cs' := [.slice x5.1 r3.length x5.2, .slice a6 (([] : List Post).length) c7]) ty26 rfl rfl Upd.here rfl (by simp [Value.cells, Value.oneCell']) (Nat.le_of_ble_eq_true rfl) rfl) rfl ?_
 rintro _ _ _ ⟨rfl, rfl, rfl⟩
 refine Rg.nl (nT ?_)
 refine Tr.seq (Tr.seq (Tr.region ?_))
 refine Rg.q (v := .slice x_v0.1 v0.length x_v0.2) (Pu.qo (p_move rfl)) (by decide) ?_
 refine Rg.q (v := .int .i64 ((v0.length : Int))) (Pu.qo (p_len 38 Try.underlying23 rfl)) (by decide) ?_
 refine Rg.q (v := .int .i64 (0)) (Pu.qo (p_move rfl)) (by decide) (Rg.nl (nT ?_))
 obtain ⟨x9, hx10, H⟩ := bd.of H
 obtain ⟨n11, hx10⟩ := lp.of hx10
 refine tMidNC (ι := Option Addr × Nat) (fun ψ => [(2, .pointer (some ⟨g2, 0, none⟩)), (3, .pointer (some ⟨g8, 0, none⟩))]) (fun ψ => [box g2 26 [.slice none 0 0, .slice none 0 0], tree (.slice x5.1 r3.length x5.2) r3, tree (.slice ψ.1 x9.length ψ.2) x9, box g8 26 [.slice x5.1 r3.length x5.2, .slice ψ.1 x9.length ψ.2]]) ?_ ?_
 ·refine Tr.block ?_
  refine tLoopC (ι := { q : Nat × ((List Post) × Int) × (Option Addr × Nat) // itr (p_impl_indexOf_b0 v0) q.1 q.2.1 = some x9 }) (fun ζ => [(2, .pointer (some ⟨g2, 0, none⟩)), (3, .pointer (some ⟨g8, 0, none⟩)), (13, .slice x_v0.1 v0.length x_v0.2), (14, .int .i64 ((v0.length : Int))), (15, .int .i64 (ζ.1.2.1.2))]) (fun ζ => [box g2 26 [.slice none 0 0, .slice none 0 0], tree (.slice x5.1 r3.length x5.2) r3, tree (.slice ζ.1.2.2.1 ζ.1.2.1.1.length ζ.1.2.2.2) ζ.1.2.1.1, box g8 26 [.slice x5.1 r3.length x5.2, .slice ζ.1.2.2.1 ζ.1.2.1.1.length ζ.1.2.2.2]]) (fun ζ => ζ.1.1) ⟨(n11, (([] : List Post), 0), (a6, c7)), hx10⟩ ⟨rfl, rfl, rfl, rfl, rfl, trivial⟩ (.cons Del.here.there.there.there (.cons Del.here.there.there (.cons Del.here.there (.cons Del.here .nil)))) ?_
  rintro ⟨⟨m12, Q13, z14⟩, hk19⟩
  obtain ⟨m20, t16, e, H1, hi17, hb18⟩ := itr.of (n := m12) (s := Q13) hk19
  subst e; unfold p_impl_indexOf_b0 at H1
  show Tr _ _ _ _ _ [(2, .pointer (some ⟨g2, 0, none⟩)), (3, .pointer (some ⟨g8, 0, none⟩)), (13, .slice x_v0.1 v0.length x_v0.2), (14, .int .i64 ((v0.length : Int))), (15, .int .i64 (Q13.2))] _ [box g2 26 [.slice none 0 0, .slice none 0 0], tree (.slice x5.1 r3.length x5.2) r3, tree (.slice z14.1 Q13.1.length z14.2) Q13.1, box g8 26 [.slice x5.1 r3.length x5.2, .slice z14.1 Q13.1.length z14.2]]
  refine Tr.seq (Tr.region ?_)
  refine Rg.q (v := .bool (decide (Q13.2 < (v0.length : Int)))) (Pu.qo (p_lss rfl rfl)) (by decide) (Rg.nl (nT ?_))
  refine Tr.seq ?_
  refine Tr.cond (b := decide (Q13.2 < (v0.length : Int))) rfl (fun h21 => ?_) (fun h21 => ?_)
  ·have H1 := cdT h21 H1
   refine tSkip ?_
   refine nT (Tr.seq ?_)
   refine Tr.block ?_
   refine Tr.seq (Tr.region ?_)
   refine Rg.q (v := .int .i64 (Q13.2)) (Pu.qo (p_move rfl)) (by decide) ?_
   obtain ⟨h22, H1⟩ := gd.of H1
   refine Rg.q (v := elp x_v0.1 (Q13.2.toNat * Enc.sz (List Tag) + 0)) (q_ixg (l := v0) (E := fun i => Dp.denc (nth v0 i) (X1 i)) (oa := x_v0.1) Try.underlying23 ty38 rfl rfl h22 rfl (Ent.b (Ent.darr Ent.z))) (by decide) ?_
   refine Rg.q (v := .slice ((X1 Q13.2.toNat).1) ((nth v0 Q13.2.toNat).length) ((X1 Q13.2.toNat).2.1)) (q_lde (l := v0) (E := fun i => Dp.denc (nth v0 i) (X1 i)) (oa := x_v0.1) (i := Q13.2.toNat) (j := 0) ty38 rfl (Ent.b (Ent.darr Ent.z)) h22.lt rfl) (by decide) ?_
   refine Rg.q (v := .int .i64 (Q13.2)) (Pu.qo (p_assign rfl)) (by decide) ?_
   refine Rg.q (v := .slice ((X1 Q13.2.toNat).1) ((nth v0 Q13.2.toNat).length) ((X1 Q13.2.toNat).2.1)) (Pu.qo (p_assign rfl)) (by decide) (Rg.nl (nT ?_))
   refine Tr.seq (Tr.region ?_)
   refine Rg.q (v := .slice ((X1 Q13.2.toNat).1) ((nth v0 Q13.2.toNat).length) ((X1 Q13.2.toNat).2.1)) (Pu.qo (p_move rfl)) (by decide) ?_
   refine Rg.q (v := .int .i64 (((nth v0 Q13.2.toNat).length : Int))) (Pu.qo (p_len 30 Try.underlying38 rfl)) (by decide) ?_
   refine Rg.q (v := .int .i64 (0)) (Pu.qo (p_move rfl)) (by decide) (Rg.nl (nT ?_))
   obtain ⟨x23, hx24, H1⟩ := bd.of H1
   obtain ⟨n25, hx24⟩ := lp.of hx24
   refine tMidNC (ι := Option Addr × Nat) (fun ψ => [(2, .pointer (some ⟨g2, 0, none⟩)), (3, .pointer (some ⟨g8, 0, none⟩)), (13, .slice x_v0.1 v0.length x_v0.2), (14, .int .i64 ((v0.length : Int))), (15, .int .i64 (Q13.2))]) (fun ψ => [box g2 26 [.slice none 0 0, .slice none 0 0], tree (.slice x5.1 r3.length x5.2) r3, tree (.slice ψ.1 x23.length ψ.2) x23, box g8 26 [.slice x5.1 r3.length x5.2, .slice ψ.1 x23.length ψ.2]]) ?_ ?_
   ·refine Tr.block ?_
    refine tLoopC (ι := { q : Nat × ((List Post) × Int) × (Option Addr × Nat) // itr (p_impl_indexOf_b1 v0 Q13) q.1 q.2.1 = some x23 }) (fun ζ => [(2, .pointer (some ⟨g2, 0, none⟩)), (3, .pointer (some ⟨g8, 0, none⟩)), (4, .int .i64 (Q13.2)), (13, .slice x_v0.1 v0.length x_v0.2), (14, .int .i64 ((v0.length : Int))), (15, .int .i64 (Q13.2)), (20, .slice ((X1 Q13.2.toNat).1) ((nth v0 Q13.2.toNat).length) ((X1 Q13.2.toNat).2.1)), (21, .int .i64 (((nth v0 Q13.2.toNat).length : Int))), (22, .int .i64 (ζ.1.2.1.2))]) (fun ζ => [box g2 26 [.slice none 0 0, .slice none 0 0], tree (.slice x5.1 r3.length x5.2) r3, tree (.slice ζ.1.2.2.1 ζ.1.2.1.1.length ζ.1.2.2.2) ζ.1.2.1.1, box g8 26 [.slice x5.1 r3.length x5.2, .slice ζ.1.2.2.1 ζ.1.2.1.1.length ζ.1.2.2.2]]) (fun ζ => ζ.1.1) ⟨(n25, (Q13.1, 0), (z14.1, z14.2)), hx24⟩ ⟨rfl, rfl, rfl, rfl, rfl, rfl, rfl, rfl, rfl, trivial⟩ (.cons Del.here (.cons Del.here (.cons Del.here (.cons Del.here .nil)))) ?_
    rintro ⟨⟨m26, Q27, z28⟩, hk33⟩
    obtain ⟨m34, t30, e, H2, hi31, hb32⟩ := itr.of (n := m26) (s := Q27) hk33
    subst e; unfold p_impl_indexOf_b1 at H2
    show Tr _ _ _ _ _ [(2, .pointer (some ⟨g2, 0, none⟩)), (3, .pointer (some ⟨g8, 0, none⟩)), (4, .int .i64 (Q13.2)), (13, .slice x_v0.1 v0.length x_v0.2), (14, .int .i64 ((v0.length : Int))), (15, .int .i64 (Q13.2)), (20, .slice ((X1 Q13.2.toNat).1) ((nth v0 Q13.2.toNat).length) ((X1 Q13.2.toNat).2.1)), (21, .int .i64 (((nth v0 Q13.2.toNat).length : Int))), (22, .int .i64 (Q27.2))] _ [box g2 26 [.slice none 0 0, .slice none 0 0], tree (.slice x5.1 r3.length x5.2) r3, tree (.slice z28.1 Q27.1.length z28.2) Q27.1, box g8 26 [.slice x5.1 r3.length x5.2, .slice z28.1 Q27.1.length z28.2]]
    refine Tr.seq (Tr.region ?_)
    refine Rg.q (v := .bool (decide (Q27.2 < ((nth v0 Q13.2.toNat).length : Int)))) (Pu.qo (p_lss rfl rfl)) (by decide) (Rg.nl (nT ?_))
    refine Tr.seq ?_
    refine Tr.cond (b := decide (Q27.2 < ((nth v0 Q13.2.toNat).length : Int))) rfl (fun h35 => ?_) (fun h35 => ?_)
    ·have H2 := cdT h35 H2
     refine tSkip ?_
     refine nT (Tr.seq ?_)
     refine Tr.block ?_
     refine Tr.seq (Tr.region ?_)
     obtain ⟨h36, H2⟩ := gd.of H2
     refine Rg.q (v := elp ((X1 Q13.2.toNat).1) (Q27.2.toNat * Enc.sz Tag + 0)) (q_ixg (l := nth v0 Q13.2.toNat) (E := fun i => Flat.enc (nth (nth v0 Q13.2.toNat) i)) (oa := (X1 Q13.2.toNat).1) Try.underlying38 ty30 rfl rfl h36 rfl (EntB.flat (Ent.b (Ent.dimm (Ent.del Ent.z h22.lt))))) (by decide) ?_
     refine Rg.q (v := .agg #[.string ((nth (nth v0 Q13.2.toNat) Q27.2.toNat).1), .string ((nth (nth v0 Q13.2.toNat) Q27.2.toNat).2)]) (q_ldeA (l := nth v0 Q13.2.toNat) (E := fun i => Flat.enc (nth (nth v0 Q13.2.toNat) i)) (oa := (X1 Q13.2.toNat).1) (i := Q27.2.toNat) ty30 rfl (EntB.flat (Ent.b (Ent.dimm (Ent.del Ent.z h22.lt)))) h36.lt) (by decide) ?_
     refine Rg.ed (e_alloc ty30) rfl (by decide) ?_
     rintro _ _ _ ⟨g37, rfl, rfl, rfl⟩
     refine Rg.en (e_store (v := .agg #[.string ((nth (nth v0 Q13.2.toNat) Q27.2.toNat).1), .string ((nth (nth v0 Q13.2.toNat) Q27.2.toNat).2)]) (cs' := [.string ((nth (nth v0 Q13.2.toNat) Q27.2.toNat).1), .string ((nth (nth v0 Q13.2.toNat) Q27.2.toNat).2)]) ty30 rfl rfl Upd.here rfl (by simp [Value.cells, Value.oneCell']) (Nat.le_of_ble_eq_true rfl) rfl) rfl ?_
     rintro _ _ _ ⟨rfl, rfl, rfl⟩
     refine Rg.nl (nT ?_)
     refine Tr.seq (Tr.region ?_)
     refine Rg.q (v := .pointer (some ⟨g8, 1, none⟩)) (Pu.qo (p_fabE fa26_1 rfl rfl)) (by decide) ?_
     refine Rg.q (v := .slice z28.1 Q27.1.length z28.2) (q_ldb ty24 rfl Has.here.there.there.there.there rfl) (by decide) ?_
     refine Rg.q (v := .func (.func 112) #[] #[.pointer (some ⟨g37, 0, none⟩)]) (Pu.qo (p_mkfunc (vs := [.pointer (some ⟨g37, 0, none⟩)]) rfl rfl)) (by decide) ?_
     obtain ⟨r38, h39, H2⟩ := bd.of H2
     refine Rg.q (v := .int .i64 (r38)) (q_callC (vs := [.slice z28.1 Q27.1.length z28.2, .func (.func 112) #[] #[.pointer (some ⟨g37, 0, none⟩)]]) (c_slices_IndexFunc_Post_Post_indexOf_1 Q27.1 z28 g37 (nth (nth v0 Q13.2.toNat) Q27.2.toNat) h39) (Solo.box Solo.nil) rfl (.cons Del.here .nil) (EntsB.cons (EntB.tree Has.here.there.there) EntsB.nil)) (by decide) ?_
     refine Rg.q (v := .int .i64 (r38)) (Pu.qo (p_assign rfl)) (by decide) (Rg.nl (nT ?_))
     refine Tr.seq (Tr.seq (Tr.region ?_))
     refine Rg.q (v := .int .i64 (r38)) (Pu.qo (p_move rfl)) (by decide) ?_
     refine Rg.q (v := .bool (decide (r38 < 0))) (Pu.qo (p_lss rfl rfl)) (by decide) (Rg.nl (nT ?_))
     refine Tr.cond (b := decide (r38 < 0)) rfl (fun h40 => ?_) (fun h40 => ?_)
     ·have H2 := cdT h40 H2
      refine Tr.seq (Tr.region ?_)
      refine Rg.q (v := .pointer (some ⟨g8, 1, none⟩)) (Pu.qo (p_fabE fa26_1 rfl rfl)) (by decide) ?_
      refine Rg.q (v := .slice z28.1 Q27.1.length z28.2) (q_ldb ty24 rfl Has.here.there.there.there.there rfl) (by decide) ?_
      refine Rg.q (v := .int .i64 ((Q27.1.length : Int))) (Pu.qo (p_len 33 Try.underlying24 rfl)) (by decide) ?_
      refine Rg.q (v := .int .i64 ((Q27.1.length : Int))) (Pu.qo (p_assign rfl)) (by decide) (Rg.nl (nT ?_))
      refine Tr.nilT Int ?_
      refine Tr.region ?_
      refine Rg.q (v := .pointer (some ⟨g8, 1, none⟩)) (Pu.qo (p_fabE fa26_1 rfl rfl)) (by decide) ?_
      refine Rg.q (v := .slice z28.1 Q27.1.length z28.2) (q_ldb ty24 rfl Has.here.there.there.there.there.there rfl) (by decide) ?_
      refine Rg.q (v := .agg #[.string ((nth (nth v0 Q13.2.toNat) Q27.2.toNat).1), .string ((nth (nth v0 Q13.2.toNat) Q27.2.toNat).2)]) (q_ldbA ty30 rfl Has.here.there rfl) (by decide) ?_
      refine Rg.q (v := .agg #[.string ((nth (nth v0 Q13.2.toNat) Q27.2.toNat).1), .string ((nth (nth v0 Q13.2.toNat) Q27.2.toNat).2), .slice none 0 0]) (Pu.qo (p_buildS (vs := [(0, .agg #[.string ((nth (nth v0 Q13.2.toNat) Q27.2.toNat).1), .string ((nth (nth v0 Q13.2.toNat) Q27.2.toNat).2)])]) (cs := #[.string ((nth (nth v0 Q13.2.toNat) Q27.2.toNat).1), .string ((nth (nth v0 Q13.2.toNat) Q27.2.toNat).2), .slice none 0 0]) ty33 pl33 rfl rfl)) (by decide) ?_
      refine Rg.ed (e_lit (vs := [(0, .agg #[.string ((nth (nth v0 Q13.2.toNat) Q27.2.toNat).1), .string ((nth (nth v0 Q13.2.toNat) Q27.2.toNat).2), .slice none 0 0])]) [.string ((nth (nth v0 Q13.2.toNat) Q27.2.toNat).1), .string ((nth (nth v0 Q13.2.toNat) Q27.2.toNat).2), .slice none 0 0] Try.underlying24 ty33 rfl (by decide) (by decide) (by kernel_rfl)) rfl (by decide) ?_
      rintro _ _ _ ⟨g41, rfl, rfl, rfl⟩
      obtain ⟨h44, H2⟩ := gd.of H2
      refine Rg.ed (e_app1 (l := Q27.1) (α := Post) ((nth (nth v0 Q13.2.toNat) Q27.2.toNat), ([])) (((), ()), (none, 0)) Try.underlying24 ty33 rfl rfl (h44.b (by decide)) h44.x rfl (ShpT.wfa _) (.cons Del.here.there.there.there.there.there (.cons Del.here (.cons Del.here .nil)))) rfl (by decide) ?_
      rintro _ _ _ ⟨a42, c43, rfl, rfl, rfl⟩
      refine Rg.q (v := .pointer (some ⟨g8, 1, none⟩)) (Pu.qo (p_fabE fa26_1 rfl rfl)) (by decide) ?_
      refine Rg.en (e_store (v := .slice a42 ((Q27.1 ++ [((nth (nth v0 Q13.2.toNat) Q27.2.toNat), ([]))]).length) c43) (cs' := [.slice x5.1 r3.length x5.2, .slice a42 ((Q27.1 ++ [((nth (nth v0 Q13.2.toNat) Q27.2.toNat), ([]))]).length) c43]) ty24 rfl rfl Upd.here.there.there.there.there rfl (by simp [Value.cells, Value.oneCell']) (Nat.le_of_ble_eq_true rfl) rfl) rfl ?_
      rintro _ _ _ ⟨rfl, rfl, rfl⟩
      refine Rg.nl (nT ?_)
      obtain ⟨h45, H2⟩ := gd.of H2
      refine Tr.zoom (k := (Q27.1.length : Int).toNat) h45.lt (.cons Del.here .nil) fun x46 => ?_
      show Tr _ _ _ _ _ _ _ (hole (.slice a42 ((Q27.1 ++ [((nth (nth v0 Q13.2.toNat) Q27.2.toNat), ([]))]).length) c43) (Q27.1 ++ [((nth (nth v0 Q13.2.toNat) Q27.2.toNat), ([]))]) ((Q27.1.length : Int).toNat) [.string (((nth (Q27.1 ++ [((nth (nth v0 Q13.2.toNat) Q27.2.toNat), ([]))]) ((Q27.1.length : Int).toNat)).1).1), .string (((nth (Q27.1 ++ [((nth (nth v0 Q13.2.toNat) Q27.2.toNat), ([]))]) ((Q27.1.length : Int).toNat)).1).2), .slice x46.2.1 (((nth (Q27.1 ++ [((nth (nth v0 Q13.2.toNat) Q27.2.toNat), ([]))]) ((Q27.1.length : Int).toNat)).2).length) x46.2.2] :: tree (.slice x46.2.1 (((nth (Q27.1 ++ [((nth (nth v0 Q13.2.toNat) Q27.2.toNat), ([]))]) ((Q27.1.length : Int).toNat)).2).length) x46.2.2) ((nth (Q27.1 ++ [((nth (nth v0 Q13.2.toNat) Q27.2.toNat), ([]))]) ((Q27.1.length : Int).toNat)).2) :: _)
      refine tNwS [(8, .int .i64 ((Q27.1.length : Int))), (2, .pointer (some ⟨g2, 0, none⟩)), (3, .pointer (some ⟨g8, 0, none⟩)), (4, .int .i64 (Q13.2)), (13, .slice x_v0.1 v0.length x_v0.2), (14, .int .i64 ((v0.length : Int))), (15, .int .i64 (Q13.2)), (20, .slice ((X1 Q13.2.toNat).1) ((nth v0 Q13.2.toNat).length) ((X1 Q13.2.toNat).2.1)), (21, .int .i64 (((nth v0 Q13.2.toNat).length : Int))), (22, .int .i64 (Q27.2))] 1 [0, 1, 2, 3, 4, 5, 6, 7, 8, 9, 10, 11, 12, 13, 14, 15] [11, 12, 15] [] Try.mixed (by kernel_rfl) (by decide) List.nodup_nil ⟨rfl, rfl, rfl, rfl, rfl, rfl, rfl, rfl, rfl, rfl, trivial⟩ rfl okNil ?_
      refine w_pu (v := .pointer (some ⟨g8, 1, none⟩)) rfl (by decide) rfl rfl rfl (p_fabE fa26_1 rfl rfl) ?_
      refine w_q (v := .slice a42 ((Q27.1 ++ [((nth (nth v0 Q13.2.toNat) Q27.2.toNat), ([]))]).length) c43) rfl (by decide) rfl rfl rfl (fun F => (q_ldb ty24 rfl (Has.here.there.there.there.there.there.app F) rfl)) ?_
      refine w_pu (v := .int .i64 ((Q27.1.length : Int))) rfl (by decide) rfl rfl rfl (p_move rfl) ?_
      refine w_pu (v := .pointer (some ⟨g8, 1, none⟩)) rfl (by decide) rfl rfl rfl (p_fabE fa26_1 rfl rfl) ?_
      refine w_q (v := .slice a42 ((Q27.1 ++ [((nth (nth v0 Q13.2.toNat) Q27.2.toNat), ([]))]).length) c43) rfl (by decide) rfl rfl rfl (fun F => (q_ldb ty24 rfl (Has.here.there.there.there.there.there.app F) rfl)) ?_
      refine w_pu (v := .int .i64 ((Q27.1.length : Int))) rfl (by decide) rfl rfl rfl (p_move rfl) ?_
      refine w_q (v := elp a42 (((Q27.1.length : Int).toNat) * Enc.sz Post + 0)) rfl (by decide) rfl rfl rfl (fun F => (q_ixH (k := (Q27.1.length : Int).toNat) Try.underlying24 ty33 rfl rfl h45 rfl (Has.here.app F))) ?_
      refine w_q (v := elp a42 (((Q27.1.length : Int).toNat) * Enc.sz Post + 2)) rfl (by decide) rfl rfl rfl (fun F => (q_faH (j := 0) (i := (Q27.1.length : Int).toNat) fa33_1 rfl (Has.here.app F) rfl)) ?_
      refine w_q (v := .slice x46.2.1 (((nth (Q27.1 ++ [((nth (nth v0 Q13.2.toNat) Q27.2.toNat), ([]))]) ((Q27.1.length : Int).toNat)).2).length) x46.2.2) rfl (by decide) rfl rfl rfl (fun F => (q_ldH (i := (Q27.1.length : Int).toNat) (j := 2) ty31 rfl (Has.here.app F) rfl)) ?_
      refine w_pu (v := .int .i64 (Q13.2)) rfl (by decide) rfl rfl rfl (p_move rfl) ?_
      obtain ⟨h47, H2⟩ := gd.of H2
      refine w_pu (v := .int .i64 (Q13.2 + 1)) rfl (by decide) rfl rfl rfl (p_add rfl rfl h47) ?_
      refine w_ed rfl (by decide) rfl Rdy.nil rfl (n_lit (vs := [(0, .int .i64 (Q13.2 + 1))]) [.int .i64 (Q13.2 + 1)] Try.underlying31 ty3 rfl (by decide) (by decide) (by kernel_rfl)) ?_
      rintro _ _ _ ⟨g48, rfl, rfl, rfl⟩
      refine ⟨(PdOk.q rfl rfl (fun F => (q_ldH (i := (Q27.1.length : Int).toNat) (j := 2) ty31 rfl (Has.here.there.app F) rfl)) (PdOk.q rfl rfl (fun F => (q_faH (j := 0) (i := (Q27.1.length : Int).toNat) fa33_1 rfl (Has.here.there.app F) rfl)) (PdOk.q rfl rfl (fun F => (q_ixH (k := (Q27.1.length : Int).toNat) Try.underlying24 ty33 rfl rfl h45 rfl (Has.here.there.app F))) (PdOk.q rfl rfl (fun F => (q_ldb ty24 rfl (Has.here.there.there.there.there.there.there.app F) rfl)) (PdOk.q rfl rfl (fun F => (q_ldb ty24 rfl (Has.here.there.there.there.there.there.there.app F) rfl)) PdOk.nil))))), ?_⟩
      obtain ⟨h51, H2⟩ := gd.of H2
      refine w_ed rfl (by decide) rfl Rdy.nil rfl (n_app1 (l := (nth (Q27.1 ++ [((nth (nth v0 Q13.2.toNat) Q27.2.toNat), ([]))]) ((Q27.1.length : Int).toNat)).2) (α := Int) (Q13.2 + 1) () Try.underlying31 ty3 rfl rfl (h51.b (by decide)) h51.x rfl (ShpT.wfa _) (.cons Del.here.there.there (.cons Del.here .nil))) ?_
      rintro _ _ _ ⟨a49, c50, rfl, rfl, rfl⟩
      refine ⟨(PdOk.anc (by kernel_rfl) (PdOk.q rfl rfl (fun F => (q_faH (j := 0) (i := (Q27.1.length : Int).toNat) fa33_1 rfl (Has.here.there.app F) rfl)) (PdOk.q rfl rfl (fun F => (q_ixH (k := (Q27.1.length : Int).toNat) Try.underlying24 ty33 rfl rfl h45 rfl (Has.here.there.app F))) (PdOk.q rfl rfl (fun F => (q_ldb ty24 rfl (Has.here.there.there.there.there.there.app F) rfl)) (PdOk.q rfl rfl (fun F => (q_ldb ty24 rfl (Has.here.there.there.there.there.there.app F) rfl)) PdOk.nil))))), ?_⟩
      refine w_q (v := elp a42 (((Q27.1.length : Int).toNat) * Enc.sz Post + 0)) rfl (by decide) rfl rfl rfl (fun F => (q_ixH (k := (Q27.1.length : Int).toNat) Try.underlying24 ty33 rfl rfl h45 rfl (Has.here.there.app F))) ?_
      refine w_q (v := elp a42 (((Q27.1.length : Int).toNat) * Enc.sz Post + 2)) rfl (by decide) rfl rfl rfl (fun F => (q_faH (j := 0) (i := (Q27.1.length : Int).toNat) fa33_1 rfl (Has.here.there.app F) rfl)) ?_
      refine w_en rfl rfl Rdy.nil rfl (n_stH (v := .slice a49 ((((nth (Q27.1 ++ [((nth (nth v0 Q13.2.toNat) Q27.2.toNat), ([]))]) ((Q27.1.length : Int).toNat)).2) ++ [Q13.2 + 1]).length) c50) (i := (Q27.1.length : Int).toNat) (j := 2) (cs' := [.string (((nth (Q27.1 ++ [((nth (nth v0 Q13.2.toNat) Q27.2.toNat), ([]))]) ((Q27.1.length : Int).toNat)).1).1), .string (((nth (Q27.1 ++ [((nth (nth v0 Q13.2.toNat) Q27.2.toNat), ([]))]) ((Q27.1.length : Int).toNat)).1).2), .slice a49 ((((nth (Q27.1 ++ [((nth (nth v0 Q13.2.toNat) Q27.2.toNat), ([]))]) ((Q27.1.length : Int).toNat)).2) ++ [Q13.2 + 1]).length) c50]) ty31 rfl rfl (.cons Del.here.there .nil) rfl (by simp [Value.cells, Value.oneCell']) (Nat.le_of_ble_eq_true rfl) rfl rfl) ?_
      rintro _ _ _ ⟨rfl, rfl, rfl⟩
      refine ⟨(PdOk.anc (by kernel_rfl) (PdOk.q rfl rfl (fun F => (q_ixH (k := (Q27.1.length : Int).toNat) Try.underlying24 ty33 rfl rfl h45 rfl (Has.here.app F))) (PdOk.anc (by kernel_rfl) (PdOk.anc (by kernel_rfl) (PdOk.anc (by kernel_rfl) (PdOk.anc (by kernel_rfl) (PdOk.anc (by kernel_rfl) PdOk.nil))))))), ?_⟩
      refine w_nil ?_
      show At _ _ _ _ _ _
      refine nB (nT (?_))
      refine Tr.region ?_
      obtain ⟨h52, H2⟩ := gd.of H2
      refine Rg.q (v := .int .i64 (Q27.2 + 1)) (Pu.qo (p_add rfl rfl h52)) (by decide) ?_
      refine Rg.q (v := .int .i64 (Q27.2 + 1)) (Pu.qo (p_move rfl)) (by decide) (Rg.nl ?_)
      refine At.unzoom (((nth (Q27.1 ++ [((nth (nth v0 Q13.2.toNat) Q27.2.toNat), ([]))]) ((Q27.1.length : Int).toNat)).1), (((nth (Q27.1 ++ [((nth (nth v0 Q13.2.toNat) Q27.2.toNat), ([]))]) ((Q27.1.length : Int).toNat)).2) ++ [Q13.2 + 1])) (((), ()), (a49, c50)) rfl (.cons Del.here (.cons Del.here .nil)) ?_
      refine At.olen Has.here fun hn => ?_; rw [hn]
      exact nLC ⟨(m34, (((Q27.1 ++ [((nth (nth v0 Q13.2.toNat) Q27.2.toNat), ([]))]).set ((Q27.1.length : Int).toNat) (((nth (Q27.1 ++ [((nth (nth v0 Q13.2.toNat) Q27.2.toNat), ([]))]) ((Q27.1.length : Int).toNat)).1), (((nth (Q27.1 ++ [((nth (nth v0 Q13.2.toNat) Q27.2.toNat), ([]))]) ((Q27.1.length : Int).toNat)).2) ++ [Q13.2 + 1]))), Q27.2 + 1), (a42, c43)), hi31 _ (Option.some.inj H2).symm⟩ (Nat.lt_succ_self _) ⟨rfl, rfl, rfl, rfl, rfl, rfl, rfl, rfl, rfl, trivial⟩ Ents.refl (.cons Del.here.there.there (.cons Del.here.there.there (.cons Del.here (.cons Del.here.there .nil))))
     ·have H2 := cdF h40 H2
      refine tSkip ?_
      refine nT (?_)
      obtain ⟨h53, H2⟩ := gd.of H2
      refine Tr.zoom (k := r38.toNat) h53.lt (.cons Del.here.there.there.there .nil) fun x54 => ?_
      show Tr _ _ _ _ _ _ _ (hole (.slice z28.1 Q27.1.length z28.2) Q27.1 r38.toNat [.string (((nth Q27.1 r38.toNat).1).1), .string (((nth Q27.1 r38.toNat).1).2), .slice x54.2.1 (((nth Q27.1 r38.toNat).2).length) x54.2.2] :: tree (.slice x54.2.1 (((nth Q27.1 r38.toNat).2).length) x54.2.2) ((nth Q27.1 r38.toNat).2) :: _)
      refine tNwS [(8, .int .i64 (r38)), (2, .pointer (some ⟨g2, 0, none⟩)), (3, .pointer (some ⟨g8, 0, none⟩)), (4, .int .i64 (Q13.2)), (13, .slice x_v0.1 v0.length x_v0.2), (14, .int .i64 ((v0.length : Int))), (15, .int .i64 (Q13.2)), (20, .slice ((X1 Q13.2.toNat).1) ((nth v0 Q13.2.toNat).length) ((X1 Q13.2.toNat).2.1)), (21, .int .i64 (((nth v0 Q13.2.toNat).length : Int))), (22, .int .i64 (Q27.2))] 1 [0, 1, 2, 3, 4, 5, 6, 7, 8, 9, 10, 11, 12, 13, 14, 15] [11, 12, 15] [] Try.mixed (by kernel_rfl) (by decide) List.nodup_nil ⟨rfl, rfl, rfl, rfl, rfl, rfl, rfl, rfl, rfl, rfl, trivial⟩ rfl okNil ?_
      refine w_pu (v := .pointer (some ⟨g8, 1, none⟩)) rfl (by decide) rfl rfl rfl (p_fabE fa26_1 rfl rfl) ?_
      refine w_q (v := .slice z28.1 Q27.1.length z28.2) rfl (by decide) rfl rfl rfl (fun F => (q_ldb ty24 rfl (Has.here.there.there.there.there.there.app F) rfl)) ?_
      refine w_pu (v := .int .i64 (r38)) rfl (by decide) rfl rfl rfl (p_move rfl) ?_
      refine w_pu (v := .pointer (some ⟨g8, 1, none⟩)) rfl (by decide) rfl rfl rfl (p_fabE fa26_1 rfl rfl) ?_
      refine w_q (v := .slice z28.1 Q27.1.length z28.2) rfl (by decide) rfl rfl rfl (fun F => (q_ldb ty24 rfl (Has.here.there.there.there.there.there.app F) rfl)) ?_
      refine w_pu (v := .int .i64 (r38)) rfl (by decide) rfl rfl rfl (p_move rfl) ?_
      refine w_q (v := elp z28.1 (r38.toNat * Enc.sz Post + 0)) rfl (by decide) rfl rfl rfl (fun F => (q_ixH (k := r38.toNat) Try.underlying24 ty33 rfl rfl h53 rfl (Has.here.app F))) ?_
      refine w_q (v := elp z28.1 (r38.toNat * Enc.sz Post + 2)) rfl (by decide) rfl rfl rfl (fun F => (q_faH (j := 0) (i := r38.toNat) fa33_1 rfl (Has.here.app F) rfl)) ?_
      refine w_q (v := .slice x54.2.1 (((nth Q27.1 r38.toNat).2).length) x54.2.2) rfl (by decide) rfl rfl rfl (fun F => (q_ldH (i := r38.toNat) (j := 2) ty31 rfl (Has.here.app F) rfl)) ?_
      refine w_pu (v := .int .i64 (Q13.2)) rfl (by decide) rfl rfl rfl (p_move rfl) ?_
      obtain ⟨h55, H2⟩ := gd.of H2
      refine w_pu (v := .int .i64 (Q13.2 + 1)) rfl (by decide) rfl rfl rfl (p_add rfl rfl h55) ?_
      refine w_ed rfl (by decide) rfl Rdy.nil rfl (n_lit (vs := [(0, .int .i64 (Q13.2 + 1))]) [.int .i64 (Q13.2 + 1)] Try.underlying31 ty3 rfl (by decide) (by decide) (by kernel_rfl)) ?_
      rintro _ _ _ ⟨g56, rfl, rfl, rfl⟩
      refine ⟨(PdOk.q rfl rfl (fun F => (q_ldH (i := r38.toNat) (j := 2) ty31 rfl (Has.here.there.app F) rfl)) (PdOk.q rfl rfl (fun F => (q_faH (j := 0) (i := r38.toNat) fa33_1 rfl (Has.here.there.app F) rfl)) (PdOk.q rfl rfl (fun F => (q_ixH (k := r38.toNat) Try.underlying24 ty33 rfl rfl h53 rfl (Has.here.there.app F))) (PdOk.q rfl rfl (fun F => (q_ldb ty24 rfl (Has.here.there.there.there.there.there.there.app F) rfl)) (PdOk.q rfl rfl (fun F => (q_ldb ty24 rfl (Has.here.there.there.there.there.there.there.app F) rfl)) PdOk.nil))))), ?_⟩
      obtain ⟨h59, H2⟩ := gd.of H2
      refine w_ed rfl (by decide) rfl Rdy.nil rfl (n_app1 (l := (nth Q27.1 r38.toNat).2) (α := Int) (Q13.2 + 1) () Try.underlying31 ty3 rfl rfl (h59.b (by decide)) h59.x rfl (ShpT.wfa _) (.cons Del.here.there.there (.cons Del.here .nil))) ?_
      rintro _ _ _ ⟨a57, c58, rfl, rfl, rfl⟩
      refine ⟨(PdOk.anc (by kernel_rfl) (PdOk.q rfl rfl (fun F => (q_faH (j := 0) (i := r38.toNat) fa33_1 rfl (Has.here.there.app F) rfl)) (PdOk.q rfl rfl (fun F => (q_ixH (k := r38.toNat) Try.underlying24 ty33 rfl rfl h53 rfl (Has.here.there.app F))) (PdOk.q rfl rfl (fun F => (q_ldb ty24 rfl (Has.here.there.there.there.there.there.app F) rfl)) (PdOk.q rfl rfl (fun F => (q_ldb ty24 rfl (Has.here.there.there.there.there.there.app F) rfl)) PdOk.nil))))), ?_⟩
      refine w_q (v := elp z28.1 (r38.toNat * Enc.sz Post + 0)) rfl (by decide) rfl rfl rfl (fun F => (q_ixH (k := r38.toNat) Try.underlying24 ty33 rfl rfl h53 rfl (Has.here.there.app F))) ?_
      refine w_q (v := elp z28.1 (r38.toNat * Enc.sz Post + 2)) rfl (by decide) rfl rfl rfl (fun F => (q_faH (j := 0) (i := r38.toNat) fa33_1 rfl (Has.here.there.app F) rfl)) ?_
      refine w_en rfl rfl Rdy.nil rfl (n_stH (v := .slice a57 ((((nth Q27.1 r38.toNat).2) ++ [Q13.2 + 1]).length) c58) (i := r38.toNat) (j := 2) (cs' := [.string (((nth Q27.1 r38.toNat).1).1), .string (((nth Q27.1 r38.toNat).1).2), .slice a57 ((((nth Q27.1 r38.toNat).2) ++ [Q13.2 + 1]).length) c58]) ty31 rfl rfl (.cons Del.here.there .nil) rfl (by simp [Value.cells, Value.oneCell']) (Nat.le_of_ble_eq_true rfl) rfl rfl) ?_
      rintro _ _ _ ⟨rfl, rfl, rfl⟩
      refine ⟨(PdOk.anc (by kernel_rfl) (PdOk.q rfl rfl (fun F => (q_ixH (k := r38.toNat) Try.underlying24 ty33 rfl rfl h53 rfl (Has.here.app F))) (PdOk.anc (by kernel_rfl) (PdOk.anc (by kernel_rfl) (PdOk.anc (by kernel_rfl) (PdOk.anc (by kernel_rfl) (PdOk.anc (by kernel_rfl) PdOk.nil))))))), ?_⟩
      refine w_nil ?_
      show At _ _ _ _ _ _
      refine nB (nT (?_))
      refine Tr.region ?_
      obtain ⟨h60, H2⟩ := gd.of H2
      refine Rg.q (v := .int .i64 (Q27.2 + 1)) (Pu.qo (p_add rfl rfl h60)) (by decide) ?_
      refine Rg.q (v := .int .i64 (Q27.2 + 1)) (Pu.qo (p_move rfl)) (by decide) (Rg.nl ?_)
      refine At.unzoom (((nth Q27.1 r38.toNat).1), (((nth Q27.1 r38.toNat).2) ++ [Q13.2 + 1])) (((), ()), (a57, c58)) rfl (.cons Del.here (.cons Del.here .nil)) ?_
      refine At.olen Has.here fun hn => ?_; rw [hn]
      exact nLC ⟨(m34, ((Q27.1.set r38.toNat (((nth Q27.1 r38.toNat).1), (((nth Q27.1 r38.toNat).2) ++ [Q13.2 + 1]))), Q27.2 + 1), (z28.1, z28.2)), hi31 _ (Option.some.inj H2).symm⟩ (Nat.lt_succ_self _) ⟨rfl, rfl, rfl, rfl, rfl, rfl, rfl, rfl, rfl, trivial⟩ Ents.refl (.cons Del.here.there.there (.cons Del.here.there.there (.cons Del.here (.cons Del.here.there .nil))))
    ·have H2 := cdF h35 H2
     refine tExit (xT (xT (xE (?_))))
     have hx := hb32 _ (Option.some.inj H2).symm; subst hx
     exact nMC (z28.1, z28.2) ⟨rfl, rfl, rfl, rfl, rfl, trivial⟩ Ents.refl (.cons Del.here (.cons Del.here (.cons Del.here (.cons Del.here .nil))))
   ·intro y29
    show At _ _ [(2, .pointer (some ⟨g2, 0, none⟩)), (3, .pointer (some ⟨g8, 0, none⟩)), (13, .slice x_v0.1 v0.length x_v0.2), (14, .int .i64 ((v0.length : Int))), (15, .int .i64 (Q13.2))] _ [box g2 26 [.slice none 0 0, .slice none 0 0], tree (.slice x5.1 r3.length x5.2) r3, tree (.slice y29.1 x23.length y29.2) x23, box g8 26 [.slice x5.1 r3.length x5.2, .slice y29.1 x23.length y29.2]] _
    refine nB (nT (?_))
    refine Tr.region ?_
    obtain ⟨h61, H1⟩ := gd.of H1
    refine Rg.q (v := .int .i64 (Q13.2 + 1)) (Pu.qo (p_add rfl rfl h61)) (by decide) ?_
    refine Rg.q (v := .int .i64 (Q13.2 + 1)) (Pu.qo (p_move rfl)) (by decide) (Rg.nl ?_)
    exact nLC ⟨(m20, (x23, Q13.2 + 1), (y29.1, y29.2)), hi17 _ (Option.some.inj H1).symm⟩ (Nat.lt_succ_self _) ⟨rfl, rfl, rfl, rfl, rfl, trivial⟩ Ents.refl (.cons Del.here (.cons Del.here (.cons Del.here (.cons Del.here .nil))))
  ·have H1 := cdF h21 H1
   refine tExit (xT (xT (xE (?_))))
   have hx := hb18 _ (Option.some.inj H1).symm; subst hx
   exact nMC (z14.1, z14.2) ⟨rfl, rfl, trivial⟩ Ents.refl (.cons Del.here (.cons Del.here (.cons Del.here (.cons Del.here .nil))))
 ·intro y15
  show At _ _ [(2, .pointer (some ⟨g2, 0, none⟩)), (3, .pointer (some ⟨g8, 0, none⟩))] _ [box g2 26 [.slice none 0 0, .slice none 0 0], tree (.slice x5.1 r3.length x5.2) r3, tree (.slice y15.1 x9.length y15.2) x9, box g8 26 [.slice x5.1 r3.length x5.2, .slice y15.1 x9.length y15.2]] _
  refine nT (?_)
  refine Tr.seq (Tr.region ?_)
  refine Rg.q (v := .pointer (some ⟨g8, 1, none⟩)) (Pu.qo (p_fabE fa26_1 rfl rfl)) (by decide) ?_
  refine Rg.q (v := .slice y15.1 x9.length y15.2) (q_ldb ty24 rfl Has.here.there.there.there rfl) (by decide) ?_
  obtain ⟨r62, h63, H⟩ := bd.of H
  refine Rg.ed (e_callM (vs := [.slice y15.1 x9.length y15.2, .func (.func 114) #[] #[]]) (c_slices_SortFunc_Post_Post_indexOf_2 x9 y15 x9.length rfl h63) (Solo.tree Solo.nil) (fun _ => (Solo.tree Solo.nil)) rfl (.cons Del.here.there.there .nil) EntsB.nil) rfl (by decide) ?_
  rintro _ _ _ ⟨u64, rfl, rfl, rfl⟩
  refine Rg.nl (nT ?_)
  refine Tr.seq ?_
  refine Tr.olen Has.here fun hn => ?_; rw [hn]
  refine Tr.region ?_
  refine Rg.q (v := .agg #[.slice x5.1 r3.length x5.2, .slice y15.1 r62.length y15.2]) (q_ldbA ty26 rfl Has.here.there.there.there rfl) (by decide) ?_
  refine Rg.en (e_store (v := .agg #[.slice x5.1 r3.length x5.2, .slice y15.1 r62.length y15.2]) (cs' := [.slice x5.1 r3.length x5.2, .slice y15.1 r62.length y15.2]) ty26 rfl rfl Upd.here.there rfl (by simp [Value.cells, Value.oneCell']) (Nat.le_of_ble_eq_true rfl) rfl) rfl ?_
  rintro _ _ _ ⟨rfl, rfl, rfl⟩
  refine Rg.nl (nT ?_)
  refine tRet ?_
  have hr := Option.some.inj H; subst hr
  exact back1 (x5, y15) rfl (ResV.agg ty26 rfl Has.here.there rfl) rfl Ents.nil (.cons Del.here.there.there (.cons Del.here .nil))
noncomputable def p_slices_Equal_int_int_b0 (v0 : (List Int)) (v1 : (List Int)) (Q6 : Int) : Option ((Int) ⊕ (Unit ⊕ Bool)) := cond (decide (Q6 < (v0.length : Int))) (gd (ix Q6 v0.length) <| gd (ix Q6 v1.length) <| cond (!decide ((nth v0 Q6.toNat) = (nth v1 Q6.toNat))) (some (.inr (.inr false))) (gd (I64 (Q6 + 1)) <| some (.inl (Q6 + 1)))) (some (.inr (.inl ())))
noncomputable def p_slices_Equal_int_int (v0 : (List Int)) (v1 : (List Int)) : Option (Bool) := cond (!decide ((v0.length : Int) = (v1.length : Int))) (some false) (bd (lp (p_slices_Equal_int_int_b0 v0 v1) 0) <| sw (fun _ => some true) (fun q => some q))
theorem c_slices_Equal_int_int {r : Bool} (v0 : (List Int)) (x_v0 : Option Addr × Nat) (v1 : (List Int)) (x_v1 : Option Addr × Nat) (H : p_slices_Equal_int_int v0 v1 = some r) : Fn' Try.prog 67 #[.slice x_v0.1 v0.length x_v0.2, .slice x_v1.1 v1.length x_v1.2] [imm (.slice x_v0.1 v0.length x_v0.2) v0, imm (.slice x_v1.1 v1.length x_v1.2) v1] [] (ι := Unit) (fun _ => .bool (r)) (fun _ => []) (fun _ => []) := by
 refine calls_of (args := [_, _]) Try.func67 rfl (by kernel_rfl) Try.ntmps67 (by simp) fun c => ?_
 unfold p_slices_Equal_int_int at H
 refine Tr.seq (Tr.region ?_)
 refine Rg.q (v := .bool (false)) (Pu.qo (p_assign rfl)) (by decide) (Rg.nl (nT ?_))
 refine Tr.seq (Tr.seq (Tr.region ?_))
 refine Rg.q (v := .slice x_v0.1 v0.length x_v0.2) (Pu.qo (p_move rfl)) (by decide) ?_
 refine Rg.q (v := .int .i64 ((v0.length : Int))) (Pu.qo (p_len 3 Try.underlying31 rfl)) (by decide) ?_
 refine Rg.q (v := .slice x_v1.1 v1.length x_v1.2) (Pu.qo (p_move rfl)) (by decide) ?_
 refine Rg.q (v := .int .i64 ((v1.length : Int))) (Pu.qo (p_len 3 Try.underlying31 rfl)) (by decide) ?_
 refine Rg.q (v := .bool (!decide ((v0.length : Int) = (v1.length : Int)))) (Pu.qo (p_neq rfl rfl)) (by decide) (Rg.nl (nT ?_))
 refine Tr.cond (b := !decide ((v0.length : Int) = (v1.length : Int))) rfl (fun h1 => ?_) (fun h1 => ?_)
 ·have H := cdT h1 H
  refine Tr.seq (Tr.region ?_)
  refine Rg.q (v := .bool (false)) (Pu.qo (p_assign rfl)) (by decide) (Rg.nl (nT ?_))
  refine tRet ?_
  refine rT (?_)
  have hr := Option.some.inj H; subst hr
  exact back1 () rfl (ResV.tmp (v := .bool (false)) rfl) rfl Ents.nil Take.nil
 ·have H := cdF h1 H
  refine tSkip ?_
  refine nT (?_)
  refine Tr.seq (Tr.seq (Tr.region ?_))
  refine Rg.q (v := .slice x_v0.1 v0.length x_v0.2) (Pu.qo (p_move rfl)) (by decide) ?_
  refine Rg.q (v := .int .i64 ((v0.length : Int))) (Pu.qo (p_len 3 Try.underlying31 rfl)) (by decide) ?_
  refine Rg.q (v := .int .i64 (0)) (Pu.qo (p_move rfl)) (by decide) (Rg.nl (nT ?_))
  obtain ⟨x2, hx3, H⟩ := bd.of H
  obtain ⟨n4, hx3⟩ := lp.of hx3
  refine tMidNC (ι := { q : (Unit) × Unit // x2 = .inl q.1 }) (fun ψ => []) (fun ψ => []) ?_ ?_
  ·refine Tr.block ?_
   refine tLoopC (ι := { q : Nat × (Int) × Unit // itr (p_slices_Equal_int_int_b0 v0 v1) q.1 q.2.1 = some x2 }) (fun ζ => [(0, .slice x_v0.1 v0.length x_v0.2), (1, .slice x_v1.1 v1.length x_v1.2), (12, .int .i64 ((v0.length : Int))), (13, .int .i64 (ζ.1.2.1))]) (fun ζ => []) (fun ζ => ζ.1.1) ⟨(n4, 0, ()), hx3⟩ ⟨rfl, rfl, rfl, rfl, trivial⟩ Take.nil ?_
   rintro ⟨⟨m5, Q6, z7⟩, hk12⟩
   obtain ⟨m13, t9, e, H1, hi10, hb11⟩ := itr.of (n := m5) (s := Q6) hk12
   subst e; unfold p_slices_Equal_int_int_b0 at H1
   show Tr _ _ _ _ _ [(0, .slice x_v0.1 v0.length x_v0.2), (1, .slice x_v1.1 v1.length x_v1.2), (12, .int .i64 ((v0.length : Int))), (13, .int .i64 (Q6))] _ []
   refine Tr.seq (Tr.region ?_)
   refine Rg.q (v := .bool (decide (Q6 < (v0.length : Int)))) (Pu.qo (p_lss rfl rfl)) (by decide) (Rg.nl (nT ?_))
   refine Tr.seq ?_
   refine Tr.cond (b := decide (Q6 < (v0.length : Int))) rfl (fun h14 => ?_) (fun h14 => ?_)
   ·have H1 := cdT h14 H1
    refine tSkip ?_
    refine nT (Tr.seq ?_)
    refine Tr.block ?_
    refine Tr.seq (Tr.region ?_)
    refine Rg.q (v := .int .i64 (Q6)) (Pu.qo (p_move rfl)) (by decide) ?_
    refine Rg.q (v := .int .i64 (Q6)) (Pu.qo (p_assign rfl)) (by decide) (Rg.nl (nT ?_))
    refine Tr.seq ?_
    refine tLinS [(5, .int .i64 (Q6)), (0, .slice x_v0.1 v0.length x_v0.2), (1, .slice x_v1.1 v1.length x_v1.2), (12, .int .i64 ((v0.length : Int))), (13, .int .i64 (Q6))] Try.mixed (.inr (by kernel_rfl)) ⟨rfl, rfl, rfl, rfl, rfl, trivial⟩ rfl ?_
    refine Lin.q (v := .slice x_v0.1 v0.length x_v0.2) (by decide) (Pu.qo (p_move rfl)) ?_
    refine Lin.q (v := .int .i64 (Q6)) (by decide) (Pu.qo (p_move rfl)) ?_
    obtain ⟨h15, H1⟩ := gd.of H1
    refine Lin.q (v := elp x_v0.1 (Q6.toNat * Enc.sz Int + 0)) (by decide) (q_ixg (l := v0) (E := fun i => Flat.enc (nth v0 i)) (oa := x_v0.1) Try.underlying31 ty3 rfl rfl h15 rfl (EntB.flat (Ent.b Ent.z))) ?_
    refine Lin.q (v := .int .i64 (nth v0 Q6.toNat)) (by decide) (q_lde (l := v0) (E := fun i => Flat.enc (nth v0 i)) (oa := x_v0.1) (i := Q6.toNat) (j := 0) ty3 rfl (EntB.flat (Ent.b Ent.z)) h15.lt rfl) ?_
    refine Lin.q (v := .slice x_v1.1 v1.length x_v1.2) (by decide) (Pu.qo (p_move rfl)) ?_
    refine Lin.q (v := .int .i64 (Q6)) (by decide) (Pu.qo (p_move rfl)) ?_
    obtain ⟨h16, H1⟩ := gd.of H1
    refine Lin.q (v := elp x_v1.1 (Q6.toNat * Enc.sz Int + 0)) (by decide) (q_ixg (l := v1) (E := fun i => Flat.enc (nth v1 i)) (oa := x_v1.1) Try.underlying31 ty3 rfl rfl h16 rfl (EntB.flat (Ent.b Ent.z.s))) ?_
    refine Lin.q (v := .int .i64 (nth v1 Q6.toNat)) (by decide) (q_lde (l := v1) (E := fun i => Flat.enc (nth v1 i)) (oa := x_v1.1) (i := Q6.toNat) (j := 0) ty3 rfl (EntB.flat (Ent.b Ent.z.s)) h16.lt rfl) ?_
    refine Lin.q (v := .bool (!decide ((nth v0 Q6.toNat) = (nth v1 Q6.toNat)))) (by decide) (Pu.qo (p_neq rfl rfl)) ?_
    show At _ _ _ _ _ _
    refine nT (?_)
    refine Tr.cond (b := !decide ((nth v0 Q6.toNat) = (nth v1 Q6.toNat))) rfl (fun h17 => ?_) (fun h17 => ?_)
    ·have H1 := cdT h17 H1
     refine Tr.seq (Tr.region ?_)
     refine Rg.q (v := .bool (false)) (Pu.qo (p_assign rfl)) (by decide) (Rg.nl (nT ?_))
     refine tRet ?_
     refine rB (rT (rT (rB (rT (rT (?_))))))
     have hx := hb11 _ (Option.some.inj H1).symm; subst hx
     replace H := sw.r H
     have hr := Option.some.inj H; subst hr
     exact back1 () rfl (ResV.tmp (v := .bool (false)) rfl) rfl Ents.nil Take.nil
    ·have H1 := cdF h17 H1
     refine tSkip ?_
     refine nB (nT (?_))
     refine Tr.region ?_
     obtain ⟨h18, H1⟩ := gd.of H1
     refine Rg.q (v := .int .i64 (Q6 + 1)) (Pu.qo (p_add rfl rfl h18)) (by decide) ?_
     refine Rg.q (v := .int .i64 (Q6 + 1)) (Pu.qo (p_move rfl)) (by decide) (Rg.nl ?_)
     exact nLC ⟨(m13, Q6 + 1, ()), hi10 _ (Option.some.inj H1).symm⟩ (Nat.lt_succ_self _) ⟨rfl, rfl, rfl, rfl, trivial⟩ Ents.refl Take.nil
   ·have H1 := cdF h14 H1
    refine tExit (xT (xT (xE (?_))))
    exact nMC ⟨((), ()), (hb11 _ (Option.some.inj H1).symm).symm⟩ trivial Ents.refl Take.nil
  ·rintro ⟨⟨e19, y8⟩, hx⟩; subst hx; replace H := sw.l H
   show At _ _ [] _ [] _
   refine nT (?_)
   refine Tr.seq (Tr.region ?_)
   refine Rg.q (v := .bool (true)) (Pu.qo (p_assign rfl)) (by decide) (Rg.nl (nT ?_))
   refine tRet ?_
   have hr := Option.some.inj H; subst hr
   exact back1 () rfl (ResV.tmp (v := .bool (true)) rfl) rfl Ents.nil Take.nil
noncomputable def p_impl_IndexOk_1 (v0 : Post) (v1 : Post) : Option (Bool) := bd (cond (decide (v0.1 = v1.1)) (bd (p_slices_Equal_int_int v0.2 v1.2) fun r6 => some (r6)) (some (false))) fun b3 => some b3
theorem c_impl_IndexOk_1 {r : Bool} (v0 : Post) (x_v0 : (Unit × Unit) × (Option Addr × Nat)) (v1 : Post) (x_v1 : (Unit × Unit) × (Option Addr × Nat)) (H : p_impl_IndexOk_1 v0 v1 = some r) : Fn' Try.prog 66 #[.agg #[.string (v0.1.1), .string (v0.1.2), .slice x_v0.2.1 v0.2.length x_v0.2.2], .agg #[.string (v1.1.1), .string (v1.1.2), .slice x_v1.2.1 v1.2.length x_v1.2.2]] [imm (.slice x_v0.2.1 v0.2.length x_v0.2.2) v0.2, imm (.slice x_v1.2.1 v1.2.length x_v1.2.2) v1.2] [] (ι := Unit) (fun _ => .bool (r)) (fun _ => []) (fun _ => []) := by
 refine calls_of (args := [_, _]) Try.func66 rfl (by kernel_rfl) Try.ntmps66 (by simp) fun c => ?_
 unfold p_impl_IndexOk_1 at H
 refine Tr.seq (Tr.region ?_)
 refine Rg.ed (e_box (t := 33) (v := .agg #[.string (v0.1.1), .string (v0.1.2), .slice x_v0.2.1 v0.2.length x_v0.2.2]) rfl) rfl (by decide) ?_
 rintro _ _ _ ⟨g1, rfl, rfl, rfl⟩
 refine Rg.ed (e_box (t := 33) (v := .agg #[.string (v1.1.1), .string (v1.1.2), .slice x_v1.2.1 v1.2.length x_v1.2.2]) rfl) rfl (by decide) ?_
 rintro _ _ _ ⟨g2, rfl, rfl, rfl⟩
 refine Rg.q (v := .bool (false)) (Pu.qo (p_assign rfl)) (by decide) (Rg.nl (nT ?_))
 obtain ⟨b3, j4, H⟩ := bd.of H
 refine tMid1 [(4, .bool (b3))] ?_ ?_
 ·refine tLinT [(3, .pointer (some ⟨g2, 0, none⟩)), (2, .pointer (some ⟨g1, 0, none⟩))] ⟨rfl, rfl, trivial⟩ ?_
  refine Lin.q (v := .pointer (some ⟨g1, 0, none⟩)) (by decide) (Pu.qo (p_fabE fa33_0 rfl rfl)) ?_
  refine Lin.q (v := .agg #[.string (v0.1.1), .string (v0.1.2)]) (by decide) (q_ldbP [.string (v0.1.1), .string (v0.1.2)] ty30 rfl Has.here.there rfl rfl) ?_
  refine Lin.q (v := .pointer (some ⟨g2, 0, none⟩)) (by decide) (Pu.qo (p_fabE fa33_0 rfl rfl)) ?_
  refine Lin.q (v := .agg #[.string (v1.1.1), .string (v1.1.2)]) (by decide) (q_ldbP [.string (v1.1.1), .string (v1.1.2)] ty30 rfl Has.here rfl rfl) ?_
  refine Lin.q (v := .bool (decide (v0.1 = v1.1))) (by decide) (Pu.qo (p_aeql (a := v0.1) (b := v1.1) ae30 rfl rfl rfl rfl)) ?_
  rcases Bool.eq_false_or_eq_true (decide (v0.1 = v1.1)) with h5 | h5
  ·have j4 := cdT h5 j4
   refine Lin.q (v := .bool (true)) (by decide) (Qo.eqv (v := .bool (decide (v0.1 = v1.1))) (Pu.qo (p_move rfl)) (congrArg Value.bool h5)) ?_
   refine Lin.g (v := .pointer (some ⟨g1, 2, none⟩)) (by decide) rfl (Pu.qo (p_fabE fa33_1 rfl rfl)) ?_
   refine Lin.g (v := .slice x_v0.2.1 v0.2.length x_v0.2.2) (by decide) rfl (q_ldb ty31 rfl Has.here.there rfl) ?_
   refine Lin.g (v := .pointer (some ⟨g2, 2, none⟩)) (by decide) rfl (Pu.qo (p_fabE fa33_1 rfl rfl)) ?_
   refine Lin.g (v := .slice x_v1.2.1 v1.2.length x_v1.2.2) (by decide) rfl (q_ldb ty31 rfl Has.here rfl) ?_
   obtain ⟨r6, h7, j4⟩ := bd.of j4
   refine Lin.g (v := .bool (r6)) (by decide) rfl (q_call (vs := [.slice x_v0.2.1 v0.2.length x_v0.2.2, .slice x_v1.2.1 v1.2.length x_v1.2.2]) (c_slices_Equal_int_int v0.2 x_v0.2 v1.2 x_v1.2 h7) rfl (EntsB.cons (Ent.b Ent.z) (EntsB.cons (Ent.b Ent.z.s) EntsB.nil))) ?_
   refine Lin.q (v := .bool (r6)) (by decide) (Pu.qo (p_pickT rfl rfl)) ?_
   refine Lin.q (v := .bool (r6)) (by decide) (Pu.qo (p_assign rfl)) ?_
   have j4 := Option.some.inj j4; subst j4
   show At _ _ _ _ _ _
   exact n1 ⟨rfl, trivial⟩
  ·have j4 := cdF h5 j4
   refine Lin.q (v := .bool (false)) (by decide) (Qo.eqv (v := .bool (decide (v0.1 = v1.1))) (Pu.qo (p_move rfl)) (congrArg Value.bool h5)) ?_
   refine Lin.skip (by decide) rfl ?_
   refine Lin.skip (by decide) rfl ?_
   refine Lin.skip (by decide) rfl ?_
   refine Lin.skip (by decide) rfl ?_
   refine Lin.skip (by decide) rfl ?_
   refine Lin.q (v := .bool (false)) (by decide) (Pu.qo (p_pickF rfl rfl)) ?_
   refine Lin.q (v := .bool (false)) (by decide) (Pu.qo (p_assign rfl)) ?_
   have j4 := Option.some.inj j4; subst j4
   show At _ _ _ _ _ _
   exact n1 ⟨rfl, trivial⟩
 refine tRet ?_
 have hr := Option.some.inj H; subst hr
 exact back1 () rfl (ResV.tmp (v := .bool (b3)) rfl) rfl Ents.nil Take.nil
noncomputable def p_slices_EqualFunc_Post_Post_Post_Post_IndexOk_1_b0 (v0 : (List Post)) (v1 : (List Post)) (Q8 : Int) : Option ((Int) ⊕ (Unit ⊕ Bool)) := cond (decide (Q8 < (v0.length : Int))) (gd (ix Q8 v0.length) <| gd (ix Q8 v1.length) <| bd (p_impl_IndexOk_1 (nth v0 Q8.toNat) (nth v1 Q8.toNat)) fun r21 => cond (!r21) (some (.inr (.inr false))) (gd (I64 (Q8 + 1)) <| some (.inl (Q8 + 1)))) (some (.inr (.inl ())))
noncomputable def p_slices_EqualFunc_Post_Post_Post_Post_IndexOk_1 (v0 : (List Post)) (v1 : (List Post)) : Option (Bool) := cond (!decide ((v0.length : Int) = (v1.length : Int))) (some false) (bd (lp (p_slices_EqualFunc_Post_Post_Post_Post_IndexOk_1_b0 v0 v1) 0) <| sw (fun _ => some true) (fun q => some q))
theorem c_slices_EqualFunc_Post_Post_Post_Post_IndexOk_1 {r : Bool} (v0 : (List Post)) (x_v0 : Option Addr × Nat) (v1 : (List Post)) (x_v1 : Option Addr × Nat) (H : p_slices_EqualFunc_Post_Post_Post_Post_IndexOk_1 v0 v1 = some r) : Fn' Try.prog 64 #[.slice x_v0.1 v0.length x_v0.2, .slice x_v1.1 v1.length x_v1.2, .func (.func 66) #[] #[]] [imm (.slice x_v0.1 v0.length x_v0.2) v0, imm (.slice x_v1.1 v1.length x_v1.2) v1] [] (ι := Unit) (fun _ => .bool (r)) (fun _ => []) (fun _ => []) := by
 refine calls_of (args := [_, _, _]) Try.func64 rfl (by kernel_rfl) Try.ntmps64 (by simp) fun c => ?_
 unfold p_slices_EqualFunc_Post_Post_Post_Post_IndexOk_1 at H
 refine Tr.openD Ent.z fun X1 => ?_
 refine Tr.openD Ent.z.s.s fun X2 => ?_
 refine Tr.seq (Tr.region ?_)
 refine Rg.q (v := .bool (false)) (Pu.qo (p_assign rfl)) (by decide) (Rg.nl (nT ?_))
 refine Tr.seq (Tr.seq (Tr.region ?_))
 refine Rg.q (v := .slice x_v0.1 v0.length x_v0.2) (Pu.qo (p_move rfl)) (by decide) ?_
 refine Rg.q (v := .int .i64 ((v0.length : Int))) (Pu.qo (p_len 33 Try.underlying24 rfl)) (by decide) ?_
 refine Rg.q (v := .slice x_v1.1 v1.length x_v1.2) (Pu.qo (p_move rfl)) (by decide) ?_
 refine Rg.q (v := .int .i64 ((v1.length : Int))) (Pu.qo (p_len 33 Try.underlying24 rfl)) (by decide) ?_
 refine Rg.q (v := .bool (!decide ((v0.length : Int) = (v1.length : Int)))) (Pu.qo (p_neq rfl rfl)) (by decide) (Rg.nl (nT ?_))
 refine Tr.cond (b := !decide ((v0.length : Int) = (v1.length : Int))) rfl (fun h3 => ?_) (fun h3 => ?_)
 ·have H := cdT h3 H
  refine Tr.seq (Tr.region ?_)
  refine Rg.q (v := .bool (false)) (Pu.qo (p_assign rfl)) (by decide) (Rg.nl (nT ?_))
  refine tRet ?_
  refine rT (?_)
  have hr := Option.some.inj H; subst hr
  exact back1 () rfl (ResV.tmp (v := .bool (false)) rfl) rfl Ents.nil Take.nil
 ·have H := cdF h3 H
  refine tSkip ?_
  refine nT (?_)
  refine Tr.seq (Tr.seq (Tr.region ?_))
  refine Rg.q (v := .slice x_v0.1 v0.length x_v0.2) (Pu.qo (p_move rfl)) (by decide) ?_
  refine Rg.q (v := .int .i64 ((v0.length : Int))) (Pu.qo (p_len 33 Try.underlying24 rfl)) (by decide) ?_
  refine Rg.q (v := .int .i64 (0)) (Pu.qo (p_move rfl)) (by decide) (Rg.nl (nT ?_))
  obtain ⟨x4, hx5, H⟩ := bd.of H
  obtain ⟨n6, hx5⟩ := lp.of hx5
  refine tMidNC (ι := { q : (Unit) × Unit // x4 = .inl q.1 }) (fun ψ => []) (fun ψ => []) ?_ ?_
  ·refine Tr.block ?_
   refine tLoopC (ι := { q : Nat × (Int) × Unit // itr (p_slices_EqualFunc_Post_Post_Post_Post_IndexOk_1_b0 v0 v1) q.1 q.2.1 = some x4 }) (fun ζ => [(1, .slice x_v1.1 v1.length x_v1.2), (2, .func (.func 66) #[] #[]), (15, .slice x_v0.1 v0.length x_v0.2), (16, .int .i64 ((v0.length : Int))), (17, .int .i64 (ζ.1.2.1))]) (fun ζ => []) (fun ζ => ζ.1.1) ⟨(n6, 0, ()), hx5⟩ ⟨rfl, rfl, rfl, rfl, rfl, trivial⟩ Take.nil ?_
   rintro ⟨⟨m7, Q8, z9⟩, hk14⟩
   obtain ⟨m15, t11, e, H1, hi12, hb13⟩ := itr.of (n := m7) (s := Q8) hk14
   subst e; unfold p_slices_EqualFunc_Post_Post_Post_Post_IndexOk_1_b0 at H1
   show Tr _ _ _ _ _ [(1, .slice x_v1.1 v1.length x_v1.2), (2, .func (.func 66) #[] #[]), (15, .slice x_v0.1 v0.length x_v0.2), (16, .int .i64 ((v0.length : Int))), (17, .int .i64 (Q8))] _ []
   refine Tr.seq (Tr.region ?_)
   refine Rg.q (v := .bool (decide (Q8 < (v0.length : Int)))) (Pu.qo (p_lss rfl rfl)) (by decide) (Rg.nl (nT ?_))
   refine Tr.seq ?_
   refine Tr.cond (b := decide (Q8 < (v0.length : Int))) rfl (fun h16 => ?_) (fun h16 => ?_)
   ·have H1 := cdT h16 H1
    refine tSkip ?_
    refine nT (Tr.seq ?_)
    refine Tr.block ?_
    refine Tr.seq (Tr.region ?_)
    refine Rg.q (v := .int .i64 (Q8)) (Pu.qo (p_move rfl)) (by decide) ?_
    obtain ⟨h17, H1⟩ := gd.of H1
    refine Rg.q (v := elp x_v0.1 (Q8.toNat * Enc.sz Post + 0)) (q_ixg (l := v0) (E := fun i => Dp.denc (nth v0 i) (X1 i)) (oa := x_v0.1) Try.underlying24 ty33 rfl rfl h17 rfl (Ent.b (Ent.darr Ent.z.s))) (by decide) ?_
    refine Rg.q (v := .agg #[.string (((nth v0 Q8.toNat).1).1), .string (((nth v0 Q8.toNat).1).2), .slice (((X1 Q8.toNat).2).1) (((nth v0 Q8.toNat).2).length) (((X1 Q8.toNat).2).2.1)]) (q_ldeA (l := v0) (E := fun i => Dp.denc (nth v0 i) (X1 i)) (oa := x_v0.1) (i := Q8.toNat) ty33 rfl (Ent.b (Ent.darr Ent.z.s)) h17.lt) (by decide) ?_
    refine Rg.ed (e_alloc ty33) rfl (by decide) ?_
    rintro _ _ _ ⟨g18, rfl, rfl, rfl⟩
    refine Rg.q (v := .int .i64 (Q8)) (Pu.qo (p_assign rfl)) (by decide) ?_
    refine Rg.en (e_store (v := .agg #[.string (((nth v0 Q8.toNat).1).1), .string (((nth v0 Q8.toNat).1).2), .slice (((X1 Q8.toNat).2).1) (((nth v0 Q8.toNat).2).length) (((X1 Q8.toNat).2).2.1)]) (cs' := [.string (((nth v0 Q8.toNat).1).1), .string (((nth v0 Q8.toNat).1).2), .slice (((X1 Q8.toNat).2).1) (((nth v0 Q8.toNat).2).length) (((X1 Q8.toNat).2).2.1)]) ty33 rfl rfl Upd.here rfl (by simp [Value.cells, Value.oneCell']) (Nat.le_of_ble_eq_true rfl) rfl) rfl ?_
    rintro _ _ _ ⟨rfl, rfl, rfl⟩
    refine Rg.nl (nT ?_)
    refine Tr.seq (Tr.region ?_)
    refine Rg.q (v := .slice x_v1.1 v1.length x_v1.2) (Pu.qo (p_move rfl)) (by decide) ?_
    refine Rg.q (v := .int .i64 (Q8)) (Pu.qo (p_move rfl)) (by decide) ?_
    obtain ⟨h19, H1⟩ := gd.of H1
    refine Rg.q (v := elp x_v1.1 (Q8.toNat * Enc.sz Post + 0)) (q_ixg (l := v1) (E := fun i => Dp.denc (nth v1 i) (X2 i)) (oa := x_v1.1) Try.underlying24 ty33 rfl rfl h19 rfl (Ent.b (Ent.darr Ent.z))) (by decide) ?_
    refine Rg.q (v := .agg #[.string (((nth v1 Q8.toNat).1).1), .string (((nth v1 Q8.toNat).1).2), .slice (((X2 Q8.toNat).2).1) (((nth v1 Q8.toNat).2).length) (((X2 Q8.toNat).2).2.1)]) (q_ldeA (l := v1) (E := fun i => Dp.denc (nth v1 i) (X2 i)) (oa := x_v1.1) (i := Q8.toNat) ty33 rfl (Ent.b (Ent.darr Ent.z)) h19.lt) (by decide) ?_
    refine Rg.ed (e_alloc ty33) rfl (by decide) ?_
    rintro _ _ _ ⟨g20, rfl, rfl, rfl⟩
    refine Rg.en (e_store (v := .agg #[.string (((nth v1 Q8.toNat).1).1), .string (((nth v1 Q8.toNat).1).2), .slice (((X2 Q8.toNat).2).1) (((nth v1 Q8.toNat).2).length) (((X2 Q8.toNat).2).2.1)]) (cs' := [.string (((nth v1 Q8.toNat).1).1), .string (((nth v1 Q8.toNat).1).2), .slice (((X2 Q8.toNat).2).1) (((nth v1 Q8.toNat).2).length) (((X2 Q8.toNat).2).2.1)]) ty33 rfl rfl Upd.here rfl (by simp [Value.cells, Value.oneCell']) (Nat.le_of_ble_eq_true rfl) rfl) rfl ?_
    rintro _ _ _ ⟨rfl, rfl, rfl⟩
    refine Rg.nl (nT ?_)
    refine Tr.seq (Tr.region ?_)
    refine Rg.q (v := .func (.func 66) #[] #[]) (Pu.qo (p_move rfl)) (by decide) ?_
    refine Rg.q (v := .agg #[.string (((nth v0 Q8.toNat).1).1), .string (((nth v0 Q8.toNat).1).2), .slice (((X1 Q8.toNat).2).1) (((nth v0 Q8.toNat).2).length) (((X1 Q8.toNat).2).2.1)]) (q_ldbA ty33 rfl Has.here.there rfl) (by decide) ?_
    refine Rg.q (v := .agg #[.string (((nth v1 Q8.toNat).1).1), .string (((nth v1 Q8.toNat).1).2), .slice (((X2 Q8.toNat).2).1) (((nth v1 Q8.toNat).2).length) (((X2 Q8.toNat).2).2.1)]) (q_ldbA ty33 rfl Has.here rfl) (by decide) ?_
    obtain ⟨r21, h22, H1⟩ := bd.of H1
    refine Rg.q (v := .bool (r21)) (Ex.dyn (caps := []) (vs := [.agg #[.string (((nth v0 Q8.toNat).1).1), .string (((nth v0 Q8.toNat).1).2), .slice (((X1 Q8.toNat).2).1) (((nth v0 Q8.toNat).2).length) (((X1 Q8.toNat).2).2.1)], .agg #[.string (((nth v1 Q8.toNat).1).1), .string (((nth v1 Q8.toNat).1).2), .slice (((X2 Q8.toNat).2).1) (((nth v1 Q8.toNat).2).length) (((X2 Q8.toNat).2).2.1)]]) rfl rfl (q_call (vs := [.agg #[.string (((nth v0 Q8.toNat).1).1), .string (((nth v0 Q8.toNat).1).2), .slice (((X1 Q8.toNat).2).1) (((nth v0 Q8.toNat).2).length) (((X1 Q8.toNat).2).2.1)], .agg #[.string (((nth v1 Q8.toNat).1).1), .string (((nth v1 Q8.toNat).1).2), .slice (((X2 Q8.toNat).2).1) (((nth v1 Q8.toNat).2).length) (((X2 Q8.toNat).2).2.1)]]) (c_impl_IndexOk_1 (nth v0 Q8.toNat) (((), ()), (((X1 Q8.toNat).2).1, ((X1 Q8.toNat).2).2.1)) (nth v1 Q8.toNat) (((), ()), (((X2 Q8.toNat).2).1, ((X2 Q8.toNat).2).2.1)) h22) rfl (EntsB.cons (Ent.b (Ent.dimm (Ent.dsnd (Ent.del Ent.z.s h17.lt)))) (EntsB.cons (Ent.b (Ent.dimm (Ent.dsnd (Ent.del Ent.z h19.lt)))) EntsB.nil)))) (by decide) ?_
    refine Rg.q (v := .bool (!r21)) (Pu.qo (p_not rfl)) (by decide) (Rg.nl (nT ?_))
    refine Tr.cond (b := !r21) rfl (fun h23 => ?_) (fun h23 => ?_)
    ·have H1 := cdT h23 H1
     refine Tr.seq (Tr.region ?_)
     refine Rg.q (v := .bool (false)) (Pu.qo (p_assign rfl)) (by decide) (Rg.nl (nT ?_))
     refine tRet ?_
     refine rB (rT (rT (rB (rT (rT (?_))))))
     have hx := hb13 _ (Option.some.inj H1).symm; subst hx
     replace H := sw.r H
     have hr := Option.some.inj H; subst hr
     exact back1 () rfl (ResV.tmp (v := .bool (false)) rfl) rfl Ents.nil Take.nil
    ·have H1 := cdF h23 H1
     refine tSkip ?_
     refine nB (nT (?_))
     refine Tr.region ?_
     obtain ⟨h24, H1⟩ := gd.of H1
     refine Rg.q (v := .int .i64 (Q8 + 1)) (Pu.qo (p_add rfl rfl h24)) (by decide) ?_
     refine Rg.q (v := .int .i64 (Q8 + 1)) (Pu.qo (p_move rfl)) (by decide) (Rg.nl ?_)
     exact nLC ⟨(m15, Q8 + 1, ()), hi12 _ (Option.some.inj H1).symm⟩ (Nat.lt_succ_self _) ⟨rfl, rfl, rfl, rfl, rfl, trivial⟩ Ents.refl Take.nil
   ·have H1 := cdF h16 H1
    refine tExit (xT (xT (xE (?_))))
    exact nMC ⟨((), ()), (hb13 _ (Option.some.inj H1).symm).symm⟩ trivial Ents.refl Take.nil
  ·rintro ⟨⟨e25, y10⟩, hx⟩; subst hx; replace H := sw.l H
   show At _ _ [] _ [] _
   refine nT (?_)
   refine Tr.seq (Tr.region ?_)
   refine Rg.q (v := .bool (true)) (Pu.qo (p_assign rfl)) (by decide) (Rg.nl (nT ?_))
   refine tRet ?_
   have hr := Option.some.inj H; subst hr
   exact back1 () rfl (ResV.tmp (v := .bool (true)) rfl) rfl Ents.nil Take.nil
noncomputable def p_impl_IndexOk (v0 : Index) : Option (Bool) := bd (p_impl_namesOk v0.1) fun r4 => cond (r4) (bd (p_impl_indexOf v0.1) fun r7 => bd (p_slices_EqualFunc_Post_Post_Post_Post_IndexOk_1 v0.2 r7.2) fun r10 => some r10) (some false)
theorem c_impl_IndexOk {r : Bool} (v0 : Index) (x_v0 : (Option Addr × Nat) × (Option Addr × Nat)) (H : p_impl_IndexOk v0 = some r) : Fn' Try.prog 18 #[.agg #[.slice x_v0.1.1 v0.1.length x_v0.1.2, .slice x_v0.2.1 v0.2.length x_v0.2.2]] [imm (.slice x_v0.1.1 v0.1.length x_v0.1.2) v0.1, imm (.slice x_v0.2.1 v0.2.length x_v0.2.2) v0.2] [] (ι := Unit) (fun _ => .bool (r)) (fun _ => []) (fun _ => []) := by
 refine calls_of (args := [_]) Try.func18 rfl (by kernel_rfl) Try.ntmps18 (by simp) fun c => ?_
 unfold p_impl_IndexOk at H
 refine Tr.openD Ent.z fun X1 => ?_
 refine Tr.openD Ent.z.s.s fun X2 => ?_
 refine Tr.seq (Tr.region ?_)
 refine Rg.ed (e_box (t := 26) (v := .agg #[.slice x_v0.1.1 v0.1.length x_v0.1.2, .slice x_v0.2.1 v0.2.length x_v0.2.2]) rfl) rfl (by decide) ?_
 rintro _ _ _ ⟨g3, rfl, rfl, rfl⟩
 refine Rg.q (v := .bool (false)) (Pu.qo (p_assign rfl)) (by decide) (Rg.nl (nT ?_))
 refine Tr.seq ?_
 obtain ⟨r4, h5, H⟩ := bd.of H
 rcases Bool.eq_false_or_eq_true (r4) with h6 | h6
 ·have H := cdT h6 H
  refine tNwS [(1, .pointer (some ⟨g3, 0, none⟩))] 2 [0, 1, 2, 3, 4, 5, 6, 7, 8, 9, 10, 11, 12] [8] [] Try.mixed (by kernel_rfl) (by decide) List.nodup_nil ⟨rfl, trivial⟩ rfl okNil ?_
  refine w_pu (v := .pointer (some ⟨g3, 0, none⟩)) rfl (by decide) rfl rfl rfl (p_fabE fa26_0 rfl rfl) ?_
  refine w_q (v := .slice x_v0.1.1 v0.1.length x_v0.1.2) rfl (by decide) rfl rfl rfl (fun F => (q_ldb ty23 rfl (Has.here.app F) rfl)) ?_
  refine w_q (v := .bool (r4)) rfl (by decide) rfl rfl rfl (fun F => (q_call (vs := [.slice x_v0.1.1 v0.1.length x_v0.1.2]) (c_impl_namesOk v0.1 x_v0.1 h5) rfl (EntsB.cons (Ent.b (Ent.dimm Ent.z.s)) EntsB.nil))) ?_
  refine w_pu (v := .bool (true)) rfl (by decide) rfl rfl rfl ((Pu.eqv (v := .bool (r4)) (p_move rfl) (congrArg Value.bool h6))) ?_
  refine w_pu (v := .pointer (some ⟨g3, 1, none⟩)) rfl (by decide) rfl rfl rfl (p_fabE fa26_1 rfl rfl) ?_
  refine w_q (v := .slice x_v0.2.1 v0.2.length x_v0.2.2) rfl (by decide) rfl rfl rfl (fun F => (q_ldb ty24 rfl (Has.here.app F) rfl)) ?_
  refine w_pu (v := .pointer (some ⟨g3, 0, none⟩)) rfl (by decide) rfl rfl rfl (p_fabE fa26_0 rfl rfl) ?_
  refine w_q (v := .slice x_v0.1.1 v0.1.length x_v0.1.2) rfl (by decide) rfl rfl rfl (fun F => (q_ldb ty23 rfl (Has.here.app F) rfl)) ?_
  obtain ⟨r7, h8, H⟩ := bd.of H
  refine w_ed rfl (by decide) rfl Rdy.nil rfl (n_callB (vs := [.slice x_v0.1.1 v0.1.length x_v0.1.2]) (c_impl_indexOf v0.1 x_v0.1 h8) (fun _ => (Solo.tree (Solo.tree Solo.nil))) rfl (EntsB.cons (Ent.b (Ent.dimm Ent.z.s)) EntsB.nil)) ?_
  rintro _ _ _ ⟨x9, rfl, rfl, rfl⟩
  refine ⟨(PdOk.anc (by kernel_rfl) (PdOk.q rfl rfl (fun F => (q_ldb ty24 rfl (Has.here.there.there.app F) rfl)) (PdOk.anc (by kernel_rfl) (PdOk.q rfl rfl (fun F => (q_ldb ty23 rfl (Has.here.there.there.app F) rfl)) PdOk.nil)))), ?_⟩
  refine w_pu (v := .slice x9.2.1 r7.2.length x9.2.2) rfl (by decide) rfl rfl rfl ((p_field1 Try.underlying26 rfl ty24 rfl rfl)) ?_
  obtain ⟨r10, h11, H⟩ := bd.of H
  refine w_q (v := .bool (r10)) rfl (by decide) rfl rfl rfl (fun F => (q_call (vs := [.slice x_v0.2.1 v0.2.length x_v0.2.2, .slice x9.2.1 r7.2.length x9.2.2, .func (.func 66) #[] #[]]) (c_slices_EqualFunc_Post_Post_Post_Post_IndexOk_1 v0.2 x_v0.2 r7.2 x9.2 h11) rfl (EntsB.cons (Ent.b (Ent.dimm Ent.z)) (EntsB.cons (EntB.tree (Has.here.there.app F)) EntsB.nil)))) ?_
  refine w_pu (v := .bool (r10)) rfl (by decide) rfl rfl rfl (p_pickT rfl rfl) ?_
  refine w_pu (v := .bool (r10)) rfl (by decide) rfl rfl rfl (p_assign rfl) ?_
  refine w_nil ?_
  show At _ _ _ _ _ _
  refine nT (?_)
  refine tRet ?_
  have hr := Option.some.inj H; subst hr
  exact back1 () rfl (ResV.tmp (v := .bool (r10)) rfl) rfl Ents.nil Take.nil
 ·have H := cdF h6 H
  refine tNwS [(1, .pointer (some ⟨g3, 0, none⟩))] 1 [0, 1, 2, 3, 4, 5, 6, 7, 8, 9, 10, 11, 12] [] [] Try.mixed (by kernel_rfl) (by decide) List.nodup_nil ⟨rfl, trivial⟩ rfl okNil ?_
  refine w_pu (v := .pointer (some ⟨g3, 0, none⟩)) rfl (by decide) rfl rfl rfl (p_fabE fa26_0 rfl rfl) ?_
  refine w_q (v := .slice x_v0.1.1 v0.1.length x_v0.1.2) rfl (by decide) rfl rfl rfl (fun F => (q_ldb ty23 rfl (Has.here.app F) rfl)) ?_
  refine w_q (v := .bool (r4)) rfl (by decide) rfl rfl rfl (fun F => (q_call (vs := [.slice x_v0.1.1 v0.1.length x_v0.1.2]) (c_impl_namesOk v0.1 x_v0.1 h5) rfl (EntsB.cons (Ent.b (Ent.dimm Ent.z.s)) EntsB.nil))) ?_
  refine w_pu (v := .bool (false)) rfl (by decide) rfl rfl rfl ((Pu.eqv (v := .bool (r4)) (p_move rfl) (congrArg Value.bool h6))) ?_
  refine w_skip rfl (by decide) rfl rfl rfl ?_
  refine w_skip rfl (by decide) rfl rfl rfl ?_
  refine w_skip rfl (by decide) rfl rfl rfl ?_
  refine w_skip rfl (by decide) rfl rfl rfl ?_
  refine w_skip rfl (by decide) rfl rfl rfl ?_
  refine w_skip rfl (by decide) rfl rfl rfl ?_
  refine w_skip rfl (by decide) rfl rfl rfl ?_
  refine w_pu (v := .bool (false)) rfl (by decide) rfl rfl rfl (p_pickF rfl rfl) ?_
  refine w_pu (v := .bool (false)) rfl (by decide) rfl rfl rfl (p_assign rfl) ?_
  refine w_nil ?_
  show At _ _ _ _ _ _
  refine nT (?_)
  refine tRet ?_
  have hr := Option.some.inj H; subst hr
  exact back1 () rfl (ResV.tmp (v := .bool (false)) rfl) rfl Ents.nil Take.nil
noncomputable def p_impl_IndexAdd (v0 : Index) (v1 : (List Tag)) : Option (Index × Int × Bool) := bd (bd (p_impl_IndexOk v0) fun r7 => cond (!r7) (some (true)) (bd (p_impl_NameOk v1) fun r10 => some (!r10))) fun b5 => cond (b5) (some ((([]), ([])), 0, false)) (bd (p_impl_numberOf v0.1 v1) fun r13 => cond (decide (0 < r13)) (bd (p_impl_indexOf v0.1) fun r16 => some (r16, r13, true)) (cond (decide ((v0.1.length : Int) = 6)) (bd (p_impl_indexOf v0.1) fun r20 => some (r20, 0, false)) (gd (I64 ((v0.1.length : Int) + 1)) <| bd (p_impl_cloneNames v0.1) fun r24 => gd (room (r24.length + 1)) <| bd (p_impl_indexOf (r24 ++ [v1])) fun r31 => some (r31, (v0.1.length : Int) + 1, true))))
theorem c_impl_IndexAdd {r : Index × Int × Bool} (v0 : Index) (x_v0 : (Option Addr × Nat) × (Option Addr × Nat)) (v1 : (List Tag)) (x_v1 : Option Addr × Nat) (H : p_impl_IndexAdd v0 v1 = some r) : Fn' Try.prog 24 #[.agg #[.slice x_v0.1.1 v0.1.length x_v0.1.2, .slice x_v0.2.1 v0.2.length x_v0.2.2], .slice x_v1.1 v1.length x_v1.2] [imm (.slice x_v0.1.1 v0.1.length x_v0.1.2) v0.1, imm (.slice x_v0.2.1 v0.2.length x_v0.2.2) v0.2, imm (.slice x_v1.1 v1.length x_v1.2) v1] [] (ι := ((Option Addr × Nat) × (Option Addr × Nat)) × Unit × Unit) (fun x => .tuple #[.agg #[.slice x.1.1.1 r.1.1.length x.1.1.2, .slice x.1.2.1 r.1.2.length x.1.2.2], .int .i64 (r.2.1), .bool (r.2.2)]) (fun _ => []) (fun x => [tree (.slice x.1.1.1 r.1.1.length x.1.1.2) r.1.1, tree (.slice x.1.2.1 r.1.2.length x.1.2.2) r.1.2]) := by
 refine calls_of (args := [_, _]) Try.func24 rfl (by kernel_rfl) Try.ntmps24 (by simp) fun c => ?_
 unfold p_impl_IndexAdd at H
 refine Tr.openD Ent.z fun X1 => ?_
 refine Tr.openD Ent.z.s.s fun X2 => ?_
 refine Tr.seq (Tr.region ?_)
 refine Rg.ed (e_box (t := 26) (v := .agg #[.slice x_v0.1.1 v0.1.length x_v0.1.2, .slice x_v0.2.1 v0.2.length x_v0.2.2]) rfl) rfl (by decide) ?_
 rintro _ _ _ ⟨g3, rfl, rfl, rfl⟩
 refine Rg.ed (e_alloc ty26) rfl (by decide) ?_
 rintro _ _ _ ⟨g4, rfl, rfl, rfl⟩
 refine Rg.q (v := .int .i64 (0)) (Pu.qo (p_assign rfl)) (by decide) ?_
 refine Rg.q (v := .bool (false)) (Pu.qo (p_assign rfl)) (by decide) (Rg.nl (nT ?_))
 refine Tr.seq ?_
 obtain ⟨b5, j6, H⟩ := bd.of H
 refine tMid1 [(15, .bool (b5)), (4, .pointer (some ⟨g4, 0, none⟩)), (2, .pointer (some ⟨g3, 0, none⟩)), (1, .slice x_v1.1 v1.length x_v1.2)] ?_ ?_
 ·refine tLinT [(4, .pointer (some ⟨g4, 0, none⟩)), (2, .pointer (some ⟨g3, 0, none⟩)), (1, .slice x_v1.1 v1.length x_v1.2)] ⟨rfl, rfl, rfl, trivial⟩ ?_
  refine Lin.q (v := .agg #[.slice x_v0.1.1 v0.1.length x_v0.1.2, .slice x_v0.2.1 v0.2.length x_v0.2.2]) (by decide) (q_ldbA ty26 rfl Has.here.there rfl) ?_
  obtain ⟨r7, h8, j6⟩ := bd.of j6
  refine Lin.q (v := .bool (r7)) (by decide) (q_call (vs := [.agg #[.slice x_v0.1.1 v0.1.length x_v0.1.2, .slice x_v0.2.1 v0.2.length x_v0.2.2]]) (c_impl_IndexOk v0 x_v0 h8) rfl (EntsB.cons (Ent.b (Ent.dimm Ent.z.s)) (EntsB.cons (Ent.b (Ent.dimm Ent.z)) EntsB.nil))) ?_
  refine Lin.q (v := .bool (!r7)) (by decide) (Pu.qo (p_not rfl)) ?_
  rcases Bool.eq_false_or_eq_true (!r7) with h9 | h9
  ·have j6 := cdT h9 j6
   refine Lin.q (v := .bool (true)) (by decide) (Qo.eqv (v := .bool (!r7)) (Pu.qo (p_move rfl)) (congrArg Value.bool h9)) ?_
   refine Lin.skip (by decide) rfl ?_
   refine Lin.skip (by decide) rfl ?_
   refine Lin.skip (by decide) rfl ?_
   refine Lin.q (v := .bool (true)) (by decide) (Pu.qo (p_pickT rfl rfl)) ?_
   have j6 := Option.some.inj j6; subst j6
   show At _ _ _ _ _ _
   exact n1 ⟨rfl, rfl, rfl, rfl, trivial⟩
  ·have j6 := cdF h9 j6
   refine Lin.q (v := .bool (false)) (by decide) (Qo.eqv (v := .bool (!r7)) (Pu.qo (p_move rfl)) (congrArg Value.bool h9)) ?_
   refine Lin.g (v := .slice x_v1.1 v1.length x_v1.2) (by decide) rfl (Pu.qo (p_move rfl)) ?_
   obtain ⟨r10, h11, j6⟩ := bd.of j6
   refine Lin.g (v := .bool (r10)) (by decide) rfl (q_call (vs := [.slice x_v1.1 v1.length x_v1.2]) (c_impl_NameOk v1 x_v1 h11) rfl (EntsB.cons (Ent.b Ent.z.s.s.s.s) EntsB.nil)) ?_
   refine Lin.g (v := .bool (!r10)) (by decide) rfl (Pu.qo (p_not rfl)) ?_
   refine Lin.q (v := .bool (!r10)) (by decide) (Pu.qo (p_pickF rfl rfl)) ?_
   have j6 := Option.some.inj j6; subst j6
   show At _ _ _ _ _ _
   exact n1 ⟨rfl, rfl, rfl, rfl, trivial⟩
 refine Tr.cond (b := b5) rfl (fun h12 => ?_) (fun h12 => ?_)
 ·have H := cdT h12 H
  refine Tr.seq ?_
  refine Tr.nilT (List Tag) ?_
  refine Tr.nilT Post ?_
  refine Tr.region ?_
  refine Rg.q (v := .agg #[.slice none 0 0, .slice none 0 0]) (Pu.qo (p_buildS (vs := []) (cs := #[.slice none 0 0, .slice none 0 0]) ty26 pl26 rfl rfl)) (by decide) ?_
  refine Rg.en (e_store (v := .agg #[.slice none 0 0, .slice none 0 0]) (cs' := [.slice none 0 0, .slice none 0 0]) ty26 rfl rfl Upd.here.there.there rfl (by simp [Value.cells, Value.oneCell']) (Nat.le_of_ble_eq_true rfl) rfl) rfl ?_
  rintro _ _ _ ⟨rfl, rfl, rfl⟩
  refine Rg.q (v := .int .i64 (0)) (Pu.qo (p_assign rfl)) (by decide) ?_
  refine Rg.q (v := .bool (false)) (Pu.qo (p_assign rfl)) (by decide) (Rg.nl (nT ?_))
  refine tRet ?_
  refine rT (?_)
  have hr := Option.some.inj H; subst hr
  exact back3 (((none, 0), (none, 0)), (), ()) rfl (ResV.agg ty26 rfl Has.here.there.there rfl) (ResV.tmp (v := .int .i64 (0)) rfl) (ResV.tmp (v := .bool (false)) rfl) rfl Ents.nil (.cons Del.here.there (.cons Del.here .nil))
 ·have H := cdF h12 H
  refine tSkip ?_
  refine nT (?_)
  refine Tr.seq (Tr.seq (Tr.region ?_))
  refine Rg.q (v := .pointer (some ⟨g3, 0, none⟩)) (Pu.qo (p_fabE fa26_0 rfl rfl)) (by decide) ?_
  refine Rg.q (v := .slice x_v0.1.1 v0.1.length x_v0.1.2) (q_ldb ty23 rfl Has.here.there rfl) (by decide) ?_
  refine Rg.q (v := .slice x_v1.1 v1.length x_v1.2) (Pu.qo (p_move rfl)) (by decide) ?_
  obtain ⟨r13, h14, H⟩ := bd.of H
  refine Rg.q (v := .int .i64 (r13)) (q_call (vs := [.slice x_v0.1.1 v0.1.length x_v0.1.2, .slice x_v1.1 v1.length x_v1.2]) (c_impl_numberOf v0.1 x_v0.1 v1 x_v1 h14) rfl (EntsB.cons (Ent.b (Ent.dimm Ent.z.s)) (EntsB.cons (Ent.b Ent.z.s.s.s.s) EntsB.nil))) (by decide) ?_
  refine Rg.q (v := .int .i64 (r13)) (Pu.qo (p_assign rfl)) (by decide) (Rg.nl (nT ?_))
  refine Tr.seq (Tr.region ?_)
  refine Rg.q (v := .int .i64 (r13)) (Pu.qo (p_move rfl)) (by decide) ?_
  refine Rg.q (v := .bool (decide (0 < r13))) (Pu.qo (p_gtr rfl rfl)) (by decide) (Rg.nl (nT ?_))
  refine Tr.cond (b := decide (0 < r13)) rfl (fun h15 => ?_) (fun h15 => ?_)
  ·have H := cdT h15 H
   refine Tr.seq (Tr.region ?_)
   refine Rg.q (v := .pointer (some ⟨g3, 0, none⟩)) (Pu.qo (p_fabE fa26_0 rfl rfl)) (by decide) ?_
   refine Rg.q (v := .slice x_v0.1.1 v0.1.length x_v0.1.2) (q_ldb ty23 rfl Has.here.there rfl) (by decide) ?_
   obtain ⟨r16, h17, H⟩ := bd.of H
   refine Rg.ed (e_callB (vs := [.slice x_v0.1.1 v0.1.length x_v0.1.2]) (c_impl_indexOf v0.1 x_v0.1 h17) (fun _ => (Solo.tree (Solo.tree Solo.nil))) rfl (EntsB.cons (Ent.b (Ent.dimm Ent.z.s)) EntsB.nil)) rfl (by decide) ?_
   rintro _ _ _ ⟨x18, rfl, rfl, rfl⟩
   refine Rg.q (v := .int .i64 (r13)) (Pu.qo (p_move rfl)) (by decide) ?_
   refine Rg.en (e_store (v := .agg #[.slice x18.1.1 r16.1.length x18.1.2, .slice x18.2.1 r16.2.length x18.2.2]) (cs' := [.slice x18.1.1 r16.1.length x18.1.2, .slice x18.2.1 r16.2.length x18.2.2]) ty26 rfl rfl Upd.here.there.there rfl (by simp [Value.cells, Value.oneCell']) (Nat.le_of_ble_eq_true rfl) rfl) rfl ?_
   rintro _ _ _ ⟨rfl, rfl, rfl⟩
   refine Rg.q (v := .int .i64 (r13)) (Pu.qo (p_assign rfl)) (by decide) ?_
   refine Rg.q (v := .bool (true)) (Pu.qo (p_assign rfl)) (by decide) (Rg.nl (nT ?_))
   refine tRet ?_
   refine rT (?_)
   have hr := Option.some.inj H; subst hr
   exact back3 (x18, (), ()) rfl (ResV.agg ty26 rfl Has.here.there.there rfl) (ResV.tmp (v := .int .i64 (r13)) rfl) (ResV.tmp (v := .bool (true)) rfl) rfl Ents.nil (.cons Del.here (.cons Del.here .nil))
  ·have H := cdF h15 H
   refine tSkip ?_
   refine nT (?_)
   refine Tr.seq (Tr.seq (Tr.region ?_))
   refine Rg.q (v := .pointer (some ⟨g3, 0, none⟩)) (Pu.qo (p_fabE fa26_0 rfl rfl)) (by decide) ?_
   refine Rg.q (v := .slice x_v0.1.1 v0.1.length x_v0.1.2) (q_ldb ty23 rfl Has.here.there rfl) (by decide) ?_
   refine Rg.q (v := .int .i64 ((v0.1.length : Int))) (Pu.qo (p_len 38 Try.underlying23 rfl)) (by decide) ?_
   refine Rg.q (v := .bool (decide ((v0.1.length : Int) = 6))) (Pu.qo (p_eql rfl rfl)) (by decide) (Rg.nl (nT ?_))
   refine Tr.cond (b := decide ((v0.1.length : Int) = 6)) rfl (fun h19 => ?_) (fun h19 => ?_)
   ·have H := cdT h19 H
    refine Tr.seq (Tr.region ?_)
    refine Rg.q (v := .pointer (some ⟨g3, 0, none⟩)) (Pu.qo (p_fabE fa26_0 rfl rfl)) (by decide) ?_
    refine Rg.q (v := .slice x_v0.1.1 v0.1.length x_v0.1.2) (q_ldb ty23 rfl Has.here.there rfl) (by decide) ?_
    obtain ⟨r20, h21, H⟩ := bd.of H
    refine Rg.ed (e_callB (vs := [.slice x_v0.1.1 v0.1.length x_v0.1.2]) (c_impl_indexOf v0.1 x_v0.1 h21) (fun _ => (Solo.tree (Solo.tree Solo.nil))) rfl (EntsB.cons (Ent.b (Ent.dimm Ent.z.s)) EntsB.nil)) rfl (by decide) ?_
    rintro _ _ _ ⟨x22, rfl, rfl, rfl⟩
    refine Rg.en (e_store (v := .agg #[.slice x22.1.1 r20.1.length x22.1.2, .slice x22.2.1 r20.2.length x22.2.2]) (cs' := [.slice x22.1.1 r20.1.length x22.1.2, .slice x22.2.1 r20.2.length x22.2.2]) ty26 rfl rfl Upd.here.there.there rfl (by simp [Value.cells, Value.oneCell']) (Nat.le_of_ble_eq_true rfl) rfl) rfl ?_
    rintro _ _ _ ⟨rfl, rfl, rfl⟩
    refine Rg.q (v := .int .i64 (0)) (Pu.qo (p_assign rfl)) (by decide) ?_
    refine Rg.q (v := .bool (false)) (Pu.qo (p_assign rfl)) (by decide) (Rg.nl (nT ?_))
    refine tRet ?_
    refine rT (?_)
    have hr := Option.some.inj H; subst hr
    exact back3 (x22, (), ()) rfl (ResV.agg ty26 rfl Has.here.there.there rfl) (ResV.tmp (v := .int .i64 (0)) rfl) (ResV.tmp (v := .bool (false)) rfl) rfl Ents.nil (.cons Del.here (.cons Del.here .nil))
   ·have H := cdF h19 H
    refine tSkip ?_
    refine nT (Tr.seq ?_)
    refine tNwS [(4, .pointer (some ⟨g4, 0, none⟩)), (2, .pointer (some ⟨g3, 0, none⟩)), (1, .slice x_v1.1 v1.length x_v1.2)] 2 [0, 1, 3, 7, 8, 9, 10, 2, 4, 5, 6, 11, 12, 13] [2, 5, 6, 11] [⟨4, [(37, .slice x_v1.1 v1.length x_v1.2)], fun g => .slice (some ⟨g, 0, none⟩) 1 1, fun g => box g 38 [.slice x_v1.1 v1.length x_v1.2]⟩] Try.mixed (by kernel_rfl) (by decide) (show List.Nodup [4] by decide) ⟨rfl, rfl, rfl, trivial⟩ rfl (okCons (FreeA.Ok.of rfl (by decide) (by kernel_rfl) fun c fs os => e_lit (vs := [(0, .slice x_v1.1 v1.length x_v1.2)]) [.slice x_v1.1 v1.length x_v1.2] Try.underlying23 ty38 rfl (by decide) (by decide) (by kernel_rfl)) okNil) ?_
    refine w_pu (v := .pointer (some ⟨g3, 0, none⟩)) rfl (by decide) rfl rfl rfl (p_fabE fa26_0 rfl rfl) ?_
    refine w_q (v := .slice x_v0.1.1 v0.1.length x_v0.1.2) rfl (by decide) rfl rfl rfl (fun F => (q_ldb ty23 rfl (Has.here.there.app F) rfl)) ?_
    refine w_pu (v := .slice x_v1.1 v1.length x_v1.2) rfl (by decide) rfl rfl rfl (p_move rfl) ?_
    refine w_pu (v := .pointer (some ⟨g3, 0, none⟩)) rfl (by decide) rfl rfl rfl (p_fabE fa26_0 rfl rfl) ?_
    refine w_q (v := .slice x_v0.1.1 v0.1.length x_v0.1.2) rfl (by decide) rfl rfl rfl (fun F => (q_ldb ty23 rfl (Has.here.there.app F) rfl)) ?_
    refine w_pu (v := .int .i64 ((v0.1.length : Int))) rfl (by decide) rfl rfl rfl (p_len 38 Try.underlying23 rfl) ?_
    obtain ⟨h23, H⟩ := gd.of H
    refine w_pu (v := .int .i64 ((v0.1.length : Int) + 1)) rfl (by decide) rfl rfl rfl (p_add rfl rfl h23) ?_
    obtain ⟨r24, h25, H⟩ := bd.of H
    refine w_ed rfl (by decide) rfl (Rdy.cons (.inr (.inr ⟨rfl, trivial⟩)) Rdy.nil) rfl (n_callB (vs := [.slice x_v0.1.1 v0.1.length x_v0.1.2]) (c_impl_cloneNames v0.1 x_v0.1 h25) (fun _ => (Solo.tree Solo.nil)) rfl (EntsB.cons (Ent.b (Ent.dimm Ent.z.s)) EntsB.nil)) ?_
    rintro _ _ _ ⟨x26, rfl, rfl, rfl⟩
    refine ⟨(PdOk.q rfl rfl (fun F => (q_ldb ty23 rfl (Has.here.there.there.app F) rfl)) (PdOk.anc (by kernel_rfl) PdOk.nil)), ?_⟩
    refine w_fr (z := ⟨4, [(37, .slice x_v1.1 v1.length x_v1.2)], fun g => .slice (some ⟨g, 0, none⟩) 1 1, fun g => box g 38 [.slice x_v1.1 v1.length x_v1.2]⟩) (.head _) rfl rfl (by decide) (Rdy.cons (.inl rfl) Rdy.nil) ⟨rfl, trivial⟩ ?_; intro g27
    obtain ⟨h30, H⟩ := gd.of H
    refine w_ed rfl (by decide) rfl (Rdy.cons (.inl rfl) Rdy.nil) rfl (n_app1TR (l := r24) (α := (List Tag)) v1 x_v1 Try.underlying23 ty38 rfl rfl (h30.b (by decide)) h30.x rfl (.cons Del.here.there (.cons Del.here .nil)) (Ents.cons Ent.z.s.s.s.s Ents.nil)) ?_
    rintro _ _ _ ⟨a28, c29, rfl, rfl, rfl⟩
    refine ⟨(PdOk.q rfl rfl (fun F => (q_ldb ty23 rfl (Has.here.there.there.app F) rfl)) (PdOk.anc (by kernel_rfl) PdOk.nil)), ?_⟩
    obtain ⟨r31, h32, H⟩ := bd.of H
    refine w_ed rfl (by decide) rfl (Rdy.cons (.inl rfl) Rdy.nil) rfl (n_callB (vs := [.slice a28 ((r24 ++ [v1]).length) c29]) (c_impl_indexOf (r24 ++ [v1]) (a28, c29) h32) (fun _ => (Solo.tree (Solo.tree Solo.nil))) rfl (EntsB.cons (EntB.row Has.here) EntsB.nil)) ?_
    rintro _ _ _ ⟨x33, rfl, rfl, rfl⟩
    refine ⟨(PdOk.q rfl rfl (fun F => (q_ldb ty23 rfl (Has.here.there.there.there.there.app F) rfl)) (PdOk.q rfl rfl (fun F => (q_ldb ty23 rfl (Has.here.there.there.there.there.app F) rfl)) PdOk.nil)), ?_⟩
    refine w_en rfl rfl (Rdy.cons (.inl rfl) Rdy.nil) rfl (n_store (v := .agg #[.slice x33.1.1 r31.1.length x33.1.2, .slice x33.2.1 r31.2.length x33.2.2]) (cs' := [.slice x33.1.1 r31.1.length x33.1.2, .slice x33.2.1 r31.2.length x33.2.2]) ty26 rfl rfl Upd.here.there.there.there rfl (by simp [Value.cells, Value.oneCell']) (Nat.le_of_ble_eq_true rfl) rfl) ?_
    rintro _ _ _ ⟨rfl, rfl, rfl⟩
    refine ⟨(PdOk.q rfl rfl (fun F => (q_ldb ty23 rfl (Has.here.there.there.there.there.app F) rfl)) (PdOk.anc (by kernel_rfl) PdOk.nil)), ?_⟩
    refine w_pu (v := .int .i64 ((v0.1.length : Int) + 1)) rfl (by decide) rfl rfl rfl (p_assign rfl) ?_
    refine w_pu (v := .bool (true)) rfl (by decide) rfl rfl rfl (p_assign rfl) ?_
    refine w_nil ?_
    show At _ _ _ _ _ _
    refine nT (?_)
    refine tRet ?_
    have hr := Option.some.inj H; subst hr
    exact back3 (x33, (), ()) rfl (ResV.agg ty26 rfl Has.here.there.there.there rfl) (ResV.tmp (v := .int .i64 ((v0.1.length : Int) + 1)) rfl) (ResV.tmp (v := .bool (true)) rfl) rfl Ents.nil (.cons Del.here (.cons Del.here .nil))
noncomputable def p_laws_lyName_b0 (v0 : (List Tag)) (v1 : (List Tag)) (Q6 : Int) : Option ((Int) ⊕ (Unit ⊕ Bool)) := cond (decide (Q6 < (v0.length : Int))) (gd (ix Q6 v0.length) <| gd (ix Q6 v1.length) <| cond (!decide (nth v0 Q6.toNat = nth v1 Q6.toNat)) (some (.inr (.inr false))) (gd (I64 (Q6 + 1)) <| some (.inl (Q6 + 1)))) (some (.inr (.inl ())))
noncomputable def p_laws_lyName (v0 : (List Tag)) (v1 : (List Tag)) : Option (Bool) := cond (!decide ((v0.length : Int) = (v1.length : Int))) (some false) (bd (lp (p_laws_lyName_b0 v0 v1) 0) <| sw (fun _ => some true) (fun q => some q))
theorem c_laws_lyName {r : Bool} (v0 : (List Tag)) (x_v0 : Option Addr × Nat) (v1 : (List Tag)) (x_v1 : Option Addr × Nat) (H : p_laws_lyName v0 v1 = some r) : Fn' Try.prog 29 #[.slice x_v0.1 v0.length x_v0.2, .slice x_v1.1 v1.length x_v1.2] [imm (.slice x_v0.1 v0.length x_v0.2) v0, imm (.slice x_v1.1 v1.length x_v1.2) v1] [] (ι := Unit) (fun _ => .bool (r)) (fun _ => []) (fun _ => []) := by
 refine calls_of (args := [_, _]) Try.func29 rfl (by kernel_rfl) Try.ntmps29 (by simp) fun c => ?_
 unfold p_laws_lyName at H
 refine Tr.seq (Tr.region ?_)
 refine Rg.q (v := .bool (false)) (Pu.qo (p_assign rfl)) (by decide) (Rg.nl (nT ?_))
 refine Tr.seq (Tr.seq (Tr.region ?_))
 refine Rg.q (v := .slice x_v0.1 v0.length x_v0.2) (Pu.qo (p_move rfl)) (by decide) ?_
 refine Rg.q (v := .int .i64 ((v0.length : Int))) (Pu.qo (p_len 30 Try.underlying38 rfl)) (by decide) ?_
 refine Rg.q (v := .slice x_v1.1 v1.length x_v1.2) (Pu.qo (p_move rfl)) (by decide) ?_
 refine Rg.q (v := .int .i64 ((v1.length : Int))) (Pu.qo (p_len 30 Try.underlying38 rfl)) (by decide) ?_
 refine Rg.q (v := .bool (!decide ((v0.length : Int) = (v1.length : Int)))) (Pu.qo (p_neq rfl rfl)) (by decide) (Rg.nl (nT ?_))
 refine Tr.cond (b := !decide ((v0.length : Int) = (v1.length : Int))) rfl (fun h1 => ?_) (fun h1 => ?_)
 ·have H := cdT h1 H
  refine Tr.seq (Tr.region ?_)
  refine Rg.q (v := .bool (false)) (Pu.qo (p_assign rfl)) (by decide) (Rg.nl (nT ?_))
  refine tRet ?_
  refine rT (?_)
  have hr := Option.some.inj H; subst hr
  exact back1 () rfl (ResV.tmp (v := .bool (false)) rfl) rfl Ents.nil Take.nil
 ·have H := cdF h1 H
  refine tSkip ?_
  refine nT (?_)
  refine Tr.seq (Tr.seq (Tr.region ?_))
  refine Rg.q (v := .int .i64 (0)) (Pu.qo (p_assign rfl)) (by decide) (Rg.nl (nT ?_))
  obtain ⟨x2, hx3, H⟩ := bd.of H
  obtain ⟨n4, hx3⟩ := lp.of hx3
  refine tMidNC (ι := { q : (Unit) × Unit // x2 = .inl q.1 }) (fun ψ => []) (fun ψ => []) ?_ ?_
  ·refine Tr.block ?_
   refine tLoopC (ι := { q : Nat × (Int) × Unit // itr (p_laws_lyName_b0 v0 v1) q.1 q.2.1 = some x2 }) (fun ζ => [(0, .slice x_v0.1 v0.length x_v0.2), (1, .slice x_v1.1 v1.length x_v1.2), (5, .int .i64 (ζ.1.2.1))]) (fun ζ => []) (fun ζ => ζ.1.1) ⟨(n4, 0, ()), hx3⟩ ⟨rfl, rfl, rfl, trivial⟩ Take.nil ?_
   rintro ⟨⟨m5, Q6, z7⟩, hk12⟩
   obtain ⟨m13, t9, e, H1, hi10, hb11⟩ := itr.of (n := m5) (s := Q6) hk12
   subst e; unfold p_laws_lyName_b0 at H1
   show Tr _ _ _ _ _ [(0, .slice x_v0.1 v0.length x_v0.2), (1, .slice x_v1.1 v1.length x_v1.2), (5, .int .i64 (Q6))] _ []
   refine Tr.seq (Tr.seq (Tr.region ?_))
   refine Rg.q (v := .int .i64 (Q6)) (Pu.qo (p_move rfl)) (by decide) ?_
   refine Rg.q (v := .slice x_v0.1 v0.length x_v0.2) (Pu.qo (p_move rfl)) (by decide) ?_
   refine Rg.q (v := .int .i64 ((v0.length : Int))) (Pu.qo (p_len 30 Try.underlying38 rfl)) (by decide) ?_
   refine Rg.q (v := .bool (decide (Q6 < (v0.length : Int)))) (Pu.qo (p_lss rfl rfl)) (by decide) (Rg.nl (nT ?_))
   refine Tr.cond (b := decide (Q6 < (v0.length : Int))) rfl (fun h14 => ?_) (fun h14 => ?_)
   ·have H1 := cdT h14 H1
    refine tSkip ?_
    refine nT (Tr.seq ?_)
    refine Tr.block ?_
    refine Tr.seq ?_
    refine tLinS [(0, .slice x_v0.1 v0.length x_v0.2), (1, .slice x_v1.1 v1.length x_v1.2), (5, .int .i64 (Q6))] Try.mixed (.inr (by kernel_rfl)) ⟨rfl, rfl, rfl, trivial⟩ rfl ?_
    refine Lin.q (v := .slice x_v0.1 v0.length x_v0.2) (by decide) (Pu.qo (p_move rfl)) ?_
    refine Lin.q (v := .int .i64 (Q6)) (by decide) (Pu.qo (p_move rfl)) ?_
    obtain ⟨h15, H1⟩ := gd.of H1
    refine Lin.q (v := elp x_v0.1 (Q6.toNat * Enc.sz Tag + 0)) (by decide) (q_ixg (l := v0) (E := fun i => Flat.enc (nth v0 i)) (oa := x_v0.1) Try.underlying38 ty30 rfl rfl h15 rfl (EntB.flat (Ent.b Ent.z))) ?_
    refine Lin.q (v := .agg #[.string ((nth v0 Q6.toNat).1), .string ((nth v0 Q6.toNat).2)]) (by decide) (q_ldeA (l := v0) (E := fun i => Flat.enc (nth v0 i)) (oa := x_v0.1) (i := Q6.toNat) ty30 rfl (EntB.flat (Ent.b Ent.z)) h15.lt) ?_
    refine Lin.q (v := .slice x_v1.1 v1.length x_v1.2) (by decide) (Pu.qo (p_move rfl)) ?_
    refine Lin.q (v := .int .i64 (Q6)) (by decide) (Pu.qo (p_move rfl)) ?_
    obtain ⟨h16, H1⟩ := gd.of H1
    refine Lin.q (v := elp x_v1.1 (Q6.toNat * Enc.sz Tag + 0)) (by decide) (q_ixg (l := v1) (E := fun i => Flat.enc (nth v1 i)) (oa := x_v1.1) Try.underlying38 ty30 rfl rfl h16 rfl (EntB.flat (Ent.b Ent.z.s))) ?_
    refine Lin.q (v := .agg #[.string ((nth v1 Q6.toNat).1), .string ((nth v1 Q6.toNat).2)]) (by decide) (q_ldeA (l := v1) (E := fun i => Flat.enc (nth v1 i)) (oa := x_v1.1) (i := Q6.toNat) ty30 rfl (EntB.flat (Ent.b Ent.z.s)) h16.lt) ?_
    refine Lin.q (v := .bool (!decide (nth v0 Q6.toNat = nth v1 Q6.toNat))) (by decide) (Pu.qo (p_aneq (a := nth v0 Q6.toNat) (b := nth v1 Q6.toNat) ae30 rfl rfl rfl rfl)) ?_
    show At _ _ _ _ _ _
    refine nT (?_)
    refine Tr.cond (b := !decide (nth v0 Q6.toNat = nth v1 Q6.toNat)) rfl (fun h17 => ?_) (fun h17 => ?_)
    ·have H1 := cdT h17 H1
     refine Tr.seq (Tr.region ?_)
     refine Rg.q (v := .bool (false)) (Pu.qo (p_assign rfl)) (by decide) (Rg.nl (nT ?_))
     refine tRet ?_
     refine rB (rT (rT (rB (rT (rT (?_))))))
     have hx := hb11 _ (Option.some.inj H1).symm; subst hx
     replace H := sw.r H
     have hr := Option.some.inj H; subst hr
     exact back1 () rfl (ResV.tmp (v := .bool (false)) rfl) rfl Ents.nil Take.nil
    ·have H1 := cdF h17 H1
     refine tSkip ?_
     refine nB (nT (?_))
     refine Tr.region ?_
     refine Rg.q (v := .int .i64 (Q6)) (Pu.qo (p_move rfl)) (by decide) ?_
     obtain ⟨h18, H1⟩ := gd.of H1
     refine Rg.q (v := .int .i64 (Q6 + 1)) (Pu.qo (p_add rfl rfl h18)) (by decide) ?_
     refine Rg.q (v := .int .i64 (Q6 + 1)) (Pu.qo (p_assign rfl)) (by decide) (Rg.nl ?_)
     exact nLC ⟨(m13, Q6 + 1, ()), hi10 _ (Option.some.inj H1).symm⟩ (Nat.lt_succ_self _) ⟨rfl, rfl, rfl, trivial⟩ Ents.refl Take.nil
   ·have H1 := cdF h14 H1
    refine tExit (xT (xT (xE (?_))))
    exact nMC ⟨((), ()), (hb11 _ (Option.some.inj H1).symm).symm⟩ trivial Ents.refl Take.nil
  ·rintro ⟨⟨e19, y8⟩, hx⟩; subst hx; replace H := sw.l H
   show At _ _ [] _ [] _
   refine nT (?_)
   refine Tr.seq (Tr.region ?_)
   refine Rg.q (v := .bool (true)) (Pu.qo (p_assign rfl)) (by decide) (Rg.nl (nT ?_))
   refine tRet ?_
   have hr := Option.some.inj H; subst hr
   exact back1 () rfl (ResV.tmp (v := .bool (true)) rfl) rfl Ents.nil Take.nil
noncomputable def p_laws_lyInts_b0 (v0 : (List Int)) (v1 : (List Int)) (Q6 : Int) : Option ((Int) ⊕ (Unit ⊕ Bool)) := cond (decide (Q6 < (v0.length : Int))) (gd (ix Q6 v0.length) <| gd (ix Q6 v1.length) <| cond (!decide ((nth v0 Q6.toNat) = (nth v1 Q6.toNat))) (some (.inr (.inr false))) (gd (I64 (Q6 + 1)) <| some (.inl (Q6 + 1)))) (some (.inr (.inl ())))
noncomputable def p_laws_lyInts (v0 : (List Int)) (v1 : (List Int)) : Option (Bool) := cond (!decide ((v0.length : Int) = (v1.length : Int))) (some false) (bd (lp (p_laws_lyInts_b0 v0 v1) 0) <| sw (fun _ => some true) (fun q => some q))
theorem c_laws_lyInts {r : Bool} (v0 : (List Int)) (x_v0 : Option Addr × Nat) (v1 : (List Int)) (x_v1 : Option Addr × Nat) (H : p_laws_lyInts v0 v1 = some r) : Fn' Try.prog 20 #[.slice x_v0.1 v0.length x_v0.2, .slice x_v1.1 v1.length x_v1.2] [imm (.slice x_v0.1 v0.length x_v0.2) v0, imm (.slice x_v1.1 v1.length x_v1.2) v1] [] (ι := Unit) (fun _ => .bool (r)) (fun _ => []) (fun _ => []) := by
 refine calls_of (args := [_, _]) Try.func20 rfl (by kernel_rfl) Try.ntmps20 (by simp) fun c => ?_
 unfold p_laws_lyInts at H
 refine Tr.seq (Tr.region ?_)
 refine Rg.q (v := .bool (false)) (Pu.qo (p_assign rfl)) (by decide) (Rg.nl (nT ?_))
 refine Tr.seq (Tr.seq (Tr.region ?_))
 refine Rg.q (v := .slice x_v0.1 v0.length x_v0.2) (Pu.qo (p_move rfl)) (by decide) ?_
 refine Rg.q (v := .int .i64 ((v0.length : Int))) (Pu.qo (p_len 3 Try.underlying31 rfl)) (by decide) ?_
 refine Rg.q (v := .slice x_v1.1 v1.length x_v1.2) (Pu.qo (p_move rfl)) (by decide) ?_
 refine Rg.q (v := .int .i64 ((v1.length : Int))) (Pu.qo (p_len 3 Try.underlying31 rfl)) (by decide) ?_
 refine Rg.q (v := .bool (!decide ((v0.length : Int) = (v1.length : Int)))) (Pu.qo (p_neq rfl rfl)) (by decide) (Rg.nl (nT ?_))
 refine Tr.cond (b := !decide ((v0.length : Int) = (v1.length : Int))) rfl (fun h1 => ?_) (fun h1 => ?_)
 ·have H := cdT h1 H
  refine Tr.seq (Tr.region ?_)
  refine Rg.q (v := .bool (false)) (Pu.qo (p_assign rfl)) (by decide) (Rg.nl (nT ?_))
  refine tRet ?_
  refine rT (?_)
  have hr := Option.some.inj H; subst hr
  exact back1 () rfl (ResV.tmp (v := .bool (false)) rfl) rfl Ents.nil Take.nil
 ·have H := cdF h1 H
  refine tSkip ?_
  refine nT (?_)
  refine Tr.seq (Tr.seq (Tr.region ?_))
  refine Rg.q (v := .int .i64 (0)) (Pu.qo (p_assign rfl)) (by decide) (Rg.nl (nT ?_))
  obtain ⟨x2, hx3, H⟩ := bd.of H
  obtain ⟨n4, hx3⟩ := lp.of hx3
  refine tMidNC (ι := { q : (Unit) × Unit // x2 = .inl q.1 }) (fun ψ => []) (fun ψ => []) ?_ ?_
  ·refine Tr.block ?_
   refine tLoopC (ι := { q : Nat × (Int) × Unit // itr (p_laws_lyInts_b0 v0 v1) q.1 q.2.1 = some x2 }) (fun ζ => [(0, .slice x_v0.1 v0.length x_v0.2), (1, .slice x_v1.1 v1.length x_v1.2), (5, .int .i64 (ζ.1.2.1))]) (fun ζ => []) (fun ζ => ζ.1.1) ⟨(n4, 0, ()), hx3⟩ ⟨rfl, rfl, rfl, trivial⟩ Take.nil ?_
   rintro ⟨⟨m5, Q6, z7⟩, hk12⟩
   obtain ⟨m13, t9, e, H1, hi10, hb11⟩ := itr.of (n := m5) (s := Q6) hk12
   subst e; unfold p_laws_lyInts_b0 at H1
   show Tr _ _ _ _ _ [(0, .slice x_v0.1 v0.length x_v0.2), (1, .slice x_v1.1 v1.length x_v1.2), (5, .int .i64 (Q6))] _ []
   refine Tr.seq (Tr.seq (Tr.region ?_))
   refine Rg.q (v := .int .i64 (Q6)) (Pu.qo (p_move rfl)) (by decide) ?_
   refine Rg.q (v := .slice x_v0.1 v0.length x_v0.2) (Pu.qo (p_move rfl)) (by decide) ?_
   refine Rg.q (v := .int .i64 ((v0.length : Int))) (Pu.qo (p_len 3 Try.underlying31 rfl)) (by decide) ?_
   refine Rg.q (v := .bool (decide (Q6 < (v0.length : Int)))) (Pu.qo (p_lss rfl rfl)) (by decide) (Rg.nl (nT ?_))
   refine Tr.cond (b := decide (Q6 < (v0.length : Int))) rfl (fun h14 => ?_) (fun h14 => ?_)
   ·have H1 := cdT h14 H1
    refine tSkip ?_
    refine nT (Tr.seq ?_)
    refine Tr.block ?_
    refine Tr.seq ?_
    refine tLinS [(0, .slice x_v0.1 v0.length x_v0.2), (1, .slice x_v1.1 v1.length x_v1.2), (5, .int .i64 (Q6))] Try.mixed (.inr (by kernel_rfl)) ⟨rfl, rfl, rfl, trivial⟩ rfl ?_
    refine Lin.q (v := .slice x_v0.1 v0.length x_v0.2) (by decide) (Pu.qo (p_move rfl)) ?_
    refine Lin.q (v := .int .i64 (Q6)) (by decide) (Pu.qo (p_move rfl)) ?_
    obtain ⟨h15, H1⟩ := gd.of H1
    refine Lin.q (v := elp x_v0.1 (Q6.toNat * Enc.sz Int + 0)) (by decide) (q_ixg (l := v0) (E := fun i => Flat.enc (nth v0 i)) (oa := x_v0.1) Try.underlying31 ty3 rfl rfl h15 rfl (EntB.flat (Ent.b Ent.z))) ?_
    refine Lin.q (v := .int .i64 (nth v0 Q6.toNat)) (by decide) (q_lde (l := v0) (E := fun i => Flat.enc (nth v0 i)) (oa := x_v0.1) (i := Q6.toNat) (j := 0) ty3 rfl (EntB.flat (Ent.b Ent.z)) h15.lt rfl) ?_
    refine Lin.q (v := .slice x_v1.1 v1.length x_v1.2) (by decide) (Pu.qo (p_move rfl)) ?_
    refine Lin.q (v := .int .i64 (Q6)) (by decide) (Pu.qo (p_move rfl)) ?_
    obtain ⟨h16, H1⟩ := gd.of H1
    refine Lin.q (v := elp x_v1.1 (Q6.toNat * Enc.sz Int + 0)) (by decide) (q_ixg (l := v1) (E := fun i => Flat.enc (nth v1 i)) (oa := x_v1.1) Try.underlying31 ty3 rfl rfl h16 rfl (EntB.flat (Ent.b Ent.z.s))) ?_
    refine Lin.q (v := .int .i64 (nth v1 Q6.toNat)) (by decide) (q_lde (l := v1) (E := fun i => Flat.enc (nth v1 i)) (oa := x_v1.1) (i := Q6.toNat) (j := 0) ty3 rfl (EntB.flat (Ent.b Ent.z.s)) h16.lt rfl) ?_
    refine Lin.q (v := .bool (!decide ((nth v0 Q6.toNat) = (nth v1 Q6.toNat)))) (by decide) (Pu.qo (p_neq rfl rfl)) ?_
    show At _ _ _ _ _ _
    refine nT (?_)
    refine Tr.cond (b := !decide ((nth v0 Q6.toNat) = (nth v1 Q6.toNat))) rfl (fun h17 => ?_) (fun h17 => ?_)
    ·have H1 := cdT h17 H1
     refine Tr.seq (Tr.region ?_)
     refine Rg.q (v := .bool (false)) (Pu.qo (p_assign rfl)) (by decide) (Rg.nl (nT ?_))
     refine tRet ?_
     refine rB (rT (rT (rB (rT (rT (?_))))))
     have hx := hb11 _ (Option.some.inj H1).symm; subst hx
     replace H := sw.r H
     have hr := Option.some.inj H; subst hr
     exact back1 () rfl (ResV.tmp (v := .bool (false)) rfl) rfl Ents.nil Take.nil
    ·have H1 := cdF h17 H1
     refine tSkip ?_
     refine nB (nT (?_))
     refine Tr.region ?_
     refine Rg.q (v := .int .i64 (Q6)) (Pu.qo (p_move rfl)) (by decide) ?_
     obtain ⟨h18, H1⟩ := gd.of H1
     refine Rg.q (v := .int .i64 (Q6 + 1)) (Pu.qo (p_add rfl rfl h18)) (by decide) ?_
     refine Rg.q (v := .int .i64 (Q6 + 1)) (Pu.qo (p_assign rfl)) (by decide) (Rg.nl ?_)
     exact nLC ⟨(m13, Q6 + 1, ()), hi10 _ (Option.some.inj H1).symm⟩ (Nat.lt_succ_self _) ⟨rfl, rfl, rfl, trivial⟩ Ents.refl Take.nil
   ·have H1 := cdF h14 H1
    refine tExit (xT (xT (xE (?_))))
    exact nMC ⟨((), ()), (hb11 _ (Option.some.inj H1).symm).symm⟩ trivial Ents.refl Take.nil
  ·rintro ⟨⟨e19, y8⟩, hx⟩; subst hx; replace H := sw.l H
   show At _ _ [] _ [] _
   refine nT (?_)
   refine Tr.seq (Tr.region ?_)
   refine Rg.q (v := .bool (true)) (Pu.qo (p_assign rfl)) (by decide) (Rg.nl (nT ?_))
   refine tRet ?_
   have hr := Option.some.inj H; subst hr
   exact back1 () rfl (ResV.tmp (v := .bool (true)) rfl) rfl Ents.nil Take.nil
noncomputable def p_laws_lyIndex_b0 (v0 : Index) (v1 : Index) (Q15 : Int) : Option ((Int) ⊕ (Unit ⊕ Bool)) := cond (decide (Q15 < (v0.1.length : Int))) (gd (ix Q15 v0.1.length) <| gd (ix Q15 v1.1.length) <| bd (p_laws_lyName (nth v0.1 Q15.toNat) (nth v1.1 Q15.toNat)) fun r26 => cond (!r26) (some (.inr (.inr false))) (gd (I64 (Q15 + 1)) <| some (.inl (Q15 + 1)))) (some (.inr (.inl ())))
noncomputable def p_laws_lyIndex_b1 (v0 : Index) (v1 : Index) (Q35 : Int) : Option ((Int) ⊕ (Unit ⊕ Bool)) := cond (decide (Q35 < (v0.2.length : Int))) (bd (gd (ix Q35 v0.2.length) <| gd (ix Q35 v1.2.length) <| cond (!decide ((nth v0.2 Q35.toNat).1 = (nth v1.2 Q35.toNat).1)) (some (true)) (bd (p_laws_lyInts ((nth v0.2 Q35.toNat).2) ((nth v1.2 Q35.toNat).2)) fun r49 => some (!r49))) fun b44 => cond (b44) (some (.inr (.inr false))) (gd (I64 (Q35 + 1)) <| some (.inl (Q35 + 1)))) (some (.inr (.inl ())))
noncomputable def p_laws_lyIndex (v0 : Index) (v1 : Index) : Option (Bool) := bd (cond (!decide ((v0.1.length : Int) = (v1.1.length : Int))) (some (true)) (some (!decide ((v0.2.length : Int) = (v1.2.length : Int))))) fun b7 => cond (b7) (some false) (bd (lp (p_laws_lyIndex_b0 v0 v1) 0) <| sw (fun _ => bd (lp (p_laws_lyIndex_b1 v0 v1) 0) <| sw (fun _ => some true) (fun q => some q)) (fun q => some q))
theorem c_laws_lyIndex {r : Bool} (v0 : Index) (x_v0 : (Option Addr × Nat) × (Option Addr × Nat)) (v1 : Index) (x_v1 : (Option Addr × Nat) × (Option Addr × Nat)) (H : p_laws_lyIndex v0 v1 = some r) : Fn' Try.prog 25 #[.agg #[.slice x_v0.1.1 v0.1.length x_v0.1.2, .slice x_v0.2.1 v0.2.length x_v0.2.2], .agg #[.slice x_v1.1.1 v1.1.length x_v1.1.2, .slice x_v1.2.1 v1.2.length x_v1.2.2]] [imm (.slice x_v0.1.1 v0.1.length x_v0.1.2) v0.1, imm (.slice x_v0.2.1 v0.2.length x_v0.2.2) v0.2, imm (.slice x_v1.1.1 v1.1.length x_v1.1.2) v1.1, imm (.slice x_v1.2.1 v1.2.length x_v1.2.2) v1.2] [] (ι := Unit) (fun _ => .bool (r)) (fun _ => []) (fun _ => []) := by
 refine calls_of (args := [_, _]) Try.func25 rfl (by kernel_rfl) Try.ntmps25 (by simp) fun c => ?_
 unfold p_laws_lyIndex at H
 refine Tr.openD Ent.z fun X1 => ?_
 refine Tr.openD Ent.z.s.s fun X2 => ?_
 refine Tr.openD Ent.z.s.s.s.s fun X3 => ?_
 refine Tr.openD Ent.z.s.s.s.s.s.s fun X4 => ?_
 refine Tr.seq (Tr.region ?_)
 refine Rg.ed (e_box (t := 26) (v := .agg #[.slice x_v0.1.1 v0.1.length x_v0.1.2, .slice x_v0.2.1 v0.2.length x_v0.2.2]) rfl) rfl (by decide) ?_
 rintro _ _ _ ⟨g5, rfl, rfl, rfl⟩
 refine Rg.ed (e_box (t := 26) (v := .agg #[.slice x_v1.1.1 v1.1.length x_v1.1.2, .slice x_v1.2.1 v1.2.length x_v1.2.2]) rfl) rfl (by decide) ?_
 rintro _ _ _ ⟨g6, rfl, rfl, rfl⟩
 refine Rg.q (v := .bool (false)) (Pu.qo (p_assign rfl)) (by decide) (Rg.nl (nT ?_))
 refine Tr.seq ?_
 obtain ⟨b7, j8, H⟩ := bd.of H
 refine tMid1 [(22, .bool (b7)), (3, .pointer (some ⟨g6, 0, none⟩)), (2, .pointer (some ⟨g5, 0, none⟩))] ?_ ?_
 ·refine tLinT [(3, .pointer (some ⟨g6, 0, none⟩)), (2, .pointer (some ⟨g5, 0, none⟩))] ⟨rfl, rfl, trivial⟩ ?_
  refine Lin.q (v := .pointer (some ⟨g5, 0, none⟩)) (by decide) (Pu.qo (p_fabE fa26_0 rfl rfl)) ?_
  refine Lin.q (v := .slice x_v0.1.1 v0.1.length x_v0.1.2) (by decide) (q_ldb ty23 rfl Has.here.there rfl) ?_
  refine Lin.q (v := .int .i64 ((v0.1.length : Int))) (by decide) (Pu.qo (p_len 38 Try.underlying23 rfl)) ?_
  refine Lin.q (v := .pointer (some ⟨g6, 0, none⟩)) (by decide) (Pu.qo (p_fabE fa26_0 rfl rfl)) ?_
  refine Lin.q (v := .slice x_v1.1.1 v1.1.length x_v1.1.2) (by decide) (q_ldb ty23 rfl Has.here rfl) ?_
  refine Lin.q (v := .int .i64 ((v1.1.length : Int))) (by decide) (Pu.qo (p_len 38 Try.underlying23 rfl)) ?_
  refine Lin.q (v := .bool (!decide ((v0.1.length : Int) = (v1.1.length : Int)))) (by decide) (Pu.qo (p_neq rfl rfl)) ?_
  rcases Bool.eq_false_or_eq_true (!decide ((v0.1.length : Int) = (v1.1.length : Int))) with h9 | h9
  ·have j8 := cdT h9 j8
   refine Lin.q (v := .bool (true)) (by decide) (Qo.eqv (v := .bool (!decide ((v0.1.length : Int) = (v1.1.length : Int)))) (Pu.qo (p_move rfl)) (congrArg Value.bool h9)) ?_
   refine Lin.skip (by decide) rfl ?_
   refine Lin.skip (by decide) rfl ?_
   refine Lin.skip (by decide) rfl ?_
   refine Lin.skip (by decide) rfl ?_
   refine Lin.skip (by decide) rfl ?_
   refine Lin.skip (by decide) rfl ?_
   refine Lin.skip (by decide) rfl ?_
   refine Lin.q (v := .bool (true)) (by decide) (Pu.qo (p_pickT rfl rfl)) ?_
   have j8 := Option.some.inj j8; subst j8
   show At _ _ _ _ _ _
   exact n1 ⟨rfl, rfl, rfl, trivial⟩
  ·have j8 := cdF h9 j8
   refine Lin.q (v := .bool (false)) (by decide) (Qo.eqv (v := .bool (!decide ((v0.1.length : Int) = (v1.1.length : Int)))) (Pu.qo (p_move rfl)) (congrArg Value.bool h9)) ?_
   refine Lin.g (v := .pointer (some ⟨g5, 1, none⟩)) (by decide) rfl (Pu.qo (p_fabE fa26_1 rfl rfl)) ?_
   refine Lin.g (v := .slice x_v0.2.1 v0.2.length x_v0.2.2) (by decide) rfl (q_ldb ty24 rfl Has.here.there rfl) ?_
   refine Lin.g (v := .int .i64 ((v0.2.length : Int))) (by decide) rfl (Pu.qo (p_len 33 Try.underlying24 rfl)) ?_
   refine Lin.g (v := .pointer (some ⟨g6, 1, none⟩)) (by decide) rfl (Pu.qo (p_fabE fa26_1 rfl rfl)) ?_
   refine Lin.g (v := .slice x_v1.2.1 v1.2.length x_v1.2.2) (by decide) rfl (q_ldb ty24 rfl Has.here rfl) ?_
   refine Lin.g (v := .int .i64 ((v1.2.length : Int))) (by decide) rfl (Pu.qo (p_len 33 Try.underlying24 rfl)) ?_
   refine Lin.g (v := .bool (!decide ((v0.2.length : Int) = (v1.2.length : Int)))) (by decide) rfl (Pu.qo (p_neq rfl rfl)) ?_
   refine Lin.q (v := .bool (!decide ((v0.2.length : Int) = (v1.2.length : Int)))) (by decide) (Pu.qo (p_pickF rfl rfl)) ?_
   have j8 := Option.some.inj j8; subst j8
   show At _ _ _ _ _ _
   exact n1 ⟨rfl, rfl, rfl, trivial⟩
 refine Tr.cond (b := b7) rfl (fun h10 => ?_) (fun h10 => ?_)
 ·have H := cdT h10 H
  refine Tr.seq (Tr.region ?_)
  refine Rg.q (v := .bool (false)) (Pu.qo (p_assign rfl)) (by decide) (Rg.nl (nT ?_))
  refine tRet ?_
  refine rT (?_)
  have hr := Option.some.inj H; subst hr
  exact back1 () rfl (ResV.tmp (v := .bool (false)) rfl) rfl Ents.nil Take.nil
 ·have H := cdF h10 H
  refine tSkip ?_
  refine nT (?_)
  refine Tr.seq (Tr.seq (Tr.region ?_))
  refine Rg.q (v := .int .i64 (0)) (Pu.qo (p_assign rfl)) (by decide) (Rg.nl (nT ?_))
  obtain ⟨x11, hx12, H⟩ := bd.of H
  obtain ⟨n13, hx12⟩ := lp.of hx12
  refine tMidNC (ι := { q : (Unit) × Unit // x11 = .inl q.1 }) (fun ψ => [(2, .pointer (some ⟨g5, 0, none⟩)), (3, .pointer (some ⟨g6, 0, none⟩))]) (fun ψ => [box g5 26 [.slice x_v0.1.1 v0.1.length x_v0.1.2, .slice x_v0.2.1 v0.2.length x_v0.2.2], box g6 26 [.slice x_v1.1.1 v1.1.length x_v1.1.2, .slice x_v1.2.1 v1.2.length x_v1.2.2]]) ?_ ?_
  ·refine Tr.block ?_
   refine tLoopC (ι := { q : Nat × (Int) × Unit // itr (p_laws_lyIndex_b0 v0 v1) q.1 q.2.1 = some x11 }) (fun ζ => [(2, .pointer (some ⟨g5, 0, none⟩)), (3, .pointer (some ⟨g6, 0, none⟩)), (5, .int .i64 (ζ.1.2.1))]) (fun ζ => [box g5 26 [.slice x_v0.1.1 v0.1.length x_v0.1.2, .slice x_v0.2.1 v0.2.length x_v0.2.2], box g6 26 [.slice x_v1.1.1 v1.1.length x_v1.1.2, .slice x_v1.2.1 v1.2.length x_v1.2.2]]) (fun ζ => ζ.1.1) ⟨(n13, 0, ()), hx12⟩ ⟨rfl, rfl, rfl, trivial⟩ (.cons Del.here.there (.cons Del.here .nil)) ?_
   rintro ⟨⟨m14, Q15, z16⟩, hk21⟩
   obtain ⟨m22, t18, e, H1, hi19, hb20⟩ := itr.of (n := m14) (s := Q15) hk21
   subst e; unfold p_laws_lyIndex_b0 at H1
   show Tr _ _ _ _ _ [(2, .pointer (some ⟨g5, 0, none⟩)), (3, .pointer (some ⟨g6, 0, none⟩)), (5, .int .i64 (Q15))] _ [box g5 26 [.slice x_v0.1.1 v0.1.length x_v0.1.2, .slice x_v0.2.1 v0.2.length x_v0.2.2], box g6 26 [.slice x_v1.1.1 v1.1.length x_v1.1.2, .slice x_v1.2.1 v1.2.length x_v1.2.2]]
   refine Tr.seq (Tr.seq (Tr.region ?_))
   refine Rg.q (v := .int .i64 (Q15)) (Pu.qo (p_move rfl)) (by decide) ?_
   refine Rg.q (v := .pointer (some ⟨g5, 0, none⟩)) (Pu.qo (p_fabE fa26_0 rfl rfl)) (by decide) ?_
   refine Rg.q (v := .slice x_v0.1.1 v0.1.length x_v0.1.2) (q_ldb ty23 rfl Has.here rfl) (by decide) ?_
   refine Rg.q (v := .int .i64 ((v0.1.length : Int))) (Pu.qo (p_len 38 Try.underlying23 rfl)) (by decide) ?_
   refine Rg.q (v := .bool (decide (Q15 < (v0.1.length : Int)))) (Pu.qo (p_lss rfl rfl)) (by decide) (Rg.nl (nT ?_))
   refine Tr.cond (b := decide (Q15 < (v0.1.length : Int))) rfl (fun h23 => ?_) (fun h23 => ?_)
   ·have H1 := cdT h23 H1
    refine tSkip ?_
    refine nT (Tr.seq ?_)
    refine Tr.block ?_
    refine Tr.seq ?_
    refine tLinS [(2, .pointer (some ⟨g5, 0, none⟩)), (3, .pointer (some ⟨g6, 0, none⟩)), (5, .int .i64 (Q15))] Try.mixed (.inr (by kernel_rfl)) ⟨rfl, rfl, rfl, trivial⟩ rfl ?_
    refine Lin.q (v := .pointer (some ⟨g5, 0, none⟩)) (by decide) (Pu.qo (p_fabE fa26_0 rfl rfl)) ?_
    refine Lin.q (v := .slice x_v0.1.1 v0.1.length x_v0.1.2) (by decide) (q_ldb ty23 rfl Has.here rfl) ?_
    refine Lin.q (v := .int .i64 (Q15)) (by decide) (Pu.qo (p_move rfl)) ?_
    obtain ⟨h24, H1⟩ := gd.of H1
    refine Lin.q (v := elp x_v0.1.1 (Q15.toNat * Enc.sz (List Tag) + 0)) (by decide) (q_ixg (l := v0.1) (E := fun i => Dp.denc (nth v0.1 i) (X1 i)) (oa := x_v0.1.1) Try.underlying23 ty38 rfl rfl h24 rfl (Ent.b (Ent.darr Ent.z.s.s.s))) ?_
    refine Lin.q (v := .slice ((X1 Q15.toNat).1) ((nth v0.1 Q15.toNat).length) ((X1 Q15.toNat).2.1)) (by decide) (q_lde (l := v0.1) (E := fun i => Dp.denc (nth v0.1 i) (X1 i)) (oa := x_v0.1.1) (i := Q15.toNat) (j := 0) ty38 rfl (Ent.b (Ent.darr Ent.z.s.s.s)) h24.lt rfl) ?_
    refine Lin.q (v := .pointer (some ⟨g6, 0, none⟩)) (by decide) (Pu.qo (p_fabE fa26_0 rfl rfl)) ?_
    refine Lin.q (v := .slice x_v1.1.1 v1.1.length x_v1.1.2) (by decide) (q_ldb ty23 rfl Has.here.there rfl) ?_
    refine Lin.q (v := .int .i64 (Q15)) (by decide) (Pu.qo (p_move rfl)) ?_
    obtain ⟨h25, H1⟩ := gd.of H1
    refine Lin.q (v := elp x_v1.1.1 (Q15.toNat * Enc.sz (List Tag) + 0)) (by decide) (q_ixg (l := v1.1) (E := fun i => Dp.denc (nth v1.1 i) (X3 i)) (oa := x_v1.1.1) Try.underlying23 ty38 rfl rfl h25 rfl (Ent.b (Ent.darr Ent.z.s))) ?_
    refine Lin.q (v := .slice ((X3 Q15.toNat).1) ((nth v1.1 Q15.toNat).length) ((X3 Q15.toNat).2.1)) (by decide) (q_lde (l := v1.1) (E := fun i => Dp.denc (nth v1.1 i) (X3 i)) (oa := x_v1.1.1) (i := Q15.toNat) (j := 0) ty38 rfl (Ent.b (Ent.darr Ent.z.s)) h25.lt rfl) ?_
    obtain ⟨r26, h27, H1⟩ := bd.of H1
    refine Lin.q (v := .bool (r26)) (by decide) (q_call (vs := [.slice ((X1 Q15.toNat).1) ((nth v0.1 Q15.toNat).length) ((X1 Q15.toNat).2.1), .slice ((X3 Q15.toNat).1) ((nth v1.1 Q15.toNat).length) ((X3 Q15.toNat).2.1)]) (c_laws_lyName (nth v0.1 Q15.toNat) ((X1 Q15.toNat).1, (X1 Q15.toNat).2.1) (nth v1.1 Q15.toNat) ((X3 Q15.toNat).1, (X3 Q15.toNat).2.1) h27) rfl (EntsB.cons (Ent.b (Ent.dimm (Ent.del Ent.z.s.s.s h24.lt))) (EntsB.cons (Ent.b (Ent.dimm (Ent.del Ent.z.s h25.lt))) EntsB.nil))) ?_
    refine Lin.q (v := .bool (!r26)) (by decide) (Pu.qo (p_not rfl)) ?_
    show At _ _ _ _ _ _
    refine nT (?_)
    refine Tr.cond (b := !r26) rfl (fun h28 => ?_) (fun h28 => ?_)
    ·have H1 := cdT h28 H1
     refine Tr.seq (Tr.region ?_)
     refine Rg.q (v := .bool (false)) (Pu.qo (p_assign rfl)) (by decide) (Rg.nl (nT ?_))
     refine tRet ?_
     refine rB (rT (rT (rB (rT (rT (?_))))))
     have hx := hb20 _ (Option.some.inj H1).symm; subst hx
     replace H := sw.r H
     have hr := Option.some.inj H; subst hr
     exact back1 () rfl (ResV.tmp (v := .bool (false)) rfl) rfl Ents.nil Take.nil
    ·have H1 := cdF h28 H1
     refine tSkip ?_
     refine nB (nT (?_))
     refine Tr.region ?_
     refine Rg.q (v := .int .i64 (Q15)) (Pu.qo (p_move rfl)) (by decide) ?_
     obtain ⟨h29, H1⟩ := gd.of H1
     refine Rg.q (v := .int .i64 (Q15 + 1)) (Pu.qo (p_add rfl rfl h29)) (by decide) ?_
     refine Rg.q (v := .int .i64 (Q15 + 1)) (Pu.qo (p_assign rfl)) (by decide) (Rg.nl ?_)
     exact nLC ⟨(m22, Q15 + 1, ()), hi19 _ (Option.some.inj H1).symm⟩ (Nat.lt_succ_self _) ⟨rfl, rfl, rfl, trivial⟩ Ents.refl (.cons Del.here (.cons Del.here .nil))
   ·have H1 := cdF h23 H1
    refine tExit (xT (xT (xE (?_))))
    exact nMC ⟨((), ()), (hb20 _ (Option.some.inj H1).symm).symm⟩ ⟨rfl, rfl, trivial⟩ Ents.refl (.cons Del.here (.cons Del.here .nil))
  ·rintro ⟨⟨e30, y17⟩, hx⟩; subst hx; replace H := sw.l H
   show At _ _ [(2, .pointer (some ⟨g5, 0, none⟩)), (3, .pointer (some ⟨g6, 0, none⟩))] _ [box g5 26 [.slice x_v0.1.1 v0.1.length x_v0.1.2, .slice x_v0.2.1 v0.2.length x_v0.2.2], box g6 26 [.slice x_v1.1.1 v1.1.length x_v1.1.2, .slice x_v1.2.1 v1.2.length x_v1.2.2]] _
   refine nT (?_)
   refine Tr.seq (Tr.seq (Tr.region ?_))
   refine Rg.q (v := .int .i64 (0)) (Pu.qo (p_assign rfl)) (by decide) (Rg.nl (nT ?_))
   obtain ⟨x31, hx32, H⟩ := bd.of H
   obtain ⟨n33, hx32⟩ := lp.of hx32
   refine tMidNC (ι := { q : (Unit) × Unit // x31 = .inl q.1 }) (fun ψ => []) (fun ψ => []) ?_ ?_
   ·refine Tr.block ?_
    refine tLoopC (ι := { q : Nat × (Int) × Unit // itr (p_laws_lyIndex_b1 v0 v1) q.1 q.2.1 = some x31 }) (fun ζ => [(2, .pointer (some ⟨g5, 0, none⟩)), (3, .pointer (some ⟨g6, 0, none⟩)), (6, .int .i64 (ζ.1.2.1))]) (fun ζ => [box g5 26 [.slice x_v0.1.1 v0.1.length x_v0.1.2, .slice x_v0.2.1 v0.2.length x_v0.2.2], box g6 26 [.slice x_v1.1.1 v1.1.length x_v1.1.2, .slice x_v1.2.1 v1.2.length x_v1.2.2]]) (fun ζ => ζ.1.1) ⟨(n33, 0, ()), hx32⟩ ⟨rfl, rfl, rfl, trivial⟩ (.cons Del.here (.cons Del.here .nil)) ?_
    rintro ⟨⟨m34, Q35, z36⟩, hk41⟩
    obtain ⟨m42, t38, e, H1, hi39, hb40⟩ := itr.of (n := m34) (s := Q35) hk41
    subst e; unfold p_laws_lyIndex_b1 at H1
    show Tr _ _ _ _ _ [(2, .pointer (some ⟨g5, 0, none⟩)), (3, .pointer (some ⟨g6, 0, none⟩)), (6, .int .i64 (Q35))] _ [box g5 26 [.slice x_v0.1.1 v0.1.length x_v0.1.2, .slice x_v0.2.1 v0.2.length x_v0.2.2], box g6 26 [.slice x_v1.1.1 v1.1.length x_v1.1.2, .slice x_v1.2.1 v1.2.length x_v1.2.2]]
    refine Tr.seq (Tr.seq (Tr.region ?_))
    refine Rg.q (v := .int .i64 (Q35)) (Pu.qo (p_move rfl)) (by decide) ?_
    refine Rg.q (v := .pointer (some ⟨g5, 1, none⟩)) (Pu.qo (p_fabE fa26_1 rfl rfl)) (by decide) ?_
    refine Rg.q (v := .slice x_v0.2.1 v0.2.length x_v0.2.2) (q_ldb ty24 rfl Has.here rfl) (by decide) ?_
    refine Rg.q (v := .int .i64 ((v0.2.length : Int))) (Pu.qo (p_len 33 Try.underlying24 rfl)) (by decide) ?_
    refine Rg.q (v := .bool (decide (Q35 < (v0.2.length : Int)))) (Pu.qo (p_lss rfl rfl)) (by decide) (Rg.nl (nT ?_))
    refine Tr.cond (b := decide (Q35 < (v0.2.length : Int))) rfl (fun h43 => ?_) (fun h43 => ?_)
    ·have H1 := cdT h43 H1
     refine tSkip ?_
     refine nT (Tr.seq ?_)
     refine Tr.block ?_
     obtain ⟨b44, j45, H1⟩ := bd.of H1
     refine tMid1 [(77, .bool (b44)), (2, .pointer (some ⟨g5, 0, none⟩)), (3, .pointer (some ⟨g6, 0, none⟩)), (6, .int .i64 (Q35))] ?_ ?_
     ·refine tLinS [(2, .pointer (some ⟨g5, 0, none⟩)), (3, .pointer (some ⟨g6, 0, none⟩)), (6, .int .i64 (Q35))] Try.mixed (.inr (by kernel_rfl)) ⟨rfl, rfl, rfl, trivial⟩ rfl ?_
      refine Lin.q (v := .pointer (some ⟨g5, 1, none⟩)) (by decide) (Pu.qo (p_fabE fa26_1 rfl rfl)) ?_
      refine Lin.q (v := .slice x_v0.2.1 v0.2.length x_v0.2.2) (by decide) (q_ldb ty24 rfl Has.here rfl) ?_
      refine Lin.q (v := .int .i64 (Q35)) (by decide) (Pu.qo (p_move rfl)) ?_
      obtain ⟨h46, j45⟩ := gd.of j45
      refine Lin.q (v := elp x_v0.2.1 (Q35.toNat * Enc.sz Post + 0)) (by decide) (q_ixg (l := v0.2) (E := fun i => Dp.denc (nth v0.2 i) (X2 i)) (oa := x_v0.2.1) Try.underlying24 ty33 rfl rfl h46 rfl (Ent.b (Ent.darr Ent.z.s.s))) ?_
      refine Lin.q (v := elp x_v0.2.1 (Q35.toNat * Enc.sz Post + 0)) (by decide) (q_faeE (l := v0.2) (E := fun i => Dp.denc (nth v0.2 i) (X2 i)) (oa := x_v0.2.1) (j := 0) Q35.toNat fa33_0 rfl (Ent.b (Ent.darr Ent.z.s.s)) h46.lt rfl) ?_
      refine Lin.q (v := .agg #[.string (((nth v0.2 Q35.toNat).1).1), .string (((nth v0.2 Q35.toNat).1).2)]) (by decide) (q_ldeP [.string (((nth v0.2 Q35.toNat).1).1), .string (((nth v0.2 Q35.toNat).1).2)] (l := v0.2) (E := fun i => Dp.denc (nth v0.2 i) (X2 i)) (oa := x_v0.2.1) (i := Q35.toNat) (j := 0) ty30 rfl (Ent.b (Ent.darr Ent.z.s.s)) h46.lt rfl rfl) ?_
      refine Lin.q (v := .pointer (some ⟨g6, 1, none⟩)) (by decide) (Pu.qo (p_fabE fa26_1 rfl rfl)) ?_
      refine Lin.q (v := .slice x_v1.2.1 v1.2.length x_v1.2.2) (by decide) (q_ldb ty24 rfl Has.here.there rfl) ?_
      refine Lin.q (v := .int .i64 (Q35)) (by decide) (Pu.qo (p_move rfl)) ?_
      obtain ⟨h47, j45⟩ := gd.of j45
      refine Lin.q (v := elp x_v1.2.1 (Q35.toNat * Enc.sz Post + 0)) (by decide) (q_ixg (l := v1.2) (E := fun i => Dp.denc (nth v1.2 i) (X4 i)) (oa := x_v1.2.1) Try.underlying24 ty33 rfl rfl h47 rfl (Ent.b (Ent.darr Ent.z))) ?_
      refine Lin.q (v := elp x_v1.2.1 (Q35.toNat * Enc.sz Post + 0)) (by decide) (q_faeE (l := v1.2) (E := fun i => Dp.denc (nth v1.2 i) (X4 i)) (oa := x_v1.2.1) (j := 0) Q35.toNat fa33_0 rfl (Ent.b (Ent.darr Ent.z)) h47.lt rfl) ?_
      refine Lin.q (v := .agg #[.string (((nth v1.2 Q35.toNat).1).1), .string (((nth v1.2 Q35.toNat).1).2)]) (by decide) (q_ldeP [.string (((nth v1.2 Q35.toNat).1).1), .string (((nth v1.2 Q35.toNat).1).2)] (l := v1.2) (E := fun i => Dp.denc (nth v1.2 i) (X4 i)) (oa := x_v1.2.1) (i := Q35.toNat) (j := 0) ty30 rfl (Ent.b (Ent.darr Ent.z)) h47.lt rfl rfl) ?_
      refine Lin.q (v := .bool (!decide ((nth v0.2 Q35.toNat).1 = (nth v1.2 Q35.toNat).1))) (by decide) (Pu.qo (p_aneq (a := (nth v0.2 Q35.toNat).1) (b := (nth v1.2 Q35.toNat).1) ae30 rfl rfl rfl rfl)) ?_
      rcases Bool.eq_false_or_eq_true (!decide ((nth v0.2 Q35.toNat).1 = (nth v1.2 Q35.toNat).1)) with h48 | h48
      ·have j45 := cdT h48 j45
       refine Lin.q (v := .bool (true)) (by decide) (Qo.eqv (v := .bool (!decide ((nth v0.2 Q35.toNat).1 = (nth v1.2 Q35.toNat).1))) (Pu.qo (p_move rfl)) (congrArg Value.bool h48)) ?_
       refine Lin.skip (by decide) rfl ?_
       refine Lin.skip (by decide) rfl ?_
       refine Lin.skip (by decide) rfl ?_
       refine Lin.skip (by decide) rfl ?_
       refine Lin.skip (by decide) rfl ?_
       refine Lin.skip (by decide) rfl ?_
       refine Lin.skip (by decide) rfl ?_
       refine Lin.skip (by decide) rfl ?_
       refine Lin.skip (by decide) rfl ?_
       refine Lin.skip (by decide) rfl ?_
       refine Lin.skip (by decide) rfl ?_
       refine Lin.skip (by decide) rfl ?_
       refine Lin.skip (by decide) rfl ?_
       refine Lin.skip (by decide) rfl ?_
       refine Lin.q (v := .bool (true)) (by decide) (Pu.qo (p_pickT rfl rfl)) ?_
       have j45 := Option.some.inj j45; subst j45
       show At _ _ _ _ _ _
       exact n1 ⟨rfl, rfl, rfl, rfl, trivial⟩
      ·have j45 := cdF h48 j45
       refine Lin.q (v := .bool (false)) (by decide) (Qo.eqv (v := .bool (!decide ((nth v0.2 Q35.toNat).1 = (nth v1.2 Q35.toNat).1))) (Pu.qo (p_move rfl)) (congrArg Value.bool h48)) ?_
       refine Lin.g (v := .pointer (some ⟨g5, 1, none⟩)) (by decide) rfl (Pu.qo (p_fabE fa26_1 rfl rfl)) ?_
       refine Lin.g (v := .slice x_v0.2.1 v0.2.length x_v0.2.2) (by decide) rfl (q_ldb ty24 rfl Has.here rfl) ?_
       refine Lin.g (v := .int .i64 (Q35)) (by decide) rfl (Pu.qo (p_move rfl)) ?_
       refine Lin.g (v := elp x_v0.2.1 (Q35.toNat * Enc.sz Post + 0)) (by decide) rfl (q_ixg (l := v0.2) (E := fun i => Dp.denc (nth v0.2 i) (X2 i)) (oa := x_v0.2.1) Try.underlying24 ty33 rfl rfl h46 rfl (Ent.b (Ent.darr Ent.z.s.s))) ?_
       refine Lin.g (v := elp x_v0.2.1 (Q35.toNat * Enc.sz Post + 2)) (by decide) rfl (q_faeE (l := v0.2) (E := fun i => Dp.denc (nth v0.2 i) (X2 i)) (oa := x_v0.2.1) (j := 0) Q35.toNat fa33_1 rfl (Ent.b (Ent.darr Ent.z.s.s)) h46.lt rfl) ?_
       refine Lin.g (v := .slice (((X2 Q35.toNat).2).1) (((nth v0.2 Q35.toNat).2).length) (((X2 Q35.toNat).2).2.1)) (by decide) rfl (q_lde (l := v0.2) (E := fun i => Dp.denc (nth v0.2 i) (X2 i)) (oa := x_v0.2.1) (i := Q35.toNat) (j := 2) ty31 rfl (Ent.b (Ent.darr Ent.z.s.s)) h46.lt rfl) ?_
       refine Lin.g (v := .pointer (some ⟨g6, 1, none⟩)) (by decide) rfl (Pu.qo (p_fabE fa26_1 rfl rfl)) ?_
       refine Lin.g (v := .slice x_v1.2.1 v1.2.length x_v1.2.2) (by decide) rfl (q_ldb ty24 rfl Has.here.there rfl) ?_
       refine Lin.g (v := .int .i64 (Q35)) (by decide) rfl (Pu.qo (p_move rfl)) ?_
       refine Lin.g (v := elp x_v1.2.1 (Q35.toNat * Enc.sz Post + 0)) (by decide) rfl (q_ixg (l := v1.2) (E := fun i => Dp.denc (nth v1.2 i) (X4 i)) (oa := x_v1.2.1) Try.underlying24 ty33 rfl rfl h47 rfl (Ent.b (Ent.darr Ent.z))) ?_
       refine Lin.g (v := elp x_v1.2.1 (Q35.toNat * Enc.sz Post + 2)) (by decide) rfl (q_faeE (l := v1.2) (E := fun i => Dp.denc (nth v1.2 i) (X4 i)) (oa := x_v1.2.1) (j := 0) Q35.toNat fa33_1 rfl (Ent.b (Ent.darr Ent.z)) h47.lt rfl) ?_
       refine Lin.g (v := .slice (((X4 Q35.toNat).2).1) (((nth v1.2 Q35.toNat).2).length) (((X4 Q35.toNat).2).2.1)) (by decide) rfl (q_lde (l := v1.2) (E := fun i => Dp.denc (nth v1.2 i) (X4 i)) (oa := x_v1.2.1) (i := Q35.toNat) (j := 2) ty31 rfl (Ent.b (Ent.darr Ent.z)) h47.lt rfl) ?_
       obtain ⟨r49, h50, j45⟩ := bd.of j45
       refine Lin.g (v := .bool (r49)) (by decide) rfl (q_call (vs := [.slice (((X2 Q35.toNat).2).1) (((nth v0.2 Q35.toNat).2).length) (((X2 Q35.toNat).2).2.1), .slice (((X4 Q35.toNat).2).1) (((nth v1.2 Q35.toNat).2).length) (((X4 Q35.toNat).2).2.1)]) (c_laws_lyInts ((nth v0.2 Q35.toNat).2) (((X2 Q35.toNat).2).1, ((X2 Q35.toNat).2).2.1) ((nth v1.2 Q35.toNat).2) (((X4 Q35.toNat).2).1, ((X4 Q35.toNat).2).2.1) h50) rfl (EntsB.cons (Ent.b (Ent.dimm (Ent.dsnd (Ent.del Ent.z.s.s h46.lt)))) (EntsB.cons (Ent.b (Ent.dimm (Ent.dsnd (Ent.del Ent.z h47.lt)))) EntsB.nil))) ?_
       refine Lin.g (v := .bool (!r49)) (by decide) rfl (Pu.qo (p_not rfl)) ?_
       refine Lin.q (v := .bool (!r49)) (by decide) (Pu.qo (p_pickF rfl rfl)) ?_
       have j45 := Option.some.inj j45; subst j45
       show At _ _ _ _ _ _
       exact n1 ⟨rfl, rfl, rfl, rfl, trivial⟩
     refine Tr.cond (b := b44) rfl (fun h51 => ?_) (fun h51 => ?_)
     ·have H1 := cdT h51 H1
      refine Tr.seq (Tr.region ?_)
      refine Rg.q (v := .bool (false)) (Pu.qo (p_assign rfl)) (by decide) (Rg.nl (nT ?_))
      refine tRet ?_
      refine rB (rT (rT (rB (rT (rT (?_))))))
      have hx := hb40 _ (Option.some.inj H1).symm; subst hx
      replace H := sw.r H
      have hr := Option.some.inj H; subst hr
      exact back1 () rfl (ResV.tmp (v := .bool (false)) rfl) rfl Ents.nil Take.nil
     ·have H1 := cdF h51 H1
      refine tSkip ?_
      refine nB (nT (?_))
      refine Tr.region ?_
      refine Rg.q (v := .int .i64 (Q35)) (Pu.qo (p_move rfl)) (by decide) ?_
      obtain ⟨h52, H1⟩ := gd.of H1
      refine Rg.q (v := .int .i64 (Q35 + 1)) (Pu.qo (p_add rfl rfl h52)) (by decide) ?_
      refine Rg.q (v := .int .i64 (Q35 + 1)) (Pu.qo (p_assign rfl)) (by decide) (Rg.nl ?_)
      exact nLC ⟨(m42, Q35 + 1, ()), hi39 _ (Option.some.inj H1).symm⟩ (Nat.lt_succ_self _) ⟨rfl, rfl, rfl, trivial⟩ Ents.refl (.cons Del.here (.cons Del.here .nil))
    ·have H1 := cdF h43 H1
     refine tExit (xT (xT (xE (?_))))
     exact nMC ⟨((), ()), (hb40 _ (Option.some.inj H1).symm).symm⟩ trivial Ents.refl Take.nil
   ·rintro ⟨⟨e53, y37⟩, hx⟩; subst hx; replace H := sw.l H
    show At _ _ [] _ [] _
    refine nT (?_)
    refine Tr.seq (Tr.region ?_)
    refine Rg.q (v := .bool (true)) (Pu.qo (p_assign rfl)) (by decide) (Rg.nl (nT ?_))
    refine tRet ?_
    have hr := Option.some.inj H; subst hr
    exact back1 () rfl (ResV.tmp (v := .bool (true)) rfl) rfl Ents.nil Take.nil
noncomputable def p_impl_FilterOk_b0 (v0 : (List Cond)) (Q5 : Int) : Option ((Int) ⊕ (Unit ⊕ Bool)) := cond (decide (Q5 < (v0.length : Int))) (gd (ix Q5 v0.length) <| bd (p_impl_tagOk ((nth v0 Q5.toNat).1)) fun r16 => cond (!r16) (some (.inr (.inr false))) (gd (I64 (Q5 + 1)) <| some (.inl (Q5 + 1)))) (some (.inr (.inl ())))
noncomputable def p_impl_FilterOk (v0 : (List Cond)) : Option (Bool) := bd (lp (p_impl_FilterOk_b0 v0) 0) <| sw (fun _ => some (decide ((v0.length : Int) ≤ 3))) (fun q => some q)
theorem c_impl_FilterOk {r : Bool} (v0 : (List Cond)) (x_v0 : Option Addr × Nat) (H : p_impl_FilterOk v0 = some r) : Fn' Try.prog 88 #[.slice x_v0.1 v0.length x_v0.2] [imm (.slice x_v0.1 v0.length x_v0.2) v0] [] (ι := Unit) (fun _ => .bool (r)) (fun _ => []) (fun _ => []) := by
 refine calls_of (args := [_]) Try.func88 rfl (by kernel_rfl) Try.ntmps88 (by simp) fun c => ?_
 unfold p_impl_FilterOk at H
 refine Tr.seq (Tr.region ?_)
 refine Rg.q (v := .bool (false)) (Pu.qo (p_assign rfl)) (by decide) (Rg.nl (nT ?_))
 refine Tr.seq (Tr.seq (Tr.region ?_))
 refine Rg.q (v := .slice x_v0.1 v0.length x_v0.2) (Pu.qo (p_move rfl)) (by decide) ?_
 refine Rg.q (v := .int .i64 ((v0.length : Int))) (Pu.qo (p_len 62 Try.underlying54 rfl)) (by decide) ?_
 refine Rg.q (v := .int .i64 (0)) (Pu.qo (p_move rfl)) (by decide) (Rg.nl (nT ?_))
 obtain ⟨x1, hx2, H⟩ := bd.of H
 obtain ⟨n3, hx2⟩ := lp.of hx2
 refine tMidNC (ι := { q : (Unit) × Unit // x1 = .inl q.1 }) (fun ψ => [(0, .slice x_v0.1 v0.length x_v0.2)]) (fun ψ => []) ?_ ?_
 ·refine Tr.block ?_
  refine tLoopC (ι := { q : Nat × (Int) × Unit // itr (p_impl_FilterOk_b0 v0) q.1 q.2.1 = some x1 }) (fun ζ => [(0, .slice x_v0.1 v0.length x_v0.2), (5, .slice x_v0.1 v0.length x_v0.2), (6, .int .i64 ((v0.length : Int))), (7, .int .i64 (ζ.1.2.1))]) (fun ζ => []) (fun ζ => ζ.1.1) ⟨(n3, 0, ()), hx2⟩ ⟨rfl, rfl, rfl, rfl, trivial⟩ Take.nil ?_
  rintro ⟨⟨m4, Q5, z6⟩, hk11⟩
  obtain ⟨m12, t8, e, H1, hi9, hb10⟩ := itr.of (n := m4) (s := Q5) hk11
  subst e; unfold p_impl_FilterOk_b0 at H1
  show Tr _ _ _ _ _ [(0, .slice x_v0.1 v0.length x_v0.2), (5, .slice x_v0.1 v0.length x_v0.2), (6, .int .i64 ((v0.length : Int))), (7, .int .i64 (Q5))] _ []
  refine Tr.seq (Tr.region ?_)
  refine Rg.q (v := .bool (decide (Q5 < (v0.length : Int)))) (Pu.qo (p_lss rfl rfl)) (by decide) (Rg.nl (nT ?_))
  refine Tr.seq ?_
  refine Tr.cond (b := decide (Q5 < (v0.length : Int))) rfl (fun h13 => ?_) (fun h13 => ?_)
  ·have H1 := cdT h13 H1
   refine tSkip ?_
   refine nT (Tr.seq ?_)
   refine Tr.block ?_
   refine Tr.seq (Tr.region ?_)
   obtain ⟨h14, H1⟩ := gd.of H1
   refine Rg.q (v := elp x_v0.1 (Q5.toNat * Enc.sz Cond + 0)) (q_ixg (l := v0) (E := fun i => Flat.enc (nth v0 i)) (oa := x_v0.1) Try.underlying54 ty62 rfl rfl h14 rfl (EntB.flat (Ent.b Ent.z))) (by decide) ?_
   refine Rg.q (v := .agg #[.string (((nth v0 Q5.toNat).1).1), .string (((nth v0 Q5.toNat).1).2), .bool ((nth v0 Q5.toNat).2)]) (q_ldeA (l := v0) (E := fun i => Flat.enc (nth v0 i)) (oa := x_v0.1) (i := Q5.toNat) ty62 rfl (EntB.flat (Ent.b Ent.z)) h14.lt) (by decide) ?_
   refine Rg.ed (e_alloc ty62) rfl (by decide) ?_
   rintro _ _ _ ⟨g15, rfl, rfl, rfl⟩
   refine Rg.en (e_store (v := .agg #[.string (((nth v0 Q5.toNat).1).1), .string (((nth v0 Q5.toNat).1).2), .bool ((nth v0 Q5.toNat).2)]) (cs' := [.string (((nth v0 Q5.toNat).1).1), .string (((nth v0 Q5.toNat).1).2), .bool ((nth v0 Q5.toNat).2)]) ty62 rfl rfl Upd.here rfl (by simp [Value.cells, Value.oneCell']) (Nat.le_of_ble_eq_true rfl) rfl) rfl ?_
   rintro _ _ _ ⟨rfl, rfl, rfl⟩
   refine Rg.nl (nT ?_)
   refine Tr.seq (Tr.region ?_)
   refine Rg.q (v := .pointer (some ⟨g15, 0, none⟩)) (Pu.qo (p_fabE fa62_0 rfl rfl)) (by decide) ?_
   refine Rg.q (v := .agg #[.string (((nth v0 Q5.toNat).1).1), .string (((nth v0 Q5.toNat).1).2)]) (q_ldbP [.string (((nth v0 Q5.toNat).1).1), .string (((nth v0 Q5.toNat).1).2)] ty30 rfl Has.here rfl rfl) (by decide) ?_
   obtain ⟨r16, h17, H1⟩ := bd.of H1
   refine Rg.q (v := .bool (r16)) (q_call (vs := [.agg #[.string (((nth v0 Q5.toNat).1).1), .string (((nth v0 Q5.toNat).1).2)]]) (c_impl_tagOk ((nth v0 Q5.toNat).1) h17) rfl EntsB.nil) (by decide) ?_
   refine Rg.q (v := .bool (!r16)) (Pu.qo (p_not rfl)) (by decide) (Rg.nl (nT ?_))
   refine Tr.cond (b := !r16) rfl (fun h18 => ?_) (fun h18 => ?_)
   ·have H1 := cdT h18 H1
    refine Tr.seq (Tr.region ?_)
    refine Rg.q (v := .bool (false)) (Pu.qo (p_assign rfl)) (by decide) (Rg.nl (nT ?_))
    refine tRet ?_
    refine rB (rT (rT (rB (rT (rT (?_))))))
    have hx := hb10 _ (Option.some.inj H1).symm; subst hx
    replace H := sw.r H
    have hr := Option.some.inj H; subst hr
    exact back1 () rfl (ResV.tmp (v := .bool (false)) rfl) rfl Ents.nil Take.nil
   ·have H1 := cdF h18 H1
    refine tSkip ?_
    refine nB (nT (?_))
    refine Tr.region ?_
    obtain ⟨h19, H1⟩ := gd.of H1
    refine Rg.q (v := .int .i64 (Q5 + 1)) (Pu.qo (p_add rfl rfl h19)) (by decide) ?_
    refine Rg.q (v := .int .i64 (Q5 + 1)) (Pu.qo (p_move rfl)) (by decide) (Rg.nl ?_)
    exact nLC ⟨(m12, Q5 + 1, ()), hi9 _ (Option.some.inj H1).symm⟩ (Nat.lt_succ_self _) ⟨rfl, rfl, rfl, rfl, trivial⟩ Ents.refl Take.nil
  ·have H1 := cdF h13 H1
   refine tExit (xT (xT (xE (?_))))
   exact nMC ⟨((), ()), (hb10 _ (Option.some.inj H1).symm).symm⟩ ⟨rfl, trivial⟩ Ents.refl Take.nil
 ·rintro ⟨⟨e20, y7⟩, hx⟩; subst hx; replace H := sw.l H
  show At _ _ [(0, .slice x_v0.1 v0.length x_v0.2)] _ [] _
  refine nT (?_)
  refine Tr.seq (Tr.region ?_)
  refine Rg.q (v := .slice x_v0.1 v0.length x_v0.2) (Pu.qo (p_move rfl)) (by decide) ?_
  refine Rg.q (v := .int .i64 ((v0.length : Int))) (Pu.qo (p_len 62 Try.underlying54 rfl)) (by decide) ?_
  refine Rg.q (v := .bool (decide ((v0.length : Int) ≤ 3))) (Pu.qo (p_leq rfl rfl)) (by decide) ?_
  refine Rg.q (v := .bool (decide ((v0.length : Int) ≤ 3))) (Pu.qo (p_assign rfl)) (by decide) (Rg.nl (nT ?_))
  refine tRet ?_
  have hr := Option.some.inj H; subst hr
  exact back1 () rfl (ResV.tmp (v := .bool (decide ((v0.length : Int) ≤ 3))) rfl) rfl Ents.nil Take.nil
noncomputable def p_slices_Index_Tag_Tag_b0 (v0 : (List Tag)) (v1 : Tag) (Q6 : Int) : Option ((Int) ⊕ (Unit ⊕ Int)) := cond (decide (Q6 < (v0.length : Int))) (gd (ix Q6 v0.length) <| cond (decide (v1 = nth v0 Q6.toNat)) (some (.inr (.inr Q6))) (gd (I64 (Q6 + 1)) <| some (.inl (Q6 + 1)))) (some (.inr (.inl ())))
noncomputable def p_slices_Index_Tag_Tag (v0 : (List Tag)) (v1 : Tag) : Option (Int) := bd (lp (p_slices_Index_Tag_Tag_b0 v0 v1) 0) <| sw (fun _ => some (-1)) (fun q => some q)
theorem c_slices_Index_Tag_Tag {r : Int} (v0 : (List Tag)) (x_v0 : Option Addr × Nat) (v1 : Tag) (H : p_slices_Index_Tag_Tag v0 v1 = some r) : Fn' Try.prog 129 #[.slice x_v0.1 v0.length x_v0.2, .agg #[.string (v1.1), .string (v1.2)]] [imm (.slice x_v0.1 v0.length x_v0.2) v0] [] (ι := Unit) (fun _ => .int .i64 (r)) (fun _ => []) (fun _ => []) := by
 refine calls_of (args := [_, _]) Try.func129 rfl (by kernel_rfl) Try.ntmps129 (by simp) fun c => ?_
 unfold p_slices_Index_Tag_Tag at H
 refine Tr.seq (Tr.region ?_)
 refine Rg.ed (e_box (t := 30) (v := .agg #[.string (v1.1), .string (v1.2)]) rfl) rfl (by decide) ?_
 rintro _ _ _ ⟨g1, rfl, rfl, rfl⟩
 refine Rg.q (v := .int .i64 (0)) (Pu.qo (p_assign rfl)) (by decide) (Rg.nl (nT ?_))
 refine Tr.seq (Tr.seq (Tr.region ?_))
 refine Rg.q (v := .slice x_v0.1 v0.length x_v0.2) (Pu.qo (p_move rfl)) (by decide) ?_
 refine Rg.q (v := .int .i64 ((v0.length : Int))) (Pu.qo (p_len 30 Try.underlying38 rfl)) (by decide) ?_
 refine Rg.q (v := .int .i64 (0)) (Pu.qo (p_move rfl)) (by decide) (Rg.nl (nT ?_))
 obtain ⟨x2, hx3, H⟩ := bd.of H
 obtain ⟨n4, hx3⟩ := lp.of hx3
 refine tMidNC (ι := { q : (Unit) × Unit // x2 = .inl q.1 }) (fun ψ => []) (fun ψ => []) ?_ ?_
 ·refine Tr.block ?_
  refine tLoopC (ι := { q : Nat × (Int) × Unit // itr (p_slices_Index_Tag_Tag_b0 v0 v1) q.1 q.2.1 = some x2 }) (fun ζ => [(0, .slice x_v0.1 v0.length x_v0.2), (3, .pointer (some ⟨g1, 0, none⟩)), (7, .int .i64 ((v0.length : Int))), (8, .int .i64 (ζ.1.2.1))]) (fun ζ => [box g1 30 [.string (v1.1), .string (v1.2)]]) (fun ζ => ζ.1.1) ⟨(n4, 0, ()), hx3⟩ ⟨rfl, rfl, rfl, rfl, trivial⟩ (.cons Del.here .nil) ?_
  rintro ⟨⟨m5, Q6, z7⟩, hk12⟩
  obtain ⟨m13, t9, e, H1, hi10, hb11⟩ := itr.of (n := m5) (s := Q6) hk12
  subst e; unfold p_slices_Index_Tag_Tag_b0 at H1
  show Tr _ _ _ _ _ [(0, .slice x_v0.1 v0.length x_v0.2), (3, .pointer (some ⟨g1, 0, none⟩)), (7, .int .i64 ((v0.length : Int))), (8, .int .i64 (Q6))] _ [box g1 30 [.string (v1.1), .string (v1.2)]]
  refine Tr.seq (Tr.region ?_)
  refine Rg.q (v := .bool (decide (Q6 < (v0.length : Int)))) (Pu.qo (p_lss rfl rfl)) (by decide) (Rg.nl (nT ?_))
  refine Tr.seq ?_
  refine Tr.cond (b := decide (Q6 < (v0.length : Int))) rfl (fun h14 => ?_) (fun h14 => ?_)
  ·have H1 := cdT h14 H1
   refine tSkip ?_
   refine nT (Tr.seq ?_)
   refine Tr.block ?_
   refine Tr.seq (Tr.region ?_)
   refine Rg.q (v := .int .i64 (Q6)) (Pu.qo (p_move rfl)) (by decide) ?_
   refine Rg.q (v := .int .i64 (Q6)) (Pu.qo (p_assign rfl)) (by decide) (Rg.nl (nT ?_))
   refine Tr.seq ?_
   refine tLinS [(5, .int .i64 (Q6)), (0, .slice x_v0.1 v0.length x_v0.2), (3, .pointer (some ⟨g1, 0, none⟩)), (7, .int .i64 ((v0.length : Int))), (8, .int .i64 (Q6))] Try.mixed (.inr (by kernel_rfl)) ⟨rfl, rfl, rfl, rfl, rfl, trivial⟩ rfl ?_
   refine Lin.q (v := .agg #[.string (v1.1), .string (v1.2)]) (by decide) (q_ldbA ty30 rfl Has.here rfl) ?_
   refine Lin.q (v := .slice x_v0.1 v0.length x_v0.2) (by decide) (Pu.qo (p_move rfl)) ?_
   refine Lin.q (v := .int .i64 (Q6)) (by decide) (Pu.qo (p_move rfl)) ?_
   obtain ⟨h15, H1⟩ := gd.of H1
   refine Lin.q (v := elp x_v0.1 (Q6.toNat * Enc.sz Tag + 0)) (by decide) (q_ixg (l := v0) (E := fun i => Flat.enc (nth v0 i)) (oa := x_v0.1) Try.underlying38 ty30 rfl rfl h15 rfl (EntB.flat (Ent.b Ent.z))) ?_
   refine Lin.q (v := .agg #[.string ((nth v0 Q6.toNat).1), .string ((nth v0 Q6.toNat).2)]) (by decide) (q_ldeA (l := v0) (E := fun i => Flat.enc (nth v0 i)) (oa := x_v0.1) (i := Q6.toNat) ty30 rfl (EntB.flat (Ent.b Ent.z)) h15.lt) ?_
   refine Lin.q (v := .bool (decide (v1 = nth v0 Q6.toNat))) (by decide) (Pu.qo (p_aeql (a := v1) (b := nth v0 Q6.toNat) ae30 rfl rfl rfl rfl)) ?_
   show At _ _ _ _ _ _
   refine nT (?_)
   refine Tr.cond (b := decide (v1 = nth v0 Q6.toNat)) rfl (fun h16 => ?_) (fun h16 => ?_)
   ·have H1 := cdT h16 H1
    refine Tr.seq (Tr.region ?_)
    refine Rg.q (v := .int .i64 (Q6)) (Pu.qo (p_move rfl)) (by decide) ?_
    refine Rg.q (v := .int .i64 (Q6)) (Pu.qo (p_assign rfl)) (by decide) (Rg.nl (nT ?_))
    refine tRet ?_
    refine rB (rT (rT (rB (rT (rT (?_))))))
    have hx := hb11 _ (Option.some.inj H1).symm; subst hx
    replace H := sw.r H
    have hr := Option.some.inj H; subst hr
    exact back1 () rfl (ResV.tmp (v := .int .i64 (Q6)) rfl) rfl Ents.nil Take.nil
   ·have H1 := cdF h16 H1
    refine tSkip ?_
    refine nB (nT (?_))
    refine Tr.region ?_
    obtain ⟨h17, H1⟩ := gd.of H1
    refine Rg.q (v := .int .i64 (Q6 + 1)) (Pu.qo (p_add rfl rfl h17)) (by decide) ?_
    refine Rg.q (v := .int .i64 (Q6 + 1)) (Pu.qo (p_move rfl)) (by decide) (Rg.nl ?_)
    exact nLC ⟨(m13, Q6 + 1, ()), hi10 _ (Option.some.inj H1).symm⟩ (Nat.lt_succ_self _) ⟨rfl, rfl, rfl, rfl, trivial⟩ Ents.refl (.cons Del.here .nil)
  ·have H1 := cdF h14 H1
   refine tExit (xT (xT (xE (?_))))
   exact nMC ⟨((), ()), (hb11 _ (Option.some.inj H1).symm).symm⟩ trivial Ents.refl Take.nil
 ·rintro ⟨⟨e18, y8⟩, hx⟩; subst hx; replace H := sw.l H
  show At _ _ [] _ [] _
  refine nT (?_)
  refine Tr.seq (Tr.region ?_)
  refine Rg.q (v := .int .i64 (-1)) (Pu.qo (p_assign rfl)) (by decide) (Rg.nl (nT ?_))
  refine tRet ?_
  have hr := Option.some.inj H; subst hr
  exact back1 () rfl (ResV.tmp (v := .int .i64 (-1)) rfl) rfl Ents.nil Take.nil
noncomputable def p_slices_Contains_Tag_Tag (v0 : (List Tag)) (v1 : Tag) : Option (Bool) := bd (p_slices_Index_Tag_Tag v0 v1) fun r2 => some (decide (0 ≤ r2))
theorem c_slices_Contains_Tag_Tag {r : Bool} (v0 : (List Tag)) (x_v0 : Option Addr × Nat) (v1 : Tag) (H : p_slices_Contains_Tag_Tag v0 v1 = some r) : Fn' Try.prog 89 #[.slice x_v0.1 v0.length x_v0.2, .agg #[.string (v1.1), .string (v1.2)]] [imm (.slice x_v0.1 v0.length x_v0.2) v0] [] (ι := Unit) (fun _ => .bool (r)) (fun _ => []) (fun _ => []) := by
 refine calls_of (args := [_, _]) Try.func89 rfl (by kernel_rfl) Try.ntmps89 (by simp) fun c => ?_
 unfold p_slices_Contains_Tag_Tag at H
 refine Tr.seq (Tr.region ?_)
 refine Rg.ed (e_box (t := 30) (v := .agg #[.string (v1.1), .string (v1.2)]) rfl) rfl (by decide) ?_
 rintro _ _ _ ⟨g1, rfl, rfl, rfl⟩
 refine Rg.q (v := .bool (false)) (Pu.qo (p_assign rfl)) (by decide) (Rg.nl (nT ?_))
 refine Tr.seq (Tr.region ?_)
 refine Rg.q (v := .slice x_v0.1 v0.length x_v0.2) (Pu.qo (p_move rfl)) (by decide) ?_
 refine Rg.q (v := .agg #[.string (v1.1), .string (v1.2)]) (q_ldbA ty30 rfl Has.here rfl) (by decide) ?_
 obtain ⟨r2, h3, H⟩ := bd.of H
 refine Rg.q (v := .int .i64 (r2)) (q_call (vs := [.slice x_v0.1 v0.length x_v0.2, .agg #[.string (v1.1), .string (v1.2)]]) (c_slices_Index_Tag_Tag v0 x_v0 v1 h3) rfl (EntsB.cons (Ent.b Ent.z) EntsB.nil)) (by decide) ?_
 refine Rg.q (v := .bool (decide (0 ≤ r2))) (Pu.qo (p_geq rfl rfl)) (by decide) ?_
 refine Rg.q (v := .bool (decide (0 ≤ r2))) (Pu.qo (p_assign rfl)) (by decide) (Rg.nl (nT ?_))
 refine tRet ?_
 have hr := Option.some.inj H; subst hr
 exact back1 () rfl (ResV.tmp (v := .bool (decide (0 ≤ r2))) rfl) rfl Ents.nil Take.nil
noncomputable def p_impl_FilterFits_b0 (v0 : (List Cond)) (v1 : (List Tag)) (Q13 : Int) : Option ((Int) ⊕ (Unit ⊕ Bool)) := cond (decide (Q13 < (v0.length : Int))) (gd (ix Q13 v0.length) <| bd (p_slices_Contains_Tag_Tag v1 ((nth v0 Q13.toNat).1)) fun r24 => cond (decide (r24 = ((nth v0 Q13.toNat).2))) (some (.inr (.inr false))) (gd (I64 (Q13 + 1)) <| some (.inl (Q13 + 1)))) (some (.inr (.inl ())))
noncomputable def p_impl_FilterFits (v0 : (List Cond)) (v1 : (List Tag)) : Option (Bool) := bd (bd (p_impl_FilterOk v0) fun r3 => cond (!r3) (some (true)) (bd (p_impl_NameOk v1) fun r6 => some (!r6))) fun b1 => cond (b1) (some false) (bd (lp (p_impl_FilterFits_b0 v0 v1) 0) <| sw (fun _ => some true) (fun q => some q))
theorem c_impl_FilterFits {r : Bool} (v0 : (List Cond)) (x_v0 : Option Addr × Nat) (v1 : (List Tag)) (x_v1 : Option Addr × Nat) (H : p_impl_FilterFits v0 v1 = some r) : Fn' Try.prog 37 #[.slice x_v0.1 v0.length x_v0.2, .slice x_v1.1 v1.length x_v1.2] [imm (.slice x_v0.1 v0.length x_v0.2) v0, imm (.slice x_v1.1 v1.length x_v1.2) v1] [] (ι := Unit) (fun _ => .bool (r)) (fun _ => []) (fun _ => []) := by
 refine calls_of (args := [_, _]) Try.func37 rfl (by kernel_rfl) Try.ntmps37 (by simp) fun c => ?_
 unfold p_impl_FilterFits at H
 refine Tr.seq (Tr.region ?_)
 refine Rg.q (v := .bool (false)) (Pu.qo (p_assign rfl)) (by decide) (Rg.nl (nT ?_))
 refine Tr.seq ?_
 obtain ⟨b1, j2, H⟩ := bd.of H
 refine tMid1 [(14, .bool (b1)), (0, .slice x_v0.1 v0.length x_v0.2), (1, .slice x_v1.1 v1.length x_v1.2)] ?_ ?_
 ·refine tLinT [(0, .slice x_v0.1 v0.length x_v0.2), (1, .slice x_v1.1 v1.length x_v1.2)] ⟨rfl, rfl, trivial⟩ ?_
  refine Lin.q (v := .slice x_v0.1 v0.length x_v0.2) (by decide) (Pu.qo (p_move rfl)) ?_
  obtain ⟨r3, h4, j2⟩ := bd.of j2
  refine Lin.q (v := .bool (r3)) (by decide) (q_call (vs := [.slice x_v0.1 v0.length x_v0.2]) (c_impl_FilterOk v0 x_v0 h4) rfl (EntsB.cons (Ent.b Ent.z) EntsB.nil)) ?_
  refine Lin.q (v := .bool (!r3)) (by decide) (Pu.qo (p_not rfl)) ?_
  rcases Bool.eq_false_or_eq_true (!r3) with h5 | h5
  ·have j2 := cdT h5 j2
   refine Lin.q (v := .bool (true)) (by decide) (Qo.eqv (v := .bool (!r3)) (Pu.qo (p_move rfl)) (congrArg Value.bool h5)) ?_
   refine Lin.skip (by decide) rfl ?_
   refine Lin.skip (by decide) rfl ?_
   refine Lin.skip (by decide) rfl ?_
   refine Lin.q (v := .bool (true)) (by decide) (Pu.qo (p_pickT rfl rfl)) ?_
   have j2 := Option.some.inj j2; subst j2
   show At _ _ _ _ _ _
   exact n1 ⟨rfl, rfl, rfl, trivial⟩
  ·have j2 := cdF h5 j2
   refine Lin.q (v := .bool (false)) (by decide) (Qo.eqv (v := .bool (!r3)) (Pu.qo (p_move rfl)) (congrArg Value.bool h5)) ?_
   refine Lin.g (v := .slice x_v1.1 v1.length x_v1.2) (by decide) rfl (Pu.qo (p_move rfl)) ?_
   obtain ⟨r6, h7, j2⟩ := bd.of j2
   refine Lin.g (v := .bool (r6)) (by decide) rfl (q_call (vs := [.slice x_v1.1 v1.length x_v1.2]) (c_impl_NameOk v1 x_v1 h7) rfl (EntsB.cons (Ent.b Ent.z.s) EntsB.nil)) ?_
   refine Lin.g (v := .bool (!r6)) (by decide) rfl (Pu.qo (p_not rfl)) ?_
   refine Lin.q (v := .bool (!r6)) (by decide) (Pu.qo (p_pickF rfl rfl)) ?_
   have j2 := Option.some.inj j2; subst j2
   show At _ _ _ _ _ _
   exact n1 ⟨rfl, rfl, rfl, trivial⟩
 refine Tr.cond (b := b1) rfl (fun h8 => ?_) (fun h8 => ?_)
 ·have H := cdT h8 H
  refine Tr.seq (Tr.region ?_)
  refine Rg.q (v := .bool (false)) (Pu.qo (p_assign rfl)) (by decide) (Rg.nl (nT ?_))
  refine tRet ?_
  refine rT (?_)
  have hr := Option.some.inj H; subst hr
  exact back1 () rfl (ResV.tmp (v := .bool (false)) rfl) rfl Ents.nil Take.nil
 ·have H := cdF h8 H
  refine tSkip ?_
  refine nT (?_)
  refine Tr.seq (Tr.seq (Tr.region ?_))
  refine Rg.q (v := .slice x_v0.1 v0.length x_v0.2) (Pu.qo (p_move rfl)) (by decide) ?_
  refine Rg.q (v := .int .i64 ((v0.length : Int))) (Pu.qo (p_len 62 Try.underlying54 rfl)) (by decide) ?_
  refine Rg.q (v := .int .i64 (0)) (Pu.qo (p_move rfl)) (by decide) (Rg.nl (nT ?_))
  obtain ⟨x9, hx10, H⟩ := bd.of H
  obtain ⟨n11, hx10⟩ := lp.of hx10
  refine tMidNC (ι := { q : (Unit) × Unit // x9 = .inl q.1 }) (fun ψ => []) (fun ψ => []) ?_ ?_
  ·refine Tr.block ?_
   refine tLoopC (ι := { q : Nat × (Int) × Unit // itr (p_impl_FilterFits_b0 v0 v1) q.1 q.2.1 = some x9 }) (fun ζ => [(1, .slice x_v1.1 v1.length x_v1.2), (15, .slice x_v0.1 v0.length x_v0.2), (16, .int .i64 ((v0.length : Int))), (17, .int .i64 (ζ.1.2.1))]) (fun ζ => []) (fun ζ => ζ.1.1) ⟨(n11, 0, ()), hx10⟩ ⟨rfl, rfl, rfl, rfl, trivial⟩ Take.nil ?_
   rintro ⟨⟨m12, Q13, z14⟩, hk19⟩
   obtain ⟨m20, t16, e, H1, hi17, hb18⟩ := itr.of (n := m12) (s := Q13) hk19
   subst e; unfold p_impl_FilterFits_b0 at H1
   show Tr _ _ _ _ _ [(1, .slice x_v1.1 v1.length x_v1.2), (15, .slice x_v0.1 v0.length x_v0.2), (16, .int .i64 ((v0.length : Int))), (17, .int .i64 (Q13))] _ []
   refine Tr.seq (Tr.region ?_)
   refine Rg.q (v := .bool (decide (Q13 < (v0.length : Int)))) (Pu.qo (p_lss rfl rfl)) (by decide) (Rg.nl (nT ?_))
   refine Tr.seq ?_
   refine Tr.cond (b := decide (Q13 < (v0.length : Int))) rfl (fun h21 => ?_) (fun h21 => ?_)
   ·have H1 := cdT h21 H1
    refine tSkip ?_
    refine nT (Tr.seq ?_)
    refine Tr.block ?_
    refine Tr.seq (Tr.region ?_)
    obtain ⟨h22, H1⟩ := gd.of H1
    refine Rg.q (v := elp x_v0.1 (Q13.toNat * Enc.sz Cond + 0)) (q_ixg (l := v0) (E := fun i => Flat.enc (nth v0 i)) (oa := x_v0.1) Try.underlying54 ty62 rfl rfl h22 rfl (EntB.flat (Ent.b Ent.z))) (by decide) ?_
    refine Rg.q (v := .agg #[.string (((nth v0 Q13.toNat).1).1), .string (((nth v0 Q13.toNat).1).2), .bool ((nth v0 Q13.toNat).2)]) (q_ldeA (l := v0) (E := fun i => Flat.enc (nth v0 i)) (oa := x_v0.1) (i := Q13.toNat) ty62 rfl (EntB.flat (Ent.b Ent.z)) h22.lt) (by decide) ?_
    refine Rg.ed (e_alloc ty62) rfl (by decide) ?_
    rintro _ _ _ ⟨g23, rfl, rfl, rfl⟩
    refine Rg.en (e_store (v := .agg #[.string (((nth v0 Q13.toNat).1).1), .string (((nth v0 Q13.toNat).1).2), .bool ((nth v0 Q13.toNat).2)]) (cs' := [.string (((nth v0 Q13.toNat).1).1), .string (((nth v0 Q13.toNat).1).2), .bool ((nth v0 Q13.toNat).2)]) ty62 rfl rfl Upd.here rfl (by simp [Value.cells, Value.oneCell']) (Nat.le_of_ble_eq_true rfl) rfl) rfl ?_
    rintro _ _ _ ⟨rfl, rfl, rfl⟩
    refine Rg.nl (nT ?_)
    refine Tr.seq ?_
    refine tLinS [(6, .pointer (some ⟨g23, 0, none⟩)), (1, .slice x_v1.1 v1.length x_v1.2), (15, .slice x_v0.1 v0.length x_v0.2), (16, .int .i64 ((v0.length : Int))), (17, .int .i64 (Q13))] Try.mixed (.inr (by kernel_rfl)) ⟨rfl, rfl, rfl, rfl, rfl, trivial⟩ rfl ?_
    refine Lin.q (v := .slice x_v1.1 v1.length x_v1.2) (by decide) (Pu.qo (p_move rfl)) ?_
    refine Lin.q (v := .pointer (some ⟨g23, 0, none⟩)) (by decide) (Pu.qo (p_fabE fa62_0 rfl rfl)) ?_
    refine Lin.q (v := .agg #[.string (((nth v0 Q13.toNat).1).1), .string (((nth v0 Q13.toNat).1).2)]) (by decide) (q_ldbP [.string (((nth v0 Q13.toNat).1).1), .string (((nth v0 Q13.toNat).1).2)] ty30 rfl Has.here rfl rfl) ?_
    obtain ⟨r24, h25, H1⟩ := bd.of H1
    refine Lin.q (v := .bool (r24)) (by decide) (q_call (vs := [.slice x_v1.1 v1.length x_v1.2, .agg #[.string (((nth v0 Q13.toNat).1).1), .string (((nth v0 Q13.toNat).1).2)]]) (c_slices_Contains_Tag_Tag v1 x_v1 ((nth v0 Q13.toNat).1) h25) rfl (EntsB.cons (Ent.b Ent.z.s) EntsB.nil)) ?_
    refine Lin.q (v := .pointer (some ⟨g23, 2, none⟩)) (by decide) (Pu.qo (p_fabE fa62_1 rfl rfl)) ?_
    refine Lin.q (v := .bool ((nth v0 Q13.toNat).2)) (by decide) (q_ldb ty4 rfl Has.here rfl) ?_
    refine Lin.q (v := .bool (decide (r24 = ((nth v0 Q13.toNat).2)))) (by decide) (Pu.qo (p_beql Try.underlying4 rfl rfl)) ?_
    show At _ _ _ _ _ _
    refine nT (?_)
    refine Tr.cond (b := decide (r24 = ((nth v0 Q13.toNat).2))) rfl (fun h26 => ?_) (fun h26 => ?_)
    ·have H1 := cdT h26 H1
     refine Tr.seq (Tr.region ?_)
     refine Rg.q (v := .bool (false)) (Pu.qo (p_assign rfl)) (by decide) (Rg.nl (nT ?_))
     refine tRet ?_
     refine rB (rT (rT (rB (rT (rT (?_))))))
     have hx := hb18 _ (Option.some.inj H1).symm; subst hx
     replace H := sw.r H
     have hr := Option.some.inj H; subst hr
     exact back1 () rfl (ResV.tmp (v := .bool (false)) rfl) rfl Ents.nil Take.nil
    ·have H1 := cdF h26 H1
     refine tSkip ?_
     refine nB (nT (?_))
     refine Tr.region ?_
     obtain ⟨h27, H1⟩ := gd.of H1
     refine Rg.q (v := .int .i64 (Q13 + 1)) (Pu.qo (p_add rfl rfl h27)) (by decide) ?_
     refine Rg.q (v := .int .i64 (Q13 + 1)) (Pu.qo (p_move rfl)) (by decide) (Rg.nl ?_)
     exact nLC ⟨(m20, Q13 + 1, ()), hi17 _ (Option.some.inj H1).symm⟩ (Nat.lt_succ_self _) ⟨rfl, rfl, rfl, rfl, trivial⟩ Ents.refl Take.nil
   ·have H1 := cdF h21 H1
    refine tExit (xT (xT (xE (?_))))
    exact nMC ⟨((), ()), (hb18 _ (Option.some.inj H1).symm).symm⟩ trivial Ents.refl Take.nil
  ·rintro ⟨⟨e28, y15⟩, hx⟩; subst hx; replace H := sw.l H
   show At _ _ [] _ [] _
   refine nT (?_)
   refine Tr.seq (Tr.region ?_)
   refine Rg.q (v := .bool (true)) (Pu.qo (p_assign rfl)) (by decide) (Rg.nl (nT ?_))
   refine tRet ?_
   have hr := Option.some.inj H; subst hr
   exact back1 () rfl (ResV.tmp (v := .bool (true)) rfl) rfl Ents.nil Take.nil
noncomputable def p_impl_IndexFind_b0 (v0 : Index) (v1 : (List Cond)) (Q13 : (List Int) × Int) : Option (((List Int) × Int) ⊕ ((List Int))) := cond (decide (Q13.2 < (v0.1.length : Int))) (gd (ix Q13.2 v0.1.length) <| bd (p_impl_FilterFits v1 (nth v0.1 Q13.2.toNat)) fun r23 => cond (r23) (gd (I64 (Q13.2 + 1)) <| gd (room (Q13.1.length + 1)) <| some (.inl ((Q13.1 ++ [Q13.2 + 1]), Q13.2 + 1))) (gd (I64 (Q13.2 + 1)) <| some (.inl (Q13.1, Q13.2 + 1)))) (some (.inr Q13.1))
noncomputable def p_impl_IndexFind (v0 : Index) (v1 : (List Cond)) : Option ((List Int)) := bd (p_impl_IndexOk v0) fun r6 => cond (!r6) (some ([] : List Int)) (bd (lp (p_impl_IndexFind_b0 v0 v1) (([] : List Int), 0)) fun x9 => some x9)
theorem c_impl_IndexFind {r : (List Int)} (v0 : Index) (x_v0 : (Option Addr × Nat) × (Option Addr × Nat)) (v1 : (List Cond)) (x_v1 : Option Addr × Nat) (H : p_impl_IndexFind v0 v1 = some r) : Fn' Try.prog 34 #[.agg #[.slice x_v0.1.1 v0.1.length x_v0.1.2, .slice x_v0.2.1 v0.2.length x_v0.2.2], .slice x_v1.1 v1.length x_v1.2] [imm (.slice x_v0.1.1 v0.1.length x_v0.1.2) v0.1, imm (.slice x_v0.2.1 v0.2.length x_v0.2.2) v0.2, imm (.slice x_v1.1 v1.length x_v1.2) v1] [] (ι := Option Addr × Nat) (fun x => .slice x.1 r.length x.2) (fun _ => []) (fun x => [tree (.slice x.1 r.length x.2) r]) := by
 refine calls_of (args := [_, _]) Try.func34 rfl (by kernel_rfl) Try.ntmps34 (by simp) fun c => ?_
 unfold p_impl_IndexFind at H
 refine Tr.openD Ent.z fun X1 => ?_
 refine Tr.openD Ent.z.s.s fun X2 => ?_
 refine Tr.seq (Tr.region ?_)
 refine Rg.ed (e_box (t := 26) (v := .agg #[.slice x_v0.1.1 v0.1.length x_v0.1.2, .slice x_v0.2.1 v0.2.length x_v0.2.2]) rfl) rfl (by decide) ?_
 rintro _ _ _ ⟨g3, rfl, rfl, rfl⟩
 refine Rg.q (v := .slice none 0 0) (Pu.qo (p_assign rfl)) (by decide) (Rg.nl (nT ?_))
 refine Tr.seq (Tr.region ?_)
 refine Rg.ed (e_lit0 Int Try.underlying31 ty3) rfl (by decide) ?_
 rintro _ _ _ ⟨a4, c5, rfl, rfl, rfl⟩
 refine Rg.q (v := .slice a4 (([] : List Int).length) c5) (Pu.qo (p_assign rfl)) (by decide) (Rg.nl (nT ?_))
 refine Tr.seq (Tr.seq (Tr.region ?_))
 refine Rg.q (v := .agg #[.slice x_v0.1.1 v0.1.length x_v0.1.2, .slice x_v0.2.1 v0.2.length x_v0.2.2]) (q_ldbA ty26 rfl Has.here.there rfl) (by decide) ?_
 obtain ⟨r6, h7, H⟩ := bd.of H
 refine Rg.q (v := .bool (r6)) (q_call (vs := [.agg #[.slice x_v0.1.1 v0.1.length x_v0.1.2, .slice x_v0.2.1 v0.2.length x_v0.2.2]]) (c_impl_IndexOk v0 x_v0 h7) rfl (EntsB.cons (Ent.b (Ent.dimm Ent.z.s)) (EntsB.cons (Ent.b (Ent.dimm Ent.z)) EntsB.nil))) (by decide) ?_
 refine Rg.q (v := .bool (!r6)) (Pu.qo (p_not rfl)) (by decide) (Rg.nl (nT ?_))
 refine Tr.cond (b := !r6) rfl (fun h8 => ?_) (fun h8 => ?_)
 ·have H := cdT h8 H
  refine Tr.seq (Tr.region ?_)
  refine Rg.q (v := .slice a4 (([] : List Int).length) c5) (Pu.qo (p_move rfl)) (by decide) ?_
  refine Rg.q (v := .slice a4 (([] : List Int).length) c5) (Pu.qo (p_assign rfl)) (by decide) (Rg.nl (nT ?_))
  refine tRet ?_
  refine rT (?_)
  have hr := Option.some.inj H; subst hr
  exact back1 (a4, c5) rfl (ResV.tmp (v := .slice a4 (([] : List Int).length) c5) rfl) rfl Ents.nil (.cons Del.here .nil)
 ·have H := cdF h8 H
  refine tSkip ?_
  refine nT (?_)
  refine Tr.seq (Tr.seq (Tr.region ?_))
  refine Rg.q (v := .pointer (some ⟨g3, 0, none⟩)) (Pu.qo (p_fabE fa26_0 rfl rfl)) (by decide) ?_
  refine Rg.q (v := .slice x_v0.1.1 v0.1.length x_v0.1.2) (q_ldb ty23 rfl Has.here.there rfl) (by decide) ?_
  refine Rg.q (v := .int .i64 ((v0.1.length : Int))) (Pu.qo (p_len 38 Try.underlying23 rfl)) (by decide) ?_
  refine Rg.q (v := .int .i64 (0)) (Pu.qo (p_move rfl)) (by decide) (Rg.nl (nT ?_))
  obtain ⟨x9, hx10, H⟩ := bd.of H
  obtain ⟨n11, hx10⟩ := lp.of hx10
  refine tMidNC (ι := Option Addr × Nat) (fun ψ => [(5, .slice ψ.1 x9.length ψ.2)]) (fun ψ => [tree (.slice ψ.1 x9.length ψ.2) x9]) ?_ ?_
  ·refine Tr.block ?_
   refine tLoopC (ι := { q : Nat × ((List Int) × Int) × (Option Addr × Nat) // itr (p_impl_IndexFind_b0 v0 v1) q.1 q.2.1 = some x9 }) (fun ζ => [(1, .slice x_v1.1 v1.length x_v1.2), (5, .slice ζ.1.2.2.1 ζ.1.2.1.1.length ζ.1.2.2.2), (14, .slice x_v0.1.1 v0.1.length x_v0.1.2), (15, .int .i64 ((v0.1.length : Int))), (16, .int .i64 (ζ.1.2.1.2))]) (fun ζ => [tree (.slice ζ.1.2.2.1 ζ.1.2.1.1.length ζ.1.2.2.2) ζ.1.2.1.1]) (fun ζ => ζ.1.1) ⟨(n11, (([] : List Int), 0), (a4, c5)), hx10⟩ ⟨rfl, rfl, rfl, rfl, rfl, trivial⟩ (.cons Del.here .nil) ?_
   rintro ⟨⟨m12, Q13, z14⟩, hk19⟩
   obtain ⟨m20, t16, e, H1, hi17, hb18⟩ := itr.of (n := m12) (s := Q13) hk19
   subst e; unfold p_impl_IndexFind_b0 at H1
   show Tr _ _ _ _ _ [(1, .slice x_v1.1 v1.length x_v1.2), (5, .slice z14.1 Q13.1.length z14.2), (14, .slice x_v0.1.1 v0.1.length x_v0.1.2), (15, .int .i64 ((v0.1.length : Int))), (16, .int .i64 (Q13.2))] _ [tree (.slice z14.1 Q13.1.length z14.2) Q13.1]
   refine Tr.seq (Tr.region ?_)
   refine Rg.q (v := .bool (decide (Q13.2 < (v0.1.length : Int)))) (Pu.qo (p_lss rfl rfl)) (by decide) (Rg.nl (nT ?_))
   refine Tr.seq ?_
   refine Tr.cond (b := decide (Q13.2 < (v0.1.length : Int))) rfl (fun h21 => ?_) (fun h21 => ?_)
   ·have H1 := cdT h21 H1
    refine tSkip ?_
    refine nT (Tr.seq ?_)
    refine Tr.block ?_
    refine Tr.seq (Tr.region ?_)
    refine Rg.q (v := .int .i64 (Q13.2)) (Pu.qo (p_move rfl)) (by decide) ?_
    obtain ⟨h22, H1⟩ := gd.of H1
    refine Rg.q (v := elp x_v0.1.1 (Q13.2.toNat * Enc.sz (List Tag) + 0)) (q_ixg (l := v0.1) (E := fun i => Dp.denc (nth v0.1 i) (X1 i)) (oa := x_v0.1.1) Try.underlying23 ty38 rfl rfl h22 rfl (Ent.b (Ent.darr Ent.z.s))) (by decide) ?_
    refine Rg.q (v := .slice ((X1 Q13.2.toNat).1) ((nth v0.1 Q13.2.toNat).length) ((X1 Q13.2.toNat).2.1)) (q_lde (l := v0.1) (E := fun i => Dp.denc (nth v0.1 i) (X1 i)) (oa := x_v0.1.1) (i := Q13.2.toNat) (j := 0) ty38 rfl (Ent.b (Ent.darr Ent.z.s)) h22.lt rfl) (by decide) ?_
    refine Rg.q (v := .int .i64 (Q13.2)) (Pu.qo (p_assign rfl)) (by decide) ?_
    refine Rg.q (v := .slice ((X1 Q13.2.toNat).1) ((nth v0.1 Q13.2.toNat).length) ((X1 Q13.2.toNat).2.1)) (Pu.qo (p_assign rfl)) (by decide) (Rg.nl (nT ?_))
    refine Tr.seq (Tr.region ?_)
    refine Rg.q (v := .slice x_v1.1 v1.length x_v1.2) (Pu.qo (p_move rfl)) (by decide) ?_
    refine Rg.q (v := .slice ((X1 Q13.2.toNat).1) ((nth v0.1 Q13.2.toNat).length) ((X1 Q13.2.toNat).2.1)) (Pu.qo (p_move rfl)) (by decide) ?_
    obtain ⟨r23, h24, H1⟩ := bd.of H1
    refine Rg.q (v := .bool (r23)) (q_call (vs := [.slice x_v1.1 v1.length x_v1.2, .slice ((X1 Q13.2.toNat).1) ((nth v0.1 Q13.2.toNat).length) ((X1 Q13.2.toNat).2.1)]) (c_impl_FilterFits v1 x_v1 (nth v0.1 Q13.2.toNat) ((X1 Q13.2.toNat).1, (X1 Q13.2.toNat).2.1) h24) rfl (EntsB.cons (Ent.b Ent.z.s.s.s.s) (EntsB.cons (Ent.b (Ent.dimm (Ent.del Ent.z.s h22.lt))) EntsB.nil))) (by decide) (Rg.nl (nT ?_))
    refine Tr.cond (b := r23) rfl (fun h25 => ?_) (fun h25 => ?_)
    ·have H1 := cdT h25 H1
     refine Tr.region ?_
     refine Rg.q (v := .slice z14.1 Q13.1.length z14.2) (Pu.qo (p_move rfl)) (by decide) ?_
     refine Rg.q (v := .int .i64 (Q13.2)) (Pu.qo (p_move rfl)) (by decide) ?_
     obtain ⟨h26, H1⟩ := gd.of H1
     refine Rg.q (v := .int .i64 (Q13.2 + 1)) (Pu.qo (p_add rfl rfl h26)) (by decide) ?_
     refine Rg.ed (e_lit (vs := [(0, .int .i64 (Q13.2 + 1))]) [.int .i64 (Q13.2 + 1)] Try.underlying31 ty3 rfl (by decide) (by decide) (by kernel_rfl)) rfl (by decide) ?_
     rintro _ _ _ ⟨g27, rfl, rfl, rfl⟩
     obtain ⟨h30, H1⟩ := gd.of H1
     refine Rg.ed (e_app1 (l := Q13.1) (α := Int) (Q13.2 + 1) () Try.underlying31 ty3 rfl rfl (h30.b (by decide)) h30.x rfl (ShpT.wfa _) (.cons Del.here.there (.cons Del.here .nil))) rfl (by decide) ?_
     rintro _ _ _ ⟨a28, c29, rfl, rfl, rfl⟩
     refine Rg.q (v := .slice a28 ((Q13.1 ++ [Q13.2 + 1]).length) c29) (Pu.qo (p_assign rfl)) (by decide) (Rg.nl ?_)
     refine nB (nT (?_))
     refine Tr.region ?_
     refine Rg.q (v := .int .i64 (Q13.2 + 1)) (Pu.qo (p_add rfl rfl h26)) (by decide) ?_
     refine Rg.q (v := .int .i64 (Q13.2 + 1)) (Pu.qo (p_move rfl)) (by decide) (Rg.nl ?_)
     exact nLC ⟨(m20, ((Q13.1 ++ [Q13.2 + 1]), Q13.2 + 1), (a28, c29)), hi17 _ (Option.some.inj H1).symm⟩ (Nat.lt_succ_self _) ⟨rfl, rfl, rfl, rfl, rfl, trivial⟩ Ents.refl (.cons Del.here .nil)
    ·have H1 := cdF h25 H1
     refine tSkip ?_
     refine nB (nT (?_))
     refine Tr.region ?_
     obtain ⟨h31, H1⟩ := gd.of H1
     refine Rg.q (v := .int .i64 (Q13.2 + 1)) (Pu.qo (p_add rfl rfl h31)) (by decide) ?_
     refine Rg.q (v := .int .i64 (Q13.2 + 1)) (Pu.qo (p_move rfl)) (by decide) (Rg.nl ?_)
     exact nLC ⟨(m20, (Q13.1, Q13.2 + 1), (z14.1, z14.2)), hi17 _ (Option.some.inj H1).symm⟩ (Nat.lt_succ_self _) ⟨rfl, rfl, rfl, rfl, rfl, trivial⟩ Ents.refl (.cons Del.here .nil)
   ·have H1 := cdF h21 H1
    refine tExit (xT (xT (xE (?_))))
    have hx := hb18 _ (Option.some.inj H1).symm; subst hx
    exact nMC (z14.1, z14.2) ⟨rfl, trivial⟩ Ents.refl (.cons Del.here .nil)
  ·intro y15
   show At _ _ [(5, .slice y15.1 x9.length y15.2)] _ [tree (.slice y15.1 x9.length y15.2) x9] _
   refine nT (?_)
   refine Tr.seq (Tr.region ?_)
   refine Rg.q (v := .slice y15.1 x9.length y15.2) (Pu.qo (p_move rfl)) (by decide) ?_
   refine Rg.q (v := .slice y15.1 x9.length y15.2) (Pu.qo (p_assign rfl)) (by decide) (Rg.nl (nT ?_))
   refine tRet ?_
   have hr := Option.some.inj H; subst hr
   exact back1 y15 rfl (ResV.tmp (v := .slice y15.1 x9.length y15.2) rfl) rfl Ents.nil (.cons Del.here .nil)
noncomputable def p_impl_IndexPost_b0 (v0 : Index) (v1 : Tag) (Q14 : (List Int) × Int) : Option (((List Int) × Int) ⊕ ((List Int))) := cond (decide (Q14.2 < (v0.2.length : Int))) (gd (ix Q14.2 v0.2.length) <| cond (decide ((nth v0.2 Q14.2.toNat).1 = v1)) (gd (room (Q14.1.length + ((nth v0.2 Q14.2.toNat).2).length)) <| gd (I64 (Q14.2 + 1)) <| some (.inl ((Q14.1 ++ ((nth v0.2 Q14.2.toNat).2)), Q14.2 + 1))) (gd (I64 (Q14.2 + 1)) <| some (.inl (Q14.1, Q14.2 + 1)))) (some (.inr Q14.1))
noncomputable def p_impl_IndexPost (v0 : Index) (v1 : Tag) : Option ((List Int)) := bd (p_impl_IndexOk v0) fun r7 => cond (r7) (bd (lp (p_impl_IndexPost_b0 v0 v1) (([] : List Int), 0)) fun x10 => some x10) (some ([] : List Int))
theorem c_impl_IndexPost {r : (List Int)} (v0 : Index) (x_v0 : (Option Addr × Nat) × (Option Addr × Nat)) (v1 : Tag) (H : p_impl_IndexPost v0 v1 = some r) : Fn' Try.prog 21 #[.agg #[.slice x_v0.1.1 v0.1.length x_v0.1.2, .slice x_v0.2.1 v0.2.length x_v0.2.2], .agg #[.string (v1.1), .string (v1.2)]] [imm (.slice x_v0.1.1 v0.1.length x_v0.1.2) v0.1, imm (.slice x_v0.2.1 v0.2.length x_v0.2.2) v0.2] [] (ι := Option Addr × Nat) (fun x => .slice x.1 r.length x.2) (fun _ => []) (fun x => [tree (.slice x.1 r.length x.2) r]) := by
 refine calls_of (args := [_, _]) Try.func21 rfl (by kernel_rfl) Try.ntmps21 (by simp) fun c => ?_
 unfold p_impl_IndexPost at H
 refine Tr.openD Ent.z fun X1 => ?_
 refine Tr.openD Ent.z.s.s fun X2 => ?_
 refine Tr.seq (Tr.region ?_)
 refine Rg.ed (e_box (t := 26) (v := .agg #[.slice x_v0.1.1 v0.1.length x_v0.1.2, .slice x_v0.2.1 v0.2.length x_v0.2.2]) rfl) rfl (by decide) ?_
 rintro _ _ _ ⟨g3, rfl, rfl, rfl⟩
 refine Rg.ed (e_box (t := 30) (v := .agg #[.string (v1.1), .string (v1.2)]) rfl) rfl (by decide) ?_
 rintro _ _ _ ⟨g4, rfl, rfl, rfl⟩
 refine Rg.q (v := .slice none 0 0) (Pu.qo (p_assign rfl)) (by decide) (Rg.nl (nT ?_))
 refine Tr.seq (Tr.region ?_)
 refine Rg.ed (e_lit0 Int Try.underlying31 ty3) rfl (by decide) ?_
 rintro _ _ _ ⟨a5, c6, rfl, rfl, rfl⟩
 refine Rg.q (v := .slice a5 (([] : List Int).length) c6) (Pu.qo (p_assign rfl)) (by decide) (Rg.nl (nT ?_))
 refine Tr.seq (Tr.seq (Tr.region ?_))
 refine Rg.q (v := .agg #[.slice x_v0.1.1 v0.1.length x_v0.1.2, .slice x_v0.2.1 v0.2.length x_v0.2.2]) (q_ldbA ty26 rfl Has.here.there.there rfl) (by decide) ?_
 obtain ⟨r7, h8, H⟩ := bd.of H
 refine Rg.q (v := .bool (r7)) (q_call (vs := [.agg #[.slice x_v0.1.1 v0.1.length x_v0.1.2, .slice x_v0.2.1 v0.2.length x_v0.2.2]]) (c_impl_IndexOk v0 x_v0 h8) rfl (EntsB.cons (Ent.b (Ent.dimm Ent.z.s)) (EntsB.cons (Ent.b (Ent.dimm Ent.z)) EntsB.nil))) (by decide) (Rg.nl (nT ?_))
 refine Tr.cond (b := r7) rfl (fun h9 => ?_) (fun h9 => ?_)
 ·have H := cdT h9 H
  refine Tr.seq (Tr.region ?_)
  refine Rg.q (v := .pointer (some ⟨g3, 1, none⟩)) (Pu.qo (p_fabE fa26_1 rfl rfl)) (by decide) ?_
  refine Rg.q (v := .slice x_v0.2.1 v0.2.length x_v0.2.2) (q_ldb ty24 rfl Has.here.there.there rfl) (by decide) ?_
  refine Rg.q (v := .int .i64 ((v0.2.length : Int))) (Pu.qo (p_len 33 Try.underlying24 rfl)) (by decide) ?_
  refine Rg.q (v := .int .i64 (0)) (Pu.qo (p_move rfl)) (by decide) (Rg.nl (nT ?_))
  obtain ⟨x10, hx11, H⟩ := bd.of H
  obtain ⟨n12, hx11⟩ := lp.of hx11
  refine tMidNC (ι := Option Addr × Nat) (fun ψ => [(5, .slice ψ.1 x10.length ψ.2)]) (fun ψ => [tree (.slice ψ.1 x10.length ψ.2) x10]) ?_ ?_
  ·refine Tr.block ?_
   refine tLoopC (ι := { q : Nat × ((List Int) × Int) × (Option Addr × Nat) // itr (p_impl_IndexPost_b0 v0 v1) q.1 q.2.1 = some x10 }) (fun ζ => [(3, .pointer (some ⟨g4, 0, none⟩)), (5, .slice ζ.1.2.2.1 ζ.1.2.1.1.length ζ.1.2.2.2), (12, .slice x_v0.2.1 v0.2.length x_v0.2.2), (13, .int .i64 ((v0.2.length : Int))), (14, .int .i64 (ζ.1.2.1.2))]) (fun ζ => [box g4 30 [.string (v1.1), .string (v1.2)], tree (.slice ζ.1.2.2.1 ζ.1.2.1.1.length ζ.1.2.2.2) ζ.1.2.1.1]) (fun ζ => ζ.1.1) ⟨(n12, (([] : List Int), 0), (a5, c6)), hx11⟩ ⟨rfl, rfl, rfl, rfl, rfl, trivial⟩ (.cons Del.here.there (.cons Del.here .nil)) ?_
   rintro ⟨⟨m13, Q14, z15⟩, hk20⟩
   obtain ⟨m21, t17, e, H1, hi18, hb19⟩ := itr.of (n := m13) (s := Q14) hk20
   subst e; unfold p_impl_IndexPost_b0 at H1
   show Tr _ _ _ _ _ [(3, .pointer (some ⟨g4, 0, none⟩)), (5, .slice z15.1 Q14.1.length z15.2), (12, .slice x_v0.2.1 v0.2.length x_v0.2.2), (13, .int .i64 ((v0.2.length : Int))), (14, .int .i64 (Q14.2))] _ [box g4 30 [.string (v1.1), .string (v1.2)], tree (.slice z15.1 Q14.1.length z15.2) Q14.1]
   refine Tr.seq (Tr.region ?_)
   refine Rg.q (v := .bool (decide (Q14.2 < (v0.2.length : Int)))) (Pu.qo (p_lss rfl rfl)) (by decide) (Rg.nl (nT ?_))
   refine Tr.seq ?_
   refine Tr.cond (b := decide (Q14.2 < (v0.2.length : Int))) rfl (fun h22 => ?_) (fun h22 => ?_)
   ·have H1 := cdT h22 H1
    refine tSkip ?_
    refine nT (Tr.seq ?_)
    refine Tr.block ?_
    refine Tr.seq (Tr.region ?_)
    obtain ⟨h23, H1⟩ := gd.of H1
    refine Rg.q (v := elp x_v0.2.1 (Q14.2.toNat * Enc.sz Post + 0)) (q_ixg (l := v0.2) (E := fun i => Dp.denc (nth v0.2 i) (X2 i)) (oa := x_v0.2.1) Try.underlying24 ty33 rfl rfl h23 rfl (Ent.b (Ent.darr Ent.z))) (by decide) ?_
    refine Rg.q (v := .agg #[.string (((nth v0.2 Q14.2.toNat).1).1), .string (((nth v0.2 Q14.2.toNat).1).2), .slice (((X2 Q14.2.toNat).2).1) (((nth v0.2 Q14.2.toNat).2).length) (((X2 Q14.2.toNat).2).2.1)]) (q_ldeA (l := v0.2) (E := fun i => Dp.denc (nth v0.2 i) (X2 i)) (oa := x_v0.2.1) (i := Q14.2.toNat) ty33 rfl (Ent.b (Ent.darr Ent.z)) h23.lt) (by decide) ?_
    refine Rg.ed (e_alloc ty33) rfl (by decide) ?_
    rintro _ _ _ ⟨g24, rfl, rfl, rfl⟩
    refine Rg.en (e_store (v := .agg #[.string (((nth v0.2 Q14.2.toNat).1).1), .string (((nth v0.2 Q14.2.toNat).1).2), .slice (((X2 Q14.2.toNat).2).1) (((nth v0.2 Q14.2.toNat).2).length) (((X2 Q14.2.toNat).2).2.1)]) (cs' := [.string (((nth v0.2 Q14.2.toNat).1).1), .string (((nth v0.2 Q14.2.toNat).1).2), .slice (((X2 Q14.2.toNat).2).1) (((nth v0.2 Q14.2.toNat).2).length) (((X2 Q14.2.toNat).2).2.1)]) ty33 rfl rfl Upd.here rfl (by simp [Value.cells, Value.oneCell']) (Nat.le_of_ble_eq_true rfl) rfl) rfl ?_
    rintro _ _ _ ⟨rfl, rfl, rfl⟩
    refine Rg.nl (nT ?_)
    refine Tr.seq (Tr.region ?_)
    refine Rg.q (v := .pointer (some ⟨g24, 0, none⟩)) (Pu.qo (p_fabE fa33_0 rfl rfl)) (by decide) ?_
    refine Rg.q (v := .agg #[.string (((nth v0.2 Q14.2.toNat).1).1), .string (((nth v0.2 Q14.2.toNat).1).2)]) (q_ldbP [.string (((nth v0.2 Q14.2.toNat).1).1), .string (((nth v0.2 Q14.2.toNat).1).2)] ty30 rfl Has.here rfl rfl) (by decide) ?_
    refine Rg.q (v := .agg #[.string (v1.1), .string (v1.2)]) (q_ldbA ty30 rfl Has.here.there rfl) (by decide) ?_
    refine Rg.q (v := .bool (decide ((nth v0.2 Q14.2.toNat).1 = v1))) (Pu.qo (p_aeql (a := (nth v0.2 Q14.2.toNat).1) (b := v1) ae30 rfl rfl rfl rfl)) (by decide) (Rg.nl (nT ?_))
    refine Tr.cond (b := decide ((nth v0.2 Q14.2.toNat).1 = v1)) rfl (fun h25 => ?_) (fun h25 => ?_)
    ·have H1 := cdT h25 H1
     refine Tr.region ?_
     refine Rg.q (v := .slice z15.1 Q14.1.length z15.2) (Pu.qo (p_move rfl)) (by decide) ?_
     refine Rg.q (v := .pointer (some ⟨g24, 2, none⟩)) (Pu.qo (p_fabE fa33_1 rfl rfl)) (by decide) ?_
     refine Rg.q (v := .slice (((X2 Q14.2.toNat).2).1) (((nth v0.2 Q14.2.toNat).2).length) (((X2 Q14.2.toNat).2).2.1)) (q_ldb ty31 rfl Has.here rfl) (by decide) ?_
     obtain ⟨h28, H1⟩ := gd.of H1
     refine Rg.ed (e_appF (l := Q14.1) (k := (nth v0.2 Q14.2.toNat).2) (α := Int) Try.underlying31 ty3 rfl rfl (h28.b (by decide)) h28.x (.cons Del.here.there.there .nil) (Ent.b (Ent.dimm (Ent.dsnd (Ent.del Ent.z h23.lt))))) rfl (by decide) ?_
     rintro _ _ _ ⟨a26, c27, rfl, rfl, rfl⟩
     refine Rg.q (v := .slice a26 ((Q14.1 ++ ((nth v0.2 Q14.2.toNat).2)).length) c27) (Pu.qo (p_assign rfl)) (by decide) (Rg.nl ?_)
     refine nB (nT (?_))
     refine Tr.region ?_
     obtain ⟨h29, H1⟩ := gd.of H1
     refine Rg.q (v := .int .i64 (Q14.2 + 1)) (Pu.qo (p_add rfl rfl h29)) (by decide) ?_
     refine Rg.q (v := .int .i64 (Q14.2 + 1)) (Pu.qo (p_move rfl)) (by decide) (Rg.nl ?_)
     exact nLC ⟨(m21, ((Q14.1 ++ ((nth v0.2 Q14.2.toNat).2)), Q14.2 + 1), (a26, c27)), hi18 _ (Option.some.inj H1).symm⟩ (Nat.lt_succ_self _) ⟨rfl, rfl, rfl, rfl, rfl, trivial⟩ Ents.refl (.cons Del.here.there.there (.cons Del.here .nil))
    ·have H1 := cdF h25 H1
     refine tSkip ?_
     refine nB (nT (?_))
     refine Tr.region ?_
     obtain ⟨h30, H1⟩ := gd.of H1
     refine Rg.q (v := .int .i64 (Q14.2 + 1)) (Pu.qo (p_add rfl rfl h30)) (by decide) ?_
     refine Rg.q (v := .int .i64 (Q14.2 + 1)) (Pu.qo (p_move rfl)) (by decide) (Rg.nl ?_)
     exact nLC ⟨(m21, (Q14.1, Q14.2 + 1), (z15.1, z15.2)), hi18 _ (Option.some.inj H1).symm⟩ (Nat.lt_succ_self _) ⟨rfl, rfl, rfl, rfl, rfl, trivial⟩ Ents.refl (.cons Del.here.there (.cons Del.here.there .nil))
   ·have H1 := cdF h22 H1
    refine tExit (xT (xT (xE (?_))))
    have hx := hb19 _ (Option.some.inj H1).symm; subst hx
    exact nMC (z15.1, z15.2) ⟨rfl, trivial⟩ Ents.refl (.cons Del.here.there .nil)
  ·intro y16
   show At _ _ [(5, .slice y16.1 x10.length y16.2)] _ [tree (.slice y16.1 x10.length y16.2) x10] _
   refine nT (?_)
   refine Tr.seq (Tr.region ?_)
   refine Rg.q (v := .slice y16.1 x10.length y16.2) (Pu.qo (p_move rfl)) (by decide) ?_
   refine Rg.q (v := .slice y16.1 x10.length y16.2) (Pu.qo (p_assign rfl)) (by decide) (Rg.nl (nT ?_))
   refine tRet ?_
   have hr := Option.some.inj H; subst hr
   exact back1 y16 rfl (ResV.tmp (v := .slice y16.1 x10.length y16.2) rfl) rfl Ents.nil (.cons Del.here .nil)
 ·have H := cdF h9 H
  refine tSkip ?_
  refine nT (?_)
  refine Tr.seq (Tr.region ?_)
  refine Rg.q (v := .slice a5 (([] : List Int).length) c6) (Pu.qo (p_move rfl)) (by decide) ?_
  refine Rg.q (v := .slice a5 (([] : List Int).length) c6) (Pu.qo (p_assign rfl)) (by decide) (Rg.nl (nT ?_))
  refine tRet ?_
  have hr := Option.some.inj H; subst hr
  exact back1 (a5, c6) rfl (ResV.tmp (v := .slice a5 (([] : List Int).length) c6) rfl) rfl Ents.nil (.cons Del.here .nil)
noncomputable def p_laws_lyAmong_b0 (v0 : (List Int)) (v1 : Int) (Q5 : Int) : Option ((Int) ⊕ (Unit ⊕ Bool)) := cond (decide (Q5 < (v0.length : Int))) (gd (ix Q5 v0.length) <| cond (decide ((nth v0 Q5.toNat) = v1)) (some (.inr (.inr true))) (gd (I64 (Q5 + 1)) <| some (.inl (Q5 + 1)))) (some (.inr (.inl ())))
noncomputable def p_laws_lyAmong (v0 : (List Int)) (v1 : Int) : Option (Bool) := bd (lp (p_laws_lyAmong_b0 v0 v1) 0) <| sw (fun _ => some false) (fun q => some q)
theorem c_laws_lyAmong {r : Bool} (v0 : (List Int)) (x_v0 : Option Addr × Nat) (v1 : Int) (H : p_laws_lyAmong v0 v1 = some r) : Fn' Try.prog 23 #[.slice x_v0.1 v0.length x_v0.2, .int .i64 (v1)] [imm (.slice x_v0.1 v0.length x_v0.2) v0] [] (ι := Unit) (fun _ => .bool (r)) (fun _ => []) (fun _ => []) := by
 refine calls_of (args := [_, _]) Try.func23 rfl (by kernel_rfl) Try.ntmps23 (by simp) fun c => ?_
 unfold p_laws_lyAmong at H
 refine Tr.seq (Tr.region ?_)
 refine Rg.q (v := .bool (false)) (Pu.qo (p_assign rfl)) (by decide) (Rg.nl (nT ?_))
 refine Tr.seq (Tr.seq (Tr.region ?_))
 refine Rg.q (v := .int .i64 (0)) (Pu.qo (p_assign rfl)) (by decide) (Rg.nl (nT ?_))
 obtain ⟨x1, hx2, H⟩ := bd.of H
 obtain ⟨n3, hx2⟩ := lp.of hx2
 refine tMidNC (ι := { q : (Unit) × Unit // x1 = .inl q.1 }) (fun ψ => []) (fun ψ => []) ?_ ?_
 ·refine Tr.block ?_
  refine tLoopC (ι := { q : Nat × (Int) × Unit // itr (p_laws_lyAmong_b0 v0 v1) q.1 q.2.1 = some x1 }) (fun ζ => [(0, .slice x_v0.1 v0.length x_v0.2), (1, .int .i64 (v1)), (5, .int .i64 (ζ.1.2.1))]) (fun ζ => []) (fun ζ => ζ.1.1) ⟨(n3, 0, ()), hx2⟩ ⟨rfl, rfl, rfl, trivial⟩ Take.nil ?_
  rintro ⟨⟨m4, Q5, z6⟩, hk11⟩
  obtain ⟨m12, t8, e, H1, hi9, hb10⟩ := itr.of (n := m4) (s := Q5) hk11
  subst e; unfold p_laws_lyAmong_b0 at H1
  show Tr _ _ _ _ _ [(0, .slice x_v0.1 v0.length x_v0.2), (1, .int .i64 (v1)), (5, .int .i64 (Q5))] _ []
  refine Tr.seq (Tr.seq (Tr.region ?_))
  refine Rg.q (v := .int .i64 (Q5)) (Pu.qo (p_move rfl)) (by decide) ?_
  refine Rg.q (v := .slice x_v0.1 v0.length x_v0.2) (Pu.qo (p_move rfl)) (by decide) ?_
  refine Rg.q (v := .int .i64 ((v0.length : Int))) (Pu.qo (p_len 3 Try.underlying31 rfl)) (by decide) ?_
  refine Rg.q (v := .bool (decide (Q5 < (v0.length : Int)))) (Pu.qo (p_lss rfl rfl)) (by decide) (Rg.nl (nT ?_))
  refine Tr.cond (b := decide (Q5 < (v0.length : Int))) rfl (fun h13 => ?_) (fun h13 => ?_)
  ·have H1 := cdT h13 H1
   refine tSkip ?_
   refine nT (Tr.seq ?_)
   refine Tr.block ?_
   refine Tr.seq (Tr.region ?_)
   refine Rg.q (v := .slice x_v0.1 v0.length x_v0.2) (Pu.qo (p_move rfl)) (by decide) ?_
   refine Rg.q (v := .int .i64 (Q5)) (Pu.qo (p_move rfl)) (by decide) ?_
   obtain ⟨h14, H1⟩ := gd.of H1
   refine Rg.q (v := elp x_v0.1 (Q5.toNat * Enc.sz Int + 0)) (q_ixg (l := v0) (E := fun i => Flat.enc (nth v0 i)) (oa := x_v0.1) Try.underlying31 ty3 rfl rfl h14 rfl (EntB.flat (Ent.b Ent.z))) (by decide) ?_
   refine Rg.q (v := .int .i64 (nth v0 Q5.toNat)) (q_lde (l := v0) (E := fun i => Flat.enc (nth v0 i)) (oa := x_v0.1) (i := Q5.toNat) (j := 0) ty3 rfl (EntB.flat (Ent.b Ent.z)) h14.lt rfl) (by decide) ?_
   refine Rg.q (v := .int .i64 (v1)) (Pu.qo (p_move rfl)) (by decide) ?_
   refine Rg.q (v := .bool (decide ((nth v0 Q5.toNat) = v1))) (Pu.qo (p_eql rfl rfl)) (by decide) (Rg.nl (nT ?_))
   refine Tr.cond (b := decide ((nth v0 Q5.toNat) = v1)) rfl (fun h15 => ?_) (fun h15 => ?_)
   ·have H1 := cdT h15 H1
    refine Tr.seq (Tr.region ?_)
    refine Rg.q (v := .bool (true)) (Pu.qo (p_assign rfl)) (by decide) (Rg.nl (nT ?_))
    refine tRet ?_
    refine rB (rT (rT (rB (rT (rT (?_))))))
    have hx := hb10 _ (Option.some.inj H1).symm; subst hx
    replace H := sw.r H
    have hr := Option.some.inj H; subst hr
    exact back1 () rfl (ResV.tmp (v := .bool (true)) rfl) rfl Ents.nil Take.nil
   ·have H1 := cdF h15 H1
    refine tSkip ?_
    refine nB (nT (?_))
    refine Tr.region ?_
    refine Rg.q (v := .int .i64 (Q5)) (Pu.qo (p_move rfl)) (by decide) ?_
    obtain ⟨h16, H1⟩ := gd.of H1
    refine Rg.q (v := .int .i64 (Q5 + 1)) (Pu.qo (p_add rfl rfl h16)) (by decide) ?_
    refine Rg.q (v := .int .i64 (Q5 + 1)) (Pu.qo (p_assign rfl)) (by decide) (Rg.nl ?_)
    exact nLC ⟨(m12, Q5 + 1, ()), hi9 _ (Option.some.inj H1).symm⟩ (Nat.lt_succ_self _) ⟨rfl, rfl, rfl, trivial⟩ Ents.refl Take.nil
  ·have H1 := cdF h13 H1
   refine tExit (xT (xT (xE (?_))))
   exact nMC ⟨((), ()), (hb10 _ (Option.some.inj H1).symm).symm⟩ trivial Ents.refl Take.nil
 ·rintro ⟨⟨e17, y7⟩, hx⟩; subst hx; replace H := sw.l H
  show At _ _ [] _ [] _
  refine nT (?_)
  refine Tr.seq (Tr.region ?_)
  refine Rg.q (v := .bool (false)) (Pu.qo (p_assign rfl)) (by decide) (Rg.nl (nT ?_))
  refine tRet ?_
  have hr := Option.some.inj H; subst hr
  exact back1 () rfl (ResV.tmp (v := .bool (false)) rfl) rfl Ents.nil Take.nil
noncomputable def p_laws_FnAddFind_b0 (r35 : (List Int)) (r38 : (List Int)) (Q45 : Int) : Option ((Int) ⊕ (Unit ⊕ Bool)) := cond (decide (Q45 < (r35.length : Int))) (gd (ix Q45 r35.length) <| bd (p_laws_lyAmong r38 (nth r35 Q45.toNat)) fun r55 => cond (!r55) (some (.inr (.inr false))) (gd (I64 (Q45 + 1)) <| some (.inl (Q45 + 1)))) (some (.inr (.inl ())))
noncomputable def p_laws_FnAddFind (v0 : (List UInt8)) (v1 : (List UInt8)) : Option (Bool) := bd (cond (decide (1048576 < (v0.length : Int))) (some (true)) (some (decide (1048576 < (v1.length : Int))))) fun b1 => cond (b1) (some true) (bd (p_spec_DrawIndexAdd v0) fun r5 => bd (p_spec_IndexAdd r5.1 r5.2) fun r9 => bd (p_impl_IndexAdd r5.1 r5.2) fun r13 => bd (cond (!decide (r13.2.2 = r9.2.2)) (some (true)) (cond (!decide (r13.2.1 = r9.2.1)) (some (true)) (bd (p_laws_lyIndex r13.1 r9.1) fun r21 => cond (!r21) (some (true)) (some (!r13.2.2))))) fun b17 => cond (b17) (bd (cond (decide (r13.2.2 = r9.2.2)) (cond (decide (r13.2.1 = r9.2.1)) (bd (p_laws_lyIndex r13.1 r9.1) fun r29 => some (r29)) (some (false))) (some (false))) fun b25 => some b25) (gd ((r5.2.length : Int) ≠ 0) <| gd (I64 ((v1.length : Int).tmod (r5.2.length : Int))) <| gd (ix ((v1.length : Int).tmod (r5.2.length : Int)) r5.2.length) <| bd (p_impl_IndexPost r5.1 (nth r5.2 (((v1.length : Int).tmod (r5.2.length : Int)).toNat))) fun r35 => bd (p_impl_IndexPost r13.1 (nth r5.2 (((v1.length : Int).tmod (r5.2.length : Int)).toNat))) fun r38 => bd (lp (p_laws_FnAddFind_b0 r35 r38) 0) <| sw (fun _ => bd (p_laws_lyAmong r38 r13.2.1) fun r60 => cond (r60) (bd (p_impl_IndexFind r13.1 ([])) fun r63 => bd (p_laws_lyAmong r63 r13.2.1) fun r66 => cond (r66) (bd (p_impl_IndexFind r13.1 ([((nth r5.2 (((v1.length : Int).tmod (r5.2.length : Int)).toNat)), false)] : List Cond)) fun r71 => bd (p_laws_lyAmong r71 r13.2.1) fun r74 => cond (r74) (bd (p_impl_IndexFind r13.1 ([((nth r5.2 (((v1.length : Int).tmod (r5.2.length : Int)).toNat)), true)] : List Cond)) fun r79 => bd (p_laws_lyAmong r79 r13.2.1) fun r82 => some (!r82)) (some false)) (some false)) (some false)) (fun q => some q)))
end Go.Proofs.Ytichamokohjneaa
