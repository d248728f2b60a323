/- The walks and the plain laws, part 3: each function that the law reaches computes what its plain function tells, and what the plain functions answer. Conditions: lengths that memory can hold. -/
import Derived.Test.YtonnpkdadcafcaaGreatA2
namespace Go.Proofs.YtonnpkdadcafcaaGreat
open Go Go.Sx Tryz
theorem e_med (d : Array PostH) (x y z s : Nat) (hx : x < d.size) (hy : y < d.size) (hz : z < d.size) (hs : s ≤ 900) :
  ∃ u t : Nat, p_medianH d.toList (x : Int) (y : Int) (z : Int) (s : Int) = some ((u : Int), (t : Int)) ∧ (u = x ∨ u = y ∨ u = z) ∧ t ≤ s + 3 := by
 unfold p_medianH
 obtain ⟨u1, v1, t1, e1, k1, l1⟩ := e_ord d x y s hx hy (by omega)
 obtain ⟨u2, v2, t2, e2, k2, l2⟩ := e_ord d v1 z t1 (by omega) hz (by omega)
 obtain ⟨u3, v3, t3, e3, k3, l3⟩ := e_ord d u1 u2 t2 (by omega) (by omega) (by omega)
 simp only [e1, bd_some, e2, e3]
 exact ⟨v3, t3, rfl, by omega, by omega⟩
theorem e_adj (d : Array PostH) (x s : Nat) (hx : x + 1 < d.size) (h0 : 1 ≤ x) (hs : s ≤ 900) (hb : d.size ≤ 1073741824) :
  ∃ u t : Nat, p_medianAdjacentH d.toList (x : Int) (s : Int) = some ((u : Int), (t : Int)) ∧ (u = x - 1 ∨ u = x ∨ u = x + 1) ∧ t ≤ s + 3 := by
 unfold p_medianAdjacentH
 have c : (x : Int) - 1 = ((x - 1 : Nat) : Int) := by omega
 obtain ⟨u, t, e, k, l⟩ := e_med d (x - 1) x (x + 1) s (by omega) (by omega) hx hs
 simp (disch := first | (unfold I64; omega)) only [gd_true, c, addI, e, bd_some]
 exact ⟨u, t, rfl, k, l⟩
theorem e_piv (a b : Nat) (d : Array PostH) (ha : a < b) (hb : b ≤ d.size) (hs : d.size ≤ 1073741824) :
  ∃ (p : Nat) (h : Int), p_choosePivotH d.toList (a : Int) (b : Int) = some ((p : Int), h) ∧ a ≤ p ∧ p < b := by
 unfold p_choosePivotH
 have c0 : (b : Int) - (a : Int) = ((b - a : Nat) : Int) := by omega
 have c1 : (((b - a : Nat) : Int)).tdiv 4 = (((b - a) / 4 : Nat) : Int) := (Int.ofNat_tdiv (b - a) 4).symm
 have hq : (b - a) / 4 * 4 ≤ b - a := Nat.div_mul_le_self _ _
 have hq2 : b - a < (b - a) / 4 * 4 + 4 := by omega
 simp only [c0, c1]
 generalize (b - a) / 4 = q at *
 have f1 : (a : Int) + (q : Int) * 1 = ((a + q : Nat) : Int) := by omega
 have f2 : (a : Int) + (q : Int) * 2 = ((a + q * 2 : Nat) : Int) := by omega
 have f3 : (a : Int) + (q : Int) * 3 = ((a + q * 3 : Nat) : Int) := by omega
 simp (disch := first | (unfold I64; omega)) only [gd_true, f1, f2, f3]
 have key : ∃ (s p : Nat), (cond (decide (8 ≤ ((b - a : Nat) : Int))) (bd (cond (decide (50 ≤ ((b - a : Nat) : Int))) (bd (p_medianAdjacentH d.toList ((a + q : Nat) : Int) 0) fun r18 => bd (p_medianAdjacentH d.toList ((a + q * 2 : Nat) : Int) r18.2) fun r21 => bd (p_medianAdjacentH d.toList ((a + q * 3 : Nat) : Int) r21.2) fun r24 => some (r24.2, r18.1, r21.1, r24.1)) (some (0, ((a + q : Nat) : Int), ((a + q * 2 : Nat) : Int), ((a + q * 3 : Nat) : Int)))) fun x15 => bd (p_medianH d.toList x15.2.1 x15.2.2.1 x15.2.2.2 x15.1) fun r27 => some (r27.2, r27.1)) (some (0, ((a + q * 2 : Nat) : Int)))) = some ((s : Int), (p : Int)) ∧ a ≤ p ∧ p < b := by
  by_cases h8 : 8 ≤ b - a
  ·rw [decide_eq_true (show (8 : Int) ≤ ((b - a : Nat) : Int) by omega), cond_true]
   by_cases h50 : 50 ≤ b - a
   ·rw [decide_eq_true (show (50 : Int) ≤ ((b - a : Nat) : Int) by omega), cond_true]
    obtain ⟨u1, t1, e1, k1, l1⟩ := e_adj d (a + q) 0 (by omega) (by omega) (by omega) hs
    obtain ⟨u2, t2, e2, k2, l2⟩ := e_adj d (a + q * 2) t1 (by omega) (by omega) (by omega) hs
    obtain ⟨u3, t3, e3, k3, l3⟩ := e_adj d (a + q * 3) t2 (by omega) (by omega) (by omega) hs
    obtain ⟨u4, t4, e4, k4, l4⟩ := e_med d u1 u2 u3 t3 (by omega) (by omega) (by omega) (by omega)
    rw [show ((0 : Nat) : Int) = 0 from rfl] at e1
    simp only [e1, bd_some, e2, e3, e4]
    exact ⟨t4, u4, rfl, by omega, by omega⟩
   ·rw [decide_eq_false (show ¬ (50 : Int) ≤ ((b - a : Nat) : Int) by omega), cond_false]
    obtain ⟨u4, t4, e4, k4, l4⟩ := e_med d (a + q) (a + q * 2) (a + q * 3) 0 (by omega) (by omega) (by omega) (by omega)
    rw [show ((0 : Nat) : Int) = 0 from rfl] at e4
    simp only [bd_some, e4]
    exact ⟨t4, u4, rfl, by omega, by omega⟩
  ·rw [decide_eq_false (show ¬ (8 : Int) ≤ ((b - a : Nat) : Int) by omega), cond_false]
   exact ⟨0, a + q * 2, rfl, by omega, by omega⟩
 obtain ⟨s, p, e, k1, k2⟩ := key
 rw [e]
 simp only [bd_some]
 cases decide ((s : Int) = 0) <;> cases decide ((s : Int) = 12) <;> exact ⟨p, _, rfl, k1, k2⟩
theorem tab256 : ∀ k : Fin 256, (sb kstr_307d5e k.val).toNat = Sort.bitsLen k.val := by decide +kernel
theorem sz_k : kstr_307d5e.size = 256 := by decide +kernel
theorem w64N (n : Nat) (h : n < 18446744073709551616) : (w64 (n : Int)).toNat = n := by
 have := w64_wrap (n : Int)
 have h2 : IntKind.u64.wrap (n : Int) = (n : Int) := by show (n : Int) % (2 ^ 64 : Int) = _; omega
 omega
theorem wrN (x : UInt64) (k : Nat) (hk : k ≤ 64) : (wr x (k : Int)).toNat = x.toNat / 2 ^ k := by
 have h1 := x.toNat_lt
 unfold wr
 have h2 : x.toNat / 2 ^ k ≤ x.toNat := Nat.div_le_self _ _
 rw [natI, Nat.min_eq_left hk, UInt64.toNat_ofNat_of_lt' (show _ < 2 ^ 64 by omega)]
theorem b8N (n : Nat) (h : n < 256) : (b8 (n : Int)).toNat = n := by
 have := b8_wrap (n : Int)
 have h2 : IntKind.u8.wrap (n : Int) = (n : Int) := by show (n : Int) % (2 ^ 8 : Int) = _; omega
 omega
theorem e_len (n : Nat) (hn : n ≤ 1073741824) : ∃ L : Nat, p_math_bits_Len (w64 (n : Int)) = some (L : Int) ∧ L ≤ 32 ∧ (1 ≤ n → 2 ^ L ≤ 2 * n) := by
 have hx := w64N n (by omega)
 generalize w64 (n : Int) = x at *
 unfold p_math_bits_Len p_math_bits_Len64
 have s1 : (cond (decide ((4294967296 : UInt64).toNat ≤ x.toNat)) (some (wr x ((32 : UInt64).toNat : Int), (32 : Int))) (some (x, 0))) = some (x, 0) := by
  rw [decide_eq_false (show ¬ ((4294967296 : UInt64).toNat ≤ x.toNat) by rw [show (4294967296 : UInt64).toNat = 4294967296 from rfl]; omega)]; rfl
 rw [s1]
 simp only [bd_some]
 obtain ⟨y, p, e2, hp, hy⟩ : ∃ (y : UInt64) (p : Nat), (cond (decide ((65536 : UInt64).toNat ≤ x.toNat)) (gd (I64 (0 + 16)) <| some (wr x ((16 : UInt64).toNat : Int), (0 : Int) + 16)) (some (x, 0))) = some (y, (p : Int)) ∧ (p = 0 ∧ y.toNat = n ∧ n < 65536 ∨ p = 16 ∧ y.toNat = n / 65536 ∧ 65536 ≤ n) ∧ y.toNat < 65536 := by
  by_cases h : 65536 ≤ n
  ·rw [decide_eq_true (show ((65536 : UInt64).toNat ≤ x.toNat) by rw [show (65536 : UInt64).toNat = 65536 from rfl]; omega), cond_true, gd.yes (by unfold I64; omega)]
   have := wrN x 16 (by omega)
   rw [hx] at this
   exact ⟨_, 16, rfl, .inr ⟨rfl, this, h⟩, by have e : ((16 : UInt64).toNat : Int) = ((16 : Nat) : Int) := rfl; rw [e, this]; omega⟩
  ·rw [decide_eq_false (show ¬ ((65536 : UInt64).toNat ≤ x.toNat) by rw [show (65536 : UInt64).toNat = 65536 from rfl]; omega)]
   exact ⟨x, 0, rfl, .inl ⟨rfl, hx, by omega⟩, by omega⟩
 rw [e2]
 simp only [bd_some]
 obtain ⟨z, q, e3, hq, hz⟩ : ∃ (z : UInt64) (q : Nat), (cond (decide ((256 : UInt64).toNat ≤ y.toNat)) (gd (I64 ((p : Int) + 8)) <| some (wr y ((8 : UInt64).toNat : Int), (p : Int) + 8)) (some (y, (p : Int)))) = some (z, (q : Int)) ∧ (q = p ∧ z.toNat = y.toNat ∨ q = p + 8 ∧ z.toNat = y.toNat / 256 ∧ 256 ≤ y.toNat) ∧ z.toNat < 256 := by
  by_cases h : 256 ≤ y.toNat
  ·rw [decide_eq_true (show ((256 : UInt64).toNat ≤ y.toNat) by rw [show (256 : UInt64).toNat = 256 from rfl]; omega), cond_true, gd.yes (by unfold I64; omega)]
   have := wrN y 8 (by omega)
   exact ⟨_, p + 8, rfl, .inr ⟨rfl, this, h⟩, by have e : ((8 : UInt64).toNat : Int) = ((8 : Nat) : Int) := rfl; rw [e, this]; omega⟩
  ·rw [decide_eq_false (show ¬ ((256 : UInt64).toNat ≤ y.toNat) by rw [show (256 : UInt64).toNat = 256 from rfl]; omega)]
   exact ⟨y, p, rfl, .inl ⟨rfl, rfl⟩, by omega⟩
 rw [e3]
 simp only [bd_some, b8N z.toNat hz]
 have ht := tab256 ⟨z.toNat, hz⟩
 simp only [] at ht
 have hb : Sort.bitsLen z.toNat ≤ 8 := (Sort.bitsLen_le_iff z.toNat 8).2 (by omega)
 rw [gd.yes (by unfold ix; rw [sz_k]; omega), gd.yes (by unfold I64; rw [ht]; omega), ht]
 simp only [bd_some]
 refine ⟨q + Sort.bitsLen z.toNat, by congr 1, by omega, fun h1 => ?_⟩
 have hz0 : 0 < z.toNat := by omega
 have h2 := Sort.two_pow_bitsLen_le hz0
 generalize Sort.bitsLen z.toNat = L at *
 rw [Nat.pow_add]
 have hcase : 2 ^ q * z.toNat ≤ n := by
  rcases hq with ⟨rfl, hzy⟩ | ⟨rfl, hzy, _⟩ <;> rcases hp with ⟨rfl, hyn, _⟩ | ⟨rfl, hyn, _⟩ <;> simp only [hzy, hyn, Nat.reduceAdd, Nat.reducePow] <;> omega
 calc 2 ^ q * 2 ^ L ≤ 2 ^ q * (2 * z.toNat) := Nat.mul_le_mul_left _ h2
  _ = 2 * (2 ^ q * z.toNat) := by rw [Nat.mul_left_comm]
  _ ≤ 2 * n := Nat.mul_le_mul_left _ hcase
theorem wl1 (L : Nat) (h : L ≤ 32) : (wl (1 : UInt64) (L : Int)).toNat = 2 ^ L := by
 unfold wl
 have hp : 2 ^ L ≤ 2 ^ 32 := Nat.pow_le_pow_right (by omega) h
 have e : ((1 : UInt64).toNat : Int) * 2 ^ (min (L : Int).toNat 64) = ((2 ^ L : Nat) : Int) := by
  rw [natI, Nat.min_eq_left (by omega)]
  show (1 : Int) * 2 ^ L = _
  rw [Int.one_mul]; push_cast; rfl
 rw [e, w64N _ (by omega)]
theorem e_brk (a b : Nat) (d : Array PostH) (ha : a ≤ b) (hb : b ≤ d.size) (hs : d.size ≤ 1073741824) :
  ∃ r : Array PostH, p_breakPatternsH d.toList (a : Int) (b : Int) = some r.toList ∧ Sort.PermIn a b d r := by
 unfold p_breakPatternsH
 have c0 : (b : Int) - (a : Int) = ((b - a : Nat) : Int) := by omega
 rw [gd.yes (by unfold I64; omega), c0]
 by_cases h8 : 8 ≤ b - a
 ·rw [decide_eq_true (show (8 : Int) ≤ ((b - a : Nat) : Int) by omega), cond_true]
  obtain ⟨L, eL, hL, hL2⟩ := e_len (b - a) (by omega)
  have hL2 := hL2 (by omega)
  have e1 : p_slices_nextPowerOfTwo ((b - a : Nat) : Int) = some (wl (1 : UInt64) (L : Int)) := by
   unfold p_slices_nextPowerOfTwo
   rw [eL]; simp only [bd_some]
   rw [gd.yes (by omega)]
  have hM := wl1 L hL
  have hpos : 0 < 2 ^ L := Nat.two_pow_pos _
  rw [e1]; simp only [bd_some]
  generalize wl (1 : UInt64) (L : Int) = M at *
  have c1 : (((b - a : Nat) : Int)).tdiv 4 = (((b - a) / 4 : Nat) : Int) := (Int.ofNat_tdiv (b - a) 4).symm
  have hq : (b - a) / 4 * 4 ≤ b - a := Nat.div_mul_le_self _ _
  have hq2 : b - a < (b - a) / 4 * 4 + 4 := by omega
  rw [c1]
  have hbody : ∀ r4 Q, p_breakPatternsH_b0 (a : Int) (b : Int) r4 Q = p_breakPatternsH_b0 (a : Int) (b : Int) r4 Q := fun _ _ => rfl
  have c2 : ((b : Int) - (a : Int)).tdiv 4 = (((b - a) / 4 : Nat) : Int) := by rw [c0, c1]
  generalize (b - a) / 4 = q at *
  rw [gd.yes (by unfold I64; omega), gd.yes (by unfold I64; omega), gd.yes (by unfold I64; omega), gd.yes (by unfold I64; omega)]
  have hMs : (M - 1).toNat = 2 ^ L - 1 := by
   rw [UInt64.toNat_sub_of_le]
   ·rw [hM]; rfl
   ·rw [UInt64.le_iff_toNat_le, hM]; exact hpos
  have step : ∀ (d' : Array PostH) (x : UInt64) (i : Nat), d'.size = d.size → a + q * 2 - 1 ≤ i → i ≤ a + q * 2 + 1 →
    ∃ (y : UInt64) (o : Nat), a ≤ o ∧ o < b ∧ p_breakPatternsH_b0 (a : Int) (b : Int) M (d'.toList, x, (i : Int)) = some (.inl ((Sort.swp d' i o).toList, y, ((i + 1 : Nat) : Int))) := by
   intro d' x i hz h1 h2
   unfold p_breakPatternsH_b0
   rw [c2, gd.yes (by unfold I64; omega)]
   rw [decide_eq_true (show ((i : Int) ≤ (a : Int) + (q : Int) * 2 + 1) by omega), cond_true]
   obtain ⟨u, v, eN⟩ : ∃ u v, p_slices_xorshift_Next x = some (u, v) := ⟨_, _, rfl⟩
   rw [eN]; simp only [bd_some]
   have hand : (u &&& (M - 1)).toNat ≤ 2 ^ L - 1 := by rw [UInt64.toNat_and, hMs]; exact Nat.and_le_right
   generalize (u &&& (M - 1)).toNat = w at *
   have hp32 : 2 ^ L ≤ 2 ^ 32 := Nat.pow_le_pow_right (by omega) hL
   rw [gd.yes (by unfold I64; omega)]
   obtain ⟨t, et, ht⟩ : ∃ t : Nat, (cond (decide ((b : Int) - (a : Int) ≤ (w : Int))) (gd (I64 ((w : Int) - ((b : Int) - (a : Int)))) <| some ((w : Int) - ((b : Int) - (a : Int)))) (some (w : Int))) = some (t : Int) ∧ t < b - a := by
    by_cases hw : b - a ≤ w
    ·rw [decide_eq_true (show ((b : Int) - (a : Int) ≤ (w : Int)) by omega), cond_true, gd.yes (by unfold I64; omega)]
     exact ⟨w - (b - a), by congr 1; omega, by omega⟩
    ·rw [decide_eq_false (show ¬ ((b : Int) - (a : Int) ≤ (w : Int)) by omega)]
     exact ⟨w, rfl, by omega⟩
   rw [et]
   have c3 : (a : Int) + (t : Int) = ((a + t : Nat) : Int) := by omega
   refine ⟨v, a + t, by omega, by omega, ?_⟩
   simp (disch := first | (unfold I64; omega) | (unfold ix; (try simp only [List.length_set, lenA]); omega)) only [bd_some, c3, gd_true, natI, nthA, swpA', addI]
  have cI : (a : Int) + (q : Int) * 2 - 1 = ((a + q * 2 - 1 : Nat) : Int) := by omega
  rw [cI]
  obtain ⟨e, he, r, rfl, hr⟩ := lp.rule (body := p_breakPatternsH_b0 (a : Int) (b : Int) M) (fun Q => ∃ (d' : Array PostH) (x : UInt64) (i : Nat), Q = (d'.toList, x, (i : Int)) ∧ Sort.PermIn a b d d' ∧ a + q * 2 - 1 ≤ i ∧ i ≤ a + q * 2 + 2)
   (fun Q => ((a + q * 2 + 2 : Nat) - Q.2.2 : Int).toNat) (fun e => ∃ r : Array PostH, e = r.toList ∧ Sort.PermIn a b d r) (by
    rintro _ ⟨d', x, i, rfl, hp, h1, h2⟩
    by_cases hi : i ≤ a + q * 2 + 1
    ·obtain ⟨y, o, ho1, ho2, hst⟩ := step d' x i hp.1 h1 hi
     refine .inl ⟨_, hst, ⟨_, y, i + 1, rfl, Sort.permIn_trans _ _ _ a b hp (Sort.swp_permIn d' a b i o (by omega) (by omega) ho1 ho2 (by rw [hp.1]; exact hb)), by omega, by omega⟩, ?_⟩
     simp only []; omega
    ·refine .inr ⟨d'.toList, ?_, d', rfl, hp⟩
     unfold p_breakPatternsH_b0
     rw [c2, gd.yes (by unfold I64; omega), decide_eq_false (show ¬ ((i : Int) ≤ (a : Int) + (q : Int) * 2 + 1) by omega)]; rfl)
   (s := (d.toList, w64 ((b - a : Nat) : Int), ((a + q * 2 - 1 : Nat) : Int))) ⟨d, _, _, rfl, Sort.permIn_refl d a b, Nat.le_refl _, by omega⟩
  rw [he]
  exact ⟨r, rfl, hr⟩
 ·rw [decide_eq_false (show ¬ (8 : Int) ≤ ((b - a : Nat) : Int) by omega)]
  exact ⟨d, rfl, Sort.permIn_refl d a b⟩
noncomputable def pdqT (rc : (List PostH) → Int → Int → Int → Option ((List PostH))) (l : List PostH) (a b lim : Int) (wb wp : Bool) (p : Int) : Option (((List PostH) × Int × Int × Int × Bool × Bool) ⊕ (Unit ⊕ (List PostH))) :=
 bd (cond (decide (0 < a)) (gd (I64 (a - 1)) <| gd (ix (a - 1) l.length) <| gd (ix p l.length) <| bd (p_impl_indexOf_2 (nth l ((a - 1).toNat)) (nth l p.toNat)) fun r66 => some (!(decide (r66 < 0)))) (some (false))) fun b60 => cond (b60) (bd (p_partitionEqualH l a b p) fun r69 => some (.inl (r69.2, r69.1, b, lim, wb, wp))) (bd (p_partitionH l a b p) fun r73 => gd (I64 (r73.1 - a)) <| gd (I64 (b - r73.1)) <| gd (I64 ((b - a).tdiv 8)) <| cond (decide ((r73.1 - a) < (b - r73.1))) (bd (rc r73.2.2 a r73.1 lim) fun r81 => gd (I64 (r73.1 + 1)) <| some (.inl (r81, r73.1 + 1, b, lim, decide (((b - a).tdiv 8) ≤ (r73.1 - a)), r73.2.1))) (gd (I64 (r73.1 + 1)) <| bd (rc r73.2.2 (r73.1 + 1) b lim) fun r87 => some (.inl (r87, a, r73.1, lim, decide (((b - a).tdiv 8) ≤ (b - r73.1)), r73.2.1))))
theorem pdq_b0s (rc : (List PostH) → Int → Int → Int → Option ((List PostH))) (Q : List PostH × Int × Int × Int × Bool × Bool) : p_pdqsortH_b0 rc Q =
  (gd (I64 (Q.2.2.1 - Q.2.1)) <| cond (decide ((Q.2.2.1 - Q.2.1) ≤ 12)) (bd (p_insertionSortH Q.1 Q.2.1 Q.2.2.1) fun r16 => some (.inr (.inr r16))) (cond (decide (Q.2.2.2.1 = 0)) (bd (p_heapSortH Q.1 Q.2.1 Q.2.2.1) fun r21 => some (.inr (.inr r21))) (bd (cond (!Q.2.2.2.2.1) (bd (p_breakPatternsH Q.1 Q.2.1 Q.2.2.1) fun r29 => gd (I64 (Q.2.2.2.1 - 1)) <| some (r29, Q.2.2.2.1 - 1)) (some (Q.1, Q.2.2.2.1))) fun x26 => bd (p_choosePivotH x26.1 Q.2.1 Q.2.2.1) fun r35 => bd (cond (decide (r35.2 = 2)) (bd (p_reverseRangeH x26.1 Q.2.1 Q.2.2.1) fun r41 => gd (I64 (Q.2.2.1 - 1)) <| gd (I64 (r35.1 - Q.2.1)) <| gd (I64 ((Q.2.2.1 - 1) - (r35.1 - Q.2.1))) <| some (r41, (Q.2.2.1 - 1) - (r35.1 - Q.2.1), 1)) (some (x26.1, r35.1, r35.2))) fun x38 => bd (cond Q.2.2.2.2.1 (cond Q.2.2.2.2.2 (some (decide (x38.2.2 = 1))) (some (false))) (some (false))) fun b49 => cond (b49) (bd (p_partialInsertionSortH x38.1 Q.2.1 Q.2.2.1) fun r54 => cond (r54.1) (some (.inr (.inr r54.2))) (pdqT rc r54.2 Q.2.1 Q.2.2.1 x26.2 Q.2.2.2.2.1 Q.2.2.2.2.2 x38.2.1)) (pdqT rc x38.1 Q.2.1 Q.2.2.1 x26.2 Q.2.2.2.2.1 Q.2.2.2.2.2 x38.2.1)))) := by unfold p_pdqsortH_b0 pdqT; rfl
theorem pdq_b0g (rc : (List PostH) → Int → Int → Int → Option ((List PostH))) (l : List PostH) (a b lim : Int) (wb wp : Bool) (Q : List PostH × Int × Int × Int × Bool × Bool) (h1 : Q.1 = l) (h2 : Q.2.1 = a) (h3 : Q.2.2.1 = b) (h4 : Q.2.2.2.1 = lim) (h5 : Q.2.2.2.2.1 = wb) (h6 : Q.2.2.2.2.2 = wp) : p_pdqsortH_b0 rc Q =
  (gd (I64 (b - a)) <| cond (decide ((b - a) ≤ 12)) (bd (p_insertionSortH l a b) fun r16 => some (.inr (.inr r16))) (cond (decide (lim = 0)) (bd (p_heapSortH l a b) fun r21 => some (.inr (.inr r21))) (bd (cond (!wb) (bd (p_breakPatternsH l a b) fun r29 => gd (I64 (lim - 1)) <| some (r29, lim - 1)) (some (l, lim))) fun x26 => bd (p_choosePivotH x26.1 a b) fun r35 => bd (cond (decide (r35.2 = 2)) (bd (p_reverseRangeH x26.1 a b) fun r41 => gd (I64 (b - 1)) <| gd (I64 (r35.1 - a)) <| gd (I64 ((b - 1) - (r35.1 - a))) <| some (r41, (b - 1) - (r35.1 - a), 1)) (some (x26.1, r35.1, r35.2))) fun x38 => bd (cond wb (cond wp (some (decide (x38.2.2 = 1))) (some (false))) (some (false))) fun b49 => cond (b49) (bd (p_partialInsertionSortH x38.1 a b) fun r54 => cond (r54.1) (some (.inr (.inr r54.2))) (pdqT rc r54.2 a b x26.2 wb wp x38.2.1)) (pdqT rc x38.1 a b x26.2 wb wp x38.2.1)))) := by subst h1 h2 h3 h4 h5 h6; exact pdq_b0s rc Q
theorem pdq_b0 (rc : (List PostH) → Int → Int → Int → Option ((List PostH))) (l : List PostH) (a b lim : Int) (wb wp : Bool) : p_pdqsortH_b0 rc (l, a, b, lim, wb, wp) =
  (gd (I64 (b - a)) <| cond (decide ((b - a) ≤ 12)) (bd (p_insertionSortH l a b) fun r16 => some (.inr (.inr r16))) (cond (decide (lim = 0)) (bd (p_heapSortH l a b) fun r21 => some (.inr (.inr r21))) (bd (cond (!wb) (bd (p_breakPatternsH l a b) fun r29 => gd (I64 (lim - 1)) <| some (r29, lim - 1)) (some (l, lim))) fun x26 => bd (p_choosePivotH x26.1 a b) fun r35 => bd (cond (decide (r35.2 = 2)) (bd (p_reverseRangeH x26.1 a b) fun r41 => gd (I64 (b - 1)) <| gd (I64 (r35.1 - a)) <| gd (I64 ((b - 1) - (r35.1 - a))) <| some (r41, (b - 1) - (r35.1 - a), 1)) (some (x26.1, r35.1, r35.2))) fun x38 => bd (cond wb (cond wp (some (decide (x38.2.2 = 1))) (some (false))) (some (false))) fun b49 => cond (b49) (bd (p_partialInsertionSortH x38.1 a b) fun r54 => cond (r54.1) (some (.inr (.inr r54.2))) (pdqT rc r54.2 a b x26.2 wb wp x38.2.1)) (pdqT rc x38.1 a b x26.2 wb wp x38.2.1)))) := pdq_b0g rc l a b lim wb wp _ rfl rfl rfl rfl rfl rfl
def PS (f : (List PostH) → Int → Int → Int → Option ((List PostH))) (N : Nat) : Prop := ∀ (d : Array PostH) (a b lim : Nat), b - a < N → a ≤ b → b ≤ d.size → d.size ≤ 1073741824 → lim ≤ 1000 → Sort.Below ltP a b d →
 ∃ r : Array PostH, f d.toList (a : Int) (b : Int) (lim : Int) = some r.toList ∧ Sort.PermIn a b d r ∧ Sort.SortedIn ltP a b r
theorem eta2 {α β : Type} (x : α × β) : x = (x.1, x.2) := rfl
theorem eta3 {α β γ : Type} (x : α × β × γ) : x = (x.1, x.2.1, x.2.2) := rfl
theorem e_tailP {rc : (List PostH) → Int → Int → Int → Option ((List PostH))} {N : Nat} (H : PS rc N) (d d4 : Array PostH) (a b lim mid : Nat) (_ _ ap : Bool) (hN : b - a ≤ N) (hb : b ≤ d.size) (hs : d.size ≤ 1073741824) (hl : lim ≤ 1000) (g1 : a ≤ mid) (g2 : mid < b) (hs4 : d4.size = d.size)
  (hBa : Sort.Below ltP a mid d4) (hBr : Sort.Below ltP (mid + 1) b d4)
  (hleft : ∀ L, Sort.PermIn a mid d4 L → Sort.SortedIn ltP a mid L → Sort.Below ltP (mid + 1) b L ∧ ∀ R, Sort.PermIn (mid + 1) b L R → Sort.SortedIn ltP (mid + 1) b R → Sort.PermIn a b d R ∧ Sort.SortedIn ltP a b R)
  (hright : ∀ L, Sort.PermIn (mid + 1) b d4 L → Sort.SortedIn ltP (mid + 1) b L → Sort.Below ltP a mid L ∧ ∀ R, Sort.PermIn a mid L R → Sort.SortedIn ltP a mid R → Sort.PermIn a b d R ∧ Sort.SortedIn ltP a b R) :
  ∃ (d' : Array PostH) (a' b' : Nat) (wb' wp' : Bool), (gd (I64 ((mid : Int) - (a : Int))) <| gd (I64 ((b : Int) - (mid : Int))) <| gd (I64 (((b : Int) - (a : Int)).tdiv 8)) <| cond (decide (((mid : Int) - (a : Int)) < ((b : Int) - (mid : Int)))) (bd (rc d4.toList (a : Int) (mid : Int) (lim : Int)) fun r81 => gd (I64 ((mid : Int) + 1)) <| some (.inl (r81, (mid : Int) + 1, (b : Int), (lim : Int), decide ((((b : Int) - (a : Int)).tdiv 8) ≤ ((mid : Int) - (a : Int))), ap))) (gd (I64 ((mid : Int) + 1)) <| bd (rc d4.toList ((mid : Int) + 1) (b : Int) (lim : Int)) fun r87 => some (.inl (r87, (a : Int), (mid : Int), (lim : Int), decide ((((b : Int) - (a : Int)).tdiv 8) ≤ ((b : Int) - (mid : Int))), ap)))) = (some (.inl (d'.toList, (a' : Int), (b' : Int), (lim : Int), wb', wp')) : Option (((List PostH) × Int × Int × Int × Bool × Bool) ⊕ (Unit ⊕ (List PostH)))) ∧ a' ≤ b' ∧ b' - a' < b - a ∧ d'.size = d.size ∧ b' ≤ d'.size ∧ Sort.Below ltP a' b' d' ∧
   ∀ R, Sort.PermIn a' b' d' R → Sort.SortedIn ltP a' b' R → Sort.PermIn a b d R ∧ Sort.SortedIn ltP a b R := by
 have c8 : ((b : Int) - (a : Int)).tdiv 8 = (((b - a) / 8 : Nat) : Int) := by rw [show (b : Int) - (a : Int) = ((b - a : Nat) : Int) by omega]; exact (Int.ofNat_tdiv (b - a) 8).symm
 have h8 : (b - a) / 8 ≤ b - a := Nat.div_le_self _ _
 rw [gd.yes (by unfold I64; omega), gd.yes (by unfold I64; omega), c8, gd.yes (by unfold I64; omega)]
 by_cases hlt : mid - a < b - mid
 ·rw [decide_eq_true (show ((mid : Int) - (a : Int) < (b : Int) - (mid : Int)) by omega), cond_true]
  obtain ⟨L, eL, l1, l2⟩ := H d4 a mid lim (by omega) g1 (by rw [hs4]; omega) (by rw [hs4]; exact hs) hl hBa
  obtain ⟨hBL, hfin⟩ := hleft L l1 l2
  rw [bd.yes eL, gd.yes (by unfold I64; omega), addI]
  exact ⟨L, mid + 1, b, _, _, rfl, by omega, by omega, by rw [l1.1, hs4], by rw [l1.1, hs4]; exact hb, hBL, hfin⟩
 ·rw [decide_eq_false (show ¬ ((mid : Int) - (a : Int) < (b : Int) - (mid : Int)) by omega), cond_false]
  obtain ⟨L, eL, l1, l2⟩ := H d4 (mid + 1) b lim (by omega) (by omega) (by rw [hs4]; exact hb) (by rw [hs4]; exact hs) hl hBr
  obtain ⟨hBL, hfin⟩ := hright L l1 l2
  rw [gd.yes (by unfold I64; omega), addI, bd.yes eL]
  exact ⟨L, a, mid, _, _, rfl, g1, by omega, by rw [l1.1, hs4], by rw [l1.1, hs4]; omega, hBL, hfin⟩
theorem e_tail {rc : (List PostH) → Int → Int → Int → Option ((List PostH))} {N : Nat} (H : PS rc N) (d : Array PostH) (a b lim p : Nat) (wb wp : Bool) (hN : b - a ≤ N) (ha : a ≤ p) (hp : p < b) (hb : b ≤ d.size) (hs : d.size ≤ 1073741824) (hl : lim ≤ 1000) (hB : Sort.Below ltP a b d) :
  ∃ (d' : Array PostH) (a' b' : Nat) (wb' wp' : Bool), pdqT rc d.toList (a : Int) (b : Int) (lim : Int) wb wp (p : Int) = some (.inl (d'.toList, (a' : Int), (b' : Int), (lim : Int), wb', wp')) ∧ a' ≤ b' ∧ b' - a' < b - a ∧ d'.size = d.size ∧ b' ≤ d'.size ∧ Sort.Below ltP a' b' d' ∧
   ∀ R, Sort.PermIn a' b' d' R → Sort.SortedIn ltP a' b' R → Sort.PermIn a b d R ∧ Sort.SortedIn ltP a b R := by
 have hS := ltP_swo (β := HV)
 unfold pdqT
 obtain ⟨e, he, hc⟩ : ∃ e : Bool, (cond (decide ((0 : Int) < (a : Int))) (gd (I64 ((a : Int) - 1)) <| gd (ix ((a : Int) - 1) d.toList.length) <| gd (ix (p : Int) d.toList.length) <| bd (p_impl_indexOf_2 (nth d.toList (((a : Int) - 1).toNat)) (nth d.toList (p : Int).toNat)) fun r66 => some (!(decide (r66 < 0)))) (some (false))) = some e ∧ (e = true → 0 < a ∧ ltP d[a - 1]! d[p]! = false) := by
  by_cases h0 : 0 < a
  ·have c : (a : Int) - 1 = ((a - 1 : Nat) : Int) := by omega
   refine ⟨!ltP d[a - 1]! d[p]!, ?_, fun h => ⟨h0, by simpa using h⟩⟩
   rw [decide_eq_true (show (0 : Int) < (a : Int) by omega)]
   simp (disch := first | (unfold I64; omega) | (unfold ix; (try simp only [List.length_set, lenA]); omega)) only [cond_true, c, gd_true, natI, nthA, e_cmpH, bd_some, ltN]
  ·exact ⟨false, by rw [decide_eq_false (show ¬ (0 : Int) < (a : Int) by omega)]; rfl, fun h => by cases h⟩
 rw [he]
 simp only [bd_some]
 cases e with
 | true =>
  obtain ⟨h0, hnl⟩ := hc rfl
  obtain ⟨g1, g2, hs4, hB4, hfin⟩ := Sort.round_eq hS (Sort.partitionEqual_holds ltP) h0 ha hp hb hB hnl (eta2 (Sort.partitionEqual ltP d a b p))
  rw [cond_true, e_parE a b p d ha hp hb hs]
  generalize (Sort.partitionEqual ltP d a b p).1 = mid at *
  generalize (Sort.partitionEqual ltP d a b p).2 = d4 at *
  simp only [bd_some]
  exact ⟨_, _, b, wb, wp, rfl, g2, by omega, hs4, by rw [hs4]; exact hb, hB4, hfin⟩
 | false =>
  obtain ⟨g1, g2, hs4, hBa, hBr, hleft, hright⟩ := Sort.round_part hS (Sort.partition_holds ltP) ha hp hb hB (eta3 (Sort.partition ltP d a b p))
  rw [cond_false, e_part a b p d ha hp hb hs]
  simp only [bd_some]
  generalize (Sort.partition ltP d a b p).1 = mid at *
  generalize (Sort.partition ltP d a b p).2.1 = ap at *
  generalize (Sort.partition ltP d a b p).2.2 = d4 at *
  exact e_tailP H d d4 a b lim mid wb wp ap hN hb hs hl g1 g2 hs4 hBa hBr hleft hright
theorem e_pdqL {rc : (List PostH) → Int → Int → Int → Option ((List PostH))} {N : Nat} (H : PS rc N) (v0 : List PostH) : ∀ (n : Nat) (d : Array PostH) (a b lim : Nat) (wb wp : Bool), b - a < n → b - a ≤ N → a ≤ b → b ≤ d.size → d.size ≤ 1073741824 → lim ≤ 1000 → Sort.Below ltP a b d →
  ∃ r : Array PostH, bd (lp (p_pdqsortH_b0 rc) (d.toList, (a : Int), (b : Int), (lim : Int), wb, wp)) (sw (fun _ => some v0) (fun q => some q)) = some r.toList ∧ Sort.PermIn a b d r ∧ Sort.SortedIn ltP a b r
 | 0, _, _, _, _, _, _, h, _, _, _, _, _, _ => absurd h (Nat.not_lt_zero _)
 | n + 1, d, a, b, lim, wb, wp, hn, hN, hab, hb, hs, hl, hB => by
  have hS := ltP_swo (β := HV)
  by_cases h12 : b - a ≤ 12
  ·rw [lp.stop (e := .inr (Sort.insertionSort ltP d a b).toList) (by
    rw [pdq_b0, gd.yes (by unfold I64; omega), decide_eq_true (show ((b : Int) - (a : Int) ≤ 12) by omega), cond_true, e_ins a b d hab hb hs]; rfl)]
   exact ⟨_, rfl, Sort.insertionSort_holds hS d a b hab hb⟩
  ·have e12 : decide ((b : Int) - (a : Int) ≤ 12) = false := decide_eq_false (by omega)
   by_cases hl0 : lim = 0
   ·rw [lp.stop (e := .inr (Sort.heapSort ltP d a b).toList) (by
     rw [pdq_b0, gd.yes (by unfold I64; omega), e12, cond_false, decide_eq_true (show ((lim : Int) = 0) by omega), cond_true, e_heap a b d hab hb hs]; rfl)]
    exact ⟨_, rfl, Sort.heapSort_holds hS d a b hab hb⟩
   ·obtain ⟨d1, lim1, hx1, P1, hl1⟩ : ∃ (d1 : Array PostH) (lim1 : Nat), (cond (!wb) (bd (p_breakPatternsH d.toList (a : Int) (b : Int)) fun r29 => gd (I64 ((lim : Int) - 1)) <| some (r29, (lim : Int) - 1)) (some (d.toList, (lim : Int)))) = some (d1.toList, (lim1 : Int)) ∧ Sort.PermIn a b d d1 ∧ lim1 ≤ 1000 := by
     cases wb with
     | true => exact ⟨d, lim, rfl, Sort.permIn_refl d a b, hl⟩
     | false =>
      obtain ⟨r, hr, hp⟩ := e_brk a b d hab hb hs
      refine ⟨r, lim - 1, ?_, hp, by omega⟩
      rw [Bool.not_false, cond_true, hr]
      simp only [bd_some]
      rw [gd.yes (by unfold I64; omega), show (lim : Int) - 1 = ((lim - 1 : Nat) : Int) by omega]
    have b1 : b ≤ d1.size := by rw [P1.1]; exact hb
    obtain ⟨pv, h, hpv, pa, pb⟩ := e_piv a b d1 (by omega) b1 (by rw [P1.1]; exact hs)
    obtain ⟨d2, pv2, h2, hx2, P2, pa2, pb2⟩ : ∃ (d2 : Array PostH) (pv2 : Nat) (h2 : Int), (cond (decide (h = 2)) (bd (p_reverseRangeH d1.toList (a : Int) (b : Int)) fun r41 => gd (I64 ((b : Int) - 1)) <| gd (I64 ((pv : Int) - (a : Int))) <| gd (I64 (((b : Int) - 1) - ((pv : Int) - (a : Int)))) <| some (r41, ((b : Int) - 1) - ((pv : Int) - (a : Int)), (1 : Int))) (some (d1.toList, (pv : Int), h))) = some (d2.toList, (pv2 : Int), h2) ∧ Sort.PermIn a b d1 d2 ∧ a ≤ pv2 ∧ pv2 < b := by
     cases decide (h = 2) with
     | false => exact ⟨d1, pv, h, rfl, Sort.permIn_refl d1 a b, pa, pb⟩
     | true =>
      refine ⟨Sort.reverseRange d1 a b, (b - 1) - (pv - a), 1, ?_, Sort.reverseRange_holds d1 a b hab b1, by omega, by omega⟩
      rw [cond_true, e_rev a b d1 (by omega) b1 (by rw [P1.1]; exact hs)]
      simp only [bd_some]
      rw [gd.yes (by unfold I64; omega), gd.yes (by unfold I64; omega), gd.yes (by unfold I64; omega), show ((b : Int) - 1) - ((pv : Int) - (a : Int)) = (((b - 1) - (pv - a) : Nat) : Int) by omega]
    have b2 : b ≤ d2.size := by rw [P2.1]; exact b1
    have s2 : d2.size ≤ 1073741824 := by rw [P2.1, P1.1]; exact hs
    have B2 : Sort.Below ltP a b d2 := (hB.perm hb P1).perm b1 P2
    have P02 : Sort.PermIn a b d d2 := Sort.permIn_trans _ _ _ a b P1 P2
    obtain ⟨bb, hbb⟩ : ∃ bb : Bool, (cond wb (cond wp (some (decide (h2 = 1))) (some (false))) (some (false))) = some bb := by cases wb <;> cases wp <;> exact ⟨_, rfl⟩
    have start : ∀ K, cond bb (bd (p_partialInsertionSortH d2.toList (a : Int) (b : Int)) fun r54 => cond (r54.1) (some (.inr (.inr r54.2))) (pdqT rc r54.2 (a : Int) (b : Int) (lim1 : Int) wb wp (pv2 : Int))) (pdqT rc d2.toList (a : Int) (b : Int) (lim1 : Int) wb wp (pv2 : Int)) = K → p_pdqsortH_b0 rc (d.toList, (a : Int), (b : Int), (lim : Int), wb, wp) = K := by
     intro K hK
     rw [pdq_b0, gd.yes (by unfold I64; omega), e12, cond_false, decide_eq_false (show ¬ ((lim : Int) = 0) by omega), cond_false, hx1]
     simp only [bd_some]
     rw [hpv]
     simp only [bd_some]
     rw [hx2]
     simp only [bd_some]
     rw [hbb]
     exact hK
    have go : ∀ d3 : Array PostH, Sort.PermIn a b d2 d3 → p_pdqsortH_b0 rc (d.toList, (a : Int), (b : Int), (lim : Int), wb, wp) = pdqT rc d3.toList (a : Int) (b : Int) (lim1 : Int) wb wp (pv2 : Int) →
      ∃ r : Array PostH, bd (lp (p_pdqsortH_b0 rc) (d.toList, (a : Int), (b : Int), (lim : Int), wb, wp)) (sw (fun _ => some v0) (fun q => some q)) = some r.toList ∧ Sort.PermIn a b d r ∧ Sort.SortedIn ltP a b r := by
     intro d3 P3 hst
     have b3 : b ≤ d3.size := by rw [P3.1]; exact b2
     obtain ⟨d', a', b', wb', wp', hT, q1, q2, q3, q4, q5, q6⟩ := e_tail H d3 a b lim1 pv2 wb wp hN pa2 pb2 b3 (by rw [P3.1]; exact s2) hl1 (B2.perm b2 P3)
     rw [lp.step (hst.trans hT)]
     obtain ⟨r, hr, r1, r2⟩ := e_pdqL H v0 n d' a' b' lim1 wb' wp' (by omega) (by omega) q1 q4 (by rw [q3, P3.1]; exact s2) hl1 q5
     obtain ⟨k1, k2⟩ := q6 r r1 r2
     exact ⟨r, hr, Sort.permIn_trans _ _ _ a b (Sort.permIn_trans _ _ _ a b P02 P3) k1, k2⟩
    cases bb with
    | false => exact go d2 (Sort.permIn_refl d2 a b) (start _ rfl)
    | true =>
     have hpi := Sort.partialInsertionSort_holds hS d2 a b (by omega) b2 B2
     have est : p_pdqsortH_b0 rc (d.toList, (a : Int), (b : Int), (lim : Int), wb, wp) = cond (Sort.partialInsertionSort ltP d2 a b).2 (some (.inr (.inr (Sort.partialInsertionSort ltP d2 a b).1.toList))) (pdqT rc (Sort.partialInsertionSort ltP d2 a b).1.toList (a : Int) (b : Int) (lim1 : Int) wb wp (pv2 : Int)) := by
      refine start _ ?_
      rw [cond_true, e_par a b d2 (by omega) b2 s2]
      rfl
     cases ht : (Sort.partialInsertionSort ltP d2 a b).2 with
     | true =>
      rw [ht, cond_true] at est
      rw [lp.stop est]
      exact ⟨_, rfl, Sort.permIn_trans _ _ _ a b P02 hpi.1, hpi.2 ht⟩
     | false =>
      rw [ht, cond_false] at est
      exact go _ hpi.1 est
theorem e_pdq : ∀ N : Nat, PS (p_pdqsortH N) N
 | 0 => fun d a b lim h => absurd h (Nat.not_lt_zero _)
 | N + 1 => fun d a b lim h hab hb hs hl hB => e_pdqL (e_pdq N) d.toList _ d a b lim true true (Nat.lt_succ_self _) (by omega) hab hb hs hl hB
theorem e_SortH (l : List PostH) (hs : l.length ≤ 1073741824) : ∃ r : List PostH, p_SortFuncH l = some r ∧ r.Perm l ∧ r.Pairwise (fun x y => ltP y x = false) := by
 obtain ⟨L, eL, hL, _⟩ := e_len l.length hs
 obtain ⟨r, hr, h1, h2⟩ := e_pdq (l.length + 1) l.toArray 0 l.length L (by omega) (Nat.zero_le _) (by simp) (by simpa using hs) (by omega) (.inl rfl)
 unfold p_SortFuncH
 rw [eL]
 simp only [bd_some]
 rw [show l.toArray.toList = l from rfl, show ((0 : Nat) : Int) = 0 from rfl] at hr
 rw [hr]
 refine ⟨r.toList, rfl, ?_, ?_⟩
 ·have := h1.2.2
  have e1 : r.extract 0 l.length = r := by
   have : l.length = r.size := by rw [h1.1]; simp
   rw [this]; exact Array.extract_size
  have e2 : l.toArray.extract 0 l.length = l.toArray := by
   have : l.length = l.toArray.size := by simp
   rw [this]; exact Array.extract_size
  rw [e1, e2] at this
  exact this
 ·rw [List.pairwise_iff_getElem]
  intro i j hi hj hij
  have hsz : r.size = l.length := by rw [h1.1]; simp
  have := h2 i j (Nat.zero_le _) hij (by rw [← hsz]; simpa using hj)
  rw [getElem!_pos r i (by simpa using hi), getElem!_pos r j (by simpa using hj)] at this
  simpa using this
noncomputable def p_slices_SortFunc_Post_Post_indexOf_2 (v0 : List Post) : Option (List Post) := sortP v0
theorem c_slices_SortFunc_Post_Post_indexOf_2 {r : List Post} (v0 : List Post) (x_v0 : Option Addr × Nat) (n_v0 : Nat) (e_v0 : n_v0 = v0.length) (H : p_slices_SortFunc_Post_Post_indexOf_2 v0 = some r) : Fn' prog 164 #[.slice x_v0.1 n_v0 x_v0.2, .func (.func 165) #[] #[]] [] [tree (.slice x_v0.1 n_v0 x_v0.2) v0] (ι := Unit) (fun _ => .tuple #[]) (fun _ => []) (fun _ => [tree (.slice x_v0.1 n_v0 x_v0.2) r]) := by
 subst e_v0
 have H : sortP v0 = some r := H
 refine Fn'.sortN H ⟨⟨_, func164, by kernel_rfl, by kernel_rfl⟩⟩ fun l' hl => ?_
 obtain ⟨r', h1, h2, h3⟩ := e_SortH l' (by rw [hl]; exact (gd.of H).1)
 refine ⟨r', h2, h3, ?_⟩
 have := c_SortFuncH l' x_v0 l'.length rfl h1
 rw [hl] at this; exact this
noncomputable def p_impl_indexOf_b1 (v0 : (List (List Tag))) (Q13 : (List Post) × Int) (Q27 : (List Post) × Int) : Option (((List Post) × Int) ⊕ ((List Post))) := cond (decide (Q27.2 < ((nth v0 Q13.2.toNat).length : Int))) (gd (ix Q27.2 (nth v0 Q13.2.toNat).length) <| bd (p_slices_IndexFunc_Post_Post_indexOf_1 Q27.1 (nth (nth v0 Q13.2.toNat) Q27.2.toNat)) fun r38 => cond (decide (r38 < 0)) (gd (room (Q27.1.length + 1)) <| gd (ix (Q27.1.length : Int) (Q27.1 ++ [((nth (nth v0 Q13.2.toNat) Q27.2.toNat), ([]))]).length) <| gd (I64 (Q13.2 + 1)) <| gd (room (((nth (Q27.1 ++ [((nth (nth v0 Q13.2.toNat) Q27.2.toNat), ([]))]) ((Q27.1.length : Int).toNat)).2).length + 1)) <| gd (I64 (Q27.2 + 1)) <| some (.inl (((Q27.1 ++ [((nth (nth v0 Q13.2.toNat) Q27.2.toNat), ([]))]).set ((Q27.1.length : Int).toNat) (((nth (Q27.1 ++ [((nth (nth v0 Q13.2.toNat) Q27.2.toNat), ([]))]) ((Q27.1.length : Int).toNat)).1), (((nth (Q27.1 ++ [((nth (nth v0 Q13.2.toNat) Q27.2.toNat), ([]))]) ((Q27.1.length : Int).toNat)).2) ++ [Q13.2 + 1]))), Q27.2 + 1))) (gd (ix r38 Q27.1.length) <| gd (I64 (Q13.2 + 1)) <| gd (room (((nth Q27.1 r38.toNat).2).length + 1)) <| gd (I64 (Q27.2 + 1)) <| some (.inl ((Q27.1.set r38.toNat (((nth Q27.1 r38.toNat).1), (((nth Q27.1 r38.toNat).2) ++ [Q13.2 + 1]))), Q27.2 + 1)))) (some (.inr Q27.1))
noncomputable def p_impl_indexOf_b0 (v0 : (List (List Tag))) (Q13 : (List Post) × Int) : Option (((List Post) × Int) ⊕ ((List Post))) := cond (decide (Q13.2 < (v0.length : Int))) (gd (ix Q13.2 v0.length) <| bd (lp (p_impl_indexOf_b1 v0 Q13) (Q13.1, 0)) fun x23 => gd (I64 (Q13.2 + 1)) <| some (.inl (x23, Q13.2 + 1))) (some (.inr Q13.1))
noncomputable def p_impl_indexOf (v0 : (List (List Tag))) : Option (Index) := bd (p_impl_cloneNames v0) fun r3 => bd (lp (p_impl_indexOf_b0 v0) (([] : List Post), 0)) fun x9 => bd (p_slices_SortFunc_Post_Post_indexOf_2 x9) fun r62 => some (r3, r62)
theorem c_impl_indexOf {r : Index} (v0 : (List (List Tag))) (x_v0 : Option Addr × Nat) (H : p_impl_indexOf v0 = some r) : Fn' prog 116 #[.slice x_v0.1 v0.length x_v0.2] [imm (.slice x_v0.1 v0.length x_v0.2) v0] [] (ι := (Option Addr × Nat) × (Option Addr × Nat)) (fun x => .agg #[.slice x.1.1 r.1.length x.1.2, .slice x.2.1 r.2.length x.2.2]) (fun _ => []) (fun x => [tree (.slice x.1.1 r.1.length x.1.2) r.1, tree (.slice x.2.1 r.2.length x.2.2) r.2]) := by
 refine cof (args := [_]) func116 ntmps116 fun c => ?_
 unfold p_impl_indexOf at H
 refine Tr.openD Ent.z fun X1 => (sr (f1 (e_alloc ty38) fun g2 => (nl (sr (Rg.m rfl (bdo H fun r3 h4 H => (f1 (e_callB (c_impl_cloneNames v0 x_v0 h4) (fun _ => (Solo.tree Solo.nil)) rfl (EntsB.cons (Ent.b (Ent.dimm Ent.z)) EntsB.nil)) fun x5 => (f2 (e_lit0 Post underlying36 ty183) fun a6 c7 => (Rg.p (v := .agg #[.slice x5.1 r3.length x5.2, .slice a6 (([] : List Post).length) c7]) (p_buildS (vs := [(0, .slice x5.1 r3.length x5.2), (1, .slice a6 (([] : List Post).length) c7)]) (cs := #[.slice x5.1 r3.length x5.2, .slice a6 (([] : List Post).length) c7]) ty38 pl38 rfl rfl) ?_)))))))))
 refine f1 (e_alloc ty38) fun g8 => (stb (cs' := [.slice x5.1 r3.length x5.2, .slice a6 (([] : List Post).length) c7]) ty38 Upd.here (nl (Tr.seq (sr (Rg.m rfl (Rg.p (p_len 142 underlying30 rfl) (Rg.m (v := .int .i64 (0)) rfl (nl (bdo H fun x9 hx10 H => (tMidNC (ι := Option Addr × Nat) (fun ψ => [(2, .pointer (some ⟨g2, 0, none⟩)), (3, .pointer (some ⟨g8, 0, none⟩))]) (fun ψ => [box g2 38 [.slice none 0 0, .slice none 0 0], tree (.slice x5.1 r3.length x5.2) r3, tree (.slice ψ.1 x9.length ψ.2) x9, box g8 38 [.slice x5.1 r3.length x5.2, .slice ψ.1 x9.length ψ.2]]) ?_ ?_))))))))))
 ·refine Tr.block (tLoopI hx10 (a6, c7) (fun Q13 _ => [(2, .pointer (some ⟨g2, 0, none⟩)), (3, .pointer (some ⟨g8, 0, none⟩)), (13, .slice x_v0.1 v0.length x_v0.2), (14, .int .i64 ((v0.length : Int))), (15, .int .i64 (Q13.2))]) (fun Q13 z14 => [box g2 38 [.slice none 0 0, .slice none 0 0], tree (.slice x5.1 r3.length x5.2) r3, tree (.slice z14.1 Q13.1.length z14.2) Q13.1, box g8 38 [.slice x5.1 r3.length x5.2, .slice z14.1 Q13.1.length z14.2]]) (.cons dl3 (.cons dl2 (.cons dl1 (.cons Del.here .nil)))) ?_)
  rintro _ Q13 z14 t16 H1 hi17 hb18
  unfold p_impl_indexOf_b0 at H1
  refine sr (Rg.p (p_lss rfl rfl) (nl (Tr.seq (cH H1 rfl (fun h21 H1 => ?_) (fun h21 H1 => ?_)))))
  ·refine tSkip (nT (Tr.seq (Tr.block (sr (Rg.m rfl (gdo H1 fun h22 H1 => (Rg.o (q_ixg underlying30 ty142 rfl rfl h22 rfl (Ent.b (Ent.darr Ent.z))) (Rg.o (q_lde (i := Q13.2.toNat) (j := 0) ty142 rfl (Ent.b (Ent.darr Ent.z)) h22.lt rfl) (Rg.a rfl (Rg.a rfl (nl ?_)))))))))))
   refine sr (Rg.m rfl (Rg.p (p_len 172 underlying142 rfl) (Rg.m (v := .int .i64 (0)) rfl (nl (bdo H1 fun x23 hx24 H1 => (tMidNC (ι := Option Addr × Nat) (fun ψ => [(2, .pointer (some ⟨g2, 0, none⟩)), (3, .pointer (some ⟨g8, 0, none⟩)), (13, .slice x_v0.1 v0.length x_v0.2), (14, .int .i64 ((v0.length : Int))), (15, .int .i64 (Q13.2))]) (fun ψ => [box g2 38 [.slice none 0 0, .slice none 0 0], tree (.slice x5.1 r3.length x5.2) r3, tree (.slice ψ.1 x23.length ψ.2) x23, box g8 38 [.slice x5.1 r3.length x5.2, .slice ψ.1 x23.length ψ.2]]) ?_ ?_))))))
   ·refine Tr.block (tLoopI hx24 (z14.1, z14.2) (fun Q27 _ => [(2, .pointer (some ⟨g2, 0, none⟩)), (3, .pointer (some ⟨g8, 0, none⟩)), (4, .int .i64 (Q13.2)), (13, .slice x_v0.1 v0.length x_v0.2), (14, .int .i64 ((v0.length : Int))), (15, .int .i64 (Q13.2)), (20, .slice ((X1 Q13.2.toNat).1) ((nth v0 Q13.2.toNat).length) ((X1 Q13.2.toNat).2.1)), (21, .int .i64 (((nth v0 Q13.2.toNat).length : Int))), (22, .int .i64 (Q27.2))]) (fun Q27 z28 => [box g2 38 [.slice none 0 0, .slice none 0 0], tree (.slice x5.1 r3.length x5.2) r3, tree (.slice z28.1 Q27.1.length z28.2) Q27.1, box g8 38 [.slice x5.1 r3.length x5.2, .slice z28.1 Q27.1.length z28.2]]) (.cons Del.here (.cons Del.here (.cons Del.here (.cons Del.here .nil)))) ?_)
    rintro _ Q27 z28 t30 H2 hi31 hb32
    unfold p_impl_indexOf_b1 at H2
    refine sr (Rg.p (p_lss rfl rfl) (nl (Tr.seq (cH H2 rfl (fun h35 H2 => ?_) (fun h35 H2 => ?_)))))
    ·refine tSkip (nT (Tr.seq (Tr.block (sr (gdo H2 fun h36 H2 => (Rg.o (q_ixg underlying142 ty172 rfl rfl h36 rfl (EntB.flat (Ent.b (Ent.dimm (Ent.del Ent.z h22.lt))))) (Rg.o (v := .agg #[.string ((nth (nth v0 Q13.2.toNat) Q27.2.toNat).1), .string ((nth (nth v0 Q13.2.toNat) Q27.2.toNat).2)]) (q_ldeA (i := Q27.2.toNat) ty172 rfl (EntB.flat (Ent.b (Ent.dimm (Ent.del Ent.z h22.lt)))) h36.lt) (f1 (e_alloc ty172) fun g37 => (stb (cs' := [.string ((nth (nth v0 Q13.2.toNat) Q27.2.toNat).1), .string ((nth (nth v0 Q13.2.toNat) Q27.2.toNat).2)]) ty172 Upd.here (nl ?_))))))))))
     refine sr (Rg.p (p_fabE fa38_1 rfl rfl) (Rg.o (q_ldb ty36 rfl hs4 rfl) (Rg.p (v := .func (.func 163) #[] #[.pointer (some ⟨g37, 0, none⟩)]) (p_mkfunc (vs := [.pointer (some ⟨g37, 0, none⟩)]) rfl rfl) (bdo H2 fun r38 h39 H2 => (Rg.o (q_callC (c_slices_IndexFunc_Post_Post_indexOf_1 Q27.1 z28 g37 (nth (nth v0 Q13.2.toNat) Q27.2.toNat) h39) (Solo.box Solo.nil) rfl (.cons Del.here .nil) (EntsB.cons (EntB.tree hs2) EntsB.nil)) (Rg.a rfl (nl (Tr.seq (sr (Rg.m rfl (Rg.p (p_lss rfl rfl) (nl ?_))))))))))))
     refine cH H2 rfl (fun h40 H2 => ?_) (fun h40 H2 => ?_)
     ·refine sr (Rg.p (p_fabE fa38_1 rfl rfl) (Rg.o (q_ldb ty36 rfl hs4 rfl) (Rg.p (p_len 183 underlying36 rfl) (Rg.a rfl (nl (Tr.nilT Int (Tr.region (Rg.p (p_fabE fa38_1 rfl rfl) (Rg.o (q_ldb ty36 rfl hs5 rfl) (Rg.o (q_ldbA ty172 rfl hs1 rfl) ?_))))))))))
      refine Rg.p (v := .agg #[.string ((nth (nth v0 Q13.2.toNat) Q27.2.toNat).1), .string ((nth (nth v0 Q13.2.toNat) Q27.2.toNat).2), .slice none 0 0]) (p_buildS (vs := [(0, .agg #[.string ((nth (nth v0 Q13.2.toNat) Q27.2.toNat).1), .string ((nth (nth v0 Q13.2.toNat) Q27.2.toNat).2)])]) (cs := #[.string ((nth (nth v0 Q13.2.toNat) Q27.2.toNat).1), .string ((nth (nth v0 Q13.2.toNat) Q27.2.toNat).2), .slice none 0 0]) ty183 pl183 rfl rfl) (f1 (e_lit (vs := [(0, .agg #[.string ((nth (nth v0 Q13.2.toNat) Q27.2.toNat).1), .string ((nth (nth v0 Q13.2.toNat) Q27.2.toNat).2), .slice none 0 0])]) [.string ((nth (nth v0 Q13.2.toNat) Q27.2.toNat).1), .string ((nth (nth v0 Q13.2.toNat) Q27.2.toNat).2), .slice none 0 0] underlying36 ty183 rfl (by decide) (by decide) (by kernel_rfl)) fun g41 => (gdo H2 fun h44 H2 => (f2 (e_app1 (l := Q27.1) (α := Post) ((nth (nth v0 Q13.2.toNat) Q27.2.toNat), ([])) (((), ()), (none, 0)) underlying36 ty183 rfl rfl (h44.b (by decide)) h44.x rfl (ShpT.wfa _) (.cons dl5 (.cons Del.here (.cons Del.here .nil)))) fun a42 c43 => (Rg.p (p_fabE fa38_1 rfl rfl) (stb (cs' := [.slice x5.1 r3.length x5.2, .slice a42 ((Q27.1 ++ [((nth (nth v0 Q13.2.toNat) Q27.2.toNat), ([]))]).length) c43]) ty36 up4 (nl (gdo H2 fun h45 H2 => (Tr.zoom (k := (Q27.1.length : Int).toNat) h45.lt (.cons Del.here .nil) fun x46 => ?_))))))))
      show Tr _ _ _ _ _ _ _ (hole (.slice a42 ((Q27.1 ++ [((nth (nth v0 Q13.2.toNat) Q27.2.toNat), ([]))]).length) c43) (Q27.1 ++ [((nth (nth v0 Q13.2.toNat) Q27.2.toNat), ([]))]) ((Q27.1.length : Int).toNat) [.string (((nth (Q27.1 ++ [((nth (nth v0 Q13.2.toNat) Q27.2.toNat), ([]))]) ((Q27.1.length : Int).toNat)).1).1), .string (((nth (Q27.1 ++ [((nth (nth v0 Q13.2.toNat) Q27.2.toNat), ([]))]) ((Q27.1.length : Int).toNat)).1).2), .slice x46.2.1 (((nth (Q27.1 ++ [((nth (nth v0 Q13.2.toNat) Q27.2.toNat), ([]))]) ((Q27.1.length : Int).toNat)).2).length) x46.2.2] :: tree (.slice x46.2.1 (((nth (Q27.1 ++ [((nth (nth v0 Q13.2.toNat) Q27.2.toNat), ([]))]) ((Q27.1.length : Int).toNat)).2).length) x46.2.2) ((nth (Q27.1 ++ [((nth (nth v0 Q13.2.toNat) Q27.2.toNat), ([]))]) ((Q27.1.length : Int).toNat)).2) :: _)
      refine tNwS [(8, .int .i64 ((Q27.1.length : Int))), (2, .pointer (some ⟨g2, 0, none⟩)), (3, .pointer (some ⟨g8, 0, none⟩)), (4, .int .i64 (Q13.2)), (13, .slice x_v0.1 v0.length x_v0.2), (14, .int .i64 ((v0.length : Int))), (15, .int .i64 (Q13.2)), (20, .slice ((X1 Q13.2.toNat).1) ((nth v0 Q13.2.toNat).length) ((X1 Q13.2.toNat).2.1)), (21, .int .i64 (((nth v0 Q13.2.toNat).length : Int))), (22, .int .i64 (Q27.2))] 1 [0, 1, 2, 3, 4, 5, 6, 7, 8, 9, 10, 11, 12, 13, 14, 15] [11, 12, 15] [] mixed (by kernel_rfl) (by decide) List.nodup_nil ⟨rfl, rfl, rfl, rfl, rfl, rfl, rfl, rfl, rfl, rfl, trivial⟩ rfl okNil (w_p rfl (p_fabE fa38_1 rfl rfl) ?_)
      refine w_o rfl (fun F => (q_ldb ty36 rfl (hs5.app F) rfl)) (w_p rfl (p_move rfl) (w_p rfl (p_fabE fa38_1 rfl rfl) ?_))
      refine w_o rfl (fun F => (q_ldb ty36 rfl (hs5.app F) rfl)) (w_p rfl (p_move rfl) ?_)
      refine w_o (v := elp a42 (((Q27.1.length : Int).toNat) * Enc.sz Post + 0)) rfl (fun F => (q_ixH (k := (Q27.1.length : Int).toNat) underlying36 ty183 rfl rfl h45 rfl (Has.here.app F))) ?_
      refine w_o (v := elp a42 (((Q27.1.length : Int).toNat) * Enc.sz Post + 2)) rfl (fun F => (q_faH (j := 0) (i := (Q27.1.length : Int).toNat) fa183_1 rfl (Has.here.app F) rfl)) ?_
      refine w_o (v := .slice x46.2.1 (((nth (Q27.1 ++ [((nth (nth v0 Q13.2.toNat) Q27.2.toNat), ([]))]) ((Q27.1.length : Int).toNat)).2).length) x46.2.2) rfl (fun F => (q_ldH (i := (Q27.1.length : Int).toNat) (j := 2) ty23 rfl (Has.here.app F) rfl)) (w_p rfl (p_move rfl) (gdo H2 fun h47 H2 => (w_p rfl (p_add rfl rfl h47) (w_ed rfl (by decide) rfl Rdy.nil rfl (n_lit (vs := [(0, .int .i64 (Q13.2 + 1))]) [.int .i64 (Q13.2 + 1)] underlying23 ty3 rfl (by decide) (by decide) (by kernel_rfl)) ?_))))
      rintro _ _ _ ⟨g48, rfl, rfl, rfl⟩
      refine ⟨(PdOk.q rfl rfl (fun F => (q_ldH (i := (Q27.1.length : Int).toNat) (j := 2) ty23 rfl (hs1.app F) rfl)) (PdOk.q rfl rfl (fun F => (q_faH (j := 0) (i := (Q27.1.length : Int).toNat) fa183_1 rfl (hs1.app F) rfl)) (PdOk.q rfl rfl (fun F => (q_ixH (k := (Q27.1.length : Int).toNat) underlying36 ty183 rfl rfl h45 rfl (hs1.app F))) (PdOk.q rfl rfl (fun F => (q_ldb ty36 rfl ((hs5t hs1).app F) rfl)) (PdOk.q rfl rfl (fun F => (q_ldb ty36 rfl ((hs5t hs1).app F) rfl)) PdOk.nil))))), ?_⟩
      refine gdo H2 fun h51 H2 => (w_ed rfl (by decide) rfl Rdy.nil rfl (n_app1 (l := (nth (Q27.1 ++ [((nth (nth v0 Q13.2.toNat) Q27.2.toNat), ([]))]) ((Q27.1.length : Int).toNat)).2) (α := Int) (Q13.2 + 1) () underlying23 ty3 rfl rfl (h51.b (by decide)) h51.x rfl (ShpT.wfa _) (.cons dl2 (.cons Del.here .nil))) ?_)
      rintro _ _ _ ⟨a49, c50, rfl, rfl, rfl⟩
      refine ⟨(PdOk.anc (by kernel_rfl) (PdOk.q rfl rfl (fun F => (q_faH (j := 0) (i := (Q27.1.length : Int).toNat) fa183_1 rfl (hs1.app F) rfl)) (PdOk.q rfl rfl (fun F => (q_ixH (k := (Q27.1.length : Int).toNat) underlying36 ty183 rfl rfl h45 rfl (hs1.app F))) (PdOk.q rfl rfl (fun F => (q_ldb ty36 rfl (hs5.app F) rfl)) (PdOk.q rfl rfl (fun F => (q_ldb ty36 rfl (hs5.app F) rfl)) PdOk.nil))))), ?_⟩
      refine w_o (v := elp a42 (((Q27.1.length : Int).toNat) * Enc.sz Post + 0)) rfl (fun F => (q_ixH (k := (Q27.1.length : Int).toNat) underlying36 ty183 rfl rfl h45 rfl (hs1.app F))) ?_
      refine w_o (v := elp a42 (((Q27.1.length : Int).toNat) * Enc.sz Post + 2)) rfl (fun F => (q_faH (j := 0) (i := (Q27.1.length : Int).toNat) fa183_1 rfl (hs1.app F) rfl)) (w_en rfl rfl Rdy.nil rfl (n_stH (v := .slice a49 ((((nth (Q27.1 ++ [((nth (nth v0 Q13.2.toNat) Q27.2.toNat), ([]))]) ((Q27.1.length : Int).toNat)).2) ++ [Q13.2 + 1]).length) c50) (i := (Q27.1.length : Int).toNat) (j := 2) (cs' := [.string (((nth (Q27.1 ++ [((nth (nth v0 Q13.2.toNat) Q27.2.toNat), ([]))]) ((Q27.1.length : Int).toNat)).1).1), .string (((nth (Q27.1 ++ [((nth (nth v0 Q13.2.toNat) Q27.2.toNat), ([]))]) ((Q27.1.length : Int).toNat)).1).2), .slice a49 ((((nth (Q27.1 ++ [((nth (nth v0 Q13.2.toNat) Q27.2.toNat), ([]))]) ((Q27.1.length : Int).toNat)).2) ++ [Q13.2 + 1]).length) c50]) ty23 rfl rfl (.cons dl1 .nil) rfl (one_of rfl) (Nat.le_of_ble_eq_true rfl) rfl rfl) ?_)
      rintro _ _ _ ⟨rfl, rfl, rfl⟩
      refine ⟨(PdOk.anc (by kernel_rfl) (PdOk.q rfl rfl (fun F => (q_ixH (k := (Q27.1.length : Int).toNat) underlying36 ty183 rfl rfl h45 rfl (Has.here.app F))) (PdOk.anc (by kernel_rfl) (PdOk.anc (by kernel_rfl) (PdOk.anc (by kernel_rfl) (PdOk.anc (by kernel_rfl) (PdOk.anc (by kernel_rfl) PdOk.nil))))))), ?_⟩
      refine w_nil ?_
      show At _ _ _ _ _ _
      refine nB (nT (Tr.region (gdo H2 fun h52 H2 => (Rg.p (p_add rfl rfl h52) (Rg.m rfl (Rg.nl (At.unzoom (((nth (Q27.1 ++ [((nth (nth v0 Q13.2.toNat) Q27.2.toNat), ([]))]) ((Q27.1.length : Int).toNat)).1), (((nth (Q27.1 ++ [((nth (nth v0 Q13.2.toNat) Q27.2.toNat), ([]))]) ((Q27.1.length : Int).toNat)).2) ++ [Q13.2 + 1])) (((), ()), (a49, c50)) rfl (.cons Del.here (.cons Del.here .nil)) ?_)))))))
      refine At.olen Has.here fun hn => ?_; rw [hn]
      exact nLI (a42, c43) (hi31 _ (sm H2)) (.cons dl2 (.cons dl2 (.cons Del.here (.cons dl1 .nil))))
     ·refine tSkip (nT (gdo H2 fun h53 H2 => (Tr.zoom (k := r38.toNat) h53.lt (.cons dl3 .nil) fun x54 => ?_)))
      show Tr _ _ _ _ _ _ _ (hole (.slice z28.1 Q27.1.length z28.2) Q27.1 r38.toNat [.string (((nth Q27.1 r38.toNat).1).1), .string (((nth Q27.1 r38.toNat).1).2), .slice x54.2.1 (((nth Q27.1 r38.toNat).2).length) x54.2.2] :: tree (.slice x54.2.1 (((nth Q27.1 r38.toNat).2).length) x54.2.2) ((nth Q27.1 r38.toNat).2) :: _)
      refine tNwS [(8, .int .i64 (r38)), (2, .pointer (some ⟨g2, 0, none⟩)), (3, .pointer (some ⟨g8, 0, none⟩)), (4, .int .i64 (Q13.2)), (13, .slice x_v0.1 v0.length x_v0.2), (14, .int .i64 ((v0.length : Int))), (15, .int .i64 (Q13.2)), (20, .slice ((X1 Q13.2.toNat).1) ((nth v0 Q13.2.toNat).length) ((X1 Q13.2.toNat).2.1)), (21, .int .i64 (((nth v0 Q13.2.toNat).length : Int))), (22, .int .i64 (Q27.2))] 1 [0, 1, 2, 3, 4, 5, 6, 7, 8, 9, 10, 11, 12, 13, 14, 15] [11, 12, 15] [] mixed (by kernel_rfl) (by decide) List.nodup_nil ⟨rfl, rfl, rfl, rfl, rfl, rfl, rfl, rfl, rfl, rfl, trivial⟩ rfl okNil (w_p rfl (p_fabE fa38_1 rfl rfl) ?_)
      refine w_o rfl (fun F => (q_ldb ty36 rfl (hs5.app F) rfl)) (w_p rfl (p_move rfl) (w_p rfl (p_fabE fa38_1 rfl rfl) ?_))
      refine w_o rfl (fun F => (q_ldb ty36 rfl (hs5.app F) rfl)) (w_p rfl (p_move rfl) ?_)
      refine w_o (v := elp z28.1 (r38.toNat * Enc.sz Post + 0)) rfl (fun F => (q_ixH (k := r38.toNat) underlying36 ty183 rfl rfl h53 rfl (Has.here.app F))) ?_
      refine w_o (v := elp z28.1 (r38.toNat * Enc.sz Post + 2)) rfl (fun F => (q_faH (j := 0) (i := r38.toNat) fa183_1 rfl (Has.here.app F) rfl)) ?_
      refine w_o (v := .slice x54.2.1 (((nth Q27.1 r38.toNat).2).length) x54.2.2) rfl (fun F => (q_ldH (i := r38.toNat) (j := 2) ty23 rfl (Has.here.app F) rfl)) (w_p rfl (p_move rfl) (gdo H2 fun h55 H2 => (w_p rfl (p_add rfl rfl h55) (w_ed rfl (by decide) rfl Rdy.nil rfl (n_lit (vs := [(0, .int .i64 (Q13.2 + 1))]) [.int .i64 (Q13.2 + 1)] underlying23 ty3 rfl (by decide) (by decide) (by kernel_rfl)) ?_))))
      rintro _ _ _ ⟨g56, rfl, rfl, rfl⟩
      refine ⟨(PdOk.q rfl rfl (fun F => (q_ldH (i := r38.toNat) (j := 2) ty23 rfl (hs1.app F) rfl)) (PdOk.q rfl rfl (fun F => (q_faH (j := 0) (i := r38.toNat) fa183_1 rfl (hs1.app F) rfl)) (PdOk.q rfl rfl (fun F => (q_ixH (k := r38.toNat) underlying36 ty183 rfl rfl h53 rfl (hs1.app F))) (PdOk.q rfl rfl (fun F => (q_ldb ty36 rfl ((hs5t hs1).app F) rfl)) (PdOk.q rfl rfl (fun F => (q_ldb ty36 rfl ((hs5t hs1).app F) rfl)) PdOk.nil))))), ?_⟩
      refine gdo H2 fun h59 H2 => (w_ed rfl (by decide) rfl Rdy.nil rfl (n_app1 (l := (nth Q27.1 r38.toNat).2) (α := Int) (Q13.2 + 1) () underlying23 ty3 rfl rfl (h59.b (by decide)) h59.x rfl (ShpT.wfa _) (.cons dl2 (.cons Del.here .nil))) ?_)
      rintro _ _ _ ⟨a57, c58, rfl, rfl, rfl⟩
      refine ⟨(PdOk.anc (by kernel_rfl) (PdOk.q rfl rfl (fun F => (q_faH (j := 0) (i := r38.toNat) fa183_1 rfl (hs1.app F) rfl)) (PdOk.q rfl rfl (fun F => (q_ixH (k := r38.toNat) underlying36 ty183 rfl rfl h53 rfl (hs1.app F))) (PdOk.q rfl rfl (fun F => (q_ldb ty36 rfl (hs5.app F) rfl)) (PdOk.q rfl rfl (fun F => (q_ldb ty36 rfl (hs5.app F) rfl)) PdOk.nil))))), ?_⟩
      refine w_o (v := elp z28.1 (r38.toNat * Enc.sz Post + 0)) rfl (fun F => (q_ixH (k := r38.toNat) underlying36 ty183 rfl rfl h53 rfl (hs1.app F))) ?_
      refine w_o (v := elp z28.1 (r38.toNat * Enc.sz Post + 2)) rfl (fun F => (q_faH (j := 0) (i := r38.toNat) fa183_1 rfl (hs1.app F) rfl)) (w_en rfl rfl Rdy.nil rfl (n_stH (v := .slice a57 ((((nth Q27.1 r38.toNat).2) ++ [Q13.2 + 1]).length) c58) (i := r38.toNat) (j := 2) (cs' := [.string (((nth Q27.1 r38.toNat).1).1), .string (((nth Q27.1 r38.toNat).1).2), .slice a57 ((((nth Q27.1 r38.toNat).2) ++ [Q13.2 + 1]).length) c58]) ty23 rfl rfl (.cons dl1 .nil) rfl (one_of rfl) (Nat.le_of_ble_eq_true rfl) rfl rfl) ?_)
      rintro _ _ _ ⟨rfl, rfl, rfl⟩
      refine ⟨(PdOk.anc (by kernel_rfl) (PdOk.q rfl rfl (fun F => (q_ixH (k := r38.toNat) underlying36 ty183 rfl rfl h53 rfl (Has.here.app F))) (PdOk.anc (by kernel_rfl) (PdOk.anc (by kernel_rfl) (PdOk.anc (by kernel_rfl) (PdOk.anc (by kernel_rfl) (PdOk.anc (by kernel_rfl) PdOk.nil))))))), ?_⟩
      refine w_nil ?_
      show At _ _ _ _ _ _
      refine nB (nT (Tr.region (gdo H2 fun h60 H2 => (Rg.p (p_add rfl rfl h60) (Rg.m rfl (Rg.nl (At.unzoom (((nth Q27.1 r38.toNat).1), (((nth Q27.1 r38.toNat).2) ++ [Q13.2 + 1])) (((), ()), (a57, c58)) rfl (.cons Del.here (.cons Del.here .nil)) ?_)))))))
      refine At.olen Has.here fun hn => ?_; rw [hn]
      exact nLI (z28.1, z28.2) (hi31 _ (sm H2)) (.cons dl2 (.cons dl2 (.cons Del.here (.cons dl1 .nil))))
    ·refine tExit (xT (xT (xE (?_))))
     obtain rfl := hb32 _ (sm H2)
     exact nMC (z28.1, z28.2) ⟨rfl, rfl, rfl, rfl, rfl, trivial⟩ Ents.refl (.cons Del.here (.cons Del.here (.cons Del.here (.cons Del.here .nil))))
   ·intro y29
    show At _ _ [(2, .pointer (some ⟨g2, 0, none⟩)), (3, .pointer (some ⟨g8, 0, none⟩)), (13, .slice x_v0.1 v0.length x_v0.2), (14, .int .i64 ((v0.length : Int))), (15, .int .i64 (Q13.2))] _ [box g2 38 [.slice none 0 0, .slice none 0 0], tree (.slice x5.1 r3.length x5.2) r3, tree (.slice y29.1 x23.length y29.2) x23, box g8 38 [.slice x5.1 r3.length x5.2, .slice y29.1 x23.length y29.2]] _
    exact nB (nT (Tr.region (gdo H1 fun h61 H1 => (Rg.p (p_add rfl rfl h61) (Rg.m rfl (Rg.nl (nLI (y29.1, y29.2) (hi17 _ (sm H1)) (.cons Del.here (.cons Del.here (.cons Del.here (.cons Del.here .nil)))))))))))
  ·refine tExit (xT (xT (xE (?_))))
   obtain rfl := hb18 _ (sm H1)
   exact nMC (z14.1, z14.2) ⟨rfl, rfl, trivial⟩ Ents.refl (.cons Del.here (.cons Del.here (.cons Del.here (.cons Del.here .nil))))
 ·intro y15
  show At _ _ [(2, .pointer (some ⟨g2, 0, none⟩)), (3, .pointer (some ⟨g8, 0, none⟩))] _ [box g2 38 [.slice none 0 0, .slice none 0 0], tree (.slice x5.1 r3.length x5.2) r3, tree (.slice y15.1 x9.length y15.2) x9, box g8 38 [.slice x5.1 r3.length x5.2, .slice y15.1 x9.length y15.2]] _
  refine nT (sr (Rg.p (p_fabE fa38_1 rfl rfl) (Rg.o (q_ldb ty36 rfl hs3 rfl) (bdo H fun r62 h63 H => (f1 (e_callM (c_slices_SortFunc_Post_Post_indexOf_2 x9 y15 x9.length rfl h63) (Solo.tree Solo.nil) (fun _ => (Solo.tree Solo.nil)) rfl (.cons dl2 .nil) EntsB.nil) fun u64 => (nl (Tr.seq ?_)))))))
  refine Tr.olen Has.here fun hn => ?_; rw [hn]
  refine Tr.region (Rg.o (q_ldbA ty38 rfl hs3 rfl) (stb (cs' := [.slice x5.1 r3.length x5.2, .slice y15.1 r62.length y15.2]) ty38 up1 (nl (tRet ?_))))
  obtain rfl := si H
  exact back1 (x5, y15) rfl (ResV.agg ty38 rfl hs1 rfl) rfl Ents.nil (.cons dl2 (.cons Del.here .nil))
noncomputable def p_impl_clonePart_b0 (v0 : Part) (Q16 : (List (List Row)) × Int) : Option (((List (List Row)) × Int) ⊕ ((List (List Row)))) := cond (decide (Q16.2 < (v0.2.length : Int))) (gd (ix Q16.2 v0.2.length) <| gd (room (([] : List Row).length + (nth v0.2 Q16.2.toNat).length)) <| gd (room (Q16.1.length + 1)) <| gd (I64 (Q16.2 + 1)) <| some (.inl ((Q16.1 ++ [([] : List Row) ++ (nth v0.2 Q16.2.toNat)]), Q16.2 + 1))) (some (.inr Q16.1))
noncomputable def p_impl_clonePart (v0 : Part) : Option (Part) := gd (room (([] : List Int).length + v0.1.length)) <| bd (lp (p_impl_clonePart_b0 v0) (([] : List (List Row)), 0)) fun x12 => some ((([] : List Int) ++ v0.1), x12)
theorem c_impl_clonePart {r : Part} (v0 : Part) (x_v0 : (Option Addr × Nat) × (Option Addr × Nat)) (H : p_impl_clonePart v0 = some r) : Fn' prog 117 #[.agg #[.slice x_v0.1.1 v0.1.length x_v0.1.2, .slice x_v0.2.1 v0.2.length x_v0.2.2]] [imm (.slice x_v0.1.1 v0.1.length x_v0.1.2) v0.1, imm (.slice x_v0.2.1 v0.2.length x_v0.2.2) v0.2] [] (ι := (Option Addr × Nat) × (Option Addr × Nat)) (fun x => .agg #[.slice x.1.1 r.1.length x.1.2, .slice x.2.1 r.2.length x.2.2]) (fun _ => []) (fun x => [tree (.slice x.1.1 r.1.length x.1.2) r.1, tree (.slice x.2.1 r.2.length x.2.2) r.2]) := by
 refine cof (args := [_]) func117 ntmps117 fun c => ?_
 unfold p_impl_clonePart at H
 refine Tr.openD Ent.z.s fun X1 => (sr (f1 (e_box (t := 75) rfl) fun g2 => (f1 (e_alloc ty75) fun g3 => (nl (sr (f2 (e_lit0 Int underlying23 ty3) fun a4 c5 => (Rg.p (p_fabE fa75_0 rfl rfl) (Rg.o (q_ldb ty23 rfl hs2 rfl) (gdo H fun h8 H => ?_)))))))))
 refine f2 (e_appF (l := ([] : List Int)) (k := v0.1) (α := Int) underlying23 ty3 rfl rfl (h8.b (by decide)) h8.x (.cons Del.here .nil) (Ent.b Ent.z.s)) fun a6 c7 => (f2 (e_lit0 (List Row) underlying73 ty130) fun a9 c10 => (Rg.p (v := .agg #[.slice a6 ((([] : List Int) ++ v0.1).length) c7, .slice a9 (([] : List (List Row)).length) c10]) (p_buildS (vs := [(0, .slice a6 ((([] : List Int) ++ v0.1).length) c7), (1, .slice a9 (([] : List (List Row)).length) c10)]) (cs := #[.slice a6 ((([] : List Int) ++ v0.1).length) c7, .slice a9 (([] : List (List Row)).length) c10]) ty75 pl75 rfl rfl) (f1 (e_alloc ty75) fun g11 => (stb (cs' := [.slice a6 ((([] : List Int) ++ v0.1).length) c7, .slice a9 (([] : List (List Row)).length) c10]) ty75 Upd.here (nl (Tr.seq (sr (Rg.p (p_fabE fa75_1 rfl rfl) (Rg.o (q_ldb ty73 rfl hs4 rfl) (Rg.p (p_len 130 underlying73 rfl) ?_))))))))))
 refine Rg.m (v := .int .i64 (0)) rfl (nl (bdo H fun x12 hx13 H => (tMidNC (ι := Option Addr × Nat) (fun ψ => [(2, .pointer (some ⟨g3, 0, none⟩)), (3, .pointer (some ⟨g11, 0, none⟩))]) (fun ψ => [box g3 75 [.slice none 0 0, .slice none 0 0], tree (.slice a6 ((([] : List Int) ++ v0.1).length) c7) (([] : List Int) ++ v0.1), tree (.slice ψ.1 x12.length ψ.2) x12, box g11 75 [.slice a6 ((([] : List Int) ++ v0.1).length) c7, .slice ψ.1 x12.length ψ.2]]) ?_ ?_)))
 ·refine Tr.block (tLoopI hx13 (a9, c10) (fun Q16 _ => [(2, .pointer (some ⟨g3, 0, none⟩)), (3, .pointer (some ⟨g11, 0, none⟩)), (13, .slice x_v0.2.1 v0.2.length x_v0.2.2), (14, .int .i64 ((v0.2.length : Int))), (15, .int .i64 (Q16.2))]) (fun Q16 z17 => [box g3 75 [.slice none 0 0, .slice none 0 0], tree (.slice a6 ((([] : List Int) ++ v0.1).length) c7) (([] : List Int) ++ v0.1), tree (.slice z17.1 Q16.1.length z17.2) Q16.1, box g11 75 [.slice a6 ((([] : List Int) ++ v0.1).length) c7, .slice z17.1 Q16.1.length z17.2]]) (.cons dl3 (.cons dl2 (.cons dl1 (.cons Del.here .nil)))) ?_)
  rintro _ Q16 z17 t19 H1 hi20 hb21
  unfold p_impl_clonePart_b0 at H1
  refine sr (Rg.p (p_lss rfl rfl) (nl (Tr.seq (cH H1 rfl (fun h24 H1 => ?_) (fun h24 H1 => ?_)))))
  ·refine tSkip (nT (Tr.seq (Tr.block (sr (gdo H1 fun h25 H1 => (Rg.o (q_ixg underlying73 ty130 rfl rfl h25 rfl (Ent.b (Ent.darr Ent.z))) (Rg.o (q_lde (i := Q16.2.toNat) (j := 0) ty130 rfl (Ent.b (Ent.darr Ent.z)) h25.lt rfl) (Rg.a rfl (nl (tNwS [(5, .slice ((X1 Q16.2.toNat).1) ((nth v0.2 Q16.2.toNat).length) ((X1 Q16.2.toNat).2.1)), (2, .pointer (some ⟨g3, 0, none⟩)), (3, .pointer (some ⟨g11, 0, none⟩)), (13, .slice x_v0.2.1 v0.2.length x_v0.2.2), (14, .int .i64 ((v0.2.length : Int))), (15, .int .i64 (Q16.2))] 2 [0, 1, 3, 2, 4, 5, 6, 7, 8] [2, 4, 5, 6, 8] [] mixed (by kernel_rfl) (by decide) List.nodup_nil ⟨rfl, rfl, rfl, rfl, rfl, rfl, trivial⟩ rfl okNil (w_p rfl (p_fabE fa75_1 rfl rfl) ?_)))))))))))
   refine w_o rfl (fun F => (q_ldb ty73 rfl (hs3.app F) rfl)) (w_p rfl (p_move rfl) (w_ed rfl (by decide) rfl Rdy.nil rfl (n_lit0 Row underlying130 ty135) ?_))
   rintro _ _ _ ⟨a26, c27, rfl, rfl, rfl⟩
   refine ⟨(PdOk.q rfl rfl (fun F => (q_ldb ty73 rfl (hs4.app F) rfl)) PdOk.nil), ?_⟩
   refine gdo H1 fun h30 H1 => (w_ed rfl (by decide) rfl Rdy.nil rfl (n_appF (l := ([] : List Row)) (k := nth v0.2 Q16.2.toNat) (α := Row) underlying130 ty135 rfl rfl (h30.b (by decide)) h30.x (.cons Del.here .nil) (Ent.b (Ent.dimm (Ent.del Ent.z h25.lt)))) ?_)
   rintro _ _ _ ⟨a28, c29, rfl, rfl, rfl⟩
   refine ⟨(PdOk.q rfl rfl (fun F => (q_ldb ty73 rfl (hs4.app F) rfl)) PdOk.nil), ?_⟩
   refine w_ed rfl (by decide) rfl Rdy.nil rfl (n_lit (vs := [(0, .slice a28 ((([] : List Row) ++ (nth v0.2 Q16.2.toNat)).length) c29)]) [.slice a28 ((([] : List Row) ++ (nth v0.2 Q16.2.toNat)).length) c29] underlying73 ty130 rfl (by decide) (by decide) (by kernel_rfl)) ?_
   rintro _ _ _ ⟨g31, rfl, rfl, rfl⟩
   refine ⟨(PdOk.q rfl rfl (fun F => (q_ldb ty73 rfl (hs5.app F) rfl)) PdOk.nil), ?_⟩
   refine gdo H1 fun h34 H1 => (w_ed rfl (by decide) rfl Rdy.nil rfl (n_app1 (l := Q16.1) (α := (List Row)) (([] : List Row) ++ (nth v0.2 Q16.2.toNat)) (a28, c29) underlying73 ty130 rfl rfl (h34.b (by decide)) h34.x rfl (ShpT.wfa _) (.cons dl4 (.cons Del.here (.cons Del.here .nil)))) ?_)
   rintro _ _ _ ⟨a32, c33, rfl, rfl, rfl⟩
   refine ⟨(PdOk.anc (by kernel_rfl) PdOk.nil), ?_⟩
   refine w_p rfl (p_fabE fa75_1 rfl rfl) (w_en rfl rfl Rdy.nil rfl (n_store (cs' := [.slice a6 ((([] : List Int) ++ v0.1).length) c7, .slice a32 ((Q16.1 ++ [([] : List Row) ++ (nth v0.2 Q16.2.toNat)]).length) c33]) ty73 rfl rfl up3 rfl (one_of rfl) (Nat.le_of_ble_eq_true rfl) rfl) ?_)
   rintro _ _ _ ⟨rfl, rfl, rfl⟩
   refine ⟨(PdOk.anc (by kernel_rfl) PdOk.nil), ?_⟩
   refine w_nil ?_
   show At _ _ _ _ _ _
   exact nB (nT (Tr.region (gdo H1 fun h35 H1 => (Rg.p (p_add rfl rfl h35) (Rg.m rfl (Rg.nl (nLI (a32, c33) (hi20 _ (sm H1)) (.cons dl1 (.cons dl1 (.cons Del.here (.cons Del.here .nil)))))))))))
  ·refine tExit (xT (xT (xE (?_))))
   obtain rfl := hb21 _ (sm H1)
   exact nMC (z17.1, z17.2) ⟨rfl, rfl, trivial⟩ Ents.refl (.cons Del.here (.cons Del.here (.cons Del.here (.cons Del.here .nil))))
 ·intro y18
  show At _ _ [(2, .pointer (some ⟨g3, 0, none⟩)), (3, .pointer (some ⟨g11, 0, none⟩))] _ [box g3 75 [.slice none 0 0, .slice none 0 0], tree (.slice a6 ((([] : List Int) ++ v0.1).length) c7) (([] : List Int) ++ v0.1), tree (.slice y18.1 x12.length y18.2) x12, box g11 75 [.slice a6 ((([] : List Int) ++ v0.1).length) c7, .slice y18.1 x12.length y18.2]] _
  refine nT (sr (Rg.o (q_ldbA ty75 rfl hs3 rfl) (stb (cs' := [.slice a6 ((([] : List Int) ++ v0.1).length) c7, .slice y18.1 x12.length y18.2]) ty75 Upd.here (nl (tRet ?_)))))
  obtain rfl := si H
  exact back1 ((a6, c7), y18) rfl (ResV.agg ty75 rfl Has.here rfl) rfl Ents.nil (.cons dl1 (.cons dl1 .nil))
noncomputable def p_impl_Disk_open_b0 (v0 : Disk) (Q17 : (List Part) × Int) : Option (((List Part) × Int) ⊕ ((List Part))) := cond (decide (Q17.2 < (v0.2.1.length : Int))) (gd (ix Q17.2 v0.2.1.length) <| bd (p_impl_Disk_file v0 (nth v0.2.1 Q17.2.toNat)) fun r27 => gd (ix r27 v0.1.length) <| bd (p_impl_clonePart ((nth v0.1 r27.toNat).2)) fun r30 => gd (room (Q17.1.length + 1)) <| gd (I64 (Q17.2 + 1)) <| some (.inl ((Q17.1 ++ [r30]), Q17.2 + 1))) (some (.inr Q17.1))
noncomputable def p_impl_Disk_open (v0 : Disk) : Option (Store) := bd (p_impl_indexOf v0.2.2.1) fun r5 => bd (lp (p_impl_Disk_open_b0 v0) (([] : List Part), 0)) fun x13 => some (r5, x13, ([] : List Sample))
theorem c_impl_Disk_open {r : Store} (v0 : Disk) (x_v0 : (Option Addr × Nat) × (Option Addr × Nat) × (Option Addr × Nat) × Unit) (H : p_impl_Disk_open v0 = some r) : Fn' prog 52 #[.agg #[.slice x_v0.1.1 v0.1.length x_v0.1.2, .slice x_v0.2.1.1 v0.2.1.length x_v0.2.1.2, .slice x_v0.2.2.1.1 v0.2.2.1.length x_v0.2.2.1.2, .int .i64 (v0.2.2.2)]] [imm (.slice x_v0.1.1 v0.1.length x_v0.1.2) v0.1, imm (.slice x_v0.2.1.1 v0.2.1.length x_v0.2.1.2) v0.2.1, imm (.slice x_v0.2.2.1.1 v0.2.2.1.length x_v0.2.2.1.2) v0.2.2.1] [] (ι := ((Option Addr × Nat) × (Option Addr × Nat)) × (Option Addr × Nat) × (Option Addr × Nat)) (fun x => .agg #[.slice x.1.1.1 r.1.1.length x.1.1.2, .slice x.1.2.1 r.1.2.length x.1.2.2, .slice x.2.1.1 r.2.1.length x.2.1.2, .slice x.2.2.1 r.2.2.length x.2.2.2]) (fun _ => []) (fun x => [tree (.slice x.1.1.1 r.1.1.length x.1.1.2) r.1.1, tree (.slice x.1.2.1 r.1.2.length x.1.2.2) r.1.2, tree (.slice x.2.1.1 r.2.1.length x.2.1.2) r.2.1, tree (.slice x.2.2.1 r.2.2.length x.2.2.2) r.2.2]) := by
 refine cof (args := [_]) func52 ntmps52 fun c => ?_
 unfold p_impl_Disk_open at H
 refine Tr.openD Ent.z fun X1 => (Tr.openD Ent.z.s.s.s fun X2 => (sr (f1 (e_box (t := 32) rfl) fun g3 => (f1 (e_alloc ty42) fun g4 => (nl (sr (Rg.p (p_fabE fa32_2 rfl rfl) (Rg.o (q_ldb ty30 rfl hs1 rfl) (bdo H fun r5 h6 H => ?_)))))))))
 refine f1 (e_callB (c_impl_indexOf v0.2.2.1 x_v0.2.2.1 h6) (fun _ => (Solo.tree (Solo.tree Solo.nil))) rfl (EntsB.cons (Ent.b (Ent.dimm Ent.z)) EntsB.nil)) fun x7 => (f2 (e_lit0 Part underlying39 ty75) fun a8 c9 => (f2 (e_lit0 Sample underlying40 ty137) fun a10 c11 => (Rg.p (v := .agg #[.slice x7.1.1 r5.1.length x7.1.2, .slice x7.2.1 r5.2.length x7.2.2, .slice a8 (([] : List Part).length) c9, .slice a10 (([] : List Sample).length) c11]) (p_buildS (vs := [(0, .agg #[.slice x7.1.1 r5.1.length x7.1.2, .slice x7.2.1 r5.2.length x7.2.2]), (1, .slice a8 (([] : List Part).length) c9), (2, .slice a10 (([] : List Sample).length) c11)]) (cs := #[.slice x7.1.1 r5.1.length x7.1.2, .slice x7.2.1 r5.2.length x7.2.2, .slice a8 (([] : List Part).length) c9, .slice a10 (([] : List Sample).length) c11]) ty42 pl42 rfl rfl) (f1 (e_alloc ty42) fun g12 => (stb (cs' := [.slice x7.1.1 r5.1.length x7.1.2, .slice x7.2.1 r5.2.length x7.2.2, .slice a8 (([] : List Part).length) c9, .slice a10 (([] : List Sample).length) c11]) ty42 Upd.here (nl (Tr.seq (sr (Rg.p (p_fabE fa32_1 rfl rfl) (Rg.o (q_ldb ty23 rfl (hs5t hs1) rfl) ?_))))))))))
 refine Rg.p (p_len 3 underlying23 rfl) (Rg.m (v := .int .i64 (0)) rfl (nl (bdo H fun x13 hx14 H => (tMidNC (ι := Option Addr × Nat) (fun ψ => [(2, .pointer (some ⟨g4, 0, none⟩)), (3, .pointer (some ⟨g12, 0, none⟩))]) (fun ψ => [box g4 42 [.slice none 0 0, .slice none 0 0, .slice none 0 0, .slice none 0 0], tree (.slice x7.1.1 r5.1.length x7.1.2) r5.1, tree (.slice x7.2.1 r5.2.length x7.2.2) r5.2, tree (.slice ψ.1 x13.length ψ.2) x13, tree (.slice a10 (([] : List Sample).length) c11) ([] : List Sample), box g12 42 [.slice x7.1.1 r5.1.length x7.1.2, .slice x7.2.1 r5.2.length x7.2.2, .slice ψ.1 x13.length ψ.2, .slice a10 (([] : List Sample).length) c11]]) ?_ ?_))))
 ·refine Tr.block (tLoopI hx14 (a8, c9) (fun Q17 _ => [(1, .pointer (some ⟨g3, 0, none⟩)), (2, .pointer (some ⟨g4, 0, none⟩)), (3, .pointer (some ⟨g12, 0, none⟩)), (13, .slice x_v0.2.1.1 v0.2.1.length x_v0.2.1.2), (14, .int .i64 ((v0.2.1.length : Int))), (15, .int .i64 (Q17.2))]) (fun Q17 z18 => [box g3 32 [.slice x_v0.1.1 v0.1.length x_v0.1.2, .slice x_v0.2.1.1 v0.2.1.length x_v0.2.1.2, .slice x_v0.2.2.1.1 v0.2.2.1.length x_v0.2.2.1.2, .int .i64 (v0.2.2.2)], box g4 42 [.slice none 0 0, .slice none 0 0, .slice none 0 0, .slice none 0 0], tree (.slice x7.1.1 r5.1.length x7.1.2) r5.1, tree (.slice x7.2.1 r5.2.length x7.2.2) r5.2, tree (.slice z18.1 Q17.1.length z18.2) Q17.1, tree (.slice a10 (([] : List Sample).length) c11) ([] : List Sample), box g12 42 [.slice x7.1.1 r5.1.length x7.1.2, .slice x7.2.1 r5.2.length x7.2.2, .slice z18.1 Q17.1.length z18.2, .slice a10 (([] : List Sample).length) c11]]) (.cons (dl5t dl1) (.cons dl5 (.cons dl3 (.cons dl3 (.cons dl2 (.cons dl1 (.cons Del.here .nil))))))) ?_)
  rintro _ Q17 z18 t20 H1 hi21 hb22
  unfold p_impl_Disk_open_b0 at H1
  refine sr (Rg.p (p_lss rfl rfl) (nl (Tr.seq (cH H1 rfl (fun h25 H1 => ?_) (fun h25 H1 => ?_)))))
  ·refine tSkip (nT (Tr.seq (Tr.block (sr (gdo H1 fun h26 H1 => (Rg.o (q_ixg underlying23 ty3 rfl rfl h26 rfl (EntB.flat (Ent.b Ent.z.s.s.s))) (Rg.o (q_lde (i := Q17.2.toNat) (j := 0) ty3 rfl (EntB.flat (Ent.b Ent.z.s.s.s)) h26.lt rfl) (Rg.a rfl (nl (tNwS [(5, .int .i64 (nth v0.2.1 Q17.2.toNat)), (1, .pointer (some ⟨g3, 0, none⟩)), (2, .pointer (some ⟨g4, 0, none⟩)), (3, .pointer (some ⟨g12, 0, none⟩)), (13, .slice x_v0.2.1.1 v0.2.1.length x_v0.2.1.2), (14, .int .i64 ((v0.2.1.length : Int))), (15, .int .i64 (Q17.2))] 1 [0, 1, 2, 3, 4, 5, 6, 7, 8, 9, 10, 11, 12, 13, 14] [10, 11, 12, 14] [] mixed (by kernel_rfl) (by decide) List.nodup_nil ⟨rfl, rfl, rfl, rfl, rfl, rfl, rfl, trivial⟩ rfl okNil (w_p rfl (p_fabE fa42_1 rfl rfl) ?_)))))))))))
   refine w_o rfl (fun F => (q_ldb ty39 rfl ((hs5t hs1).app F) rfl)) (w_p rfl (p_fabE fa32_0 rfl rfl) ?_)
   refine w_o rfl (fun F => (q_ldb ty29 rfl (Has.here.app F) rfl)) ?_
   refine w_o rfl (fun F => (q_ldbA ty32 rfl (Has.here.app F) rfl)) (w_p rfl (p_move rfl) (bdo H1 fun r27 h28 H1 => ?_))
   refine w_o rfl (fun F => (q_call (c_impl_Disk_file v0 (x_v0.1, x_v0.2.1, x_v0.2.2.1, ()) (nth v0.2.1 Q17.2.toNat) h28) rfl (EntsB.cons (Ent.b (Ent.dimm Ent.z.s)) (EntsB.cons (Ent.b Ent.z.s.s.s) (EntsB.cons (Ent.b (Ent.dimm Ent.z)) EntsB.nil))))) (gdo H1 fun h29 H1 => ?_)
   refine w_o rfl (fun F => (q_ixg underlying29 ty77 rfl rfl h29 rfl (Ent.b (Ent.darr Ent.z.s)))) ?_
   refine w_o rfl (fun F => (q_faeE (j := 0) r27.toNat fa77_1 rfl (Ent.b (Ent.darr Ent.z.s)) h29.lt rfl)) ?_
   refine w_o (v := .agg #[.slice ((((X1 r27.toNat).2).1).1) ((((nth v0.1 r27.toNat).2).1).length) ((((X1 r27.toNat).2).1).2.1), .slice ((((X1 r27.toNat).2).2).1) ((((nth v0.1 r27.toNat).2).2).length) ((((X1 r27.toNat).2).2).2.1)]) rfl (fun F => (q_ldeP [.slice ((((X1 r27.toNat).2).1).1) ((((nth v0.1 r27.toNat).2).1).length) ((((X1 r27.toNat).2).1).2.1), .slice ((((X1 r27.toNat).2).2).1) ((((nth v0.1 r27.toNat).2).2).length) ((((X1 r27.toNat).2).2).2.1)] (l := v0.1) (E := fun i => Dp.denc (nth v0.1 i) (X1 i)) (oa := x_v0.1.1) (i := r27.toNat) (j := 1) ty75 rfl (Ent.b (Ent.darr Ent.z.s)) h29.lt rfl rfl)) (bdo H1 fun r30 h31 H1 => (w_ed rfl (by decide) rfl Rdy.nil rfl (n_callB (c_impl_clonePart ((nth v0.1 r27.toNat).2) (((((X1 r27.toNat).2).1).1, (((X1 r27.toNat).2).1).2.1), ((((X1 r27.toNat).2).2).1, (((X1 r27.toNat).2).2).2.1)) h31) (fun _ => (Solo.tree (Solo.tree Solo.nil))) rfl (EntsB.cons (Ent.b (Ent.dimm (Ent.dfst (Ent.dsnd (Ent.del Ent.z.s h29.lt))))) (EntsB.cons (Ent.b (Ent.dimm (Ent.dsnd (Ent.dsnd (Ent.del Ent.z.s h29.lt))))) EntsB.nil))) ?_))
   rintro _ _ _ ⟨x32, rfl, rfl, rfl⟩
   refine ⟨(PdOk.anc (by kernel_rfl) (PdOk.q rfl rfl (fun F => (q_faeE (j := 0) r27.toNat fa77_1 rfl (Ent.b (Ent.darr Ent.z.s)) h29.lt rfl)) (PdOk.q rfl rfl (fun F => (q_ixg underlying29 ty77 rfl rfl h29 rfl (Ent.b (Ent.darr Ent.z.s)))) (PdOk.anc (by kernel_rfl) (PdOk.q rfl rfl (fun F => (q_ldbA ty32 rfl (hs2.app F) rfl)) (PdOk.q rfl rfl (fun F => (q_ldb ty29 rfl (hs2.app F) rfl)) (PdOk.q rfl rfl (fun F => (q_ldb ty39 rfl ((hs5t hs3).app F) rfl)) PdOk.nil))))))), ?_⟩
   refine w_ed rfl (by decide) rfl Rdy.nil rfl (n_lit (vs := [(0, .agg #[.slice x32.1.1 r30.1.length x32.1.2, .slice x32.2.1 r30.2.length x32.2.2])]) [.slice x32.1.1 r30.1.length x32.1.2, .slice x32.2.1 r30.2.length x32.2.2] underlying39 ty75 rfl (by decide) (by decide) (by kernel_rfl)) ?_
   rintro _ _ _ ⟨g33, rfl, rfl, rfl⟩
   refine ⟨(PdOk.q rfl rfl (fun F => (q_ldeP [.slice ((((X1 r27.toNat).2).1).1) ((((nth v0.1 r27.toNat).2).1).length) ((((X1 r27.toNat).2).1).2.1), .slice ((((X1 r27.toNat).2).2).1) ((((nth v0.1 r27.toNat).2).2).length) ((((X1 r27.toNat).2).2).2.1)] (l := v0.1) (E := fun i => Dp.denc (nth v0.1 i) (X1 i)) (oa := x_v0.1.1) (i := r27.toNat) (j := 1) ty75 rfl (Ent.b (Ent.darr Ent.z.s)) h29.lt rfl rfl)) (PdOk.q rfl rfl (fun F => (q_faeE (j := 0) r27.toNat fa77_1 rfl (Ent.b (Ent.darr Ent.z.s)) h29.lt rfl)) (PdOk.q rfl rfl (fun F => (q_ixg underlying29 ty77 rfl rfl h29 rfl (Ent.b (Ent.darr Ent.z.s)))) (PdOk.q rfl rfl (fun F => (q_call (c_impl_Disk_file v0 (x_v0.1, x_v0.2.1, x_v0.2.2.1, ()) (nth v0.2.1 Q17.2.toNat) h28) rfl (EntsB.cons (Ent.b (Ent.dimm Ent.z.s)) (EntsB.cons (Ent.b Ent.z.s.s.s) (EntsB.cons (Ent.b (Ent.dimm Ent.z)) EntsB.nil))))) (PdOk.q rfl rfl (fun F => (q_ldbA ty32 rfl (hs3.app F) rfl)) (PdOk.q rfl rfl (fun F => (q_ldb ty29 rfl (hs3.app F) rfl)) (PdOk.q rfl rfl (fun F => (q_ldb ty39 rfl ((hs5t hs4).app F) rfl)) PdOk.nil))))))), ?_⟩
   refine gdo H1 fun h36 H1 => (w_ed rfl (by decide) rfl Rdy.nil rfl (n_app1 (l := Q17.1) (α := Part) r30 x32 underlying39 ty75 rfl rfl (h36.b (by decide)) h36.x rfl (ShpT.wfa _) (.cons (dl5t dl2) (.cons Del.here (.cons Del.here (.cons Del.here .nil))))) ?_)
   rintro _ _ _ ⟨a34, c35, rfl, rfl, rfl⟩
   refine ⟨(PdOk.q rfl rfl (fun F => (q_ldeP [.slice ((((X1 r27.toNat).2).1).1) ((((nth v0.1 r27.toNat).2).1).length) ((((X1 r27.toNat).2).1).2.1), .slice ((((X1 r27.toNat).2).2).1) ((((nth v0.1 r27.toNat).2).2).length) ((((X1 r27.toNat).2).2).2.1)] (l := v0.1) (E := fun i => Dp.denc (nth v0.1 i) (X1 i)) (oa := x_v0.1.1) (i := r27.toNat) (j := 1) ty75 rfl (Ent.b (Ent.darr Ent.z.s)) h29.lt rfl rfl)) (PdOk.q rfl rfl (fun F => (q_faeE (j := 0) r27.toNat fa77_1 rfl (Ent.b (Ent.darr Ent.z.s)) h29.lt rfl)) (PdOk.q rfl rfl (fun F => (q_ixg underlying29 ty77 rfl rfl h29 rfl (Ent.b (Ent.darr Ent.z.s)))) (PdOk.q rfl rfl (fun F => (q_call (c_impl_Disk_file v0 (x_v0.1, x_v0.2.1, x_v0.2.2.1, ()) (nth v0.2.1 Q17.2.toNat) h28) rfl (EntsB.cons (Ent.b (Ent.dimm Ent.z.s)) (EntsB.cons (Ent.b Ent.z.s.s.s) (EntsB.cons (Ent.b (Ent.dimm Ent.z)) EntsB.nil))))) (PdOk.q rfl rfl (fun F => (q_ldbA ty32 rfl (hs1.app F) rfl)) (PdOk.q rfl rfl (fun F => (q_ldb ty29 rfl (hs1.app F) rfl)) (PdOk.anc (by kernel_rfl) PdOk.nil))))))), ?_⟩
   refine w_p rfl (p_fabE fa42_1 rfl rfl) (w_en rfl rfl Rdy.nil rfl (n_store (cs' := [.slice x7.1.1 r5.1.length x7.1.2, .slice x7.2.1 r5.2.length x7.2.2, .slice a34 ((Q17.1 ++ [r30]).length) c35, .slice a10 (([] : List Sample).length) c11]) ty39 rfl rfl (up5t up1) rfl (one_of rfl) (Nat.le_of_ble_eq_true rfl) rfl) ?_)
   rintro _ _ _ ⟨rfl, rfl, rfl⟩
   refine ⟨(PdOk.anc (by kernel_rfl) (PdOk.anc (by kernel_rfl) (PdOk.anc (by kernel_rfl) (PdOk.anc (by kernel_rfl) (PdOk.anc (by kernel_rfl) (PdOk.anc (by kernel_rfl) (PdOk.anc (by kernel_rfl) PdOk.nil))))))), ?_⟩
   refine w_nil ?_
   show At _ _ _ _ _ _
   exact nB (nT (Tr.region (gdo H1 fun h37 H1 => (Rg.p (p_add rfl rfl h37) (Rg.m rfl (Rg.nl (nLI (a34, c35) (hi21 _ (sm H1)) (.cons dl1 (.cons dl1 (.cons dl1 (.cons dl1 (.cons Del.here (.cons Del.here (.cons Del.here .nil))))))))))))))
  ·refine tExit (xT (xT (xE (?_))))
   obtain rfl := hb22 _ (sm H1)
   exact nMC (z18.1, z18.2) ⟨rfl, rfl, trivial⟩ Ents.refl (.cons dl1 (.cons dl1 (.cons dl1 (.cons dl1 (.cons dl1 (.cons dl1 .nil))))))
 ·intro y19
  show At _ _ [(2, .pointer (some ⟨g4, 0, none⟩)), (3, .pointer (some ⟨g12, 0, none⟩))] _ [box g4 42 [.slice none 0 0, .slice none 0 0, .slice none 0 0, .slice none 0 0], tree (.slice x7.1.1 r5.1.length x7.1.2) r5.1, tree (.slice x7.2.1 r5.2.length x7.2.2) r5.2, tree (.slice y19.1 x13.length y19.2) x13, tree (.slice a10 (([] : List Sample).length) c11) ([] : List Sample), box g12 42 [.slice x7.1.1 r5.1.length x7.1.2, .slice x7.2.1 r5.2.length x7.2.2, .slice y19.1 x13.length y19.2, .slice a10 (([] : List Sample).length) c11]] _
  refine nT (sr (Rg.o (q_ldbA ty42 rfl hs5 rfl) (stb (cs' := [.slice x7.1.1 r5.1.length x7.1.2, .slice x7.2.1 r5.2.length x7.2.2, .slice y19.1 x13.length y19.2, .slice a10 (([] : List Sample).length) c11]) ty42 Upd.here (nl (tRet ?_)))))
  obtain rfl := si H
  exact back1 (x7, y19, (a10, c11)) rfl (ResV.agg ty42 rfl Has.here rfl) rfl Ents.nil (.cons dl1 (.cons dl1 (.cons dl1 (.cons dl1 .nil))))
noncomputable def p_impl_tagOk (v0 : Tag) : Option (Bool) := bd (cond (decide ((v0.1.size : Int) = 1)) (cond (!sless v0.1 (⟨#[97]⟩ : ByteArray)) (cond ((sless v0.1 (⟨#[100]⟩ : ByteArray) || decide (v0.1 = (⟨#[100]⟩ : ByteArray)))) (cond (decide ((v0.2.size : Int) = 1)) (cond (!sless v0.2 (⟨#[112]⟩ : ByteArray)) (some ((sless v0.2 (⟨#[122]⟩ : ByteArray) || decide (v0.2 = (⟨#[122]⟩ : ByteArray))))) (some (false))) (some (false))) (some (false))) (some (false))) (some (false))) fun b2 => some b2
theorem c_impl_tagOk {r : Bool} (v0 : Tag) (H : p_impl_tagOk v0 = some r) : Fn' prog 196 #[.agg #[.string (v0.1), .string (v0.2)]] [] [] (ι := Unit) (fun _ => .bool (r)) (fun _ => []) (fun _ => []) := by
 refine cof (args := [_]) func196 ntmps196 fun c => ?_
 unfold p_impl_tagOk at H
 refine sr (f1 (e_box (t := 172) rfl) fun g1 => (Rg.a (v := .bool (false)) rfl (nl (bdo H fun b2 j3 H => (tMid1 [(2, .bool (b2))] ?_ ?_)))))
 ·refine tLinT [(1, .pointer (some ⟨g1, 0, none⟩))] ⟨rfl, trivial⟩ (Lin.p (p_fabE fa172_0 rfl rfl) (Lin.o (q_ldb ty9 rfl Has.here rfl) (Lin.p (p_slen underlying9 rfl) (Lin.p (p_eql rfl rfl) ?_))))
  rcases Bool.eq_false_or_eq_true (decide ((v0.1.size : Int) = 1)) with h4 | h4
  ·have j3 := cdT h4 j3
   refine Lin.e_ (p_move rfl) h4 (Lin.h rfl (p_fabE fa172_0 rfl rfl) (Lin.i rfl (q_ldb ty9 rfl Has.here rfl) (Lin.h rfl (p_sgeq rfl rfl) (Lin.p (p_pickT rfl rfl) ?_))))
   rcases Bool.eq_false_or_eq_true (!sless v0.1 (⟨#[97]⟩ : ByteArray)) with h5 | h5
   ·have j3 := cdT h5 j3
    refine Lin.e_ (p_move rfl) h5 (Lin.h rfl (p_fabE fa172_0 rfl rfl) (Lin.i rfl (q_ldb ty9 rfl Has.here rfl) (Lin.h rfl (p_sleq rfl rfl) (Lin.p (p_pickT rfl rfl) ?_))))
    rcases Bool.eq_false_or_eq_true ((sless v0.1 (⟨#[100]⟩ : ByteArray) || decide (v0.1 = (⟨#[100]⟩ : ByteArray)))) with h6 | h6
    ·have j3 := cdT h6 j3
     refine Lin.e_ (p_move rfl) h6 (Lin.h rfl (p_fabE fa172_1 rfl rfl) (Lin.i rfl (q_ldb ty9 rfl Has.here rfl) (Lin.h rfl (p_slen underlying9 rfl) (Lin.h rfl (p_eql rfl rfl) (Lin.p (p_pickT rfl rfl) ?_)))))
     rcases Bool.eq_false_or_eq_true (decide ((v0.2.size : Int) = 1)) with h7 | h7
     ·have j3 := cdT h7 j3
      refine Lin.e_ (p_move rfl) h7 (Lin.h rfl (p_fabE fa172_1 rfl rfl) (Lin.i rfl (q_ldb ty9 rfl Has.here rfl) (Lin.h rfl (p_sgeq rfl rfl) (Lin.p (p_pickT rfl rfl) ?_))))
      rcases Bool.eq_false_or_eq_true (!sless v0.2 (⟨#[112]⟩ : ByteArray)) with h8 | h8
      ·have j3 := cdT h8 j3
       refine Lin.e_ (p_move rfl) h8 (Lin.h rfl (p_fabE fa172_1 rfl rfl) (Lin.i rfl (q_ldb ty9 rfl Has.here rfl) (Lin.h rfl (p_sleq rfl rfl) (Lin.p (p_pickT rfl rfl) (Lin.p (p_assign rfl) ?_)))))
       obtain rfl := si j3
       show At _ _ _ _ _ _
       exact n1 ⟨rfl, trivial⟩
      ·have j3 := cdF h8 j3
       refine Lin.e_ (p_move rfl) h8 ?_
       iterate 3 refine Lin.sk rfl ?_
       refine Lin.p (v := .bool (false)) (p_pickF rfl rfl) (Lin.p (v := .bool (false)) (p_assign rfl) ?_)
       obtain rfl := si j3
       show At _ _ _ _ _ _
       exact n1 ⟨rfl, trivial⟩
     ·have j3 := cdF h7 j3
      refine Lin.e_ (p_move rfl) h7 ?_
      iterate 3 refine Lin.sk rfl ?_
      refine Lin.p (v := .bool (false)) (p_pickF rfl rfl) (Lin.m (v := .bool (false)) rfl ?_)
      iterate 3 refine Lin.sk rfl ?_
      refine Lin.p (v := .bool (false)) (p_pickF rfl rfl) (Lin.p (v := .bool (false)) (p_assign rfl) ?_)
      obtain rfl := si j3
      show At _ _ _ _ _ _
      exact n1 ⟨rfl, trivial⟩
    ·have j3 := cdF h6 j3
     refine Lin.e_ (p_move rfl) h6 ?_
     iterate 4 refine Lin.sk rfl ?_
     refine Lin.p (v := .bool (false)) (p_pickF rfl rfl) (Lin.m (v := .bool (false)) rfl ?_)
     iterate 3 refine Lin.sk rfl ?_
     refine Lin.p (v := .bool (false)) (p_pickF rfl rfl) (Lin.m (v := .bool (false)) rfl ?_)
     iterate 3 refine Lin.sk rfl ?_
     refine Lin.p (v := .bool (false)) (p_pickF rfl rfl) (Lin.p (v := .bool (false)) (p_assign rfl) ?_)
     obtain rfl := si j3
     show At _ _ _ _ _ _
     exact n1 ⟨rfl, trivial⟩
   ·have j3 := cdF h5 j3
    refine Lin.e_ (p_move rfl) h5 ?_
    iterate 3 refine Lin.sk rfl ?_
    refine Lin.p (v := .bool (false)) (p_pickF rfl rfl) (Lin.m (v := .bool (false)) rfl ?_)
    iterate 4 refine Lin.sk rfl ?_
    refine Lin.p (v := .bool (false)) (p_pickF rfl rfl) (Lin.m (v := .bool (false)) rfl ?_)
    iterate 3 refine Lin.sk rfl ?_
    refine Lin.p (v := .bool (false)) (p_pickF rfl rfl) (Lin.m (v := .bool (false)) rfl ?_)
    iterate 3 refine Lin.sk rfl ?_
    refine Lin.p (v := .bool (false)) (p_pickF rfl rfl) (Lin.p (v := .bool (false)) (p_assign rfl) ?_)
    obtain rfl := si j3
    show At _ _ _ _ _ _
    exact n1 ⟨rfl, trivial⟩
  ·have j3 := cdF h4 j3
   refine Lin.e_ (p_move rfl) h4 ?_
   iterate 3 refine Lin.sk rfl ?_
   refine Lin.p (v := .bool (false)) (p_pickF rfl rfl) (Lin.m (v := .bool (false)) rfl ?_)
   iterate 3 refine Lin.sk rfl ?_
   refine Lin.p (v := .bool (false)) (p_pickF rfl rfl) (Lin.m (v := .bool (false)) rfl ?_)
   iterate 4 refine Lin.sk rfl ?_
   refine Lin.p (v := .bool (false)) (p_pickF rfl rfl) (Lin.m (v := .bool (false)) rfl ?_)
   iterate 3 refine Lin.sk rfl ?_
   refine Lin.p (v := .bool (false)) (p_pickF rfl rfl) (Lin.m (v := .bool (false)) rfl ?_)
   iterate 3 refine Lin.sk rfl ?_
   refine Lin.p (v := .bool (false)) (p_pickF rfl rfl) (Lin.p (v := .bool (false)) (p_assign rfl) ?_)
   obtain rfl := si j3
   show At _ _ _ _ _ _
   exact n1 ⟨rfl, trivial⟩
 obtain rfl := si H
 exact tRet bk
noncomputable def p_impl_NameOk_b0 (v0 : (List Tag)) (Q5 : Int) : Option ((Int) ⊕ (Unit ⊕ Bool)) := cond (decide (Q5 < (v0.length : Int))) (gd (ix Q5 v0.length) <| bd (bd (p_impl_tagOk (nth v0 Q5.toNat)) fun r18 => cond (!r18) (some (true)) (cond (decide (0 < Q5)) (gd (I64 (Q5 - 1)) <| gd (ix (Q5 - 1) v0.length) <| some (!sless ((nth v0 ((Q5 - 1).toNat)).1) ((nth v0 Q5.toNat).1))) (some (false)))) fun b16 => cond (b16) (some (.inr (.inr false))) (gd (I64 (Q5 + 1)) <| some (.inl (Q5 + 1)))) (some (.inr (.inl ())))
noncomputable def p_impl_NameOk (v0 : (List Tag)) : Option (Bool) := bd (lp (p_impl_NameOk_b0 v0) 0) <| sw (fun _ => bd (p_impl_within (v0.length : Int) 1 3) fun r27 => some r27) (fun q => some q)
theorem c_impl_NameOk {r : Bool} (v0 : (List Tag)) (x_v0 : Option Addr × Nat) (H : p_impl_NameOk v0 = some r) : Fn' prog 185 #[.slice x_v0.1 v0.length x_v0.2] [imm (.slice x_v0.1 v0.length x_v0.2) v0] [] (ι := Unit) (fun _ => .bool (r)) (fun _ => []) (fun _ => []) := by
 refine cof (args := [_]) func185 ntmps185 fun c => ?_
 unfold p_impl_NameOk at H
 refine sr (Rg.a (v := .bool (false)) rfl (nl (Tr.seq (sr (Rg.m rfl (Rg.p (p_len 172 underlying142 rfl) (Rg.m (v := .int .i64 (0)) rfl (nl (bdo H fun x1 hx2 H => (tMidI (Λ := Unit) H (fun _ _ => [(0, .slice x_v0.1 v0.length x_v0.2)]) (fun _ _ => []) ?_ ?_))))))))))
 ·refine Tr.block (tLoopI hx2 () (fun Q5 _ => [(0, .slice x_v0.1 v0.length x_v0.2), (5, .slice x_v0.1 v0.length x_v0.2), (6, .int .i64 ((v0.length : Int))), (7, .int .i64 (Q5))]) (fun _ _ => []) Take.nil ?_)
  rintro _ Q5 z6 t8 H1 hi9 hb10
  unfold p_impl_NameOk_b0 at H1
  refine sr (Rg.p (p_lss rfl rfl) (nl (Tr.seq (cH H1 rfl (fun h13 H1 => ?_) (fun h13 H1 => ?_)))))
  ·refine tSkip (nT (Tr.seq (Tr.block (sr (Rg.m rfl (gdo H1 fun h14 H1 => (Rg.o (q_ixg underlying142 ty172 rfl rfl h14 rfl (EntB.flat (Ent.b Ent.z))) (Rg.o (v := .agg #[.string ((nth v0 Q5.toNat).1), .string ((nth v0 Q5.toNat).2)]) (q_ldeA (i := Q5.toNat) ty172 rfl (EntB.flat (Ent.b Ent.z)) h14.lt) (f1 (e_alloc ty172) fun g15 => (Rg.a rfl ?_))))))))))
   refine stb (cs' := [.string ((nth v0 Q5.toNat).1), .string ((nth v0 Q5.toNat).2)]) ty172 Upd.here (nl (bdo H1 fun b16 j17 H1 => (tMid1 [(29, .bool (b16)), (0, .slice x_v0.1 v0.length x_v0.2), (5, .slice x_v0.1 v0.length x_v0.2), (6, .int .i64 ((v0.length : Int))), (7, .int .i64 (Q5))] ?_ ?_)))
   ·refine tLinS [(3, .int .i64 (Q5)), (4, .pointer (some ⟨g15, 0, none⟩)), (0, .slice x_v0.1 v0.length x_v0.2), (5, .slice x_v0.1 v0.length x_v0.2), (6, .int .i64 ((v0.length : Int))), (7, .int .i64 (Q5))] mixed (.inr (by kernel_rfl)) ⟨rfl, rfl, rfl, rfl, rfl, rfl, trivial⟩ rfl (Lin.o (q_ldbA ty172 rfl Has.here rfl) (bdo j17 fun r18 h19 j17 => (Lin.o (q_call (c_impl_tagOk (nth v0 Q5.toNat) h19) rfl EntsB.nil) (Lin.p (p_not rfl) ?_))))
    rcases Bool.eq_false_or_eq_true (!r18) with h20 | h20
    ·have j17 := cdT h20 j17
     refine Lin.e_ (p_move rfl) h20 ?_
     iterate 13 refine Lin.sk rfl ?_
     refine Lin.p (v := .bool (true)) (p_pickT rfl rfl) ?_
     obtain rfl := si j17
     show At _ _ _ _ _ _
     exact n1 ⟨rfl, rfl, rfl, rfl, rfl, trivial⟩
    ·have j17 := cdF h20 j17
     refine Lin.e_ (p_move rfl) h20 (Lin.h rfl (p_move rfl) (Lin.h rfl (p_gtr rfl rfl) ?_))
     rcases Bool.eq_false_or_eq_true (decide (0 < Q5)) with h21 | h21
     ·have j17 := cdT h21 j17
      refine Lin.f_ rfl (p_move rfl) h21 (Lin.h rfl (p_move rfl) (Lin.h rfl (p_move rfl) (gdo j17 fun h22 j17 => (Lin.h rfl (p_sub rfl rfl h22) (gdo j17 fun h23 j17 => (Lin.i rfl (q_ixg underlying142 ty172 rfl rfl h23 rfl (EntB.flat (Ent.b Ent.z))) (Lin.i rfl (q_faeE (j := 0) ((Q5 - 1).toNat) fa172_0 rfl (EntB.flat (Ent.b Ent.z)) h23.lt rfl) (Lin.i rfl (q_lde (i := (Q5 - 1).toNat) (j := 0) ty9 rfl (EntB.flat (Ent.b Ent.z)) h23.lt rfl) (Lin.h rfl (p_fabE fa172_0 rfl rfl) ?_)))))))))
      refine Lin.i rfl (q_ldb ty9 rfl Has.here rfl) (Lin.h rfl (p_sgeq rfl rfl) (Lin.h rfl (p_pickT rfl rfl) (Lin.p (p_pickF rfl rfl) ?_)))
      obtain rfl := si j17
      show At _ _ _ _ _ _
      exact n1 ⟨rfl, rfl, rfl, rfl, rfl, trivial⟩
     ·have j17 := cdF h21 j17
      refine Lin.f_ rfl (p_move rfl) h21 ?_
      iterate 9 refine Lin.sk rfl ?_
      refine Lin.h (v := .bool (false)) rfl (p_pickF rfl rfl) (Lin.p (v := .bool (false)) (p_pickF rfl rfl) ?_)
      obtain rfl := si j17
      show At _ _ _ _ _ _
      exact n1 ⟨rfl, rfl, rfl, rfl, rfl, trivial⟩
   refine cH H1 rfl (fun h24 H1 => ?_) (fun h24 H1 => ?_)
   ·refine sr (Rg.a (v := .bool (false)) rfl (nl (tRet (rB (rT (rT (rB (rT (rT (?_))))))))))
    obtain rfl := hb10 _ (sm H1)
    replace H := sw.r H
    obtain rfl := si H
    exact bk
   ·exact tSkip (nB (nT (Tr.region (gdo H1 fun h25 H1 => (Rg.p (p_add rfl rfl h25) (Rg.m rfl (Rg.nl (nLI () (hi9 _ (sm H1)) Take.nil))))))))
  ·exact tExit (xT (xT (xE (nMI () (hb10 _ (sm H1)) Take.nil))))
 ·rintro e26 y7 H
  refine nT (sr (Rg.m rfl (Rg.p (p_len 172 underlying142 rfl) (bdo H fun r27 h28 H => (Rg.o (q_call (c_impl_within (v0.length : Int) 1 3 h28) rfl EntsB.nil) (Rg.a rfl (nl ?_)))))))
  obtain rfl := si H
  exact tRet bk
noncomputable def p_slices_Equal_Tag_Tag_b0 (v0 : (List Tag)) (v1 : (List Tag)) (Q6 : Int) : Option ((Int) ⊕ (Unit ⊕ Bool)) := cond (decide (Q6 < (v0.length : Int))) (gd (ix Q6 v0.length) <| gd (ix Q6 v1.length) <| cond (!decide (nth v0 Q6.toNat = nth v1 Q6.toNat)) (some (.inr (.inr false))) (gd (I64 (Q6 + 1)) <| some (.inl (Q6 + 1)))) (some (.inr (.inl ())))
noncomputable def p_slices_Equal_Tag_Tag (v0 : (List Tag)) (v1 : (List Tag)) : Option (Bool) := cond (!decide ((v0.length : Int) = (v1.length : Int))) (some false) (bd (lp (p_slices_Equal_Tag_Tag_b0 v0 v1) 0) <| sw (fun _ => some true) (fun q => some q))
theorem c_slices_Equal_Tag_Tag {r : Bool} (v0 : (List Tag)) (x_v0 : Option Addr × Nat) (v1 : (List Tag)) (x_v1 : Option Addr × Nat) (H : p_slices_Equal_Tag_Tag v0 v1 = some r) : Fn' prog 142 #[.slice x_v0.1 v0.length x_v0.2, .slice x_v1.1 v1.length x_v1.2] [imm (.slice x_v0.1 v0.length x_v0.2) v0, imm (.slice x_v1.1 v1.length x_v1.2) v1] [] (ι := Unit) (fun _ => .bool (r)) (fun _ => []) (fun _ => []) := by
 refine cof (args := [_, _]) func142 ntmps142 fun c => ?_
 unfold p_slices_Equal_Tag_Tag at H
 refine sr (Rg.a (v := .bool (false)) rfl (nl (Tr.seq (sr (Rg.m rfl (Rg.p (p_len 172 underlying142 rfl) (Rg.m rfl (Rg.p (p_len 172 underlying142 rfl) (Rg.p (p_neq rfl rfl) (nl (cH H rfl (fun h1 H => ?_) (fun h1 H => ?_))))))))))))
 ·refine sr (Rg.a (v := .bool (false)) rfl (nl (tRet (rT (?_)))))
  obtain rfl := si H
  exact bk
 ·refine tSkip (nT (Tr.seq (sr (Rg.m rfl (Rg.p (p_len 172 underlying142 rfl) (Rg.m (v := .int .i64 (0)) rfl (nl (bdo H fun x2 hx3 H => (tMidI (Λ := Unit) H (fun _ _ => []) (fun _ _ => []) ?_ ?_)))))))))
  ·refine Tr.block (tLoopI hx3 () (fun Q6 _ => [(0, .slice x_v0.1 v0.length x_v0.2), (1, .slice x_v1.1 v1.length x_v1.2), (12, .int .i64 ((v0.length : Int))), (13, .int .i64 (Q6))]) (fun _ _ => []) Take.nil ?_)
   rintro _ Q6 z7 t9 H1 hi10 hb11
   unfold p_slices_Equal_Tag_Tag_b0 at H1
   refine sr (Rg.p (p_lss rfl rfl) (nl (Tr.seq (cH H1 rfl (fun h14 H1 => ?_) (fun h14 H1 => ?_)))))
   ·refine tSkip (nT (Tr.seq (Tr.block (sr (Rg.m rfl (Rg.a rfl (nl (Tr.seq (tLinS [(5, .int .i64 (Q6)), (0, .slice x_v0.1 v0.length x_v0.2), (1, .slice x_v1.1 v1.length x_v1.2), (12, .int .i64 ((v0.length : Int))), (13, .int .i64 (Q6))] mixed (.inr (by kernel_rfl)) ⟨rfl, rfl, rfl, rfl, rfl, trivial⟩ rfl (Lin.m rfl (Lin.m rfl ?_)))))))))))
    refine gdo H1 fun h15 H1 => (Lin.o (q_ixg underlying142 ty172 rfl rfl h15 rfl (EntB.flat (Ent.b Ent.z))) (Lin.o (v := .agg #[.string ((nth v0 Q6.toNat).1), .string ((nth v0 Q6.toNat).2)]) (q_ldeA (i := Q6.toNat) ty172 rfl (EntB.flat (Ent.b Ent.z)) h15.lt) (Lin.m rfl (Lin.m rfl (gdo H1 fun h16 H1 => (Lin.o (q_ixg underlying142 ty172 rfl rfl h16 rfl (EntB.flat (Ent.b Ent.z.s))) (Lin.o (v := .agg #[.string ((nth v1 Q6.toNat).1), .string ((nth v1 Q6.toNat).2)]) (q_ldeA (i := Q6.toNat) ty172 rfl (EntB.flat (Ent.b Ent.z.s)) h16.lt) (Lin.p (v := .bool (!decide (nth v0 Q6.toNat = nth v1 Q6.toNat))) (p_aneq (a := nth v0 Q6.toNat) (b := nth v1 Q6.toNat) ae172 rfl rfl rfl rfl) (nT (?_))))))))))
    refine cH H1 rfl (fun h17 H1 => ?_) (fun h17 H1 => ?_)
    ·refine sr (Rg.a (v := .bool (false)) rfl (nl (tRet (rB (rT (rT (rB (rT (rT (?_))))))))))
     obtain rfl := hb11 _ (sm H1)
     replace H := sw.r H
     obtain rfl := si H
     exact bk
    ·exact tSkip (nB (nT (Tr.region (gdo H1 fun h18 H1 => (Rg.p (p_add rfl rfl h18) (Rg.m rfl (Rg.nl (nLI () (hi10 _ (sm H1)) Take.nil))))))))
   ·exact tExit (xT (xT (xE (nMI () (hb11 _ (sm H1)) Take.nil))))
  ·rintro e19 y8 H
   refine nT (sr (Rg.a (v := .bool (true)) rfl (nl ?_)))
   obtain rfl := si H
   exact tRet bk
noncomputable def p_impl_numberOf_1 (v0 : (List Tag)) (k0 : (List Tag)) : Option (Bool) := bd (p_slices_Equal_Tag_Tag v0 k0) fun r1 => some r1
theorem c_impl_numberOf_1 {r : Bool} (v0 : (List Tag)) (x_v0 : Option Addr × Nat) (g_k0 : Nat) (k0 : (List Tag)) (x_k0 : Option Addr × Nat) (H : p_impl_numberOf_1 v0 k0 = some r) : Fn' prog 198 #[.slice x_v0.1 v0.length x_v0.2, .pointer (some ⟨g_k0, 0, none⟩)] [imm (.slice x_v0.1 v0.length x_v0.2) v0, imm (.slice x_k0.1 k0.length x_k0.2) k0] [box g_k0 142 [.slice x_k0.1 k0.length x_k0.2]] (ι := Unit) (fun _ => .bool (r)) (fun _ => []) (fun _ => [box g_k0 142 [.slice x_k0.1 k0.length x_k0.2]]) := by
 refine cof (args := [_, _]) func198 ntmps198 fun c => ?_
 unfold p_impl_numberOf_1 at H
 refine sr (Rg.a (v := .bool (false)) rfl (nl (sr (Rg.m rfl (Rg.o (q_ldb ty142 rfl Has.here rfl) (bdo H fun r1 h2 H => (Rg.o (q_call (c_slices_Equal_Tag_Tag v0 x_v0 k0 x_k0 h2) rfl (EntsB.cons (Ent.b Ent.z) (EntsB.cons (Ent.b Ent.z.s) EntsB.nil))) (Rg.a rfl (nl ?_)))))))))
 obtain rfl := si H
 exact tRet (bk (.cons Del.here .nil))
noncomputable def p_slices_IndexFunc_Tag_Tag_numberOf_1_b0 (v0 : (List (List Tag))) (v1_0 : (List Tag)) (Q6 : Int) : Option ((Int) ⊕ (Unit ⊕ Int)) := cond (decide (Q6 < (v0.length : Int))) (gd (ix Q6 v0.length) <| bd (p_impl_numberOf_1 (nth v0 Q6.toNat) v1_0) fun r16 => cond (r16) (some (.inr (.inr Q6))) (gd (I64 (Q6 + 1)) <| some (.inl (Q6 + 1)))) (some (.inr (.inl ())))
noncomputable def p_slices_IndexFunc_Tag_Tag_numberOf_1 (v0 : (List (List Tag))) (v1_0 : (List Tag)) : Option (Int) := bd (lp (p_slices_IndexFunc_Tag_Tag_numberOf_1_b0 v0 v1_0) 0) <| sw (fun _ => some (-1)) (fun q => some q)
theorem c_slices_IndexFunc_Tag_Tag_numberOf_1 {r : Int} (v0 : (List (List Tag))) (x_v0 : Option Addr × Nat) (g_v1_0 : Nat) (v1_0 : (List Tag)) (x_v1_0 : Option Addr × Nat) (H : p_slices_IndexFunc_Tag_Tag_numberOf_1 v0 v1_0 = some r) : Fn' prog 197 #[.slice x_v0.1 v0.length x_v0.2, .func (.func 198) #[] #[.pointer (some ⟨g_v1_0, 0, none⟩)]] [imm (.slice x_v0.1 v0.length x_v0.2) v0, imm (.slice x_v1_0.1 v1_0.length x_v1_0.2) v1_0] [box g_v1_0 142 [.slice x_v1_0.1 v1_0.length x_v1_0.2]] (ι := Unit) (fun _ => .int .i64 (r)) (fun _ => []) (fun _ => [box g_v1_0 142 [.slice x_v1_0.1 v1_0.length x_v1_0.2]]) := by
 refine cof (args := [_, _]) func197 ntmps197 fun c => ?_
 unfold p_slices_IndexFunc_Tag_Tag_numberOf_1 at H
 refine Tr.openD Ent.z fun X1 => (sr (Rg.a (v := .int .i64 (0)) rfl (nl (Tr.seq (sr (Rg.m rfl (Rg.p (p_len 142 underlying30 rfl) (Rg.m (v := .int .i64 (0)) rfl (nl (bdo H fun x2 hx3 H => (tMidI (Λ := Unit) H (fun _ _ => []) (fun _ _ => [box g_v1_0 142 [.slice x_v1_0.1 v1_0.length x_v1_0.2]]) ?_ ?_)))))))))))
 ·refine Tr.block (tLoopI hx3 () (fun Q6 _ => [(0, .slice x_v0.1 v0.length x_v0.2), (1, .func (.func 198) #[] #[.pointer (some ⟨g_v1_0, 0, none⟩)]), (7, .int .i64 ((v0.length : Int))), (8, .int .i64 (Q6))]) (fun _ _ => [box g_v1_0 142 [.slice x_v1_0.1 v1_0.length x_v1_0.2]]) (.cons Del.here .nil) ?_)
  rintro _ Q6 z7 t9 H1 hi10 hb11
  unfold p_slices_IndexFunc_Tag_Tag_numberOf_1_b0 at H1
  refine sr (Rg.p (p_lss rfl rfl) (nl (Tr.seq (cH H1 rfl (fun h14 H1 => ?_) (fun h14 H1 => ?_)))))
  ·refine tSkip (nT (Tr.seq (Tr.block (sr (Rg.m rfl (Rg.a rfl (nl (sr (Rg.m rfl (Rg.m rfl (Rg.m rfl ?_)))))))))))
   refine gdo H1 fun h15 H1 => (Rg.o (q_ixg underlying30 ty142 rfl rfl h15 rfl (Ent.b (Ent.darr Ent.z))) (Rg.o (q_lde (i := Q6.toNat) (j := 0) ty142 rfl (Ent.b (Ent.darr Ent.z)) h15.lt rfl) (bdo H1 fun r16 h17 H1 => (Rg.o (v := .bool (r16)) (Ex.dyn (caps := [.pointer (some ⟨g_v1_0, 0, none⟩)]) (vs := [.slice ((X1 Q6.toNat).1) ((nth v0 Q6.toNat).length) ((X1 Q6.toNat).2.1)]) rfl rfl (q_callC (c_impl_numberOf_1 (nth v0 Q6.toNat) ((X1 Q6.toNat).1, (X1 Q6.toNat).2.1) g_v1_0 v1_0 x_v1_0 h17) (Solo.box Solo.nil) rfl (.cons Del.here .nil) (EntsB.cons (Ent.b (Ent.dimm (Ent.del Ent.z h15.lt))) (EntsB.cons (Ent.b Ent.z.s.s) EntsB.nil)))) (nl (cH H1 rfl (fun h18 H1 => ?_) (fun h18 H1 => ?_)))))))
   ·refine sr (Rg.m rfl (Rg.a rfl (nl (tRet (rB (rT (rT (rB (rT (rT (?_)))))))))))
    obtain rfl := hb11 _ (sm H1)
    replace H := sw.r H
    obtain rfl := si H
    exact bk (.cons Del.here .nil)
   ·exact tSkip (nB (nT (Tr.region (gdo H1 fun h19 H1 => (Rg.p (p_add rfl rfl h19) (Rg.m rfl (Rg.nl (nLI () (hi10 _ (sm H1)) (.cons Del.here .nil)))))))))
  ·exact tExit (xT (xT (xE (nMI () (hb11 _ (sm H1)) (.cons Del.here .nil)))))
 ·rintro e20 y8 H
  refine nT (sr (Rg.a (v := .int .i64 (-1)) rfl (nl ?_)))
  obtain rfl := si H
  exact tRet (bk (.cons Del.here .nil))
noncomputable def p_impl_numberOf (v0 : (List (List Tag))) (v1 : (List Tag)) : Option (Int) := bd (p_slices_IndexFunc_Tag_Tag_numberOf_1 v0 v1) fun r3 => gd (I64 (r3 + 1)) <| some (r3 + 1)
theorem c_impl_numberOf {r : Int} (v0 : (List (List Tag))) (x_v0 : Option Addr × Nat) (v1 : (List Tag)) (x_v1 : Option Addr × Nat) (H : p_impl_numberOf v0 v1 = some r) : Fn' prog 186 #[.slice x_v0.1 v0.length x_v0.2, .slice x_v1.1 v1.length x_v1.2] [imm (.slice x_v0.1 v0.length x_v0.2) v0, imm (.slice x_v1.1 v1.length x_v1.2) v1] [] (ι := Unit) (fun _ => .int .i64 (r)) (fun _ => []) (fun _ => []) := by
 refine cof (args := [_, _]) func186 ntmps186 fun c => ?_
 unfold p_impl_numberOf at H
 refine Tr.openD Ent.z fun X1 => (sr (f1 (e_box (t := 142) rfl) fun g2 => (Rg.a (v := .int .i64 (0)) rfl (nl (sr (Rg.m rfl (Rg.p (v := .func (.func 198) #[] #[.pointer (some ⟨g2, 0, none⟩)]) (p_mkfunc (vs := [.pointer (some ⟨g2, 0, none⟩)]) rfl rfl) (bdo H fun r3 h4 H => (Rg.o (q_callC (c_slices_IndexFunc_Tag_Tag_numberOf_1 v0 x_v0 g2 v1 x_v1 h4) (Solo.box Solo.nil) rfl (.cons Del.here .nil) (EntsB.cons (Ent.b (Ent.dimm Ent.z)) (EntsB.cons (Ent.b Ent.z.s.s) EntsB.nil))) (gdo H fun h5 H => ?_))))))))))
 refine Rg.p (p_add rfl rfl h5) (Rg.a rfl (nl ?_))
 obtain rfl := si H
 exact tRet bk
noncomputable def p_impl_namesOk_b0 (v0 : (List (List Tag))) (Q6 : Int) : Option ((Int) ⊕ (Unit ⊕ Bool)) := cond (decide (Q6 < (v0.length : Int))) (gd (ix Q6 v0.length) <| bd (bd (p_impl_NameOk (nth v0 Q6.toNat)) fun r18 => cond (!r18) (some (true)) (bd (p_impl_numberOf v0 (nth v0 Q6.toNat)) fun r21 => gd (I64 (Q6 + 1)) <| some (!decide (r21 = (Q6 + 1))))) fun b16 => cond (b16) (some (.inr (.inr false))) (gd (I64 (Q6 + 1)) <| some (.inl (Q6 + 1)))) (some (.inr (.inl ())))
noncomputable def p_impl_namesOk (v0 : (List (List Tag))) : Option (Bool) := bd (lp (p_impl_namesOk_b0 v0) 0) <| sw (fun _ => some (decide ((v0.length : Int) ≤ 6))) (fun q => some q)
theorem c_impl_namesOk {r : Bool} (v0 : (List (List Tag))) (x_v0 : Option Addr × Nat) (H : p_impl_namesOk v0 = some r) : Fn' prog 157 #[.slice x_v0.1 v0.length x_v0.2] [imm (.slice x_v0.1 v0.length x_v0.2) v0] [] (ι := Unit) (fun _ => .bool (r)) (fun _ => []) (fun _ => []) := by
 refine cof (args := [_]) func157 ntmps157 fun c => ?_
 unfold p_impl_namesOk at H
 refine Tr.openD Ent.z fun X1 => (sr (Rg.a (v := .bool (false)) rfl (nl (Tr.seq (sr (Rg.m rfl (Rg.p (p_len 142 underlying30 rfl) (Rg.m (v := .int .i64 (0)) rfl (nl (bdo H fun x2 hx3 H => (tMidI (Λ := Unit) H (fun _ _ => [(0, .slice x_v0.1 v0.length x_v0.2)]) (fun _ _ => []) ?_ ?_)))))))))))
 ·refine Tr.block (tLoopI hx3 () (fun Q6 _ => [(0, .slice x_v0.1 v0.length x_v0.2), (5, .slice x_v0.1 v0.length x_v0.2), (6, .int .i64 ((v0.length : Int))), (7, .int .i64 (Q6))]) (fun _ _ => []) Take.nil ?_)
  rintro _ Q6 z7 t9 H1 hi10 hb11
  unfold p_impl_namesOk_b0 at H1
  refine sr (Rg.p (p_lss rfl rfl) (nl (Tr.seq (cH H1 rfl (fun h14 H1 => ?_) (fun h14 H1 => ?_)))))
  ·refine tSkip (nT (Tr.seq (Tr.block (sr (Rg.m rfl (gdo H1 fun h15 H1 => (Rg.o (q_ixg underlying30 ty142 rfl rfl h15 rfl (Ent.b (Ent.darr Ent.z))) (Rg.o (q_lde (i := Q6.toNat) (j := 0) ty142 rfl (Ent.b (Ent.darr Ent.z)) h15.lt rfl) (Rg.a rfl (Rg.a rfl (nl ?_)))))))))))
   refine bdo H1 fun b16 j17 H1 => (tMid1 [(22, .bool (b16)), (0, .slice x_v0.1 v0.length x_v0.2), (5, .slice x_v0.1 v0.length x_v0.2), (6, .int .i64 ((v0.length : Int))), (7, .int .i64 (Q6))] ?_ ?_)
   ·refine tLinT [(4, .slice ((X1 Q6.toNat).1) ((nth v0 Q6.toNat).length) ((X1 Q6.toNat).2.1)), (3, .int .i64 (Q6)), (0, .slice x_v0.1 v0.length x_v0.2), (5, .slice x_v0.1 v0.length x_v0.2), (6, .int .i64 ((v0.length : Int))), (7, .int .i64 (Q6))] ⟨rfl, rfl, rfl, rfl, rfl, rfl, trivial⟩ (Lin.m rfl (bdo j17 fun r18 h19 j17 => (Lin.o (q_call (c_impl_NameOk (nth v0 Q6.toNat) ((X1 Q6.toNat).1, (X1 Q6.toNat).2.1) h19) rfl (EntsB.cons (Ent.b (Ent.dimm (Ent.del Ent.z h15.lt))) EntsB.nil)) (Lin.p (p_not rfl) ?_))))
    rcases Bool.eq_false_or_eq_true (!r18) with h20 | h20
    ·have j17 := cdT h20 j17
     refine Lin.e_ (p_move rfl) h20 ?_
     iterate 6 refine Lin.sk rfl ?_
     refine Lin.p (v := .bool (true)) (p_pickT rfl rfl) ?_
     obtain rfl := si j17
     show At _ _ _ _ _ _
     exact n1 ⟨rfl, rfl, rfl, rfl, rfl, trivial⟩
    ·have j17 := cdF h20 j17
     refine Lin.e_ (p_move rfl) h20 (Lin.h rfl (p_move rfl) (Lin.h rfl (p_move rfl) (bdo j17 fun r21 h22 j17 => (Lin.i rfl (q_call (c_impl_numberOf v0 x_v0 (nth v0 Q6.toNat) ((X1 Q6.toNat).1, (X1 Q6.toNat).2.1) h22) rfl (EntsB.cons (Ent.b (Ent.dimm Ent.z)) (EntsB.cons (Ent.b (Ent.dimm (Ent.del Ent.z h15.lt))) EntsB.nil))) (Lin.h rfl (p_move rfl) (gdo j17 fun h23 j17 => (Lin.h rfl (p_add rfl rfl h23) (Lin.h rfl (p_neq rfl rfl) (Lin.p (p_pickF rfl rfl) ?_)))))))))
     obtain rfl := si j17
     show At _ _ _ _ _ _
     exact n1 ⟨rfl, rfl, rfl, rfl, rfl, trivial⟩
   refine cH H1 rfl (fun h24 H1 => ?_) (fun h24 H1 => ?_)
   ·refine sr (Rg.a (v := .bool (false)) rfl (nl (tRet (rB (rT (rT (rB (rT (rT (?_))))))))))
    obtain rfl := hb11 _ (sm H1)
    replace H := sw.r H
    obtain rfl := si H
    exact bk
   ·exact tSkip (nB (nT (Tr.region (gdo H1 fun h25 H1 => (Rg.p (p_add rfl rfl h25) (Rg.m rfl (Rg.nl (nLI () (hi10 _ (sm H1)) Take.nil))))))))
  ·exact tExit (xT (xT (xE (nMI () (hb11 _ (sm H1)) Take.nil))))
 ·rintro e26 y8 H
  refine nT (sr (Rg.m rfl (Rg.p (p_len 142 underlying30 rfl) (Rg.p (p_leq rfl rfl) (Rg.a rfl (nl ?_))))))
  obtain rfl := si H
  exact tRet bk
noncomputable def p_slices_Equal_int_int_b0 (v0 : (List Int)) (v1 : (List Int)) (Q6 : Int) : Option ((Int) ⊕ (Unit ⊕ Bool)) := cond (decide (Q6 < (v0.length : Int))) (gd (ix Q6 v0.length) <| gd (ix Q6 v1.length) <| cond (!decide ((nth v0 Q6.toNat) = (nth v1 Q6.toNat))) (some (.inr (.inr false))) (gd (I64 (Q6 + 1)) <| some (.inl (Q6 + 1)))) (some (.inr (.inl ())))
noncomputable def p_slices_Equal_int_int (v0 : (List Int)) (v1 : (List Int)) : Option (Bool) := cond (!decide ((v0.length : Int) = (v1.length : Int))) (some false) (bd (lp (p_slices_Equal_int_int_b0 v0 v1) 0) <| sw (fun _ => some true) (fun q => some q))
theorem c_slices_Equal_int_int {r : Bool} (v0 : (List Int)) (x_v0 : Option Addr × Nat) (v1 : (List Int)) (x_v1 : Option Addr × Nat) (H : p_slices_Equal_int_int v0 v1 = some r) : Fn' prog 160 #[.slice x_v0.1 v0.length x_v0.2, .slice x_v1.1 v1.length x_v1.2] [imm (.slice x_v0.1 v0.length x_v0.2) v0, imm (.slice x_v1.1 v1.length x_v1.2) v1] [] (ι := Unit) (fun _ => .bool (r)) (fun _ => []) (fun _ => []) := by
 refine cof (args := [_, _]) func160 ntmps160 fun c => ?_
 unfold p_slices_Equal_int_int at H
 refine sr (Rg.a (v := .bool (false)) rfl (nl (Tr.seq (sr (Rg.m rfl (Rg.p (p_len 3 underlying23 rfl) (Rg.m rfl (Rg.p (p_len 3 underlying23 rfl) (Rg.p (p_neq rfl rfl) (nl (cH H rfl (fun h1 H => ?_) (fun h1 H => ?_))))))))))))
 ·refine sr (Rg.a (v := .bool (false)) rfl (nl (tRet (rT (?_)))))
  obtain rfl := si H
  exact bk
 ·refine tSkip (nT (Tr.seq (sr (Rg.m rfl (Rg.p (p_len 3 underlying23 rfl) (Rg.m (v := .int .i64 (0)) rfl (nl (bdo H fun x2 hx3 H => (tMidI (Λ := Unit) H (fun _ _ => []) (fun _ _ => []) ?_ ?_)))))))))
  ·refine Tr.block (tLoopI hx3 () (fun Q6 _ => [(0, .slice x_v0.1 v0.length x_v0.2), (1, .slice x_v1.1 v1.length x_v1.2), (12, .int .i64 ((v0.length : Int))), (13, .int .i64 (Q6))]) (fun _ _ => []) Take.nil ?_)
   rintro _ Q6 z7 t9 H1 hi10 hb11
   unfold p_slices_Equal_int_int_b0 at H1
   refine sr (Rg.p (p_lss rfl rfl) (nl (Tr.seq (cH H1 rfl (fun h14 H1 => ?_) (fun h14 H1 => ?_)))))
   ·refine tSkip (nT (Tr.seq (Tr.block (sr (Rg.m rfl (Rg.a rfl (nl (Tr.seq (tLinS [(5, .int .i64 (Q6)), (0, .slice x_v0.1 v0.length x_v0.2), (1, .slice x_v1.1 v1.length x_v1.2), (12, .int .i64 ((v0.length : Int))), (13, .int .i64 (Q6))] mixed (.inr (by kernel_rfl)) ⟨rfl, rfl, rfl, rfl, rfl, trivial⟩ rfl (Lin.m rfl (Lin.m rfl ?_)))))))))))
    refine gdo H1 fun h15 H1 => (Lin.o (q_ixg underlying23 ty3 rfl rfl h15 rfl (EntB.flat (Ent.b Ent.z))) (Lin.o (q_lde (i := Q6.toNat) (j := 0) ty3 rfl (EntB.flat (Ent.b Ent.z)) h15.lt rfl) (Lin.m rfl (Lin.m rfl (gdo H1 fun h16 H1 => (Lin.o (q_ixg underlying23 ty3 rfl rfl h16 rfl (EntB.flat (Ent.b Ent.z.s))) (Lin.o (q_lde (i := Q6.toNat) (j := 0) ty3 rfl (EntB.flat (Ent.b Ent.z.s)) h16.lt rfl) (Lin.p (p_neq rfl rfl) (nT (?_))))))))))
    refine cH H1 rfl (fun h17 H1 => ?_) (fun h17 H1 => ?_)
    ·refine sr (Rg.a (v := .bool (false)) rfl (nl (tRet (rB (rT (rT (rB (rT (rT (?_))))))))))
     obtain rfl := hb11 _ (sm H1)
     replace H := sw.r H
     obtain rfl := si H
     exact bk
    ·exact tSkip (nB (nT (Tr.region (gdo H1 fun h18 H1 => (Rg.p (p_add rfl rfl h18) (Rg.m rfl (Rg.nl (nLI () (hi10 _ (sm H1)) Take.nil))))))))
   ·exact tExit (xT (xT (xE (nMI () (hb11 _ (sm H1)) Take.nil))))
  ·rintro e19 y8 H
   refine nT (sr (Rg.a (v := .bool (true)) rfl (nl ?_)))
   obtain rfl := si H
   exact tRet bk
noncomputable def p_impl_IndexOk_1 (v0 : Post) (v1 : Post) : Option (Bool) := bd (cond (decide (v0.1 = v1.1)) (bd (p_slices_Equal_int_int v0.2 v1.2) fun r6 => some (r6)) (some (false))) fun b3 => some b3
theorem c_impl_IndexOk_1 {r : Bool} (v0 : Post) (x_v0 : (Unit × Unit) × (Option Addr × Nat)) (v1 : Post) (x_v1 : (Unit × Unit) × (Option Addr × Nat)) (H : p_impl_IndexOk_1 v0 v1 = some r) : Fn' prog 159 #[.agg #[.string (v0.1.1), .string (v0.1.2), .slice x_v0.2.1 v0.2.length x_v0.2.2], .agg #[.string (v1.1.1), .string (v1.1.2), .slice x_v1.2.1 v1.2.length x_v1.2.2]] [imm (.slice x_v0.2.1 v0.2.length x_v0.2.2) v0.2, imm (.slice x_v1.2.1 v1.2.length x_v1.2.2) v1.2] [] (ι := Unit) (fun _ => .bool (r)) (fun _ => []) (fun _ => []) := by
 refine cof (args := [_, _]) func159 ntmps159 fun c => ?_
 unfold p_impl_IndexOk_1 at H
 refine sr (f1 (e_box (t := 183) rfl) fun g1 => (f1 (e_box (t := 183) rfl) fun g2 => (Rg.a (v := .bool (false)) rfl (nl (bdo H fun b3 j4 H => (tMid1 [(4, .bool (b3))] ?_ ?_))))))
 ·refine tLinT [(3, .pointer (some ⟨g2, 0, none⟩)), (2, .pointer (some ⟨g1, 0, none⟩))] ⟨rfl, rfl, trivial⟩ (Lin.p (p_fabE fa183_0 rfl rfl) (Lin.o (v := .agg #[.string (v0.1.1), .string (v0.1.2)]) (q_ldbP [.string (v0.1.1), .string (v0.1.2)] ty172 rfl hs1 rfl rfl) (Lin.p (p_fabE fa183_0 rfl rfl) (Lin.o (v := .agg #[.string (v1.1.1), .string (v1.1.2)]) (q_ldbP [.string (v1.1.1), .string (v1.1.2)] ty172 rfl Has.here rfl rfl) (Lin.p (v := .bool (decide (v0.1 = v1.1))) (p_aeql (a := v0.1) (b := v1.1) ae172 rfl rfl rfl rfl) ?_)))))
  rcases Bool.eq_false_or_eq_true (decide (v0.1 = v1.1)) with h5 | h5
  ·have j4 := cdT h5 j4
   refine Lin.e_ (p_move rfl) h5 (Lin.h rfl (p_fabE fa183_1 rfl rfl) (Lin.i rfl (q_ldb ty23 rfl hs1 rfl) (Lin.h rfl (p_fabE fa183_1 rfl rfl) (Lin.i rfl (q_ldb ty23 rfl Has.here rfl) (bdo j4 fun r6 h7 j4 => (Lin.i rfl (q_call (c_slices_Equal_int_int v0.2 x_v0.2 v1.2 x_v1.2 h7) rfl (EntsB.cons (Ent.b Ent.z) (EntsB.cons (Ent.b Ent.z.s) EntsB.nil))) (Lin.p (p_pickT rfl rfl) (Lin.p (p_assign rfl) ?_))))))))
   obtain rfl := si j4
   show At _ _ _ _ _ _
   exact n1 ⟨rfl, trivial⟩
  ·have j4 := cdF h5 j4
   refine Lin.e_ (p_move rfl) h5 ?_
   iterate 5 refine Lin.sk rfl ?_
   refine Lin.p (v := .bool (false)) (p_pickF rfl rfl) (Lin.p (v := .bool (false)) (p_assign rfl) ?_)
   obtain rfl := si j4
   show At _ _ _ _ _ _
   exact n1 ⟨rfl, trivial⟩
 obtain rfl := si H
 exact tRet bk
noncomputable def p_slices_EqualFunc_Post_Post_Post_Post_IndexOk_1_b0 (v0 : (List Post)) (v1 : (List Post)) (Q8 : Int) : Option ((Int) ⊕ (Unit ⊕ Bool)) := cond (decide (Q8 < (v0.length : Int))) (gd (ix Q8 v0.length) <| gd (ix Q8 v1.length) <| bd (p_impl_IndexOk_1 (nth v0 Q8.toNat) (nth v1 Q8.toNat)) fun r21 => cond (!r21) (some (.inr (.inr false))) (gd (I64 (Q8 + 1)) <| some (.inl (Q8 + 1)))) (some (.inr (.inl ())))
noncomputable def p_slices_EqualFunc_Post_Post_Post_Post_IndexOk_1 (v0 : (List Post)) (v1 : (List Post)) : Option (Bool) := cond (!decide ((v0.length : Int) = (v1.length : Int))) (some false) (bd (lp (p_slices_EqualFunc_Post_Post_Post_Post_IndexOk_1_b0 v0 v1) 0) <| sw (fun _ => some true) (fun q => some q))
theorem c_slices_EqualFunc_Post_Post_Post_Post_IndexOk_1 {r : Bool} (v0 : (List Post)) (x_v0 : Option Addr × Nat) (v1 : (List Post)) (x_v1 : Option Addr × Nat) (H : p_slices_EqualFunc_Post_Post_Post_Post_IndexOk_1 v0 v1 = some r) : Fn' prog 158 #[.slice x_v0.1 v0.length x_v0.2, .slice x_v1.1 v1.length x_v1.2, .func (.func 159) #[] #[]] [imm (.slice x_v0.1 v0.length x_v0.2) v0, imm (.slice x_v1.1 v1.length x_v1.2) v1] [] (ι := Unit) (fun _ => .bool (r)) (fun _ => []) (fun _ => []) := by
 refine cof (args := [_, _, _]) func158 ntmps158 fun c => ?_
 unfold p_slices_EqualFunc_Post_Post_Post_Post_IndexOk_1 at H
 refine Tr.openD Ent.z fun X1 => (Tr.openD Ent.z.s.s fun X2 => (sr (Rg.a (v := .bool (false)) rfl (nl (Tr.seq (sr (Rg.m rfl (Rg.p (p_len 183 underlying36 rfl) (Rg.m rfl (Rg.p (p_len 183 underlying36 rfl) (Rg.p (p_neq rfl rfl) (nl ?_))))))))))))
 refine cH H rfl (fun h3 H => ?_) (fun h3 H => ?_)
 ·refine sr (Rg.a (v := .bool (false)) rfl (nl (tRet (rT (?_)))))
  obtain rfl := si H
  exact bk
 ·refine tSkip (nT (Tr.seq (sr (Rg.m rfl (Rg.p (p_len 183 underlying36 rfl) (Rg.m (v := .int .i64 (0)) rfl (nl (bdo H fun x4 hx5 H => (tMidI (Λ := Unit) H (fun _ _ => []) (fun _ _ => []) ?_ ?_)))))))))
  ·refine Tr.block (tLoopI hx5 () (fun Q8 _ => [(1, .slice x_v1.1 v1.length x_v1.2), (2, .func (.func 159) #[] #[]), (15, .slice x_v0.1 v0.length x_v0.2), (16, .int .i64 ((v0.length : Int))), (17, .int .i64 (Q8))]) (fun _ _ => []) Take.nil ?_)
   rintro _ Q8 z9 t11 H1 hi12 hb13
   unfold p_slices_EqualFunc_Post_Post_Post_Post_IndexOk_1_b0 at H1
   refine sr (Rg.p (p_lss rfl rfl) (nl (Tr.seq (cH H1 rfl (fun h16 H1 => ?_) (fun h16 H1 => ?_)))))
   ·refine tSkip (nT (Tr.seq (Tr.block (sr (Rg.m rfl (gdo H1 fun h17 H1 => (Rg.o (q_ixg underlying36 ty183 rfl rfl h17 rfl (Ent.b (Ent.darr Ent.z.s))) (Rg.o (v := .agg #[.string (((nth v0 Q8.toNat).1).1), .string (((nth v0 Q8.toNat).1).2), .slice (((X1 Q8.toNat).2).1) (((nth v0 Q8.toNat).2).length) (((X1 Q8.toNat).2).2.1)]) (q_ldeA (i := Q8.toNat) ty183 rfl (Ent.b (Ent.darr Ent.z.s)) h17.lt) (f1 (e_alloc ty183) fun g18 => (Rg.a rfl ?_))))))))))
    refine stb (cs' := [.string (((nth v0 Q8.toNat).1).1), .string (((nth v0 Q8.toNat).1).2), .slice (((X1 Q8.toNat).2).1) (((nth v0 Q8.toNat).2).length) (((X1 Q8.toNat).2).2.1)]) ty183 Upd.here (nl (sr (Rg.m rfl (Rg.m rfl (gdo H1 fun h19 H1 => (Rg.o (q_ixg underlying36 ty183 rfl rfl h19 rfl (Ent.b (Ent.darr Ent.z))) (Rg.o (v := .agg #[.string (((nth v1 Q8.toNat).1).1), .string (((nth v1 Q8.toNat).1).2), .slice (((X2 Q8.toNat).2).1) (((nth v1 Q8.toNat).2).length) (((X2 Q8.toNat).2).2.1)]) (q_ldeA (i := Q8.toNat) ty183 rfl (Ent.b (Ent.darr Ent.z)) h19.lt) (f1 (e_alloc ty183) fun g20 => (stb (cs' := [.string (((nth v1 Q8.toNat).1).1), .string (((nth v1 Q8.toNat).1).2), .slice (((X2 Q8.toNat).2).1) (((nth v1 Q8.toNat).2).length) (((X2 Q8.toNat).2).2.1)]) ty183 Upd.here ?_)))))))))
    refine nl (sr (Rg.m rfl (Rg.o (q_ldbA ty183 rfl hs1 rfl) (Rg.o (q_ldbA ty183 rfl Has.here rfl) (bdo H1 fun r21 h22 H1 => (Rg.o (v := .bool (r21)) (Ex.dyn (caps := []) (vs := [.agg #[.string (((nth v0 Q8.toNat).1).1), .string (((nth v0 Q8.toNat).1).2), .slice (((X1 Q8.toNat).2).1) (((nth v0 Q8.toNat).2).length) (((X1 Q8.toNat).2).2.1)], .agg #[.string (((nth v1 Q8.toNat).1).1), .string (((nth v1 Q8.toNat).1).2), .slice (((X2 Q8.toNat).2).1) (((nth v1 Q8.toNat).2).length) (((X2 Q8.toNat).2).2.1)]]) rfl rfl (q_call (c_impl_IndexOk_1 (nth v0 Q8.toNat) (((), ()), (((X1 Q8.toNat).2).1, ((X1 Q8.toNat).2).2.1)) (nth v1 Q8.toNat) (((), ()), (((X2 Q8.toNat).2).1, ((X2 Q8.toNat).2).2.1)) h22) rfl (EntsB.cons (Ent.b (Ent.dimm (Ent.dsnd (Ent.del Ent.z.s h17.lt)))) (EntsB.cons (Ent.b (Ent.dimm (Ent.dsnd (Ent.del Ent.z h19.lt)))) EntsB.nil)))) (Rg.p (p_not rfl) (nl (cH H1 rfl (fun h23 H1 => ?_) (fun h23 H1 => ?_))))))))))
    ·refine sr (Rg.a (v := .bool (false)) rfl (nl (tRet (rB (rT (rT (rB (rT (rT (?_))))))))))
     obtain rfl := hb13 _ (sm H1)
     replace H := sw.r H
     obtain rfl := si H
     exact bk
    ·exact tSkip (nB (nT (Tr.region (gdo H1 fun h24 H1 => (Rg.p (p_add rfl rfl h24) (Rg.m rfl (Rg.nl (nLI () (hi12 _ (sm H1)) Take.nil))))))))
   ·exact tExit (xT (xT (xE (nMI () (hb13 _ (sm H1)) Take.nil))))
  ·rintro e25 y10 H
   refine nT (sr (Rg.a (v := .bool (true)) rfl (nl ?_)))
   obtain rfl := si H
   exact tRet bk
noncomputable def p_impl_IndexOk (v0 : Index) : Option (Bool) := bd (p_impl_namesOk v0.1) fun r4 => cond (r4) (bd (p_impl_indexOf v0.1) fun r7 => bd (p_slices_EqualFunc_Post_Post_Post_Post_IndexOk_1 v0.2 r7.2) fun r10 => some r10) (some false)
theorem c_impl_IndexOk {r : Bool} (v0 : Index) (x_v0 : (Option Addr × Nat) × (Option Addr × Nat)) (H : p_impl_IndexOk v0 = some r) : Fn' prog 112 #[.agg #[.slice x_v0.1.1 v0.1.length x_v0.1.2, .slice x_v0.2.1 v0.2.length x_v0.2.2]] [imm (.slice x_v0.1.1 v0.1.length x_v0.1.2) v0.1, imm (.slice x_v0.2.1 v0.2.length x_v0.2.2) v0.2] [] (ι := Unit) (fun _ => .bool (r)) (fun _ => []) (fun _ => []) := by
 refine cof (args := [_]) func112 ntmps112 fun c => ?_
 unfold p_impl_IndexOk at H
 refine Tr.openD Ent.z fun X1 => (Tr.openD Ent.z.s.s fun X2 => (sr (f1 (e_box (t := 38) rfl) fun g3 => (Rg.a (v := .bool (false)) rfl (nl (Tr.seq (bdo H fun r4 h5 H => ?_)))))))
 rcases Bool.eq_false_or_eq_true (r4) with h6 | h6
 ·have H := cdT h6 H
  refine tNwS [(1, .pointer (some ⟨g3, 0, none⟩))] 2 [0, 1, 2, 3, 4, 5, 6, 7, 8, 9, 10, 11, 12] [8] [] mixed (by kernel_rfl) (by decide) List.nodup_nil ⟨rfl, trivial⟩ rfl okNil (w_p rfl (p_fabE fa38_0 rfl rfl) ?_)
  refine w_o rfl (fun F => (q_ldb ty30 rfl (Has.here.app F) rfl)) ?_
  refine w_o rfl (fun F => (q_call (c_impl_namesOk v0.1 x_v0.1 h5) rfl (EntsB.cons (Ent.b (Ent.dimm Ent.z.s)) EntsB.nil))) (w_p (v := .bool (true)) rfl ((Pu.eqv (v := .bool (r4)) (p_move rfl) (congrArg Value.bool h6))) (w_p rfl (p_fabE fa38_1 rfl rfl) ?_))
  refine w_o rfl (fun F => (q_ldb ty36 rfl (Has.here.app F) rfl)) (w_p rfl (p_fabE fa38_0 rfl rfl) ?_)
  refine w_o rfl (fun F => (q_ldb ty30 rfl (Has.here.app F) rfl)) (bdo H fun r7 h8 H => (w_ed rfl (by decide) rfl Rdy.nil rfl (n_callB (c_impl_indexOf v0.1 x_v0.1 h8) (fun _ => (Solo.tree (Solo.tree Solo.nil))) rfl (EntsB.cons (Ent.b (Ent.dimm Ent.z.s)) EntsB.nil)) ?_))
  rintro _ _ _ ⟨x9, rfl, rfl, rfl⟩
  refine ⟨(PdOk.anc (by kernel_rfl) (PdOk.q rfl rfl (fun F => (q_ldb ty36 rfl (hs2.app F) rfl)) (PdOk.anc (by kernel_rfl) (PdOk.q rfl rfl (fun F => (q_ldb ty30 rfl (hs2.app F) rfl)) PdOk.nil)))), ?_⟩
  refine w_p rfl ((p_field1 underlying38 rfl ty36 rfl rfl)) (bdo H fun r10 h11 H => ?_)
  refine w_o rfl (fun F => (q_call (c_slices_EqualFunc_Post_Post_Post_Post_IndexOk_1 v0.2 x_v0.2 r7.2 x9.2 h11) rfl (EntsB.cons (Ent.b (Ent.dimm Ent.z)) (EntsB.cons (EntB.tree (hs1.app F)) EntsB.nil)))) (w_p rfl (p_pickT rfl rfl) (w_p rfl (p_assign rfl) (w_nil (nT (?_)))))
  obtain rfl := si H
  exact tRet bk
 ·have H := cdF h6 H
  refine tNwS [(1, .pointer (some ⟨g3, 0, none⟩))] 1 [0, 1, 2, 3, 4, 5, 6, 7, 8, 9, 10, 11, 12] [] [] mixed (by kernel_rfl) (by decide) List.nodup_nil ⟨rfl, trivial⟩ rfl okNil (w_p rfl (p_fabE fa38_0 rfl rfl) ?_)
  refine w_o rfl (fun F => (q_ldb ty30 rfl (Has.here.app F) rfl)) ?_
  refine w_o rfl (fun F => (q_call (c_impl_namesOk v0.1 x_v0.1 h5) rfl (EntsB.cons (Ent.b (Ent.dimm Ent.z.s)) EntsB.nil))) (w_p (v := .bool (false)) rfl ((Pu.eqv (v := .bool (r4)) (p_move rfl) (congrArg Value.bool h6))) (w_skip rfl (by decide) rfl rfl rfl (w_skip rfl (by decide) rfl rfl rfl (w_skip rfl (by decide) rfl rfl rfl (w_skip rfl (by decide) rfl rfl rfl (w_skip rfl (by decide) rfl rfl rfl (w_skip rfl (by decide) rfl rfl rfl (w_skip rfl (by decide) rfl rfl rfl (w_p (v := .bool (false)) rfl (p_pickF rfl rfl) ?_)))))))))
  refine w_p (v := .bool (false)) rfl (p_assign rfl) (w_nil (nT (?_)))
  obtain rfl := si H
  exact tRet bk
noncomputable def p_slices_Max_int_int_b0 (v0 : (List Int)) (Q7 : Int × Int) : Option ((Int × Int) ⊕ (Int)) := cond (decide (Q7.2 < (v0.length : Int))) (gd (ix Q7.2 v0.length) <| gd (I64 (Q7.2 + 1)) <| some (.inl (max Q7.1 (nth v0 Q7.2.toNat), Q7.2 + 1))) (some (.inr Q7.1))
noncomputable def p_slices_Max_int_int (v0 : (List Int)) : Option (Int) := cond (decide ((v0.length : Int) < 1)) (none) (gd (ix 0 v0.length) <| bd (lp (p_slices_Max_int_int_b0 v0) (nth v0 0, 1)) fun x3 => some x3)
theorem c_slices_Max_int_int {r : Int} (v0 : (List Int)) (x_v0 : Option Addr × Nat) (H : p_slices_Max_int_int v0 = some r) : Fn' prog 113 #[.slice x_v0.1 v0.length x_v0.2] [imm (.slice x_v0.1 v0.length x_v0.2) v0] [] (ι := Unit) (fun _ => .int .i64 (r)) (fun _ => []) (fun _ => []) := by
 refine cof (args := [_]) func113 ntmps113 fun c => ?_
 unfold p_slices_Max_int_int at H
 refine sr (Rg.a (v := .int .i64 (0)) rfl (nl (Tr.seq (sr (Rg.m rfl (Rg.p (p_len 3 underlying23 rfl) (Rg.p (p_lss rfl rfl) (nl (cH H rfl (fun h1 H => ?_) (fun h1 H => ?_))))))))))
 ·exact nomatch H
 ·refine tSkip (nT (sr (Rg.m rfl (gdo H fun h2 H => (Rg.o (q_ixg underlying23 ty3 rfl rfl h2 rfl (EntB.flat (Ent.b Ent.z))) (Rg.o (q_lde (i := 0) (j := 0) ty3 rfl (EntB.flat (Ent.b Ent.z)) h2.lt rfl) (Rg.a rfl (nl (Tr.seq (sr (Rg.a (v := .int .i64 (1)) rfl (nl ?_))))))))))))
  refine bdo H fun x3 hx4 H => (tMidNC (ι := Unit) (fun ψ => [(3, .int .i64 (x3))]) (fun ψ => []) ?_ ?_)
  ·refine Tr.block (tLoopI hx4 () (fun Q7 _ => [(0, .slice x_v0.1 v0.length x_v0.2), (3, .int .i64 (Q7.1)), (4, .int .i64 (Q7.2))]) (fun _ _ => []) Take.nil ?_)
   rintro _ Q7 z8 t10 H1 hi11 hb12
   unfold p_slices_Max_int_int_b0 at H1
   refine Tr.seq (sr (Rg.m rfl (Rg.m rfl (Rg.p (p_len 3 underlying23 rfl) (Rg.p (p_lss rfl rfl) (nl (cH H1 rfl (fun h15 H1 => ?_) (fun h15 H1 => ?_))))))))
   ·refine tSkip (nT (Tr.seq (Tr.block (Tr.region (Rg.m rfl (Rg.m rfl (Rg.m rfl (gdo H1 fun h16 H1 => (Rg.o (q_ixg underlying23 ty3 rfl rfl h16 rfl (EntB.flat (Ent.b Ent.z))) (Rg.o (q_lde (i := Q7.2.toNat) (j := 0) ty3 rfl (EntB.flat (Ent.b Ent.z)) h16.lt rfl) ?_))))))))))
    exact Rg.p (v := .int .i64 (max Q7.1 (nth v0 Q7.2.toNat))) (p_max rfl rfl) (Rg.a rfl (Rg.nl (nB (nT (Tr.region (Rg.m rfl (gdo H1 fun h17 H1 => (Rg.p (p_add rfl rfl h17) (Rg.a rfl (Rg.nl (nLI () (hi11 _ (sm H1)) Take.nil)))))))))))
   ·refine tExit (xT (xT (xE (?_))))
    obtain rfl := hb12 _ (sm H1)
    exact nMC () ⟨rfl, trivial⟩ Ents.refl Take.nil
  ·intro y9
   show At _ _ [(3, .int .i64 (x3))] _ [] _
   refine nT (sr (Rg.m rfl (Rg.a rfl (nl ?_))))
   obtain rfl := si H
   exact tRet bk
noncomputable def p_impl_PartOf (v0 : Part) (v1 : Int) : Option ((List Row)) := bd (p_slices_Index_int_int v0.1 v1) fun r3 => bd (bd (p_impl_PartOk v0) fun r7 => cond (!r7) (some (true)) (some (decide (r3 < 0)))) fun b5 => cond (b5) (some ([] : List Row)) (gd (ix r3 v0.2.length) <| gd (room (([] : List Row).length + (nth v0.2 r3.toNat).length)) <| some (([] : List Row) ++ (nth v0.2 r3.toNat)))
theorem c_impl_PartOf {r : (List Row)} (v0 : Part) (x_v0 : (Option Addr × Nat) × (Option Addr × Nat)) (v1 : Int) (H : p_impl_PartOf v0 v1 = some r) : Fn' prog 146 #[.agg #[.slice x_v0.1.1 v0.1.length x_v0.1.2, .slice x_v0.2.1 v0.2.length x_v0.2.2], .int .i64 (v1)] [imm (.slice x_v0.1.1 v0.1.length x_v0.1.2) v0.1, imm (.slice x_v0.2.1 v0.2.length x_v0.2.2) v0.2] [] (ι := Option Addr × Nat) (fun x => .slice x.1 r.length x.2) (fun _ => []) (fun x => [tree (.slice x.1 r.length x.2) r]) := by
 refine cof (args := [_, _]) func146 ntmps146 fun c => ?_
 unfold p_impl_PartOf at H
 refine Tr.openD Ent.z.s fun X1 => (sr (f1 (e_box (t := 75) rfl) fun g2 => (Rg.a (v := .slice none 0 0) rfl (nl (sr (Rg.p (p_fabE fa75_0 rfl rfl) (Rg.o (q_ldb ty23 rfl Has.here rfl) (Rg.m rfl (bdo H fun r3 h4 H => (Rg.o (q_call (c_slices_Index_int_int v0.1 x_v0.1 v1 h4) rfl (EntsB.cons (Ent.b Ent.z.s) EntsB.nil)) ?_))))))))))
 refine Rg.a rfl (nl (Tr.seq (bdo H fun b5 j6 H => (tMid1 [(16, .bool (b5)), (5, .int .i64 (r3)), (2, .pointer (some ⟨g2, 0, none⟩))] ?_ ?_))))
 ·refine tLinT [(5, .int .i64 (r3)), (2, .pointer (some ⟨g2, 0, none⟩))] ⟨rfl, rfl, trivial⟩ (Lin.o (q_ldbA ty75 rfl Has.here rfl) (bdo j6 fun r7 h8 j6 => (Lin.o (q_call (c_impl_PartOk v0 x_v0 h8) rfl (EntsB.cons (Ent.b Ent.z.s) (EntsB.cons (Ent.b (Ent.dimm Ent.z)) EntsB.nil))) (Lin.p (p_not rfl) ?_))))
  rcases Bool.eq_false_or_eq_true (!r7) with h9 | h9
  ·have j6 := cdT h9 j6
   refine Lin.e_ (p_move rfl) h9 ?_
   iterate 2 refine Lin.sk rfl ?_
   refine Lin.p (v := .bool (true)) (p_pickT rfl rfl) ?_
   obtain rfl := si j6
   show At _ _ _ _ _ _
   exact n1 ⟨rfl, rfl, rfl, trivial⟩
  ·have j6 := cdF h9 j6
   refine Lin.e_ (p_move rfl) h9 (Lin.h rfl (p_move rfl) (Lin.h rfl (p_lss rfl rfl) (Lin.p (p_pickF rfl rfl) ?_)))
   obtain rfl := si j6
   show At _ _ _ _ _ _
   exact n1 ⟨rfl, rfl, rfl, trivial⟩
 refine cH H rfl (fun h10 H => ?_) (fun h10 H => ?_)
 ·refine sr (f2 (e_lit0 Row underlying130 ty135) fun a11 c12 => (Rg.a rfl (nl (tRet (rT (?_))))))
  obtain rfl := si H
  exact back1 (a11, c12) rfl (ResV.tmp (v := .slice a11 (([] : List Row).length) c12) rfl) rfl Ents.nil (.cons Del.here .nil)
 ·refine tSkip (nT (sr (f2 (e_lit0 Row underlying130 ty135) fun a13 c14 => (Rg.p (p_fabE fa75_1 rfl rfl) (Rg.o (q_ldb ty73 rfl hs1 rfl) (Rg.m rfl (gdo H fun h15 H => (Rg.o (q_ixg underlying73 ty130 rfl rfl h15 rfl (Ent.b (Ent.darr Ent.z))) (Rg.o (q_lde (i := r3.toNat) (j := 0) ty130 rfl (Ent.b (Ent.darr Ent.z)) h15.lt rfl) ?_)))))))))
  refine gdo H fun h18 H => (f2 (e_appF (l := ([] : List Row)) (k := nth v0.2 r3.toNat) (α := Row) underlying130 ty135 rfl rfl (h18.b (by decide)) h18.x (.cons Del.here .nil) (Ent.b (Ent.dimm (Ent.del Ent.z h15.lt)))) fun a16 c17 => (Rg.a rfl (nl (tRet ?_))))
  obtain rfl := si H
  exact back1 (a16, c17) rfl (ResV.tmp (v := .slice a16 ((([] : List Row) ++ (nth v0.2 r3.toNat)).length) c17) rfl) rfl Ents.nil (.cons Del.here .nil)
def p_slices_Insert_Row_Row (v0 : List Row) (v1 : Int) (v2 : List Row) : Option (List Row) := p_insert v0 v1 v2
theorem c_slices_Insert_Row_Row {r : (List Row)} (v0 : (List Row)) (x_v0 : Option Addr × Nat) (v1 : Int) (v2 : (List Row)) (x_v2 : Option Addr × Nat) (H : p_slices_Insert_Row_Row v0 v1 v2 = some r) : Fn' prog 187 #[.slice x_v0.1 v0.length x_v0.2, .int .i64 (v1), .slice x_v2.1 v2.length x_v2.2] [] [tree (.slice x_v0.1 v0.length x_v0.2) v0, tree (.slice x_v2.1 v2.length x_v2.2) v2] (ι := Option Addr × Nat) (fun x => .slice x.1 r.length x.2) (fun _ => []) (fun x => [tree (.slice x.1 r.length x.2) r]) := by
 refine cof (args := [_, _, _]) func187 ntmps187 fun c => ?_
 unfold p_slices_Insert_Row_Row p_insert at H
 obtain ⟨h1, H⟩ := gd.of H; obtain ⟨h2, H⟩ := gd.of H; obtain ⟨h3, H⟩ := gd.of H
 obtain ⟨oa, cp⟩ := x_v0; obtain ⟨ob, cq⟩ := x_v2
 obtain ⟨i, rfl⟩ := Int.eq_ofNat_of_zero_le h1.1
 have hi : i ≤ v0.length := Int.ofNat_le.1 h1.2
 have hr : v0.take i ++ v2 ++ v0.drop i = r := Option.some.inj H
 subst hr
 have hrm : v0.length + v2.length ≤ 1073741824 := h2
 refine Tr.bnd Has.here fun _ b1 b2 => (sr (Rg.a (v := .slice none 0 0) rfl (Rg.nl (nT (sr (Rg.m rfl (Rg.m rfl (Rg.p (v := .slice (subA oa cp (i : Int).toNat (Enc.sz Row)) (v0.length - (i : Int).toNat) (cp - (i : Int).toNat)) (p_slAny underlying130 (show TyI _ _ _ (Enc.sz Row) _ _ from ty135) rfl rfl h1.1 h1.2 b1) (Rg.nl (nT (sr ?_)))))))))))
 refine Rg.m rfl (Rg.p (p_len 135 underlying130 rfl) (Rg.a rfl (Rg.nl (nT (Tr.seq (sr (Rg.m rfl (Rg.p (p_eql rfl rfl) (Rg.nl (nT (Tr.cond (b := decide ((v2.length : Int) = 0)) rfl (fun h => absurd (of_decide_eq_true h) (by omega)) (fun _ => (tSkip ?_)))))))))))))
 refine nT (sr (Rg.m rfl (Rg.p (p_len 135 underlying130 rfl) (Rg.a rfl (Rg.nl (nT (Tr.seq (sr (Rg.m rfl (Rg.m rfl (Rg.p (p_eql rfl rfl) (Rg.nl ?_))))))))))))
 refine nT (Tr.cond (b := decide ((i : Int) = (v0.length : Int))) rfl (fun h => ?_) (fun h => ?_))
 ·have hin : i = v0.length := Int.ofNat_inj.1 (of_decide_eq_true h)
  subst hin
  refine sr (Rg.m rfl (Rg.m rfl (f2 (e_appF (l := v0) (k := v2) (α := Row) underlying130 ty135 rfl rfl (room.b h2 (by decide)) (room.x h2) (.cons Del.here .nil) (EntB.tree Has.here)) fun oa2 cp2 => (Rg.a rfl (Rg.nl (nT (tRet ?_)))))))
  have hE : v0.take v0.length ++ v2 ++ v0.drop v0.length = v0 ++ v2 := by rw [List.take_length, List.drop_length, List.append_nil]
  rw [hE]
  exact back1 (oa2, cp2) rfl (ResV.tmp (v := .slice oa2 ((v0 ++ v2).length) (cp2)) rfl) rfl Ents.nil (.cons Del.here .nil)
 have hne : i < v0.length := Nat.lt_of_le_of_ne hi fun e => absurd (e ▸ h) (by simp)
 refine tSkip (nT (Tr.seq (sr (Rg.m rfl (Rg.m rfl ?_)))))
 refine Rg.p (p_add rfl rfl (by unfold I64; omega)) ?_
 refine Rg.m rfl (Rg.p (v := .int .i64 (cp : Int)) (p_cap 135 underlying130 rfl) (Rg.p (p_gtr rfl rfl) (Rg.nl (nT (Tr.unT (.cons Del.here .nil) (by omega) fun g bt js e1 _ _ _ l1 l2 l3 => ?_)))))
 subst e1
 have l2 : v0.length * Enc.sz Row + js.length = cp * Enc.sz Row := l2
 refine Tr.unT (.cons (Del.there Del.here) .nil) h3 fun g2 bt2 js2 e1 _ _ _ k1 k2 k3 => ?_
 subst e1
 have hA1 : ((v0.take i).flatMap Flat.enc).length = i * Enc.sz Row := by rw [flat_flen fun x hx => (l3 x (List.mem_of_mem_take hx)).2.1, List.length_take, Nat.min_eq_left hi]
 have hA2 : ((v0.drop i).flatMap Flat.enc).length = (v0.length - i) * Enc.sz Row := by rw [flat_flen fun x hx => (l3 x (List.mem_of_mem_drop hx)).2.1, List.length_drop]
 have hAA : v0.flatMap Flat.enc = (v0.take i).flatMap Flat.enc ++ (v0.drop i).flatMap Flat.enc := by rw [← List.flatMap_append, List.take_append_drop]
 have hall : ∀ x ∈ v0.take i ++ v2 ++ v0.drop i, Flat.wf x ∧ (Flat.enc x).length = Enc.sz Row := ins_all (fun x hx => ⟨(l3 x hx).1, (l3 x hx).2.1⟩) (fun x hx => ⟨(k3 x hx).1, (k3 x hx).2.1⟩)
 have hlen : (v0.take i ++ v2 ++ v0.drop i).length = v0.length + v2.length := by simp; omega
 have o1 : ∀ v ∈ (v0.drop i).flatMap Flat.enc, v.oneCell' = true := fun v hv => by obtain ⟨x, hx, hv⟩ := List.mem_flatMap.1 hv; exact (l3 x (List.mem_of_mem_drop hx)).2.2 v hv
 have o2 : ∀ v ∈ v2.flatMap Flat.enc, v.oneCell' = true := fun v hv => by obtain ⟨x, hx, hv⟩ := List.mem_flatMap.1 hv; exact (k3 x hx).2.2 v hv
 have q0 : i * Enc.sz Row + v2.length * Enc.sz Row = (i + v2.length) * Enc.sz Row := (Nat.add_mul _ _ _).symm
 have q1 : i * Enc.sz Row + (v0.length - i) * Enc.sz Row = v0.length * Enc.sz Row := by rw [← Nat.add_mul]; congr 1; omega
 have q2 : (v0.length + v2.length) * Enc.sz Row = v0.length * Enc.sz Row + v2.length * Enc.sz Row := Nat.add_mul _ _ _
 refine Tr.cond (b := decide ((cp : Int) < (v0.length : Int) + (v2.length : Int))) rfl (fun h => ?_) (fun h => ?_)
 ·have h := of_decide_eq_true h
  refine sr (Rg.m rfl (Rg.m rfl (Rg.p (v := .slice (some ⟨g, 0, none⟩) (i) (cp)) (p_slHi i underlying130 (show TyI _ _ _ (Enc.sz Row) _ _ from ty135) rfl rfl rfl (by omega)) (Rg.m rfl (Rg.m rfl ?_)))))
  refine Rg.p (p_add rfl rfl (by unfold I64; omega)) ?_
  refine Rg.m rfl ?_
  refine Rg.p (p_sub rfl rfl (by unfold I64; omega)) ?_
  refine Rg.ef (e_appZ (k := v0.length + v2.length - i) (olds := (v0.take i).flatMap Flat.enc) underlying130 underlying3 (show TyI _ _ _ (Enc.sz Row) _ _ from ty135) (Enc.pos (α := Row)) rfl rfl (by omega) (Has.there Has.here) (by rw [hAA, List.append_assoc, ← hA1]; exact List.take_left.symm) hA1 (by omega) (by omega) (by rw [show i + (v0.length + v2.length - i) = v0.length + v2.length by omega]; exact room.b h2 (by decide)) (by omega)) rfl ?_
  rintro _ _ _ ⟨g3, cp3, js3, rfl, m1, m2, m3, rfl, rfl⟩
  refine Rg.a rfl (nl ?_)
  have hn3 : i + (v0.length + v2.length - i) = v0.length + v2.length := by omega
  have m4 := Nat.mul_le_mul_right (Enc.sz Row) m1
  rw [hn3] at m4
  refine sr (Rg.m rfl (Rg.m rfl (Rg.p (v := .slice (some ⟨g3, i * Enc.sz Row, none⟩) (i + (v0.length + v2.length - i) - i) (cp3 - i)) (p_slLo i underlying130 (show TyI _ _ _ (Enc.sz Row) _ _ from ty135) rfl rfl rfl (by omega) m1 (by omega)) (Rg.m rfl ?_))))
  refine f0 (e_cpB (m := v2.length) (ks := v2.flatMap Flat.enc) underlying130 (show TyI _ _ _ (Enc.sz Row) _ _ from ty135) rfl rfl (Nat.min_eq_left (by omega)) (by rw [List.drop_zero, ← k1]; exact List.take_left.symm) k1 Upd.here (Has.there Has.here) (by rw [List.length_append, hA1]; omega) o2) ?_
  refine Rg.nl (nT (Tr.seq (tNw 2 [0, 1, 2, 3, 4, 5, 6, 7, 8] [8] [] mixed (by kernel_rfl) (by decide) List.nodup_nil okNil (w_p rfl (p_move rfl) (w_p rfl (p_move rfl) (w_p rfl (p_move rfl) ?_))))))
  refine w_p rfl (p_add rfl rfl (by unfold I64; omega)) ?_
  refine w_p (v := .slice (some ⟨g3, (i + v2.length) * Enc.sz Row, none⟩) (i + (v0.length + v2.length - i) - (i + v2.length)) (cp3 - (i + v2.length))) rfl (p_slLo (i + v2.length) underlying130 (show TyI _ _ _ (Enc.sz Row) _ _ from ty135) rfl rfl rfl (by omega) m1 (by omega)) (w_p rfl (p_move rfl) (w_p rfl (p_move rfl) (w_p (v := .slice (some ⟨g, i * Enc.sz Row, none⟩) (v0.length - i) (cp - i)) rfl (p_slLo i underlying130 (show TyI _ _ _ (Enc.sz Row) _ _ from ty135) rfl rfl rfl (by omega) b1 (by omega)) ?_)))
  refine w_ed rfl (by decide) rfl Rdy.nil rfl (n_cpB (m := v0.length - i) (ks := (v0.drop i).flatMap Flat.enc) underlying130 (show TyI _ _ _ (Enc.sz Row) _ _ from ty135) rfl rfl (Nat.min_eq_left (by omega)) (by rw [hAA, List.append_assoc, ← hA1, List.drop_left, ← hA2]; exact List.take_left.symm) hA2 Upd.here (Has.there (Has.there Has.here)) (by rw [← q0, Nat.add_assoc]; exact hlenNew hA1 k1 (by omega)) o1) ?_
  rintro _ _ _ ⟨rfl, rfl, rfl⟩
  refine ⟨PdOk.nil, ?_⟩
  refine w_nil (nT (sr (Rg.m rfl (Rg.a rfl (Rg.nl (nT (tRet ?_)))))))
  refine At.mkF (n := i + (v0.length + v2.length - i)) (v0.take i ++ v2 ++ v0.drop i) (js3.drop (v2.length * Enc.sz Row + (v0.length - i) * Enc.sz Row)) (.cons Del.here .nil) (by omega) (by rw [← q0, ins_new hA1 k1 hA2 (by omega), List.flatMap_append, List.flatMap_append]) (by omega) m2 (by rw [← q0, ins_new hA1 k1 hA2 (by omega)]; simp only [List.length_append, List.length_drop, hA1, k1, hA2]; omega) hall ?_
  exact back1 (some ⟨g3, 0, none⟩, cp3) rfl (ResV.tmp (v := .slice (some ⟨g3, 0, none⟩) (i + (v0.length + v2.length - i)) (cp3)) rfl) (by rw [hlen, hn3]) Ents.nil (.cons (by rw [hlen, hn3]; exact Del.here) .nil)
 have h := of_decide_eq_false h
 refine tSkip (nT ?_)
 have p4 := Nat.mul_le_mul_right (Enc.sz Row) (show v0.length + v2.length ≤ cp by omega)
 refine sr (Rg.m rfl (Rg.m rfl (Rg.m rfl ?_)))
 refine Rg.p (p_add rfl rfl (by unfold I64; omega)) ?_
 refine Rg.p (v := .slice (some ⟨g, 0, none⟩) (v0.length + v2.length) (cp)) (p_slHi (v0.length + v2.length) underlying130 (show TyI _ _ _ (Enc.sz Row) _ _ from ty135) rfl rfl (by omega) (by omega)) (Rg.a rfl (Rg.nl (nT (Tr.seq (sr (Rg.m rfl (Rg.m rfl (Rg.m rfl (Rg.m rfl ?_)))))))))
 refine Rg.p (p_add rfl rfl (by unfold I64; omega)) ?_
 refine Rg.p (v := .slice (some ⟨g, (i + v2.length) * Enc.sz Row, none⟩) (v0.length + v2.length - (i + v2.length)) (cp - (i + v2.length))) (p_slLo (i + v2.length) underlying130 (show TyI _ _ _ (Enc.sz Row) _ _ from ty135) rfl rfl rfl (by omega) (by omega) (by omega)) ?_
 refine Rg.o (v := .bool (false)) (q_ov (tR := 4) func199 (by kernel_rfl) (by kernel_rfl) (by kernel_rfl) (by kernel_rfl) underlying130 (show TyI _ _ _ (Enc.sz Row) _ _ from ty135) rfl rfl (.cons Del.here (.cons Del.here .nil)) (cells_ne (by rw [l1]; have := Nat.mul_le_mul_right (Enc.sz Row) (show 1 ≤ v0.length by omega); have := Enc.pos (α := Row); omega))) ?_
 refine Rg.p (p_not rfl) (Rg.nl (nT (Tr.condT rfl (Tr.seq (tNw 2 [0, 1, 2, 3, 4, 5, 6, 7, 8] [8] [] mixed (by kernel_rfl) (by decide) List.nodup_nil okNil (w_p rfl (p_move rfl) (w_p rfl (p_move rfl) (w_p rfl (p_move rfl) ?_))))))))
 refine w_p rfl (p_add rfl rfl (by unfold I64; omega)) ?_
 refine w_p (v := .slice (some ⟨g, (i + v2.length) * Enc.sz Row, none⟩) (v0.length + v2.length - (i + v2.length)) (cp - (i + v2.length))) rfl (p_slLo (i + v2.length) underlying130 (show TyI _ _ _ (Enc.sz Row) _ _ from ty135) rfl rfl rfl (by omega) (by omega) (by omega)) (w_p rfl (p_move rfl) (w_p rfl (p_move rfl) (w_p (v := .slice (some ⟨g, i * Enc.sz Row, none⟩) (v0.length + v2.length - i) (cp - i)) rfl (p_slLo i underlying130 (show TyI _ _ _ (Enc.sz Row) _ _ from ty135) rfl rfl rfl (by omega) (by omega) (by omega)) ?_)))
 refine w_ed rfl (by decide) rfl Rdy.nil rfl (n_cpB (m := v0.length - i) (ks := (v0.drop i).flatMap Flat.enc) underlying130 (show TyI _ _ _ (Enc.sz Row) _ _ from ty135) rfl rfl (by show min _ _ = _; omega) (by rw [hAA, List.append_assoc, ← hA1, List.drop_left, ← hA2]; exact List.take_left.symm) hA2 (Upd.there Upd.here) (Has.there Has.here) (by rw [List.length_append, l1, ← q0]; omega) o1) ?_
 rintro _ _ _ ⟨rfl, rfl, rfl⟩
 refine ⟨PdOk.nil, ?_⟩
 refine w_nil (nT (sr (Rg.m rfl (Rg.m rfl (Rg.p (v := .slice (some ⟨g, i * Enc.sz Row, none⟩) (v0.length + v2.length - i) (cp - i)) (p_slLo i underlying130 (show TyI _ _ _ (Enc.sz Row) _ _ from ty135) rfl rfl rfl (by omega) (by omega) (by omega)) (Rg.m rfl ?_))))))
 refine f0 (e_cpB (m := v2.length) (ks := v2.flatMap Flat.enc) underlying130 (show TyI _ _ _ (Enc.sz Row) _ _ from ty135) rfl rfl (by show min _ _ = _; omega) (by rw [List.drop_zero, ← k1]; exact List.take_left.symm) k1 (Upd.there Upd.here) Has.here (by rw [← q0, hAA]; exact hlenHere hA1 hA2 k1 (by omega)) o2) ?_
 refine Rg.nl (nT (sr (Rg.m rfl (Rg.a rfl (Rg.nl (nT (tRet ?_)))))))
 have hX := ins_here (js := js) hA1 k1 hA2 (by omega)
 refine At.mkF (n := v0.length + v2.length) (v0.take i ++ v2 ++ v0.drop i) (((v0.take i).flatMap Flat.enc ++ (v0.drop i).flatMap Flat.enc ++ js).drop (i * Enc.sz Row + v2.length * Enc.sz Row + (v0.length - i) * Enc.sz Row)) (.cons (Del.there Del.here) .nil) (by omega) (by rw [← q0, hAA, hX, List.flatMap_append, List.flatMap_append]) (by omega) b2 (by rw [← q0, hAA, hX]; simp only [List.length_append, List.length_drop, hA1, k1, hA2]; omega) hall ?_
 exact back1 (some ⟨g, 0, none⟩, cp) rfl (ResV.tmp (v := .slice (some ⟨g, 0, none⟩) (v0.length + v2.length) (cp)) rfl) (by rw [hlen]) Ents.nil (.cons (by rw [hlen]; exact Del.here) .nil)
noncomputable def p_impl_put_b0 (v0 : (List Row)) (v1 : Row) (Q11 : Int) : Option ((Int) ⊕ (Int)) := bd (cond (decide (Q11 < ((([] : List Row) ++ v0).length : Int))) (gd (ix Q11 (([] : List Row) ++ v0).length) <| some (decide (((nth (([] : List Row) ++ v0) Q11.toNat).1) < v1.1))) (some (false))) fun b19 => cond (b19) (gd (I64 (Q11 + 1)) <| some (.inl (Q11 + 1))) (some (.inr Q11))
noncomputable def p_impl_put (v0 : (List Row)) (v1 : Row) : Option ((List Row)) := gd (room (([] : List Row).length + v0.length)) <| bd (lp (p_impl_put_b0 v0 v1) 0) fun x7 => bd (cond (decide (x7 < ((([] : List Row) ++ v0).length : Int))) (gd (ix x7 (([] : List Row) ++ v0).length) <| some (decide (((nth (([] : List Row) ++ v0) x7.toNat).1) = v1.1))) (some (false))) fun b25 => cond (b25) (gd (ix x7 (([] : List Row) ++ v0).length) <| some ((([] : List Row) ++ v0).set x7.toNat v1)) (bd (p_slices_Insert_Row_Row (([] : List Row) ++ v0) x7 ([v1] : List Row)) fun r35 => gd (room (([] : List Row).length + r35.length)) <| some (([] : List Row) ++ r35))
theorem c_impl_put {r : (List Row)} (v0 : (List Row)) (x_v0 : Option Addr × Nat) (v1 : Row) (H : p_impl_put v0 v1 = some r) : Fn' prog 161 #[.slice x_v0.1 v0.length x_v0.2, .agg #[.int .i64 (v1.1), .int .i64 (v1.2)]] [imm (.slice x_v0.1 v0.length x_v0.2) v0] [] (ι := Option Addr × Nat) (fun x => .slice x.1 r.length x.2) (fun _ => []) (fun x => [tree (.slice x.1 r.length x.2) r]) := by
 refine cof (args := [_, _]) func161 ntmps161 fun c => ?_
 unfold p_impl_put at H
 refine sr (f1 (e_box (t := 135) rfl) fun g1 => (Rg.a (v := .slice none 0 0) rfl (nl (sr (f2 (e_lit0 Row underlying130 ty135) fun a2 c3 => (Rg.m rfl (gdo H fun h6 H => (f2 (e_appF (l := ([] : List Row)) (k := v0) (α := Row) underlying130 ty135 rfl rfl (h6.b (by decide)) h6.x (.cons Del.here .nil) (Ent.b Ent.z)) fun a4 c5 => (Rg.a rfl (nl (sr ?_)))))))))))
 refine Rg.a (v := .int .i64 (0)) rfl (nl (bdo H fun x7 hx8 H => (tMidC (ι := Unit) (fun ψ => [(3, .pointer (some ⟨g1, 0, none⟩)), (5, .slice a4 ((([] : List Row) ++ v0).length) c5), (6, .int .i64 (x7))]) (fun ψ => [box g1 135 [.int .i64 (v1.1), .int .i64 (v1.2)], tree (.slice a4 ((([] : List Row) ++ v0).length) c5) (([] : List Row) ++ v0)]) ?_ ?_)))
 ·refine Tr.block (tLoopI hx8 () (fun Q11 _ => [(3, .pointer (some ⟨g1, 0, none⟩)), (5, .slice a4 ((([] : List Row) ++ v0).length) c5), (6, .int .i64 (Q11))]) (fun _ _ => [box g1 135 [.int .i64 (v1.1), .int .i64 (v1.2)], tree (.slice a4 ((([] : List Row) ++ v0).length) c5) (([] : List Row) ++ v0)]) (.cons dl1 (.cons Del.here .nil)) ?_)
  rintro _ Q11 z12 t14 H1 hi15 hb16
  unfold p_impl_put_b0 at H1
  refine Tr.seq (bdo H1 fun b19 j20 H1 => (tMid1 [(23, .bool (b19)), (3, .pointer (some ⟨g1, 0, none⟩)), (5, .slice a4 ((([] : List Row) ++ v0).length) c5), (6, .int .i64 (Q11))] ?_ ?_))
  ·refine tLinS [(3, .pointer (some ⟨g1, 0, none⟩)), (5, .slice a4 ((([] : List Row) ++ v0).length) c5), (6, .int .i64 (Q11))] mixed (.inr (by kernel_rfl)) ⟨rfl, rfl, rfl, trivial⟩ rfl (Lin.m rfl (Lin.m rfl (Lin.p (p_len 135 underlying130 rfl) (Lin.p (p_lss rfl rfl) ?_))))
   rcases Bool.eq_false_or_eq_true (decide (Q11 < ((([] : List Row) ++ v0).length : Int))) with h21 | h21
   ·have j20 := cdT h21 j20
    refine Lin.e_ (p_move rfl) h21 (Lin.h rfl (p_move rfl) (Lin.h rfl (p_move rfl) (gdo j20 fun h22 j20 => (Lin.i rfl (q_ixO' underlying130 ty135 rfl rfl h22 hs1) (Lin.i rfl (q_faeE (j := 0) Q11.toNat fa135_0 rfl (EntB.flat (EntB.tree hs1)) h22.lt rfl) (Lin.i rfl (q_lde (i := Q11.toNat) (j := 0) ty3 rfl (EntB.flat (EntB.tree hs1)) h22.lt rfl) (Lin.h rfl (p_fabE fa135_0 rfl rfl) (Lin.i rfl (q_ldb ty3 rfl Has.here rfl) (Lin.h rfl (p_lss rfl rfl) ?_)))))))))
    refine Lin.p (p_pickT rfl rfl) ?_
    obtain rfl := si j20
    show At _ _ _ _ _ _
    exact n1 ⟨rfl, rfl, rfl, rfl, trivial⟩
   ·have j20 := cdF h21 j20
    refine Lin.e_ (p_move rfl) h21 ?_
    iterate 8 refine Lin.sk rfl ?_
    refine Lin.p (v := .bool (false)) (p_pickF rfl rfl) ?_
    obtain rfl := si j20
    show At _ _ _ _ _ _
    exact n1 ⟨rfl, rfl, rfl, rfl, trivial⟩
  refine cH H1 rfl (fun h23 H1 => ?_) (fun h23 H1 => ?_)
  ·exact tSkip (nT (Tr.block (Tr.region (Rg.m rfl (gdo H1 fun h24 H1 => (Rg.p (p_add rfl rfl h24) (Rg.a rfl (Rg.nl (nB (nLI () (hi15 _ (sm H1)) (.cons Del.here (.cons Del.here .nil)) ))))))))))
  ·refine tExit (xT (xT (xE (?_))))
   obtain rfl := hb16 _ (sm H1)
   exact nMC () ⟨rfl, rfl, rfl, trivial⟩ Ents.refl (.cons Del.here (.cons Del.here .nil))
 ·intro y13
  show Tr _ _ _ _ _ [(3, .pointer (some ⟨g1, 0, none⟩)), (5, .slice a4 ((([] : List Row) ++ v0).length) c5), (6, .int .i64 (x7))] _ [box g1 135 [.int .i64 (v1.1), .int .i64 (v1.2)], tree (.slice a4 ((([] : List Row) ++ v0).length) c5) (([] : List Row) ++ v0)]
  refine Tr.seq (bdo H fun b25 j26 H => (tMid1 [(39, .bool (b25)), (3, .pointer (some ⟨g1, 0, none⟩)), (5, .slice a4 ((([] : List Row) ++ v0).length) c5), (6, .int .i64 (x7))] ?_ ?_))
  ·refine tLinS [(3, .pointer (some ⟨g1, 0, none⟩)), (5, .slice a4 ((([] : List Row) ++ v0).length) c5), (6, .int .i64 (x7))] mixed (.inr (by kernel_rfl)) ⟨rfl, rfl, rfl, trivial⟩ rfl (Lin.m rfl (Lin.m rfl (Lin.p (p_len 135 underlying130 rfl) (Lin.p (p_lss rfl rfl) ?_))))
   rcases Bool.eq_false_or_eq_true (decide (x7 < ((([] : List Row) ++ v0).length : Int))) with h27 | h27
   ·have j26 := cdT h27 j26
    refine Lin.e_ (p_move rfl) h27 (Lin.h rfl (p_move rfl) (Lin.h rfl (p_move rfl) (gdo j26 fun h28 j26 => (Lin.i rfl (q_ixO' underlying130 ty135 rfl rfl h28 hs1) (Lin.i rfl (q_faeE (j := 0) x7.toNat fa135_0 rfl (EntB.flat (EntB.tree hs1)) h28.lt rfl) (Lin.i rfl (q_lde (i := x7.toNat) (j := 0) ty3 rfl (EntB.flat (EntB.tree hs1)) h28.lt rfl) (Lin.h rfl (p_fabE fa135_0 rfl rfl) (Lin.i rfl (q_ldb ty3 rfl Has.here rfl) (Lin.h rfl (p_eql rfl rfl) ?_)))))))))
    refine Lin.p (p_pickT rfl rfl) ?_
    obtain rfl := si j26
    show At _ _ _ _ _ _
    exact n1 ⟨rfl, rfl, rfl, rfl, trivial⟩
   ·have j26 := cdF h27 j26
    refine Lin.e_ (p_move rfl) h27 ?_
    iterate 8 refine Lin.sk rfl ?_
    refine Lin.p (v := .bool (false)) (p_pickF rfl rfl) ?_
    obtain rfl := si j26
    show At _ _ _ _ _ _
    exact n1 ⟨rfl, rfl, rfl, rfl, trivial⟩
  refine cH H rfl (fun h29 H => ?_) (fun h29 H => ?_)
  ·refine sr (Rg.m rfl (Rg.m rfl (Rg.o (q_ldbA ty135 rfl Has.here rfl) (gdo H fun h30 H => (Rg.o (q_ixO' underlying130 ty135 rfl rfl h30 hs1) (g0 (e_setT (l := (([] : List Row) ++ v0)) (α := Row) (oa := a4) x7.toNat v1 ((), ()) ty135 rfl rfl rfl h30.lt (ShpT.wfa _) (.cons dl1 .nil)) (nl (Tr.seq ?_))))))))
   refine Tr.olen Has.here fun hn => ?_; rw [hn]
   refine Tr.region (Rg.m rfl (Rg.a rfl (nl (tRet (rT (?_))))))
   obtain rfl := si H
   exact back1 (a4, c5) rfl (ResV.tmp (v := .slice a4 (((([] : List Row) ++ v0).set x7.toNat v1).length) c5) rfl) rfl Ents.nil (.cons Del.here .nil)
  ·refine tSkip (nT (sr (f2 (e_lit0 Row underlying130 ty135) fun a31 c32 => (Rg.m rfl (Rg.m rfl (Rg.o (q_ldbA ty135 rfl hs1 rfl) (f2 (e_litT (α := Row) (vs := [(0, .agg #[.int .i64 (v1.1), .int .i64 (v1.2)])]) [v1] rfl (fun _ => rfl) (fun _ _ => by repeat constructor) underlying130 ty135 rfl (by decide) (by decide) (by kernel_rfl)) fun a33 c34 => (bdo H fun r35 h36 H => (f1 (e_callM (c_slices_Insert_Row_Row (([] : List Row) ++ v0) (a4, c5) x7 ([v1] : List Row) (a33, c34) h36) (Solo.tree (Solo.tree Solo.nil)) (fun _ => (Solo.tree Solo.nil)) rfl (.cons dl3 (.cons Del.here .nil)) EntsB.nil) fun x37 => ?_)))))))))
   refine gdo H fun h40 H => (f2 (e_appF (l := ([] : List Row)) (k := r35) (α := Row) underlying130 ty135 rfl rfl (h40.b (by decide)) h40.x (.cons dl1 .nil) (EntB.tree Has.here)) fun a38 c39 => (Rg.a rfl (nl (tRet ?_))))
   obtain rfl := si H
   exact back1 (a38, c39) rfl (ResV.tmp (v := .slice a38 ((([] : List Row) ++ r35).length) c39) rfl) rfl Ents.nil (.cons Del.here .nil)
noncomputable def p_impl_Store_rows_b1 (r22 : (List Row)) (Q29 : (List Row) × Int) : Option (((List Row) × Int) ⊕ ((List Row))) := cond (decide (Q29.2 < (r22.length : Int))) (gd (ix Q29.2 r22.length) <| bd (p_impl_put Q29.1 (nth r22 Q29.2.toNat)) fun r40 => gd (I64 (Q29.2 + 1)) <| some (.inl (r40, Q29.2 + 1))) (some (.inr Q29.1))
noncomputable def p_impl_Store_rows_b0 (v0 : Store) (v1 : Int) (Q11 : (List Row) × Int) : Option (((List Row) × Int) ⊕ ((List Row))) := cond (decide (Q11.2 < (v0.2.1.length : Int))) (gd (ix Q11.2 v0.2.1.length) <| bd (p_impl_PartOf (nth v0.2.1 Q11.2.toNat) v1) fun r22 => bd (lp (p_impl_Store_rows_b1 r22) (Q11.1, 0)) fun x25 => gd (I64 (Q11.2 + 1)) <| some (.inl (x25, Q11.2 + 1))) (some (.inr Q11.1))
noncomputable def p_impl_Store_rows_b2 (v0 : Store) (v1 : Int) (Q49 : (List Row) × Int) : Option (((List Row) × Int) ⊕ ((List Row))) := cond (decide (Q49.2 < (v0.2.2.length : Int))) (gd (ix Q49.2 v0.2.2.length) <| cond (decide (((nth v0.2.2 Q49.2.toNat).1) = v1)) (bd (p_impl_put Q49.1 ((nth v0.2.2 Q49.2.toNat).2)) fun r61 => gd (I64 (Q49.2 + 1)) <| some (.inl (r61, Q49.2 + 1))) (gd (I64 (Q49.2 + 1)) <| some (.inl (Q49.1, Q49.2 + 1)))) (some (.inr Q49.1))
noncomputable def p_impl_Store_rows (v0 : Store) (v1 : Int) : Option ((List Row)) := bd (lp (p_impl_Store_rows_b0 v0 v1) (([] : List Row), 0)) fun x7 => bd (lp (p_impl_Store_rows_b2 v0 v1) (x7, 0)) fun x45 => some x45
theorem c_impl_Store_rows {r : (List Row)} (v0 : Store) (x_v0 : ((Option Addr × Nat) × (Option Addr × Nat)) × (Option Addr × Nat) × (Option Addr × Nat)) (v1 : Int) (H : p_impl_Store_rows v0 v1 = some r) : Fn' prog 115 #[.agg #[.slice x_v0.1.1.1 v0.1.1.length x_v0.1.1.2, .slice x_v0.1.2.1 v0.1.2.length x_v0.1.2.2, .slice x_v0.2.1.1 v0.2.1.length x_v0.2.1.2, .slice x_v0.2.2.1 v0.2.2.length x_v0.2.2.2], .int .i64 (v1)] [imm (.slice x_v0.1.1.1 v0.1.1.length x_v0.1.1.2) v0.1.1, imm (.slice x_v0.1.2.1 v0.1.2.length x_v0.1.2.2) v0.1.2, imm (.slice x_v0.2.1.1 v0.2.1.length x_v0.2.1.2) v0.2.1, imm (.slice x_v0.2.2.1 v0.2.2.length x_v0.2.2.2) v0.2.2] [] (ι := Option Addr × Nat) (fun x => .slice x.1 r.length x.2) (fun _ => []) (fun x => [tree (.slice x.1 r.length x.2) r]) := by
 refine cof (args := [_, _]) func115 ntmps115 fun c => ?_
 unfold p_impl_Store_rows at H
 refine Tr.openD Ent.z fun X1 => (Tr.openD Ent.z.s.s fun X2 => (Tr.openD Ent.z.s.s.s.s fun X3 => (sr (f1 (e_box (t := 42) rfl) fun g4 => (Rg.a (v := .slice none 0 0) rfl (nl (sr (f2 (e_lit0 Row underlying130 ty135) fun a5 c6 => (Rg.a rfl (nl (Tr.seq (sr ?_))))))))))))
 refine Rg.p (p_fabE fa42_1 rfl rfl) (Rg.o (q_ldb ty39 rfl hs1 rfl) (Rg.p (p_len 75 underlying39 rfl) (Rg.m (v := .int .i64 (0)) rfl (nl (bdo H fun x7 hx8 H => (tMidNC (ι := Option Addr × Nat) (fun ψ => [(1, .int .i64 (v1)), (2, .pointer (some ⟨g4, 0, none⟩)), (5, .slice ψ.1 x7.length ψ.2)]) (fun ψ => [box g4 42 [.slice x_v0.1.1.1 v0.1.1.length x_v0.1.1.2, .slice x_v0.1.2.1 v0.1.2.length x_v0.1.2.2, .slice x_v0.2.1.1 v0.2.1.length x_v0.2.1.2, .slice x_v0.2.2.1 v0.2.2.length x_v0.2.2.2], tree (.slice ψ.1 x7.length ψ.2) x7]) ?_ ?_))))))
 ·refine Tr.block (tLoopI hx8 (a5, c6) (fun Q11 z12 => [(1, .int .i64 (v1)), (2, .pointer (some ⟨g4, 0, none⟩)), (5, .slice z12.1 Q11.1.length z12.2), (14, .slice x_v0.2.1.1 v0.2.1.length x_v0.2.1.2), (15, .int .i64 ((v0.2.1.length : Int))), (16, .int .i64 (Q11.2))]) (fun Q11 z12 => [box g4 42 [.slice x_v0.1.1.1 v0.1.1.length x_v0.1.1.2, .slice x_v0.1.2.1 v0.1.2.length x_v0.1.2.2, .slice x_v0.2.1.1 v0.2.1.length x_v0.2.1.2, .slice x_v0.2.2.1 v0.2.2.length x_v0.2.2.2], tree (.slice z12.1 Q11.1.length z12.2) Q11.1]) (.cons dl1 (.cons Del.here .nil)) ?_)
  rintro _ Q11 z12 t14 H1 hi15 hb16
  unfold p_impl_Store_rows_b0 at H1
  refine sr (Rg.p (p_lss rfl rfl) (nl (Tr.seq (cH H1 rfl (fun h19 H1 => ?_) (fun h19 H1 => ?_)))))
  ·refine tSkip (nT (Tr.seq (Tr.block (sr (gdo H1 fun h20 H1 => (Rg.o (q_ixg underlying39 ty75 rfl rfl h20 rfl (Ent.b (Ent.darr Ent.z))) (Rg.o (v := .agg #[.slice (((X3 Q11.2.toNat).1).1) (((nth v0.2.1 Q11.2.toNat).1).length) (((X3 Q11.2.toNat).1).2.1), .slice (((X3 Q11.2.toNat).2).1) (((nth v0.2.1 Q11.2.toNat).2).length) (((X3 Q11.2.toNat).2).2.1)]) (q_ldeA (i := Q11.2.toNat) ty75 rfl (Ent.b (Ent.darr Ent.z)) h20.lt) (f1 (e_alloc ty75) fun g21 => (stb (cs' := [.slice (((X3 Q11.2.toNat).1).1) (((nth v0.2.1 Q11.2.toNat).1).length) (((X3 Q11.2.toNat).1).2.1), .slice (((X3 Q11.2.toNat).2).1) (((nth v0.2.1 Q11.2.toNat).2).length) (((X3 Q11.2.toNat).2).2.1)]) ty75 Upd.here (nl ?_))))))))))
   refine sr (Rg.o (q_ldbA ty75 rfl Has.here rfl) (Rg.m rfl (bdo H1 fun r22 h23 H1 => (f1 (e_callB (c_impl_PartOf (nth v0.2.1 Q11.2.toNat) ((((X3 Q11.2.toNat).1).1, ((X3 Q11.2.toNat).1).2.1), (((X3 Q11.2.toNat).2).1, ((X3 Q11.2.toNat).2).2.1)) v1 h23) (fun _ => (Solo.tree Solo.nil)) rfl (EntsB.cons (Ent.b (Ent.dimm (Ent.dfst (Ent.del Ent.z h20.lt)))) (EntsB.cons (Ent.b (Ent.dimm (Ent.dsnd (Ent.del Ent.z h20.lt)))) EntsB.nil))) fun x24 => (Rg.p (p_len 135 underlying130 rfl) (Rg.m (v := .int .i64 (0)) rfl (nl (bdo H1 fun x25 hx26 H1 => (tMidNC (ι := Option Addr × Nat) (fun ψ => [(1, .int .i64 (v1)), (2, .pointer (some ⟨g4, 0, none⟩)), (5, .slice ψ.1 x25.length ψ.2), (14, .slice x_v0.2.1.1 v0.2.1.length x_v0.2.1.2), (15, .int .i64 ((v0.2.1.length : Int))), (16, .int .i64 (Q11.2))]) (fun ψ => [box g4 42 [.slice x_v0.1.1.1 v0.1.1.length x_v0.1.1.2, .slice x_v0.1.2.1 v0.1.2.length x_v0.1.2.2, .slice x_v0.2.1.1 v0.2.1.length x_v0.2.1.2, .slice x_v0.2.2.1 v0.2.2.length x_v0.2.2.2], tree (.slice ψ.1 x25.length ψ.2) x25]) ?_ ?_)))))))))
   ·refine Tr.block (tLoopI hx26 (z12.1, z12.2) (fun Q29 z30 => [(1, .int .i64 (v1)), (2, .pointer (some ⟨g4, 0, none⟩)), (5, .slice z30.1 Q29.1.length z30.2), (14, .slice x_v0.2.1.1 v0.2.1.length x_v0.2.1.2), (15, .int .i64 ((v0.2.1.length : Int))), (16, .int .i64 (Q11.2)), (22, .slice x24.1 r22.length x24.2), (23, .int .i64 ((r22.length : Int))), (24, .int .i64 (Q29.2))]) (fun Q29 z30 => [box g4 42 [.slice x_v0.1.1.1 v0.1.1.length x_v0.1.1.2, .slice x_v0.1.2.1 v0.1.2.length x_v0.1.2.2, .slice x_v0.2.1.1 v0.2.1.length x_v0.2.1.2, .slice x_v0.2.2.1 v0.2.2.length x_v0.2.2.2], tree (.slice z30.1 Q29.1.length z30.2) Q29.1, tree (.slice x24.1 r22.length x24.2) r22]) (.cons dl2 (.cons dl2 (.cons Del.here .nil))) ?_)
    rintro _ Q29 z30 t32 H2 hi33 hb34
    unfold p_impl_Store_rows_b1 at H2
    refine sr (Rg.p (p_lss rfl rfl) (nl (Tr.seq (cH H2 rfl (fun h37 H2 => ?_) (fun h37 H2 => ?_)))))
    ·refine tSkip (nT (Tr.seq (Tr.block (sr (gdo H2 fun h38 H2 => (Rg.o (q_ixO' underlying130 ty135 rfl rfl h38 hs2) (Rg.o (v := .agg #[.int .i64 ((nth r22 Q29.2.toNat).1), .int .i64 ((nth r22 Q29.2.toNat).2)]) (q_ldeA (i := Q29.2.toNat) ty135 rfl (EntB.flat (EntB.tree hs2)) h38.lt) (f1 (e_alloc ty135) fun g39 => (stb (cs' := [.int .i64 ((nth r22 Q29.2.toNat).1), .int .i64 ((nth r22 Q29.2.toNat).2)]) ty135 Upd.here (nl ?_))))))))))
     refine Tr.region (Rg.m rfl (Rg.o (q_ldbA ty135 rfl Has.here rfl) (bdo H2 fun r40 h41 H2 => (f1 (e_callB (c_impl_put Q29.1 z30 (nth r22 Q29.2.toNat) h41) (fun _ => (Solo.tree Solo.nil)) rfl (EntsB.cons (EntB.tree hs2) EntsB.nil)) fun x42 => (Rg.a rfl (Rg.nl (nB (nT (Tr.region (gdo H2 fun h43 H2 => (Rg.p (p_add rfl rfl h43) ?_)))))))))))
     exact Rg.m rfl (Rg.nl (nLI (x42.1, x42.2) (hi33 _ (sm H2)) (.cons dl2 (.cons Del.here (.cons dl2 .nil)))))
    ·refine tExit (xT (xT (xE (?_))))
     obtain rfl := hb34 _ (sm H2)
     exact nMC (z30.1, z30.2) ⟨rfl, rfl, rfl, rfl, rfl, rfl, trivial⟩ Ents.refl (.cons Del.here (.cons Del.here .nil))
   ·intro y31
    show At _ _ [(1, .int .i64 (v1)), (2, .pointer (some ⟨g4, 0, none⟩)), (5, .slice y31.1 x25.length y31.2), (14, .slice x_v0.2.1.1 v0.2.1.length x_v0.2.1.2), (15, .int .i64 ((v0.2.1.length : Int))), (16, .int .i64 (Q11.2))] _ [box g4 42 [.slice x_v0.1.1.1 v0.1.1.length x_v0.1.1.2, .slice x_v0.1.2.1 v0.1.2.length x_v0.1.2.2, .slice x_v0.2.1.1 v0.2.1.length x_v0.2.1.2, .slice x_v0.2.2.1 v0.2.2.length x_v0.2.2.2], tree (.slice y31.1 x25.length y31.2) x25] _
    exact nB (nT (Tr.region (gdo H1 fun h44 H1 => (Rg.p (p_add rfl rfl h44) (Rg.m rfl (Rg.nl (nLI (y31.1, y31.2) (hi15 _ (sm H1)) (.cons Del.here (.cons Del.here .nil)))))))))
  ·refine tExit (xT (xT (xE (?_))))
   obtain rfl := hb16 _ (sm H1)
   exact nMC (z12.1, z12.2) ⟨rfl, rfl, rfl, trivial⟩ Ents.refl (.cons Del.here (.cons Del.here .nil))
 ·intro y13
  show At _ _ [(1, .int .i64 (v1)), (2, .pointer (some ⟨g4, 0, none⟩)), (5, .slice y13.1 x7.length y13.2)] _ [box g4 42 [.slice x_v0.1.1.1 v0.1.1.length x_v0.1.1.2, .slice x_v0.1.2.1 v0.1.2.length x_v0.1.2.2, .slice x_v0.2.1.1 v0.2.1.length x_v0.2.1.2, .slice x_v0.2.2.1 v0.2.2.length x_v0.2.2.2], tree (.slice y13.1 x7.length y13.2) x7] _
  refine nT (Tr.seq (sr (Rg.p (p_fabE fa42_2 rfl rfl) (Rg.o (q_ldb ty40 rfl Has.here rfl) (Rg.p (p_len 137 underlying40 rfl) (Rg.m (v := .int .i64 (0)) rfl (nl (bdo H fun x45 hx46 H => (tMidNC (ι := Option Addr × Nat) (fun ψ => [(5, .slice ψ.1 x45.length ψ.2)]) (fun ψ => [tree (.slice ψ.1 x45.length ψ.2) x45]) ?_ ?_)))))))))
  ·refine Tr.block (tLoopI hx46 (y13.1, y13.2) (fun Q49 z50 => [(1, .int .i64 (v1)), (5, .slice z50.1 Q49.1.length z50.2), (34, .slice x_v0.2.2.1 v0.2.2.length x_v0.2.2.2), (35, .int .i64 ((v0.2.2.length : Int))), (36, .int .i64 (Q49.2))]) (fun Q49 z50 => [tree (.slice z50.1 Q49.1.length z50.2) Q49.1]) (.cons dl1 .nil) ?_)
   rintro _ Q49 z50 t52 H1 hi53 hb54
   unfold p_impl_Store_rows_b2 at H1
   refine sr (Rg.p (p_lss rfl rfl) (nl (Tr.seq (cH H1 rfl (fun h57 H1 => ?_) (fun h57 H1 => ?_)))))
   ·refine tSkip (nT (Tr.seq (Tr.block (sr (gdo H1 fun h58 H1 => (Rg.o (q_ixg underlying40 ty137 rfl rfl h58 rfl (EntB.flat (Ent.b Ent.z.s.s.s.s.s.s))) (Rg.o (v := .agg #[.int .i64 ((nth v0.2.2 Q49.2.toNat).1), .int .i64 (((nth v0.2.2 Q49.2.toNat).2).1), .int .i64 (((nth v0.2.2 Q49.2.toNat).2).2)]) (q_ldeA (i := Q49.2.toNat) ty137 rfl (EntB.flat (Ent.b Ent.z.s.s.s.s.s.s)) h58.lt) (f1 (e_alloc ty137) fun g59 => (stb (cs' := [.int .i64 ((nth v0.2.2 Q49.2.toNat).1), .int .i64 (((nth v0.2.2 Q49.2.toNat).2).1), .int .i64 (((nth v0.2.2 Q49.2.toNat).2).2)]) ty137 Upd.here (nl ?_))))))))))
    refine sr (Rg.p (p_fabE fa137_0 rfl rfl) (Rg.o (q_ldb ty3 rfl Has.here rfl) (Rg.m rfl (Rg.p (p_eql rfl rfl) (nl (cH H1 rfl (fun h60 H1 => ?_) (fun h60 H1 => ?_)))))))
    ·refine Tr.region (Rg.m rfl (Rg.p (p_fabE fa137_1 rfl rfl) (Rg.o (v := .agg #[.int .i64 (((nth v0.2.2 Q49.2.toNat).2).1), .int .i64 (((nth v0.2.2 Q49.2.toNat).2).2)]) (q_ldbP [.int .i64 (((nth v0.2.2 Q49.2.toNat).2).1), .int .i64 (((nth v0.2.2 Q49.2.toNat).2).2)] ty135 rfl Has.here rfl rfl) (bdo H1 fun r61 h62 H1 => (f1 (e_callB (c_impl_put Q49.1 z50 ((nth v0.2.2 Q49.2.toNat).2) h62) (fun _ => (Solo.tree Solo.nil)) rfl (EntsB.cons (EntB.tree hs1) EntsB.nil)) fun x63 => (Rg.a rfl (Rg.nl (nB (nT (Tr.region (gdo H1 fun h64 H1 => ?_)))))))))))
     exact Rg.p (p_add rfl rfl h64) (Rg.m rfl (Rg.nl (nLI (x63.1, x63.2) (hi53 _ (sm H1)) (.cons Del.here .nil))))
    ·exact tSkip (nB (nT (Tr.region (gdo H1 fun h65 H1 => (Rg.p (p_add rfl rfl h65) (Rg.m rfl (Rg.nl (nLI (z50.1, z50.2) (hi53 _ (sm H1)) (.cons dl1 .nil)))))))))
   ·refine tExit (xT (xT (xE (?_))))
    obtain rfl := hb54 _ (sm H1)
    exact nMC (z50.1, z50.2) ⟨rfl, trivial⟩ Ents.refl (.cons Del.here .nil)
  ·intro y51
   show At _ _ [(5, .slice y51.1 x45.length y51.2)] _ [tree (.slice y51.1 x45.length y51.2) x45] _
   refine nT (sr (Rg.m rfl (Rg.a rfl (nl (tRet ?_)))))
   obtain rfl := si H
   exact back1 y51 rfl (ResV.tmp (v := .slice y51.1 x45.length y51.2) rfl) rfl Ents.nil (.cons Del.here .nil)
noncomputable def p_impl_StoreOk_b0 (v0 : Store) (Q16 : Int) : Option ((Int) ⊕ (Unit ⊕ Bool)) := cond (decide (Q16 < (v0.2.1.length : Int))) (gd (ix Q16 v0.2.1.length) <| bd (bd (p_impl_PartOk (nth v0.2.1 Q16.toNat)) fun r29 => cond (!r29) (some (true)) (cond (decide ((((nth v0.2.1 Q16.toNat).1).length : Int) = 0)) (some (true)) (bd (p_slices_Max_int_int ((nth v0.2.1 Q16.toNat).1)) fun r33 => some (decide ((v0.1.1.length : Int) < r33))))) fun b27 => cond (b27) (some (.inr (.inr false))) (gd (I64 (Q16 + 1)) <| some (.inl (Q16 + 1)))) (some (.inr (.inl ())))
noncomputable def p_impl_StoreOk_b1 (v0 : Store) (Q42 : Int) : Option ((Int) ⊕ (Unit ⊕ Bool)) := cond (decide (Q42 < (v0.2.2.length : Int))) (gd (ix Q42 v0.2.2.length) <| bd (bd (p_impl_within ((nth v0.2.2 Q42.toNat).1) 1 (v0.1.1.length : Int)) fun r55 => cond (!r55) (some (true)) (bd (p_impl_rowOk ((nth v0.2.2 Q42.toNat).2)) fun r58 => some (!r58))) fun b53 => cond (b53) (some (.inr (.inr false))) (gd (I64 (Q42 + 1)) <| some (.inl (Q42 + 1)))) (some (.inr (.inl ())))
noncomputable def p_impl_StoreOk_b2 (v0 : Store) (Q67 : Int) : Option ((Int) ⊕ (Unit ⊕ Bool)) := cond (decide (Q67 ≤ (v0.1.1.length : Int))) (bd (p_impl_Store_rows v0 Q67) fun r76 => cond (decide (24 < (r76.length : Int))) (some (.inr (.inr false))) (gd (I64 (Q67 + 1)) <| some (.inl (Q67 + 1)))) (some (.inr (.inl ())))
noncomputable def p_impl_StoreOk (v0 : Store) : Option (Bool) := bd (bd (p_impl_IndexOk v0.1) fun r7 => cond (!r7) (some (true)) (cond (decide (6 < (v0.2.1.length : Int))) (some (true)) (some (decide (20 < (v0.2.2.length : Int)))))) fun b5 => cond (b5) (some false) (bd (lp (p_impl_StoreOk_b0 v0) 0) <| sw (fun _ => bd (lp (p_impl_StoreOk_b1 v0) 0) <| sw (fun _ => bd (lp (p_impl_StoreOk_b2 v0) 1) <| sw (fun _ => some true) (fun q => some q)) (fun q => some q)) (fun q => some q))
theorem c_impl_StoreOk {r : Bool} (v0 : Store) (x_v0 : ((Option Addr × Nat) × (Option Addr × Nat)) × (Option Addr × Nat) × (Option Addr × Nat)) (H : p_impl_StoreOk v0 = some r) : Fn' prog 51 #[.agg #[.slice x_v0.1.1.1 v0.1.1.length x_v0.1.1.2, .slice x_v0.1.2.1 v0.1.2.length x_v0.1.2.2, .slice x_v0.2.1.1 v0.2.1.length x_v0.2.1.2, .slice x_v0.2.2.1 v0.2.2.length x_v0.2.2.2]] [imm (.slice x_v0.1.1.1 v0.1.1.length x_v0.1.1.2) v0.1.1, imm (.slice x_v0.1.2.1 v0.1.2.length x_v0.1.2.2) v0.1.2, imm (.slice x_v0.2.1.1 v0.2.1.length x_v0.2.1.2) v0.2.1, imm (.slice x_v0.2.2.1 v0.2.2.length x_v0.2.2.2) v0.2.2] [] (ι := Unit) (fun _ => .bool (r)) (fun _ => []) (fun _ => []) := by
 refine cof (args := [_]) func51 ntmps51 fun c => ?_
 unfold p_impl_StoreOk at H
 refine Tr.openD Ent.z fun X1 => (Tr.openD Ent.z.s.s fun X2 => (Tr.openD Ent.z.s.s.s.s fun X3 => (sr (f1 (e_box (t := 42) rfl) fun g4 => (Rg.a (v := .bool (false)) rfl (nl (Tr.seq (bdo H fun b5 j6 H => (tMid1 [(24, .bool (b5)), (1, .pointer (some ⟨g4, 0, none⟩))] ?_ ?_)))))))))
 ·refine tLinT [(1, .pointer (some ⟨g4, 0, none⟩))] ⟨rfl, trivial⟩ (Lin.p (p_fabE fa42_0 rfl rfl) (Lin.o (v := .agg #[.slice x_v0.1.1.1 v0.1.1.length x_v0.1.1.2, .slice x_v0.1.2.1 v0.1.2.length x_v0.1.2.2]) (q_ldbP [.slice x_v0.1.1.1 v0.1.1.length x_v0.1.1.2, .slice x_v0.1.2.1 v0.1.2.length x_v0.1.2.2] ty38 rfl Has.here rfl rfl) (bdo j6 fun r7 h8 j6 => (Lin.o (q_call (c_impl_IndexOk v0.1 x_v0.1 h8) rfl (EntsB.cons (Ent.b (Ent.dimm Ent.z.s.s)) (EntsB.cons (Ent.b (Ent.dimm Ent.z.s)) EntsB.nil))) (Lin.p (p_not rfl) ?_)))))
  rcases Bool.eq_false_or_eq_true (!r7) with h9 | h9
  ·have j6 := cdT h9 j6
   refine Lin.e_ (p_move rfl) h9 ?_
   iterate 4 refine Lin.sk rfl ?_
   refine Lin.p (v := .bool (true)) (p_pickT rfl rfl) (Lin.m (v := .bool (true)) rfl ?_)
   iterate 4 refine Lin.sk rfl ?_
   refine Lin.p (v := .bool (true)) (p_pickT rfl rfl) ?_
   obtain rfl := si j6
   show At _ _ _ _ _ _
   exact n1 ⟨rfl, rfl, trivial⟩
  ·have j6 := cdF h9 j6
   refine Lin.e_ (p_move rfl) h9 (Lin.h rfl (p_fabE fa42_1 rfl rfl) (Lin.i rfl (q_ldb ty39 rfl Has.here rfl) (Lin.h rfl (p_len 75 underlying39 rfl) (Lin.h rfl (p_gtr rfl rfl) (Lin.p (p_pickF rfl rfl) ?_)))))
   rcases Bool.eq_false_or_eq_true (decide (6 < (v0.2.1.length : Int))) with h10 | h10
   ·have j6 := cdT h10 j6
    refine Lin.e_ (p_move rfl) h10 ?_
    iterate 4 refine Lin.sk rfl ?_
    refine Lin.p (v := .bool (true)) (p_pickT rfl rfl) ?_
    obtain rfl := si j6
    show At _ _ _ _ _ _
    exact n1 ⟨rfl, rfl, trivial⟩
   ·have j6 := cdF h10 j6
    refine Lin.e_ (p_move rfl) h10 (Lin.h rfl (p_fabE fa42_2 rfl rfl) (Lin.i rfl (q_ldb ty40 rfl Has.here rfl) (Lin.h rfl (p_len 137 underlying40 rfl) (Lin.h rfl (p_gtr rfl rfl) (Lin.p (p_pickF rfl rfl) ?_)))))
    obtain rfl := si j6
    show At _ _ _ _ _ _
    exact n1 ⟨rfl, rfl, trivial⟩
 refine cH H rfl (fun h11 H => ?_) (fun h11 H => ?_)
 ·refine sr (Rg.a (v := .bool (false)) rfl (nl (tRet (rT (?_)))))
  obtain rfl := si H
  exact bk
 ·refine tSkip (nT (sr (Rg.p (p_fabE fa42_0 rfl rfl) (Rg.p (p_fabE fa38_0 rfl rfl) (Rg.o (q_ldb ty30 rfl Has.here rfl) (Rg.p (p_len 142 underlying30 rfl) (Rg.a rfl (nl (Tr.seq (sr (Rg.p (p_fabE fa42_1 rfl rfl) ?_)))))))))))
  refine Rg.o (q_ldb ty39 rfl Has.here rfl) (Rg.p (p_len 75 underlying39 rfl) (Rg.m (v := .int .i64 (0)) rfl (nl (bdo H fun x12 hx13 H => (tMidI (Λ := Unit) H (fun _ _ => [(1, .pointer (some ⟨g4, 0, none⟩)), (3, .int .i64 ((v0.1.1.length : Int)))]) (fun _ _ => [box g4 42 [.slice x_v0.1.1.1 v0.1.1.length x_v0.1.1.2, .slice x_v0.1.2.1 v0.1.2.length x_v0.1.2.2, .slice x_v0.2.1.1 v0.2.1.length x_v0.2.1.2, .slice x_v0.2.2.1 v0.2.2.length x_v0.2.2.2]]) ?_ ?_)))))
  ·refine Tr.block (tLoopI hx13 () (fun Q16 _ => [(1, .pointer (some ⟨g4, 0, none⟩)), (3, .int .i64 ((v0.1.1.length : Int))), (30, .slice x_v0.2.1.1 v0.2.1.length x_v0.2.1.2), (31, .int .i64 ((v0.2.1.length : Int))), (32, .int .i64 (Q16))]) (fun _ _ => [box g4 42 [.slice x_v0.1.1.1 v0.1.1.length x_v0.1.1.2, .slice x_v0.1.2.1 v0.1.2.length x_v0.1.2.2, .slice x_v0.2.1.1 v0.2.1.length x_v0.2.1.2, .slice x_v0.2.2.1 v0.2.2.length x_v0.2.2.2]]) (.cons Del.here .nil) ?_)
   rintro _ Q16 z17 t19 H1 hi20 hb21
   unfold p_impl_StoreOk_b0 at H1
   refine sr (Rg.p (p_lss rfl rfl) (nl (Tr.seq (cH H1 rfl (fun h24 H1 => ?_) (fun h24 H1 => ?_)))))
   ·refine tSkip (nT (Tr.seq (Tr.block (sr (gdo H1 fun h25 H1 => (Rg.o (q_ixg underlying39 ty75 rfl rfl h25 rfl (Ent.b (Ent.darr Ent.z))) (Rg.o (v := .agg #[.slice (((X3 Q16.toNat).1).1) (((nth v0.2.1 Q16.toNat).1).length) (((X3 Q16.toNat).1).2.1), .slice (((X3 Q16.toNat).2).1) (((nth v0.2.1 Q16.toNat).2).length) (((X3 Q16.toNat).2).2.1)]) (q_ldeA (i := Q16.toNat) ty75 rfl (Ent.b (Ent.darr Ent.z)) h25.lt) (f1 (e_alloc ty75) fun g26 => (stb (cs' := [.slice (((X3 Q16.toNat).1).1) (((nth v0.2.1 Q16.toNat).1).length) (((X3 Q16.toNat).1).2.1), .slice (((X3 Q16.toNat).2).1) (((nth v0.2.1 Q16.toNat).2).length) (((X3 Q16.toNat).2).2.1)]) ty75 Upd.here (nl ?_))))))))))
    refine bdo H1 fun b27 j28 H1 => (tMid1 [(51, .bool (b27)), (1, .pointer (some ⟨g4, 0, none⟩)), (3, .int .i64 ((v0.1.1.length : Int))), (30, .slice x_v0.2.1.1 v0.2.1.length x_v0.2.1.2), (31, .int .i64 ((v0.2.1.length : Int))), (32, .int .i64 (Q16))] ?_ ?_)
    ·refine tLinT [(5, .pointer (some ⟨g26, 0, none⟩)), (1, .pointer (some ⟨g4, 0, none⟩)), (3, .int .i64 ((v0.1.1.length : Int))), (30, .slice x_v0.2.1.1 v0.2.1.length x_v0.2.1.2), (31, .int .i64 ((v0.2.1.length : Int))), (32, .int .i64 (Q16))] ⟨rfl, rfl, rfl, rfl, rfl, rfl, trivial⟩ (Lin.o (q_ldbA ty75 rfl Has.here rfl) (bdo j28 fun r29 h30 j28 => (Lin.o (q_call (c_impl_PartOk (nth v0.2.1 Q16.toNat) ((((X3 Q16.toNat).1).1, ((X3 Q16.toNat).1).2.1), (((X3 Q16.toNat).2).1, ((X3 Q16.toNat).2).2.1)) h30) rfl (EntsB.cons (Ent.b (Ent.dimm (Ent.dfst (Ent.del Ent.z h25.lt)))) (EntsB.cons (Ent.b (Ent.dimm (Ent.dsnd (Ent.del Ent.z h25.lt)))) EntsB.nil))) (Lin.p (p_not rfl) ?_))))
     rcases Bool.eq_false_or_eq_true (!r29) with h31 | h31
     ·have j28 := cdT h31 j28
      refine Lin.e_ (p_move rfl) h31 ?_
      iterate 4 refine Lin.sk rfl ?_
      refine Lin.p (v := .bool (true)) (p_pickT rfl rfl) (Lin.m (v := .bool (true)) rfl ?_)
      iterate 5 refine Lin.sk rfl ?_
      refine Lin.p (v := .bool (true)) (p_pickT rfl rfl) ?_
      obtain rfl := si j28
      show At _ _ _ _ _ _
      exact n1 ⟨rfl, rfl, rfl, rfl, rfl, rfl, trivial⟩
     ·have j28 := cdF h31 j28
      refine Lin.e_ (p_move rfl) h31 (Lin.h rfl (p_fabE fa75_0 rfl rfl) (Lin.i rfl (q_ldb ty23 rfl Has.here rfl) (Lin.h rfl (p_len 3 underlying23 rfl) (Lin.h rfl (p_eql rfl rfl) (Lin.p (p_pickF rfl rfl) ?_)))))
      rcases Bool.eq_false_or_eq_true (decide ((((nth v0.2.1 Q16.toNat).1).length : Int) = 0)) with h32 | h32
      ·have j28 := cdT h32 j28
       refine Lin.e_ (p_move rfl) h32 ?_
       iterate 5 refine Lin.sk rfl ?_
       refine Lin.p (v := .bool (true)) (p_pickT rfl rfl) ?_
       obtain rfl := si j28
       show At _ _ _ _ _ _
       exact n1 ⟨rfl, rfl, rfl, rfl, rfl, rfl, trivial⟩
      ·have j28 := cdF h32 j28
       refine Lin.e_ (p_move rfl) h32 (Lin.h rfl (p_fabE fa75_0 rfl rfl) (Lin.i rfl (q_ldb ty23 rfl Has.here rfl) (bdo j28 fun r33 h34 j28 => (Lin.i rfl (q_call (c_slices_Max_int_int ((nth v0.2.1 Q16.toNat).1) (((X3 Q16.toNat).1).1, ((X3 Q16.toNat).1).2.1) h34) rfl (EntsB.cons (Ent.b (Ent.dimm (Ent.dfst (Ent.del Ent.z h25.lt)))) EntsB.nil)) (Lin.h rfl (p_move rfl) (Lin.h rfl (p_gtr rfl rfl) (Lin.p (p_pickF rfl rfl) ?_)))))))
       obtain rfl := si j28
       show At _ _ _ _ _ _
       exact n1 ⟨rfl, rfl, rfl, rfl, rfl, rfl, trivial⟩
    refine cH H1 rfl (fun h35 H1 => ?_) (fun h35 H1 => ?_)
    ·refine sr (Rg.a (v := .bool (false)) rfl (nl (tRet (rB (rT (rT (rB (rT (rT (?_))))))))))
     obtain rfl := hb21 _ (sm H1)
     replace H := sw.r H
     obtain rfl := si H
     exact bk
    ·exact tSkip (nB (nT (Tr.region (gdo H1 fun h36 H1 => (Rg.p (p_add rfl rfl h36) (Rg.m rfl (Rg.nl (nLI () (hi20 _ (sm H1)) (.cons dl1 .nil)))))))))
   ·exact tExit (xT (xT (xE (nMI () (hb21 _ (sm H1)) (.cons Del.here .nil)))))
  ·rintro e37 y18 H
   refine nT (Tr.seq (sr (Rg.p (p_fabE fa42_2 rfl rfl) (Rg.o (q_ldb ty40 rfl Has.here rfl) (Rg.p (p_len 137 underlying40 rfl) (Rg.m (v := .int .i64 (0)) rfl (nl (bdo H fun x38 hx39 H => (tMidI (Λ := Unit) H (fun _ _ => [(1, .pointer (some ⟨g4, 0, none⟩)), (3, .int .i64 ((v0.1.1.length : Int)))]) (fun _ _ => [box g4 42 [.slice x_v0.1.1.1 v0.1.1.length x_v0.1.1.2, .slice x_v0.1.2.1 v0.1.2.length x_v0.1.2.2, .slice x_v0.2.1.1 v0.2.1.length x_v0.2.1.2, .slice x_v0.2.2.1 v0.2.2.length x_v0.2.2.2]]) ?_ ?_)))))))))
   ·refine Tr.block (tLoopI hx39 () (fun Q42 _ => [(1, .pointer (some ⟨g4, 0, none⟩)), (3, .int .i64 ((v0.1.1.length : Int))), (54, .slice x_v0.2.2.1 v0.2.2.length x_v0.2.2.2), (55, .int .i64 ((v0.2.2.length : Int))), (56, .int .i64 (Q42))]) (fun _ _ => [box g4 42 [.slice x_v0.1.1.1 v0.1.1.length x_v0.1.1.2, .slice x_v0.1.2.1 v0.1.2.length x_v0.1.2.2, .slice x_v0.2.1.1 v0.2.1.length x_v0.2.1.2, .slice x_v0.2.2.1 v0.2.2.length x_v0.2.2.2]]) (.cons Del.here .nil) ?_)
    rintro _ Q42 z43 t45 H1 hi46 hb47
    unfold p_impl_StoreOk_b1 at H1
    refine sr (Rg.p (p_lss rfl rfl) (nl (Tr.seq (cH H1 rfl (fun h50 H1 => ?_) (fun h50 H1 => ?_)))))
    ·refine tSkip (nT (Tr.seq (Tr.block (sr (gdo H1 fun h51 H1 => (Rg.o (q_ixg underlying40 ty137 rfl rfl h51 rfl (EntB.flat (Ent.b Ent.z.s.s.s.s.s.s))) (Rg.o (v := .agg #[.int .i64 ((nth v0.2.2 Q42.toNat).1), .int .i64 (((nth v0.2.2 Q42.toNat).2).1), .int .i64 (((nth v0.2.2 Q42.toNat).2).2)]) (q_ldeA (i := Q42.toNat) ty137 rfl (EntB.flat (Ent.b Ent.z.s.s.s.s.s.s)) h51.lt) (f1 (e_alloc ty137) fun g52 => (stb (cs' := [.int .i64 ((nth v0.2.2 Q42.toNat).1), .int .i64 (((nth v0.2.2 Q42.toNat).2).1), .int .i64 (((nth v0.2.2 Q42.toNat).2).2)]) ty137 Upd.here (nl ?_))))))))))
     refine bdo H1 fun b53 j54 H1 => (tMid1 [(70, .bool (b53)), (1, .pointer (some ⟨g4, 0, none⟩)), (3, .int .i64 ((v0.1.1.length : Int))), (54, .slice x_v0.2.2.1 v0.2.2.length x_v0.2.2.2), (55, .int .i64 ((v0.2.2.length : Int))), (56, .int .i64 (Q42))] ?_ ?_)
     ·refine tLinT [(7, .pointer (some ⟨g52, 0, none⟩)), (1, .pointer (some ⟨g4, 0, none⟩)), (3, .int .i64 ((v0.1.1.length : Int))), (54, .slice x_v0.2.2.1 v0.2.2.length x_v0.2.2.2), (55, .int .i64 ((v0.2.2.length : Int))), (56, .int .i64 (Q42))] ⟨rfl, rfl, rfl, rfl, rfl, rfl, trivial⟩ (Lin.p (p_fabE fa137_0 rfl rfl) (Lin.o (q_ldb ty3 rfl Has.here rfl) (Lin.m rfl (bdo j54 fun r55 h56 j54 => (Lin.o (q_call (c_impl_within ((nth v0.2.2 Q42.toNat).1) 1 (v0.1.1.length : Int) h56) rfl EntsB.nil) (Lin.p (p_not rfl) ?_))))))
      rcases Bool.eq_false_or_eq_true (!r55) with h57 | h57
      ·have j54 := cdT h57 j54
       refine Lin.e_ (p_move rfl) h57 ?_
       iterate 4 refine Lin.sk rfl ?_
       refine Lin.p (v := .bool (true)) (p_pickT rfl rfl) ?_
       obtain rfl := si j54
       show At _ _ _ _ _ _
       exact n1 ⟨rfl, rfl, rfl, rfl, rfl, rfl, trivial⟩
      ·have j54 := cdF h57 j54
       refine Lin.e_ (p_move rfl) h57 (Lin.h rfl (p_fabE fa137_1 rfl rfl) (Lin.i (v := .agg #[.int .i64 (((nth v0.2.2 Q42.toNat).2).1), .int .i64 (((nth v0.2.2 Q42.toNat).2).2)]) rfl (q_ldbP [.int .i64 (((nth v0.2.2 Q42.toNat).2).1), .int .i64 (((nth v0.2.2 Q42.toNat).2).2)] ty135 rfl Has.here rfl rfl) (bdo j54 fun r58 h59 j54 => (Lin.i rfl (q_call (c_impl_rowOk ((nth v0.2.2 Q42.toNat).2) h59) rfl EntsB.nil) (Lin.h rfl (p_not rfl) (Lin.p (p_pickF rfl rfl) ?_))))))
       obtain rfl := si j54
       show At _ _ _ _ _ _
       exact n1 ⟨rfl, rfl, rfl, rfl, rfl, rfl, trivial⟩
     refine cH H1 rfl (fun h60 H1 => ?_) (fun h60 H1 => ?_)
     ·refine sr (Rg.a (v := .bool (false)) rfl (nl (tRet (rB (rT (rT (rB (rT (rT (?_))))))))))
      obtain rfl := hb47 _ (sm H1)
      replace H := sw.r H
      obtain rfl := si H
      exact bk
     ·exact tSkip (nB (nT (Tr.region (gdo H1 fun h61 H1 => (Rg.p (p_add rfl rfl h61) (Rg.m rfl (Rg.nl (nLI () (hi46 _ (sm H1)) (.cons dl1 .nil)))))))))
    ·exact tExit (xT (xT (xE (nMI () (hb47 _ (sm H1)) (.cons Del.here .nil)))))
   ·rintro e62 y44 H
    refine nT (Tr.seq (sr (Rg.a (v := .int .i64 (1)) rfl (nl (bdo H fun x63 hx64 H => (tMidI (Λ := Unit) H (fun _ _ => []) (fun _ _ => []) ?_ ?_))))))
    ·refine Tr.block (tLoopI hx64 () (fun Q67 _ => [(1, .pointer (some ⟨g4, 0, none⟩)), (3, .int .i64 ((v0.1.1.length : Int))), (8, .int .i64 (Q67))]) (fun _ _ => [box g4 42 [.slice x_v0.1.1.1 v0.1.1.length x_v0.1.1.2, .slice x_v0.1.2.1 v0.1.2.length x_v0.1.2.2, .slice x_v0.2.1.1 v0.2.1.length x_v0.2.1.2, .slice x_v0.2.2.1 v0.2.2.length x_v0.2.2.2]]) (.cons Del.here .nil) ?_)
     rintro _ Q67 z68 t70 H1 hi71 hb72
     unfold p_impl_StoreOk_b2 at H1
     refine Tr.seq (sr (Rg.m rfl (Rg.m rfl (Rg.p (p_leq rfl rfl) (nl (cH H1 rfl (fun h75 H1 => ?_) (fun h75 H1 => ?_)))))))
     ·refine tSkip (nT (Tr.seq (Tr.block (sr (Rg.o (q_ldbA ty42 rfl Has.here rfl) (Rg.m rfl (bdo H1 fun r76 h77 H1 => (f1 (e_callB (c_impl_Store_rows v0 x_v0 Q67 h77) (fun _ => (Solo.tree Solo.nil)) rfl (EntsB.cons (Ent.b (Ent.dimm Ent.z.s.s)) (EntsB.cons (Ent.b (Ent.dimm Ent.z.s)) (EntsB.cons (Ent.b (Ent.dimm Ent.z)) (EntsB.cons (Ent.b Ent.z.s.s.s.s.s.s) EntsB.nil))))) fun x78 => (Rg.p (p_len 135 underlying130 rfl) (Rg.p (p_gtr rfl rfl) (nl ?_)))))))))))
      refine cH H1 rfl (fun h79 H1 => ?_) (fun h79 H1 => ?_)
      ·refine sr (Rg.a (v := .bool (false)) rfl (nl (tRet (rB (rT (rT (rB (rT (rT (?_))))))))))
       obtain rfl := hb72 _ (sm H1)
       replace H := sw.r H
       obtain rfl := si H
       exact bk
      ·exact tSkip (nB (nT (Tr.region (Rg.m rfl (gdo H1 fun h80 H1 => (Rg.p (p_add rfl rfl h80) (Rg.a rfl (Rg.nl (nLI () (hi71 _ (sm H1)) (.cons dl1 .nil))))))))))
     ·exact tExit (xT (xT (xE (nMI () (hb72 _ (sm H1)) Take.nil))))
    ·rintro e81 y69 H
     refine nT (sr (Rg.a (v := .bool (true)) rfl (nl ?_)))
     obtain rfl := si H
     exact tRet bk
noncomputable def p_impl_DiskOk_b0 (v0 : Disk) (Q15 : Int) : Option ((Int) ⊕ (Unit ⊕ Bool)) := cond (decide (Q15 < (v0.1.length : Int))) (gd (ix Q15 v0.1.length) <| bd (gd (I64 (v0.2.2.2 - 1)) <| bd (p_impl_within ((nth v0.1 Q15.toNat).1) 1 (v0.2.2.2 - 1)) fun r29 => cond (!r29) (some (true)) (cond (decide (0 < Q15)) (gd (I64 (Q15 - 1)) <| gd (ix (Q15 - 1) v0.1.length) <| cond (decide (((nth v0.1 Q15.toNat).1) ≤ ((nth v0.1 ((Q15 - 1).toNat)).1))) (some (true)) (bd (p_impl_PartOk ((nth v0.1 Q15.toNat).2)) fun r36 => some (!r36))) (bd (p_impl_PartOk ((nth v0.1 Q15.toNat).2)) fun r38 => some (!r38)))) fun b26 => cond (b26) (some (.inr (.inr false))) (gd (I64 (Q15 + 1)) <| some (.inl (Q15 + 1)))) (some (.inr (.inl ())))
noncomputable def p_impl_DiskOk_b1 (v0 : Disk) (Q47 : Int) : Option ((Int) ⊕ (Unit ⊕ Bool)) := cond (decide (Q47 < (v0.2.1.length : Int))) (gd (ix Q47 v0.2.1.length) <| bd (bd (p_impl_Disk_file v0 (nth v0.2.1 Q47.toNat)) fun r59 => cond (decide (r59 < 0)) (some (true)) (gd (sl2 0 Q47 v0.2.1.length) <| bd (p_slices_Contains_int_int ((v0.2.1.take Q47.toNat).drop 0) (nth v0.2.1 Q47.toNat)) fun r63 => some (r63))) fun b57 => cond (b57) (some (.inr (.inr false))) (gd (I64 (Q47 + 1)) <| some (.inl (Q47 + 1)))) (some (.inr (.inl ())))
noncomputable def p_impl_DiskOk (v0 : Disk) : Option (Bool) := bd (bd (p_impl_within v0.2.2.2 1 999) fun r6 => cond (!r6) (some (true)) (cond (decide (20 < (v0.1.length : Int))) (some (true)) (some (decide (6 < (v0.2.1.length : Int)))))) fun b4 => cond (b4) (some false) (bd (lp (p_impl_DiskOk_b0 v0) 0) <| sw (fun _ => bd (lp (p_impl_DiskOk_b1 v0) 0) <| sw (fun _ => bd (p_impl_Disk_open v0) fun r68 => bd (p_impl_StoreOk r68) fun r71 => some r71) (fun q => some q)) (fun q => some q))
theorem c_impl_DiskOk {r : Bool} (v0 : Disk) (x_v0 : (Option Addr × Nat) × (Option Addr × Nat) × (Option Addr × Nat) × Unit) (H : p_impl_DiskOk v0 = some r) : Fn' prog 12 #[.agg #[.slice x_v0.1.1 v0.1.length x_v0.1.2, .slice x_v0.2.1.1 v0.2.1.length x_v0.2.1.2, .slice x_v0.2.2.1.1 v0.2.2.1.length x_v0.2.2.1.2, .int .i64 (v0.2.2.2)]] [imm (.slice x_v0.1.1 v0.1.length x_v0.1.2) v0.1, imm (.slice x_v0.2.1.1 v0.2.1.length x_v0.2.1.2) v0.2.1, imm (.slice x_v0.2.2.1.1 v0.2.2.1.length x_v0.2.2.1.2) v0.2.2.1] [] (ι := Unit) (fun _ => .bool (r)) (fun _ => []) (fun _ => []) := by
 refine cof (args := [_]) func12 ntmps12 fun c => ?_
 unfold p_impl_DiskOk at H
 refine Tr.openD Ent.z fun X1 => (Tr.openD Ent.z.s.s.s fun X2 => (sr (f1 (e_box (t := 32) rfl) fun g3 => (Rg.a (v := .bool (false)) rfl (nl (Tr.seq (bdo H fun b4 j5 H => (tMid1 [(22, .bool (b4)), (1, .pointer (some ⟨g3, 0, none⟩))] ?_ ?_))))))))
 ·refine tLinT [(1, .pointer (some ⟨g3, 0, none⟩))] ⟨rfl, trivial⟩ (Lin.p (p_fabE fa32_3 rfl rfl) (Lin.o (q_ldb ty3 rfl Has.here rfl) (bdo j5 fun r6 h7 j5 => (Lin.o (q_call (c_impl_within v0.2.2.2 1 999 h7) rfl EntsB.nil) (Lin.p (p_not rfl) ?_)))))
  rcases Bool.eq_false_or_eq_true (!r6) with h8 | h8
  ·have j5 := cdT h8 j5
   refine Lin.e_ (p_move rfl) h8 ?_
   iterate 4 refine Lin.sk rfl ?_
   refine Lin.p (v := .bool (true)) (p_pickT rfl rfl) (Lin.m (v := .bool (true)) rfl ?_)
   iterate 4 refine Lin.sk rfl ?_
   refine Lin.p (v := .bool (true)) (p_pickT rfl rfl) ?_
   obtain rfl := si j5
   show At _ _ _ _ _ _
   exact n1 ⟨rfl, rfl, trivial⟩
  ·have j5 := cdF h8 j5
   refine Lin.e_ (p_move rfl) h8 (Lin.h rfl (p_fabE fa32_0 rfl rfl) (Lin.i rfl (q_ldb ty29 rfl Has.here rfl) (Lin.h rfl (p_len 77 underlying29 rfl) (Lin.h rfl (p_gtr rfl rfl) (Lin.p (p_pickF rfl rfl) ?_)))))
   rcases Bool.eq_false_or_eq_true (decide (20 < (v0.1.length : Int))) with h9 | h9
   ·have j5 := cdT h9 j5
    refine Lin.e_ (p_move rfl) h9 ?_
    iterate 4 refine Lin.sk rfl ?_
    refine Lin.p (v := .bool (true)) (p_pickT rfl rfl) ?_
    obtain rfl := si j5
    show At _ _ _ _ _ _
    exact n1 ⟨rfl, rfl, trivial⟩
   ·have j5 := cdF h9 j5
    refine Lin.e_ (p_move rfl) h9 (Lin.h rfl (p_fabE fa32_1 rfl rfl) (Lin.i rfl (q_ldb ty23 rfl Has.here rfl) (Lin.h rfl (p_len 3 underlying23 rfl) (Lin.h rfl (p_gtr rfl rfl) (Lin.p (p_pickF rfl rfl) ?_)))))
    obtain rfl := si j5
    show At _ _ _ _ _ _
    exact n1 ⟨rfl, rfl, trivial⟩
 refine cH H rfl (fun h10 H => ?_) (fun h10 H => ?_)
 ·refine sr (Rg.a (v := .bool (false)) rfl (nl (tRet (rT (?_)))))
  obtain rfl := si H
  exact bk
 ·refine tSkip (nT (Tr.seq (sr (Rg.p (p_fabE fa32_0 rfl rfl) (Rg.o (q_ldb ty29 rfl Has.here rfl) (Rg.p (p_len 77 underlying29 rfl) (Rg.m (v := .int .i64 (0)) rfl (nl (bdo H fun x11 hx12 H => (tMidI (Λ := Unit) H (fun _ _ => [(1, .pointer (some ⟨g3, 0, none⟩))]) (fun _ _ => [box g3 32 [.slice x_v0.1.1 v0.1.length x_v0.1.2, .slice x_v0.2.1.1 v0.2.1.length x_v0.2.1.2, .slice x_v0.2.2.1.1 v0.2.2.1.length x_v0.2.2.1.2, .int .i64 (v0.2.2.2)]]) ?_ ?_))))))))))
  ·refine Tr.block (tLoopI hx12 () (fun Q15 _ => [(1, .pointer (some ⟨g3, 0, none⟩)), (24, .slice x_v0.1.1 v0.1.length x_v0.1.2), (25, .int .i64 ((v0.1.length : Int))), (26, .int .i64 (Q15))]) (fun _ _ => [box g3 32 [.slice x_v0.1.1 v0.1.length x_v0.1.2, .slice x_v0.2.1.1 v0.2.1.length x_v0.2.1.2, .slice x_v0.2.2.1.1 v0.2.2.1.length x_v0.2.2.1.2, .int .i64 (v0.2.2.2)]]) (.cons Del.here .nil) ?_)
   rintro _ Q15 z16 t18 H1 hi19 hb20
   unfold p_impl_DiskOk_b0 at H1
   refine sr (Rg.p (p_lss rfl rfl) (nl (Tr.seq (cH H1 rfl (fun h23 H1 => ?_) (fun h23 H1 => ?_)))))
   ·refine tSkip (nT (Tr.seq (Tr.block (sr (Rg.m rfl (gdo H1 fun h24 H1 => (Rg.o (q_ixg underlying29 ty77 rfl rfl h24 rfl (Ent.b (Ent.darr Ent.z.s))) (Rg.o (v := .agg #[.int .i64 ((nth v0.1 Q15.toNat).1), .slice ((((X1 Q15.toNat).2).1).1) ((((nth v0.1 Q15.toNat).2).1).length) ((((X1 Q15.toNat).2).1).2.1), .slice ((((X1 Q15.toNat).2).2).1) ((((nth v0.1 Q15.toNat).2).2).length) ((((X1 Q15.toNat).2).2).2.1)]) (q_ldeA (i := Q15.toNat) ty77 rfl (Ent.b (Ent.darr Ent.z.s)) h24.lt) (f1 (e_alloc ty77) fun g25 => (Rg.a rfl ?_))))))))))
    refine stb (cs' := [.int .i64 ((nth v0.1 Q15.toNat).1), .slice ((((X1 Q15.toNat).2).1).1) ((((nth v0.1 Q15.toNat).2).1).length) ((((X1 Q15.toNat).2).1).2.1), .slice ((((X1 Q15.toNat).2).2).1) ((((nth v0.1 Q15.toNat).2).2).length) ((((X1 Q15.toNat).2).2).2.1)]) ty77 Upd.here (nl (bdo H1 fun b26 j27 H1 => (tMid1 [(59, .bool (b26)), (1, .pointer (some ⟨g3, 0, none⟩)), (24, .slice x_v0.1.1 v0.1.length x_v0.1.2), (25, .int .i64 ((v0.1.length : Int))), (26, .int .i64 (Q15))] ?_ ?_)))
    ·refine tLinS [(3, .int .i64 (Q15)), (4, .pointer (some ⟨g25, 0, none⟩)), (1, .pointer (some ⟨g3, 0, none⟩)), (24, .slice x_v0.1.1 v0.1.length x_v0.1.2), (25, .int .i64 ((v0.1.length : Int))), (26, .int .i64 (Q15))] mixed (.inr (by kernel_rfl)) ⟨rfl, rfl, rfl, rfl, rfl, rfl, trivial⟩ rfl (Lin.p (p_fabE fa77_0 rfl rfl) (Lin.o (q_ldb ty3 rfl Has.here rfl) (Lin.p (p_fabE fa32_3 rfl rfl) (Lin.o (q_ldb ty3 rfl hs1 rfl) (gdo j27 fun h28 j27 => (Lin.p (p_sub rfl rfl h28) (bdo j27 fun r29 h30 j27 => (Lin.o (q_call (c_impl_within ((nth v0.1 Q15.toNat).1) 1 (v0.2.2.2 - 1) h30) rfl EntsB.nil) (Lin.p (p_not rfl) ?_)))))))))
     rcases Bool.eq_false_or_eq_true (!r29) with h31 | h31
     ·have j27 := cdT h31 j27
      refine Lin.e_ (p_move rfl) h31 ?_
      iterate 14 refine Lin.sk rfl ?_
      refine Lin.p (v := .bool (true)) (p_pickT rfl rfl) (Lin.m (v := .bool (true)) rfl ?_)
      iterate 4 refine Lin.sk rfl ?_
      refine Lin.p (v := .bool (true)) (p_pickT rfl rfl) ?_
      obtain rfl := si j27
      show At _ _ _ _ _ _
      exact n1 ⟨rfl, rfl, rfl, rfl, rfl, trivial⟩
     ·have j27 := cdF h31 j27
      refine Lin.e_ (p_move rfl) h31 (Lin.h rfl (p_move rfl) (Lin.h rfl (p_gtr rfl rfl) ?_))
      rcases Bool.eq_false_or_eq_true (decide (0 < Q15)) with h32 | h32
      ·have j27 := cdT h32 j27
       refine Lin.f_ rfl (p_move rfl) h32 (Lin.h rfl (p_fabE fa32_0 rfl rfl) (Lin.i rfl (q_ldb ty29 rfl hs1 rfl) (Lin.h rfl (p_move rfl) (gdo j27 fun h33 j27 => (Lin.h rfl (p_sub rfl rfl h33) (gdo j27 fun h34 j27 => (Lin.i rfl (q_ixg underlying29 ty77 rfl rfl h34 rfl (Ent.b (Ent.darr Ent.z.s))) (Lin.i rfl (q_faeE (j := 0) ((Q15 - 1).toNat) fa77_0 rfl (Ent.b (Ent.darr Ent.z.s)) h34.lt rfl) (Lin.i rfl (q_lde (i := (Q15 - 1).toNat) (j := 0) ty3 rfl (Ent.b (Ent.darr Ent.z.s)) h34.lt rfl) ?_)))))))))
       refine Lin.h rfl (p_fabE fa77_0 rfl rfl) (Lin.i rfl (q_ldb ty3 rfl Has.here rfl) (Lin.h rfl (p_geq rfl rfl) (Lin.h rfl (p_pickT rfl rfl) (Lin.p (p_pickF rfl rfl) ?_))))
       rcases Bool.eq_false_or_eq_true (decide (((nth v0.1 Q15.toNat).1) ≤ ((nth v0.1 ((Q15 - 1).toNat)).1))) with h35 | h35
       ·have j27 := cdT h35 j27
        refine Lin.e_ (p_move rfl) h35 ?_
        iterate 4 refine Lin.sk rfl ?_
        refine Lin.p (v := .bool (true)) (p_pickT rfl rfl) ?_
        obtain rfl := si j27
        show At _ _ _ _ _ _
        exact n1 ⟨rfl, rfl, rfl, rfl, rfl, trivial⟩
       ·have j27 := cdF h35 j27
        refine Lin.e_ (p_move rfl) h35 (Lin.h rfl (p_fabE fa77_1 rfl rfl) (Lin.i (v := .agg #[.slice ((((X1 Q15.toNat).2).1).1) ((((nth v0.1 Q15.toNat).2).1).length) ((((X1 Q15.toNat).2).1).2.1), .slice ((((X1 Q15.toNat).2).2).1) ((((nth v0.1 Q15.toNat).2).2).length) ((((X1 Q15.toNat).2).2).2.1)]) rfl (q_ldbP [.slice ((((X1 Q15.toNat).2).1).1) ((((nth v0.1 Q15.toNat).2).1).length) ((((X1 Q15.toNat).2).1).2.1), .slice ((((X1 Q15.toNat).2).2).1) ((((nth v0.1 Q15.toNat).2).2).length) ((((X1 Q15.toNat).2).2).2.1)] ty75 rfl Has.here rfl rfl) (bdo j27 fun r36 h37 j27 => (Lin.i rfl (q_call (c_impl_PartOk ((nth v0.1 Q15.toNat).2) (((((X1 Q15.toNat).2).1).1, (((X1 Q15.toNat).2).1).2.1), ((((X1 Q15.toNat).2).2).1, (((X1 Q15.toNat).2).2).2.1)) h37) rfl (EntsB.cons (Ent.b (Ent.dimm (Ent.dfst (Ent.dsnd (Ent.del Ent.z.s h24.lt))))) (EntsB.cons (Ent.b (Ent.dimm (Ent.dsnd (Ent.dsnd (Ent.del Ent.z.s h24.lt))))) EntsB.nil))) (Lin.h rfl (p_not rfl) (Lin.p (p_pickF rfl rfl) ?_))))))
        obtain rfl := si j27
        show At _ _ _ _ _ _
        exact n1 ⟨rfl, rfl, rfl, rfl, rfl, trivial⟩
      ·have j27 := cdF h32 j27
       refine Lin.f_ rfl (p_move rfl) h32 ?_
       iterate 10 refine Lin.sk rfl ?_
       refine Lin.h (v := .bool (false)) rfl (p_pickF rfl rfl) (Lin.p (v := .bool (false)) (p_pickF rfl rfl) (Lin.m (v := .bool (false)) rfl (Lin.h rfl (p_fabE fa77_1 rfl rfl) (Lin.i (v := .agg #[.slice ((((X1 Q15.toNat).2).1).1) ((((nth v0.1 Q15.toNat).2).1).length) ((((X1 Q15.toNat).2).1).2.1), .slice ((((X1 Q15.toNat).2).2).1) ((((nth v0.1 Q15.toNat).2).2).length) ((((X1 Q15.toNat).2).2).2.1)]) rfl (q_ldbP [.slice ((((X1 Q15.toNat).2).1).1) ((((nth v0.1 Q15.toNat).2).1).length) ((((X1 Q15.toNat).2).1).2.1), .slice ((((X1 Q15.toNat).2).2).1) ((((nth v0.1 Q15.toNat).2).2).length) ((((X1 Q15.toNat).2).2).2.1)] ty75 rfl Has.here rfl rfl) (bdo j27 fun r38 h39 j27 => (Lin.i rfl (q_call (c_impl_PartOk ((nth v0.1 Q15.toNat).2) (((((X1 Q15.toNat).2).1).1, (((X1 Q15.toNat).2).1).2.1), ((((X1 Q15.toNat).2).2).1, (((X1 Q15.toNat).2).2).2.1)) h39) rfl (EntsB.cons (Ent.b (Ent.dimm (Ent.dfst (Ent.dsnd (Ent.del Ent.z.s h24.lt))))) (EntsB.cons (Ent.b (Ent.dimm (Ent.dsnd (Ent.dsnd (Ent.del Ent.z.s h24.lt))))) EntsB.nil))) (Lin.h rfl (p_not rfl) (Lin.p (p_pickF rfl rfl) ?_))))))))
       obtain rfl := si j27
       show At _ _ _ _ _ _
       exact n1 ⟨rfl, rfl, rfl, rfl, rfl, trivial⟩
    refine cH H1 rfl (fun h40 H1 => ?_) (fun h40 H1 => ?_)
    ·refine sr (Rg.a (v := .bool (false)) rfl (nl (tRet (rB (rT (rT (rB (rT (rT (?_))))))))))
     obtain rfl := hb20 _ (sm H1)
     replace H := sw.r H
     obtain rfl := si H
     exact bk
    ·exact tSkip (nB (nT (Tr.region (gdo H1 fun h41 H1 => (Rg.p (p_add rfl rfl h41) (Rg.m rfl (Rg.nl (nLI () (hi19 _ (sm H1)) (.cons dl1 .nil)))))))))
   ·exact tExit (xT (xT (xE (nMI () (hb20 _ (sm H1)) (.cons Del.here .nil)))))
  ·rintro e42 y17 H
   refine nT (Tr.seq (sr (Rg.p (p_fabE fa32_1 rfl rfl) (Rg.o (q_ldb ty23 rfl Has.here rfl) (Rg.p (p_len 3 underlying23 rfl) (Rg.m (v := .int .i64 (0)) rfl (nl (bdo H fun x43 hx44 H => (tMidI (Λ := Unit) H (fun _ _ => [(1, .pointer (some ⟨g3, 0, none⟩))]) (fun _ _ => [box g3 32 [.slice x_v0.1.1 v0.1.length x_v0.1.2, .slice x_v0.2.1.1 v0.2.1.length x_v0.2.1.2, .slice x_v0.2.2.1.1 v0.2.2.1.length x_v0.2.2.1.2, .int .i64 (v0.2.2.2)]]) ?_ ?_)))))))))
   ·refine Tr.block (tLoopI hx44 () (fun Q47 _ => [(1, .pointer (some ⟨g3, 0, none⟩)), (62, .slice x_v0.2.1.1 v0.2.1.length x_v0.2.1.2), (63, .int .i64 ((v0.2.1.length : Int))), (64, .int .i64 (Q47))]) (fun _ _ => [box g3 32 [.slice x_v0.1.1 v0.1.length x_v0.1.2, .slice x_v0.2.1.1 v0.2.1.length x_v0.2.1.2, .slice x_v0.2.2.1.1 v0.2.2.1.length x_v0.2.2.1.2, .int .i64 (v0.2.2.2)]]) (.cons Del.here .nil) ?_)
    rintro _ Q47 z48 t50 H1 hi51 hb52
    unfold p_impl_DiskOk_b1 at H1
    refine sr (Rg.p (p_lss rfl rfl) (nl (Tr.seq (cH H1 rfl (fun h55 H1 => ?_) (fun h55 H1 => ?_)))))
    ·refine tSkip (nT (Tr.seq (Tr.block (sr (Rg.m rfl (gdo H1 fun h56 H1 => (Rg.o (q_ixg underlying23 ty3 rfl rfl h56 rfl (EntB.flat (Ent.b Ent.z.s.s.s))) (Rg.o (q_lde (i := Q47.toNat) (j := 0) ty3 rfl (EntB.flat (Ent.b Ent.z.s.s.s)) h56.lt rfl) (Rg.a rfl (Rg.a rfl (nl ?_)))))))))))
     refine bdo H1 fun b57 j58 H1 => (tMid1 [(80, .bool (b57)), (1, .pointer (some ⟨g3, 0, none⟩)), (62, .slice x_v0.2.1.1 v0.2.1.length x_v0.2.1.2), (63, .int .i64 ((v0.2.1.length : Int))), (64, .int .i64 (Q47))] ?_ ?_)
     ·refine tLinT [(6, .int .i64 (nth v0.2.1 Q47.toNat)), (5, .int .i64 (Q47)), (1, .pointer (some ⟨g3, 0, none⟩)), (62, .slice x_v0.2.1.1 v0.2.1.length x_v0.2.1.2), (63, .int .i64 ((v0.2.1.length : Int))), (64, .int .i64 (Q47))] ⟨rfl, rfl, rfl, rfl, rfl, rfl, trivial⟩ (Lin.o (q_ldbA ty32 rfl Has.here rfl) (Lin.m rfl (bdo j58 fun r59 h60 j58 => (Lin.o (q_call (c_impl_Disk_file v0 (x_v0.1, x_v0.2.1, x_v0.2.2.1, ()) (nth v0.2.1 Q47.toNat) h60) rfl (EntsB.cons (Ent.b (Ent.dimm Ent.z.s)) (EntsB.cons (Ent.b Ent.z.s.s.s) (EntsB.cons (Ent.b (Ent.dimm Ent.z)) EntsB.nil)))) (Lin.p (p_lss rfl rfl) ?_)))))
      rcases Bool.eq_false_or_eq_true (decide (r59 < 0)) with h61 | h61
      ·have j58 := cdT h61 j58
       refine Lin.e_ (p_move rfl) h61 ?_
       iterate 6 refine Lin.sk rfl ?_
       refine Lin.p (v := .bool (true)) (p_pickT rfl rfl) ?_
       obtain rfl := si j58
       show At _ _ _ _ _ _
       exact n1 ⟨rfl, rfl, rfl, rfl, rfl, trivial⟩
      ·have j58 := cdF h61 j58
       refine Lin.e_ (p_move rfl) h61 (Lin.h rfl (p_fabE fa32_1 rfl rfl) (Lin.i rfl (q_ldb ty23 rfl Has.here rfl) (Lin.h rfl (p_move rfl) (gdo j58 fun h62 j58 => (Lin.i (v := .slice (subA x_v0.2.1.1 x_v0.2.1.2 0 (Enc.sz Int)) (((v0.2.1.take Q47.toNat).drop 0).length) (x_v0.2.1.2 - 0)) rfl (q_slF (l := v0.2.1) (α := Int) 0 Q47 underlying23 ty3 rfl rfl (fun _ => rfl) rfl (fun h => nomatch h) h62 (Ent.b Ent.z.s.s.s)) (Lin.h rfl (p_move rfl) (bdo j58 fun r63 h64 j58 => (Lin.i rfl (q_call (c_slices_Contains_int_int ((v0.2.1.take Q47.toNat).drop 0) (subA x_v0.2.1.1 x_v0.2.1.2 0 (Enc.sz Int), (x_v0.2.1.2 - 0)) (nth v0.2.1 Q47.toNat) h64) rfl (EntsB.cons (Ent.b (Ent.sub Ent.z.s.s.s h62.le h62.lt)) EntsB.nil)) (Lin.p (p_pickF rfl rfl) ?_)))))))))
       obtain rfl := si j58
       show At _ _ _ _ _ _
       exact n1 ⟨rfl, rfl, rfl, rfl, rfl, trivial⟩
     refine cH H1 rfl (fun h65 H1 => ?_) (fun h65 H1 => ?_)
     ·refine sr (Rg.a (v := .bool (false)) rfl (nl (tRet (rB (rT (rT (rB (rT (rT (?_))))))))))
      obtain rfl := hb52 _ (sm H1)
      replace H := sw.r H
      obtain rfl := si H
      exact bk
     ·exact tSkip (nB (nT (Tr.region (gdo H1 fun h66 H1 => (Rg.p (p_add rfl rfl h66) (Rg.m rfl (Rg.nl (nLI () (hi51 _ (sm H1)) (.cons Del.here .nil)))))))))
    ·exact tExit (xT (xT (xE (nMI () (hb52 _ (sm H1)) (.cons Del.here .nil)))))
   ·rintro e67 y49 H
    refine nT (sr (Rg.o (q_ldbA ty32 rfl Has.here rfl) (bdo H fun r68 h69 H => (f1 (e_callB (c_impl_Disk_open v0 (x_v0.1, x_v0.2.1, x_v0.2.2.1, ()) h69) (fun _ => (Solo.tree (Solo.tree (Solo.tree (Solo.tree Solo.nil))))) rfl (EntsB.cons (Ent.b (Ent.dimm Ent.z.s)) (EntsB.cons (Ent.b Ent.z.s.s.s) (EntsB.cons (Ent.b (Ent.dimm Ent.z)) EntsB.nil)))) fun x70 => (bdo H fun r71 h72 H => (Rg.o (q_call (c_impl_StoreOk r68 x70 h72) rfl (EntsB.cons (EntB.tree Has.here) (EntsB.cons (EntB.tree hs1) (EntsB.cons (EntB.tree hs2) (EntsB.cons (EntB.tree hs3) EntsB.nil))))) (Rg.a rfl (nl ?_))))))))
    obtain rfl := si H
    exact tRet bk
noncomputable def p_laws_eqIntS_b0 (v0 : (List Int)) (v1 : (List Int)) (Q6 : Int) : Option ((Int) ⊕ (Unit ⊕ Bool)) := cond (decide (Q6 < (v0.length : Int))) (gd (ix Q6 v0.length) <| gd (ix Q6 v1.length) <| cond (!decide ((nth v0 Q6.toNat) = (nth v1 Q6.toNat))) (some (.inr (.inr false))) (gd (I64 (Q6 + 1)) <| some (.inl (Q6 + 1)))) (some (.inr (.inl ())))
noncomputable def p_laws_eqIntS (v0 : (List Int)) (v1 : (List Int)) : Option (Bool) := cond (!decide ((v0.length : Int) = (v1.length : Int))) (some false) (bd (lp (p_laws_eqIntS_b0 v0 v1) 0) <| sw (fun _ => some true) (fun q => some q))
theorem c_laws_eqIntS {r : Bool} (v0 : (List Int)) (x_v0 : Option Addr × Nat) (v1 : (List Int)) (x_v1 : Option Addr × Nat) (H : p_laws_eqIntS v0 v1 = some r) : Fn' prog 54 #[.slice x_v0.1 v0.length x_v0.2, .slice x_v1.1 v1.length x_v1.2] [imm (.slice x_v0.1 v0.length x_v0.2) v0, imm (.slice x_v1.1 v1.length x_v1.2) v1] [] (ι := Unit) (fun _ => .bool (r)) (fun _ => []) (fun _ => []) := by
 refine cof (args := [_, _]) func54 ntmps54 fun c => ?_
 unfold p_laws_eqIntS at H
 refine sr (Rg.a (v := .bool (false)) rfl (nl (Tr.seq (sr (Rg.m rfl (Rg.p (p_len 3 underlying23 rfl) (Rg.m rfl (Rg.p (p_len 3 underlying23 rfl) (Rg.p (p_neq rfl rfl) (nl (cH H rfl (fun h1 H => ?_) (fun h1 H => ?_))))))))))))
 ·refine sr (Rg.a (v := .bool (false)) rfl (nl (tRet (rT (?_)))))
  obtain rfl := si H
  exact bk
 ·refine tSkip (nT (Tr.seq (sr (Rg.a (v := .int .i64 (0)) rfl (nl (bdo H fun x2 hx3 H => (tMidI (Λ := Unit) H (fun _ _ => []) (fun _ _ => []) ?_ ?_)))))))
  ·refine Tr.block (tLoopI hx3 () (fun Q6 _ => [(0, .slice x_v0.1 v0.length x_v0.2), (1, .slice x_v1.1 v1.length x_v1.2), (5, .int .i64 (Q6))]) (fun _ _ => []) Take.nil ?_)
   rintro _ Q6 z7 t9 H1 hi10 hb11
   unfold p_laws_eqIntS_b0 at H1
   refine Tr.seq (sr (Rg.m rfl (Rg.m rfl (Rg.p (p_len 3 underlying23 rfl) (Rg.p (p_lss rfl rfl) (nl (cH H1 rfl (fun h14 H1 => ?_) (fun h14 H1 => ?_))))))))
   ·refine tSkip (nT (Tr.seq (Tr.block (Tr.seq (tLinS [(0, .slice x_v0.1 v0.length x_v0.2), (1, .slice x_v1.1 v1.length x_v1.2), (5, .int .i64 (Q6))] mixed (.inr (by kernel_rfl)) ⟨rfl, rfl, rfl, trivial⟩ rfl (Lin.m rfl (Lin.m rfl (gdo H1 fun h15 H1 => (Lin.o (q_ixg underlying23 ty3 rfl rfl h15 rfl (EntB.flat (Ent.b Ent.z))) (Lin.o (q_lde (i := Q6.toNat) (j := 0) ty3 rfl (EntB.flat (Ent.b Ent.z)) h15.lt rfl) ?_))))))))))
    refine Lin.m rfl (Lin.m rfl (gdo H1 fun h16 H1 => (Lin.o (q_ixg underlying23 ty3 rfl rfl h16 rfl (EntB.flat (Ent.b Ent.z.s))) (Lin.o (q_lde (i := Q6.toNat) (j := 0) ty3 rfl (EntB.flat (Ent.b Ent.z.s)) h16.lt rfl) (Lin.p (p_neq rfl rfl) (nT (cH H1 rfl (fun h17 H1 => ?_) (fun h17 H1 => ?_))))))))
    ·refine sr (Rg.a (v := .bool (false)) rfl (nl (tRet (rB (rT (rT (rB (rT (rT (?_))))))))))
     obtain rfl := hb11 _ (sm H1)
     replace H := sw.r H
     obtain rfl := si H
     exact bk
    ·exact tSkip (nB (nT (Tr.region (Rg.m rfl (gdo H1 fun h18 H1 => (Rg.p (p_add rfl rfl h18) (Rg.a rfl (Rg.nl (nLI () (hi10 _ (sm H1)) Take.nil)))))))))
   ·exact tExit (xT (xT (xE (nMI () (hb11 _ (sm H1)) Take.nil))))
  ·rintro e19 y8 H
   refine nT (sr (Rg.a (v := .bool (true)) rfl (nl ?_)))
   obtain rfl := si H
   exact tRet bk
noncomputable def p_laws_eqRow (v0 : Row) (v1 : Row) : Option (Bool) := cond (!decide (v0.1 = v1.1)) (some false) (cond (!decide (v0.2 = v1.2)) (some false) (some true))
theorem c_laws_eqRow {r : Bool} (v0 : Row) (v1 : Row) (H : p_laws_eqRow v0 v1 = some r) : Fn' prog 171 #[.agg #[.int .i64 (v0.1), .int .i64 (v0.2)], .agg #[.int .i64 (v1.1), .int .i64 (v1.2)]] [] [] (ι := Unit) (fun _ => .bool (r)) (fun _ => []) (fun _ => []) := by
 refine cof (args := [_, _]) func171 ntmps171 fun c => ?_
 unfold p_laws_eqRow at H
 refine sr (f1 (e_box (t := 135) rfl) fun g1 => (f1 (e_box (t := 135) rfl) fun g2 => (Rg.a (v := .bool (false)) rfl (nl (Tr.seq (sr (Rg.p (p_fabE fa135_0 rfl rfl) (Rg.o (q_ldb ty3 rfl hs1 rfl) (Rg.p (p_fabE fa135_0 rfl rfl) (Rg.o (q_ldb ty3 rfl Has.here rfl) (Rg.p (p_neq rfl rfl) (nl ?_))))))))))))
 refine cH H rfl (fun h3 H => ?_) (fun h3 H => ?_)
 ·refine sr (Rg.a (v := .bool (false)) rfl (nl (tRet (rT (?_)))))
  obtain rfl := si H
  exact bk
 ·refine tSkip (nT (Tr.seq (sr (Rg.p (p_fabE fa135_1 rfl rfl) (Rg.o (q_ldb ty3 rfl hs1 rfl) (Rg.p (p_fabE fa135_1 rfl rfl) (Rg.o (q_ldb ty3 rfl Has.here rfl) (Rg.p (p_neq rfl rfl) (nl (cH H rfl (fun h4 H => ?_) (fun h4 H => ?_)))))))))))
  ·refine sr (Rg.a (v := .bool (false)) rfl (nl (tRet (rT (?_)))))
   obtain rfl := si H
   exact bk
  ·refine tSkip (nT (sr (Rg.a (v := .bool (true)) rfl (nl ?_))))
   obtain rfl := si H
   exact tRet bk
noncomputable def p_laws_eqRowS_b0 (v0 : (List Row)) (v1 : (List Row)) (Q6 : Int) : Option ((Int) ⊕ (Unit ⊕ Bool)) := cond (decide (Q6 < (v0.length : Int))) (gd (ix Q6 v0.length) <| gd (ix Q6 v1.length) <| bd (p_laws_eqRow (nth v0 Q6.toNat) (nth v1 Q6.toNat)) fun r17 => cond (!r17) (some (.inr (.inr false))) (gd (I64 (Q6 + 1)) <| some (.inl (Q6 + 1)))) (some (.inr (.inl ())))
noncomputable def p_laws_eqRowS (v0 : (List Row)) (v1 : (List Row)) : Option (Bool) := cond (!decide ((v0.length : Int) = (v1.length : Int))) (some false) (bd (lp (p_laws_eqRowS_b0 v0 v1) 0) <| sw (fun _ => some true) (fun q => some q))
theorem c_laws_eqRowS {r : Bool} (v0 : (List Row)) (x_v0 : Option Addr × Nat) (v1 : (List Row)) (x_v1 : Option Addr × Nat) (H : p_laws_eqRowS v0 v1 = some r) : Fn' prog 191 #[.slice x_v0.1 v0.length x_v0.2, .slice x_v1.1 v1.length x_v1.2] [imm (.slice x_v0.1 v0.length x_v0.2) v0, imm (.slice x_v1.1 v1.length x_v1.2) v1] [] (ι := Unit) (fun _ => .bool (r)) (fun _ => []) (fun _ => []) := by
 refine cof (args := [_, _]) func191 ntmps191 fun c => ?_
 unfold p_laws_eqRowS at H
 refine sr (Rg.a (v := .bool (false)) rfl (nl (Tr.seq (sr (Rg.m rfl (Rg.p (p_len 135 underlying130 rfl) (Rg.m rfl (Rg.p (p_len 135 underlying130 rfl) (Rg.p (p_neq rfl rfl) (nl (cH H rfl (fun h1 H => ?_) (fun h1 H => ?_))))))))))))
 ·refine sr (Rg.a (v := .bool (false)) rfl (nl (tRet (rT (?_)))))
  obtain rfl := si H
  exact bk
 ·refine tSkip (nT (Tr.seq (sr (Rg.a (v := .int .i64 (0)) rfl (nl (bdo H fun x2 hx3 H => (tMidI (Λ := Unit) H (fun _ _ => []) (fun _ _ => []) ?_ ?_)))))))
  ·refine Tr.block (tLoopI hx3 () (fun Q6 _ => [(0, .slice x_v0.1 v0.length x_v0.2), (1, .slice x_v1.1 v1.length x_v1.2), (5, .int .i64 (Q6))]) (fun _ _ => []) Take.nil ?_)
   rintro _ Q6 z7 t9 H1 hi10 hb11
   unfold p_laws_eqRowS_b0 at H1
   refine Tr.seq (sr (Rg.m rfl (Rg.m rfl (Rg.p (p_len 135 underlying130 rfl) (Rg.p (p_lss rfl rfl) (nl (cH H1 rfl (fun h14 H1 => ?_) (fun h14 H1 => ?_))))))))
   ·refine tSkip (nT (Tr.seq (Tr.block (Tr.seq (tLinS [(0, .slice x_v0.1 v0.length x_v0.2), (1, .slice x_v1.1 v1.length x_v1.2), (5, .int .i64 (Q6))] mixed (.inr (by kernel_rfl)) ⟨rfl, rfl, rfl, trivial⟩ rfl (Lin.m rfl (Lin.m rfl (gdo H1 fun h15 H1 => (Lin.o (q_ixg underlying130 ty135 rfl rfl h15 rfl (EntB.flat (Ent.b Ent.z))) (Lin.o (v := .agg #[.int .i64 ((nth v0 Q6.toNat).1), .int .i64 ((nth v0 Q6.toNat).2)]) (q_ldeA (i := Q6.toNat) ty135 rfl (EntB.flat (Ent.b Ent.z)) h15.lt) ?_))))))))))
    refine Lin.m rfl (Lin.m rfl (gdo H1 fun h16 H1 => (Lin.o (q_ixg underlying130 ty135 rfl rfl h16 rfl (EntB.flat (Ent.b Ent.z.s))) (Lin.o (v := .agg #[.int .i64 ((nth v1 Q6.toNat).1), .int .i64 ((nth v1 Q6.toNat).2)]) (q_ldeA (i := Q6.toNat) ty135 rfl (EntB.flat (Ent.b Ent.z.s)) h16.lt) (bdo H1 fun r17 h18 H1 => (Lin.o (q_call (c_laws_eqRow (nth v0 Q6.toNat) (nth v1 Q6.toNat) h18) rfl EntsB.nil) (Lin.p (p_not rfl) (nT (cH H1 rfl (fun h19 H1 => ?_) (fun h19 H1 => ?_))))))))))
    ·refine sr (Rg.a (v := .bool (false)) rfl (nl (tRet (rB (rT (rT (rB (rT (rT (?_))))))))))
     obtain rfl := hb11 _ (sm H1)
     replace H := sw.r H
     obtain rfl := si H
     exact bk
    ·exact tSkip (nB (nT (Tr.region (Rg.m rfl (gdo H1 fun h20 H1 => (Rg.p (p_add rfl rfl h20) (Rg.a rfl (Rg.nl (nLI () (hi10 _ (sm H1)) Take.nil)))))))))
   ·exact tExit (xT (xT (xE (nMI () (hb11 _ (sm H1)) Take.nil))))
  ·rintro e21 y8 H
   refine nT (sr (Rg.a (v := .bool (true)) rfl (nl ?_)))
   obtain rfl := si H
   exact tRet bk
noncomputable def p_laws_eqRowSS_b0 (v0 : (List (List Row))) (v1 : (List (List Row))) (Q8 : Int) : Option ((Int) ⊕ (Unit ⊕ Bool)) := cond (decide (Q8 < (v0.length : Int))) (gd (ix Q8 v0.length) <| gd (ix Q8 v1.length) <| bd (p_laws_eqRowS (nth v0 Q8.toNat) (nth v1 Q8.toNat)) fun r19 => cond (!r19) (some (.inr (.inr false))) (gd (I64 (Q8 + 1)) <| some (.inl (Q8 + 1)))) (some (.inr (.inl ())))
noncomputable def p_laws_eqRowSS (v0 : (List (List Row))) (v1 : (List (List Row))) : Option (Bool) := cond (!decide ((v0.length : Int) = (v1.length : Int))) (some false) (bd (lp (p_laws_eqRowSS_b0 v0 v1) 0) <| sw (fun _ => some true) (fun q => some q))
theorem c_laws_eqRowSS {r : Bool} (v0 : (List (List Row))) (x_v0 : Option Addr × Nat) (v1 : (List (List Row))) (x_v1 : Option Addr × Nat) (H : p_laws_eqRowSS v0 v1 = some r) : Fn' prog 170 #[.slice x_v0.1 v0.length x_v0.2, .slice x_v1.1 v1.length x_v1.2] [imm (.slice x_v0.1 v0.length x_v0.2) v0, imm (.slice x_v1.1 v1.length x_v1.2) v1] [] (ι := Unit) (fun _ => .bool (r)) (fun _ => []) (fun _ => []) := by
 refine cof (args := [_, _]) func170 ntmps170 fun c => ?_
 unfold p_laws_eqRowSS at H
 refine Tr.openD Ent.z fun X1 => (Tr.openD Ent.z.s.s fun X2 => (sr (Rg.a (v := .bool (false)) rfl (nl (Tr.seq (sr (Rg.m rfl (Rg.p (p_len 130 underlying73 rfl) (Rg.m rfl (Rg.p (p_len 130 underlying73 rfl) (Rg.p (p_neq rfl rfl) (nl ?_))))))))))))
 refine cH H rfl (fun h3 H => ?_) (fun h3 H => ?_)
 ·refine sr (Rg.a (v := .bool (false)) rfl (nl (tRet (rT (?_)))))
  obtain rfl := si H
  exact bk
 ·refine tSkip (nT (Tr.seq (sr (Rg.a (v := .int .i64 (0)) rfl (nl (bdo H fun x4 hx5 H => (tMidI (Λ := Unit) H (fun _ _ => []) (fun _ _ => []) ?_ ?_)))))))
  ·refine Tr.block (tLoopI hx5 () (fun Q8 _ => [(0, .slice x_v0.1 v0.length x_v0.2), (1, .slice x_v1.1 v1.length x_v1.2), (5, .int .i64 (Q8))]) (fun _ _ => []) Take.nil ?_)
   rintro _ Q8 z9 t11 H1 hi12 hb13
   unfold p_laws_eqRowSS_b0 at H1
   refine Tr.seq (sr (Rg.m rfl (Rg.m rfl (Rg.p (p_len 130 underlying73 rfl) (Rg.p (p_lss rfl rfl) (nl (cH H1 rfl (fun h16 H1 => ?_) (fun h16 H1 => ?_))))))))
   ·refine tSkip (nT (Tr.seq (Tr.block (Tr.seq (tLinS [(0, .slice x_v0.1 v0.length x_v0.2), (1, .slice x_v1.1 v1.length x_v1.2), (5, .int .i64 (Q8))] mixed (.inr (by kernel_rfl)) ⟨rfl, rfl, rfl, trivial⟩ rfl (Lin.m rfl (Lin.m rfl (gdo H1 fun h17 H1 => (Lin.o (q_ixg underlying73 ty130 rfl rfl h17 rfl (Ent.b (Ent.darr Ent.z.s))) (Lin.o (q_lde (i := Q8.toNat) (j := 0) ty130 rfl (Ent.b (Ent.darr Ent.z.s)) h17.lt rfl) ?_))))))))))
    refine Lin.m rfl (Lin.m rfl (gdo H1 fun h18 H1 => (Lin.o (q_ixg underlying73 ty130 rfl rfl h18 rfl (Ent.b (Ent.darr Ent.z))) (Lin.o (q_lde (i := Q8.toNat) (j := 0) ty130 rfl (Ent.b (Ent.darr Ent.z)) h18.lt rfl) (bdo H1 fun r19 h20 H1 => (Lin.o (q_call (c_laws_eqRowS (nth v0 Q8.toNat) ((X1 Q8.toNat).1, (X1 Q8.toNat).2.1) (nth v1 Q8.toNat) ((X2 Q8.toNat).1, (X2 Q8.toNat).2.1) h20) rfl (EntsB.cons (Ent.b (Ent.dimm (Ent.del Ent.z.s h17.lt))) (EntsB.cons (Ent.b (Ent.dimm (Ent.del Ent.z h18.lt))) EntsB.nil))) (Lin.p (p_not rfl) (nT (cH H1 rfl (fun h21 H1 => ?_) (fun h21 H1 => ?_))))))))))
    ·refine sr (Rg.a (v := .bool (false)) rfl (nl (tRet (rB (rT (rT (rB (rT (rT (?_))))))))))
     obtain rfl := hb13 _ (sm H1)
     replace H := sw.r H
     obtain rfl := si H
     exact bk
    ·exact tSkip (nB (nT (Tr.region (Rg.m rfl (gdo H1 fun h22 H1 => (Rg.p (p_add rfl rfl h22) (Rg.a rfl (Rg.nl (nLI () (hi12 _ (sm H1)) Take.nil)))))))))
   ·exact tExit (xT (xT (xE (nMI () (hb13 _ (sm H1)) Take.nil))))
  ·rintro e23 y10 H
   refine nT (sr (Rg.a (v := .bool (true)) rfl (nl ?_)))
   obtain rfl := si H
   exact tRet bk
noncomputable def p_laws_eqPart (v0 : Part) (v1 : Part) : Option (Bool) := bd (p_laws_eqIntS v0.1 v1.1) fun r5 => cond (!r5) (some false) (bd (p_laws_eqRowSS v0.2 v1.2) fun r8 => cond (!r8) (some false) (some true))
theorem c_laws_eqPart {r : Bool} (v0 : Part) (x_v0 : (Option Addr × Nat) × (Option Addr × Nat)) (v1 : Part) (x_v1 : (Option Addr × Nat) × (Option Addr × Nat)) (H : p_laws_eqPart v0 v1 = some r) : Fn' prog 121 #[.agg #[.slice x_v0.1.1 v0.1.length x_v0.1.2, .slice x_v0.2.1 v0.2.length x_v0.2.2], .agg #[.slice x_v1.1.1 v1.1.length x_v1.1.2, .slice x_v1.2.1 v1.2.length x_v1.2.2]] [imm (.slice x_v0.1.1 v0.1.length x_v0.1.2) v0.1, imm (.slice x_v0.2.1 v0.2.length x_v0.2.2) v0.2, imm (.slice x_v1.1.1 v1.1.length x_v1.1.2) v1.1, imm (.slice x_v1.2.1 v1.2.length x_v1.2.2) v1.2] [] (ι := Unit) (fun _ => .bool (r)) (fun _ => []) (fun _ => []) := by
 refine cof (args := [_, _]) func121 ntmps121 fun c => ?_
 unfold p_laws_eqPart at H
 refine Tr.openD Ent.z.s fun X1 => (Tr.openD Ent.z.s.s.s.s fun X2 => (sr (f1 (e_box (t := 75) rfl) fun g3 => (f1 (e_box (t := 75) rfl) fun g4 => (Rg.a (v := .bool (false)) rfl (nl (Tr.seq (sr (Rg.p (p_fabE fa75_0 rfl rfl) (Rg.o (q_ldb ty23 rfl hs1 rfl) (Rg.p (p_fabE fa75_0 rfl rfl) ?_)))))))))))
 refine Rg.o (q_ldb ty23 rfl Has.here rfl) (bdo H fun r5 h6 H => (Rg.o (q_call (c_laws_eqIntS v0.1 x_v0.1 v1.1 x_v1.1 h6) rfl (EntsB.cons (Ent.b Ent.z.s.s) (EntsB.cons (Ent.b Ent.z.s.s.s.s) EntsB.nil))) (Rg.p (p_not rfl) (nl (cH H rfl (fun h7 H => ?_) (fun h7 H => ?_))))))
 ·refine sr (Rg.a (v := .bool (false)) rfl (nl (tRet (rT (?_)))))
  obtain rfl := si H
  exact bk
 ·refine tSkip (nT (Tr.seq (sr (Rg.p (p_fabE fa75_1 rfl rfl) (Rg.o (q_ldb ty73 rfl hs1 rfl) (Rg.p (p_fabE fa75_1 rfl rfl) (Rg.o (q_ldb ty73 rfl Has.here rfl) (bdo H fun r8 h9 H => (Rg.o (q_call (c_laws_eqRowSS v0.2 x_v0.2 v1.2 x_v1.2 h9) rfl (EntsB.cons (Ent.b (Ent.dimm Ent.z.s)) (EntsB.cons (Ent.b (Ent.dimm Ent.z)) EntsB.nil))) (Rg.p (p_not rfl) (nl ?_)))))))))))
  refine cH H rfl (fun h10 H => ?_) (fun h10 H => ?_)
  ·refine sr (Rg.a (v := .bool (false)) rfl (nl (tRet (rT (?_)))))
   obtain rfl := si H
   exact bk
  ·refine tSkip (nT (sr (Rg.a (v := .bool (true)) rfl (nl ?_))))
   obtain rfl := si H
   exact tRet bk
noncomputable def p_laws_eqFile (v0 : File) (v1 : File) : Option (Bool) := cond (!decide (v0.1 = v1.1)) (some false) (bd (p_laws_eqPart v0.2 v1.2) fun r6 => cond (!r6) (some false) (some true))
theorem c_laws_eqFile {r : Bool} (v0 : File) (x_v0 : Unit × ((Option Addr × Nat) × (Option Addr × Nat))) (v1 : File) (x_v1 : Unit × ((Option Addr × Nat) × (Option Addr × Nat))) (H : p_laws_eqFile v0 v1 = some r) : Fn' prog 118 #[.agg #[.int .i64 (v0.1), .slice x_v0.2.1.1 v0.2.1.length x_v0.2.1.2, .slice x_v0.2.2.1 v0.2.2.length x_v0.2.2.2], .agg #[.int .i64 (v1.1), .slice x_v1.2.1.1 v1.2.1.length x_v1.2.1.2, .slice x_v1.2.2.1 v1.2.2.length x_v1.2.2.2]] [imm (.slice x_v0.2.1.1 v0.2.1.length x_v0.2.1.2) v0.2.1, imm (.slice x_v0.2.2.1 v0.2.2.length x_v0.2.2.2) v0.2.2, imm (.slice x_v1.2.1.1 v1.2.1.length x_v1.2.1.2) v1.2.1, imm (.slice x_v1.2.2.1 v1.2.2.length x_v1.2.2.2) v1.2.2] [] (ι := Unit) (fun _ => .bool (r)) (fun _ => []) (fun _ => []) := by
 refine cof (args := [_, _]) func118 ntmps118 fun c => ?_
 unfold p_laws_eqFile at H
 refine Tr.openD Ent.z.s fun X1 => (Tr.openD Ent.z.s.s.s.s fun X2 => (sr (f1 (e_box (t := 77) rfl) fun g3 => (f1 (e_box (t := 77) rfl) fun g4 => (Rg.a (v := .bool (false)) rfl (nl (Tr.seq (sr (Rg.p (p_fabE fa77_0 rfl rfl) (Rg.o (q_ldb ty3 rfl hs1 rfl) (Rg.p (p_fabE fa77_0 rfl rfl) ?_)))))))))))
 refine Rg.o (q_ldb ty3 rfl Has.here rfl) (Rg.p (p_neq rfl rfl) (nl (cH H rfl (fun h5 H => ?_) (fun h5 H => ?_))))
 ·refine sr (Rg.a (v := .bool (false)) rfl (nl (tRet (rT (?_)))))
  obtain rfl := si H
  exact bk
 ·refine tSkip (nT (Tr.seq (sr (Rg.p (p_fabE fa77_1 rfl rfl) (Rg.o (v := .agg #[.slice x_v0.2.1.1 v0.2.1.length x_v0.2.1.2, .slice x_v0.2.2.1 v0.2.2.length x_v0.2.2.2]) (q_ldbP [.slice x_v0.2.1.1 v0.2.1.length x_v0.2.1.2, .slice x_v0.2.2.1 v0.2.2.length x_v0.2.2.2] ty75 rfl hs1 rfl rfl) (Rg.p (p_fabE fa77_1 rfl rfl) (Rg.o (v := .agg #[.slice x_v1.2.1.1 v1.2.1.length x_v1.2.1.2, .slice x_v1.2.2.1 v1.2.2.length x_v1.2.2.2]) (q_ldbP [.slice x_v1.2.1.1 v1.2.1.length x_v1.2.1.2, .slice x_v1.2.2.1 v1.2.2.length x_v1.2.2.2] ty75 rfl Has.here rfl rfl) (bdo H fun r6 h7 H => (Rg.o (q_call (c_laws_eqPart v0.2 x_v0.2 v1.2 x_v1.2 h7) rfl (EntsB.cons (Ent.b Ent.z.s.s) (EntsB.cons (Ent.b (Ent.dimm Ent.z.s)) (EntsB.cons (Ent.b Ent.z.s.s.s.s) (EntsB.cons (Ent.b (Ent.dimm Ent.z)) EntsB.nil))))) (Rg.p (p_not rfl) (nl ?_)))))))))))
  refine cH H rfl (fun h8 H => ?_) (fun h8 H => ?_)
  ·refine sr (Rg.a (v := .bool (false)) rfl (nl (tRet (rT (?_)))))
   obtain rfl := si H
   exact bk
  ·refine tSkip (nT (sr (Rg.a (v := .bool (true)) rfl (nl ?_))))
   obtain rfl := si H
   exact tRet bk
noncomputable def p_laws_eqFileS_b0 (v0 : (List File)) (v1 : (List File)) (Q8 : Int) : Option ((Int) ⊕ (Unit ⊕ Bool)) := cond (decide (Q8 < (v0.length : Int))) (gd (ix Q8 v0.length) <| gd (ix Q8 v1.length) <| bd (p_laws_eqFile (nth v0 Q8.toNat) (nth v1 Q8.toNat)) fun r19 => cond (!r19) (some (.inr (.inr false))) (gd (I64 (Q8 + 1)) <| some (.inl (Q8 + 1)))) (some (.inr (.inl ())))
noncomputable def p_laws_eqFileS (v0 : (List File)) (v1 : (List File)) : Option (Bool) := cond (!decide ((v0.length : Int) = (v1.length : Int))) (some false) (bd (lp (p_laws_eqFileS_b0 v0 v1) 0) <| sw (fun _ => some true) (fun q => some q))
theorem c_laws_eqFileS {r : Bool} (v0 : (List File)) (x_v0 : Option Addr × Nat) (v1 : (List File)) (x_v1 : Option Addr × Nat) (H : p_laws_eqFileS v0 v1 = some r) : Fn' prog 53 #[.slice x_v0.1 v0.length x_v0.2, .slice x_v1.1 v1.length x_v1.2] [imm (.slice x_v0.1 v0.length x_v0.2) v0, imm (.slice x_v1.1 v1.length x_v1.2) v1] [] (ι := Unit) (fun _ => .bool (r)) (fun _ => []) (fun _ => []) := by
 refine cof (args := [_, _]) func53 ntmps53 fun c => ?_
 unfold p_laws_eqFileS at H
 refine Tr.openD Ent.z fun X1 => (Tr.openD Ent.z.s.s fun X2 => (sr (Rg.a (v := .bool (false)) rfl (nl (Tr.seq (sr (Rg.m rfl (Rg.p (p_len 77 underlying29 rfl) (Rg.m rfl (Rg.p (p_len 77 underlying29 rfl) (Rg.p (p_neq rfl rfl) (nl ?_))))))))))))
 refine cH H rfl (fun h3 H => ?_) (fun h3 H => ?_)
 ·refine sr (Rg.a (v := .bool (false)) rfl (nl (tRet (rT (?_)))))
  obtain rfl := si H
  exact bk
 ·refine tSkip (nT (Tr.seq (sr (Rg.a (v := .int .i64 (0)) rfl (nl (bdo H fun x4 hx5 H => (tMidI (Λ := Unit) H (fun _ _ => []) (fun _ _ => []) ?_ ?_)))))))
  ·refine Tr.block (tLoopI hx5 () (fun Q8 _ => [(0, .slice x_v0.1 v0.length x_v0.2), (1, .slice x_v1.1 v1.length x_v1.2), (5, .int .i64 (Q8))]) (fun _ _ => []) Take.nil ?_)
   rintro _ Q8 z9 t11 H1 hi12 hb13
   unfold p_laws_eqFileS_b0 at H1
   refine Tr.seq (sr (Rg.m rfl (Rg.m rfl (Rg.p (p_len 77 underlying29 rfl) (Rg.p (p_lss rfl rfl) (nl (cH H1 rfl (fun h16 H1 => ?_) (fun h16 H1 => ?_))))))))
   ·refine tSkip (nT (Tr.seq (Tr.block (Tr.seq (tLinS [(0, .slice x_v0.1 v0.length x_v0.2), (1, .slice x_v1.1 v1.length x_v1.2), (5, .int .i64 (Q8))] mixed (.inr (by kernel_rfl)) ⟨rfl, rfl, rfl, trivial⟩ rfl (Lin.m rfl (Lin.m rfl (gdo H1 fun h17 H1 => (Lin.o (q_ixg underlying29 ty77 rfl rfl h17 rfl (Ent.b (Ent.darr Ent.z.s))) (Lin.o (v := .agg #[.int .i64 ((nth v0 Q8.toNat).1), .slice ((((X1 Q8.toNat).2).1).1) ((((nth v0 Q8.toNat).2).1).length) ((((X1 Q8.toNat).2).1).2.1), .slice ((((X1 Q8.toNat).2).2).1) ((((nth v0 Q8.toNat).2).2).length) ((((X1 Q8.toNat).2).2).2.1)]) (q_ldeA (i := Q8.toNat) ty77 rfl (Ent.b (Ent.darr Ent.z.s)) h17.lt) ?_))))))))))
    refine Lin.m rfl (Lin.m rfl (gdo H1 fun h18 H1 => (Lin.o (q_ixg underlying29 ty77 rfl rfl h18 rfl (Ent.b (Ent.darr Ent.z))) (Lin.o (v := .agg #[.int .i64 ((nth v1 Q8.toNat).1), .slice ((((X2 Q8.toNat).2).1).1) ((((nth v1 Q8.toNat).2).1).length) ((((X2 Q8.toNat).2).1).2.1), .slice ((((X2 Q8.toNat).2).2).1) ((((nth v1 Q8.toNat).2).2).length) ((((X2 Q8.toNat).2).2).2.1)]) (q_ldeA (i := Q8.toNat) ty77 rfl (Ent.b (Ent.darr Ent.z)) h18.lt) (bdo H1 fun r19 h20 H1 => (Lin.o (q_call (c_laws_eqFile (nth v0 Q8.toNat) ((), (((((X1 Q8.toNat).2).1).1, (((X1 Q8.toNat).2).1).2.1), ((((X1 Q8.toNat).2).2).1, (((X1 Q8.toNat).2).2).2.1))) (nth v1 Q8.toNat) ((), (((((X2 Q8.toNat).2).1).1, (((X2 Q8.toNat).2).1).2.1), ((((X2 Q8.toNat).2).2).1, (((X2 Q8.toNat).2).2).2.1))) h20) rfl (EntsB.cons (Ent.b (Ent.dimm (Ent.dfst (Ent.dsnd (Ent.del Ent.z.s h17.lt))))) (EntsB.cons (Ent.b (Ent.dimm (Ent.dsnd (Ent.dsnd (Ent.del Ent.z.s h17.lt))))) (EntsB.cons (Ent.b (Ent.dimm (Ent.dfst (Ent.dsnd (Ent.del Ent.z h18.lt))))) (EntsB.cons (Ent.b (Ent.dimm (Ent.dsnd (Ent.dsnd (Ent.del Ent.z h18.lt))))) EntsB.nil))))) (Lin.p (p_not rfl) (nT (cH H1 rfl (fun h21 H1 => ?_) (fun h21 H1 => ?_))))))))))
    ·refine sr (Rg.a (v := .bool (false)) rfl (nl (tRet (rB (rT (rT (rB (rT (rT (?_))))))))))
     obtain rfl := hb13 _ (sm H1)
     replace H := sw.r H
     obtain rfl := si H
     exact bk
    ·exact tSkip (nB (nT (Tr.region (Rg.m rfl (gdo H1 fun h22 H1 => (Rg.p (p_add rfl rfl h22) (Rg.a rfl (Rg.nl (nLI () (hi12 _ (sm H1)) Take.nil)))))))))
   ·exact tExit (xT (xT (xE (nMI () (hb13 _ (sm H1)) Take.nil))))
  ·rintro e23 y10 H
   refine nT (sr (Rg.a (v := .bool (true)) rfl (nl ?_)))
   obtain rfl := si H
   exact tRet bk
noncomputable def p_laws_eqTag (v0 : Tag) (v1 : Tag) : Option (Bool) := cond (!decide (v0.1 = v1.1)) (some false) (cond (!decide (v0.2 = v1.2)) (some false) (some true))
theorem c_laws_eqTag {r : Bool} (v0 : Tag) (v1 : Tag) (H : p_laws_eqTag v0 v1 = some r) : Fn' prog 168 #[.agg #[.string (v0.1), .string (v0.2)], .agg #[.string (v1.1), .string (v1.2)]] [] [] (ι := Unit) (fun _ => .bool (r)) (fun _ => []) (fun _ => []) := by
 refine cof (args := [_, _]) func168 ntmps168 fun c => ?_
 unfold p_laws_eqTag at H
 refine sr (f1 (e_box (t := 172) rfl) fun g1 => (f1 (e_box (t := 172) rfl) fun g2 => (Rg.a (v := .bool (false)) rfl (nl (Tr.seq (sr (Rg.p (p_fabE fa172_0 rfl rfl) (Rg.o (q_ldb ty9 rfl hs1 rfl) (Rg.p (p_fabE fa172_0 rfl rfl) (Rg.o (q_ldb ty9 rfl Has.here rfl) (Rg.p (p_sneq rfl rfl) (nl ?_))))))))))))
 refine cH H rfl (fun h3 H => ?_) (fun h3 H => ?_)
 ·refine sr (Rg.a (v := .bool (false)) rfl (nl (tRet (rT (?_)))))
  obtain rfl := si H
  exact bk
 ·refine tSkip (nT (Tr.seq (sr (Rg.p (p_fabE fa172_1 rfl rfl) (Rg.o (q_ldb ty9 rfl hs1 rfl) (Rg.p (p_fabE fa172_1 rfl rfl) (Rg.o (q_ldb ty9 rfl Has.here rfl) (Rg.p (p_sneq rfl rfl) (nl (cH H rfl (fun h4 H => ?_) (fun h4 H => ?_)))))))))))
  ·refine sr (Rg.a (v := .bool (false)) rfl (nl (tRet (rT (?_)))))
   obtain rfl := si H
   exact bk
  ·refine tSkip (nT (sr (Rg.a (v := .bool (true)) rfl (nl ?_))))
   obtain rfl := si H
   exact tRet bk
noncomputable def p_laws_eqTagS_b0 (v0 : (List Tag)) (v1 : (List Tag)) (Q6 : Int) : Option ((Int) ⊕ (Unit ⊕ Bool)) := cond (decide (Q6 < (v0.length : Int))) (gd (ix Q6 v0.length) <| gd (ix Q6 v1.length) <| bd (p_laws_eqTag (nth v0 Q6.toNat) (nth v1 Q6.toNat)) fun r17 => cond (!r17) (some (.inr (.inr false))) (gd (I64 (Q6 + 1)) <| some (.inl (Q6 + 1)))) (some (.inr (.inl ())))
noncomputable def p_laws_eqTagS (v0 : (List Tag)) (v1 : (List Tag)) : Option (Bool) := cond (!decide ((v0.length : Int) = (v1.length : Int))) (some false) (bd (lp (p_laws_eqTagS_b0 v0 v1) 0) <| sw (fun _ => some true) (fun q => some q))
theorem c_laws_eqTagS {r : Bool} (v0 : (List Tag)) (x_v0 : Option Addr × Nat) (v1 : (List Tag)) (x_v1 : Option Addr × Nat) (H : p_laws_eqTagS v0 v1 = some r) : Fn' prog 119 #[.slice x_v0.1 v0.length x_v0.2, .slice x_v1.1 v1.length x_v1.2] [imm (.slice x_v0.1 v0.length x_v0.2) v0, imm (.slice x_v1.1 v1.length x_v1.2) v1] [] (ι := Unit) (fun _ => .bool (r)) (fun _ => []) (fun _ => []) := by
 refine cof (args := [_, _]) func119 ntmps119 fun c => ?_
 unfold p_laws_eqTagS at H
 refine sr (Rg.a (v := .bool (false)) rfl (nl (Tr.seq (sr (Rg.m rfl (Rg.p (p_len 172 underlying142 rfl) (Rg.m rfl (Rg.p (p_len 172 underlying142 rfl) (Rg.p (p_neq rfl rfl) (nl (cH H rfl (fun h1 H => ?_) (fun h1 H => ?_))))))))))))
 ·refine sr (Rg.a (v := .bool (false)) rfl (nl (tRet (rT (?_)))))
  obtain rfl := si H
  exact bk
 ·refine tSkip (nT (Tr.seq (sr (Rg.a (v := .int .i64 (0)) rfl (nl (bdo H fun x2 hx3 H => (tMidI (Λ := Unit) H (fun _ _ => []) (fun _ _ => []) ?_ ?_)))))))
  ·refine Tr.block (tLoopI hx3 () (fun Q6 _ => [(0, .slice x_v0.1 v0.length x_v0.2), (1, .slice x_v1.1 v1.length x_v1.2), (5, .int .i64 (Q6))]) (fun _ _ => []) Take.nil ?_)
   rintro _ Q6 z7 t9 H1 hi10 hb11
   unfold p_laws_eqTagS_b0 at H1
   refine Tr.seq (sr (Rg.m rfl (Rg.m rfl (Rg.p (p_len 172 underlying142 rfl) (Rg.p (p_lss rfl rfl) (nl (cH H1 rfl (fun h14 H1 => ?_) (fun h14 H1 => ?_))))))))
   ·refine tSkip (nT (Tr.seq (Tr.block (Tr.seq (tLinS [(0, .slice x_v0.1 v0.length x_v0.2), (1, .slice x_v1.1 v1.length x_v1.2), (5, .int .i64 (Q6))] mixed (.inr (by kernel_rfl)) ⟨rfl, rfl, rfl, trivial⟩ rfl (Lin.m rfl (Lin.m rfl (gdo H1 fun h15 H1 => (Lin.o (q_ixg underlying142 ty172 rfl rfl h15 rfl (EntB.flat (Ent.b Ent.z))) (Lin.o (v := .agg #[.string ((nth v0 Q6.toNat).1), .string ((nth v0 Q6.toNat).2)]) (q_ldeA (i := Q6.toNat) ty172 rfl (EntB.flat (Ent.b Ent.z)) h15.lt) ?_))))))))))
    refine Lin.m rfl (Lin.m rfl (gdo H1 fun h16 H1 => (Lin.o (q_ixg underlying142 ty172 rfl rfl h16 rfl (EntB.flat (Ent.b Ent.z.s))) (Lin.o (v := .agg #[.string ((nth v1 Q6.toNat).1), .string ((nth v1 Q6.toNat).2)]) (q_ldeA (i := Q6.toNat) ty172 rfl (EntB.flat (Ent.b Ent.z.s)) h16.lt) (bdo H1 fun r17 h18 H1 => (Lin.o (q_call (c_laws_eqTag (nth v0 Q6.toNat) (nth v1 Q6.toNat) h18) rfl EntsB.nil) (Lin.p (p_not rfl) (nT (cH H1 rfl (fun h19 H1 => ?_) (fun h19 H1 => ?_))))))))))
    ·refine sr (Rg.a (v := .bool (false)) rfl (nl (tRet (rB (rT (rT (rB (rT (rT (?_))))))))))
     obtain rfl := hb11 _ (sm H1)
     replace H := sw.r H
     obtain rfl := si H
     exact bk
    ·exact tSkip (nB (nT (Tr.region (Rg.m rfl (gdo H1 fun h20 H1 => (Rg.p (p_add rfl rfl h20) (Rg.a rfl (Rg.nl (nLI () (hi10 _ (sm H1)) Take.nil)))))))))
   ·exact tExit (xT (xT (xE (nMI () (hb11 _ (sm H1)) Take.nil))))
  ·rintro e21 y8 H
   refine nT (sr (Rg.a (v := .bool (true)) rfl (nl ?_)))
   obtain rfl := si H
   exact tRet bk
noncomputable def p_laws_eqTagSS_b0 (v0 : (List (List Tag))) (v1 : (List (List Tag))) (Q8 : Int) : Option ((Int) ⊕ (Unit ⊕ Bool)) := cond (decide (Q8 < (v0.length : Int))) (gd (ix Q8 v0.length) <| gd (ix Q8 v1.length) <| bd (p_laws_eqTagS (nth v0 Q8.toNat) (nth v1 Q8.toNat)) fun r19 => cond (!r19) (some (.inr (.inr false))) (gd (I64 (Q8 + 1)) <| some (.inl (Q8 + 1)))) (some (.inr (.inl ())))
noncomputable def p_laws_eqTagSS (v0 : (List (List Tag))) (v1 : (List (List Tag))) : Option (Bool) := cond (!decide ((v0.length : Int) = (v1.length : Int))) (some false) (bd (lp (p_laws_eqTagSS_b0 v0 v1) 0) <| sw (fun _ => some true) (fun q => some q))
theorem c_laws_eqTagSS {r : Bool} (v0 : (List (List Tag))) (x_v0 : Option Addr × Nat) (v1 : (List (List Tag))) (x_v1 : Option Addr × Nat) (H : p_laws_eqTagSS v0 v1 = some r) : Fn' prog 55 #[.slice x_v0.1 v0.length x_v0.2, .slice x_v1.1 v1.length x_v1.2] [imm (.slice x_v0.1 v0.length x_v0.2) v0, imm (.slice x_v1.1 v1.length x_v1.2) v1] [] (ι := Unit) (fun _ => .bool (r)) (fun _ => []) (fun _ => []) := by
 refine cof (args := [_, _]) func55 ntmps55 fun c => ?_
 unfold p_laws_eqTagSS at H
 refine Tr.openD Ent.z fun X1 => (Tr.openD Ent.z.s.s fun X2 => (sr (Rg.a (v := .bool (false)) rfl (nl (Tr.seq (sr (Rg.m rfl (Rg.p (p_len 142 underlying30 rfl) (Rg.m rfl (Rg.p (p_len 142 underlying30 rfl) (Rg.p (p_neq rfl rfl) (nl ?_))))))))))))
 refine cH H rfl (fun h3 H => ?_) (fun h3 H => ?_)
 ·refine sr (Rg.a (v := .bool (false)) rfl (nl (tRet (rT (?_)))))
  obtain rfl := si H
  exact bk
 ·refine tSkip (nT (Tr.seq (sr (Rg.a (v := .int .i64 (0)) rfl (nl (bdo H fun x4 hx5 H => (tMidI (Λ := Unit) H (fun _ _ => []) (fun _ _ => []) ?_ ?_)))))))
  ·refine Tr.block (tLoopI hx5 () (fun Q8 _ => [(0, .slice x_v0.1 v0.length x_v0.2), (1, .slice x_v1.1 v1.length x_v1.2), (5, .int .i64 (Q8))]) (fun _ _ => []) Take.nil ?_)
   rintro _ Q8 z9 t11 H1 hi12 hb13
   unfold p_laws_eqTagSS_b0 at H1
   refine Tr.seq (sr (Rg.m rfl (Rg.m rfl (Rg.p (p_len 142 underlying30 rfl) (Rg.p (p_lss rfl rfl) (nl (cH H1 rfl (fun h16 H1 => ?_) (fun h16 H1 => ?_))))))))
   ·refine tSkip (nT (Tr.seq (Tr.block (Tr.seq (tLinS [(0, .slice x_v0.1 v0.length x_v0.2), (1, .slice x_v1.1 v1.length x_v1.2), (5, .int .i64 (Q8))] mixed (.inr (by kernel_rfl)) ⟨rfl, rfl, rfl, trivial⟩ rfl (Lin.m rfl (Lin.m rfl (gdo H1 fun h17 H1 => (Lin.o (q_ixg underlying30 ty142 rfl rfl h17 rfl (Ent.b (Ent.darr Ent.z.s))) (Lin.o (q_lde (i := Q8.toNat) (j := 0) ty142 rfl (Ent.b (Ent.darr Ent.z.s)) h17.lt rfl) ?_))))))))))
    refine Lin.m rfl (Lin.m rfl (gdo H1 fun h18 H1 => (Lin.o (q_ixg underlying30 ty142 rfl rfl h18 rfl (Ent.b (Ent.darr Ent.z))) (Lin.o (q_lde (i := Q8.toNat) (j := 0) ty142 rfl (Ent.b (Ent.darr Ent.z)) h18.lt rfl) (bdo H1 fun r19 h20 H1 => (Lin.o (q_call (c_laws_eqTagS (nth v0 Q8.toNat) ((X1 Q8.toNat).1, (X1 Q8.toNat).2.1) (nth v1 Q8.toNat) ((X2 Q8.toNat).1, (X2 Q8.toNat).2.1) h20) rfl (EntsB.cons (Ent.b (Ent.dimm (Ent.del Ent.z.s h17.lt))) (EntsB.cons (Ent.b (Ent.dimm (Ent.del Ent.z h18.lt))) EntsB.nil))) (Lin.p (p_not rfl) (nT (cH H1 rfl (fun h21 H1 => ?_) (fun h21 H1 => ?_))))))))))
    ·refine sr (Rg.a (v := .bool (false)) rfl (nl (tRet (rB (rT (rT (rB (rT (rT (?_))))))))))
     obtain rfl := hb13 _ (sm H1)
     replace H := sw.r H
     obtain rfl := si H
     exact bk
    ·exact tSkip (nB (nT (Tr.region (Rg.m rfl (gdo H1 fun h22 H1 => (Rg.p (p_add rfl rfl h22) (Rg.a rfl (Rg.nl (nLI () (hi12 _ (sm H1)) Take.nil)))))))))
   ·exact tExit (xT (xT (xE (nMI () (hb13 _ (sm H1)) Take.nil))))
  ·rintro e23 y10 H
   refine nT (sr (Rg.a (v := .bool (true)) rfl (nl ?_)))
   obtain rfl := si H
   exact tRet bk
noncomputable def p_laws_eqDisk (v0 : Disk) (v1 : Disk) : Option (Bool) := bd (p_laws_eqFileS v0.1 v1.1) fun r7 => cond (!r7) (some false) (bd (p_laws_eqIntS v0.2.1 v1.2.1) fun r10 => cond (!r10) (some false) (bd (p_laws_eqTagSS v0.2.2.1 v1.2.2.1) fun r13 => cond (!r13) (some false) (cond (!decide (v0.2.2.2 = v1.2.2.2)) (some false) (some true))))
theorem c_laws_eqDisk {r : Bool} (v0 : Disk) (x_v0 : (Option Addr × Nat) × (Option Addr × Nat) × (Option Addr × Nat) × Unit) (v1 : Disk) (x_v1 : (Option Addr × Nat) × (Option Addr × Nat) × (Option Addr × Nat) × Unit) (H : p_laws_eqDisk v0 v1 = some r) : Fn' prog 13 #[.agg #[.slice x_v0.1.1 v0.1.length x_v0.1.2, .slice x_v0.2.1.1 v0.2.1.length x_v0.2.1.2, .slice x_v0.2.2.1.1 v0.2.2.1.length x_v0.2.2.1.2, .int .i64 (v0.2.2.2)], .agg #[.slice x_v1.1.1 v1.1.length x_v1.1.2, .slice x_v1.2.1.1 v1.2.1.length x_v1.2.1.2, .slice x_v1.2.2.1.1 v1.2.2.1.length x_v1.2.2.1.2, .int .i64 (v1.2.2.2)]] [imm (.slice x_v0.1.1 v0.1.length x_v0.1.2) v0.1, imm (.slice x_v0.2.1.1 v0.2.1.length x_v0.2.1.2) v0.2.1, imm (.slice x_v0.2.2.1.1 v0.2.2.1.length x_v0.2.2.1.2) v0.2.2.1, imm (.slice x_v1.1.1 v1.1.length x_v1.1.2) v1.1, imm (.slice x_v1.2.1.1 v1.2.1.length x_v1.2.1.2) v1.2.1, imm (.slice x_v1.2.2.1.1 v1.2.2.1.length x_v1.2.2.1.2) v1.2.2.1] [] (ι := Unit) (fun _ => .bool (r)) (fun _ => []) (fun _ => []) := by
 refine cof (args := [_, _]) func13 ntmps13 fun c => ?_
 unfold p_laws_eqDisk at H
 refine Tr.openD Ent.z fun X1 => (Tr.openD Ent.z.s.s.s fun X2 => (Tr.openD Ent.z.s.s.s.s.s fun X3 => (Tr.openD Ent.z.s.s.s.s.s.s.s.s fun X4 => (sr (f1 (e_box (t := 32) rfl) fun g5 => (f1 (e_box (t := 32) rfl) fun g6 => (Rg.a (v := .bool (false)) rfl (nl (Tr.seq (sr (Rg.p (p_fabE fa32_0 rfl rfl) ?_)))))))))))
 refine Rg.o (q_ldb ty29 rfl hs1 rfl) (Rg.p (p_fabE fa32_0 rfl rfl) (Rg.o (q_ldb ty29 rfl Has.here rfl) (bdo H fun r7 h8 H => (Rg.o (q_call (c_laws_eqFileS v0.1 x_v0.1 v1.1 x_v1.1 h8) rfl (EntsB.cons (Ent.b (Ent.dimm Ent.z.s.s.s)) (EntsB.cons (Ent.b (Ent.dimm Ent.z.s)) EntsB.nil))) (Rg.p (p_not rfl) (nl (cH H rfl (fun h9 H => ?_) (fun h9 H => ?_))))))))
 ·refine sr (Rg.a (v := .bool (false)) rfl (nl (tRet (rT (?_)))))
  obtain rfl := si H
  exact bk
 ·refine tSkip (nT (Tr.seq (sr (Rg.p (p_fabE fa32_1 rfl rfl) (Rg.o (q_ldb ty23 rfl hs1 rfl) (Rg.p (p_fabE fa32_1 rfl rfl) (Rg.o (q_ldb ty23 rfl Has.here rfl) (bdo H fun r10 h11 H => (Rg.o (q_call (c_laws_eqIntS v0.2.1 x_v0.2.1 v1.2.1 x_v1.2.1 h11) rfl (EntsB.cons (Ent.b Ent.z.s.s.s.s.s) (EntsB.cons (Ent.b Ent.z.s.s.s.s.s.s.s.s) EntsB.nil))) (Rg.p (p_not rfl) (nl ?_)))))))))))
  refine cH H rfl (fun h12 H => ?_) (fun h12 H => ?_)
  ·refine sr (Rg.a (v := .bool (false)) rfl (nl (tRet (rT (?_)))))
   obtain rfl := si H
   exact bk
  ·refine tSkip (nT (Tr.seq (sr (Rg.p (p_fabE fa32_2 rfl rfl) (Rg.o (q_ldb ty30 rfl hs1 rfl) (Rg.p (p_fabE fa32_2 rfl rfl) (Rg.o (q_ldb ty30 rfl Has.here rfl) (bdo H fun r13 h14 H => (Rg.o (q_call (c_laws_eqTagSS v0.2.2.1 x_v0.2.2.1 v1.2.2.1 x_v1.2.2.1 h14) rfl (EntsB.cons (Ent.b (Ent.dimm Ent.z.s.s)) (EntsB.cons (Ent.b (Ent.dimm Ent.z)) EntsB.nil))) (Rg.p (p_not rfl) (nl ?_)))))))))))
   refine cH H rfl (fun h15 H => ?_) (fun h15 H => ?_)
   ·refine sr (Rg.a (v := .bool (false)) rfl (nl (tRet (rT (?_)))))
    obtain rfl := si H
    exact bk
   ·refine tSkip (nT (Tr.seq (sr (Rg.p (p_fabE fa32_3 rfl rfl) (Rg.o (q_ldb ty3 rfl hs1 rfl) (Rg.p (p_fabE fa32_3 rfl rfl) (Rg.o (q_ldb ty3 rfl Has.here rfl) (Rg.p (p_neq rfl rfl) (nl (cH H rfl (fun h16 H => ?_) (fun h16 H => ?_)))))))))))
    ·refine sr (Rg.a (v := .bool (false)) rfl (nl (tRet (rT (?_)))))
     obtain rfl := si H
     exact bk
    ·refine tSkip (nT (sr (Rg.a (v := .bool (true)) rfl (nl ?_))))
     obtain rfl := si H
     exact tRet bk
noncomputable def p_spec_l13Copy_b1 (v0 : Store) (Q12 : (List Part) × Int) (Q34 : (List (List Row)) × Int) : Option (((List (List Row)) × Int) ⊕ ((List (List Row)))) := cond (decide (Q34.2 < (((nth v0.2.1 Q12.2.toNat).2).length : Int))) (gd (ix Q34.2 ((nth v0.2.1 Q12.2.toNat).2).length) <| gd (room (([] : List Row).length + (nth ((nth v0.2.1 Q12.2.toNat).2) Q34.2.toNat).length)) <| gd (room (Q34.1.length + 1)) <| gd (I64 (Q34.2 + 1)) <| some (.inl ((Q34.1 ++ [([] : List Row) ++ (nth ((nth v0.2.1 Q12.2.toNat).2) Q34.2.toNat)]), Q34.2 + 1))) (some (.inr Q34.1))
noncomputable def p_spec_l13Copy_b0 (v0 : Store) (Q12 : (List Part) × Int) : Option (((List Part) × Int) ⊕ ((List Part))) := cond (decide (Q12.2 < (v0.2.1.length : Int))) (gd (ix Q12.2 v0.2.1.length) <| gd (room (([] : List Int).length + ((nth v0.2.1 Q12.2.toNat).1).length)) <| bd (lp (p_spec_l13Copy_b1 v0 Q12) (([] : List (List Row)), 0)) fun x30 => gd (room (Q12.1.length + 1)) <| gd (I64 (Q12.2 + 1)) <| some (.inl ((Q12.1 ++ [((([] : List Int) ++ ((nth v0.2.1 Q12.2.toNat).1)), x30)]), Q12.2 + 1))) (some (.inr Q12.1))
noncomputable def p_spec_l13Copy (v0 : Store) : Option (Store) := bd (lp (p_spec_l13Copy_b0 v0) (([] : List Part), 0)) fun x8 => bd (p_spec_l11Of v0.1.1) fun r59 => gd (room (([] : List Sample).length + v0.2.2.length)) <| some (r59, x8, (([] : List Sample) ++ v0.2.2))
theorem c_spec_l13Copy {r : Store} (v0 : Store) (x_v0 : ((Option Addr × Nat) × (Option Addr × Nat)) × (Option Addr × Nat) × (Option Addr × Nat)) (H : p_spec_l13Copy v0 = some r) : Fn' prog 56 #[.agg #[.slice x_v0.1.1.1 v0.1.1.length x_v0.1.1.2, .slice x_v0.1.2.1 v0.1.2.length x_v0.1.2.2, .slice x_v0.2.1.1 v0.2.1.length x_v0.2.1.2, .slice x_v0.2.2.1 v0.2.2.length x_v0.2.2.2]] [imm (.slice x_v0.1.1.1 v0.1.1.length x_v0.1.1.2) v0.1.1, imm (.slice x_v0.1.2.1 v0.1.2.length x_v0.1.2.2) v0.1.2, imm (.slice x_v0.2.1.1 v0.2.1.length x_v0.2.1.2) v0.2.1, imm (.slice x_v0.2.2.1 v0.2.2.length x_v0.2.2.2) v0.2.2] [] (ι := ((Option Addr × Nat) × (Option Addr × Nat)) × (Option Addr × Nat) × (Option Addr × Nat)) (fun x => .agg #[.slice x.1.1.1 r.1.1.length x.1.1.2, .slice x.1.2.1 r.1.2.length x.1.2.2, .slice x.2.1.1 r.2.1.length x.2.1.2, .slice x.2.2.1 r.2.2.length x.2.2.2]) (fun _ => []) (fun x => [tree (.slice x.1.1.1 r.1.1.length x.1.1.2) r.1.1, tree (.slice x.1.2.1 r.1.2.length x.1.2.2) r.1.2, tree (.slice x.2.1.1 r.2.1.length x.2.1.2) r.2.1, tree (.slice x.2.2.1 r.2.2.length x.2.2.2) r.2.2]) := by
 refine cof (args := [_]) func56 ntmps56 fun c => ?_
 unfold p_spec_l13Copy at H
 refine Tr.openD Ent.z fun X1 => (Tr.openD Ent.z.s.s fun X2 => (Tr.openD Ent.z.s.s.s.s fun X3 => (sr (f1 (e_box (t := 42) rfl) fun g4 => (f1 (e_alloc ty42) fun g5 => (nl (sr (f2 (e_lit0 Part underlying39 ty75) fun a6 c7 => (Rg.a rfl (nl ?_))))))))))
 refine Tr.seq (sr (Rg.a (v := .int .i64 (0)) rfl (nl (bdo H fun x8 hx9 H => (tMidNC (ι := Option Addr × Nat) (fun ψ => [(1, .pointer (some ⟨g4, 0, none⟩)), (2, .pointer (some ⟨g5, 0, none⟩)), (3, .slice ψ.1 x8.length ψ.2)]) (fun ψ => [box g4 42 [.slice x_v0.1.1.1 v0.1.1.length x_v0.1.1.2, .slice x_v0.1.2.1 v0.1.2.length x_v0.1.2.2, .slice x_v0.2.1.1 v0.2.1.length x_v0.2.1.2, .slice x_v0.2.2.1 v0.2.2.length x_v0.2.2.2], box g5 42 [.slice none 0 0, .slice none 0 0, .slice none 0 0, .slice none 0 0], tree (.slice ψ.1 x8.length ψ.2) x8]) ?_ ?_)))))
 ·refine Tr.block (tLoopI hx9 (a6, c7) (fun Q12 z13 => [(1, .pointer (some ⟨g4, 0, none⟩)), (2, .pointer (some ⟨g5, 0, none⟩)), (3, .slice z13.1 Q12.1.length z13.2), (4, .int .i64 (Q12.2))]) (fun Q12 z13 => [box g4 42 [.slice x_v0.1.1.1 v0.1.1.length x_v0.1.1.2, .slice x_v0.1.2.1 v0.1.2.length x_v0.1.2.2, .slice x_v0.2.1.1 v0.2.1.length x_v0.2.1.2, .slice x_v0.2.2.1 v0.2.2.length x_v0.2.2.2], box g5 42 [.slice none 0 0, .slice none 0 0, .slice none 0 0, .slice none 0 0], tree (.slice z13.1 Q12.1.length z13.2) Q12.1]) (.cons dl2 (.cons dl1 (.cons Del.here .nil))) ?_)
  rintro _ Q12 z13 t15 H1 hi16 hb17
  unfold p_spec_l13Copy_b0 at H1
  refine Tr.seq (sr (Rg.m rfl (Rg.p (p_fabE fa42_1 rfl rfl) (Rg.o (q_ldb ty39 rfl Has.here rfl) (Rg.p (p_len 75 underlying39 rfl) (Rg.p (p_lss rfl rfl) (nl (cH H1 rfl (fun h20 H1 => ?_) (fun h20 H1 => ?_)))))))))
  ·refine tSkip (nT (Tr.seq (Tr.block (sr (f2 (e_lit0 Int underlying23 ty3) fun a21 c22 => (Rg.p (p_fabE fa42_1 rfl rfl) (Rg.o (q_ldb ty39 rfl hs1 rfl) (Rg.m rfl (gdo H1 fun h23 H1 => (Rg.o (q_ixg underlying39 ty75 rfl rfl h23 rfl (Ent.b (Ent.darr Ent.z))) ?_))))))))))
   refine Rg.o (q_faeE (j := 0) Q12.2.toNat fa75_0 rfl (Ent.b (Ent.darr Ent.z)) h23.lt rfl) (Rg.o (q_lde (i := Q12.2.toNat) (j := 0) ty23 rfl (Ent.b (Ent.darr Ent.z)) h23.lt rfl) (gdo H1 fun h26 H1 => (f2 (e_appF (l := ([] : List Int)) (k := (nth v0.2.1 Q12.2.toNat).1) (α := Int) underlying23 ty3 rfl rfl (h26.b (by decide)) h26.x (.cons Del.here .nil) (Ent.b (Ent.dimm (Ent.dfst (Ent.del Ent.z h23.lt))))) fun a24 c25 => (f2 (e_lit0 (List Row) underlying73 ty130) fun a27 c28 => (Rg.p (v := .agg #[.slice a24 ((([] : List Int) ++ ((nth v0.2.1 Q12.2.toNat).1)).length) c25, .slice a27 (([] : List (List Row)).length) c28]) (p_buildS (vs := [(0, .slice a24 ((([] : List Int) ++ ((nth v0.2.1 Q12.2.toNat).1)).length) c25), (1, .slice a27 (([] : List (List Row)).length) c28)]) (cs := #[.slice a24 ((([] : List Int) ++ ((nth v0.2.1 Q12.2.toNat).1)).length) c25, .slice a27 (([] : List (List Row)).length) c28]) ty75 pl75 rfl rfl) (f1 (e_alloc ty75) fun g29 => (stb (cs' := [.slice a24 ((([] : List Int) ++ ((nth v0.2.1 Q12.2.toNat).1)).length) c25, .slice a27 (([] : List (List Row)).length) c28]) ty75 Upd.here (nl (Tr.seq (sr ?_))))))))))
   refine Rg.a (v := .int .i64 (0)) rfl (nl (bdo H1 fun x30 hx31 H1 => (tMidNC (ι := Option Addr × Nat) (fun ψ => [(1, .pointer (some ⟨g4, 0, none⟩)), (2, .pointer (some ⟨g5, 0, none⟩)), (3, .slice z13.1 Q12.1.length z13.2), (4, .int .i64 (Q12.2)), (5, .pointer (some ⟨g29, 0, none⟩))]) (fun ψ => [box g4 42 [.slice x_v0.1.1.1 v0.1.1.length x_v0.1.1.2, .slice x_v0.1.2.1 v0.1.2.length x_v0.1.2.2, .slice x_v0.2.1.1 v0.2.1.length x_v0.2.1.2, .slice x_v0.2.2.1 v0.2.2.length x_v0.2.2.2], box g5 42 [.slice none 0 0, .slice none 0 0, .slice none 0 0, .slice none 0 0], tree (.slice z13.1 Q12.1.length z13.2) Q12.1, tree (.slice a24 ((([] : List Int) ++ ((nth v0.2.1 Q12.2.toNat).1)).length) c25) (([] : List Int) ++ ((nth v0.2.1 Q12.2.toNat).1)), tree (.slice ψ.1 x30.length ψ.2) x30, box g29 75 [.slice a24 ((([] : List Int) ++ ((nth v0.2.1 Q12.2.toNat).1)).length) c25, .slice ψ.1 x30.length ψ.2]]) ?_ ?_)))
   ·refine Tr.block (tLoopI hx31 (a27, c28) (fun Q34 _ => [(1, .pointer (some ⟨g4, 0, none⟩)), (2, .pointer (some ⟨g5, 0, none⟩)), (3, .slice z13.1 Q12.1.length z13.2), (4, .int .i64 (Q12.2)), (5, .pointer (some ⟨g29, 0, none⟩)), (6, .int .i64 (Q34.2))]) (fun Q34 z35 => [box g4 42 [.slice x_v0.1.1.1 v0.1.1.length x_v0.1.1.2, .slice x_v0.1.2.1 v0.1.2.length x_v0.1.2.2, .slice x_v0.2.1.1 v0.2.1.length x_v0.2.1.2, .slice x_v0.2.2.1 v0.2.2.length x_v0.2.2.2], box g5 42 [.slice none 0 0, .slice none 0 0, .slice none 0 0, .slice none 0 0], tree (.slice z13.1 Q12.1.length z13.2) Q12.1, tree (.slice a24 ((([] : List Int) ++ ((nth v0.2.1 Q12.2.toNat).1)).length) c25) (([] : List Int) ++ ((nth v0.2.1 Q12.2.toNat).1)), tree (.slice z35.1 Q34.1.length z35.2) Q34.1, box g29 75 [.slice a24 ((([] : List Int) ++ ((nth v0.2.1 Q12.2.toNat).1)).length) c25, .slice z35.1 Q34.1.length z35.2]]) (.cons dl3 (.cons dl3 (.cons dl3 (.cons dl2 (.cons dl1 (.cons Del.here .nil)))))) ?_)
    rintro _ Q34 z35 t37 H2 hi38 hb39
    unfold p_spec_l13Copy_b1 at H2
    refine Tr.seq (sr (Rg.m rfl (Rg.p (p_fabE fa42_1 rfl rfl) (Rg.o (q_ldb ty39 rfl Has.here rfl) (Rg.m rfl (Rg.o (q_ixg underlying39 ty75 rfl rfl h23 rfl (Ent.b (Ent.darr Ent.z))) (Rg.o (q_faeE (j := 0) Q12.2.toNat fa75_1 rfl (Ent.b (Ent.darr Ent.z)) h23.lt rfl) (Rg.o (q_lde (i := Q12.2.toNat) (j := 1) ty73 rfl (Ent.b (Ent.darr Ent.z)) h23.lt rfl) (Rg.p (p_len 130 underlying73 rfl) (Rg.p (p_lss rfl rfl) (nl ?_)))))))))))
    refine cH H2 rfl (fun h42 H2 => ?_) (fun h42 H2 => ?_)
    ·refine tSkip (nT (Tr.seq (Tr.block (tNwS [(1, .pointer (some ⟨g4, 0, none⟩)), (2, .pointer (some ⟨g5, 0, none⟩)), (3, .slice z13.1 Q12.1.length z13.2), (4, .int .i64 (Q12.2)), (5, .pointer (some ⟨g29, 0, none⟩)), (6, .int .i64 (Q34.2))] 2 [0, 1, 3, 4, 5, 6, 7, 8, 9, 10, 11, 2, 12, 13, 14, 15, 16] [2, 12, 13, 14, 16] [] mixed (by kernel_rfl) (by decide) List.nodup_nil ⟨rfl, rfl, rfl, rfl, rfl, rfl, trivial⟩ rfl okNil (w_p rfl (p_fabE fa75_1 rfl rfl) ?_)))))
     refine w_o rfl (fun F => (q_ldb ty73 rfl (hs5.app F) rfl)) (w_p rfl (p_fabE fa42_1 rfl rfl) ?_)
     refine w_o rfl (fun F => (q_ldb ty39 rfl (Has.here.app F) rfl)) (w_p rfl (p_move rfl) ?_)
     refine w_o rfl (fun F => (q_ixg underlying39 ty75 rfl rfl h23 rfl (Ent.b (Ent.darr Ent.z)))) ?_
     refine w_o rfl (fun F => (q_faeE (j := 0) Q12.2.toNat fa75_1 rfl (Ent.b (Ent.darr Ent.z)) h23.lt rfl)) ?_
     refine w_o rfl (fun F => (q_lde (i := Q12.2.toNat) (j := 1) ty73 rfl (Ent.b (Ent.darr Ent.z)) h23.lt rfl)) (w_p rfl (p_move rfl) (gdo H2 fun h43 H2 => ?_))
     refine w_o rfl (fun F => (q_ixg underlying73 ty130 rfl rfl h43 rfl (Ent.b (Ent.darr (Ent.dsnd (Ent.del Ent.z h23.lt)))))) ?_
     refine w_o rfl (fun F => (q_lde (i := Q34.2.toNat) (j := 0) ty130 rfl (Ent.b (Ent.darr (Ent.dsnd (Ent.del Ent.z h23.lt)))) h43.lt rfl)) (w_ed rfl (by decide) rfl Rdy.nil rfl (n_lit0 Row underlying130 ty135) ?_)
     rintro _ _ _ ⟨a44, c45, rfl, rfl, rfl⟩
     refine ⟨(PdOk.q rfl rfl (fun F => (q_lde (i := Q34.2.toNat) (j := 0) ty130 rfl (Ent.b (Ent.darr (Ent.dsnd (Ent.del Ent.z h23.lt)))) h43.lt rfl)) (PdOk.q rfl rfl (fun F => (q_ixg underlying73 ty130 rfl rfl h43 rfl (Ent.b (Ent.darr (Ent.dsnd (Ent.del Ent.z h23.lt)))))) (PdOk.q rfl rfl (fun F => (q_lde (i := Q12.2.toNat) (j := 1) ty73 rfl (Ent.b (Ent.darr Ent.z)) h23.lt rfl)) (PdOk.q rfl rfl (fun F => (q_faeE (j := 0) Q12.2.toNat fa75_1 rfl (Ent.b (Ent.darr Ent.z)) h23.lt rfl)) (PdOk.q rfl rfl (fun F => (q_ixg underlying39 ty75 rfl rfl h23 rfl (Ent.b (Ent.darr Ent.z)))) (PdOk.q rfl rfl (fun F => (q_ldb ty39 rfl (hs1.app F) rfl)) (PdOk.q rfl rfl (fun F => (q_ldb ty73 rfl ((hs5t hs1).app F) rfl)) PdOk.nil))))))), ?_⟩
     refine gdo H2 fun h48 H2 => (w_ed rfl (by decide) rfl Rdy.nil rfl (n_appF (l := ([] : List Row)) (k := nth ((nth v0.2.1 Q12.2.toNat).2) Q34.2.toNat) (α := Row) underlying130 ty135 rfl rfl (h48.b (by decide)) h48.x (.cons Del.here .nil) (Ent.b (Ent.dimm (Ent.del (Ent.dsnd (Ent.del Ent.z h23.lt)) h43.lt)))) ?_)
     rintro _ _ _ ⟨a46, c47, rfl, rfl, rfl⟩
     refine ⟨(PdOk.anc (by kernel_rfl) (PdOk.anc (by kernel_rfl) (PdOk.q rfl rfl (fun F => (q_lde (i := Q12.2.toNat) (j := 1) ty73 rfl (Ent.b (Ent.darr Ent.z)) h23.lt rfl)) (PdOk.q rfl rfl (fun F => (q_faeE (j := 0) Q12.2.toNat fa75_1 rfl (Ent.b (Ent.darr Ent.z)) h23.lt rfl)) (PdOk.q rfl rfl (fun F => (q_ixg underlying39 ty75 rfl rfl h23 rfl (Ent.b (Ent.darr Ent.z)))) (PdOk.q rfl rfl (fun F => (q_ldb ty39 rfl (hs1.app F) rfl)) (PdOk.q rfl rfl (fun F => (q_ldb ty73 rfl ((hs5t hs1).app F) rfl)) PdOk.nil))))))), ?_⟩
     refine w_ed rfl (by decide) rfl Rdy.nil rfl (n_lit (vs := [(0, .slice a46 ((([] : List Row) ++ (nth ((nth v0.2.1 Q12.2.toNat).2) Q34.2.toNat)).length) c47)]) [.slice a46 ((([] : List Row) ++ (nth ((nth v0.2.1 Q12.2.toNat).2) Q34.2.toNat)).length) c47] underlying73 ty130 rfl (by decide) (by decide) (by kernel_rfl)) ?_
     rintro _ _ _ ⟨g49, rfl, rfl, rfl⟩
     refine ⟨(PdOk.anc (by kernel_rfl) (PdOk.q rfl rfl (fun F => (q_ixg underlying73 ty130 rfl rfl h43 rfl (Ent.b (Ent.darr (Ent.dsnd (Ent.del Ent.z h23.lt)))))) (PdOk.q rfl rfl (fun F => (q_lde (i := Q12.2.toNat) (j := 1) ty73 rfl (Ent.b (Ent.darr Ent.z)) h23.lt rfl)) (PdOk.q rfl rfl (fun F => (q_faeE (j := 0) Q12.2.toNat fa75_1 rfl (Ent.b (Ent.darr Ent.z)) h23.lt rfl)) (PdOk.q rfl rfl (fun F => (q_ixg underlying39 ty75 rfl rfl h23 rfl (Ent.b (Ent.darr Ent.z)))) (PdOk.q rfl rfl (fun F => (q_ldb ty39 rfl (hs2.app F) rfl)) (PdOk.q rfl rfl (fun F => (q_ldb ty73 rfl ((hs5t hs2).app F) rfl)) PdOk.nil))))))), ?_⟩
     refine gdo H2 fun h52 H2 => (w_ed rfl (by decide) rfl Rdy.nil rfl (n_app1 (l := Q34.1) (α := (List Row)) (([] : List Row) ++ (nth ((nth v0.2.1 Q12.2.toNat).2) Q34.2.toNat)) (a46, c47) underlying73 ty130 rfl rfl (h52.b (by decide)) h52.x rfl (ShpT.wfa _) (.cons (dl5t dl1) (.cons Del.here (.cons Del.here .nil)))) ?_)
     rintro _ _ _ ⟨a50, c51, rfl, rfl, rfl⟩
     refine ⟨(PdOk.anc (by kernel_rfl) (PdOk.q rfl rfl (fun F => (q_ixg underlying73 ty130 rfl rfl h43 rfl (Ent.b (Ent.darr (Ent.dsnd (Ent.del Ent.z h23.lt)))))) (PdOk.q rfl rfl (fun F => (q_lde (i := Q12.2.toNat) (j := 1) ty73 rfl (Ent.b (Ent.darr Ent.z)) h23.lt rfl)) (PdOk.q rfl rfl (fun F => (q_faeE (j := 0) Q12.2.toNat fa75_1 rfl (Ent.b (Ent.darr Ent.z)) h23.lt rfl)) (PdOk.q rfl rfl (fun F => (q_ixg underlying39 ty75 rfl rfl h23 rfl (Ent.b (Ent.darr Ent.z)))) (PdOk.q rfl rfl (fun F => (q_ldb ty39 rfl (hs1.app F) rfl)) (PdOk.anc (by kernel_rfl) PdOk.nil))))))), ?_⟩
     refine w_p rfl (p_fabE fa75_1 rfl rfl) (w_en rfl rfl Rdy.nil rfl (n_store (cs' := [.slice a24 ((([] : List Int) ++ ((nth v0.2.1 Q12.2.toNat).1)).length) c25, .slice a50 ((Q34.1 ++ [([] : List Row) ++ (nth ((nth v0.2.1 Q12.2.toNat).2) Q34.2.toNat)]).length) c51]) ty73 rfl rfl up5 rfl (one_of rfl) (Nat.le_of_ble_eq_true rfl) rfl) ?_)
     rintro _ _ _ ⟨rfl, rfl, rfl⟩
     refine ⟨(PdOk.anc (by kernel_rfl) (PdOk.anc (by kernel_rfl) (PdOk.anc (by kernel_rfl) (PdOk.anc (by kernel_rfl) (PdOk.anc (by kernel_rfl) (PdOk.anc (by kernel_rfl) (PdOk.anc (by kernel_rfl) PdOk.nil))))))), ?_⟩
     refine w_nil ?_
     show At _ _ _ _ _ _
     exact nB (nT (Tr.region (Rg.m rfl (gdo H2 fun h53 H2 => (Rg.p (p_add rfl rfl h53) (Rg.a rfl (Rg.nl (nLI (a50, c51) (hi38 _ (sm H2)) (.cons dl1 (.cons dl1 (.cons dl1 (.cons dl1 (.cons Del.here (.cons Del.here .nil))))))))))))))
    ·refine tExit (xT (xT (xE (?_))))
     obtain rfl := hb39 _ (sm H2)
     exact nMC (z35.1, z35.2) ⟨rfl, rfl, rfl, rfl, rfl, trivial⟩ Ents.refl (.cons Del.here (.cons Del.here (.cons Del.here (.cons Del.here (.cons Del.here (.cons Del.here .nil))))))
   ·intro y36
    show At _ _ [(1, .pointer (some ⟨g4, 0, none⟩)), (2, .pointer (some ⟨g5, 0, none⟩)), (3, .slice z13.1 Q12.1.length z13.2), (4, .int .i64 (Q12.2)), (5, .pointer (some ⟨g29, 0, none⟩))] _ [box g4 42 [.slice x_v0.1.1.1 v0.1.1.length x_v0.1.1.2, .slice x_v0.1.2.1 v0.1.2.length x_v0.1.2.2, .slice x_v0.2.1.1 v0.2.1.length x_v0.2.1.2, .slice x_v0.2.2.1 v0.2.2.length x_v0.2.2.2], box g5 42 [.slice none 0 0, .slice none 0 0, .slice none 0 0, .slice none 0 0], tree (.slice z13.1 Q12.1.length z13.2) Q12.1, tree (.slice a24 ((([] : List Int) ++ ((nth v0.2.1 Q12.2.toNat).1)).length) c25) (([] : List Int) ++ ((nth v0.2.1 Q12.2.toNat).1)), tree (.slice y36.1 x30.length y36.2) x30, box g29 75 [.slice a24 ((([] : List Int) ++ ((nth v0.2.1 Q12.2.toNat).1)).length) c25, .slice y36.1 x30.length y36.2]] _
    refine nT (Tr.region (Rg.m rfl (Rg.o (q_ldbA ty75 rfl hs5 rfl) (f1 (e_lit (vs := [(0, .agg #[.slice a24 ((([] : List Int) ++ ((nth v0.2.1 Q12.2.toNat).1)).length) c25, .slice y36.1 x30.length y36.2])]) [.slice a24 ((([] : List Int) ++ ((nth v0.2.1 Q12.2.toNat).1)).length) c25, .slice y36.1 x30.length y36.2] underlying39 ty75 rfl (by decide) (by decide) (by kernel_rfl)) fun g54 => (gdo H1 fun h57 H1 => (f2 (e_app1 (l := Q12.1) (α := Part) ((([] : List Int) ++ ((nth v0.2.1 Q12.2.toNat).1)), x30) ((a24, c25), y36) underlying39 ty75 rfl rfl (h57.b (by decide)) h57.x rfl (ShpT.wfa _) (.cons dl3 (.cons Del.here (.cons dl2 (.cons dl2 .nil))))) fun a55 c56 => (Rg.a rfl (Rg.nl (nB (nT (Tr.region ?_)))))))))))
    exact Rg.m rfl (gdo H1 fun h58 H1 => (Rg.p (p_add rfl rfl h58) (Rg.a rfl (Rg.nl (nLI (a55, c56) (hi16 _ (sm H1)) (.cons dl1 (.cons dl1 (.cons Del.here .nil))))))))
  ·refine tExit (xT (xT (xE (?_))))
   obtain rfl := hb17 _ (sm H1)
   exact nMC (z13.1, z13.2) ⟨rfl, rfl, rfl, trivial⟩ Ents.refl (.cons Del.here (.cons Del.here (.cons Del.here .nil)))
 ·intro y14
  show At _ _ [(1, .pointer (some ⟨g4, 0, none⟩)), (2, .pointer (some ⟨g5, 0, none⟩)), (3, .slice y14.1 x8.length y14.2)] _ [box g4 42 [.slice x_v0.1.1.1 v0.1.1.length x_v0.1.1.2, .slice x_v0.1.2.1 v0.1.2.length x_v0.1.2.2, .slice x_v0.2.1.1 v0.2.1.length x_v0.2.1.2, .slice x_v0.2.2.1 v0.2.2.length x_v0.2.2.2], box g5 42 [.slice none 0 0, .slice none 0 0, .slice none 0 0, .slice none 0 0], tree (.slice y14.1 x8.length y14.2) x8] _
  refine nT (Tr.seq (tNwS [(1, .pointer (some ⟨g4, 0, none⟩)), (2, .pointer (some ⟨g5, 0, none⟩)), (3, .slice y14.1 x8.length y14.2)] 1 [0, 1, 2, 4, 6, 7, 3, 5, 8, 9, 10] [3, 8, 10] [⟨5, [], fun g => .slice (some ⟨g, 0, none⟩) ([] : List Sample).length 0, fun g => tree (.slice (some ⟨g, 0, none⟩) ([] : List Sample).length 0) ([] : List Sample)⟩] mixed (by kernel_rfl) (by decide) (show List.Nodup [5] by decide) ⟨rfl, rfl, rfl, trivial⟩ rfl (okCons (FreeA.Ok.of rfl (by decide) (by kernel_rfl) fun c fs os => g_lit0 Sample underlying40 ty137) okNil) (w_p rfl (p_fabE fa42_0 rfl rfl) (w_p rfl (p_fabE fa38_0 rfl rfl) ?_))))
  refine w_o rfl (fun F => (q_ldb ty30 rfl (Has.here.app F) rfl)) (w_p rfl (p_move rfl) (w_p rfl (p_fabE fa42_2 rfl rfl) ?_))
  refine w_o rfl (fun F => (q_ldb ty40 rfl (Has.here.app F) rfl)) (bdo H fun r59 h60 H => (w_ed rfl (by decide) rfl (Rdy.cons (.inr (.inr trivial)) Rdy.nil) rfl (n_callB (c_spec_l11Of v0.1.1 x_v0.1.1 h60) (fun _ => (Solo.tree (Solo.tree Solo.nil))) rfl (EntsB.cons (Ent.b (Ent.dimm Ent.z.s.s)) EntsB.nil)) ?_))
  rintro _ _ _ ⟨x61, rfl, rfl, rfl⟩
  refine ⟨(PdOk.q rfl rfl (fun F => (q_ldb ty40 rfl (hs2.app F) rfl)) (PdOk.anc (by kernel_rfl) PdOk.nil)), ?_⟩
  refine w_fr (z := ⟨5, [], fun g => .slice (some ⟨g, 0, none⟩) ([] : List Sample).length 0, fun g => tree (.slice (some ⟨g, 0, none⟩) ([] : List Sample).length 0) ([] : List Sample)⟩) (.head _) rfl rfl (by decide) (Rdy.cons (.inl rfl) Rdy.nil) trivial ?_; intro g62
  refine gdo H fun h65 H => (w_ed rfl (by decide) rfl (Rdy.cons (.inl rfl) Rdy.nil) rfl (n_appF (l := ([] : List Sample)) (k := v0.2.2) (α := Sample) underlying40 ty137 rfl rfl (h65.b (by decide)) h65.x (.cons Del.here .nil) (Ent.b Ent.z.s.s.s.s.s.s)) ?_)
  rintro _ _ _ ⟨a63, c64, rfl, rfl, rfl⟩
  refine ⟨(PdOk.anc (by kernel_rfl) (PdOk.q rfl rfl (fun F => (q_ldb ty30 rfl (hs3.app F) rfl)) PdOk.nil)), ?_⟩
  refine w_p (v := .agg #[.slice x61.1.1 r59.1.length x61.1.2, .slice x61.2.1 r59.2.length x61.2.2, .slice y14.1 x8.length y14.2, .slice a63 ((([] : List Sample) ++ v0.2.2).length) c64]) rfl (p_buildS (vs := [(0, .agg #[.slice x61.1.1 r59.1.length x61.1.2, .slice x61.2.1 r59.2.length x61.2.2]), (1, .slice y14.1 x8.length y14.2), (2, .slice a63 ((([] : List Sample) ++ v0.2.2).length) c64)]) (cs := #[.slice x61.1.1 r59.1.length x61.1.2, .slice x61.2.1 r59.2.length x61.2.2, .slice y14.1 x8.length y14.2, .slice a63 ((([] : List Sample) ++ v0.2.2).length) c64]) ty42 pl42 rfl rfl) (w_en rfl rfl (Rdy.cons (.inl rfl) Rdy.nil) rfl (n_store (cs' := [.slice x61.1.1 r59.1.length x61.1.2, .slice x61.2.1 r59.2.length x61.2.2, .slice y14.1 x8.length y14.2, .slice a63 ((([] : List Sample) ++ v0.2.2).length) c64]) ty42 rfl rfl up4 rfl (one_of rfl) (Nat.le_of_ble_eq_true rfl) rfl) ?_)
  rintro _ _ _ ⟨rfl, rfl, rfl⟩
  refine ⟨(PdOk.anc (by kernel_rfl) (PdOk.anc (by kernel_rfl) PdOk.nil)), ?_⟩
  refine w_nil (nT (tRet ?_))
  obtain rfl := si H
  exact back1 (x61, y14, (a63, c64)) rfl (ResV.agg ty42 rfl hs4 rfl) rfl Ents.nil (.cons dl1 (.cons dl1 (.cons dl3 (.cons Del.here .nil))))
noncomputable def p_spec_DiskOpen (v0 : Disk) : Option (Store) := bd (p_spec_DiskOk v0) fun r5 => cond (!r5) (some ((([]), ([])), ([]), ([]))) (bd (p_spec_l21Open v0) fun r8 => bd (p_spec_l13Copy r8) fun r11 => some r11)
end Go.Proofs.YtonnpkdadcafcaaGreat
