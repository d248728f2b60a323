/- A logic for the walks of this seat, part 3: what is said of memory, and how each operation keeps it. My own work. -/
import Derived.Test.YtlkcnfjdhkoelaaGreatSxB
namespace Go.Sx
open Go Go.RowKit
def chkX (xx : Nat) (ops : Array Oper) (n : Nat) (p ef fr : List Nat) : Bool :=
 decide (p.length = ops.size) && (List.range ops.size).all (fun i => p.contains i) &&
 (List.range p.length).all (fun k => match (p[k]?).bind (ops[·]?) with
  | some o => o.after.all fun e => !Region.binds .any e || (p.take k).contains e.on
  | none => false) &&
 (List.range ops.size).all (fun i => match ops[i]? with
  | some o => (match o.op with | .select _ _ => false | _ => true) &&
   (List.range ops.size).all (fun j => match ops[j]? with
    | some oj => (match oj.dst with
     | some d => (i == j || o.dst != some d) && (!(o.looksAt ops).contains d || (i != j && anc ops n i j))
     | none => true)
    | none => false)
  | none => false) &&
 (List.range p.length).all (fun k => match p[k]? with
  | some e => !(ef.contains e || fr.contains e) || e == xx || (p.drop (k + 1)).all fun j =>
    if ef.contains j then anc ops n j e
    else fr.contains j || (fr.contains e && anc ops n j e) || (p.drop k).any fun e' => ef.contains e' && anc ops n j e'
  | none => false) &&
 ef.all (fun i => !fr.contains i)
structure GoodX (xx : Nat) (ops : Array Oper) (n : Nat) (p ef fr : List Nat) : Prop where
  all : ∀ i, i < ops.size → i ∈ p
  nodup : p.Nodup
  lt : ∀ i ∈ p, i < ops.size
  edge : ∀ q i r, p = q ++ i :: r → ∀ (o : Oper), ops[i]? = some o → ∀ e ∈ o.after, Region.binds .any e = true → e.on ∈ q
  sel : ∀ (i : Nat) (o : Oper), ops[i]? = some o → ∀ cs x, o.op ≠ .select cs x
  uniq : ∀ (i j : Nat) (o oj : Oper) (d : Nat), ops[i]? = some o → ops[j]? = some oj → oj.dst = some d → o.dst = some d → i = j
  look : ∀ (i j : Nat) (o oj : Oper) (d : Nat), ops[i]? = some o → ops[j]? = some oj → oj.dst = some d → d ∈ o.looksAt ops → i ≠ j ∧ anc ops n i j = true
  chain : ∀ q e r, p = q ++ e :: r → e ≠ xx → (ef.contains e = true ∨ fr.contains e = true) → ∀ j ∈ r, (ef.contains j = true ∧ anc ops n j e = true) ∨ (ef.contains j = false ∧ (fr.contains j = true ∨ (fr.contains e = true ∧ anc ops n j e = true) ∨ ∃ e' ∈ e :: r, ef.contains e' = true ∧ anc ops n j e' = true))
  disj : ∀ i, ef.contains i = true → fr.contains i = false
theorem GoodX.of_chk {xx : Nat} {ops : Array Oper} {n : Nat} {p ef fr : List Nat} (h : chkX xx ops n p ef fr = true) (hn : p.Nodup) : GoodX xx ops n p ef fr := by
 unfold chkX at h
 simp only [Bool.and_eq_true, decide_eq_true_eq, List.all_eq_true, List.mem_range] at h
 obtain ⟨⟨⟨⟨⟨h1, h2⟩, h3⟩, h4⟩, h5⟩, h6⟩ := h
 have hat : ∀ (q : List Nat) (i : Nat) (r : List Nat), p = q ++ i :: r → p[q.length]? = some i ∧ q.length < p.length ∧ p.take q.length = q ∧ p.drop (q.length + 1) = r ∧ p.drop q.length = i :: r := by
  rintro q i r rfl
  refine ⟨by simp, by simp, by simp, ?_, by simp⟩
  rw [← List.drop_drop]
  simp
 refine ⟨fun i hi => by simpa using h2 i hi, hn, fun i hi => ?_, fun q i r hp o ho e he hb => ?_, fun i o ho cs x hop => ?_, fun i j o oj d hi hj hd hd' => ?_, fun i j o oj d hi hj hd hl => ?_, fun q e r hp hne he j hj => ?_, fun i hi => ?_⟩
 ·obtain ⟨k, hk, hki⟩ := List.mem_iff_getElem.1 hi
  have := h3 k hk
  rw [List.getElem?_eq_getElem hk, hki] at this
  simp only [Option.bind_some] at this
  cases ho : ops[i]? with
  | none => simp [ho] at this
  | some o => exact (Array.getElem?_eq_some_iff.1 ho).1
 ·obtain ⟨a1, a2, a3, _, _⟩ := hat q i r hp
  have := h3 _ a2
  rw [a1] at this
  simp only [Option.bind_some, ho, Array.all_eq_true_iff_forall_mem, Bool.or_eq_true, Bool.not_eq_true'] at this
  rcases this e he with h | h
  ·rw [hb] at h; cases h
  ·rw [a3] at h; simpa using h
 ·have := h4 i (Array.getElem?_eq_some_iff.1 ho).1
  simp only [ho, Bool.and_eq_true] at this
  rw [hop] at this
  simp at this
 ·have := h4 i (Array.getElem?_eq_some_iff.1 hi).1
  simp only [hi, Bool.and_eq_true, List.all_eq_true, List.mem_range] at this
  have := this.2 j (Array.getElem?_eq_some_iff.1 hj).1
  simp only [hj, hd, Bool.and_eq_true, Bool.or_eq_true, beq_iff_eq, bne_iff_ne] at this
  rcases this.1 with h | h
  ·exact h
  ·exact absurd hd' h
 ·have := h4 i (Array.getElem?_eq_some_iff.1 hi).1
  simp only [hi, Bool.and_eq_true, List.all_eq_true, List.mem_range] at this
  have := this.2 j (Array.getElem?_eq_some_iff.1 hj).1
  simp only [hj, hd, Bool.and_eq_true, Bool.or_eq_true, Bool.not_eq_true', bne_iff_ne] at this
  rcases this.2 with h | h
  ·rw [List.contains_eq_mem] at h; simp [hl] at h
  ·exact h
 ·obtain ⟨a1, a2, _, a4, a5⟩ := hat q e r hp
  have := h5 _ a2
  have he' : (ef.contains e || fr.contains e) = true := by rcases he with h | h <;> rw [h] <;> simp
  rw [a1, a4, a5] at this
  simp only [he', Bool.not_true, Bool.false_or, List.all_eq_true, beq_false_of_ne hne] at this
  have := this j hj
  cases hej : ef.contains j with
  | true => simp only [hej, if_true] at this; exact .inl ⟨rfl, this⟩
  | false =>
   simp only [hej, Bool.false_eq_true, if_false, Bool.or_eq_true, Bool.and_eq_true, List.any_eq_true] at this
   refine .inr ⟨rfl, ?_⟩
   rcases this with (h | h) | h
   ·exact .inl h
   ·exact .inr (.inl h)
   ·exact .inr (.inr h)
 ·have := h6 i (by simpa using hi)
  simpa using this
section
variable {xx : Nat} {P : Program} {c : Ctx} {N : Nat} {ops : Array Oper} {n : Nat} {ef p0 : List Nat} {fa : List FreeA} {R : Slots → List Fact → List Own → Prop} {Q : Exit → Act → World → Prop}
theorem InvW.notqX (hg : GoodX xx ops n p0 ef (fa.map (·.i))) {listed : Array Bool} {a : Act} {w : World} {q p : List Nat} {s : Slots} {fs : List Fact} {os : List Own} {pd : List Nat} {b : Act} {E : List (FreeA × Nat)}
  (h : InvW P c N ops n ef fa p0 R listed a w q p s fs os pd b E) {j : Nat} (hj : j ∈ p) : j ∉ q := by
 have := hg.nodup
 rw [h.part, List.nodup_append] at this
 exact fun hm => this.2.2 j hm j hj rfl
theorem InvW.effpX (hg : GoodX xx ops n p0 ef (fa.map (·.i))) {listed : Array Bool} {a : Act} {w : World} {q p : List Nat} {s : Slots} {fs : List Fact} {os : List Own} {pd : List Nat} {b : Act} {E : List (FreeA × Nat)}
  (h : InvW P c N ops n ef fa p0 R listed a w q p s fs os pd b E) {j : Nat} (hj : j ∈ p) (he : ef.contains j = true) : listed.getD j false = false := by
 cases hl : listed.getD j false with
 | false => rfl
 | true =>
  exfalso
  rcases h.inq j hl with h1 | ⟨e, hE, rfl⟩
  ·exact h.notqX hg hj h1
  ·have := hg.disj _ he
   have h2 : e.1.i ∈ fa.map (·.i) := List.mem_map.2 ⟨e.1, (h.early e hE).1, rfl⟩
   rw [List.contains_eq_mem] at this
   simp at this
   exact this e.1 (h.early e hE).1 rfl
theorem InvW.stepX (hg : GoodX xx ops n p0 ef (fa.map (·.i))) (hfa : (fa.map (·.i)).Nodup) {listed : Array Bool} {a : Act} {w : World} {q p : List Nat} {s : Slots} {fs : List Fact} {os : List Own} {pd : List Nat} {b : Act} {E : List (FreeA × Nat)} {j : Nat}
  (h : InvW P c N ops n ef fa p0 R listed a w q (j :: p) s fs os pd b E) (hq : ef.contains j = false) (hfr : (fa.map (·.i)).contains j = true → listed.getD j false = true) :
  ∃ s' os' pd' b' E', InvW P c N ops n ef fa p0 R listed a w (q ++ [j]) p s' fs os' pd' b' E' := by
 have hjq : j ∉ q := h.notqX hg (by simp)
 have hnj : ∀ i ∈ p, i ≠ j := fun i hi e => by
  have := hg.nodup
  rw [h.part, List.nodup_append] at this
  have h2 := this.2.1
  rw [List.nodup_cons] at h2
  exact h2.1 (e ▸ hi)
 -- one form for all ways
 have key : ∀ (o : Oper) (d : Nat) (v : Value) (pd' : List Nat) (os' : List Own) (E' : List (FreeA × Nat)), ops[j]? = some o → o.dst = some d → d < N → (∀ x, x ∈ pd → x ∈ pd') → (os' = os ∨ ∃ x, os' = x :: os) → Sta c fs (os' ++ frames E') w →
   (∀ e ∈ E', e ∈ E ∧ e.1.i ≠ j) → (∀ e ∈ E, e ∈ E' ∨ e.1.i = j) → (E'.map fun e => e.1.i).Nodup →
   (listed.getD j false = false → StatW P c N ops ((d, v) :: s) fs os' pd' (b.put (some d) v) j) → (listed.getD j false = true → a.tmps.getD d undef = v) → ((fa.map (·.i)).contains j = true → listed.getD j false = true) →
   Nw P c N ops n ef fa p ((d, v) :: s) fs os' pd' R → ∃ s' os' pd' b' E', InvW P c N ops n ef fa p0 R listed a w (q ++ [j]) p s' fs os' pd' b' E' := by
  intro o d v pd' os' E' ho hd hN hpd hos hsta hE1 hE2 hE3 hst hdn hfl hnf
  have hf : lk s d = none := h.fresh j (by simp) o d ho hd
  have hother : ∀ (i : Nat) (oi : Oper), i ≠ j → ops[i]? = some oi → oi.dst ≠ some d := fun i oi hne hi he => hne (hg.uniq i j oi o d hi ho hd he)
  have hb : ∀ t, t ≠ d → (b.put (some d) v).tmps.getD t undef = b.tmps.getD t undef := fun t ht => getD_put_ne ht
  refine ⟨_, os', pd', b.put (some d) v, E', ⟨by rw [h.part]; simp, hsta, h.sl.put v hN, h.size, h.defers, fun t ht => ?_, fun i oi di hi hiq hoi hdi => ?_, fun e he => ?_, hE3, fun i hi => ?_, fun i hi he => ?_, fun i hi hl => ?_, fun i hi oi di hoi hdi => ?_, hnf, h.closed, fun i hi oi di hoi hdi => ?_⟩⟩
  ·rw [hb t (fun e : t = d => ht j o ho (by rw [e]; exact hd))]; exact h.outer t ht
  ·rcases List.mem_append.1 hiq with hiq | hiq
   ·rw [hb di (fun e : di = d => hother i oi (fun e' => hjq (e' ▸ hiq)) hoi (by rw [← e]; exact hdi))]
    exact h.done i oi di hi hiq hoi hdi
   ·simp at hiq; subst hiq; rw [hoi] at ho; cases ho; rw [hdi] at hd; cases hd
    rw [getD_put_eq (by rw [h.sl.size]; exact hN)]
    exact hdn hi
  ·obtain ⟨h1, h2⟩ := hE1 e he
   obtain ⟨k1, k2, k3, k4⟩ := h.early e h1
   refine ⟨k1, ?_, k3, k4⟩
   rcases List.mem_cons.1 k2 with k | k
   ·exact absurd k h2
   ·exact k
  ·rcases h.inq i hi with hi' | ⟨e, he, rfl⟩
   ·exact .inl (List.mem_append.2 (.inl hi'))
   ·rcases hE2 e he with h' | h'
    ·exact .inr ⟨e, h', rfl⟩
    ·exact .inl (List.mem_append.2 (.inr (by simp [h'])))
  ·rcases List.mem_append.1 hi with hi | hi
   ·exact h.eff i hi he
   ·simp at hi; subst hi
    rcases he with he | he
    ·rw [hq] at he; cases he
    ·exact hfl he
  ·rcases List.mem_append.1 hi with hi | hi
   ·exact (h.stat i hi hl).cons hf hpd (fun oi hoi => hother i oi (fun e => hjq (e ▸ hi)) hoi) hos
   ·simp at hi; subst hi; exact hst hl
  ·rw [lk_cons_ne (fun e : d = di => hother i oi (hnj i hi) hoi (by rw [e]; exact hdi))]
   exact h.fresh i (List.mem_cons_of_mem _ hi) oi di hoi hdi
  ·rcases List.mem_append.1 hi with hi | hi
   ·exact h.dlt i hi oi di hoi hdi
   ·simp at hi; subst hi; rw [hoi] at ho; cases ho; rw [hdi] at hd; cases hd; exact hN
 have hbd : ∀ (d : Nat) (v : Value), d < N → (b.put (some d) v).tmps.getD d undef = v := fun d v hN => getD_put_eq (by rw [h.sl.size]; exact hN)
 -- a quiet one is not among those run ahead
 have hEq : (fa.map (·.i)).contains j = false → ∀ e ∈ E, e.1.i ≠ j := fun hc e he hj => by
  have : j ∈ fa.map (·.i) := List.mem_map.2 ⟨e.1, (h.early e he).1, hj⟩
  rw [List.contains_eq_mem] at hc
  simp at hc
  exact hc e.1 (h.early e he).1 hj
 have hlj : (fa.map (·.i)).contains j = false → listed.getD j false = false := fun hc => by
  cases hl : listed.getD j false with
  | false => rfl
  | true =>
   rcases h.inq j hl with h1 | ⟨e, he, h1⟩
   ·exact absurd h1 hjq
   ·exact absurd h1 (hEq hc e he)
 obtain ⟨o, ho, hcase⟩ := h.nf
 rcases hcase with ⟨d, hd, hN, _, hc, hw, hnf⟩ | ⟨d, v, hd, hN, _, hc, hw, hpu, hnf⟩ | ⟨d, v, hd, hN, _, hc, hw, hqo, hnf⟩ | ⟨he, _⟩ | ⟨z, hz, hzi, _, hvals, d, hd, hN, hnf⟩
 ·have hf : lk s d = none := h.fresh j (by simp) o d ho hd
  exact key o d undef pd os E ho hd hN (fun _ h => h) (.inl rfl) h.sta (fun e he => ⟨he, hEq hc e he⟩) (fun e he => .inl he) h.ednd (fun _ => ⟨o, d, ho, hd, .inl ⟨wtd_cons hf hw, hbd d undef hN⟩⟩) (fun hl => by rw [hlj hc] at hl; cases hl) hfr hnf
 ·have hf : lk s d = none := h.fresh j (by simp) o d ho hd
  exact key o d v pd os E ho hd hN (fun _ h => h) (.inl rfl) h.sta (fun e he => ⟨he, hEq hc e he⟩) (fun e he => .inl he) h.ednd (fun _ => ⟨o, d, ho, hd, .inr ⟨wtd_cons hf hw, v, hbd d v hN, lk_cons_eq, .inl fun a w ha => hpu a w (ha.uncons hf)⟩⟩) (fun hl => by rw [hlj hc] at hl; cases hl) hfr hnf
 ·have hf : lk s d = none := h.fresh j (by simp) o d ho hd
  exact key o d v (j :: pd) os E ho hd hN (fun _ h => List.mem_cons_of_mem _ h) (.inl rfl) h.sta (fun e he => ⟨he, hEq hc e he⟩) (fun e he => .inl he) h.ednd
   (fun _ => ⟨o, d, ho, hd, .inr ⟨wtd_cons hf hw, v, hbd d v hN, lk_cons_eq, .inr ⟨by simp, fun F => Ex.mk fun a w ha hw' => (hqo F).go a w (ha.uncons hf) hw'⟩⟩⟩) (fun hl => by rw [hlj hc] at hl; cases hl) hfr hnf
 ·rw [hq] at he; cases he
 ·-- it was run ahead
  have hl := hfr (by rw [List.contains_eq_mem]; simpa using ⟨z, hz, hzi⟩)
  rcases h.inq j hl with h1 | ⟨e, he, hej⟩
  ·exact absurd h1 hjq
  ·obtain ⟨k1, k2, k3, k4⟩ := h.early e he
   have hez : e.1 = z := by
    obtain ⟨x, hx, ex⟩ := List.mem_iff_getElem.1 k1
    obtain ⟨y, hy, ey⟩ := List.mem_iff_getElem.1 hz
    have hxy : x = y := by
     have h1 : (fa.map (·.i))[x]'(by simpa using hx) = (fa.map (·.i))[y]'(by simpa using hy) := by
      simp only [List.getElem_map, ex, ey]
      rw [hej, hzi]
     exact (List.getElem_inj hfa).1 h1
    subst hxy
    rw [← ex, ey]
   obtain ⟨E1, E2, rfl⟩ := List.append_of_mem he
   have hnd := h.ednd
   rw [List.map_append, List.map_cons, List.nodup_append, List.nodup_cons] at hnd
   refine key o d (z.f e.2) pd (z.nw e.2 :: os) (E1 ++ E2) ho hd hN (fun _ h => h) (.inr ⟨_, rfl⟩) (h.sta.perm ?_) (fun x hx => ?_) (fun x hx => ?_) ?_ (fun hl' => by rw [hl] at hl'; cases hl') (fun _ => ?_) hfr (hnf e.2)
   ·simp only [frames, List.map_append, List.map_cons, hez]
    have : (os ++ ((E1.map fun e => e.1.nw e.2) ++ z.nw e.2 :: E2.map fun e => e.1.nw e.2)).Perm (z.nw e.2 :: (os ++ ((E1.map fun e => e.1.nw e.2) ++ E2.map fun e => e.1.nw e.2))) := by
     rw [← List.append_assoc, ← List.append_assoc]
     exact List.perm_middle
    simpa using this
   ·have hne : x.1.i ≠ e.1.i := by
     rcases List.mem_append.1 hx with h' | h'
     ·exact hnd.2.2 _ (List.mem_map.2 ⟨x, h', rfl⟩) _ (List.mem_cons_self)
     ·exact fun h2 => hnd.2.1.1 (List.mem_map.2 ⟨x, h', h2⟩)
    refine ⟨?_, fun h2 => hne (h2.trans hej.symm)⟩
    rcases List.mem_append.1 hx with h' | h'
    ·exact List.mem_append.2 (.inl h')
    ·exact List.mem_append.2 (.inr (List.mem_cons_of_mem _ h'))
   ·rcases List.mem_append.1 hx with h' | h'
    ·exact .inl (List.mem_append.2 (.inl h'))
    ·rcases List.mem_cons.1 h' with rfl | h'
     ·exact .inr hej
     ·exact .inl (List.mem_append.2 (.inr h'))
   ·rw [List.map_append, List.nodup_append]
    exact ⟨hnd.1, hnd.2.1.2, fun x hx y hy => hnd.2.2 x hx y (List.mem_cons_of_mem _ hy)⟩
   ·have := k4 o d (by rw [hej]; exact ho) hd
    rw [this, hez]
theorem InvW.advX (hg : GoodX xx ops n p0 ef (fa.map (·.i))) (hfa : (fa.map (·.i)).Nodup) {listed : Array Bool} (hx : listed.getD xx false = true) {a : Act} {w : World} {i : Nat} {o : Oper} (ho : ops[i]? = some o) (hl : listed.getD i false = false)
  (hr : ∀ e ∈ o.after, Region.binds .any e = true → listed.getD e.on false = true) :
  ∀ (p q : List Nat) (s : Slots) (fs : List Fact) (os : List Own) (pd : List Nat) (b : Act) (E : List (FreeA × Nat)), InvW P c N ops n ef fa p0 R listed a w q p s fs os pd b E → i ∈ p →
   ∃ q' p' s' os' pd' b' E', InvW P c N ops n ef fa p0 R listed a w q' p' s' fs os' pd' b' E' ∧ (ef.contains i = false → (fa.map (·.i)).contains i = false → i ∈ q') ∧ (ef.contains i = true → ∃ r, p' = i :: r) ∧
    ((fa.map (·.i)).contains i = true → i ∈ p' ∧ ((∃ r, p' = i :: r) ∨ ∀ z ∈ fa, z.i = i → SubS s' z.vals))
 | [], _, _, _, _, _, _, _, _, hi => by cases hi
 | j :: p, q, s, fs, os, pd, b, E, h, hi => by
  have noeff : ∀ e', e' ∈ j :: p → ef.contains e' = true → anc ops n i e' = true → False := fun e' he' hef ha => by
   have := anc_listed h.closed n i e' o ho hr ha
   rw [h.effpX hg he' hef] at this
   cases this
  have hnanc : listed.getD j false = false → anc ops n i j = true → False := fun hlj ha => by
   have := anc_listed h.closed n i j o ho hr ha
   rw [hlj] at this
   cases this
  by_cases hq : ef.contains j = false ∧ ((fa.map (·.i)).contains j = true → listed.getD j false = true)
  ·obtain ⟨s', os', pd', b', E', h'⟩ := h.stepX hg hfa hq.1 hq.2
   by_cases e : i = j
   ·subst e
    refine ⟨_, _, s', os', pd', b', E', h', fun _ _ => by simp, fun h1 => ?_, fun h1 => ?_⟩
    ·rw [hq.1] at h1; cases h1
    ·rw [hq.2 h1] at hl; cases hl
   ·have hip : i ∈ p := by
     rcases List.mem_cons.1 hi with h' | h'
     ·exact absurd h' e
     ·exact h'
    exact InvW.advX hg hfa hx ho hl hr p _ s' fs os' pd' b' E' h' hip
  ·by_cases e : i = j
   ·subst e
    refine ⟨q, _, s, os, pd, b, E, h, fun h1 h2 => ?_, fun _ => ⟨p, rfl⟩, fun _ => ⟨hi, .inl ⟨p, rfl⟩⟩⟩
    exact (hq ⟨h1, fun h3 => by rw [h2] at h3; cases h3⟩).elim
   ·have hip : i ∈ p := by
     rcases List.mem_cons.1 hi with h' | h'
     ·exact absurd h' e
     ·exact h'
    have hblk : ef.contains j = true ∨ ((fa.map (·.i)).contains j = true ∧ listed.getD j false = false) := by
     cases hej : ef.contains j with
     | true => exact .inl rfl
     | false =>
      refine .inr ?_
      cases hfj : (fa.map (·.i)).contains j with
      | false => exact (hq ⟨hej, fun h3 => by rw [hfj] at h3; cases h3⟩).elim
      | true =>
       cases hlj : listed.getD j false with
       | false => exact ⟨rfl, rfl⟩
       | true => exact (hq ⟨hej, fun _ => hlj⟩).elim
    have hlj : listed.getD j false = false := by
     rcases hblk with h1 | h1
     ·exact h.effpX hg (by simp) h1
     ·exact h1.2
    rcases hg.chain q j p h.part (fun e => by rw [e, hx] at hlj; cases hlj) (hblk.imp id And.left) i hip with ⟨_, ha⟩ | ⟨hei, hc⟩
    ·exact (hnanc hlj ha).elim
    ·rcases hc with hfi | ⟨_, ha⟩ | ⟨e', he', hef, ha⟩
     ·-- it may run ahead of its turn
      refine ⟨q, _, s, os, pd, b, E, h, (fun _ h2 => by rw [hfi] at h2; cases h2), (fun h1 => by rw [hei] at h1; cases h1), fun _ => ⟨hi, .inr fun z hz hzi => ?_⟩⟩
      have use : ∀ p', Rdy ops n ef fa p' s → i ∈ p' → (∀ x ∈ p', x ∈ j :: p) → SubS s z.vals := fun p' hrd hip' hsub => by
       rcases hrd z hz (by rw [hzi]; exact hip') with h1 | h1
       ·obtain ⟨e', he', h2⟩ := List.any_eq_true.1 h1
        simp only [Bool.and_eq_true] at h2
        rw [hzi] at h2
        exact (noeff e' (hsub e' he') h2.1 h2.2).elim
       ·exact h1
      obtain ⟨o', _, hcase⟩ := h.nf
      rcases hcase with ⟨d, _, _, he1, he2, _⟩ | ⟨d, v, _, _, he1, he2, _⟩ | ⟨d, v, _, _, he1, he2, _⟩ | ⟨_, hrd, _⟩ | ⟨z', _, _, hrd, _⟩
      ·rcases hblk with h1 | h1
       ·rw [he1] at h1; cases h1
       ·rw [he2] at h1; cases h1.1
      ·rcases hblk with h1 | h1
       ·rw [he1] at h1; cases h1
       ·rw [he2] at h1; cases h1.1
      ·rcases hblk with h1 | h1
       ·rw [he1] at h1; cases h1
       ·rw [he2] at h1; cases h1.1
      ·exact use _ hrd hi (fun _ h => h)
      ·exact use _ hrd hip (fun _ h => List.mem_cons_of_mem _ h)
     ·exact (hnanc hlj ha).elim
     ·exact (noeff e' he' hef ha).elim
theorem InvW.qclosedX (hg : GoodX xx ops n p0 ef (fa.map (·.i))) {listed : Array Bool} {a : Act} {w : World} {q p : List Nat} {s : Slots} {fs : List Fact} {os : List Own} {pd : List Nat} {b : Act} {E : List (FreeA × Nat)}
  (h : InvW P c N ops n ef fa p0 R listed a w q p s fs os pd b E) {j : Nat} {oj : Oper} (hj : j ∈ q) (hoj : ops[j]? = some oj) : ∀ e ∈ oj.after, Region.binds .any e = true → e.on ∈ q := fun e he hb => by
 obtain ⟨q1, q2, hq⟩ := List.append_of_mem hj
 have := hg.edge q1 j (q2 ++ p) (by rw [h.part, hq]; simp) oj hoj e he hb
 rw [hq]
 exact List.mem_append.2 (.inl this)
theorem InvW.agreeX (hg : GoodX xx ops n p0 ef (fa.map (·.i))) {listed : Array Bool} {a : Act} {w : World} {q p : List Nat} {s : Slots} {fs : List Fact} {os : List Own} {pd : List Nat} {b : Act} {E : List (FreeA × Nat)}
  (h : InvW P c N ops n ef fa p0 R listed a w q p s fs os pd b E) {i : Nat} {o : Oper} (ho : ops[i]? = some o)
  (hr : ∀ e ∈ o.after, Region.binds .any e = true → listed.getD e.on false = true) (hrq : ∀ e ∈ o.after, Region.binds .any e = true → e.on ∈ q) :
  execOp a.eval o = execOp b.eval o ∧ Region.wanted o (yielded ops a.tmps) = Region.wanted o (yielded ops b.tmps) := by
 refine Sx.agree h.size h.sl.size (hg.sel i o ho) fun t ht => ?_
 by_cases hd : ∃ (j : Nat) (oj : Oper), ops[j]? = some oj ∧ oj.dst = some t
 ·obtain ⟨j, oj, hj, hdj⟩ := hd
  have ha := (hg.look i j o oj t ho hj hdj ht).2
  exact h.done j oj t (anc_listed h.closed n i j o ho hr ha) (anc_q (fun j hj oj hoj => h.qclosedX hg hj hoj) n i j o ho hrq ha) hj hdj
 ·exact h.outer t fun j oj hj hdj => hd ⟨j, oj, hj, hdj⟩
theorem InvW.valsX (hg : GoodX xx ops n p0 ef (fa.map (·.i))) {listed : Array Bool} {a : Act} {w : World} {q p : List Nat} {s : Slots} {fs : List Fact} {os : List Own} {pd : List Nat} {b : Act} {E : List (FreeA × Nat)}
  (h : InvW P c N ops n ef fa p0 R listed a w q p s fs os pd b E) {i : Nat} {o : Oper} (ho : ops[i]? = some o)
  (hr : ∀ e ∈ o.after, Region.binds .any e = true → listed.getD e.on false = true) {vals : Slots} (hv : SubS s vals) (hlook : ∀ x ∈ vals, x.1 ∈ o.looksAt ops) : Sl N vals a := by
 refine ⟨h.size, h.defers, fun t v htv => ?_⟩
 have hs := hv.lk t v htv
 have hmem : t ∈ o.looksAt ops := by
  clear hv
  induction vals with
  | nil => simp [lk] at htv
  | cons x r ih =>
   obtain ⟨d, u⟩ := x
   by_cases e : d = t
   ·subst e; exact hlook (d, u) (by simp)
   ·rw [lk_cons_ne e] at htv
    exact ih (fun y hy => hlook y (List.mem_cons_of_mem _ hy)) htv
 rw [← h.sl.get t v hs]
 by_cases hd : ∃ (j : Nat) (oj : Oper), ops[j]? = some oj ∧ oj.dst = some t
 ·obtain ⟨j, oj, hj, hdj⟩ := hd
  have ha := (hg.look i j o oj t ho hj hdj hmem).2
  have hjq : j ∈ q := by
   have hjp : j ∈ q ++ p := by rw [← h.part]; exact hg.all j (Array.getElem?_eq_some_iff.1 hj).1
   rcases List.mem_append.1 hjp with h1 | h1
   ·exact h1
   ·rw [h.fresh j h1 oj t hj hdj] at hs; cases hs
  exact h.done j oj t (anc_listed h.closed n i j o ho hr ha) hjq hj hdj
 ·exact h.outer t fun j oj hj hdj => hd ⟨j, oj, hj, hdj⟩
theorem InvW.runX {listed : Array Bool} {a : Act} {w w' : World} {q p : List Nat} {s : Slots} {fs : List Fact} {os : List Own} {pd : List Nat} {b : Act} {E : List (FreeA × Nat)}
  (h : InvW P c N ops n ef fa p0 R listed a w q p s fs os pd b E) (hg : GoodX xx ops n p0 ef (fa.map (·.i))) {i d : Nat} {o : Oper} {v : Value} (hs : i < listed.size) (ho : ops[i]? = some o) (hd : o.dst = some d) (hN : d < N) (hv : b.tmps.getD d undef = v) (hq : i ∈ q)
  (hr : ∀ e ∈ o.after, Region.binds .any e = true → listed.getD e.on false = true) (hw : Sta c fs (os ++ frames E) w') :
  InvW P c N ops n ef fa p0 R (listed.setIfInBounds i true) (a.put (some d) v) w' q p s fs os pd b E where
 part := h.part
 sta := hw
 sl := h.sl
 size := by simp [Act.put, h.size]
 defers := h.defers
 outer := fun t ht => by rw [getD_put_ne (fun e : t = d => ht i o ho (by rw [e]; exact hd))]; exact h.outer t ht
 done := fun j oj dj hj hjq hoj hdj => by
  by_cases e : dj = d
  ·subst e
   rw [getD_put_eq (by rw [h.size]; exact hN)]
   exact hv.symm
  ·rw [getD_put_ne e]
   rcases (listed_set hs).1 hj with rfl | hj
   ·rw [hoj] at ho; cases ho; rw [hd] at hdj; cases hdj; exact absurd rfl e
   ·exact h.done j oj dj hj hjq hoj hdj
 early := fun e he => by
  obtain ⟨k1, k2, k3, k4⟩ := h.early e he
  refine ⟨k1, k2, (listed_set hs).2 (.inr k3), fun oe de hoe hde => ?_⟩
  rw [getD_put_ne (fun e' : de = d => ?_)]
  ·exact k4 oe de hoe hde
  ·subst e'
   have := hg.uniq i e.1.i o oe de ho hoe hde hd
   exact h.notqX hg k2 (this ▸ hq)
 ednd := h.ednd
 inq := fun j hj => by
  rcases (listed_set hs).1 hj with rfl | hj
  ·exact .inl hq
  ·exact h.inq j hj
 eff := fun j hj he => (listed_set hs).2 (.inr (h.eff j hj he))
 stat := fun j hj hl => h.stat j hj (by
  cases hlj : listed.getD j false with
  | false => rfl
  | true => rw [(listed_set hs).2 (.inr hlj)] at hl; cases hl)
 fresh := h.fresh
 nf := h.nf
 closed := fun j oj hj hoj e he hb => by
  rcases (listed_set hs).1 hj with rfl | hj
  ·rw [hoj] at ho; cases ho; exact (listed_set hs).2 (.inr (hr e he hb))
  ·exact (listed_set hs).2 (.inr (h.closed j oj hj hoj e he hb))
 dlt := h.dlt
theorem InvW.runEX {listed : Array Bool} {a : Act} {w w' : World} {q p : List Nat} {s : Slots} {fs : List Fact} {os : List Own} {pd : List Nat} {b : Act} {E : List (FreeA × Nat)}
  (h : InvW P c N ops n ef fa p0 R listed a w q p s fs os pd b E) (hg : GoodX xx ops n p0 ef (fa.map (·.i))) {z : FreeA} (hz : z ∈ fa) {d g : Nat} {o : Oper} (hs : z.i < listed.size) (hl : listed.getD z.i false = false) (hp : z.i ∈ p) (ho : ops[z.i]? = some o) (hd : o.dst = some d) (hN : d < N)
  (hr : ∀ e ∈ o.after, Region.binds .any e = true → listed.getD e.on false = true) (hw : Sta c fs (z.nw g :: (os ++ frames E)) w') :
  InvW P c N ops n ef fa p0 R (listed.setIfInBounds z.i true) (a.put (some d) (z.f g)) w' q p s fs os pd b ((z, g) :: E) where
 part := h.part
 sta := hw.perm (by simpa [frames] using List.perm_middle.symm)
 sl := h.sl
 size := by simp [Act.put, h.size]
 defers := h.defers
 outer := fun t ht => by rw [getD_put_ne (fun e : t = d => ht z.i o ho (by rw [e]; exact hd))]; exact h.outer t ht
 done := fun j oj dj hj hjq hoj hdj => by
  have hjz : j ≠ z.i := fun e => h.notqX hg hp (e ▸ hjq)
  have hne : dj ≠ d := fun e => hjz (hg.uniq j z.i oj o dj hoj ho (by rw [e]; exact hd) hdj)
  rw [getD_put_ne hne]
  rcases (listed_set hs).1 hj with hj | hj
  ·exact absurd hj hjz
  ·exact h.done j oj dj hj hjq hoj hdj
 early := fun e he => by
  rcases List.mem_cons.1 he with rfl | he
  ·refine ⟨hz, hp, (listed_set hs).2 (.inl rfl), fun oe de hoe hde => ?_⟩
   rw [hoe] at ho; cases ho; rw [hde] at hd; cases hd
   exact getD_put_eq (by rw [h.size]; exact hN)
  ·obtain ⟨k1, k2, k3, k4⟩ := h.early e he
   refine ⟨k1, k2, (listed_set hs).2 (.inr k3), fun oe de hoe hde => ?_⟩
   have hne : e.1.i ≠ z.i := fun e' => by rw [e', hl] at k3; cases k3
   rw [getD_put_ne (fun e' : de = d => hne (hg.uniq e.1.i z.i oe o de hoe ho (by rw [e']; exact hd) hde))]
   exact k4 oe de hoe hde
 ednd := by
  rw [List.map_cons, List.nodup_cons]
  refine ⟨fun hm => ?_, h.ednd⟩
  obtain ⟨e, he, hez⟩ := List.mem_map.1 hm
  have := (h.early e he).2.2.1
  simp only at hez
  rw [hez, hl] at this
  cases this
 inq := fun j hj => by
  rcases (listed_set hs).1 hj with rfl | hj
  ·exact .inr ⟨_, List.mem_cons_self, rfl⟩
  ·rcases h.inq j hj with h1 | ⟨e, he, h1⟩
   ·exact .inl h1
   ·exact .inr ⟨e, List.mem_cons_of_mem _ he, h1⟩
 eff := fun j hj he => (listed_set hs).2 (.inr (h.eff j hj he))
 stat := fun j hj hl => h.stat j hj (by
  cases hlj : listed.getD j false with
  | false => rfl
  | true => rw [(listed_set hs).2 (.inr hlj)] at hl; cases hl)
 fresh := h.fresh
 nf := h.nf
 closed := fun j oj hj hoj e he hb => by
  rcases (listed_set hs).1 hj with rfl | hj
  ·rw [hoj] at ho; cases ho; exact (listed_set hs).2 (.inr (hr e he hb))
  ·exact (listed_set hs).2 (.inr (h.closed j oj hj hoj e he hb))
 dlt := h.dlt
theorem InvW.allX (hg : GoodX xx ops n p0 ef (fa.map (·.i))) (hfa : (fa.map (·.i)).Nodup) {listed : Array Bool} {a : Act} {w : World} (hR : ∀ s fs os, R s fs os → ∀ a w, Sl N s a → Sta c fs os w → Q .normal a w) (hl : ∀ i, i < ops.size → listed.getD i false = true) :
  ∀ (p q : List Nat) (s : Slots) (fs : List Fact) (os : List Own) (pd : List Nat) (b : Act) (E : List (FreeA × Nat)), InvW P c N ops n ef fa p0 R listed a w q p s fs os pd b E → Q .normal a w
 | j :: p, q, s, fs, os, pd, b, E, h => by
  have hlj := hl j (hg.lt j (by rw [h.part]; simp))
  have hef : ef.contains j = false := by
   cases he : ef.contains j with
   | false => rfl
   | true => rw [h.effpX hg (by simp) he] at hlj; cases hlj
  obtain ⟨s', os', pd', b', E', h'⟩ := h.stepX hg hfa hef (fun _ => hlj)
  exact InvW.allX hg hfa hR hl p _ s' fs os' pd' b' E' h'
 | [], q, s, fs, os, pd, b, E, h => by
  have hE : E = [] := by
   cases E with
   | nil => rfl
   | cons e E => have := (h.early e (by simp)).2.1; cases this
  subst hE
  refine hR s fs os h.nf a w ⟨h.size, h.defers, fun t v hv => ?_⟩ (by simpa [frames] using h.sta)
  rw [← h.sl.get t v hv]
  by_cases hd : ∃ (j : Nat) (oj : Oper), ops[j]? = some oj ∧ oj.dst = some t
  ·obtain ⟨j, oj, hj, hdj⟩ := hd
   have hlt := (Array.getElem?_eq_some_iff.1 hj).1
   have hjq : j ∈ q := by have := hg.all j hlt; rw [h.part] at this; simpa using this
   exact h.done j oj t (hl j hlt) hjq hj hdj
  ·exact h.outer t fun j oj hj hdj => hd ⟨j, oj, hj, hdj⟩
theorem Nw.anyX (hg : GoodX xx ops n p0 ef (fa.map (·.i))) (hfa : (fa.map (·.i)).Nodup) (hok : ∀ z ∈ fa, z.Ok P N ops) (hR : ∀ s fs os, R s fs os → ∀ a w, Sl N s a → Sta c fs os w → Q .normal a w) :
  ∀ (fuel : Nat) (listed : Array Bool) (a : Act) (w : World) (q p : List Nat) (s : Slots) (fs : List Fact) (os : List Own) (pd : List Nat) (b : Act) (E : List (FreeA × Nat)),
   InvW P c N ops n ef fa p0 R listed a w q p s fs os pd b E → listed.size = ops.size → unl listed ops.size ≤ fuel → listed.getD xx false = true → wpAny P .any ops Q fuel listed a w := by
 have getD_tf : ∀ (listed : Array Bool) (i : Nat), i < listed.size → listed.getD i true = listed.getD i false := fun listed i hi => by
  simp [Array.getD_eq_getD_getElem?, Array.getElem?_eq_getElem hi]
 intro fuel
 induction fuel with
 | zero =>
  intro listed a w q p s fs os pd b E h hsz hu hx
  have hl := unl_zero listed ops.size (by omega)
  refine ⟨?_, InvW.allX hg hfa hR hl _ _ _ _ _ _ _ _ h⟩
  refine List.eq_nil_iff_forall_not_mem.2 fun i hi => ?_
  obtain ⟨h1, o, ho, _⟩ := mem_ready.1 hi
  have hlt := (Array.getElem?_eq_some_iff.1 ho).1
  rw [getD_tf listed i (by omega), hl i hlt] at h1
  cases h1
 | succ fuel ih =>
  intro listed a w q p s fs os pd b E h hsz hu hx
  refine ⟨fun hnil => ?_, fun i hi => ?_⟩
  ·refine InvW.allX hg hfa hR (fun i hi => ?_) _ _ _ _ _ _ _ _ h
   cases hl : listed.getD i false with
   | true => rfl
   | false =>
    exfalso
    obtain ⟨q1, j, r, e, hj, hq1⟩ := first_of (p := fun x => listed.getD x false = true) p0 ⟨i, hg.all i hi, by rw [hl]; simp⟩
    have hjlt := hg.lt j (by rw [e]; simp)
    have hoj := Array.getElem?_eq_getElem hjlt
    have : j ∈ Region.ready .any ops listed := mem_ready.2 ⟨by rw [getD_tf listed j (by omega)]; simpa using hj, _, hoj, fun x hx hb => hq1 _ (hg.edge q1 j r e _ hoj x hx hb)⟩
    rw [hnil] at this
    cases this
  ·obtain ⟨h1, o, ho, hr⟩ := mem_ready.1 hi
   have hlt := (Array.getElem?_eq_some_iff.1 ho).1
   have hls : i < listed.size := by omega
   rw [getD_tf listed i hls] at h1
   have hu' : unl (listed.setIfInBounds i true) ops.size ≤ fuel := by
    have := unl_set listed i h1 hls ops.size
    rw [if_pos hlt] at this
    omega
   have hsz' : (listed.setIfInBounds i true).size = ops.size := by simpa using hsz
   have hx' : (listed.setIfInBounds i true).getD xx false = true := (listed_set hls).2 (.inr hx)
   have hip0 : i ∈ q ++ p := by rw [← h.part]; exact hg.all i hlt
   unfold wpOp
   simp only [ho]
   cases hei : ef.contains i with
   | false =>
    cases hfi : (fa.map (·.i)).contains i with
    | false =>
     obtain ⟨q', p', s', os', pd', b', E', h', hiq⟩ : ∃ q' p' s' os' pd' b' E', InvW P c N ops n ef fa p0 R listed a w q' p' s' fs os' pd' b' E' ∧ i ∈ q' := by
      rcases List.mem_append.1 hip0 with hm | hm
      ·exact ⟨q, p, s, os, pd, b, E, h, hm⟩
      ·obtain ⟨q', p', s', os', pd', b', E', h', h2, _⟩ := InvW.advX hg hfa hx ho h1 hr p q s fs os pd b E h hm
       exact ⟨q', p', s', os', pd', b', E', h', h2 hei hfi⟩
     obtain ⟨he, hw⟩ := h'.agreeX hg ho hr (h'.qclosedX hg hiq ho)
     obtain ⟨o', d, ho', hd, hst⟩ := h'.stat i hiq h1
     rw [ho] at ho'
     cases ho'
     have hN : d < N := h'.dlt i hiq o d ho hd
     rcases hst with ⟨hwf, hv⟩ | ⟨hwt, v, hv, hlk, hst⟩
     ·rw [hw, wtd_ok h'.sl hwf, hd]
      simp only [Bool.false_eq_true, if_false]
      exact ih _ _ _ _ _ _ _ _ _ _ _ (h'.runX hg hls ho hd hN hv hiq hr h'.sta) hsz' hu' hx'
     ·rw [hw, wtd_ok h'.sl hwt]
      simp only [if_true]
      refine .inl ?_
      rcases hst with hpu | ⟨_, hqo⟩
      ·refine Outc.wp (R := fun v' w' => v' = v ∧ w' = w) (by rw [he, hpu b' w h'.sl]; exact ⟨rfl, rfl⟩) ?_
       rintro v' w' ⟨rfl, rfl⟩
       rw [hd]
       exact ih _ _ _ _ _ _ _ _ _ _ _ (h'.runX hg hls ho hd hN hv hiq hr h'.sta) hsz' hu' hx'
      ·refine Outc.wp (R := fun v' w' => v' = v ∧ Sta c fs (os' ++ frames E') w') (by rw [he]; exact (hqo (frames E')).go b' w h'.sl h'.sta) ?_
       rintro v' w' ⟨rfl, hw'⟩
       rw [hd]
       exact ih _ _ _ _ _ _ _ _ _ _ _ (h'.runX hg hls ho hd hN hv hiq hr hw') hsz' hu' hx'
    | true =>
     have hiq : i ∉ q := fun hm => by rw [h.eff i hm (.inr hfi)] at h1; cases h1
     have hip : i ∈ p := by
      rcases List.mem_append.1 hip0 with hm | hm
      ·exact absurd hm hiq
      ·exact hm
     obtain ⟨q', p', s', os', pd', b', E', h', _, _, h3⟩ := InvW.advX hg hfa hx ho h1 hr p q s fs os pd b E h hip
     obtain ⟨hip', h3⟩ := h3 hfi
     have hsub : ∃ z ∈ fa, z.i = i ∧ SubS s' z.vals := by
      rcases h3 with ⟨r, rfl⟩ | h3
      ·obtain ⟨o', _, hcase⟩ := h'.nf
       rcases hcase with ⟨d, _, _, _, hb, _⟩ | ⟨d, v, _, _, _, hb, _⟩ | ⟨d, v, _, _, _, hb, _⟩ | ⟨hb, _⟩ | ⟨z, hz, hzi, _, hv, _⟩
       ·rw [hfi] at hb; cases hb
       ·rw [hfi] at hb; cases hb
       ·rw [hfi] at hb; cases hb
       ·rw [hei] at hb; cases hb
       ·exact ⟨z, hz, hzi, hv⟩
      ·obtain ⟨z, hz, hzi⟩ := mem_fr.1 hfi
       exact ⟨z, hz, hzi, h3 z hz hzi⟩
     obtain ⟨z, hz, rfl, hv⟩ := hsub
     obtain ⟨o', d, ho', hd, hN, hgd, hlook, hrun⟩ := (hok z hz).go
     rw [ho] at ho'
     cases ho'
     have hwt : Region.wanted o (yielded ops a.tmps) = true := by unfold Region.wanted; rw [hgd]
     rw [hwt]
     simp only [if_true]
     refine .inl (Outc.wp (hrun c fs (os' ++ frames E') a w (h'.valsX hg ho hr hv hlook) h'.sta) ?_)
     rintro v w' ⟨g, rfl, hw'⟩
     rw [hd]
     exact ih _ _ _ _ _ _ _ _ _ _ _ (h'.runEX hg hz hls h1 hip' ho hd hN hr hw') hsz' hu' hx'
   | true =>
    have hiq : i ∉ q := fun hm => by rw [h.eff i hm (.inl hei)] at h1; cases h1
    have hip : i ∈ p := by
     rcases List.mem_append.1 hip0 with hm | hm
     ·exact absurd hm hiq
     ·exact hm
    obtain ⟨q', p', s', os', pd', b', E', h', _, hpe, _⟩ := InvW.advX hg hfa hx ho h1 hr p q s fs os pd b E h hip
    obtain ⟨r, rfl⟩ := hpe hei
    obtain ⟨he, hw⟩ := h'.agreeX hg ho hr (fun e he hb => hg.edge q' i r h'.part o ho e he hb)
    obtain ⟨o', ho', hcase⟩ := h'.nf
    rw [ho] at ho'
    cases ho'
    rcases hcase with ⟨_, _, _, hb, _⟩ | ⟨_, _, _, _, hb, _⟩ | ⟨_, _, _, _, hb, _⟩ | ⟨_, _, hdN, hwt, next, hex, hnext⟩ | ⟨z, hz, hzi, _⟩
    ·rw [hei] at hb; cases hb
    ·rw [hei] at hb; cases hb
    ·rw [hei] at hb; cases hb
    ·rw [hw, wtd_ok h'.sl hwt]
     simp only [if_true]
     refine .inl (Outc.wp (R := fun v w' => ∃ fs'' os'', next v fs'' os'' ∧ Sta c fs'' (os'' ++ frames E') w') (by rw [he]; exact (hex (frames E')).go b' w h'.sl h'.sta) ?_)
     rintro v w' ⟨fs'', os'', hn, hw'⟩
     obtain ⟨hpd, hnf⟩ := hnext v fs'' os'' hn
     have hiq' := h'.notqX hg (j := i) (by simp)
     have hir : i ∉ r := by
      have := hg.nodup
      rw [h'.part, List.nodup_append, List.nodup_cons] at this
      exact this.2.1.1
     -- what stands open stays so
     have hold : ∀ j, j ∈ q' → listed.getD j false = false → StatW P c N ops s' fs'' os'' pd' b' j := fun j hj hl => by
      obtain ⟨oj, dj, hoj, hdj, hst⟩ := h'.stat j hj hl
      refine ⟨oj, dj, hoj, hdj, ?_⟩
      rcases hst with h0 | ⟨hwj, v, hv, hlk, hp | ⟨hm, _⟩⟩
      ·exact .inl h0
      ·exact .inr ⟨hwj, v, hv, hlk, .inl hp⟩
      ·rcases hpd j hm with ha | ⟨oj', dj', vj, hoj', hdj', hlj, hqo⟩
       ·have := anc_listed h'.closed n i j o ho hr ha
        rw [hl] at this
        cases this
       ·rw [hoj] at hoj'; cases hoj'; rw [hdj] at hdj'; cases hdj'
        rw [hlk] at hlj
        cases hlj
        exact .inr ⟨hwj, v, hv, hlk, .inr ⟨hm, hqo⟩⟩
     refine ih _ _ _ (q' ++ [i]) r (addS s' o.dst v) fs'' os'' pd' (b'.put o.dst v) E' ?_ hsz' hu' hx'
     have hother : ∀ (j : Nat) (oj : Oper) (d : Nat), o.dst = some d → j ≠ i → ops[j]? = some oj → oj.dst ≠ some d := fun j oj d hd hne hj hdj => hne (hg.uniq j i oj o d hj ho hd hdj)
     have hEi : ∀ e ∈ E', e.1.i ≠ i := fun e he' hei' => by
      have := (h'.early e he').2.2.1
      rw [hei', h1] at this
      cases this
     refine ⟨by rw [h'.part]; simp, hw', h'.sl.addS v hdN, ?_, ?_, fun t ht => ?_, fun j oj dj hj hjq hoj hdj => ?_, fun e he' => ?_, h'.ednd, fun j hj => ?_, fun j hj hej => ?_, fun j hj hl => ?_, fun j hj oj dj hoj hdj => ?_, hnf, fun j oj hj hoj x hx hb => ?_, fun j hj oj dj hoj hdj => ?_⟩
     ·cases o.dst <;> simp [Act.put, h'.size]
     ·cases o.dst <;> simp [Act.put, h'.defers]
     ·cases hd : o.dst with
      | none => exact h'.outer t ht
      | some d =>
       have hne : t ≠ d := fun e => ht i o ho (by rw [e]; exact hd)
       rw [getD_put_ne hne, getD_put_ne hne]
       exact h'.outer t ht
     ·have hcase : j = i ∨ (j ≠ i ∧ listed.getD j false = true ∧ j ∈ q') := by
       by_cases e : j = i
       ·exact .inl e
       ·refine .inr ⟨e, ?_, ?_⟩
        ·rcases (listed_set hls).1 hj with h2 | h2
         ·exact absurd h2 e
         ·exact h2
        ·rcases List.mem_append.1 hjq with h2 | h2
         ·exact h2
         ·simp at h2; exact absurd h2 e
      cases hd : o.dst with
      | none =>
       rcases hcase with rfl | ⟨_, k1, k2⟩
       ·rw [hoj] at ho; cases ho; rw [hd] at hdj; cases hdj
       ·exact h'.done j oj dj k1 k2 hoj hdj
      | some d =>
       by_cases e : dj = d
       ·subst e
        rw [getD_put_eq (by rw [h'.size]; exact hdN _ hd), getD_put_eq (by rw [h'.sl.size]; exact hdN _ hd)]
       ·rw [getD_put_ne e, getD_put_ne e]
        rcases hcase with rfl | ⟨_, k1, k2⟩
        ·rw [hoj] at ho; cases ho; rw [hd] at hdj; cases hdj; exact absurd rfl e
        ·exact h'.done j oj dj k1 k2 hoj hdj
     ·obtain ⟨k1, k2, k3, k4⟩ := h'.early e he'
      refine ⟨k1, ?_, (listed_set hls).2 (.inr k3), fun oe de hoe hde => ?_⟩
      ·rcases List.mem_cons.1 k2 with h2 | h2
       ·exact absurd h2 (hEi e he')
       ·exact h2
      ·cases hd : o.dst with
       | none => exact k4 oe de hoe hde
       | some d =>
        rw [getD_put_ne (fun e' : de = d => hother e.1.i oe d hd (hEi e he') hoe (by rw [← e']; exact hde))]
        exact k4 oe de hoe hde
     ·rcases (listed_set hls).1 hj with rfl | hj
      ·exact .inl (by simp)
      ·rcases h'.inq j hj with h2 | h2
       ·exact .inl (List.mem_append.2 (.inl h2))
       ·exact .inr h2
     ·rcases List.mem_append.1 hj with hj | hj
      ·exact (listed_set hls).2 (.inr (h'.eff j hj hej))
      ·simp at hj; subst hj; exact (listed_set hls).2 (.inl rfl)
     ·have hne : j ≠ i := fun e => by rw [(listed_set hls).2 (.inl e)] at hl; cases hl
      have hjq : j ∈ q' := by
       rcases List.mem_append.1 hj with hj | hj
       ·exact hj
       ·simp at hj; exact absurd hj hne
      have hlj : listed.getD j false = false := by
       cases hlj : listed.getD j false with
       | false => rfl
       | true => rw [(listed_set hls).2 (.inr hlj)] at hl; cases hl
      cases hd : o.dst with
      | none => exact hold j hjq hlj
      | some d => exact (hold j hjq hlj).cons (h'.fresh i (by simp) o d ho hd) (fun _ h => h) (fun oj hoj => hother j oj d hd hne hoj) (.inl rfl)
     ·have hne : j ≠ i := fun e => hir (e ▸ hj)
      cases hd : o.dst with
      | none => exact h'.fresh j (List.mem_cons_of_mem _ hj) oj dj hoj hdj
      | some d =>
       show lk ((d, v) :: s') dj = none
       rw [lk_cons_ne (fun e : d = dj => hother j oj d hd hne hoj (by rw [e]; exact hdj))]
       exact h'.fresh j (List.mem_cons_of_mem _ hj) oj dj hoj hdj
     ·rcases (listed_set hls).1 hj with rfl | hj
      ·rw [hoj] at ho; cases ho; exact (listed_set hls).2 (.inr (hr x hx hb))
      ·exact (listed_set hls).2 (.inr (h'.closed j oj hj hoj x hx hb))
     ·rcases List.mem_append.1 hj with hj | hj
      ·exact h'.dlt j hj oj dj hoj hdj
      ·simp at hj; subst hj; rw [hoj] at ho; cases ho; exact hdN _ hdj
    ·have := hg.disj i hei
     rw [mem_fr.2 ⟨z, hz, hzi⟩] at this
     cases this
end
end Go.Sx

namespace Go.Sx
open Go Go.RowKit
section
variable (P : Program) (N : Nat) (ops : Array Oper) (ef : List Nat) (fa : List FreeA)
def NwPre : List Nat → Slots → (Slots → Prop) → Prop
 | [], s, K => K s
 | i :: p, s, K => ∃ o d v, ops[i]? = some o ∧ o.dst = some d ∧ d < N ∧ ef.contains i = false ∧ (fa.map (·.i)).contains i = false ∧ wtd ops s o = some true ∧ Pu P N s o v ∧ NwPre p ((d, v) :: s) K
end
section
variable {P : Program} {c : Ctx} {N : Nat} {ops : Array Oper} {n : Nat} {ef : List Nat} {fa : List FreeA} {R : Slots → List Fact → List Own → Prop} {Q : Exit → Act → World → Prop} {fs : List Fact} {os : List Own}
variable {i d : Nat} {op : Op} {ty : TypeId} {pos : String} {af : Array Edge} {gd : Option (Nat × Bool)} {v : Value}
theorem NwPre.nw {m : List Nat} : ∀ (p : List Nat) (s : Slots), NwPre P N ops ef fa p s (fun s => Nw P c N ops n ef fa m s fs os [] R) → Nw P c N ops n ef fa (p ++ m) s fs os [] R
 | [], _, h => h
 | _ :: p, _, ⟨o, d, v, ho, hd, hN, he, hf, hw, hp, k⟩ => ⟨o, ho, .inr (.inl ⟨d, v, hd, hN, he, hf, hw, hp, NwPre.nw p _ k⟩)⟩
theorem NwPre.mono {K K' : Slots → Prop} (hk : ∀ s, K s → K' s) : ∀ (p : List Nat) (s : Slots), NwPre P N ops ef fa p s K → NwPre P N ops ef fa p s K'
 | [], _, h => hk _ h
 | _ :: p, _, ⟨o, d, v, ho, hd, hN, he, hf, hw, hp, k⟩ => ⟨o, d, v, ho, hd, hN, he, hf, hw, hp, NwPre.mono hk p _ k⟩
theorem InvW.swap {x1 x2 : Nat} {p1 p2 q m1 m2 : List Nat} (hg1 : GoodX x1 ops n p1 ef (fa.map (·.i))) (hg2 : GoodX x2 ops n p2 ef (fa.map (·.i))) (hp2 : p2 = q ++ m2) {listed : Array Bool} {a : Act} {w : World} {s : Slots} {pd : List Nat} {b : Act} {E : List (FreeA × Nat)}
  (h : InvW P c N ops n ef fa p1 R listed a w q m1 s fs os pd b E) (hn : Nw P c N ops n ef fa m2 s fs os pd R) : InvW P c N ops n ef fa p2 R listed a w q m2 s fs os pd b E := by
 have h1 := hg1.nodup; have h2 := hg2.nodup
 rw [h.part, List.nodup_append] at h1; rw [hp2, List.nodup_append] at h2
 have m12 : ∀ i, i ∈ m1 → i ∈ m2 := fun i hi => by
  have := hg2.all i (hg1.lt i (by rw [h.part]; exact List.mem_append.2 (.inr hi)))
  rw [hp2] at this
  rcases List.mem_append.1 this with hq | hq
  ·exact absurd rfl (h1.2.2 i hq i hi)
  ·exact hq
 have m21 : ∀ i, i ∈ m2 → i ∈ m1 := fun i hi => by
  have := hg1.all i (hg2.lt i (by rw [hp2]; exact List.mem_append.2 (.inr hi)))
  rw [h.part] at this
  rcases List.mem_append.1 this with hq | hq
  ·exact absurd rfl (h2.2.2 i hq i hi)
  ·exact hq
 exact { part := hp2, sta := h.sta, sl := h.sl, size := h.size, defers := h.defers, outer := h.outer, done := h.done, early := fun e he => ⟨(h.early e he).1, m12 _ (h.early e he).2.1, (h.early e he).2.2⟩, ednd := h.ednd, inq := h.inq, eff := h.eff, stat := h.stat, fresh := fun i hi => h.fresh i (m21 i hi), nf := hn, closed := h.closed, dlt := h.dlt }
theorem InvW.two {z1 z2 : Nat} {p1 p2 q m1 m2 : List Nat} (hg1 : GoodX z1 ops n p1 ef (fa.map (·.i))) (hg2 : GoodX z2 ops n p2 ef (fa.map (·.i))) (hp2 : p2 = q ++ m2) (hfa : (fa.map (·.i)).Nodup) (hok : ∀ z ∈ fa, z.Ok P N ops) (hv : ∀ z ∈ fa, z.vals = [])
  (hz1 : z1 ∈ m1) (hz2 : z2 ∈ m1) (hf1 : (fa.map (·.i)).contains z1 = true) (hf2 : (fa.map (·.i)).contains z2 = true) (hanc : ∀ i ∈ m1, (fa.map (·.i)).contains i = false → anc ops n i z1 = true ∨ anc ops n i z2 = true)
  (hR : ∀ s fs os, R s fs os → ∀ a w, Sl N s a → Sta c fs os w → Q .normal a w) {s : Slots} {b : Act} (hn2 : Nw P c N ops n ef fa m2 s fs os [] R) (hq0 : ∀ i ∈ q, ef.contains i = false ∧ (fa.map (·.i)).contains i = false) :
  ∀ (fuel : Nat) (listed : Array Bool) (a : Act) (w : World) (E : List (FreeA × Nat)), InvW P c N ops n ef fa p1 R listed a w q m1 s fs os [] b E → listed.size = ops.size → unl listed ops.size ≤ fuel → listed.getD z1 false = false → listed.getD z2 false = false → wpAny P .any ops Q fuel listed a w := by
 have getD_tf : ∀ (listed : Array Bool) (i : Nat), i < listed.size → listed.getD i true = listed.getD i false := fun listed i hi => by
  simp [Array.getD_eq_getD_getElem?, Array.getElem?_eq_getElem hi]
 intro fuel
 induction fuel with
 | zero =>
  intro listed a w E h hsz hu hl1 hl2
  have hl := unl_zero listed ops.size (by omega)
  have := hl z1 (hg1.lt z1 (by rw [h.part]; exact List.mem_append.2 (.inr hz1)))
  rw [hl1] at this; cases this
 | succ fuel ih =>
  intro listed a w E h hsz hu hl1 hl2
  refine ⟨fun hnil => ?_, fun i hi => ?_⟩
  ·exfalso
   obtain ⟨q1, j, r, e, hj, hq1⟩ := first_of (p := fun x => listed.getD x false = true) p1 ⟨z1, by rw [h.part]; exact List.mem_append.2 (.inr hz1), by rw [hl1]; simp⟩
   have hjlt := hg1.lt j (by rw [e]; simp)
   have hoj := Array.getElem?_eq_getElem hjlt
   have : j ∈ Region.ready .any ops listed := mem_ready.2 ⟨by rw [getD_tf listed j (by omega)]; simpa using hj, _, hoj, fun x hx hb => hq1 _ (hg1.edge q1 j r e _ hoj x hx hb)⟩
   rw [hnil] at this
   cases this
  ·obtain ⟨h1, o, ho, hr⟩ := mem_ready.1 hi
   have hlt := (Array.getElem?_eq_some_iff.1 ho).1
   have hls : i < listed.size := by omega
   rw [getD_tf listed i hls] at h1
   have hu' : unl (listed.setIfInBounds i true) ops.size ≤ fuel := by
    have := unl_set listed i h1 hls ops.size
    rw [if_pos hlt] at this
    omega
   have hsz' : (listed.setIfInBounds i true).size = ops.size := by simpa using hsz
   have hip0 : i ∈ q ++ m1 := by rw [← h.part]; exact hg1.all i hlt
   have keep : ∀ x, i ≠ x → listed.getD x false = false → (listed.setIfInBounds i true).getD x false = false := fun x hx hl => by
    cases hh : (listed.setIfInBounds i true).getD x false with
    | false => rfl
    | true =>
     rcases (listed_set hls).1 hh with e | e
     ·exact absurd e.symm hx
     ·rw [hl] at e; cases e
   unfold wpOp
   simp only [ho]
   cases hfi : (fa.map (·.i)).contains i with
   | false =>
    rcases List.mem_append.1 hip0 with hiq | him
    ·have hN := h.dlt i hiq o
     obtain ⟨he, hw⟩ := h.agreeX hg1 ho hr (h.qclosedX hg1 hiq ho)
     obtain ⟨o', d, ho', hd, hst⟩ := h.stat i hiq h1
     rw [ho] at ho'
     cases ho'
     have hN : d < N := h.dlt i hiq o d ho hd
     have n1 : i ≠ z1 := fun e => by subst e; rw [hf1] at hfi; cases hfi
     have n2 : i ≠ z2 := fun e => by subst e; rw [hf2] at hfi; cases hfi
     rcases hst with ⟨hwf, hv⟩ | ⟨hwt, v, hv, hlk, hst⟩
     ·rw [hw, wtd_ok h.sl hwf, hd]
      simp only [Bool.false_eq_true, if_false]
      exact ih _ _ _ _ (h.runX hg1 hls ho hd hN hv hiq hr h.sta) hsz' hu' (keep z1 n1 hl1) (keep z2 n2 hl2)
     ·rw [hw, wtd_ok h.sl hwt]
      simp only [if_true]
      refine .inl ?_
      rcases hst with hpu | ⟨hm, _⟩
      ·refine Outc.wp (R := fun v' w' => v' = v ∧ w' = w) (by rw [he, hpu b w h.sl]; exact ⟨rfl, rfl⟩) ?_
       rintro v' w' ⟨rfl, rfl⟩
       rw [hd]
       exact ih _ _ _ _ (h.runX hg1 hls ho hd hN hv hiq hr h.sta) hsz' hu' (keep z1 n1 hl1) (keep z2 n2 hl2)
      ·cases hm
    ·exfalso
     rcases hanc i him hfi with ha | ha
     ·have := anc_listed h.closed n i z1 o ho hr ha
      rw [hl1] at this; cases this
     ·have := anc_listed h.closed n i z2 o ho hr ha
      rw [hl2] at this; cases this
   | true =>
    have hiq : i ∉ q := fun hm => by rw [(hq0 i hm).2] at hfi; cases hfi
    have hip : i ∈ m1 := by
     rcases List.mem_append.1 hip0 with hm | hm
     ·exact absurd hm hiq
     ·exact hm
    obtain ⟨z, hz, rfl⟩ := mem_fr.1 hfi
    obtain ⟨o', d, ho', hd, hN, hgd, hlook, hrun⟩ := (hok z hz).go
    rw [ho] at ho'
    cases ho'
    have hwt : Region.wanted o (yielded ops a.tmps) = true := by unfold Region.wanted; rw [hgd]
    rw [hwt]
    simp only [if_true]
    refine .inl (Outc.wp (hrun c fs (os ++ frames E) a w ⟨h.size, h.defers, fun t v hh => by rw [hv z hz] at hh; simp [lk] at hh⟩ h.sta) ?_)
    rintro v w' ⟨g, rfl, hw'⟩
    rw [hd]
    have step := h.runEX hg1 hz hls h1 hip ho hd hN hr hw'
    by_cases e1 : z.i = z1
    ·exact Nw.anyX hg1 hfa hok hR _ _ _ _ _ _ _ _ _ _ _ _ step hsz' hu' ((listed_set hls).2 (.inl e1.symm))
    by_cases e2 : z.i = z2
    ·exact Nw.anyX hg2 hfa hok hR _ _ _ _ _ _ _ _ _ _ _ _ (step.swap hg1 hg2 hp2 hn2) hsz' hu' ((listed_set hls).2 (.inl e2.symm))
    exact ih _ _ _ _ step hsz' hu' (keep z1 e1 hl1) (keep z2 e2 hl2)
end
end Go.Sx

