/- The walks and the plain laws, part 5: each function that the law reaches computes what its plain function tells, and what the plain functions answer. Conditions: lengths that memory can hold. -/
import Derived.Test.YtichamokohjneaaA4
namespace Go.Proofs.Ytichamokohjneaa
open Go Go.Sx
theorem e_spec_l3Text (n : List Tag) (hw : Wt.w n ≤ 4194304) : p_spec_l3Text n = some (textN n) := by
  rw [w_name] at hw
  unfold p_spec_l3Text textN
  have e44 : ((⟨#[44]⟩ : ByteArray)).size = 1 := rfl
  have e61 : ((⟨#[61]⟩ : ByteArray)).size = 1 := rfl
  rw [show ((⟨#[]⟩ : ByteArray), (0 : Int)) = (textK n 0, ((0 : Nat) : Int)) from rfl, lp_for (fun k => (textK n k, (k : Int))) n.length (textK n n.length) (fun m hm => by
    have h1 := textK_size n m
    have h2 : (sumN m fun i => (nth n i).1.size + (nth n i).2.size) + ((nth n m).1.size + (nth n m).2.size) ≤ sumN n.length fun i => (nth n i).1.size + (nth n i).2.size := sumN_lt (f := fun i => (nth n i).1.size + (nth n i).2.size) hm
    unfold p_spec_l3Text_b0
    rw [dlt hm, cond_true]
    by_cases h0 : 0 < m
    · rw [decide_eq_true (show (0 : Int) < (m : Int) by omega), cond_true]
      rw [gd.yes (by simp only [room, e44]; omega), gd.yes (ixN hm), gd.yes (by simp only [room, ByteArray.size_append, e44, Int.toNat_natCast]; omega), gd.yes (by simp only [room, ByteArray.size_append, e44, e61, Int.toNat_natCast]; omega), gd.yes (by simp only [room, ByteArray.size_append, e44, e61, Int.toNat_natCast]; omega), gd.yes (by unfold I64; omega), addI]
      rw [textK_pos h0]
      rfl
    · rw [decide_eq_false (show ¬ (0 : Int) < (m : Int) by omega), cond_false]
      rw [gd.yes (ixN hm), gd.yes (by simp only [room, Int.toNat_natCast]; omega), gd.yes (by simp only [room, ByteArray.size_append, e61, Int.toNat_natCast]; omega), gd.yes (by simp only [room, ByteArray.size_append, e61, Int.toNat_natCast]; omega), gd.yes (by unfold I64; omega), addI]
      rw [textK_neg h0]
      rfl) (by unfold p_spec_l3Text_b0; rw [decide_eq_false (show ¬ ((n.length : Int) < (n.length : Int)) by omega)]; rfl)]
  rfl
/-- tags of one byte each -/
def oneB (t : Tag) : Prop := t.1.size = 1 ∧ t.2.size = 1
theorem tagB_one {t : Tag} (h : tagB t = true) : oneB t := by
  unfold tagB at h
  simp only [Bool.and_eq_true, decide_eq_true_eq] at h
  exact ⟨h.1, h.2.1⟩
theorem nameOk_tags {n : List Tag} (h : nameOk n = true) : ∀ t ∈ n, tagB t = true := by
  intro t ht
  unfold nameOk at h
  simp only [Bool.and_eq_true] at h
  obtain ⟨i, hi, rfl⟩ := List.mem_iff_getElem.1 ht
  have := allN_iff.1 h.1 i hi
  unfold nameBad at this
  simp only [Bool.or_eq_false_iff] at this
  rw [← nth_eq n i hi]
  simpa using this.1
def kb (t : Tag) : UInt8 := sb t.1 0
def vb (t : Tag) : UInt8 := sb t.2 0
def bytesT : List Tag → List UInt8
  | [] => []
  | [t] => [kb t, 61, vb t]
  | t :: u :: r => kb t :: 61 :: vb t :: 44 :: bytesT (u :: r)
theorem bytesT_snoc (l : List Tag) (t : Tag) : bytesT (l ++ [t]) = if l = [] then [kb t, 61, vb t] else bytesT l ++ [44, kb t, 61, vb t] := by
  induction l with
  | nil => rfl
  | cons u l ih =>
    cases l with
    | nil => rfl
    | cons v l =>
      simp only [List.cons_append, bytesT] at ih ⊢
      rw [ih]
      simp
theorem one_bytes {x : ByteArray} (h : x.size = 1) : x.data.toList = [sb x 0] := by
  have := ba_one h
  generalize sb x 0 = c at *
  subst this; rfl
theorem textK_bytes (n : List Tag) (h1 : ∀ t ∈ n, oneB t) : ∀ m, m ≤ n.length → (textK n m).data.toList = bytesT (n.take m)
  | 0, _ => rfl
  | m + 1, hm => by
    have hmn : m < n.length := by omega
    have ih := textK_bytes n h1 m (by omega)
    obtain ⟨o1, o2⟩ := h1 _ (nth_mem hmn)
    rw [take_succ_nth hmn, bytesT_snoc]
    unfold textK
    have e1 := one_bytes o1
    have e2 := one_bytes o2
    by_cases h0 : 0 < m
    · have hne : n.take m ≠ [] := fun e => by have := congrArg List.length e; rw [List.length_take, List.length_nil] at this; omega
      rw [if_pos h0, if_neg hne]
      simp only [ByteArray.data_append, Array.toList_append, ih, e1, e2]
      simp [kb, vb]
    · have hm0 : m = 0 := by omega
      subst hm0
      simp only [ByteArray.data_append, Array.toList_append, e1, e2]
      simp [textK, kb, vb]
theorem tag_ext {t u : Tag} (h1 : oneB t) (h2 : oneB u) (hk : kb t = kb u) (hv : vb t = vb u) : t = u := by
  have a1 := ba_one h1.1
  have a2 := ba_one h1.2
  have b1 := ba_one h2.1
  have b2 := ba_one h2.2
  refine Prod.ext ?_ ?_
  · rw [a1, b1]; unfold kb at hk; rw [hk]
  · rw [a2, b2]; unfold vb at hv; rw [hv]
theorem bytesT_inj : ∀ {a b : List Tag}, (∀ t ∈ a, oneB t) → (∀ t ∈ b, oneB t) → bytesT a = bytesT b → a = b
  | [], [], _, _, _ => rfl
  | [], [t], _, _, h => by simp [bytesT] at h
  | [], t :: u :: r, _, _, h => by simp [bytesT] at h
  | [t], [], _, _, h => by simp [bytesT] at h
  | t :: u :: r, [], _, _, h => by simp [bytesT] at h
  | [t], [u], ha, hb, h => by
    simp only [bytesT, List.cons.injEq, and_true, true_and] at h
    rw [tag_ext (ha t (by simp)) (hb u (by simp)) h.1 h.2]
  | [t], u :: v :: r, _, _, h => by simp [bytesT] at h
  | t :: u :: r, [v], _, _, h => by simp [bytesT] at h
  | t :: u :: r, v :: w :: q, ha, hb, h => by
    simp only [bytesT, List.cons.injEq, true_and] at h
    rw [tag_ext (ha t (by simp)) (hb v (by simp)) h.1 h.2.1, bytesT_inj (a := u :: r) (b := w :: q) (fun x hx => ha x (List.mem_cons_of_mem _ hx)) (fun x hx => hb x (List.mem_cons_of_mem _ hx)) h.2.2]
theorem textN_inj {a b : List Tag} (ha : ∀ t ∈ a, oneB t) (hb : ∀ t ∈ b, oneB t) (h : textN a = textN b) : a = b := by
  have e1 := textK_bytes a ha a.length (Nat.le_refl _)
  have e2 := textK_bytes b hb b.length (Nat.le_refl _)
  rw [List.take_length] at e1 e2
  refine bytesT_inj ha hb ?_
  rw [← e1, ← e2]
  show (textN a).data.toList = (textN b).data.toList
  rw [h]
theorem text_eq {a b : List Tag} (ha : nameOk a = true) (hb : nameOk b = true) : decide (textN a = textN b) = decide (a = b) := by
  by_cases h : a = b
  · subst h; simp
  · have : textN a ≠ textN b := fun e => h (textN_inj (fun t ht => tagB_one (nameOk_tags ha t ht)) (fun t ht => tagB_one (nameOk_tags hb t ht)) e)
    simp [h, this]
/-- which names have a tag -/
def idsN (names : List (List Tag)) (t : Tag) : Nat → List Int
  | 0 => []
  | m + 1 => idsN names t m ++ (if hasT (nth names m) t then [(m : Int) + 1] else [])
theorem idsN_succ (names : List (List Tag)) (t : Tag) (m : Nat) : idsN names t (m + 1) = idsN names t m ++ (if hasT (nth names m) t then [(m : Int) + 1] else []) := rfl
theorem idsN_len (names : List (List Tag)) (t : Tag) : ∀ m, (idsN names t m).length ≤ m
  | 0 => Nat.le_refl _
  | m + 1 => by
    have := idsN_len names t m
    rw [idsN_succ]
    split <;> simp <;> omega
theorem e_spec_l11Ids (names : List (List Tag)) (t : Tag) (h1 : names.length ≤ 4194304) (h2 : ∀ n ∈ names, n.length ≤ 4194304) : p_spec_l11Ids names t = some (idsN names t names.length) := by
  unfold p_spec_l11Ids
  rw [show (([] : List Int), (0 : Int)) = (idsN names t 0, ((0 : Nat) : Int)) from rfl, lp_for (fun k => (idsN names t k, (k : Int))) names.length (idsN names t names.length) (fun m hm => by
    have hl := h2 _ (nth_mem hm)
    have hi := idsN_len names t m
    unfold p_spec_l11Ids_b0
    rw [dlt hm, cond_true, gd.yes (ixN hm)]
    simp only [Int.toNat_natCast]
    rw [bd.yes (e_spec_l3Has (nth names m) t (by unfold maxLen; omega))]
    cases hc : hasT (nth names m) t with
    | true =>
      rw [cond_true, gd.yes (by unfold I64; omega), gd.yes (by unfold room; omega), idsN_succ, if_pos hc, addI]
    | false =>
      rw [cond_false, gd.yes (by unfold I64; omega), addI, idsN_succ, if_neg (by rw [hc]; simp), List.append_nil]) (by
    unfold p_spec_l11Ids_b0; rw [decide_eq_false (show ¬ ((names.length : Int) < (names.length : Int)) by omega)]; rfl)]
  rfl
/-- the numbers that a tag has -/
def idsAt : List Post → Tag → List Int
  | [], _ => []
  | p :: P, t => if p.1 = t then p.2 else idsAt P t
theorem idsAt_addT (P : List Post) (t : Tag) (i : Int) (u : Tag) : idsAt (addT P t i) u = if u = t then idsAt P u ++ [i] else idsAt P u := by
  induction P with
  | nil =>
    unfold addT idsAt
    by_cases h : t = u
    · subst h; simp
    · have h' : ¬ u = t := fun e => h e.symm
      simp [h, h', idsAt]
  | cons p P ih =>
    unfold addT
    by_cases hp : p.1 = t
    · rw [if_pos hp]
      by_cases hu : u = t
      · subst hu; simp [idsAt, hp]
      · have : ¬ p.1 = u := fun e => hu (e ▸ hp)
        simp [idsAt, this, hu]
    · rw [if_neg hp]
      by_cases hu : p.1 = u
      · have : ¬ u = t := fun e => hp (hu.trans e)
        simp [idsAt, hu, this]
      · simp only [idsAt, if_neg hu, ih]
theorem idsAt_addN (n : List Tag) (i : Int) (u : Tag) : ∀ {P : List Post}, n.Nodup → idsAt (addN P n i) u = if hasT n u then idsAt P u ++ [i] else idsAt P u := by
  induction n with
  | nil => intro P _; rfl
  | cons t n ih =>
    intro P hn
    rw [List.nodup_cons] at hn
    rw [addN_cons, ih hn.2, idsAt_addT]
    have hc : hasT (t :: n) u = (decide (t = u) || hasT n u) := rfl
    rw [hc]
    by_cases h1 : u = t
    · subst h1
      rw [hasT_no hn.1]; simp
    · have h2 : ¬ t = u := fun e => h1 e.symm
      simp [h1, h2]
def dist (names : List (List Tag)) : Prop := ∀ n ∈ names, n.Nodup
theorem idsAt_posts {names : List (List Tag)} (hd : dist names) (u : Tag) : ∀ m, m ≤ names.length → idsAt (postsF names m) u = idsN names u m
  | 0, _ => rfl
  | m + 1, hm => by
    rw [postsF_succ, idsAt_addN _ _ _ (hd _ (nth_mem (show m < names.length by omega))), idsAt_posts hd u m (by omega)]
    rw [idsN_succ]
    cases h : hasT (nth names m) u with
    | true => simp
    | false => simp
theorem idsAt_mem {P : List Post} (hn : (P.map (·.1)).Nodup) {p : Post} (hp : p ∈ P) : idsAt P p.1 = p.2 := by
  induction P with
  | nil => cases hp
  | cons q P ih =>
    rw [List.map_cons, List.nodup_cons] at hn
    rcases List.mem_cons.1 hp with rfl | hp
    · simp [idsAt]
    · have : ¬ q.1 = p.1 := fun e => hn.1 (e ▸ List.mem_map_of_mem hp)
      simp only [idsAt, if_neg this]
      exact ih hn.2 hp
theorem idsAt_some {P : List Post} {t : Tag} (h : idsAt P t ≠ []) : ∃ p ∈ P, p.1 = t := by
  induction P with
  | nil => exact absurd rfl h
  | cons q P ih =>
    by_cases e : q.1 = t
    · exact ⟨q, List.mem_cons_self .., e⟩
    · simp only [idsAt, if_neg e] at h
      obtain ⟨p, hp, h1⟩ := ih h
      exact ⟨p, List.mem_cons_of_mem _ hp, h1⟩
theorem addT_ne {P : List Post} (h : ∀ p ∈ P, p.2 ≠ []) (t : Tag) (i : Int) : ∀ p ∈ addT P t i, p.2 ≠ [] := by
  induction P with
  | nil => intro p hp; simp [addT] at hp; subst hp; simp
  | cons q P ih =>
    intro p hp
    unfold addT at hp
    split at hp
    · rcases List.mem_cons.1 hp with rfl | hp
      · simp
      · exact h p (List.mem_cons_of_mem _ hp)
    · rcases List.mem_cons.1 hp with rfl | hp
      · exact h p (List.mem_cons_self ..)
      · exact ih (fun r hr => h r (List.mem_cons_of_mem _ hr)) p hp
theorem addN_ne (n : List Tag) (i : Int) : ∀ {P : List Post}, (∀ p ∈ P, p.2 ≠ []) → ∀ p ∈ addN P n i, p.2 ≠ [] := by
  induction n with
  | nil => intro P h; exact h
  | cons t n ih => intro P h; rw [addN_cons]; exact ih (addT_ne h t i)
theorem posts_ne (names : List (List Tag)) : ∀ m, ∀ p ∈ postsF names m, p.2 ≠ []
  | 0 => fun p hp => by cases hp
  | m + 1 => by rw [postsF_succ]; exact addN_ne _ _ (posts_ne names m)
/-- how many numbers in all -/
def sumL : List Post → Nat
  | [] => 0
  | p :: P => p.2.length + sumL P
theorem sumL_append (P Q : List Post) : sumL (P ++ Q) = sumL P + sumL Q := by
  induction P with
  | nil => simp [sumL]
  | cons p P ih => simp only [List.cons_append, sumL, ih]; omega
theorem sumL_perm {P Q : List Post} (h : P.Perm Q) : sumL P = sumL Q := by
  induction h with
  | nil => rfl
  | cons x _ ih => simp only [sumL, ih]
  | swap x y l => simp only [sumL]; omega
  | trans _ _ h1 h2 => exact h1.trans h2
theorem sumL_addT (P : List Post) (t : Tag) (i : Int) : sumL (addT P t i) = sumL P + 1 := by
  induction P with
  | nil => rfl
  | cons p P ih =>
    unfold addT
    split
    · simp only [sumL, List.length_append, List.length_cons, List.length_nil]; omega
    · simp only [sumL, ih]; omega
theorem sumL_addN (n : List Tag) (i : Int) : ∀ (P : List Post), sumL (addN P n i) = sumL P + n.length := by
  induction n with
  | nil => intro P; rfl
  | cons t n ih => intro P; rw [addN_cons, ih, sumL_addT, List.length_cons]; omega
theorem sumL_posts (names : List (List Tag)) : ∀ m, sumL (postsF names m) = sumN m fun i => (nth names i).length
  | 0 => rfl
  | m + 1 => by
    rw [postsF_succ, sumL_addN, sumL_posts names m]; rfl
/-- the postings of names: by tag, each with the numbers of those that have it -/
structure Canon (names : List (List Tag)) (C : List Post) : Prop where
  ord : C.Pairwise fun x y => ltTag x.1 y.1 = true
  ids : ∀ p ∈ C, p.2 = idsN names p.1 names.length ∧ p.2 ≠ []
  all : ∀ t, idsN names t names.length ≠ [] → ∃ p ∈ C, p.1 = t
theorem canon_posts {names : List (List Tag)} (hd : dist names) : Canon names (indexP names).2 := by
  have hn := postsF_nodup names names.length
  have hp := List.mergeSort_perm (postsF names names.length) leP
  have hs : ((postsF names names.length).mergeSort leP).Pairwise fun x y => leP x y = true := List.pairwise_mergeSort (fun a b c h1 h2 => by
    simp only [leP, Bool.not_eq_true'] at *; exact ltTag_nt h2 h1) (fun a b => by
    simp only [leP, Bool.or_eq_true, Bool.not_eq_true']
    cases h : ltTag b.1 a.1 with
    | false => exact .inl rfl
    | true => exact .inr (ltTag_asym h)) _
  have hn2 : (((postsF names names.length).mergeSort leP).map (·.1)).Nodup := (hp.map _).nodup_iff.2 hn
  refine ⟨?_, fun p hp' => ?_, fun t ht => ?_⟩
  · show ((postsF names names.length).mergeSort leP).Pairwise _
    have hne : ((postsF names names.length).mergeSort leP).Pairwise fun x y => x.1 ≠ y.1 := by
      unfold List.Nodup at hn2
      rwa [List.pairwise_map] at hn2
    refine (hs.and hne).imp ?_
    intro x y h
    have h1 := h.1
    simp only [leP, Bool.not_eq_true'] at h1
    cases hc : ltTag x.1 y.1 with
    | true => rfl
    | false => exact absurd (ltTag_anti hc h1) h.2
  · have hm : p ∈ postsF names names.length := hp.mem_iff.1 hp'
    exact ⟨by rw [← idsAt_posts hd p.1 _ (Nat.le_refl _), idsAt_mem hn hm], posts_ne names _ p hm⟩
  · rw [← idsAt_posts hd t _ (Nat.le_refl _)] at ht
    obtain ⟨p, h1, h2⟩ := idsAt_some ht
    exact ⟨p, hp.mem_iff.2 h1, h2⟩
theorem canon_eq {names : List (List Tag)} {C D : List Post} (hc : Canon names C) (hd : Canon names D) : C = D := by
  have nd : ∀ {E : List Post}, Canon names E → E.Nodup := fun h => h.ord.imp fun {a b} k e => by subst e; rw [ltTag_irr] at k; cases k
  have sub : ∀ {E F : List Post}, Canon names E → Canon names F → ∀ p ∈ E, p ∈ F := fun {E F} hE hF p hp => by
    obtain ⟨e1, e2⟩ := hE.ids p hp
    obtain ⟨q, hq, e3⟩ := hF.all p.1 (e1 ▸ e2)
    have e4 := (hF.ids q hq).1
    have : q = p := Prod.ext e3 (by rw [e4, e3, e1])
    rwa [← this]
  have hperm : C.Perm D := (List.perm_ext_iff_of_nodup (nd hc) (nd hd)).2 fun p => ⟨sub hc hd p, sub hd hc p⟩
  refine List.Perm.eq_of_pairwise (le := fun x y => ltTag x.1 y.1 = true) ?_ hc.ord hd.ord hperm
  intro a b _ _ h1 h2
  have := ltTag_asym h1
  rw [h2] at this; cases this
theorem sub_sum : ∀ {C A : List Post}, A.Nodup → (∀ p ∈ A, p ∈ C) → sumL A ≤ sumL C
  | [], A, _, h => by
    have : A = [] := List.eq_nil_iff_forall_not_mem.2 fun p hp => by cases h p hp
    rw [this]; exact Nat.le_refl _
  | c :: C, A, hn, h => by
    by_cases hc : c ∈ A
    · obtain ⟨A1, A2, rfl⟩ := List.append_of_mem hc
      have hn' := hn
      rw [List.nodup_append] at hn
      obtain ⟨n1, n2, n3⟩ := hn
      rw [List.nodup_cons] at n2
      have hnd : (A1 ++ A2).Nodup := by
        rw [List.nodup_append]
        exact ⟨n1, n2.2, fun a ha b hb => n3 a ha b (List.mem_cons_of_mem _ hb)⟩
      have ih := sub_sum (C := C) (A := A1 ++ A2) hnd (fun p hp => by
        have hpc : p ≠ c := fun e => by
          subst e
          rcases List.mem_append.1 hp with q | q
          · exact n3 p q p (List.mem_cons_self ..) rfl
          · exact n2.1 q
        have hp' : p ∈ A1 ++ c :: A2 := by
          rcases List.mem_append.1 hp with q | q
          · exact List.mem_append_left _ q
          · exact List.mem_append_right _ (List.mem_cons_of_mem _ q)
        rcases List.mem_cons.1 (h p hp') with e | q
        · exact absurd e hpc
        · exact q)
      rw [sumL_append] at ih ⊢
      simp only [sumL] at ih ⊢
      omega
    · have ih := sub_sum (C := C) (A := A) hn (fun p hp => by
        rcases List.mem_cons.1 (h p hp) with e | q
        · exact absurd (e ▸ hp) hc
        · exact q)
      simp only [sumL]; omega
/-- what is in order, told of names that there are, and as many in all: these are the postings -/
theorem canon_of_sum {names : List (List Tag)} {C P : List Post} (hc : Canon names C) (ord : P.Pairwise fun x y => ltTag x.1 y.1 = true) (ids : ∀ p ∈ P, p.2 = idsN names p.1 names.length ∧ p.2 ≠ []) (hs : sumL P = sumL C) : P = C := by
  have nd : P.Nodup := ord.imp fun {a b} k e => by subst e; rw [ltTag_irr] at k; cases k
  have sub : ∀ p ∈ P, p ∈ C := fun p hp => by
    obtain ⟨e1, e2⟩ := ids p hp
    obtain ⟨q, hq, e3⟩ := hc.all p.1 (e1 ▸ e2)
    have : q = p := Prod.ext e3 (by rw [(hc.ids q hq).1, e3, e1])
    rwa [← this]
  refine canon_eq ⟨ord, ids, fun t ht => ?_⟩ hc
  obtain ⟨c, h1, h2⟩ := hc.all t ht
  by_cases hm : c ∈ P
  · exact ⟨c, hm, h2⟩
  · have := sub_sum (C := C) (A := c :: P) (List.nodup_cons.2 ⟨hm, nd⟩) (fun p hp => by
      rcases List.mem_cons.1 hp with rfl | hp
      · exact h1
      · exact sub p hp)
    simp only [sumL] at this
    have h3 : 0 < c.2.length := List.length_pos_iff.2 (hc.ids c h1).2
    omega
theorem nameOk_nodup {n : List Tag} (h : nameOk n = true) : n.Nodup := by
  unfold nameOk at h
  simp only [Bool.and_eq_true] at h
  have hk : ∀ i, i < n.length → nameBad n i = false := allN_iff.1 h.1
  have step : ∀ i, i + 1 < n.length → sless (nth n i).1 (nth n (i + 1)).1 = true := fun i hi => by
    have := hk (i + 1) hi
    unfold nameBad at this
    simp only [Nat.zero_lt_succ, decide_true, Bool.true_and, Nat.add_sub_cancel, Bool.or_eq_false_iff, Bool.not_eq_false'] at this
    exact this.2
  have lt : ∀ d i, i + d + 1 < n.length → sless (nth n i).1 (nth n (i + d + 1)).1 = true := by
    intro d
    induction d with
    | zero => intro i hi; exact step i hi
    | succ d ih => intro i hi; exact sless_trans (ih i (by omega)) (step (i + d + 1) (by omega))
  unfold List.Nodup
  rw [List.pairwise_iff_getElem]
  intro i j hi hj hij e
  obtain ⟨d, rfl⟩ : ∃ d, j = i + d + 1 := ⟨j - i - 1, by omega⟩
  have := lt d i hj
  rw [nth_eq n i hi, nth_eq n _ hj, ← e, sless_irr] at this
  cases this
/-- when an index is one -/
theorem w_names {names : List (List Tag)} (hw : Wt.w names ≤ 4194304) : names.length ≤ 4194304 ∧ (∀ n ∈ names, n.length ≤ 4194304 ∧ Wt.w n ≤ 4194304) ∧ sumN names.length (fun i => (nth names i).length) ≤ 4194304 := by
  have e : Wt.w names = names.length + sumN names.length fun i => Wt.w (nth names i) := rfl
  rw [e] at hw
  refine ⟨by omega, fun n hn => ?_, ?_⟩
  · obtain ⟨i, hi, rfl⟩ := List.mem_iff_getElem.1 hn
    have h1 := sumN_get (f := fun i => Wt.w (nth names i)) hi
    simp only [nth_eq names i hi] at h1
    have h2 : names[i].length ≤ Wt.w names[i] := wL_le
    omega
  · have : sumN names.length (fun i => (nth names i).length) ≤ sumN names.length (fun i => Wt.w (nth names i)) := sumN_mono fun i _ => wL_le
    omega
theorem e_Equal_Tag (a b : List Tag) (ha : a.length ≤ 4194304) : p_slices_Equal_Tag_Tag a b = some (decide (a = b)) := by
  unfold p_slices_Equal_Tag_Tag
  by_cases hl : a.length = b.length
  · have hl2 : (a.length : Int) = (b.length : Int) := by omega
    rw [decide_eq_true hl2, Bool.not_true, cond_false]
    refine eq_loop hl (fun k hk => ?_) ?_
    · have hk2 : k < b.length := by omega
      unfold p_slices_Equal_Tag_Tag_b0
      simp only [dlt hk, cond_true, gd.yes (ixN hk), gd.yes (ixN hk2), Int.toNat_natCast, gd.yes (i64S hk (show a.length ≤ 9223372036854775807 by omega))]
      by_cases h : nth a k = nth b k <;> simp [h]
    · unfold p_slices_Equal_Tag_Tag_b0; simp
  · have h2 : ¬ (a.length : Int) = (b.length : Int) := by omega
    have h3 : a ≠ b := fun e => hl (by rw [e])
    simp [h2, h3]
theorem e_Equal_int (a b : List Int) (ha : a.length ≤ maxLen) : p_slices_Equal_int_int a b = some (decide (a = b)) := by
  have ha : a.length ≤ 9223372036854775807 := ha
  unfold p_slices_Equal_int_int
  by_cases hl : a.length = b.length
  · have hl2 : (a.length : Int) = (b.length : Int) := by omega
    rw [decide_eq_true hl2, Bool.not_true, cond_false]
    refine eq_loop hl (fun k hk => ?_) ?_
    · have hk2 : k < b.length := by omega
      unfold p_slices_Equal_int_int_b0
      simp only [dlt hk, cond_true, gd.yes (ixN hk), gd.yes (ixN hk2), Int.toNat_natCast, gd.yes (i64S hk ha)]
      by_cases h : nth a k = nth b k <;> simp [h]
    · unfold p_slices_Equal_int_int_b0; simp
  · have h2 : ¬ (a.length : Int) = (b.length : Int) := by omega
    have h3 : a ≠ b := fun e => hl (by rw [e])
    simp [h2, h3]
theorem e_spec_l11Same (a b : List Int) (ha : a.length ≤ maxLen) : p_spec_l11Same a b = some (decide (a = b)) := by
  have ha : a.length ≤ 9223372036854775807 := ha
  unfold p_spec_l11Same
  by_cases hl : a.length = b.length
  · have hl2 : (a.length : Int) = (b.length : Int) := by omega
    rw [decide_eq_true hl2, Bool.not_true, cond_false]
    refine eq_loop hl (fun k hk => ?_) ?_
    · have hk2 : k < b.length := by omega
      unfold p_spec_l11Same_b0
      simp only [dlt hk, cond_true, gd.yes (ixN hk), gd.yes (ixN hk2), Int.toNat_natCast, gd.yes (i64S hk ha)]
      by_cases h : nth a k = nth b k <;> simp [h]
    · unfold p_spec_l11Same_b0; simp
  · have h2 : ¬ (a.length : Int) = (b.length : Int) := by omega
    have h3 : a ≠ b := fun e => hl (by rw [e])
    simp [h2, h3]
theorem e_spec_l11Less (a b : Tag) : p_spec_l11Less a b = some (ltTag a b) := by
  unfold p_spec_l11Less ltTag
  cases sless a.1 b.1 with
  | true => rfl
  | false => by_cases h : a.1 = b.1 <;> simp [h]
theorem numberOf_none {q : Option (Unit ⊕ Int)} (h : q = some (.inl ())) : (bd (bd q <| sw (fun _ => some (-1 : Int)) fun q => some q) fun r3 => gd (I64 (r3 + 1)) <| some (r3 + 1)) = some 0 := by
  subst h
  have e : (bd (some (.inl ()) : Option (Unit ⊕ Int)) <| sw (fun _ => some (-1 : Int)) fun q => some q) = some (-1) := rfl
  rw [bd.yes e, gd.yes (by unfold I64; omega)]; rfl
theorem numberOf_some {q : Option (Unit ⊕ Int)} {k : Nat} (hk : k ≤ 4194304) (h : q = some (.inr (k : Int))) : (bd (bd q <| sw (fun _ => some (-1 : Int)) fun q => some q) fun r3 => gd (I64 (r3 + 1)) <| some (r3 + 1)) = some ((k : Int) + 1) := by
  subst h
  have e : (bd (some (.inr (k : Int)) : Option (Unit ⊕ Int)) <| sw (fun _ => some (-1 : Int)) fun q => some q) = some (k : Int) := rfl
  rw [bd.yes e, gd.yes (by unfold I64; omega)]
theorem e_numberOf (names : List (List Tag)) (n : List Tag) (h1 : names.length ≤ 4194304) (h2 : ∀ n ∈ names, n.length ≤ 4194304) :
    (∃ k : Nat, k < names.length ∧ nth names k = n ∧ (∀ j, j < k → nth names j ≠ n) ∧ p_impl_numberOf names n = some ((k : Int) + 1)) ∨ ((∀ k, k < names.length → nth names k ≠ n) ∧ p_impl_numberOf names n = some 0) := by
  have hr : ∀ k, k < names.length → p_slices_IndexFunc_Tag_Tag_numberOf_1_b0 names n (k : Int) = some (if decide (nth names k = n) then .inr (.inr (k : Int)) else .inl ((k + 1 : Nat) : Int)) := fun k hk => by
    unfold p_slices_IndexFunc_Tag_Tag_numberOf_1_b0 p_impl_numberOf_1
    rw [dlt hk, cond_true, gd.yes (ixN hk)]
    simp only [Int.toNat_natCast]
    rw [bd.yes (e_Equal_Tag _ n (h2 _ (nth_mem hk))), bd_some, gd.yes (i64S hk (show names.length ≤ 9223372036854775807 by omega)), addI]
    by_cases h : nth names k = n <;> simp [h]
  unfold p_impl_numberOf p_slices_IndexFunc_Tag_Tag_numberOf_1
  rcases lp_scan (body := p_slices_IndexFunc_Tag_Tag_numberOf_1_b0 names n) (fun k => (k : Int)) names.length (fun k => decide (nth names k = n)) (.inl ()) (fun k => .inr (k : Int)) (fun k hk _ h => by rw [hr k hk, h]; rfl) (fun k hk _ h => by rw [hr k hk, if_pos h]) (fun _ => by unfold p_slices_IndexFunc_Tag_Tag_numberOf_1_b0; simp) with ⟨h1, h2⟩ | ⟨h1, k, hk, hb, hn, h2⟩
  · refine .inr ⟨fun k hk => of_decide_eq_false (allN_iff.1 h1 k hk), ?_⟩
    exact numberOf_none h2
  · refine .inl ⟨k, hk, of_decide_eq_true hb, fun j hj => of_decide_eq_false (hn j hj), ?_⟩
    exact numberOf_some (by omega) h2
def nmBad (names : List (List Tag)) (k : Nat) : Bool := !nameOk (nth names k) || !allN k (fun j => decide (nth names j = nth names k))
def namesB (names : List (List Tag)) : Bool := allN names.length (nmBad names) && decide ((names.length : Int) ≤ 6)
theorem e_impl_namesOk (names : List (List Tag)) (hw : Wt.w names ≤ 4194304) : p_impl_namesOk names = some (namesB names) := by
  obtain ⟨h1, h2, _⟩ := w_names hw
  have hr : ∀ k, k < names.length → p_impl_namesOk_b0 names (k : Int) = some (if nmBad names k then .inr (.inr false) else .inl ((k + 1 : Nat) : Int)) := fun k hk => by
    have hl := (h2 _ (nth_mem hk)).1
    unfold p_impl_namesOk_b0 nmBad
    rw [dlt hk, cond_true, gd.yes (ixN hk)]
    simp only [Int.toNat_natCast]
    rw [e_impl_NameOk _ (by unfold maxLen; omega), bd_some]
    cases nameOk (nth names k) with
    | false => rfl
    | true =>
      rw [Bool.not_true, cond_false]
      rcases e_numberOf names (nth names k) h1 (fun n hn => (h2 n hn).1) with ⟨j, hj, e1, e2, e3⟩ | ⟨e2, e3⟩
      · rw [bd.yes e3, gd.yes (by unfold I64; omega), bd_some, gd.yes (by unfold I64; omega), addI]
        by_cases hjk : j = k
        · subst hjk
          have : allN j (fun i => decide (nth names i = nth names j)) = true := allN_iff.2 fun i hi => decide_eq_false (e2 i hi)
          rw [this]; simp
        · have hlt : j < k := by
            rcases Nat.lt_trichotomy j k with h | h | h
            · exact h
            · exact absurd h hjk
            · exact absurd rfl (e2 k h)
          have : allN k (fun i => decide (nth names i = nth names k)) = false := allN_no hlt (decide_eq_true e1)
          rw [this, decide_eq_false (show ¬ (((j + 1 : Nat) : Int) = (k : Int) + 1) by omega)]; simp
      · exact absurd rfl (e2 k hk)
  unfold p_impl_namesOk namesB
  rcases lp_scan (body := p_impl_namesOk_b0 names) (fun k => (k : Int)) names.length (nmBad names) (.inl ()) (fun _ => .inr false) (fun k hk _ h => by rw [hr k hk, h]; rfl) (fun k hk _ h => by rw [hr k hk, h]; rfl) (fun _ => by unfold p_impl_namesOk_b0; simp) with ⟨h1, h2⟩ | ⟨h1, k, _, _, _, h2⟩
  · rw [show (lp (p_impl_namesOk_b0 names) 0) = _ from h2, h1]; simp [sw]
  · rw [show (lp (p_impl_namesOk_b0 names) 0) = _ from h2, h1]; simp [sw]
theorem e_eqPost (p q : Post) (hp : p.2.length ≤ maxLen) : p_impl_IndexOk_1 p q = some (decide (p = q)) := by
  unfold p_impl_IndexOk_1
  by_cases h : p.1 = q.1
  · rw [decide_eq_true h, cond_true, bd.yes (e_Equal_int _ _ hp), bd_some]
    by_cases h2 : p.2 = q.2
    · have : p = q := Prod.ext h h2
      rw [decide_eq_true h2, decide_eq_true this]
    · have : p ≠ q := fun e => h2 (by rw [e])
      rw [decide_eq_false h2, decide_eq_false this]
  · have : p ≠ q := fun e => h (by rw [e])
    rw [decide_eq_false h, cond_false, bd_some, decide_eq_false this]
theorem e_EqualPosts (P Q : List Post) (hP : P.length ≤ maxLen) (hi : ∀ k, k < P.length → (nth P k).2.length ≤ maxLen) : p_slices_EqualFunc_Post_Post_Post_Post_IndexOk_1 P Q = some (decide (P = Q)) := by
  have hP' : P.length ≤ 9223372036854775807 := hP
  unfold p_slices_EqualFunc_Post_Post_Post_Post_IndexOk_1
  by_cases hl : P.length = Q.length
  · have hl2 : (P.length : Int) = (Q.length : Int) := by omega
    rw [decide_eq_true hl2, Bool.not_true, cond_false]
    refine eq_loop hl (fun k hk => ?_) ?_
    · have hk2 : k < Q.length := by omega
      unfold p_slices_EqualFunc_Post_Post_Post_Post_IndexOk_1_b0
      rw [dlt hk, cond_true, gd.yes (ixN hk), gd.yes (ixN hk2)]
      simp only [Int.toNat_natCast]
      rw [bd.yes (e_eqPost _ _ (hi k hk)), gd.yes (i64S hk hP'), addI]
      by_cases h : nth P k = nth Q k <;> simp [h]
    · unfold p_slices_EqualFunc_Post_Post_Post_Post_IndexOk_1_b0; simp
  · have h2 : ¬ (P.length : Int) = (Q.length : Int) := by omega
    have h3 : P ≠ Q := fun e => hl (by rw [e])
    simp [h2, h3]
def indexB (x : Index) : Bool := namesB x.1 && decide (x.2 = (indexP x.1).2)
/-- posts as they may be handed over -/
def postsW (P : List Post) : Prop := P.length ≤ 4194304 ∧ ∀ k, k < P.length → (nth P k).2.length ≤ 4194304
theorem e_impl_IndexOk (x : Index) (hw : Wt.w x.1 ≤ 4194304) (hp : postsW x.2) : p_impl_IndexOk x = some (indexB x) := by
  obtain ⟨h1, h2, h3⟩ := w_names hw
  unfold p_impl_IndexOk indexB
  rw [bd.yes (e_impl_namesOk x.1 hw)]
  cases namesB x.1 with
  | false => rfl
  | true =>
    have hp1 := hp.1
    rw [cond_true, bd.yes (e_indexOf x.1 h1 h3), bd.yes (e_EqualPosts x.2 _ (by unfold maxLen; omega) (fun k hk => by have := hp.2 k hk; unfold maxLen; omega)), Bool.true_and]
/-- the reference's way -/
def locBad (names : List (List Tag)) (P : List Post) (k : Nat) : Bool := decide ((nth P k).2.length = 0) || (!decide ((nth P k).2 = idsN names (nth P k).1 names.length) || (decide (0 < k) && !ltTag (nth P (k - 1)).1 (nth P k).1))
theorem nmBad_ok {names : List (List Tag)} {k : Nat} (h : nmBad names k = false) : nameOk (nth names k) = true := by
  unfold nmBad at h
  simp only [Bool.or_eq_false_iff, Bool.not_eq_false'] at h
  exact h.1
theorem e_spec_names (x : Index) (hw : Wt.w x.1 ≤ 4194304) : lp (p_spec_IndexOk_b0 x) (0, 0) = some (if allN x.1.length (nmBad x.1) then .inl ((sumN x.1.length fun i => (nth x.1 i).length : Nat) : Int) else .inr false) := by
  obtain ⟨h1, h2, h3⟩ := w_names hw
  have inner : ∀ k, k < x.1.length → (∀ i, i < k → nmBad x.1 i = false) → nameOk (nth x.1 k) = true → ∀ s : Int, lp (p_spec_IndexOk_b1 x (s, (k : Int))) 0 = some (if allN k (fun j => decide (nth x.1 j = nth x.1 k)) then .inl () else .inr false) := fun k hk hbs hok s => by
    have hr : ∀ j, j < k → p_spec_IndexOk_b1 x (s, (k : Int)) (j : Int) = some (if decide (nth x.1 j = nth x.1 k) then .inr (.inr false) else .inl ((j + 1 : Nat) : Int)) := fun j hj => by
      have hj2 : j < x.1.length := by omega
      unfold p_spec_IndexOk_b1
      rw [decide_eq_true (show ((j : Int) < (k : Int)) by omega), cond_true]
      simp only [Int.toNat_natCast]
      rw [bd.yes (e_spec_l3Text _ (h2 _ (nth_mem hk)).2), gd.yes (ixN hj2), bd.yes (e_spec_l3Text _ (h2 _ (nth_mem hj2)).2), text_eq hok (nmBad_ok (hbs j hj)), gd.yes (by unfold I64; omega), addI]
      by_cases h : nth x.1 j = nth x.1 k
      · rw [decide_eq_true h, decide_eq_true h.symm]; rfl
      · rw [decide_eq_false h, decide_eq_false (fun e => h e.symm)]; rfl
    rcases lp_scan (body := p_spec_IndexOk_b1 x (s, (k : Int))) (fun j => (j : Int)) k (fun j => decide (nth x.1 j = nth x.1 k)) (.inl ()) (fun _ => .inr false) (fun j hj _ h => by rw [hr j hj, h]; rfl) (fun j hj _ h => by rw [hr j hj, h]; rfl) (fun _ => by unfold p_spec_IndexOk_b1; rw [decide_eq_false (show ¬ ((k : Int) < (k : Int)) by omega)]; rfl) with ⟨h1, h2⟩ | ⟨h1, _, _, _, _, h2⟩
    · rw [show (lp (p_spec_IndexOk_b1 x (s, (k : Int))) 0) = _ from h2, h1]; rfl
    · rw [show (lp (p_spec_IndexOk_b1 x (s, (k : Int))) 0) = _ from h2, h1]; rfl
  have step : ∀ k, k < x.1.length → (∀ i, i < k → nmBad x.1 i = false) → p_spec_IndexOk_b0 x (((sumN k fun i => (nth x.1 i).length : Nat) : Int), (k : Int)) = some (if nmBad x.1 k then .inr (.inr false) else .inl (((sumN (k + 1) fun i => (nth x.1 i).length : Nat) : Int), ((k + 1 : Nat) : Int))) := fun k hk hbs => by
    have hl := (h2 _ (nth_mem hk)).1
    have hs : (sumN k fun i => (nth x.1 i).length) + (nth x.1 k).length ≤ sumN x.1.length fun i => (nth x.1 i).length := sumN_lt (f := fun i => (nth x.1 i).length) hk
    unfold p_spec_IndexOk_b0 nmBad
    rw [dlt hk, cond_true, gd.yes (ixN hk)]
    simp only [Int.toNat_natCast]
    rw [bd.yes (e_spec_NameOk _ (by unfold maxLen; omega))]
    cases hok : nameOk (nth x.1 k) with
    | false => rfl
    | true =>
      rw [Bool.not_true, cond_false, bd.yes (inner k hk hbs hok _)]
      cases allN k (fun j => decide (nth x.1 j = nth x.1 k)) with
      | false => rfl
      | true =>
        show gd (I64 _) (gd (I64 _) (some _)) = _
        rw [gd.yes (by unfold I64; omega), gd.yes (by unfold I64; omega), addI]
        have : ((sumN k fun i => (nth x.1 i).length : Nat) : Int) + ((nth x.1 k).length : Int) = ((sumN (k + 1) fun i => (nth x.1 i).length : Nat) : Int) := by
          show _ = ((((sumN k fun i => (nth x.1 i).length) + (nth x.1 k).length : Nat)) : Int)
          omega
        rw [this]; rfl
  rcases lp_scan (body := p_spec_IndexOk_b0 x) (fun k => (((sumN k fun i => (nth x.1 i).length : Nat) : Int), (k : Int))) x.1.length (nmBad x.1) (.inl ((sumN x.1.length fun i => (nth x.1 i).length : Nat) : Int)) (fun _ => .inr false) (fun k hk hb h => by rw [step k hk hb, h]; rfl) (fun k hk hb h => by rw [step k hk hb, h]; rfl) (fun _ => by unfold p_spec_IndexOk_b0; rw [decide_eq_false (show ¬ ((x.1.length : Int) < (x.1.length : Int)) by omega)]; rfl) with ⟨h1, h2⟩ | ⟨h1, _, _, _, _, h2⟩
  · rw [show (lp (p_spec_IndexOk_b0 x) (0, 0)) = _ from h2, h1]; rfl
  · rw [show (lp (p_spec_IndexOk_b0 x) (0, 0)) = _ from h2, h1]; rfl
theorem e_spec_posts (x : Index) (hw : Wt.w x.1 ≤ 4194304) (hp : postsW x.2) (n0 : Nat) (hn0 : n0 ≤ 4194304) : lp (p_spec_IndexOk_b2 x) ((n0 : Int), 0) = some (if allN x.2.length (locBad x.1 x.2) then .inl ((n0 : Int) - ((sumN x.2.length fun i => (nth x.2 i).2.length : Nat) : Int)) else .inr false) := by
  obtain ⟨h1, h2, h3⟩ := w_names hw
  obtain ⟨p1, p2⟩ := hp
  have hs : ∀ k, k ≤ x.2.length → (sumN k fun i => (nth x.2 i).2.length) ≤ k * 4194304 := by
    intro k
    induction k with
    | zero => intro _; exact Nat.le_refl _
    | succ k ih =>
      intro hk
      have := ih (by omega)
      have h4 := p2 k (by omega)
      show (sumN k fun i => (nth x.2 i).2.length) + (nth x.2 k).2.length ≤ _
      omega
  have step : ∀ k, k < x.2.length → p_spec_IndexOk_b2 x ((n0 : Int) - ((sumN k fun i => (nth x.2 i).2.length : Nat) : Int), (k : Int)) = some (if locBad x.1 x.2 k then .inr (.inr false) else .inl ((n0 : Int) - ((sumN (k + 1) fun i => (nth x.2 i).2.length : Nat) : Int), ((k + 1 : Nat) : Int))) := fun k hk => by
    have hl := p2 k hk
    have hsk := hs k (by omega)
    have hkk : k * 4194304 ≤ 4194304 * 4194304 := Nat.mul_le_mul_right _ (by omega)
    have es : ((n0 : Int) - ((sumN k fun i => (nth x.2 i).2.length : Nat) : Int)) - ((nth x.2 k).2.length : Int) = (n0 : Int) - ((sumN (k + 1) fun i => (nth x.2 i).2.length : Nat) : Int) := by
      show _ = (n0 : Int) - ((((sumN k fun i => (nth x.2 i).2.length) + (nth x.2 k).2.length : Nat)) : Int)
      omega
    have fin : (gd (I64 (((n0 : Int) - ((sumN k fun i => (nth x.2 i).2.length : Nat) : Int)) - ((nth x.2 k).2.length : Int))) <| gd (I64 ((k : Int) + 1)) <| (some (.inl (((n0 : Int) - ((sumN k fun i => (nth x.2 i).2.length : Nat) : Int)) - ((nth x.2 k).2.length : Int), (k : Int) + 1)) : Option ((Int × Int) ⊕ (Int ⊕ Bool)))) = some (.inl ((n0 : Int) - ((sumN (k + 1) fun i => (nth x.2 i).2.length : Nat) : Int), ((k + 1 : Nat) : Int))) := by
      rw [gd.yes (by unfold I64; omega), gd.yes (by unfold I64; omega), es, addI]
    unfold p_spec_IndexOk_b2 locBad
    rw [dlt hk, cond_true, gd.yes (ixN hk)]
    simp only [Int.toNat_natCast]
    by_cases hz : (nth x.2 k).2.length = 0
    · rw [decide_eq_true (show (((nth x.2 k).2.length : Int) = 0) by omega), decide_eq_true hz]; rfl
    · rw [decide_eq_false (show ¬ (((nth x.2 k).2.length : Int) = 0) by omega), decide_eq_false hz, cond_false, bd.yes (e_spec_l11Ids x.1 _ h1 (fun n hn => (h2 n hn).1)), bd.yes (e_spec_l11Same _ _ (by unfold maxLen; omega))]
      by_cases hi : (nth x.2 k).2 = idsN x.1 (nth x.2 k).1 x.1.length
      · rw [decide_eq_true hi, Bool.not_true, cond_false]
        by_cases h0 : 0 < k
        · have e1 : (k : Int) - 1 = ((k - 1 : Nat) : Int) := by omega
          rw [decide_eq_true (show (0 : Int) < (k : Int) by omega), cond_true, gd.yes (by unfold I64; omega), e1, gd.yes (ixN (show k - 1 < x.2.length by omega))]
          simp only [Int.toNat_natCast]
          rw [bd.yes (e_spec_l11Less _ _), decide_eq_true h0]
          cases ltTag (nth x.2 (k - 1)).1 (nth x.2 k).1 with
          | false => rfl
          | true => exact fin
        · rw [decide_eq_false (show ¬ (0 : Int) < (k : Int) by omega), cond_false, decide_eq_false h0]
          exact fin
      · rw [decide_eq_false hi]; rfl
  have e0 : ((n0 : Int), (0 : Int)) = ((n0 : Int) - ((sumN 0 fun i => (nth x.2 i).2.length : Nat) : Int), ((0 : Nat) : Int)) := by
    show _ = ((n0 : Int) - ((0 : Nat) : Int), ((0 : Nat) : Int)); simp
  rcases lp_scan (body := p_spec_IndexOk_b2 x) (fun k => ((n0 : Int) - ((sumN k fun i => (nth x.2 i).2.length : Nat) : Int), (k : Int))) x.2.length (locBad x.1 x.2) (.inl ((n0 : Int) - ((sumN x.2.length fun i => (nth x.2 i).2.length : Nat) : Int))) (fun _ => .inr false) (fun k hk hb h => by rw [step k hk, h]; rfl) (fun k hk hb h => by rw [step k hk, h]; rfl) (fun _ => by unfold p_spec_IndexOk_b2; rw [decide_eq_false (show ¬ ((x.2.length : Int) < (x.2.length : Int)) by omega)]; rfl) with ⟨h1, h2⟩ | ⟨h1, _, _, _, _, h2⟩
  · rw [e0, h2, h1]; rfl
  · rw [e0, h2, h1]; rfl
theorem sumL_N (P : List Post) : sumL P = sumN P.length fun i => (nth P i).2.length := by
  have : ∀ m, m ≤ P.length → sumL (P.take m) = sumN m fun i => (nth P i).2.length := by
    intro m
    induction m with
    | zero => intro _; rfl
    | succ m ih =>
      intro hm
      rw [take_succ_nth (by omega), sumL_append, ih (by omega)]
      show _ + ((nth P m).2.length + 0) = _
      rfl
  have h := this P.length (Nat.le_refl _)
  rwa [List.take_length] at h
theorem names_dist {names : List (List Tag)} (h : allN names.length (nmBad names) = true) : dist names := fun n hn => by
  obtain ⟨i, hi, rfl⟩ := List.mem_iff_getElem.1 hn
  rw [← nth_eq names i hi]
  exact nameOk_nodup (nmBad_ok (allN_iff.1 h i hi))
theorem e_spec_IndexOk (x : Index) (hw : Wt.w x.1 ≤ 4194304) (hp : postsW x.2) : p_spec_IndexOk x = some (indexB x) := by
  obtain ⟨h1, h2, h3⟩ := w_names hw
  unfold p_spec_IndexOk indexB namesB
  by_cases h6 : 6 < x.1.length
  · rw [decide_eq_true (show (6 : Int) < (x.1.length : Int) by omega), cond_true, decide_eq_false (show ¬ ((x.1.length : Int) ≤ 6) by omega), Bool.and_false, Bool.false_and]
  · rw [decide_eq_false (show ¬ (6 : Int) < (x.1.length : Int) by omega), cond_false, decide_eq_true (show ((x.1.length : Int) ≤ 6) by omega), Bool.and_true, bd.yes (e_spec_names x hw)]
    cases hall : allN x.1.length (nmBad x.1) with
    | false => rfl
    | true =>
      have hd := names_dist hall
      have hC := canon_posts hd
      show bd (lp (p_spec_IndexOk_b2 x) ((sumN x.1.length fun i => (nth x.1 i).length : Nat), 0)) _ = _
      rw [bd.yes (e_spec_posts x hw hp _ h3), Bool.true_and]
      have hsC : sumL (indexP x.1).2 = sumN x.1.length fun i => (nth x.1 i).length := by
        rw [← sumL_posts]
        exact sumL_perm (List.mergeSort_perm _ _)
      have hsP := sumL_N x.2
      cases hloc : allN x.2.length (locBad x.1 x.2) with
      | false =>
        have hne : x.2 ≠ (indexP x.1).2 := fun e => by
          have : allN x.2.length (locBad x.1 x.2) = true := allN_iff.2 fun k hk => by
            have hm : nth x.2 k ∈ (indexP x.1).2 := e ▸ nth_mem hk
            obtain ⟨i1, i2⟩ := hC.ids _ hm
            unfold locBad
            rw [decide_eq_false (fun h0 => i2 (List.eq_nil_of_length_eq_zero h0)), decide_eq_true i1]
            by_cases h0 : 0 < k
            · have ho := hC.ord
              rw [← e, List.pairwise_iff_getElem] at ho
              have := ho (k - 1) k (by omega) hk (by omega)
              rw [← nth_eq x.2 (k - 1) (by omega), ← nth_eq x.2 k hk] at this
              rw [this]; simp
            · rw [decide_eq_false h0]; rfl
          rw [hloc] at this; cases this
        rw [decide_eq_false hne]; rfl
      | true =>
        have hk := allN_iff.1 hloc
        have adj : ∀ i, i + 1 < x.2.length → ltTag (nth x.2 i).1 (nth x.2 (i + 1)).1 = true := fun i hi => by
          have := hk (i + 1) hi
          unfold locBad at this
          simp only [Nat.zero_lt_succ, decide_true, Bool.true_and, Nat.add_sub_cancel, Bool.or_eq_false_iff, Bool.not_eq_false'] at this
          exact this.2.2
        have lt : ∀ d i, i + d + 1 < x.2.length → ltTag (nth x.2 i).1 (nth x.2 (i + d + 1)).1 = true := by
          intro d
          induction d with
          | zero => intro i hi; exact adj i hi
          | succ d ih => intro i hi; exact ltTag_trans (ih i (by omega)) (adj (i + d + 1) (by omega))
        have ord : x.2.Pairwise fun a b => ltTag a.1 b.1 = true := by
          rw [List.pairwise_iff_getElem]
          intro i j hi hj hij
          obtain ⟨d, rfl⟩ : ∃ d, j = i + d + 1 := ⟨j - i - 1, by omega⟩
          have := lt d i hj
          rwa [nth_eq x.2 i hi, nth_eq x.2 _ hj] at this
        have ids : ∀ p ∈ x.2, p.2 = idsN x.1 p.1 x.1.length ∧ p.2 ≠ [] := fun p hp' => by
          obtain ⟨i, hi, rfl⟩ := List.mem_iff_getElem.1 hp'
          have := hk i hi
          unfold locBad at this
          simp only [Bool.or_eq_false_iff, decide_eq_false_iff_not, Bool.not_eq_false', decide_eq_true_eq] at this
          rw [nth_eq x.2 i hi] at this
          exact ⟨this.2.1, fun e => this.1 (by rw [e]; rfl)⟩
        show some (decide (((sumN x.1.length fun i => (nth x.1 i).length : Nat) : Int) - ((sumN x.2.length fun i => (nth x.2 i).2.length : Nat) : Int) = 0)) = _
        by_cases hE : x.2 = (indexP x.1).2
        · have : sumL x.2 = sumL (indexP x.1).2 := by rw [← hE]
          rw [decide_eq_true hE, decide_eq_true (by omega)]
        · have hne : sumL x.2 ≠ sumL (indexP x.1).2 := fun e => hE (canon_of_sum hC ord ids e)
          rw [decide_eq_false hE, decide_eq_false (by omega)]
theorem w_index {x : Index} (hw : Wt.w x ≤ 1048576) : Wt.w x.1 ≤ 4194304 ∧ postsW x.2 := by
  have e : Wt.w x = Wt.w x.1 + Wt.w x.2 := rfl
  have e2 : Wt.w x.2 = x.2.length + sumN x.2.length fun i => Wt.w (nth x.2 i) := rfl
  refine ⟨by omega, by omega, fun k hk => ?_⟩
  have h1 := sumN_get (f := fun i => Wt.w (nth x.2 i)) hk
  have h2 : Wt.w (nth x.2 k) = Wt.w (nth x.2 k).1 + Wt.w (nth x.2 k).2 := rfl
  have h3 : (nth x.2 k).2.length ≤ Wt.w (nth x.2 k).2 := wL_le
  have h4 : Wt.w (nth x.2 k) ≤ sumN x.2.length fun i => Wt.w (nth x.2 i) := h1
  omega
theorem okI {l : List Int} (h : l.length ≤ 4194304) : Dp.ok l := ⟨by unfold maxLen; omega, fun _ _ => trivial⟩
theorem wtI (l : List Int) : Wt.w l = l.length := by
  show l.length + sumN l.length (fun i => Wt.w (nth l i)) = _
  rw [sumN_zero (f := fun i => Wt.w (nth l i)) fun i _ => rfl]; rfl
/-- the postings of one tag -/
theorem idsAt_canon {names : List (List Tag)} {C : List Post} (h : Canon names C) (t : Tag) : idsAt C t = idsN names t names.length := by
  have hn : (C.map (·.1)).Nodup := by
    unfold List.Nodup
    rw [List.pairwise_map]
    exact h.ord.imp fun {a b} k e => by rw [e, ltTag_irr] at k; cases k
  by_cases e : idsN names t names.length = []
  · by_cases e2 : idsAt C t = []
    · rw [e, e2]
    · obtain ⟨p, hp, rfl⟩ := idsAt_some e2
      obtain ⟨i1, i2⟩ := h.ids p hp
      exact absurd (i1.trans e) i2
  · obtain ⟨p, hp, rfl⟩ := h.all t e
    rw [idsAt_mem hn hp, (h.ids p hp).1]
theorem canon_nodup {names : List (List Tag)} {C : List Post} (h : Canon names C) : (C.map (·.1)).Nodup := by
  unfold List.Nodup
  rw [List.pairwise_map]
  exact h.ord.imp fun {a b} k e => by rw [e, ltTag_irr] at k; cases k
theorem idsAt_snoc {P : List Post} {p : Post} (t : Tag) (h : ((P ++ [p]).map (·.1)).Nodup) : idsAt (P ++ [p]) t = if p.1 = t then idsAt P t ++ p.2 else idsAt P t := by
  induction P with
  | nil => simp [idsAt]
  | cons q P ih =>
    rw [List.cons_append, List.map_cons, List.nodup_cons] at h
    by_cases e : q.1 = t
    · have hne : ¬ p.1 = t := fun e2 => h.1 (by rw [e, ← e2]; exact List.mem_map_of_mem (by simp))
      simp [idsAt, e, hne]
    · simp only [List.cons_append, idsAt, if_neg e, ih h.2]
theorem take_nodup {P : List Post} (h : (P.map (·.1)).Nodup) (k : Nat) : ((P.take k).map (·.1)).Nodup := by
  rw [List.map_take]
  exact h.sublist (List.take_sublist k _)
theorem idsAt_len {P : List Post} {c : Nat} (h : ∀ p ∈ P, p.2.length ≤ c) (t : Tag) : (idsAt P t).length ≤ c := by
  induction P with
  | nil => exact Nat.zero_le _
  | cons q P ih =>
    unfold idsAt
    split
    · exact h q (List.mem_cons_self ..)
    · exact ih fun p hp => h p (List.mem_cons_of_mem _ hp)
theorem postsW_mem {P : List Post} (h : postsW P) : ∀ p ∈ P, p.2.length ≤ 4194304 := fun p hp => by
  obtain ⟨i, hi, rfl⟩ := List.mem_iff_getElem.1 hp
  rw [← nth_eq P i hi]
  exact h.2 i hi
theorem e_postLoop (x : Index) (t : Tag) (hp : postsW x.2) (hn : (x.2.map (·.1)).Nodup) : lp (p_impl_IndexPost_b0 x t) (([] : List Int), 0) = some (idsAt x.2 t) := by
  have hm := postsW_mem hp
  have hp1 := hp.1
  rw [show (([] : List Int), (0 : Int)) = (idsAt (x.2.take 0) t, ((0 : Nat) : Int)) from rfl, lp_for (fun k => (idsAt (x.2.take k) t, (k : Int))) x.2.length (idsAt x.2 t) (fun k hk => by
    have hl := hm _ (nth_mem hk)
    have hi := idsAt_len (P := x.2.take k) (fun p hp => hm p (List.mem_of_mem_take hp)) t
    have hs := idsAt_snoc (P := x.2.take k) (p := nth x.2 k) t (by rw [← take_succ_nth hk]; exact take_nodup hn _)
    unfold p_impl_IndexPost_b0
    rw [dlt hk, cond_true, gd.yes (ixN hk)]
    simp only [Int.toNat_natCast]
    rw [take_succ_nth hk, hs]
    by_cases e : (nth x.2 k).1 = t
    · rw [decide_eq_true e, cond_true, if_pos e, gd.yes (by unfold room; omega), gd.yes (by unfold I64; omega), addI]
    · rw [decide_eq_false e, cond_false, if_neg e, gd.yes (by unfold I64; omega), addI]) (by
    unfold p_impl_IndexPost_b0; rw [decide_eq_false (show ¬ ((x.2.length : Int) < (x.2.length : Int)) by omega), List.take_length]; rfl)]
def postP (x : Index) (t : Tag) : List Int := if indexB x then idsN x.1 t x.1.length else []
theorem indexB_canon {x : Index} (h : indexB x = true) : Canon x.1 x.2 ∧ allN x.1.length (nmBad x.1) = true ∧ x.1.length ≤ 6 ∧ x.2 = (indexP x.1).2 := by
  unfold indexB namesB at h
  simp only [Bool.and_eq_true, decide_eq_true_eq] at h
  obtain ⟨⟨h1, h2⟩, h3⟩ := h
  exact ⟨by rw [h3]; exact canon_posts (names_dist h1), h1, by omega, h3⟩
theorem e_impl_IndexPost (x : Index) (t : Tag) (hw : Wt.w x.1 ≤ 4194304) (hp : postsW x.2) : p_impl_IndexPost x t = some (postP x t) := by
  unfold p_impl_IndexPost postP
  rw [bd.yes (e_impl_IndexOk x hw hp)]
  cases h : indexB x with
  | false => rfl
  | true =>
    have hC := (indexB_canon h).1
    rw [cond_true, bd.yes (e_postLoop x t hp (canon_nodup hC)), idsAt_canon hC]; rfl
theorem e_spec_IndexPost (x : Index) (t : Tag) (hw : Wt.w x.1 ≤ 4194304) (hp : postsW x.2) : p_spec_IndexPost x t = some (postP x t) := by
  obtain ⟨h1, h2, h3⟩ := w_names hw
  unfold p_spec_IndexPost postP
  rw [bd.yes (e_spec_IndexOk x hw hp)]
  cases h : indexB x with
  | false => rfl
  | true =>
    rw [Bool.not_true, cond_false, bd.yes (e_spec_l11Ids x.1 t h1 (fun n hn => (h2 n hn).1))]; rfl
theorem postP_len (x : Index) (t : Tag) : (postP x t).length ≤ 6 := by
  unfold postP
  split
  next h => exact Nat.le_trans (idsN_len _ _ _) (indexB_canon h).2.2.1
  next => exact Nat.zero_le _
theorem e_FnExactIndexPost (x : Index) (t : Tag) (ok : Dp.ok x) (okt : Dp.ok t) (so : So.so x) (sot : So.so t) : p_laws_FnExactIndexPost x t = some true := by
  unfold p_laws_FnExactIndexPost
  rw [s_Index x 1048576 (by omega) (by omega) ok so, bd_some]
  by_cases hc : cut 1048576 (Wt.w x) < 0
  · simp [hc]
  · have hw := cut_w hc (by omega)
    obtain ⟨w1, w2⟩ := w_index hw
    rw [decide_eq_false hc, cond_false, s_Tag t (cut 1048576 (Wt.w x)) (cut_nn hc) (cut_rng (by omega)) okt sot, bd_some]
    by_cases hd : cut (cut 1048576 (Wt.w x)) (Wt.w t) < 0
    · simp [hd]
    · have hwt := cut_w hd (cut_rng (by omega))
      rw [decide_eq_false hd, cond_false, bd.yes (t_Index x ok hw), bd.yes (t_Tag t okt hwt), bd.yes (e_spec_IndexPost x t w1 w2), bd.yes (e_impl_IndexPost x t w1 w2)]
      have hl := postP_len x t
      generalize postP x t = r at hl
      have okr : Dp.ok r := okI (by omega)
      have hwr := wtI r
      have c1 := Ct.le x
      have c2 := Ct.le r
      have n1 : Ct.m Index = 5 := rfl
      have n2 : Ct.m (List Int) = 1 := rfl
      rw [n1] at c1
      rw [n2] at c2
      obtain ⟨k1, r1, e1, l1, u1⟩ := m_Index x 1 (by omega) (by omega) ok
      obtain ⟨k2, r2, e2, l2, u2, f2⟩ := m_IntS r 1 (by omega) (by omega) okr
      have h1 : ¬ k1 < 0 := by omega
      have h2 : ¬ k2 < 0 := by omega
      simp [q_IntS r r okr okr, q_Index x x ok ok, e1, e2, f2, h1, h2]
end Go.Proofs.Ytichamokohjneaa
