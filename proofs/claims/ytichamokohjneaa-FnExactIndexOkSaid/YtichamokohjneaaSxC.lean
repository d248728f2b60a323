/- A logic for the walks of this seat, part 3: what is said of memory, and how each operation keeps it. My own work. -/
import Derived.Test.YtichamokohjneaaSxB
namespace Go.Sx
open Go Go.RowKit
/-! elements with slices of their own, as plain cells and what hangs on them -/
/-- a contract, called: what it reads is lent, own parts are handed over and got -/
theorem Fn.call {P : Program} {c : Ctx} {fs : List Fact} {os os' : List Own} {ι : Type} {f : FuncId} {args : Array Value} {fsC : List Fact} {osC : List Own} {rv : ι → Value} {osR : ι → List Own}
    (hc : Fn P f args fsC osC rv (fun _ => []) osR) (hsoC : Solo osC) (hsolo : ∀ i, Solo (osR i)) (ht : Take os osC os') (he : EntsB fs os' fsC) {w : World} (hw : Sta c fs os w) :
    Calls P f args w fun e w' => ∃ i, e = .returned (rv i) ∧ Sta c fs (osR i ++ os') w' := by
  obtain ⟨I, S, hst⟩ := hw
  obtain ⟨S1, S2, m1, m2, dj, h1, h2⟩ := ht.sep hst.own
  refine (hc w (fun b => I b ∨ S2 b) S1 ⟨fun f hf => he f hf w I S2 hst.facts h2, hsoC.sep h1, fun b hi hs => hi.elim (fun hi => hst.dj b hi (m1 b hs)) (fun h => dj b hs h), fun b hb => hb.elim (hst.ilt b) (fun h => hst.slt b (m2 b h)), fun b hb => hst.slt b (m1 b hb), fun _ => .inl, fun _ => .inl, fun _ h => h, Frm.refl _ _⟩).mono ?_
  rintro e w' ⟨i, rfl, I', S', h'⟩
  refine ⟨i, rfl, I, fun b => S' b ∨ S2 b, ?_⟩
  have hsame : ∀ b, b < w.heap.size → ¬ S1 b → w'.heap[b]? = w.heap[b]? := fun b hb hn => h'.frm.block b hb hn
  have hsz := h'.frm.size
  have hI : Same I w w' := fun b hb => hsame b (hst.ilt b hb) fun h => hst.dj b hb (m1 b h)
  have hS2 : Same S2 w w' := fun b hb => hsame b (hst.slt b (m2 b hb)) fun h => dj b h hb
  have hS'2 : ∀ b, S' b → S2 b → False := fun b h1 h2 => (h'.snew b h1).elim (fun h => dj b h h2) (fun h => by simp only at h; have := hst.slt b (m2 b h2); omega)
  refine ⟨fun f hf => f.keep (hst.facts f hf) hI (fun _ h => h), Sep.append hS'2 ((hsolo i).sep h'.own) (h2.keep hI hS2 (fun _ h => h) (fun _ h => h)), fun b hi hb => ?_, fun b hb => Nat.lt_of_lt_of_le (hst.ilt b hb) hsz, fun b hb => ?_, hst.inew, fun b hb => ?_, hst.i0,
    ⟨h'.frm.os.trans hst.frm.os, h'.frm.tape.trans hst.frm.tape, h'.frm.output.trans hst.frm.output, Nat.le_trans hst.frm.size hsz, fun b hb hx => (hsame b (Nat.lt_of_lt_of_le hb hst.frm.size) fun h => ?_).trans (hst.frm.block b hb hx)⟩⟩
  · rcases hb with hb | hb
    · rcases h'.snew b hb with h | h
      · exact hst.dj b hi (m1 b h)
      · simp only at h; have := hst.ilt b hi; omega
    · exact hst.dj b hi (m2 b hb)
  · rcases hb with hb | hb
    · exact h'.slt b hb
    · exact Nat.lt_of_lt_of_le (hst.slt b (m2 b hb)) hsz
  · rcases hb with hb | hb
    · rcases h'.snew b hb with h | h
      · exact hst.snew b (m1 b h)
      · exact .inr (Nat.le_trans hst.frm.size h)
    · exact hst.snew b (m2 b hb)
  · rcases hst.snew b (m1 b h) with h | h
    · exact hx h
    · omega
/-- parts, one for each element of a list -/
theorem Sep.ofList {τ : Type} {w : World} {I : Blks} : ∀ (q : List τ) (f : τ → Own) (Ss : Nat → Blks), (∀ i j, i < j → j < q.length → ∀ b, Ss i b → Ss j b → False) → (∀ i (h : i < q.length), (f q[i]).ok w I (Ss i)) → Sep (q.map f) w I (fun b => ∃ i, i < q.length ∧ Ss i b)
  | [], _, _, _, _ => trivial
  | x :: q, f, Ss, hd, h => ⟨Ss 0, fun b => ∃ i, i < q.length ∧ Ss (i + 1) b, fun b hb => ⟨0, Nat.succ_pos _, hb⟩, fun b ⟨i, hi, hb⟩ => ⟨i + 1, Nat.succ_lt_succ hi, hb⟩,
      fun b h0 ⟨i, hi, hb⟩ => hd 0 (i + 1) (Nat.succ_pos _) (Nat.succ_lt_succ hi) b h0 hb, h 0 (Nat.succ_pos _),
      Sep.ofList q f (fun i => Ss (i + 1)) (fun i j hij hj => hd (i + 1) (j + 1) (Nat.succ_lt_succ hij) (Nat.succ_lt_succ hj)) (fun i hi => h (i + 1) (Nat.succ_lt_succ hi))⟩
theorem Sep.toList {τ : Type} {w : World} {I : Blks} : ∀ (q : List τ) (f : τ → Own) {S : Blks}, Sep (q.map f) w I S → ∃ Ss : Nat → Blks, (∀ i, i < q.length → ∀ b, Ss i b → S b) ∧ (∀ i j, i < j → j < q.length → ∀ b, Ss i b → Ss j b → False) ∧ ∀ i (h : i < q.length), (f q[i]).ok w I (Ss i)
  | [], _, _, _ => ⟨fun _ _ => False, fun _ h => absurd h (Nat.not_lt_zero _), fun _ _ _ h => absurd h (Nat.not_lt_zero _), fun _ h => absurd h (Nat.not_lt_zero _)⟩
  | x :: q, f, S, ⟨A, B, mA, mB, dj, hx, hr⟩ => by
    obtain ⟨Ss, k1, k2, k3⟩ := Sep.toList q f hr
    refine ⟨fun i => match i with | 0 => A | i + 1 => Ss i, fun i hi b hb => ?_, fun i j hij hj b h1 h2 => ?_, fun i hi => ?_⟩
    · cases i with
      | zero => exact mA b hb
      | succ i => exact mB b (k1 i (Nat.lt_of_succ_lt_succ hi) b hb)
    · cases j with
      | zero => omega
      | succ j =>
        cases i with
        | zero => exact dj b h1 (k1 j (Nat.lt_of_succ_lt_succ hj) b h2)
        | succ i => exact k2 i j (by omega) (Nat.lt_of_succ_lt_succ hj) b h1 h2
    · cases i with
      | zero => exact hx
      | succ i => exact k3 i (Nat.lt_of_succ_lt_succ hi)
variable {α γ : Type} [Flat α] [Enc γ] {c : Ctx} {fs : List Fact} {os os1 : List Own} {w : World}
/-- the elements with their slices' cells -/
abbrev stR (q : List ((α × List γ) × HV)) : List (α × HV) := q.map fun p => (p.1.1, p.2)
abbrev stO (q : List ((α × List γ) × HV)) : List Own := q.map fun p => tree p.2.1 p.1.2
abbrev stL (q : List ((α × List γ) × HV)) : List (α × List γ) := q.map fun p => p.1
theorem Sta.unnest {v : Value} {l : List (α × List γ)} (h : Sta c fs os w) (ht : Take os [tree v l] os1) : ∃ q : List ((α × List γ) × HV), stL q = l ∧ Sta c fs (tree v (stR q) :: (stO q ++ os1)) w := by
  obtain ⟨I, S, hst⟩ := h
  obtain ⟨S1, S2, m1, m2, dj, ho, hr⟩ := ht.sep hst.own
  obtain ⟨A, B, mA, mB, _, hv, _⟩ := ho
  rcases hv with ⟨e1, e2⟩ | ⟨g, cap, cur, ty, e, hg, hh, h1, h2, h3, Ss, k1, k2, k3⟩
  · subst e2
    refine ⟨[], rfl, I, S, hst.facts, ?_, hst.dj, hst.ilt, hst.slt, hst.inew, hst.snew, hst.i0, hst.frm⟩
    exact ⟨fun _ => False, S2, fun _ h => h.elim, m2, fun _ h _ => h, .inl ⟨e1, rfl⟩, hr⟩
  · have pc : ∀ i (hi : i < l.length), ∃ (h : HV) (S0 : Blks), (cur.toList.drop (i * Enc.sz (α × List γ))).take (Enc.sz (α × List γ)) = Flat.enc (l[i].1, h) ∧ Flat.wf l[i].1 ∧ (∀ b, S0 b → Ss i b) ∧ TrL w S0 h.1 l[i].2 := fun i hi => by
      obtain ⟨c1, c2, T1, T2, ec, n1, n2, _, t1, ⟨u, rfl, t2⟩⟩ := k3 i hi
      obtain ⟨rfl, wf⟩ := Flat.rd (Enc.tr_rd t1)
      have h1 : u.oneCell' = true := by
        rcases t2 with ⟨rfl, _⟩ | ⟨_, _, _, _, rfl, _⟩ <;> rfl
      exact ⟨⟨u, h1⟩, T2, ec, wf, n2, t2⟩
    have pc' : ∀ i, ∃ (h : HV) (S0 : Blks), ∀ (hi : i < l.length), (cur.toList.drop (i * Enc.sz (α × List γ))).take (Enc.sz (α × List γ)) = Flat.enc (l[i].1, h) ∧ Flat.wf l[i].1 ∧ (∀ b, S0 b → Ss i b) ∧ TrL w S0 h.1 l[i].2 := fun i => by
      by_cases hi : i < l.length
      · obtain ⟨h, S0, k⟩ := pc i hi
        exact ⟨h, S0, fun _ => k⟩
      · exact ⟨default, fun _ => False, fun h => absurd h hi⟩
    obtain ⟨X, hX⟩ := Classical.axiomOfChoice pc'
    obtain ⟨T, hT⟩ := Classical.axiomOfChoice hX
    have eL : stL ((List.range l.length).attach.map fun i => ((l[i.1]'(List.mem_range.1 i.2), X i.1) : (α × List γ) × HV)) = l := by
      apply List.ext_getElem
      · simp
      · intro i h1 h2; simp
    refine ⟨(List.range l.length).attach.map fun i => (l[i.1]'(List.mem_range.1 i.2), X i.1), eL, I, S, hst.facts, ?_, hst.dj, hst.ilt, hst.slt, hst.inew, hst.snew, hst.i0, hst.frm⟩
    have len : ((List.range l.length).attach.map fun i => ((l[i.1]'(List.mem_range.1 i.2), X i.1) : (α × List γ) × HV)).length = l.length := by simp
    have get : ∀ i (hi : i < l.length), ((List.range l.length).attach.map fun i => ((l[i.1]'(List.mem_range.1 i.2), X i.1) : (α × List γ) × HV))[i]'(by rw [len]; exact hi) = (l[i], X i) := fun i hi => by simp
    generalize ((List.range l.length).attach.map fun i => ((l[i.1]'(List.mem_range.1 i.2), X i.1) : (α × List γ) × HV)) = q at *
    refine ⟨fun b => b = g, fun b => (∃ i, i < q.length ∧ T i b) ∨ S2 b, fun b e => e ▸ m1 g (mA g hg), fun b hb => hb.elim (fun ⟨i, hi, hb⟩ => m1 b (mA b (k1 i (by omega) b ((hT i (by omega)).2.2.1 b hb)).1)) (m2 b), fun b e hb => ?_, ?_, ?_⟩
    · subst e
      rcases hb with ⟨i, hi, hb⟩ | hb
      · exact (k1 i (by omega) b ((hT i (by omega)).2.2.1 b hb)).2 rfl
      · exact dj b (mA b hg) hb
    · refine .inr ⟨g, cap, cur, ty, by rw [e, List.length_map, len], rfl, hh, by rw [List.length_map, len]; exact h1, h2, h3, fun _ _ => False, fun _ _ _ h => h.elim, fun _ _ _ _ _ h => h.elim, fun i hi => ?_⟩
      have hi' : i < l.length := by rw [List.length_map, len] at hi; exact hi
      obtain ⟨p1, p2, _, _⟩ := hT i hi'
      have : (stR q)[i] = (l[i].1, X i) := by rw [List.getElem_map, get i hi']
      rw [this]
      show Enc.Tr w _ ((cur.toList.drop (i * Enc.sz (α × List γ))).take (Enc.sz (α × List γ))) _
      rw [p1]
      exact Flat.tr ⟨p2, trivial⟩
    · refine Sep.append (fun b h1 h2 => ?_) (Sep.ofList q _ T (fun i j hij hj b h1 h2 => k2 i j hij (by omega) b ((hT i (by omega)).2.2.1 b h1) ((hT j (by omega)).2.2.1 b h2)) (fun i hi => ?_)) hr
      · obtain ⟨i, hi, hb⟩ := h1
        exact dj b (mA b (k1 i (by omega) b ((hT i (by omega)).2.2.1 b hb)).1) h2
      · have hi' : i < l.length := by omega
        rw [get i hi']
        exact (hT i hi').2.2.2
theorem Sta.nest {v : Value} {q : List ((α × List γ) × HV)} (h : Sta c fs (tree v (stR q) :: (stO q ++ os1)) w) : Sta c fs (tree v (stL q) :: os1) w := by
  obtain ⟨I, S, hst⟩ := h
  obtain ⟨A, B, mA, mB, dj, hv, hr⟩ := hst.own
  obtain ⟨C, D, mC, mD, dj2, h1, h2⟩ := Sep.split hr
  obtain ⟨Ss, k1, k2, k3⟩ := Sep.toList q _ h1
  refine ⟨I, S, hst.facts, ⟨fun b => A b ∨ C b, D, fun b h => h.elim (mA b) (fun h => mB b (mC b h)), fun b h => mB b (mD b h), fun b h1 h2 => h1.elim (fun h => dj b h (mD b h2)) (fun h => dj2 b h h2), ?_, h2⟩, hst.dj, hst.ilt, hst.slt, hst.inew, hst.snew, hst.i0, hst.frm⟩
  rcases hv with ⟨e1, e2⟩ | ⟨g, cap, cur, ty, e, hg, hh, n1, n2, n3, Ts, t1, t2, t3⟩
  · refine .inl ⟨e1, ?_⟩
    have : q = [] := List.map_eq_nil_iff.1 e2
    subst this; rfl
  · have len : (stR q).length = q.length := List.length_map ..
    have lenL : (stL q).length = q.length := List.length_map ..
    refine .inr ⟨g, cap, cur, ty, by rw [e, len, lenL], .inl hg, hh, by rw [lenL, ← len]; exact n1, n2, n3, Ss, fun i hi b hb => ⟨.inr (k1 i (by omega) b hb), fun eb => dj g hg (mC g (eb ▸ k1 i (by omega) b hb))⟩, fun i j hij hj => k2 i j hij (by omega), fun i hi => ?_⟩
    have hi' : i < q.length := by omega
    have ht := t3 i (by omega)
    obtain ⟨c1, c2, T1, T2, ec, _, _, _, f1, f2⟩ := ht
    obtain ⟨rfl, wf⟩ := Flat.rd (Enc.tr_rd f1)
    have f2 : c2 = [((stR q)[i]).2.1] := f2
    subst f2
    have e1 : (stR q)[i] = (q[i].1.1, q[i].2) := by rw [List.getElem_map]
    have e2 : (stL q)[i] = q[i].1 := by rw [List.getElem_map]
    rw [e1] at ec wf
    rw [e2]
    refine ⟨_, _, fun _ => False, Ss i, ec, fun _ h => h.elim, fun _ h => h, fun _ h _ => h, Flat.tr wf, ⟨_, rfl, k3 i hi'⟩⟩
theorem perm_map_inv {τ υ : Type} {f : τ → υ} {a b : List υ} (h : a.Perm b) : ∀ {q : List τ}, b = q.map f → ∃ q' : List τ, q'.Perm q ∧ q'.map f = a := by
  induction h with
  | nil => intro q hq; exact ⟨[], (by cases q with
    | nil => exact List.Perm.refl _
    | cons => cases hq), rfl⟩
  | cons x h ih =>
    intro q hq
    cases q with
    | nil => cases hq
    | cons y q =>
      simp only [List.map_cons, List.cons.injEq] at hq
      obtain ⟨q', h1, h2⟩ := ih hq.2
      exact ⟨y :: q', h1.cons y, by rw [List.map_cons, h2, ← hq.1]⟩
  | swap x y l =>
    intro q hq
    cases q with
    | nil => cases hq
    | cons u q =>
      cases q with
      | nil => simp at hq
      | cons z q =>
        simp only [List.map_cons, List.cons.injEq] at hq
        exact ⟨z :: u :: q, List.Perm.swap _ _ _, by simp only [List.map_cons, ← hq.1, ← hq.2.1, ← hq.2.2]⟩
  | trans h1 h2 ih1 ih2 =>
    intro q hq
    obtain ⟨q1, p1, e1⟩ := ih2 hq
    obtain ⟨q2, p2, e2⟩ := ih1 e1.symm
    exact ⟨q2, p2.trans p1, e2⟩
/-! posts in the order of their tags -/
def leP {β : Type} (x y : (ByteArray × ByteArray) × β) : Bool := !ltTag y.1 x.1
/-- sorted, if no tag stands twice -/
def sortP {β : Type} (l : List ((ByteArray × ByteArray) × β)) : Option (List ((ByteArray × ByteArray) × β)) := gd (room l.length) <| gd ((l.map (·.1)).Nodup) <| some (l.mergeSort leP)
theorem sortP_one {β : Type} {l r : List ((ByteArray × ByteArray) × β)} (hn : (l.map (·.1)).Nodup) (hp : r.Perm l) (hs : r.Pairwise fun x y => ltTag y.1 x.1 = false) : r = l.mergeSort leP := by
  have hp2 : r.Perm (l.mergeSort leP) := hp.trans (List.mergeSort_perm _ _).symm
  have hs2 : (l.mergeSort leP).Pairwise fun x y => leP x y = true := List.pairwise_mergeSort (fun a b c h1 h2 => by
    simp only [leP, Bool.not_eq_true'] at *; exact ltTag_nt h2 h1) (fun a b => by
    simp only [leP, Bool.or_eq_true, Bool.not_eq_true']
    cases h : ltTag b.1 a.1 with
    | false => exact .inl rfl
    | true => exact .inr (ltTag_asym h)) l
  refine List.Perm.eq_of_pairwise (le := fun x y => leP x y = true) ?_ (hs.imp fun h => by simp only [leP, h, Bool.not_false]) hs2 hp2
  intro a b ha hb h1 h2
  simp only [leP, Bool.not_eq_true'] at h1 h2
  have e : a.1 = b.1 := ltTag_anti h2 h1
  have ha' : a ∈ l := hp.mem_iff.1 ha
  have hb' : b ∈ l := (List.mergeSort_perm l leP).mem_iff.1 hb
  have key : ∀ (l : List ((ByteArray × ByteArray) × β)), (l.map (·.1)).Nodup → ∀ a ∈ l, ∀ b ∈ l, a.1 = b.1 → a = b := by
    intro l
    induction l with
    | nil => intro _ a ha; cases ha
    | cons x l ih =>
      intro hn a ha b hb e
      simp only [List.map_cons, List.nodup_cons, List.mem_map, not_exists, not_and] at hn
      rcases List.mem_cons.1 ha with h1 | h1 <;> rcases List.mem_cons.1 hb with h2 | h2
      · rw [h1, h2]
      · exact absurd (h1 ▸ e.symm) (hn.1 b h2)
      · exact absurd (h2 ▸ e) (hn.1 a h1)
      · exact ih hn.2 a h1 b h2 e
  exact key l hn a ha' b hb' e
/-- from the sort of plain cells to the sort of the elements -/
theorem Fn'.sortN {P : Program} {f : FuncId} {args : Array Value} {v : Value} {rv : Unit → Value} {l r : List ((ByteArray × ByteArray) × List γ)} (H : sortP l = some r) (hcf : CF P f)
    (hF : ∀ l' : List ((ByteArray × ByteArray) × HV), l'.length = l.length → ∃ r' : List ((ByteArray × ByteArray) × HV), r'.Perm l' ∧ (r'.Pairwise fun x y => ltP y x = false) ∧ Fn' P f args [] [tree v l'] rv (fun _ => []) (fun _ => [tree v r'])) :
    Fn' P f args [] [tree v l] rv (fun _ => []) (fun _ => [tree v r]) := by
  refine ⟨hcf, fun w I S hst => ?_⟩
  obtain ⟨hr, H⟩ := gd.of H
  obtain ⟨hn, H⟩ := gd.of H
  have H := Option.some.inj H
  obtain ⟨q, hq, hw⟩ := Sta.unnest ⟨I, S, hst⟩ (.cons .here .nil)
  obtain ⟨r', hp, hs, hf⟩ := hF (stR q) (by rw [← hq]; simp)
  refine (Fn.call hf.go (.tree .nil) (fun _ => .tree .nil) (.cons .here .nil) EntsB.nil hw).mono ?_
  rintro e w' ⟨i, rfl, hw'⟩
  refine ⟨(), rfl, ?_⟩
  obtain ⟨q', hp', e'⟩ := perm_map_inv hp rfl
  have hw2 : Sta ⟨w, I, S⟩ [] (tree v (stR q') :: (stO q' ++ [])) w' := by
    rw [show stR q' = r' from e']
    exact Sta.perm (List.Perm.cons _ (List.Perm.append_right _ (hp'.symm.map _))) hw'
  have hw3 := Sta.nest hw2
  have : stL q' = r := by
    rw [← H]
    refine sortP_one hn (by rw [← hq]; exact hp'.map _) ?_
    rw [List.pairwise_map]
    rw [← e', List.pairwise_map] at hs
    exact hs
  rw [this] at hw3
  exact hw3
end Go.Sx

namespace Go.Sx
open Go Go.RowKit
variable {P : Program} {c : Ctx} {N : Nat} {s : Slots} {fs : List Fact} {os os1 os' : List Own} {Q : Exit → Act → World → Prop} {code : Code}
variable {d : Option Tmp} {ty : TypeId} {pos : String} {af : Array Edge} {gd : Option (Nat × Bool)}
/-- a struct in an element -/
theorem q_ldeP {x : Operand} {t : TypeId} {n i j : Nat} {z : Value} {by_ : Nat} {oa : Option Addr} {E : Nat → List Value} {α : Type} [Enc α] [Inhabited α] {l : List α} (cs' : List Value) (ht : TyI P t true n z by_) (hx : ev s x = some (elp oa (i * Enc.sz α + j))) (ha : EntB fs os (arr oa E l)) (hi : i < l.length) (hn : ((E i).drop j).take n = cs') (hl : cs'.length = n) :
    Qo P c fs os N s ⟨d, .load t x, ty, pos, af, gd⟩ (.agg cs'.toArray) := qo_of fun a w I S hs hst => by
  obtain ⟨ad, rfl, _, hc, hr⟩ := ha w I S hst.facts hst.own i hi
  have hc2 : CellsAt w (ad.add (i * Enc.sz α + j)) cs' := fun q u hq => by
    rw [← hn, List.getElem?_take] at hq
    split at hq
    · rw [List.getElem?_drop] at hq
      have := hc _ _ hq
      rw [add_add] at this
      rw [add_add, Nat.add_assoc]
      exact this
    · cases hq
  simp [execOp, hs.ev hx, elp, run_load_agg ht hc2 hl]
/-- what a tree's elements hold is let stand as it is -/
theorem Sta.treeRow {α : Type} [Enc α] {v : Value} {l : List α} {w : World} (ht : Take os [tree v l] os1) (hw : Sta c fs os w) : Sta c fs (row v l :: os1) w := by
  obtain ⟨I, S, hst⟩ := hw
  obtain ⟨S1, S2, m1, m2, dj, ⟨A, _, mA, _, _, ho, _⟩, hr⟩ := ht.sep hst.own
  have ho' : TrL w A v l := ho
  rcases ho' with ⟨e1, e2⟩ | ⟨g, cap, cur, ty, e, hg, hh, h1, h2, h3, Ss, k1, k2, k3⟩
  · exact ⟨I, S, hst.facts, ⟨fun _ => False, S2, fun _ h => h.elim, m2, fun _ h => h.elim, .inl ⟨e1, e2⟩, hr⟩, hst.dj, hst.ilt, hst.slt, hst.inew, hst.snew, hst.i0, hst.frm⟩
  · have hN : ∀ b, (∃ i, i < l.length ∧ Ss i b) → A b ∧ b ≠ g := fun b ⟨i, hi, hb⟩ => k1 i hi b hb
    refine ⟨fun b => I b ∨ ∃ i, i < l.length ∧ Ss i b, fun b => b = g ∨ S2 b, fun f hf => f.keep (hst.facts f hf) (Same.refl _ _) (fun _ => .inl), ⟨fun b => b = g, S2, fun _ => .inl, fun _ => .inr, fun b e h => dj b (mA b (e ▸ hg)) h, ?_, hr.keep (Same.refl _ _) (Same.refl _ _) (fun _ => .inl) (fun _ h => h)⟩, fun b hi hs => ?_, fun b hi => ?_, fun b hs => ?_, fun b hi => ?_, fun b hs => ?_, fun b hb => .inl (hst.i0 b hb), hst.frm⟩
    · exact .inr ⟨g, cap, cur, ty, e, rfl, hh, h1, h2, h3, fun i hi => Enc.keep (Enc.tr_rd (k3 i hi)) (Same.refl _ _) (fun b hb => .inr ⟨i, hi, hb⟩)⟩
    · rcases hi with hi | hi
      · rcases hs with rfl | hs
        · exact hst.dj b hi (m1 b (mA b hg))
        · exact hst.dj b hi (m2 b hs)
      · rcases hs with rfl | hs
        · exact (hN _ hi).2 rfl
        · exact dj b (mA b (hN b hi).1) hs
    · rcases hi with hi | hi
      · exact hst.ilt b hi
      · exact hst.slt b (m1 b (mA b (hN b hi).1))
    · rcases hs with rfl | hs
      · exact hst.slt _ (m1 _ (mA _ hg))
      · exact hst.slt b (m2 b hs)
    · rcases hi with hi | hi
      · exact hst.inew b hi
      · exact .inr (hst.snew b (m1 b (mA b (hN b hi).1)))
    · rcases hs with rfl | hs
      · exact hst.snew _ (m1 _ (mA _ hg))
      · exact hst.snew b (m2 b hs)
theorem Tr.treeRow {α : Type} [Enc α] {v : Value} {l : List α} (ht : Take os [tree v l] os1) (k : Tr P c N Q code s fs (row v l :: os1)) : Tr P c N Q code s fs os := fun a w hs hw => k a w hs (hw.treeRow ht)
/-- append onto a tree of an element that is not the call's own -/
theorem e_app1TR {t e : TypeId} {ag : Bool} {z : Value} {by_ : Nat} {α : Type} [ShpT α] {x y : Operand} {oa : Option Addr} {n cp g : Nat} {bt : TypeId} {cs : List Value} {l : List α} (u : α) (X : Shp.γ α) (hu : P.underlying t = some (.slice e)) (ht : TyI P e ag (Enc.sz α) z by_)
    (hx : ev s x = some (.slice oa n cp)) (hy : ev s y = some (.slice (some ⟨g, 0, none⟩) 1 1)) (hb : (l.length + 1) * by_ ≤ 140737488355328) (h63 : l.length + 1 ≤ 9223372036854775807) (hcs : cs = Shp.enc u X)
    (htk : Take os [tree (.slice oa n cp) l, box g bt cs] os1) (hf : Ents fs (ShpT.facts u X)) :
    Eo P c fs os N s ⟨d, .call { callee := .builtin .append, args := #[x, y], argTypes := #[t, t] }, ty, pos, af, gd⟩ (fun v fs' os' => ∃ oa' cp', v = .slice oa' (l ++ [u]).length cp' ∧ fs' = fs ∧ os' = row (.slice oa' (l ++ [u]).length cp') (l ++ [u]) :: os1) := Ex.mk fun a w hs hw =>
  (e_app1R (fs := fs) (os := row (.slice oa n cp) l :: box g bt cs :: os1) u X hu ht hx hy hb h63 hcs (.cons .here (.cons .here .nil)) hf).go a w hs
    (Sta.treeRow (.cons .here .nil) (Sta.perm (Take.perm htk) hw))
theorem n_app1TR {t e : TypeId} {ag : Bool} {z : Value} {by_ : Nat} {α : Type} [ShpT α] {x y : Operand} {oa : Option Addr} {n cp g : Nat} {bt : TypeId} {cs : List Value} {l : List α} (u : α) (X : Shp.γ α) (hu : P.underlying t = some (.slice e)) (ht : TyI P e ag (Enc.sz α) z by_)
    (hx : ev s x = some (.slice oa n cp)) (hy : ev s y = some (.slice (some ⟨g, 0, none⟩) 1 1)) (hb : (l.length + 1) * by_ ≤ 140737488355328) (h63 : l.length + 1 ≤ 9223372036854775807) (hcs : cs = Shp.enc u X)
    (htk : Take os [tree (.slice oa n cp) l, box g bt cs] os1) (hf : Ents fs (ShpT.facts u X)) :
    EF P c fs os N s ⟨d, .call { callee := .builtin .append, args := #[x, y], argTypes := #[t, t] }, ty, pos, af, gd⟩ (fun v fs' os' => ∃ oa' cp', v = .slice oa' (l ++ [u]).length cp' ∧ fs' = fs ∧ os' = row (.slice oa' (l ++ [u]).length cp') (l ++ [u]) :: os1) := fun F =>
  (e_app1TR (fs := fs) u X hu ht hx hy hb h63 hcs (htk.app F) hf).weak fun _ _ ⟨_, _, ⟨oa', cp', e1, e2, e3⟩, h⟩ => ⟨_, _, ⟨oa', cp', e1, e2, rfl⟩, by rw [List.cons_append, ← e3]; exact h⟩
theorem n_stH {t : TypeId} {ag : Bool} {n m i j cp : Nat} {z : Value} {by_ : Nat} {x y : Operand} {oa : Option Addr} {α : Type} [Enc α] {l : List α} {cs cs' : List Value} {v : Value} (ht : TyI P t ag n z by_)
    (hx : ev s x = some (elp oa (i * Enc.sz α + j))) (hy : ev s y = some v) (hu : Take os [hole (.slice oa m cp) l i cs] os1) (hn : v.cells.size = n) (h1 : ∀ u ∈ v.cells.toList, u.oneCell' = true)
    (hl : j + n ≤ Enc.sz α) (hcl : cs.length = Enc.sz α) (he : cs.take j ++ v.cells.toList ++ cs.drop (j + n) = cs') :
    EF P c fs os N s ⟨d, .store t x y, ty, pos, af, gd⟩ (fun u fs' os'' => u = undef ∧ fs' = fs ∧ os'' = hole (.slice oa m cp) l i cs' :: os1) := fun F =>
  (e_stH (fs := fs) (os := os ++ F) (m := m) (cp := cp) (i := i) (j := j) (α := α) (l := l) ht hx hy (hu.app F) hn h1 hl hcl he).weak fun _ _ ⟨_, _, ⟨e1, e2, e3⟩, h⟩ => ⟨_, _, ⟨e1, e2, rfl⟩, by rw [List.cons_append, ← e3]; exact h⟩
theorem mod3 (k : Int) : I64 (k.tmod 3) := by
  unfold I64
  rcases Int.le_total 0 k with h | h
  · rw [Int.tmod_eq_emod_of_nonneg h]; omega
  · have h2 : 0 ≤ -k := by omega
    have : k.tmod 3 = -((-k).tmod 3) := by rw [Int.neg_tmod]; omega
    rw [this, Int.tmod_eq_emod_of_nonneg h2]; omega
end Go.Sx
