/- A logic for the walks of this seat, part 1: what is said of memory, and how each operation keeps it. My own work. -/
import Derived.WalkKit
import Derived.Orders
import Derived.KernelRfl
namespace Go.Sx
open Go Go.RowKit
abbrev Blks := Nat → Prop
def Same (S : Blks) (w w' : World) : Prop := ∀ b, S b → w'.heap[b]? = w.heap[b]?
theorem Same.refl (S : Blks) (w : World) : Same S w w := fun _ _ => rfl
theorem Same.trans {S : Blks} {a b c : World} (h : Same S a b) (k : Same S b c) : Same S a c := fun x hx => (k x hx).trans (h x hx)
theorem Same.mono {S S' : Blks} {a b : World} (h : Same S a b) (k : ∀ x, S' x → S x) : Same S' a b := fun x hx => h x (k x hx)
theorem block_add (a : Addr) (n : Nat) : (a.add n).block = a.block := by unfold Addr.add; split <;> rfl
theorem add_add (a : Addr) (i j : Nat) : (a.add i).add j = a.add (i + j) := by
 unfold Addr.add
 by_cases hi : i = 0 <;> by_cases hj : j = 0 <;> simp [hi, hj, Nat.add_assoc]
def CellsAt (w : World) (ad : Addr) (cs : List Value) : Prop := ∀ j u, cs[j]? = some u → w.cell? (ad.add j) = some u
theorem CellsAt.keep {w w' : World} {S : Blks} {ad : Addr} {cs : List Value} (h : CellsAt w ad cs) (hs : Same S w w') (hb : S ad.block) : CellsAt w' ad cs := by
 intro j u hu
 rw [World.cell?_of_block (w := w) (hs _ (by rw [block_add]; exact hb))]
 exact h j u hu
class Enc (α : Type) where
  sz : Nat
  pos : 0 < sz
  Rd : World → Blks → List Value → α → Prop
  len : ∀ {w S cs d}, Rd w S cs d → cs.length = sz
  one : ∀ {w S cs d}, Rd w S cs d → ∀ u ∈ cs, u.oneCell' = true
  keep : ∀ {w w' S S' cs d}, Rd w S cs d → Same S w w' → (∀ b, S b → S' b) → Rd w' S' cs d
  Tr : World → Blks → List Value → α → Prop
  tr_rd : ∀ {w S cs d}, Tr w S cs d → Rd w S cs d
  tr_keep : ∀ {w w' S S' cs d}, Tr w S cs d → Same S w w' → (∀ b, S b → S' b) → Tr w' S' cs d
def I64 (n : Int) : Prop := -9223372036854775808 ≤ n ∧ n ≤ 9223372036854775807
instance : Enc Int where
  sz := 1
  pos := by omega
  Rd := fun _ _ cs n => cs = [.int .i64 n]
  len := by rintro w S cs d rfl; rfl
  one := by rintro w S cs d rfl u hu; simp at hu; subst hu; rfl
  keep := fun h _ _ => h
  Tr := fun _ _ cs n => cs = [.int .i64 n]
  tr_rd := fun h => h
  tr_keep := fun h _ _ => h
instance : Enc Bool where
  sz := 1
  pos := by omega
  Rd := fun _ _ cs n => cs = [.bool n]
  len := by rintro w S cs d rfl; rfl
  one := by rintro w S cs d rfl u hu; simp at hu; subst hu; rfl
  keep := fun h _ _ => h
  Tr := fun _ _ cs n => cs = [.bool n]
  tr_rd := fun h => h
  tr_keep := fun h _ _ => h
instance : Enc ByteArray where
  sz := 1
  pos := by omega
  Rd := fun _ _ cs n => cs = [.string n]
  len := by rintro w S cs d rfl; rfl
  one := by rintro w S cs d rfl u hu; simp at hu; subst hu; rfl
  keep := fun h _ _ => h
  Tr := fun _ _ cs n => cs = [.string n]
  tr_rd := fun h => h
  tr_keep := fun h _ _ => h
instance {α β : Type} [Enc α] [Enc β] : Enc (α × β) where
  sz := Enc.sz α + Enc.sz β
  pos := by have := Enc.pos (α := α); omega
  Rd := fun w S cs d => ∃ c1 c2, cs = c1 ++ c2 ∧ Enc.Rd w S c1 d.1 ∧ Enc.Rd w S c2 d.2
  len := by rintro w S cs d ⟨c1, c2, rfl, h1, h2⟩; rw [List.length_append, Enc.len h1, Enc.len h2]
  one := by
    rintro w S cs d ⟨c1, c2, rfl, h1, h2⟩ u hu
    rcases List.mem_append.1 hu with h | h
    · exact Enc.one h1 u h
    · exact Enc.one h2 u h
  keep := fun ⟨c1, c2, e, h1, h2⟩ hs hm => ⟨c1, c2, e, Enc.keep h1 hs hm, Enc.keep h2 hs hm⟩
  Tr := fun w S cs d => ∃ c1 c2 S1 S2, cs = c1 ++ c2 ∧ (∀ b, S1 b → S b) ∧ (∀ b, S2 b → S b) ∧ (∀ b, S1 b → S2 b → False) ∧ Enc.Tr w S1 c1 d.1 ∧ Enc.Tr w S2 c2 d.2
  tr_rd := fun {w S cs d} ⟨c1, c2, S1, S2, e, m1, m2, _, h1, h2⟩ => ⟨c1, c2, e, Enc.keep (Enc.tr_rd h1) (Same.refl _ _) m1, Enc.keep (Enc.tr_rd h2) (Same.refl _ _) m2⟩
  tr_keep := fun ⟨c1, c2, S1, S2, e, m1, m2, dj, h1, h2⟩ hs hm =>
    ⟨c1, c2, S1, S2, e, fun b h => hm b (m1 b h), fun b h => hm b (m2 b h), dj, Enc.tr_keep h1 (hs.mono m1) (fun _ h => h), Enc.tr_keep h2 (hs.mono m2) (fun _ h => h)⟩
def RdL {α : Type} [Enc α] (w : World) (S : Blks) (v : Value) (l : List α) : Prop :=
 ∃ oa cap, v = .slice oa l.length cap ∧ l.length ≤ cap ∧ cap ≤ maxLen ∧
  ∀ i (h : i < l.length), ∃ ad es, oa = some ad ∧ S ad.block ∧ CellsAt w (ad.add (i * Enc.sz α)) es ∧ Enc.Rd w S es l[i]
def TrL {α : Type} [Enc α] (w : World) (S : Blks) (v : Value) (l : List α) : Prop :=
 (v = .slice none 0 0 ∧ l = []) ∨
 ∃ g cap cur ty, v = .slice (some ⟨g, 0, none⟩) l.length cap ∧ S g ∧ w.heap[g]? = some (.cells cur ty (0, 0)) ∧ l.length ≤ cap ∧ cap ≤ maxLen ∧ cur.size = cap * Enc.sz α ∧
  ∃ Ss : Nat → Blks, (∀ i, i < l.length → ∀ b, Ss i b → S b ∧ b ≠ g) ∧ (∀ i j, i < j → j < l.length → ∀ b, Ss i b → Ss j b → False) ∧
   ∀ i (h : i < l.length), Enc.Tr w (Ss i) ((cur.toList.drop (i * Enc.sz α)).take (Enc.sz α)) l[i]
theorem RdL.keep {α : Type} [Enc α] {w w' : World} {S S' : Blks} {v : Value} {l : List α} (h : RdL w S v l) (hs : Same S w w') (hm : ∀ b, S b → S' b) : RdL w' S' v l := by
 obtain ⟨oa, cap, e, h1, h2, h3⟩ := h
 refine ⟨oa, cap, e, h1, h2, fun i hi => ?_⟩
 obtain ⟨ad, es, ho, hS, hc, hr⟩ := h3 i hi
 exact ⟨ad, es, ho, hm _ hS, hc.keep hs (by rw [block_add]; exact hS), Enc.keep hr hs hm⟩
theorem TrL.keep {α : Type} [Enc α] {w w' : World} {S S' : Blks} {v : Value} {l : List α} (h : TrL w S v l) (hs : Same S w w') (hm : ∀ b, S b → S' b) : TrL w' S' v l := by
 rcases h with h | ⟨g, cap, cur, ty, e, hg, hh, h1, h2, h3, Ss, k1, k2, k3⟩
 ·exact .inl h
 ·exact .inr ⟨g, cap, cur, ty, e, hm _ hg, (hs g hg).trans hh, h1, h2, h3, Ss, fun i hi b hb => ⟨hm _ (k1 i hi b hb).1, (k1 i hi b hb).2⟩, k2, fun i hi => Enc.tr_keep (k3 i hi) (hs.mono fun b hb => (k1 i hi b hb).1) (fun _ h => h)⟩
theorem cellsAt_row {w : World} {g : Nat} {cur : Array Value} {ty : TypeId} (hh : w.heap[g]? = some (.cells cur ty (0, 0))) (o n : Nat) :
  CellsAt w ((⟨g, 0, none⟩ : Addr).add o) ((cur.toList.drop o).take n) := by
 intro j u hu
 rw [add_add, Addr.add_lit, cell_of_row w g _ cur ty (0, 0) hh]
 rw [List.getElem?_take] at hu
 split at hu
 ·rw [List.getElem?_drop] at hu
  simpa using hu
 ·cases hu
theorem TrL.rd {α : Type} [Enc α] {w : World} {S : Blks} {v : Value} {l : List α} (h : TrL w S v l) : RdL w S v l := by
 rcases h with ⟨rfl, rfl⟩ | ⟨g, cap, cur, ty, e, hg, hh, h1, h2, h3, Ss, k1, k2, k3⟩
 ·exact ⟨none, 0, rfl, Nat.le_refl _, by simp [maxLen], fun i hi => absurd hi (Nat.not_lt_zero _)⟩
 ·refine ⟨some ⟨g, 0, none⟩, cap, e, h1, h2, fun i hi => ⟨_, _, rfl, hg, cellsAt_row hh _ _, Enc.keep (Enc.tr_rd (k3 i hi)) (Same.refl _ _) (fun b hb => (k1 i hi b hb).1)⟩⟩
instance {α : Type} [Enc α] : Enc (List α) where
  sz := 1
  pos := by omega
  Rd := fun w S cs l => ∃ v, cs = [v] ∧ RdL w S v l
  len := by rintro w S cs d ⟨v, rfl, _⟩; rfl
  one := by
    rintro w S cs d ⟨v, rfl, oa, cap, rfl, _⟩ u hu
    simp at hu; subst hu; rfl
  keep := fun ⟨v, e, h⟩ hs hm => ⟨v, e, h.keep hs hm⟩
  Tr := fun w S cs l => ∃ v, cs = [v] ∧ TrL w S v l
  tr_rd := fun ⟨v, e, h⟩ => ⟨v, e, h.rd⟩
  tr_keep := fun ⟨v, e, h⟩ hs hm => ⟨v, e, h.keep hs hm⟩
end Go.Sx

namespace Go.Sx
open Go Go.RowKit
structure Fact where
  ok : World → Blks → Prop
  keep : ∀ {w w' I I'}, ok w I → Same I w w' → (∀ b, I b → I' b) → ok w' I'
def imm {α : Type} [Enc α] (v : Value) (l : List α) : Fact := ⟨fun w I => RdL w I v l, fun h hs hm => h.keep hs hm⟩
def imms {α : Type} [Enc α] (cs : List Value) (d : α) : Fact := ⟨fun w I => Enc.Rd w I cs d, fun h hs hm => Enc.keep h hs hm⟩
structure Own where
  ok : World → Blks → Blks → Prop
  keep : ∀ {w w' I I' S S'}, ok w I S → Same I w w' → Same S w w' → (∀ b, I b → I' b) → (∀ b, S b → S' b) → ok w' I' S'
def box (g : Nat) (ty : TypeId) (cs : List Value) : Own :=
 ⟨fun w _ S => S g ∧ w.heap[g]? = some (.cells cs.toArray ty (0, 0)), fun ⟨h1, h2⟩ _ hs _ hm => ⟨hm _ h1, (hs _ h1).trans h2⟩⟩
def tree {α : Type} [Enc α] (v : Value) (l : List α) : Own :=
 ⟨fun w _ S => TrL w S v l, fun h _ hs _ hm => h.keep hs hm⟩
def row {α : Type} [Enc α] (v : Value) (l : List α) : Own :=
  ⟨fun w I S => (v = .slice none 0 0 ∧ l = []) ∨
      ∃ g cap cur ty, v = .slice (some ⟨g, 0, none⟩) l.length cap ∧ S g ∧ w.heap[g]? = some (.cells cur ty (0, 0)) ∧ l.length ≤ cap ∧ cap ≤ maxLen ∧ cur.size = cap * Enc.sz α ∧
        ∀ i (h : i < l.length), Enc.Rd w I ((cur.toList.drop (i * Enc.sz α)).take (Enc.sz α)) l[i],
   fun {w w' I I' S S'} h hi hs hm hm' => by
     rcases h with h | ⟨g, cap, cur, ty, e, hg, hh, h1, h2, h3, h4⟩
     · exact .inl h
     · exact .inr ⟨g, cap, cur, ty, e, hm' _ hg, (hs g hg).trans hh, h1, h2, h3, fun i hi' => Enc.keep (h4 i hi') hi hm⟩⟩
def Sep : List Own → World → Blks → Blks → Prop
 | [], _, _, _ => True
 | o :: os, w, I, S => ∃ S1 S2, (∀ b, S1 b → S b) ∧ (∀ b, S2 b → S b) ∧ (∀ b, S1 b → S2 b → False) ∧ o.ok w I S1 ∧ Sep os w I S2
theorem Sep.keep : ∀ {os : List Own} {w w' : World} {I I' S S' : Blks}, Sep os w I S → Same I w w' → Same S w w' → (∀ b, I b → I' b) → (∀ b, S b → S' b) → Sep os w' I' S'
 | [], _, _, _, _, _, _, _, _, _, _, _ => trivial
 | o :: _, _, _, _, _, _, _, ⟨S1, S2, m1, m2, dj, h, hr⟩, hi, hs, hm, hm' =>
  ⟨S1, S2, fun b hb => hm' b (m1 b hb), fun b hb => hm' b (m2 b hb), dj, o.keep h hi (hs.mono m1) hm (fun _ h => h), Sep.keep hr hi (hs.mono m2) hm (fun _ h => h)⟩
theorem Sep.mono {os : List Own} {w : World} {I S S' : Blks} (h : Sep os w I S) (hm : ∀ b, S b → S' b) : Sep os w I S' := h.keep (Same.refl _ _) (Same.refl _ _) (fun _ h => h) hm
def TD (w w' : World) : Prop := w'.tape = w.tape ∧ w.drawn ≤ w'.drawn
theorem TD.refl (w : World) : TD w w := ⟨rfl, Nat.le_refl _⟩
theorem TD.trans {a b c : World} (h : TD b c) (k : TD a b) : TD a c := ⟨h.1.trans k.1, Nat.le_trans k.2 h.2⟩
def TDL (L : Prop) (w w' : World) : Prop := w'.tape = w.tape ∧ (L ∨ w.drawn ≤ w'.drawn)
theorem TD.l {L : Prop} {w w' : World} (h : TD w w') : TDL L w w' := ⟨h.1, .inr h.2⟩
theorem TDL.trans {L : Prop} {a b c : World} (h : TDL L b c) (k : TDL L a b) : TDL L a c := ⟨h.1.trans k.1, h.2.elim .inl fun h => k.2.elim .inl fun k => .inr (Nat.le_trans k h)⟩
theorem TDL.wk {L L' : Prop} {a b : World} (h : TDL L a b) (k : L → L') : TDL L' a b := ⟨h.1, h.2.imp k id⟩
structure Frm (L : Prop) (X : Blks) (w w' : World) : Prop where
  os : w'.os = w.os
  tape : TDL L w w'
  output : w'.output = w.output
  size : w.heap.size ≤ w'.heap.size
  block : ∀ b, b < w.heap.size → ¬ X b → w'.heap[b]? = w.heap[b]?
theorem Frm.refl {L : Prop} (X : Blks) (w : World) : Frm L X w w := ⟨rfl, (TD.refl w).l, rfl, Nat.le_refl _, fun _ _ _ => rfl⟩
theorem Frm.trans {L : Prop} {X : Blks} {a b c : World} (h : Frm L X a b) (k : Frm L X b c) : Frm L X a c :=
 ⟨k.os.trans h.os, k.tape.trans h.tape, k.output.trans h.output, Nat.le_trans h.size k.size, fun i hi hx => (k.block i (Nat.lt_of_lt_of_le hi h.size) hx).trans (h.block i hi hx)⟩
theorem Frm.below {L : Prop} {w w' : World} (h : Frm L (fun _ => False) w w') : Below w.heap.size w w' := ⟨h.os, h.tape.1, h.output, h.size, fun k hk => h.block k hk (fun h => h)⟩
structure Ctx where
  w0 : World
  I0 : Blks
  S0 : Blks
  L : Prop
structure St (c : Ctx) (fs : List Fact) (os : List Own) (w : World) (I S : Blks) : Prop where
  facts : ∀ f ∈ fs, f.ok w I
  own : Sep os w I S
  dj : ∀ b, I b → S b → False
  ilt : ∀ b, I b → b < w.heap.size
  slt : ∀ b, S b → b < w.heap.size
  inew : ∀ b, I b → c.I0 b ∨ c.S0 b ∨ c.w0.heap.size ≤ b
  snew : ∀ b, S b → c.S0 b ∨ c.w0.heap.size ≤ b
  i0 : ∀ b, c.I0 b → I b
  frm : Frm c.L c.S0 c.w0 w
def Sta (c : Ctx) (fs : List Fact) (os : List Own) (w : World) : Prop := ∃ I S, St c fs os w I S
def FnL (L : Prop) (P : Program) (f : FuncId) (args : Array Value) (fs : List Fact) (os : List Own) {ι : Type} (rv : ι → Value) (fs' : ι → List Fact) (os' : ι → List Own) : Prop :=
 ∀ w I S, St ⟨w, I, S, L⟩ fs os w I S → Calls P f args w fun e w' => ∃ x, e = .returned (rv x) ∧ Sta ⟨w, I, S, L⟩ (fs' x) (os' x) w'
abbrev Fn (P : Program) (f : FuncId) (args : Array Value) (fs : List Fact) (os : List Own) {ι : Type} (rv : ι → Value) (fs' : ι → List Fact) (os' : ι → List Own) : Prop := FnL False P f args fs os rv fs' os'
abbrev Slots := List (Nat × Value)
def lk : Slots → Nat → Option Value
 | [], _ => none
 | p :: s, x => bif Nat.beq p.1 x then some p.2 else lk s x
structure Sl (N : Nat) (s : Slots) (a : Act) : Prop where
  size : a.tmps.size = N
  defers : a.defers = []
  get : ∀ t v, lk s t = some v → a.tmps.getD t undef = v
def ev (s : Slots) : Operand → Option Value
 | .tmp t => lk s t
 | .const v => some v
 | .global g => some (.pointer (some ⟨g, 0, none⟩))
 | .func f => some (.func (.func f) #[] #[])
theorem Sl.ev {N : Nat} {s : Slots} {a : Act} (h : Sl N s a) {x : Operand} {v : Value} (hx : Sx.ev s x = some v) : a.eval x = v := by
 cases x with
 | tmp t => exact h.get t v hx
 | const u => exact Option.some.inj hx
 | global g => exact Option.some.inj hx
 | func f => exact Option.some.inj hx
theorem Sl.put {N : Nat} {s : Slots} {a : Act} (h : Sl N s a) {d : Nat} (v : Value) (hd : d < N) : Sl N ((d, v) :: s) (a.put (some d) v) := by
 refine ⟨by simp [Act.put, h.size], h.defers, fun t u hu => ?_⟩
 simp only [lk] at hu
 by_cases e : d = t
 ·subst e
  have : Nat.beq d d = true := by simp
  rw [this] at hu
  simp at hu
  subst hu
  show (a.tmps.setIfInBounds d v).getD d undef = _
  simp [Array.getD_eq_getD_getElem?, h.size, hd]
 ·have : Nat.beq d t = false := by
   cases hb : Nat.beq d t
   ·rfl
   ·exact absurd (Nat.eq_of_beq_eq_true hb) e
  rw [this] at hu
  have h2 := h.get t u hu
  rw [← h2]
  show (a.tmps.setIfInBounds d v).getD t undef = _
  simp only [Array.getD_eq_getD_getElem?, Array.getElem?_setIfInBounds_ne e]
theorem Sl.weak {N : Nat} {s s' : Slots} {a : Act} (h : Sl N s a) (hs : ∀ t v, lk s' t = some v → lk s t = some v) : Sl N s' a := ⟨h.size, h.defers, fun t v hv => h.get t v (hs t v hv)⟩
end Go.Sx

namespace Go.Sx
open Go Go.RowKit
def Outc (P : Program) (R : Value → World → Prop) : Result Next → Prop
 | .ok (.value v) w => R v w
 | .ok .skip w => R undef w
 | .ok (.enter f args) w => Calls P f args w fun e w' => ∃ v, e = .returned v ∧ R v w'
 | _ => False
theorem Outc.mono {P : Program} {R R' : Value → World → Prop} {r : Result Next} (h : Outc P R r) (k : ∀ v w, R v w → R' v w) : Outc P R' r := by
 cases r with
 | halt x w => exact h.elim
 | ok n w =>
  cases n <;> simp only [Outc] at h ⊢
  case value v => exact k _ _ h
  case skip => exact k _ _ h
  case enter f args => exact h.mono fun e w' ⟨v, he, hr⟩ => ⟨v, he, k _ _ hr⟩
theorem Outc.wp {P : Program} {R : Value → World → Prop} {o : Oper} {a : Act} {w : World} {K : Act → World → Prop} {Q : Exit → Act → World → Prop}
  (h : Outc P R ((execOp a.eval o).run P w)) (k : ∀ v w', R v w' → K (a.put o.dst v) w') : o.wp P a w K Q := by
 unfold Oper.wp
 generalize (execOp a.eval o).run P w = r at *
 cases r with
 | halt x w => exact h.elim
 | ok n w =>
  cases n <;> simp only [Outc, Oper.upon] at h ⊢
  case value v => exact k _ _ h
  case skip => exact k _ _ h
  case enter f args =>
   refine h.mono fun e w' ⟨v, he, hr⟩ => ?_
   subst he
   exact k _ _ hr
structure Ex (P : Program) (c : Ctx) (fs : List Fact) (os : List Own) (N : Nat) (s : Slots) (o : Oper) (R : Value → World → Prop) : Prop where
  go : ∀ a w, Sl N s a → Sta c fs os w → Outc P R ((execOp a.eval o).run P w)
instance {P : Program} {c : Ctx} {fs : List Fact} {os : List Own} {N : Nat} {s : Slots} {o : Oper} {R : Value → World → Prop} : CoeFun (Ex P c fs os N s o R) (fun _ => ∀ a w, Sl N s a → Sta c fs os w → Outc P R ((execOp a.eval o).run P w)) := ⟨Ex.go⟩
abbrev Qo (P : Program) (c : Ctx) (fs : List Fact) (os : List Own) (N : Nat) (s : Slots) (o : Oper) (v : Value) : Prop :=
 Ex P c fs os N s o fun v' w' => v' = v ∧ Sta c fs os w'
def wtd (ops : Array Oper) (s : Slots) (o : Oper) : Option Bool :=
 match o.guard with
 | none => some true
 | some (j, want) =>
  match ((ops[j]?).bind (·.dst)).bind (lk s) with
  | some (.bool b) => some (b == want)
  | some (.tuple _) => some false
  | _ => none
theorem wtd_ok {ops : Array Oper} {N : Nat} {s : Slots} {a : Act} {o : Oper} {b : Bool} (h : Sl N s a) (hw : wtd ops s o = some b) :
  Region.wanted o (yielded ops a.tmps) = b := by
 unfold wtd at hw
 unfold Region.wanted
 cases hg : o.guard with
 | none => simp [hg] at hw; simp [← hw]
 | some p =>
  obtain ⟨j, want⟩ := p
  simp only [hg] at hw ⊢
  cases hj : (ops[j]?).bind (·.dst) with
  | none => simp [hj] at hw
  | some t =>
   simp only [hj, Option.bind_some] at hw
   cases hl : lk s t with
   | none => simp [hl] at hw
   | some v =>
    simp only [hl] at hw
    have hx := h.get t _ hl
    cases v <;> simp at hw
    case bool x =>
     have hx' : a.tmps[t]? = some (.bool x) := by
      rw [Array.getD_eq_getD_getElem?] at hx
      cases ht : a.tmps[t]? with
      | none => rw [ht] at hx; simp [undef] at hx
      | some u => rw [ht] at hx; simp at hx; rw [hx]
     simp only [yielded, hj, Option.bind_some, hx']
     rw [← hw]
     rfl
    case tuple x =>
     subst hw
     simp only [yielded, hj, Option.bind_some]
     rw [Array.getD_eq_getD_getElem?] at hx
     cases ht : a.tmps[t]? with
     | none => rfl
     | some u => rw [ht] at hx; simp at hx; rw [hx]; rfl
def Lin (P : Program) (c : Ctx) (fs : List Fact) (os : List Own) (N : Nat) (ops : Array Oper) : List Oper → Slots → (Slots → Prop) → Prop
  | [], s, R => R s
  | o :: rest, s, R => ∃ d, o.dst = some d ∧ d < N ∧
      ((wtd ops s o = some true ∧ ∃ v, Qo P c fs os N s o v ∧ Lin P c fs os N ops rest ((d, v) :: s) R) ∨
       (wtd ops s o = some false ∧ Lin P c fs os N ops rest ((d, undef) :: s) R))
section
variable {P : Program} {c : Ctx} {fs : List Fact} {os : List Own} {N : Nat} {ops : Array Oper} {s : Slots} {rest : List Oper} {R : Slots → Prop} {v : Value}
theorem Lin.nil (h : R s) : Lin P c fs os N ops [] s R := h
theorem Lin.q {d : Nat} {op : Op} {ty : TypeId} {pos : String} {af : Array Edge} (hd : d < N) (hq : Qo P c fs os N s ⟨some d, op, ty, pos, af, none⟩ v)
  (k : Lin P c fs os N ops rest ((d, v) :: s) R) : Lin P c fs os N ops (⟨some d, op, ty, pos, af, none⟩ :: rest) s R := ⟨d, rfl, hd, .inl ⟨rfl, v, hq, k⟩⟩
theorem Lin.g {d : Nat} {op : Op} {ty : TypeId} {pos : String} {af : Array Edge} {g : Nat × Bool} (hd : d < N) (hw : wtd ops s ⟨some d, op, ty, pos, af, some g⟩ = some true) (hq : Qo P c fs os N s ⟨some d, op, ty, pos, af, some g⟩ v)
  (k : Lin P c fs os N ops rest ((d, v) :: s) R) : Lin P c fs os N ops (⟨some d, op, ty, pos, af, some g⟩ :: rest) s R := ⟨d, rfl, hd, .inl ⟨hw, v, hq, k⟩⟩
theorem Lin.skip {d : Nat} {op : Op} {ty : TypeId} {pos : String} {af : Array Edge} {g : Nat × Bool} (hd : d < N) (hw : wtd ops s ⟨some d, op, ty, pos, af, some g⟩ = some false)
  (k : Lin P c fs os N ops rest ((d, undef) :: s) R) : Lin P c fs os N ops (⟨some d, op, ty, pos, af, some g⟩ :: rest) s R := ⟨d, rfl, hd, .inr ⟨hw, k⟩⟩
theorem Lin.text {Q : Exit → Act → World → Prop} : ∀ (l : List Oper) (s : Slots), Lin P c fs os N ops l s R → (∀ s', R s' → ∀ a w, Sl N s' a → Sta c fs os w → Q .normal a w) →
  ∀ a w, Sl N s a → Sta c fs os w → wpList P ops Q l a w
 | [], _, h, k, a, w, hs, hw => k _ h a w hs hw
 | o :: rest, s, ⟨d, hd, hN, h⟩, k, a, w, hs, hw => by
  unfold wpList
  rcases h with ⟨hwt, v, hq, hl⟩ | ⟨hwt, hl⟩
  ·rw [if_pos (wtd_ok hs hwt)]
   refine .inl (Outc.wp (hq a w hs hw) ?_)
   rintro v' w' ⟨rfl, hw'⟩
   rw [hd]
   exact Lin.text rest _ hl k _ _ (hs.put _ hN) hw'
  ·rw [if_neg (by rw [wtd_ok hs hwt]; simp), hd]
   exact Lin.text rest _ hl k _ _ (hs.put _ hN) hw
end
end Go.Sx

namespace Go.Sx
open Go Go.RowKit
def Rg (P : Program) (c : Ctx) (N : Nat) (ops : Array Oper) (Q : Exit → Act → World → Prop) (rest : List Oper) (s : Slots) (fs : List Fact) (os : List Own) : Prop :=
 ∀ a w, Sl N s a → Sta c fs os w → wpList P ops Q rest a w
def addS (s : Slots) : Option Nat → Value → Slots
 | some d, v => (d, v) :: s
 | none, _ => s
theorem Sl.addS {N : Nat} {s : Slots} {a : Act} (h : Sl N s a) {d : Option Nat} (v : Value) (hd : ∀ t, d = some t → t < N) : Sl N (addS s d v) (a.put d v) := by
 cases d with
 | none => exact h
 | some t => exact h.put v (hd t rfl)
abbrev Eo (P : Program) (c : Ctx) (fs : List Fact) (os : List Own) (N : Nat) (s : Slots) (o : Oper) (next : Value → List Fact → List Own → Prop) : Prop :=
 Ex P c fs os N s o fun v w' => ∃ fs' os', next v fs' os' ∧ Sta c fs' os' w'
section
variable {P : Program} {c : Ctx} {N : Nat} {ops : Array Oper} {Q : Exit → Act → World → Prop} {rest : List Oper} {s : Slots} {fs : List Fact} {os : List Own} {v : Value}
theorem Rg.nil (h : ∀ a w, Sl N s a → Sta c fs os w → Q .normal a w) : Rg P c N ops Q [] s fs os := fun a w hs hw => h a w hs hw
theorem Rg.q {d : Nat} {op : Op} {ty : TypeId} {pos : String} {af : Array Edge} (hq : Qo P c fs os N s ⟨some d, op, ty, pos, af, none⟩ v) (hd : d < N)
  (k : Rg P c N ops Q rest ((d, v) :: s) fs os) : Rg P c N ops Q (⟨some d, op, ty, pos, af, none⟩ :: rest) s fs os := by
 intro a w hs hw
 unfold wpList
 rw [if_pos (wtd_ok (b := true) hs rfl)]
 refine .inl (Outc.wp (hq a w hs hw) ?_)
 rintro v' w' ⟨rfl, hw'⟩
 exact k _ _ (hs.put _ hd) hw'
theorem Rg.g {d : Nat} {op : Op} {ty : TypeId} {pos : String} {af : Array Edge} {g : Nat × Bool} (hw : wtd ops s ⟨some d, op, ty, pos, af, some g⟩ = some true) (hq : Qo P c fs os N s ⟨some d, op, ty, pos, af, some g⟩ v) (hd : d < N)
  (k : Rg P c N ops Q rest ((d, v) :: s) fs os) : Rg P c N ops Q (⟨some d, op, ty, pos, af, some g⟩ :: rest) s fs os := by
 intro a w hs hw'
 unfold wpList
 rw [if_pos (wtd_ok (b := true) hs hw)]
 refine .inl (Outc.wp (hq a w hs hw') ?_)
 rintro v' w' ⟨rfl, hw'⟩
 exact k _ _ (hs.put _ hd) hw'
theorem Rg.skip {d : Nat} {op : Op} {ty : TypeId} {pos : String} {af : Array Edge} {g : Nat × Bool} (hw : wtd ops s ⟨some d, op, ty, pos, af, some g⟩ = some false) (hd : d < N)
  (k : Rg P c N ops Q rest ((d, undef) :: s) fs os) : Rg P c N ops Q (⟨some d, op, ty, pos, af, some g⟩ :: rest) s fs os := by
 intro a w hs hw'
 unfold wpList
 rw [if_neg (by rw [wtd_ok (b := false) hs hw]; simp)]
 exact k _ _ (hs.put _ hd) hw'
theorem Rg.e {o : Oper} {next : Value → List Fact → List Own → Prop} (he : Eo P c fs os N s o next) (hw : wtd ops s o = some true) (hd : ∀ t, o.dst = some t → t < N)
  (k : ∀ v fs' os', next v fs' os' → Rg P c N ops Q rest (addS s o.dst v) fs' os') : Rg P c N ops Q (o :: rest) s fs os := by
 intro a w hs hw'
 unfold wpList
 rw [if_pos (wtd_ok (b := true) hs hw)]
 refine .inl (Outc.wp (he a w hs hw') ?_)
 rintro v' w' ⟨fs', os', hn, hw'⟩
 exact k _ _ _ hn _ _ (hs.addS _ hd) hw'
end
def Pu (P : Program) (N : Nat) (s : Slots) (o : Oper) (v : Value) : Prop := ∀ a w, Sl N s a → (execOp a.eval o).run P w = .ok (.value v) w
theorem Pu.qo {P : Program} {c : Ctx} {fs : List Fact} {os : List Own} {N : Nat} {s : Slots} {o : Oper} {v : Value} (h : Pu P N s o v) : Qo P c fs os N s o v :=
 Ex.mk fun a w hs hw => by rw [h a w hs]; exact ⟨rfl, hw⟩
def anc (ops : Array Oper) : Nat → Nat → Nat → Bool
 | 0, _, _ => false
 | n + 1, i, j => match ops[i]? with
  | some o => o.after.any fun e => Region.binds .any e && (e.on == j || anc ops n e.on j)
  | none => false
def chkN (ops : Array Oper) (n : Nat) (p ef : List Nat) : Bool :=
 -- p names each place once
 decide (p.length = ops.size) && (List.range ops.size).all (fun i => p.contains i) &&
 -- edges lead to what stands ahead in p
 (List.range p.length).all (fun k => match (p[k]?).bind (ops[·]?) with
  | some o => o.after.all fun e => !Region.binds .any e || (p.take k).contains e.on
  | none => false) &&
 -- each slot is written once, and looked at only behind that
 (List.range ops.size).all (fun i => match ops[i]? with
  | some o => (match o.op with | .select _ _ => false | _ => true) &&
   (List.range ops.size).all (fun j => match ops[j]? with
    | some oj => (match oj.dst with
     | some d => (i == j || o.dst != some d) && (!(o.looksAt ops).contains d || (i != j && anc ops n i j))
     | none => true)
    | none => false)
  | none => false) &&
 -- effects: a chain
 (List.range p.length).all (fun k => match p[k]? with
  | some e => !ef.contains e || (p.drop (k + 1)).all fun j =>
    if ef.contains j then anc ops n j e
    else (p.drop k).any fun e' => ef.contains e' && anc ops n j e'
  | none => false)
def Nf (P : Program) (c : Ctx) (N : Nat) (ops : Array Oper) (n : Nat) (ef : List Nat) : List Nat → Slots → List Fact → List Own → List Nat → (Slots → List Fact → List Own → Prop) → Prop
  | [], s, fs, os, _, R => R s fs os
  | i :: p, s, fs, os, pd, R => ∃ o, ops[i]? = some o ∧
      ((∃ d, o.dst = some d ∧ d < N ∧ ef.contains i = false ∧ wtd ops s o = some false ∧ Nf P c N ops n ef p ((d, undef) :: s) fs os pd R) ∨
       (∃ d v, o.dst = some d ∧ d < N ∧ ef.contains i = false ∧ wtd ops s o = some true ∧ Pu P N s o v ∧ Nf P c N ops n ef p ((d, v) :: s) fs os pd R) ∨
       (∃ d v, o.dst = some d ∧ d < N ∧ ef.contains i = false ∧ wtd ops s o = some true ∧ Qo P c fs os N s o v ∧ Nf P c N ops n ef p ((d, v) :: s) fs os (i :: pd) R) ∨
       (ef.contains i = true ∧ (∀ t, o.dst = some t → t < N) ∧ wtd ops s o = some true ∧ ∃ next, Eo P c fs os N s o next ∧
          ∀ v fs' os', next v fs' os' → (∀ j ∈ pd, anc ops n i j = true ∨ ∃ oj dj vj, ops[j]? = some oj ∧ oj.dst = some dj ∧ lk s dj = some vj ∧ Qo P c fs' os' N s oj vj) ∧
            Nf P c N ops n ef p (addS s o.dst v) fs' os' pd R))
end Go.Sx

namespace Go.Sx
open Go Go.RowKit
theorem tmps_same {a b : Act} {N t : Nat} (ha : a.tmps.size = N) (hb : b.tmps.size = N) (h : a.tmps.getD t undef = b.tmps.getD t undef) : a.tmps[t]? = b.tmps[t]? := by
 rw [Array.getD_eq_getD_getElem?, Array.getD_eq_getD_getElem?] at h
 by_cases ht : t < N
 ·rw [Array.getElem?_eq_getElem (by omega), Array.getElem?_eq_getElem (by omega)] at h ⊢
  simpa using h
 ·rw [Array.getElem?_eq_none (by omega), Array.getElem?_eq_none (by omega)]
theorem agree {ops : Array Oper} {N : Nat} {a b : Act} {o : Oper} (ha : a.tmps.size = N) (hb : b.tmps.size = N) (hsel : ∀ cs x, o.op ≠ .select cs x)
  (h : ∀ t ∈ o.looksAt ops, a.tmps.getD t undef = b.tmps.getD t undef) :
  execOp a.eval o = execOp b.eval o ∧ Region.wanted o (yielded ops a.tmps) = Region.wanted o (yielded ops b.tmps) := by
 constructor
 ·refine execOp_congr o hsel fun x hx => ?_
  cases x with
  | tmp t =>
   refine h t ?_
   unfold Oper.looksAt
   refine List.mem_append.2 (.inl (List.mem_filterMap.2 ⟨.tmp t, by simpa using hx, rfl⟩))
  | _ => rfl
 ·unfold Region.wanted
  cases hg : o.guard with
  | none => rfl
  | some p =>
   obtain ⟨j, want⟩ := p
   simp only
   congr 1
   unfold yielded
   cases hj : (ops[j]?).bind (·.dst) with
   | none => rfl
   | some t =>
    simp only [Option.bind_some]
    rw [tmps_same ha hb (h t ?_)]
    unfold Oper.looksAt
    refine List.mem_append.2 (.inr ?_)
    simp [hg, hj]
theorem anc_listed {ops : Array Oper} {listed : Array Bool} (hc : ∀ i o, listed.getD i false = true → ops[i]? = some o → ∀ e ∈ o.after, Region.binds .any e = true → listed.getD e.on false = true) :
  ∀ (n i j : Nat) (o : Oper), ops[i]? = some o → (∀ e ∈ o.after, Region.binds .any e = true → listed.getD e.on false = true) → anc ops n i j = true → listed.getD j false = true
 | 0, _, _, _, _, _, h => by simp [anc] at h
 | n + 1, i, j, o, ho, hr, h => by
  unfold anc at h
  simp only [ho, Array.any_eq_true, Bool.and_eq_true, Bool.or_eq_true, beq_iff_eq] at h
  obtain ⟨k, hk, hb, h⟩ := h
  have he := hr _ (Array.getElem_mem hk) hb
  rcases h with h | h
  ·rw [← h]; exact he
  ·cases ho' : ops[(o.after[k]).on]? with
   | none =>
    cases n with
    | zero => simp [anc] at h
    | succ n => simp [anc, ho'] at h
   | some o' => exact anc_listed hc n _ j o' ho' (hc _ o' he ho') h
structure GoodN (ops : Array Oper) (n : Nat) (p ef : List Nat) : Prop where
  all : ∀ i, i < ops.size → i ∈ p
  nodup : p.Nodup
  lt : ∀ i ∈ p, i < ops.size
  edge : ∀ q i r, p = q ++ i :: r → ∀ (o : Oper), ops[i]? = some o → ∀ e ∈ o.after, Region.binds .any e = true → e.on ∈ q
  sel : ∀ (i : Nat) (o : Oper), ops[i]? = some o → ∀ cs x, o.op ≠ .select cs x
  uniq : ∀ (i j : Nat) (o oj : Oper) (d : Nat), ops[i]? = some o → ops[j]? = some oj → oj.dst = some d → o.dst = some d → i = j
  look : ∀ (i j : Nat) (o oj : Oper) (d : Nat), ops[i]? = some o → ops[j]? = some oj → oj.dst = some d → d ∈ o.looksAt ops → i ≠ j ∧ anc ops n i j = true
  chain : ∀ q e r, p = q ++ e :: r → ef.contains e = true → ∀ j ∈ r, if ef.contains j = true then anc ops n j e = true else ∃ e' ∈ e :: r, ef.contains e' = true ∧ anc ops n j e' = true
theorem GoodN.of_chk {ops : Array Oper} {n : Nat} {p ef : List Nat} (h : chkN ops n p ef = true) (hn : p.Nodup) : GoodN ops n p ef := by
 unfold chkN at h
 simp only [Bool.and_eq_true, decide_eq_true_eq, List.all_eq_true, List.mem_range] at h
 obtain ⟨⟨⟨⟨h1, h2⟩, h3⟩, h4⟩, h5⟩ := h
 have hat : ∀ (q : List Nat) (i : Nat) (r : List Nat), p = q ++ i :: r → p[q.length]? = some i ∧ q.length < p.length ∧ p.take q.length = q ∧ p.drop (q.length + 1) = r ∧ p.drop q.length = i :: r := by
  rintro q i r rfl
  refine ⟨by simp, by simp, by simp, ?_, by simp⟩
  rw [← List.drop_drop]
  simp
 refine ⟨fun i hi => by simpa using h2 i hi, hn, fun i hi => ?_, fun q i r hp o ho e he hb => ?_, fun i o ho cs x hop => ?_, fun i j o oj d hi hj hd hd' => ?_, fun i j o oj d hi hj hd hl => ?_, fun q e r hp he j hj => ?_⟩
 ·obtain ⟨k, hk, hki⟩ := List.mem_iff_getElem.1 hi
  have := h3 k hk
  rw [List.getElem?_eq_getElem hk, hki] at this
  simp only [Option.bind_some] at this
  cases ho : ops[i]? with
  | none => simp [ho] at this
  | some o => exact (Array.getElem?_eq_some_iff.1 ho).1
 ·obtain ⟨a1, a2, a3, _, _⟩ := hat q i r hp
  have := h3 _ a2
  rw [a1] at this
  simp only [Option.bind_some, ho, Array.all_eq_true_iff_forall_mem, Bool.or_eq_true, Bool.not_eq_true'] at this
  rcases this e he with h | h
  ·rw [hb] at h; cases h
  ·rw [a3] at h; simpa using h
 ·have := h4 i (Array.getElem?_eq_some_iff.1 ho).1
  simp only [ho, Bool.and_eq_true] at this
  rw [hop] at this
  simp at this
 ·have := h4 i (Array.getElem?_eq_some_iff.1 hi).1
  simp only [hi, Bool.and_eq_true, List.all_eq_true, List.mem_range] at this
  have := this.2 j (Array.getElem?_eq_some_iff.1 hj).1
  simp only [hj, hd, Bool.and_eq_true, Bool.or_eq_true, beq_iff_eq, bne_iff_ne] at this
  rcases this.1 with h | h
  ·exact h
  ·exact absurd hd' h
 ·have := h4 i (Array.getElem?_eq_some_iff.1 hi).1
  simp only [hi, Bool.and_eq_true, List.all_eq_true, List.mem_range] at this
  have := this.2 j (Array.getElem?_eq_some_iff.1 hj).1
  simp only [hj, hd, Bool.and_eq_true, Bool.or_eq_true, Bool.not_eq_true', bne_iff_ne] at this
  rcases this.2 with h | h
  ·rw [List.contains_eq_mem] at h; simp [hl] at h
  ·exact h
 ·obtain ⟨a1, a2, _, a4, a5⟩ := hat q e r hp
  have := h5 _ a2
  rw [a1, a4, a5] at this
  simp only [he, Bool.not_true, Bool.false_or, List.all_eq_true] at this
  have := this j hj
  split
  ·rename_i hj'
   simp only [hj', if_true] at this
   exact this
  ·rename_i hj'
   have hj2 : ef.contains j = false := by simpa using hj'
   simp only [hj2, Bool.false_eq_true, if_false, List.any_eq_true, Bool.and_eq_true] at this
   exact this
def dsts (ops : Array Oper) : List Nat := ops.toList.filterMap (·.dst)
def dropS (ds : List Nat) : Slots → Slots
 | [] => []
 | p :: s => bif ds.contains p.1 then dropS ds s else p :: dropS ds s
theorem lk_cons_ne {d t : Nat} {v : Value} {s : Slots} (h : d ≠ t) : lk ((d, v) :: s) t = lk s t := by
 have : Nat.beq d t = false := by
  cases hb : Nat.beq d t
  ·rfl
  ·exact absurd (Nat.eq_of_beq_eq_true hb) h
 simp [lk, this]
theorem lk_cons_eq {d : Nat} {v : Value} {s : Slots} : lk ((d, v) :: s) d = some v := by
 simp [lk]
theorem lk_dropS (ds : List Nat) : ∀ (s : Slots) (t : Nat), lk (dropS ds s) t = if t ∈ ds then none else lk s t
 | [], t => by simp [dropS, lk]
 | p :: s, t => by
  obtain ⟨d, v⟩ := p
  simp only [dropS]
  by_cases hd : d ∈ ds
  ·have : ds.contains d = true := by simpa using hd
   simp only [this, cond_true]
   rw [lk_dropS ds s t]
   by_cases ht : t ∈ ds
   ·simp [ht]
   ·simp only [ht, if_false]
    rw [lk_cons_ne (fun e : d = t => ht (by rw [← e]; exact hd))]
  ·have : ds.contains d = false := by simpa using hd
   simp only [this, cond_false]
   by_cases e : d = t
   ·subst e
    rw [lk_cons_eq]
    simp [hd, lk_cons_eq]
   ·rw [lk_cons_ne e, lk_cons_ne e]
    exact lk_dropS ds s t
end Go.Sx

namespace Go.Sx
open Go Go.RowKit
section
variable {P : Program} {c : Ctx} {N : Nat} {ops : Array Oper} {n : Nat} {ef p0 : List Nat} {R : Slots → List Fact → List Own → Prop} {Q : Exit → Act → World → Prop}
def Stat (P : Program) (c : Ctx) (N : Nat) (ops : Array Oper) (s : Slots) (fs : List Fact) (os : List Own) (pd : List Nat) (b : Act) (i : Nat) : Prop :=
  ∃ o d, ops[i]? = some o ∧ o.dst = some d ∧
    ((wtd ops s o = some false ∧ b.tmps.getD d undef = undef) ∨
     (wtd ops s o = some true ∧ ∃ v, b.tmps.getD d undef = v ∧ lk s d = some v ∧ (Pu P N s o v ∨ (i ∈ pd ∧ Qo P c fs os N s o v))))
structure InvN (P : Program) (c : Ctx) (N : Nat) (ops : Array Oper) (n : Nat) (ef p0 : List Nat) (R : Slots → List Fact → List Own → Prop)
    (listed : Array Bool) (a : Act) (w : World) (q p : List Nat) (s : Slots) (fs : List Fact) (os : List Own) (pd : List Nat) (b : Act) : Prop where
  part : p0 = q ++ p
  sta : Sta c fs os w
  sl : Sl N s b
  size : a.tmps.size = N
  defers : a.defers = []
  outer : ∀ t, (∀ (i : Nat) (o : Oper), ops[i]? = some o → o.dst ≠ some t) → a.tmps.getD t undef = b.tmps.getD t undef
  done : ∀ (i : Nat) (o : Oper) (d : Nat), listed.getD i false = true → ops[i]? = some o → o.dst = some d → a.tmps.getD d undef = b.tmps.getD d undef
  inq : ∀ i, listed.getD i false = true → i ∈ q
  eff : ∀ i, i ∈ q → ef.contains i = true → listed.getD i false = true
  stat : ∀ i, i ∈ q → listed.getD i false = false → Stat P c N ops s fs os pd b i
  fresh : ∀ i, i ∈ p → ∀ (o : Oper) (d : Nat), ops[i]? = some o → o.dst = some d → lk s d = none
  nf : Nf P c N ops n ef p s fs os pd R
  closed : ∀ (i : Nat) (o : Oper), listed.getD i false = true → ops[i]? = some o → ∀ e ∈ o.after, Region.binds .any e = true → listed.getD e.on false = true
  dlt : ∀ i, i ∈ q → ∀ (o : Oper) (d : Nat), ops[i]? = some o → o.dst = some d → d < N
theorem Sl.uncons {d : Nat} {v : Value} {s : Slots} {a : Act} (h : Sl N ((d, v) :: s) a) (hf : lk s d = none) : Sl N s a :=
 h.weak fun t u hu => by
  by_cases e : d = t
  ·subst e; rw [hf] at hu; cases hu
  ·rw [lk_cons_ne e]; exact hu
theorem wtd_cons {d : Nat} {v : Value} {s : Slots} {o : Oper} {b : Bool} (hf : lk s d = none) (h : wtd ops s o = some b) : wtd ops ((d, v) :: s) o = some b := by
 unfold wtd at h ⊢
 cases hg : o.guard with
 | none => simpa [hg] using h
 | some p =>
  obtain ⟨j, want⟩ := p
  simp only [hg] at h ⊢
  cases hj : (ops[j]?).bind (·.dst) with
  | none => simp [hj] at h
  | some t =>
   simp only [hj, Option.bind_some] at h ⊢
   by_cases e : d = t
   ·subst e; rw [hf] at h; cases h
   ·rw [lk_cons_ne e]; exact h
theorem Stat.cons {s : Slots} {fs : List Fact} {os : List Own} {pd pd' : List Nat} {b : Act} {i d : Nat} {v : Value} (h : Stat P c N ops s fs os pd b i) (hf : lk s d = none)
  (hpd : ∀ j, j ∈ pd → j ∈ pd') (hne : ∀ (o : Oper), ops[i]? = some o → o.dst ≠ some d) : Stat P c N ops ((d, v) :: s) fs os pd' (b.put (some d) v) i := by
 obtain ⟨o, d', ho, hd, h⟩ := h
 have hdd : d ≠ d' := fun e => hne o ho (e ▸ hd)
 have hb : (b.put (some d) v).tmps.getD d' undef = b.tmps.getD d' undef := by
  show (b.tmps.setIfInBounds d v).getD d' undef = _
  simp only [Array.getD_eq_getD_getElem?, Array.getElem?_setIfInBounds_ne hdd]
 refine ⟨o, d', ho, hd, ?_⟩
 rcases h with ⟨h1, h2⟩ | ⟨h1, u, h2, h3, h4⟩
 ·exact .inl ⟨wtd_cons hf h1, hb.trans h2⟩
 ·refine .inr ⟨wtd_cons hf h1, u, hb.trans h2, by rw [lk_cons_ne hdd]; exact h3, ?_⟩
  rcases h4 with h4 | ⟨h4, h5⟩
  ·exact .inl fun a w ha => h4 a w (ha.uncons hf)
  ·exact .inr ⟨hpd _ h4, Ex.mk fun a w ha hw => (h5 a w (ha.uncons hf) hw).mono fun v' w' ⟨e, hw'⟩ => ⟨e, hw'⟩⟩
theorem InvN.step (hg : GoodN ops n p0 ef) {listed : Array Bool} {a : Act} {w : World} {q p : List Nat} {s : Slots} {fs : List Fact} {os : List Own} {pd : List Nat} {b : Act} {j : Nat}
  (h : InvN P c N ops n ef p0 R listed a w q (j :: p) s fs os pd b) (hq : ef.contains j = false) :
  ∃ s' pd' b', InvN P c N ops n ef p0 R listed a w (q ++ [j]) p s' fs os pd' b' := by
 have hjq : j ∉ q := by
  have := hg.nodup
  rw [h.part] at this
  rw [List.nodup_append] at this
  exact fun hm => this.2.2 j hm j (by simp) rfl
 have hjl : listed.getD j false = false := by
  cases hl : listed.getD j false with
  | false => rfl
  | true => exact absurd (h.inq j hl) hjq
 -- one form for the three ways
 have key : ∀ (o : Oper) (d : Nat) (v : Value) (pd' : List Nat), ops[j]? = some o → o.dst = some d → d < N → (∀ x, x ∈ pd → x ∈ pd') →
   Stat P c N ops ((d, v) :: s) fs os pd' (b.put (some d) v) j → Nf P c N ops n ef p ((d, v) :: s) fs os pd' R → ∃ s' pd' b', InvN P c N ops n ef p0 R listed a w (q ++ [j]) p s' fs os pd' b' := by
  intro o d v pd' ho hd hN hpd hst hnf
  have hf : lk s d = none := h.fresh j (by simp) o d ho hd
  have hother : ∀ (i : Nat) (oi : Oper), i ≠ j → ops[i]? = some oi → oi.dst ≠ some d := fun i oi hne hi he => hne (hg.uniq i j oi o d hi ho hd he)
  have hb : ∀ t, t ≠ d → (b.put (some d) v).tmps.getD t undef = b.tmps.getD t undef := fun t ht => by
   show (b.tmps.setIfInBounds d v).getD t undef = _
   simp only [Array.getD_eq_getD_getElem?, Array.getElem?_setIfInBounds_ne (fun e => ht e.symm)]
  refine ⟨_, _, b.put (some d) v, ⟨by rw [h.part]; simp, h.sta, h.sl.put v hN, h.size, h.defers, fun t ht => ?_, fun i oi di hi hoi hdi => ?_, fun i hi => ?_, fun i hi he => ?_, fun i hi hl => ?_, fun i hi oi di hoi hdi => ?_, hnf, h.closed, fun i hi oi di hoi hdi => ?_⟩⟩
  ·rw [hb t (fun e : t = d => ht j o ho (by rw [e]; exact hd))]; exact h.outer t ht
  ·rw [hb di (fun e : di = d => hother i oi (fun e' => by subst e'; rw [hjl] at hi; cases hi) hoi (by rw [← e]; exact hdi))]
   exact h.done i oi di hi hoi hdi
  ·exact List.mem_append.2 (.inl (h.inq i hi))
  ·rcases List.mem_append.1 hi with hi | hi
   ·exact h.eff i hi he
   ·simp at hi; subst hi; rw [hq] at he; cases he
  ·rcases List.mem_append.1 hi with hi | hi
   ·exact (h.stat i hi hl).cons hf hpd fun oi hoi => hother i oi (fun e => hjq (e ▸ hi)) hoi
   ·simp at hi; subst hi; exact hst
  ·have hne : i ≠ j := by
    have := hg.nodup
    rw [h.part, List.nodup_append] at this
    have h2 := this.2.1
    rw [List.nodup_cons] at h2
    exact fun e => h2.1 (e ▸ hi)
   rw [lk_cons_ne (fun e : d = di => hother i oi hne hoi (by rw [e]; exact hdi))]
   exact h.fresh i (List.mem_cons_of_mem _ hi) oi di hoi hdi
  ·rcases List.mem_append.1 hi with hi | hi
   ·exact h.dlt i hi oi di hoi hdi
   ·simp at hi; subst hi; rw [hoi] at ho; cases ho; rw [hdi] at hd; cases hd; exact hN
 have hbd : ∀ (d : Nat) (v : Value), d < N → (b.put (some d) v).tmps.getD d undef = v := fun d v hN => by
  show (b.tmps.setIfInBounds d v).getD d undef = _
  have := h.sl.size
  simp [Array.getD_eq_getD_getElem?, this, hN]
 obtain ⟨o, ho, hcase⟩ := h.nf
 rcases hcase with ⟨d, hd, hN, _, hw, hnf⟩ | ⟨d, v, hd, hN, _, hw, hpu, hnf⟩ | ⟨d, v, hd, hN, _, hw, hqo, hnf⟩ | ⟨he, _⟩
 ·have hf : lk s d = none := h.fresh j (by simp) o d ho hd
  exact key o d undef pd ho hd hN (fun _ h => h) ⟨o, d, ho, hd, .inl ⟨wtd_cons hf hw, hbd d undef hN⟩⟩ hnf
 ·have hf : lk s d = none := h.fresh j (by simp) o d ho hd
  exact key o d v pd ho hd hN (fun _ h => h) ⟨o, d, ho, hd, .inr ⟨wtd_cons hf hw, v, hbd d v hN, lk_cons_eq, .inl fun a w ha => hpu a w (ha.uncons hf)⟩⟩ hnf
 ·have hf : lk s d = none := h.fresh j (by simp) o d ho hd
  exact key o d v (j :: pd) ho hd hN (fun _ h => List.mem_cons_of_mem _ h)
   ⟨o, d, ho, hd, .inr ⟨wtd_cons hf hw, v, hbd d v hN, lk_cons_eq, .inr ⟨by simp, Ex.mk fun a w ha hw' => hqo a w (ha.uncons hf) hw'⟩⟩⟩ hnf
 ·rw [hq] at he; cases he
end
end Go.Sx

namespace Go.Sx
open Go Go.RowKit
def unl (listed : Array Bool) : Nat → Nat
 | 0 => 0
 | n + 1 => unl listed n + if listed.getD n false then 0 else 1
theorem unl_set (listed : Array Bool) (i : Nat) (h : listed.getD i false = false) (hs : i < listed.size) :
  ∀ n, unl (listed.setIfInBounds i true) n + (if i < n then 1 else 0) = unl listed n
 | 0 => by simp [unl]
 | n + 1 => by
  have ih := unl_set listed i h hs n
  unfold unl
  by_cases e : i = n
  ·subst e
   have h1 : (listed.setIfInBounds i true).getD i false = true := by simp [Array.getD_eq_getD_getElem?, hs]
   rw [h1, h]
   simp at ih ⊢
   omega
  ·have h1 : (listed.setIfInBounds i true).getD n false = listed.getD n false := by simp [Array.getD_eq_getD_getElem?, Array.getElem?_setIfInBounds_ne e]
   rw [h1]
   by_cases hlt : i < n
   ·simp [hlt] at ih; simp [show i < n + 1 by omega]; omega
   ·simp [hlt] at ih; simp [show ¬ i < n + 1 by omega]; omega
theorem unl_zero (listed : Array Bool) : ∀ n, unl listed n = 0 → ∀ i, i < n → listed.getD i false = true
 | 0, _, _, hi => absurd hi (Nat.not_lt_zero _)
 | n + 1, h, i, hi => by
  unfold unl at h
  by_cases e : i = n
  ·subst e
   by_cases hl : listed.getD i false = true
   ·exact hl
   ·simp [hl] at h
  ·exact unl_zero listed n (by omega) i (by omega)
theorem first_of {p : Nat → Prop} [DecidablePred p] : ∀ (l : List Nat), (∃ x ∈ l, ¬ p x) → ∃ q i r, l = q ++ i :: r ∧ ¬ p i ∧ ∀ y ∈ q, p y
 | [], h => by obtain ⟨x, hx, _⟩ := h; cases hx
 | x :: l, h => by
  by_cases hx : p x
  ·obtain ⟨y, hy, hny⟩ := h
   have hy' : y ∈ l := by
    rcases List.mem_cons.1 hy with rfl | h
    ·exact absurd hx hny
    ·exact h
   obtain ⟨q, i, r, e, hi, hq⟩ := first_of l ⟨y, hy', hny⟩
   refine ⟨x :: q, i, r, by rw [e]; rfl, hi, fun z hz => ?_⟩
   rcases List.mem_cons.1 hz with rfl | h
   ·exact hx
   ·exact hq z h
  ·exact ⟨[], x, l, rfl, hx, fun y hy => by cases hy⟩
section
variable {P : Program} {c : Ctx} {N : Nat} {ops : Array Oper} {n : Nat} {ef p0 : List Nat} {R : Slots → List Fact → List Own → Prop} {Q : Exit → Act → World → Prop}
theorem InvN.disj (hg : GoodN ops n p0 ef) {listed : Array Bool} {a : Act} {w : World} {q p : List Nat} {s : Slots} {fs : List Fact} {os : List Own} {pd : List Nat} {b : Act}
  (h : InvN P c N ops n ef p0 R listed a w q p s fs os pd b) {j : Nat} (hj : j ∈ p) : j ∉ q ∧ listed.getD j false = false := by
 have := hg.nodup
 rw [h.part, List.nodup_append] at this
 have hjq : j ∉ q := fun hm => this.2.2 j hm j hj rfl
 refine ⟨hjq, ?_⟩
 cases hl : listed.getD j false with
 | false => rfl
 | true => exact absurd (h.inq j hl) hjq
theorem InvN.adv (hg : GoodN ops n p0 ef) {listed : Array Bool} {a : Act} {w : World} {i : Nat} {o : Oper} (ho : ops[i]? = some o)
  (hr : ∀ e ∈ o.after, Region.binds .any e = true → listed.getD e.on false = true) :
  ∀ (p q : List Nat) (s : Slots) (fs : List Fact) (os : List Own) (pd : List Nat) (b : Act), InvN P c N ops n ef p0 R listed a w q p s fs os pd b → i ∈ p →
   ∃ q' p' s' pd' b', InvN P c N ops n ef p0 R listed a w q' p' s' fs os pd' b' ∧ (ef.contains i = false → i ∈ q') ∧ (ef.contains i = true → ∃ r, p' = i :: r)
 | [], _, _, _, _, _, _, _, hi => by cases hi
 | j :: p, q, s, fs, os, pd, b, h, hi => by
  cases hej : ef.contains j with
  | true =>
   by_cases e : i = j
   ·subst e
    exact ⟨q, _, s, pd, b, h, (fun h' => by rw [hej] at h'; cases h'), fun _ => ⟨p, rfl⟩⟩
   ·have hip : i ∈ p := by
     rcases List.mem_cons.1 hi with h' | h'
     ·exact absurd h' e
     ·exact h'
    have hc := hg.chain q j p h.part hej i hip
    have key : ∀ e', e' ∈ j :: p → anc ops n i e' = true → False := fun e' he' ha => by
     have := anc_listed h.closed n i e' o ho hr ha
     rw [(h.disj hg he').2] at this
     cases this
    split at hc
    ·exact (key j (by simp) hc).elim
    ·obtain ⟨e', he', _, ha⟩ := hc
     exact (key e' he' ha).elim
  | false =>
   obtain ⟨s', pd', b', h'⟩ := h.step hg hej
   by_cases e : i = j
   ·subst e
    exact ⟨_, _, s', pd', b', h', (fun _ => by simp), (fun h' => by rw [hej] at h'; cases h')⟩
   ·have hip : i ∈ p := by
     rcases List.mem_cons.1 hi with h' | h'
     ·exact absurd h' e
     ·exact h'
    exact InvN.adv hg ho hr p _ s' fs os pd' b' h' hip
theorem InvN.agree (hg : GoodN ops n p0 ef) {listed : Array Bool} {a : Act} {w : World} {q p : List Nat} {s : Slots} {fs : List Fact} {os : List Own} {pd : List Nat} {b : Act}
  (h : InvN P c N ops n ef p0 R listed a w q p s fs os pd b) {i : Nat} {o : Oper} (ho : ops[i]? = some o)
  (hr : ∀ e ∈ o.after, Region.binds .any e = true → listed.getD e.on false = true) :
  execOp a.eval o = execOp b.eval o ∧ Region.wanted o (yielded ops a.tmps) = Region.wanted o (yielded ops b.tmps) := by
 refine Sx.agree h.size h.sl.size (hg.sel i o ho) fun t ht => ?_
 by_cases hd : ∃ (j : Nat) (oj : Oper), ops[j]? = some oj ∧ oj.dst = some t
 ·obtain ⟨j, oj, hj, hdj⟩ := hd
  exact h.done j oj t (anc_listed h.closed n i j o ho hr (hg.look i j o oj t ho hj hdj ht).2) hj hdj
 ·exact h.outer t fun j oj hj hdj => hd ⟨j, oj, hj, hdj⟩
theorem getD_put_ne {a : Act} {d : Nat} {v : Value} {t : Nat} (h : t ≠ d) : (a.put (some d) v).tmps.getD t undef = a.tmps.getD t undef := by
 show (a.tmps.setIfInBounds d v).getD t undef = _
 simp only [Array.getD_eq_getD_getElem?, Array.getElem?_setIfInBounds_ne (fun e => h e.symm)]
theorem getD_put_eq {a : Act} {d : Nat} {v : Value} (h : d < a.tmps.size) : (a.put (some d) v).tmps.getD d undef = v := by
 show (a.tmps.setIfInBounds d v).getD d undef = _
 simp [Array.getD_eq_getD_getElem?, h]
theorem listed_set {listed : Array Bool} {i j : Nat} (hs : i < listed.size) : (listed.setIfInBounds i true).getD j false = true ↔ j = i ∨ listed.getD j false = true := by
 by_cases e : j = i
 ·subst e; simp [Array.getD_eq_getD_getElem?, hs]
 ·simp only [e, false_or]
  simp only [Array.getD_eq_getD_getElem?, Array.getElem?_setIfInBounds_ne (fun h => e h.symm)]
theorem InvN.run (_hg : GoodN ops n p0 ef) {listed : Array Bool} {a : Act} {w w' : World} {q p : List Nat} {s : Slots} {fs : List Fact} {os : List Own} {pd : List Nat} {b : Act}
  (h : InvN P c N ops n ef p0 R listed a w q p s fs os pd b) {i d : Nat} {o : Oper} {v : Value} (hs : i < listed.size) (ho : ops[i]? = some o) (hd : o.dst = some d) (hN : d < N) (hv : b.tmps.getD d undef = v) (hq : i ∈ q)
  (hr : ∀ e ∈ o.after, Region.binds .any e = true → listed.getD e.on false = true) (hw : Sta c fs os w') :
  InvN P c N ops n ef p0 R (listed.setIfInBounds i true) (a.put (some d) v) w' q p s fs os pd b where
 part := h.part
 sta := hw
 sl := h.sl
 size := by simp [Act.put, h.size]
 defers := h.defers
 outer := fun t ht => by rw [getD_put_ne (fun e : t = d => ht i o ho (by rw [e]; exact hd))]; exact h.outer t ht
 done := fun j oj dj hj hoj hdj => by
  by_cases e : dj = d
  ·subst e
   rw [getD_put_eq (by rw [h.size]; exact hN)]
   exact hv.symm
  ·rw [getD_put_ne e]
   rcases (listed_set hs).1 hj with rfl | hj
   ·rw [hoj] at ho; cases ho; rw [hd] at hdj; cases hdj; exact absurd rfl e
   ·exact h.done j oj dj hj hoj hdj
 inq := fun j hj => by
  rcases (listed_set hs).1 hj with rfl | hj
  ·exact hq
  ·exact h.inq j hj
 eff := fun j hj he => (listed_set hs).2 (.inr (h.eff j hj he))
 stat := fun j hj hl => h.stat j hj (by
  cases hlj : listed.getD j false with
  | false => rfl
  | true => rw [(listed_set hs).2 (.inr hlj)] at hl; cases hl)
 fresh := h.fresh
 nf := h.nf
 closed := fun j oj hj hoj e he hb => by
  rcases (listed_set hs).1 hj with rfl | hj
  ·rw [hoj] at ho; cases ho; exact (listed_set hs).2 (.inr (hr e he hb))
  ·exact (listed_set hs).2 (.inr (h.closed j oj hj hoj e he hb))
 dlt := h.dlt
theorem InvN.all (hg : GoodN ops n p0 ef) {listed : Array Bool} {a : Act} {w : World} {q p : List Nat} {s : Slots} {fs : List Fact} {os : List Own} {pd : List Nat} {b : Act}
  (hR : ∀ s fs os, R s fs os → ∀ a w, Sl N s a → Sta c fs os w → Q .normal a w)
  (h : InvN P c N ops n ef p0 R listed a w q p s fs os pd b) (hl : ∀ i, i < ops.size → listed.getD i false = true) : Q .normal a w := by
 cases p with
 | cons j p =>
  have := (h.disj hg (j := j) (by simp)).2
  rw [hl j (hg.lt j (by rw [h.part]; simp))] at this
  cases this
 | nil =>
  refine hR s fs os h.nf a w ⟨h.size, h.defers, fun t v hv => ?_⟩ h.sta
  rw [← h.sl.get t v hv]
  by_cases hd : ∃ (j : Nat) (oj : Oper), ops[j]? = some oj ∧ oj.dst = some t
  ·obtain ⟨j, oj, hj, hdj⟩ := hd
   exact h.done j oj t (hl j (Array.getElem?_eq_some_iff.1 hj).1) hj hdj
  ·exact h.outer t fun j oj hj hdj => hd ⟨j, oj, hj, hdj⟩
theorem Nf.any (hg : GoodN ops n p0 ef) (hR : ∀ s fs os, R s fs os → ∀ a w, Sl N s a → Sta c fs os w → Q .normal a w) :
  ∀ (fuel : Nat) (listed : Array Bool) (a : Act) (w : World) (q p : List Nat) (s : Slots) (fs : List Fact) (os : List Own) (pd : List Nat) (b : Act),
   InvN P c N ops n ef p0 R listed a w q p s fs os pd b → listed.size = ops.size → unl listed ops.size ≤ fuel → wpAny P .any ops Q fuel listed a w := by
 have getD_tf : ∀ (listed : Array Bool) (i : Nat), i < listed.size → listed.getD i true = listed.getD i false := fun listed i hi => by
  simp [Array.getD_eq_getD_getElem?, Array.getElem?_eq_getElem hi]
 intro fuel
 induction fuel with
 | zero =>
  intro listed a w q p s fs os pd b h hsz hu
  have hl := unl_zero listed ops.size (by omega)
  refine ⟨?_, h.all hg hR hl⟩
  refine List.eq_nil_iff_forall_not_mem.2 fun i hi => ?_
  obtain ⟨h1, o, ho, _⟩ := mem_ready.1 hi
  have hlt := (Array.getElem?_eq_some_iff.1 ho).1
  rw [getD_tf listed i (by omega), hl i hlt] at h1
  cases h1
 | succ fuel ih =>
  intro listed a w q p s fs os pd b h hsz hu
  refine ⟨fun hnil => ?_, fun i hi => ?_⟩
  ·refine h.all hg hR fun i hi => ?_
   cases hl : listed.getD i false with
   | true => rfl
   | false =>
    exfalso
    obtain ⟨q1, j, r, e, hj, hq1⟩ := first_of (p := fun x => listed.getD x false = true) p0 ⟨i, hg.all i hi, by rw [hl]; simp⟩
    have hjlt := hg.lt j (by rw [e]; simp)
    have hoj := Array.getElem?_eq_getElem hjlt
    have : j ∈ Region.ready .any ops listed := mem_ready.2 ⟨by rw [getD_tf listed j (by omega)]; simpa using hj, _, hoj, fun x hx hb => hq1 _ (hg.edge q1 j r e _ hoj x hx hb)⟩
    rw [hnil] at this
    cases this
  ·obtain ⟨h1, o, ho, hr⟩ := mem_ready.1 hi
   have hlt := (Array.getElem?_eq_some_iff.1 ho).1
   have hls : i < listed.size := by omega
   rw [getD_tf listed i hls] at h1
   have hu' : unl (listed.setIfInBounds i true) ops.size ≤ fuel := by
    have := unl_set listed i h1 hls ops.size
    rw [if_pos hlt] at this
    omega
   have hsz' : (listed.setIfInBounds i true).size = ops.size := by simpa using hsz
   have hip0 : i ∈ q ++ p := by rw [← h.part]; exact hg.all i hlt
   unfold wpOp
   simp only [ho]
   cases hei : ef.contains i with
   | false =>
    obtain ⟨q', p', s', pd', b', h', hiq⟩ : ∃ q' p' s' pd' b', InvN P c N ops n ef p0 R listed a w q' p' s' fs os pd' b' ∧ i ∈ q' := by
     rcases List.mem_append.1 hip0 with hm | hm
     ·exact ⟨q, p, s, pd, b, h, hm⟩
     ·obtain ⟨q', p', s', pd', b', h', h2, _⟩ := InvN.adv hg ho hr p q s fs os pd b h hm
      exact ⟨q', p', s', pd', b', h', h2 hei⟩
    obtain ⟨he, hw⟩ := h'.agree hg ho hr
    obtain ⟨o', d, ho', hd, hst⟩ := h'.stat i hiq h1
    rw [ho] at ho'
    cases ho'
    rcases hst with ⟨hwf, hv⟩ | ⟨hwt, v, hv, hlk, hst⟩
    ·have hN : d < N := h'.dlt i hiq o d ho hd
     rw [hw, wtd_ok h'.sl hwf, hd]
     simp only [Bool.false_eq_true, if_false]
     exact ih _ _ _ _ _ _ _ _ _ _ (h'.run hg hls ho hd hN hv hiq hr h'.sta) hsz' hu'
    ·have hN : d < N := h'.dlt i hiq o d ho hd
     rw [hw, wtd_ok h'.sl hwt]
     simp only [if_true]
     refine .inl ?_
     rcases hst with hpu | ⟨_, hqo⟩
     ·refine Outc.wp (R := fun v' w' => v' = v ∧ w' = w) (by rw [he, hpu b' w h'.sl]; exact ⟨rfl, rfl⟩) ?_
      rintro v' w' ⟨rfl, rfl⟩
      rw [hd]
      exact ih _ _ _ _ _ _ _ _ _ _ (h'.run hg hls ho hd hN hv hiq hr h'.sta) hsz' hu'
     ·refine Outc.wp (R := fun v' w' => v' = v ∧ Sta c fs os w') (by rw [he]; exact hqo b' w h'.sl h'.sta) ?_
      rintro v' w' ⟨rfl, hw'⟩
      rw [hd]
      exact ih _ _ _ _ _ _ _ _ _ _ (h'.run hg hls ho hd hN hv hiq hr hw') hsz' hu'
   | true =>
    have hiq : i ∉ q := fun hm => by rw [h.eff i hm hei] at h1; cases h1
    have hip : i ∈ p := by
     rcases List.mem_append.1 hip0 with hm | hm
     ·exact absurd hm hiq
     ·exact hm
    obtain ⟨q', p', s', pd', b', h', _, hpe⟩ := InvN.adv hg ho hr p q s fs os pd b h hip
    obtain ⟨r, rfl⟩ := hpe hei
    obtain ⟨he, hw⟩ := h'.agree hg ho hr
    obtain ⟨o', ho', hcase⟩ := h'.nf
    rw [ho] at ho'
    cases ho'
    rcases hcase with ⟨_, _, _, hb, _⟩ | ⟨_, _, _, _, hb, _⟩ | ⟨_, _, _, _, hb, _⟩ | ⟨_, hdN, hwt, next, hex, hnext⟩
    ·rw [hei] at hb; cases hb
    ·rw [hei] at hb; cases hb
    ·rw [hei] at hb; cases hb
    ·rw [hw, wtd_ok h'.sl hwt]
     simp only [if_true]
     refine .inl (Outc.wp (R := fun v w' => ∃ fs' os', next v fs' os' ∧ Sta c fs' os' w') (by rw [he]; exact hex.go b' w h'.sl h'.sta) ?_)
     rintro v w' ⟨fs', os', hn, hw'⟩
     obtain ⟨hpd, hnf⟩ := hnext v fs' os' hn
     have hiq' := (h'.disj hg (j := i) (by simp)).1
     have hir : i ∉ r := by
      have := hg.nodup
      rw [h'.part, List.nodup_append, List.nodup_cons] at this
      exact this.2.1.1
     -- what stands open stays so
     have hold : ∀ j, j ∈ q' → listed.getD j false = false → Stat P c N ops s' fs' os' pd' b' j := fun j hj hl => by
      obtain ⟨oj, dj, hoj, hdj, hst⟩ := h'.stat j hj hl
      refine ⟨oj, dj, hoj, hdj, ?_⟩
      rcases hst with h0 | ⟨hwj, v, hv, hlk, hp | ⟨hm, _⟩⟩
      ·exact .inl h0
      ·exact .inr ⟨hwj, v, hv, hlk, .inl hp⟩
      ·rcases hpd j hm with ha | ⟨oj', dj', vj, hoj', hdj', hlj, hqo⟩
       ·have := anc_listed h'.closed n i j o ho hr ha
        rw [hl] at this
        cases this
       ·rw [hoj] at hoj'; cases hoj'; rw [hdj] at hdj'; cases hdj'
        rw [hlk] at hlj
        cases hlj
        exact .inr ⟨hwj, v, hv, hlk, .inr ⟨hm, hqo⟩⟩
     refine ih _ _ _ (q' ++ [i]) r (addS s' o.dst v) fs' os' pd' (b'.put o.dst v) ?_ hsz' hu'
     have hother : ∀ (j : Nat) (oj : Oper) (d : Nat), o.dst = some d → j ≠ i → ops[j]? = some oj → oj.dst ≠ some d := fun j oj d hd hne hj hdj => hne (hg.uniq j i oj o d hj ho hd hdj)
     refine ⟨by rw [h'.part]; simp, hw', h'.sl.addS v hdN, ?_, ?_, fun t ht => ?_, fun j oj dj hj hoj hdj => ?_, fun j hj => ?_, fun j hj hej => ?_, fun j hj hl => ?_, fun j hj oj dj hoj hdj => ?_, hnf, fun j oj hj hoj x hx hb => ?_, fun j hj oj dj hoj hdj => ?_⟩
     ·cases o.dst <;> simp [Act.put, h'.size]
     ·cases o.dst <;> simp [Act.put, h'.defers]
     ·cases hd : o.dst with
      | none => exact h'.outer t ht
      | some d =>
       have hne : t ≠ d := fun e => ht i o ho (by rw [e]; exact hd)
       rw [getD_put_ne hne, getD_put_ne hne]
       exact h'.outer t ht
     ·cases hd : o.dst with
      | none =>
       rcases (listed_set hls).1 hj with rfl | hj
       ·rw [hoj] at ho; cases ho; rw [hd] at hdj; cases hdj
       ·exact h'.done j oj dj hj hoj hdj
      | some d =>
       by_cases e : dj = d
       ·subst e
        rw [getD_put_eq (by rw [h'.size]; exact hdN _ hd), getD_put_eq (by rw [h'.sl.size]; exact hdN _ hd)]
       ·rw [getD_put_ne e, getD_put_ne e]
        rcases (listed_set hls).1 hj with rfl | hj
        ·rw [hoj] at ho; cases ho; rw [hd] at hdj; cases hdj; exact absurd rfl e
        ·exact h'.done j oj dj hj hoj hdj
     ·rcases (listed_set hls).1 hj with rfl | hj
      ·simp
      ·exact List.mem_append.2 (.inl (h'.inq j hj))
     ·rcases List.mem_append.1 hj with hj | hj
      ·exact (listed_set hls).2 (.inr (h'.eff j hj hej))
      ·simp at hj; subst hj; exact (listed_set hls).2 (.inl rfl)
     ·have hne : j ≠ i := fun e => by rw [(listed_set hls).2 (.inl e)] at hl; cases hl
      have hjq : j ∈ q' := by
       rcases List.mem_append.1 hj with hj | hj
       ·exact hj
       ·simp at hj; exact absurd hj hne
      have hlj : listed.getD j false = false := by
       cases hlj : listed.getD j false with
       | false => rfl
       | true => rw [(listed_set hls).2 (.inr hlj)] at hl; cases hl
      cases hd : o.dst with
      | none => exact hold j hjq hlj
      | some d => exact (hold j hjq hlj).cons (h'.fresh i (by simp) o d ho hd) (fun _ h => h) fun oj hoj => hother j oj d hd hne hoj
     ·have hne : j ≠ i := fun e => hir (e ▸ hj)
      cases hd : o.dst with
      | none => exact h'.fresh j (List.mem_cons_of_mem _ hj) oj dj hoj hdj
      | some d =>
       show lk ((d, v) :: s') dj = none
       rw [lk_cons_ne (fun e : d = dj => hother j oj d hd hne hoj (by rw [e]; exact hdj))]
       exact h'.fresh j (List.mem_cons_of_mem _ hj) oj dj hoj hdj
     ·rcases (listed_set hls).1 hj with rfl | hj
      ·rw [hoj] at ho; cases ho; exact (listed_set hls).2 (.inr (hr x hx hb))
      ·exact (listed_set hls).2 (.inr (h'.closed j oj hj hoj x hx hb))
     ·rcases List.mem_append.1 hj with hj | hj
      ·exact h'.dlt j hj oj dj hoj hdj
      ·simp at hj; subst hj; rw [hoj] at ho; cases ho; exact hdN _ hdj
end
end Go.Sx

namespace Go.Sx
open Go Go.RowKit
theorem St.world {c : Ctx} {fs : List Fact} {os : List Own} {w w' : World} {I S : Blks} (h : St c fs os w I S) (hh : w'.heap = w.heap) (ho : w'.os = w.os) (ht : TD w w') (hout : w'.output = w.output) : St c fs os w' I S where
 facts := fun f hf => f.keep (h.facts f hf) (fun b _ => by rw [hh]) (fun _ h => h)
 own := h.own.keep (fun b _ => by rw [hh]) (fun b _ => by rw [hh]) (fun _ h => h) (fun _ h => h)
 dj := h.dj
 ilt := fun b hb => by rw [hh]; exact h.ilt b hb
 slt := fun b hb => by rw [hh]; exact h.slt b hb
 inew := h.inew
 snew := h.snew
 i0 := h.i0
 frm := ⟨ho.trans h.frm.os, ht.l.trans h.frm.tape, hout.trans h.frm.output, by rw [hh]; exact h.frm.size, fun b hb hx => by rw [hh]; exact h.frm.block b hb hx⟩
theorem Sta.drew {c : Ctx} {fs : List Fact} {os : List Own} {w : World} (h : Sta c fs os w) : Sta c fs os { w with drawn := w.drawn + 1 } := by
 obtain ⟨I, S, h⟩ := h
 exact ⟨I, S, h.world rfl rfl ⟨rfl, Nat.le_succ _⟩ rfl⟩
theorem dropS_lk {ds : List Nat} {s : Slots} {t : Nat} {v : Value} (h : lk (dropS ds s) t = some v) : lk s t = some v := by
 rw [lk_dropS] at h
 split at h
 ·cases h
 ·exact h
section
variable {P : Program} {c : Ctx} {N : Nat} {s : Slots} {fs : List Fact} {os : List Own} {Q : Exit → Act → World → Prop}
def Tr (P : Program) (c : Ctx) (N : Nat) (Q : Exit → Act → World → Prop) (code : Code) (s : Slots) (fs : List Fact) (os : List Own) : Prop :=
 ∀ a w, Sl N s a → Sta c fs os w → code.wp P Q a w
theorem Tr.draw {id : Nat} {ops : Array Oper} (n : Nat) (p ef : List Nat) (R : Slots → List Fact → List Own → Prop) (hm : P.follows .mixedOrders = true) (hc : chkN ops n p ef = true) (hn : p.Nodup)
  (hR : ∀ s fs os, R s fs os → ∀ a w, Sl N s a → Sta c fs os w → Q .normal a w)
  (h : Nf P c N ops n ef p (dropS (dsts ops) s) fs os [] R) : Tr P c N Q (.region id ops true) s fs os := by
 intro a w hs hw
 refine wp_region_any hm ?_
 have hg := GoodN.of_chk hc hn
 have hrep : ∀ i, (Array.replicate ops.size false).getD i false = false := fun i => by
  simp only [Array.getD_eq_getD_getElem?, Array.getElem?_replicate]
  split <;> rfl
 refine Nf.any hg hR ops.size _ a _ [] p (dropS (dsts ops) s) fs os [] a ?_ (by simp) ?_
 ·refine ⟨rfl, hw.drew, hs.weak fun t v hv => dropS_lk hv, hs.size, hs.defers, fun _ _ => rfl, fun _ _ _ _ _ _ => rfl, fun i hi => ?_, (fun i hi => by cases hi), (fun i hi => by cases hi), fun i hi o d ho hd => ?_, h, fun i o hi => ?_, (fun i hi => by cases hi)⟩
  ·rw [hrep] at hi; cases hi
  ·rw [lk_dropS]
   have : d ∈ dsts ops := List.mem_filterMap.2 ⟨o, by
    obtain ⟨hlt, he⟩ := Array.getElem?_eq_some_iff.1 ho
    rw [← he]
    exact Array.mem_toList_iff.2 (Array.getElem_mem hlt), hd⟩
   simp [this]
  ·rw [hrep] at hi; cases hi
 ·have : ∀ n, unl (Array.replicate ops.size false) n = n := fun n => by
   induction n with
   | zero => rfl
   | succ n ih => unfold unl; rw [ih, hrep]; rfl
  rw [this]
  exact Nat.le_refl _
theorem Tr.region {id : Nat} {l : List Oper} (h : Rg P c N l.toArray Q l s fs os) : Tr P c N Q (.region id l.toArray false) s fs os :=
 fun a w hs hw => wp_region_lit (h a w hs hw)
theorem Tr.seq {x y : Code} (h : Tr P c N (Exit.then (fun a w => y.wp P Q a w) Q) x s fs os) : Tr P c N Q (.seq x y) s fs os :=
 fun a w hs hw => wp_seq (h a w hs hw)
theorem Tr.mid {x y : Code} {ι : Type} (s' : ι → Slots) (fs' : ι → List Fact) (os' : ι → List Own)
  (h : Tr P c N (Exit.then (fun a w => ∃ i, Sl N (s' i) a ∧ Sta c (fs' i) (os' i) w) Q) x s fs os)
  (k : ∀ i, Tr P c N Q y (s' i) (fs' i) (os' i)) : Tr P c N Q (.seq x y) s fs os :=
 fun a w hs hw => wp_seq (wp_mono (h a w hs hw) fun e a w hq => by
  cases e <;> first
   | exact hq
   | (obtain ⟨i, hs, hw⟩ := hq; exact k i a w hs hw))
theorem Tr.skip (h : ∀ a w, Sl N s a → Sta c fs os w → Q .normal a w) : Tr P c N Q .skip s fs os := fun a w hs hw => wp_skip (h a w hs hw)
theorem Tr.ret (h : ∀ a w, Sl N s a → Sta c fs os w → Q .ret a w) : Tr P c N Q .ret s fs os := fun a w hs hw => wp_ret (h a w hs hw)
theorem Tr.exit {id : Nat} (h : ∀ a w, Sl N s a → Sta c fs os w → Q (.exit id) a w) : Tr P c N Q (.exit id) s fs os := fun a w hs hw => wp_exit (h a w hs hw)
theorem Tr.block {id : Nat} {x : Code} (h : Tr P c N (Exit.inBlock id Q) x s fs os) : Tr P c N Q (.block id x) s fs os := fun a w hs hw => wp_block (h a w hs hw)
theorem Tr.cond {o : Operand} {x y : Code} {b : Bool} (ho : ev s o = some (.bool b)) (ht : b = true → Tr P c N Q x s fs os) (hf : b = false → Tr P c N Q y s fs os) : Tr P c N Q (.cond o x y) s fs os :=
 fun a w hs hw => wp_cond_split (hs.ev ho) (fun h => ht h a w hs hw) (fun h => hf h a w hs hw)
theorem Tr.condT {o : Operand} {x y : Code} (ho : ev s o = some (.bool true)) (h : Tr P c N Q x s fs os) : Tr P c N Q (.cond o x y) s fs os :=
 fun a w hs hw => wp_cond_true (hs.ev ho) (h a w hs hw)
theorem Tr.condF {o : Operand} {x y : Code} (ho : ev s o = some (.bool false)) (h : Tr P c N Q y s fs os) : Tr P c N Q (.cond o x y) s fs os :=
 fun a w hs hw => wp_cond_false (hs.ev ho) (h a w hs hw)
theorem Tr.loop {body : Code} {ι : Type} (i0 : ι) (s' : ι → Slots) (fs' : ι → List Fact) (os' : ι → List Own) (μ : ι → Nat)
  (h0 : ∀ a w, Sl N s a → Sta c fs os w → Sl N (s' i0) a ∧ Sta c (fs' i0) (os' i0) w)
  (round : ∀ i, Tr P c N (Exit.then (fun a w => ∃ j, μ j < μ i ∧ Sl N (s' j) a ∧ Sta c (fs' j) (os' j) w) Q) body (s' i) (fs' i) (os' i)) :
  Tr P c N Q (.loop body) s fs os := by
 intro a w hs hw b k cs
 have key : ∀ m i, μ i = m → ∀ a w, Sl N (s' i) a → Sta c (fs' i) (os' i) w →
   ∃ e a' w', Q e a' w' ∧ Arrives P (lone (b.at a (.code body :: .inLoop body :: k)) cs w) b k cs e a' w' := by
  intro m
  induction m using Nat.strongRecOn with
  | _ m ih =>
   intro i hi a w hs hw
   obtain ⟨e, a₁, w₁, hq, harr⟩ := round i a w hs hw b (.inLoop body :: k) cs
   cases e with
   | normal =>
    obtain ⟨j, hlt, hs1, hw1⟩ := hq
    obtain ⟨e₂, a₂, w₂, hq₂, harr₂⟩ := ih (μ j) (by omega) j rfl a₁ w₁ hs1 hw1
    exact ⟨e₂, a₂, w₂, hq₂, .of_steps (Steps.trans harr (.one step_inLoop)) harr₂⟩
   | exit id => exact ⟨_, a₁, w₁, hq, .pass (x := .inLoop body) rfl (fun _ _ => .inl (by simp)) harr⟩
   | goto l => exact ⟨_, a₁, w₁, hq, .pass (x := .inLoop body) rfl (fun _ _ => .inl (by simp)) harr⟩
   | ret => exact ⟨_, a₁, w₁, hq, .pass (x := .inLoop body) rfl (fun _ _ => .inl (by simp)) harr⟩
   | panic ch => exact ⟨_, a₁, w₁, hq, .pass (x := .inLoop body) rfl (fun _ _ => .inl (by simp)) harr⟩
   | outgrown => exact ⟨_, a₁, w₁, hq, .pass (x := .inLoop body) rfl (fun _ _ => .inl (by simp)) harr⟩
 obtain ⟨e, a', w', hq, harr⟩ := key _ i0 rfl a w (h0 a w hs hw).1 (h0 a w hs hw).2
 exact ⟨e, a', w', hq, .of_steps (.one step_loop) harr⟩
end
end Go.Sx

namespace Go.Sx
open Go Go.RowKit
def nth {α : Type} [Inhabited α] (l : List α) (k : Nat) : α := l.getD k default
theorem nth_eq {α : Type} [Inhabited α] (l : List α) (k : Nat) (h : k < l.length) : nth l k = l[k] := by simp [nth, List.getD_eq_getElem?_getD, h]
class Flat (α : Type) extends Enc α where
  enc : α → List Value
  wf : α → Prop
  rd : ∀ {w S cs d}, Enc.Rd w S cs d → cs = enc d ∧ wf d
  tr : ∀ {w S} {d : α}, wf d → Enc.Tr w S (enc d) d
instance : Flat Int where
  enc := fun n => [.int .i64 n]
  wf := fun _ => True
  rd := fun h => ⟨h, trivial⟩
  tr := fun _ => rfl
instance : Flat Bool where
  enc := fun n => [.bool n]
  wf := fun _ => True
  rd := fun h => ⟨h, trivial⟩
  tr := fun _ => rfl
instance : Flat ByteArray where
  enc := fun n => [.string n]
  wf := fun _ => True
  rd := fun h => ⟨h, trivial⟩
  tr := fun _ => rfl
instance {α β : Type} [Flat α] [Flat β] : Flat (α × β) where
  enc := fun d => Flat.enc d.1 ++ Flat.enc d.2
  wf := fun d => Flat.wf d.1 ∧ Flat.wf d.2
  rd := by
    rintro w S cs d ⟨c1, c2, rfl, h1, h2⟩
    obtain ⟨rfl, k1⟩ := Flat.rd h1
    obtain ⟨rfl, k2⟩ := Flat.rd h2
    exact ⟨rfl, k1, k2⟩
  tr := fun ⟨h1, h2⟩ => ⟨_, _, fun _ => False, fun _ => False, rfl, fun _ h => h.elim, fun _ h => h.elim, fun _ h _ => h, Flat.tr h1, Flat.tr h2⟩
def arr {α : Type} [Enc α] [Inhabited α] (oa : Option Addr) (E : Nat → List Value) (l : List α) : Fact :=
  ⟨fun w I => ∀ i, i < l.length → ∃ ad, oa = some ad ∧ I ad.block ∧ CellsAt w (ad.add (i * Enc.sz α)) (E i) ∧ Enc.Rd w I (E i) (nth l i),
   fun {w w' I I'} hk hs hm => fun i hi => by
     obtain ⟨ad, e, hI, hc, hr⟩ := hk i hi
     exact ⟨ad, e, hm _ hI, hc.keep hs (by rw [block_add]; exact hI), Enc.keep hr hs hm⟩⟩
def Ent (fs : List Fact) (f : Fact) : Prop := ∀ w I, (∀ g ∈ fs, g.ok w I) → f.ok w I
theorem Ent.mem {fs : List Fact} {f : Fact} (h : f ∈ fs) : Ent fs f := fun _ _ k => k f h
def Ents (fs fs' : List Fact) : Prop := ∀ f ∈ fs', Ent fs f
theorem Ents.nil {fs : List Fact} : Ents fs [] := fun _ h => by cases h
theorem Ents.cons {fs fs' : List Fact} {f : Fact} (h : Ent fs f) (k : Ents fs fs') : Ents fs (f :: fs') := fun g hg => by
 rcases List.mem_cons.1 hg with rfl | hg
 ·exact h
 ·exact k g hg
theorem RdL.open_ {α : Type} [Enc α] [Inhabited α] {w : World} {I : Blks} {v : Value} {l : List α} (h : RdL w I v l) :
  ∃ oa cap E, v = .slice oa l.length cap ∧ l.length ≤ cap ∧ cap ≤ maxLen ∧ (arr oa E l).ok w I := by
 obtain ⟨oa, cap, e, h1, h2, h3⟩ := h
 have : ∀ i, ∃ es, i < l.length → ∃ ad, oa = some ad ∧ I ad.block ∧ CellsAt w (ad.add (i * Enc.sz α)) es ∧ Enc.Rd w I es (nth l i) := fun i => by
  by_cases hi : i < l.length
  ·obtain ⟨ad, es, k⟩ := h3 i hi
   exact ⟨es, fun _ => ⟨ad, by rw [nth_eq l i hi]; exact k⟩⟩
  ·exact ⟨[], fun h => absurd h hi⟩
 obtain ⟨E, hE⟩ := Classical.axiomOfChoice this
 exact ⟨oa, cap, E, e, h1, h2, fun i hi => hE i hi⟩
section
variable {P : Program} {c : Ctx} {N : Nat} {s : Slots} {fs : List Fact} {os : List Own} {Q : Exit → Act → World → Prop} {code : Code}
theorem Sta.add {w : World} {f : Fact} (h : Sta c fs os w) (hf : ∀ I S, St c fs os w I S → f.ok w I) : Sta c (f :: fs) os w := by
 obtain ⟨I, S, h⟩ := h
 refine ⟨I, S, { h with facts := fun g hg => ?_ }⟩
 rcases List.mem_cons.1 hg with rfl | hg
 ·exact hf I S h
 ·exact h.facts g hg
theorem Tr.open_ {α : Type} [Enc α] [Inhabited α] {v : Value} {l : List α} (h : Ent fs (imm v l))
  (k : ∀ oa cap E, v = .slice oa l.length cap → l.length ≤ cap → cap ≤ maxLen → Tr P c N Q code s (arr oa E l :: fs) os) : Tr P c N Q code s fs os := by
 intro a w hs hw
 obtain ⟨I, S, hst⟩ := hw
 obtain ⟨oa, cap, E, e, h1, h2, ha⟩ := RdL.open_ (h w I hst.facts)
 refine k oa cap E e h1 h2 a w hs ⟨I, S, { hst with facts := fun g hg => ?_ }⟩
 rcases List.mem_cons.1 hg with rfl | hg
 ·exact ha
 ·exact hst.facts g hg
theorem arr_flat {α : Type} [Flat α] [Inhabited α] {w : World} {I : Blks} {oa : Option Addr} {E : Nat → List Value} {l : List α} (h : (arr oa E l).ok w I) :
  (arr oa (fun i => Flat.enc (nth l i)) l).ok w I ∧ ∀ i, i < l.length → Flat.wf (nth l i) := by
 refine ⟨fun i hi => ?_, fun i hi => ?_⟩
 ·obtain ⟨ad, e, hI, hc, hr⟩ := h i hi
  have := (Flat.rd hr).1
  refine ⟨ad, e, hI, ?_, ?_⟩ <;> dsimp only <;> rw [← this] <;> assumption
 ·obtain ⟨ad, e, hI, hc, hr⟩ := h i hi
  exact (Flat.rd hr).2
theorem Ent.one {α : Type} [Enc α] {cs : List Value} {l : List α} (h : Ent fs (imms cs l)) : Ent fs (imm (cs.getD 0 undef) l) :=
 fun w I hf => by
  obtain ⟨v, rfl, hr⟩ := h w I hf
  exact hr
end
end Go.Sx

namespace Go.Sx
open Go Go.RowKit
section
variable {P : Program} {c : Ctx} {N : Nat} {s : Slots} {fs : List Fact} {os : List Own}
variable {d : Option Tmp} {ty : TypeId} {pos : String} {af : Array Edge} {gd : Option (Nat × Bool)}
theorem p_move {x : Operand} {v : Value} (h : ev s x = some v) : Pu P N s ⟨d, .move x, ty, pos, af, gd⟩ v := fun a w hs => by
 simp [execOp, hs.ev h]
theorem p_assign {x : Operand} {v : Value} (h : ev s x = some v) : Pu P N s ⟨d, .assign x, ty, pos, af, gd⟩ v := fun a w hs => by
 simp [execOp, hs.ev h]
theorem p_pickT {x y z : Operand} {v : Value} (h : ev s x = some (.bool true)) (h1 : ev s y = some v) : Pu P N s ⟨d, .pick x y z, ty, pos, af, gd⟩ v := fun a w hs => by
 simp [execOp, hs.ev h, hs.ev h1, asBool]
theorem p_pickF {x y z : Operand} {v : Value} (h : ev s x = some (.bool false)) (h1 : ev s z = some v) : Pu P N s ⟨d, .pick x y z, ty, pos, af, gd⟩ v := fun a w hs => by
 simp [execOp, hs.ev h, hs.ev h1, asBool]
theorem p_not {x : Operand} {b : Bool} {t : TypeId} (h : ev s x = some (.bool b)) : Pu P N s ⟨d, .unOp .not t x, ty, pos, af, gd⟩ (.bool (!b)) := fun a w hs => by
 simp [execOp, hs.ev h, Op.unary]
theorem p_bin {op : BinOp} {t t' : TypeId} {x y : Operand} {vx vy v : Value} (hx : ev s x = some vx) (hy : ev s y = some vy)
  (h : ∀ w, (do eqGuard op t x y vx vy; binOp op t vx vy : Sem Value).run P w = .ok v w) : Pu P N s ⟨d, .binOp op t x y t', ty, pos, af, gd⟩ v := fun a w hs => by
 simp only [execOp, hs.ev hx, hs.ev hy]
 have := h w
 rw [Sem.run_bind]
 rw [this]
 rfl
theorem p_add {t t' : TypeId} {x y : Operand} {m n : Int} (hx : ev s x = some (.int .i64 m)) (hy : ev s y = some (.int .i64 n)) (h : I64 (m + n)) : Pu P N s ⟨d, .binOp .add t x y t', ty, pos, af, gd⟩ (.int .i64 (m + n)) :=
 p_bin hx hy fun w => by
  have := IntWalk.i64_in (m + n) h
  simp [eqGuard, binOp, Op.intArith, this]
theorem p_sub {t t' : TypeId} {x y : Operand} {m n : Int} (hx : ev s x = some (.int .i64 m)) (hy : ev s y = some (.int .i64 n)) (h : I64 (m - n)) : Pu P N s ⟨d, .binOp .sub t x y t', ty, pos, af, gd⟩ (.int .i64 (m - n)) :=
 p_bin hx hy fun w => by
  have := IntWalk.i64_in (m - n) h
  simp [eqGuard, binOp, Op.intArith, this]
theorem p_mul {t t' : TypeId} {x y : Operand} {m n : Int} (hx : ev s x = some (.int .i64 m)) (hy : ev s y = some (.int .i64 n)) (h : I64 (m * n)) : Pu P N s ⟨d, .binOp .mul t x y t', ty, pos, af, gd⟩ (.int .i64 (m * n)) :=
 p_bin hx hy fun w => by
  have := IntWalk.i64_in (m * n) h
  simp [eqGuard, binOp, Op.intArith, this]
theorem p_lss {k : IntKind} {t t' : TypeId} {x y : Operand} {m n : Int} (hx : ev s x = some (.int k m)) (hy : ev s y = some (.int k n)) : Pu P N s ⟨d, .binOp .lss t x y t', ty, pos, af, gd⟩ (.bool (decide (m < n))) :=
 p_bin hx hy fun w => by simp [eqGuard, binOp, Op.intCmp]
theorem p_leq {k : IntKind} {t t' : TypeId} {x y : Operand} {m n : Int} (hx : ev s x = some (.int k m)) (hy : ev s y = some (.int k n)) : Pu P N s ⟨d, .binOp .leq t x y t', ty, pos, af, gd⟩ (.bool (decide (m ≤ n))) :=
 p_bin hx hy fun w => by simp [eqGuard, binOp, Op.intCmp]
theorem p_gtr {k : IntKind} {t t' : TypeId} {x y : Operand} {m n : Int} (hx : ev s x = some (.int k m)) (hy : ev s y = some (.int k n)) : Pu P N s ⟨d, .binOp .gtr t x y t', ty, pos, af, gd⟩ (.bool (decide (n < m))) :=
 p_bin hx hy fun w => by simp [eqGuard, binOp, Op.intCmp]
theorem p_geq {k : IntKind} {t t' : TypeId} {x y : Operand} {m n : Int} (hx : ev s x = some (.int k m)) (hy : ev s y = some (.int k n)) : Pu P N s ⟨d, .binOp .geq t x y t', ty, pos, af, gd⟩ (.bool (decide (n ≤ m))) :=
 p_bin hx hy fun w => by simp [eqGuard, binOp, Op.intCmp]
theorem p_eql {k : IntKind} {t t' : TypeId} {x y : Operand} {m n : Int} (hx : ev s x = some (.int k m)) (hy : ev s y = some (.int k n)) : Pu P N s ⟨d, .binOp .eql t x y t', ty, pos, af, gd⟩ (.bool (decide (m = n))) :=
 p_bin hx hy fun w => by simp [eqGuard, binOp, Op.intCmp]; rfl
theorem p_neq {k : IntKind} {t t' : TypeId} {x y : Operand} {m n : Int} (hx : ev s x = some (.int k m)) (hy : ev s y = some (.int k n)) : Pu P N s ⟨d, .binOp .neq t x y t', ty, pos, af, gd⟩ (.bool (!decide (m = n))) :=
 p_bin hx hy fun w => by simp [eqGuard, binOp, Op.intCmp]; rfl
theorem p_extract {x : Operand} {vs : Array Value} {i : Nat} {v : Value} (hx : ev s x = some (.tuple vs)) (h : vs[i]? = some v) : Pu P N s ⟨d, .extract x i, ty, pos, af, gd⟩ v := fun a w hs => by
 simp [execOp, hs.ev hx, Instr.extract, h]
theorem p_nil {x : Operand} {a : Addr} (hx : ev s x = some (.pointer (some a))) : Pu P N s ⟨d, .nilCheck x, ty, pos, af, gd⟩ (.pointer (some a)) := fun a w hs => by
 simp [execOp, hs.ev hx]
theorem p_len {x : Operand} {t : TypeId} {oa : Option Addr} {n cp : Nat} (e : TypeId) (hu : P.underlying t = some (.slice e)) (hx : ev s x = some (.slice oa n cp)) :
  Pu P N s ⟨d, .call { callee := .builtin .len, args := #[x], argTypes := #[t] }, ty, pos, af, gd⟩ (.int .i64 n) := fun a w hs => by
 simp [execOp, resolve, invoke, builtin, hs.ev hx, Builtin.len_, run_underlying hu, goInt]
end
end Go.Sx

namespace Go.Sx
open Go Go.RowKit
structure TyI (P : Program) (t : TypeId) (ag : Bool) (n : Nat) (z : Value) (bytes : Nat) : Prop where
  und : (P.underlying t).map (fun d => match d with | .struct _ | .array _ _ => true | _ => false) = some ag
  info : (P.info? t).map (fun i => (i.zero, i.size, i.bytes)) = some (some z, n, bytes)
  zn : z.cells.size = n
structure FA (P : Program) (t : TypeId) (f k : Nat) : Prop where
  go : ∃ fd : Array Field, P.underlying t = some (.struct fd) ∧ ∃ x, fd[f]? = some x ∧ x.offset = k ∧ ∃ i, P.info? x.type = some i ∧ i.size ≠ 0
section
variable {P : Program} {t : TypeId} {ag : Bool} {n : Nat} {z : Value} {bytes : Nat}
theorem TyI.info' (h : TyI P t ag n z bytes) : ∃ i, P.info? t = some i ∧ i.zero = some z ∧ i.size = n ∧ i.bytes = bytes := by
 have := h.info
 cases hi : P.info? t with
 | none => simp [hi] at this
 | some i => simp [hi] at this; exact ⟨i, rfl, this.1, this.2.1, this.2.2⟩
theorem TyI.sizeOf (h : TyI P t ag n z bytes) (w : World) : (Go.sizeOf t).run P w = .ok n w := by
 obtain ⟨i, hi, _, hn, _⟩ := h.info'
 simp [Go.sizeOf, typeInfo, hi, hn]
theorem TyI.zero (h : TyI P t ag n z bytes) (w : World) : (zeroValue t).run P w = .ok z w := by
 obtain ⟨i, hi, hz, _⟩ := h.info'
 simp [zeroValue, typeInfo, hi, hz]
theorem TyI.isAgg (h : TyI P t ag n z bytes) (w : World) : (Go.isAgg t).run P w = .ok ag w := by
 have := h.und
 cases hu : P.underlying t with
 | none => simp [hu] at this
 | some d =>
  simp [hu] at this
  unfold Go.isAgg
  simp only [Sem.run_bind, run_underlying hu, Result.andThen_ok]
  cases d <;> simp_all
theorem FA.run {f k : Nat} (h : FA P t f k) (a : Addr) (w : World) : (Instr.fieldAt t (.pointer (some a)) f).run P w = .ok (.pointer (some (a.add k))) w := by
 obtain ⟨fd, hu, x, hx, hk, i, hi, hs⟩ := h.go
 simp [Instr.fieldAt, run_underlying hu, hx, Instr.sureAddr, fieldPlace, Go.sizeOf, typeInfo, hi, hs, hk]
theorem run_load_one (h : TyI P t false n z bytes) {a : Addr} {v : Value} {w : World} (hc : w.cell? a = some v) : (Instr.loadAt t (.pointer (some a))).run P w = .ok v w := by
 simp [Instr.loadAt, Instr.sureAddr, loadVar, h.isAgg, load]
 simp [Sem.run, hc]
theorem run_load_agg (h : TyI P t true n z bytes) {a : Addr} {cs : List Value} {w : World} (hc : CellsAt w a cs) (hn : cs.length = n) : (Instr.loadAt t (.pointer (some a))).run P w = .ok (.agg cs.toArray) w := by
 have := run_loadCells_list (P := P) (w := w) a cs hc
 simp [Instr.loadAt, Instr.sureAddr, loadVar, h.isAgg, h.sizeOf, ← hn, this]
end
inductive Has : List Own → Own → Prop
  | here {o : Own} {os : List Own} : Has (o :: os) o
  | there {o p : Own} {os : List Own} : Has os o → Has (p :: os) o
theorem Sep.has {os : List Own} {o : Own} (h : Has os o) : ∀ {w : World} {I S : Blks}, Sep os w I S → ∃ S1, (∀ b, S1 b → S b) ∧ o.ok w I S1 := by
 induction h with
 | here => exact fun ⟨S1, _, m1, _, _, ho, _⟩ => ⟨S1, m1, ho⟩
 | there _ ih =>
  rintro w I S ⟨_, _, _, m2, _, _, hr⟩
  obtain ⟨S1, m, ho⟩ := ih hr
  exact ⟨S1, fun b hb => m2 b (m b hb), ho⟩
def EntB (fs : List Fact) (os : List Own) (f : Fact) : Prop := ∀ w I S, (∀ g ∈ fs, g.ok w I) → Sep os w I S → f.ok w (fun b => I b ∨ S b)
theorem Ent.b {fs : List Fact} {os : List Own} {f : Fact} (h : Ent fs f) : EntB fs os f := fun w I _ hf _ => f.keep (h w I hf) (Same.refl _ _) (fun _ => .inl)
theorem EntB.tree {fs : List Fact} {os : List Own} {α : Type} [Enc α] {v : Value} {l : List α} (h : Has os (tree v l)) : EntB fs os (imm v l) := fun _ I S _ hs => by
 obtain ⟨S1, m, ho⟩ := Sep.has h hs
 exact RdL.keep (TrL.rd ho) (Same.refl _ _) (S' := fun b => I b ∨ S b) (fun b hb => .inr (m b hb))
theorem EntB.row {fs : List Fact} {os : List Own} {α : Type} [Enc α] {v : Value} {l : List α} (h : Has os (row v l)) : EntB fs os (imm v l) := fun w I S _ hs => by
 obtain ⟨S1, m, ho⟩ := Sep.has h hs
 rcases ho with ⟨rfl, rfl⟩ | ⟨g, cap, cur, ty, e, hg, hh, h1, h2, h3, h4⟩
 ·exact ⟨none, 0, rfl, Nat.le_refl _, by simp [maxLen], fun i hi => absurd hi (Nat.not_lt_zero _)⟩
 ·exact ⟨_, cap, e, h1, h2, fun i hi => ⟨_, _, rfl, .inr (m _ hg), cellsAt_row hh _ _, Enc.keep (h4 i hi) (Same.refl _ _) (fun b => .inl)⟩⟩
theorem EntB.flat {fs : List Fact} {os : List Own} {α : Type} [Flat α] [Inhabited α] {oa : Option Addr} {n cp : Nat} {l : List α} (h : EntB fs os (imm (.slice oa n cp) l)) : EntB fs os (arr oa (fun i => Flat.enc (nth l i)) l) := fun w I S hf hs => by
 have h' : RdL w (fun b => I b ∨ S b) (.slice oa n cp) l := h w I S hf hs
 obtain ⟨oa', cap', E, e, h1, h2, ha⟩ := h'.open_
 cases e
 exact (arr_flat ha).1
def elp (oa : Option Addr) (j : Nat) : Value := .pointer (oa.map (·.add j))
section
variable {P : Program} {c : Ctx} {N : Nat} {s : Slots} {fs : List Fact} {os : List Own}
variable {d : Option Tmp} {ty : TypeId} {pos : String} {af : Array Edge} {gd : Option (Nat × Bool)}
theorem qo_of {o : Oper} {v : Value} (h : ∀ a w I S, Sl N s a → St c fs os w I S → (execOp a.eval o).run P w = .ok (.value v) w) : Qo P c fs os N s o v := Ex.mk fun a w hs hw => by
 obtain ⟨I, S, hst⟩ := id hw
 rw [h a w I S hs hst]
 exact ⟨rfl, hw⟩
theorem p_fab {x : Operand} {t : TypeId} {f k g j : Nat} (hf : FA P t f k) (hx : ev s x = some (.pointer (some ⟨g, j, none⟩))) :
  Pu P N s ⟨d, .fieldAddr t x f, ty, pos, af, gd⟩ (.pointer (some ⟨g, j + k, none⟩)) := fun a w hs => by
 simp [execOp, hs.ev hx, hf.run, Addr.add_lit]
theorem q_ldb {x : Operand} {t : TypeId} {n g j : Nat} {z : Value} {by_ : Nat} {bt : TypeId} {cs : List Value} {v : Value} (ht : TyI P t false n z by_) (hx : ev s x = some (.pointer (some ⟨g, j, none⟩))) (hb : Has os (box g bt cs)) (hv : cs[j]? = some v) :
  Qo P c fs os N s ⟨d, .load t x, ty, pos, af, gd⟩ v := qo_of fun a w I S hs hst => by
 obtain ⟨S1, _, _, hh⟩ := Sep.has hb hst.own
 have hc : w.cell? ⟨g, j, none⟩ = some v := by rw [cell_of_row w g j _ bt (0, 0) hh]; simpa using hv
 simp [execOp, hs.ev hx, run_load_one ht hc]
theorem q_ldbA {x : Operand} {t : TypeId} {n g : Nat} {z : Value} {by_ : Nat} {bt : TypeId} {cs : List Value} (ht : TyI P t true n z by_) (hx : ev s x = some (.pointer (some ⟨g, 0, none⟩))) (hb : Has os (box g bt cs)) (hn : cs.length = n) :
  Qo P c fs os N s ⟨d, .load t x, ty, pos, af, gd⟩ (.agg cs.toArray) := qo_of fun a w I S hs hst => by
 obtain ⟨S1, _, _, hh⟩ := Sep.has hb hst.own
 have hc : CellsAt w ⟨g, 0, none⟩ cs := fun j u hu => by
  rw [Addr.add_lit, cell_of_row w g _ _ bt (0, 0) hh]
  simpa using hu
 simp [execOp, hs.ev hx, run_load_agg ht hc hn]
theorem q_ldbP {x : Operand} {t : TypeId} {n g j : Nat} {z : Value} {by_ : Nat} {bt : TypeId} {cs : List Value} (cs' : List Value) (ht : TyI P t true n z by_) (hx : ev s x = some (.pointer (some ⟨g, j, none⟩))) (hb : Has os (box g bt cs)) (hn : (cs.drop j).take n = cs') (hl : cs'.length = n) :
  Qo P c fs os N s ⟨d, .load t x, ty, pos, af, gd⟩ (.agg cs'.toArray) := qo_of fun a w I S hs hst => by
 obtain ⟨S1, _, _, hh⟩ := Sep.has hb hst.own
 have hc : CellsAt w ⟨g, j, none⟩ cs' := fun i u hu => by
  rw [Addr.add_lit, cell_of_row w g _ _ bt (0, 0) hh]
  rw [← hn, List.getElem?_take] at hu
  split at hu
  ·rw [List.getElem?_drop] at hu; simpa using hu
  ·cases hu
 simp [execOp, hs.ev hx, run_load_agg ht hc hl]
theorem q_ixe {x y : Operand} {t e : TypeId} {ag : Bool} {n cp : Nat} {z : Value} {by_ : Nat} {oa : Option Addr} {E : Nat → List Value} {i : Int} {α : Type} [Enc α] [Inhabited α] {l : List α} (k : Nat) (hu : P.underlying t = some (.slice e)) (ht : TyI P e ag (Enc.sz α) z by_)
  (hx : ev s x = some (.slice oa n cp)) (hy : ev s y = some (.int .i64 i)) (hi : i = k) (hk : k < l.length) (hn : n = l.length) (ha : EntB fs os (arr oa E l)) :
  Qo P c fs os N s ⟨d, .indexAddr t x y, ty, pos, af, gd⟩ (elp oa (k * Enc.sz α)) := qo_of fun a w I S hs hst => by
 obtain ⟨ad, rfl, _⟩ := ha w I S hst.facts hst.own k hk
 subst hi
 have h1 : (0 : Int) ≤ (k : Int) ∧ (k : Int) < (n : Int) := by omega
 simp [execOp, hs.ev hx, hs.ev hy, Instr.indexAt, asIntOf, run_underlying hu, ht.sizeOf, elp]
 intro hle
 omega
theorem q_fae {x : Operand} {t : TypeId} {f k i j : Nat} {oa : Option Addr} {E : Nat → List Value} {α : Type} [Enc α] [Inhabited α] {l : List α} (hf : FA P t f k) (hx : ev s x = some (elp oa j)) (ha : EntB fs os (arr oa E l)) (hi : i < l.length) :
  Qo P c fs os N s ⟨d, .fieldAddr t x f, ty, pos, af, gd⟩ (elp oa (j + k)) := qo_of fun a w I S hs hst => by
 obtain ⟨ad, rfl, _⟩ := ha w I S hst.facts hst.own i hi
 simp [execOp, hs.ev hx, elp, hf.run, add_add]
theorem q_lde {x : Operand} {t : TypeId} {n i j : Nat} {z : Value} {by_ : Nat} {oa : Option Addr} {E : Nat → List Value} {α : Type} [Enc α] [Inhabited α] {l : List α} {v : Value} (ht : TyI P t false n z by_) (hx : ev s x = some (elp oa (i * Enc.sz α + j))) (ha : EntB fs os (arr oa E l)) (hi : i < l.length) (hv : (E i)[j]? = some v) :
  Qo P c fs os N s ⟨d, .load t x, ty, pos, af, gd⟩ v := qo_of fun a w I S hs hst => by
 obtain ⟨ad, rfl, _, hc, _⟩ := ha w I S hst.facts hst.own i hi
 have h1 := hc j v hv
 rw [add_add] at h1
 simp [execOp, hs.ev hx, elp, run_load_one ht h1]
theorem q_ldeA {x : Operand} {t : TypeId} {i : Nat} {z : Value} {by_ : Nat} {oa : Option Addr} {E : Nat → List Value} {α : Type} [Enc α] [Inhabited α] {l : List α} (ht : TyI P t true (Enc.sz α) z by_) (hx : ev s x = some (elp oa (i * Enc.sz α))) (ha : EntB fs os (arr oa E l)) (hi : i < l.length) :
  Qo P c fs os N s ⟨d, .load t x, ty, pos, af, gd⟩ (.agg (E i).toArray) := qo_of fun a w I S hs hst => by
 obtain ⟨ad, rfl, _, hc, hr⟩ := ha w I S hst.facts hst.own i hi
 simp [execOp, hs.ev hx, elp, run_load_agg ht hc (Enc.len hr)]
end
end Go.Sx

namespace Go.Sx
open Go Go.RowKit
inductive Upd : List Own → Own → Own → List Own → Prop
  | here {o o' : Own} {os : List Own} : Upd (o :: os) o o' (o' :: os)
  | there {o o' p : Own} {os os' : List Own} : Upd os o o' os' → Upd (p :: os) o o' (p :: os')
inductive Del : List Own → Own → List Own → Prop
  | here {o : Own} {os : List Own} : Del (o :: os) o os
  | there {o p : Own} {os os' : List Own} : Del os o os' → Del (p :: os) o (p :: os')
theorem Del.sep {os os' : List Own} {o : Own} (h : Del os o os') : ∀ {w : World} {I S : Blks}, Sep os w I S → ∃ S1 S2, (∀ b, S1 b → S b) ∧ (∀ b, S2 b → S b) ∧ (∀ b, S1 b → S2 b → False) ∧ o.ok w I S1 ∧ Sep os' w I S2 := by
 induction h with
 | here => exact fun h => h
 | there _ ih =>
  rintro w I S ⟨A, B, mA, mB, dj, hp, hr⟩
  obtain ⟨S1, S2, m1, m2, d2, ho, hr'⟩ := ih hr
  refine ⟨S1, fun b => A b ∨ S2 b, fun b hb => mB b (m1 b hb), fun b hb => hb.elim (mA b) (fun h => mB b (m2 b h)), fun b h1 h2 => h2.elim (fun h => dj b h (m1 b h1)) (d2 b h1), ho, A, S2, fun b => .inl, fun b => .inr, fun b h1 h2 => dj b h1 (m2 b h2), hp, hr'⟩
theorem Upd.sep {os os' : List Own} {o o' : Own} (h : Upd os o o' os') : ∀ {w : World} {I S : Blks}, Sep os w I S →
  ∃ S1, (∀ b, S1 b → S b) ∧ o.ok w I S1 ∧ ∀ (w' : World) (S1' : Blks), Same (fun b => S b ∧ ¬ S1 b) w w' → Same I w w' → (∀ b, S1' b → S1 b ∨ ¬ S b) → o'.ok w' I S1' → Sep os' w' I (fun b => S b ∨ S1' b) := by
 induction h with
 | here =>
  rintro w I S ⟨S1, S2, m1, m2, dj, ho, hr⟩
  refine ⟨S1, m1, ho, fun w' S1' hs hi hn ho' => ⟨S1', S2, fun b => .inr, fun b hb => .inl (m2 b hb), fun b h1 h2 => ?_, ho', hr.keep hi (fun b hb => hs b ⟨m2 b hb, fun h => dj b h hb⟩) (fun _ h => h) (fun _ h => h)⟩⟩
  rcases hn b h1 with h | h
  ·exact dj b h h2
  ·exact h (m2 b h2)
 | @there _ _ p _ _ _ ih =>
  rintro w I S ⟨A, B, mA, mB, dj, hp, hr⟩
  obtain ⟨S1, m1, ho, k⟩ := ih hr
  refine ⟨S1, fun b hb => mB b (m1 b hb), ho, fun w' S1' hs hi hn ho' => ?_⟩
  have h1 := k w' (fun b => S1' b) (fun b hb => hs b ⟨mB b hb.1, hb.2⟩) hi (fun b hb => (hn b hb).imp id fun h hB => h (mB b hB)) ho'
  refine ⟨A, fun b => B b ∨ S1' b, fun b hb => .inl (mA b hb), fun b hb => hb.imp (mB b) id, fun b hA hB => ?_, p.keep hp hi (fun b hb => hs b ⟨mA b hb, fun h => dj b hb (m1 b h)⟩) (fun _ h => h) (fun _ h => h), h1⟩
  rcases hB with h | h
  ·exact dj b hA h
  ·rcases hn b h with h' | h'
   ·exact dj b hA (m1 b h')
   ·exact h' (mA b hA)
section
variable {c : Ctx} {fs : List Fact} {os os' : List Own} {w w' : World}
theorem Sta.alloc (h : Sta c fs os w) (ty : TypeId) (cs : List Value) : Sta c fs (box w.heap.size ty cs :: os) (w.alloc (.cells cs.toArray ty)) := by
 obtain ⟨I, S, h⟩ := h
 have hsame : ∀ b, b < w.heap.size → (w.alloc (.cells cs.toArray ty)).heap[b]? = w.heap[b]? := fun b hb => Below.heap_alloc w _ b hb
 have hsz : (w.alloc (.cells cs.toArray ty)).heap.size = w.heap.size + 1 := by simp
 refine ⟨I, fun b => S b ∨ b = w.heap.size, fun f hf => f.keep (h.facts f hf) (fun b hb => hsame b (h.ilt b hb)) (fun _ h => h),
  ⟨fun b => b = w.heap.size, S, fun b => .inr, fun b => .inl, fun b h1 h2 => ?_, ⟨rfl, Go.heap_alloc_new w _⟩, h.own.keep (fun b hb => hsame b (h.ilt b hb)) (fun b hb => hsame b (h.slt b hb)) (fun _ h => h) (fun _ h => h)⟩,
  fun b hi hs => ?_, fun b hb => ?_, fun b hb => ?_, h.inew, fun b hb => ?_, h.i0, ⟨h.frm.os, h.frm.tape, h.frm.output, by rw [hsz]; exact Nat.le_trans h.frm.size (Nat.le_succ _), fun b hb hx => ?_⟩⟩
 ·have := h.slt b h2; omega
 ·rcases hs with hs | rfl
  ·exact h.dj b hi hs
  ·have := h.ilt _ hi; omega
 ·rw [hsz]; have := h.ilt b hb; omega
 ·rw [hsz]; rcases hb with hb | rfl
  ·have := h.slt b hb; omega
  ·omega
 ·rcases hb with hb | rfl
  ·exact h.snew b hb
  ·exact .inr h.frm.size
 ·rw [hsame b (Nat.lt_of_lt_of_le hb h.frm.size)]; exact h.frm.block b hb hx
theorem Sta.upd {o o' : Own} (h : Sta c fs os w) (hu : Upd os o o' os')
  (hk : ∀ I S S1, St c fs os w I S → (∀ b, S1 b → S b) → o.ok w I S1 → ∃ S1', (∀ b, S1' b → S1 b ∨ (w.heap.size ≤ b ∧ b < w'.heap.size)) ∧ o'.ok w' I S1' ∧
   (∀ b, b < w.heap.size → ¬ S1 b → w'.heap[b]? = w.heap[b]?) ∧ w.heap.size ≤ w'.heap.size ∧ w'.os = w.os ∧ TD w w' ∧ w'.output = w.output) : Sta c fs os' w' := by
 obtain ⟨I, S, h⟩ := h
 obtain ⟨S1, m1, ho, k⟩ := hu.sep h.own
 obtain ⟨S1', hn, ho', hb, hsz, e1, e2, e3⟩ := hk I S S1 h m1 ho
 have hI : Same I w w' := fun b hi => hb b (h.ilt b hi) fun h1 => h.dj b hi (m1 b h1)
 refine ⟨I, fun b => S b ∨ S1' b, fun f hf => f.keep (h.facts f hf) hI (fun _ h => h), k w' S1' (fun b ⟨hs, hns⟩ => hb b (h.slt b hs) hns) hI (fun b hb' => (hn b hb').imp id fun h' hs => by have := h.slt b hs; omega) ho',
  fun b hi hs => ?_, fun b hi => Nat.lt_of_lt_of_le (h.ilt b hi) hsz, fun b hs => ?_, h.inew, fun b hs => ?_, h.i0, ⟨e1.trans h.frm.os, e2.l.trans h.frm.tape, e3.trans h.frm.output, Nat.le_trans h.frm.size hsz, fun b hb' hx => ?_⟩⟩
 ·rcases hs with hs | hs
  ·exact h.dj b hi hs
  ·rcases hn b hs with h' | h'
   ·exact h.dj b hi (m1 b h')
   ·have := h.ilt b hi; omega
 ·rcases hs with hs | hs
  ·exact Nat.lt_of_lt_of_le (h.slt b hs) hsz
  ·rcases hn b hs with h' | h'
   ·exact Nat.lt_of_lt_of_le (h.slt b (m1 b h')) hsz
   ·exact h'.2
 ·rcases hs with hs | hs
  ·exact h.snew b hs
  ·rcases hn b hs with h' | h'
   ·exact h.snew b (m1 b h')
   ·exact .inr (Nat.le_trans h.frm.size h'.1)
 ·rw [hb b (Nat.lt_of_lt_of_le hb' h.frm.size) fun h1 => ?_]
  ·exact h.frm.block b hb' hx
  ·rcases h.snew b (m1 b h1) with h' | h'
   ·exact hx h'
   ·omega
end
end Go.Sx

namespace Go.Sx
open Go Go.RowKit
theorem run_append_room' {P : Program} (w : World) (t ty e bt : TypeId) (i : TypeInfo) (ht : P.underlying t = some (.slice e)) (hi : P.info? e = some i)
  (g sLen sCap : Nat) (cur : Array Value) (hg : w.heap[g]? = some (.cells cur bt (0, 0)))
  (x : Value) (m : Nat) (news : List Value) (hx : (Builtin.lenOf x).run P w = .ok m w) (hf : (Builtin.firstCells i.size m x).run P w = .ok news.toArray w) (h1 : ∀ u ∈ news, u.oneCell' = true)
  (hroom : sLen + m ≤ sCap) (hfit : sLen * i.size + news.length ≤ cur.size) :
  (Builtin.append_ #[t, t] ty #[.slice (some ⟨g, 0, none⟩) sLen sCap, x]).run P w =
   .ok (.slice (some ⟨g, 0, none⟩) (sLen + m) sCap) (w.setRow g (cur.toList.take (sLen * i.size) ++ news ++ cur.toList.drop (sLen * i.size + news.length)).toArray) := by
 have hst := run_storeCells_at P g (sLen * i.size) bt news 0 cur w hg (by simpa using hfit) h1
 simp only [Nat.add_zero] at hst
 simp [Builtin.append_, run_underlying ht, sizeOf, typeInfo, hi, hx, hroom, hf, Addr.add_lit, hst]
structure Ra (w : World) (v : Value) (n size : Nat) (g cap : Nat) (cur : Array Value) (ty : TypeId) : Prop where
  v : v = .slice (some ⟨g, 0, none⟩) n cap
  heap : w.heap[g]? = some (.cells cur ty (0, 0))
  le : n ≤ cap
  max : cap ≤ maxLen
  size : cur.size = cap * size
theorem run_append_raw {P : Program} (w : World) (t ty e : TypeId) (i : TypeInfo) (z : Value) (ht : P.underlying t = some (.slice e)) (hi : P.info? e = some i) (hz : i.zero = some z) (hzs : z.cells.size = i.size) (_hsz : 0 < i.size)
    (v : Value) (n : Nat) (olds : List Value)
    (hv : (v = .slice none 0 0 ∧ n = 0 ∧ olds = []) ∨ ∃ g cap cur bt, Ra w v n i.size g cap cur bt ∧ olds = cur.toList.take (n * i.size))
    (oa : Option Addr) (m c : Nat) (news : List Value) (hl : news.length = m * i.size) (hn : 0 < m → ∃ ad, oa = some ad ∧ CellsAt w ad news) (h1 : ∀ u ∈ news, u.oneCell' = true)
    (hb : (n + m) * i.bytes ≤ 140737488355328) (h63 : n + m ≤ 9223372036854775807) :
    ∃ v' w', (Builtin.append_ #[t, t] ty #[v, .slice oa m c]).run P w = .ok v' w' ∧ w'.os = w.os ∧ TD w w' ∧ w'.output = w.output ∧ w.heap.size ≤ w'.heap.size ∧
      ((m = 0 ∧ v' = v ∧ w' = w) ∨
       (0 < m ∧ ∃ g' cap' cur' bt', Ra w' v' (n + m) i.size g' cap' cur' bt' ∧ cur'.toList.take ((n + m) * i.size) = olds ++ news ∧ g' < w'.heap.size ∧
          (∀ b, b < w.heap.size → b ≠ g' → w'.heap[b]? = w.heap[b]?) ∧
          ((∃ cap cur bt, Ra w v n i.size g' cap cur bt) ∨ g' = w.heap.size))) := by
  rcases Nat.eq_zero_or_pos m with hm | hm
  · subst hm
    have hnil : news = [] := List.eq_nil_of_length_eq_zero (by simpa using hl)
    subst hnil
    refine ⟨v, w, ?_, rfl, ⟨rfl, by first | exact Nat.le_refl _ | exact Nat.le_succ _⟩, rfl, Nat.le_refl _, .inl ⟨rfl, rfl, rfl⟩⟩
    have hf : (Builtin.firstCells i.size 0 (.slice oa 0 c)).run P w = .ok #[] w := by
      cases oa with
      | none => exact run_firstCells_none w i.size 0 0 c
      | some ad => exact run_firstCells_some w i.size 0 ad 0 c [] (by simp) (fun j u hu => by simp at hu)
    rcases hv with ⟨rfl, rfl, _⟩ | ⟨g, cap, cur, bt, hr, _⟩
    · simp [Builtin.append_, run_underlying ht, sizeOf, typeInfo, hi, Builtin.lenOf, hf]
    · have hcap : n ≤ cap := hr.le
      rw [hr.v]
      simp [Builtin.append_, run_underlying ht, sizeOf, typeInfo, hi, Builtin.lenOf, hf, hcap, storeCells]
  · obtain ⟨ad, rfl, hc⟩ := hn hm
    have hcell : ∀ j u, news[j]? = some u → w.cell? (ad.add j) = some u := hc
    have hzc : ∀ k, (Builtin.zeroCells z.cells k).size = k * i.size := fun k => by rw [size_zeroCells, hzs]
    rcases hv with ⟨rfl, rfl, rfl⟩ | ⟨g, cap, cur, bt, hr, rfl⟩
    · have hr := run_append_nil (P := P) w t ty e i z ht hi hz ad m c news hl hcell hm (by omega) (by simp at hb; omega)
      have hge := grownCap_ge w m 0 e
      have hle := grownCap_le_maxLen w m 0 e (by simp [maxLen]; omega)
      refine ⟨_, _, hr, rfl, ⟨rfl, by first | exact Nat.le_refl _ | exact Nat.le_succ _⟩, rfl, by simp, .inr ⟨hm, w.heap.size, _, _, e, ⟨by rw [Nat.zero_add], Go.heap_alloc_new w.drew _, by omega, hle, ?_⟩, ?_, by simp, fun b hb' _ => Below.heap_alloc w.drew _ b hb', .inr rfl⟩⟩
      · rw [Array.size_append, hzc]
        simp only [List.size_toArray, hl]
        rw [← Nat.add_mul]
        congr 1
        omega
      · simp only [Array.toList_append, List.nil_append, Nat.zero_add, ← hl]
        exact List.take_left
    · by_cases hroom : n + m ≤ cap
      · have hfit : n * i.size + news.length ≤ cur.size := by rw [hl, hr.size, ← Nat.add_mul]; exact Nat.mul_le_mul_right _ hroom
        have hf := run_firstCells_some (P := P) w i.size m ad m c news hl hcell
        have hrun := run_append_room' (P := P) w t ty e bt i ht hi g n cap cur hr.heap (.slice (some ad) m c) m news (by simp [Builtin.lenOf]) hf h1 hroom hfit
        have hlt : g < w.heap.size := (Array.getElem?_eq_some_iff.1 hr.heap).1
        rw [hr.v]
        refine ⟨_, _, hrun, rfl, ⟨rfl, by first | exact Nat.le_refl _ | exact Nat.le_succ _⟩, rfl, by simp [World.setRow], .inr ⟨hm, g, cap, _, bt, ⟨rfl, setRow_heap w g cur _ bt _ hr.heap, hroom, hr.max, ?_⟩, ?_, by simpa [World.setRow] using hlt, fun b _ hb' => setRow_other w g b _ hb', .inl ⟨cap, cur, bt, rfl, hr.heap, hr.le, hr.max, hr.size⟩⟩⟩
        · simp only [List.size_toArray, List.length_append, List.length_take, List.length_drop, Array.length_toList]
          rw [← hr.size]
          omega
        · have hlen : (cur.toList.take (n * i.size) ++ news).length = (n + m) * i.size := by
            rw [List.length_append, List.length_take, hl, Nat.add_mul]
            simp only [Array.length_toList]
            omega
          rw [← hlen]
          exact List.take_left
      · have holds : ∀ j u, (cur.toList.take (n * i.size))[j]? = some u → w.cell? ((⟨g, 0, none⟩ : Addr).add j) = some u := fun j u hu => by
          rw [Addr.add_lit, cell_of_row w g _ cur bt (0, 0) hr.heap]
          rw [List.getElem?_take] at hu
          split at hu
          · simpa using hu
          · cases hu
        have hlo : (cur.toList.take (n * i.size)).length = n * i.size := by
          rw [List.length_take]
          simp only [Array.length_toList]
          rw [hr.size]
          exact Nat.min_eq_left (Nat.mul_le_mul_right _ hr.le)
        have hrun := run_append_grow (P := P) w t ty e i z ht hi hz ⟨g, 0, none⟩ n cap _ hlo holds ad m c news hl hcell (by omega) (by omega) (growslice_fits (by omega) hb)
        have hge := grownCap_ge w (n + m) cap e
        have hle := grownCap_le_maxLen w (n + m) cap e (by simp [maxLen]; omega)
        rw [hr.v]
        refine ⟨_, _, hrun, rfl, ⟨rfl, by first | exact Nat.le_refl _ | exact Nat.le_succ _⟩, rfl, by simp, .inr ⟨hm, w.heap.size, _, _, e, ⟨rfl, Go.heap_alloc_new w.drew _, hge, hle, ?_⟩, ?_, by simp, fun b hb' _ => Below.heap_alloc w.drew _ b hb', .inr rfl⟩⟩
        · rw [Array.size_append, Array.size_append, hzc]
          simp only [List.size_toArray, hlo, hl]
          rw [← Nat.add_mul, ← Nat.add_mul]
          congr 1
          omega
        · have hlen : (cur.toList.take (n * i.size) ++ news).length = (n + m) * i.size := by rw [List.length_append, hlo, hl, Nat.add_mul]
          simp only [Array.toList_append]
          rw [← hlen]
          exact List.take_left
end Go.Sx

namespace Go.Sx
open Go Go.RowKit
theorem take_drop_append {α : Type} {a o : List α} {n m sz i : Nat} {cur : List α} (h : cur.take ((n + m) * sz) = a ++ o) (ha : a.length = n * sz) (hi : i < n + m) :
  (cur.drop (i * sz)).take sz = if i < n then (a.drop (i * sz)).take sz else (o.drop ((i - n) * sz)).take sz := by
 have h1 : (cur.drop (i * sz)).take sz = ((cur.take ((n + m) * sz)).drop (i * sz)).take sz := by
  rw [List.drop_take, List.take_take]
  congr 1
  have : i * sz + sz ≤ (n + m) * sz := by
   have := Nat.mul_le_mul_right sz (show i + 1 ≤ n + m by omega)
   rw [Nat.add_mul] at this
   omega
  omega
 rw [h1, h]
 split
 ·rename_i hlt
  have : i * sz + sz ≤ n * sz := by
   have := Nat.mul_le_mul_right sz (show i + 1 ≤ n by omega)
   rw [Nat.add_mul] at this
   omega
  rw [List.drop_append_of_le_length (by omega), List.take_append_of_le_length (by rw [List.length_drop]; omega)]
 ·rename_i hge
  have hle : n * sz ≤ i * sz := Nat.mul_le_mul_right _ (by omega)
  rw [List.drop_append, List.drop_eq_nil_of_le (by omega), List.nil_append, ha, Nat.sub_mul]
theorem RdL.cells {α : Type} [Enc α] {w : World} {I : Blks} {oa : Option Addr} {m c : Nat} {k : List α} (h : RdL w I (.slice oa m c) k) :
  m = k.length ∧ ∃ news : List Value, news.length = m * Enc.sz α ∧ (0 < m → ∃ ad, oa = some ad ∧ CellsAt w ad news) ∧ (∀ u ∈ news, u.oneCell' = true) ∧
   ∀ i (hi : i < k.length), Enc.Rd w I ((news.drop (i * Enc.sz α)).take (Enc.sz α)) k[i] := by
 obtain ⟨oa', cap, e, h1, h2, h3⟩ := h
 cases e
 refine ⟨rfl, ?_⟩
 rcases Nat.eq_zero_or_pos k.length with h0 | h0
 ·refine ⟨[], by simp [h0], fun h => by omega, fun u hu => by simp at hu, fun i hi => by omega⟩
 ·obtain ⟨ad, _, rfl, _⟩ := h3 0 h0
  have hsz := Enc.pos (α := α)
  have hcell : ∀ j, j < k.length * Enc.sz α → ∃ u, w.cell? (ad.add j) = some u ∧ u.oneCell' = true := fun j hj => by
   have hq : j / Enc.sz α < k.length := Nat.div_lt_of_lt_mul (by rw [Nat.mul_comm]; exact hj)
   obtain ⟨ad', es, e, _, hc, hr⟩ := h3 _ hq
   cases e
   have hlen := Enc.len hr
   have hm : j % Enc.sz α < es.length := by rw [hlen]; exact Nat.mod_lt _ hsz
   have := hc (j % Enc.sz α) _ (List.getElem?_eq_getElem hm)
   rw [add_add, Nat.mul_comm, Nat.div_add_mod] at this
   exact ⟨_, this, Enc.one hr _ (List.getElem_mem hm)⟩
  have hget : ∀ j u, ((List.range (k.length * Enc.sz α)).map fun j => (w.cell? (ad.add j)).getD undef)[j]? = some u → w.cell? (ad.add j) = some u := fun j u hu => by
   rw [List.getElem?_map] at hu
   cases hr : (List.range (k.length * Enc.sz α))[j]? with
   | none => rw [hr] at hu; cases hu
   | some x =>
    obtain ⟨hlt, hx⟩ := List.getElem?_eq_some_iff.1 hr
    simp at hlt hx
    subst hx
    rw [hr] at hu
    obtain ⟨v, hv, _⟩ := hcell _ hlt
    simp only [Option.map_some] at hu
    rw [hv] at hu ⊢
    simpa using hu
  refine ⟨(List.range (k.length * Enc.sz α)).map fun j => (w.cell? (ad.add j)).getD undef, by simp, fun _ => ⟨ad, rfl, hget⟩, fun u hu => ?_, fun i hi => ?_⟩
  ·obtain ⟨j, hj, rfl⟩ := List.mem_map.1 hu
   obtain ⟨v, hv, h1⟩ := hcell j (by simpa using hj)
   rw [hv]
   exact h1
  ·obtain ⟨ad', es, e, _, hc, hr⟩ := h3 i hi
   cases e
   have hlen := Enc.len hr
   have hle : i * Enc.sz α + Enc.sz α ≤ k.length * Enc.sz α := by
    have := Nat.mul_le_mul_right (Enc.sz α) (show i + 1 ≤ k.length by omega)
    rw [Nat.add_mul] at this
    omega
   have : ((List.map (fun j => (w.cell? (ad.add j)).getD undef) (List.range (k.length * Enc.sz α))).drop (i * Enc.sz α)).take (Enc.sz α) = es := by
    refine List.ext_getElem? fun r => ?_
    rw [List.getElem?_take]
    split
    ·rename_i hr'
     rw [List.getElem?_drop]
     have hx := hc r _ (List.getElem?_eq_getElem (show r < es.length by omega))
     rw [add_add] at hx
     rw [List.getElem?_map, List.getElem?_eq_getElem (by simp; omega)]
     simp only [List.getElem_range, Option.map_some]
     rw [hx, List.getElem?_eq_getElem (by omega)]
     rfl
    ·rw [List.getElem?_eq_none (by omega)]
   rw [this]
   exact hr
section
variable {P : Program} {t e : TypeId} {ag : Bool} {z : Value} {by_ : Nat} {α : Type} [Enc α]
theorem TrL.append {w w' : World} {S T : Blks} {v v' : Value} {l k : List α} {olds news : List Value} (h : TrL w S v l)
  (holds : olds.length = l.length * Enc.sz α)
  (hold : (v = .slice none 0 0 ∧ olds = []) ∨ ∃ g cap cur bt, Ra w v l.length (Enc.sz α) g cap cur bt ∧ olds = cur.toList.take (l.length * Enc.sz α))
  (Ts : Nat → Blks) (hT : ∀ i, i < k.length → ∀ b, Ts i b → T b) (hTd : ∀ i j, i < j → j < k.length → ∀ b, Ts i b → Ts j b → False) (hST : ∀ b, S b → T b → False) (hTlt : ∀ b, T b → b < w.heap.size) (hSlt : ∀ b, S b → b < w.heap.size)
  (hel : ∀ i (hi : i < k.length), Enc.Tr w (Ts i) ((news.drop (i * Enc.sz α)).take (Enc.sz α)) k[i])
  {g' cap' : Nat} {cur' : Array Value} {bt' : TypeId} (hra : Ra w' v' (l.length + k.length) (Enc.sz α) g' cap' cur' bt') (hcur : cur'.toList.take ((l.length + k.length) * Enc.sz α) = olds ++ news)
  (hsame : ∀ b, b < w.heap.size → b ≠ g' → w'.heap[b]? = w.heap[b]?) (hg : (∃ cap cur bt, Ra w v l.length (Enc.sz α) g' cap cur bt) ∨ g' = w.heap.size) :
  TrL w' (fun b => S b ∨ T b ∨ b = g') v' (l ++ k) := by
 -- the old elements
 have hels : ∃ Ss : Nat → Blks, (∀ i, i < l.length → ∀ b, Ss i b → S b ∧ b ≠ g') ∧ (∀ i j, i < j → j < l.length → ∀ b, Ss i b → Ss j b → False) ∧
   ∀ i (hi : i < l.length), Enc.Tr w (Ss i) ((olds.drop (i * Enc.sz α)).take (Enc.sz α)) l[i] := by
  rcases h with ⟨rfl, rfl⟩ | ⟨g, cap, cur, ty, e, hgS, hh, h1, h2, h3, Ss, k1, k2, k3⟩
  ·exact ⟨fun _ _ => False, fun i hi => absurd hi (Nat.not_lt_zero _), fun i j _ hj => absurd hj (Nat.not_lt_zero _), fun i hi => absurd hi (Nat.not_lt_zero _)⟩
  ·have hgg : g' = g ∨ g' = w.heap.size := hg.imp (fun ⟨cap2, cur2, bt2, hr⟩ => by
    have := hr.v
    rw [e] at this
    injection this with h1
    injection h1 with h1
    exact (congrArg Addr.block h1).symm) id
   refine ⟨Ss, fun i hi b hb => ⟨(k1 i hi b hb).1, ?_⟩, k2, fun i hi => ?_⟩
   ·rintro rfl
    rcases hgg with h | h
    ·exact (k1 i hi _ hb).2 h
    ·have := hSlt _ (k1 i hi _ hb).1; omega
   ·rcases hold with ⟨e', _⟩ | ⟨g2, cap2, cur2, bt2, hr, ho⟩
    ·rw [e] at e'
     injection e' with e'
     cases e'
    ·have hv2 := hr.v
     rw [e] at hv2
     injection hv2 with hv2
     injection hv2 with hv2
     have hgeq : g = g2 := congrArg Addr.block hv2
     subst hgeq
     have hh2 := hr.heap
     rw [hh] at hh2
     cases hh2
     rw [ho, List.drop_take, List.take_take]
     have hle : i * Enc.sz α + Enc.sz α ≤ l.length * Enc.sz α := by
      have := Nat.mul_le_mul_right (Enc.sz α) (show i + 1 ≤ l.length by omega)
      rw [Nat.add_mul] at this
      omega
     rw [Nat.min_eq_left (by omega)]
     exact k3 i hi
 obtain ⟨Ss, s1, s2, s3⟩ := hels
 have hgT : ∀ b, T b → b ≠ g' := fun b hb e => by
  subst e
  rcases hg with ⟨cap, cur, bt, hr⟩ | h'
  ·rcases h with ⟨rfl, _⟩ | ⟨g, _, _, _, e, hgS, _⟩
   ·have := hr.v; injection this with h; cases h
   ·have := hr.v
    rw [e] at this
    injection this with h1
    injection h1 with h1
    have h1 : g = b := congrArg Addr.block h1
    subst h1
    exact hST _ hgS hb
  ·have := hTlt _ hb; omega
 refine .inr ⟨g', cap', cur', bt', by rw [hra.v, List.length_append], .inr (.inr rfl), hra.heap, by rw [List.length_append]; exact hra.le, hra.max, hra.size,
  fun i => if i < l.length then Ss i else Ts (i - l.length), fun i hi b hb => ?_, fun i j hij hj b h1 h2 => ?_, fun i hi => ?_⟩
 ·dsimp only at hb
  split at hb
  ·rename_i hlt; exact ⟨.inl (s1 i hlt b hb).1, (s1 i hlt b hb).2⟩
  ·rename_i hge
   rw [List.length_append] at hi
   have := hT _ (by omega) b hb
   exact ⟨.inr (.inl this), hgT b this⟩
 ·dsimp only at h1 h2
  rw [List.length_append] at hj
  split at h1 <;> split at h2
  ·exact s2 i j hij (by omega) b h1 h2
  ·rename_i ha hb; exact hST b (s1 i ha b h1).1 (hT _ (by omega) b h2)
  ·omega
  ·exact hTd _ _ (by omega) (by omega) b h1 h2
 ·rw [List.length_append] at hi
  rw [take_drop_append hcur holds hi]
  dsimp only
  split
  ·rename_i hlt
   rw [List.getElem_append_left hlt]
   exact Enc.tr_keep (s3 i hlt) (fun b hb => hsame b (hSlt b (s1 i hlt b hb).1) (s1 i hlt b hb).2) (fun _ h => h)
  ·rename_i hge
   rw [List.getElem_append_right (by omega)]
   exact Enc.tr_keep (hel _ (by omega)) (fun b hb => hsame b (hTlt b (hT _ (by omega) b hb)) (hgT b (hT _ (by omega) b hb))) (fun _ h => h)
end
end Go.Sx

namespace Go.Sx
open Go Go.RowKit
structure CF (P : Program) (f : FuncId) : Prop where
  go : ∃ fn, P.funcs[f]? = some fn ∧ (fn.name == "runtime.NumGoroutine") = false ∧ fn.body.isNone = false
theorem CF.run {P : Program} {f : FuncId} (h : CF P f) (args : Array Value) (w : World) : (callFunc f args).run P w = .ok (.enter f args) w := by
 obtain ⟨fn, hf, hn, hb⟩ := h.go
 have h1 : fn.name ≠ "runtime.NumGoroutine" := fun e => by rw [e] at hn; exact absurd hn (by decide)
 have h2 : fn.body ≠ none := fun e => by rw [e] at hb; cases hb
 simp [callFunc, hf, h1, h2]
structure FnL' (L : Prop) (P : Program) (f : FuncId) (args : Array Value) (fs : List Fact) (os : List Own) {ι : Type} (rv : ι → Value) (fs' : ι → List Fact) (os' : ι → List Own) : Prop where
  cf : CF P f
  go : FnL L P f args fs os rv fs' os'
abbrev Fn' (P : Program) (f : FuncId) (args : Array Value) (fs : List Fact) (os : List Own) {ι : Type} (rv : ι → Value) (fs' : ι → List Fact) (os' : ι → List Own) : Prop := FnL' False P f args fs os rv fs' os'
def EntsB (fs : List Fact) (os : List Own) (fs' : List Fact) : Prop := ∀ f ∈ fs', EntB fs os f
theorem EntsB.nil {fs : List Fact} {os : List Own} : EntsB fs os [] := fun _ h => by cases h
theorem EntsB.cons {fs fs' : List Fact} {os : List Own} {f : Fact} (h : EntB fs os f) (k : EntsB fs os fs') : EntsB fs os (f :: fs') := fun g hg => by
 rcases List.mem_cons.1 hg with rfl | hg
 ·exact h
 ·exact k g hg
def evs (s : Slots) : List Operand → Option (List Value)
 | [] => some []
 | x :: r => match ev s x, evs s r with
  | some v, some vs => some (v :: vs)
  | _, _ => none
section
variable {P : Program} {c : Ctx} {N : Nat} {s : Slots} {fs : List Fact} {os os' : List Own}
variable {d : Option Tmp} {ty : TypeId} {pos : String} {af : Array Edge} {gd : Option (Nat × Bool)}
theorem evs_ok {a : Act} (hs : Sl N s a) : ∀ {xs : List Operand} {vs : List Value}, evs s xs = some vs → xs.map a.eval = vs
 | [], vs, h => by simp [evs] at h; subst h; rfl
 | x :: r, vs, h => by
  unfold evs at h
  cases hx : ev s x with
  | none => simp [hx] at h
  | some v =>
   cases hr : evs s r with
   | none => simp [hx, hr] at h
   | some us =>
    simp [hx, hr] at h
    subst h
    rw [List.map_cons, hs.ev hx, evs_ok hs hr]
theorem run_call {a : Act} {f : FuncId} {xs : List Operand} {vs : List Value} {ats : Array TypeId} {w : World} (hs : Sl N s a) (hf : CF P f) (hx : evs s xs = some vs) :
  (execOp a.eval ⟨d, .call { callee := .value (.func f), args := xs.toArray, argTypes := ats }, ty, pos, af, gd⟩).run P w = .ok (.enter f vs.toArray) w := by
 have h1 := evs_ok hs hx
 have h2 : (xs.toArray.map a.eval) = vs.toArray := by rw [List.map_toArray, h1]
 simp [execOp, resolve, Deferred.ofValue, Act.eval, invoke, h2, hf.run]
theorem q_call {L : Prop} {f : FuncId} {xs : List Operand} {vs : List Value} {ats : Array TypeId} {fsC : List Fact} {v : Value}
  (hc : FnL' L P f vs.toArray fsC [] (ι := Unit) (fun _ => v) (fun _ => []) (fun _ => [])) (hx : evs s xs = some vs) (he : EntsB fs os fsC) (hL : L → c.L := by exact False.elim) :
  Qo P c fs os N s ⟨d, .call { callee := .value (.func f), args := xs.toArray, argTypes := ats }, ty, pos, af, gd⟩ v := Ex.mk fun a w hs hw => by
 rw [run_call hs hc.cf hx]
 obtain ⟨I, S, hst⟩ := hw
 have hB : ∀ b, (I b ∨ S b) → b < w.heap.size := fun b hb => hb.elim (hst.ilt b) (hst.slt b)
 refine (hc.go w (fun b => I b ∨ S b) (fun _ => False) ⟨fun f hf => he f hf w I S hst.facts hst.own, trivial, fun _ _ h => h, hB, fun _ h => h.elim, fun _ => .inl, fun _ h => h.elim, fun _ h => h, Frm.refl _ _⟩).mono ?_
 rintro e w' ⟨_, rfl, I', S', h'⟩
 refine ⟨v, rfl, rfl, I, S, ?_⟩
 have hsame : ∀ b, b < w.heap.size → w'.heap[b]? = w.heap[b]? := fun b hb => h'.frm.block b hb (fun h => h)
 have hsz := h'.frm.size
 exact ⟨fun f hf => f.keep (hst.facts f hf) (fun b hb => hsame b (hst.ilt b hb)) (fun _ h => h), hst.own.keep (fun b hb => hsame b (hst.ilt b hb)) (fun b hb => hsame b (hst.slt b hb)) (fun _ h => h) (fun _ h => h), hst.dj,
  fun b hb => Nat.lt_of_lt_of_le (hst.ilt b hb) hsz, fun b hb => Nat.lt_of_lt_of_le (hst.slt b hb) hsz, hst.inew, hst.snew, hst.i0,
  ⟨h'.frm.os.trans hst.frm.os, (h'.frm.tape.wk hL).trans hst.frm.tape, h'.frm.output.trans hst.frm.output, Nat.le_trans hst.frm.size hsz, fun b hb hx => (hsame b (Nat.lt_of_lt_of_le hb hst.frm.size)).trans (hst.frm.block b hb hx)⟩⟩
def Solo (os : List Own) : Prop := ∀ o ∈ os, ∀ w I I' S, o.ok w I S → o.ok w I' S
theorem Solo.nil : Solo [] := fun _ h => by cases h
theorem Solo.tree {α : Type} [Enc α] {v : Value} {l : List α} (h : Solo os) : Solo (tree v l :: os) := fun o ho w I I' S k => by
 rcases List.mem_cons.1 ho with rfl | ho
 ·exact k
 ·exact h o ho w I I' S k
theorem Solo.box {g : Nat} {bt : TypeId} {cs : List Value} (h : Solo os) : Solo (box g bt cs :: os) := fun o ho w I I' S k => by
 rcases List.mem_cons.1 ho with rfl | ho
 ·exact k
 ·exact h o ho w I I' S k
theorem Solo.sep (h : Solo os) {w : World} {I I' S : Blks} (k : Sep os w I S) : Sep os w I' S := by
 induction os generalizing S with
 | nil => trivial
 | cons o os ih =>
  obtain ⟨S1, S2, m1, m2, dj, ho, hr⟩ := k
  exact ⟨S1, S2, m1, m2, dj, h o (by simp) w I I' S1 ho, ih (fun p hp => h p (List.mem_cons_of_mem _ hp)) hr⟩
theorem Sep.append : ∀ {os1 os2 : List Own} {w : World} {I S1 S2 : Blks}, (∀ b, S1 b → S2 b → False) → Sep os1 w I S1 → Sep os2 w I S2 → Sep (os1 ++ os2) w I (fun b => S1 b ∨ S2 b)
 | [], _, _, _, _, _, _, _, h => h.mono (fun _ => .inr)
 | _ :: _, _, _, _, _, _, dj, ⟨A, B, mA, mB, d, ho, hr⟩, h =>
  ⟨A, fun b => B b ∨ _, fun b hb => .inl (mA b hb), fun b hb => hb.imp (mB b) id, fun b h1 h2 => h2.elim (d b h1) (dj b (mA b h1)), ho, Sep.append (fun b h1 h2 => dj b (mB b h1) h2) hr h⟩
theorem e_callB {L : Prop} {ι : Type} {f : FuncId} {xs : List Operand} {vs : List Value} {ats : Array TypeId} {fsC : List Fact} {rv : ι → Value} {osR : ι → List Own}
  (hc : FnL' L P f vs.toArray fsC [] rv (fun _ => []) osR) (hsolo : ∀ i, Solo (osR i)) (hx : evs s xs = some vs) (he : EntsB fs os fsC) (hL : L → c.L := by exact False.elim) :
  Eo P c fs os N s ⟨d, .call { callee := .value (.func f), args := xs.toArray, argTypes := ats }, ty, pos, af, gd⟩ (fun v fs' os' => ∃ i, v = rv i ∧ fs' = fs ∧ os' = osR i ++ os) := Ex.mk fun a w hs hw => by
 rw [run_call hs hc.cf hx]
 obtain ⟨I, S, hst⟩ := hw
 have hB : ∀ b, (I b ∨ S b) → b < w.heap.size := fun b hb => hb.elim (hst.ilt b) (hst.slt b)
 refine (hc.go w (fun b => I b ∨ S b) (fun _ => False) ⟨fun f hf => he f hf w I S hst.facts hst.own, trivial, fun _ _ h => h, hB, fun _ h => h.elim, fun _ => .inl, fun _ h => h.elim, fun _ h => h, Frm.refl _ _⟩).mono ?_
 rintro e w' ⟨i, rfl, I', S', h'⟩
 refine ⟨_, rfl, fs, osR i ++ os, ⟨i, rfl, rfl, rfl⟩, I, fun b => S' b ∨ S b, ?_⟩
 have hsame : ∀ b, b < w.heap.size → w'.heap[b]? = w.heap[b]? := fun b hb => h'.frm.block b hb (fun h => h)
 have hsz := h'.frm.size
 have hS' : ∀ b, S' b → w.heap.size ≤ b := fun b hb => (h'.snew b hb).resolve_left (fun h => h)
 refine ⟨fun f hf => f.keep (hst.facts f hf) (fun b hb => hsame b (hst.ilt b hb)) (fun _ h => h),
  Sep.append (fun b h1 h2 => by have := hS' b h1; have := hst.slt b h2; omega) ((hsolo i).sep h'.own) (hst.own.keep (fun b hb => hsame b (hst.ilt b hb)) (fun b hb => hsame b (hst.slt b hb)) (fun _ h => h) (fun _ h => h)),
  fun b hi hb => ?_, fun b hb => Nat.lt_of_lt_of_le (hst.ilt b hb) hsz, fun b hb => ?_, hst.inew, fun b hb => ?_, hst.i0,
  ⟨h'.frm.os.trans hst.frm.os, (h'.frm.tape.wk hL).trans hst.frm.tape, h'.frm.output.trans hst.frm.output, Nat.le_trans hst.frm.size hsz, fun b hb hx => (hsame b (Nat.lt_of_lt_of_le hb hst.frm.size)).trans (hst.frm.block b hb hx)⟩⟩
 ·rcases hb with hb | hb
  ·have := hS' b hb; have := hst.ilt b hi; omega
  ·exact hst.dj b hi hb
 ·rcases hb with hb | hb
  ·exact h'.slt b hb
  ·exact Nat.lt_of_lt_of_le (hst.slt b hb) hsz
 ·rcases hb with hb | hb
  ·exact .inr (Nat.le_trans hst.frm.size (hS' b hb))
  ·exact hst.snew b hb
inductive Take : List Own → List Own → List Own → Prop
  | nil {os : List Own} : Take os [] os
  | cons {os os1 os2 r : List Own} {o : Own} : Del os o os1 → Take os1 r os2 → Take os (o :: r) os2
theorem Take.sep {os r os2 : List Own} (h : Take os r os2) : ∀ {w : World} {I S : Blks}, Sep os w I S → ∃ S1 S2, (∀ b, S1 b → S b) ∧ (∀ b, S2 b → S b) ∧ (∀ b, S1 b → S2 b → False) ∧ Sep r w I S1 ∧ Sep os2 w I S2 := by
 induction h with
 | nil => exact fun h => ⟨fun _ => False, _, fun _ h => h.elim, fun _ h => h, fun _ h _ => h, trivial, h⟩
 | cons hd _ ih =>
  intro w I S h
  obtain ⟨A, B, mA, mB, dj, ho, hr⟩ := hd.sep h
  obtain ⟨S1, S2, m1, m2, d2, h1, h2⟩ := ih hr
  refine ⟨fun b => A b ∨ S1 b, S2, fun b hb => hb.elim (mA b) (fun h => mB b (m1 b h)), fun b hb => mB b (m2 b hb), fun b h1 h2 => h1.elim (fun h => dj b h (m2 b h2)) (fun h => d2 b h h2), ⟨A, S1, fun b => .inl, fun b => .inr, fun b hA h1 => dj b hA (m1 b h1), ho, h1⟩, h2⟩
theorem e_call {L : Prop} {ι : Type} {f : FuncId} {xs : List Operand} {vs : List Value} {ats : Array TypeId} {fsC : List Fact} {osC : List Own} {rv : ι → Value} {fsR : ι → List Fact} {osR : ι → List Own}
  (hc : FnL' L P f vs.toArray fsC osC rv fsR osR) (hx : evs s xs = some vs) (he : Ents fs fsC) (ht : Take os osC os') (hL : L → c.L := by exact False.elim) :
  Eo P c fs os N s ⟨d, .call { callee := .value (.func f), args := xs.toArray, argTypes := ats }, ty, pos, af, gd⟩ (fun v fs' os'' => ∃ i, v = rv i ∧ fs' = fsR i ++ fs ∧ os'' = osR i ++ os') := Ex.mk fun a w hs hw => by
 rw [run_call hs hc.cf hx]
 obtain ⟨I, S, hst⟩ := hw
 obtain ⟨S1, S2, m1, m2, dj, h1, h2⟩ := ht.sep hst.own
 refine (hc.go w I S1 ⟨fun f hf => he f hf w I hst.facts, h1, fun b hi hs => hst.dj b hi (m1 b hs), hst.ilt, fun b hb => hst.slt b (m1 b hb), fun _ => .inl, fun _ => .inl, fun _ h => h, Frm.refl _ _⟩).mono ?_
 rintro e w' ⟨i, rfl, I', S', h'⟩
 refine ⟨_, rfl, fsR i ++ fs, osR i ++ os', ⟨i, rfl, rfl, rfl⟩, I', fun b => S' b ∨ S2 b, ?_⟩
 have hsame : ∀ b, b < w.heap.size → ¬ S1 b → w'.heap[b]? = w.heap[b]? := fun b hb hn => h'.frm.block b hb hn
 have hsz := h'.frm.size
 have hI : Same I w w' := fun b hb => hsame b (hst.ilt b hb) fun h => hst.dj b hb (m1 b h)
 have hS2 : Same S2 w w' := fun b hb => hsame b (hst.slt b (m2 b hb)) fun h => dj b h hb
 have hS'2 : ∀ b, S' b → S2 b → False := fun b h1 h2 => (h'.snew b h1).elim (fun h => dj b h h2) (fun h => by simp only at h; have := hst.slt b (m2 b h2); omega)
 refine ⟨fun f hf => ?_, Sep.append hS'2 h'.own (h2.keep hI hS2 h'.i0 (fun _ h => h)), fun b hi hb => ?_, h'.ilt, fun b hb => ?_, fun b hb => ?_, fun b hb => ?_, fun b hb => h'.i0 b (hst.i0 b hb),
  ⟨h'.frm.os.trans hst.frm.os, (h'.frm.tape.wk hL).trans hst.frm.tape, h'.frm.output.trans hst.frm.output, Nat.le_trans hst.frm.size hsz, fun b hb hx => (hsame b (Nat.lt_of_lt_of_le hb hst.frm.size) fun h => ?_).trans (hst.frm.block b hb hx)⟩⟩
 ·rcases List.mem_append.1 hf with hf | hf
  ·exact h'.facts f hf
  ·exact f.keep (hst.facts f hf) hI h'.i0
 ·rcases hb with hb | hb
  ·exact h'.dj b hi hb
  ·rcases h'.inew b hi with h | h | h
   ·exact hst.dj b h (m2 b hb)
   ·exact dj b h hb
   ·simp only at h; have := hst.slt b (m2 b hb); omega
 ·rcases hb with hb | hb
  ·exact h'.slt b hb
  ·exact Nat.lt_of_lt_of_le (hst.slt b (m2 b hb)) hsz
 ·rcases h'.inew b hb with h | h | h
  ·exact hst.inew b h
  ·exact (hst.snew b (m1 b h)).imp_left id |> .inr
  ·exact .inr (.inr (Nat.le_trans hst.frm.size h))
 ·rcases hb with hb | hb
  ·rcases h'.snew b hb with h | h
   ·exact hst.snew b (m1 b h)
   ·exact .inr (Nat.le_trans hst.frm.size h)
  ·exact hst.snew b (m2 b hb)
 ·rcases hst.snew b (m1 b h) with h | h
  ·exact hx h
  ·omega
end
end Go.Sx

namespace Go.Sx
open Go Go.RowKit
section
variable {P : Program} {c : Ctx} {N : Nat} {s : Slots} {fs : List Fact} {os os' : List Own}
variable {d : Option Tmp} {ty : TypeId} {pos : String} {af : Array Edge} {gd : Option (Nat × Bool)}
theorem e_alloc {t : TypeId} {ag : Bool} {n : Nat} {z : Value} {by_ : Nat} (ht : TyI P t ag n z by_) :
  Eo P c fs os N s ⟨d, .alloc t, ty, pos, af, gd⟩ (fun v fs' os' => ∃ g, v = .pointer (some ⟨g, 0, none⟩) ∧ fs' = fs ∧ os' = box g t z.cells.toList :: os) := Ex.mk fun a w hs hw => by
 simp [execOp, Instr.alloc, ht.zero, newVar, newRow]
 exact ⟨fs, _, ⟨w.heap.size, rfl, rfl, rfl⟩, by have := hw.alloc t z.cells.toList; simpa using this⟩
theorem e_box {t : TypeId} {x : Operand} {v : Value} (hx : ev s x = some v) :
  Eo P c fs os N s ⟨d, .box t x, ty, pos, af, gd⟩ (fun u fs' os' => ∃ g, u = .pointer (some ⟨g, 0, none⟩) ∧ fs' = fs ∧ os' = box g t v.cells.toList :: os) := Ex.mk fun a w hs hw => by
 simp [execOp, Instr.box, hs.ev hx, newVar, newRow]
 exact ⟨fs, _, ⟨w.heap.size, rfl, rfl, rfl⟩, by have := hw.alloc t v.cells.toList; simpa using this⟩
theorem e_store {t : TypeId} {ag : Bool} {n : Nat} {z : Value} {by_ : Nat} {x y : Operand} {g j : Nat} {bt : TypeId} {cs cs' : List Value} {v : Value} (ht : TyI P t ag n z by_)
  (hx : ev s x = some (.pointer (some ⟨g, j, none⟩))) (hy : ev s y = some v) (hu : Upd os (box g bt cs) (box g bt cs') os') (hn : v.cells.size = n) (h1 : ∀ u ∈ v.cells.toList, u.oneCell' = true)
  (hl : j + n ≤ cs.length) (he : cs.take j ++ v.cells.toList ++ cs.drop (j + n) = cs') :
  Eo P c fs os N s ⟨d, .store t x y, ty, pos, af, gd⟩ (fun u fs' os'' => u = undef ∧ fs' = fs ∧ os'' = os') := Ex.mk fun a w hs hw => by
 obtain ⟨I, S, hst⟩ := id hw
 obtain ⟨S1, _, ⟨_, hh⟩, _⟩ := hu.sep hst.own
 have hrun := run_storeCells_at P g j bt v.cells.toList 0 cs.toArray w hh (by simp [hn]; omega) h1
 have hrun' : (storeCells ⟨g, j, none⟩ v.cells.toList).run P w = .ok () (w.setRow g cs'.toArray) := by
  rw [hrun]
  simp only [Nat.add_zero]
  rw [show v.cells.toList.length = n by simpa using hn, he]
 simp [execOp, Instr.storeAt, Instr.sureAddr, hs.ev hx, hs.ev hy, storeVar, ht.sizeOf, hn, hrun', Outc]
 exact ⟨fs, os', ⟨rfl, rfl⟩, hw.upd hu fun I S S1 hst m1 ⟨hg, hh'⟩ => ⟨S1, fun b => .inl, ⟨hg, setRow_heap w g _ _ bt _ hh'⟩, fun b hb hn' => setRow_other w g b _ fun e => hn' (e ▸ hg), by simp [World.setRow], rfl, ⟨rfl, by first | exact Nat.le_refl _ | exact Nat.le_succ _⟩, rfl⟩⟩
theorem e_lit {t e : TypeId} {ag : Bool} {m n : Nat} {z : Value} {by_ : Nat} {parts : List (Nat × Operand)} {vs : List (Nat × Value)} (cs : List Value) (hu : P.underlying t = some (.slice e)) (ht : TyI P e ag n z by_)
  (hp : parts.map (fun p => (p.1, ev s p.2)) = vs.map (fun p => (p.1, some p.2))) (h0 : m * n ≠ 0) (hb : m * n ≤ 16777216)
  (hf : Instr.fill (fun i => some (i * n, n)) ((Array.range (m * n)).map (fun j => z.cells[j % z.cells.size]!)) vs = some cs.toArray) :
  Eo P c fs os N s ⟨d, .buildSlice t m parts.toArray, ty, pos, af, gd⟩ (fun v fs' os' => ∃ g, v = .slice (some ⟨g, 0, none⟩) m m ∧ fs' = fs ∧ os' = box g e cs :: os) := Ex.mk fun a w hs hw => by
 have hvs : parts.map (fun p => (p.1, a.eval p.2)) = vs := by
  clear hf
  induction parts generalizing vs with
  | nil => cases vs with
   | nil => rfl
   | cons _ _ => simp at hp
  | cons p r ih =>
   cases vs with
   | nil => simp at hp
   | cons q vs =>
    simp only [List.map_cons, List.cons.injEq, Prod.mk.injEq] at hp
    obtain ⟨⟨h1, h2⟩, h3⟩ := hp
    rw [List.map_cons, ih h3, hs.ev h2, h1]
 have h2 : ¬ (16777216 < m * n) := by omega
 have hrun : (Instr.buildSlice t m (parts.toArray.map fun (i, x) => (i, a.eval x))).run P w = .ok (.slice (some ⟨w.heap.size, 0, none⟩) m m) (w.alloc (.cells cs.toArray e)) := by
  have hm : (parts.toArray.map fun (i, x) => (i, a.eval x)).toList = vs := by simpa using hvs
  unfold Instr.buildSlice
  simp only [Sem.run_bind, run_underlying hu, Result.andThen_ok, ht.sizeOf]
  rw [hm]
  simp only [h0, if_false]
  simp [h2, ht.zero, hf, newRow]
 simp only [execOp]
 rw [Sem.run_bind, hrun]
 exact ⟨fs, _, ⟨w.heap.size, rfl, rfl, rfl⟩, hw.alloc e cs⟩
theorem run_lit0 {t e : TypeId} {ag : Bool} {n : Nat} {z : Value} {by_ : Nat} (hu : P.underlying t = some (.slice e)) (ht : TyI P e ag n z by_) (w : World) :
  (Instr.buildSlice t 0 #[]).run P w = .ok (.slice (some ⟨w.heap.size, 0, none⟩) 0 0) (w.alloc (.cells #[] e)) := by
 unfold Instr.buildSlice
 simp only [Sem.run_bind, run_underlying hu, Result.andThen_ok, ht.sizeOf]
 have h0 : Array.range 0 = #[] := Array.eq_empty_of_size_eq_zero (by simp)
 simp [Instr.fill, newRow, h0]
theorem Sta.toTree0 {w : World} {α : Type} [Enc α] {g : Nat} {bt : TypeId} (h : Sta c fs os w) (hu : Upd os (box g bt []) (tree (α := α) (.slice (some ⟨g, 0, none⟩) 0 0) []) os') : Sta c fs os' w :=
 h.upd hu fun I S S1 hst m1 ⟨hg, hh⟩ => ⟨S1, fun b => .inl, .inr ⟨g, 0, #[], bt, rfl, hg, hh, Nat.le_refl _, by simp [maxLen], by simp, fun _ _ => False, fun i hi => absurd hi (Nat.not_lt_zero _), fun i j _ hj => absurd hj (Nat.not_lt_zero _), fun i hi => absurd hi (Nat.not_lt_zero _)⟩, fun _ _ _ => rfl, Nat.le_refl _, rfl, ⟨rfl, by first | exact Nat.le_refl _ | exact Nat.le_succ _⟩, rfl⟩
theorem Sta.toRow0 {w : World} {α : Type} [Enc α] {g : Nat} {bt : TypeId} (h : Sta c fs os w) (hu : Upd os (box g bt []) (row (α := α) (.slice (some ⟨g, 0, none⟩) 0 0) []) os') : Sta c fs os' w :=
 h.upd hu fun I S S1 hst m1 ⟨hg, hh⟩ => ⟨S1, fun b => .inl, .inr ⟨g, 0, #[], bt, rfl, hg, hh, Nat.le_refl _, by simp [maxLen], by simp, fun i hi => absurd hi (Nat.not_lt_zero _)⟩, fun _ _ _ => rfl, Nat.le_refl _, rfl, ⟨rfl, by first | exact Nat.le_refl _ | exact Nat.le_succ _⟩, rfl⟩
theorem e_lit0 {t e : TypeId} {ag : Bool} {n : Nat} {z : Value} {by_ : Nat} (α : Type) [Enc α] (hu : P.underlying t = some (.slice e)) (ht : TyI P e ag n z by_) :
  Eo P c fs os N s ⟨d, .buildSlice t 0 #[], ty, pos, af, gd⟩ (fun v fs' os' => ∃ oa cp, v = .slice oa ([] : List α).length cp ∧ fs' = fs ∧ os' = tree (.slice oa ([] : List α).length cp) ([] : List α) :: os) := Ex.mk fun a w hs hw => by
 have hrun := run_lit0 (P := P) hu ht w
 simp only [execOp, List.map_toArray, List.map_nil]
 rw [Sem.run_bind, hrun]
 exact ⟨fs, _, ⟨some ⟨w.heap.size, 0, none⟩, 0, rfl, rfl, rfl⟩, (hw.alloc e []).toTree0 (α := α) .here⟩
theorem e_lit0r {t e : TypeId} {ag : Bool} {n : Nat} {z : Value} {by_ : Nat} (α : Type) [Enc α] (hu : P.underlying t = some (.slice e)) (ht : TyI P e ag n z by_) :
  Eo P c fs os N s ⟨d, .buildSlice t 0 #[], ty, pos, af, gd⟩ (fun v fs' os' => ∃ oa cp, v = .slice oa ([] : List α).length cp ∧ fs' = fs ∧ os' = row (.slice oa ([] : List α).length cp) ([] : List α) :: os) := Ex.mk fun a w hs hw => by
 have hrun := run_lit0 (P := P) hu ht w
 simp only [execOp, List.map_toArray, List.map_nil]
 rw [Sem.run_bind, hrun]
 exact ⟨fs, _, ⟨some ⟨w.heap.size, 0, none⟩, 0, rfl, rfl, rfl⟩, (hw.alloc e []).toRow0 (α := α) .here⟩
theorem p_build {t : TypeId} {parts : List (Nat × Operand)} {vs : List (Nat × Value)} {v : Value} (hp : parts.map (fun p => (p.1, ev s p.2)) = vs.map (fun p => (p.1, some p.2))) (h : ∀ w, (Instr.build t vs.toArray).run P w = .ok v w) :
  Pu P N s ⟨d, .build t parts.toArray, ty, pos, af, gd⟩ v := fun a w hs => by
 have hvs : parts.map (fun p => (p.1, a.eval p.2)) = vs := by
  clear h
  induction parts generalizing vs with
  | nil => cases vs with
   | nil => rfl
   | cons _ _ => simp at hp
  | cons p r ih =>
   cases vs with
   | nil => simp at hp
   | cons q vs =>
    simp only [List.map_cons, List.cons.injEq, Prod.mk.injEq] at hp
    obtain ⟨⟨h1, h2⟩, h3⟩ := hp
    rw [List.map_cons, ih h3, hs.ev h2, h1]
 have hm : (parts.toArray.map fun (i, x) => (i, a.eval x)) = vs.toArray := by simpa using hvs
 simp [execOp] at hm ⊢
 rw [hm, h w]
 rfl
theorem calls_ofX {L : Prop} {f : FuncId} {fn : Func} {body : Code} {args : List Value} {fsC : List Fact} {osC : List Own} {ι : Type} {rv : ι → Value} {fsR : ι → List Fact} {osR : ι → List Own}
  (hf : P.funcs[f]? = some fn) (hb : fn.body = some body) (hn : (fn.name == "runtime.NumGoroutine") = false) (hNt : fn.ntmps = N) (hN : args.length ≤ N)
  (h : ∀ c : Ctx, (L → c.L) → Tr P c N (bodyPost P fn fun e w' => ∃ x, e = .returned (rv x) ∧ Sta c (fsR x) (osR x) w') body (args.mapIdx fun i v => (i, v)) fsC osC) : FnL' L P f args.toArray fsC osC rv fsR osR := by
 subst hNt
 refine ⟨⟨fn, hf, hn, by rw [hb]; rfl⟩, fun w I S hst => ?_⟩
 refine calls_of_wp hf hb (h ⟨w, I, S, L⟩ id _ w ⟨by simp; omega, rfl, fun t v hv => ?_⟩ ⟨I, S, hst⟩)
 have : ∀ (l : List Value) (k t : Nat) (v : Value), lk (l.mapIdx fun i v => (k + i, v)) t = some v → k ≤ t ∧ l[t - k]? = some v := by
  intro l
  induction l with
  | nil => intro k t v h; simp [lk] at h
  | cons u l ih =>
   intro k t v h
   rw [List.mapIdx_cons] at h
   by_cases e : k + 0 = t
   ·subst e
    rw [lk_cons_eq] at h
    cases h
    exact ⟨by omega, by simp⟩
   ·rw [lk_cons_ne e] at h
    have := ih (k + 1) t v (by
     have he : (fun i (v : Value) => (k + (i + 1), v)) = fun i v => (k + 1 + i, v) := by funext i v; congr 1; omega
     rw [he] at h
     exact h)
    refine ⟨by omega, ?_⟩
    rw [show t - k = (t - (k + 1)) + 1 by omega]
    simpa using this.2
 have h2 := (this args 0 t v (by simpa using hv)).2
 simp only [Nat.sub_zero] at h2
 obtain ⟨hlt, he⟩ := List.getElem?_eq_some_iff.1 h2
 rw [Array.getD_eq_getD_getElem?, Array.getElem?_append_left (by simpa using hlt)]
 simp [hlt, he]
theorem calls_of {f : FuncId} {fn : Func} {body : Code} {args : List Value} {fsC : List Fact} {osC : List Own} {ι : Type} {rv : ι → Value} {fsR : ι → List Fact} {osR : ι → List Own}
  (hf : P.funcs[f]? = some fn) (hb : fn.body = some body) (hn : (fn.name == "runtime.NumGoroutine") = false) (hNt : fn.ntmps = N) (hN : args.length ≤ N)
  (h : ∀ c, Tr P c N (bodyPost P fn fun e w' => ∃ x, e = .returned (rv x) ∧ Sta c (fsR x) (osR x) w') body (args.mapIdx fun i v => (i, v)) fsC osC) : Fn' P f args.toArray fsC osC rv fsR osR := calls_ofX hf hb hn hNt hN fun c _ => h c
variable {Q : Exit → Act → World → Prop} {ops : Array Oper} {rest : List Oper}
theorem Sl.know {a : Act} {t : Nat} {b x : Bool} (hs : Sl N s a) (h : lk s t = some (.bool b)) (hb : b = x) : Sl N ((t, .bool x) :: s) a :=
 ⟨hs.size, hs.defers, fun u v hu => by
  by_cases e : t = u
  ·subst e
   rw [lk_cons_eq] at hu
   cases hu
   exact hb ▸ hs.get t _ h
  ·rw [lk_cons_ne e] at hu
   exact hs.get u v hu⟩
theorem Rg.split (t : Nat) {b : Bool} (h : lk s t = some (.bool b)) (hT : b = true → Rg P c N ops Q rest ((t, .bool true) :: s) fs os) (hF : b = false → Rg P c N ops Q rest ((t, .bool false) :: s) fs os) : Rg P c N ops Q rest s fs os := fun a w hs hw => by
 cases hb : b with
 | true => exact hT hb a w (hs.know h hb) hw
 | false => exact hF hb a w (hs.know h hb) hw
theorem Tr.split {code : Code} (t : Nat) {b : Bool} (h : lk s t = some (.bool b)) (hT : b = true → Tr P c N Q code ((t, .bool true) :: s) fs os) (hF : b = false → Tr P c N Q code ((t, .bool false) :: s) fs os) : Tr P c N Q code s fs os := fun a w hs hw => by
 cases hb : b with
 | true => exact hT hb a w (hs.know h hb) hw
 | false => exact hF hb a w (hs.know h hb) hw
end
end Go.Sx

namespace Go.Sx
open Go Go.RowKit
class Shp (α : Type) extends Enc α where
  γ : Type
  x0 : γ
  enc : α → γ → List Value
  len' : ∀ d x, (enc d x).length = Enc.sz α
  rd : ∀ {w S cs d}, Enc.Rd w S cs d → ∃ x, cs = enc d x
instance : Shp Int where
  γ := Unit
  x0 := ()
  enc := fun n _ => [.int .i64 n]
  len' := fun _ _ => rfl
  rd := fun h => ⟨(), h⟩
instance : Shp Bool where
  γ := Unit
  x0 := ()
  enc := fun n _ => [.bool n]
  len' := fun _ _ => rfl
  rd := fun h => ⟨(), h⟩
instance : Shp ByteArray where
  γ := Unit
  x0 := ()
  enc := fun n _ => [.string n]
  len' := fun _ _ => rfl
  rd := fun h => ⟨(), h⟩
instance {α β : Type} [Shp α] [Shp β] : Shp (α × β) where
  γ := Shp.γ α × Shp.γ β
  x0 := (Shp.x0, Shp.x0)
  enc := fun d x => Shp.enc d.1 x.1 ++ Shp.enc d.2 x.2
  len' := fun d x => by rw [List.length_append, Shp.len', Shp.len']; rfl
  rd := by
    rintro w S cs d ⟨c1, c2, rfl, h1, h2⟩
    obtain ⟨x, rfl⟩ := Shp.rd h1
    obtain ⟨y, rfl⟩ := Shp.rd h2
    exact ⟨(x, y), rfl⟩
instance {α : Type} [Enc α] : Shp (List α) where
  γ := Option Addr × Nat
  x0 := (none, 0)
  enc := fun l x => [.slice x.1 l.length x.2]
  len' := fun _ _ => rfl
  rd := by
    rintro w S cs d ⟨v, rfl, oa, cap, rfl, _⟩
    exact ⟨(oa, cap), rfl⟩
section
variable {P : Program} {c : Ctx} {N : Nat} {s : Slots} {fs : List Fact} {os : List Own} {Q : Exit → Act → World → Prop} {code : Code}
theorem arr_shp {α : Type} [Shp α] [Inhabited α] {w : World} {I : Blks} {oa : Option Addr} {E : Nat → List Value} {l : List α} (h : (arr oa E l).ok w I) :
  ∃ X : Nat → Shp.γ α, (arr oa (fun i => Shp.enc (nth l i) (X i)) l).ok w I := by
 have hX : ∀ i, ∃ x, i < l.length → E i = Shp.enc (nth l i) x := fun i => by
  by_cases hi : i < l.length
  ·obtain ⟨ad, e, hI, hc, hr⟩ := h i hi
   obtain ⟨x, hx⟩ := Shp.rd hr
   exact ⟨x, fun _ => hx⟩
  ·exact ⟨Shp.x0, fun h => absurd h hi⟩
 obtain ⟨X, hX⟩ := Classical.axiomOfChoice hX
 refine ⟨X, fun i hi => ?_⟩
 obtain ⟨ad, e, hI, hc, hr⟩ := h i hi
 have := hX i hi
 refine ⟨ad, e, hI, ?_, ?_⟩ <;> dsimp only <;> rw [← this] <;> assumption
theorem Tr.openS {α : Type} [Shp α] [Inhabited α] {oa : Option Addr} {n cap : Nat} (l : List α) (h : Ent fs (imm (.slice oa n cap) l))
  (k : ∀ X : Nat → Shp.γ α, n = l.length → l.length ≤ cap → cap ≤ maxLen → Tr P c N Q code s (arr oa (fun i => Shp.enc (nth l i) (X i)) l :: fs) os) : Tr P c N Q code s fs os := by
 intro a w hs hw
 obtain ⟨I, S, hst⟩ := hw
 obtain ⟨oa', cap', E, e, h1, h2, ha⟩ := RdL.open_ (h w I hst.facts)
 cases e
 obtain ⟨X, hX⟩ := arr_shp ha
 refine k X rfl h1 h2 a w hs ⟨I, S, { hst with facts := fun g hg => ?_ }⟩
 rcases List.mem_cons.1 hg with rfl | hg
 ·exact hX
 ·exact hst.facts g hg
theorem Ent.snd {α β : Type} [Shp α] [Shp β] {d : α × β} {x : Shp.γ α × Shp.γ β} (h : Ent fs (imms (Shp.enc d (α := α × β) x) d)) : Ent fs (imms (Shp.enc d.2 x.2) d.2) := fun w I hf => by
 obtain ⟨c1, c2, e, h1, h2⟩ := h w I hf
 have hl : c1.length = (Shp.enc d.1 x.1).length := by rw [Enc.len h1, Shp.len']
 have := (List.append_inj (show Shp.enc d.1 x.1 ++ Shp.enc d.2 x.2 = c1 ++ c2 from e) hl.symm).2
 show Enc.Rd w I _ d.2
 rw [this]; exact h2
end
def At (c : Ctx) (N : Nat) (s : Slots) (fs : List Fact) (os : List Own) (F : Act → World → Prop) : Prop := ∀ a w, Sl N s a → Sta c fs os w → F a w
def SubS (s : Slots) : Slots → Prop
 | [] => True
 | p :: r => lk s p.1 = some p.2 ∧ SubS s r
theorem SubS.lk {s : Slots} : ∀ {s' : Slots}, SubS s s' → ∀ t v, Sx.lk s' t = some v → Sx.lk s t = some v
 | [], _, t, v, h => by simp [Sx.lk] at h
 | (d, u) :: r, ⟨h1, h2⟩, t, v, h => by
  by_cases e : d = t
  ·subst e
   rw [lk_cons_eq] at h
   cases h
   exact h1
  ·rw [lk_cons_ne e] at h
   exact h2.lk t v h
theorem Sta.weak {c : Ctx} {fs fs' : List Fact} {os os' osR : List Own} {w : World} (h : Sta c fs os w) (hf : Ents fs fs') (ht : Take os os' osR) : Sta c fs' os' w := by
 obtain ⟨I, S, h⟩ := h
 obtain ⟨S1, S2, m1, _, _, h1, _⟩ := ht.sep h.own
 exact ⟨I, S1, fun f hf' => hf f hf' w I h.facts, h1, fun b hi hs => h.dj b hi (m1 b hs), h.ilt, fun b hs => h.slt b (m1 b hs), h.inew, fun b hs => h.snew b (m1 b hs), h.i0, h.frm⟩
section
variable {P : Program} {c : Ctx} {N : Nat} {s : Slots} {fs : List Fact} {os : List Own} {Q : Exit → Act → World → Prop} {K : Act → World → Prop} {id : Nat}
theorem nB (h : At c N s fs os (Q .normal)) : At c N s fs os (Exit.inBlock id Q .normal) := h
theorem nT {y : Code} (h : Tr P c N Q y s fs os) : At c N s fs os (Exit.then (fun a w => y.wp P Q a w) Q .normal) := h
theorem xT {id : Nat} (h : At c N s fs os (Q (.exit id))) : At c N s fs os (Exit.then K Q (.exit id)) := h
theorem xE (h : At c N s fs os (Q .normal)) : At c N s fs os (Exit.inBlock id Q (.exit id)) := fun a w hs hw => by
 simp only [Exit.inBlock, if_true]
 exact h a w hs hw
theorem rT (h : At c N s fs os (Q .ret)) : At c N s fs os (Exit.then K Q .ret) := h
theorem rB (h : At c N s fs os (Q .ret)) : At c N s fs os (Exit.inBlock id Q .ret) := h
theorem Rg.nl {ops : Array Oper} (h : At c N s fs os (Q .normal)) : Rg P c N ops Q [] s fs os := Rg.nil h
theorem tSkip (h : At c N s fs os (Q .normal)) : Tr P c N Q .skip s fs os := Tr.skip h
theorem tExit (h : At c N s fs os (Q (.exit id))) : Tr P c N Q (.exit id) s fs os := Tr.exit h
theorem tRet (h : At c N s fs os (Q .ret)) : Tr P c N Q .ret s fs os := Tr.ret h
theorem tLoop {body : Code} {ι : Type} (s' : ι → Slots) (fs' : ι → List Fact) (os' : ι → List Own) (μ : ι → Nat) (i0 : ι) {osR : List Own}
  (hs : SubS s (s' i0)) (hf : Ents fs (fs' i0)) (ho : Take os (os' i0) osR)
  (round : ∀ i, Tr P c N (Exit.then (fun a w => ∃ j, μ j < μ i ∧ Sl N (s' j) a ∧ Sta c (fs' j) (os' j) w) Q) body (s' i) (fs' i) (os' i)) :
  Tr P c N Q (.loop body) s fs os :=
 Tr.loop i0 s' fs' os' μ (fun _ _ h1 h2 => ⟨h1.weak hs.lk, h2.weak hf ho⟩) round
theorem tMid {x y : Code} {ι : Type} (s' : ι → Slots) (fs' : ι → List Fact) (os' : ι → List Own)
  (h : Tr P c N (Exit.then (fun a w => ∃ i, Sl N (s' i) a ∧ Sta c (fs' i) (os' i) w) Q) x s fs os)
  (k : ∀ i, Tr P c N Q y (s' i) (fs' i) (os' i)) : Tr P c N Q (.seq x y) s fs os := Tr.mid s' fs' os' h k
inductive ResV (P : Program) (s : Slots) (os : List Own) : ResultVar → Value → Prop
  | tmp {t : Nat} {v : Value} : lk s t = some v → ResV P s os (.tmp t) v
  | agg {t ty n g : Nat} {z : Value} {by_ : Nat} {bt : TypeId} {cs : List Value} : TyI P ty true n z by_ → lk s t = some (.pointer (some ⟨g, 0, none⟩)) → Has os (box g bt cs) → cs.length = n → ResV P s os (.cell t ty) (.agg cs.toArray)
  | one {t ty n g : Nat} {z : Value} {by_ : Nat} {bt : TypeId} {v : Value} : TyI P ty false n z by_ → lk s t = some (.pointer (some ⟨g, 0, none⟩)) → Has os (box g bt [v]) → ResV P s os (.cell t ty) v
def resOf (tmps : Array Value) : ResultVar → Sem Value
 | .tmp t => pure (tmps.getD t undef)
 | .cell a t => do loadVar t (← asAddr (tmps.getD a undef))
theorem ResV.run {r : ResultVar} {v : Value} (h : ResV P s os r v) {a : Act} {w : World} (hs : Sl N s a) (hw : Sta c fs os w) : (resOf a.tmps r).run P w = .ok v w := by
 obtain ⟨I, S, hst⟩ := hw
 cases h with
 | tmp h => simp only [resOf, hs.get _ _ h]; rfl
 | agg ht hp hb hn =>
  obtain ⟨S1, _, _, hh⟩ := Sep.has hb hst.own
  simp only [resOf, hs.get _ _ hp]
  have := run_load_agg ht (a := ⟨_, 0, none⟩) (w := w) (fun j u hu => by
   rw [Addr.add_lit, cell_of_row w _ _ _ _ (0, 0) hh]
   simpa using hu) hn
  simpa [Instr.loadAt, Instr.sureAddr, asAddr] using this
 | one ht hp hb =>
  obtain ⟨S1, _, _, hh⟩ := Sep.has hb hst.own
  simp only [resOf, hs.get _ _ hp]
  have := run_load_one ht (a := ⟨_, 0, none⟩) (w := w) (v := _) (by
   rw [cell_of_row w _ _ _ _ (0, 0) hh]
   rfl)
  simpa [Instr.loadAt, Instr.sureAddr, asAddr] using this
theorem results_eq (fn : Func) (tmps : Array Value) : results fn tmps = (do let vs ← fn.results.mapM (resOf tmps); pure (if h : vs.size = 1 then vs[0] else .tuple vs)) := by
 unfold results
 congr 1
variable {fn : Func} {ι : Type} {rv : ι → Value} {fsR : ι → List Fact} {osR : ι → List Own}
theorem back1 {r : ResultVar} (x : ι) {osX : List Own} {v : Value} (hr : fn.results = #[r]) (h1 : ResV P s os r v) (hv : v = rv x) (hf : Ents fs (fsR x)) (ho : Take os (osR x) osX) :
  At c N s fs os (bodyPost P fn (fun e w' => ∃ x, e = .returned (rv x) ∧ Sta c (fsR x) (osR x) w') .ret) := fun a w hs hw =>
 ⟨hs.defers, v, by rw [results_eq]; simp [hr, h1.run hs hw], x, by rw [hv], hw.weak hf ho⟩
theorem back2 {r q : ResultVar} (x : ι) {osX : List Own} {v u : Value} (hr : fn.results = #[r, q]) (h1 : ResV P s os r v) (h2 : ResV P s os q u) (hv : .tuple #[v, u] = rv x) (hf : Ents fs (fsR x)) (ho : Take os (osR x) osX) :
  At c N s fs os (bodyPost P fn (fun e w' => ∃ x, e = .returned (rv x) ∧ Sta c (fsR x) (osR x) w') .ret) := fun a w hs hw =>
 ⟨hs.defers, .tuple #[v, u], by rw [results_eq]; simp [hr, h1.run hs hw, h2.run hs hw], x, by rw [hv], hw.weak hf ho⟩
theorem back3 {r q p : ResultVar} (x : ι) {osX : List Own} {v u y : Value} (hr : fn.results = #[r, q, p]) (h1 : ResV P s os r v) (h2 : ResV P s os q u) (h3 : ResV P s os p y) (hv : .tuple #[v, u, y] = rv x) (hf : Ents fs (fsR x)) (ho : Take os (osR x) osX) :
  At c N s fs os (bodyPost P fn (fun e w' => ∃ x, e = .returned (rv x) ∧ Sta c (fsR x) (osR x) w') .ret) := fun a w hs hw =>
 ⟨hs.defers, .tuple #[v, u, y], by rw [results_eq]; simp [hr, h1.run hs hw, h2.run hs hw, h3.run hs hw], x, by rw [hv], hw.weak hf ho⟩
end
end Go.Sx

namespace Go.Sx
open Go Go.RowKit
section
variable {P : Program} {c : Ctx} {N : Nat} {s s' : Slots} {fs : List Fact} {os : List Own} {Q : Exit → Act → World → Prop} {ops : Array Oper} {rest : List Oper}
variable {d : Option Tmp} {ty : TypeId} {pos : String} {af : Array Edge} {gd : Option (Nat × Bool)}
theorem Rg.ed {t : Nat} {op : Op} {next : Value → List Fact → List Own → Prop} (he : Eo P c fs os N s ⟨some t, op, ty, pos, af, gd⟩ next) (hw : wtd ops s ⟨some t, op, ty, pos, af, gd⟩ = some true) (hd : t < N)
  (k : ∀ v fs' os', next v fs' os' → Rg P c N ops Q rest ((t, v) :: s) fs' os') : Rg P c N ops Q (⟨some t, op, ty, pos, af, gd⟩ :: rest) s fs os :=
 Rg.e he hw (fun u hu => by cases hu; exact hd) k
theorem Rg.en {op : Op} {next : Value → List Fact → List Own → Prop} (he : Eo P c fs os N s ⟨none, op, ty, pos, af, gd⟩ next) (hw : wtd ops s ⟨none, op, ty, pos, af, gd⟩ = some true)
  (k : ∀ v fs' os', next v fs' os' → Rg P c N ops Q rest s fs' os') : Rg P c N ops Q (⟨none, op, ty, pos, af, gd⟩ :: rest) s fs os :=
 Rg.e he hw (fun u hu => by cases hu) k
theorem Tr.trim {code : Code} (s' : Slots) (h : SubS s s') (k : Tr P c N Q code s' fs os) : Tr P c N Q code s fs os := fun a w hs hw => k a w (hs.weak h.lk) hw
theorem tLin {id : Nat} {l : List Oper} {b : Bool} (n : Nat) (hm : P.follows .mixedOrders = true) (hc : b = false ∨ chkN l.toArray n (List.range l.length) [] = true)
  (h : Lin P c fs os N l.toArray l (dropS (dsts l.toArray) s) (fun s' => At c N s' fs os (Q .normal))) : Tr P c N Q (.region id l.toArray b) s fs os := by
 cases b with
 | false => exact fun a w hs hw => wp_region_lit (Lin.text l _ h (fun s' hR a w hs hw => hR a w hs hw) a w (hs.weak fun t v hv => dropS_lk hv) hw)
 | true =>
  replace hc := hc.resolve_left (by simp)
  refine Tr.draw n (List.range l.length) [] (fun s' fs' os' => fs' = fs ∧ os' = os ∧ At c N s' fs os (Q .normal)) hm hc List.nodup_range ?_ ?_
  ·rintro s' _ _ ⟨rfl, rfl, h⟩ a w hs hw
   exact h a w hs hw
  ·have key : ∀ (l1 l2 : List Oper) (s : Slots) (pd : List Nat), l = l1 ++ l2 → Lin P c fs os N l.toArray l2 s (fun s' => At c N s' fs os (Q .normal)) →
     Nf P c N l.toArray n [] (List.range' l1.length l2.length) s fs os pd (fun s' fs' os' => fs' = fs ∧ os' = os ∧ At c N s' fs os (Q .normal)) := by
    intro l1 l2
    induction l2 generalizing l1 with
    | nil => intro s pd _ h; exact ⟨rfl, rfl, h⟩
    | cons o l2 ih =>
     rintro s pd e ⟨d, hd, hN, h⟩
     have ho : l.toArray[l1.length]? = some o := by rw [e]; simp
     refine ⟨o, ho, ?_⟩
     have e' : l = (l1 ++ [o]) ++ l2 := by rw [e]; simp
     have hlen : (l1 ++ [o]).length = l1.length + 1 := by simp
     rcases h with ⟨hw, v, hq, hl⟩ | ⟨hw, hl⟩
     ·have := ih (l1 ++ [o]) ((d, v) :: s) (l1.length :: pd) e' hl
      rw [hlen] at this
      exact .inr (.inr (.inl ⟨d, v, hd, hN, rfl, hw, hq, this⟩))
     ·have := ih (l1 ++ [o]) ((d, undef) :: s) pd e' hl
      rw [hlen] at this
      exact .inl ⟨d, hd, hN, rfl, hw, this⟩
   have := key [] l (dropS (dsts l.toArray) s) [] rfl h
   rw [List.range_eq_range']
   exact this
theorem Pu.eqv {o : Oper} {v v' : Value} (h : Pu P N s o v) (e : v = v') : Pu P N s o v' := e ▸ h
theorem Qo.eqv {o : Oper} {v v' : Value} (h : Qo P c fs os N s o v) (e : v = v') : Qo P c fs os N s o v' := e ▸ h
theorem tMid1 {x y : Code} (s' : Slots) (h : Tr P c N (Exit.then (fun a w => Sl N s' a ∧ Sta c fs os w) Q) x s fs os) (k : Tr P c N Q y s' fs os) : Tr P c N Q (.seq x y) s fs os :=
 fun a w hs hw => wp_seq (wp_mono (h a w hs hw) fun e a w hq => by
  cases e <;> first
   | exact hq
   | exact k a w hq.1 hq.2)
theorem n1 {s' : Slots} (h : SubS s s') : At c N s fs os (Exit.then (fun a w => Sl N s' a ∧ Sta c fs os w) Q .normal) := fun _ _ h1 h2 => ⟨h1.weak h.lk, h2⟩
end
end Go.Sx

namespace Go.Sx
open Go Go.RowKit
section
variable {c : Ctx} {fs : List Fact} {os os1 r r' : List Own} {w w' : World}
theorem St.put_ {I S S1 S2 S1' : Blks} (h : St c fs os w I S) (m1 : ∀ b, S1 b → S b) (m2 : ∀ b, S2 b → S b) (dj : ∀ b, S1 b → S2 b → False) (hr : Sep os1 w I S2)
  (hn : ∀ b, S1' b → S1 b ∨ (w.heap.size ≤ b ∧ b < w'.heap.size)) (ho' : Sep r' w' I S1') (hb : ∀ b, b < w.heap.size → ¬ S1 b → w'.heap[b]? = w.heap[b]?) (hsz : w.heap.size ≤ w'.heap.size) (e1 : w'.os = w.os) (e2 : TD w w') (e3 : w'.output = w.output) : Sta c fs (r' ++ os1) w' := by
 have hI : Same I w w' := fun b hi => hb b (h.ilt b hi) fun h1 => h.dj b hi (m1 b h1)
 have hS2 : Same S2 w w' := fun b hs => hb b (h.slt b (m2 b hs)) fun h1 => dj b h1 hs
 refine ⟨I, fun b => S1' b ∨ S2 b, fun f hf => f.keep (h.facts f hf) hI (fun _ h => h), Sep.append (fun b h1 h2 => ?_) ho' (hr.keep hI hS2 (fun _ h => h) (fun _ h => h)),
  fun b hi hs => ?_, fun b hi => Nat.lt_of_lt_of_le (h.ilt b hi) hsz, fun b hs => ?_, h.inew, fun b hs => ?_, h.i0, ⟨e1.trans h.frm.os, e2.l.trans h.frm.tape, e3.trans h.frm.output, Nat.le_trans h.frm.size hsz, fun b hb' hx => ?_⟩⟩
 ·rcases hn b h1 with h' | h'
  ·exact dj b h' h2
  ·have := h.slt b (m2 b h2); omega
 ·rcases hs with hs | hs
  ·rcases hn b hs with h' | h'
   ·exact h.dj b hi (m1 b h')
   ·have := h.ilt b hi; omega
  ·exact h.dj b hi (m2 b hs)
 ·rcases hs with hs | hs
  ·rcases hn b hs with h' | h'
   ·exact Nat.lt_of_lt_of_le (h.slt b (m1 b h')) hsz
   ·exact h'.2
  ·exact Nat.lt_of_lt_of_le (h.slt b (m2 b hs)) hsz
 ·rcases hs with hs | hs
  ·rcases hn b hs with h' | h'
   ·exact h.snew b (m1 b h')
   ·exact .inr (Nat.le_trans h.frm.size h'.1)
  ·exact h.snew b (m2 b hs)
 ·rw [hb b (Nat.lt_of_lt_of_le hb' h.frm.size) fun h1 => ?_]
  ·exact h.frm.block b hb' hx
  ·rcases h.snew b (m1 b h1) with h' | h'
   ·exact hx h'
   ·omega
theorem Sta.chg (h : Sta c fs os w) (ht : Take os r os1)
  (hk : ∀ I S S1, St c fs os w I S → (∀ b, S1 b → S b) → Sep r w I S1 → ∃ S1', (∀ b, S1' b → S1 b ∨ (w.heap.size ≤ b ∧ b < w'.heap.size)) ∧ Sep r' w' I S1' ∧
   (∀ b, b < w.heap.size → ¬ S1 b → w'.heap[b]? = w.heap[b]?) ∧ w.heap.size ≤ w'.heap.size ∧ w'.os = w.os ∧ TD w w' ∧ w'.output = w.output) : Sta c fs (r' ++ os1) w' := by
 obtain ⟨I, S, h⟩ := h
 obtain ⟨S1, S2, m1, m2, dj, ho, hr⟩ := ht.sep h.own
 obtain ⟨S1', hn, ho', hb, hsz, e1, e2, e3⟩ := hk I S S1 h m1 ho
 exact h.put_ m1 m2 dj hr hn ho' hb hsz e1 e2 e3
end
class ShpT (α : Type) extends Shp α where
  wf : α → Prop
  wfa : ∀ d, wf d
  own : α → Shp.γ α → List Own
  facts : α → Shp.γ α → List Fact
  wfr : ∀ {w S cs d}, Enc.Rd w S cs d → wf d
  un : ∀ {w S cs d}, Enc.Tr w S cs d → ∃ x, cs = Shp.enc d x ∧ ∀ I, Sep (own d x) w I S
  mkT : ∀ {w I S d x}, wf d → Sep (own d x) w I S → Enc.Tr w S (Shp.enc d x) d
  mkR : ∀ {w I d x}, wf d → (∀ f ∈ facts d x, f.ok w I) → Enc.Rd w I (Shp.enc d x) d
instance : ShpT Int where
  wf := fun _ => True
  wfa := fun _ => trivial
  own := fun _ _ => []
  facts := fun _ _ => []
  wfr := fun _ => trivial
  un := fun h => ⟨(), h, fun _ => trivial⟩
  mkT := fun _ _ => rfl
  mkR := fun _ _ => rfl
instance : ShpT Bool where
  wf := fun _ => True
  wfa := fun _ => trivial
  own := fun _ _ => []
  facts := fun _ _ => []
  wfr := fun _ => trivial
  un := fun h => ⟨(), h, fun _ => trivial⟩
  mkT := fun _ _ => rfl
  mkR := fun _ _ => rfl
instance : ShpT ByteArray where
  wf := fun _ => True
  wfa := fun _ => trivial
  own := fun _ _ => []
  facts := fun _ _ => []
  wfr := fun _ => trivial
  un := fun h => ⟨(), h, fun _ => trivial⟩
  mkT := fun _ _ => rfl
  mkR := fun _ _ => rfl
theorem Sep.split : ∀ {o1 o2 : List Own} {w : World} {I S : Blks}, Sep (o1 ++ o2) w I S → ∃ S1 S2, (∀ b, S1 b → S b) ∧ (∀ b, S2 b → S b) ∧ (∀ b, S1 b → S2 b → False) ∧ Sep o1 w I S1 ∧ Sep o2 w I S2
 | [], _, _, _, S, h => ⟨fun _ => False, S, fun _ h => h.elim, fun _ h => h, fun _ h _ => h, trivial, h⟩
 | _ :: _, _, _, _, _, ⟨A, B, mA, mB, dj, ho, hr⟩ => by
  obtain ⟨S1, S2, m1, m2, d2, h1, h2⟩ := Sep.split hr
  exact ⟨fun b => A b ∨ S1 b, S2, fun b hb => hb.elim (mA b) (fun h => mB b (m1 b h)), fun b hb => mB b (m2 b hb), fun b h1 h2 => h1.elim (fun h => dj b h (m2 b h2)) (fun h => d2 b h h2), ⟨A, S1, fun b => .inl, fun b => .inr, fun b hA h1 => dj b hA (m1 b h1), ho, h1⟩, h2⟩
instance {α β : Type} [ShpT α] [ShpT β] : ShpT (α × β) where
  wf := fun d => ShpT.wf d.1 ∧ ShpT.wf d.2
  wfa := fun d => ⟨ShpT.wfa d.1, ShpT.wfa d.2⟩
  own := fun d x => ShpT.own d.1 x.1 ++ ShpT.own d.2 x.2
  facts := fun d x => ShpT.facts d.1 x.1 ++ ShpT.facts d.2 x.2
  wfr := fun ⟨_, _, _, h1, h2⟩ => ⟨ShpT.wfr h1, ShpT.wfr h2⟩
  un := by
    rintro w S cs d ⟨c1, c2, S1, S2, rfl, m1, m2, dj, h1, h2⟩
    obtain ⟨x, rfl, hx⟩ := ShpT.un h1
    obtain ⟨y, rfl, hy⟩ := ShpT.un h2
    exact ⟨(x, y), rfl, fun I => (Sep.append dj (hx I) (hy I)).mono fun b hb => hb.elim (m1 b) (m2 b)⟩
  mkT := by
    rintro w I S d x ⟨w1, w2⟩ h
    obtain ⟨S1, S2, m1, m2, dj, h1, h2⟩ := Sep.split h
    exact ⟨_, _, S1, S2, rfl, m1, m2, dj, ShpT.mkT w1 h1, ShpT.mkT w2 h2⟩
  mkR := fun ⟨w1, w2⟩ h => ⟨_, _, rfl, ShpT.mkR w1 fun f hf => h f (List.mem_append_left _ hf), ShpT.mkR w2 fun f hf => h f (List.mem_append_right _ hf)⟩
instance {α : Type} [Enc α] : ShpT (List α) where
  wf := fun _ => True
  wfa := fun _ => trivial
  own := fun l x => [tree (.slice x.1 l.length x.2) l]
  facts := fun l x => [imm (.slice x.1 l.length x.2) l]
  wfr := fun _ => trivial
  un := by
    rintro w S cs l ⟨v, rfl, h⟩
    obtain ⟨oa, cap, rfl, _⟩ := h.rd
    exact ⟨(oa, cap), rfl, fun I => ⟨S, fun _ => False, fun _ h => h, fun _ h => h.elim, fun _ _ h => h, h, trivial⟩⟩
  mkT := by
    rintro w I S l x _ ⟨S1, _, m1, _, _, h, _⟩
    exact ⟨_, rfl, TrL.keep h (Same.refl _ _) m1⟩
  mkR := by
    intro w I l x _ h
    exact ⟨_, rfl, h (imm (.slice x.1 l.length x.2) l) (List.Mem.head _)⟩
class Zr (α : Type) extends Enc α where
  z0 : α
  zc : List Value
  trz : ∀ w, Enc.Tr w (fun _ => False) zc z0
instance : Zr Int where
  z0 := 0
  zc := [.int .i64 0]
  trz := fun _ => rfl
instance : Zr Bool where
  z0 := false
  zc := [.bool false]
  trz := fun _ => rfl
instance : Zr ByteArray where
  z0 := ⟨#[]⟩
  zc := [.string ⟨#[]⟩]
  trz := fun _ => rfl
instance {α β : Type} [Zr α] [Zr β] : Zr (α × β) where
  z0 := (Zr.z0, Zr.z0)
  zc := Zr.zc α ++ Zr.zc β
  trz := fun w => ⟨_, _, fun _ => False, fun _ => False, rfl, fun _ h => h, fun _ h => h, fun _ h _ => h, Zr.trz w, Zr.trz w⟩
instance {α : Type} [Enc α] : Zr (List α) where
  z0 := []
  zc := [.slice none 0 0]
  trz := fun _ => ⟨_, rfl, .inl ⟨rfl, rfl⟩⟩
theorem madeCells_get {z : Array Value} {n i sz : Nat} (hz : z.size = sz) (h0 : 0 < sz) (hi : i < n) : ((madeCells z (n * sz)).toList.drop (i * sz)).take sz = z.toList := by
 subst hz
 have hle : i * z.size + z.size ≤ n * z.size := by
  have := Nat.mul_le_mul_right z.size (show i + 1 ≤ n by omega)
  rw [Nat.add_mul] at this
  omega
 refine List.ext_getElem? fun r => ?_
 rw [List.getElem?_take]
 split
 ·rename_i hr
  rw [List.getElem?_drop]
  have h1 : (madeCells z (n * z.size)).toList[i * z.size + r]? = (madeCells z (n * z.size))[i * z.size + r]? := by simp
  rw [h1]
  unfold madeCells
  rw [Array.getElem?_map, Array.getElem?_range]
  have hlt : i * z.size + r < n * z.size := by omega
  simp only [hlt, if_true, Option.map_some]
  have : (i * z.size + r) % z.size = r := by rw [Nat.mul_comm, Nat.mul_add_mod, Nat.mod_eq_of_lt hr]
  rw [this, getElem!_pos z r hr]
  simp [hr]
 ·rw [List.getElem?_eq_none (by simp; omega)]
section
variable {P : Program} {c : Ctx} {N : Nat} {s : Slots} {fs : List Fact} {os os1 es : List Own}
variable {d : Option Tmp} {ty : TypeId} {pos : String} {af : Array Edge} {gd : Option (Nat × Bool)}
theorem e_make {t e : TypeId} {ag : Bool} {z : Value} {by_ : Nat} (α : Type) [Zr α] {x y : Operand} {m : Int} (n : Nat) (hu : P.underlying t = some (.slice e)) (ht : TyI P e ag (Enc.sz α) z by_) (hz : z.cells.toList = Zr.zc α)
  (hx : ev s x = some (.int .i64 m)) (hy : ev s y = some (.int .i64 m)) (hm : m = n) (hb : by_ * n ≤ 281474976710656) (hn : n ≤ maxLen) :
  Eo P c fs os N s ⟨d, .makeSlice t x y, ty, pos, af, gd⟩ (fun v fs' os' => ∃ oa cp, v = .slice oa n cp ∧ fs' = fs ∧ os' = tree (.slice oa n cp) (List.replicate n (Zr.z0 : α)) :: os) := Ex.mk fun a w hs hw => by
 subst hm
 obtain ⟨i, hi, hiz, hin, hib⟩ := ht.info'
 have hn' : (n : Int) ≤ 9223372036854775807 := by have := hn; simp [maxLen] at this; omega
 have hb' : (i.bytes : Int) * (n : Int) ≤ 281474976710656 := by
  have h : ((i.bytes * n : Nat) : Int) ≤ 281474976710656 := by rw [hib]; omega
  rwa [Int.natCast_mul] at h
 have hrun := run_make (P := P) w t e i z hu hi hiz .i64 .i64 n n (by omega) (Int.le_refl _) hb' hn'
 simp only [execOp, hs.ev hx, hs.ev hy]
 rw [Sem.run_bind, hrun]
 have hsz : z.cells.size = Enc.sz α := ht.zn
 refine ⟨fs, _, ⟨some ⟨w.heap.size, 0, none⟩, n, by simp, rfl, rfl⟩, ?_⟩
 have h1 := hw.alloc e (madeCells z.cells ((n : Int).toNat * i.size)).toList
 simp only [Int.toNat_natCast, hin] at h1 ⊢
 refine h1.chg (w' := w.alloc (.cells (madeCells z.cells (n * Enc.sz α)) e)) (r' := [tree (.slice (some ⟨w.heap.size, 0, none⟩) n n) (List.replicate n (Zr.z0 : α))]) (r := [box w.heap.size e (madeCells z.cells (n * Enc.sz α)).toList]) (os1 := os) (.cons .here .nil) fun I S S1 hst m1 ⟨A, _, mA, _, _, ⟨hg, hh⟩, _⟩ => ?_
 refine ⟨S1, fun b => .inl, ⟨S1, fun _ => False, fun _ h => h, fun _ h => h.elim, fun _ _ h => h, ?_, trivial⟩, fun _ _ _ => rfl, Nat.le_refl _, rfl, ⟨rfl, by first | exact Nat.le_refl _ | exact Nat.le_succ _⟩, rfl⟩
 refine .inr ⟨w.heap.size, n, madeCells z.cells (n * Enc.sz α), e, by rw [List.length_replicate], mA _ hg, hh, by rw [List.length_replicate]; exact Nat.le_refl _, hn, by rw [size_madeCells], fun _ _ => False, fun _ _ _ h => h.elim, fun _ _ _ _ _ h => h.elim, fun i hi => ?_⟩
 rw [List.length_replicate] at hi
 rw [madeCells_get hsz (Enc.pos) hi, hz, List.getElem_replicate]
 exact Zr.trz _
theorem splice {cs es : List Value} {i k sz n : Nat} (h1 : cs.length = n * sz) (he : es.length = sz) (hk : k < n) (hi : i < n) :
  (((cs.take (k * sz) ++ es ++ cs.drop (k * sz + sz)).drop (i * sz)).take sz) = if i = k then es else (cs.drop (i * sz)).take sz := by
 have hle : ∀ j, j < n → j * sz + sz ≤ n * sz := fun j hj => by
  have := Nat.mul_le_mul_right sz (show j + 1 ≤ n by omega)
  rw [Nat.add_mul] at this
  omega
 have hkl := hle k hk
 have hil := hle i hi
 have hlen : (cs.take (k * sz)).length = k * sz := by rw [List.length_take]; omega
 refine List.ext_getElem? fun r => ?_
 rw [List.getElem?_take]
 by_cases hr : r < sz
 ·rw [if_pos hr, List.getElem?_drop]
  split
  ·rename_i hik
   subst hik
   rw [List.append_assoc, List.getElem?_append_right (by omega), hlen, List.getElem?_append_left (by omega)]
   congr 1
   omega
  ·rename_i hik
   rw [List.getElem?_take, if_pos hr, List.getElem?_drop]
   rcases Nat.lt_or_gt_of_ne hik with h | h
   ·have : i * sz + sz ≤ k * sz := by
     have := Nat.mul_le_mul_right sz (show i + 1 ≤ k by omega)
     rw [Nat.add_mul] at this
     omega
    rw [List.append_assoc, List.getElem?_append_left (by omega), List.getElem?_take, if_pos (by omega)]
   ·have : k * sz + sz ≤ i * sz := by
     have := Nat.mul_le_mul_right sz (show k + 1 ≤ i by omega)
     rw [Nat.add_mul] at this
     omega
    rw [List.getElem?_append_right (by rw [List.length_append]; omega), List.getElem?_drop, List.length_append, hlen, he]
    congr 1
    omega
 ·rw [if_neg hr]
  split
  ·rw [List.getElem?_eq_none (by omega)]
  ·rw [List.getElem?_take, if_neg hr]
theorem e_setT {t : TypeId} {ag : Bool} {z : Value} {by_ : Nat} {α : Type} [ShpT α] {x y : Operand} {oa : Option Addr} {m cp : Nat} {l : List α} {v : Value} (k : Nat) (u : α) (X : Shp.γ α) (ht : TyI P t ag (Enc.sz α) z by_)
  (hx : ev s x = some (elp oa (k * Enc.sz α))) (hy : ev s y = some v) (hv : v.cells.toList = Shp.enc u X) (hk : k < l.length) (hwf : ShpT.wf u) (htk : Take os (tree (.slice oa m cp) l :: ShpT.own u X) os1) :
  Eo P c fs os N s ⟨d, .store t x y, ty, pos, af, gd⟩ (fun v fs' os' => v = undef ∧ fs' = fs ∧ os' = tree (.slice oa m cp) (l.set k u) :: os1) := Ex.mk fun a w hs hw => by
 have hvs : v.cells.size = Enc.sz α := by rw [← Array.length_toList, hv, Shp.len']
 obtain ⟨I, S, hst⟩ := id hw
 obtain ⟨S1, S2, m1, m2, dj, ⟨A, B, mA, mB, dAB, ho, hr⟩, _⟩ := htk.sep hst.own
 have htree : TrL w A (.slice oa m cp) l := ho
 have htrv : Enc.Tr w B (Shp.enc u X) u := ShpT.mkT hwf hr
 have hone : ∀ q ∈ v.cells.toList, q.oneCell' = true := by rw [hv]; exact Enc.one (Enc.tr_rd htrv)
 rcases htree with ⟨_, e⟩ | ⟨g, cap, cur, bt, e, hg, hh, h1, h2, h3, Ss, k1, k2, k3⟩
 ·subst e; exact absurd hk (Nat.not_lt_zero _)
 ·cases e
  have hle : k * Enc.sz α + Enc.sz α ≤ cur.size := by
   have := Nat.mul_le_mul_right (Enc.sz α) (show k + 1 ≤ cp by omega)
   rw [Nat.add_mul] at this
   omega
  have hrun := run_storeCells_at P g (k * Enc.sz α) bt v.cells.toList 0 cur w hh (by simp [hvs]; omega) hone
  simp only [Nat.add_zero] at hrun
  have hadd : (⟨g, 0, none⟩ : Addr).add (k * Enc.sz α) = ⟨g, k * Enc.sz α, none⟩ := by rw [Addr.add_lit]; simp
  rw [show v.cells.toList.length = Enc.sz α by simpa using hvs] at hrun
  simp [execOp, Instr.storeAt, Instr.sureAddr, hs.ev hx, hs.ev hy, storeVar, ht.sizeOf, hvs, elp, hadd, hrun, Outc]
  refine ⟨fs, _, ⟨rfl, rfl⟩, hw.chg (r' := [tree (.slice (some ⟨g, 0, none⟩) l.length cp) (l.set k u)]) htk fun I S S1 hst m1 ⟨A, B, mA, mB, dAB, ho, hr⟩ => ?_⟩
  have htree : TrL w A (.slice (some ⟨g, 0, none⟩) l.length cp) l := ho
  rcases htree with ⟨e, _⟩ | ⟨g', cap, cur', bt', e, hg, hh', h1, h2, h3, Ss, k1, k2, k3⟩
  ·injection e with e; cases e
  ·injection e with e1 e2 e3
   injection e1 with e1
   have e1 : g = g' := congrArg Addr.block e1
   subst e1
   subst e3
   rw [hh] at hh'
   cases hh'
   have htrv : Enc.Tr w B (Shp.enc u X) u := ShpT.mkT hwf hr
   have hBg : ∀ b, B b → b ≠ g := fun b hb e => dAB _ hg (e ▸ hb)
   have hoth : ∀ b, b ≠ g → (w.setRow g (cur.toList.take (k * Enc.sz α) ++ (v.cells.toList ++ cur.toList.drop (k * Enc.sz α + Enc.sz α))).toArray).heap[b]? = w.heap[b]? := fun b hb => setRow_other w g b _ hb
   refine ⟨S1, fun b => .inl, ⟨S1, fun _ => False, fun _ h => h, fun _ h => h.elim, fun _ _ h => h, ?_, trivial⟩, fun b hb hn => ?_, by simp [World.setRow], rfl, ⟨rfl, by first | exact Nat.le_refl _ | exact Nat.le_succ _⟩, rfl⟩
   ·refine .inr ⟨g, cp, _, bt, by rw [List.length_set], mA _ hg, setRow_heap w g cur _ bt _ hh, by rw [List.length_set]; exact h1, h2, ?_, fun i b => if i = k then B b else Ss i b, fun i hi b hb => ?_, fun i j hij hj b hb1 hb2 => ?_, fun i hi => ?_⟩
    ·rw [← h3]
     simp only [List.size_toArray, List.length_append, List.length_take, List.length_drop, Array.length_toList, hvs]
     omega
    ·rw [List.length_set] at hi
     split at hb
     ·exact ⟨mB _ hb, hBg b hb⟩
     ·exact ⟨mA _ (k1 i hi b hb).1, (k1 i hi b hb).2⟩
    ·rw [List.length_set] at hj
     split at hb1 <;> split at hb2
     ·omega
     ·exact dAB b (k1 j hj b hb2).1 hb1
     ·exact dAB b (k1 i (by omega) b hb1).1 hb2
     ·exact k2 i j hij hj b hb1 hb2
    ·rw [List.length_set] at hi
     have := splice (cs := cur.toList) (es := v.cells.toList) (i := i) (k := k) (sz := Enc.sz α) (n := cp) (by simpa using h3) (by simpa using hvs) (by omega) (by omega)
     simp only [List.append_assoc] at this
     simp only [this]
     split
     ·rename_i hik
      subst hik
      rw [List.getElem_set_self]
      refine Enc.tr_keep (S := B) (w := w) ?_ (fun b hb => hoth b (hBg b hb)) (fun b hb => by simpa using hb)
      rw [hv]; exact htrv
      -- (fun b hb => hoth b (hBg b hb)) (fun b hb => hb)
     ·rename_i hik
      rw [List.getElem_set_ne (fun h => hik h.symm)]
      exact Enc.tr_keep (k3 i hi) (fun b hb => hoth b (k1 i hi b hb).2) (fun b hb => by simpa [hik] using hb)
   ·exact hoth b fun e => hn (e ▸ mA _ hg)
end
end Go.Sx

namespace Go.Sx
open Go Go.RowKit
theorem TrL.olds {α : Type} [Enc α] {w : World} {S : Blks} {v : Value} {l : List α} (h : TrL w S v l) :
  ∃ olds : List Value, olds.length = l.length * Enc.sz α ∧ ((v = .slice none 0 0 ∧ l.length = 0 ∧ olds = []) ∨ ∃ g cap cur bt, Ra w v l.length (Enc.sz α) g cap cur bt ∧ olds = cur.toList.take (l.length * Enc.sz α)) ∧ (∀ b, (∃ cap cur bt, Ra w v l.length (Enc.sz α) b cap cur bt) → S b) := by
 rcases h with ⟨rfl, rfl⟩ | ⟨g, cap, cur, ty, e, hg, hh, h1, h2, h3, _⟩
 ·refine ⟨[], by simp, .inl ⟨rfl, rfl, rfl⟩, ?_⟩
  rintro b ⟨_, _, _, hr⟩
  have := hr.v; injection this with h; cases h
 ·refine ⟨cur.toList.take (l.length * Enc.sz α), ?_, .inr ⟨g, cap, cur, ty, ⟨e, hh, h1, h2, h3⟩, rfl⟩, ?_⟩
  ·rw [List.length_take]
   simp only [Array.length_toList]
   rw [h3]
   exact Nat.min_eq_left (Nat.mul_le_mul_right _ h1)
  ·rintro b ⟨_, _, _, hr⟩
   have := hr.v
   rw [e] at this
   injection this with h; injection h with h
   have h : g = b := congrArg Addr.block h
   exact h ▸ hg
section
variable {P : Program} {c : Ctx} {N : Nat} {s : Slots} {fs : List Fact} {os os1 es : List Own}
variable {d : Option Tmp} {ty : TypeId} {pos : String} {af : Array Edge} {gd : Option (Nat × Bool)}
theorem run_app {a : Act} {x y : Operand} {vx vy v' : Value} {t : TypeId} {w w' : World} (hs : Sl N s a) (hx : ev s x = some vx) (hy : ev s y = some vy) (h : (Builtin.append_ #[t, t] ty #[vx, vy]).run P w = .ok v' w') :
  (execOp a.eval ⟨d, .call { callee := .builtin .append, args := #[x, y], argTypes := #[t, t] }, ty, pos, af, gd⟩).run P w = .ok (.value v') w' := by
 simp [execOp, resolve, invoke, builtin, hs.ev hx, hs.ev hy, h, Result.andThen]
theorem e_app {t e : TypeId} {ag : Bool} {z : Value} {by_ : Nat} {α : Type} [Enc α] {x y : Operand} {oa ob : Option Addr} {n m cp c2 : Nat} {l : List α} (k : List α) (hu : P.underlying t = some (.slice e)) (ht : TyI P e ag (Enc.sz α) z by_)
  (hx : ev s x = some (.slice oa n cp)) (hy : ev s y = some (.slice ob m c2)) (hb : (l.length + k.length) * by_ ≤ 140737488355328) (h63 : l.length + k.length ≤ 9223372036854775807)
  (htk : Take os (tree (.slice oa n cp) l :: es) os1)
  (hsrc : ∀ w I S T O, St c fs os w I S → Sep es w I T → Sep os1 w I O → m = k.length ∧ ∃ news : List Value, news.length = m * Enc.sz α ∧ (0 < m → ∃ ad, ob = some ad ∧ CellsAt w ad news) ∧ (∀ u ∈ news, u.oneCell' = true) ∧
   ∃ Ts : Nat → Blks, (∀ i, i < k.length → ∀ b, Ts i b → T b) ∧ (∀ i j, i < j → j < k.length → ∀ b, Ts i b → Ts j b → False) ∧ ∀ i (hi : i < k.length), Enc.Tr w (Ts i) ((news.drop (i * Enc.sz α)).take (Enc.sz α)) k[i]) :
  Eo P c fs os N s ⟨d, .call { callee := .builtin .append, args := #[x, y], argTypes := #[t, t] }, ty, pos, af, gd⟩ (fun v fs' os' => ∃ oa' cp', v = .slice oa' (l ++ k).length cp' ∧ fs' = fs ∧ os' = tree (.slice oa' (l ++ k).length cp') (l ++ k) :: os1) := Ex.mk fun a w hs hw => by
 obtain ⟨I, S, hst⟩ := id hw
 obtain ⟨S1, S2, m1, m2, dj, ⟨A, B, mA, mB, dAB, ho, hr⟩, hr2⟩ := htk.sep hst.own
 have htree : TrL w A (.slice oa n cp) l := ho
 obtain ⟨hm, news, hnl, hnc, hn1, hts⟩ := hsrc w I S B S2 hst hr hr2
 obtain ⟨i, hi, hiz, hin, hib⟩ := ht.info'
 obtain ⟨olds, hol, hold, hown⟩ := htree.olds
 have hn : n = l.length := by
  rcases htree with ⟨e1, e2⟩ | ⟨g, cap, cur, ty, e1, _⟩
  ·injection e1 with _ e1; rw [e1, e2]; rfl
  ·injection e1
 subst hn
 obtain ⟨v', w', hrun, e1, e2, e3, hsz, hcase⟩ := run_append_raw (P := P) w t ty e i z hu hi hiz (by rw [hin]; exact ht.zn) (by rw [hin]; exact Enc.pos) (.slice oa l.length cp) l.length olds (by rw [hin]; exact hold) ob m c2 news (by rw [hin]; exact hnl) hnc hn1 (by rw [hib, hm]; exact hb) (by rw [hm]; exact h63)
 rw [run_app hs hx hy hrun]
 rw [hin] at hcase
 have hBlt : ∀ b, B b → b < w.heap.size := fun b hb => hst.slt b (m1 b (mB b hb))
 have hAlt : ∀ b, A b → b < w.heap.size := fun b hb => hst.slt b (m1 b (mA b hb))
 have key : ∃ S1' : Blks, (∀ b, S1' b → S1 b ∨ (w.heap.size ≤ b ∧ b < w'.heap.size)) ∧ TrL w' S1' v' (l ++ k) ∧ (∀ b, b < w.heap.size → ¬ S1 b → w'.heap[b]? = w.heap[b]?) := by
  rcases hcase with ⟨h0, rfl, rfl⟩ | ⟨h0, g', cap', cur', bt', hra, hcur, hglt, hsame, hg⟩
  ·refine ⟨S1, fun b => .inl, ?_, fun _ _ _ => rfl⟩
   have hk : k = [] := List.eq_nil_of_length_eq_zero (by omega)
   rw [hk, List.append_nil]
   exact htree.keep (Same.refl _ _) mA
  ·obtain ⟨Ts, t1, t2, t3⟩ := hts
   subst hm
   refine ⟨fun b => A b ∨ B b ∨ b = g', fun b hb => ?_, TrL.append htree hol (hold.imp (fun h => ⟨h.1, h.2.2⟩) id) Ts t1 t2 dAB hBlt hAlt t3 hra hcur hsame hg, fun b hb hn => hsame b hb fun e => ?_⟩
   ·rcases hb with hb | hb | rfl
    ·exact .inl (mA b hb)
    ·exact .inl (mB b hb)
    ·rcases hg with hg | hg
     ·exact .inl (mA _ (hown _ hg))
     ·exact .inr ⟨by omega, hglt⟩
   ·subst e
    rcases hg with hg | hg
    ·exact hn (mA _ (hown _ hg))
    ·omega
 obtain ⟨S1', k1, k2, k3⟩ := key
 have hv : ∃ oa' cp', v' = .slice oa' (l ++ k).length cp' := by
  obtain ⟨oa', cp', e, _⟩ := k2.rd
  exact ⟨oa', cp', e⟩
 obtain ⟨oa', cp', rfl⟩ := hv
 exact ⟨fs, _, ⟨oa', cp', rfl, rfl, rfl⟩, hst.put_ (r' := [tree (.slice oa' (l ++ k).length cp') (l ++ k)]) m1 m2 dj hr2 k1 ⟨S1', fun _ => False, fun _ h => h, fun _ h => h.elim, fun _ _ h => h, k2, trivial⟩ k3 hsz e1 e2 e3⟩
theorem e_app1 {t e : TypeId} {ag : Bool} {z : Value} {by_ : Nat} {α : Type} [ShpT α] {x y : Operand} {oa : Option Addr} {n cp g : Nat} {bt : TypeId} {cs : List Value} {l : List α} (u : α) (X : Shp.γ α) (hu : P.underlying t = some (.slice e)) (ht : TyI P e ag (Enc.sz α) z by_)
  (hx : ev s x = some (.slice oa n cp)) (hy : ev s y = some (.slice (some ⟨g, 0, none⟩) 1 1)) (hb : (l.length + 1) * by_ ≤ 140737488355328) (h63 : l.length + 1 ≤ 9223372036854775807) (hcs : cs = Shp.enc u X) (hwf : ShpT.wf u)
  (htk : Take os (tree (.slice oa n cp) l :: box g bt cs :: ShpT.own u X) os1) :
  Eo P c fs os N s ⟨d, .call { callee := .builtin .append, args := #[x, y], argTypes := #[t, t] }, ty, pos, af, gd⟩ (fun v fs' os' => ∃ oa' cp', v = .slice oa' (l ++ [u]).length cp' ∧ fs' = fs ∧ os' = tree (.slice oa' (l ++ [u]).length cp') (l ++ [u]) :: os1) :=
 e_app [u] hu ht hx hy hb h63 htk (by
  rintro w I S T O hst ⟨S1, S2, m1, m2, dj, ⟨hg, hh⟩, hr⟩ _
  have htr : Enc.Tr w S2 (Shp.enc u X) u := ShpT.mkT hwf hr
  refine ⟨rfl, cs, by rw [hcs, Shp.len', Nat.one_mul], fun _ => ⟨_, rfl, fun j q hq => ?_⟩, by rw [hcs]; exact Enc.one (Enc.tr_rd htr), fun _ => S2, fun _ _ => m2, fun i j hij hj => ?_, fun i hi => ?_⟩
  ·rw [Addr.add_lit, cell_of_row w g _ _ bt (0, 0) hh]
   simpa using hq
  ·simp at hj; omega
  ·simp at hi
   subst hi
   have : ((cs.drop (0 * Enc.sz α)).take (Enc.sz α)) = Shp.enc u X := by rw [Nat.zero_mul, List.drop_zero, hcs, ← Shp.len' u X, List.take_length]
   rw [this]
   exact htr)
theorem e_appF {t e : TypeId} {ag : Bool} {z : Value} {by_ : Nat} {α : Type} [Flat α] {x y : Operand} {oa ob : Option Addr} {n m cp c2 : Nat} {l k : List α} (hu : P.underlying t = some (.slice e)) (ht : TyI P e ag (Enc.sz α) z by_)
  (hx : ev s x = some (.slice oa n cp)) (hy : ev s y = some (.slice ob m c2)) (hb : (l.length + k.length) * by_ ≤ 140737488355328) (h63 : l.length + k.length ≤ 9223372036854775807)
  (htk : Take os [tree (.slice oa n cp) l] os1) (hk : EntB fs os1 (imm (.slice ob m c2) k)) :
  Eo P c fs os N s ⟨d, .call { callee := .builtin .append, args := #[x, y], argTypes := #[t, t] }, ty, pos, af, gd⟩ (fun v fs' os' => ∃ oa' cp', v = .slice oa' (l ++ k).length cp' ∧ fs' = fs ∧ os' = tree (.slice oa' (l ++ k).length cp') (l ++ k) :: os1) :=
 e_app k hu ht hx hy hb h63 htk (by
  intro w I S T O hst _ hr2
  have h : RdL w (fun b => I b ∨ O b) (.slice ob m c2) k := hk w I O hst.facts hr2
  obtain ⟨hm, news, hl, hc, h1, hr⟩ := h.cells
  refine ⟨hm, news, hl, hc, h1, fun _ _ => False, fun _ _ _ h => h.elim, fun _ _ _ _ _ h => h.elim, fun i hi => ?_⟩
  obtain ⟨e, hwf⟩ := Flat.rd (hr i hi)
  rw [e]
  exact Flat.tr hwf)
end
end Go.Sx

namespace Go.Sx
open Go Go.RowKit
section
variable {P : Program} {c : Ctx} {N : Nat} {s : Slots} {fs : List Fact} {os os1 : List Own} {Q : Exit → Act → World → Prop} {code : Code}
theorem Tr.freeze {α : Type} [Enc α] {v : Value} {l : List α} (ht : Take os [tree v l] os1) (k : Tr P c N Q code s (imm v l :: fs) os1) : Tr P c N Q code s fs os := by
 intro a w hs hw
 obtain ⟨I, S, hst⟩ := hw
 obtain ⟨S1, S2, m1, m2, dj, ⟨A, _, mA, _, _, ho, _⟩, hr⟩ := ht.sep hst.own
 have ho' : TrL w A v l := ho
 refine k a w hs ⟨fun b => I b ∨ S1 b, S2, fun g hg => ?_, hr.keep (Same.refl _ _) (Same.refl _ _) (fun _ => .inl) (fun _ h => h), fun b hi hs => ?_, fun b hi => ?_, fun b hb => hst.slt b (m2 b hb), fun b hi => ?_, fun b hb => hst.snew b (m2 b hb), fun b hb => .inl (hst.i0 b hb), hst.frm⟩
 ·rcases List.mem_cons.1 hg with rfl | hg
  ·exact RdL.keep (S' := fun b => I b ∨ S1 b) ho'.rd (Same.refl _ _) (fun b hb => .inr (mA b hb))
  ·exact g.keep (hst.facts g hg) (Same.refl _ _) (fun _ => .inl)
 ·rcases hi with hi | hi
  ·exact hst.dj b hi (m2 b hs)
  ·exact dj b hi hs
 ·exact hi.elim (hst.ilt b) (fun h => hst.slt b (m1 b h))
 ·rcases hi with hi | hi
  ·exact hst.inew b hi
  ·exact .inr (hst.snew b (m1 b hi))
end
section
variable {P : Program} {c : Ctx} {N : Nat} {s : Slots} {fs : List Fact} {os : List Own}
variable {d : Option Tmp} {ty : TypeId} {pos : String} {af : Array Edge} {gd : Option (Nat × Bool)}
theorem q_ixO {x y : Operand} {t e : TypeId} {ag : Bool} {n cp : Nat} {z : Value} {by_ : Nat} {oa : Option Addr} {i : Int} {α : Type} [Enc α] {l : List α} (k : Nat) (hu : P.underlying t = some (.slice e)) (ht : TyI P e ag (Enc.sz α) z by_)
  (hx : ev s x = some (.slice oa n cp)) (hy : ev s y = some (.int .i64 i)) (hi : i = k) (hk : k < l.length) (ha : Has os (tree (.slice oa n cp) l)) :
  Qo P c fs os N s ⟨d, .indexAddr t x y, ty, pos, af, gd⟩ (elp oa (k * Enc.sz α)) := qo_of fun a w I S hs hst => by
 obtain ⟨S1, _, ho⟩ := Sep.has ha hst.own
 have ho : TrL w S1 (.slice oa n cp) l := ho
 obtain ⟨oa', cp', e, _, _, h3⟩ := ho.rd
 injection e with e1 e2 e3
 obtain ⟨ad, _, e4, _⟩ := h3 k hk
 rw [e4] at e1
 subst e1
 subst hi
 have h1 : (0 : Int) ≤ (k : Int) ∧ (k : Int) < (n : Int) := by omega
 simp [execOp, hs.ev hx, hs.ev hy, Instr.indexAt, asIntOf, run_underlying hu, ht.sizeOf, elp]
 intro hle
 omega
end
def allN (n : Nat) (bad : Nat → Bool) : Bool := (List.range n).all fun i => !bad i
theorem allN_iff {n : Nat} {bad : Nat → Bool} : allN n bad = true ↔ ∀ i, i < n → bad i = false := by simp [allN]
theorem allN_no {n : Nat} {bad : Nat → Bool} {k : Nat} (hk : k < n) (h : bad k = true) : allN n bad = false := by
 cases e : allN n bad with
 | false => rfl
 | true => rw [allN_iff.1 e k hk] at h; cases h
theorem allN_congr {n : Nat} {b b' : Nat → Bool} (h : ∀ i, i < n → b i = b' i) : allN n b = allN n b' := by
 unfold allN
 rw [Bool.eq_iff_iff]
 simp only [List.all_eq_true, List.mem_range]
 exact ⟨fun k i hi => by rw [← h i hi]; exact k i hi, fun k i hi => by rw [h i hi]; exact k i hi⟩
theorem list_ext_nth {α : Type} [Inhabited α] {a b : List α} (hl : a.length = b.length) (h : ∀ i, i < a.length → nth a i = nth b i) : a = b := by
 refine List.ext_getElem hl fun i h1 h2 => ?_
 have := h i h1
 rwa [nth_eq a i h1, nth_eq b i h2] at this
theorem nth_set_eq {α : Type} [Inhabited α] {l : List α} {k : Nat} {u : α} (hk : k < l.length) : nth (l.set k u) k = u := by simp [nth, List.getD, hk]
theorem nth_set_ne {α : Type} [Inhabited α] {l : List α} {k i : Nat} {u : α} (h : i ≠ k) : nth (l.set k u) i = nth l i := by simp [nth, List.getD, Ne.symm h]
theorem nth_append_new {α : Type} [Inhabited α] {l : List α} {u : α} : nth (l ++ [u]) l.length = u := by simp [nth, List.getD]
theorem take_succ_nth {α : Type} [Inhabited α] {l : List α} {k : Nat} (h : k < l.length) : l.take (k + 1) = l.take k ++ [nth l k] := by
 rw [nth_eq l k h, List.take_succ_eq_append_getElem h]
def cut (left : Int) (w : Nat) : Int := if left - w < 0 then -1 else left - w
def sumN (n : Nat) (f : Nat → Nat) : Nat := match n with | 0 => 0 | n + 1 => sumN n f + f n
theorem sumN_le {f : Nat → Nat} {k n : Nat} (h : k ≤ n) : sumN k f ≤ sumN n f := by
 induction n with
 | zero => simp at h; subst h; exact Nat.le_refl _
 | succ n ih =>
  rcases Nat.lt_or_eq_of_le h with h' | rfl
  ·exact Nat.le_trans (ih (by omega)) (by simp [sumN])
  ·exact Nat.le_refl _
theorem sumN_lt {f : Nat → Nat} {k n : Nat} (h : k < n) : sumN k f + f k ≤ sumN n f := sumN_le (k := k + 1) h
theorem sumN_get {f : Nat → Nat} {k n : Nat} (h : k < n) : f k ≤ sumN n f := Nat.le_trans (Nat.le_add_left _ _) (sumN_lt h)
end Go.Sx

namespace Go.Sx
open Go Go.RowKit
theorem Sep.perm {os os' : List Own} (h : os.Perm os') : ∀ {w : World} {I S : Blks}, Sep os w I S → Sep os' w I S := by
 induction h with
 | nil => exact fun h => h
 | cons x _ ih => exact fun ⟨S1, S2, m1, m2, dj, ho, hr⟩ => ⟨S1, S2, m1, m2, dj, ho, ih hr⟩
 | swap x y l =>
  rintro w I S ⟨A, B, mA, mB, dAB, hy, C, D, mC, mD, dCD, hx, hr⟩
  exact ⟨C, fun b => A b ∨ D b, fun b hb => mB b (mC b hb), fun b hb => hb.elim (mA b) (fun h => mB b (mD b h)), fun b h1 h2 => h2.elim (fun h => dAB b h (mC b h1)) (dCD b h1), hx, A, D, fun b => .inl, fun b => .inr, fun b h1 h2 => dAB b h1 (mD b h2), hy, hr⟩
 | trans _ _ ih1 ih2 => exact fun h => ih2 (ih1 h)
theorem Sta.perm {c : Ctx} {fs : List Fact} {os os' : List Own} {w : World} (hp : os.Perm os') (h : Sta c fs os w) : Sta c fs os' w := by
 obtain ⟨I, S, h⟩ := h
 exact ⟨I, S, { h with own := h.own.perm hp }⟩
def QF (P : Program) (c : Ctx) (fs : List Fact) (os : List Own) (N : Nat) (s : Slots) (o : Oper) (v : Value) : Prop := ∀ F : List Own, Qo P c fs (os ++ F) N s o v
def EF (P : Program) (c : Ctx) (fs : List Fact) (os : List Own) (N : Nat) (s : Slots) (o : Oper) (next : Value → List Fact → List Own → Prop) : Prop :=
 ∀ F : List Own, Ex P c fs (os ++ F) N s o fun v w' => ∃ fs' os', next v fs' os' ∧ Sta c fs' (os' ++ F) w'
theorem Ex.perm {P : Program} {c : Ctx} {fs : List Fact} {os os' : List Own} {N : Nat} {s : Slots} {o : Oper} {R : Value → World → Prop} (hp : os.Perm os') (h : Ex P c fs os' N s o R) : Ex P c fs os N s o R :=
 Ex.mk fun a w hs hw => h.go a w hs (hw.perm hp)
theorem QF.add {P : Program} {c : Ctx} {fs : List Fact} {os : List Own} {N : Nat} {s : Slots} {o : Oper} {v : Value} (x : Own) (h : QF P c fs os N s o v) : QF P c fs (x :: os) N s o v := fun F => Ex.mk fun a w hs hw => by
 have hp : (x :: os ++ F).Perm (os ++ x :: F) := by simpa using List.perm_middle.symm
 exact ((h (x :: F)).go a w hs (hw.perm hp)).mono fun v' w' ⟨e, hw'⟩ => ⟨e, hw'.perm hp.symm⟩
structure FreeA where
  i : Nat
  vals : Slots
  f : Nat → Value
  nw : Nat → Own
structure FreeA.Ok (P : Program) (N : Nat) (ops : Array Oper) (z : FreeA) : Prop where
  go : ∃ o d, ops[z.i]? = some o ∧ o.dst = some d ∧ d < N ∧ o.guard = none ∧ (∀ p ∈ z.vals, p.1 ∈ o.looksAt ops) ∧
    ∀ c fs os a w, Sl N z.vals a → Sta c fs os w → Outc P (fun v w' => ∃ g, v = z.f g ∧ Sta c fs (z.nw g :: os) w') ((execOp a.eval o).run P w)
def chkW (ops : Array Oper) (n : Nat) (p ef fr : List Nat) : Bool :=
 decide (p.length = ops.size) && (List.range ops.size).all (fun i => p.contains i) &&
 (List.range p.length).all (fun k => match (p[k]?).bind (ops[·]?) with
  | some o => o.after.all fun e => !Region.binds .any e || (p.take k).contains e.on
  | none => false) &&
 (List.range ops.size).all (fun i => match ops[i]? with
  | some o => (match o.op with | .select _ _ => false | _ => true) &&
   (List.range ops.size).all (fun j => match ops[j]? with
    | some oj => (match oj.dst with
     | some d => (i == j || o.dst != some d) && (!(o.looksAt ops).contains d || (i != j && anc ops n i j))
     | none => true)
    | none => false)
  | none => false) &&
 (List.range p.length).all (fun k => match p[k]? with
  | some e => !(ef.contains e || fr.contains e) || (p.drop (k + 1)).all fun j =>
    if ef.contains j then anc ops n j e
    else fr.contains j || (fr.contains e && anc ops n j e) || (p.drop k).any fun e' => ef.contains e' && anc ops n j e'
  | none => false) &&
 ef.all (fun i => !fr.contains i)
structure GoodW (ops : Array Oper) (n : Nat) (p ef fr : List Nat) : Prop where
  all : ∀ i, i < ops.size → i ∈ p
  nodup : p.Nodup
  lt : ∀ i ∈ p, i < ops.size
  edge : ∀ q i r, p = q ++ i :: r → ∀ (o : Oper), ops[i]? = some o → ∀ e ∈ o.after, Region.binds .any e = true → e.on ∈ q
  sel : ∀ (i : Nat) (o : Oper), ops[i]? = some o → ∀ cs x, o.op ≠ .select cs x
  uniq : ∀ (i j : Nat) (o oj : Oper) (d : Nat), ops[i]? = some o → ops[j]? = some oj → oj.dst = some d → o.dst = some d → i = j
  look : ∀ (i j : Nat) (o oj : Oper) (d : Nat), ops[i]? = some o → ops[j]? = some oj → oj.dst = some d → d ∈ o.looksAt ops → i ≠ j ∧ anc ops n i j = true
  chain : ∀ q e r, p = q ++ e :: r → (ef.contains e = true ∨ fr.contains e = true) → ∀ j ∈ r, (ef.contains j = true ∧ anc ops n j e = true) ∨ (ef.contains j = false ∧ (fr.contains j = true ∨ (fr.contains e = true ∧ anc ops n j e = true) ∨ ∃ e' ∈ e :: r, ef.contains e' = true ∧ anc ops n j e' = true))
  disj : ∀ i, ef.contains i = true → fr.contains i = false
theorem GoodW.of_chk {ops : Array Oper} {n : Nat} {p ef fr : List Nat} (h : chkW ops n p ef fr = true) (hn : p.Nodup) : GoodW ops n p ef fr := by
 unfold chkW at h
 simp only [Bool.and_eq_true, decide_eq_true_eq, List.all_eq_true, List.mem_range] at h
 obtain ⟨⟨⟨⟨⟨h1, h2⟩, h3⟩, h4⟩, h5⟩, h6⟩ := h
 have hat : ∀ (q : List Nat) (i : Nat) (r : List Nat), p = q ++ i :: r → p[q.length]? = some i ∧ q.length < p.length ∧ p.take q.length = q ∧ p.drop (q.length + 1) = r ∧ p.drop q.length = i :: r := by
  rintro q i r rfl
  refine ⟨by simp, by simp, by simp, ?_, by simp⟩
  rw [← List.drop_drop]
  simp
 refine ⟨fun i hi => by simpa using h2 i hi, hn, fun i hi => ?_, fun q i r hp o ho e he hb => ?_, fun i o ho cs x hop => ?_, fun i j o oj d hi hj hd hd' => ?_, fun i j o oj d hi hj hd hl => ?_, fun q e r hp he j hj => ?_, fun i hi => ?_⟩
 ·obtain ⟨k, hk, hki⟩ := List.mem_iff_getElem.1 hi
  have := h3 k hk
  rw [List.getElem?_eq_getElem hk, hki] at this
  simp only [Option.bind_some] at this
  cases ho : ops[i]? with
  | none => simp [ho] at this
  | some o => exact (Array.getElem?_eq_some_iff.1 ho).1
 ·obtain ⟨a1, a2, a3, _, _⟩ := hat q i r hp
  have := h3 _ a2
  rw [a1] at this
  simp only [Option.bind_some, ho, Array.all_eq_true_iff_forall_mem, Bool.or_eq_true, Bool.not_eq_true'] at this
  rcases this e he with h | h
  ·rw [hb] at h; cases h
  ·rw [a3] at h; simpa using h
 ·have := h4 i (Array.getElem?_eq_some_iff.1 ho).1
  simp only [ho, Bool.and_eq_true] at this
  rw [hop] at this
  simp at this
 ·have := h4 i (Array.getElem?_eq_some_iff.1 hi).1
  simp only [hi, Bool.and_eq_true, List.all_eq_true, List.mem_range] at this
  have := this.2 j (Array.getElem?_eq_some_iff.1 hj).1
  simp only [hj, hd, Bool.and_eq_true, Bool.or_eq_true, beq_iff_eq, bne_iff_ne] at this
  rcases this.1 with h | h
  ·exact h
  ·exact absurd hd' h
 ·have := h4 i (Array.getElem?_eq_some_iff.1 hi).1
  simp only [hi, Bool.and_eq_true, List.all_eq_true, List.mem_range] at this
  have := this.2 j (Array.getElem?_eq_some_iff.1 hj).1
  simp only [hj, hd, Bool.and_eq_true, Bool.or_eq_true, Bool.not_eq_true', bne_iff_ne] at this
  rcases this.2 with h | h
  ·rw [List.contains_eq_mem] at h; simp [hl] at h
  ·exact h
 ·obtain ⟨a1, a2, _, a4, a5⟩ := hat q e r hp
  have := h5 _ a2
  have he' : (ef.contains e || fr.contains e) = true := by rcases he with h | h <;> rw [h] <;> simp
  rw [a1, a4, a5] at this
  simp only [he', Bool.not_true, Bool.false_or, List.all_eq_true] at this
  have := this j hj
  cases hej : ef.contains j with
  | true => simp only [hej, if_true] at this; exact .inl ⟨rfl, this⟩
  | false =>
   simp only [hej, Bool.false_eq_true, if_false, Bool.or_eq_true, Bool.and_eq_true, List.any_eq_true] at this
   refine .inr ⟨rfl, ?_⟩
   rcases this with (h | h) | h
   ·exact .inl h
   ·exact .inr (.inl h)
   ·exact .inr (.inr h)
 ·have := h6 i (by simpa using hi)
  simpa using this
section
variable (P : Program) (c : Ctx) (N : Nat) (ops : Array Oper) (n : Nat) (ef : List Nat) (fa : List FreeA)
def Rdy (p : List Nat) (s : Slots) : Prop := ∀ z ∈ fa, z.i ∈ p → (p.any fun e => ef.contains e && anc ops n z.i e) = true ∨ SubS s z.vals
def Nw : List Nat → Slots → List Fact → List Own → List Nat → (Slots → List Fact → List Own → Prop) → Prop
  | [], s, fs, os, _, R => R s fs os
  | i :: p, s, fs, os, pd, R => ∃ o, ops[i]? = some o ∧
      ((∃ d, o.dst = some d ∧ d < N ∧ ef.contains i = false ∧ (fa.map (·.i)).contains i = false ∧ wtd ops s o = some false ∧ Nw p ((d, undef) :: s) fs os pd R) ∨
       (∃ d v, o.dst = some d ∧ d < N ∧ ef.contains i = false ∧ (fa.map (·.i)).contains i = false ∧ wtd ops s o = some true ∧ Pu P N s o v ∧ Nw p ((d, v) :: s) fs os pd R) ∨
       (∃ d v, o.dst = some d ∧ d < N ∧ ef.contains i = false ∧ (fa.map (·.i)).contains i = false ∧ wtd ops s o = some true ∧ QF P c fs os N s o v ∧ Nw p ((d, v) :: s) fs os (i :: pd) R) ∨
       (ef.contains i = true ∧ Rdy ops n ef fa (i :: p) s ∧ (∀ t, o.dst = some t → t < N) ∧ wtd ops s o = some true ∧ ∃ next, EF P c fs os N s o next ∧
          ∀ v fs' os', next v fs' os' → (∀ j ∈ pd, anc ops n i j = true ∨ ∃ oj dj vj, ops[j]? = some oj ∧ oj.dst = some dj ∧ lk s dj = some vj ∧ QF P c fs' os' N s oj vj) ∧
            Nw p (addS s o.dst v) fs' os' pd R) ∨
       (∃ z ∈ fa, z.i = i ∧ Rdy ops n ef fa p s ∧ SubS s z.vals ∧ ∃ d, o.dst = some d ∧ d < N ∧ ∀ g, Nw p ((d, z.f g) :: s) fs (z.nw g :: os) pd R))
end
end Go.Sx

namespace Go.Sx
open Go Go.RowKit
section
variable {P : Program} {c : Ctx} {N : Nat} {ops : Array Oper} {n : Nat} {ef p0 : List Nat} {fa : List FreeA} {R : Slots → List Fact → List Own → Prop} {Q : Exit → Act → World → Prop}
def StatW (P : Program) (c : Ctx) (N : Nat) (ops : Array Oper) (s : Slots) (fs : List Fact) (os : List Own) (pd : List Nat) (b : Act) (i : Nat) : Prop :=
  ∃ o d, ops[i]? = some o ∧ o.dst = some d ∧
    ((wtd ops s o = some false ∧ b.tmps.getD d undef = undef) ∨
     (wtd ops s o = some true ∧ ∃ v, b.tmps.getD d undef = v ∧ lk s d = some v ∧ (Pu P N s o v ∨ (i ∈ pd ∧ QF P c fs os N s o v))))
def frames (E : List (FreeA × Nat)) : List Own := E.map fun e => e.1.nw e.2
structure InvW (P : Program) (c : Ctx) (N : Nat) (ops : Array Oper) (n : Nat) (ef : List Nat) (fa : List FreeA) (p0 : List Nat) (R : Slots → List Fact → List Own → Prop)
    (listed : Array Bool) (a : Act) (w : World) (q p : List Nat) (s : Slots) (fs : List Fact) (os : List Own) (pd : List Nat) (b : Act) (E : List (FreeA × Nat)) : Prop where
  part : p0 = q ++ p
  sta : Sta c fs (os ++ frames E) w
  sl : Sl N s b
  size : a.tmps.size = N
  defers : a.defers = []
  outer : ∀ t, (∀ (i : Nat) (o : Oper), ops[i]? = some o → o.dst ≠ some t) → a.tmps.getD t undef = b.tmps.getD t undef
  done : ∀ (i : Nat) (o : Oper) (d : Nat), listed.getD i false = true → i ∈ q → ops[i]? = some o → o.dst = some d → a.tmps.getD d undef = b.tmps.getD d undef
  early : ∀ e ∈ E, e.1 ∈ fa ∧ e.1.i ∈ p ∧ listed.getD e.1.i false = true ∧ ∀ (o : Oper) (d : Nat), ops[e.1.i]? = some o → o.dst = some d → a.tmps.getD d undef = e.1.f e.2
  ednd : (E.map fun e => e.1.i).Nodup
  inq : ∀ i, listed.getD i false = true → i ∈ q ∨ ∃ e ∈ E, e.1.i = i
  eff : ∀ i, i ∈ q → (ef.contains i = true ∨ (fa.map (·.i)).contains i = true) → listed.getD i false = true
  stat : ∀ i, i ∈ q → listed.getD i false = false → StatW P c N ops s fs os pd b i
  fresh : ∀ i, i ∈ p → ∀ (o : Oper) (d : Nat), ops[i]? = some o → o.dst = some d → lk s d = none
  nf : Nw P c N ops n ef fa p s fs os pd R
  closed : ∀ (i : Nat) (o : Oper), listed.getD i false = true → ops[i]? = some o → ∀ e ∈ o.after, Region.binds .any e = true → listed.getD e.on false = true
  dlt : ∀ i, i ∈ q → ∀ (o : Oper) (d : Nat), ops[i]? = some o → o.dst = some d → d < N
theorem StatW.cons {s : Slots} {fs : List Fact} {os os' : List Own} {pd pd' : List Nat} {b : Act} {i d : Nat} {v : Value} (h : StatW P c N ops s fs os pd b i) (hf : lk s d = none)
  (hpd : ∀ j, j ∈ pd → j ∈ pd') (hne : ∀ (o : Oper), ops[i]? = some o → o.dst ≠ some d) (hos : os' = os ∨ ∃ x, os' = x :: os) : StatW P c N ops ((d, v) :: s) fs os' pd' (b.put (some d) v) i := by
 obtain ⟨o, d', ho, hd, h⟩ := h
 have hdd : d ≠ d' := fun e => hne o ho (e ▸ hd)
 have hb : (b.put (some d) v).tmps.getD d' undef = b.tmps.getD d' undef := by
  show (b.tmps.setIfInBounds d v).getD d' undef = _
  simp only [Array.getD_eq_getD_getElem?, Array.getElem?_setIfInBounds_ne hdd]
 refine ⟨o, d', ho, hd, ?_⟩
 rcases h with ⟨h1, h2⟩ | ⟨h1, u, h2, h3, h4⟩
 ·exact .inl ⟨wtd_cons hf h1, hb.trans h2⟩
 ·refine .inr ⟨wtd_cons hf h1, u, hb.trans h2, by rw [lk_cons_ne hdd]; exact h3, ?_⟩
  rcases h4 with h4 | ⟨h4, h5⟩
  ·exact .inl fun a w ha => h4 a w (ha.uncons hf)
  ·have h6 : QF P c fs os' N s o u := by
    rcases hos with rfl | ⟨x, rfl⟩
    ·exact h5
    ·exact h5.add x
   exact .inr ⟨hpd _ h4, fun F => Ex.mk fun a w ha hw => ((h6 F).go a w (ha.uncons hf) hw).mono fun v' w' ⟨e, hw'⟩ => ⟨e, hw'⟩⟩
theorem InvW.notq (hg : GoodW ops n p0 ef (fa.map (·.i))) {listed : Array Bool} {a : Act} {w : World} {q p : List Nat} {s : Slots} {fs : List Fact} {os : List Own} {pd : List Nat} {b : Act} {E : List (FreeA × Nat)}
  (h : InvW P c N ops n ef fa p0 R listed a w q p s fs os pd b E) {j : Nat} (hj : j ∈ p) : j ∉ q := by
 have := hg.nodup
 rw [h.part, List.nodup_append] at this
 exact fun hm => this.2.2 j hm j hj rfl
theorem InvW.effp (hg : GoodW ops n p0 ef (fa.map (·.i))) {listed : Array Bool} {a : Act} {w : World} {q p : List Nat} {s : Slots} {fs : List Fact} {os : List Own} {pd : List Nat} {b : Act} {E : List (FreeA × Nat)}
  (h : InvW P c N ops n ef fa p0 R listed a w q p s fs os pd b E) {j : Nat} (hj : j ∈ p) (he : ef.contains j = true) : listed.getD j false = false := by
 cases hl : listed.getD j false with
 | false => rfl
 | true =>
  exfalso
  rcases h.inq j hl with h1 | ⟨e, hE, rfl⟩
  ·exact h.notq hg hj h1
  ·have := hg.disj _ he
   have h2 : e.1.i ∈ fa.map (·.i) := List.mem_map.2 ⟨e.1, (h.early e hE).1, rfl⟩
   rw [List.contains_eq_mem] at this
   simp at this
   exact this e.1 (h.early e hE).1 rfl
theorem InvW.step (hg : GoodW ops n p0 ef (fa.map (·.i))) (hfa : (fa.map (·.i)).Nodup) {listed : Array Bool} {a : Act} {w : World} {q p : List Nat} {s : Slots} {fs : List Fact} {os : List Own} {pd : List Nat} {b : Act} {E : List (FreeA × Nat)} {j : Nat}
  (h : InvW P c N ops n ef fa p0 R listed a w q (j :: p) s fs os pd b E) (hq : ef.contains j = false) (hfr : (fa.map (·.i)).contains j = true → listed.getD j false = true) :
  ∃ s' os' pd' b' E', InvW P c N ops n ef fa p0 R listed a w (q ++ [j]) p s' fs os' pd' b' E' := by
 have hjq : j ∉ q := h.notq hg (by simp)
 have hnj : ∀ i ∈ p, i ≠ j := fun i hi e => by
  have := hg.nodup
  rw [h.part, List.nodup_append] at this
  have h2 := this.2.1
  rw [List.nodup_cons] at h2
  exact h2.1 (e ▸ hi)
 -- one form for all ways
 have key : ∀ (o : Oper) (d : Nat) (v : Value) (pd' : List Nat) (os' : List Own) (E' : List (FreeA × Nat)), ops[j]? = some o → o.dst = some d → d < N → (∀ x, x ∈ pd → x ∈ pd') → (os' = os ∨ ∃ x, os' = x :: os) → Sta c fs (os' ++ frames E') w →
   (∀ e ∈ E', e ∈ E ∧ e.1.i ≠ j) → (∀ e ∈ E, e ∈ E' ∨ e.1.i = j) → (E'.map fun e => e.1.i).Nodup →
   (listed.getD j false = false → StatW P c N ops ((d, v) :: s) fs os' pd' (b.put (some d) v) j) → (listed.getD j false = true → a.tmps.getD d undef = v) → ((fa.map (·.i)).contains j = true → listed.getD j false = true) →
   Nw P c N ops n ef fa p ((d, v) :: s) fs os' pd' R → ∃ s' os' pd' b' E', InvW P c N ops n ef fa p0 R listed a w (q ++ [j]) p s' fs os' pd' b' E' := by
  intro o d v pd' os' E' ho hd hN hpd hos hsta hE1 hE2 hE3 hst hdn hfl hnf
  have hf : lk s d = none := h.fresh j (by simp) o d ho hd
  have hother : ∀ (i : Nat) (oi : Oper), i ≠ j → ops[i]? = some oi → oi.dst ≠ some d := fun i oi hne hi he => hne (hg.uniq i j oi o d hi ho hd he)
  have hb : ∀ t, t ≠ d → (b.put (some d) v).tmps.getD t undef = b.tmps.getD t undef := fun t ht => getD_put_ne ht
  refine ⟨_, os', pd', b.put (some d) v, E', ⟨by rw [h.part]; simp, hsta, h.sl.put v hN, h.size, h.defers, fun t ht => ?_, fun i oi di hi hiq hoi hdi => ?_, fun e he => ?_, hE3, fun i hi => ?_, fun i hi he => ?_, fun i hi hl => ?_, fun i hi oi di hoi hdi => ?_, hnf, h.closed, fun i hi oi di hoi hdi => ?_⟩⟩
  ·rw [hb t (fun e : t = d => ht j o ho (by rw [e]; exact hd))]; exact h.outer t ht
  ·rcases List.mem_append.1 hiq with hiq | hiq
   ·rw [hb di (fun e : di = d => hother i oi (fun e' => hjq (e' ▸ hiq)) hoi (by rw [← e]; exact hdi))]
    exact h.done i oi di hi hiq hoi hdi
   ·simp at hiq; subst hiq; rw [hoi] at ho; cases ho; rw [hdi] at hd; cases hd
    rw [getD_put_eq (by rw [h.sl.size]; exact hN)]
    exact hdn hi
  ·obtain ⟨h1, h2⟩ := hE1 e he
   obtain ⟨k1, k2, k3, k4⟩ := h.early e h1
   refine ⟨k1, ?_, k3, k4⟩
   rcases List.mem_cons.1 k2 with k | k
   ·exact absurd k h2
   ·exact k
  ·rcases h.inq i hi with hi' | ⟨e, he, rfl⟩
   ·exact .inl (List.mem_append.2 (.inl hi'))
   ·rcases hE2 e he with h' | h'
    ·exact .inr ⟨e, h', rfl⟩
    ·exact .inl (List.mem_append.2 (.inr (by simp [h'])))
  ·rcases List.mem_append.1 hi with hi | hi
   ·exact h.eff i hi he
   ·simp at hi; subst hi
    rcases he with he | he
    ·rw [hq] at he; cases he
    ·exact hfl he
  ·rcases List.mem_append.1 hi with hi | hi
   ·exact (h.stat i hi hl).cons hf hpd (fun oi hoi => hother i oi (fun e => hjq (e ▸ hi)) hoi) hos
   ·simp at hi; subst hi; exact hst hl
  ·rw [lk_cons_ne (fun e : d = di => hother i oi (hnj i hi) hoi (by rw [e]; exact hdi))]
   exact h.fresh i (List.mem_cons_of_mem _ hi) oi di hoi hdi
  ·rcases List.mem_append.1 hi with hi | hi
   ·exact h.dlt i hi oi di hoi hdi
   ·simp at hi; subst hi; rw [hoi] at ho; cases ho; rw [hdi] at hd; cases hd; exact hN
 have hbd : ∀ (d : Nat) (v : Value), d < N → (b.put (some d) v).tmps.getD d undef = v := fun d v hN => getD_put_eq (by rw [h.sl.size]; exact hN)
 -- a quiet one is not among those run ahead
 have hEq : (fa.map (·.i)).contains j = false → ∀ e ∈ E, e.1.i ≠ j := fun hc e he hj => by
  have : j ∈ fa.map (·.i) := List.mem_map.2 ⟨e.1, (h.early e he).1, hj⟩
  rw [List.contains_eq_mem] at hc
  simp at hc
  exact hc e.1 (h.early e he).1 hj
 have hlj : (fa.map (·.i)).contains j = false → listed.getD j false = false := fun hc => by
  cases hl : listed.getD j false with
  | false => rfl
  | true =>
   rcases h.inq j hl with h1 | ⟨e, he, h1⟩
   ·exact absurd h1 hjq
   ·exact absurd h1 (hEq hc e he)
 obtain ⟨o, ho, hcase⟩ := h.nf
 rcases hcase with ⟨d, hd, hN, _, hc, hw, hnf⟩ | ⟨d, v, hd, hN, _, hc, hw, hpu, hnf⟩ | ⟨d, v, hd, hN, _, hc, hw, hqo, hnf⟩ | ⟨he, _⟩ | ⟨z, hz, hzi, _, hvals, d, hd, hN, hnf⟩
 ·have hf : lk s d = none := h.fresh j (by simp) o d ho hd
  exact key o d undef pd os E ho hd hN (fun _ h => h) (.inl rfl) h.sta (fun e he => ⟨he, hEq hc e he⟩) (fun e he => .inl he) h.ednd (fun _ => ⟨o, d, ho, hd, .inl ⟨wtd_cons hf hw, hbd d undef hN⟩⟩) (fun hl => by rw [hlj hc] at hl; cases hl) hfr hnf
 ·have hf : lk s d = none := h.fresh j (by simp) o d ho hd
  exact key o d v pd os E ho hd hN (fun _ h => h) (.inl rfl) h.sta (fun e he => ⟨he, hEq hc e he⟩) (fun e he => .inl he) h.ednd (fun _ => ⟨o, d, ho, hd, .inr ⟨wtd_cons hf hw, v, hbd d v hN, lk_cons_eq, .inl fun a w ha => hpu a w (ha.uncons hf)⟩⟩) (fun hl => by rw [hlj hc] at hl; cases hl) hfr hnf
 ·have hf : lk s d = none := h.fresh j (by simp) o d ho hd
  exact key o d v (j :: pd) os E ho hd hN (fun _ h => List.mem_cons_of_mem _ h) (.inl rfl) h.sta (fun e he => ⟨he, hEq hc e he⟩) (fun e he => .inl he) h.ednd
   (fun _ => ⟨o, d, ho, hd, .inr ⟨wtd_cons hf hw, v, hbd d v hN, lk_cons_eq, .inr ⟨by simp, fun F => Ex.mk fun a w ha hw' => (hqo F).go a w (ha.uncons hf) hw'⟩⟩⟩) (fun hl => by rw [hlj hc] at hl; cases hl) hfr hnf
 ·rw [hq] at he; cases he
 ·-- it was run ahead
  have hl := hfr (by rw [List.contains_eq_mem]; simpa using ⟨z, hz, hzi⟩)
  rcases h.inq j hl with h1 | ⟨e, he, hej⟩
  ·exact absurd h1 hjq
  ·obtain ⟨k1, k2, k3, k4⟩ := h.early e he
   have hez : e.1 = z := by
    obtain ⟨x, hx, ex⟩ := List.mem_iff_getElem.1 k1
    obtain ⟨y, hy, ey⟩ := List.mem_iff_getElem.1 hz
    have hxy : x = y := by
     have h1 : (fa.map (·.i))[x]'(by simpa using hx) = (fa.map (·.i))[y]'(by simpa using hy) := by
      simp only [List.getElem_map, ex, ey]
      rw [hej, hzi]
     exact (List.getElem_inj hfa).1 h1
    subst hxy
    rw [← ex, ey]
   obtain ⟨E1, E2, rfl⟩ := List.append_of_mem he
   have hnd := h.ednd
   rw [List.map_append, List.map_cons, List.nodup_append, List.nodup_cons] at hnd
   refine key o d (z.f e.2) pd (z.nw e.2 :: os) (E1 ++ E2) ho hd hN (fun _ h => h) (.inr ⟨_, rfl⟩) (h.sta.perm ?_) (fun x hx => ?_) (fun x hx => ?_) ?_ (fun hl' => by rw [hl] at hl'; cases hl') (fun _ => ?_) hfr (hnf e.2)
   ·simp only [frames, List.map_append, List.map_cons, hez]
    have : (os ++ ((E1.map fun e => e.1.nw e.2) ++ z.nw e.2 :: E2.map fun e => e.1.nw e.2)).Perm (z.nw e.2 :: (os ++ ((E1.map fun e => e.1.nw e.2) ++ E2.map fun e => e.1.nw e.2))) := by
     rw [← List.append_assoc, ← List.append_assoc]
     exact List.perm_middle
    simpa using this
   ·have hne : x.1.i ≠ e.1.i := by
     rcases List.mem_append.1 hx with h' | h'
     ·exact hnd.2.2 _ (List.mem_map.2 ⟨x, h', rfl⟩) _ (List.mem_cons_self)
     ·exact fun h2 => hnd.2.1.1 (List.mem_map.2 ⟨x, h', h2⟩)
    refine ⟨?_, fun h2 => hne (h2.trans hej.symm)⟩
    rcases List.mem_append.1 hx with h' | h'
    ·exact List.mem_append.2 (.inl h')
    ·exact List.mem_append.2 (.inr (List.mem_cons_of_mem _ h'))
   ·rcases List.mem_append.1 hx with h' | h'
    ·exact .inl (List.mem_append.2 (.inl h'))
    ·rcases List.mem_cons.1 h' with rfl | h'
     ·exact .inr hej
     ·exact .inl (List.mem_append.2 (.inr h'))
   ·rw [List.map_append, List.nodup_append]
    exact ⟨hnd.1, hnd.2.1.2, fun x hx y hy => hnd.2.2 x hx y (List.mem_cons_of_mem _ hy)⟩
   ·have := k4 o d (by rw [hej]; exact ho) hd
    rw [this, hez]
end
end Go.Sx

namespace Go.Sx
open Go Go.RowKit
section
variable {P : Program} {c : Ctx} {N : Nat} {ops : Array Oper} {n : Nat} {ef p0 : List Nat} {fa : List FreeA} {R : Slots → List Fact → List Own → Prop} {Q : Exit → Act → World → Prop}
theorem mem_fr {j : Nat} : (fa.map (·.i)).contains j = true ↔ ∃ z ∈ fa, z.i = j := by
 rw [List.contains_eq_mem]; simp
theorem InvW.adv (hg : GoodW ops n p0 ef (fa.map (·.i))) (hfa : (fa.map (·.i)).Nodup) {listed : Array Bool} {a : Act} {w : World} {i : Nat} {o : Oper} (ho : ops[i]? = some o) (hl : listed.getD i false = false)
  (hr : ∀ e ∈ o.after, Region.binds .any e = true → listed.getD e.on false = true) :
  ∀ (p q : List Nat) (s : Slots) (fs : List Fact) (os : List Own) (pd : List Nat) (b : Act) (E : List (FreeA × Nat)), InvW P c N ops n ef fa p0 R listed a w q p s fs os pd b E → i ∈ p →
   ∃ q' p' s' os' pd' b' E', InvW P c N ops n ef fa p0 R listed a w q' p' s' fs os' pd' b' E' ∧ (ef.contains i = false → (fa.map (·.i)).contains i = false → i ∈ q') ∧ (ef.contains i = true → ∃ r, p' = i :: r) ∧
    ((fa.map (·.i)).contains i = true → i ∈ p' ∧ ((∃ r, p' = i :: r) ∨ ∀ z ∈ fa, z.i = i → SubS s' z.vals))
 | [], _, _, _, _, _, _, _, _, hi => by cases hi
 | j :: p, q, s, fs, os, pd, b, E, h, hi => by
  have noeff : ∀ e', e' ∈ j :: p → ef.contains e' = true → anc ops n i e' = true → False := fun e' he' hef ha => by
   have := anc_listed h.closed n i e' o ho hr ha
   rw [h.effp hg he' hef] at this
   cases this
  have hnanc : listed.getD j false = false → anc ops n i j = true → False := fun hlj ha => by
   have := anc_listed h.closed n i j o ho hr ha
   rw [hlj] at this
   cases this
  by_cases hq : ef.contains j = false ∧ ((fa.map (·.i)).contains j = true → listed.getD j false = true)
  ·obtain ⟨s', os', pd', b', E', h'⟩ := h.step hg hfa hq.1 hq.2
   by_cases e : i = j
   ·subst e
    refine ⟨_, _, s', os', pd', b', E', h', fun _ _ => by simp, fun h1 => ?_, fun h1 => ?_⟩
    ·rw [hq.1] at h1; cases h1
    ·rw [hq.2 h1] at hl; cases hl
   ·have hip : i ∈ p := by
     rcases List.mem_cons.1 hi with h' | h'
     ·exact absurd h' e
     ·exact h'
    exact InvW.adv hg hfa ho hl hr p _ s' fs os' pd' b' E' h' hip
  ·by_cases e : i = j
   ·subst e
    refine ⟨q, _, s, os, pd, b, E, h, fun h1 h2 => ?_, fun _ => ⟨p, rfl⟩, fun _ => ⟨hi, .inl ⟨p, rfl⟩⟩⟩
    exact (hq ⟨h1, fun h3 => by rw [h2] at h3; cases h3⟩).elim
   ·have hip : i ∈ p := by
     rcases List.mem_cons.1 hi with h' | h'
     ·exact absurd h' e
     ·exact h'
    have hblk : ef.contains j = true ∨ ((fa.map (·.i)).contains j = true ∧ listed.getD j false = false) := by
     cases hej : ef.contains j with
     | true => exact .inl rfl
     | false =>
      refine .inr ?_
      cases hfj : (fa.map (·.i)).contains j with
      | false => exact (hq ⟨hej, fun h3 => by rw [hfj] at h3; cases h3⟩).elim
      | true =>
       cases hlj : listed.getD j false with
       | false => exact ⟨rfl, rfl⟩
       | true => exact (hq ⟨hej, fun _ => hlj⟩).elim
    have hlj : listed.getD j false = false := by
     rcases hblk with h1 | h1
     ·exact h.effp hg (by simp) h1
     ·exact h1.2
    rcases hg.chain q j p h.part (hblk.imp id And.left) i hip with ⟨_, ha⟩ | ⟨hei, hc⟩
    ·exact (hnanc hlj ha).elim
    ·rcases hc with hfi | ⟨_, ha⟩ | ⟨e', he', hef, ha⟩
     ·-- it may run ahead of its turn
      refine ⟨q, _, s, os, pd, b, E, h, (fun _ h2 => by rw [hfi] at h2; cases h2), (fun h1 => by rw [hei] at h1; cases h1), fun _ => ⟨hi, .inr fun z hz hzi => ?_⟩⟩
      have use : ∀ p', Rdy ops n ef fa p' s → i ∈ p' → (∀ x ∈ p', x ∈ j :: p) → SubS s z.vals := fun p' hrd hip' hsub => by
       rcases hrd z hz (by rw [hzi]; exact hip') with h1 | h1
       ·obtain ⟨e', he', h2⟩ := List.any_eq_true.1 h1
        simp only [Bool.and_eq_true] at h2
        rw [hzi] at h2
        exact (noeff e' (hsub e' he') h2.1 h2.2).elim
       ·exact h1
      obtain ⟨o', _, hcase⟩ := h.nf
      rcases hcase with ⟨d, _, _, he1, he2, _⟩ | ⟨d, v, _, _, he1, he2, _⟩ | ⟨d, v, _, _, he1, he2, _⟩ | ⟨_, hrd, _⟩ | ⟨z', _, _, hrd, _⟩
      ·rcases hblk with h1 | h1
       ·rw [he1] at h1; cases h1
       ·rw [he2] at h1; cases h1.1
      ·rcases hblk with h1 | h1
       ·rw [he1] at h1; cases h1
       ·rw [he2] at h1; cases h1.1
      ·rcases hblk with h1 | h1
       ·rw [he1] at h1; cases h1
       ·rw [he2] at h1; cases h1.1
      ·exact use _ hrd hi (fun _ h => h)
      ·exact use _ hrd hip (fun _ h => List.mem_cons_of_mem _ h)
     ·exact (hnanc hlj ha).elim
     ·exact (noeff e' he' hef ha).elim
theorem InvW.qclosed (hg : GoodW ops n p0 ef (fa.map (·.i))) {listed : Array Bool} {a : Act} {w : World} {q p : List Nat} {s : Slots} {fs : List Fact} {os : List Own} {pd : List Nat} {b : Act} {E : List (FreeA × Nat)}
  (h : InvW P c N ops n ef fa p0 R listed a w q p s fs os pd b E) {j : Nat} {oj : Oper} (hj : j ∈ q) (hoj : ops[j]? = some oj) : ∀ e ∈ oj.after, Region.binds .any e = true → e.on ∈ q := fun e he hb => by
 obtain ⟨q1, q2, hq⟩ := List.append_of_mem hj
 have := hg.edge q1 j (q2 ++ p) (by rw [h.part, hq]; simp) oj hoj e he hb
 rw [hq]
 exact List.mem_append.2 (.inl this)
theorem anc_q {q : List Nat} (hc : ∀ j ∈ q, ∀ oj, ops[j]? = some oj → ∀ e ∈ oj.after, Region.binds .any e = true → e.on ∈ q) :
  ∀ (n i j : Nat) (o : Oper), ops[i]? = some o → (∀ e ∈ o.after, Region.binds .any e = true → e.on ∈ q) → anc ops n i j = true → j ∈ q
 | 0, _, _, _, _, _, h => by simp [anc] at h
 | n + 1, i, j, o, ho, hr, h => by
  unfold anc at h
  simp only [ho, Array.any_eq_true, Bool.and_eq_true, Bool.or_eq_true, beq_iff_eq] at h
  obtain ⟨k, hk, hb, h⟩ := h
  have he := hr _ (Array.getElem_mem hk) hb
  rcases h with h | h
  ·rw [← h]; exact he
  ·cases ho' : ops[(o.after[k]).on]? with
   | none =>
    cases n with
    | zero => simp [anc] at h
    | succ n => simp [anc, ho'] at h
   | some o' => exact anc_q hc n _ j o' ho' (hc _ he o' ho') h
theorem InvW.agree (hg : GoodW ops n p0 ef (fa.map (·.i))) {listed : Array Bool} {a : Act} {w : World} {q p : List Nat} {s : Slots} {fs : List Fact} {os : List Own} {pd : List Nat} {b : Act} {E : List (FreeA × Nat)}
  (h : InvW P c N ops n ef fa p0 R listed a w q p s fs os pd b E) {i : Nat} {o : Oper} (ho : ops[i]? = some o)
  (hr : ∀ e ∈ o.after, Region.binds .any e = true → listed.getD e.on false = true) (hrq : ∀ e ∈ o.after, Region.binds .any e = true → e.on ∈ q) :
  execOp a.eval o = execOp b.eval o ∧ Region.wanted o (yielded ops a.tmps) = Region.wanted o (yielded ops b.tmps) := by
 refine Sx.agree h.size h.sl.size (hg.sel i o ho) fun t ht => ?_
 by_cases hd : ∃ (j : Nat) (oj : Oper), ops[j]? = some oj ∧ oj.dst = some t
 ·obtain ⟨j, oj, hj, hdj⟩ := hd
  have ha := (hg.look i j o oj t ho hj hdj ht).2
  exact h.done j oj t (anc_listed h.closed n i j o ho hr ha) (anc_q (fun j hj oj hoj => h.qclosed hg hj hoj) n i j o ho hrq ha) hj hdj
 ·exact h.outer t fun j oj hj hdj => hd ⟨j, oj, hj, hdj⟩
theorem InvW.vals (hg : GoodW ops n p0 ef (fa.map (·.i))) {listed : Array Bool} {a : Act} {w : World} {q p : List Nat} {s : Slots} {fs : List Fact} {os : List Own} {pd : List Nat} {b : Act} {E : List (FreeA × Nat)}
  (h : InvW P c N ops n ef fa p0 R listed a w q p s fs os pd b E) {i : Nat} {o : Oper} (ho : ops[i]? = some o)
  (hr : ∀ e ∈ o.after, Region.binds .any e = true → listed.getD e.on false = true) {vals : Slots} (hv : SubS s vals) (hlook : ∀ x ∈ vals, x.1 ∈ o.looksAt ops) : Sl N vals a := by
 refine ⟨h.size, h.defers, fun t v htv => ?_⟩
 have hs := hv.lk t v htv
 have hmem : t ∈ o.looksAt ops := by
  clear hv
  induction vals with
  | nil => simp [lk] at htv
  | cons x r ih =>
   obtain ⟨d, u⟩ := x
   by_cases e : d = t
   ·subst e; exact hlook (d, u) (by simp)
   ·rw [lk_cons_ne e] at htv
    exact ih (fun y hy => hlook y (List.mem_cons_of_mem _ hy)) htv
 rw [← h.sl.get t v hs]
 by_cases hd : ∃ (j : Nat) (oj : Oper), ops[j]? = some oj ∧ oj.dst = some t
 ·obtain ⟨j, oj, hj, hdj⟩ := hd
  have ha := (hg.look i j o oj t ho hj hdj hmem).2
  have hjq : j ∈ q := by
   have hjp : j ∈ q ++ p := by rw [← h.part]; exact hg.all j (Array.getElem?_eq_some_iff.1 hj).1
   rcases List.mem_append.1 hjp with h1 | h1
   ·exact h1
   ·rw [h.fresh j h1 oj t hj hdj] at hs; cases hs
  exact h.done j oj t (anc_listed h.closed n i j o ho hr ha) hjq hj hdj
 ·exact h.outer t fun j oj hj hdj => hd ⟨j, oj, hj, hdj⟩
end
end Go.Sx

namespace Go.Sx
open Go Go.RowKit
section
variable {P : Program} {c : Ctx} {N : Nat} {ops : Array Oper} {n : Nat} {ef p0 : List Nat} {fa : List FreeA} {R : Slots → List Fact → List Own → Prop} {Q : Exit → Act → World → Prop}
theorem InvW.run {listed : Array Bool} {a : Act} {w w' : World} {q p : List Nat} {s : Slots} {fs : List Fact} {os : List Own} {pd : List Nat} {b : Act} {E : List (FreeA × Nat)}
  (h : InvW P c N ops n ef fa p0 R listed a w q p s fs os pd b E) (hg : GoodW ops n p0 ef (fa.map (·.i))) {i d : Nat} {o : Oper} {v : Value} (hs : i < listed.size) (ho : ops[i]? = some o) (hd : o.dst = some d) (hN : d < N) (hv : b.tmps.getD d undef = v) (hq : i ∈ q)
  (hr : ∀ e ∈ o.after, Region.binds .any e = true → listed.getD e.on false = true) (hw : Sta c fs (os ++ frames E) w') :
  InvW P c N ops n ef fa p0 R (listed.setIfInBounds i true) (a.put (some d) v) w' q p s fs os pd b E where
 part := h.part
 sta := hw
 sl := h.sl
 size := by simp [Act.put, h.size]
 defers := h.defers
 outer := fun t ht => by rw [getD_put_ne (fun e : t = d => ht i o ho (by rw [e]; exact hd))]; exact h.outer t ht
 done := fun j oj dj hj hjq hoj hdj => by
  by_cases e : dj = d
  ·subst e
   rw [getD_put_eq (by rw [h.size]; exact hN)]
   exact hv.symm
  ·rw [getD_put_ne e]
   rcases (listed_set hs).1 hj with rfl | hj
   ·rw [hoj] at ho; cases ho; rw [hd] at hdj; cases hdj; exact absurd rfl e
   ·exact h.done j oj dj hj hjq hoj hdj
 early := fun e he => by
  obtain ⟨k1, k2, k3, k4⟩ := h.early e he
  refine ⟨k1, k2, (listed_set hs).2 (.inr k3), fun oe de hoe hde => ?_⟩
  rw [getD_put_ne (fun e' : de = d => ?_)]
  ·exact k4 oe de hoe hde
  ·subst e'
   have := hg.uniq i e.1.i o oe de ho hoe hde hd
   exact h.notq hg k2 (this ▸ hq)
 ednd := h.ednd
 inq := fun j hj => by
  rcases (listed_set hs).1 hj with rfl | hj
  ·exact .inl hq
  ·exact h.inq j hj
 eff := fun j hj he => (listed_set hs).2 (.inr (h.eff j hj he))
 stat := fun j hj hl => h.stat j hj (by
  cases hlj : listed.getD j false with
  | false => rfl
  | true => rw [(listed_set hs).2 (.inr hlj)] at hl; cases hl)
 fresh := h.fresh
 nf := h.nf
 closed := fun j oj hj hoj e he hb => by
  rcases (listed_set hs).1 hj with rfl | hj
  ·rw [hoj] at ho; cases ho; exact (listed_set hs).2 (.inr (hr e he hb))
  ·exact (listed_set hs).2 (.inr (h.closed j oj hj hoj e he hb))
 dlt := h.dlt
theorem InvW.runE {listed : Array Bool} {a : Act} {w w' : World} {q p : List Nat} {s : Slots} {fs : List Fact} {os : List Own} {pd : List Nat} {b : Act} {E : List (FreeA × Nat)}
  (h : InvW P c N ops n ef fa p0 R listed a w q p s fs os pd b E) (hg : GoodW ops n p0 ef (fa.map (·.i))) {z : FreeA} (hz : z ∈ fa) {d g : Nat} {o : Oper} (hs : z.i < listed.size) (hl : listed.getD z.i false = false) (hp : z.i ∈ p) (ho : ops[z.i]? = some o) (hd : o.dst = some d) (hN : d < N)
  (hr : ∀ e ∈ o.after, Region.binds .any e = true → listed.getD e.on false = true) (hw : Sta c fs (z.nw g :: (os ++ frames E)) w') :
  InvW P c N ops n ef fa p0 R (listed.setIfInBounds z.i true) (a.put (some d) (z.f g)) w' q p s fs os pd b ((z, g) :: E) where
 part := h.part
 sta := hw.perm (by simpa [frames] using List.perm_middle.symm)
 sl := h.sl
 size := by simp [Act.put, h.size]
 defers := h.defers
 outer := fun t ht => by rw [getD_put_ne (fun e : t = d => ht z.i o ho (by rw [e]; exact hd))]; exact h.outer t ht
 done := fun j oj dj hj hjq hoj hdj => by
  have hjz : j ≠ z.i := fun e => h.notq hg hp (e ▸ hjq)
  have hne : dj ≠ d := fun e => hjz (hg.uniq j z.i oj o dj hoj ho (by rw [e]; exact hd) hdj)
  rw [getD_put_ne hne]
  rcases (listed_set hs).1 hj with hj | hj
  ·exact absurd hj hjz
  ·exact h.done j oj dj hj hjq hoj hdj
 early := fun e he => by
  rcases List.mem_cons.1 he with rfl | he
  ·refine ⟨hz, hp, (listed_set hs).2 (.inl rfl), fun oe de hoe hde => ?_⟩
   rw [hoe] at ho; cases ho; rw [hde] at hd; cases hd
   exact getD_put_eq (by rw [h.size]; exact hN)
  ·obtain ⟨k1, k2, k3, k4⟩ := h.early e he
   refine ⟨k1, k2, (listed_set hs).2 (.inr k3), fun oe de hoe hde => ?_⟩
   have hne : e.1.i ≠ z.i := fun e' => by rw [e', hl] at k3; cases k3
   rw [getD_put_ne (fun e' : de = d => hne (hg.uniq e.1.i z.i oe o de hoe ho (by rw [e']; exact hd) hde))]
   exact k4 oe de hoe hde
 ednd := by
  rw [List.map_cons, List.nodup_cons]
  refine ⟨fun hm => ?_, h.ednd⟩
  obtain ⟨e, he, hez⟩ := List.mem_map.1 hm
  have := (h.early e he).2.2.1
  simp only at hez
  rw [hez, hl] at this
  cases this
 inq := fun j hj => by
  rcases (listed_set hs).1 hj with rfl | hj
  ·exact .inr ⟨_, List.mem_cons_self, rfl⟩
  ·rcases h.inq j hj with h1 | ⟨e, he, h1⟩
   ·exact .inl h1
   ·exact .inr ⟨e, List.mem_cons_of_mem _ he, h1⟩
 eff := fun j hj he => (listed_set hs).2 (.inr (h.eff j hj he))
 stat := fun j hj hl => h.stat j hj (by
  cases hlj : listed.getD j false with
  | false => rfl
  | true => rw [(listed_set hs).2 (.inr hlj)] at hl; cases hl)
 fresh := h.fresh
 nf := h.nf
 closed := fun j oj hj hoj e he hb => by
  rcases (listed_set hs).1 hj with rfl | hj
  ·rw [hoj] at ho; cases ho; exact (listed_set hs).2 (.inr (hr e he hb))
  ·exact (listed_set hs).2 (.inr (h.closed j oj hj hoj e he hb))
 dlt := h.dlt
theorem InvW.all (hg : GoodW ops n p0 ef (fa.map (·.i))) (hfa : (fa.map (·.i)).Nodup) {listed : Array Bool} {a : Act} {w : World} (hR : ∀ s fs os, R s fs os → ∀ a w, Sl N s a → Sta c fs os w → Q .normal a w) (hl : ∀ i, i < ops.size → listed.getD i false = true) :
  ∀ (p q : List Nat) (s : Slots) (fs : List Fact) (os : List Own) (pd : List Nat) (b : Act) (E : List (FreeA × Nat)), InvW P c N ops n ef fa p0 R listed a w q p s fs os pd b E → Q .normal a w
 | j :: p, q, s, fs, os, pd, b, E, h => by
  have hlj := hl j (hg.lt j (by rw [h.part]; simp))
  have hef : ef.contains j = false := by
   cases he : ef.contains j with
   | false => rfl
   | true => rw [h.effp hg (by simp) he] at hlj; cases hlj
  obtain ⟨s', os', pd', b', E', h'⟩ := h.step hg hfa hef (fun _ => hlj)
  exact InvW.all hg hfa hR hl p _ s' fs os' pd' b' E' h'
 | [], q, s, fs, os, pd, b, E, h => by
  have hE : E = [] := by
   cases E with
   | nil => rfl
   | cons e E => have := (h.early e (by simp)).2.1; cases this
  subst hE
  refine hR s fs os h.nf a w ⟨h.size, h.defers, fun t v hv => ?_⟩ (by simpa [frames] using h.sta)
  rw [← h.sl.get t v hv]
  by_cases hd : ∃ (j : Nat) (oj : Oper), ops[j]? = some oj ∧ oj.dst = some t
  ·obtain ⟨j, oj, hj, hdj⟩ := hd
   have hlt := (Array.getElem?_eq_some_iff.1 hj).1
   have hjq : j ∈ q := by have := hg.all j hlt; rw [h.part] at this; simpa using this
   exact h.done j oj t (hl j hlt) hjq hj hdj
  ·exact h.outer t fun j oj hj hdj => hd ⟨j, oj, hj, hdj⟩
theorem Nw.any (hg : GoodW ops n p0 ef (fa.map (·.i))) (hfa : (fa.map (·.i)).Nodup) (hok : ∀ z ∈ fa, z.Ok P N ops) (hR : ∀ s fs os, R s fs os → ∀ a w, Sl N s a → Sta c fs os w → Q .normal a w) :
  ∀ (fuel : Nat) (listed : Array Bool) (a : Act) (w : World) (q p : List Nat) (s : Slots) (fs : List Fact) (os : List Own) (pd : List Nat) (b : Act) (E : List (FreeA × Nat)),
   InvW P c N ops n ef fa p0 R listed a w q p s fs os pd b E → listed.size = ops.size → unl listed ops.size ≤ fuel → wpAny P .any ops Q fuel listed a w := by
 have getD_tf : ∀ (listed : Array Bool) (i : Nat), i < listed.size → listed.getD i true = listed.getD i false := fun listed i hi => by
  simp [Array.getD_eq_getD_getElem?, Array.getElem?_eq_getElem hi]
 intro fuel
 induction fuel with
 | zero =>
  intro listed a w q p s fs os pd b E h hsz hu
  have hl := unl_zero listed ops.size (by omega)
  refine ⟨?_, InvW.all hg hfa hR hl _ _ _ _ _ _ _ _ h⟩
  refine List.eq_nil_iff_forall_not_mem.2 fun i hi => ?_
  obtain ⟨h1, o, ho, _⟩ := mem_ready.1 hi
  have hlt := (Array.getElem?_eq_some_iff.1 ho).1
  rw [getD_tf listed i (by omega), hl i hlt] at h1
  cases h1
 | succ fuel ih =>
  intro listed a w q p s fs os pd b E h hsz hu
  refine ⟨fun hnil => ?_, fun i hi => ?_⟩
  ·refine InvW.all hg hfa hR (fun i hi => ?_) _ _ _ _ _ _ _ _ h
   cases hl : listed.getD i false with
   | true => rfl
   | false =>
    exfalso
    obtain ⟨q1, j, r, e, hj, hq1⟩ := first_of (p := fun x => listed.getD x false = true) p0 ⟨i, hg.all i hi, by rw [hl]; simp⟩
    have hjlt := hg.lt j (by rw [e]; simp)
    have hoj := Array.getElem?_eq_getElem hjlt
    have : j ∈ Region.ready .any ops listed := mem_ready.2 ⟨by rw [getD_tf listed j (by omega)]; simpa using hj, _, hoj, fun x hx hb => hq1 _ (hg.edge q1 j r e _ hoj x hx hb)⟩
    rw [hnil] at this
    cases this
  ·obtain ⟨h1, o, ho, hr⟩ := mem_ready.1 hi
   have hlt := (Array.getElem?_eq_some_iff.1 ho).1
   have hls : i < listed.size := by omega
   rw [getD_tf listed i hls] at h1
   have hu' : unl (listed.setIfInBounds i true) ops.size ≤ fuel := by
    have := unl_set listed i h1 hls ops.size
    rw [if_pos hlt] at this
    omega
   have hsz' : (listed.setIfInBounds i true).size = ops.size := by simpa using hsz
   have hip0 : i ∈ q ++ p := by rw [← h.part]; exact hg.all i hlt
   unfold wpOp
   simp only [ho]
   cases hei : ef.contains i with
   | false =>
    cases hfi : (fa.map (·.i)).contains i with
    | false =>
     obtain ⟨q', p', s', os', pd', b', E', h', hiq⟩ : ∃ q' p' s' os' pd' b' E', InvW P c N ops n ef fa p0 R listed a w q' p' s' fs os' pd' b' E' ∧ i ∈ q' := by
      rcases List.mem_append.1 hip0 with hm | hm
      ·exact ⟨q, p, s, os, pd, b, E, h, hm⟩
      ·obtain ⟨q', p', s', os', pd', b', E', h', h2, _⟩ := InvW.adv hg hfa ho h1 hr p q s fs os pd b E h hm
       exact ⟨q', p', s', os', pd', b', E', h', h2 hei hfi⟩
     obtain ⟨he, hw⟩ := h'.agree hg ho hr (h'.qclosed hg hiq ho)
     obtain ⟨o', d, ho', hd, hst⟩ := h'.stat i hiq h1
     rw [ho] at ho'
     cases ho'
     have hN : d < N := h'.dlt i hiq o d ho hd
     rcases hst with ⟨hwf, hv⟩ | ⟨hwt, v, hv, hlk, hst⟩
     ·rw [hw, wtd_ok h'.sl hwf, hd]
      simp only [Bool.false_eq_true, if_false]
      exact ih _ _ _ _ _ _ _ _ _ _ _ (h'.run hg hls ho hd hN hv hiq hr h'.sta) hsz' hu'
     ·rw [hw, wtd_ok h'.sl hwt]
      simp only [if_true]
      refine .inl ?_
      rcases hst with hpu | ⟨_, hqo⟩
      ·refine Outc.wp (R := fun v' w' => v' = v ∧ w' = w) (by rw [he, hpu b' w h'.sl]; exact ⟨rfl, rfl⟩) ?_
       rintro v' w' ⟨rfl, rfl⟩
       rw [hd]
       exact ih _ _ _ _ _ _ _ _ _ _ _ (h'.run hg hls ho hd hN hv hiq hr h'.sta) hsz' hu'
      ·refine Outc.wp (R := fun v' w' => v' = v ∧ Sta c fs (os' ++ frames E') w') (by rw [he]; exact (hqo (frames E')).go b' w h'.sl h'.sta) ?_
       rintro v' w' ⟨rfl, hw'⟩
       rw [hd]
       exact ih _ _ _ _ _ _ _ _ _ _ _ (h'.run hg hls ho hd hN hv hiq hr hw') hsz' hu'
    | true =>
     have hiq : i ∉ q := fun hm => by rw [h.eff i hm (.inr hfi)] at h1; cases h1
     have hip : i ∈ p := by
      rcases List.mem_append.1 hip0 with hm | hm
      ·exact absurd hm hiq
      ·exact hm
     obtain ⟨q', p', s', os', pd', b', E', h', _, _, h3⟩ := InvW.adv hg hfa ho h1 hr p q s fs os pd b E h hip
     obtain ⟨hip', h3⟩ := h3 hfi
     have hsub : ∃ z ∈ fa, z.i = i ∧ SubS s' z.vals := by
      rcases h3 with ⟨r, rfl⟩ | h3
      ·obtain ⟨o', _, hcase⟩ := h'.nf
       rcases hcase with ⟨d, _, _, _, hb, _⟩ | ⟨d, v, _, _, _, hb, _⟩ | ⟨d, v, _, _, _, hb, _⟩ | ⟨hb, _⟩ | ⟨z, hz, hzi, _, hv, _⟩
       ·rw [hfi] at hb; cases hb
       ·rw [hfi] at hb; cases hb
       ·rw [hfi] at hb; cases hb
       ·rw [hei] at hb; cases hb
       ·exact ⟨z, hz, hzi, hv⟩
      ·obtain ⟨z, hz, hzi⟩ := mem_fr.1 hfi
       exact ⟨z, hz, hzi, h3 z hz hzi⟩
     obtain ⟨z, hz, rfl, hv⟩ := hsub
     obtain ⟨o', d, ho', hd, hN, hgd, hlook, hrun⟩ := (hok z hz).go
     rw [ho] at ho'
     cases ho'
     have hwt : Region.wanted o (yielded ops a.tmps) = true := by unfold Region.wanted; rw [hgd]
     rw [hwt]
     simp only [if_true]
     refine .inl (Outc.wp (hrun c fs (os' ++ frames E') a w (h'.vals hg ho hr hv hlook) h'.sta) ?_)
     rintro v w' ⟨g, rfl, hw'⟩
     rw [hd]
     exact ih _ _ _ _ _ _ _ _ _ _ _ (h'.runE hg hz hls h1 hip' ho hd hN hr hw') hsz' hu'
   | true =>
    have hiq : i ∉ q := fun hm => by rw [h.eff i hm (.inl hei)] at h1; cases h1
    have hip : i ∈ p := by
     rcases List.mem_append.1 hip0 with hm | hm
     ·exact absurd hm hiq
     ·exact hm
    obtain ⟨q', p', s', os', pd', b', E', h', _, hpe, _⟩ := InvW.adv hg hfa ho h1 hr p q s fs os pd b E h hip
    obtain ⟨r, rfl⟩ := hpe hei
    obtain ⟨he, hw⟩ := h'.agree hg ho hr (fun e he hb => hg.edge q' i r h'.part o ho e he hb)
    obtain ⟨o', ho', hcase⟩ := h'.nf
    rw [ho] at ho'
    cases ho'
    rcases hcase with ⟨_, _, _, hb, _⟩ | ⟨_, _, _, _, hb, _⟩ | ⟨_, _, _, _, hb, _⟩ | ⟨_, _, hdN, hwt, next, hex, hnext⟩ | ⟨z, hz, hzi, _⟩
    ·rw [hei] at hb; cases hb
    ·rw [hei] at hb; cases hb
    ·rw [hei] at hb; cases hb
    ·rw [hw, wtd_ok h'.sl hwt]
     simp only [if_true]
     refine .inl (Outc.wp (R := fun v w' => ∃ fs'' os'', next v fs'' os'' ∧ Sta c fs'' (os'' ++ frames E') w') (by rw [he]; exact (hex (frames E')).go b' w h'.sl h'.sta) ?_)
     rintro v w' ⟨fs'', os'', hn, hw'⟩
     obtain ⟨hpd, hnf⟩ := hnext v fs'' os'' hn
     have hiq' := h'.notq hg (j := i) (by simp)
     have hir : i ∉ r := by
      have := hg.nodup
      rw [h'.part, List.nodup_append, List.nodup_cons] at this
      exact this.2.1.1
     -- what stands open stays so
     have hold : ∀ j, j ∈ q' → listed.getD j false = false → StatW P c N ops s' fs'' os'' pd' b' j := fun j hj hl => by
      obtain ⟨oj, dj, hoj, hdj, hst⟩ := h'.stat j hj hl
      refine ⟨oj, dj, hoj, hdj, ?_⟩
      rcases hst with h0 | ⟨hwj, v, hv, hlk, hp | ⟨hm, _⟩⟩
      ·exact .inl h0
      ·exact .inr ⟨hwj, v, hv, hlk, .inl hp⟩
      ·rcases hpd j hm with ha | ⟨oj', dj', vj, hoj', hdj', hlj, hqo⟩
       ·have := anc_listed h'.closed n i j o ho hr ha
        rw [hl] at this
        cases this
       ·rw [hoj] at hoj'; cases hoj'; rw [hdj] at hdj'; cases hdj'
        rw [hlk] at hlj
        cases hlj
        exact .inr ⟨hwj, v, hv, hlk, .inr ⟨hm, hqo⟩⟩
     refine ih _ _ _ (q' ++ [i]) r (addS s' o.dst v) fs'' os'' pd' (b'.put o.dst v) E' ?_ hsz' hu'
     have hother : ∀ (j : Nat) (oj : Oper) (d : Nat), o.dst = some d → j ≠ i → ops[j]? = some oj → oj.dst ≠ some d := fun j oj d hd hne hj hdj => hne (hg.uniq j i oj o d hj ho hd hdj)
     have hEi : ∀ e ∈ E', e.1.i ≠ i := fun e he' hei' => by
      have := (h'.early e he').2.2.1
      rw [hei', h1] at this
      cases this
     refine ⟨by rw [h'.part]; simp, hw', h'.sl.addS v hdN, ?_, ?_, fun t ht => ?_, fun j oj dj hj hjq hoj hdj => ?_, fun e he' => ?_, h'.ednd, fun j hj => ?_, fun j hj hej => ?_, fun j hj hl => ?_, fun j hj oj dj hoj hdj => ?_, hnf, fun j oj hj hoj x hx hb => ?_, fun j hj oj dj hoj hdj => ?_⟩
     ·cases o.dst <;> simp [Act.put, h'.size]
     ·cases o.dst <;> simp [Act.put, h'.defers]
     ·cases hd : o.dst with
      | none => exact h'.outer t ht
      | some d =>
       have hne : t ≠ d := fun e => ht i o ho (by rw [e]; exact hd)
       rw [getD_put_ne hne, getD_put_ne hne]
       exact h'.outer t ht
     ·have hcase : j = i ∨ (j ≠ i ∧ listed.getD j false = true ∧ j ∈ q') := by
       by_cases e : j = i
       ·exact .inl e
       ·refine .inr ⟨e, ?_, ?_⟩
        ·rcases (listed_set hls).1 hj with h2 | h2
         ·exact absurd h2 e
         ·exact h2
        ·rcases List.mem_append.1 hjq with h2 | h2
         ·exact h2
         ·simp at h2; exact absurd h2 e
      cases hd : o.dst with
      | none =>
       rcases hcase with rfl | ⟨_, k1, k2⟩
       ·rw [hoj] at ho; cases ho; rw [hd] at hdj; cases hdj
       ·exact h'.done j oj dj k1 k2 hoj hdj
      | some d =>
       by_cases e : dj = d
       ·subst e
        rw [getD_put_eq (by rw [h'.size]; exact hdN _ hd), getD_put_eq (by rw [h'.sl.size]; exact hdN _ hd)]
       ·rw [getD_put_ne e, getD_put_ne e]
        rcases hcase with rfl | ⟨_, k1, k2⟩
        ·rw [hoj] at ho; cases ho; rw [hd] at hdj; cases hdj; exact absurd rfl e
        ·exact h'.done j oj dj k1 k2 hoj hdj
     ·obtain ⟨k1, k2, k3, k4⟩ := h'.early e he'
      refine ⟨k1, ?_, (listed_set hls).2 (.inr k3), fun oe de hoe hde => ?_⟩
      ·rcases List.mem_cons.1 k2 with h2 | h2
       ·exact absurd h2 (hEi e he')
       ·exact h2
      ·cases hd : o.dst with
       | none => exact k4 oe de hoe hde
       | some d =>
        rw [getD_put_ne (fun e' : de = d => hother e.1.i oe d hd (hEi e he') hoe (by rw [← e']; exact hde))]
        exact k4 oe de hoe hde
     ·rcases (listed_set hls).1 hj with rfl | hj
      ·exact .inl (by simp)
      ·rcases h'.inq j hj with h2 | h2
       ·exact .inl (List.mem_append.2 (.inl h2))
       ·exact .inr h2
     ·rcases List.mem_append.1 hj with hj | hj
      ·exact (listed_set hls).2 (.inr (h'.eff j hj hej))
      ·simp at hj; subst hj; exact (listed_set hls).2 (.inl rfl)
     ·have hne : j ≠ i := fun e => by rw [(listed_set hls).2 (.inl e)] at hl; cases hl
      have hjq : j ∈ q' := by
       rcases List.mem_append.1 hj with hj | hj
       ·exact hj
       ·simp at hj; exact absurd hj hne
      have hlj : listed.getD j false = false := by
       cases hlj : listed.getD j false with
       | false => rfl
       | true => rw [(listed_set hls).2 (.inr hlj)] at hl; cases hl
      cases hd : o.dst with
      | none => exact hold j hjq hlj
      | some d => exact (hold j hjq hlj).cons (h'.fresh i (by simp) o d ho hd) (fun _ h => h) (fun oj hoj => hother j oj d hd hne hoj) (.inl rfl)
     ·have hne : j ≠ i := fun e => hir (e ▸ hj)
      cases hd : o.dst with
      | none => exact h'.fresh j (List.mem_cons_of_mem _ hj) oj dj hoj hdj
      | some d =>
       show lk ((d, v) :: s') dj = none
       rw [lk_cons_ne (fun e : d = dj => hother j oj d hd hne hoj (by rw [e]; exact hdj))]
       exact h'.fresh j (List.mem_cons_of_mem _ hj) oj dj hoj hdj
     ·rcases (listed_set hls).1 hj with rfl | hj
      ·rw [hoj] at ho; cases ho; exact (listed_set hls).2 (.inr (hr x hx hb))
      ·exact (listed_set hls).2 (.inr (h'.closed j oj hj hoj x hx hb))
     ·rcases List.mem_append.1 hj with hj | hj
      ·exact h'.dlt j hj oj dj hoj hdj
      ·simp at hj; subst hj; rw [hoj] at ho; cases ho; exact hdN _ hdj
    ·have := hg.disj i hei
     rw [mem_fr.2 ⟨z, hz, hzi⟩] at this
     cases this
theorem Tr.drawW {id : Nat} {s : Slots} {fs : List Fact} {os : List Own} (n : Nat) (p ef : List Nat) (fa : List FreeA) (R : Slots → List Fact → List Own → Prop) (hm : P.follows .mixedOrders = true) (hc : chkW ops n p ef (fa.map (·.i)) = true) (hn : p.Nodup) (hfa : (fa.map (·.i)).Nodup) (hok : ∀ z ∈ fa, z.Ok P N ops)
  (hR : ∀ s fs os, R s fs os → ∀ a w, Sl N s a → Sta c fs os w → Q .normal a w)
  (h : Nw P c N ops n ef fa p (dropS (dsts ops) s) fs os [] R) : Tr P c N Q (.region id ops true) s fs os := by
 intro a w hs hw
 refine wp_region_any hm ?_
 have hg := GoodW.of_chk hc hn
 have hrep : ∀ i, (Array.replicate ops.size false).getD i false = false := fun i => by
  simp only [Array.getD_eq_getD_getElem?, Array.getElem?_replicate]
  split <;> rfl
 refine Nw.any hg hfa hok hR ops.size _ a _ [] p (dropS (dsts ops) s) fs os [] a [] ?_ (by simp) ?_
 ·refine ⟨rfl, by simpa [frames] using hw.drew, hs.weak fun t v hv => dropS_lk hv, hs.size, hs.defers, fun _ _ => rfl, fun _ _ _ _ _ _ _ => rfl, (fun e he => by cases he), List.nodup_nil, fun i hi => ?_, (fun i hi => by cases hi), (fun i hi => by cases hi), fun i hi o d ho hd => ?_, h, fun i o hi => ?_, (fun i hi => by cases hi)⟩
  ·rw [hrep] at hi; cases hi
  ·rw [lk_dropS]
   have : d ∈ dsts ops := List.mem_filterMap.2 ⟨o, by
    obtain ⟨hlt, he⟩ := Array.getElem?_eq_some_iff.1 ho
    rw [← he]
    exact Array.mem_toList_iff.2 (Array.getElem_mem hlt), hd⟩
   simp [this]
  ·rw [hrep] at hi; cases hi
 ·have : ∀ n, unl (Array.replicate ops.size false) n = n := fun n => by
   induction n with
   | zero => rfl
   | succ n ih => unfold unl; rw [ih, hrep]; rfl
  rw [this]
  exact Nat.le_refl _
end
end Go.Sx

namespace Go.Sx
open Go Go.RowKit
theorem Has.app {os : List Own} {o : Own} (F : List Own) (h : Has os o) : Has (os ++ F) o := by
 induction h with
 | here => exact .here
 | there _ ih => exact .there ih
theorem Upd.app {os os' : List Own} {o o' : Own} (F : List Own) (h : Upd os o o' os') : Upd (os ++ F) o o' (os' ++ F) := by
 induction h with
 | here => exact .here
 | there _ ih => exact .there ih
theorem Del.app {os os' : List Own} {o : Own} (F : List Own) (h : Del os o os') : Del (os ++ F) o (os' ++ F) := by
 induction h with
 | here => exact .here
 | there _ ih => exact .there ih
theorem Take.app {os r os' : List Own} (F : List Own) (h : Take os r os') : Take (os ++ F) r (os' ++ F) := by
 induction h with
 | nil => exact .nil
 | cons hd _ ih => exact .cons (hd.app F) ih
theorem Sep.left {os F : List Own} {w : World} {I S : Blks} (h : Sep (os ++ F) w I S) : Sep os w I S := by
 obtain ⟨S1, _, m1, _, _, h1, _⟩ := Sep.split h
 exact h1.mono m1
theorem EntB.app {fs : List Fact} {os : List Own} {f : Fact} (F : List Own) (h : EntB fs os f) : EntB fs (os ++ F) f := fun w I S hf hs => h w I S hf hs.left
theorem EntsB.app {fs fs' : List Fact} {os : List Own} (F : List Own) (h : EntsB fs os fs') : EntsB fs (os ++ F) fs' := fun f hf => (h f hf).app F
section
variable {P : Program} {c : Ctx} {N : Nat} {s : Slots} {fs : List Fact} {os os' os1 : List Own}
variable {d : Option Tmp} {ty : TypeId} {pos : String} {af : Array Edge} {gd : Option (Nat × Bool)}
theorem Ex.weak {o : Oper} {R R' : Value → World → Prop} (h : Ex P c fs os N s o R) (k : ∀ v w, R v w → R' v w) : Ex P c fs os N s o R' := Ex.mk fun a w hs hw => (h.go a w hs hw).mono k
theorem n_store {t : TypeId} {ag : Bool} {n : Nat} {z : Value} {by_ : Nat} {x y : Operand} {g j : Nat} {bt : TypeId} {cs cs' : List Value} {v : Value} (ht : TyI P t ag n z by_)
  (hx : ev s x = some (.pointer (some ⟨g, j, none⟩))) (hy : ev s y = some v) (hu : Upd os (box g bt cs) (box g bt cs') os') (hn : v.cells.size = n) (h1 : ∀ u ∈ v.cells.toList, u.oneCell' = true)
  (hl : j + n ≤ cs.length) (he : cs.take j ++ v.cells.toList ++ cs.drop (j + n) = cs') :
  EF P c fs os N s ⟨d, .store t x y, ty, pos, af, gd⟩ (fun u fs' os'' => u = undef ∧ fs' = fs ∧ os'' = os') := fun F =>
 (e_store (fs := fs) ht hx hy (hu.app F) hn h1 hl he).weak fun _ _ ⟨_, _, ⟨e1, e2, e3⟩, h⟩ => ⟨_, os', ⟨e1, e2, rfl⟩, e3 ▸ h⟩
theorem n_setT {t : TypeId} {ag : Bool} {z : Value} {by_ : Nat} {α : Type} [ShpT α] {x y : Operand} {oa : Option Addr} {m cp : Nat} {l : List α} {v : Value} (k : Nat) (u : α) (X : Shp.γ α) (ht : TyI P t ag (Enc.sz α) z by_)
  (hx : ev s x = some (elp oa (k * Enc.sz α))) (hy : ev s y = some v) (hv : v.cells.toList = Shp.enc u X) (hk : k < l.length) (hwf : ShpT.wf u) (htk : Take os (tree (.slice oa m cp) l :: ShpT.own u X) os1) :
  EF P c fs os N s ⟨d, .store t x y, ty, pos, af, gd⟩ (fun v fs' os' => v = undef ∧ fs' = fs ∧ os' = tree (.slice oa m cp) (l.set k u) :: os1) := fun F =>
 (e_setT (fs := fs) k u X ht hx hy hv hk hwf (htk.app F)).weak fun _ _ ⟨_, _, ⟨e1, e2, e3⟩, h⟩ => ⟨_, _, ⟨e1, e2, rfl⟩, by rw [List.cons_append, ← e3]; exact h⟩
theorem n_callB {L : Prop} {ι : Type} {f : FuncId} {xs : List Operand} {vs : List Value} {ats : Array TypeId} {fsC : List Fact} {rv : ι → Value} {osR : ι → List Own}
  (hc : FnL' L P f vs.toArray fsC [] rv (fun _ => []) osR) (hsolo : ∀ i, Solo (osR i)) (hx : evs s xs = some vs) (he : EntsB fs os fsC) (hL : L → c.L := by exact False.elim) :
  EF P c fs os N s ⟨d, .call { callee := .value (.func f), args := xs.toArray, argTypes := ats }, ty, pos, af, gd⟩ (fun v fs' os' => ∃ i, v = rv i ∧ fs' = fs ∧ os' = osR i ++ os) := fun F =>
 (e_callB hc hsolo hx (he.app F) hL).weak fun _ _ ⟨_, _, ⟨i, e1, e2, e3⟩, h⟩ => ⟨_, _, ⟨i, e1, e2, rfl⟩, by rw [List.append_assoc, ← e3]; exact h⟩
theorem n_call {L : Prop} {ι : Type} {f : FuncId} {xs : List Operand} {vs : List Value} {ats : Array TypeId} {fsC : List Fact} {osC : List Own} {rv : ι → Value} {fsR : ι → List Fact} {osR : ι → List Own}
  (hc : FnL' L P f vs.toArray fsC osC rv fsR osR) (hx : evs s xs = some vs) (he : Ents fs fsC) (ht : Take os osC os') (hL : L → c.L := by exact False.elim) :
  EF P c fs os N s ⟨d, .call { callee := .value (.func f), args := xs.toArray, argTypes := ats }, ty, pos, af, gd⟩ (fun v fs' os'' => ∃ i, v = rv i ∧ fs' = fsR i ++ fs ∧ os'' = osR i ++ os') := fun F =>
 (e_call hc hx he (ht.app F) hL).weak fun _ _ ⟨_, _, ⟨i, e1, e2, e3⟩, h⟩ => ⟨_, _, ⟨i, e1, e2, rfl⟩, by rw [List.append_assoc, ← e3]; exact h⟩
theorem n_app1 {t e : TypeId} {ag : Bool} {z : Value} {by_ : Nat} {α : Type} [ShpT α] {x y : Operand} {oa : Option Addr} {n cp g : Nat} {bt : TypeId} {cs : List Value} {l : List α} (u : α) (X : Shp.γ α) (hu : P.underlying t = some (.slice e)) (ht : TyI P e ag (Enc.sz α) z by_)
  (hx : ev s x = some (.slice oa n cp)) (hy : ev s y = some (.slice (some ⟨g, 0, none⟩) 1 1)) (hb : (l.length + 1) * by_ ≤ 140737488355328) (h63 : l.length + 1 ≤ 9223372036854775807) (hcs : cs = Shp.enc u X) (hwf : ShpT.wf u)
  (htk : Take os (tree (.slice oa n cp) l :: box g bt cs :: ShpT.own u X) os1) :
  EF P c fs os N s ⟨d, .call { callee := .builtin .append, args := #[x, y], argTypes := #[t, t] }, ty, pos, af, gd⟩ (fun v fs' os' => ∃ oa' cp', v = .slice oa' (l ++ [u]).length cp' ∧ fs' = fs ∧ os' = tree (.slice oa' (l ++ [u]).length cp') (l ++ [u]) :: os1) := fun F =>
 (e_app1 (fs := fs) u X hu ht hx hy hb h63 hcs hwf (htk.app F)).weak fun _ _ ⟨_, _, ⟨oa', cp', e1, e2, e3⟩, h⟩ => ⟨_, _, ⟨oa', cp', e1, e2, rfl⟩, by rw [List.cons_append, ← e3]; exact h⟩
theorem n_appF {t e : TypeId} {ag : Bool} {z : Value} {by_ : Nat} {α : Type} [Flat α] {x y : Operand} {oa ob : Option Addr} {n m cp c2 : Nat} {l k : List α} (hu : P.underlying t = some (.slice e)) (ht : TyI P e ag (Enc.sz α) z by_)
  (hx : ev s x = some (.slice oa n cp)) (hy : ev s y = some (.slice ob m c2)) (hb : (l.length + k.length) * by_ ≤ 140737488355328) (h63 : l.length + k.length ≤ 9223372036854775807)
  (htk : Take os [tree (.slice oa n cp) l] os1) (hk : EntB fs os1 (imm (.slice ob m c2) k)) :
  EF P c fs os N s ⟨d, .call { callee := .builtin .append, args := #[x, y], argTypes := #[t, t] }, ty, pos, af, gd⟩ (fun v fs' os' => ∃ oa' cp', v = .slice oa' (l ++ k).length cp' ∧ fs' = fs ∧ os' = tree (.slice oa' (l ++ k).length cp') (l ++ k) :: os1) := fun F =>
 (e_appF (fs := fs) hu ht hx hy hb h63 (htk.app F) (hk.app F)).weak fun _ _ ⟨_, _, ⟨oa', cp', e1, e2, e3⟩, h⟩ => ⟨_, _, ⟨oa', cp', e1, e2, rfl⟩, by rw [List.cons_append, ← e3]; exact h⟩
theorem FreeA.Ok.of {ops : Array Oper} {z : FreeA} {dd : Nat} {op : Op} (ho : ops[z.i]? = some ⟨some dd, op, ty, pos, af, none⟩) (hN : dd < N)
  (hl : (z.vals.all fun p => (Oper.looksAt ops ⟨some dd, op, ty, pos, af, none⟩).contains p.1) = true)
  (h : ∀ c fs os, Eo P c fs os N z.vals ⟨some dd, op, ty, pos, af, none⟩ (fun v fs' os' => ∃ g, v = z.f g ∧ fs' = fs ∧ os' = z.nw g :: os)) : z.Ok P N ops :=
 ⟨⟨_, dd, ho, rfl, hN, rfl, fun p hp => by have := List.all_eq_true.1 hl p hp; simpa using this, fun c fs os a w hs hw => ((h c fs os).go a w hs hw).mono fun v w' ⟨_, _, ⟨g, e1, e2, e3⟩, h⟩ => ⟨g, e1, by rw [e2, e3] at h; exact h⟩⟩⟩
theorem g_lit0 {t e : TypeId} {ag : Bool} {n : Nat} {z : Value} {by_ : Nat} (α : Type) [Enc α] (hu : P.underlying t = some (.slice e)) (ht : TyI P e ag n z by_) :
  Eo P c fs os N s ⟨d, .buildSlice t 0 #[], ty, pos, af, gd⟩ (fun v fs' os' => ∃ g, v = .slice (some ⟨g, 0, none⟩) ([] : List α).length 0 ∧ fs' = fs ∧ os' = tree (.slice (some ⟨g, 0, none⟩) ([] : List α).length 0) ([] : List α) :: os) := Ex.mk fun a w hs hw => by
 have hrun := run_lit0 (P := P) hu ht w
 simp only [execOp, List.map_toArray, List.map_nil]
 rw [Sem.run_bind, hrun]
 exact ⟨fs, _, ⟨w.heap.size, rfl, rfl, rfl⟩, (hw.alloc e []).toTree0 (α := α) .here⟩
theorem g_lit0r {t e : TypeId} {ag : Bool} {n : Nat} {z : Value} {by_ : Nat} (α : Type) [Enc α] (hu : P.underlying t = some (.slice e)) (ht : TyI P e ag n z by_) :
  Eo P c fs os N s ⟨d, .buildSlice t 0 #[], ty, pos, af, gd⟩ (fun v fs' os' => ∃ g, v = .slice (some ⟨g, 0, none⟩) ([] : List α).length 0 ∧ fs' = fs ∧ os' = row (.slice (some ⟨g, 0, none⟩) ([] : List α).length 0) ([] : List α) :: os) := Ex.mk fun a w hs hw => by
 have hrun := run_lit0 (P := P) hu ht w
 simp only [execOp, List.map_toArray, List.map_nil]
 rw [Sem.run_bind, hrun]
 exact ⟨fs, _, ⟨w.heap.size, rfl, rfl, rfl⟩, (hw.alloc e []).toRow0 (α := α) .here⟩
end
section
variable {P : Program} {c : Ctx} {N : Nat} {ops : Array Oper} {n : Nat} {ef : List Nat} {fa : List FreeA} {s : Slots} {fs : List Fact} {os : List Own} {pd p : List Nat} {R : Slots → List Fact → List Own → Prop}
variable {i d : Nat} {op : Op} {ty : TypeId} {pos : String} {af : Array Edge} {gd : Option (Nat × Bool)} {v : Value}
theorem w_nil (h : R s fs os) : Nw P c N ops n ef fa [] s fs os pd R := h
theorem w_skip (ho : ops[i]? = some ⟨some d, op, ty, pos, af, gd⟩) (hN : d < N) (he : ef.contains i = false) (hf : (fa.map (·.i)).contains i = false) (hw : wtd ops s ⟨some d, op, ty, pos, af, gd⟩ = some false)
  (k : Nw P c N ops n ef fa p ((d, undef) :: s) fs os pd R) : Nw P c N ops n ef fa (i :: p) s fs os pd R := ⟨_, ho, .inl ⟨d, rfl, hN, he, hf, hw, k⟩⟩
theorem w_pu (ho : ops[i]? = some ⟨some d, op, ty, pos, af, gd⟩) (hN : d < N) (he : ef.contains i = false) (hf : (fa.map (·.i)).contains i = false) (hw : wtd ops s ⟨some d, op, ty, pos, af, gd⟩ = some true) (hp : Pu P N s ⟨some d, op, ty, pos, af, gd⟩ v)
  (k : Nw P c N ops n ef fa p ((d, v) :: s) fs os pd R) : Nw P c N ops n ef fa (i :: p) s fs os pd R := ⟨_, ho, .inr (.inl ⟨d, v, rfl, hN, he, hf, hw, hp, k⟩)⟩
theorem w_q (ho : ops[i]? = some ⟨some d, op, ty, pos, af, gd⟩) (hN : d < N) (he : ef.contains i = false) (hf : (fa.map (·.i)).contains i = false) (hw : wtd ops s ⟨some d, op, ty, pos, af, gd⟩ = some true) (hp : QF P c fs os N s ⟨some d, op, ty, pos, af, gd⟩ v)
  (k : Nw P c N ops n ef fa p ((d, v) :: s) fs os (i :: pd) R) : Nw P c N ops n ef fa (i :: p) s fs os pd R := ⟨_, ho, .inr (.inr (.inl ⟨d, v, rfl, hN, he, hf, hw, hp, k⟩))⟩
theorem Rdy.nil {p : List Nat} : Rdy ops n ef [] p s := fun _ h => by cases h
theorem Rdy.cons {z : FreeA} {p : List Nat} (h : p.contains z.i = false ∨ (p.any fun e => ef.contains e && anc ops n z.i e) = true ∨ SubS s z.vals) (k : Rdy ops n ef fa p s) : Rdy ops n ef (z :: fa) p s := fun y hy hyp => by
 rcases List.mem_cons.1 hy with rfl | hy
 ·rcases h with h | h | h
  ·rw [List.contains_eq_mem] at h; simp [hyp] at h
  ·exact .inl h
  ·exact .inr h
 ·exact k y hy hyp
def PdOk (P : Program) (c : Ctx) (N : Nat) (ops : Array Oper) (n i : Nat) (s : Slots) (fs : List Fact) (os : List Own) (pd : List Nat) : Prop :=
 ∀ j ∈ pd, anc ops n i j = true ∨ ∃ oj dj vj, ops[j]? = some oj ∧ oj.dst = some dj ∧ lk s dj = some vj ∧ QF P c fs os N s oj vj
theorem PdOk.nil : PdOk P c N ops n i s fs os [] := fun _ h => by cases h
theorem PdOk.anc {j : Nat} (h : Sx.anc ops n i j = true) (k : PdOk P c N ops n i s fs os pd) : PdOk P c N ops n i s fs os (j :: pd) := fun x hx => by
 rcases List.mem_cons.1 hx with rfl | hx
 ·exact .inl h
 ·exact k x hx
theorem PdOk.q {j dj : Nat} {vj : Value} {op : Op} {ty : TypeId} {pos : String} {af : Array Edge} {gd : Option (Nat × Bool)} (ho : ops[j]? = some ⟨some dj, op, ty, pos, af, gd⟩) (hl : lk s dj = some vj) (hq : QF P c fs os N s ⟨some dj, op, ty, pos, af, gd⟩ vj) (k : PdOk P c N ops n i s fs os pd) : PdOk P c N ops n i s fs os (j :: pd) := fun x hx => by
 rcases List.mem_cons.1 hx with rfl | hx
 ·exact .inr ⟨_, dj, vj, ho, rfl, hl, hq⟩
 ·exact k x hx
theorem w_ed {next : Value → List Fact → List Own → Prop} (ho : ops[i]? = some ⟨some d, op, ty, pos, af, gd⟩) (hN : d < N) (he : ef.contains i = true) (hr : Rdy ops n ef fa (i :: p) s) (hw : wtd ops s ⟨some d, op, ty, pos, af, gd⟩ = some true)
  (hE : EF P c fs os N s ⟨some d, op, ty, pos, af, gd⟩ next) (k : ∀ v fs' os', next v fs' os' → PdOk P c N ops n i s fs' os' pd ∧ Nw P c N ops n ef fa p ((d, v) :: s) fs' os' pd R) : Nw P c N ops n ef fa (i :: p) s fs os pd R :=
 ⟨_, ho, .inr (.inr (.inr (.inl ⟨he, hr, fun t ht => by cases ht; exact hN, hw, next, hE, k⟩)))⟩
theorem w_en {next : Value → List Fact → List Own → Prop} (ho : ops[i]? = some ⟨none, op, ty, pos, af, gd⟩) (he : ef.contains i = true) (hr : Rdy ops n ef fa (i :: p) s) (hw : wtd ops s ⟨none, op, ty, pos, af, gd⟩ = some true)
  (hE : EF P c fs os N s ⟨none, op, ty, pos, af, gd⟩ next) (k : ∀ v fs' os', next v fs' os' → PdOk P c N ops n i s fs' os' pd ∧ Nw P c N ops n ef fa p s fs' os' pd R) : Nw P c N ops n ef fa (i :: p) s fs os pd R :=
 ⟨_, ho, .inr (.inr (.inr (.inl ⟨he, hr, (fun t ht => by cases ht), hw, next, hE, k⟩)))⟩
theorem w_fr {z : FreeA} (hz : z ∈ fa) (hi : z.i = i) (ho : ops[i]? = some ⟨some d, op, ty, pos, af, gd⟩) (hN : d < N) (hr : Rdy ops n ef fa p s) (hs : SubS s z.vals)
  (k : ∀ g, Nw P c N ops n ef fa p ((d, z.f g) :: s) fs (z.nw g :: os) pd R) : Nw P c N ops n ef fa (i :: p) s fs os pd R :=
 ⟨_, ho, .inr (.inr (.inr (.inr ⟨z, hz, hi, hr, hs, d, rfl, hN, k⟩)))⟩
theorem tNw {Q : Exit → Act → World → Prop} {id : Nat} {l : List Oper} (n : Nat) (p ef : List Nat) (fa : List FreeA) (hm : P.follows .mixedOrders = true) (hc : chkW l.toArray n p ef (fa.map (·.i)) = true) (hn : p.Nodup) (hfa : (fa.map (·.i)).Nodup) (hok : ∀ z ∈ fa, z.Ok P N l.toArray)
  (h : Nw P c N l.toArray n ef fa p (dropS (dsts l.toArray) s) fs os [] (fun s' fs' os' => At c N s' fs' os' (Q .normal))) : Tr P c N Q (.region id l.toArray true) s fs os :=
 Tr.drawW n p ef fa _ hm hc hn hfa hok (fun _ _ _ h => h) h
end
end Go.Sx

