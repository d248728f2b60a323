/- A logic for the walks of this seat, part 2: what is said of memory, and how each operation keeps it. My own work. -/
import Derived.Test.YtchccgdjelhenaaDoorSxA
import Derived.ProofKit
import GoSem.Claim
import Derived.Laws.IdiomStrings
import Derived.Laws.BitsLemmas
import Derived.WideShapes
import Derived.Laws.StructEq
import Derived.Lib.AppendZerosOnto
import Derived.Lib.Overlaps
import Derived.Laws.CopyRow
import Derived.Laws.Externs
import Derived.Sort.AssemblyPlain
import Derived.Shelf.SlSortCmp.WholeK
import Derived.Shelf.SlSortCmp.NoneTotal
import Derived.Shelf.Strings.OnBuilder
import Derived.Lib.Bytealg
namespace Go.Sx
open Go Go.RowKit
def dp {α : Type} [Dp α] (a : α) (x : Dp.δ α) : Fact := ⟨fun w I => Dp.drd w I a x, fun h hs hm => Dp.keepd h hs hm⟩
section
variable {P : Program} {c : Ctx} {N : Nat} {s : Slots} {fs : List Fact} {os : List Own} {Q : Exit → Act → World → Prop} {code : Code}
theorem Ent.dimm {α : Type} [Dp α] [Inhabited α] {l : List α} {x : Option Addr × Nat × (Nat → Dp.δ α)} (h : Ent fs (dp l x)) : Ent fs (imm (.slice x.1 l.length x.2.1) l) := fun w I hf => by
 obtain ⟨v, e, hr⟩ := Dp.cl (h w I hf)
 have : Value.slice x.1 l.length x.2.1 = v := by
  have e' : [Value.slice x.1 l.length x.2.1] = [v] := e
  simpa using e'
 show RdL w I _ l
 rw [this]; exact hr
theorem imm.okL {α : Type} [Dp α] [Inhabited α] {w : World} {I : Blks} {v : Value} {l : List α} (h : (imm v l).ok w I) : Dp.ok l := by
 have h : RdL w I v l := h
 obtain ⟨oa, cap, rfl, _⟩ := id h
 have hr : Enc.Rd (α := List α) w I [.slice oa l.length cap] l := ⟨_, rfl, h⟩
 obtain ⟨x, _, hx⟩ := Dp.op hr
 exact Dp.okd hx
theorem Tr.len {α : Type} [Dp α] [Inhabited α] {v : Value} {l : List α} (h : Ent fs (imm v l)) (k : Dp.ok l → Tr P c N Q code s fs os) : Tr P c N Q code s fs os := by
 intro a w hs hw
 obtain ⟨I, S, hst⟩ := id hw
 exact k (imm.okL (h w I hst.facts)) a w hs hw
variable {d : Option Tmp} {ty : TypeId} {pos : String} {af : Array Edge} {gd : Option (Nat × Bool)}
theorem q_ixg {x y : Operand} {t e : TypeId} {ag : Bool} {n cp : Nat} {z : Value} {by_ : Nat} {oa : Option Addr} {E : Nat → List Value} {i : Int} {α : Type} [Enc α] [Inhabited α] {l : List α} (hu : P.underlying t = some (.slice e)) (ht : TyI P e ag (Enc.sz α) z by_)
  (hx : ev s x = some (.slice oa n cp)) (hy : ev s y = some (.int .i64 i)) (h : ix i l.length) (hn : n = l.length) (ha : EntB fs os (arr oa E l)) :
  Qo P c fs os N s ⟨d, .indexAddr t x y, ty, pos, af, gd⟩ (elp oa (i.toNat * Enc.sz α + 0)) := q_ixe i.toNat hu ht hx hy h.eq h.lt hn ha
theorem q_ixO' {x y : Operand} {t e : TypeId} {ag : Bool} {n cp : Nat} {z : Value} {by_ : Nat} {oa : Option Addr} {i : Int} {α : Type} [Enc α] {l : List α} (hu : P.underlying t = some (.slice e)) (ht : TyI P e ag (Enc.sz α) z by_)
  (hx : ev s x = some (.slice oa n cp)) (hy : ev s y = some (.int .i64 i)) (h : ix i l.length) (ha : Has os (tree (.slice oa n cp) l)) :
  Qo P c fs os N s ⟨d, .indexAddr t x y, ty, pos, af, gd⟩ (elp oa (i.toNat * Enc.sz α + 0)) := by
 refine q_ixO i.toNat hu ht hx hy h.eq h.lt ha
end
section
variable {P : Program} {c : Ctx} {N : Nat} {s : Slots} {fs : List Fact} {os : List Own} {Q : Exit → Act → World → Prop}
theorem SubS.trans {s s' s'' : Slots} (h : SubS s s') (k : SubS s' s'') : SubS s s'' := by
 induction s'' with
 | nil => trivial
 | cons p r ih => exact ⟨h.lk _ _ k.1, ih k.2⟩
theorem At.sub {s s' : Slots} {F : Act → World → Prop} (h : SubS s s') (k : At c N s' fs os F) : At c N s fs os F := fun a w hs hw => k a w (hs.weak h.lk) hw
theorem tMidN {x : Code} {ι : Type} (s' : ι → Slots) (fs' : ι → List Fact) (os' : ι → List Own)
  (h : Tr P c N (Exit.then (fun a w => ∃ i, Sl N (s' i) a ∧ Sta c (fs' i) (os' i) w) Q) x s fs os)
  (k : ∀ i, At c N (s' i) (fs' i) (os' i) (Q .normal)) : Tr P c N Q x s fs os :=
 fun a w hs hw => wp_mono (h a w hs hw) fun e a w hq => by
  cases e <;> first
   | exact hq
   | (obtain ⟨i, hs, hw⟩ := hq; exact k i a w hs hw)
theorem tLinS {id : Nat} {l : List Oper} {b : Bool} (s' : Slots) (hm : P.follows .mixedOrders = true) (hc : b = false ∨ chkN l.toArray 2 (List.range l.length) [] = true) (hs : SubS s s') (hd : dropS (dsts l.toArray) s' = s')
  (h : Lin P c fs os N l.toArray l s' (fun s' => At c N s' fs os (Q .normal))) : Tr P c N Q (.region id l.toArray b) s fs os :=
 Tr.trim s' hs (tLin 2 hm hc (by rw [hd]; exact h))
end
end Go.Sx

namespace Go.Sx
open Go Go.RowKit
theorem Ents.refl {fs : List Fact} : Ents fs fs := fun _ h => Ent.mem h
theorem Ents.s {fs fs' : List Fact} {g : Fact} (h : Ents fs fs') : Ents (g :: fs) fs' := fun f hf => (h f hf).s
section
variable {P : Program} {c : Ctx} {N : Nat} {s : Slots} {fs fs0 : List Fact} {os : List Own} {Q : Exit → Act → World → Prop}
theorem tLoopC {body : Code} {ι : Type} (s' : ι → Slots) (os' : ι → List Own) (μ : ι → Nat) (i0 : ι) {osR : List Own}
  (hs : SubS s (s' i0)) (ho : Take os (os' i0) osR)
  (round : ∀ i, Tr P c N (Exit.then (fun a w => ∃ j, μ j < μ i ∧ Sl N (s' j) a ∧ Sta c fs (os' j) w) Q) body (s' i) fs (os' i)) :
  Tr P c N Q (.loop body) s fs os := tLoop s' (fun _ => fs) os' μ i0 hs Ents.refl ho round
theorem tMidC {x y : Code} {ι : Type} (s' : ι → Slots) (os' : ι → List Own)
  (h : Tr P c N (Exit.then (fun a w => ∃ i, Sl N (s' i) a ∧ Sta c fs (os' i) w) Q) x s fs os)
  (k : ∀ i, Tr P c N Q y (s' i) fs (os' i)) : Tr P c N Q (.seq x y) s fs os := tMid s' (fun _ => fs) os' h k
theorem tMidNC {x : Code} {ι : Type} (s' : ι → Slots) (os' : ι → List Own)
  (h : Tr P c N (Exit.then (fun a w => ∃ i, Sl N (s' i) a ∧ Sta c fs (os' i) w) Q) x s fs os)
  (k : ∀ i, At c N (s' i) fs (os' i) (Q .normal)) : Tr P c N Q x s fs os := tMidN s' (fun _ => fs) os' h k
theorem nMC {ι : Type} {s' : ι → Slots} {os' : ι → List Own} (j : ι) {osR : List Own} (hs : SubS s (s' j)) (hf : Ents fs fs0) (ho : Take os (os' j) osR) :
  At c N s fs os (Exit.then (fun a w => ∃ i, Sl N (s' i) a ∧ Sta c fs0 (os' i) w) Q .normal) :=
 fun _ _ h1 h2 => ⟨j, h1.weak hs.lk, h2.weak hf ho⟩
end
section
variable {P : Program} {c : Ctx} {N : Nat} {s : Slots} {fs : List Fact} {os os1 es : List Own}
variable {d : Option Tmp} {ty : TypeId} {pos : String} {af : Array Edge} {gd : Option (Nat × Bool)}
theorem e_makeR {t e : TypeId} {ag : Bool} {z : Value} {by_ : Nat} (α : Type) [Zr α] {x y : Operand} {m : Int} (hu : P.underlying t = some (.slice e)) (ht : TyI P e ag (Enc.sz α) z by_) (hz : z.cells.toList = Zr.zc α)
  (hx : ev s x = some (.int .i64 m)) (hy : ev s y = some (.int .i64 m)) (h : many m) (hb : by_ ≤ 131072) :
  Eo P c fs os N s ⟨d, .makeSlice t x y, ty, pos, af, gd⟩ (fun v fs' os' => ∃ oa cp, v = .slice oa (List.replicate m.toNat (Zr.z0 : α)).length cp ∧ fs' = fs ∧ os' = tree (.slice oa (List.replicate m.toNat (Zr.z0 : α)).length cp) (List.replicate m.toNat (Zr.z0 : α)) :: os) := by
 have := e_make (P := P) (c := c) (N := N) (s := s) (fs := fs) (os := os) (d := d) (ty := ty) (pos := pos) (af := af) (gd := gd) α m.toNat hu ht hz hx hy h.eq (h.room.c hb) h.room.m
 rw [List.length_replicate]
 exact this
theorem run_eqb {t : TypeId} (hu : P.underlying t = some .bool) (m n : Bool) (w : World) : (Op.equal t (.bool m) (.bool n)).run P w = .ok (decide (m = n)) w := by
 have h : ∀ dd, (Op.equalIn (dd + 1) t (.bool m) (.bool n)).run P w = .ok (decide (m = n)) w := fun dd => by
  simp only [Op.equalIn, Sem.run_bind, run_underlying hu, Result.andThen_ok]
  cases m <;> cases n <;> rfl
 exact h 9999
theorem p_beql {t t' : TypeId} {x y : Operand} {m n : Bool} (hu : P.underlying t = some .bool) (hx : ev s x = some (.bool m)) (hy : ev s y = some (.bool n)) : Pu P N s ⟨d, .binOp .eql t x y t', ty, pos, af, gd⟩ (.bool (decide (m = n))) :=
 p_bin hx hy fun w => by
  show (do eqGuard .eql t x y (.bool m) (.bool n); let r ← Op.equal t (.bool m) (.bool n); pure (.bool r) : Sem Value).run P w = _
  simp [eqGuard, run_eqb hu m n]
theorem p_fabE {x : Operand} {t : TypeId} {f k g j m : Nat} (hf : FA P t f k) (hx : ev s x = some (.pointer (some ⟨g, j, none⟩))) (e : j + k = m) :
  Pu P N s ⟨d, .fieldAddr t x f, ty, pos, af, gd⟩ (.pointer (some ⟨g, m, none⟩)) := e ▸ p_fab hf hx
theorem q_faeE {x : Operand} {t : TypeId} {f k j m : Nat} {oa : Option Addr} {E : Nat → List Value} {α : Type} [Enc α] [Inhabited α] {l : List α} (i : Nat) (hf : FA P t f k) (hx : ev s x = some (elp oa (i * Enc.sz α + j))) (ha : EntB fs os (arr oa E l)) (hi : i < l.length) (e : j + k = m) :
  Qo P c fs os N s ⟨d, .fieldAddr t x f, ty, pos, af, gd⟩ (elp oa (i * Enc.sz α + m)) := by
 have := q_fae (P := P) (c := c) (N := N) (s := s) (d := d) (ty := ty) (pos := pos) (af := af) (gd := gd) hf hx ha hi
 rw [Nat.add_assoc, e] at this
 exact this
end
section
variable {P : Program} {c : Ctx} {N : Nat} {s : Slots} {fs : List Fact} {os : List Own} {Q : Exit → Act → World → Prop} {code : Code}
theorem TrL.len {α : Type} [Enc α] {w : World} {S : Blks} {oa : Option Addr} {n cp : Nat} {l : List α} (h : TrL w S (.slice oa n cp) l) : n = l.length := by
 obtain ⟨_, _, e, _⟩ := h.rd
 injection e
theorem Sta.olen {α : Type} [Enc α] {w : World} {oa : Option Addr} {n cp : Nat} {l : List α} (h : Has os (tree (.slice oa n cp) l)) (hw : Sta c fs os w) : n = l.length := by
 obtain ⟨I, S, hst⟩ := hw
 obtain ⟨S1, _, ho⟩ := Sep.has h hst.own
 exact TrL.len (w := w) (S := S1) ho
theorem Tr.olen {α : Type} [Enc α] {oa : Option Addr} {n cp : Nat} {l : List α} (h : Has os (tree (.slice oa n cp) l)) (k : n = l.length → Tr P c N Q code s fs os) : Tr P c N Q code s fs os :=
 fun a w hs hw => k (hw.olen h) a w hs hw
theorem At.olen {F : Act → World → Prop} {α : Type} [Enc α] {oa : Option Addr} {n cp : Nat} {l : List α} (h : Has os (tree (.slice oa n cp) l)) (k : n = l.length → At c N s fs os F) : At c N s fs os F :=
 fun a w hs hw => k (hw.olen h) a w hs hw
end
end Go.Sx

namespace Go.Sx
open Go Go.RowKit
section
variable {P : Program} {c : Ctx} {N : Nat} {s : Slots} {fs : List Fact} {os : List Own}
variable {d : Option Tmp} {ty : TypeId} {pos : String} {af : Array Edge} {gd : Option (Nat × Bool)}
end
end Go.Sx

namespace Go.Sx
open Go Go.RowKit Go.ChangeShapes Go.WideShapes
class So (α : Type) where
  so : α → Prop
instance : So Int := ⟨fun _ => True⟩
instance : So Bool := ⟨fun _ => True⟩
instance : So UInt8 := ⟨fun _ => True⟩
instance : So ByteArray := ⟨fun s => s.size ≤ maxLen⟩
instance {α β : Type} [So α] [So β] : So (α × β) := ⟨fun d => So.so d.1 ∧ So.so d.2⟩
instance {α : Type} [So α] [Inhabited α] : So (List α) := ⟨fun l => ∀ i, i < l.length → So.so (nth l i)⟩
def Bg (P : Program) (t : TypeId) (α : Type) [Enc α] [So α] : Prop :=
 ∀ (H : Type) (enc : TypeId × Value → H) (w : World) (fuel : Nat) (cs : List Value) (x : DataW H × List MemPlace), DataW.trod enc P w 0 (fun _ => true) true fuel t cs = some x → ∃ d : α, Enc.Rd w (fun b => b < w.heap.size) cs d ∧ So.so d
theorem Bg.int {P : Program} {t : TypeId} (ht : P.underlying t = some (.int .i64)) : Bg P t Int := by
 intro H enc w fuel cs x h
 cases fuel with
 | zero => simp [DataW.trod] at h
 | succ n =>
  rw [DataW.trod_step] at h
  unfold DataW.trodStep at h
  rw [ht] at h
  dsimp only at h
  split at h <;> simp_all
  rename_i n' hk
  subst hk
  exact ⟨_, rfl, trivial⟩
theorem Bg.u8 {P : Program} {t : TypeId} (ht : P.underlying t = some (.int .u8)) : Bg P t UInt8 := by
 intro H enc w fuel cs x h
 cases fuel with
 | zero => simp [DataW.trod] at h
 | succ n =>
  rw [DataW.trod_step] at h
  unfold DataW.trodStep at h
  rw [ht] at h
  dsimp only at h
  split at h <;> simp_all
  rename_i n' hk
  obtain ⟨⟨rfl, hw⟩, _⟩ := h
  subst hk
  have hw' : 0 ≤ n' ∧ n' ≤ 255 := by simpa [Lit.wf, IntKind.min, IntKind.max, IntKind.signed, IntKind.bits] using hw
  refine ⟨UInt8.ofNat n'.toNat, ?_, trivial⟩
  show _ = [Value.int .u8 ((UInt8.ofNat n'.toNat).toNat : Int)]
  simp
  omega
theorem Bg.bool {P : Program} {t : TypeId} (ht : P.underlying t = some .bool) : Bg P t Bool := by
 intro H enc w fuel cs x h
 cases fuel with
 | zero => simp [DataW.trod] at h
 | succ n =>
  rw [DataW.trod_step] at h
  unfold DataW.trodStep at h
  rw [ht] at h
  dsimp only at h
  split at h <;> simp_all
  rename_i b
  have : ∃ d : Bool, Enc.Rd w (fun b => b < w.heap.size) [Value.bool b] d ∧ So.so d := ⟨b, rfl, trivial⟩
  simpa using this
theorem Bg.slice {P : Program} {t e : TypeId} {α : Type} [Enc α] [So α] [Inhabited α] (ht : P.underlying t = some (.slice e)) (hc : P.cellsOf e = Enc.sz α) (hb : Bg P e α) : Bg P t (List α) := by
 intro H enc w fuel cs x h
 cases fuel with
 | zero => simp [DataW.trod] at h
 | succ n =>
  rw [DataW.trod_step] at h
  unfold DataW.trodStep at h
  rw [ht] at h
  dsimp only at h
  have hlist : ∀ (a : Addr) (len cap : Nat), cs = [.slice (some a) len cap] → len ≤ cap → cap ≤ maxLen →
    (∀ i, i < len → ∃ d : α, ∃ es, w.cells? 0 (a.add (i * P.cellsOf e)) (P.cellsOf e) = some es ∧ Enc.Rd w (fun b => b < w.heap.size) es d ∧ So.so d) → ∃ d : List α, Enc.Rd w (fun b => b < w.heap.size) cs d ∧ So.so d := by
   rintro a len cap rfl h1 h2 h3
   have : ∀ i, ∃ d : α, i < len → ∃ es, w.cells? 0 (a.add (i * P.cellsOf e)) (P.cellsOf e) = some es ∧ Enc.Rd w (fun b => b < w.heap.size) es d ∧ So.so d := fun i => by
    by_cases hi : i < len
    ·obtain ⟨d, es, k⟩ := h3 i hi
     exact ⟨d, fun _ => ⟨es, k⟩⟩
    ·exact ⟨default, fun h => absurd h hi⟩
   obtain ⟨D, hD⟩ := Classical.axiomOfChoice this
   refine ⟨(List.range len).map D, ⟨_, rfl, some a, cap, by simp, by simpa using h1, h2, fun i hi => ?_⟩, fun i hi => by
    have hi' : i < len := by simpa using hi
    obtain ⟨es, _, _, k3⟩ := hD i hi'
    rw [nth_eq _ _ hi]
    simpa using k3⟩
   have hi' : i < len := by simpa using hi
   obtain ⟨es, k1, k2, _⟩ := hD i hi'
   obtain ⟨_, hl, hg⟩ := World.cells?_some k1
   refine ⟨a, es, rfl, ?_, fun j u hu => ?_, by simpa using k2⟩
   ·have h0 := hg 0 (by rw [hc]; exact Enc.pos)
    have hne : es ≠ [] := fun e' => by rw [e', hc] at hl; have := Enc.pos (α := α); simp at hl; omega
    cases es with
    | nil => exact absurd rfl hne
    | cons u es =>
     simp at h0
     have := block_lt_of_cell h0
     rw [block_add, block_add] at this
     exact this
   ·have hj : j < P.cellsOf e := by
     have := (List.getElem?_eq_some_iff.1 hu).1
     omega
    have := hg j hj
    rw [hu] at this
    rw [hc] at this
    exact this
  split at h
  case h_7 => exact ⟨[], ⟨_, rfl, none, 0, rfl, Nat.le_refl _, by simp [maxLen], fun i hi => absurd hi (Nat.not_lt_zero _)⟩, fun i hi => absurd hi (Nat.not_lt_zero _)⟩
  case h_8 =>
   rename_i e' a len cap he
   have he : e = e' := by simpa using he
   subst he
   split at h
   ·rename_i hif
    rw [Option.bind_eq_some_iff] at h
    obtain ⟨elems, h3, _⟩ := h
    have hlen := mapM_some_length h3
    simp at hlen
    refine hlist _ _ _ rfl hif.2.1 hif.2.2 fun i hi => ?_
    have hget := mapM_some_get h3 i i (by simp [hi])
    have hi' : i < elems.length := by omega
    rw [List.getElem?_eq_getElem hi', Option.bind_eq_some_iff] at hget
    obtain ⟨es, k1, k2⟩ := hget
    obtain ⟨d, hd⟩ := hb H enc w n es _ k2
    exact ⟨d, es, k1, hd⟩
   ·cases h
  all_goals first | (cases h; done) | (rename_i he; simp at he; done) | (simp_all; done)
def BgF (P : Program) : List Field → Nat → (α : Type) → [Enc α] → [So α] → Prop := fun fs k α _ _ =>
 ∀ (H : Type) (enc : TypeId × Value → H) (w : World) (fuel : Nat) (cs : List Value) (xs : List (DataW H × List MemPlace)), cs.length = k + Enc.sz α →
  (fs.mapM fun f => DataW.trod enc P w 0 (fun _ => true) true fuel f.type ((cs.drop f.offset).take (P.cellsOf f.type))) = some xs → ∃ d : α, Enc.Rd w (fun b => b < w.heap.size) (cs.drop k) d ∧ So.so d
theorem BgF.one {P : Program} {f : Field} {k : Nat} {α : Type} [Enc α] [So α] (ho : f.offset = k) (hc : P.cellsOf f.type = Enc.sz α) (h : Bg P f.type α) : BgF P [f] k α := by
 intro H enc w fuel cs xs hl hm
 simp only [List.mapM_cons, List.mapM_nil] at hm
 cases hx : DataW.trod enc P w 0 (fun _ => true) true fuel f.type ((cs.drop f.offset).take (P.cellsOf f.type)) with
 | none => rw [hx] at hm; cases hm
 | some x =>
  obtain ⟨d, hd, hs⟩ := h H enc w fuel _ _ hx
  refine ⟨d, ?_, hs⟩
  rw [ho, hc, List.take_of_length_le (by rw [List.length_drop]; omega)] at hd
  exact hd
theorem BgF.cons {P : Program} {f : Field} {fs : List Field} {k : Nat} {α β : Type} [Enc α] [Enc β] [So α] [So β] (ho : f.offset = k) (hc : P.cellsOf f.type = Enc.sz α) (h : Bg P f.type α) (hr : BgF P fs (k + Enc.sz α) β) : BgF P (f :: fs) k (α × β) := by
 intro H enc w fuel cs xs hl hm
 have hl : cs.length = k + (Enc.sz α + Enc.sz β) := hl
 rw [List.mapM_cons] at hm
 cases hx : DataW.trod enc P w 0 (fun _ => true) true fuel f.type ((cs.drop f.offset).take (P.cellsOf f.type)) with
 | none => rw [hx] at hm; cases hm
 | some x =>
  rw [hx] at hm
  cases hy : (fs.mapM fun f => DataW.trod enc P w 0 (fun _ => true) true fuel f.type ((cs.drop f.offset).take (P.cellsOf f.type))) with
  | none => rw [hy] at hm; cases hm
  | some ys =>
   obtain ⟨d, hd, hs1⟩ := h H enc w fuel _ _ hx
   obtain ⟨u, hu, hs2⟩ := hr H enc w fuel cs ys (by omega) hy
   refine ⟨(d, u), ⟨(cs.drop k).take (Enc.sz α), cs.drop (k + Enc.sz α), ?_, ?_, hu⟩, hs1, hs2⟩
   ·rw [← List.drop_drop, List.take_append_drop]
   ·rw [ho, hc] at hd
    exact hd
theorem Bg.struct {P : Program} {t : TypeId} {fs : Array Field} {α : Type} [Enc α] [So α] (ht : P.underlying t = some (.struct fs)) (hc : P.cellsOf t = Enc.sz α) (hf : BgF P fs.toList 0 α) : Bg P t α := by
 intro H enc w fuel cs x h
 cases fuel with
 | zero => simp [DataW.trod] at h
 | succ n =>
  rw [DataW.trod_step] at h
  unfold DataW.trodStep at h
  rw [ht] at h
  dsimp only at h
  split at h
  ·rename_i hl
   rw [Option.map_eq_some_iff] at h
   obtain ⟨xs, hm, _⟩ := h
   obtain ⟨d, hd, hs⟩ := hf H enc w n cs xs (by rw [hl, hc]; omega) hm
   exact ⟨d, by simpa using hd, hs⟩
  ·cases h
theorem trodAll_stays {H : Type} {enc : TypeId × Value → H} {P : Program} (hl : laidOutB P = true) {W W' : World} (hb : Below W.heap.size W W') {sp : Nat → Bool} :
  ∀ {ts : List TypeId} {vs : List Value} {ds : List (DataW H)} {ps : List MemPlace}, (ts.all fun t => P.readableRec t && decide (t < P.types.size)) = true → DataW.TrodAll enc P W 0 (fun _ => true) true ts vs ds ps →
   (∀ x ∈ ps, x.block < W.heap.size) → (∀ x ∈ ps, sp x.block = true) → DataW.TrodAll enc P W' 0 sp true ts vs ds ps
 | [], _, _, _, _, h, _, _ => by
  obtain ⟨rfl, rfl, rfl⟩ := trodAll_nil h
  exact h
 | t :: ts, _, _, _, hr, h, hlt, hsp => by
  obtain ⟨v, vs, d, ds, p, q, rfl, rfl, rfl, h1, h2⟩ := trodAll_cons h
  simp only [List.all_cons, Bool.and_eq_true, decide_eq_true_eq] at hr
  have k1 := WideElems.Trod_stays hl hr.1.1 hr.1.2 h1 (fun x hx => hb.same (hlt x (List.mem_append_left _ hx))) (fun x hx => hsp x (List.mem_append_left _ hx))
  have k2 := trodAll_stays hl hb hr.2 h2 (fun x hx => hlt x (List.mem_append_right _ hx)) (fun x hx => hsp x (List.mem_append_right _ hx))
  exact ⟨p, q, k1, k2, rfl⟩
theorem FnL'.law {L : Prop} {P : Program} {f : FuncId} {args : Array Value} {fs : List Fact} (h : FnL' L P f args fs [] (ι := Unit) (fun _ => .bool true) (fun _ => []) (fun _ => [])) {W : World}
  (hf : ∀ g ∈ fs, g.ok W (fun b => b < W.heap.size)) : Calls P f args W fun e W' => e = .returned (.bool true) ∧ Below W.heap.size W W' := by
 refine (h.go W (fun b => b < W.heap.size) (fun _ => False) ⟨hf, trivial, fun _ _ h => h, fun _ h => h, fun _ h => h.elim, fun _ => .inl, fun _ h => h.elim, fun _ h => h, Frm.refl _ _⟩).mono ?_
 rintro e W' ⟨_, rfl, I, S, hst⟩
 exact ⟨rfl, hst.frm.below⟩
end Go.Sx

namespace Go.Sx
section
variable {σ ε : Type} {body : σ → Option (σ ⊕ ε)}
theorem lp_seq (S : Nat → σ) (n : Nat) (h : ∀ k, k < n → body (S k) = some (.inl (S (k + 1)))) : lp body (S 0) = lp body (S n) := by
 induction n with
 | zero => rfl
 | succ n ih => rw [ih fun k hk => h k (by omega), lp.step (h n (by omega))]
theorem lp_for (S : Nat → σ) (n : Nat) (e : ε) (h : ∀ k, k < n → body (S k) = some (.inl (S (k + 1)))) (hn : body (S n) = some (.inr e)) : lp body (S 0) = some e := by
 rw [lp_seq S n h, lp.stop hn]
theorem first_bad {n : Nat} {bad : Nat → Bool} (h : allN n bad = false) : ∃ k, k < n ∧ bad k = true ∧ ∀ i, i < k → bad i = false := by
 induction n with
 | zero => simp [allN] at h
 | succ n ih =>
  by_cases hn : allN n bad = true
  ·refine ⟨n, by omega, ?_, fun i hi => allN_iff.1 hn i hi⟩
   cases hb : bad n with
   | true => rfl
   | false =>
    have : allN (n + 1) bad = true := allN_iff.2 fun i hi => by
     rcases Nat.lt_or_eq_of_le (Nat.le_of_lt_succ hi) with h' | rfl
     ·exact allN_iff.1 hn i h'
     ·exact hb
    rw [this] at h; cases h
  ·obtain ⟨k, hk, h1, h2⟩ := ih (by simpa using hn)
   exact ⟨k, by omega, h1, h2⟩
theorem lp_scan (S : Nat → σ) (n : Nat) (bad : Nat → Bool) (e : ε) (f : Nat → ε) (h : ∀ k, k < n → (∀ i, i < k → bad i = false) → bad k = false → body (S k) = some (.inl (S (k + 1)))) (hb : ∀ k, k < n → (∀ i, i < k → bad i = false) → bad k = true → body (S k) = some (.inr (f k))) (hn : allN n bad = true → body (S n) = some (.inr e)) :
  (allN n bad = true ∧ lp body (S 0) = some e) ∨ (allN n bad = false ∧ ∃ k, k < n ∧ bad k = true ∧ (∀ i, i < k → bad i = false) ∧ lp body (S 0) = some (f k)) := by
 cases ha : allN n bad with
 | true =>
  have := allN_iff.1 ha
  exact .inl ⟨rfl, lp_for S n e (fun k hk => h k hk (fun i hi => this i (by omega)) (this k hk)) (hn ha)⟩
 | false =>
  obtain ⟨k, hk, h1, h2⟩ := first_bad ha
  refine .inr ⟨rfl, k, hk, h1, h2, ?_⟩
  rw [lp_seq S k fun j hj => h j (by omega) (fun i hi => h2 i (by omega)) (h2 j hj), lp.stop (hb k hk h2 h1)]
end
theorem ixN {k n : Nat} (h : k < n) : ix (k : Int) n := by unfold ix; omega
theorem i64S {k n : Nat} (h : k < n) (hn : n ≤ 9223372036854775807) : I64 ((k : Int) + 1) := by unfold I64; omega
theorem dlt {k n : Nat} (h : k < n) : decide ((k : Int) < (n : Int)) = true := by simp; omega
@[simp] theorem gd_true {β : Type} {k : Option β} {c : Prop} [Decidable c] (h : c) : gd c k = k := gd.yes h
class Wt (α : Type) where
  w : α → Nat
instance : Wt Int := ⟨fun _ => 0⟩
instance : Wt Bool := ⟨fun _ => 0⟩
instance : Wt UInt8 := ⟨fun _ => 0⟩
instance : Wt ByteArray := ⟨fun s => s.size⟩
instance {α β : Type} [Wt α] [Wt β] : Wt (α × β) := ⟨fun d => Wt.w d.1 + Wt.w d.2⟩
instance {α : Type} [Wt α] [Inhabited α] : Wt (List α) := ⟨fun l => l.length + sumN l.length fun i => Wt.w (nth l i)⟩
theorem eq_loop {α : Type} [Inhabited α] [DecidableEq α] {b0 : Int → Option (Int ⊕ (Unit ⊕ Bool))} {a b : List α} (hl : a.length = b.length)
  (hb : ∀ k, k < a.length → b0 (k : Int) = if nth a k = nth b k then some (.inl ((k + 1 : Nat) : Int)) else some (.inr (.inr false)))
  (he : b0 (a.length : Int) = some (.inr (.inl ()))) : bd (lp b0 0) (sw (fun _ => some true) (fun q => some q)) = some (decide (a = b)) := by
 rcases lp_scan (body := b0) (fun k => (k : Int)) a.length (fun k => !decide (nth a k = nth b k)) (.inl ()) (fun _ => .inr false) (fun k hk _ h => by rw [hb k hk, if_pos (by simpa using h)]) (fun k hk _ h => by rw [hb k hk, if_neg (by simpa using h)]) (fun _ => he) with ⟨h1, h2⟩ | ⟨_, k, hk, h1, _, h2⟩
 ·rw [show lp b0 0 = _ from h2]
  have : a = b := list_ext_nth hl fun i hi => by simpa using allN_iff.1 h1 i hi
  simp [sw, this]
 ·rw [show lp b0 0 = _ from h2]
  have : a ≠ b := fun e => by simp [e] at h1
  simp [sw, this]
end Go.Sx

namespace Go.Sx
open Go Go.RowKit Go.ChangeShapes Go.WideShapes
theorem val_slice {P : Program} {W : World} {b0 : Nat} {t e : TypeId} {v u : Value} (ht : P.underlying t = some (.slice e)) (hv : Value.okWide P W .any b0 t v) (e : v.cells.toList = [u]) : v = u := by
 obtain ⟨a, len, cap, rfl⟩ := okWide_slice ht hv
 simpa [Value.cells] using e
section
variable {H : Type} {enc : TypeId × Value → H} {P : Program}
theorem post_law {f : Func} {s : ChangeSpec} {apart fresh handsOn again : Bool} {W W' : World} {args : Array Value} {ds gs : List (DataW H)} {before : List MemPlace} {tb : TypeId}
  (hl : laidOutB P = true) (hW : DataW.Whole enc P f.params.toList s.vars apart W args.toList ds gs before) (hb : Below W.heap.size W W') (hr : (f.params.toList.all fun t => P.readableRec t && decide (t < P.types.size)) = true)
  (hvs : s.vars = []) (hres : f.resultTypes = #[tb]) (htb : P.underlying tb = some .bool) (hfn : s.fn H (ds ++ gs) = { results := [.lit (.bool true)], args := ds }) :
  s.post enc P f apart fresh handsOn again W args (.bool true) W' := by
 have hlt : ∀ p ∈ before, p.block < W.heap.size := fun p hp => by simpa using hW.lt p hp
 have hold : ∀ p ∈ before, (fun b => decide (b < W.heap.size)) p.block = true := fun p hp => by simpa using hlt p hp
 obtain ⟨p, q, hA, hV, hpq, hz, hn⟩ := id hW
 rw [hvs] at hV
 obtain ⟨rfl, rfl⟩ := trodVars_none hV
 rw [List.append_nil] at hpq
 subst hpq
 have hargs : ∀ sp : Nat → Bool, (∀ x ∈ before, sp x.block = true) → DataW.TrodAll enc P W' 0 sp true f.params.toList args.toList ds before := fun sp hsp => trodAll_stays hl hb hr hA hlt hsp
 have hr1 : ∀ (b : Nat) (sp : Nat → Bool) (hd : Bool), DataW.TrodAll enc P W' b sp hd f.resultTypes.toList ((Value.bool true).resultList f.resultTypes.size) [.lit (.bool true)] [] := fun b sp hd => by
  rw [hres]
  exact trodAll_mk1 (shut_bool htb true)
 refine ⟨ds, [], before, [], before, [], hW, ?_, ?_, ?_, World.keptBut_mono (fun x hx => ?_) (hb.frame (· ∈ before)), fun _ => ?_⟩
 ·rw [hfn]; exact hr1 _ _ _
 ·rw [hfn]; exact hargs _ hold
 ·rw [hfn, hvs]; rfl
 ·exact ⟨hx, Or.inr (Or.inl hx)⟩
 ·refine ⟨?_, _, [], ([] ++ before) ++ [], ⟨[] ++ before, [], trodAll_append (hargs _ (fun _ _ => rfl)) (hr1 _ _ _), (by rw [hvs]; rfl), rfl, ?_, ?_⟩, ?_⟩
  ·intro j t r h1 h2
   rw [hres] at h1 h2
   match j, h1, h2 with
   | 0, h1, h2 =>
    simp [Value.resultList] at h1 h2
    subst h1; subst h2
    simp [Value.okWide, htb, Cell.okWide, Cell.ok]
  ·intro b off hp
   have hp' : MemPlace.cell b off ∈ before := by simpa using hp
   rw [hb.frozen (p := ⟨b, off, none⟩) (hlt _ hp')]
   exact hz b off hp'
  ·intro ha
   have := hn ha
   simpa using this
  ·intro x hx _
   simpa using hx
end
end Go.Sx

namespace Go.Sx
open Go Go.RowKit
def PL (P : Program) (t : TypeId) (places : Array (Nat × Nat)) : Prop := ∃ fields, P.underlying t = some (.struct fields) ∧ ∀ w, (fields.mapM (m := Sem) fun f => do pure (f.offset, ← Go.sizeOf f.type)).run P w = .ok places w
section
variable {P : Program} {c : Ctx} {N : Nat} {s : Slots} {fs : List Fact} {os os1 os' : List Own} {Q : Exit → Act → World → Prop} {code : Code}
variable {d : Option Tmp} {ty : TypeId} {pos : String} {af : Array Edge} {gd : Option (Nat × Bool)}
theorem p_buildS {t : TypeId} {n : Nat} {z : Value} {by_ : Nat} {places : Array (Nat × Nat)} {parts : List (Nat × Operand)} {vs : List (Nat × Value)} {cs : Array Value} (ht : TyI P t true n z by_) (hpl : PL P t places)
  (hp : parts.map (fun p => (p.1, ev s p.2)) = vs.map (fun p => (p.1, some p.2))) (hf : Instr.fill (places[·]?) z.cells vs = some cs) :
  Pu P N s ⟨d, .build t parts.toArray, ty, pos, af, gd⟩ (.agg cs) := p_build hp fun w => by
 obtain ⟨fields, hu, hm⟩ := hpl
 unfold Instr.build
 simp only [Sem.run_bind, ht.zero, Result.andThen_ok, run_underlying hu]
 rw [hm w]
 simp only [Result.andThen_ok]
 rw [hf]
 rfl
theorem p_rem {t t' : TypeId} {x y : Operand} {m n : Int} (hx : ev s x = some (.int .i64 m)) (hy : ev s y = some (.int .i64 n)) (h : n ≠ 0) (h2 : I64 (m.tmod n)) : Pu P N s ⟨d, .binOp .rem t x y t', ty, pos, af, gd⟩ (.int .i64 (m.tmod n)) :=
 p_bin hx hy fun w => by
  have := IntWalk.i64_in _ h2
  simp [eqGuard, binOp, Op.intDiv, h]
theorem p_quo {t t' : TypeId} {x y : Operand} {m n : Int} (hx : ev s x = some (.int .i64 m)) (hy : ev s y = some (.int .i64 n)) (h : n ≠ 0) (h2 : I64 (m.tdiv n)) : Pu P N s ⟨d, .binOp .quo t x y t', ty, pos, af, gd⟩ (.int .i64 (m.tdiv n)) :=
 p_bin hx hy fun w => by
  have := IntWalk.i64_in _ h2
  simp [eqGuard, binOp, Op.intDiv, h, this]
def hole {α : Type} [Enc α] (v : Value) (l : List α) (k : Nat) (cs : List Value) : Own :=
  ⟨fun w _ S => ∃ g cap cur ty, v = .slice (some ⟨g, 0, none⟩) l.length cap ∧ S g ∧ w.heap[g]? = some (.cells cur ty (0, 0)) ∧ l.length ≤ cap ∧ cap ≤ maxLen ∧ cur.size = cap * Enc.sz α ∧ k < l.length ∧
      (cur.toList.drop (k * Enc.sz α)).take (Enc.sz α) = cs ∧
      ∃ Ss : Nat → Blks, (∀ i, i < l.length → i ≠ k → ∀ b, Ss i b → S b ∧ b ≠ g) ∧ (∀ i j, i < j → j < l.length → i ≠ k → j ≠ k → ∀ b, Ss i b → Ss j b → False) ∧
        ∀ i (h : i < l.length), i ≠ k → Enc.Tr w (Ss i) ((cur.toList.drop (i * Enc.sz α)).take (Enc.sz α)) l[i],
   fun {w w' I I' S S'} ⟨g, cap, cur, ty, e, hg, hh, h1, h2, h3, hk, hc, Ss, k1, k2, k3⟩ _ hs _ hm =>
     ⟨g, cap, cur, ty, e, hm _ hg, (hs g hg).trans hh, h1, h2, h3, hk, hc, Ss, fun i hi hne b hb => ⟨hm _ (k1 i hi hne b hb).1, (k1 i hi hne b hb).2⟩, k2, fun i hi hne => Enc.tr_keep (k3 i hi hne) (hs.mono fun b hb => (k1 i hi hne b hb).1) (fun _ h => h)⟩⟩
theorem Sta.zoom {α : Type} [ShpT α] [Inhabited α] {v : Value} {l : List α} {w : World} {k : Nat} (hk : k < l.length) (ht : Take os [tree v l] os1) (h : Sta c fs os w) :
  ∃ x : Shp.γ α, Sta c fs (hole v l k (Shp.enc (nth l k) x) :: (ShpT.own (nth l k) x ++ os1)) w := by
 obtain ⟨I, S, hst⟩ := id h
 obtain ⟨S1, S2, m1, m2, dj, ⟨A, _, mA, _, _, ho, _⟩, hr⟩ := ht.sep hst.own
 have ho : TrL w A v l := ho
 rcases ho with ⟨_, e⟩ | ⟨g, cap, cur, ty, e, hg, hh, h1, h2, h3, Ss, k1, k2, k3⟩
 ·subst e; exact absurd hk (Nat.not_lt_zero _)
 ·have hel := k3 k hk
  rw [← nth_eq l k hk] at hel
  obtain ⟨x, hcs, hown⟩ := ShpT.un hel
  refine ⟨x, I, S, { hst with own := ?_ }⟩
  have hsp : Sep (ShpT.own (nth l k) x ++ os1) w I (fun b => Ss k b ∨ S2 b) := Sep.append (fun b h1 h2 => dj b (mA b (k1 k hk b h1).1) h2) (hown I) hr
  refine ⟨fun b => A b ∧ ¬ Ss k b, fun b => Ss k b ∨ S2 b, fun b hb => m1 b (mA b hb.1), fun b hb => hb.elim (fun h => m1 b (mA b (k1 k hk b h).1)) (m2 b), fun b h1 h2 => h2.elim h1.2 (fun h => dj b (mA b h1.1) h), ?_, hsp⟩
  exact ⟨g, cap, cur, ty, e, ⟨hg, fun h => (k1 k hk g h).2 rfl⟩, hh, h1, h2, h3, hk, hcs, Ss, fun i hi hne b hb => ⟨⟨(k1 i hi b hb).1, fun h => by
    rcases Nat.lt_or_gt_of_ne hne with h' | h'
    ·exact k2 i k h' hk b hb h
    ·exact k2 k i h' hi b h hb⟩, (k1 i hi b hb).2⟩, fun i j hij hj _ _ => k2 i j hij hj, fun i hi _ => k3 i hi⟩
theorem Sta.unzoom {α : Type} [ShpT α] {v : Value} {l : List α} {w : World} {k : Nat} {cs : List Value} (u : α) (x : Shp.γ α) (e : cs = Shp.enc u x) (ht : Take os (hole v l k cs :: ShpT.own u x) os1) (h : Sta c fs os w) :
  Sta c fs (tree v (l.set k u) :: os1) w := by
 refine h.chg (r' := [tree v (l.set k u)]) ht fun I S S1 hst m1 ⟨A, B, mA, mB, dAB, ho, hr⟩ => ?_
 obtain ⟨g, cap, cur, ty, e', hg, hh, h1, h2, h3, hk, hc, Ss, k1, k2, k3⟩ := ho
 have htr : Enc.Tr w B (Shp.enc u x) u := ShpT.mkT (ShpT.wfa u) hr
 have hBg : ∀ b, B b → b ≠ g := fun b hb e => dAB _ hg (e ▸ hb)
 refine ⟨S1, fun b => .inl, ⟨S1, fun _ => False, fun _ h => h, fun _ h => h.elim, fun _ _ h => h, ?_, trivial⟩, fun _ _ _ => rfl, Nat.le_refl _, rfl, ⟨rfl, by first | exact Nat.le_refl _ | exact Nat.le_succ _⟩, rfl⟩
 refine .inr ⟨g, cap, cur, ty, by rw [List.length_set]; exact e', mA _ hg, hh, by rw [List.length_set]; exact h1, h2, h3, fun i b => if i = k then B b else Ss i b, fun i hi b hb => ?_, fun i j hij hj b hb1 hb2 => ?_, fun i hi => ?_⟩
 ·rw [List.length_set] at hi
  split at hb
  ·exact ⟨mB b hb, hBg b hb⟩
  ·rename_i hne
   exact ⟨mA b (k1 i hi hne b hb).1, (k1 i hi hne b hb).2⟩
 ·rw [List.length_set] at hj
  split at hb1 <;> split at hb2
  ·omega
  ·rename_i h1 h2; exact dAB b (k1 j hj h2 b hb2).1 hb1
  ·rename_i h1 h2; exact dAB b (k1 i (by omega) h1 b hb1).1 hb2
  ·rename_i h1 h2; exact k2 i j hij hj h1 h2 b hb1 hb2
 ·rw [List.length_set] at hi
  by_cases hik : i = k
  ·subst hik
   simp only [if_true, List.getElem_set_self]
   rw [hc, e]
   exact htr
  ·simp only [hik, if_false]
   rw [List.getElem_set_ne (Ne.symm hik)]
   exact k3 i hi hik
theorem Tr.zoom {α : Type} [ShpT α] [Inhabited α] {v : Value} {l : List α} {k : Nat} (hk : k < l.length) (ht : Take os [tree v l] os1)
  (kk : ∀ x : Shp.γ α, Tr P c N Q code s fs (hole v l k (Shp.enc (nth l k) x) :: (ShpT.own (nth l k) x ++ os1))) : Tr P c N Q code s fs os := fun a w hs hw => by
 obtain ⟨x, h⟩ := hw.zoom hk ht
 exact kk x a w hs h
theorem At.unzoom {F : Act → World → Prop} {α : Type} [ShpT α] {v : Value} {l : List α} {k : Nat} {cs : List Value} (u : α) (x : Shp.γ α) (e : cs = Shp.enc u x) (ht : Take os (hole v l k cs :: ShpT.own u x) os1)
  (kk : At c N s fs (tree v (l.set k u) :: os1) F) : At c N s fs os F := fun a w hs hw => kk a w hs (hw.unzoom u x e ht)
theorem Tr.unzoom {α : Type} [ShpT α] {v : Value} {l : List α} {k : Nat} {cs : List Value} (u : α) (x : Shp.γ α) (e : cs = Shp.enc u x) (ht : Take os (hole v l k cs :: ShpT.own u x) os1)
  (kk : Tr P c N Q code s fs (tree v (l.set k u) :: os1)) : Tr P c N Q code s fs os := fun a w hs hw => kk a w hs (hw.unzoom u x e ht)
theorem q_ixH {x y : Operand} {t e : TypeId} {ag : Bool} {n cp : Nat} {z : Value} {by_ : Nat} {oa : Option Addr} {i : Int} {α : Type} [Enc α] {l : List α} {k : Nat} {cs : List Value} (hu : P.underlying t = some (.slice e)) (ht : TyI P e ag (Enc.sz α) z by_)
  (hx : ev s x = some (.slice oa n cp)) (hy : ev s y = some (.int .i64 i)) (h : ix i l.length) (hk : i.toNat = k) (ha : Has os (hole (.slice oa n cp) l k cs)) :
  Qo P c fs os N s ⟨d, .indexAddr t x y, ty, pos, af, gd⟩ (elp oa (k * Enc.sz α + 0)) := qo_of fun a w I S hs hst => by
 obtain ⟨S1, _, g, cap, cur, bt, e, _⟩ := Sep.has ha hst.own
 injection e with e1 e2 e3
 subst e1 e2 hk
 have h1 : (0 : Int) ≤ i ∧ i < ((l.length : Nat) : Int) := h
 have h2 := h.eq
 simp [execOp, hs.ev hx, hs.ev hy, Instr.indexAt, asIntOf, run_underlying hu, ht.sizeOf, elp, h1]
theorem q_faH {x : Operand} {t : TypeId} {f k j m i : Nat} {n cp : Nat} {oa : Option Addr} {α : Type} [Enc α] {l : List α} {cs : List Value} (hf : FA P t f k) (hx : ev s x = some (elp oa (i * Enc.sz α + j))) (ha : Has os (hole (.slice oa n cp) l i cs)) (e : j + k = m) :
  Qo P c fs os N s ⟨d, .fieldAddr t x f, ty, pos, af, gd⟩ (elp oa (i * Enc.sz α + m)) := qo_of fun a w I S hs hst => by
 obtain ⟨S1, _, g, cap, cur, bt, e', _⟩ := Sep.has ha hst.own
 injection e' with e1 e2 e3
 subst e1 e
 simp [execOp, hs.ev hx, elp, hf.run, add_add, Nat.add_assoc]
theorem e_stH {t : TypeId} {ag : Bool} {n m i j cp : Nat} {z : Value} {by_ : Nat} {x y : Operand} {oa : Option Addr} {α : Type} [Enc α] {l : List α} {cs cs' : List Value} {v : Value} (ht : TyI P t ag n z by_)
  (hx : ev s x = some (elp oa (i * Enc.sz α + j))) (hy : ev s y = some v) (hu : Take os [hole (.slice oa m cp) l i cs] os1) (hn : v.cells.size = n) (h1 : ∀ u ∈ v.cells.toList, u.oneCell' = true)
  (hl : j + n ≤ Enc.sz α) (hcl : cs.length = Enc.sz α) (he : cs.take j ++ v.cells.toList ++ cs.drop (j + n) = cs') :
  Eo P c fs os N s ⟨d, .store t x y, ty, pos, af, gd⟩ (fun u fs' os'' => u = undef ∧ fs' = fs ∧ os'' = hole (.slice oa m cp) l i cs' :: os1) := Ex.mk fun a w hs hw => by
 obtain ⟨I, S, hst⟩ := id hw
 obtain ⟨S1, _, _, _, _, ⟨A, _, _, _, _, ⟨g, cap, cur, bt, e', _, hh, h1', _, hsz, hk, hc, _⟩, _⟩, _⟩ := hu.sep hst.own
 injection e' with e1 e2 e3
 subst e1
 subst e2
 subst e3
 have hle : i * Enc.sz α + Enc.sz α ≤ cur.size := by
  have := Nat.mul_le_mul_right (Enc.sz α) (show i + 1 ≤ cp by omega)
  rw [Nat.add_mul] at this
  omega
 have hrun := run_storeCells_at P g (i * Enc.sz α + j) bt v.cells.toList 0 cur w hh (by simp [hn]; omega) h1
 simp only [Nat.add_zero] at hrun
 have hadd : (⟨g, 0, none⟩ : Addr).add (i * Enc.sz α + j) = ⟨g, i * Enc.sz α + j, none⟩ := by rw [Addr.add_lit]; simp
 rw [show v.cells.toList.length = n by simpa using hn] at hrun
 simp [execOp, Instr.storeAt, Instr.sureAddr, hs.ev hx, hs.ev hy, storeVar, ht.sizeOf, hn, elp, hadd, hrun, Outc]
 have hcurl : cur.toList.length = cp * Enc.sz α := by rw [Array.length_toList, hsz]
 -- the new cells, element by element
 have hnew : cur.toList.take (i * Enc.sz α + j) ++ (v.cells.toList ++ cur.toList.drop (i * Enc.sz α + j + n)) = cur.toList.take (i * Enc.sz α) ++ cs' ++ cur.toList.drop (i * Enc.sz α + Enc.sz α) := by
  rw [← he, ← hc, List.take_add, List.take_take, Nat.min_eq_left (by omega), List.drop_take, List.drop_drop]
  rw [← List.append_assoc, ← List.append_assoc, ← List.append_assoc, List.append_assoc (_ ++ v.cells.toList)]
  congr 1
  have : cur.toList.drop (i * Enc.sz α + j + n) = (cur.toList.drop (i * Enc.sz α + j + n)).take (Enc.sz α - (j + n)) ++ cur.toList.drop (i * Enc.sz α + Enc.sz α) := by
   have hx := List.take_append_drop (Enc.sz α - (j + n)) (cur.toList.drop (i * Enc.sz α + j + n))
   rw [List.drop_drop, show (i * Enc.sz α + j + n) + (Enc.sz α - (j + n)) = i * Enc.sz α + Enc.sz α by omega] at hx
   exact hx.symm
  rw [this, Nat.add_assoc]
 refine ⟨fs, _, ⟨rfl, rfl⟩, hw.chg (r' := [hole (.slice (some ⟨g, 0, none⟩) l.length cp) l i cs']) hu fun I S S1 hst m1 ⟨A, B, mA, mB, dAB, ho, hr⟩ => ?_⟩
 obtain ⟨g', cap', cur', ty', e', hg, hh', h1'', h2, h3, hk', hc', Ss, k1, k2, k3⟩ := ho
 injection e' with e1 e2 e3
 injection e1 with e1
 have e1 : g = g' := congrArg Addr.block e1
 subst e1
 subst e3
 rw [hh] at hh'
 cases hh'
 have hcs' : cs'.length = Enc.sz α := by
  rw [← he]
  simp only [List.length_append, List.length_take, List.length_drop, Array.length_toList, hn, hcl]
  omega
 have hoth : ∀ b, b ≠ g → (w.setRow g (cur.toList.take (i * Enc.sz α + j) ++ (v.cells.toList ++ cur.toList.drop (i * Enc.sz α + j + n))).toArray).heap[b]? = w.heap[b]? := fun b hb => setRow_other w g b _ hb
 refine ⟨S1, fun b => .inl, ⟨S1, fun _ => False, fun _ h => h, fun _ h => h.elim, fun _ _ h => h, ?_, trivial⟩, fun b hb hn => ?_, by simp [World.setRow], rfl, ⟨rfl, by first | exact Nat.le_refl _ | exact Nat.le_succ _⟩, rfl⟩
 ·refine ⟨g, cp, _, bt, rfl, mA _ hg, setRow_heap w g cur _ bt _ hh, h1'', h2, ?_, hk', ?_, Ss, fun r hr hne b hb => ⟨mA b (k1 r hr hne b hb).1, (k1 r hr hne b hb).2⟩, k2, fun r hr hne => ?_⟩
  ·rw [hnew]
   simp only [List.size_toArray, List.length_append, List.length_take, List.length_drop, hcs', hcurl]
   have : i * Enc.sz α + Enc.sz α ≤ cp * Enc.sz α := by rw [← hsz]; exact hle
   omega
  ·rw [hnew]
   have := splice (n := cp) (k := i) (i := i) hcurl hcs' (by omega) (by omega)
   rw [if_pos rfl] at this
   exact this
  ·rw [hnew]
   have := splice (n := cp) (k := i) (i := r) hcurl hcs' (by omega) (by omega)
   rw [if_neg hne] at this
   show Enc.Tr _ _ (((cur.toList.take (i * Enc.sz α) ++ cs' ++ cur.toList.drop (i * Enc.sz α + Enc.sz α)).drop (r * Enc.sz α)).take (Enc.sz α)) _
   rw [this]
   refine Enc.tr_keep (k3 r hr hne) (fun b hb => ?_) (fun _ h => h)
   rw [← hnew]
   exact hoth b (k1 r hr hne b hb).2
 ·rw [hoth b fun e => hn (e ▸ mA _ hg)]
end
end Go.Sx

namespace Go.Sx
class Ct (α : Type) extends Wt α where
  ct : α → Nat
  m : Nat
  le : ∀ a, ct a ≤ m * w a + m
instance : Ct Int := { ct := fun _ => 1, m := 1, le := fun _ => by omega }
instance : Ct Bool := { ct := fun _ => 1, m := 1, le := fun _ => by omega }
instance : Ct UInt8 := { ct := fun _ => 1, m := 1, le := fun _ => by omega }
instance : Ct ByteArray := { ct := fun _ => 1, m := 1, le := fun _ => by omega }
theorem ct_prod {α β : Type} [Ct α] [Ct β] (d : α × β) : Ct.ct d.1 + Ct.ct d.2 ≤ (Ct.m α + Ct.m β) * (Wt.w d.1 + Wt.w d.2) + (Ct.m α + Ct.m β) := by
 have h1 := Ct.le d.1
 have h2 := Ct.le d.2
 have h3 : Ct.m α * Wt.w d.1 ≤ Ct.m α * (Wt.w d.1 + Wt.w d.2) := Nat.mul_le_mul_left _ (Nat.le_add_right _ _)
 have h4 : Ct.m β * Wt.w d.2 ≤ Ct.m β * (Wt.w d.1 + Wt.w d.2) := Nat.mul_le_mul_left _ (Nat.le_add_left _ _)
 rw [Nat.add_mul]
 omega
instance {α β : Type} [Ct α] [Ct β] : Ct (α × β) := { ct := fun d => Ct.ct d.1 + Ct.ct d.2, m := Ct.m α + Ct.m β, le := ct_prod }
theorem sumN_lin {n m : Nat} {f g : Nat → Nat} (h : ∀ i, i < n → f i ≤ m * g i + m) : sumN n f ≤ m * (n + sumN n g) := by
 induction n with
 | zero => simp [sumN]
 | succ n ih =>
  have h1 := ih fun i hi => h i (by omega)
  have h2 := h n (by omega)
  simp only [sumN]
  have : m * (n + 1 + (sumN n g + g n)) = m * (n + sumN n g) + (m * g n + m) := by
   rw [show n + 1 + (sumN n g + g n) = (n + sumN n g) + (g n + 1) by omega, Nat.mul_add, Nat.mul_add m (g n) 1, Nat.mul_one]
  omega
instance {α : Type} [Ct α] [Inhabited α] : Ct (List α) := { ct := fun l => sumN l.length fun i => Ct.ct (nth l i), m := Ct.m α, le := fun l => Nat.le_trans (sumN_lin fun i _ => Ct.le (nth l i)) (Nat.le_add_right _ _) }
end Go.Sx

namespace Go.Sx
open Go Go.RowKit
def s2 (l : List UInt8) : ByteArray := ⟨l.toArray⟩
def sb (s : ByteArray) (k : Nat) : UInt8 := s.data.getD k 0
section
variable {P : Program} {c : Ctx} {N : Nat} {s : Slots} {fs : List Fact} {os os1 os' : List Own}
variable {d : Option Tmp} {ty : TypeId} {pos : String} {af : Array Edge} {gd : Option (Nat × Bool)}
theorem p_i8 {t u : TypeId} {x : Operand} {b : UInt8} (ht : P.underlying t = some (.int .u8)) (hu : P.underlying u = some (.int .i64)) (hx : ev s x = some (.int .u8 (b.toNat : Int))) : Pu P N s ⟨d, .convert t u x, ty, pos, af, gd⟩ (.int .i64 (b.toNat : Int)) := fun a w hs => by
 have h1 := b.toNat_lt
 have := IntWalk.i64_in (b.toNat : Int) (by constructor <;> omega)
 simp [execOp, hs.ev hx, convert, run_underlying ht, run_underlying hu, Conv.intToInt, this]
theorem p_slen {t : TypeId} {x : Operand} {b : ByteArray} (hu : P.underlying t = some .string) (hx : ev s x = some (.string b)) :
  Pu P N s ⟨d, .call { callee := .builtin .len, args := #[x], argTypes := #[t] }, ty, pos, af, gd⟩ (.int .i64 (b.size : Int)) := fun a w hs => by
 simp [execOp, resolve, invoke, builtin, hs.ev hx, Builtin.len_, run_underlying hu, goInt]
theorem p_cat {t t' : TypeId} {x y : Operand} {m n : ByteArray} (hx : ev s x = some (.string m)) (hy : ev s y = some (.string n)) (h : room (m.size + n.size)) : Pu P N s ⟨d, .binOp .add t x y t', ty, pos, af, gd⟩ (.string (m ++ n)) :=
 p_bin hx hy fun w => by
  have h1 : m.size + n.size ≤ 1073741824 := h
  have : ¬ ((m.size + n.size : Nat) : Int) > IntKind.i64.max := by simp [IntKind.max, IntKind.bits, IntKind.signed]; omega
  simp only [eqGuard, binOp, Op.stringOp, this, if_false]
  rfl
theorem seq_dec (m n : ByteArray) : (m.toList == n.toList) = decide (m = n) := by
 rw [ByteArray.toList_eq, ByteArray.toList_eq, Bool.eq_iff_iff]
 simp only [beq_iff_eq, decide_eq_true_eq]
 exact ⟨WideShapes.bytes_inj, fun h => by rw [h]⟩
theorem p_seql {t t' : TypeId} {x y : Operand} {m n : ByteArray} (hx : ev s x = some (.string m)) (hy : ev s y = some (.string n)) : Pu P N s ⟨d, .binOp .eql t x y t', ty, pos, af, gd⟩ (.bool (decide (m = n))) :=
 p_bin hx hy fun w => by
  rw [← seq_dec]
  simp only [eqGuard, binOp, Op.stringOp]
  rfl
theorem p_sneq {t t' : TypeId} {x y : Operand} {m n : ByteArray} (hx : ev s x = some (.string m)) (hy : ev s y = some (.string n)) : Pu P N s ⟨d, .binOp .neq t x y t', ty, pos, af, gd⟩ (.bool (!decide (m = n))) :=
 p_bin hx hy fun w => by
  rw [← seq_dec]
  simp only [eqGuard, binOp, Op.stringOp]
  rfl
def sless (m n : ByteArray) : Bool := Op.bytesLess m.toList n.toList
theorem p_sleq {t t' : TypeId} {x y : Operand} {m n : ByteArray} (hx : ev s x = some (.string m)) (hy : ev s y = some (.string n)) : Pu P N s ⟨d, .binOp .leq t x y t', ty, pos, af, gd⟩ (.bool (sless m n || decide (m = n))) :=
 p_bin hx hy fun w => by rw [← seq_dec]; simp only [eqGuard, binOp, Op.stringOp]; rfl
theorem p_sgeq {t t' : TypeId} {x y : Operand} {m n : ByteArray} (hx : ev s x = some (.string m)) (hy : ev s y = some (.string n)) : Pu P N s ⟨d, .binOp .geq t x y t', ty, pos, af, gd⟩ (.bool (!sless m n)) :=
 p_bin hx hy fun w => by simp only [eqGuard, binOp, Op.stringOp]; rfl
theorem p_six {t : TypeId} {x y : Operand} {m : ByteArray} {i : Int} (hu : P.underlying t = some .string) (hx : ev s x = some (.string m)) (hy : ev s y = some (.int .i64 i)) (h : ix i m.size) : Pu P N s ⟨d, .index t x y, ty, pos, af, gd⟩ (.int .u8 ((sb m i.toNat).toNat : Int)) := fun a w hs => by
 have h1 : 0 ≤ i := h.1
 have h2 := h.lt
 have h3 : m[i.toNat]? = some (sb m i.toNat) := by
  unfold sb
  rw [getElem?_pos m i.toNat h2, Array.getD_eq_getD_getElem?, Array.getElem?_eq_getElem (by exact h2)]
  rfl
 simp [execOp, hs.ev hx, hs.ev hy, Instr.index, asIntOf, run_underlying hu, h1, h3]
end
end Go.Sx

namespace Go.Sx
open Go Go.RowKit
def nn (i : Int) : Prop := 0 ≤ i ∧ i < 4611686018427387904
instance (i : Int) : Decidable (nn i) := by unfold nn; infer_instance
def xr (m n : Int) : Int := ((m.toNat ^^^ n.toNat : Nat) : Int)
def subA (oa : Option Addr) (cap lo sz : Nat) : Option Addr := if cap = lo then oa else oa.map (·.add (lo * sz))
def sl2 (lo hi : Int) (n : Nat) : Prop := 0 ≤ lo ∧ lo ≤ hi ∧ hi ≤ (n : Int)
instance (lo hi : Int) (n : Nat) : Decidable (sl2 lo hi n) := by unfold sl2; infer_instance
section
variable {P : Program} {c : Ctx} {N : Nat} {s : Slots} {fs : List Fact} {os os1 os' : List Own} {Q : Exit → Act → World → Prop} {code : Code}
variable {d : Option Tmp} {ty : TypeId} {pos : String} {af : Array Edge} {gd : Option (Nat × Bool)}
theorem xr_run (m n : Nat) (hm : m < 4611686018427387904) (hn : n < 4611686018427387904) (w : World) : (Op.intBits .xor .i64 (m : Int) (n : Int)).run P w = .ok (.int .i64 ((m ^^^ n : Nat) : Int)) w := by
 have h : m ^^^ n < 2 ^ 62 := Nat.xor_lt_two_pow hm hn
 have hw := IntWalk.i64_in ((m ^^^ n : Nat) : Int) (by constructor <;> omega)
 have hx : (BitVec.ofInt 64 (m : Int) ^^^ BitVec.ofInt 64 (n : Int)).toNat = m ^^^ n := by
  rw [BitVec.toNat_xor, BitVec.ofInt_natCast, BitVec.ofInt_natCast, BitVec.toNat_ofNat, BitVec.toNat_ofNat, Nat.mod_eq_of_lt (by omega), Nat.mod_eq_of_lt (by omega)]
 show (pure (.int .i64 (IntKind.i64.wrap (BitVec.ofInt 64 (m : Int) ^^^ BitVec.ofInt 64 (n : Int)).toNat)) : Sem Value).run P w = _
 rw [hx, hw]
 rfl
theorem p_xor {t t' : TypeId} {x y : Operand} {m n : Int} (hx : ev s x = some (.int .i64 m)) (hy : ev s y = some (.int .i64 n)) (h1 : nn m) (h2 : nn n) : Pu P N s ⟨d, .binOp .xor t x y t', ty, pos, af, gd⟩ (.int .i64 (xr m n)) :=
 p_bin hx hy fun w => by
  have e1 : m = (m.toNat : Int) := by unfold nn at h1; omega
  have e2 : n = (n.toNat : Int) := by unfold nn at h2; omega
  have := xr_run (P := P) m.toNat n.toNat (by unfold nn at h1; omega) (by unfold nn at h2; omega) w
  rw [← e1, ← e2] at this
  simp only [eqGuard, binOp]
  exact this
theorem RdL.sub {α : Type} [Enc α] {w : World} {S : Blks} {oa : Option Addr} {n cap : Nat} {l : List α} (h : RdL w S (.slice oa n cap) l) {lo hi : Nat} (h1 : lo ≤ hi) (h2 : hi ≤ l.length) :
  RdL w S (.slice (subA oa cap lo (Enc.sz α)) ((l.take hi).drop lo).length (cap - lo)) ((l.take hi).drop lo) := by
 obtain ⟨oa', cap', e, k1, k2, k3⟩ := h
 cases e
 have hlen : ((l.take hi).drop lo).length = hi - lo := by simp; omega
 refine ⟨_, _, rfl, by rw [hlen]; omega, by omega, fun i hi' => ?_⟩
 rw [hlen] at hi'
 obtain ⟨ad, es, e1, e2, e3, e4⟩ := k3 (lo + i) (by omega)
 refine ⟨ad.add (lo * Enc.sz α), es, ?_, by rw [block_add]; exact e2, ?_, ?_⟩
 ·unfold subA
  rw [if_neg (by omega), e1]
  rfl
 ·rw [add_add, ← Nat.add_mul]; exact e3
 ·have : ((l.take hi).drop lo)[i]'(by rw [hlen]; exact hi') = l[lo + i]'(by omega) := by simp
  rw [this]; exact e4
theorem Ent.sub {α : Type} [Enc α] {oa : Option Addr} {n cap : Nat} {l : List α} (h : Ent fs (imm (.slice oa n cap) l)) {lo hi : Nat} (h1 : lo ≤ hi) (h2 : hi ≤ l.length) :
  Ent fs (imm (.slice (subA oa cap lo (Enc.sz α)) ((l.take hi).drop lo).length (cap - lo)) ((l.take hi).drop lo)) := fun w I hf => RdL.sub (h w I hf) h1 h2
theorem sl2.le {lo hi : Int} {n : Nat} (h : sl2 lo hi n) : lo.toNat ≤ hi.toNat := by unfold sl2 at h; omega
theorem sl2.lt {lo hi : Int} {n : Nat} (h : sl2 lo hi n) : hi.toNat ≤ n := by unfold sl2 at h; omega
theorem q_slF {x : Operand} {t e : TypeId} {ag : Bool} {z : Value} {by_ : Nat} {α : Type} [Enc α] {oa : Option Addr} {n cap : Nat} {l : List α} {lo hi : Option Operand} (a b : Int) (hu : P.underlying t = some (.slice e)) (ht : TyI P e ag (Enc.sz α) z by_)
  (hx : ev s x = some (.slice oa n cap)) (hlo : lo.map (ev s) = (if lo.isSome then some (some (.int .i64 a)) else none)) (ha : lo = none → a = 0) (hhi : hi.map (ev s) = (if hi.isSome then some (some (.int .i64 b)) else none)) (hb : hi = none → b = (l.length : Int)) (h : sl2 a b l.length) (he : EntB fs os (imm (.slice oa n cap) l)) :
  Qo P c fs os N s ⟨d, .slice t x lo hi none, ty, pos, af, gd⟩ (.slice (subA oa cap a.toNat (Enc.sz α)) ((l.take b.toNat).drop a.toNat).length (cap - a.toNat)) := qo_of fun w0 w I S hs hst => by
 have hr : RdL w (fun b => I b ∨ S b) (.slice oa n cap) l := he w I S hst.facts hst.own
 obtain ⟨oa', cap', e', h1, h2, _⟩ := hr
 cases e'
 obtain ⟨a, rfl⟩ := Int.eq_ofNat_of_zero_le (show 0 ≤ a by unfold sl2 at h; omega)
 obtain ⟨b, rfl⟩ := Int.eq_ofNat_of_zero_le (show 0 ≤ b by unfold sl2 at h; omega)
 have hab : a ≤ b ∧ b ≤ l.length := by unfold sl2 at h; omega
 have hbc : b ≤ cap := by omega
 have hlen : ((l.take b).drop a).length = b - a := by simp; omega
 simp only [Int.toNat_natCast]
 rw [hlen]
 have elo : (lo.map w0.eval) = lo.map fun _ => Value.int .i64 (a : Int) := by
  cases lo with
  | none => rfl
  | some y => simp at hlo ⊢; exact hs.ev hlo
 have ehi : (hi.map w0.eval) = hi.map fun _ => Value.int .i64 (b : Int) := by
  cases hi with
  | none => rfl
  | some y => simp at hhi ⊢; exact hs.ev hhi
 simp only [execOp, hs.ev hx]
 rw [elo, ehi]
 have hA : (0 : Int) ≤ (a : Int) ∧ (a : Int) ≤ (b : Int) := by omega
 have hB : (0 : Int) ≤ (b : Int) ∧ (b : Int) ≤ (cap : Int) := by omega
 cases lo with
 | none =>
  have := ha rfl
  have ha0 : a = 0 := by omega
  subst ha0
  cases hi with
  | none =>
   have hb0 : b = l.length := by have := hb rfl; omega
   subst hb0
   simp [Instr.sliceAt, Instr.slice, run_underlying hu, Instr.sliceBounds, ht.sizeOf, subA]
  | some y => simp [Instr.sliceAt, Instr.slice, run_underlying hu, Instr.sliceBounds, Instr.sliceBound, asIntOf, ht.sizeOf, hbc, subA]
 | some y =>
  cases hi with
  | none =>
   have hb0 : b = l.length := by have := hb rfl; omega
   subst hb0
   simp [Instr.sliceAt, Instr.slice, run_underlying hu, Instr.sliceBounds, Instr.sliceBound, asIntOf, ht.sizeOf, hab.1, subA]
  | some y => simp [Instr.sliceAt, Instr.slice, run_underlying hu, Instr.sliceBounds, Instr.sliceBound, asIntOf, ht.sizeOf, hbc, hab.1, subA]
theorem flatMap_part {α : Type} (f : α → List Value) (n : Nat) (hf : ∀ x, (f x).length = n) : ∀ (l : List α) (i : Nat) (h : i < l.length), ((l.flatMap f).drop (i * n)).take n = f l[i]
 | x :: l, 0, _ => by simp [← hf x]
 | x :: l, i + 1, h => by
  have ih := flatMap_part f n hf l i (by simpa using h)
  rw [List.flatMap_cons, Nat.add_mul, Nat.one_mul, Nat.add_comm, ← List.drop_drop, ← hf x, List.drop_left, hf x, ih]
  rfl
theorem flatMap_len {α : Type} (f : α → List Value) (n : Nat) (hf : ∀ x, (f x).length = n) : ∀ (l : List α), (l.flatMap f).length = l.length * n
 | [] => by simp
 | x :: l => by rw [List.flatMap_cons, List.length_append, hf x, flatMap_len f n hf l, List.length_cons, Nat.add_mul]; omega
theorem e_litT {t e : TypeId} {ag : Bool} {z : Value} {by_ : Nat} {α : Type} [Flat α] {parts : List (Nat × Operand)} {vs : List (Nat × Value)} {m : Nat} (l : List α) (hm : m = l.length) (hl : ∀ x : α, (Flat.enc x).length = Enc.sz α) (hw : ∀ x ∈ l, Flat.wf x) (hu : P.underlying t = some (.slice e)) (ht : TyI P e ag (Enc.sz α) z by_)
  (hp : parts.map (fun p => (p.1, ev s p.2)) = vs.map (fun p => (p.1, some p.2))) (h0 : m * Enc.sz α ≠ 0) (hb : m * Enc.sz α ≤ 16777216)
  (hf : Instr.fill (fun i => some (i * Enc.sz α, Enc.sz α)) ((Array.range (m * Enc.sz α)).map (fun j => z.cells[j % z.cells.size]!)) vs = some (l.flatMap Flat.enc).toArray) :
  Eo P c fs os N s ⟨d, .buildSlice t m parts.toArray, ty, pos, af, gd⟩ (fun v fs' os' => ∃ oa cp, v = .slice oa l.length cp ∧ fs' = fs ∧ os' = tree (.slice oa l.length cp) l :: os) := Ex.mk fun a w hs hw' => by
 refine ((e_lit (fs := fs) (os := os) (l.flatMap Flat.enc) hu ht hp h0 hb hf).go a w hs hw').mono ?_
 rintro v w' ⟨_, _, ⟨g, rfl, rfl, rfl⟩, h⟩
 subst hm
 refine ⟨_, _, ⟨some ⟨g, 0, none⟩, l.length, rfl, rfl, rfl⟩, ?_⟩
 refine h.upd (o' := tree (.slice (some ⟨g, 0, none⟩) l.length l.length) l) .here fun I S S1 hst m1 ⟨hg, hh⟩ => ?_
 refine ⟨S1, fun b => .inl, ?_, fun _ _ _ => rfl, Nat.le_refl _, rfl, ⟨rfl, by first | exact Nat.le_refl _ | exact Nat.le_succ _⟩, rfl⟩
 have hlm : l.length ≤ maxLen := by
  have := Enc.pos (α := α)
  have h1 : l.length * 1 ≤ l.length * Enc.sz α := Nat.mul_le_mul_left _ this
  have : l.length ≤ 16777216 := by omega
  exact Nat.le_trans this (by decide)
 refine .inr ⟨g, l.length, _, e, rfl, hg, hh, Nat.le_refl _, hlm, by simp [flatMap_len _ _ hl], fun _ _ => False, fun _ _ _ h => h.elim, fun _ _ _ _ _ h => h.elim, fun i hi => ?_⟩
 have := flatMap_part (Flat.enc (α := α)) (Enc.sz α) hl l i hi
 show Enc.Tr _ _ (((l.flatMap Flat.enc).toArray.toList.drop (i * Enc.sz α)).take (Enc.sz α)) _
 rw [show (l.flatMap Flat.enc).toArray.toList = l.flatMap Flat.enc from rfl, this]
 exact Flat.tr (hw _ (List.getElem_mem hi))
structure AEq (P : Program) (t : TypeId) (α : Type) [Flat α] [DecidableEq α] : Prop where
  gd : P.eqGuardType P.depth t = false
  go : ∀ (d : Nat) (a b : α) (w : World), (Op.equalIn (d + 3) t (.agg (Flat.enc a).toArray) (.agg (Flat.enc b).toArray)).run P w = .ok (decide (a = b)) w
theorem p_aeql {t t' : TypeId} {α : Type} [Flat α] [DecidableEq α] {x y : Operand} {a b : α} {va vb : Array Value} (h : AEq P t α) (hx : ev s x = some (.agg va)) (hy : ev s y = some (.agg vb)) (ea : va = (Flat.enc a).toArray) (eb : vb = (Flat.enc b).toArray) : Pu P N s ⟨d, .binOp .eql t x y t', ty, pos, af, gd⟩ (.bool (decide (a = b))) :=
 p_bin hx hy fun w => by
  subst ea eb
  rw [Sem.run_bind, run_eqGuard_agg w .eql t x y _ _ h.gd, Result.andThen_ok, run_eql_struct, h.go 9997 a b w]
  rfl
theorem p_aneq {t t' : TypeId} {α : Type} [Flat α] [DecidableEq α] {x y : Operand} {a b : α} {va vb : Array Value} (h : AEq P t α) (hx : ev s x = some (.agg va)) (hy : ev s y = some (.agg vb)) (ea : va = (Flat.enc a).toArray) (eb : vb = (Flat.enc b).toArray) : Pu P N s ⟨d, .binOp .neq t x y t', ty, pos, af, gd⟩ (.bool (!decide (a = b))) :=
 p_bin hx hy fun w => by
  subst ea eb
  rw [Sem.run_bind, run_eqGuard_agg w .neq t x y _ _ h.gd, Result.andThen_ok, run_neq_struct, h.go 9997 a b w]
  rfl
end
end Go.Sx

namespace Go.Sx
open Go Go.RowKit
section
variable {P : Program} {c : Ctx} {N : Nat} {s : Slots} {fs : List Fact} {os os1 os' : List Own} {Q : Exit → Act → World → Prop} {code : Code}
variable {d : Option Tmp} {ty : TypeId} {pos : String} {af : Array Edge} {gd : Option (Nat × Bool)}
theorem RowL.append {α : Type} [Enc α] {w w' : World} {I S : Blks} {v v' : Value} {l k : List α} {olds news : List Value} (h : (row v l).ok w I S)
  (holds : olds.length = l.length * Enc.sz α)
  (hold : (v = .slice none 0 0 ∧ olds = []) ∨ ∃ g cap cur bt, Ra w v l.length (Enc.sz α) g cap cur bt ∧ olds = cur.toList.take (l.length * Enc.sz α))
  (hIlt : ∀ b, I b → b < w.heap.size) (hIS : ∀ b, I b → S b → False)
  (hel : ∀ i (hi : i < k.length), Enc.Rd w I ((news.drop (i * Enc.sz α)).take (Enc.sz α)) k[i])
  {g' cap' : Nat} {cur' : Array Value} {bt' : TypeId} (hra : Ra w' v' (l.length + k.length) (Enc.sz α) g' cap' cur' bt') (hcur : cur'.toList.take ((l.length + k.length) * Enc.sz α) = olds ++ news)
  (hsame : ∀ b, b < w.heap.size → b ≠ g' → w'.heap[b]? = w.heap[b]?) (hg : (∃ cap cur bt, Ra w v l.length (Enc.sz α) g' cap cur bt) ∨ g' = w.heap.size) :
  (row v' (l ++ k)).ok w' I (fun b => S b ∨ b = g') := by
 have hIg : ∀ b, I b → b ≠ g' := fun b hb e => by
  subst e
  rcases hg with ⟨cap, cur, bt, hr⟩ | h'
  ·rcases h with ⟨rfl, _⟩ | ⟨g, _, _, _, e, hgS, _⟩
   ·have := hr.v; injection this with h; cases h
   ·have := hr.v
    rw [e] at this
    injection this with h1
    injection h1 with h1
    have h1 : g = b := congrArg Addr.block h1
    subst h1
    exact hIS _ hb hgS
  ·have := hIlt _ hb; omega
 have hsI : Same I w w' := fun b hb => hsame b (hIlt b hb) (hIg b hb)
 have hels : ∀ i (hi : i < l.length), Enc.Rd w I ((olds.drop (i * Enc.sz α)).take (Enc.sz α)) l[i] := fun i hi => by
  rcases h with ⟨_, rfl⟩ | ⟨g, cap, cur, ty, e, hgS, hh, h1, h2, h3, h4⟩
  ·exact absurd hi (Nat.not_lt_zero _)
  ·rcases hold with ⟨e', _⟩ | ⟨g2, cap2, cur2, bt2, hr, ho⟩
   ·rw [e] at e'
    injection e' with e'
    cases e'
   ·have hv2 := hr.v
    rw [e] at hv2
    injection hv2 with hv2
    injection hv2 with hv2
    have hgeq : g = g2 := congrArg Addr.block hv2
    subst hgeq
    have hh2 := hr.heap
    rw [hh] at hh2
    cases hh2
    rw [ho, List.drop_take, List.take_take]
    have hle : i * Enc.sz α + Enc.sz α ≤ l.length * Enc.sz α := by
     have := Nat.mul_le_mul_right (Enc.sz α) (show i + 1 ≤ l.length by omega)
     rw [Nat.add_mul] at this
     omega
    rw [Nat.min_eq_left (by omega)]
    exact h4 i hi
 refine .inr ⟨g', cap', cur', bt', by rw [hra.v, List.length_append], .inr rfl, hra.heap, by rw [List.length_append]; exact hra.le, hra.max, hra.size, fun i hi => ?_⟩
 rw [List.length_append] at hi
 rw [take_drop_append hcur holds hi]
 split
 ·rename_i hlt
  rw [List.getElem_append_left hlt]
  exact Enc.keep (hels i hlt) hsI (fun _ h => h)
 ·rename_i hge
  rw [List.getElem_append_right (by omega)]
  exact Enc.keep (hel _ (by omega)) hsI (fun _ h => h)
theorem RowL.olds {α : Type} [Enc α] {w : World} {I S : Blks} {v : Value} {l : List α} (h : (row v l).ok w I S) :
  ∃ olds : List Value, olds.length = l.length * Enc.sz α ∧ ((v = .slice none 0 0 ∧ l.length = 0 ∧ olds = []) ∨ ∃ g cap cur bt, Ra w v l.length (Enc.sz α) g cap cur bt ∧ olds = cur.toList.take (l.length * Enc.sz α)) ∧
   ∀ g', (∃ cap cur bt, Ra w v l.length (Enc.sz α) g' cap cur bt) → S g' := by
 rcases h with ⟨rfl, rfl⟩ | ⟨g, cap, cur, ty, e, hg, hh, h1, h2, h3, h4⟩
 ·exact ⟨[], by simp, .inl ⟨rfl, rfl, rfl⟩, fun g' ⟨_, _, _, hr⟩ => by have := hr.v; injection this with h; cases h⟩
 ·refine ⟨cur.toList.take (l.length * Enc.sz α), ?_, .inr ⟨g, cap, cur, ty, ⟨e, hh, h1, h2, h3⟩, rfl⟩, fun g' ⟨_, _, _, hr⟩ => ?_⟩
  ·have hc : cur.toList.length = cap * Enc.sz α := by rw [Array.length_toList, h3]
   rw [List.length_take, hc]
   exact Nat.min_eq_left (Nat.mul_le_mul_right _ h1)
  ·have := hr.v
   rw [e] at this
   injection this with h1
   injection h1 with h1
   have h1 : g = g' := congrArg Addr.block h1
   exact h1 ▸ hg
theorem RowL.rd {α : Type} [Enc α] {w : World} {I S : Blks} {v : Value} {l : List α} (h : (row v l).ok w I S) : RdL w (fun b => I b ∨ S b) v l := by
 rcases h with ⟨rfl, rfl⟩ | ⟨g, cap, cur, ty, e, hg, hh, h1, h2, h3, h4⟩
 ·exact ⟨none, 0, rfl, Nat.le_refl _, by simp [maxLen], fun i hi => absurd hi (Nat.not_lt_zero _)⟩
 ·exact ⟨_, cap, e, h1, h2, fun i hi => ⟨_, _, rfl, .inr hg, cellsAt_row hh _ _, Enc.keep (h4 i hi) (Same.refl _ _) (fun b => .inl)⟩⟩
end
end Go.Sx

namespace Go.Sx
open Go Go.RowKit
section
variable {P : Program} {c : Ctx} {N : Nat} {s : Slots} {fs : List Fact} {os os1 os' : List Own} {Q : Exit → Act → World → Prop} {code : Code}
variable {d : Option Tmp} {ty : TypeId} {pos : String} {af : Array Edge} {gd : Option (Nat × Bool)}
theorem p_slHi {x y : Operand} {t e : TypeId} {ag : Bool} {sz : Nat} {z : Value} {by_ n cp : Nat} {oa : Option Addr} {i : Int} (a : Nat) (hu : P.underlying t = some (.slice e)) (ht : TyI P e ag sz z by_)
  (hx : ev s x = some (.slice oa n cp)) (hy : ev s y = some (.int .i64 i)) (hi : i = (a : Int)) (h1 : a ≤ cp) :
  Pu P N s ⟨d, .slice t x none (some y) none, ty, pos, af, gd⟩ (.slice oa a cp) := fun w0 w hs => by
 subst hi
 have e : Option.map (fun x : Addr => x.add 0) oa = oa := by cases oa <;> simp [Addr.add]
 simp [execOp, hs.ev hx, hs.ev hy, Instr.sliceAt, Instr.slice, run_underlying hu, Instr.sliceBounds, Instr.sliceBound, asIntOf, ht.sizeOf, h1, e]
end
end Go.Sx

namespace Go.Sx
open Go Go.RowKit
def chkL (ops : Array Oper) (m : Nat) : Bool :=
 ops.size == m + 1 &&
 ((List.range (m + 1)).all fun i => match ops[i]? with
  | some x => (x.after.all fun e => !Region.binds .any e || decide (e.on < i)) && (match x.guard with | none => true | some (j, _) => decide (j < m))
  | none => false) &&
 match ops[m]? with
  | some o => (List.range m).all fun i => o.after.any fun e => Region.binds .any e && e.on == i
  | none => false
theorem wp_then {P : Program} {o : Oper} {a : Act} {w : World} {K K0 : Act → World → Prop} {Q : Exit → Act → World → Prop} (h : o.wp P a w K (Exit.then K0 Q)) : o.wp P a w K Q := by
 unfold Oper.wp at *
 generalize (execOp a.eval o).run P w = r at *
 cases r with
 | ok n w' =>
  cases n <;> simp only [Oper.upon] at h ⊢ <;>
   first
    | exact h
    | exact Calls.mono h (fun e w'' he => by cases e <;> exact he)
    | exact Rows.mono h (fun _ _ he => he)
 | halt x w' => cases x <;> simp only [Oper.upon] at h ⊢ <;> exact h
theorem yielded_last {L : List Oper} {t : Array Value} {j : Nat} (h : j < L.dropLast.length) : yielded L.dropLast.toArray t j = yielded L.toArray t j := by
 have : L.dropLast[j]? = L[j]? := by
  rw [List.getElem?_dropLast]; rw [if_pos (by simpa using h)]
 simp [yielded, this]
theorem wpAny_last {P : Program} {Q : Exit → Act → World → Prop} {L : List Oper} {o : Oper} (hlast : L.getLast? = some o) (hk : chkL L.toArray L.dropLast.length = true) :
  ∀ (fuel : Nat) (listed : Array Bool) (a : Act) (w : World), listed.size = L.dropLast.length → unl listed L.dropLast.length ≤ fuel →
   wpAny P .any L.dropLast.toArray (Exit.then (fun a w => wpList P L.toArray Q [o] a w) Q) fuel listed a w → wpAny P .any L.toArray Q (fuel + 1) (listed.push false) a w := by
 have hLne : L ≠ [] := by rintro rfl; cases hlast
 have hL : L = L.dropLast ++ [o] := by
  have := List.dropLast_concat_getLast hLne
  rw [List.getLast?_eq_some_getLast hLne] at hlast
  rw [← Option.some.inj hlast]; exact this.symm
 generalize hm : L.dropLast.length = m at hk ⊢
 have hsz : L.length = m + 1 := by rw [hL]; simp [hm]
 have hd : ∀ j, j < m → L.dropLast[j]? = L[j]? := fun j hj => by rw [List.getElem?_dropLast, if_pos (by omega)]
 have ho : L[m]? = some o := by rw [hL, ← hm]; simp
 unfold chkL at hk
 simp only [Bool.and_eq_true] at hk
 obtain ⟨⟨_, k1⟩, k2⟩ := hk
 have k1 : ∀ i x, i < m + 1 → L[i]? = some x → (∀ e ∈ x.after, Region.binds .any e = true → e.on < i) ∧ ∀ j b, x.guard = some (j, b) → j < m := fun i x hi hx => by
  have := List.all_eq_true.1 k1 i (List.mem_range.2 hi)
  simp only [List.getElem?_toArray, hx, Bool.and_eq_true] at this
  refine ⟨fun e he hb => ?_, fun j b hg => ?_⟩
  ·have := Array.all_eq_true'.1 this.1 e he
   simpa [hb] using this
  ·have h2 := this.2
   rw [hg] at h2
   simpa using h2
 simp only [List.getElem?_toArray, ho] at k2
 have k2 : ∀ i, i < m → ∃ e ∈ o.after, Region.binds .any e = true ∧ e.on = i := fun i hi => by
  have := List.all_eq_true.1 k2 i (List.mem_range.2 hi)
  obtain ⟨e, he, h⟩ := Array.any_eq_true'.1 this
  simp only [Bool.and_eq_true, beq_iff_eq] at h
  exact ⟨e, he, h⟩
 have gp : ∀ (listed : Array Bool), listed.size = m → ∀ j, j < m → ∀ b, (listed.push false).getD j b = listed.getD j b := fun listed hs j hj b => by
  rw [Array.getD_eq_getD_getElem?, Array.getD_eq_getD_getElem?, Array.getElem?_push, if_neg (by omega)]
 have gm : ∀ (listed : Array Bool), listed.size = m → (listed.push false).getD m true = false := fun listed hs => by
  rw [Array.getD_eq_getD_getElem?, Array.getElem?_push, if_pos hs.symm]; rfl
 have gt : ∀ (listed : Array Bool), listed.size = m → ∀ i, i < m → listed.getD i true = listed.getD i false := fun listed hs i hi => by
  simp [Array.getD_eq_getD_getElem?, Array.getElem?_eq_getElem (show i < listed.size by omega)]
 -- ready ones
 have rdy : ∀ (listed : Array Bool), listed.size = m → ∀ i, i < m → (i ∈ Region.ready .any L.toArray (listed.push false) ↔ i ∈ Region.ready .any L.dropLast.toArray listed) := fun listed hs i hi => by
  rw [mem_ready, mem_ready, gp listed hs i hi]
  simp only [List.getElem?_toArray, hd i hi]
  refine and_congr Iff.rfl (exists_congr fun x => and_congr_right fun hx => ?_)
  refine forall_congr' fun e => forall_congr' fun he => forall_congr' fun hb => ?_
  rw [gp listed hs _ (Nat.lt_trans ((k1 i x (by omega) hx).1 e he hb) hi)]
 have fin : ∀ (listed : Array Bool), listed.size = m → (∀ i, i < m → listed.getD i false = true) → ∀ fuel a w, wpList P L.toArray Q [o] a w → wpAny P .any L.toArray Q (fuel + 1) (listed.push false) a w := fun listed hs hall fuel a w h => by
  have hall' : ∀ i, i < m + 1 → ((listed.push false).setIfInBounds m true).getD i true = true := fun i hi => by
   by_cases e : i = m
   ·subst e; simp [Array.getD_eq_getD_getElem?, hs]
   ·have hi : i < m := by omega
    have h1 := gp listed hs i hi true
    rw [Array.getD_eq_getD_getElem?, Array.getElem?_setIfInBounds_ne (Ne.symm e), ← Array.getD_eq_getD_getElem?, h1, gt listed hs i hi, hall i hi]
  have hnil : Region.ready .any L.toArray ((listed.push false).setIfInBounds m true) = [] := by
   refine List.eq_nil_iff_forall_not_mem.2 fun i hi => ?_
   obtain ⟨h1, x, hx, _⟩ := mem_ready.1 hi
   have hlt : i < L.length := by simpa using (Array.getElem?_eq_some_iff.1 hx).1
   rw [hall' i (by omega)] at h1
   cases h1
  have hmr : m ∈ Region.ready .any L.toArray (listed.push false) := mem_ready.2 ⟨gm listed hs, o, by simpa using ho, fun e he hb => ?_⟩
  ·refine ⟨fun h => (by rw [h] at hmr; cases hmr), fun i hi => ?_⟩
   have him : i = m := by
    obtain ⟨h1, x, hx, _⟩ := mem_ready.1 hi
    have hlt : i < L.length := by simpa using (Array.getElem?_eq_some_iff.1 hx).1
    rcases Nat.lt_or_ge i m with h' | h'
    ·rw [gp listed hs i h', gt listed hs i h', hall i h'] at h1; cases h1
    ·omega
   subst him
   unfold wpOp
   simp only [List.getElem?_toArray, ho]
   have hK : ∀ a w, Q .normal a w → wpAny P .any L.toArray Q fuel ((listed.push false).setIfInBounds i true) a w := fun a w h => by
    cases fuel with
    | zero => exact ⟨hnil, h⟩
    | succ f => exact ⟨fun _ => h, fun j hj => by rw [hnil] at hj; cases hj⟩
   unfold wpList at h
   split
   ·rename_i hw
    rw [if_pos hw] at h
    exact h.imp (Oper.wp_mono hK) id
   ·rename_i hw
    rw [if_neg hw] at h
    exact hK _ _ h
  ·have h := (k1 m o (by omega) ho).1 e he hb
   rw [gp listed hs _ h]; exact hall _ h
 intro fuel
 induction fuel with
 | zero =>
  intro listed a w hs hu h
  exact fin listed (by omega) (unl_zero listed m (by omega)) 0 a w h.2
 | succ fuel ih =>
  intro listed a w hs hu h
  have hs : listed.size = m := by omega
  by_cases hall : ∀ i, i < m → listed.getD i false = true
  ·refine fin listed hs hall (fuel + 1) a w ?_
   refine h.1 (List.eq_nil_iff_forall_not_mem.2 fun i hi => ?_)
   obtain ⟨h1, x, hx, _⟩ := mem_ready.1 hi
   have hlt : i < L.dropLast.length := by simpa using (Array.getElem?_eq_some_iff.1 hx).1
   rw [gt listed hs i (by omega), hall i (by omega)] at h1
   cases h1
  ·-- the first that is not listed is ready
   obtain ⟨i0, hi0, hn0⟩ : ∃ i, i < m ∧ ¬ listed.getD i false = true := by
    refine Classical.byContradiction fun hc => hall fun i hi => Classical.byContradiction fun h' => hc ⟨i, hi, h'⟩
   obtain ⟨q1, j, r, e, hj, hq1⟩ := first_of (p := fun x => listed.getD x false = true) (List.range m) ⟨i0, List.mem_range.2 hi0, hn0⟩
   have hjm : j < m := List.mem_range.1 (by rw [e]; simp)
   have hmin : ∀ x, x < j → listed.getD x false = true := fun x hx => hq1 x (by
    have hmem : x ∈ List.range m := List.mem_range.2 (by omega)
    have hjl : (List.range m)[q1.length]? = some j := by rw [e]; simp
    have hq : q1.length = j := by
     have hlt : q1.length < m := by
      have := (List.getElem?_eq_some_iff.1 hjl).1
      simpa using this
     rw [List.getElem?_range hlt] at hjl
     exact Option.some.inj hjl
    have hx' : (List.range m)[x]? = q1[x]? := by rw [e, List.getElem?_append_left (by omega)]
    rw [List.getElem?_range (by omega)] at hx'
    exact List.mem_of_getElem? hx'.symm)
   have hjf : listed.getD j false = false := by
    cases hb : listed.getD j false with
    | false => rfl
    | true => exact absurd hb hj
   obtain ⟨y, hoj⟩ : ∃ y, L.dropLast[j]? = some y := ⟨_, List.getElem?_eq_getElem (by omega)⟩
   have hjr : j ∈ Region.ready .any L.dropLast.toArray listed := mem_ready.2 ⟨by rw [gt listed hs j hjm]; exact hjf, y, by simpa only [List.getElem?_toArray] using hoj, fun e he hb => hmin _ ((k1 j y (by omega) (by rw [← hd j hjm]; exact hoj)).1 e he hb)⟩
   refine ⟨fun hnil => ?_, fun i hi => ?_⟩
   ·have := (rdy listed hs j hjm).2 hjr
    rw [hnil] at this
    cases this
   ·have hilt : i < m + 1 := by
     obtain ⟨_, x, hx, _⟩ := mem_ready.1 hi
     have : i < L.length := by simpa using (Array.getElem?_eq_some_iff.1 hx).1
     omega
    have him : i < m := by
     rcases Nat.lt_or_ge i m with h' | h'
     ·exact h'
     ·exfalso
      have : i = m := by omega
      subst this
      obtain ⟨_, x, hx, hy⟩ := mem_ready.1 hi
      have hx : L[i]? = some x := by simpa using hx
      rw [ho] at hx; cases hx
      obtain ⟨e, he, hb, hon⟩ := k2 i0 hi0
      have := hy e he hb
      rw [hon, gp listed hs i0 hi0] at this
      exact hn0 this
    have hir := (rdy listed hs i him).1 hi
    have h2 := h.2 i hir
    have hif : listed.getD i false = false := by
     have := (mem_ready.1 hir).1
     rw [gt listed hs i him] at this; exact this
    have hset : (listed.push false).setIfInBounds i true = (listed.setIfInBounds i true).push false := by
     apply Array.ext_getElem?
     intro x
     simp only [Array.getElem?_setIfInBounds, Array.getElem?_push, Array.size_push, Array.size_setIfInBounds]
     by_cases hxi : i = x
     ·subst hxi; simp [show ¬ i = listed.size by omega, show i < listed.size by omega, show i < listed.size + 1 by omega]
     ·simp [hxi]
    have hu' : unl (listed.setIfInBounds i true) m ≤ fuel := by
     have := unl_set listed i hif (by omega) m
     rw [if_pos him] at this
     omega
    rw [hset]
    have K : ∀ a w, wpAny P .any L.dropLast.toArray (Exit.then (fun a w => wpList P L.toArray Q [o] a w) Q) fuel (listed.setIfInBounds i true) a w → wpAny P .any L.toArray Q (fuel + 1) ((listed.setIfInBounds i true).push false) a w := fun a w h => ih _ a w (by rw [Array.size_setIfInBounds]; exact hs) hu' h
    unfold wpOp at h2 ⊢
    simp only [List.getElem?_toArray, hd i him] at h2 ⊢
    obtain ⟨x, hx⟩ : ∃ x, L[i]? = some x := ⟨_, List.getElem?_eq_getElem (by omega)⟩
    simp only [hx] at h2 ⊢
    have hw : Region.wanted x (yielded L.dropLast.toArray a.tmps) = Region.wanted x (yielded L.toArray a.tmps) := by
     unfold Region.wanted
     cases hg : x.guard with
     | none => rfl
     | some p =>
      obtain ⟨j', b⟩ := p
      have := (k1 i x (by omega) hx).2 j' b hg
      simp only [yielded_last (L := L) (t := a.tmps) (j := j') (by omega)]
    rw [hw] at h2
    split
    ·rename_i hy
     rw [if_pos hy] at h2
     exact h2.imp (fun h => Oper.wp_mono K (wp_then h)) id
    ·rename_i hy
     rw [if_neg hy] at h2
     exact K _ _ h2
section
variable {P : Program} {c : Ctx} {N : Nat} {s : Slots} {fs : List Fact} {os : List Own} {Q : Exit → Act → World → Prop}
theorem Tr.drawL {id : Nat} {L : List Oper} {o : Oper} (n : Nat) (p ef : List Nat) (fa : List FreeA) (hm : P.follows .mixedOrders = true) (hlast : L.getLast? = some o) (hk : chkL L.toArray L.dropLast.length = true) (hc : chkW L.dropLast.toArray n p ef (fa.map (·.i)) = true) (hn : p.Nodup) (hfa : (fa.map (·.i)).Nodup)
  (hok : ∀ z ∈ fa, z.Ok P N L.dropLast.toArray)
  (h : Nw P c N L.dropLast.toArray n ef fa p (dropS (dsts L.dropLast.toArray) s) fs os [] (fun s' fs' os' => Rg P c N L.toArray Q [o] s' fs' os')) : Tr P c N Q (.region id L.toArray true) s fs os := by
 intro a w hs hw
 refine wp_region_any hm ?_
 have hg := GoodW.of_chk hc hn
 have hL : L ≠ [] := by rintro rfl; cases hlast
 have hlen : L.length = L.dropLast.length + 1 := by
  have := List.length_pos_iff.2 hL
  simp; omega
 have hrep : ∀ k i, (Array.replicate k false).getD i false = false := fun k i => by
  simp only [Array.getD_eq_getD_getElem?, Array.getElem?_replicate]
  split <;> rfl
 have e1 : L.toArray.size = L.dropLast.length + 1 := by simpa using hlen
 have e2 : Array.replicate (L.dropLast.length + 1) false = (Array.replicate L.dropLast.length false).push false := Array.replicate_succ
 rw [e1, e2]
 refine wpAny_last hlast hk L.dropLast.length _ a _ (by simp) ?_ ?_
 ·have : ∀ k n, unl (Array.replicate k false) n = n := fun k n => by
   induction n with
   | zero => rfl
   | succ n ih => unfold unl; rw [ih, hrep]; rfl
  rw [this]
  exact Nat.le_refl _
 ·have e3 : L.dropLast.toArray.size = L.dropLast.length := by simp
  refine Nw.any (c := c) (R := fun s' fs' os' => Rg P c N L.toArray Q [o] s' fs' os') (Q := Exit.then (fun a w => wpList P L.toArray Q [o] a w) Q) hg hfa hok (fun _ _ _ h => h) L.dropLast.length _ a _ [] p (dropS (dsts L.dropLast.toArray) s) fs os [] a [] ?_ (by simp) ?_
  ·refine ⟨rfl, by simpa [frames] using hw.drew, hs.weak fun t v hv => dropS_lk hv, hs.size, hs.defers, fun _ _ => rfl, fun _ _ _ _ _ _ _ => rfl, (fun e he => by cases he), List.nodup_nil, fun i hi => ?_, (fun i hi => by cases hi), (fun i hi => by cases hi), fun i hi o d ho hd => ?_, h, fun i o hi => ?_, (fun i hi => by cases hi)⟩
   ·rw [hrep] at hi; cases hi
   ·rw [lk_dropS]
    have : d ∈ dsts L.dropLast.toArray := List.mem_filterMap.2 ⟨o, by
     obtain ⟨hlt, he⟩ := Array.getElem?_eq_some_iff.1 ho
     rw [← he]
     exact Array.mem_toList_iff.2 (Array.getElem_mem hlt), hd⟩
    simp [this]
   ·rw [hrep] at hi; cases hi
  ·have : ∀ k n, unl (Array.replicate k false) n = n := fun k n => by
    induction n with
    | zero => rfl
    | succ n ih => unfold unl; rw [ih, hrep]; rfl
   rw [this, e3]
   exact Nat.le_refl _
theorem tLinT {id : Nat} {l : List Oper} (s' : Slots) (hs : SubS s s') (h : Lin P c fs os N l.toArray l s' (fun s' => At c N s' fs os (Q .normal))) : Tr P c N Q (.region id l.toArray false) s fs os :=
 Tr.trim s' hs (Tr.region fun a w h1 h2 => Lin.text l s' h (fun _ hR a w h3 h4 => hR a w h3 h4) a w h1 h2)
theorem tNwL {id : Nat} {L : List Oper} {o : Oper} (s' : Slots) (n : Nat) (p ef : List Nat) (fa : List FreeA) (hm : P.follows .mixedOrders = true) (hlast : L.getLast? = some o) (hk : chkL L.toArray L.dropLast.length = true) (hc : chkW L.dropLast.toArray n p ef (fa.map (·.i)) = true) (hn : p.Nodup) (hfa : (fa.map (·.i)).Nodup)
  (hs : SubS s s') (hd : dropS (dsts L.dropLast.toArray) s' = s') (hok : ∀ z ∈ fa, z.Ok P N L.dropLast.toArray)
  (h : Nw P c N L.dropLast.toArray n ef fa p s' fs os [] (fun s' fs' os' => Rg P c N L.toArray Q [o] s' fs' os')) : Tr P c N Q (.region id L.toArray true) s fs os :=
 Tr.trim s' hs (Tr.drawL n p ef fa hm hlast hk hc hn hfa hok (by rw [hd]; exact h))
end
end Go.Sx

namespace Go.Sx
open Go Go.RowKit
variable {P : Program} {c : Ctx} {N : Nat} {s : Slots} {fs : List Fact} {os os1 os' : List Own} {Q : Exit → Act → World → Prop} {code : Code}
variable {d : Option Tmp} {ty : TypeId} {pos : String} {af : Array Edge} {gd : Option (Nat × Bool)}
theorem Del.perm {os os' : List Own} {o : Own} (h : Del os o os') : os.Perm (o :: os') := by
 induction h with
 | here => exact List.Perm.refl _
 | there _ ih => exact (List.Perm.cons _ ih).trans (List.Perm.swap _ _ _)
theorem Take.perm {os r os' : List Own} (h : Take os r os') : os.Perm (r ++ os') := by
 induction h with
 | nil => exact List.Perm.refl _
 | cons hd _ ih => exact (Del.perm hd).trans (List.Perm.cons _ ih)
def I32 (n : Int) : Prop := -2147483648 ≤ n ∧ n ≤ 2147483647
instance (n : Int) : Decidable (I32 n) := by unfold I32; infer_instance
def s1 (n : Int) : ByteArray := ⟨#[UInt8.ofNat n.toNat]⟩
def asc (n : Int) : Prop := 0 ≤ n ∧ n < 128
instance (n : Int) : Decidable (asc n) := by unfold asc; infer_instance
def HV := { v : Value // v.oneCell' = true }
instance : Inhabited HV := ⟨⟨.bool false, rfl⟩⟩
instance : Enc HV where
  sz := 1
  pos := by omega
  Rd := fun _ _ cs n => cs = [n.1]
  len := by rintro w S cs d rfl; rfl
  one := by rintro w S cs d rfl u hu; simp at hu; subst hu; exact d.2
  keep := fun h _ _ => h
  Tr := fun _ _ cs n => cs = [n.1]
  tr_rd := fun h => h
  tr_keep := fun h _ _ => h
instance : Flat HV where
  enc := fun n => [n.1]
  wf := fun _ => True
  rd := fun h => ⟨h, trivial⟩
  tr := fun _ => rfl
instance : Shp HV where
  γ := Unit
  x0 := ()
  enc := fun n _ => [n.1]
  len' := fun _ _ => rfl
  rd := fun h => ⟨(), h⟩
instance : ShpT HV where
  wf := fun _ => True
  wfa := fun _ => trivial
  own := fun _ _ => []
  facts := fun _ _ => []
  wfr := fun _ => trivial
  un := fun h => ⟨(), h, fun _ => trivial⟩
  mkT := fun _ _ => rfl
  mkR := fun _ _ => rfl
instance : Dp HV where
  δ := Unit
  dd := ()
  denc := fun n _ => [n.1]
  drd := fun _ _ _ _ => True
  keepd := fun h _ _ => h
  op := fun h => ⟨(), h, trivial⟩
  cl := fun _ => rfl
  ok := fun _ => True
  okd := fun _ => trivial
end Go.Sx

namespace Go.Sx
open Go Go.RowKit
variable {α : Type} [Inhabited α]
theorem addI {n : Nat} : (n : Int) + 1 = ((n + 1 : Nat) : Int) := by omega
theorem sless_lt (m n : ByteArray) : sless m n = decide (m.toList < n.toList) := by
 unfold sless
 have : ∀ (x y : List UInt8), Op.bytesLess x y = decide (x < y) := by
  intro x
  induction x with
  | nil => intro y; cases y <;> simp [Op.bytesLess]
  | cons a x ih =>
   intro y
   cases y with
   | nil => simp [Op.bytesLess]
   | cons b y =>
    have hb : (a == b) = decide (a = b) := by by_cases h : a = b <;> simp [h]
    simp only [Op.bytesLess, List.cons_lt_cons_iff, ih, hb]; simp
 exact this _ _
end Go.Sx

namespace Go.Sx
open Go Go.RowKit
theorem FnL.call {L : Prop} {P : Program} {c : Ctx} {fs : List Fact} {os os' : List Own} {ι : Type} {f : FuncId} {args : Array Value} {fsC : List Fact} {osC : List Own} {rv : ι → Value} {osR : ι → List Own}
  (hc : FnL L P f args fsC osC rv (fun _ => []) osR) (hsoC : Solo osC) (hsolo : ∀ i, Solo (osR i)) (ht : Take os osC os') (he : EntsB fs os' fsC) {w : World} (hw : Sta c fs os w) (hL : L → c.L := by exact False.elim) :
  Calls P f args w fun e w' => ∃ i, e = .returned (rv i) ∧ Sta c fs (osR i ++ os') w' := by
 obtain ⟨I, S, hst⟩ := hw
 obtain ⟨S1, S2, m1, m2, dj, h1, h2⟩ := ht.sep hst.own
 refine (hc w (fun b => I b ∨ S2 b) S1 ⟨fun f hf => he f hf w I S2 hst.facts h2, hsoC.sep h1, fun b hi hs => hi.elim (fun hi => hst.dj b hi (m1 b hs)) (fun h => dj b hs h), fun b hb => hb.elim (hst.ilt b) (fun h => hst.slt b (m2 b h)), fun b hb => hst.slt b (m1 b hb), fun _ => .inl, fun _ => .inl, fun _ h => h, Frm.refl _ _⟩).mono ?_
 rintro e w' ⟨i, rfl, I', S', h'⟩
 refine ⟨i, rfl, I, fun b => S' b ∨ S2 b, ?_⟩
 have hsame : ∀ b, b < w.heap.size → ¬ S1 b → w'.heap[b]? = w.heap[b]? := fun b hb hn => h'.frm.block b hb hn
 have hsz := h'.frm.size
 have hI : Same I w w' := fun b hb => hsame b (hst.ilt b hb) fun h => hst.dj b hb (m1 b h)
 have hS2 : Same S2 w w' := fun b hb => hsame b (hst.slt b (m2 b hb)) fun h => dj b h hb
 have hS'2 : ∀ b, S' b → S2 b → False := fun b h1 h2 => (h'.snew b h1).elim (fun h => dj b h h2) (fun h => by simp only at h; have := hst.slt b (m2 b h2); omega)
 refine ⟨fun f hf => f.keep (hst.facts f hf) hI (fun _ h => h), Sep.append hS'2 ((hsolo i).sep h'.own) (h2.keep hI hS2 (fun _ h => h) (fun _ h => h)), fun b hi hb => ?_, fun b hb => Nat.lt_of_lt_of_le (hst.ilt b hb) hsz, fun b hb => ?_, hst.inew, fun b hb => ?_, hst.i0,
  ⟨h'.frm.os.trans hst.frm.os, (h'.frm.tape.wk hL).trans hst.frm.tape, h'.frm.output.trans hst.frm.output, Nat.le_trans hst.frm.size hsz, fun b hb hx => (hsame b (Nat.lt_of_lt_of_le hb hst.frm.size) fun h => ?_).trans (hst.frm.block b hb hx)⟩⟩
 ·rcases hb with hb | hb
  ·rcases h'.snew b hb with h | h
   ·exact hst.dj b hi (m1 b h)
   ·simp only at h; have := hst.ilt b hi; omega
  ·exact hst.dj b hi (m2 b hb)
 ·rcases hb with hb | hb
  ·exact h'.slt b hb
  ·exact Nat.lt_of_lt_of_le (hst.slt b (m2 b hb)) hsz
 ·rcases hb with hb | hb
  ·rcases h'.snew b hb with h | h
   ·exact hst.snew b (m1 b h)
   ·exact .inr (Nat.le_trans hst.frm.size h)
  ·exact hst.snew b (m2 b hb)
 ·rcases hst.snew b (m1 b h) with h | h
  ·exact hx h
  ·omega
theorem Sep.toList {τ : Type} {w : World} {I : Blks} : ∀ (q : List τ) (f : τ → Own) {S : Blks}, Sep (q.map f) w I S → ∃ Ss : Nat → Blks, (∀ i, i < q.length → ∀ b, Ss i b → S b) ∧ (∀ i j, i < j → j < q.length → ∀ b, Ss i b → Ss j b → False) ∧ ∀ i (h : i < q.length), (f q[i]).ok w I (Ss i)
 | [], _, _, _ => ⟨fun _ _ => False, fun _ h => absurd h (Nat.not_lt_zero _), fun _ _ _ h => absurd h (Nat.not_lt_zero _), fun _ h => absurd h (Nat.not_lt_zero _)⟩
 | x :: q, f, S, ⟨A, B, mA, mB, dj, hx, hr⟩ => by
  obtain ⟨Ss, k1, k2, k3⟩ := Sep.toList q f hr
  refine ⟨fun i => match i with | 0 => A | i + 1 => Ss i, fun i hi b hb => ?_, fun i j hij hj b h1 h2 => ?_, fun i hi => ?_⟩
  ·cases i with
   | zero => exact mA b hb
   | succ i => exact mB b (k1 i (Nat.lt_of_succ_lt_succ hi) b hb)
  ·cases j with
   | zero => omega
   | succ j =>
    cases i with
    | zero => exact dj b h1 (k1 j (Nat.lt_of_succ_lt_succ hj) b h2)
    | succ i => exact k2 i j (by omega) (Nat.lt_of_succ_lt_succ hj) b h1 h2
  ·cases i with
   | zero => exact hx
   | succ i => exact k3 i (Nat.lt_of_succ_lt_succ hi)
variable {α γ : Type} [Flat α] [Enc γ] {c : Ctx} {fs : List Fact} {os os1 : List Own} {w : World}
end Go.Sx

namespace Go.Sx
open Go Go.RowKit
variable {P : Program} {c : Ctx} {N : Nat} {s : Slots} {fs : List Fact} {os os1 os' : List Own} {Q : Exit → Act → World → Prop} {code : Code}
variable {d : Option Tmp} {ty : TypeId} {pos : String} {af : Array Edge} {gd : Option (Nat × Bool)}
end Go.Sx

namespace Go.Sx
open Go
theorem Del.mid {o : Own} {os : List Own} : ∀ ps : List Own, Del (ps ++ o :: os) o (ps ++ os)
 | [] => .here
 | _ :: ps => .there (Del.mid ps)
section
variable {P : Program} {c : Ctx} {N : Nat} {s : Slots} {fs : List Fact} {os os0 os1 : List Own}
variable {d : Option Tmp} {ty : TypeId} {pos : String} {af : Array Edge} {gd : Option (Nat × Bool)}
end
end Go.Sx

namespace Go.Sx
open Go
section
variable {P : Program} {c : Ctx} {N : Nat} {s : Slots} {fs fs0 : List Fact} {os : List Own} {Q : Exit → Act → World → Prop}
end
end Go.Sx

namespace Go.Sx
open Go Go.RowKit
def orow {α : Type} [Enc α] (v : Value) (l : List α) : Own :=
  ⟨fun w I S => (v = .slice none 0 0 ∧ l = []) ∨
      ∃ g o cap cur ty, v = .slice (some ⟨g, o, none⟩) l.length cap ∧ S g ∧ w.heap[g]? = some (.cells cur ty (0, 0)) ∧ l.length ≤ cap ∧ cap ≤ maxLen ∧ o + cap * Enc.sz α ≤ cur.size ∧
        ∀ i (h : i < l.length), Enc.Rd w I ((cur.toList.drop (o + i * Enc.sz α)).take (Enc.sz α)) l[i],
   fun {w w' I I' S S'} h hi hs hm hm' => by
     rcases h with h | ⟨g, o, cap, cur, ty, e, hg, hh, h1, h2, h3, h4⟩
     · exact .inl h
     · exact .inr ⟨g, o, cap, cur, ty, e, hm' _ hg, (hs g hg).trans hh, h1, h2, h3, fun i hi' => Enc.keep (h4 i hi') hi hm⟩⟩
theorem addr_add (g o n : Nat) : (⟨g, o, none⟩ : Addr).add n = ⟨g, o + n, none⟩ := by
 have e : (⟨g, o, none⟩ : Addr) = (⟨g, 0, none⟩ : Addr).add o := by rw [Addr.add_lit]; simp
 rw [e, add_add, Addr.add_lit]; simp
theorem ORowL.rd {α : Type} [Enc α] {w : World} {I S : Blks} {v : Value} {l : List α} (h : (orow v l).ok w I S) : RdL w (fun b => I b ∨ S b) v l := by
 rcases h with ⟨rfl, rfl⟩ | ⟨g, o, cap, cur, ty, e, hg, hh, h1, h2, h3, h4⟩
 ·exact ⟨none, 0, rfl, Nat.le_refl _, by simp [maxLen], fun i hi => absurd hi (Nat.not_lt_zero _)⟩
 ·refine ⟨_, cap, e, h1, h2, fun i hi => ⟨_, _, rfl, .inr hg, ?_, Enc.keep (h4 i hi) (Same.refl _ _) (fun b => .inl)⟩⟩
  have := cellsAt_row hh (o + i * Enc.sz α) (Enc.sz α)
  rw [Addr.add_lit] at this
  rw [addr_add]
  simpa using this
section
variable {P : Program} {c : Ctx} {N : Nat} {s : Slots} {fs : List Fact} {os os1 os' : List Own} {Q : Exit → Act → World → Prop} {code : Code}
variable {d : Option Tmp} {ty : TypeId} {pos : String} {af : Array Edge} {gd : Option (Nat × Bool)}
theorem EntB.orow {fs : List Fact} {os : List Own} {α : Type} [Enc α] {v : Value} {l : List α} (h : Has os (orow v l)) : EntB fs os (imm v l) := fun w I S _ hs => by
 obtain ⟨S1, m, ho⟩ := Sep.has h hs
 exact RdL.keep (S' := fun b => I b ∨ S b) (ORowL.rd ho) (Same.refl _ _) fun b hb => hb.imp id (m b)
theorem ORowL.append {α : Type} [Enc α] {w w' : World} {I S : Blks} {l : List α} {u : α} {g o : Nat} {cur : Array Value} {news : List Value} (hg : S g)
  (hel : ∀ i (h : i < l.length), Enc.Rd w I ((cur.toList.drop (o + i * Enc.sz α)).take (Enc.sz α)) l[i]) (hle : o + l.length * Enc.sz α ≤ cur.size)
  (hIlt : ∀ b, I b → b < w.heap.size) (hIS : ∀ b, I b → S b → False) (hu : Enc.Rd w I news u)
  {g' o' cap' : Nat} {cur' : Array Value} {bt' : TypeId} (hh' : w'.heap[g']? = some (.cells cur' bt' (0, 0))) (h1 : l.length + 1 ≤ cap') (h2 : cap' ≤ maxLen) (h3 : o' + cap' * Enc.sz α ≤ cur'.size)
  (hcur : (cur'.toList.drop o').take ((l.length + 1) * Enc.sz α) = (cur.toList.drop o).take (l.length * Enc.sz α) ++ news)
  (hsame : ∀ b, b < w.heap.size → b ≠ g' → w'.heap[b]? = w.heap[b]?) (hgg : g' = g ∨ g' = w.heap.size) :
  (orow (.slice (some ⟨g', o', none⟩) (l.length + 1) cap') (l ++ [u])).ok w' I (fun b => S b ∨ b = g') := by
 have hIg : ∀ b, I b → b ≠ g' := fun b hb e => by
  subst e
  rcases hgg with rfl | h
  ·exact hIS _ hb hg
  ·have := hIlt _ hb; omega
 have hsI : Same I w w' := fun b hb => hsame b (hIlt b hb) (hIg b hb)
 refine .inr ⟨g', o', cap', cur', bt', by rw [List.length_append, List.length_singleton], .inr rfl, hh', by rw [List.length_append, List.length_singleton]; exact h1, h2, h3, fun i hi => ?_⟩
 rw [List.length_append, List.length_singleton] at hi
 have hla : ((cur.toList.drop o).take (l.length * Enc.sz α)).length = l.length * Enc.sz α := by
  have hcl : cur.toList.length = cur.size := Array.length_toList
  rw [List.length_take, List.length_drop]; omega
 have key := take_drop_append (n := l.length) (m := 1) (sz := Enc.sz α) (i := i) hcur hla hi
 rw [List.drop_drop] at key
 rw [key]
 split
 ·rename_i hlt
  rw [List.getElem_append_left hlt, List.drop_take, List.drop_drop, List.take_take]
  have hm : i * Enc.sz α + Enc.sz α ≤ l.length * Enc.sz α := by
   have := Nat.mul_le_mul_right (Enc.sz α) (show i + 1 ≤ l.length by omega)
   rw [Nat.add_mul] at this
   omega
  rw [Nat.min_eq_left (by omega)]
  exact Enc.keep (hel i hlt) hsI (fun _ h => h)
 ·rename_i hge
  have hil : i = l.length := by omega
  subst hil
  rw [List.getElem_append_right (by omega)]
  simp only [Nat.sub_self, Nat.zero_mul, List.drop_zero, List.getElem_singleton]
  rw [List.take_of_length_le (by rw [Enc.len hu]; exact Nat.le_refl _)]
  exact Enc.keep hu hsI (fun _ h => h)
end
end Go.Sx

namespace Go.Sx
open Go Go.RowKit
section
variable {P : Program} {c : Ctx} {N : Nat} {s : Slots} {fs : List Fact} {os os1 os' : List Own} {Q : Exit → Act → World → Prop} {code : Code}
variable {d : Option Tmp} {ty : TypeId} {pos : String} {af : Array Edge} {gd : Option (Nat × Bool)}
theorem p_min {k : IntKind} {x y : Operand} {t t' : TypeId} {m n : Int} (hx : ev s x = some (.int k m)) (hy : ev s y = some (.int k n)) :
  Pu P N s ⟨d, .call { callee := .builtin .min, args := #[x, y], argTypes := #[t, t'] }, ty, pos, af, gd⟩ (.int k (min m n)) := fun a w hs => by
 have e : (if n < m then n else m) = min m n := by rw [Int.min_def]; split <;> split <;> omega
 simp [execOp, resolve, invoke, builtin, hs.ev hx, hs.ev hy, Builtin.min_, Builtin.min2, e]
end
end Go.Sx

namespace Go.Sx
open Go Go.RowKit
section
variable {P : Program} {c : Ctx} {N : Nat} {s : Slots} {fs : List Fact} {os os1 os' : List Own} {Q : Exit → Act → World → Prop} {code : Code}
variable {d : Option Tmp} {ty : TypeId} {pos : String} {af : Array Edge} {gd : Option (Nat × Bool)}
end
end Go.Sx

namespace Go.Sx
open Go Go.RowKit
section
variable {P : Program} {c : Ctx} {N : Nat} {s : Slots} {fs : List Fact} {os : List Own} {ops : Array Oper} {rest : List Oper} {Q : Exit → Act → World → Prop} {v : Value} {R : Slots → Prop}
variable {d : Nat} {op : Op} {ty : TypeId} {pos : String} {af : Array Edge}
theorem Rg.p (h : Pu P N s ⟨some d, op, ty, pos, af, none⟩ v) (k : Rg P c N ops Q rest ((d, v) :: s) fs os) (hd : d < N := by decide) : Rg P c N ops Q (⟨some d, op, ty, pos, af, none⟩ :: rest) s fs os := Rg.q (Pu.qo h) hd k
theorem Rg.o (h : Qo P c fs os N s ⟨some d, op, ty, pos, af, none⟩ v) (k : Rg P c N ops Q rest ((d, v) :: s) fs os) (hd : d < N := by decide) : Rg P c N ops Q (⟨some d, op, ty, pos, af, none⟩ :: rest) s fs os := Rg.q h hd k
theorem Rg.m {x : Operand} (h : ev s x = some v) (k : Rg P c N ops Q rest ((d, v) :: s) fs os) (hd : d < N := by decide) : Rg P c N ops Q (⟨some d, .move x, ty, pos, af, none⟩ :: rest) s fs os := Rg.q (Pu.qo (p_move h)) hd k
theorem Rg.a {x : Operand} (h : ev s x = some v) (k : Rg P c N ops Q rest ((d, v) :: s) fs os) (hd : d < N := by decide) : Rg P c N ops Q (⟨some d, .assign x, ty, pos, af, none⟩ :: rest) s fs os := Rg.q (Pu.qo (p_assign h)) hd k
theorem Lin.p (h : Pu P N s ⟨some d, op, ty, pos, af, none⟩ v) (k : Lin P c fs os N ops rest ((d, v) :: s) R) (hd : d < N := by decide) : Lin P c fs os N ops (⟨some d, op, ty, pos, af, none⟩ :: rest) s R := Lin.q hd (Pu.qo h) k
theorem Lin.o (h : Qo P c fs os N s ⟨some d, op, ty, pos, af, none⟩ v) (k : Lin P c fs os N ops rest ((d, v) :: s) R) (hd : d < N := by decide) : Lin P c fs os N ops (⟨some d, op, ty, pos, af, none⟩ :: rest) s R := Lin.q hd h k
theorem Lin.m {x : Operand} (h : ev s x = some v) (k : Lin P c fs os N ops rest ((d, v) :: s) R) (hd : d < N := by decide) : Lin P c fs os N ops (⟨some d, .move x, ty, pos, af, none⟩ :: rest) s R := Lin.q hd (Pu.qo (p_move h)) k
theorem Lin.h {g : Nat × Bool} (hw : wtd ops s ⟨some d, op, ty, pos, af, some g⟩ = some true) (h : Pu P N s ⟨some d, op, ty, pos, af, some g⟩ v) (k : Lin P c fs os N ops rest ((d, v) :: s) R) (hd : d < N := by decide) : Lin P c fs os N ops (⟨some d, op, ty, pos, af, some g⟩ :: rest) s R := Lin.g hd hw (Pu.qo h) k
theorem Lin.i {g : Nat × Bool} (hw : wtd ops s ⟨some d, op, ty, pos, af, some g⟩ = some true) (h : Qo P c fs os N s ⟨some d, op, ty, pos, af, some g⟩ v) (k : Lin P c fs os N ops rest ((d, v) :: s) R) (hd : d < N := by decide) : Lin P c fs os N ops (⟨some d, op, ty, pos, af, some g⟩ :: rest) s R := Lin.g hd hw h k
theorem Lin.sk {g : Nat × Bool} (hw : wtd ops s ⟨some d, op, ty, pos, af, some g⟩ = some false) (k : Lin P c fs os N ops rest ((d, undef) :: s) R) (hd : d < N := by decide) : Lin P c fs os N ops (⟨some d, op, ty, pos, af, some g⟩ :: rest) s R := Lin.skip hd hw k
end
section
variable {P : Program} {c : Ctx} {N : Nat} {ops : Array Oper} {n : Nat} {ef p : List Nat} {fa : List FreeA} {R : Slots → List Fact → List Own → Prop} {s : Slots} {fs : List Fact} {os : List Own} {pd : List Nat} {v : Value}
variable {i d : Nat} {op : Op} {ty : TypeId} {pos : String} {af : Array Edge} {gd : Option (Nat × Bool)}
theorem w_p (ho : ops[i]? = some ⟨some d, op, ty, pos, af, gd⟩) (hp : Pu P N s ⟨some d, op, ty, pos, af, gd⟩ v) (k : Nw P c N ops n ef fa p ((d, v) :: s) fs os pd R)
  (hN : d < N := by decide) (he : ef.contains i = false := by rfl) (hf : (fa.map (·.i)).contains i = false := by rfl) (hw : wtd ops s ⟨some d, op, ty, pos, af, gd⟩ = some true := by rfl) : Nw P c N ops n ef fa (i :: p) s fs os pd R := w_pu ho hN he hf hw hp k
theorem w_o (ho : ops[i]? = some ⟨some d, op, ty, pos, af, gd⟩) (hp : QF P c fs os N s ⟨some d, op, ty, pos, af, gd⟩ v) (k : Nw P c N ops n ef fa p ((d, v) :: s) fs os (i :: pd) R)
  (hN : d < N := by decide) (he : ef.contains i = false := by rfl) (hf : (fa.map (·.i)).contains i = false := by rfl) (hw : wtd ops s ⟨some d, op, ty, pos, af, gd⟩ = some true := by rfl) : Nw P c N ops n ef fa (i :: p) s fs os pd R := w_q ho hN he hf hw hp k
end
section
variable {P : Program} {c : Ctx} {N : Nat} {s : Slots} {fs : List Fact} {os : List Own} {ops : Array Oper} {rest : List Oper} {Q : Exit → Act → World → Prop}
variable {pos : String} {af : Array Edge} {gd : Option (Nat × Bool)} {ty : TypeId}
theorem Rg.ef {t : Nat} {op : Op} {next : Value → List Fact → List Own → Prop} (he : Eo P c fs os N s ⟨some t, op, ty, pos, af, gd⟩ next) (hw : wtd ops s ⟨some t, op, ty, pos, af, gd⟩ = some true)
  (k : ∀ v fs' os', next v fs' os' → Rg P c N ops Q rest ((t, v) :: s) fs' os') (hd : t < N := by decide) : Rg P c N ops Q (⟨some t, op, ty, pos, af, gd⟩ :: rest) s fs os := Rg.ed he hw hd k
theorem one_of {v : Value} (h : (v.cells.toList.all fun u => u.oneCell') = true) : ∀ u ∈ v.cells.toList, u.oneCell' = true := List.all_eq_true.1 h
end
section
variable {P : Program} {c : Ctx} {N : Nat} {s : Slots} {fs : List Fact} {os : List Own} {ops : Array Oper} {rest : List Oper} {Q : Exit → Act → World → Prop} {R : Slots → Prop}
variable {d : Nat} {op : Op} {ty : TypeId} {pos : String} {af : Array Edge} {b b' : Bool}
theorem Rg.e_ (h : Pu P N s ⟨some d, op, ty, pos, af, none⟩ (.bool b)) (e : b = b') (k : Rg P c N ops Q rest ((d, .bool b') :: s) fs os) (hd : d < N := by decide) : Rg P c N ops Q (⟨some d, op, ty, pos, af, none⟩ :: rest) s fs os := Rg.q (Qo.eqv (Pu.qo h) (congrArg Value.bool e)) hd k
theorem Lin.e_ (h : Pu P N s ⟨some d, op, ty, pos, af, none⟩ (.bool b)) (e : b = b') (k : Lin P c fs os N ops rest ((d, .bool b') :: s) R) (hd : d < N := by decide) : Lin P c fs os N ops (⟨some d, op, ty, pos, af, none⟩ :: rest) s R := Lin.q hd (Qo.eqv (Pu.qo h) (congrArg Value.bool e)) k
theorem Lin.f_ {g : Nat × Bool} (hw : wtd ops s ⟨some d, op, ty, pos, af, some g⟩ = some true) (h : Pu P N s ⟨some d, op, ty, pos, af, some g⟩ (.bool b)) (e : b = b') (k : Lin P c fs os N ops rest ((d, .bool b') :: s) R) (hd : d < N := by decide) : Lin P c fs os N ops (⟨some d, op, ty, pos, af, some g⟩ :: rest) s R := Lin.g hd hw (Qo.eqv (Pu.qo h) (congrArg Value.bool e)) k
end
section
variable {P : Program} {c : Ctx} {N : Nat} {s : Slots} {fs : List Fact} {os : List Own} {fn : Func} {rv : Unit → Value} {fsR : Unit → List Fact} {osR : Unit → List Own}
theorem bk1 {t : Tmp} {osX : List Own} {v : Value} (hr : fn.results = #[.tmp t]) (h1 : lk s t = some v) (hv : v = rv ()) (hf : fsR () = []) (ho : Take os (osR ()) osX) :
  At c N s fs os (bodyPost P fn (fun e w' => ∃ x, e = .returned (rv x) ∧ Sta c (fsR x) (osR x) w') .ret) := back1 () hr (ResV.tmp h1) hv (by rw [hf]; exact Ents.nil) ho
end
section
variable {a b e f g h o : Own} {os os' : List Own}
theorem hs1 : Has (a :: o :: os) o := .there .here
theorem hs2 : Has (a :: b :: o :: os) o := .there hs1
theorem hs3 : Has (a :: b :: e :: o :: os) o := .there hs2
theorem dl1 : Del (a :: o :: os) o (a :: os) := .there .here
theorem dl2 : Del (a :: b :: o :: os) o (a :: b :: os) := .there dl1
theorem dl3 : Del (a :: b :: e :: o :: os) o (a :: b :: e :: os) := .there dl2
theorem up1 {o' : Own} : Upd (a :: o :: os) o o' (a :: o' :: os) := .there .here
theorem up2 {o' : Own} : Upd (a :: b :: o :: os) o o' (a :: b :: o' :: os) := .there up1
theorem up3 {o' : Own} : Upd (a :: b :: e :: o :: os) o o' (a :: b :: e :: o' :: os) := .there up2
end
theorem si {α : Type} {a b : α} (h : some a = some b) : a = b := Option.some.inj h
end Go.Sx

namespace Go.Sx
open Go Go.RowKit
section
variable {P : Program} {c : Ctx} {N : Nat} {s : Slots} {fs fs0 : List Fact} {os : List Own} {Q : Exit → Act → World → Prop} {x y : Code} {β : Type} {r : β}
theorem sr {id : Nat} {l : List Oper} (h : Rg P c N l.toArray (Exit.then (fun a w => y.wp P Q a w) Q) l s fs os) : Tr P c N Q (.seq (.region id l.toArray false) y) s fs os := Tr.seq (Tr.region h)
theorem nl {ops : Array Oper} (h : Tr P c N Q y s fs os) : Rg P c N ops (Exit.then (fun a w => y.wp P Q a w) Q) [] s fs os := Rg.nl (nT h)
theorem cH {o : Operand} {b : Bool} {A B : Option β} (H : cond b A B = some r) (ho : ev s o = some (.bool b)) (ht : b = true → A = some r → Tr P c N Q x s fs os) (hf : b = false → B = some r → Tr P c N Q y s fs os) : Tr P c N Q (.cond o x y) s fs os :=
 Tr.cond ho (fun h => ht h (cdT h H)) (fun h => hf h (cdF h H))
theorem sm {α : Type} {a b : α} (h : some a = some b) : b = a := (Option.some.inj h).symm
variable {σ ε Λ τ : Type}
def LP (c : Ctx) (N : Nat) (f : σ → Option (σ ⊕ ε)) (e : ε) (m : Nat) (fs : List Fact) (s' : σ → Λ → Slots) (os' : σ → Λ → List Own) (a : Act) (w : World) : Prop :=
 ∃ j : { q : Nat × σ × Λ // itr f q.1 q.2.1 = some e }, j.1.1 < m + 1 ∧ Sl N (s' j.1.2.1 j.1.2.2) a ∧ Sta c fs (os' j.1.2.1 j.1.2.2) w
def MP (c : Ctx) (N : Nat) (u : ε ⊕ τ) (fs : List Fact) (s' : ε → Λ → Slots) (os' : ε → Λ → List Own) (a : Act) (w : World) : Prop :=
 ∃ i : { q : ε × Λ // u = .inl q.1 }, Sl N (s' i.1.1 i.1.2) a ∧ Sta c fs (os' i.1.1 i.1.2) w
theorem tLoopI {f : σ → Option (σ ⊕ ε)} {q0 : σ} {e : ε} (hx : lp f q0 = some e) (z0 : Λ) (s' : σ → Λ → Slots) (os' : σ → Λ → List Own) {osR : List Own}
  (ho : Take os (os' q0 z0) osR)
  (round : ∀ m q z t, f q = some t → (∀ q', t = .inl q' → itr f m q' = some e) → (∀ e', t = .inr e' → e' = e) →
   Tr P c N (Exit.then (LP c N f e m fs s' os') Q) x (s' q z) fs (os' q z)) (hs : SubS s (s' q0 z0) := by repeat first | exact trivial | refine ⟨rfl, ?_⟩) :
  Tr P c N Q (.loop x) s fs os := by
 obtain ⟨n, hx⟩ := lp.of hx
 refine tLoopC (ι := { q : Nat × σ × Λ // itr f q.1 q.2.1 = some e }) (fun ζ => s' ζ.1.2.1 ζ.1.2.2) (fun ζ => os' ζ.1.2.1 ζ.1.2.2) (fun ζ => ζ.1.1) ⟨(n, q0, z0), hx⟩ hs ho ?_
 rintro ⟨⟨m, q, z⟩, hk⟩
 obtain ⟨m, t, e1, H, hi, hb⟩ := itr.of (n := m) (s := q) hk
 subst e1
 exact round m q z t H hi hb
theorem nLI {f : σ → Option (σ ⊕ ε)} {e : ε} {m : Nat} {s' : σ → Λ → Slots} {os' : σ → Λ → List Own} {osR : List Own} {q : σ} (z : Λ) (hi : itr f m q = some e) (ho : Take os (os' q z) osR) (hs : SubS s (s' q z) := by repeat first | exact trivial | refine ⟨rfl, ?_⟩) (hf : Ents fs fs0 := by exact Ents.refl) :
  At c N s fs os (Exit.then (LP c N f e m fs0 s' os') Q .normal) :=
 fun _ _ h1 h2 => ⟨⟨(m, q, z), hi⟩, Nat.lt_succ_self _, h1.weak hs.lk, h2.weak hf ho⟩
theorem tMidI {k1 : ε → Option β} {k2 : τ → Option β} {u : ε ⊕ τ} (H : sw k1 k2 u = some r) (s' : ε → Λ → Slots) (os' : ε → Λ → List Own)
  (h : Tr P c N (Exit.then (MP c N u fs s' os') Q) x s fs os)
  (k : ∀ e z, k1 e = some r → At c N (s' e z) fs (os' e z) (Q .normal)) : Tr P c N Q x s fs os :=
 tMidNC (ι := { q : ε × Λ // u = .inl q.1 }) (fun ψ => s' ψ.1.1 ψ.1.2) (fun ψ => os' ψ.1.1 ψ.1.2) h (by
  rintro ⟨⟨e, z⟩, hx⟩
  subst hx
  exact k e z (sw.l H))
theorem nMI {u : ε ⊕ τ} {s' : ε → Λ → Slots} {os' : ε → Λ → List Own} {osR : List Own} {e : ε} (z : Λ) (hi : .inl e = u) (ho : Take os (os' e z) osR) (hs : SubS s (s' e z) := by repeat first | exact trivial | refine ⟨rfl, ?_⟩) (hf : Ents fs fs0 := by exact Ents.refl) :
  At c N s fs os (Exit.then (MP c N u fs0 s' os') Q .normal) :=
 fun _ _ h1 h2 => ⟨⟨(e, z), hi.symm⟩, h1.weak hs.lk, h2.weak hf ho⟩
theorem gdo {c : Prop} [Decidable c] {k : Option β} {X : Prop} (H : gd c k = some r) (f : c → k = some r → X) : X := (gd.of H).elim f
theorem bdo {α : Type} {o : Option α} {k : α → Option β} {X : Prop} (H : bd o k = some r) (f : ∀ a, o = some a → k a = some r → X) : X := (bd.of H).elim fun a h => f a h.1 h.2
end
section
variable {P : Program} {c : Ctx} {N : Nat} {s : Slots} {fs : List Fact} {os : List Own} {Q : Exit → Act → World → Prop} {ops : Array Oper} {rest : List Oper}
variable {op : Op} {ty : TypeId} {pos : String} {af : Array Edge} {gd : Option (Nat × Bool)}
theorem f0 {t : Nat} {v0 : Value} {f0 : List Fact} {o0 : List Own} (he : Eo P c fs os N s ⟨some t, op, ty, pos, af, gd⟩ (fun v fs' os' => v = v0 ∧ fs' = f0 ∧ os' = o0)) (k : Rg P c N ops Q rest ((t, v0) :: s) f0 o0) (hw : wtd ops s ⟨some t, op, ty, pos, af, gd⟩ = some true := by rfl) (hd : t < N := by decide) :
  Rg P c N ops Q (⟨some t, op, ty, pos, af, gd⟩ :: rest) s fs os := Rg.ed he hw hd (by rintro _ _ _ ⟨rfl, rfl, rfl⟩; exact k)
theorem f1 {t : Nat} {A : Type} {v0 : A → Value} {f0 : A → List Fact} {o0 : A → List Own} (he : Eo P c fs os N s ⟨some t, op, ty, pos, af, gd⟩ (fun v fs' os' => ∃ x, v = v0 x ∧ fs' = f0 x ∧ os' = o0 x)) (k : ∀ x, Rg P c N ops Q rest ((t, v0 x) :: s) (f0 x) (o0 x)) (hw : wtd ops s ⟨some t, op, ty, pos, af, gd⟩ = some true := by rfl) (hd : t < N := by decide) :
  Rg P c N ops Q (⟨some t, op, ty, pos, af, gd⟩ :: rest) s fs os := Rg.ed he hw hd (by rintro _ _ _ ⟨x, rfl, rfl, rfl⟩; exact k x)
theorem f2 {t : Nat} {A B : Type} {v0 : A → B → Value} {f0 : A → B → List Fact} {o0 : A → B → List Own} (he : Eo P c fs os N s ⟨some t, op, ty, pos, af, gd⟩ (fun v fs' os' => ∃ x y, v = v0 x y ∧ fs' = f0 x y ∧ os' = o0 x y)) (k : ∀ x y, Rg P c N ops Q rest ((t, v0 x y) :: s) (f0 x y) (o0 x y)) (hw : wtd ops s ⟨some t, op, ty, pos, af, gd⟩ = some true := by rfl) (hd : t < N := by decide) :
  Rg P c N ops Q (⟨some t, op, ty, pos, af, gd⟩ :: rest) s fs os := Rg.ed he hw hd (by rintro _ _ _ ⟨x, y, rfl, rfl, rfl⟩; exact k x y)
theorem g0 {v0 : Value} {f0 : List Fact} {o0 : List Own} (he : Eo P c fs os N s ⟨none, op, ty, pos, af, gd⟩ (fun v fs' os' => v = v0 ∧ fs' = f0 ∧ os' = o0)) (k : Rg P c N ops Q rest s f0 o0) (hw : wtd ops s ⟨none, op, ty, pos, af, gd⟩ = some true := by rfl) :
  Rg P c N ops Q (⟨none, op, ty, pos, af, gd⟩ :: rest) s fs os := Rg.en he hw (by rintro _ _ _ ⟨rfl, rfl, rfl⟩; exact k)
theorem g1 {A : Type} {v0 : A → Value} {f0 : A → List Fact} {o0 : A → List Own} (he : Eo P c fs os N s ⟨none, op, ty, pos, af, gd⟩ (fun v fs' os' => ∃ x, v = v0 x ∧ fs' = f0 x ∧ os' = o0 x)) (k : ∀ x, Rg P c N ops Q rest s (f0 x) (o0 x)) (hw : wtd ops s ⟨none, op, ty, pos, af, gd⟩ = some true := by rfl) :
  Rg P c N ops Q (⟨none, op, ty, pos, af, gd⟩ :: rest) s fs os := Rg.en he hw (by rintro _ _ _ ⟨x, rfl, rfl, rfl⟩; exact k x)
theorem stb {t : TypeId} {ag : Bool} {n : Nat} {z : Value} {by_ : Nat} {x y : Operand} {g j : Nat} {bt : TypeId} {cs cs' : List Value} {v : Value} {os' : List Own} (ht : TyI P t ag n z by_) (hu : Upd os (box g bt cs) (box g bt cs') os')
  (k : Rg P c N ops Q rest s fs os') (hx : ev s x = some (.pointer (some ⟨g, j, none⟩)) := by rfl) (hy : ev s y = some v := by rfl) (hn : v.cells.size = n := by rfl) (h1 : (v.cells.toList.all fun u => u.oneCell') = true := by rfl)
  (hl : Nat.ble (j + n) cs.length = true := by rfl) (he : cs.take j ++ v.cells.toList ++ cs.drop (j + n) = cs' := by rfl) (hw : wtd ops s ⟨none, .store t x y, ty, pos, af, gd⟩ = some true := by rfl) :
  Rg P c N ops Q (⟨none, .store t x y, ty, pos, af, gd⟩ :: rest) s fs os := g0 (e_store ht hx hy hu hn (one_of h1) (Nat.le_of_ble_eq_true hl) he) k hw
end
section
variable {P : Program} {N : Nat}
theorem cof {f : FuncId} {args : List Value} {fn : Func} {body : Code} {fsC : List Fact} {osC : List Own} {ι : Type} {rv : ι → Value} {fsR : ι → List Fact} {osR : ι → List Own}
  (hf : P.funcs[f]? = some fn) (hNt : fn.ntmps = N) (h : ∀ c, Tr P c N (bodyPost P fn fun e w' => ∃ x, e = .returned (rv x) ∧ Sta c (fsR x) (osR x) w') body (args.mapIdx fun i v => (i, v)) fsC osC)
  (hb : fn.body = some body := by rfl) (hn : (fn.name == "runtime.NumGoroutine") = false := by kernel_rfl) (hN : args.length ≤ N := by simp) : Fn' P f args.toArray fsC osC rv fsR osR := calls_of hf hb hn hNt hN h
end
section
variable {P : Program} {c : Ctx} {N : Nat} {s : Slots} {fs : List Fact} {os : List Own} {fn : Func} {rv : Unit → Value} {fsR : Unit → List Fact} {osR : Unit → List Own}
theorem bk {t : Tmp} {osX : List Own} {v : Value} (ho : Take os (osR ()) osX := by exact Take.nil) (hr : fn.results = #[.tmp t] := by rfl) (h1 : lk s t = some v := by rfl) (hv : v = rv () := by rfl) (hf : fsR () = [] := by rfl) :
  At c N s fs os (bodyPost P fn (fun e w' => ∃ x, e = .returned (rv x) ∧ Sta c (fsR x) (osR x) w') .ret) := bk1 hr h1 hv hf ho
end
end Go.Sx

namespace Go.Sx
open Go Go.RowKit
section
variable {α : Type} [ShpT α]
variable {c : Ctx} {fs : List Fact} {os os1 : List Own} {w : World}
end
section
variable {P : Program} {c : Ctx} {N : Nat} {s : Slots} {fs : List Fact} {os os1 : List Own}
variable {d : Option Tmp} {ty : TypeId} {pos : String} {af : Array Edge} {gd : Option (Nat × Bool)}
end
end Go.Sx

namespace Go.Sx
open Go Go.RowKit Go.Sort Go.Proofs
section
variable {P : Program} {ρ : Go.Shelf.Ren} {α : Type} [Inhabited α]
end
end Go.Sx

namespace Go.Sx
open Go Go.RowKit
section
variable {α : Type}
variable [Enc α] {c : Ctx} {fs : List Fact} {os os1 : List Own} {w : World}
end
section
variable {P : Program} {c : Ctx} {N : Nat} {s : Slots} {fs : List Fact} {os os1 os' : List Own} {Q : Exit → Act → World → Prop} {code : Code}
variable {d : Option Tmp} {ty : TypeId} {pos : String} {af : Array Edge} {gd : Option (Nat × Bool)}
end
theorem Del.skip {o : Own} {os1 os2 : List Own} (h : Del os1 o os2) : ∀ a : List Own, Del (a ++ os1) o (a ++ os2)
 | [] => h
 | _ :: a => .there (Del.skip h a)
theorem Take.skip {r os1 os2 : List Own} (h : Take os1 r os2) (a : List Own) : Take (a ++ os1) r (a ++ os2) := by
 induction h with
 | nil => exact .nil
 | cons hd _ ih => exact .cons (Del.skip hd a) ih
theorem Take.pre : ∀ (r os : List Own), Take (r ++ os) r os
 | [], _ => .nil
 | _ :: r, os => .cons .here (Take.pre r os)
end Go.Sx

namespace Go.Sx
open Go Go.RowKit
section
variable {P : Program} {c : Ctx} {N : Nat} {s : Slots} {fs : List Fact} {os os1 os' : List Own} {Q : Exit → Act → World → Prop} {code : Code}
variable {d : Option Tmp} {ty : TypeId} {pos : String} {af : Array Edge} {gd : Option (Nat × Bool)}
end
end Go.Sx

namespace Go.Sx
open Go Go.RowKit
section
variable {A B : Type} [Enc A] [Enc B]
variable {c : Ctx} {fs : List Fact} {os os1 : List Own} {w : World}
end
end Go.Sx

namespace Go.Sx
open Go
section
variable {α : Type} [Inhabited α] {keep : α → Bool} {n : Nat} {body : List α × Int × Int → Option ((List α × Int × Int) ⊕ (List α × Int))}
end
end Go.Sx

namespace Go.Sx
open Go Go.RowKit
section
variable {P : Program} {N : Nat} {s : Slots} {d : Option Tmp} {ty : TypeId} {pos : String} {af : Array Edge} {gd : Option (Nat × Bool)}
end
end Go.Sx

namespace Go.Sx
open Go Go.RowKit Go.Proofs
def joinS (l : List ByteArray) (sep : ByteArray) : ByteArray := ⟨(Lib.join (l.map (·.data.toList)) sep.data.toList).toArray⟩
theorem RdL.strs {w : World} {I : Blks} {oa : Option Addr} {n cp : Nat} {l : List ByteArray} (h : RdL w I (.slice oa n cp) l) (h0 : 0 < l.length) : ∃ bk o, oa = some ⟨bk, o, none⟩ ∧ I bk ∧ l.length ≤ cp ∧ ∀ j x, l[j]? = some x → w.cell? ⟨bk, o + j, none⟩ = some (.string x) := by
 obtain ⟨oa', cap, e, h1, _, h3⟩ := h
 injection e with e1 e2 e3
 subst e1 e2 e3
 obtain ⟨ad, es, rfl, hI, hc, hr⟩ := h3 0 h0
 have hr : es = [.string l[0]] := hr
 subst hr
 have h00 := hc 0 _ rfl
 rw [add_add, show 0 * Enc.sz ByteArray + 0 = 0 from rfl] at h00
 obtain ⟨b, o, sp⟩ := ad
 have hsp : sp = none := by
  cases sp with
  | none => rfl
  | some _ => simp [Addr.add, World.cell?] at h00; split at h00 <;> simp at h00
 subst hsp
 refine ⟨b, o, rfl, hI, h1, fun j x hx => ?_⟩
 obtain ⟨hj, ex⟩ := List.getElem?_eq_some_iff.1 hx
 obtain ⟨ad, es, e, _, hc, hr⟩ := h3 j hj
 injection e with e
 subst e
 have hr : es = [.string l[j]] := hr
 subst hr
 have := hc 0 _ rfl
 rw [add_add, Addr.add_lit, show j * Enc.sz ByteArray + 0 = j by show j * 1 + 0 = j; omega, ex] at this
 exact this
theorem FnL'.below {P : Program} {f : FuncId} {args : Array Value} {fsC : List Fact} {v : Value} (hcf : CF P f)
  (h : ∀ w I S, St ⟨w, I, S, True⟩ fsC [] w I S → Calls P f args w fun e w' => e = .returned v ∧ Below w.heap.size w w') : FnL' True P f args fsC [] (ι := Unit) (fun _ => v) (fun _ => []) (fun _ => []) := by
 refine ⟨hcf, fun w I S hst => (h w I S hst).mono ?_⟩
 rintro e w' ⟨rfl, hb⟩
 refine ⟨(), rfl, I, S, (fun _ h => nomatch h), trivial, hst.dj, fun b hb' => Nat.lt_of_lt_of_le (hst.ilt b hb') hb.size, fun b hb' => Nat.lt_of_lt_of_le (hst.slt b hb') hb.size, fun _ => .inl, fun _ => .inl, fun _ h => h,
  ⟨hb.os, ⟨hb.tape, .inl trivial⟩, hb.output, hb.size, fun b hb' _ => hb.block b hb'⟩⟩
theorem FnL'.join {P : Program} {ρ : Go.Shelf.Ren} (L : Lays.n156 P ρ) (X : Builder.Extra P ρ) (hcf : CF P (ρ.f 156)) (v0 : List ByteArray) (x_v0 : Option Addr × Nat) (v1 : ByteArray) (h1 : v0.length ≤ 140737488355328)
  (h2 : (Lib.join (v0.map (·.data.toList)) v1.data.toList).length ≤ 140737488355328) :
  FnL' True P (ρ.f 156) #[.slice x_v0.1 v0.length x_v0.2, .string v1] [imm (.slice x_v0.1 v0.length x_v0.2) v0] [] (ι := Unit) (fun _ => .string (joinS v0 v1)) (fun _ => []) (fun _ => []) :=
 FnL'.below hcf fun w I S hst => by
  have hr : RdL w I (.slice x_v0.1 v0.length x_v0.2) v0 := hst.facts _ (List.mem_cons_self ..)
  rcases Nat.eq_zero_or_pos v0.length with h0 | h0
  ·have hv : v0 = [] := List.eq_nil_of_length_eq_zero h0
   subst hv
   refine (Any.strings_Join_none L X x_v0.1 x_v0.2 v1 w).mono ?_
   rintro e w' ⟨rfl, rfl⟩
   exact ⟨rfl, Below.refl _ _⟩
  ·obtain ⟨bk, o, e, hI, hc, hcell⟩ := hr.strs h0
   rw [e]
   exact Any.strings_Join L X bk o x_v0.2 v0 v1 w hcell (hst.ilt bk hI) h1 hc h2
end Go.Sx

namespace Go.Sx
open Go Go.RowKit
section
variable {P : Program} {c : Ctx} {N : Nat} {s : Slots} {fs : List Fact} {os os1 os' : List Own} {Q : Exit → Act → World → Prop} {code : Code}
variable {d : Option Tmp} {ty : TypeId} {pos : String} {af : Array Edge} {gd : Option (Nat × Bool)}
theorem p_ssl {x : Operand} {t : TypeId} {b : ByteArray} {lo hi : Option Operand} (i j : Int) (hu : P.underlying t = some .string) (hx : ev s x = some (.string b))
  (hlo : lo.map (ev s) = (if lo.isSome then some (some (.int .i64 i)) else none)) (ha : lo = none → i = 0) (hhi : hi.map (ev s) = (if hi.isSome then some (some (.int .i64 j)) else none)) (hb : hi = none → j = (b.size : Int)) (h : sl2 i j b.size) :
  Pu P N s ⟨d, .slice t x lo hi none, ty, pos, af, gd⟩ (.string (b.extract i.toNat j.toNat)) := fun w0 w hs => by
 obtain ⟨i, rfl⟩ := Int.eq_ofNat_of_zero_le (show 0 ≤ i by unfold sl2 at h; omega)
 obtain ⟨j, rfl⟩ := Int.eq_ofNat_of_zero_le (show 0 ≤ j by unfold sl2 at h; omega)
 have hij : i ≤ j ∧ j ≤ b.size := by unfold sl2 at h; omega
 have elo : (lo.map w0.eval) = lo.map fun _ => Value.int .i64 (i : Int) := by
  cases lo with
  | none => rfl
  | some o => simp at hlo; simp [hs.ev hlo]
 have ehi : (hi.map w0.eval) = hi.map fun _ => Value.int .i64 (j : Int) := by
  cases hi with
  | none => rfl
  | some o => simp at hhi; simp [hs.ev hhi]
 simp only [Int.toNat_natCast]
 cases lo with
 | none =>
  have hi0 : i = 0 := by have := ha rfl; omega
  subst hi0
  cases hi with
  | none =>
   have hjs : j = b.size := by have := hb rfl; omega
   subst hjs
   simp [execOp, hs.ev hx, Instr.sliceAt, Instr.slice, run_underlying hu, Instr.sliceBounds]
  | some o =>
   simp only [Option.map_some, Option.some.injEq] at ehi
   simp [execOp, hs.ev hx, ehi, Instr.sliceAt, Instr.slice, run_underlying hu, Instr.sliceBounds, Instr.sliceBound, asIntOf, hij.2]
 | some p =>
  simp only [Option.map_some, Option.some.injEq] at elo
  cases hi with
  | none =>
   have hjs : j = b.size := by have := hb rfl; omega
   subst hjs
   simp [execOp, hs.ev hx, elo, Instr.sliceAt, Instr.slice, run_underlying hu, Instr.sliceBounds, Instr.sliceBound, asIntOf, hij.1]
  | some o =>
   simp only [Option.map_some, Option.some.injEq] at ehi
   simp [execOp, hs.ev hx, elo, ehi, Instr.sliceAt, Instr.slice, run_underlying hu, Instr.sliceBounds, Instr.sliceBound, asIntOf, hij.1, hij.2]
theorem e_slT {t e : TypeId} {ag : Bool} {z : Value} {by_ n cp : Nat} {x y : Operand} {α : Type} [Enc α] {oa : Option Addr} {l : List α} (i : Int) (hu : P.underlying t = some (.slice e)) (ht : TyI P e ag (Enc.sz α) z by_)
  (hx : ev s x = some (.slice oa n cp)) (hy : ev s y = some (.int .i64 i)) (h : sl2 0 i l.length) (htk : Take os [tree (.slice oa n cp) l] os1) :
  Eo P c fs os N s ⟨d, .slice t x none (some y) none, ty, pos, af, gd⟩ (fun v fs' os' => v = .slice oa (l.take i.toNat).length cp ∧ fs' = fs ∧ os' = tree (.slice oa (l.take i.toNat).length cp) (l.take i.toNat) :: os1) := Ex.mk fun a w hs hw => by
 obtain ⟨k1, k2, k3⟩ := h
 have e : (l.take i.toNat).length = i.toNat := by rw [List.length_take, Nat.min_eq_left (by omega)]
 have hb : n = l.length ∧ l.length ≤ cp := by
  obtain ⟨I, S, hst⟩ := id hw
  obtain ⟨S1, S2, _, _, _, ⟨A, B, _, _, _, ho, _⟩, _⟩ := htk.sep hst.own
  obtain ⟨_, _, e1, h1, _⟩ := TrL.rd ho
  injection e1 with _ e2 e3
  exact ⟨e2, e3 ▸ h1⟩
 obtain ⟨rfl, hcp⟩ := hb
 refine ((Pu.qo (fs := fs) (os := os) (c := c) (p_slHi (d := d) (ty := ty) (pos := pos) (af := af) (gd := gd) i.toNat hu ht hx hy (by omega) (by omega))).go a w hs hw).mono ?_
 rintro v w' ⟨e1, hw'⟩
 refine ⟨fs, _, ⟨by rw [e1, e], rfl, rfl⟩, ?_⟩
 rw [e]
 refine hw'.chg (r' := [tree (.slice oa i.toNat cp) (l.take i.toNat)]) htk fun I S S1 hst m1 ⟨A, B, mA, mB, dAB, ho, hr⟩ => ⟨S1, fun b => .inl, ⟨S1, fun _ => False, fun _ h => h, fun _ h => h.elim, fun _ _ h => h, ?_, trivial⟩, fun _ _ _ => rfl, Nat.le_refl _, rfl, ⟨rfl, Nat.le_refl _⟩, rfl⟩
 have ho : TrL w' A (.slice oa l.length cp) l := ho
 rcases ho with ⟨e1, e2⟩ | ⟨g, cap, cur, bt, e1, hg, hh, h1, h2, h3, Ss, j1, j2, j3⟩
 ·subst e2
  injection e1 with e4 e5 e6
  subst e4 e6
  have : i.toNat = 0 := by simp only [List.length_nil] at k3; omega
  rw [this]
  exact .inl ⟨rfl, rfl⟩
 ·injection e1 with e4 e5 e6
  subst e4 e6
  exact .inr ⟨g, cp, cur, bt, by rw [e], mA g hg, hh, by rw [e]; omega, h2, h3, Ss, fun k hk b hb => ⟨mA b (j1 k (by omega) b hb).1, (j1 k (by omega) b hb).2⟩, fun k m hkm hm => j2 k m hkm (by omega), fun k hk => by
   rw [List.getElem_take]; exact j3 k (by omega)⟩
end
end Go.Sx

namespace Go.Sx
open Go Go.RowKit
def ibs (s : ByteArray) (c : UInt8) : Int := Lib.indexByte s.data.toList c
def cbs (s : ByteArray) (c : UInt8) : Int := (Lib.countByte s.data.toList c : Nat)
section
variable {P : Program} {N : Nat} {s : Slots} {d : Option Tmp} {ty : TypeId} {pos : String} {af : Array Edge} {gd : Option (Nat × Bool)}
theorem p_ibs {f : FuncId} {fn : Func} {x y : Operand} {ats : Array TypeId} {b : ByteArray} {c : UInt8} (hf : P.funcs[f]? = some fn) (hname : (fn.name == "runtime.NumGoroutine") = false) (hb : fn.body.isNone = true) (hn : Extern.findNext fn = none) (he : Extern.find fn = some Extern.BytealgIndexByte.indexByte)
  (hx : ev s x = some (.string b)) (hy : ev s y = some (.int .u8 (c.toNat : Int))) : Pu P N s ⟨d, .call { callee := .value (.func f), args := #[x, y], argTypes := ats }, ty, pos, af, gd⟩ (.int .i64 (ibs b c)) := fun a w hs => by
 have hrun : (callFunc f #[.string b, .int .u8 (c.toNat : Int)]).run P w = .ok (.value (.int .i64 (ibs b c))) w := by
  rw [run_callFunc_extern hf hname hb hn he, Lib.run_indexByteString]
  simp [ibs]
 have h2' : (#[x, y].map a.eval) = #[.string b, .int .u8 (c.toNat : Int)] := by simp [hs.ev hx, hs.ev hy]
 simp [execOp, resolve, Deferred.ofValue, Act.eval, invoke, -List.map_toArray, h2', hrun]
theorem p_cbs {f : FuncId} {fn : Func} {x y : Operand} {ats : Array TypeId} {b : ByteArray} {c : UInt8} (hf : P.funcs[f]? = some fn) (hname : (fn.name == "runtime.NumGoroutine") = false) (hb : fn.body.isNone = true) (hn : Extern.findNext fn = none) (he : Extern.find fn = some Extern.BytealgCount.count)
  (hx : ev s x = some (.string b)) (hy : ev s y = some (.int .u8 (c.toNat : Int))) : Pu P N s ⟨d, .call { callee := .value (.func f), args := #[x, y], argTypes := ats }, ty, pos, af, gd⟩ (.int .i64 (cbs b c)) := fun a w hs => by
 have hrun : (callFunc f #[.string b, .int .u8 (c.toNat : Int)]).run P w = .ok (.value (.int .i64 (cbs b c))) w := by
  rw [run_callFunc_extern hf hname hb hn he, Lib.run_countString]
  simp [cbs]
 have h2' : (#[x, y].map a.eval) = #[.string b, .int .u8 (c.toNat : Int)] := by simp [hs.ev hx, hs.ev hy]
 simp [execOp, resolve, Deferred.ofValue, Act.eval, invoke, -List.map_toArray, h2', hrun]
theorem Pu.bC {o : Oper} {b r : Bool} (hp : Pu P N s o (.bool b)) (h : b = r) : Pu P N s o (.bool r) := h ▸ hp
theorem Pu.iC {o : Oper} {m n : Int} (hp : Pu P N s o (.int .i64 m)) (h : m = n) : Pu P N s o (.int .i64 n) := h ▸ hp
theorem p_seqlC {t t' : TypeId} {x y : Operand} {a b : ByteArray} (hx : ev s x = some (.string a)) (hy : ev s y = some (.string b)) (h : a ≠ b) : Pu P N s ⟨d, .binOp .eql t x y t', ty, pos, af, gd⟩ (.bool false) := by
 have := p_seql (P := P) (N := N) (d := d) (ty := ty) (pos := pos) (af := af) (gd := gd) (t := t) (t' := t') hx hy
 rwa [decide_eq_false h] at this
end
end Go.Sx

namespace Go.Sx
open Go Go.RowKit
def chkX (xx : Nat) (ops : Array Oper) (n : Nat) (p ef fr : List Nat) : Bool :=
 decide (p.length = ops.size) && (List.range ops.size).all (fun i => p.contains i) &&
 (List.range p.length).all (fun k => match (p[k]?).bind (ops[·]?) with
  | some o => o.after.all fun e => !Region.binds .any e || (p.take k).contains e.on
  | none => false) &&
 (List.range ops.size).all (fun i => match ops[i]? with
  | some o => (match o.op with | .select _ _ => false | _ => true) &&
   (List.range ops.size).all (fun j => match ops[j]? with
    | some oj => (match oj.dst with
     | some d => (i == j || o.dst != some d) && (!(o.looksAt ops).contains d || (i != j && anc ops n i j))
     | none => true)
    | none => false)
  | none => false) &&
 (List.range p.length).all (fun k => match p[k]? with
  | some e => !(ef.contains e || fr.contains e) || e == xx || (p.drop (k + 1)).all fun j =>
    if ef.contains j then anc ops n j e
    else fr.contains j || (fr.contains e && anc ops n j e) || (p.drop k).any fun e' => ef.contains e' && anc ops n j e'
  | none => false) &&
 ef.all (fun i => !fr.contains i)
structure GoodX (xx : Nat) (ops : Array Oper) (n : Nat) (p ef fr : List Nat) : Prop where
  all : ∀ i, i < ops.size → i ∈ p
  nodup : p.Nodup
  lt : ∀ i ∈ p, i < ops.size
  edge : ∀ q i r, p = q ++ i :: r → ∀ (o : Oper), ops[i]? = some o → ∀ e ∈ o.after, Region.binds .any e = true → e.on ∈ q
  sel : ∀ (i : Nat) (o : Oper), ops[i]? = some o → ∀ cs x, o.op ≠ .select cs x
  uniq : ∀ (i j : Nat) (o oj : Oper) (d : Nat), ops[i]? = some o → ops[j]? = some oj → oj.dst = some d → o.dst = some d → i = j
  look : ∀ (i j : Nat) (o oj : Oper) (d : Nat), ops[i]? = some o → ops[j]? = some oj → oj.dst = some d → d ∈ o.looksAt ops → i ≠ j ∧ anc ops n i j = true
  chain : ∀ q e r, p = q ++ e :: r → e ≠ xx → (ef.contains e = true ∨ fr.contains e = true) → ∀ j ∈ r, (ef.contains j = true ∧ anc ops n j e = true) ∨ (ef.contains j = false ∧ (fr.contains j = true ∨ (fr.contains e = true ∧ anc ops n j e = true) ∨ ∃ e' ∈ e :: r, ef.contains e' = true ∧ anc ops n j e' = true))
  disj : ∀ i, ef.contains i = true → fr.contains i = false
theorem GoodX.of_chk {xx : Nat} {ops : Array Oper} {n : Nat} {p ef fr : List Nat} (h : chkX xx ops n p ef fr = true) (hn : p.Nodup) : GoodX xx ops n p ef fr := by
 unfold chkX at h
 simp only [Bool.and_eq_true, decide_eq_true_eq, List.all_eq_true, List.mem_range] at h
 obtain ⟨⟨⟨⟨⟨h1, h2⟩, h3⟩, h4⟩, h5⟩, h6⟩ := h
 have hat : ∀ (q : List Nat) (i : Nat) (r : List Nat), p = q ++ i :: r → p[q.length]? = some i ∧ q.length < p.length ∧ p.take q.length = q ∧ p.drop (q.length + 1) = r ∧ p.drop q.length = i :: r := by
  rintro q i r rfl
  refine ⟨by simp, by simp, by simp, ?_, by simp⟩
  rw [← List.drop_drop]
  simp
 refine ⟨fun i hi => by simpa using h2 i hi, hn, fun i hi => ?_, fun q i r hp o ho e he hb => ?_, fun i o ho cs x hop => ?_, fun i j o oj d hi hj hd hd' => ?_, fun i j o oj d hi hj hd hl => ?_, fun q e r hp hne he j hj => ?_, fun i hi => ?_⟩
 ·obtain ⟨k, hk, hki⟩ := List.mem_iff_getElem.1 hi
  have := h3 k hk
  rw [List.getElem?_eq_getElem hk, hki] at this
  simp only [Option.bind_some] at this
  cases ho : ops[i]? with
  | none => simp [ho] at this
  | some o => exact (Array.getElem?_eq_some_iff.1 ho).1
 ·obtain ⟨a1, a2, a3, _, _⟩ := hat q i r hp
  have := h3 _ a2
  rw [a1] at this
  simp only [Option.bind_some, ho, Array.all_eq_true_iff_forall_mem, Bool.or_eq_true, Bool.not_eq_true'] at this
  rcases this e he with h | h
  ·rw [hb] at h; cases h
  ·rw [a3] at h; simpa using h
 ·have := h4 i (Array.getElem?_eq_some_iff.1 ho).1
  simp only [ho, Bool.and_eq_true] at this
  rw [hop] at this
  simp at this
 ·have := h4 i (Array.getElem?_eq_some_iff.1 hi).1
  simp only [hi, Bool.and_eq_true, List.all_eq_true, List.mem_range] at this
  have := this.2 j (Array.getElem?_eq_some_iff.1 hj).1
  simp only [hj, hd, Bool.and_eq_true, Bool.or_eq_true, beq_iff_eq, bne_iff_ne] at this
  rcases this.1 with h | h
  ·exact h
  ·exact absurd hd' h
 ·have := h4 i (Array.getElem?_eq_some_iff.1 hi).1
  simp only [hi, Bool.and_eq_true, List.all_eq_true, List.mem_range] at this
  have := this.2 j (Array.getElem?_eq_some_iff.1 hj).1
  simp only [hj, hd, Bool.and_eq_true, Bool.or_eq_true, Bool.not_eq_true', bne_iff_ne] at this
  rcases this.2 with h | h
  ·rw [List.contains_eq_mem] at h; simp [hl] at h
  ·exact h
 ·obtain ⟨a1, a2, _, a4, a5⟩ := hat q e r hp
  have := h5 _ a2
  have he' : (ef.contains e || fr.contains e) = true := by rcases he with h | h <;> rw [h] <;> simp
  rw [a1, a4, a5] at this
  simp only [he', Bool.not_true, Bool.false_or, List.all_eq_true, beq_false_of_ne hne] at this
  have := this j hj
  cases hej : ef.contains j with
  | true => simp only [hej, if_true] at this; exact .inl ⟨rfl, this⟩
  | false =>
   simp only [hej, Bool.false_eq_true, if_false, Bool.or_eq_true, Bool.and_eq_true, List.any_eq_true] at this
   refine .inr ⟨rfl, ?_⟩
   rcases this with (h | h) | h
   ·exact .inl h
   ·exact .inr (.inl h)
   ·exact .inr (.inr h)
 ·have := h6 i (by simpa using hi)
  simpa using this
section
variable {xx : Nat} {P : Program} {c : Ctx} {N : Nat} {ops : Array Oper} {n : Nat} {ef p0 : List Nat} {fa : List FreeA} {R : Slots → List Fact → List Own → Prop} {Q : Exit → Act → World → Prop}
theorem InvW.notqX (hg : GoodX xx ops n p0 ef (fa.map (·.i))) {listed : Array Bool} {a : Act} {w : World} {q p : List Nat} {s : Slots} {fs : List Fact} {os : List Own} {pd : List Nat} {b : Act} {E : List (FreeA × Nat)}
  (h : InvW P c N ops n ef fa p0 R listed a w q p s fs os pd b E) {j : Nat} (hj : j ∈ p) : j ∉ q := by
 have := hg.nodup
 rw [h.part, List.nodup_append] at this
 exact fun hm => this.2.2 j hm j hj rfl
theorem InvW.effpX (hg : GoodX xx ops n p0 ef (fa.map (·.i))) {listed : Array Bool} {a : Act} {w : World} {q p : List Nat} {s : Slots} {fs : List Fact} {os : List Own} {pd : List Nat} {b : Act} {E : List (FreeA × Nat)}
  (h : InvW P c N ops n ef fa p0 R listed a w q p s fs os pd b E) {j : Nat} (hj : j ∈ p) (he : ef.contains j = true) : listed.getD j false = false := by
 cases hl : listed.getD j false with
 | false => rfl
 | true =>
  exfalso
  rcases h.inq j hl with h1 | ⟨e, hE, rfl⟩
  ·exact h.notqX hg hj h1
  ·have := hg.disj _ he
   have h2 : e.1.i ∈ fa.map (·.i) := List.mem_map.2 ⟨e.1, (h.early e hE).1, rfl⟩
   rw [List.contains_eq_mem] at this
   simp at this
   exact this e.1 (h.early e hE).1 rfl
theorem InvW.stepX (hg : GoodX xx ops n p0 ef (fa.map (·.i))) (hfa : (fa.map (·.i)).Nodup) {listed : Array Bool} {a : Act} {w : World} {q p : List Nat} {s : Slots} {fs : List Fact} {os : List Own} {pd : List Nat} {b : Act} {E : List (FreeA × Nat)} {j : Nat}
  (h : InvW P c N ops n ef fa p0 R listed a w q (j :: p) s fs os pd b E) (hq : ef.contains j = false) (hfr : (fa.map (·.i)).contains j = true → listed.getD j false = true) :
  ∃ s' os' pd' b' E', InvW P c N ops n ef fa p0 R listed a w (q ++ [j]) p s' fs os' pd' b' E' := by
 have hjq : j ∉ q := h.notqX hg (by simp)
 have hnj : ∀ i ∈ p, i ≠ j := fun i hi e => by
  have := hg.nodup
  rw [h.part, List.nodup_append] at this
  have h2 := this.2.1
  rw [List.nodup_cons] at h2
  exact h2.1 (e ▸ hi)
 -- one form for all ways
 have key : ∀ (o : Oper) (d : Nat) (v : Value) (pd' : List Nat) (os' : List Own) (E' : List (FreeA × Nat)), ops[j]? = some o → o.dst = some d → d < N → (∀ x, x ∈ pd → x ∈ pd') → (os' = os ∨ ∃ x, os' = x :: os) → Sta c fs (os' ++ frames E') w →
   (∀ e ∈ E', e ∈ E ∧ e.1.i ≠ j) → (∀ e ∈ E, e ∈ E' ∨ e.1.i = j) → (E'.map fun e => e.1.i).Nodup →
   (listed.getD j false = false → StatW P c N ops ((d, v) :: s) fs os' pd' (b.put (some d) v) j) → (listed.getD j false = true → a.tmps.getD d undef = v) → ((fa.map (·.i)).contains j = true → listed.getD j false = true) →
   Nw P c N ops n ef fa p ((d, v) :: s) fs os' pd' R → ∃ s' os' pd' b' E', InvW P c N ops n ef fa p0 R listed a w (q ++ [j]) p s' fs os' pd' b' E' := by
  intro o d v pd' os' E' ho hd hN hpd hos hsta hE1 hE2 hE3 hst hdn hfl hnf
  have hf : lk s d = none := h.fresh j (by simp) o d ho hd
  have hother : ∀ (i : Nat) (oi : Oper), i ≠ j → ops[i]? = some oi → oi.dst ≠ some d := fun i oi hne hi he => hne (hg.uniq i j oi o d hi ho hd he)
  have hb : ∀ t, t ≠ d → (b.put (some d) v).tmps.getD t undef = b.tmps.getD t undef := fun t ht => getD_put_ne ht
  refine ⟨_, os', pd', b.put (some d) v, E', ⟨by rw [h.part]; simp, hsta, h.sl.put v hN, h.size, h.defers, fun t ht => ?_, fun i oi di hi hiq hoi hdi => ?_, fun e he => ?_, hE3, fun i hi => ?_, fun i hi he => ?_, fun i hi hl => ?_, fun i hi oi di hoi hdi => ?_, hnf, h.closed, fun i hi oi di hoi hdi => ?_⟩⟩
  ·rw [hb t (fun e : t = d => ht j o ho (by rw [e]; exact hd))]; exact h.outer t ht
  ·rcases List.mem_append.1 hiq with hiq | hiq
   ·rw [hb di (fun e : di = d => hother i oi (fun e' => hjq (e' ▸ hiq)) hoi (by rw [← e]; exact hdi))]
    exact h.done i oi di hi hiq hoi hdi
   ·simp at hiq; subst hiq; rw [hoi] at ho; cases ho; rw [hdi] at hd; cases hd
    rw [getD_put_eq (by rw [h.sl.size]; exact hN)]
    exact hdn hi
  ·obtain ⟨h1, h2⟩ := hE1 e he
   obtain ⟨k1, k2, k3, k4⟩ := h.early e h1
   refine ⟨k1, ?_, k3, k4⟩
   rcases List.mem_cons.1 k2 with k | k
   ·exact absurd k h2
   ·exact k
  ·rcases h.inq i hi with hi' | ⟨e, he, rfl⟩
   ·exact .inl (List.mem_append.2 (.inl hi'))
   ·rcases hE2 e he with h' | h'
    ·exact .inr ⟨e, h', rfl⟩
    ·exact .inl (List.mem_append.2 (.inr (by simp [h'])))
  ·rcases List.mem_append.1 hi with hi | hi
   ·exact h.eff i hi he
   ·simp at hi; subst hi
    rcases he with he | he
    ·rw [hq] at he; cases he
    ·exact hfl he
  ·rcases List.mem_append.1 hi with hi | hi
   ·exact (h.stat i hi hl).cons hf hpd (fun oi hoi => hother i oi (fun e => hjq (e ▸ hi)) hoi) hos
   ·simp at hi; subst hi; exact hst hl
  ·rw [lk_cons_ne (fun e : d = di => hother i oi (hnj i hi) hoi (by rw [e]; exact hdi))]
   exact h.fresh i (List.mem_cons_of_mem _ hi) oi di hoi hdi
  ·rcases List.mem_append.1 hi with hi | hi
   ·exact h.dlt i hi oi di hoi hdi
   ·simp at hi; subst hi; rw [hoi] at ho; cases ho; rw [hdi] at hd; cases hd; exact hN
 have hbd : ∀ (d : Nat) (v : Value), d < N → (b.put (some d) v).tmps.getD d undef = v := fun d v hN => getD_put_eq (by rw [h.sl.size]; exact hN)
 -- a quiet one is not among those run ahead
 have hEq : (fa.map (·.i)).contains j = false → ∀ e ∈ E, e.1.i ≠ j := fun hc e he hj => by
  have : j ∈ fa.map (·.i) := List.mem_map.2 ⟨e.1, (h.early e he).1, hj⟩
  rw [List.contains_eq_mem] at hc
  simp at hc
  exact hc e.1 (h.early e he).1 hj
 have hlj : (fa.map (·.i)).contains j = false → listed.getD j false = false := fun hc => by
  cases hl : listed.getD j false with
  | false => rfl
  | true =>
   rcases h.inq j hl with h1 | ⟨e, he, h1⟩
   ·exact absurd h1 hjq
   ·exact absurd h1 (hEq hc e he)
 obtain ⟨o, ho, hcase⟩ := h.nf
 rcases hcase with ⟨d, hd, hN, _, hc, hw, hnf⟩ | ⟨d, v, hd, hN, _, hc, hw, hpu, hnf⟩ | ⟨d, v, hd, hN, _, hc, hw, hqo, hnf⟩ | ⟨he, _⟩ | ⟨z, hz, hzi, _, hvals, d, hd, hN, hnf⟩
 ·have hf : lk s d = none := h.fresh j (by simp) o d ho hd
  exact key o d undef pd os E ho hd hN (fun _ h => h) (.inl rfl) h.sta (fun e he => ⟨he, hEq hc e he⟩) (fun e he => .inl he) h.ednd (fun _ => ⟨o, d, ho, hd, .inl ⟨wtd_cons hf hw, hbd d undef hN⟩⟩) (fun hl => by rw [hlj hc] at hl; cases hl) hfr hnf
 ·have hf : lk s d = none := h.fresh j (by simp) o d ho hd
  exact key o d v pd os E ho hd hN (fun _ h => h) (.inl rfl) h.sta (fun e he => ⟨he, hEq hc e he⟩) (fun e he => .inl he) h.ednd (fun _ => ⟨o, d, ho, hd, .inr ⟨wtd_cons hf hw, v, hbd d v hN, lk_cons_eq, .inl fun a w ha => hpu a w (ha.uncons hf)⟩⟩) (fun hl => by rw [hlj hc] at hl; cases hl) hfr hnf
 ·have hf : lk s d = none := h.fresh j (by simp) o d ho hd
  exact key o d v (j :: pd) os E ho hd hN (fun _ h => List.mem_cons_of_mem _ h) (.inl rfl) h.sta (fun e he => ⟨he, hEq hc e he⟩) (fun e he => .inl he) h.ednd
   (fun _ => ⟨o, d, ho, hd, .inr ⟨wtd_cons hf hw, v, hbd d v hN, lk_cons_eq, .inr ⟨by simp, fun F => Ex.mk fun a w ha hw' => (hqo F).go a w (ha.uncons hf) hw'⟩⟩⟩) (fun hl => by rw [hlj hc] at hl; cases hl) hfr hnf
 ·rw [hq] at he; cases he
 ·-- it was run ahead
  have hl := hfr (by rw [List.contains_eq_mem]; simpa using ⟨z, hz, hzi⟩)
  rcases h.inq j hl with h1 | ⟨e, he, hej⟩
  ·exact absurd h1 hjq
  ·obtain ⟨k1, k2, k3, k4⟩ := h.early e he
   have hez : e.1 = z := by
    obtain ⟨x, hx, ex⟩ := List.mem_iff_getElem.1 k1
    obtain ⟨y, hy, ey⟩ := List.mem_iff_getElem.1 hz
    have hxy : x = y := by
     have h1 : (fa.map (·.i))[x]'(by simpa using hx) = (fa.map (·.i))[y]'(by simpa using hy) := by
      simp only [List.getElem_map, ex, ey]
      rw [hej, hzi]
     exact (List.getElem_inj hfa).1 h1
    subst hxy
    rw [← ex, ey]
   obtain ⟨E1, E2, rfl⟩ := List.append_of_mem he
   have hnd := h.ednd
   rw [List.map_append, List.map_cons, List.nodup_append, List.nodup_cons] at hnd
   refine key o d (z.f e.2) pd (z.nw e.2 :: os) (E1 ++ E2) ho hd hN (fun _ h => h) (.inr ⟨_, rfl⟩) (h.sta.perm ?_) (fun x hx => ?_) (fun x hx => ?_) ?_ (fun hl' => by rw [hl] at hl'; cases hl') (fun _ => ?_) hfr (hnf e.2)
   ·simp only [frames, List.map_append, List.map_cons, hez]
    have : (os ++ ((E1.map fun e => e.1.nw e.2) ++ z.nw e.2 :: E2.map fun e => e.1.nw e.2)).Perm (z.nw e.2 :: (os ++ ((E1.map fun e => e.1.nw e.2) ++ E2.map fun e => e.1.nw e.2))) := by
     rw [← List.append_assoc, ← List.append_assoc]
     exact List.perm_middle
    simpa using this
   ·have hne : x.1.i ≠ e.1.i := by
     rcases List.mem_append.1 hx with h' | h'
     ·exact hnd.2.2 _ (List.mem_map.2 ⟨x, h', rfl⟩) _ (List.mem_cons_self)
     ·exact fun h2 => hnd.2.1.1 (List.mem_map.2 ⟨x, h', h2⟩)
    refine ⟨?_, fun h2 => hne (h2.trans hej.symm)⟩
    rcases List.mem_append.1 hx with h' | h'
    ·exact List.mem_append.2 (.inl h')
    ·exact List.mem_append.2 (.inr (List.mem_cons_of_mem _ h'))
   ·rcases List.mem_append.1 hx with h' | h'
    ·exact .inl (List.mem_append.2 (.inl h'))
    ·rcases List.mem_cons.1 h' with rfl | h'
     ·exact .inr hej
     ·exact .inl (List.mem_append.2 (.inr h'))
   ·rw [List.map_append, List.nodup_append]
    exact ⟨hnd.1, hnd.2.1.2, fun x hx y hy => hnd.2.2 x hx y (List.mem_cons_of_mem _ hy)⟩
   ·have := k4 o d (by rw [hej]; exact ho) hd
    rw [this, hez]
theorem InvW.advX (hg : GoodX xx ops n p0 ef (fa.map (·.i))) (hfa : (fa.map (·.i)).Nodup) {listed : Array Bool} (hx : listed.getD xx false = true) {a : Act} {w : World} {i : Nat} {o : Oper} (ho : ops[i]? = some o) (hl : listed.getD i false = false)
  (hr : ∀ e ∈ o.after, Region.binds .any e = true → listed.getD e.on false = true) :
  ∀ (p q : List Nat) (s : Slots) (fs : List Fact) (os : List Own) (pd : List Nat) (b : Act) (E : List (FreeA × Nat)), InvW P c N ops n ef fa p0 R listed a w q p s fs os pd b E → i ∈ p →
   ∃ q' p' s' os' pd' b' E', InvW P c N ops n ef fa p0 R listed a w q' p' s' fs os' pd' b' E' ∧ (ef.contains i = false → (fa.map (·.i)).contains i = false → i ∈ q') ∧ (ef.contains i = true → ∃ r, p' = i :: r) ∧
    ((fa.map (·.i)).contains i = true → i ∈ p' ∧ ((∃ r, p' = i :: r) ∨ ∀ z ∈ fa, z.i = i → SubS s' z.vals))
 | [], _, _, _, _, _, _, _, _, hi => by cases hi
 | j :: p, q, s, fs, os, pd, b, E, h, hi => by
  have noeff : ∀ e', e' ∈ j :: p → ef.contains e' = true → anc ops n i e' = true → False := fun e' he' hef ha => by
   have := anc_listed h.closed n i e' o ho hr ha
   rw [h.effpX hg he' hef] at this
   cases this
  have hnanc : listed.getD j false = false → anc ops n i j = true → False := fun hlj ha => by
   have := anc_listed h.closed n i j o ho hr ha
   rw [hlj] at this
   cases this
  by_cases hq : ef.contains j = false ∧ ((fa.map (·.i)).contains j = true → listed.getD j false = true)
  ·obtain ⟨s', os', pd', b', E', h'⟩ := h.stepX hg hfa hq.1 hq.2
   by_cases e : i = j
   ·subst e
    refine ⟨_, _, s', os', pd', b', E', h', fun _ _ => by simp, fun h1 => ?_, fun h1 => ?_⟩
    ·rw [hq.1] at h1; cases h1
    ·rw [hq.2 h1] at hl; cases hl
   ·have hip : i ∈ p := by
     rcases List.mem_cons.1 hi with h' | h'
     ·exact absurd h' e
     ·exact h'
    exact InvW.advX hg hfa hx ho hl hr p _ s' fs os' pd' b' E' h' hip
  ·by_cases e : i = j
   ·subst e
    refine ⟨q, _, s, os, pd, b, E, h, fun h1 h2 => ?_, fun _ => ⟨p, rfl⟩, fun _ => ⟨hi, .inl ⟨p, rfl⟩⟩⟩
    exact (hq ⟨h1, fun h3 => by rw [h2] at h3; cases h3⟩).elim
   ·have hip : i ∈ p := by
     rcases List.mem_cons.1 hi with h' | h'
     ·exact absurd h' e
     ·exact h'
    have hblk : ef.contains j = true ∨ ((fa.map (·.i)).contains j = true ∧ listed.getD j false = false) := by
     cases hej : ef.contains j with
     | true => exact .inl rfl
     | false =>
      refine .inr ?_
      cases hfj : (fa.map (·.i)).contains j with
      | false => exact (hq ⟨hej, fun h3 => by rw [hfj] at h3; cases h3⟩).elim
      | true =>
       cases hlj : listed.getD j false with
       | false => exact ⟨rfl, rfl⟩
       | true => exact (hq ⟨hej, fun _ => hlj⟩).elim
    have hlj : listed.getD j false = false := by
     rcases hblk with h1 | h1
     ·exact h.effpX hg (by simp) h1
     ·exact h1.2
    rcases hg.chain q j p h.part (fun e => by rw [e, hx] at hlj; cases hlj) (hblk.imp id And.left) i hip with ⟨_, ha⟩ | ⟨hei, hc⟩
    ·exact (hnanc hlj ha).elim
    ·rcases hc with hfi | ⟨_, ha⟩ | ⟨e', he', hef, ha⟩
     ·-- it may run ahead of its turn
      refine ⟨q, _, s, os, pd, b, E, h, (fun _ h2 => by rw [hfi] at h2; cases h2), (fun h1 => by rw [hei] at h1; cases h1), fun _ => ⟨hi, .inr fun z hz hzi => ?_⟩⟩
      have use : ∀ p', Rdy ops n ef fa p' s → i ∈ p' → (∀ x ∈ p', x ∈ j :: p) → SubS s z.vals := fun p' hrd hip' hsub => by
       rcases hrd z hz (by rw [hzi]; exact hip') with h1 | h1
       ·obtain ⟨e', he', h2⟩ := List.any_eq_true.1 h1
        simp only [Bool.and_eq_true] at h2
        rw [hzi] at h2
        exact (noeff e' (hsub e' he') h2.1 h2.2).elim
       ·exact h1
      obtain ⟨o', _, hcase⟩ := h.nf
      rcases hcase with ⟨d, _, _, he1, he2, _⟩ | ⟨d, v, _, _, he1, he2, _⟩ | ⟨d, v, _, _, he1, he2, _⟩ | ⟨_, hrd, _⟩ | ⟨z', _, _, hrd, _⟩
      ·rcases hblk with h1 | h1
       ·rw [he1] at h1; cases h1
       ·rw [he2] at h1; cases h1.1
      ·rcases hblk with h1 | h1
       ·rw [he1] at h1; cases h1
       ·rw [he2] at h1; cases h1.1
      ·rcases hblk with h1 | h1
       ·rw [he1] at h1; cases h1
       ·rw [he2] at h1; cases h1.1
      ·exact use _ hrd hi (fun _ h => h)
      ·exact use _ hrd hip (fun _ h => List.mem_cons_of_mem _ h)
     ·exact (hnanc hlj ha).elim
     ·exact (noeff e' he' hef ha).elim
theorem InvW.qclosedX (hg : GoodX xx ops n p0 ef (fa.map (·.i))) {listed : Array Bool} {a : Act} {w : World} {q p : List Nat} {s : Slots} {fs : List Fact} {os : List Own} {pd : List Nat} {b : Act} {E : List (FreeA × Nat)}
  (h : InvW P c N ops n ef fa p0 R listed a w q p s fs os pd b E) {j : Nat} {oj : Oper} (hj : j ∈ q) (hoj : ops[j]? = some oj) : ∀ e ∈ oj.after, Region.binds .any e = true → e.on ∈ q := fun e he hb => by
 obtain ⟨q1, q2, hq⟩ := List.append_of_mem hj
 have := hg.edge q1 j (q2 ++ p) (by rw [h.part, hq]; simp) oj hoj e he hb
 rw [hq]
 exact List.mem_append.2 (.inl this)
theorem InvW.agreeX (hg : GoodX xx ops n p0 ef (fa.map (·.i))) {listed : Array Bool} {a : Act} {w : World} {q p : List Nat} {s : Slots} {fs : List Fact} {os : List Own} {pd : List Nat} {b : Act} {E : List (FreeA × Nat)}
  (h : InvW P c N ops n ef fa p0 R listed a w q p s fs os pd b E) {i : Nat} {o : Oper} (ho : ops[i]? = some o)
  (hr : ∀ e ∈ o.after, Region.binds .any e = true → listed.getD e.on false = true) (hrq : ∀ e ∈ o.after, Region.binds .any e = true → e.on ∈ q) :
  execOp a.eval o = execOp b.eval o ∧ Region.wanted o (yielded ops a.tmps) = Region.wanted o (yielded ops b.tmps) := by
 refine Sx.agree h.size h.sl.size (hg.sel i o ho) fun t ht => ?_
 by_cases hd : ∃ (j : Nat) (oj : Oper), ops[j]? = some oj ∧ oj.dst = some t
 ·obtain ⟨j, oj, hj, hdj⟩ := hd
  have ha := (hg.look i j o oj t ho hj hdj ht).2
  exact h.done j oj t (anc_listed h.closed n i j o ho hr ha) (anc_q (fun j hj oj hoj => h.qclosedX hg hj hoj) n i j o ho hrq ha) hj hdj
 ·exact h.outer t fun j oj hj hdj => hd ⟨j, oj, hj, hdj⟩
theorem InvW.valsX (hg : GoodX xx ops n p0 ef (fa.map (·.i))) {listed : Array Bool} {a : Act} {w : World} {q p : List Nat} {s : Slots} {fs : List Fact} {os : List Own} {pd : List Nat} {b : Act} {E : List (FreeA × Nat)}
  (h : InvW P c N ops n ef fa p0 R listed a w q p s fs os pd b E) {i : Nat} {o : Oper} (ho : ops[i]? = some o)
  (hr : ∀ e ∈ o.after, Region.binds .any e = true → listed.getD e.on false = true) {vals : Slots} (hv : SubS s vals) (hlook : ∀ x ∈ vals, x.1 ∈ o.looksAt ops) : Sl N vals a := by
 refine ⟨h.size, h.defers, fun t v htv => ?_⟩
 have hs := hv.lk t v htv
 have hmem : t ∈ o.looksAt ops := by
  clear hv
  induction vals with
  | nil => simp [lk] at htv
  | cons x r ih =>
   obtain ⟨d, u⟩ := x
   by_cases e : d = t
   ·subst e; exact hlook (d, u) (by simp)
   ·rw [lk_cons_ne e] at htv
    exact ih (fun y hy => hlook y (List.mem_cons_of_mem _ hy)) htv
 rw [← h.sl.get t v hs]
 by_cases hd : ∃ (j : Nat) (oj : Oper), ops[j]? = some oj ∧ oj.dst = some t
 ·obtain ⟨j, oj, hj, hdj⟩ := hd
  have ha := (hg.look i j o oj t ho hj hdj hmem).2
  have hjq : j ∈ q := by
   have hjp : j ∈ q ++ p := by rw [← h.part]; exact hg.all j (Array.getElem?_eq_some_iff.1 hj).1
   rcases List.mem_append.1 hjp with h1 | h1
   ·exact h1
   ·rw [h.fresh j h1 oj t hj hdj] at hs; cases hs
  exact h.done j oj t (anc_listed h.closed n i j o ho hr ha) hjq hj hdj
 ·exact h.outer t fun j oj hj hdj => hd ⟨j, oj, hj, hdj⟩
theorem InvW.runX {listed : Array Bool} {a : Act} {w w' : World} {q p : List Nat} {s : Slots} {fs : List Fact} {os : List Own} {pd : List Nat} {b : Act} {E : List (FreeA × Nat)}
  (h : InvW P c N ops n ef fa p0 R listed a w q p s fs os pd b E) (hg : GoodX xx ops n p0 ef (fa.map (·.i))) {i d : Nat} {o : Oper} {v : Value} (hs : i < listed.size) (ho : ops[i]? = some o) (hd : o.dst = some d) (hN : d < N) (hv : b.tmps.getD d undef = v) (hq : i ∈ q)
  (hr : ∀ e ∈ o.after, Region.binds .any e = true → listed.getD e.on false = true) (hw : Sta c fs (os ++ frames E) w') :
  InvW P c N ops n ef fa p0 R (listed.setIfInBounds i true) (a.put (some d) v) w' q p s fs os pd b E where
 part := h.part
 sta := hw
 sl := h.sl
 size := by simp [Act.put, h.size]
 defers := h.defers
 outer := fun t ht => by rw [getD_put_ne (fun e : t = d => ht i o ho (by rw [e]; exact hd))]; exact h.outer t ht
 done := fun j oj dj hj hjq hoj hdj => by
  by_cases e : dj = d
  ·subst e
   rw [getD_put_eq (by rw [h.size]; exact hN)]
   exact hv.symm
  ·rw [getD_put_ne e]
   rcases (listed_set hs).1 hj with rfl | hj
   ·rw [hoj] at ho; cases ho; rw [hd] at hdj; cases hdj; exact absurd rfl e
   ·exact h.done j oj dj hj hjq hoj hdj
 early := fun e he => by
  obtain ⟨k1, k2, k3, k4⟩ := h.early e he
  refine ⟨k1, k2, (listed_set hs).2 (.inr k3), fun oe de hoe hde => ?_⟩
  rw [getD_put_ne (fun e' : de = d => ?_)]
  ·exact k4 oe de hoe hde
  ·subst e'
   have := hg.uniq i e.1.i o oe de ho hoe hde hd
   exact h.notqX hg k2 (this ▸ hq)
 ednd := h.ednd
 inq := fun j hj => by
  rcases (listed_set hs).1 hj with rfl | hj
  ·exact .inl hq
  ·exact h.inq j hj
 eff := fun j hj he => (listed_set hs).2 (.inr (h.eff j hj he))
 stat := fun j hj hl => h.stat j hj (by
  cases hlj : listed.getD j false with
  | false => rfl
  | true => rw [(listed_set hs).2 (.inr hlj)] at hl; cases hl)
 fresh := h.fresh
 nf := h.nf
 closed := fun j oj hj hoj e he hb => by
  rcases (listed_set hs).1 hj with rfl | hj
  ·rw [hoj] at ho; cases ho; exact (listed_set hs).2 (.inr (hr e he hb))
  ·exact (listed_set hs).2 (.inr (h.closed j oj hj hoj e he hb))
 dlt := h.dlt
theorem InvW.runEX {listed : Array Bool} {a : Act} {w w' : World} {q p : List Nat} {s : Slots} {fs : List Fact} {os : List Own} {pd : List Nat} {b : Act} {E : List (FreeA × Nat)}
  (h : InvW P c N ops n ef fa p0 R listed a w q p s fs os pd b E) (hg : GoodX xx ops n p0 ef (fa.map (·.i))) {z : FreeA} (hz : z ∈ fa) {d g : Nat} {o : Oper} (hs : z.i < listed.size) (hl : listed.getD z.i false = false) (hp : z.i ∈ p) (ho : ops[z.i]? = some o) (hd : o.dst = some d) (hN : d < N)
  (hr : ∀ e ∈ o.after, Region.binds .any e = true → listed.getD e.on false = true) (hw : Sta c fs (z.nw g :: (os ++ frames E)) w') :
  InvW P c N ops n ef fa p0 R (listed.setIfInBounds z.i true) (a.put (some d) (z.f g)) w' q p s fs os pd b ((z, g) :: E) where
 part := h.part
 sta := hw.perm (by simpa [frames] using List.perm_middle.symm)
 sl := h.sl
 size := by simp [Act.put, h.size]
 defers := h.defers
 outer := fun t ht => by rw [getD_put_ne (fun e : t = d => ht z.i o ho (by rw [e]; exact hd))]; exact h.outer t ht
 done := fun j oj dj hj hjq hoj hdj => by
  have hjz : j ≠ z.i := fun e => h.notqX hg hp (e ▸ hjq)
  have hne : dj ≠ d := fun e => hjz (hg.uniq j z.i oj o dj hoj ho (by rw [e]; exact hd) hdj)
  rw [getD_put_ne hne]
  rcases (listed_set hs).1 hj with hj | hj
  ·exact absurd hj hjz
  ·exact h.done j oj dj hj hjq hoj hdj
 early := fun e he => by
  rcases List.mem_cons.1 he with rfl | he
  ·refine ⟨hz, hp, (listed_set hs).2 (.inl rfl), fun oe de hoe hde => ?_⟩
   rw [hoe] at ho; cases ho; rw [hde] at hd; cases hd
   exact getD_put_eq (by rw [h.size]; exact hN)
  ·obtain ⟨k1, k2, k3, k4⟩ := h.early e he
   refine ⟨k1, k2, (listed_set hs).2 (.inr k3), fun oe de hoe hde => ?_⟩
   have hne : e.1.i ≠ z.i := fun e' => by rw [e', hl] at k3; cases k3
   rw [getD_put_ne (fun e' : de = d => hne (hg.uniq e.1.i z.i oe o de hoe ho (by rw [e']; exact hd) hde))]
   exact k4 oe de hoe hde
 ednd := by
  rw [List.map_cons, List.nodup_cons]
  refine ⟨fun hm => ?_, h.ednd⟩
  obtain ⟨e, he, hez⟩ := List.mem_map.1 hm
  have := (h.early e he).2.2.1
  simp only at hez
  rw [hez, hl] at this
  cases this
 inq := fun j hj => by
  rcases (listed_set hs).1 hj with rfl | hj
  ·exact .inr ⟨_, List.mem_cons_self, rfl⟩
  ·rcases h.inq j hj with h1 | ⟨e, he, h1⟩
   ·exact .inl h1
   ·exact .inr ⟨e, List.mem_cons_of_mem _ he, h1⟩
 eff := fun j hj he => (listed_set hs).2 (.inr (h.eff j hj he))
 stat := fun j hj hl => h.stat j hj (by
  cases hlj : listed.getD j false with
  | false => rfl
  | true => rw [(listed_set hs).2 (.inr hlj)] at hl; cases hl)
 fresh := h.fresh
 nf := h.nf
 closed := fun j oj hj hoj e he hb => by
  rcases (listed_set hs).1 hj with rfl | hj
  ·rw [hoj] at ho; cases ho; exact (listed_set hs).2 (.inr (hr e he hb))
  ·exact (listed_set hs).2 (.inr (h.closed j oj hj hoj e he hb))
 dlt := h.dlt
theorem InvW.allX (hg : GoodX xx ops n p0 ef (fa.map (·.i))) (hfa : (fa.map (·.i)).Nodup) {listed : Array Bool} {a : Act} {w : World} (hR : ∀ s fs os, R s fs os → ∀ a w, Sl N s a → Sta c fs os w → Q .normal a w) (hl : ∀ i, i < ops.size → listed.getD i false = true) :
  ∀ (p q : List Nat) (s : Slots) (fs : List Fact) (os : List Own) (pd : List Nat) (b : Act) (E : List (FreeA × Nat)), InvW P c N ops n ef fa p0 R listed a w q p s fs os pd b E → Q .normal a w
 | j :: p, q, s, fs, os, pd, b, E, h => by
  have hlj := hl j (hg.lt j (by rw [h.part]; simp))
  have hef : ef.contains j = false := by
   cases he : ef.contains j with
   | false => rfl
   | true => rw [h.effpX hg (by simp) he] at hlj; cases hlj
  obtain ⟨s', os', pd', b', E', h'⟩ := h.stepX hg hfa hef (fun _ => hlj)
  exact InvW.allX hg hfa hR hl p _ s' fs os' pd' b' E' h'
 | [], q, s, fs, os, pd, b, E, h => by
  have hE : E = [] := by
   cases E with
   | nil => rfl
   | cons e E => have := (h.early e (by simp)).2.1; cases this
  subst hE
  refine hR s fs os h.nf a w ⟨h.size, h.defers, fun t v hv => ?_⟩ (by simpa [frames] using h.sta)
  rw [← h.sl.get t v hv]
  by_cases hd : ∃ (j : Nat) (oj : Oper), ops[j]? = some oj ∧ oj.dst = some t
  ·obtain ⟨j, oj, hj, hdj⟩ := hd
   have hlt := (Array.getElem?_eq_some_iff.1 hj).1
   have hjq : j ∈ q := by have := hg.all j hlt; rw [h.part] at this; simpa using this
   exact h.done j oj t (hl j hlt) hjq hj hdj
  ·exact h.outer t fun j oj hj hdj => hd ⟨j, oj, hj, hdj⟩
theorem Nw.anyX (hg : GoodX xx ops n p0 ef (fa.map (·.i))) (hfa : (fa.map (·.i)).Nodup) (hok : ∀ z ∈ fa, z.Ok P N ops) (hR : ∀ s fs os, R s fs os → ∀ a w, Sl N s a → Sta c fs os w → Q .normal a w) :
  ∀ (fuel : Nat) (listed : Array Bool) (a : Act) (w : World) (q p : List Nat) (s : Slots) (fs : List Fact) (os : List Own) (pd : List Nat) (b : Act) (E : List (FreeA × Nat)),
   InvW P c N ops n ef fa p0 R listed a w q p s fs os pd b E → listed.size = ops.size → unl listed ops.size ≤ fuel → listed.getD xx false = true → wpAny P .any ops Q fuel listed a w := by
 have getD_tf : ∀ (listed : Array Bool) (i : Nat), i < listed.size → listed.getD i true = listed.getD i false := fun listed i hi => by
  simp [Array.getD_eq_getD_getElem?, Array.getElem?_eq_getElem hi]
 intro fuel
 induction fuel with
 | zero =>
  intro listed a w q p s fs os pd b E h hsz hu hx
  have hl := unl_zero listed ops.size (by omega)
  refine ⟨?_, InvW.allX hg hfa hR hl _ _ _ _ _ _ _ _ h⟩
  refine List.eq_nil_iff_forall_not_mem.2 fun i hi => ?_
  obtain ⟨h1, o, ho, _⟩ := mem_ready.1 hi
  have hlt := (Array.getElem?_eq_some_iff.1 ho).1
  rw [getD_tf listed i (by omega), hl i hlt] at h1
  cases h1
 | succ fuel ih =>
  intro listed a w q p s fs os pd b E h hsz hu hx
  refine ⟨fun hnil => ?_, fun i hi => ?_⟩
  ·refine InvW.allX hg hfa hR (fun i hi => ?_) _ _ _ _ _ _ _ _ h
   cases hl : listed.getD i false with
   | true => rfl
   | false =>
    exfalso
    obtain ⟨q1, j, r, e, hj, hq1⟩ := first_of (p := fun x => listed.getD x false = true) p0 ⟨i, hg.all i hi, by rw [hl]; simp⟩
    have hjlt := hg.lt j (by rw [e]; simp)
    have hoj := Array.getElem?_eq_getElem hjlt
    have : j ∈ Region.ready .any ops listed := mem_ready.2 ⟨by rw [getD_tf listed j (by omega)]; simpa using hj, _, hoj, fun x hx hb => hq1 _ (hg.edge q1 j r e _ hoj x hx hb)⟩
    rw [hnil] at this
    cases this
  ·obtain ⟨h1, o, ho, hr⟩ := mem_ready.1 hi
   have hlt := (Array.getElem?_eq_some_iff.1 ho).1
   have hls : i < listed.size := by omega
   rw [getD_tf listed i hls] at h1
   have hu' : unl (listed.setIfInBounds i true) ops.size ≤ fuel := by
    have := unl_set listed i h1 hls ops.size
    rw [if_pos hlt] at this
    omega
   have hsz' : (listed.setIfInBounds i true).size = ops.size := by simpa using hsz
   have hx' : (listed.setIfInBounds i true).getD xx false = true := (listed_set hls).2 (.inr hx)
   have hip0 : i ∈ q ++ p := by rw [← h.part]; exact hg.all i hlt
   unfold wpOp
   simp only [ho]
   cases hei : ef.contains i with
   | false =>
    cases hfi : (fa.map (·.i)).contains i with
    | false =>
     obtain ⟨q', p', s', os', pd', b', E', h', hiq⟩ : ∃ q' p' s' os' pd' b' E', InvW P c N ops n ef fa p0 R listed a w q' p' s' fs os' pd' b' E' ∧ i ∈ q' := by
      rcases List.mem_append.1 hip0 with hm | hm
      ·exact ⟨q, p, s, os, pd, b, E, h, hm⟩
      ·obtain ⟨q', p', s', os', pd', b', E', h', h2, _⟩ := InvW.advX hg hfa hx ho h1 hr p q s fs os pd b E h hm
       exact ⟨q', p', s', os', pd', b', E', h', h2 hei hfi⟩
     obtain ⟨he, hw⟩ := h'.agreeX hg ho hr (h'.qclosedX hg hiq ho)
     obtain ⟨o', d, ho', hd, hst⟩ := h'.stat i hiq h1
     rw [ho] at ho'
     cases ho'
     have hN : d < N := h'.dlt i hiq o d ho hd
     rcases hst with ⟨hwf, hv⟩ | ⟨hwt, v, hv, hlk, hst⟩
     ·rw [hw, wtd_ok h'.sl hwf, hd]
      simp only [Bool.false_eq_true, if_false]
      exact ih _ _ _ _ _ _ _ _ _ _ _ (h'.runX hg hls ho hd hN hv hiq hr h'.sta) hsz' hu' hx'
     ·rw [hw, wtd_ok h'.sl hwt]
      simp only [if_true]
      refine .inl ?_
      rcases hst with hpu | ⟨_, hqo⟩
      ·refine Outc.wp (R := fun v' w' => v' = v ∧ w' = w) (by rw [he, hpu b' w h'.sl]; exact ⟨rfl, rfl⟩) ?_
       rintro v' w' ⟨rfl, rfl⟩
       rw [hd]
       exact ih _ _ _ _ _ _ _ _ _ _ _ (h'.runX hg hls ho hd hN hv hiq hr h'.sta) hsz' hu' hx'
      ·refine Outc.wp (R := fun v' w' => v' = v ∧ Sta c fs (os' ++ frames E') w') (by rw [he]; exact (hqo (frames E')).go b' w h'.sl h'.sta) ?_
       rintro v' w' ⟨rfl, hw'⟩
       rw [hd]
       exact ih _ _ _ _ _ _ _ _ _ _ _ (h'.runX hg hls ho hd hN hv hiq hr hw') hsz' hu' hx'
    | true =>
     have hiq : i ∉ q := fun hm => by rw [h.eff i hm (.inr hfi)] at h1; cases h1
     have hip : i ∈ p := by
      rcases List.mem_append.1 hip0 with hm | hm
      ·exact absurd hm hiq
      ·exact hm
     obtain ⟨q', p', s', os', pd', b', E', h', _, _, h3⟩ := InvW.advX hg hfa hx ho h1 hr p q s fs os pd b E h hip
     obtain ⟨hip', h3⟩ := h3 hfi
     have hsub : ∃ z ∈ fa, z.i = i ∧ SubS s' z.vals := by
      rcases h3 with ⟨r, rfl⟩ | h3
      ·obtain ⟨o', _, hcase⟩ := h'.nf
       rcases hcase with ⟨d, _, _, _, hb, _⟩ | ⟨d, v, _, _, _, hb, _⟩ | ⟨d, v, _, _, _, hb, _⟩ | ⟨hb, _⟩ | ⟨z, hz, hzi, _, hv, _⟩
       ·rw [hfi] at hb; cases hb
       ·rw [hfi] at hb; cases hb
       ·rw [hfi] at hb; cases hb
       ·rw [hei] at hb; cases hb
       ·exact ⟨z, hz, hzi, hv⟩
      ·obtain ⟨z, hz, hzi⟩ := mem_fr.1 hfi
       exact ⟨z, hz, hzi, h3 z hz hzi⟩
     obtain ⟨z, hz, rfl, hv⟩ := hsub
     obtain ⟨o', d, ho', hd, hN, hgd, hlook, hrun⟩ := (hok z hz).go
     rw [ho] at ho'
     cases ho'
     have hwt : Region.wanted o (yielded ops a.tmps) = true := by unfold Region.wanted; rw [hgd]
     rw [hwt]
     simp only [if_true]
     refine .inl (Outc.wp (hrun c fs (os' ++ frames E') a w (h'.valsX hg ho hr hv hlook) h'.sta) ?_)
     rintro v w' ⟨g, rfl, hw'⟩
     rw [hd]
     exact ih _ _ _ _ _ _ _ _ _ _ _ (h'.runEX hg hz hls h1 hip' ho hd hN hr hw') hsz' hu' hx'
   | true =>
    have hiq : i ∉ q := fun hm => by rw [h.eff i hm (.inl hei)] at h1; cases h1
    have hip : i ∈ p := by
     rcases List.mem_append.1 hip0 with hm | hm
     ·exact absurd hm hiq
     ·exact hm
    obtain ⟨q', p', s', os', pd', b', E', h', _, hpe, _⟩ := InvW.advX hg hfa hx ho h1 hr p q s fs os pd b E h hip
    obtain ⟨r, rfl⟩ := hpe hei
    obtain ⟨he, hw⟩ := h'.agreeX hg ho hr (fun e he hb => hg.edge q' i r h'.part o ho e he hb)
    obtain ⟨o', ho', hcase⟩ := h'.nf
    rw [ho] at ho'
    cases ho'
    rcases hcase with ⟨_, _, _, hb, _⟩ | ⟨_, _, _, _, hb, _⟩ | ⟨_, _, _, _, hb, _⟩ | ⟨_, _, hdN, hwt, next, hex, hnext⟩ | ⟨z, hz, hzi, _⟩
    ·rw [hei] at hb; cases hb
    ·rw [hei] at hb; cases hb
    ·rw [hei] at hb; cases hb
    ·rw [hw, wtd_ok h'.sl hwt]
     simp only [if_true]
     refine .inl (Outc.wp (R := fun v w' => ∃ fs'' os'', next v fs'' os'' ∧ Sta c fs'' (os'' ++ frames E') w') (by rw [he]; exact (hex (frames E')).go b' w h'.sl h'.sta) ?_)
     rintro v w' ⟨fs'', os'', hn, hw'⟩
     obtain ⟨hpd, hnf⟩ := hnext v fs'' os'' hn
     have hiq' := h'.notqX hg (j := i) (by simp)
     have hir : i ∉ r := by
      have := hg.nodup
      rw [h'.part, List.nodup_append, List.nodup_cons] at this
      exact this.2.1.1
     -- what stands open stays so
     have hold : ∀ j, j ∈ q' → listed.getD j false = false → StatW P c N ops s' fs'' os'' pd' b' j := fun j hj hl => by
      obtain ⟨oj, dj, hoj, hdj, hst⟩ := h'.stat j hj hl
      refine ⟨oj, dj, hoj, hdj, ?_⟩
      rcases hst with h0 | ⟨hwj, v, hv, hlk, hp | ⟨hm, _⟩⟩
      ·exact .inl h0
      ·exact .inr ⟨hwj, v, hv, hlk, .inl hp⟩
      ·rcases hpd j hm with ha | ⟨oj', dj', vj, hoj', hdj', hlj, hqo⟩
       ·have := anc_listed h'.closed n i j o ho hr ha
        rw [hl] at this
        cases this
       ·rw [hoj] at hoj'; cases hoj'; rw [hdj] at hdj'; cases hdj'
        rw [hlk] at hlj
        cases hlj
        exact .inr ⟨hwj, v, hv, hlk, .inr ⟨hm, hqo⟩⟩
     refine ih _ _ _ (q' ++ [i]) r (addS s' o.dst v) fs'' os'' pd' (b'.put o.dst v) E' ?_ hsz' hu' hx'
     have hother : ∀ (j : Nat) (oj : Oper) (d : Nat), o.dst = some d → j ≠ i → ops[j]? = some oj → oj.dst ≠ some d := fun j oj d hd hne hj hdj => hne (hg.uniq j i oj o d hj ho hd hdj)
     have hEi : ∀ e ∈ E', e.1.i ≠ i := fun e he' hei' => by
      have := (h'.early e he').2.2.1
      rw [hei', h1] at this
      cases this
     refine ⟨by rw [h'.part]; simp, hw', h'.sl.addS v hdN, ?_, ?_, fun t ht => ?_, fun j oj dj hj hjq hoj hdj => ?_, fun e he' => ?_, h'.ednd, fun j hj => ?_, fun j hj hej => ?_, fun j hj hl => ?_, fun j hj oj dj hoj hdj => ?_, hnf, fun j oj hj hoj x hx hb => ?_, fun j hj oj dj hoj hdj => ?_⟩
     ·cases o.dst <;> simp [Act.put, h'.size]
     ·cases o.dst <;> simp [Act.put, h'.defers]
     ·cases hd : o.dst with
      | none => exact h'.outer t ht
      | some d =>
       have hne : t ≠ d := fun e => ht i o ho (by rw [e]; exact hd)
       rw [getD_put_ne hne, getD_put_ne hne]
       exact h'.outer t ht
     ·have hcase : j = i ∨ (j ≠ i ∧ listed.getD j false = true ∧ j ∈ q') := by
       by_cases e : j = i
       ·exact .inl e
       ·refine .inr ⟨e, ?_, ?_⟩
        ·rcases (listed_set hls).1 hj with h2 | h2
         ·exact absurd h2 e
         ·exact h2
        ·rcases List.mem_append.1 hjq with h2 | h2
         ·exact h2
         ·simp at h2; exact absurd h2 e
      cases hd : o.dst with
      | none =>
       rcases hcase with rfl | ⟨_, k1, k2⟩
       ·rw [hoj] at ho; cases ho; rw [hd] at hdj; cases hdj
       ·exact h'.done j oj dj k1 k2 hoj hdj
      | some d =>
       by_cases e : dj = d
       ·subst e
        rw [getD_put_eq (by rw [h'.size]; exact hdN _ hd), getD_put_eq (by rw [h'.sl.size]; exact hdN _ hd)]
       ·rw [getD_put_ne e, getD_put_ne e]
        rcases hcase with rfl | ⟨_, k1, k2⟩
        ·rw [hoj] at ho; cases ho; rw [hd] at hdj; cases hdj; exact absurd rfl e
        ·exact h'.done j oj dj k1 k2 hoj hdj
     ·obtain ⟨k1, k2, k3, k4⟩ := h'.early e he'
      refine ⟨k1, ?_, (listed_set hls).2 (.inr k3), fun oe de hoe hde => ?_⟩
      ·rcases List.mem_cons.1 k2 with h2 | h2
       ·exact absurd h2 (hEi e he')
       ·exact h2
      ·cases hd : o.dst with
       | none => exact k4 oe de hoe hde
       | some d =>
        rw [getD_put_ne (fun e' : de = d => hother e.1.i oe d hd (hEi e he') hoe (by rw [← e']; exact hde))]
        exact k4 oe de hoe hde
     ·rcases (listed_set hls).1 hj with rfl | hj
      ·exact .inl (by simp)
      ·rcases h'.inq j hj with h2 | h2
       ·exact .inl (List.mem_append.2 (.inl h2))
       ·exact .inr h2
     ·rcases List.mem_append.1 hj with hj | hj
      ·exact (listed_set hls).2 (.inr (h'.eff j hj hej))
      ·simp at hj; subst hj; exact (listed_set hls).2 (.inl rfl)
     ·have hne : j ≠ i := fun e => by rw [(listed_set hls).2 (.inl e)] at hl; cases hl
      have hjq : j ∈ q' := by
       rcases List.mem_append.1 hj with hj | hj
       ·exact hj
       ·simp at hj; exact absurd hj hne
      have hlj : listed.getD j false = false := by
       cases hlj : listed.getD j false with
       | false => rfl
       | true => rw [(listed_set hls).2 (.inr hlj)] at hl; cases hl
      cases hd : o.dst with
      | none => exact hold j hjq hlj
      | some d => exact (hold j hjq hlj).cons (h'.fresh i (by simp) o d ho hd) (fun _ h => h) (fun oj hoj => hother j oj d hd hne hoj) (.inl rfl)
     ·have hne : j ≠ i := fun e => hir (e ▸ hj)
      cases hd : o.dst with
      | none => exact h'.fresh j (List.mem_cons_of_mem _ hj) oj dj hoj hdj
      | some d =>
       show lk ((d, v) :: s') dj = none
       rw [lk_cons_ne (fun e : d = dj => hother j oj d hd hne hoj (by rw [e]; exact hdj))]
       exact h'.fresh j (List.mem_cons_of_mem _ hj) oj dj hoj hdj
     ·rcases (listed_set hls).1 hj with rfl | hj
      ·rw [hoj] at ho; cases ho; exact (listed_set hls).2 (.inr (hr x hx hb))
      ·exact (listed_set hls).2 (.inr (h'.closed j oj hj hoj x hx hb))
     ·rcases List.mem_append.1 hj with hj | hj
      ·exact h'.dlt j hj oj dj hoj hdj
      ·simp at hj; subst hj; rw [hoj] at ho; cases ho; exact hdN _ hdj
    ·have := hg.disj i hei
     rw [mem_fr.2 ⟨z, hz, hzi⟩] at this
     cases this
end
end Go.Sx

namespace Go.Sx
open Go Go.RowKit
section
variable (P : Program) (N : Nat) (ops : Array Oper) (ef : List Nat) (fa : List FreeA)
def NwPre : List Nat → Slots → (Slots → Prop) → Prop
 | [], s, K => K s
 | i :: p, s, K => ∃ o d v, ops[i]? = some o ∧ o.dst = some d ∧ d < N ∧ ef.contains i = false ∧ (fa.map (·.i)).contains i = false ∧ wtd ops s o = some true ∧ Pu P N s o v ∧ NwPre p ((d, v) :: s) K
end
section
variable {P : Program} {c : Ctx} {N : Nat} {ops : Array Oper} {n : Nat} {ef : List Nat} {fa : List FreeA} {R : Slots → List Fact → List Own → Prop} {Q : Exit → Act → World → Prop} {fs : List Fact} {os : List Own}
variable {i d : Nat} {op : Op} {ty : TypeId} {pos : String} {af : Array Edge} {gd : Option (Nat × Bool)} {v : Value}
theorem NwPre.nw {m : List Nat} : ∀ (p : List Nat) (s : Slots), NwPre P N ops ef fa p s (fun s => Nw P c N ops n ef fa m s fs os [] R) → Nw P c N ops n ef fa (p ++ m) s fs os [] R
 | [], _, h => h
 | _ :: p, _, ⟨o, d, v, ho, hd, hN, he, hf, hw, hp, k⟩ => ⟨o, ho, .inr (.inl ⟨d, v, hd, hN, he, hf, hw, hp, NwPre.nw p _ k⟩)⟩
theorem NwPre.mono {K K' : Slots → Prop} (hk : ∀ s, K s → K' s) : ∀ (p : List Nat) (s : Slots), NwPre P N ops ef fa p s K → NwPre P N ops ef fa p s K'
 | [], _, h => hk _ h
 | _ :: p, _, ⟨o, d, v, ho, hd, hN, he, hf, hw, hp, k⟩ => ⟨o, d, v, ho, hd, hN, he, hf, hw, hp, NwPre.mono hk p _ k⟩
theorem InvW.pre {xx : Nat} {p0 m : List Nat} (hg : GoodX xx ops n p0 ef (fa.map (·.i))) {listed : Array Bool} {a : Act} {w : World} (hnone : ∀ i, listed.getD i false = false) {K : Slots → Prop} (hK : ∀ s, K s → Nw P c N ops n ef fa m s fs os [] R) :
  ∀ (p q : List Nat) (s : Slots) (b : Act), InvW P c N ops n ef fa p0 R listed a w q (p ++ m) s fs os [] b [] → (∀ i ∈ q, ef.contains i = false ∧ (fa.map (·.i)).contains i = false) → NwPre P N ops ef fa p s K →
   ∃ s' b', InvW P c N ops n ef fa p0 R listed a w (q ++ p) m s' fs os [] b' [] ∧ K s'
 | [], q, s, b, h, _, hn => ⟨s, b, by simpa using h, hn⟩
 | j :: p, q, s, b, h, hq0, ⟨o, d, v, ho, hd, hN, he, hf, hw, hp, k⟩ => by
  have hjq : j ∉ q := h.notqX hg (by simp)
  have hfr : lk s d = none := h.fresh j (by simp) o d ho hd
  have hnj : ∀ i ∈ p ++ m, i ≠ j := fun i hi e => by
   have := hg.nodup
   rw [h.part, List.nodup_append] at this
   have h2 := this.2.1
   rw [List.cons_append, List.nodup_cons] at h2
   exact h2.1 (e ▸ hi)
  have hother : ∀ (i : Nat) (oi : Oper), i ≠ j → ops[i]? = some oi → oi.dst ≠ some d := fun i oi hne hi he => hne (hg.uniq i j oi o d hi ho hd he)
  have hnw : Nw P c N ops n ef fa (p ++ m) ((d, v) :: s) fs os [] R := NwPre.nw p _ (NwPre.mono hK p _ k)
  obtain ⟨s', b', h', hk'⟩ := InvW.pre hg hnone hK p (q ++ [j]) ((d, v) :: s) (b.put (some d) v) (by
   refine ⟨by rw [h.part]; simp, h.sta, h.sl.put v hN, h.size, h.defers, fun t ht => ?_, fun i oi di hi => ?_, fun e he => (by cases he), List.nodup_nil, fun i hi => ?_, fun i hi hei => ?_, fun i hi hl => ?_, fun i hi oi di hoi hdi => ?_, hnw, fun i oi hi => ?_, fun i hi oi di hoi hdi => ?_⟩
   ·rw [getD_put_ne (fun e : t = d => ht j o ho (by rw [e]; exact hd))]; exact h.outer t ht
   ·rw [hnone] at hi; cases hi
   ·rw [hnone] at hi; cases hi
   ·have hh : ef.contains i = false ∧ (fa.map (·.i)).contains i = false := by
     rcases List.mem_append.1 hi with hi | hi
     ·exact hq0 i hi
     ·simp at hi; subst hi; exact ⟨he, hf⟩
    rw [hh.1, hh.2] at hei; rcases hei with hei | hei <;> cases hei
   ·rcases List.mem_append.1 hi with hi | hi
    ·exact (h.stat i hi hl).cons hfr (fun _ h => h) (fun oi hoi => hother i oi (fun e => hjq (e ▸ hi)) hoi) (.inl rfl)
    ·simp at hi; subst hi
     refine ⟨o, d, ho, hd, .inr ⟨wtd_cons hfr hw, v, getD_put_eq (by rw [h.sl.size]; exact hN), lk_cons_eq, .inl fun a w ha => hp a w (ha.uncons hfr)⟩⟩
   ·rw [lk_cons_ne (fun e : d = di => hother i oi (hnj i hi) hoi (by rw [e]; exact hdi))]
    exact h.fresh i (List.mem_cons_of_mem _ hi) oi di hoi hdi
   ·rw [hnone] at hi; cases hi
   ·rcases List.mem_append.1 hi with hi | hi
    ·exact h.dlt i hi oi di hoi hdi
    ·simp at hi; subst hi; rw [hoi] at ho; cases ho; rw [hdi] at hd; cases hd; exact hN)
   (fun i hi => by
    rcases List.mem_append.1 hi with hi | hi
    ·exact hq0 i hi
    ·simp at hi; subst hi; exact ⟨he, hf⟩) k
  exact ⟨s', b', by simpa using h', hk'⟩
theorem InvW.swap {x1 x2 : Nat} {p1 p2 q m1 m2 : List Nat} (hg1 : GoodX x1 ops n p1 ef (fa.map (·.i))) (hg2 : GoodX x2 ops n p2 ef (fa.map (·.i))) (hp2 : p2 = q ++ m2) {listed : Array Bool} {a : Act} {w : World} {s : Slots} {pd : List Nat} {b : Act} {E : List (FreeA × Nat)}
  (h : InvW P c N ops n ef fa p1 R listed a w q m1 s fs os pd b E) (hn : Nw P c N ops n ef fa m2 s fs os pd R) : InvW P c N ops n ef fa p2 R listed a w q m2 s fs os pd b E := by
 have h1 := hg1.nodup; have h2 := hg2.nodup
 rw [h.part, List.nodup_append] at h1; rw [hp2, List.nodup_append] at h2
 have m12 : ∀ i, i ∈ m1 → i ∈ m2 := fun i hi => by
  have := hg2.all i (hg1.lt i (by rw [h.part]; exact List.mem_append.2 (.inr hi)))
  rw [hp2] at this
  rcases List.mem_append.1 this with hq | hq
  ·exact absurd rfl (h1.2.2 i hq i hi)
  ·exact hq
 have m21 : ∀ i, i ∈ m2 → i ∈ m1 := fun i hi => by
  have := hg1.all i (hg2.lt i (by rw [hp2]; exact List.mem_append.2 (.inr hi)))
  rw [h.part] at this
  rcases List.mem_append.1 this with hq | hq
  ·exact absurd rfl (h2.2.2 i hq i hi)
  ·exact hq
 exact { part := hp2, sta := h.sta, sl := h.sl, size := h.size, defers := h.defers, outer := h.outer, done := h.done, early := fun e he => ⟨(h.early e he).1, m12 _ (h.early e he).2.1, (h.early e he).2.2⟩, ednd := h.ednd, inq := h.inq, eff := h.eff, stat := h.stat, fresh := fun i hi => h.fresh i (m21 i hi), nf := hn, closed := h.closed, dlt := h.dlt }
theorem InvW.two {z1 z2 : Nat} {p1 p2 q m1 m2 : List Nat} (hg1 : GoodX z1 ops n p1 ef (fa.map (·.i))) (hg2 : GoodX z2 ops n p2 ef (fa.map (·.i))) (hp2 : p2 = q ++ m2) (hfa : (fa.map (·.i)).Nodup) (hok : ∀ z ∈ fa, z.Ok P N ops) (hv : ∀ z ∈ fa, z.vals = [])
  (hz1 : z1 ∈ m1) (hz2 : z2 ∈ m1) (hf1 : (fa.map (·.i)).contains z1 = true) (hf2 : (fa.map (·.i)).contains z2 = true) (hanc : ∀ i ∈ m1, (fa.map (·.i)).contains i = false → anc ops n i z1 = true ∨ anc ops n i z2 = true)
  (hR : ∀ s fs os, R s fs os → ∀ a w, Sl N s a → Sta c fs os w → Q .normal a w) {s : Slots} {b : Act} (hn2 : Nw P c N ops n ef fa m2 s fs os [] R) (hq0 : ∀ i ∈ q, ef.contains i = false ∧ (fa.map (·.i)).contains i = false) :
  ∀ (fuel : Nat) (listed : Array Bool) (a : Act) (w : World) (E : List (FreeA × Nat)), InvW P c N ops n ef fa p1 R listed a w q m1 s fs os [] b E → listed.size = ops.size → unl listed ops.size ≤ fuel → listed.getD z1 false = false → listed.getD z2 false = false → wpAny P .any ops Q fuel listed a w := by
 have getD_tf : ∀ (listed : Array Bool) (i : Nat), i < listed.size → listed.getD i true = listed.getD i false := fun listed i hi => by
  simp [Array.getD_eq_getD_getElem?, Array.getElem?_eq_getElem hi]
 intro fuel
 induction fuel with
 | zero =>
  intro listed a w E h hsz hu hl1 hl2
  have hl := unl_zero listed ops.size (by omega)
  have := hl z1 (hg1.lt z1 (by rw [h.part]; exact List.mem_append.2 (.inr hz1)))
  rw [hl1] at this; cases this
 | succ fuel ih =>
  intro listed a w E h hsz hu hl1 hl2
  refine ⟨fun hnil => ?_, fun i hi => ?_⟩
  ·exfalso
   obtain ⟨q1, j, r, e, hj, hq1⟩ := first_of (p := fun x => listed.getD x false = true) p1 ⟨z1, by rw [h.part]; exact List.mem_append.2 (.inr hz1), by rw [hl1]; simp⟩
   have hjlt := hg1.lt j (by rw [e]; simp)
   have hoj := Array.getElem?_eq_getElem hjlt
   have : j ∈ Region.ready .any ops listed := mem_ready.2 ⟨by rw [getD_tf listed j (by omega)]; simpa using hj, _, hoj, fun x hx hb => hq1 _ (hg1.edge q1 j r e _ hoj x hx hb)⟩
   rw [hnil] at this
   cases this
  ·obtain ⟨h1, o, ho, hr⟩ := mem_ready.1 hi
   have hlt := (Array.getElem?_eq_some_iff.1 ho).1
   have hls : i < listed.size := by omega
   rw [getD_tf listed i hls] at h1
   have hu' : unl (listed.setIfInBounds i true) ops.size ≤ fuel := by
    have := unl_set listed i h1 hls ops.size
    rw [if_pos hlt] at this
    omega
   have hsz' : (listed.setIfInBounds i true).size = ops.size := by simpa using hsz
   have hip0 : i ∈ q ++ m1 := by rw [← h.part]; exact hg1.all i hlt
   have keep : ∀ x, i ≠ x → listed.getD x false = false → (listed.setIfInBounds i true).getD x false = false := fun x hx hl => by
    cases hh : (listed.setIfInBounds i true).getD x false with
    | false => rfl
    | true =>
     rcases (listed_set hls).1 hh with e | e
     ·exact absurd e.symm hx
     ·rw [hl] at e; cases e
   unfold wpOp
   simp only [ho]
   cases hfi : (fa.map (·.i)).contains i with
   | false =>
    rcases List.mem_append.1 hip0 with hiq | him
    ·have hN := h.dlt i hiq o
     obtain ⟨he, hw⟩ := h.agreeX hg1 ho hr (h.qclosedX hg1 hiq ho)
     obtain ⟨o', d, ho', hd, hst⟩ := h.stat i hiq h1
     rw [ho] at ho'
     cases ho'
     have hN : d < N := h.dlt i hiq o d ho hd
     have n1 : i ≠ z1 := fun e => by subst e; rw [hf1] at hfi; cases hfi
     have n2 : i ≠ z2 := fun e => by subst e; rw [hf2] at hfi; cases hfi
     rcases hst with ⟨hwf, hv⟩ | ⟨hwt, v, hv, hlk, hst⟩
     ·rw [hw, wtd_ok h.sl hwf, hd]
      simp only [Bool.false_eq_true, if_false]
      exact ih _ _ _ _ (h.runX hg1 hls ho hd hN hv hiq hr h.sta) hsz' hu' (keep z1 n1 hl1) (keep z2 n2 hl2)
     ·rw [hw, wtd_ok h.sl hwt]
      simp only [if_true]
      refine .inl ?_
      rcases hst with hpu | ⟨hm, _⟩
      ·refine Outc.wp (R := fun v' w' => v' = v ∧ w' = w) (by rw [he, hpu b w h.sl]; exact ⟨rfl, rfl⟩) ?_
       rintro v' w' ⟨rfl, rfl⟩
       rw [hd]
       exact ih _ _ _ _ (h.runX hg1 hls ho hd hN hv hiq hr h.sta) hsz' hu' (keep z1 n1 hl1) (keep z2 n2 hl2)
      ·cases hm
    ·exfalso
     rcases hanc i him hfi with ha | ha
     ·have := anc_listed h.closed n i z1 o ho hr ha
      rw [hl1] at this; cases this
     ·have := anc_listed h.closed n i z2 o ho hr ha
      rw [hl2] at this; cases this
   | true =>
    have hiq : i ∉ q := fun hm => by rw [(hq0 i hm).2] at hfi; cases hfi
    have hip : i ∈ m1 := by
     rcases List.mem_append.1 hip0 with hm | hm
     ·exact absurd hm hiq
     ·exact hm
    obtain ⟨z, hz, rfl⟩ := mem_fr.1 hfi
    obtain ⟨o', d, ho', hd, hN, hgd, hlook, hrun⟩ := (hok z hz).go
    rw [ho] at ho'
    cases ho'
    have hwt : Region.wanted o (yielded ops a.tmps) = true := by unfold Region.wanted; rw [hgd]
    rw [hwt]
    simp only [if_true]
    refine .inl (Outc.wp (hrun c fs (os ++ frames E) a w ⟨h.size, h.defers, fun t v hh => by rw [hv z hz] at hh; simp [lk] at hh⟩ h.sta) ?_)
    rintro v w' ⟨g, rfl, hw'⟩
    rw [hd]
    have step := h.runEX hg1 hz hls h1 hip ho hd hN hr hw'
    by_cases e1 : z.i = z1
    ·exact Nw.anyX hg1 hfa hok hR _ _ _ _ _ _ _ _ _ _ _ _ step hsz' hu' ((listed_set hls).2 (.inl e1.symm))
    by_cases e2 : z.i = z2
    ·exact Nw.anyX hg2 hfa hok hR _ _ _ _ _ _ _ _ _ _ _ _ (step.swap hg1 hg2 hp2 hn2) hsz' hu' ((listed_set hls).2 (.inl e2.symm))
    exact ih _ _ _ _ step hsz' hu' (keep z1 e1 hl1) (keep z2 e2 hl2)
end
end Go.Sx

