/- A logic for the walks of this seat, part 2: what is said of memory, and how each operation keeps it. My own work. -/
import Derived.Test.YtlkcnfjdhkoelaaGreatSxA
import Derived.ProofKit
import GoSem.Claim
import Derived.Laws.IdiomStrings
import Derived.Laws.BitsLemmas
import Derived.WideShapes
import Derived.Laws.StructEq
import Derived.Lib.AppendZerosOnto
import Derived.Lib.Overlaps
import Derived.Laws.CopyRow
import Derived.Laws.Externs
import Derived.Sort.AssemblyPlain
import Derived.Shelf.SlSortCmp.WholeK
import Derived.Shelf.SlSortCmp.NoneTotal
import Derived.Shelf.Strings.OnBuilder
import Derived.Lib.Bytealg
namespace Go.Sx
open Go Go.RowKit
theorem okNil {P : Program} {N : Nat} {ops : Array Oper} : ∀ z ∈ ([] : List FreeA), z.Ok P N ops := fun _ h => by cases h
theorem okCons {P : Program} {N : Nat} {ops : Array Oper} {z : FreeA} {fa : List FreeA} (h : z.Ok P N ops) (k : ∀ z ∈ fa, z.Ok P N ops) : ∀ y ∈ z :: fa, y.Ok P N ops := fun y hy => by
 rcases List.mem_cons.1 hy with rfl | hy
 ·exact h
 ·exact k y hy
section
variable {P : Program} {c : Ctx} {N : Nat} {s : Slots} {fs : List Fact} {os os' : List Own} {Q : Exit → Act → World → Prop} {code : Code}
variable {d : Option Tmp} {ty : TypeId} {pos : String} {af : Array Edge} {gd : Option (Nat × Bool)}
theorem e_callM {L : Prop} {ι : Type} {f : FuncId} {xs : List Operand} {vs : List Value} {ats : Array TypeId} {fsC : List Fact} {osC : List Own} {rv : ι → Value} {osR : ι → List Own}
  (hc : FnL' L P f vs.toArray fsC osC rv (fun _ => []) osR) (hsoC : Solo osC) (hsolo : ∀ i, Solo (osR i)) (hx : evs s xs = some vs) (ht : Take os osC os') (he : EntsB fs os' fsC) (hL : L → c.L := by exact False.elim) :
  Eo P c fs os N s ⟨d, .call { callee := .value (.func f), args := xs.toArray, argTypes := ats }, ty, pos, af, gd⟩ (fun v fs' os'' => ∃ i, v = rv i ∧ fs' = fs ∧ os'' = osR i ++ os') := Ex.mk fun a w hs hw => by
 rw [run_call hs hc.cf hx]
 obtain ⟨I, S, hst⟩ := hw
 obtain ⟨S1, S2, m1, m2, dj, h1, h2⟩ := ht.sep hst.own
 refine (hc.go w (fun b => I b ∨ S2 b) S1 ⟨fun f hf => he f hf w I S2 hst.facts h2, hsoC.sep h1, fun b hi hs => hi.elim (fun hi => hst.dj b hi (m1 b hs)) (fun h => dj b hs h), fun b hb => hb.elim (hst.ilt b) (fun h => hst.slt b (m2 b h)), fun b hb => hst.slt b (m1 b hb), fun _ => .inl, fun _ => .inl, fun _ h => h, Frm.refl _ _⟩).mono ?_
 rintro e w' ⟨i, rfl, I', S', h'⟩
 refine ⟨_, rfl, fs, osR i ++ os', ⟨i, rfl, rfl, rfl⟩, I, fun b => S' b ∨ S2 b, ?_⟩
 have hsame : ∀ b, b < w.heap.size → ¬ S1 b → w'.heap[b]? = w.heap[b]? := fun b hb hn => h'.frm.block b hb hn
 have hsz := h'.frm.size
 have hI : Same I w w' := fun b hb => hsame b (hst.ilt b hb) fun h => hst.dj b hb (m1 b h)
 have hS2 : Same S2 w w' := fun b hb => hsame b (hst.slt b (m2 b hb)) fun h => dj b h hb
 have hS'2 : ∀ b, S' b → S2 b → False := fun b h1 h2 => (h'.snew b h1).elim (fun h => dj b h h2) (fun h => by simp only at h; have := hst.slt b (m2 b h2); omega)
 refine ⟨fun f hf => f.keep (hst.facts f hf) hI (fun _ h => h), Sep.append hS'2 ((hsolo i).sep h'.own) (h2.keep hI hS2 (fun _ h => h) (fun _ h => h)), fun b hi hb => ?_, fun b hb => Nat.lt_of_lt_of_le (hst.ilt b hb) hsz, fun b hb => ?_, hst.inew, fun b hb => ?_, hst.i0,
  ⟨h'.frm.os.trans hst.frm.os, (h'.frm.tape.wk hL).trans hst.frm.tape, h'.frm.output.trans hst.frm.output, Nat.le_trans hst.frm.size hsz, fun b hb hx => (hsame b (Nat.lt_of_lt_of_le hb hst.frm.size) fun h => ?_).trans (hst.frm.block b hb hx)⟩⟩
 ·rcases hb with hb | hb
  ·rcases h'.snew b hb with h | h
   ·exact hst.dj b hi (m1 b h)
   ·simp only at h; have := hst.ilt b hi; omega
  ·exact hst.dj b hi (m2 b hb)
 ·rcases hb with hb | hb
  ·exact h'.slt b hb
  ·exact Nat.lt_of_lt_of_le (hst.slt b (m2 b hb)) hsz
 ·rcases hb with hb | hb
  ·rcases h'.snew b hb with h | h
   ·exact hst.snew b (m1 b h)
   ·exact .inr (Nat.le_trans hst.frm.size h)
  ·exact hst.snew b (m2 b hb)
 ·rcases hst.snew b (m1 b h) with h | h
  ·exact hx h
  ·omega
theorem n_callM {L : Prop} {ι : Type} {f : FuncId} {xs : List Operand} {vs : List Value} {ats : Array TypeId} {fsC : List Fact} {osC : List Own} {rv : ι → Value} {osR : ι → List Own}
  (hc : FnL' L P f vs.toArray fsC osC rv (fun _ => []) osR) (hsoC : Solo osC) (hsolo : ∀ i, Solo (osR i)) (hx : evs s xs = some vs) (ht : Take os osC os') (he : EntsB fs os' fsC) (hL : L → c.L := by exact False.elim) :
  EF P c fs os N s ⟨d, .call { callee := .value (.func f), args := xs.toArray, argTypes := ats }, ty, pos, af, gd⟩ (fun v fs' os'' => ∃ i, v = rv i ∧ fs' = fs ∧ os'' = osR i ++ os') := fun F =>
 (e_callM hc hsoC hsolo hx (ht.app F) (he.app F) hL).weak fun _ _ ⟨_, _, ⟨i, e1, e2, e3⟩, h⟩ => ⟨_, _, ⟨i, e1, e2, rfl⟩, by rw [List.append_assoc, ← e3]; exact h⟩
theorem Sta.nilT {w : World} (α : Type) [Enc α] (h : Sta c fs os w) : Sta c fs (tree (.slice none 0 0) ([] : List α) :: os) w := by
 obtain ⟨I, S, h⟩ := h
 exact ⟨I, S, { h with own := ⟨fun _ => False, S, fun _ h => h.elim, fun _ h => h, fun _ h _ => h, .inl ⟨rfl, rfl⟩, h.own⟩ }⟩
theorem Tr.nilT (α : Type) [Enc α] (k : Tr P c N Q code s fs (tree (.slice none 0 0) ([] : List α) :: os)) : Tr P c N Q code s fs os := fun a w hs hw => k a w hs (hw.nilT α)
theorem Upd.same {os os' : List Own} {o o' : Own} (hu : Upd os o o' os') : o = o' → os = os' := by
 induction hu with
 | here => intro e; rw [e]
 | there _ ih => intro e; rw [ih e]
theorem Tr.own {o o' : Own} (e : o = o') (hu : Upd os o o' os') (k : Tr P c N Q code s fs os') : Tr P c N Q code s fs os := hu.same e ▸ k
end
instance : Enc UInt8 where
  sz := 1
  pos := by omega
  Rd := fun _ _ cs n => cs = [.int .u8 (n.toNat : Int)]
  len := by rintro w S cs d rfl; rfl
  one := by rintro w S cs d rfl u hu; simp at hu; subst hu; rfl
  keep := fun h _ _ => h
  Tr := fun _ _ cs n => cs = [.int .u8 (n.toNat : Int)]
  tr_rd := fun h => h
  tr_keep := fun h _ _ => h
instance : Flat UInt8 where
  enc := fun n => [.int .u8 (n.toNat : Int)]
  wf := fun _ => True
  rd := fun h => ⟨h, trivial⟩
  tr := fun _ => rfl
instance : Shp UInt8 where
  γ := Unit
  x0 := ()
  enc := fun n _ => [.int .u8 (n.toNat : Int)]
  len' := fun _ _ => rfl
  rd := fun h => ⟨(), h⟩
instance : ShpT UInt8 where
  wf := fun _ => True
  wfa := fun _ => trivial
  own := fun _ _ => []
  facts := fun _ _ => []
  wfr := fun _ => trivial
  un := fun h => ⟨(), h, fun _ => trivial⟩
  mkT := fun _ _ => rfl
  mkR := fun _ _ => rfl
instance : Zr UInt8 where
  z0 := 0
  zc := [.int .u8 0]
  trz := fun _ => rfl
end Go.Sx

namespace Go.Sx
open Go Go.RowKit
instance (n : Int) : Decidable (I64 n) := by unfold I64; infer_instance
def ix (i : Int) (n : Nat) : Prop := 0 ≤ i ∧ i < (n : Int)
instance (i : Int) (n : Nat) : Decidable (ix i n) := by unfold ix; infer_instance
theorem ix.lt {i : Int} {n : Nat} (h : ix i n) : i.toNat < n := by unfold ix at h; omega
theorem ix.eq {i : Int} {n : Nat} (h : ix i n) : i = (i.toNat : Int) := by unfold ix at h; omega
def room (n : Nat) : Prop := n ≤ 1073741824
instance (n : Nat) : Decidable (room n) := by unfold room; infer_instance
theorem room.b {n b : Nat} (h : room n) (hb : b ≤ 131072) : n * b ≤ 140737488355328 := by
 have h1 : n ≤ 1073741824 := h
 exact Nat.le_trans (Nat.mul_le_mul h1 hb) (by decide)
theorem room.c {n b : Nat} (h : room n) (hb : b ≤ 131072) : b * n ≤ 281474976710656 := by
 have h1 : n ≤ 1073741824 := h
 exact Nat.le_trans (Nat.mul_le_mul hb h1) (by decide)
theorem room.x {n : Nat} (h : room n) : n ≤ 9223372036854775807 := Nat.le_trans h (by decide)
theorem room.m {n : Nat} (h : room n) : n ≤ maxLen := Nat.le_trans h (by decide)
def many (i : Int) : Prop := 0 ≤ i ∧ i ≤ 1073741824
instance (i : Int) : Decidable (many i) := by unfold many; infer_instance
theorem many.room {i : Int} (h : many i) : room i.toNat := by unfold many at h; unfold Sx.room; omega
theorem many.eq {i : Int} (h : many i) : i = (i.toNat : Int) := by unfold many at h; omega
section
variable {α β : Type}
def gd (c : Prop) [Decidable c] (k : Option β) : Option β := if c then k else none
theorem gd.of {c : Prop} [Decidable c] {k : Option β} {r : β} (H : gd c k = some r) : c ∧ k = some r := by
 unfold gd at H
 split at H
 ·exact ⟨by assumption, H⟩
 ·cases H
theorem gd.yes {c : Prop} [Decidable c] {k : Option β} (h : c) : gd c k = k := by simp [gd, h]
def bd (o : Option α) (k : α → Option β) : Option β := match o with | some a => k a | none => none
theorem bd.of {o : Option α} {k : α → Option β} {r : β} (H : bd o k = some r) : ∃ a, o = some a ∧ k a = some r := by
 cases o with
 | none => cases H
 | some a => exact ⟨a, rfl, H⟩
theorem bd.yes {o : Option α} {k : α → Option β} {a : α} (h : o = some a) : bd o k = k a := by subst h; rfl
@[simp] theorem bd_some {a : α} {k : α → Option β} : bd (some a) k = k a := rfl
theorem cdT {b : Bool} {A B : Option β} {r : β} (h : b = true) (H : cond b A B = some r) : A = some r := by subst h; exact H
theorem cdF {b : Bool} {A B : Option β} {r : β} (h : b = false) (H : cond b A B = some r) : B = some r := by subst h; exact H
end
section
variable {σ ε β : Type}
def itr (body : σ → Option (σ ⊕ ε)) : Nat → σ → Option ε
 | 0, _ => none
 | n + 1, s => match body s with
  | none => none
  | some (.inl s') => itr body n s'
  | some (.inr e) => some e
theorem itr.of {body : σ → Option (σ ⊕ ε)} {n : Nat} {s : σ} {e : ε} (h : itr body n s = some e) :
  ∃ m t, n = m + 1 ∧ body s = some t ∧ (∀ s', t = .inl s' → itr body m s' = some e) ∧ (∀ e', t = .inr e' → e' = e) := by
 cases n with
 | zero => cases h
 | succ m =>
  simp only [itr] at h
  cases hb : body s with
  | none => rw [hb] at h; cases h
  | some t =>
   rw [hb] at h
   refine ⟨m, t, rfl, rfl, ?_, ?_⟩
   ·rintro s' rfl; exact h
   ·rintro e' rfl; exact Option.some.inj h
theorem itr.det {body : σ → Option (σ ⊕ ε)} : ∀ {n m : Nat} {s : σ} {e e' : ε}, itr body n s = some e → itr body m s = some e' → e = e'
 | 0, _, _, _, _, h, _ => by cases h
 | _ + 1, 0, _, _, _, _, h => by cases h
 | n + 1, m + 1, s, e, e', h, h' => by
  simp only [itr] at h h'
  cases hb : body s with
  | none => rw [hb] at h; cases h
  | some t =>
   rw [hb] at h h'
   cases t with
   | inl s' => exact itr.det h h'
   | inr x => exact (Option.some.inj h).symm.trans (Option.some.inj h')
open Classical in
noncomputable def lp (body : σ → Option (σ ⊕ ε)) (s : σ) : Option ε := if h : ∃ e, ∃ n, itr body n s = some e then some h.choose else none
theorem lp.of {body : σ → Option (σ ⊕ ε)} {s : σ} {e : ε} (h : lp body s = some e) : ∃ n, itr body n s = some e := by
 unfold lp at h
 split at h
 ·rename_i hx
  have := hx.choose_spec
  rw [Option.some.inj h] at this
  exact this
 ·cases h
theorem lp.intro {body : σ → Option (σ ⊕ ε)} {s : σ} {e : ε} {n : Nat} (h : itr body n s = some e) : lp body s = some e := by
 have hx : ∃ e, ∃ n, itr body n s = some e := ⟨e, n, h⟩
 unfold lp
 rw [dif_pos hx]
 obtain ⟨m, hm⟩ := hx.choose_spec
 exact congrArg some (itr.det hm h)
theorem lp.rule {body : σ → Option (σ ⊕ ε)} (I : σ → Prop) (μ : σ → Nat) (R : ε → Prop)
  (h : ∀ s, I s → (∃ s', body s = some (.inl s') ∧ I s' ∧ μ s' < μ s) ∨ (∃ e, body s = some (.inr e) ∧ R e)) {s : σ} (hs : I s) : ∃ e, lp body s = some e ∧ R e := by
 have key : ∀ m s, μ s = m → I s → ∃ n e, itr body n s = some e ∧ R e := by
  intro m
  induction m using Nat.strongRecOn with
  | _ m ih =>
   intro s hm hs
   rcases h s hs with ⟨s', hb, hi, hlt⟩ | ⟨e, hb, hr⟩
   ·obtain ⟨n, e, hn, hr⟩ := ih (μ s') (by omega) s' rfl hi
    exact ⟨n + 1, e, by simp only [itr, hb]; exact hn, hr⟩
   ·exact ⟨1, e, by simp only [itr, hb], hr⟩
 obtain ⟨n, e, hn, hr⟩ := key _ s rfl hs
 exact ⟨e, lp.intro hn, hr⟩
theorem lp.step {body : σ → Option (σ ⊕ ε)} {s s' : σ} (h : body s = some (.inl s')) : lp body s = lp body s' := by
 cases hx : lp body s' with
 | some e =>
  obtain ⟨n, hn⟩ := lp.of hx
  exact lp.intro (n := n + 1) (by simp only [itr, h]; exact hn)
 | none =>
  cases hy : lp body s with
  | none => rfl
  | some e =>
   obtain ⟨n, hn⟩ := lp.of hy
   obtain ⟨m, t, rfl, hb, hi, _⟩ := itr.of hn
   rw [h] at hb
   have := hi s' (Option.some.inj hb).symm
   rw [lp.intro this] at hx
   cases hx
theorem lp.stop {body : σ → Option (σ ⊕ ε)} {s : σ} {e : ε} (h : body s = some (.inr e)) : lp body s = some e :=
 lp.intro (n := 1) (by simp only [itr, h])
def sw (k1 : ε → Option β) (k2 : σ → Option β) : ε ⊕ σ → Option β
 | .inl e => k1 e
 | .inr q => k2 q
theorem sw.l {k1 : ε → Option β} {k2 : σ → Option β} {e : ε} {r : β} (H : sw k1 k2 (.inl e) = some r) : k1 e = some r := H
theorem sw.r {k1 : ε → Option β} {k2 : σ → Option β} {q : σ} {r : β} (H : sw k1 k2 (.inr q) = some r) : k2 q = some r := H
end
theorem Ent.z {f : Fact} {fs : List Fact} : Ent (f :: fs) f := Ent.mem (List.Mem.head _)
theorem Ent.s {f g : Fact} {fs : List Fact} (h : Ent fs f) : Ent (g :: fs) f := fun w I k => h w I fun x hx => k x (List.Mem.tail _ hx)
class Dp (α : Type) extends Enc α where
  δ : Type
  dd : δ
  denc : α → δ → List Value
  drd : World → Blks → α → δ → Prop
  keepd : ∀ {w w' S S' d x}, drd w S d x → Same S w w' → (∀ b, S b → S' b) → drd w' S' d x
  op : ∀ {w S cs d}, Enc.Rd w S cs d → ∃ x, cs = denc d x ∧ drd w S d x
  cl : ∀ {w S d x}, drd w S d x → Enc.Rd w S (denc d x) d
  /-- lengths -/
  ok : α → Prop
  okd : ∀ {w S d x}, drd w S d x → ok d
instance : Dp Int where
  δ := Unit
  dd := ()
  denc := fun n _ => [.int .i64 n]
  drd := fun _ _ _ _ => True
  keepd := fun h _ _ => h
  op := fun h => ⟨(), h, trivial⟩
  cl := fun _ => rfl
  ok := fun _ => True
  okd := fun _ => trivial
instance : Dp Bool where
  δ := Unit
  dd := ()
  denc := fun n _ => [.bool n]
  drd := fun _ _ _ _ => True
  keepd := fun h _ _ => h
  op := fun h => ⟨(), h, trivial⟩
  cl := fun _ => rfl
  ok := fun _ => True
  okd := fun _ => trivial
instance : Dp ByteArray where
  δ := Unit
  dd := ()
  denc := fun n _ => [.string n]
  drd := fun _ _ _ _ => True
  keepd := fun h _ _ => h
  op := fun h => ⟨(), h, trivial⟩
  cl := fun _ => rfl
  ok := fun _ => True
  okd := fun _ => trivial
instance : Dp UInt8 where
  δ := Unit
  dd := ()
  denc := fun n _ => [.int .u8 (n.toNat : Int)]
  drd := fun _ _ _ _ => True
  keepd := fun h _ _ => h
  op := fun h => ⟨(), h, trivial⟩
  cl := fun _ => rfl
  ok := fun _ => True
  okd := fun _ => trivial
instance {α β : Type} [Dp α] [Dp β] : Dp (α × β) where
  δ := Dp.δ α × Dp.δ β
  dd := (Dp.dd, Dp.dd)
  denc := fun d x => Dp.denc d.1 x.1 ++ Dp.denc d.2 x.2
  drd := fun w S d x => Dp.drd w S d.1 x.1 ∧ Dp.drd w S d.2 x.2
  keepd := fun ⟨h1, h2⟩ hs hm => ⟨Dp.keepd h1 hs hm, Dp.keepd h2 hs hm⟩
  op := by
    rintro w S cs d ⟨c1, c2, rfl, h1, h2⟩
    obtain ⟨x, rfl, k1⟩ := Dp.op h1
    obtain ⟨y, rfl, k2⟩ := Dp.op h2
    exact ⟨(x, y), rfl, k1, k2⟩
  cl := fun ⟨h1, h2⟩ => ⟨_, _, rfl, Dp.cl h1, Dp.cl h2⟩
  ok := fun d => Dp.ok d.1 ∧ Dp.ok d.2
  okd := fun ⟨h1, h2⟩ => ⟨Dp.okd h1, Dp.okd h2⟩
instance {α : Type} [Dp α] [Inhabited α] : Dp (List α) where
  δ := Option Addr × Nat × (Nat → Dp.δ α)
  dd := (none, 0, fun _ => Dp.dd)
  denc := fun l x => [.slice x.1 l.length x.2.1]
  drd := fun w S l x => l.length ≤ x.2.1 ∧ x.2.1 ≤ maxLen ∧ ∀ i, i < l.length → ∃ ad, x.1 = some ad ∧ S ad.block ∧ CellsAt w (ad.add (i * Enc.sz α)) (Dp.denc (nth l i) (x.2.2 i)) ∧ Dp.drd w S (nth l i) (x.2.2 i)
  keepd := fun ⟨h1, h2, h3⟩ hs hm => ⟨h1, h2, fun i hi => by
    obtain ⟨ad, e, hS, hc, hr⟩ := h3 i hi
    exact ⟨ad, e, hm _ hS, hc.keep hs (by rw [block_add]; exact hS), Dp.keepd hr hs hm⟩⟩
  op := by
    rintro w S cs l ⟨v, rfl, oa, cap, rfl, h1, h2, h3⟩
    have : ∀ i, ∃ x : Dp.δ α, i < l.length → ∃ ad, oa = some ad ∧ S ad.block ∧ CellsAt w (ad.add (i * Enc.sz α)) (Dp.denc (nth l i) x) ∧ Dp.drd w S (nth l i) x := fun i => by
      by_cases hi : i < l.length
      · obtain ⟨ad, es, e, hS, hc, hr⟩ := h3 i hi
        obtain ⟨x, rfl, k⟩ := Dp.op hr
        exact ⟨x, fun _ => ⟨ad, e, hS, by rw [nth_eq l i hi]; exact hc, by rw [nth_eq l i hi]; exact k⟩⟩
      · exact ⟨Dp.dd, fun h => absurd h hi⟩
    obtain ⟨X, hX⟩ := Classical.axiomOfChoice this
    exact ⟨(oa, cap, X), rfl, h1, h2, fun i hi => hX i hi⟩
  cl := by
    intro w S l x ⟨h1, h2, h3⟩
    exact ⟨_, rfl, x.1, x.2.1, rfl, h1, h2, fun i hi => by
      obtain ⟨ad, e, hS, hc, hr⟩ := h3 i hi
      rw [nth_eq l i hi] at hc hr
      exact ⟨ad, _, e, hS, hc, Dp.cl hr⟩⟩
  ok := fun l => l.length ≤ maxLen ∧ ∀ i, i < l.length → Dp.ok (nth l i)
  okd := fun ⟨h1, h2, h3⟩ => ⟨Nat.le_trans h1 h2, fun i hi => by obtain ⟨_, _, _, _, hr⟩ := h3 i hi; exact Dp.okd hr⟩
end Go.Sx

namespace Go.Sx
open Go Go.RowKit
def dp {α : Type} [Dp α] (a : α) (x : Dp.δ α) : Fact := ⟨fun w I => Dp.drd w I a x, fun h hs hm => Dp.keepd h hs hm⟩
section
variable {P : Program} {c : Ctx} {N : Nat} {s : Slots} {fs : List Fact} {os : List Own} {Q : Exit → Act → World → Prop} {code : Code}
theorem Ent.darr {α : Type} [Dp α] [Inhabited α] {l : List α} {x : Option Addr × Nat × (Nat → Dp.δ α)} (h : Ent fs (dp l x)) : Ent fs (arr x.1 (fun i => Dp.denc (nth l i) (x.2.2 i)) l) := fun w I hf i hi => by
 obtain ⟨_, _, h3⟩ := h w I hf
 obtain ⟨ad, e, hS, hc, hr⟩ := h3 i hi
 exact ⟨ad, e, hS, hc, Dp.cl hr⟩
theorem Ent.del {α : Type} [Dp α] [Inhabited α] {l : List α} {x : Option Addr × Nat × (Nat → Dp.δ α)} (h : Ent fs (dp l x)) {k : Nat} (hk : k < l.length) : Ent fs (dp (nth l k) (x.2.2 k)) := fun w I hf => by
 obtain ⟨_, _, h3⟩ := h w I hf
 obtain ⟨ad, e, hS, hc, hr⟩ := h3 k hk
 exact hr
theorem Ent.dfst {α β : Type} [Dp α] [Dp β] {d : α × β} {x : Dp.δ α × Dp.δ β} (h : Ent fs (dp d x)) : Ent fs (dp d.1 x.1) := fun w I hf => (h w I hf).1
theorem Ent.dsnd {α β : Type} [Dp α] [Dp β] {d : α × β} {x : Dp.δ α × Dp.δ β} (h : Ent fs (dp d x)) : Ent fs (dp d.2 x.2) := fun w I hf => (h w I hf).2
theorem Ent.dimm {α : Type} [Dp α] [Inhabited α] {l : List α} {x : Option Addr × Nat × (Nat → Dp.δ α)} (h : Ent fs (dp l x)) : Ent fs (imm (.slice x.1 l.length x.2.1) l) := fun w I hf => by
 obtain ⟨v, e, hr⟩ := Dp.cl (h w I hf)
 have : Value.slice x.1 l.length x.2.1 = v := by
  have e' : [Value.slice x.1 l.length x.2.1] = [v] := e
  simpa using e'
 show RdL w I _ l
 rw [this]; exact hr
theorem Tr.openD {α : Type} [Dp α] [Inhabited α] {oa : Option Addr} {cap : Nat} {l : List α} (h : Ent fs (imm (.slice oa l.length cap) l))
  (k : ∀ X : Nat → Dp.δ α, Tr P c N Q code s (dp l (oa, cap, X) :: fs) os) : Tr P c N Q code s fs os := by
 intro a w hs hw
 obtain ⟨I, S, hst⟩ := hw
 have hr : Enc.Rd (α := List α) w I [.slice oa l.length cap] l := ⟨_, rfl, h w I hst.facts⟩
 obtain ⟨x, e, hx⟩ := Dp.op hr
 obtain ⟨oa', cap', X⟩ := x
 have e' : [Value.slice oa l.length cap] = [Value.slice oa' l.length cap'] := e
 simp at e'
 obtain ⟨rfl, rfl⟩ := e'
 refine k X a w hs ⟨I, S, { hst with facts := fun g hg => ?_ }⟩
 rcases List.mem_cons.1 hg with rfl | hg
 ·exact hx
 ·exact hst.facts g hg
theorem imm.okL {α : Type} [Dp α] [Inhabited α] {w : World} {I : Blks} {v : Value} {l : List α} (h : (imm v l).ok w I) : Dp.ok l := by
 have h : RdL w I v l := h
 obtain ⟨oa, cap, rfl, _⟩ := id h
 have hr : Enc.Rd (α := List α) w I [.slice oa l.length cap] l := ⟨_, rfl, h⟩
 obtain ⟨x, _, hx⟩ := Dp.op hr
 exact Dp.okd hx
theorem Tr.len {α : Type} [Dp α] [Inhabited α] {v : Value} {l : List α} (h : Ent fs (imm v l)) (k : Dp.ok l → Tr P c N Q code s fs os) : Tr P c N Q code s fs os := by
 intro a w hs hw
 obtain ⟨I, S, hst⟩ := id hw
 exact k (imm.okL (h w I hst.facts)) a w hs hw
variable {d : Option Tmp} {ty : TypeId} {pos : String} {af : Array Edge} {gd : Option (Nat × Bool)}
theorem q_ixg {x y : Operand} {t e : TypeId} {ag : Bool} {n cp : Nat} {z : Value} {by_ : Nat} {oa : Option Addr} {E : Nat → List Value} {i : Int} {α : Type} [Enc α] [Inhabited α] {l : List α} (hu : P.underlying t = some (.slice e)) (ht : TyI P e ag (Enc.sz α) z by_)
  (hx : ev s x = some (.slice oa n cp)) (hy : ev s y = some (.int .i64 i)) (h : ix i l.length) (hn : n = l.length) (ha : EntB fs os (arr oa E l)) :
  Qo P c fs os N s ⟨d, .indexAddr t x y, ty, pos, af, gd⟩ (elp oa (i.toNat * Enc.sz α + 0)) := q_ixe i.toNat hu ht hx hy h.eq h.lt hn ha
theorem q_ixO' {x y : Operand} {t e : TypeId} {ag : Bool} {n cp : Nat} {z : Value} {by_ : Nat} {oa : Option Addr} {i : Int} {α : Type} [Enc α] {l : List α} (hu : P.underlying t = some (.slice e)) (ht : TyI P e ag (Enc.sz α) z by_)
  (hx : ev s x = some (.slice oa n cp)) (hy : ev s y = some (.int .i64 i)) (h : ix i l.length) (ha : Has os (tree (.slice oa n cp) l)) :
  Qo P c fs os N s ⟨d, .indexAddr t x y, ty, pos, af, gd⟩ (elp oa (i.toNat * Enc.sz α + 0)) := by
 refine q_ixO i.toNat hu ht hx hy h.eq h.lt ha
end
section
variable {P : Program} {c : Ctx} {N : Nat} {s : Slots} {fs : List Fact} {os : List Own} {Q : Exit → Act → World → Prop}
theorem SubS.trans {s s' s'' : Slots} (h : SubS s s') (k : SubS s' s'') : SubS s s'' := by
 induction s'' with
 | nil => trivial
 | cons p r ih => exact ⟨h.lk _ _ k.1, ih k.2⟩
theorem At.sub {s s' : Slots} {F : Act → World → Prop} (h : SubS s s') (k : At c N s' fs os F) : At c N s fs os F := fun a w hs hw => k a w (hs.weak h.lk) hw
theorem tMidN {x : Code} {ι : Type} (s' : ι → Slots) (fs' : ι → List Fact) (os' : ι → List Own)
  (h : Tr P c N (Exit.then (fun a w => ∃ i, Sl N (s' i) a ∧ Sta c (fs' i) (os' i) w) Q) x s fs os)
  (k : ∀ i, At c N (s' i) (fs' i) (os' i) (Q .normal)) : Tr P c N Q x s fs os :=
 fun a w hs hw => wp_mono (h a w hs hw) fun e a w hq => by
  cases e <;> first
   | exact hq
   | (obtain ⟨i, hs, hw⟩ := hq; exact k i a w hs hw)
theorem tLinS {id : Nat} {l : List Oper} {b : Bool} (s' : Slots) (hm : P.follows .mixedOrders = true) (hc : b = false ∨ chkN l.toArray 2 (List.range l.length) [] = true) (hs : SubS s s') (hd : dropS (dsts l.toArray) s' = s')
  (h : Lin P c fs os N l.toArray l s' (fun s' => At c N s' fs os (Q .normal))) : Tr P c N Q (.region id l.toArray b) s fs os :=
 Tr.trim s' hs (tLin 2 hm hc (by rw [hd]; exact h))
theorem tNwS {id : Nat} {l : List Oper} (s' : Slots) (n : Nat) (p ef : List Nat) (fa : List FreeA) (hm : P.follows .mixedOrders = true) (hc : chkW l.toArray n p ef (fa.map (·.i)) = true) (hn : p.Nodup) (hfa : (fa.map (·.i)).Nodup) (hs : SubS s s') (hd : dropS (dsts l.toArray) s' = s') (hok : ∀ z ∈ fa, z.Ok P N l.toArray)
  (h : Nw P c N l.toArray n ef fa p s' fs os [] (fun s' fs' os' => At c N s' fs' os' (Q .normal))) : Tr P c N Q (.region id l.toArray true) s fs os :=
 Tr.trim s' hs (tNw n p ef fa hm hc hn hfa hok (by rw [hd]; exact h))
end
end Go.Sx

namespace Go.Sx
open Go Go.RowKit
theorem RdL.nil0 {α : Type} [Enc α] {w : World} {S : Blks} : RdL w S (.slice none ([] : List α).length 0) ([] : List α) :=
 ⟨none, 0, rfl, Nat.le_refl _, by simp [maxLen], fun i hi => absurd hi (Nat.not_lt_zero _)⟩
theorem Ent.nil0 {α : Type} [Enc α] {fs : List Fact} : Ent fs (imm (.slice none ([] : List α).length 0) ([] : List α)) := fun _ _ _ => RdL.nil0
theorem Ents.refl {fs : List Fact} : Ents fs fs := fun _ h => Ent.mem h
theorem Ents.s {fs fs' : List Fact} {g : Fact} (h : Ents fs fs') : Ents (g :: fs) fs' := fun f hf => (h f hf).s
section
variable {P : Program} {c : Ctx} {N : Nat} {s : Slots} {fs fs0 : List Fact} {os : List Own} {Q : Exit → Act → World → Prop}
theorem tLoopC {body : Code} {ι : Type} (s' : ι → Slots) (os' : ι → List Own) (μ : ι → Nat) (i0 : ι) {osR : List Own}
  (hs : SubS s (s' i0)) (ho : Take os (os' i0) osR)
  (round : ∀ i, Tr P c N (Exit.then (fun a w => ∃ j, μ j < μ i ∧ Sl N (s' j) a ∧ Sta c fs (os' j) w) Q) body (s' i) fs (os' i)) :
  Tr P c N Q (.loop body) s fs os := tLoop s' (fun _ => fs) os' μ i0 hs Ents.refl ho round
theorem tMidC {x y : Code} {ι : Type} (s' : ι → Slots) (os' : ι → List Own)
  (h : Tr P c N (Exit.then (fun a w => ∃ i, Sl N (s' i) a ∧ Sta c fs (os' i) w) Q) x s fs os)
  (k : ∀ i, Tr P c N Q y (s' i) fs (os' i)) : Tr P c N Q (.seq x y) s fs os := tMid s' (fun _ => fs) os' h k
theorem tMidNC {x : Code} {ι : Type} (s' : ι → Slots) (os' : ι → List Own)
  (h : Tr P c N (Exit.then (fun a w => ∃ i, Sl N (s' i) a ∧ Sta c fs (os' i) w) Q) x s fs os)
  (k : ∀ i, At c N (s' i) fs (os' i) (Q .normal)) : Tr P c N Q x s fs os := tMidN s' (fun _ => fs) os' h k
theorem nMC {ι : Type} {s' : ι → Slots} {os' : ι → List Own} (j : ι) {osR : List Own} (hs : SubS s (s' j)) (hf : Ents fs fs0) (ho : Take os (os' j) osR) :
  At c N s fs os (Exit.then (fun a w => ∃ i, Sl N (s' i) a ∧ Sta c fs0 (os' i) w) Q .normal) :=
 fun _ _ h1 h2 => ⟨j, h1.weak hs.lk, h2.weak hf ho⟩
end
section
variable {P : Program} {c : Ctx} {N : Nat} {s : Slots} {fs : List Fact} {os os1 es : List Own}
variable {d : Option Tmp} {ty : TypeId} {pos : String} {af : Array Edge} {gd : Option (Nat × Bool)}
theorem e_makeR {t e : TypeId} {ag : Bool} {z : Value} {by_ : Nat} (α : Type) [Zr α] {x y : Operand} {m : Int} (hu : P.underlying t = some (.slice e)) (ht : TyI P e ag (Enc.sz α) z by_) (hz : z.cells.toList = Zr.zc α)
  (hx : ev s x = some (.int .i64 m)) (hy : ev s y = some (.int .i64 m)) (h : many m) (hb : by_ ≤ 131072) :
  Eo P c fs os N s ⟨d, .makeSlice t x y, ty, pos, af, gd⟩ (fun v fs' os' => ∃ oa cp, v = .slice oa (List.replicate m.toNat (Zr.z0 : α)).length cp ∧ fs' = fs ∧ os' = tree (.slice oa (List.replicate m.toNat (Zr.z0 : α)).length cp) (List.replicate m.toNat (Zr.z0 : α)) :: os) := by
 have := e_make (P := P) (c := c) (N := N) (s := s) (fs := fs) (os := os) (d := d) (ty := ty) (pos := pos) (af := af) (gd := gd) α m.toNat hu ht hz hx hy h.eq (h.room.c hb) h.room.m
 rw [List.length_replicate]
 exact this
theorem run_eqb {t : TypeId} (hu : P.underlying t = some .bool) (m n : Bool) (w : World) : (Op.equal t (.bool m) (.bool n)).run P w = .ok (decide (m = n)) w := by
 have h : ∀ dd, (Op.equalIn (dd + 1) t (.bool m) (.bool n)).run P w = .ok (decide (m = n)) w := fun dd => by
  simp only [Op.equalIn, Sem.run_bind, run_underlying hu, Result.andThen_ok]
  cases m <;> cases n <;> rfl
 exact h 9999
theorem p_beql {t t' : TypeId} {x y : Operand} {m n : Bool} (hu : P.underlying t = some .bool) (hx : ev s x = some (.bool m)) (hy : ev s y = some (.bool n)) : Pu P N s ⟨d, .binOp .eql t x y t', ty, pos, af, gd⟩ (.bool (decide (m = n))) :=
 p_bin hx hy fun w => by
  show (do eqGuard .eql t x y (.bool m) (.bool n); let r ← Op.equal t (.bool m) (.bool n); pure (.bool r) : Sem Value).run P w = _
  simp [eqGuard, run_eqb hu m n]
theorem p_bneq {t t' : TypeId} {x y : Operand} {m n : Bool} (hu : P.underlying t = some .bool) (hx : ev s x = some (.bool m)) (hy : ev s y = some (.bool n)) : Pu P N s ⟨d, .binOp .neq t x y t', ty, pos, af, gd⟩ (.bool (!decide (m = n))) :=
 p_bin hx hy fun w => by
  show (do eqGuard .neq t x y (.bool m) (.bool n); let r ← Op.equal t (.bool m) (.bool n); pure (.bool (!r)) : Sem Value).run P w = _
  simp [eqGuard, run_eqb hu m n]
theorem p_fabE {x : Operand} {t : TypeId} {f k g j m : Nat} (hf : FA P t f k) (hx : ev s x = some (.pointer (some ⟨g, j, none⟩))) (e : j + k = m) :
  Pu P N s ⟨d, .fieldAddr t x f, ty, pos, af, gd⟩ (.pointer (some ⟨g, m, none⟩)) := e ▸ p_fab hf hx
theorem q_faeE {x : Operand} {t : TypeId} {f k j m : Nat} {oa : Option Addr} {E : Nat → List Value} {α : Type} [Enc α] [Inhabited α] {l : List α} (i : Nat) (hf : FA P t f k) (hx : ev s x = some (elp oa (i * Enc.sz α + j))) (ha : EntB fs os (arr oa E l)) (hi : i < l.length) (e : j + k = m) :
  Qo P c fs os N s ⟨d, .fieldAddr t x f, ty, pos, af, gd⟩ (elp oa (i * Enc.sz α + m)) := by
 have := q_fae (P := P) (c := c) (N := N) (s := s) (d := d) (ty := ty) (pos := pos) (af := af) (gd := gd) hf hx ha hi
 rw [Nat.add_assoc, e] at this
 exact this
end
section
variable {P : Program} {c : Ctx} {N : Nat} {s : Slots} {fs : List Fact} {os : List Own} {Q : Exit → Act → World → Prop} {code : Code}
theorem TrL.len {α : Type} [Enc α] {w : World} {S : Blks} {oa : Option Addr} {n cp : Nat} {l : List α} (h : TrL w S (.slice oa n cp) l) : n = l.length := by
 obtain ⟨_, _, e, _⟩ := h.rd
 injection e
theorem Sta.olen {α : Type} [Enc α] {w : World} {oa : Option Addr} {n cp : Nat} {l : List α} (h : Has os (tree (.slice oa n cp) l)) (hw : Sta c fs os w) : n = l.length := by
 obtain ⟨I, S, hst⟩ := hw
 obtain ⟨S1, _, ho⟩ := Sep.has h hst.own
 exact TrL.len (w := w) (S := S1) ho
theorem Tr.olen {α : Type} [Enc α] {oa : Option Addr} {n cp : Nat} {l : List α} (h : Has os (tree (.slice oa n cp) l)) (k : n = l.length → Tr P c N Q code s fs os) : Tr P c N Q code s fs os :=
 fun a w hs hw => k (hw.olen h) a w hs hw
theorem At.olen {F : Act → World → Prop} {α : Type} [Enc α] {oa : Option Addr} {n cp : Nat} {l : List α} (h : Has os (tree (.slice oa n cp) l)) (k : n = l.length → At c N s fs os F) : At c N s fs os F :=
 fun a w hs hw => k (hw.olen h) a w hs hw
end
end Go.Sx

namespace Go.Sx
open Go Go.RowKit
section
variable {P : Program} {c : Ctx} {N : Nat} {s : Slots} {fs : List Fact} {os : List Own}
variable {d : Option Tmp} {ty : TypeId} {pos : String} {af : Array Edge} {gd : Option (Nat × Bool)}
theorem n_lit0 {t e : TypeId} {ag : Bool} {n : Nat} {z : Value} {by_ : Nat} (α : Type) [Enc α] (hu : P.underlying t = some (.slice e)) (ht : TyI P e ag n z by_) :
  EF P c fs os N s ⟨d, .buildSlice t 0 #[], ty, pos, af, gd⟩ (fun v fs' os' => ∃ oa cp, v = .slice oa ([] : List α).length cp ∧ fs' = fs ∧ os' = tree (.slice oa ([] : List α).length cp) ([] : List α) :: os) := fun F =>
 (e_lit0 (fs := fs) (os := os ++ F) α hu ht).weak fun _ _ ⟨_, _, ⟨g, cp, e1, e2, e3⟩, h⟩ => ⟨_, _, ⟨g, cp, e1, e2, rfl⟩, by rw [List.cons_append, ← e3]; exact h⟩
theorem n_lit {t e : TypeId} {ag : Bool} {m n : Nat} {z : Value} {by_ : Nat} {parts : List (Nat × Operand)} {vs : List (Nat × Value)} (cs : List Value) (hu : P.underlying t = some (.slice e)) (ht : TyI P e ag n z by_)
  (hp : parts.map (fun p => (p.1, ev s p.2)) = vs.map (fun p => (p.1, some p.2))) (h0 : m * n ≠ 0) (hb : m * n ≤ 16777216)
  (hf : Instr.fill (fun i => some (i * n, n)) ((Array.range (m * n)).map (fun j => z.cells[j % z.cells.size]!)) vs = some cs.toArray) :
  EF P c fs os N s ⟨d, .buildSlice t m parts.toArray, ty, pos, af, gd⟩ (fun v fs' os' => ∃ g, v = .slice (some ⟨g, 0, none⟩) m m ∧ fs' = fs ∧ os' = box g e cs :: os) := fun F =>
 (e_lit (fs := fs) (os := os ++ F) cs hu ht hp h0 hb hf).weak fun _ _ ⟨_, _, ⟨g, e1, e2, e3⟩, h⟩ => ⟨_, _, ⟨g, e1, e2, rfl⟩, by rw [List.cons_append, ← e3]; exact h⟩
end
end Go.Sx

namespace Go.Sx
open Go Go.RowKit Go.ChangeShapes Go.WideShapes
class So (α : Type) where
  so : α → Prop
instance : So Int := ⟨fun _ => True⟩
instance : So Bool := ⟨fun _ => True⟩
instance : So UInt8 := ⟨fun _ => True⟩
instance : So ByteArray := ⟨fun s => s.size ≤ maxLen⟩
instance {α β : Type} [So α] [So β] : So (α × β) := ⟨fun d => So.so d.1 ∧ So.so d.2⟩
instance {α : Type} [So α] [Inhabited α] : So (List α) := ⟨fun l => ∀ i, i < l.length → So.so (nth l i)⟩
def Bg (P : Program) (t : TypeId) (α : Type) [Enc α] [So α] : Prop :=
 ∀ (H : Type) (enc : TypeId × Value → H) (w : World) (fuel : Nat) (cs : List Value) (x : DataW H × List MemPlace), DataW.trod enc P w 0 (fun _ => true) true fuel t cs = some x → ∃ d : α, Enc.Rd w (fun b => b < w.heap.size) cs d ∧ So.so d
theorem Bg.int {P : Program} {t : TypeId} (ht : P.underlying t = some (.int .i64)) : Bg P t Int := by
 intro H enc w fuel cs x h
 cases fuel with
 | zero => simp [DataW.trod] at h
 | succ n =>
  rw [DataW.trod_step] at h
  unfold DataW.trodStep at h
  rw [ht] at h
  dsimp only at h
  split at h <;> simp_all
  rename_i n' hk
  subst hk
  exact ⟨_, rfl, trivial⟩
theorem Bg.u8 {P : Program} {t : TypeId} (ht : P.underlying t = some (.int .u8)) : Bg P t UInt8 := by
 intro H enc w fuel cs x h
 cases fuel with
 | zero => simp [DataW.trod] at h
 | succ n =>
  rw [DataW.trod_step] at h
  unfold DataW.trodStep at h
  rw [ht] at h
  dsimp only at h
  split at h <;> simp_all
  rename_i n' hk
  obtain ⟨⟨rfl, hw⟩, _⟩ := h
  subst hk
  have hw' : 0 ≤ n' ∧ n' ≤ 255 := by simpa [Lit.wf, IntKind.min, IntKind.max, IntKind.signed, IntKind.bits] using hw
  refine ⟨UInt8.ofNat n'.toNat, ?_, trivial⟩
  show _ = [Value.int .u8 ((UInt8.ofNat n'.toNat).toNat : Int)]
  simp
  omega
theorem Bg.bool {P : Program} {t : TypeId} (ht : P.underlying t = some .bool) : Bg P t Bool := by
 intro H enc w fuel cs x h
 cases fuel with
 | zero => simp [DataW.trod] at h
 | succ n =>
  rw [DataW.trod_step] at h
  unfold DataW.trodStep at h
  rw [ht] at h
  dsimp only at h
  split at h <;> simp_all
  rename_i b
  have : ∃ d : Bool, Enc.Rd w (fun b => b < w.heap.size) [Value.bool b] d ∧ So.so d := ⟨b, rfl, trivial⟩
  simpa using this
theorem Bg.slice {P : Program} {t e : TypeId} {α : Type} [Enc α] [So α] [Inhabited α] (ht : P.underlying t = some (.slice e)) (hc : P.cellsOf e = Enc.sz α) (hb : Bg P e α) : Bg P t (List α) := by
 intro H enc w fuel cs x h
 cases fuel with
 | zero => simp [DataW.trod] at h
 | succ n =>
  rw [DataW.trod_step] at h
  unfold DataW.trodStep at h
  rw [ht] at h
  dsimp only at h
  have hlist : ∀ (a : Addr) (len cap : Nat), cs = [.slice (some a) len cap] → len ≤ cap → cap ≤ maxLen →
    (∀ i, i < len → ∃ d : α, ∃ es, w.cells? 0 (a.add (i * P.cellsOf e)) (P.cellsOf e) = some es ∧ Enc.Rd w (fun b => b < w.heap.size) es d ∧ So.so d) → ∃ d : List α, Enc.Rd w (fun b => b < w.heap.size) cs d ∧ So.so d := by
   rintro a len cap rfl h1 h2 h3
   have : ∀ i, ∃ d : α, i < len → ∃ es, w.cells? 0 (a.add (i * P.cellsOf e)) (P.cellsOf e) = some es ∧ Enc.Rd w (fun b => b < w.heap.size) es d ∧ So.so d := fun i => by
    by_cases hi : i < len
    ·obtain ⟨d, es, k⟩ := h3 i hi
     exact ⟨d, fun _ => ⟨es, k⟩⟩
    ·exact ⟨default, fun h => absurd h hi⟩
   obtain ⟨D, hD⟩ := Classical.axiomOfChoice this
   refine ⟨(List.range len).map D, ⟨_, rfl, some a, cap, by simp, by simpa using h1, h2, fun i hi => ?_⟩, fun i hi => by
    have hi' : i < len := by simpa using hi
    obtain ⟨es, _, _, k3⟩ := hD i hi'
    rw [nth_eq _ _ hi]
    simpa using k3⟩
   have hi' : i < len := by simpa using hi
   obtain ⟨es, k1, k2, _⟩ := hD i hi'
   obtain ⟨_, hl, hg⟩ := World.cells?_some k1
   refine ⟨a, es, rfl, ?_, fun j u hu => ?_, by simpa using k2⟩
   ·have h0 := hg 0 (by rw [hc]; exact Enc.pos)
    have hne : es ≠ [] := fun e' => by rw [e', hc] at hl; have := Enc.pos (α := α); simp at hl; omega
    cases es with
    | nil => exact absurd rfl hne
    | cons u es =>
     simp at h0
     have := block_lt_of_cell h0
     rw [block_add, block_add] at this
     exact this
   ·have hj : j < P.cellsOf e := by
     have := (List.getElem?_eq_some_iff.1 hu).1
     omega
    have := hg j hj
    rw [hu] at this
    rw [hc] at this
    exact this
  split at h
  case h_7 => exact ⟨[], ⟨_, rfl, none, 0, rfl, Nat.le_refl _, by simp [maxLen], fun i hi => absurd hi (Nat.not_lt_zero _)⟩, fun i hi => absurd hi (Nat.not_lt_zero _)⟩
  case h_8 =>
   rename_i e' a len cap he
   have he : e = e' := by simpa using he
   subst he
   split at h
   ·rename_i hif
    rw [Option.bind_eq_some_iff] at h
    obtain ⟨elems, h3, _⟩ := h
    have hlen := mapM_some_length h3
    simp at hlen
    refine hlist _ _ _ rfl hif.2.1 hif.2.2 fun i hi => ?_
    have hget := mapM_some_get h3 i i (by simp [hi])
    have hi' : i < elems.length := by omega
    rw [List.getElem?_eq_getElem hi', Option.bind_eq_some_iff] at hget
    obtain ⟨es, k1, k2⟩ := hget
    obtain ⟨d, hd⟩ := hb H enc w n es _ k2
    exact ⟨d, es, k1, hd⟩
   ·cases h
  all_goals first | (cases h; done) | (rename_i he; simp at he; done) | (simp_all; done)
def BgF (P : Program) : List Field → Nat → (α : Type) → [Enc α] → [So α] → Prop := fun fs k α _ _ =>
 ∀ (H : Type) (enc : TypeId × Value → H) (w : World) (fuel : Nat) (cs : List Value) (xs : List (DataW H × List MemPlace)), cs.length = k + Enc.sz α →
  (fs.mapM fun f => DataW.trod enc P w 0 (fun _ => true) true fuel f.type ((cs.drop f.offset).take (P.cellsOf f.type))) = some xs → ∃ d : α, Enc.Rd w (fun b => b < w.heap.size) (cs.drop k) d ∧ So.so d
theorem BgF.one {P : Program} {f : Field} {k : Nat} {α : Type} [Enc α] [So α] (ho : f.offset = k) (hc : P.cellsOf f.type = Enc.sz α) (h : Bg P f.type α) : BgF P [f] k α := by
 intro H enc w fuel cs xs hl hm
 simp only [List.mapM_cons, List.mapM_nil] at hm
 cases hx : DataW.trod enc P w 0 (fun _ => true) true fuel f.type ((cs.drop f.offset).take (P.cellsOf f.type)) with
 | none => rw [hx] at hm; cases hm
 | some x =>
  obtain ⟨d, hd, hs⟩ := h H enc w fuel _ _ hx
  refine ⟨d, ?_, hs⟩
  rw [ho, hc, List.take_of_length_le (by rw [List.length_drop]; omega)] at hd
  exact hd
theorem BgF.cons {P : Program} {f : Field} {fs : List Field} {k : Nat} {α β : Type} [Enc α] [Enc β] [So α] [So β] (ho : f.offset = k) (hc : P.cellsOf f.type = Enc.sz α) (h : Bg P f.type α) (hr : BgF P fs (k + Enc.sz α) β) : BgF P (f :: fs) k (α × β) := by
 intro H enc w fuel cs xs hl hm
 have hl : cs.length = k + (Enc.sz α + Enc.sz β) := hl
 rw [List.mapM_cons] at hm
 cases hx : DataW.trod enc P w 0 (fun _ => true) true fuel f.type ((cs.drop f.offset).take (P.cellsOf f.type)) with
 | none => rw [hx] at hm; cases hm
 | some x =>
  rw [hx] at hm
  cases hy : (fs.mapM fun f => DataW.trod enc P w 0 (fun _ => true) true fuel f.type ((cs.drop f.offset).take (P.cellsOf f.type))) with
  | none => rw [hy] at hm; cases hm
  | some ys =>
   obtain ⟨d, hd, hs1⟩ := h H enc w fuel _ _ hx
   obtain ⟨u, hu, hs2⟩ := hr H enc w fuel cs ys (by omega) hy
   refine ⟨(d, u), ⟨(cs.drop k).take (Enc.sz α), cs.drop (k + Enc.sz α), ?_, ?_, hu⟩, hs1, hs2⟩
   ·rw [← List.drop_drop, List.take_append_drop]
   ·rw [ho, hc] at hd
    exact hd
theorem Bg.struct {P : Program} {t : TypeId} {fs : Array Field} {α : Type} [Enc α] [So α] (ht : P.underlying t = some (.struct fs)) (hc : P.cellsOf t = Enc.sz α) (hf : BgF P fs.toList 0 α) : Bg P t α := by
 intro H enc w fuel cs x h
 cases fuel with
 | zero => simp [DataW.trod] at h
 | succ n =>
  rw [DataW.trod_step] at h
  unfold DataW.trodStep at h
  rw [ht] at h
  dsimp only at h
  split at h
  ·rename_i hl
   rw [Option.map_eq_some_iff] at h
   obtain ⟨xs, hm, _⟩ := h
   obtain ⟨d, hd, hs⟩ := hf H enc w n cs xs (by rw [hl, hc]; omega) hm
   exact ⟨d, by simpa using hd, hs⟩
  ·cases h
theorem trodAll_stays {H : Type} {enc : TypeId × Value → H} {P : Program} (hl : laidOutB P = true) {W W' : World} (hb : Below W.heap.size W W') {sp : Nat → Bool} :
  ∀ {ts : List TypeId} {vs : List Value} {ds : List (DataW H)} {ps : List MemPlace}, (ts.all fun t => P.readableRec t && decide (t < P.types.size)) = true → DataW.TrodAll enc P W 0 (fun _ => true) true ts vs ds ps →
   (∀ x ∈ ps, x.block < W.heap.size) → (∀ x ∈ ps, sp x.block = true) → DataW.TrodAll enc P W' 0 sp true ts vs ds ps
 | [], _, _, _, _, h, _, _ => by
  obtain ⟨rfl, rfl, rfl⟩ := trodAll_nil h
  exact h
 | t :: ts, _, _, _, hr, h, hlt, hsp => by
  obtain ⟨v, vs, d, ds, p, q, rfl, rfl, rfl, h1, h2⟩ := trodAll_cons h
  simp only [List.all_cons, Bool.and_eq_true, decide_eq_true_eq] at hr
  have k1 := WideElems.Trod_stays hl hr.1.1 hr.1.2 h1 (fun x hx => hb.same (hlt x (List.mem_append_left _ hx))) (fun x hx => hsp x (List.mem_append_left _ hx))
  have k2 := trodAll_stays hl hb hr.2 h2 (fun x hx => hlt x (List.mem_append_right _ hx)) (fun x hx => hsp x (List.mem_append_right _ hx))
  exact ⟨p, q, k1, k2, rfl⟩
theorem FnL'.law {L : Prop} {P : Program} {f : FuncId} {args : Array Value} {fs : List Fact} (h : FnL' L P f args fs [] (ι := Unit) (fun _ => .bool true) (fun _ => []) (fun _ => [])) {W : World}
  (hf : ∀ g ∈ fs, g.ok W (fun b => b < W.heap.size)) : Calls P f args W fun e W' => e = .returned (.bool true) ∧ Below W.heap.size W W' := by
 refine (h.go W (fun b => b < W.heap.size) (fun _ => False) ⟨hf, trivial, fun _ _ h => h, fun _ h => h, fun _ h => h.elim, fun _ => .inl, fun _ h => h.elim, fun _ h => h, Frm.refl _ _⟩).mono ?_
 rintro e W' ⟨_, rfl, I, S, hst⟩
 exact ⟨rfl, hst.frm.below⟩
end Go.Sx

namespace Go.Sx
section
variable {σ ε : Type} {body : σ → Option (σ ⊕ ε)}
theorem lp_seq (S : Nat → σ) (n : Nat) (h : ∀ k, k < n → body (S k) = some (.inl (S (k + 1)))) : lp body (S 0) = lp body (S n) := by
 induction n with
 | zero => rfl
 | succ n ih => rw [ih fun k hk => h k (by omega), lp.step (h n (by omega))]
theorem lp_for (S : Nat → σ) (n : Nat) (e : ε) (h : ∀ k, k < n → body (S k) = some (.inl (S (k + 1)))) (hn : body (S n) = some (.inr e)) : lp body (S 0) = some e := by
 rw [lp_seq S n h, lp.stop hn]
theorem first_bad {n : Nat} {bad : Nat → Bool} (h : allN n bad = false) : ∃ k, k < n ∧ bad k = true ∧ ∀ i, i < k → bad i = false := by
 induction n with
 | zero => simp [allN] at h
 | succ n ih =>
  by_cases hn : allN n bad = true
  ·refine ⟨n, by omega, ?_, fun i hi => allN_iff.1 hn i hi⟩
   cases hb : bad n with
   | true => rfl
   | false =>
    have : allN (n + 1) bad = true := allN_iff.2 fun i hi => by
     rcases Nat.lt_or_eq_of_le (Nat.le_of_lt_succ hi) with h' | rfl
     ·exact allN_iff.1 hn i h'
     ·exact hb
    rw [this] at h; cases h
  ·obtain ⟨k, hk, h1, h2⟩ := ih (by simpa using hn)
   exact ⟨k, by omega, h1, h2⟩
theorem lp_scan (S : Nat → σ) (n : Nat) (bad : Nat → Bool) (e : ε) (f : Nat → ε) (h : ∀ k, k < n → (∀ i, i < k → bad i = false) → bad k = false → body (S k) = some (.inl (S (k + 1)))) (hb : ∀ k, k < n → (∀ i, i < k → bad i = false) → bad k = true → body (S k) = some (.inr (f k))) (hn : allN n bad = true → body (S n) = some (.inr e)) :
  (allN n bad = true ∧ lp body (S 0) = some e) ∨ (allN n bad = false ∧ ∃ k, k < n ∧ bad k = true ∧ (∀ i, i < k → bad i = false) ∧ lp body (S 0) = some (f k)) := by
 cases ha : allN n bad with
 | true =>
  have := allN_iff.1 ha
  exact .inl ⟨rfl, lp_for S n e (fun k hk => h k hk (fun i hi => this i (by omega)) (this k hk)) (hn ha)⟩
 | false =>
  obtain ⟨k, hk, h1, h2⟩ := first_bad ha
  refine .inr ⟨rfl, k, hk, h1, h2, ?_⟩
  rw [lp_seq S k fun j hj => h j (by omega) (fun i hi => h2 i (by omega)) (h2 j hj), lp.stop (hb k hk h2 h1)]
end
theorem ixN {k n : Nat} (h : k < n) : ix (k : Int) n := by unfold ix; omega
theorem i64S {k n : Nat} (h : k < n) (hn : n ≤ 9223372036854775807) : I64 ((k : Int) + 1) := by unfold I64; omega
theorem dlt {k n : Nat} (h : k < n) : decide ((k : Int) < (n : Int)) = true := by simp; omega
@[simp] theorem gd_true {β : Type} {k : Option β} {c : Prop} [Decidable c] (h : c) : gd c k = k := gd.yes h
class Wt (α : Type) where
  w : α → Nat
instance : Wt Int := ⟨fun _ => 0⟩
instance : Wt Bool := ⟨fun _ => 0⟩
instance : Wt UInt8 := ⟨fun _ => 0⟩
instance : Wt ByteArray := ⟨fun s => s.size⟩
instance {α β : Type} [Wt α] [Wt β] : Wt (α × β) := ⟨fun d => Wt.w d.1 + Wt.w d.2⟩
instance {α : Type} [Wt α] [Inhabited α] : Wt (List α) := ⟨fun l => l.length + sumN l.length fun i => Wt.w (nth l i)⟩
theorem sumN_zero {n : Nat} {f : Nat → Nat} (h : ∀ i, i < n → f i = 0) : sumN n f = 0 := by
 induction n with
 | zero => rfl
 | succ n ih => simp only [sumN, ih fun i hi => h i (by omega), h n (by omega)]
theorem sumN_mono {n : Nat} {f g : Nat → Nat} (h : ∀ i, i < n → f i ≤ g i) : sumN n f ≤ sumN n g := by
 induction n with
 | zero => exact Nat.le_refl _
 | succ n ih => have := ih fun i hi => h i (by omega); have := h n (by omega); simp only [sumN]; omega
theorem wL_le {α : Type} [Wt α] [Inhabited α] {l : List α} : l.length ≤ Wt.w l := Nat.le_add_right _ _
theorem wL_el {α : Type} [Wt α] [Inhabited α] {l : List α} {k : Nat} (hk : k < l.length) : Wt.w (nth l k) ≤ Wt.w l :=
 Nat.le_trans (sumN_get (f := fun i => Wt.w (nth l i)) hk) (Nat.le_add_left _ _)
theorem wP_2 {α β : Type} [Wt α] [Wt β] {d : α × β} : Wt.w d.2 ≤ Wt.w d := Nat.le_add_left _ _
theorem eq_loop {α : Type} [Inhabited α] [DecidableEq α] {b0 : Int → Option (Int ⊕ (Unit ⊕ Bool))} {a b : List α} (hl : a.length = b.length)
  (hb : ∀ k, k < a.length → b0 (k : Int) = if nth a k = nth b k then some (.inl ((k + 1 : Nat) : Int)) else some (.inr (.inr false)))
  (he : b0 (a.length : Int) = some (.inr (.inl ()))) : bd (lp b0 0) (sw (fun _ => some true) (fun q => some q)) = some (decide (a = b)) := by
 rcases lp_scan (body := b0) (fun k => (k : Int)) a.length (fun k => !decide (nth a k = nth b k)) (.inl ()) (fun _ => .inr false) (fun k hk _ h => by rw [hb k hk, if_pos (by simpa using h)]) (fun k hk _ h => by rw [hb k hk, if_neg (by simpa using h)]) (fun _ => he) with ⟨h1, h2⟩ | ⟨_, k, hk, h1, _, h2⟩
 ·rw [show lp b0 0 = _ from h2]
  have : a = b := list_ext_nth hl fun i hi => by simpa using allN_iff.1 h1 i hi
  simp [sw, this]
 ·rw [show lp b0 0 = _ from h2]
  have : a ≠ b := fun e => by simp [e] at h1
  simp [sw, this]
end Go.Sx

namespace Go.Sx
open Go Go.RowKit Go.ChangeShapes Go.WideShapes
theorem val_slice {P : Program} {W : World} {b0 : Nat} {t e : TypeId} {v u : Value} (ht : P.underlying t = some (.slice e)) (hv : Value.okWide P W .any b0 t v) (e : v.cells.toList = [u]) : v = u := by
 obtain ⟨a, len, cap, rfl⟩ := okWide_slice ht hv
 simpa [Value.cells] using e
section
variable {H : Type} {enc : TypeId × Value → H} {P : Program}
theorem post_law {f : Func} {s : ChangeSpec} {apart fresh handsOn again : Bool} {W W' : World} {args : Array Value} {ds gs : List (DataW H)} {before : List MemPlace} {tb : TypeId}
  (hl : laidOutB P = true) (hW : DataW.Whole enc P f.params.toList s.vars apart W args.toList ds gs before) (hb : Below W.heap.size W W') (hr : (f.params.toList.all fun t => P.readableRec t && decide (t < P.types.size)) = true)
  (hvs : s.vars = []) (hres : f.resultTypes = #[tb]) (htb : P.underlying tb = some .bool) (hfn : s.fn H (ds ++ gs) = { results := [.lit (.bool true)], args := ds }) :
  s.post enc P f apart fresh handsOn again W args (.bool true) W' := by
 have hlt : ∀ p ∈ before, p.block < W.heap.size := fun p hp => by simpa using hW.lt p hp
 have hold : ∀ p ∈ before, (fun b => decide (b < W.heap.size)) p.block = true := fun p hp => by simpa using hlt p hp
 obtain ⟨p, q, hA, hV, hpq, hz, hn⟩ := id hW
 rw [hvs] at hV
 obtain ⟨rfl, rfl⟩ := trodVars_none hV
 rw [List.append_nil] at hpq
 subst hpq
 have hargs : ∀ sp : Nat → Bool, (∀ x ∈ before, sp x.block = true) → DataW.TrodAll enc P W' 0 sp true f.params.toList args.toList ds before := fun sp hsp => trodAll_stays hl hb hr hA hlt hsp
 have hr1 : ∀ (b : Nat) (sp : Nat → Bool) (hd : Bool), DataW.TrodAll enc P W' b sp hd f.resultTypes.toList ((Value.bool true).resultList f.resultTypes.size) [.lit (.bool true)] [] := fun b sp hd => by
  rw [hres]
  exact trodAll_mk1 (shut_bool htb true)
 refine ⟨ds, [], before, [], before, [], hW, ?_, ?_, ?_, World.keptBut_mono (fun x hx => ?_) (hb.frame (· ∈ before)), fun _ => ?_⟩
 ·rw [hfn]; exact hr1 _ _ _
 ·rw [hfn]; exact hargs _ hold
 ·rw [hfn, hvs]; rfl
 ·exact ⟨hx, Or.inr (Or.inl hx)⟩
 ·refine ⟨?_, _, [], ([] ++ before) ++ [], ⟨[] ++ before, [], trodAll_append (hargs _ (fun _ _ => rfl)) (hr1 _ _ _), (by rw [hvs]; rfl), rfl, ?_, ?_⟩, ?_⟩
  ·intro j t r h1 h2
   rw [hres] at h1 h2
   match j, h1, h2 with
   | 0, h1, h2 =>
    simp [Value.resultList] at h1 h2
    subst h1; subst h2
    simp [Value.okWide, htb, Cell.okWide, Cell.ok]
  ·intro b off hp
   have hp' : MemPlace.cell b off ∈ before := by simpa using hp
   rw [hb.frozen (p := ⟨b, off, none⟩) (hlt _ hp')]
   exact hz b off hp'
  ·intro ha
   have := hn ha
   simpa using this
  ·intro x hx _
   simpa using hx
end
end Go.Sx

namespace Go.Sx
open Go Go.RowKit
def PL (P : Program) (t : TypeId) (places : Array (Nat × Nat)) : Prop := ∃ fields, P.underlying t = some (.struct fields) ∧ ∀ w, (fields.mapM (m := Sem) fun f => do pure (f.offset, ← Go.sizeOf f.type)).run P w = .ok places w
section
variable {P : Program} {c : Ctx} {N : Nat} {s : Slots} {fs : List Fact} {os os1 os' : List Own} {Q : Exit → Act → World → Prop} {code : Code}
variable {d : Option Tmp} {ty : TypeId} {pos : String} {af : Array Edge} {gd : Option (Nat × Bool)}
theorem p_buildS {t : TypeId} {n : Nat} {z : Value} {by_ : Nat} {places : Array (Nat × Nat)} {parts : List (Nat × Operand)} {vs : List (Nat × Value)} {cs : Array Value} (ht : TyI P t true n z by_) (hpl : PL P t places)
  (hp : parts.map (fun p => (p.1, ev s p.2)) = vs.map (fun p => (p.1, some p.2))) (hf : Instr.fill (places[·]?) z.cells vs = some cs) :
  Pu P N s ⟨d, .build t parts.toArray, ty, pos, af, gd⟩ (.agg cs) := p_build hp fun w => by
 obtain ⟨fields, hu, hm⟩ := hpl
 unfold Instr.build
 simp only [Sem.run_bind, ht.zero, Result.andThen_ok, run_underlying hu]
 rw [hm w]
 simp only [Result.andThen_ok]
 rw [hf]
 rfl
theorem p_rem {t t' : TypeId} {x y : Operand} {m n : Int} (hx : ev s x = some (.int .i64 m)) (hy : ev s y = some (.int .i64 n)) (h : n ≠ 0) (h2 : I64 (m.tmod n)) : Pu P N s ⟨d, .binOp .rem t x y t', ty, pos, af, gd⟩ (.int .i64 (m.tmod n)) :=
 p_bin hx hy fun w => by
  have := IntWalk.i64_in _ h2
  simp [eqGuard, binOp, Op.intDiv, h]
theorem p_quo {t t' : TypeId} {x y : Operand} {m n : Int} (hx : ev s x = some (.int .i64 m)) (hy : ev s y = some (.int .i64 n)) (h : n ≠ 0) (h2 : I64 (m.tdiv n)) : Pu P N s ⟨d, .binOp .quo t x y t', ty, pos, af, gd⟩ (.int .i64 (m.tdiv n)) :=
 p_bin hx hy fun w => by
  have := IntWalk.i64_in _ h2
  simp [eqGuard, binOp, Op.intDiv, h, this]
def hole {α : Type} [Enc α] (v : Value) (l : List α) (k : Nat) (cs : List Value) : Own :=
  ⟨fun w _ S => ∃ g cap cur ty, v = .slice (some ⟨g, 0, none⟩) l.length cap ∧ S g ∧ w.heap[g]? = some (.cells cur ty (0, 0)) ∧ l.length ≤ cap ∧ cap ≤ maxLen ∧ cur.size = cap * Enc.sz α ∧ k < l.length ∧
      (cur.toList.drop (k * Enc.sz α)).take (Enc.sz α) = cs ∧
      ∃ Ss : Nat → Blks, (∀ i, i < l.length → i ≠ k → ∀ b, Ss i b → S b ∧ b ≠ g) ∧ (∀ i j, i < j → j < l.length → i ≠ k → j ≠ k → ∀ b, Ss i b → Ss j b → False) ∧
        ∀ i (h : i < l.length), i ≠ k → Enc.Tr w (Ss i) ((cur.toList.drop (i * Enc.sz α)).take (Enc.sz α)) l[i],
   fun {w w' I I' S S'} ⟨g, cap, cur, ty, e, hg, hh, h1, h2, h3, hk, hc, Ss, k1, k2, k3⟩ _ hs _ hm =>
     ⟨g, cap, cur, ty, e, hm _ hg, (hs g hg).trans hh, h1, h2, h3, hk, hc, Ss, fun i hi hne b hb => ⟨hm _ (k1 i hi hne b hb).1, (k1 i hi hne b hb).2⟩, k2, fun i hi hne => Enc.tr_keep (k3 i hi hne) (hs.mono fun b hb => (k1 i hi hne b hb).1) (fun _ h => h)⟩⟩
theorem Sta.zoom {α : Type} [ShpT α] [Inhabited α] {v : Value} {l : List α} {w : World} {k : Nat} (hk : k < l.length) (ht : Take os [tree v l] os1) (h : Sta c fs os w) :
  ∃ x : Shp.γ α, Sta c fs (hole v l k (Shp.enc (nth l k) x) :: (ShpT.own (nth l k) x ++ os1)) w := by
 obtain ⟨I, S, hst⟩ := id h
 obtain ⟨S1, S2, m1, m2, dj, ⟨A, _, mA, _, _, ho, _⟩, hr⟩ := ht.sep hst.own
 have ho : TrL w A v l := ho
 rcases ho with ⟨_, e⟩ | ⟨g, cap, cur, ty, e, hg, hh, h1, h2, h3, Ss, k1, k2, k3⟩
 ·subst e; exact absurd hk (Nat.not_lt_zero _)
 ·have hel := k3 k hk
  rw [← nth_eq l k hk] at hel
  obtain ⟨x, hcs, hown⟩ := ShpT.un hel
  refine ⟨x, I, S, { hst with own := ?_ }⟩
  have hsp : Sep (ShpT.own (nth l k) x ++ os1) w I (fun b => Ss k b ∨ S2 b) := Sep.append (fun b h1 h2 => dj b (mA b (k1 k hk b h1).1) h2) (hown I) hr
  refine ⟨fun b => A b ∧ ¬ Ss k b, fun b => Ss k b ∨ S2 b, fun b hb => m1 b (mA b hb.1), fun b hb => hb.elim (fun h => m1 b (mA b (k1 k hk b h).1)) (m2 b), fun b h1 h2 => h2.elim h1.2 (fun h => dj b (mA b h1.1) h), ?_, hsp⟩
  exact ⟨g, cap, cur, ty, e, ⟨hg, fun h => (k1 k hk g h).2 rfl⟩, hh, h1, h2, h3, hk, hcs, Ss, fun i hi hne b hb => ⟨⟨(k1 i hi b hb).1, fun h => by
    rcases Nat.lt_or_gt_of_ne hne with h' | h'
    ·exact k2 i k h' hk b hb h
    ·exact k2 k i h' hi b h hb⟩, (k1 i hi b hb).2⟩, fun i j hij hj _ _ => k2 i j hij hj, fun i hi _ => k3 i hi⟩
theorem Sta.unzoom {α : Type} [ShpT α] {v : Value} {l : List α} {w : World} {k : Nat} {cs : List Value} (u : α) (x : Shp.γ α) (e : cs = Shp.enc u x) (ht : Take os (hole v l k cs :: ShpT.own u x) os1) (h : Sta c fs os w) :
  Sta c fs (tree v (l.set k u) :: os1) w := by
 refine h.chg (r' := [tree v (l.set k u)]) ht fun I S S1 hst m1 ⟨A, B, mA, mB, dAB, ho, hr⟩ => ?_
 obtain ⟨g, cap, cur, ty, e', hg, hh, h1, h2, h3, hk, hc, Ss, k1, k2, k3⟩ := ho
 have htr : Enc.Tr w B (Shp.enc u x) u := ShpT.mkT (ShpT.wfa u) hr
 have hBg : ∀ b, B b → b ≠ g := fun b hb e => dAB _ hg (e ▸ hb)
 refine ⟨S1, fun b => .inl, ⟨S1, fun _ => False, fun _ h => h, fun _ h => h.elim, fun _ _ h => h, ?_, trivial⟩, fun _ _ _ => rfl, Nat.le_refl _, rfl, ⟨rfl, by first | exact Nat.le_refl _ | exact Nat.le_succ _⟩, rfl⟩
 refine .inr ⟨g, cap, cur, ty, by rw [List.length_set]; exact e', mA _ hg, hh, by rw [List.length_set]; exact h1, h2, h3, fun i b => if i = k then B b else Ss i b, fun i hi b hb => ?_, fun i j hij hj b hb1 hb2 => ?_, fun i hi => ?_⟩
 ·rw [List.length_set] at hi
  split at hb
  ·exact ⟨mB b hb, hBg b hb⟩
  ·rename_i hne
   exact ⟨mA b (k1 i hi hne b hb).1, (k1 i hi hne b hb).2⟩
 ·rw [List.length_set] at hj
  split at hb1 <;> split at hb2
  ·omega
  ·rename_i h1 h2; exact dAB b (k1 j hj h2 b hb2).1 hb1
  ·rename_i h1 h2; exact dAB b (k1 i (by omega) h1 b hb1).1 hb2
  ·rename_i h1 h2; exact k2 i j hij hj h1 h2 b hb1 hb2
 ·rw [List.length_set] at hi
  by_cases hik : i = k
  ·subst hik
   simp only [if_true, List.getElem_set_self]
   rw [hc, e]
   exact htr
  ·simp only [hik, if_false]
   rw [List.getElem_set_ne (Ne.symm hik)]
   exact k3 i hi hik
theorem Tr.zoom {α : Type} [ShpT α] [Inhabited α] {v : Value} {l : List α} {k : Nat} (hk : k < l.length) (ht : Take os [tree v l] os1)
  (kk : ∀ x : Shp.γ α, Tr P c N Q code s fs (hole v l k (Shp.enc (nth l k) x) :: (ShpT.own (nth l k) x ++ os1))) : Tr P c N Q code s fs os := fun a w hs hw => by
 obtain ⟨x, h⟩ := hw.zoom hk ht
 exact kk x a w hs h
theorem At.unzoom {F : Act → World → Prop} {α : Type} [ShpT α] {v : Value} {l : List α} {k : Nat} {cs : List Value} (u : α) (x : Shp.γ α) (e : cs = Shp.enc u x) (ht : Take os (hole v l k cs :: ShpT.own u x) os1)
  (kk : At c N s fs (tree v (l.set k u) :: os1) F) : At c N s fs os F := fun a w hs hw => kk a w hs (hw.unzoom u x e ht)
theorem Tr.unzoom {α : Type} [ShpT α] {v : Value} {l : List α} {k : Nat} {cs : List Value} (u : α) (x : Shp.γ α) (e : cs = Shp.enc u x) (ht : Take os (hole v l k cs :: ShpT.own u x) os1)
  (kk : Tr P c N Q code s fs (tree v (l.set k u) :: os1)) : Tr P c N Q code s fs os := fun a w hs hw => kk a w hs (hw.unzoom u x e ht)
theorem q_ixH {x y : Operand} {t e : TypeId} {ag : Bool} {n cp : Nat} {z : Value} {by_ : Nat} {oa : Option Addr} {i : Int} {α : Type} [Enc α] {l : List α} {k : Nat} {cs : List Value} (hu : P.underlying t = some (.slice e)) (ht : TyI P e ag (Enc.sz α) z by_)
  (hx : ev s x = some (.slice oa n cp)) (hy : ev s y = some (.int .i64 i)) (h : ix i l.length) (hk : i.toNat = k) (ha : Has os (hole (.slice oa n cp) l k cs)) :
  Qo P c fs os N s ⟨d, .indexAddr t x y, ty, pos, af, gd⟩ (elp oa (k * Enc.sz α + 0)) := qo_of fun a w I S hs hst => by
 obtain ⟨S1, _, g, cap, cur, bt, e, _⟩ := Sep.has ha hst.own
 injection e with e1 e2 e3
 subst e1 e2 hk
 have h1 : (0 : Int) ≤ i ∧ i < ((l.length : Nat) : Int) := h
 have h2 := h.eq
 simp [execOp, hs.ev hx, hs.ev hy, Instr.indexAt, asIntOf, run_underlying hu, ht.sizeOf, elp, h1]
theorem q_faH {x : Operand} {t : TypeId} {f k j m i : Nat} {n cp : Nat} {oa : Option Addr} {α : Type} [Enc α] {l : List α} {cs : List Value} (hf : FA P t f k) (hx : ev s x = some (elp oa (i * Enc.sz α + j))) (ha : Has os (hole (.slice oa n cp) l i cs)) (e : j + k = m) :
  Qo P c fs os N s ⟨d, .fieldAddr t x f, ty, pos, af, gd⟩ (elp oa (i * Enc.sz α + m)) := qo_of fun a w I S hs hst => by
 obtain ⟨S1, _, g, cap, cur, bt, e', _⟩ := Sep.has ha hst.own
 injection e' with e1 e2 e3
 subst e1 e
 simp [execOp, hs.ev hx, elp, hf.run, add_add, Nat.add_assoc]
theorem cells_hole {w : World} {g : Nat} {cur : Array Value} {bt : TypeId} (hh : w.heap[g]? = some (.cells cur bt (0, 0))) {o j n : Nat} {cs : List Value} (hc : (cur.toList.drop o).take n = cs) : CellsAt w ((⟨g, 0, none⟩ : Addr).add (o + j)) (cs.drop j) := by
 intro r u hu
 have := cellsAt_row hh o n (j + r) u (by rw [hc, ← List.getElem?_drop]; exact hu)
 rw [add_add] at this ⊢
 rwa [Nat.add_assoc]
theorem q_ldH {x : Operand} {t : TypeId} {n m i j cp : Nat} {z : Value} {by_ : Nat} {oa : Option Addr} {α : Type} [Enc α] {l : List α} {cs : List Value} {v : Value} (ht : TyI P t false n z by_) (hx : ev s x = some (elp oa (i * Enc.sz α + j))) (ha : Has os (hole (.slice oa m cp) l i cs)) (hv : cs[j]? = some v) :
  Qo P c fs os N s ⟨d, .load t x, ty, pos, af, gd⟩ v := qo_of fun a w I S hs hst => by
 obtain ⟨S1, _, g, cap, cur, bt, e', _, hh, _, _, _, _, hc, _⟩ := Sep.has ha hst.own
 injection e' with e1 e2 e3
 subst e1
 have h1 := cells_hole hh (j := j) hc 0 v (by rw [List.getElem?_drop]; exact hv)
 rw [add_add, Nat.add_zero] at h1
 simp [execOp, hs.ev hx, elp, run_load_one ht h1]
theorem e_stH {t : TypeId} {ag : Bool} {n m i j cp : Nat} {z : Value} {by_ : Nat} {x y : Operand} {oa : Option Addr} {α : Type} [Enc α] {l : List α} {cs cs' : List Value} {v : Value} (ht : TyI P t ag n z by_)
  (hx : ev s x = some (elp oa (i * Enc.sz α + j))) (hy : ev s y = some v) (hu : Take os [hole (.slice oa m cp) l i cs] os1) (hn : v.cells.size = n) (h1 : ∀ u ∈ v.cells.toList, u.oneCell' = true)
  (hl : j + n ≤ Enc.sz α) (hcl : cs.length = Enc.sz α) (he : cs.take j ++ v.cells.toList ++ cs.drop (j + n) = cs') :
  Eo P c fs os N s ⟨d, .store t x y, ty, pos, af, gd⟩ (fun u fs' os'' => u = undef ∧ fs' = fs ∧ os'' = hole (.slice oa m cp) l i cs' :: os1) := Ex.mk fun a w hs hw => by
 obtain ⟨I, S, hst⟩ := id hw
 obtain ⟨S1, _, _, _, _, ⟨A, _, _, _, _, ⟨g, cap, cur, bt, e', _, hh, h1', _, hsz, hk, hc, _⟩, _⟩, _⟩ := hu.sep hst.own
 injection e' with e1 e2 e3
 subst e1
 subst e2
 subst e3
 have hle : i * Enc.sz α + Enc.sz α ≤ cur.size := by
  have := Nat.mul_le_mul_right (Enc.sz α) (show i + 1 ≤ cp by omega)
  rw [Nat.add_mul] at this
  omega
 have hrun := run_storeCells_at P g (i * Enc.sz α + j) bt v.cells.toList 0 cur w hh (by simp [hn]; omega) h1
 simp only [Nat.add_zero] at hrun
 have hadd : (⟨g, 0, none⟩ : Addr).add (i * Enc.sz α + j) = ⟨g, i * Enc.sz α + j, none⟩ := by rw [Addr.add_lit]; simp
 rw [show v.cells.toList.length = n by simpa using hn] at hrun
 simp [execOp, Instr.storeAt, Instr.sureAddr, hs.ev hx, hs.ev hy, storeVar, ht.sizeOf, hn, elp, hadd, hrun, Outc]
 have hcurl : cur.toList.length = cp * Enc.sz α := by rw [Array.length_toList, hsz]
 -- the new cells, element by element
 have hnew : cur.toList.take (i * Enc.sz α + j) ++ (v.cells.toList ++ cur.toList.drop (i * Enc.sz α + j + n)) = cur.toList.take (i * Enc.sz α) ++ cs' ++ cur.toList.drop (i * Enc.sz α + Enc.sz α) := by
  rw [← he, ← hc, List.take_add, List.take_take, Nat.min_eq_left (by omega), List.drop_take, List.drop_drop]
  rw [← List.append_assoc, ← List.append_assoc, ← List.append_assoc, List.append_assoc (_ ++ v.cells.toList)]
  congr 1
  have : cur.toList.drop (i * Enc.sz α + j + n) = (cur.toList.drop (i * Enc.sz α + j + n)).take (Enc.sz α - (j + n)) ++ cur.toList.drop (i * Enc.sz α + Enc.sz α) := by
   have hx := List.take_append_drop (Enc.sz α - (j + n)) (cur.toList.drop (i * Enc.sz α + j + n))
   rw [List.drop_drop, show (i * Enc.sz α + j + n) + (Enc.sz α - (j + n)) = i * Enc.sz α + Enc.sz α by omega] at hx
   exact hx.symm
  rw [this, Nat.add_assoc]
 refine ⟨fs, _, ⟨rfl, rfl⟩, hw.chg (r' := [hole (.slice (some ⟨g, 0, none⟩) l.length cp) l i cs']) hu fun I S S1 hst m1 ⟨A, B, mA, mB, dAB, ho, hr⟩ => ?_⟩
 obtain ⟨g', cap', cur', ty', e', hg, hh', h1'', h2, h3, hk', hc', Ss, k1, k2, k3⟩ := ho
 injection e' with e1 e2 e3
 injection e1 with e1
 have e1 : g = g' := congrArg Addr.block e1
 subst e1
 subst e3
 rw [hh] at hh'
 cases hh'
 have hcs' : cs'.length = Enc.sz α := by
  rw [← he]
  simp only [List.length_append, List.length_take, List.length_drop, Array.length_toList, hn, hcl]
  omega
 have hoth : ∀ b, b ≠ g → (w.setRow g (cur.toList.take (i * Enc.sz α + j) ++ (v.cells.toList ++ cur.toList.drop (i * Enc.sz α + j + n))).toArray).heap[b]? = w.heap[b]? := fun b hb => setRow_other w g b _ hb
 refine ⟨S1, fun b => .inl, ⟨S1, fun _ => False, fun _ h => h, fun _ h => h.elim, fun _ _ h => h, ?_, trivial⟩, fun b hb hn => ?_, by simp [World.setRow], rfl, ⟨rfl, by first | exact Nat.le_refl _ | exact Nat.le_succ _⟩, rfl⟩
 ·refine ⟨g, cp, _, bt, rfl, mA _ hg, setRow_heap w g cur _ bt _ hh, h1'', h2, ?_, hk', ?_, Ss, fun r hr hne b hb => ⟨mA b (k1 r hr hne b hb).1, (k1 r hr hne b hb).2⟩, k2, fun r hr hne => ?_⟩
  ·rw [hnew]
   simp only [List.size_toArray, List.length_append, List.length_take, List.length_drop, hcs', hcurl]
   have : i * Enc.sz α + Enc.sz α ≤ cp * Enc.sz α := by rw [← hsz]; exact hle
   omega
  ·rw [hnew]
   have := splice (n := cp) (k := i) (i := i) hcurl hcs' (by omega) (by omega)
   rw [if_pos rfl] at this
   exact this
  ·rw [hnew]
   have := splice (n := cp) (k := i) (i := r) hcurl hcs' (by omega) (by omega)
   rw [if_neg hne] at this
   show Enc.Tr _ _ (((cur.toList.take (i * Enc.sz α) ++ cs' ++ cur.toList.drop (i * Enc.sz α + Enc.sz α)).drop (r * Enc.sz α)).take (Enc.sz α)) _
   rw [this]
   refine Enc.tr_keep (k3 r hr hne) (fun b hb => ?_) (fun _ h => h)
   rw [← hnew]
   exact hoth b (k1 r hr hne b hb).2
 ·rw [hoth b fun e => hn (e ▸ mA _ hg)]
end
end Go.Sx

namespace Go.Sx
class Ct (α : Type) extends Wt α where
  ct : α → Nat
  m : Nat
  le : ∀ a, ct a ≤ m * w a + m
instance : Ct Int := { ct := fun _ => 1, m := 1, le := fun _ => by omega }
instance : Ct Bool := { ct := fun _ => 1, m := 1, le := fun _ => by omega }
instance : Ct UInt8 := { ct := fun _ => 1, m := 1, le := fun _ => by omega }
instance : Ct ByteArray := { ct := fun _ => 1, m := 1, le := fun _ => by omega }
theorem ct_prod {α β : Type} [Ct α] [Ct β] (d : α × β) : Ct.ct d.1 + Ct.ct d.2 ≤ (Ct.m α + Ct.m β) * (Wt.w d.1 + Wt.w d.2) + (Ct.m α + Ct.m β) := by
 have h1 := Ct.le d.1
 have h2 := Ct.le d.2
 have h3 : Ct.m α * Wt.w d.1 ≤ Ct.m α * (Wt.w d.1 + Wt.w d.2) := Nat.mul_le_mul_left _ (Nat.le_add_right _ _)
 have h4 : Ct.m β * Wt.w d.2 ≤ Ct.m β * (Wt.w d.1 + Wt.w d.2) := Nat.mul_le_mul_left _ (Nat.le_add_left _ _)
 rw [Nat.add_mul]
 omega
instance {α β : Type} [Ct α] [Ct β] : Ct (α × β) := { ct := fun d => Ct.ct d.1 + Ct.ct d.2, m := Ct.m α + Ct.m β, le := ct_prod }
theorem sumN_lin {n m : Nat} {f g : Nat → Nat} (h : ∀ i, i < n → f i ≤ m * g i + m) : sumN n f ≤ m * (n + sumN n g) := by
 induction n with
 | zero => simp [sumN]
 | succ n ih =>
  have h1 := ih fun i hi => h i (by omega)
  have h2 := h n (by omega)
  simp only [sumN]
  have : m * (n + 1 + (sumN n g + g n)) = m * (n + sumN n g) + (m * g n + m) := by
   rw [show n + 1 + (sumN n g + g n) = (n + sumN n g) + (g n + 1) by omega, Nat.mul_add, Nat.mul_add m (g n) 1, Nat.mul_one]
  omega
instance {α : Type} [Ct α] [Inhabited α] : Ct (List α) := { ct := fun l => sumN l.length fun i => Ct.ct (nth l i), m := Ct.m α, le := fun l => Nat.le_trans (sumN_lin fun i _ => Ct.le (nth l i)) (Nat.le_add_right _ _) }
end Go.Sx

namespace Go.Sx
open Go Go.RowKit
def b8 (n : Int) : UInt8 := UInt8.ofNat (n % 256).toNat
def s2 (l : List UInt8) : ByteArray := ⟨l.toArray⟩
def sb (s : ByteArray) (k : Nat) : UInt8 := s.data.getD k 0
section
variable {P : Program} {c : Ctx} {N : Nat} {s : Slots} {fs : List Fact} {os os1 os' : List Own}
variable {d : Option Tmp} {ty : TypeId} {pos : String} {af : Array Edge} {gd : Option (Nat × Bool)}
theorem p_i8 {t u : TypeId} {x : Operand} {b : UInt8} (ht : P.underlying t = some (.int .u8)) (hu : P.underlying u = some (.int .i64)) (hx : ev s x = some (.int .u8 (b.toNat : Int))) : Pu P N s ⟨d, .convert t u x, ty, pos, af, gd⟩ (.int .i64 (b.toNat : Int)) := fun a w hs => by
 have h1 := b.toNat_lt
 have := IntWalk.i64_in (b.toNat : Int) (by constructor <;> omega)
 simp [execOp, hs.ev hx, convert, run_underlying ht, run_underlying hu, Conv.intToInt, this]
theorem p_slen {t : TypeId} {x : Operand} {b : ByteArray} (hu : P.underlying t = some .string) (hx : ev s x = some (.string b)) :
  Pu P N s ⟨d, .call { callee := .builtin .len, args := #[x], argTypes := #[t] }, ty, pos, af, gd⟩ (.int .i64 (b.size : Int)) := fun a w hs => by
 simp [execOp, resolve, invoke, builtin, hs.ev hx, Builtin.len_, run_underlying hu, goInt]
theorem p_cat {t t' : TypeId} {x y : Operand} {m n : ByteArray} (hx : ev s x = some (.string m)) (hy : ev s y = some (.string n)) (h : room (m.size + n.size)) : Pu P N s ⟨d, .binOp .add t x y t', ty, pos, af, gd⟩ (.string (m ++ n)) :=
 p_bin hx hy fun w => by
  have h1 : m.size + n.size ≤ 1073741824 := h
  have : ¬ ((m.size + n.size : Nat) : Int) > IntKind.i64.max := by simp [IntKind.max, IntKind.bits, IntKind.signed]; omega
  simp only [eqGuard, binOp, Op.stringOp, this, if_false]
  rfl
theorem seq_dec (m n : ByteArray) : (m.toList == n.toList) = decide (m = n) := by
 rw [ByteArray.toList_eq, ByteArray.toList_eq, Bool.eq_iff_iff]
 simp only [beq_iff_eq, decide_eq_true_eq]
 exact ⟨WideShapes.bytes_inj, fun h => by rw [h]⟩
theorem p_seql {t t' : TypeId} {x y : Operand} {m n : ByteArray} (hx : ev s x = some (.string m)) (hy : ev s y = some (.string n)) : Pu P N s ⟨d, .binOp .eql t x y t', ty, pos, af, gd⟩ (.bool (decide (m = n))) :=
 p_bin hx hy fun w => by
  rw [← seq_dec]
  simp only [eqGuard, binOp, Op.stringOp]
  rfl
theorem p_sneq {t t' : TypeId} {x y : Operand} {m n : ByteArray} (hx : ev s x = some (.string m)) (hy : ev s y = some (.string n)) : Pu P N s ⟨d, .binOp .neq t x y t', ty, pos, af, gd⟩ (.bool (!decide (m = n))) :=
 p_bin hx hy fun w => by
  rw [← seq_dec]
  simp only [eqGuard, binOp, Op.stringOp]
  rfl
def sless (m n : ByteArray) : Bool := Op.bytesLess m.toList n.toList
theorem p_slss {t t' : TypeId} {x y : Operand} {m n : ByteArray} (hx : ev s x = some (.string m)) (hy : ev s y = some (.string n)) : Pu P N s ⟨d, .binOp .lss t x y t', ty, pos, af, gd⟩ (.bool (sless m n)) :=
 p_bin hx hy fun w => by simp only [eqGuard, binOp, Op.stringOp]; rfl
theorem p_sgtr {t t' : TypeId} {x y : Operand} {m n : ByteArray} (hx : ev s x = some (.string m)) (hy : ev s y = some (.string n)) : Pu P N s ⟨d, .binOp .gtr t x y t', ty, pos, af, gd⟩ (.bool (!(sless m n || decide (m = n)))) :=
 p_bin hx hy fun w => by rw [← seq_dec]; simp only [eqGuard, binOp, Op.stringOp]; rfl
theorem p_sleq {t t' : TypeId} {x y : Operand} {m n : ByteArray} (hx : ev s x = some (.string m)) (hy : ev s y = some (.string n)) : Pu P N s ⟨d, .binOp .leq t x y t', ty, pos, af, gd⟩ (.bool (sless m n || decide (m = n))) :=
 p_bin hx hy fun w => by rw [← seq_dec]; simp only [eqGuard, binOp, Op.stringOp]; rfl
theorem p_sgeq {t t' : TypeId} {x y : Operand} {m n : ByteArray} (hx : ev s x = some (.string m)) (hy : ev s y = some (.string n)) : Pu P N s ⟨d, .binOp .geq t x y t', ty, pos, af, gd⟩ (.bool (!sless m n)) :=
 p_bin hx hy fun w => by simp only [eqGuard, binOp, Op.stringOp]; rfl
theorem p_six {t : TypeId} {x y : Operand} {m : ByteArray} {i : Int} (hu : P.underlying t = some .string) (hx : ev s x = some (.string m)) (hy : ev s y = some (.int .i64 i)) (h : ix i m.size) : Pu P N s ⟨d, .index t x y, ty, pos, af, gd⟩ (.int .u8 ((sb m i.toNat).toNat : Int)) := fun a w hs => by
 have h1 : 0 ≤ i := h.1
 have h2 := h.lt
 have h3 : m[i.toNat]? = some (sb m i.toNat) := by
  unfold sb
  rw [getElem?_pos m i.toNat h2, Array.getD_eq_getD_getElem?, Array.getElem?_eq_getElem (by exact h2)]
  rfl
 simp [execOp, hs.ev hx, hs.ev hy, Instr.index, asIntOf, run_underlying hu, h1, h3]
theorem q_b2sL {t u e : TypeId} {x : Operand} {g : Nat} {bt : TypeId} {cs : List Value} (l : List UInt8) (ht : P.underlying t = some (.slice e)) (he : P.underlying e = some (.int .u8)) (hu : P.underlying u = some .string) (hx : ev s x = some (.slice (some ⟨g, 0, none⟩) l.length l.length))
  (hb : Has os (box g bt cs)) (hc : cs = l.map fun b => .int .u8 (b.toNat : Int)) : Qo P c fs os N s ⟨d, .convert t u x, ty, pos, af, gd⟩ (.string (s2 l)) := qo_of fun a w I S hs hst => by
 obtain ⟨S1, _, _, hh⟩ := Sep.has hb hst.own
 have := run_convert_bytes_back (P := P) w t u e ⟨g, 0, none⟩ l.length l ht he hu (fun j hj => by
  rw [Addr.add_lit, cell_of_row w g _ _ bt (0, 0) hh]
  simp [hc, hj])
 simp [execOp, hs.ev hx, this, s2]
end
end Go.Sx

namespace Go.Sx
open Go Go.RowKit
def nn (i : Int) : Prop := 0 ≤ i ∧ i < 4611686018427387904
instance (i : Int) : Decidable (nn i) := by unfold nn; infer_instance
def xr (m n : Int) : Int := ((m.toNat ^^^ n.toNat : Nat) : Int)
def subA (oa : Option Addr) (cap lo sz : Nat) : Option Addr := if cap = lo then oa else oa.map (·.add (lo * sz))
def sl2 (lo hi : Int) (n : Nat) : Prop := 0 ≤ lo ∧ lo ≤ hi ∧ hi ≤ (n : Int)
instance (lo hi : Int) (n : Nat) : Decidable (sl2 lo hi n) := by unfold sl2; infer_instance
section
variable {P : Program} {c : Ctx} {N : Nat} {s : Slots} {fs : List Fact} {os os1 os' : List Own} {Q : Exit → Act → World → Prop} {code : Code}
variable {d : Option Tmp} {ty : TypeId} {pos : String} {af : Array Edge} {gd : Option (Nat × Bool)}
theorem xr_run (m n : Nat) (hm : m < 4611686018427387904) (hn : n < 4611686018427387904) (w : World) : (Op.intBits .xor .i64 (m : Int) (n : Int)).run P w = .ok (.int .i64 ((m ^^^ n : Nat) : Int)) w := by
 have h : m ^^^ n < 2 ^ 62 := Nat.xor_lt_two_pow hm hn
 have hw := IntWalk.i64_in ((m ^^^ n : Nat) : Int) (by constructor <;> omega)
 have hx : (BitVec.ofInt 64 (m : Int) ^^^ BitVec.ofInt 64 (n : Int)).toNat = m ^^^ n := by
  rw [BitVec.toNat_xor, BitVec.ofInt_natCast, BitVec.ofInt_natCast, BitVec.toNat_ofNat, BitVec.toNat_ofNat, Nat.mod_eq_of_lt (by omega), Nat.mod_eq_of_lt (by omega)]
 show (pure (.int .i64 (IntKind.i64.wrap (BitVec.ofInt 64 (m : Int) ^^^ BitVec.ofInt 64 (n : Int)).toNat)) : Sem Value).run P w = _
 rw [hx, hw]
 rfl
theorem p_xor {t t' : TypeId} {x y : Operand} {m n : Int} (hx : ev s x = some (.int .i64 m)) (hy : ev s y = some (.int .i64 n)) (h1 : nn m) (h2 : nn n) : Pu P N s ⟨d, .binOp .xor t x y t', ty, pos, af, gd⟩ (.int .i64 (xr m n)) :=
 p_bin hx hy fun w => by
  have e1 : m = (m.toNat : Int) := by unfold nn at h1; omega
  have e2 : n = (n.toNat : Int) := by unfold nn at h2; omega
  have := xr_run (P := P) m.toNat n.toNat (by unfold nn at h1; omega) (by unfold nn at h2; omega) w
  rw [← e1, ← e2] at this
  simp only [eqGuard, binOp]
  exact this
theorem RdL.sub {α : Type} [Enc α] {w : World} {S : Blks} {oa : Option Addr} {n cap : Nat} {l : List α} (h : RdL w S (.slice oa n cap) l) {lo hi : Nat} (h1 : lo ≤ hi) (h2 : hi ≤ l.length) :
  RdL w S (.slice (subA oa cap lo (Enc.sz α)) ((l.take hi).drop lo).length (cap - lo)) ((l.take hi).drop lo) := by
 obtain ⟨oa', cap', e, k1, k2, k3⟩ := h
 cases e
 have hlen : ((l.take hi).drop lo).length = hi - lo := by simp; omega
 refine ⟨_, _, rfl, by rw [hlen]; omega, by omega, fun i hi' => ?_⟩
 rw [hlen] at hi'
 obtain ⟨ad, es, e1, e2, e3, e4⟩ := k3 (lo + i) (by omega)
 refine ⟨ad.add (lo * Enc.sz α), es, ?_, by rw [block_add]; exact e2, ?_, ?_⟩
 ·unfold subA
  rw [if_neg (by omega), e1]
  rfl
 ·rw [add_add, ← Nat.add_mul]; exact e3
 ·have : ((l.take hi).drop lo)[i]'(by rw [hlen]; exact hi') = l[lo + i]'(by omega) := by simp
  rw [this]; exact e4
theorem Ent.sub {α : Type} [Enc α] {oa : Option Addr} {n cap : Nat} {l : List α} (h : Ent fs (imm (.slice oa n cap) l)) {lo hi : Nat} (h1 : lo ≤ hi) (h2 : hi ≤ l.length) :
  Ent fs (imm (.slice (subA oa cap lo (Enc.sz α)) ((l.take hi).drop lo).length (cap - lo)) ((l.take hi).drop lo)) := fun w I hf => RdL.sub (h w I hf) h1 h2
theorem sl2.le {lo hi : Int} {n : Nat} (h : sl2 lo hi n) : lo.toNat ≤ hi.toNat := by unfold sl2 at h; omega
theorem sl2.lt {lo hi : Int} {n : Nat} (h : sl2 lo hi n) : hi.toNat ≤ n := by unfold sl2 at h; omega
theorem q_slF {x : Operand} {t e : TypeId} {ag : Bool} {z : Value} {by_ : Nat} {α : Type} [Enc α] {oa : Option Addr} {n cap : Nat} {l : List α} {lo hi : Option Operand} (a b : Int) (hu : P.underlying t = some (.slice e)) (ht : TyI P e ag (Enc.sz α) z by_)
  (hx : ev s x = some (.slice oa n cap)) (hlo : lo.map (ev s) = (if lo.isSome then some (some (.int .i64 a)) else none)) (ha : lo = none → a = 0) (hhi : hi.map (ev s) = (if hi.isSome then some (some (.int .i64 b)) else none)) (hb : hi = none → b = (l.length : Int)) (h : sl2 a b l.length) (he : EntB fs os (imm (.slice oa n cap) l)) :
  Qo P c fs os N s ⟨d, .slice t x lo hi none, ty, pos, af, gd⟩ (.slice (subA oa cap a.toNat (Enc.sz α)) ((l.take b.toNat).drop a.toNat).length (cap - a.toNat)) := qo_of fun w0 w I S hs hst => by
 have hr : RdL w (fun b => I b ∨ S b) (.slice oa n cap) l := he w I S hst.facts hst.own
 obtain ⟨oa', cap', e', h1, h2, _⟩ := hr
 cases e'
 obtain ⟨a, rfl⟩ := Int.eq_ofNat_of_zero_le (show 0 ≤ a by unfold sl2 at h; omega)
 obtain ⟨b, rfl⟩ := Int.eq_ofNat_of_zero_le (show 0 ≤ b by unfold sl2 at h; omega)
 have hab : a ≤ b ∧ b ≤ l.length := by unfold sl2 at h; omega
 have hbc : b ≤ cap := by omega
 have hlen : ((l.take b).drop a).length = b - a := by simp; omega
 simp only [Int.toNat_natCast]
 rw [hlen]
 have elo : (lo.map w0.eval) = lo.map fun _ => Value.int .i64 (a : Int) := by
  cases lo with
  | none => rfl
  | some y => simp at hlo ⊢; exact hs.ev hlo
 have ehi : (hi.map w0.eval) = hi.map fun _ => Value.int .i64 (b : Int) := by
  cases hi with
  | none => rfl
  | some y => simp at hhi ⊢; exact hs.ev hhi
 simp only [execOp, hs.ev hx]
 rw [elo, ehi]
 have hA : (0 : Int) ≤ (a : Int) ∧ (a : Int) ≤ (b : Int) := by omega
 have hB : (0 : Int) ≤ (b : Int) ∧ (b : Int) ≤ (cap : Int) := by omega
 cases lo with
 | none =>
  have := ha rfl
  have ha0 : a = 0 := by omega
  subst ha0
  cases hi with
  | none =>
   have hb0 : b = l.length := by have := hb rfl; omega
   subst hb0
   simp [Instr.sliceAt, Instr.slice, run_underlying hu, Instr.sliceBounds, ht.sizeOf, subA]
  | some y => simp [Instr.sliceAt, Instr.slice, run_underlying hu, Instr.sliceBounds, Instr.sliceBound, asIntOf, ht.sizeOf, hbc, subA]
 | some y =>
  cases hi with
  | none =>
   have hb0 : b = l.length := by have := hb rfl; omega
   subst hb0
   simp [Instr.sliceAt, Instr.slice, run_underlying hu, Instr.sliceBounds, Instr.sliceBound, asIntOf, ht.sizeOf, hab.1, subA]
  | some y => simp [Instr.sliceAt, Instr.slice, run_underlying hu, Instr.sliceBounds, Instr.sliceBound, asIntOf, ht.sizeOf, hbc, hab.1, subA]
theorem flatMap_part {α : Type} (f : α → List Value) (n : Nat) (hf : ∀ x, (f x).length = n) : ∀ (l : List α) (i : Nat) (h : i < l.length), ((l.flatMap f).drop (i * n)).take n = f l[i]
 | x :: l, 0, _ => by simp [← hf x]
 | x :: l, i + 1, h => by
  have ih := flatMap_part f n hf l i (by simpa using h)
  rw [List.flatMap_cons, Nat.add_mul, Nat.one_mul, Nat.add_comm, ← List.drop_drop, ← hf x, List.drop_left, hf x, ih]
  rfl
theorem flatMap_len {α : Type} (f : α → List Value) (n : Nat) (hf : ∀ x, (f x).length = n) : ∀ (l : List α), (l.flatMap f).length = l.length * n
 | [] => by simp
 | x :: l => by rw [List.flatMap_cons, List.length_append, hf x, flatMap_len f n hf l, List.length_cons, Nat.add_mul]; omega
theorem e_litT {t e : TypeId} {ag : Bool} {z : Value} {by_ : Nat} {α : Type} [Flat α] {parts : List (Nat × Operand)} {vs : List (Nat × Value)} {m : Nat} (l : List α) (hm : m = l.length) (hl : ∀ x : α, (Flat.enc x).length = Enc.sz α) (hw : ∀ x ∈ l, Flat.wf x) (hu : P.underlying t = some (.slice e)) (ht : TyI P e ag (Enc.sz α) z by_)
  (hp : parts.map (fun p => (p.1, ev s p.2)) = vs.map (fun p => (p.1, some p.2))) (h0 : m * Enc.sz α ≠ 0) (hb : m * Enc.sz α ≤ 16777216)
  (hf : Instr.fill (fun i => some (i * Enc.sz α, Enc.sz α)) ((Array.range (m * Enc.sz α)).map (fun j => z.cells[j % z.cells.size]!)) vs = some (l.flatMap Flat.enc).toArray) :
  Eo P c fs os N s ⟨d, .buildSlice t m parts.toArray, ty, pos, af, gd⟩ (fun v fs' os' => ∃ oa cp, v = .slice oa l.length cp ∧ fs' = fs ∧ os' = tree (.slice oa l.length cp) l :: os) := Ex.mk fun a w hs hw' => by
 refine ((e_lit (fs := fs) (os := os) (l.flatMap Flat.enc) hu ht hp h0 hb hf).go a w hs hw').mono ?_
 rintro v w' ⟨_, _, ⟨g, rfl, rfl, rfl⟩, h⟩
 subst hm
 refine ⟨_, _, ⟨some ⟨g, 0, none⟩, l.length, rfl, rfl, rfl⟩, ?_⟩
 refine h.upd (o' := tree (.slice (some ⟨g, 0, none⟩) l.length l.length) l) .here fun I S S1 hst m1 ⟨hg, hh⟩ => ?_
 refine ⟨S1, fun b => .inl, ?_, fun _ _ _ => rfl, Nat.le_refl _, rfl, ⟨rfl, by first | exact Nat.le_refl _ | exact Nat.le_succ _⟩, rfl⟩
 have hlm : l.length ≤ maxLen := by
  have := Enc.pos (α := α)
  have h1 : l.length * 1 ≤ l.length * Enc.sz α := Nat.mul_le_mul_left _ this
  have : l.length ≤ 16777216 := by omega
  exact Nat.le_trans this (by decide)
 refine .inr ⟨g, l.length, _, e, rfl, hg, hh, Nat.le_refl _, hlm, by simp [flatMap_len _ _ hl], fun _ _ => False, fun _ _ _ h => h.elim, fun _ _ _ _ _ h => h.elim, fun i hi => ?_⟩
 have := flatMap_part (Flat.enc (α := α)) (Enc.sz α) hl l i hi
 show Enc.Tr _ _ (((l.flatMap Flat.enc).toArray.toList.drop (i * Enc.sz α)).take (Enc.sz α)) _
 rw [show (l.flatMap Flat.enc).toArray.toList = l.flatMap Flat.enc from rfl, this]
 exact Flat.tr (hw _ (List.getElem_mem hi))
structure AEq (P : Program) (t : TypeId) (α : Type) [Flat α] [DecidableEq α] : Prop where
  gd : P.eqGuardType P.depth t = false
  go : ∀ (d : Nat) (a b : α) (w : World), (Op.equalIn (d + 3) t (.agg (Flat.enc a).toArray) (.agg (Flat.enc b).toArray)).run P w = .ok (decide (a = b)) w
theorem p_aeql {t t' : TypeId} {α : Type} [Flat α] [DecidableEq α] {x y : Operand} {a b : α} {va vb : Array Value} (h : AEq P t α) (hx : ev s x = some (.agg va)) (hy : ev s y = some (.agg vb)) (ea : va = (Flat.enc a).toArray) (eb : vb = (Flat.enc b).toArray) : Pu P N s ⟨d, .binOp .eql t x y t', ty, pos, af, gd⟩ (.bool (decide (a = b))) :=
 p_bin hx hy fun w => by
  subst ea eb
  rw [Sem.run_bind, run_eqGuard_agg w .eql t x y _ _ h.gd, Result.andThen_ok, run_eql_struct, h.go 9997 a b w]
  rfl
theorem p_aneq {t t' : TypeId} {α : Type} [Flat α] [DecidableEq α] {x y : Operand} {a b : α} {va vb : Array Value} (h : AEq P t α) (hx : ev s x = some (.agg va)) (hy : ev s y = some (.agg vb)) (ea : va = (Flat.enc a).toArray) (eb : vb = (Flat.enc b).toArray) : Pu P N s ⟨d, .binOp .neq t x y t', ty, pos, af, gd⟩ (.bool (!decide (a = b))) :=
 p_bin hx hy fun w => by
  subst ea eb
  rw [Sem.run_bind, run_eqGuard_agg w .neq t x y _ _ h.gd, Result.andThen_ok, run_neq_struct, h.go 9997 a b w]
  rfl
end
end Go.Sx

namespace Go.Sx
open Go Go.RowKit
section
variable {P : Program} {c : Ctx} {N : Nat} {s : Slots} {fs : List Fact} {os os1 os' : List Own} {Q : Exit → Act → World → Prop} {code : Code}
variable {d : Option Tmp} {ty : TypeId} {pos : String} {af : Array Edge} {gd : Option (Nat × Bool)}
theorem RowL.append {α : Type} [Enc α] {w w' : World} {I S : Blks} {v v' : Value} {l k : List α} {olds news : List Value} (h : (row v l).ok w I S)
  (holds : olds.length = l.length * Enc.sz α)
  (hold : (v = .slice none 0 0 ∧ olds = []) ∨ ∃ g cap cur bt, Ra w v l.length (Enc.sz α) g cap cur bt ∧ olds = cur.toList.take (l.length * Enc.sz α))
  (hIlt : ∀ b, I b → b < w.heap.size) (hIS : ∀ b, I b → S b → False)
  (hel : ∀ i (hi : i < k.length), Enc.Rd w I ((news.drop (i * Enc.sz α)).take (Enc.sz α)) k[i])
  {g' cap' : Nat} {cur' : Array Value} {bt' : TypeId} (hra : Ra w' v' (l.length + k.length) (Enc.sz α) g' cap' cur' bt') (hcur : cur'.toList.take ((l.length + k.length) * Enc.sz α) = olds ++ news)
  (hsame : ∀ b, b < w.heap.size → b ≠ g' → w'.heap[b]? = w.heap[b]?) (hg : (∃ cap cur bt, Ra w v l.length (Enc.sz α) g' cap cur bt) ∨ g' = w.heap.size) :
  (row v' (l ++ k)).ok w' I (fun b => S b ∨ b = g') := by
 have hIg : ∀ b, I b → b ≠ g' := fun b hb e => by
  subst e
  rcases hg with ⟨cap, cur, bt, hr⟩ | h'
  ·rcases h with ⟨rfl, _⟩ | ⟨g, _, _, _, e, hgS, _⟩
   ·have := hr.v; injection this with h; cases h
   ·have := hr.v
    rw [e] at this
    injection this with h1
    injection h1 with h1
    have h1 : g = b := congrArg Addr.block h1
    subst h1
    exact hIS _ hb hgS
  ·have := hIlt _ hb; omega
 have hsI : Same I w w' := fun b hb => hsame b (hIlt b hb) (hIg b hb)
 have hels : ∀ i (hi : i < l.length), Enc.Rd w I ((olds.drop (i * Enc.sz α)).take (Enc.sz α)) l[i] := fun i hi => by
  rcases h with ⟨_, rfl⟩ | ⟨g, cap, cur, ty, e, hgS, hh, h1, h2, h3, h4⟩
  ·exact absurd hi (Nat.not_lt_zero _)
  ·rcases hold with ⟨e', _⟩ | ⟨g2, cap2, cur2, bt2, hr, ho⟩
   ·rw [e] at e'
    injection e' with e'
    cases e'
   ·have hv2 := hr.v
    rw [e] at hv2
    injection hv2 with hv2
    injection hv2 with hv2
    have hgeq : g = g2 := congrArg Addr.block hv2
    subst hgeq
    have hh2 := hr.heap
    rw [hh] at hh2
    cases hh2
    rw [ho, List.drop_take, List.take_take]
    have hle : i * Enc.sz α + Enc.sz α ≤ l.length * Enc.sz α := by
     have := Nat.mul_le_mul_right (Enc.sz α) (show i + 1 ≤ l.length by omega)
     rw [Nat.add_mul] at this
     omega
    rw [Nat.min_eq_left (by omega)]
    exact h4 i hi
 refine .inr ⟨g', cap', cur', bt', by rw [hra.v, List.length_append], .inr rfl, hra.heap, by rw [List.length_append]; exact hra.le, hra.max, hra.size, fun i hi => ?_⟩
 rw [List.length_append] at hi
 rw [take_drop_append hcur holds hi]
 split
 ·rename_i hlt
  rw [List.getElem_append_left hlt]
  exact Enc.keep (hels i hlt) hsI (fun _ h => h)
 ·rename_i hge
  rw [List.getElem_append_right (by omega)]
  exact Enc.keep (hel _ (by omega)) hsI (fun _ h => h)
theorem RowL.olds {α : Type} [Enc α] {w : World} {I S : Blks} {v : Value} {l : List α} (h : (row v l).ok w I S) :
  ∃ olds : List Value, olds.length = l.length * Enc.sz α ∧ ((v = .slice none 0 0 ∧ l.length = 0 ∧ olds = []) ∨ ∃ g cap cur bt, Ra w v l.length (Enc.sz α) g cap cur bt ∧ olds = cur.toList.take (l.length * Enc.sz α)) ∧
   ∀ g', (∃ cap cur bt, Ra w v l.length (Enc.sz α) g' cap cur bt) → S g' := by
 rcases h with ⟨rfl, rfl⟩ | ⟨g, cap, cur, ty, e, hg, hh, h1, h2, h3, h4⟩
 ·exact ⟨[], by simp, .inl ⟨rfl, rfl, rfl⟩, fun g' ⟨_, _, _, hr⟩ => by have := hr.v; injection this with h; cases h⟩
 ·refine ⟨cur.toList.take (l.length * Enc.sz α), ?_, .inr ⟨g, cap, cur, ty, ⟨e, hh, h1, h2, h3⟩, rfl⟩, fun g' ⟨_, _, _, hr⟩ => ?_⟩
  ·have hc : cur.toList.length = cap * Enc.sz α := by rw [Array.length_toList, h3]
   rw [List.length_take, hc]
   exact Nat.min_eq_left (Nat.mul_le_mul_right _ h1)
  ·have := hr.v
   rw [e] at this
   injection this with h1
   injection h1 with h1
   have h1 : g = g' := congrArg Addr.block h1
   exact h1 ▸ hg
theorem RowL.rd {α : Type} [Enc α] {w : World} {I S : Blks} {v : Value} {l : List α} (h : (row v l).ok w I S) : RdL w (fun b => I b ∨ S b) v l := by
 rcases h with ⟨rfl, rfl⟩ | ⟨g, cap, cur, ty, e, hg, hh, h1, h2, h3, h4⟩
 ·exact ⟨none, 0, rfl, Nat.le_refl _, by simp [maxLen], fun i hi => absurd hi (Nat.not_lt_zero _)⟩
 ·exact ⟨_, cap, e, h1, h2, fun i hi => ⟨_, _, rfl, .inr hg, cellsAt_row hh _ _, Enc.keep (h4 i hi) (Same.refl _ _) (fun b => .inl)⟩⟩
theorem e_appRw {t e : TypeId} {ag : Bool} {z : Value} {by_ : Nat} {α : Type} [Enc α] {x y : Operand} {oa ob : Option Addr} {n m cp c2 : Nat} {l : List α} {es : List Own} (k : List α) (hu : P.underlying t = some (.slice e)) (ht : TyI P e ag (Enc.sz α) z by_)
  (hx : ev s x = some (.slice oa n cp)) (hy : ev s y = some (.slice ob m c2)) (hb : (l.length + k.length) * by_ ≤ 140737488355328) (h63 : l.length + k.length ≤ 9223372036854775807)
  (htk : Take os (row (.slice oa n cp) l :: es) os1)
  (hsrc : ∀ w I S T, St c fs os w I S → Sep es w I T → m = k.length ∧ ∃ news : List Value, news.length = m * Enc.sz α ∧ (0 < m → ∃ ad, ob = some ad ∧ CellsAt w ad news) ∧ (∀ u ∈ news, u.oneCell' = true) ∧
   ∀ i (hi : i < k.length), Enc.Rd w I ((news.drop (i * Enc.sz α)).take (Enc.sz α)) k[i]) :
  Eo P c fs os N s ⟨d, .call { callee := .builtin .append, args := #[x, y], argTypes := #[t, t] }, ty, pos, af, gd⟩ (fun v fs' os' => ∃ oa' cp', v = .slice oa' (l ++ k).length cp' ∧ fs' = fs ∧ os' = row (.slice oa' (l ++ k).length cp') (l ++ k) :: os1) := Ex.mk fun a w hs hw => by
 obtain ⟨I, S, hst⟩ := id hw
 obtain ⟨S1, S2, m1, m2, dj, ⟨A, B, mA, mB, dAB, ho, hr⟩, hr2⟩ := htk.sep hst.own
 obtain ⟨hm, news, hnl, hnc, hn1, hts⟩ := hsrc w I S B hst hr
 obtain ⟨i, hi, hiz, hin, hib⟩ := ht.info'
 obtain ⟨olds, hol, hold, hown⟩ := RowL.olds ho
 have hn : n = l.length := by
  obtain ⟨_, _, e, _⟩ := RowL.rd ho
  injection e
 subst hn
 obtain ⟨v', w', hrun, e1, e2, e3, hsz, hcase⟩ := run_append_raw (P := P) w t ty e i z hu hi hiz (by rw [hin]; exact ht.zn) (by rw [hin]; exact Enc.pos) (.slice oa l.length cp) l.length olds (by rw [hin]; exact hold) ob m c2 news (by rw [hin]; exact hnl) hnc hn1 (by rw [hib, hm]; exact hb) (by rw [hm]; exact h63)
 rw [run_app hs hx hy hrun]
 rw [hin] at hcase
 have key : ∃ S1' : Blks, (∀ b, S1' b → S1 b ∨ (w.heap.size ≤ b ∧ b < w'.heap.size)) ∧ (row v' (l ++ k)).ok w' I S1' ∧ (∀ b, b < w.heap.size → ¬ S1 b → w'.heap[b]? = w.heap[b]?) := by
  rcases hcase with ⟨h0, rfl, rfl⟩ | ⟨h0, g', cap', cur', bt', hra, hcur, hglt, hsame, hg⟩
  ·refine ⟨A, fun b hb => .inl (mA b hb), ?_, fun _ _ _ => rfl⟩
   have hk : k = [] := List.eq_nil_of_length_eq_zero (by omega)
   rw [hk, List.append_nil]
   exact ho
  ·subst hm
   refine ⟨fun b => A b ∨ b = g', fun b hb => ?_, RowL.append ho hol (hold.imp (fun h => ⟨h.1, h.2.2⟩) id) hst.ilt (fun b hi ha => hst.dj b hi (m1 b (mA b ha))) hts hra hcur hsame hg, fun b hb hn => hsame b hb fun e => ?_⟩
   ·rcases hb with hb | rfl
    ·exact .inl (mA b hb)
    ·rcases hg with hg | hg
     ·exact .inl (mA _ (hown _ hg))
     ·exact .inr ⟨by omega, hglt⟩
   ·subst e
    rcases hg with hg | hg
    ·exact hn (mA _ (hown _ hg))
    ·omega
 obtain ⟨S1', k1, k2, k3⟩ := key
 have hv : ∃ oa' cp', v' = .slice oa' (l ++ k).length cp' := by
  obtain ⟨oa', cp', e, _⟩ := RowL.rd k2
  exact ⟨oa', cp', e⟩
 obtain ⟨oa', cp', rfl⟩ := hv
 exact ⟨fs, _, ⟨oa', cp', rfl, rfl, rfl⟩, hst.put_ (r' := [row (.slice oa' (l ++ k).length cp') (l ++ k)]) m1 m2 dj hr2 k1 ⟨S1', fun _ => False, fun _ h => h, fun _ h => h.elim, fun _ _ h => h, k2, trivial⟩ k3 hsz e1 e2 e3⟩
theorem e_appR {t e : TypeId} {ag : Bool} {z : Value} {by_ : Nat} {α : Type} [Enc α] {x y : Operand} {oa ob : Option Addr} {n m cp c2 : Nat} {l k : List α} (hu : P.underlying t = some (.slice e)) (ht : TyI P e ag (Enc.sz α) z by_)
  (hx : ev s x = some (.slice oa n cp)) (hy : ev s y = some (.slice ob m c2)) (hb : (l.length + k.length) * by_ ≤ 140737488355328) (h63 : l.length + k.length ≤ 9223372036854775807)
  (htk : Take os [row (.slice oa n cp) l] os1) (hk : Ent fs (imm (.slice ob m c2) k)) :
  Eo P c fs os N s ⟨d, .call { callee := .builtin .append, args := #[x, y], argTypes := #[t, t] }, ty, pos, af, gd⟩ (fun v fs' os' => ∃ oa' cp', v = .slice oa' (l ++ k).length cp' ∧ fs' = fs ∧ os' = row (.slice oa' (l ++ k).length cp') (l ++ k) :: os1) :=
 e_appRw k hu ht hx hy hb h63 htk (by
  intro w I S T hst _
  have h : RdL w I (.slice ob m c2) k := hk w I hst.facts
  obtain ⟨hm, news, hl, hc, h1, hr⟩ := h.cells
  exact ⟨hm, news, hl, hc, h1, hr⟩)
theorem e_app1R {t e : TypeId} {ag : Bool} {z : Value} {by_ : Nat} {α : Type} [ShpT α] {x y : Operand} {oa : Option Addr} {n cp g : Nat} {bt : TypeId} {cs : List Value} {l : List α} (u : α) (X : Shp.γ α) (hu : P.underlying t = some (.slice e)) (ht : TyI P e ag (Enc.sz α) z by_)
  (hx : ev s x = some (.slice oa n cp)) (hy : ev s y = some (.slice (some ⟨g, 0, none⟩) 1 1)) (hb : (l.length + 1) * by_ ≤ 140737488355328) (h63 : l.length + 1 ≤ 9223372036854775807) (hcs : cs = Shp.enc u X)
  (htk : Take os [row (.slice oa n cp) l, box g bt cs] os1) (hf : Ents fs (ShpT.facts u X)) :
  Eo P c fs os N s ⟨d, .call { callee := .builtin .append, args := #[x, y], argTypes := #[t, t] }, ty, pos, af, gd⟩ (fun v fs' os' => ∃ oa' cp', v = .slice oa' (l ++ [u]).length cp' ∧ fs' = fs ∧ os' = row (.slice oa' (l ++ [u]).length cp') (l ++ [u]) :: os1) :=
 e_appRw [u] hu ht hx hy hb h63 htk (by
  rintro w I S T hst ⟨S1, S2, m1, m2, dj, ⟨hg, hh⟩, hr⟩
  have htr : Enc.Rd w I (Shp.enc u X) u := ShpT.mkR (ShpT.wfa u) fun f h => hf f h w I hst.facts
  refine ⟨rfl, cs, by rw [hcs, Shp.len', Nat.one_mul], fun _ => ⟨_, rfl, fun j q hq => ?_⟩, by rw [hcs]; exact Enc.one htr, fun i hi => ?_⟩
  ·rw [Addr.add_lit, cell_of_row w g _ _ bt (0, 0) hh]
   simpa using hq
  ·simp at hi
   subst hi
   have : ((cs.drop (0 * Enc.sz α)).take (Enc.sz α)) = Shp.enc u X := by rw [Nat.zero_mul, List.drop_zero, hcs, ← Shp.len' u X, List.take_length]
   rw [this]
   exact htr)
theorem n_appR {t e : TypeId} {ag : Bool} {z : Value} {by_ : Nat} {α : Type} [Enc α] {x y : Operand} {oa ob : Option Addr} {n m cp c2 : Nat} {l k : List α} (hu : P.underlying t = some (.slice e)) (ht : TyI P e ag (Enc.sz α) z by_)
  (hx : ev s x = some (.slice oa n cp)) (hy : ev s y = some (.slice ob m c2)) (hb : (l.length + k.length) * by_ ≤ 140737488355328) (h63 : l.length + k.length ≤ 9223372036854775807)
  (htk : Take os [row (.slice oa n cp) l] os1) (hk : Ent fs (imm (.slice ob m c2) k)) :
  EF P c fs os N s ⟨d, .call { callee := .builtin .append, args := #[x, y], argTypes := #[t, t] }, ty, pos, af, gd⟩ (fun v fs' os' => ∃ oa' cp', v = .slice oa' (l ++ k).length cp' ∧ fs' = fs ∧ os' = row (.slice oa' (l ++ k).length cp') (l ++ k) :: os1) := fun F =>
 (e_appR (fs := fs) hu ht hx hy hb h63 (htk.app F) hk).weak fun _ _ ⟨_, _, ⟨oa', cp', e1, e2, e3⟩, h⟩ => ⟨_, _, ⟨oa', cp', e1, e2, rfl⟩, by rw [List.cons_append, ← e3]; exact h⟩
theorem n_app1R {t e : TypeId} {ag : Bool} {z : Value} {by_ : Nat} {α : Type} [ShpT α] {x y : Operand} {oa : Option Addr} {n cp g : Nat} {bt : TypeId} {cs : List Value} {l : List α} (u : α) (X : Shp.γ α) (hu : P.underlying t = some (.slice e)) (ht : TyI P e ag (Enc.sz α) z by_)
  (hx : ev s x = some (.slice oa n cp)) (hy : ev s y = some (.slice (some ⟨g, 0, none⟩) 1 1)) (hb : (l.length + 1) * by_ ≤ 140737488355328) (h63 : l.length + 1 ≤ 9223372036854775807) (hcs : cs = Shp.enc u X)
  (htk : Take os [row (.slice oa n cp) l, box g bt cs] os1) (hf : Ents fs (ShpT.facts u X)) :
  EF P c fs os N s ⟨d, .call { callee := .builtin .append, args := #[x, y], argTypes := #[t, t] }, ty, pos, af, gd⟩ (fun v fs' os' => ∃ oa' cp', v = .slice oa' (l ++ [u]).length cp' ∧ fs' = fs ∧ os' = row (.slice oa' (l ++ [u]).length cp') (l ++ [u]) :: os1) := fun F =>
 (e_app1R (fs := fs) u X hu ht hx hy hb h63 hcs (htk.app F) hf).weak fun _ _ ⟨_, _, ⟨oa', cp', e1, e2, e3⟩, h⟩ => ⟨_, _, ⟨oa', cp', e1, e2, rfl⟩, by rw [List.cons_append, ← e3]; exact h⟩
theorem n_lit0r {t e : TypeId} {ag : Bool} {n : Nat} {z : Value} {by_ : Nat} (α : Type) [Enc α] (hu : P.underlying t = some (.slice e)) (ht : TyI P e ag n z by_) :
  EF P c fs os N s ⟨d, .buildSlice t 0 #[], ty, pos, af, gd⟩ (fun v fs' os' => ∃ oa cp, v = .slice oa ([] : List α).length cp ∧ fs' = fs ∧ os' = row (.slice oa ([] : List α).length cp) ([] : List α) :: os) := fun F =>
 (e_lit0r (fs := fs) (os := os ++ F) α hu ht).weak fun _ _ ⟨_, _, ⟨g, cp, e1, e2, e3⟩, h⟩ => ⟨_, _, ⟨g, cp, e1, e2, rfl⟩, by rw [List.cons_append, ← e3]; exact h⟩
theorem Tr.freezeR {α : Type} [Enc α] {v : Value} {l : List α} (ht : Take os [row v l] os1) (k : Tr P c N Q code s (imm v l :: fs) os1) : Tr P c N Q code s fs os := by
 intro a w hs hw
 obtain ⟨I, S, hst⟩ := hw
 obtain ⟨S1, S2, m1, m2, dj, ⟨A, _, mA, _, _, ho, _⟩, hr⟩ := ht.sep hst.own
 refine k a w hs ⟨fun b => I b ∨ S1 b, S2, fun g hg => ?_, hr.keep (Same.refl _ _) (Same.refl _ _) (fun _ => .inl) (fun _ h => h), fun b hi hs => ?_, fun b hi => ?_, fun b hb => hst.slt b (m2 b hb), fun b hi => ?_, fun b hb => hst.snew b (m2 b hb), fun b hb => .inl (hst.i0 b hb), hst.frm⟩
 ·rcases List.mem_cons.1 hg with rfl | hg
  ·exact RdL.keep (S' := fun b => I b ∨ S1 b) (RowL.rd ho) (Same.refl _ _) (fun b hb => hb.imp id (mA b))
  ·exact g.keep (hst.facts g hg) (Same.refl _ _) (fun _ => .inl)
 ·rcases hi with hi | hi
  ·exact hst.dj b hi (m2 b hs)
  ·exact dj b hi hs
 ·exact hi.elim (hst.ilt b) (fun h => hst.slt b (m1 b h))
 ·rcases hi with hi | hi
  ·exact hst.inew b hi
  ·exact .inr (hst.snew b (m1 b hi))
end
end Go.Sx

namespace Go.Sx
open Go Go.RowKit
section
variable {P : Program} {c : Ctx} {N : Nat} {s : Slots} {fs : List Fact} {os os1 os' : List Own} {Q : Exit → Act → World → Prop} {code : Code}
variable {d : Option Tmp} {ty : TypeId} {pos : String} {af : Array Edge} {gd : Option (Nat × Bool)}
theorem p_slLo {x y : Operand} {t e : TypeId} {ag : Bool} {sz : Nat} {z : Value} {by_ g n cp : Nat} {i : Int} (a : Nat) (hu : P.underlying t = some (.slice e)) (ht : TyI P e ag sz z by_)
  (hx : ev s x = some (.slice (some ⟨g, 0, none⟩) n cp)) (hy : ev s y = some (.int .i64 i)) (hi : i = (a : Int)) (h1 : a ≤ n) (_ : n ≤ cp) (h3 : a < cp) :
  Pu P N s ⟨d, .slice t x (some y) none none, ty, pos, af, gd⟩ (.slice (some ⟨g, a * sz, none⟩) (n - a) (cp - a)) := fun w0 w hs => by
 subst hi
 have h3 : ¬ cp = a := by omega
 simp [execOp, hs.ev hx, hs.ev hy, Instr.sliceAt, Instr.slice, run_underlying hu, Instr.sliceBounds, Instr.sliceBound, asIntOf, ht.sizeOf, h1, h3, Addr.add_lit]
theorem p_slHi {x y : Operand} {t e : TypeId} {ag : Bool} {sz : Nat} {z : Value} {by_ n cp : Nat} {oa : Option Addr} {i : Int} (a : Nat) (hu : P.underlying t = some (.slice e)) (ht : TyI P e ag sz z by_)
  (hx : ev s x = some (.slice oa n cp)) (hy : ev s y = some (.int .i64 i)) (hi : i = (a : Int)) (h1 : a ≤ cp) :
  Pu P N s ⟨d, .slice t x none (some y) none, ty, pos, af, gd⟩ (.slice oa a cp) := fun w0 w hs => by
 subst hi
 have e : Option.map (fun x : Addr => x.add 0) oa = oa := by cases oa <;> simp [Addr.add]
 simp [execOp, hs.ev hx, hs.ev hy, Instr.sliceAt, Instr.slice, run_underlying hu, Instr.sliceBounds, Instr.sliceBound, asIntOf, ht.sizeOf, h1, e]
theorem p_slAny {x y : Operand} {t e : TypeId} {ag : Bool} {sz : Nat} {z : Value} {by_ n cp : Nat} {oa : Option Addr} {i : Int} (hu : P.underlying t = some (.slice e)) (ht : TyI P e ag sz z by_)
  (hx : ev s x = some (.slice oa n cp)) (hy : ev s y = some (.int .i64 i)) (h0 : 0 ≤ i) (h1 : i ≤ n) (_ : n ≤ cp) :
  Pu P N s ⟨d, .slice t x (some y) none none, ty, pos, af, gd⟩ (.slice (subA oa cp i.toNat sz) (n - i.toNat) (cp - i.toNat)) := fun a w hs => by
 obtain ⟨i, rfl⟩ := Int.eq_ofNat_of_zero_le h0
 have h1 : i ≤ n := by omega
 simp [execOp, hs.ev hx, hs.ev hy, Instr.sliceAt, Instr.slice, run_underlying hu, Instr.sliceBounds, Instr.sliceBound, asIntOf, ht.sizeOf, h1, subA]
theorem p_cap {x : Operand} {t : TypeId} {oa : Option Addr} {n cp : Nat} (e : TypeId) (hu : P.underlying t = some (.slice e)) (hx : ev s x = some (.slice oa n cp)) :
  Pu P N s ⟨d, .call { callee := .builtin .cap, args := #[x], argTypes := #[t] }, ty, pos, af, gd⟩ (.int .i64 (cp : Int)) := fun a w hs => by
 simp [execOp, resolve, invoke, builtin, hs.ev hx, Builtin.cap_, goInt, run_underlying hu]
theorem e_cpB {t u e : TypeId} {ag : Bool} {sz : Nat} {z : Value} {by_ g g2 o o2 n1 c1 n2 c2 m : Nat} {bt bt2 : TypeId} {x y : Operand} {cs cs2 ks : List Value} (hu : P.underlying t = some (.slice e)) (ht : TyI P e ag sz z by_)
  (hx : ev s x = some (.slice (some ⟨g, o, none⟩) n1 c1)) (hy : ev s y = some (.slice (some ⟨g2, o2, none⟩) n2 c2)) (hm : Nat.min n2 n1 = m) (hk : ks = (cs2.drop o2).take (m * sz)) (hl : ks.length = m * sz)
  (hU : Upd os (box g bt cs) (box g bt (cs.take o ++ ks ++ cs.drop (o + m * sz))) os') (hH : Has os (box g2 bt2 cs2)) (hd : o + m * sz ≤ cs.length) (h1 : ∀ v ∈ ks, v.oneCell' = true) :
  Eo P c fs os N s ⟨d, .call { callee := .builtin .copy, args := #[x, y], argTypes := #[t, u] }, ty, pos, af, gd⟩ (fun v fs' os'' => v = .int .i64 (m : Int) ∧ fs' = fs ∧ os'' = os') := Ex.mk fun a w hs hw => by
 obtain ⟨I, S, hst⟩ := id hw
 obtain ⟨S1, _, ⟨_, hh⟩, _⟩ := hU.sep hst.own
 obtain ⟨S2, _, ⟨_, hh2⟩⟩ := Sep.has hH hst.own
 have hc : ∀ j v, ks[j]? = some v → w.cell? ((⟨g2, o2, none⟩ : Addr).add j) = some v := fun j v hj => by
  rw [Addr.add_lit, cell_of_row w g2 _ cs2.toArray bt2 (0, 0) hh2]
  rw [hk, List.getElem?_take] at hj
  split at hj
  ·rw [List.getElem?_drop] at hj
   simpa using hj
  ·cases hj
 have hld := run_loadCells_list (P := P) w ⟨g2, o2, none⟩ ks hc
 have hst' := run_storeCells_at P g o bt ks 0 cs.toArray w hh (by simp; omega) h1
 simp only [Nat.add_zero] at hst'
 have hrun : (Builtin.copy_ #[t, u] ty #[.slice (some ⟨g, o, none⟩) n1 c1, .slice (some ⟨g2, o2, none⟩) n2 c2]).run P w = .ok (.int .i64 (m : Int)) (w.setRow g (cs.take o ++ ks ++ cs.drop (o + ks.length)).toArray) := by
  obtain ⟨i, hi, _, hsz, _⟩ := ht.info'
  subst hsz
  have hm' : (if n2 ≤ n1 then n2 else n1) = m := by rw [← hm]; rfl
  simp [Builtin.copy_, run_underlying hu, Builtin.lenOf, Builtin.firstCells, Go.sizeOf, typeInfo, hi, hm, ← hl, hld, hst', goInt]
 rw [hl] at hrun
 simp only [execOp, resolve, invoke, builtin, Sem.run_bind, Sem.run_pure, Result.andThen_ok, List.map_toArray, List.map_cons, List.map_nil, hs.ev hx, hs.ev hy, hrun, Outc]
 refine ⟨fs, os', ⟨trivial, rfl, rfl⟩, ?_⟩
 exact hw.upd hU fun I S S1 hst m1 ⟨hg, hh'⟩ => ⟨S1, fun b => .inl, ⟨hg, setRow_heap w g _ _ bt _ hh'⟩, fun b hb hn' => setRow_other w g b _ fun e => hn' (e ▸ hg), by simp [World.setRow], rfl, ⟨rfl, by first | exact Nat.le_refl _ | exact Nat.le_succ _⟩, rfl⟩
theorem e_appZ {t u e : TypeId} {ag : Bool} {sz : Nat} {z : Value} {by_ g n1 c1 k : Nat} {bt : TypeId} {x y : Operand} {cs olds : List Value} {kk : Int} (hu : P.underlying t = some (.slice e)) (hn : P.underlying u = some (.int .i64)) (ht : TyI P e ag sz z by_) (hsz : 0 < sz)
  (hx : ev s x = some (.slice (some ⟨g, 0, none⟩) n1 c1)) (hy : ev s y = some (.int .i64 kk)) (hkk : kk = (k : Int)) (hH : Has os (box g bt cs)) (ho : olds = cs.take (n1 * sz)) (hl : olds.length = n1 * sz) (hk : 0 < k) (hg : c1 < n1 + k)
  (hb : (n1 + k) * by_ ≤ 140737488355328) (h63 : n1 + k ≤ 9223372036854775807) :
  Eo P c fs os N s ⟨d, .call { callee := .builtin .append, args := #[x, y], argTypes := #[t, u] }, ty, pos, af, gd⟩ (fun v fs' os' => ∃ g' cp js, v = .slice (some ⟨g', 0, none⟩) (n1 + k) cp ∧ n1 + k ≤ cp ∧ cp ≤ maxLen ∧ n1 * sz + js.length = cp * sz ∧ fs' = fs ∧ os' = box g' e (olds ++ js) :: os) := Ex.mk fun a w hs hw => by
 subst hkk
 obtain ⟨I, S, hst⟩ := id hw
 obtain ⟨S2, _, ⟨_, hh⟩⟩ := Sep.has hH hst.own
 obtain ⟨i, hi, hz, hsz', hby⟩ := ht.info'
 subst hsz' hby
 have hc : ∀ j v, olds[j]? = some v → w.drew.cell? ((⟨g, 0, none⟩ : Addr).add j) = some v := fun j v hj => by
  rw [Addr.add_lit, cell_of_row w.drew g _ cs.toArray bt (0, 0) hh]
  rw [ho, List.getElem?_take] at hj
  split at hj
  ·simpa using hj
  ·cases hj
 have hold := run_firstCells_some (P := P) w.drew i.size n1 ⟨g, 0, none⟩ n1 c1 olds hl hc
 have hcap := Builtin.nextslicecap
 have hrun := Lib.run_append_grow_zeros (P := P) w t u ty e i z .i64 .i64 hu hn hi hz (some ⟨g, 0, none⟩) n1 c1 olds hold k hk hsz hg (by omega)
  (by have : k * i.bytes ≤ (n1 + k) * i.bytes := Nat.mul_le_mul_right _ (by omega); omega) (growslice_fits (by omega) hb)
 have hge := grownCap_ge w (n1 + k) c1 e
 have hle := grownCap_le_maxLen w (n1 + k) c1 e (by simp [maxLen]; omega)
 have hzc : ∀ k, (Builtin.zeroCells z.cells k).size = k * i.size := fun k => by rw [size_zeroCells, ht.zn]
 simp only [execOp, resolve, invoke, builtin, Sem.run_bind, Sem.run_pure, Result.andThen_ok, List.map_toArray, List.map_cons, List.map_nil, hs.ev hx, hs.ev hy, hrun, Outc]
 refine ⟨fs, _, ⟨w.heap.size, _, (Builtin.zeroCells z.cells k ++ Builtin.zeroCells z.cells (grownCap w (n1 + k) c1 e - (n1 + k))).toList, rfl, hge, hle, ?_, rfl, rfl⟩, ?_⟩
 ·rw [Array.length_toList, Array.size_append, hzc, hzc, ← Nat.add_mul, ← Nat.add_mul]
  congr 1
  omega
 ·have h1 : Sta c fs os w.drew := hw.drew
  have h2 := h1.alloc e (olds ++ (Builtin.zeroCells z.cells k ++ Builtin.zeroCells z.cells (grownCap w (n1 + k) c1 e - (n1 + k))).toList)
  have h3 : (olds ++ (Builtin.zeroCells z.cells k ++ Builtin.zeroCells z.cells (grownCap w (n1 + k) c1 e - (n1 + k))).toList).toArray = olds.toArray ++ Builtin.zeroCells z.cells k ++ Builtin.zeroCells z.cells (grownCap w (n1 + k) c1 e - (n1 + k)) := by
   apply Array.ext'
   simp
  rw [h3] at h2
  exact h2
theorem n_cpB {t u e : TypeId} {ag : Bool} {sz : Nat} {z : Value} {by_ g g2 o o2 n1 c1 n2 c2 m : Nat} {bt bt2 : TypeId} {x y : Operand} {cs cs2 ks : List Value} (hu : P.underlying t = some (.slice e)) (ht : TyI P e ag sz z by_)
  (hx : ev s x = some (.slice (some ⟨g, o, none⟩) n1 c1)) (hy : ev s y = some (.slice (some ⟨g2, o2, none⟩) n2 c2)) (hm : Nat.min n2 n1 = m) (hk : ks = (cs2.drop o2).take (m * sz)) (hl : ks.length = m * sz)
  (hU : Upd os (box g bt cs) (box g bt (cs.take o ++ ks ++ cs.drop (o + m * sz))) os') (hH : Has os (box g2 bt2 cs2)) (hd : o + m * sz ≤ cs.length) (h1 : ∀ v ∈ ks, v.oneCell' = true) :
  EF P c fs os N s ⟨d, .call { callee := .builtin .copy, args := #[x, y], argTypes := #[t, u] }, ty, pos, af, gd⟩ (fun v fs' os'' => v = .int .i64 (m : Int) ∧ fs' = fs ∧ os'' = os') := fun F =>
 (e_cpB (os := os ++ F) hu ht hx hy hm hk hl (hU.app F) (hH.app F) hd h1).weak fun _ _ ⟨_, _, ⟨e1, e2, e3⟩, h⟩ => ⟨_, _, ⟨e1, e2, rfl⟩, by rw [← e3]; exact h⟩
theorem q_ov {f : FuncId} {fn : Func} {tS tR e : TypeId} {ag : Bool} {sz : Nat} {z : Value} {by_ g g2 o2 na ca nb cb : Nat} {bt bt2 : TypeId} {x y : Operand} {ats : Array TypeId} {cs cs2 : List Value}
  (hf : P.funcs[f]? = some fn) (hname : (fn.name == "runtime.NumGoroutine") = false) (hb : fn.body.isNone = true) (hn : Extern.findNext fn = none) (he : Extern.find fn = some (Extern.SlicesOverlaps.overlaps #[tS, tS] #[tR]))
  (hu : P.underlying tS = some (.slice e)) (ht : TyI P e ag sz z by_) (hx : ev s x = some (.slice (some ⟨g, 0, none⟩) na ca)) (hy : ev s y = some (.slice (some ⟨g2, o2, none⟩) nb cb))
  (htk : Take os [box g bt cs, box g2 bt2 cs2] os1) (h0 : cs2 ≠ []) :
  Qo P c fs os N s ⟨d, .call { callee := .value (.func f), args := #[x, y], argTypes := ats }, ty, pos, af, gd⟩ (.bool false) := qo_of fun a w I S hs hst => by
 obtain ⟨S1, S2, _, _, _, ⟨A, B, _, _, dj, ⟨hA, h1⟩, ⟨C, D, mC, _, _, ⟨hC, h2⟩, _⟩⟩, _⟩ := htk.sep hst.own
 have hne : g ≠ g2 := fun h => dj g hA (mC g (h ▸ hC))
 have hsz2 : cs2.toArray.size ≠ 0 := by cases cs2 with
  | nil => exact absurd rfl h0
  | cons _ _ => simp
 have hrun : (callFunc f #[.slice (some ⟨g, 0, none⟩) na ca, .slice (some ⟨g2, o2, none⟩) nb cb]).run P w = .ok (.value (.bool false)) w := by
  rw [run_callFunc_extern hf hname hb hn he, Lib.run_overlaps_apart w tS tR e hu sz ht.sizeOf ⟨g, 0, none⟩ ⟨g2, o2, none⟩ na ca nb cb hne bt bt2 cs.toArray.size cs2.toArray.size
   (by simp only [World.shape?, h1]) (by simp only [World.shape?, h2]) hsz2 (by simp [World.frozen?, h1]) (by simp [World.frozen?, h1])]
  rfl
 have h2' : (#[x, y].map a.eval) = #[.slice (some ⟨g, 0, none⟩) na ca, .slice (some ⟨g2, o2, none⟩) nb cb] := by simp [hs.ev hx, hs.ev hy]
 simp [execOp, resolve, Deferred.ofValue, Act.eval, invoke, -List.map_toArray, h2', hrun]
theorem flat_len {α : Type} [Flat α] {w : World} {S : Blks} {cs : List Value} {x : α} (h : Enc.Rd w S cs x) : (Flat.enc x).length = Enc.sz α := by
 rw [← (Flat.rd h).1]; exact Enc.len h
theorem parts_all {α : Type} (f : α → List Value) (n : Nat) : ∀ (l : List α) (cs : List Value), (∀ i (h : i < l.length), (cs.drop (i * n)).take n = f l[i] ∧ (f l[i]).length = n) → cs.take (l.length * n) = l.flatMap f
 | [], cs, _ => by simp
 | x :: l, cs, h => by
  have h0 := h 0 (by simp)
  simp at h0
  have ih := parts_all f n l (cs.drop n) fun i hi => by
   have := h (i + 1) (by simpa using hi)
   rw [List.drop_drop]
   simpa [Nat.add_mul, Nat.add_comm] using this
  rw [List.flatMap_cons, ← ih, ← h0.1, List.length_cons, Nat.add_mul, Nat.one_mul, Nat.add_comm, List.take_add]
theorem Tr.unT {α : Type} [Flat α] {oa : Option Addr} {n cp : Nat} {l : List α} (ht : Take os [tree (.slice oa n cp) l] os1) (h0 : 0 < l.length)
  (k : ∀ g bt js, oa = some ⟨g, 0, none⟩ → n = l.length → l.length ≤ cp → cp ≤ maxLen → (l.flatMap Flat.enc).length = l.length * Enc.sz α → l.length * Enc.sz α + js.length = cp * Enc.sz α → (∀ x ∈ l, Flat.wf x ∧ (Flat.enc x).length = Enc.sz α ∧ ∀ v ∈ Flat.enc x, v.oneCell' = true) →
   Tr P c N Q code s fs (box g bt (l.flatMap Flat.enc ++ js) :: os1)) : Tr P c N Q code s fs os := fun a w hs hw => by
 obtain ⟨I, S, hst⟩ := id hw
 obtain ⟨S1, S2, _, _, _, ⟨A, B, _, _, _, ho, _⟩, _⟩ := ht.sep hst.own
 have ho : TrL w A (.slice oa n cp) l := ho
 rcases ho with ⟨_, e⟩ | ⟨g, cap, cur, bt, e, hg, hh, h1, h2, h3, Ss, k1, k2, k3⟩
 ·subst e; exact absurd h0 (Nat.not_lt_zero _)
 ·injection e with e1 e2 e3
  subst e3
  have hel : ∀ i (h : i < l.length), (cur.toList.drop (i * Enc.sz α)).take (Enc.sz α) = Flat.enc l[i] ∧ (Flat.enc l[i]).length = Enc.sz α := fun i h => ⟨(Flat.rd (Enc.tr_rd (k3 i h))).1, flat_len (Enc.tr_rd (k3 i h))⟩
  have hpre := parts_all (Flat.enc (α := α)) (Enc.sz α) l cur.toList hel
  have hlen : (l.flatMap (Flat.enc (α := α))).length = l.length * Enc.sz α := by
   rw [← hpre, List.length_take]
   have := Nat.mul_le_mul_right (Enc.sz α) h1
   simp only [Array.length_toList]
   omega
  have hcur : l.flatMap Flat.enc ++ cur.toList.drop (l.length * Enc.sz α) = cur.toList := by rw [← hpre, List.take_append_drop]
  refine k g bt (cur.toList.drop (l.length * Enc.sz α)) e1 e2 h1 h2 hlen ?_ ?_ a w hs ?_
  ·rw [List.length_drop]
   have := Nat.mul_le_mul_right (Enc.sz α) h1
   simp only [Array.length_toList]
   omega
  ·intro x hx
   obtain ⟨i, hi, rfl⟩ := List.mem_iff_getElem.1 hx
   have hr := Enc.tr_rd (k3 i hi)
   refine ⟨(Flat.rd hr).2, (hel i hi).2, fun v hv => Enc.one hr v ?_⟩
   rw [(hel i hi).1]; exact hv
  ·rw [hcur]
   refine hw.chg (r' := [box g bt cur.toList]) ht fun I' S' S1' hst' m1 ⟨A', B', mA, mB, dAB, ho', hr⟩ => ⟨S1', fun b => .inl, ⟨S1', fun _ => False, fun _ h => h, fun _ h => h.elim, fun _ _ h => h, ⟨?_, by simpa using hh⟩, trivial⟩, fun _ _ _ => rfl, Nat.le_refl _, rfl, ⟨rfl, by first | exact Nat.le_refl _ | exact Nat.le_succ _⟩, rfl⟩
   have ho' : TrL w A' (.slice oa n cp) l := ho'
   rcases ho' with ⟨_, e⟩ | ⟨g', cap', cur', bt', e', hg', _⟩
   ·subst e; exact absurd h0 (Nat.not_lt_zero _)
   ·injection e' with e1' _ _
    rw [e1] at e1'
    injection e1' with e1'
    have : g = g' := congrArg Addr.block e1'
    exact this ▸ mA _ hg'
theorem Sta.mkF {α : Type} [Flat α] {g cp n : Nat} {bt : TypeId} {l : List α} {cs js : List Value} {w : World} (ht : Take os [box g bt cs] os1) (hn : n = l.length) (he : cs = l.flatMap Flat.enc ++ js) (h1 : l.length ≤ cp) (h2 : cp ≤ maxLen)
  (h3 : cs.length = cp * Enc.sz α) (hl : ∀ x ∈ l, Flat.wf x ∧ (Flat.enc x).length = Enc.sz α) (hw : Sta c fs os w) : Sta c fs (tree (.slice (some ⟨g, 0, none⟩) n cp) l :: os1) w := by
 subst hn
 refine hw.chg (r' := [tree (.slice (some ⟨g, 0, none⟩) l.length cp) l]) ht fun I S S1 hst m1 ⟨A, B, mA, mB, dAB, ⟨hg, hh⟩, hr⟩ => ⟨S1, fun b => .inl, ⟨S1, fun _ => False, fun _ h => h, fun _ h => h.elim, fun _ _ h => h, ?_, trivial⟩, fun _ _ _ => rfl, Nat.le_refl _, rfl, ⟨rfl, by first | exact Nat.le_refl _ | exact Nat.le_succ _⟩, rfl⟩
 refine .inr ⟨g, cp, _, bt, rfl, mA _ hg, hh, h1, h2, by simpa using h3, fun _ _ => False, fun _ _ _ h => h.elim, fun _ _ _ _ _ h => h.elim, fun i hi => ?_⟩
 have hp : ((l.flatMap Flat.enc).drop (i * Enc.sz α)).take (Enc.sz α) = Flat.enc l[i] := by
  clear hw h1 h3 he
  induction l generalizing i with
  | nil => exact absurd hi (Nat.not_lt_zero _)
  | cons x l ih =>
   have hx := (hl x (by simp)).2
   cases i with
   | zero => simp [← hx]
   | succ i =>
    rw [List.flatMap_cons, Nat.add_mul, Nat.one_mul, Nat.add_comm, ← List.drop_drop, ← hx, List.drop_left, hx]
    simpa using ih (fun y hy => hl y (by simp [hy])) i (by simpa using hi)
 have hfl : (l.flatMap (Flat.enc (α := α))).length = l.length * Enc.sz α := by
  clear hw h1 h3 he hp hi
  induction l with
  | nil => simp
  | cons x l ih => rw [List.flatMap_cons, List.length_append, (hl x (by simp)).2, ih fun y hy => hl y (by simp [hy]), List.length_cons, Nat.add_mul]; omega
 have hle : i * Enc.sz α + Enc.sz α ≤ l.length * Enc.sz α := by
  have := Nat.mul_le_mul_right (Enc.sz α) (show i + 1 ≤ l.length by omega)
  rw [Nat.add_mul] at this; omega
 show Enc.Tr w _ ((cs.toArray.toList.drop (i * Enc.sz α)).take (Enc.sz α)) _
 rw [show cs.toArray.toList = cs from rfl, he, List.drop_append_of_le_length (by omega), List.take_append_of_le_length (by rw [List.length_drop]; omega), hp]
 exact Flat.tr (hl _ (List.getElem_mem hi)).1
theorem At.mkF {F : Act → World → Prop} {α : Type} [Flat α] {g cp n : Nat} {bt : TypeId} {cs : List Value} (l : List α) (js : List Value) (ht : Take os [box g bt cs] os1) (hn : n = l.length) (he : cs = l.flatMap Flat.enc ++ js) (h1 : l.length ≤ cp) (h2 : cp ≤ maxLen)
  (h3 : cs.length = cp * Enc.sz α) (hl : ∀ x ∈ l, Flat.wf x ∧ (Flat.enc x).length = Enc.sz α) (k : At c N s fs (tree (.slice (some ⟨g, 0, none⟩) n cp) l :: os1) F) : At c N s fs os F :=
 fun a w hs hw => k a w hs (Sta.mkF ht hn he h1 h2 h3 hl hw)
theorem Tr.bnd {α : Type} [Enc α] {oa : Option Addr} {n cp : Nat} {l : List α} (h : Has os (tree (.slice oa n cp) l)) (k : n = l.length → l.length ≤ cp → cp ≤ maxLen → Tr P c N Q code s fs os) : Tr P c N Q code s fs os := fun a w hs hw => by
 obtain ⟨I, S, hst⟩ := id hw
 obtain ⟨S1, _, ho⟩ := Sep.has h hst.own
 obtain ⟨_, _, e, h1, h2, _⟩ := TrL.rd ho
 injection e with e1 e2 e3
 subst e3
 exact k e2 h1 h2 a w hs hw
end
theorem ins_here {β : Type} {A1 A2 K js : List β} {a b c : Nat} (ha : A1.length = a) (hb : K.length = b) (hc : A2.length = c) (hj : b ≤ js.length) :
  (((A1 ++ A2 ++ js).take (a + b) ++ A2 ++ (A1 ++ A2 ++ js).drop (a + b + c)).take a ++ K ++ ((A1 ++ A2 ++ js).take (a + b) ++ A2 ++ (A1 ++ A2 ++ js).drop (a + b + c)).drop (a + b)) = A1 ++ K ++ A2 ++ (A1 ++ A2 ++ js).drop (a + b + c) := by
 subst ha hb hc
 have h1 : ((A1 ++ A2 ++ js).take (A1.length + K.length)).length = A1.length + K.length := by rw [List.length_take]; simp; omega
 have e1 : ((A1 ++ A2 ++ js).take (A1.length + K.length)).take A1.length = A1 := by
  rw [List.take_take, Nat.min_eq_left (by omega), List.append_assoc, List.take_left]
 have e2 : (((A1 ++ A2 ++ js).take (A1.length + K.length) ++ A2 ++ (A1 ++ A2 ++ js).drop (A1.length + K.length + A2.length)).take A1.length) = A1 := by
  rw [List.append_assoc, List.take_append_of_le_length (by omega), e1]
 have e3 : (((A1 ++ A2 ++ js).take (A1.length + K.length) ++ A2 ++ (A1 ++ A2 ++ js).drop (A1.length + K.length + A2.length)).drop (A1.length + K.length)) = A2 ++ (A1 ++ A2 ++ js).drop (A1.length + K.length + A2.length) := by
  rw [List.append_assoc]
  conv => lhs; rw [show A1.length + K.length = ((A1 ++ A2 ++ js).take (A1.length + K.length)).length from h1.symm]
  rw [h1, List.drop_left' h1]
 rw [e2, e3]
 simp
theorem ins_new {β : Type} {A1 A2 K js : List β} {a b c : Nat} (ha : A1.length = a) (hb : K.length = b) (hc : A2.length = c) (hj : b + c ≤ js.length) :
  (((A1 ++ js).take a ++ K ++ (A1 ++ js).drop (a + b)).take (a + b) ++ A2 ++ ((A1 ++ js).take a ++ K ++ (A1 ++ js).drop (a + b)).drop (a + b + c)) = A1 ++ K ++ A2 ++ js.drop (b + c) := by
 subst ha hb hc
 have e0 : (A1 ++ js).take A1.length = A1 := List.take_left
 have e1 : (A1 ++ js).drop (A1.length + K.length) = js.drop K.length := by rw [← List.drop_drop, List.drop_left]
 rw [e0, e1]
 have h1 : (A1 ++ K).length = A1.length + K.length := by simp
 rw [List.take_left' h1]
 have e2 : (A1 ++ K ++ js.drop K.length).drop (A1.length + K.length + A2.length) = js.drop (K.length + A2.length) := by
  rw [← List.drop_drop, List.drop_left' h1, List.drop_drop]
 rw [e2]
theorem flat_flen {α : Type} [Flat α] {l : List α} (h : ∀ x ∈ l, (Flat.enc x).length = Enc.sz α) : (l.flatMap (Flat.enc (α := α))).length = l.length * Enc.sz α := by
 induction l with
 | nil => simp
 | cons x l ih => rw [List.flatMap_cons, List.length_append, h x (by simp), ih fun y hy => h y (by simp [hy]), List.length_cons, Nat.add_mul]; omega
theorem ins_all {α : Type} {p : α → Prop} {l k : List α} {i : Nat} (h : ∀ x ∈ l, p x) (h2 : ∀ x ∈ k, p x) : ∀ x ∈ l.take i ++ k ++ l.drop i, p x := fun x hx => by
 rcases List.mem_append.1 hx with hx | hx
 ·rcases List.mem_append.1 hx with hx | hx
  ·exact h x (List.mem_of_mem_take hx)
  ·exact h2 x hx
 ·exact h x (List.mem_of_mem_drop hx)
theorem cells_ne {β : Type} {A js : List β} (h : 0 < A.length) : A ++ js ≠ [] := by
 cases A with
 | nil => simp at h
 | cons _ _ => simp
theorem hlenNew {β : Type} {A1 K js : List β} {a b c : Nat} (ha : A1.length = a) (hb : K.length = b) (hj : b + c ≤ js.length) : a + (b + c) ≤ ((A1 ++ js).take a ++ K ++ (A1 ++ js).drop (a + b)).length := by
 subst ha hb
 have e1 : (A1 ++ js).drop (A1.length + K.length) = js.drop K.length := by rw [← List.drop_drop, List.drop_left]
 rw [e1, List.take_left]
 simp only [List.length_append, List.length_drop]
 omega
theorem hlenHere {β : Type} {A1 A2 K js : List β} {a b c : Nat} (ha : A1.length = a) (hc : A2.length = c) (hb : K.length = b) (hj : b ≤ js.length) : a + b ≤ ((A1 ++ A2 ++ js).take (a + b) ++ A2 ++ (A1 ++ A2 ++ js).drop (a + b + c)).length := by
 subst ha hb hc
 simp only [List.length_append, List.length_drop, List.length_take]
 omega
def p_insert {α : Type} (l : List α) (i : Int) (k : List α) : Option (List α) := gd (0 ≤ i ∧ i ≤ (l.length : Int)) <| gd (room (l.length + k.length)) <| gd (0 < k.length) <| some (l.take i.toNat ++ k ++ l.drop i.toNat)
end Go.Sx

namespace Go.Sx
open Go Go.RowKit
def chkL (ops : Array Oper) (m : Nat) : Bool :=
 ops.size == m + 1 &&
 ((List.range (m + 1)).all fun i => match ops[i]? with
  | some x => (x.after.all fun e => !Region.binds .any e || decide (e.on < i)) && (match x.guard with | none => true | some (j, _) => decide (j < m))
  | none => false) &&
 match ops[m]? with
  | some o => (List.range m).all fun i => o.after.any fun e => Region.binds .any e && e.on == i
  | none => false
theorem wp_then {P : Program} {o : Oper} {a : Act} {w : World} {K K0 : Act → World → Prop} {Q : Exit → Act → World → Prop} (h : o.wp P a w K (Exit.then K0 Q)) : o.wp P a w K Q := by
 unfold Oper.wp at *
 generalize (execOp a.eval o).run P w = r at *
 cases r with
 | ok n w' =>
  cases n <;> simp only [Oper.upon] at h ⊢ <;>
   first
    | exact h
    | exact Calls.mono h (fun e w'' he => by cases e <;> exact he)
    | exact Rows.mono h (fun _ _ he => he)
 | halt x w' => cases x <;> simp only [Oper.upon] at h ⊢ <;> exact h
theorem yielded_last {L : List Oper} {t : Array Value} {j : Nat} (h : j < L.dropLast.length) : yielded L.dropLast.toArray t j = yielded L.toArray t j := by
 have : L.dropLast[j]? = L[j]? := by
  rw [List.getElem?_dropLast]; rw [if_pos (by simpa using h)]
 simp [yielded, this]
theorem wpAny_last {P : Program} {Q : Exit → Act → World → Prop} {L : List Oper} {o : Oper} (hlast : L.getLast? = some o) (hk : chkL L.toArray L.dropLast.length = true) :
  ∀ (fuel : Nat) (listed : Array Bool) (a : Act) (w : World), listed.size = L.dropLast.length → unl listed L.dropLast.length ≤ fuel →
   wpAny P .any L.dropLast.toArray (Exit.then (fun a w => wpList P L.toArray Q [o] a w) Q) fuel listed a w → wpAny P .any L.toArray Q (fuel + 1) (listed.push false) a w := by
 have hLne : L ≠ [] := by rintro rfl; cases hlast
 have hL : L = L.dropLast ++ [o] := by
  have := List.dropLast_concat_getLast hLne
  rw [List.getLast?_eq_some_getLast hLne] at hlast
  rw [← Option.some.inj hlast]; exact this.symm
 generalize hm : L.dropLast.length = m at hk ⊢
 have hsz : L.length = m + 1 := by rw [hL]; simp [hm]
 have hd : ∀ j, j < m → L.dropLast[j]? = L[j]? := fun j hj => by rw [List.getElem?_dropLast, if_pos (by omega)]
 have ho : L[m]? = some o := by rw [hL, ← hm]; simp
 unfold chkL at hk
 simp only [Bool.and_eq_true] at hk
 obtain ⟨⟨_, k1⟩, k2⟩ := hk
 have k1 : ∀ i x, i < m + 1 → L[i]? = some x → (∀ e ∈ x.after, Region.binds .any e = true → e.on < i) ∧ ∀ j b, x.guard = some (j, b) → j < m := fun i x hi hx => by
  have := List.all_eq_true.1 k1 i (List.mem_range.2 hi)
  simp only [List.getElem?_toArray, hx, Bool.and_eq_true] at this
  refine ⟨fun e he hb => ?_, fun j b hg => ?_⟩
  ·have := Array.all_eq_true'.1 this.1 e he
   simpa [hb] using this
  ·have h2 := this.2
   rw [hg] at h2
   simpa using h2
 simp only [List.getElem?_toArray, ho] at k2
 have k2 : ∀ i, i < m → ∃ e ∈ o.after, Region.binds .any e = true ∧ e.on = i := fun i hi => by
  have := List.all_eq_true.1 k2 i (List.mem_range.2 hi)
  obtain ⟨e, he, h⟩ := Array.any_eq_true'.1 this
  simp only [Bool.and_eq_true, beq_iff_eq] at h
  exact ⟨e, he, h⟩
 have gp : ∀ (listed : Array Bool), listed.size = m → ∀ j, j < m → ∀ b, (listed.push false).getD j b = listed.getD j b := fun listed hs j hj b => by
  rw [Array.getD_eq_getD_getElem?, Array.getD_eq_getD_getElem?, Array.getElem?_push, if_neg (by omega)]
 have gm : ∀ (listed : Array Bool), listed.size = m → (listed.push false).getD m true = false := fun listed hs => by
  rw [Array.getD_eq_getD_getElem?, Array.getElem?_push, if_pos hs.symm]; rfl
 have gt : ∀ (listed : Array Bool), listed.size = m → ∀ i, i < m → listed.getD i true = listed.getD i false := fun listed hs i hi => by
  simp [Array.getD_eq_getD_getElem?, Array.getElem?_eq_getElem (show i < listed.size by omega)]
 -- ready ones
 have rdy : ∀ (listed : Array Bool), listed.size = m → ∀ i, i < m → (i ∈ Region.ready .any L.toArray (listed.push false) ↔ i ∈ Region.ready .any L.dropLast.toArray listed) := fun listed hs i hi => by
  rw [mem_ready, mem_ready, gp listed hs i hi]
  simp only [List.getElem?_toArray, hd i hi]
  refine and_congr Iff.rfl (exists_congr fun x => and_congr_right fun hx => ?_)
  refine forall_congr' fun e => forall_congr' fun he => forall_congr' fun hb => ?_
  rw [gp listed hs _ (Nat.lt_trans ((k1 i x (by omega) hx).1 e he hb) hi)]
 have fin : ∀ (listed : Array Bool), listed.size = m → (∀ i, i < m → listed.getD i false = true) → ∀ fuel a w, wpList P L.toArray Q [o] a w → wpAny P .any L.toArray Q (fuel + 1) (listed.push false) a w := fun listed hs hall fuel a w h => by
  have hall' : ∀ i, i < m + 1 → ((listed.push false).setIfInBounds m true).getD i true = true := fun i hi => by
   by_cases e : i = m
   ·subst e; simp [Array.getD_eq_getD_getElem?, hs]
   ·have hi : i < m := by omega
    have h1 := gp listed hs i hi true
    rw [Array.getD_eq_getD_getElem?, Array.getElem?_setIfInBounds_ne (Ne.symm e), ← Array.getD_eq_getD_getElem?, h1, gt listed hs i hi, hall i hi]
  have hnil : Region.ready .any L.toArray ((listed.push false).setIfInBounds m true) = [] := by
   refine List.eq_nil_iff_forall_not_mem.2 fun i hi => ?_
   obtain ⟨h1, x, hx, _⟩ := mem_ready.1 hi
   have hlt : i < L.length := by simpa using (Array.getElem?_eq_some_iff.1 hx).1
   rw [hall' i (by omega)] at h1
   cases h1
  have hmr : m ∈ Region.ready .any L.toArray (listed.push false) := mem_ready.2 ⟨gm listed hs, o, by simpa using ho, fun e he hb => ?_⟩
  ·refine ⟨fun h => (by rw [h] at hmr; cases hmr), fun i hi => ?_⟩
   have him : i = m := by
    obtain ⟨h1, x, hx, _⟩ := mem_ready.1 hi
    have hlt : i < L.length := by simpa using (Array.getElem?_eq_some_iff.1 hx).1
    rcases Nat.lt_or_ge i m with h' | h'
    ·rw [gp listed hs i h', gt listed hs i h', hall i h'] at h1; cases h1
    ·omega
   subst him
   unfold wpOp
   simp only [List.getElem?_toArray, ho]
   have hK : ∀ a w, Q .normal a w → wpAny P .any L.toArray Q fuel ((listed.push false).setIfInBounds i true) a w := fun a w h => by
    cases fuel with
    | zero => exact ⟨hnil, h⟩
    | succ f => exact ⟨fun _ => h, fun j hj => by rw [hnil] at hj; cases hj⟩
   unfold wpList at h
   split
   ·rename_i hw
    rw [if_pos hw] at h
    exact h.imp (Oper.wp_mono hK) id
   ·rename_i hw
    rw [if_neg hw] at h
    exact hK _ _ h
  ·have h := (k1 m o (by omega) ho).1 e he hb
   rw [gp listed hs _ h]; exact hall _ h
 intro fuel
 induction fuel with
 | zero =>
  intro listed a w hs hu h
  exact fin listed (by omega) (unl_zero listed m (by omega)) 0 a w h.2
 | succ fuel ih =>
  intro listed a w hs hu h
  have hs : listed.size = m := by omega
  by_cases hall : ∀ i, i < m → listed.getD i false = true
  ·refine fin listed hs hall (fuel + 1) a w ?_
   refine h.1 (List.eq_nil_iff_forall_not_mem.2 fun i hi => ?_)
   obtain ⟨h1, x, hx, _⟩ := mem_ready.1 hi
   have hlt : i < L.dropLast.length := by simpa using (Array.getElem?_eq_some_iff.1 hx).1
   rw [gt listed hs i (by omega), hall i (by omega)] at h1
   cases h1
  ·-- the first that is not listed is ready
   obtain ⟨i0, hi0, hn0⟩ : ∃ i, i < m ∧ ¬ listed.getD i false = true := by
    refine Classical.byContradiction fun hc => hall fun i hi => Classical.byContradiction fun h' => hc ⟨i, hi, h'⟩
   obtain ⟨q1, j, r, e, hj, hq1⟩ := first_of (p := fun x => listed.getD x false = true) (List.range m) ⟨i0, List.mem_range.2 hi0, hn0⟩
   have hjm : j < m := List.mem_range.1 (by rw [e]; simp)
   have hmin : ∀ x, x < j → listed.getD x false = true := fun x hx => hq1 x (by
    have hmem : x ∈ List.range m := List.mem_range.2 (by omega)
    have hjl : (List.range m)[q1.length]? = some j := by rw [e]; simp
    have hq : q1.length = j := by
     have hlt : q1.length < m := by
      have := (List.getElem?_eq_some_iff.1 hjl).1
      simpa using this
     rw [List.getElem?_range hlt] at hjl
     exact Option.some.inj hjl
    have hx' : (List.range m)[x]? = q1[x]? := by rw [e, List.getElem?_append_left (by omega)]
    rw [List.getElem?_range (by omega)] at hx'
    exact List.mem_of_getElem? hx'.symm)
   have hjf : listed.getD j false = false := by
    cases hb : listed.getD j false with
    | false => rfl
    | true => exact absurd hb hj
   obtain ⟨y, hoj⟩ : ∃ y, L.dropLast[j]? = some y := ⟨_, List.getElem?_eq_getElem (by omega)⟩
   have hjr : j ∈ Region.ready .any L.dropLast.toArray listed := mem_ready.2 ⟨by rw [gt listed hs j hjm]; exact hjf, y, by simpa only [List.getElem?_toArray] using hoj, fun e he hb => hmin _ ((k1 j y (by omega) (by rw [← hd j hjm]; exact hoj)).1 e he hb)⟩
   refine ⟨fun hnil => ?_, fun i hi => ?_⟩
   ·have := (rdy listed hs j hjm).2 hjr
    rw [hnil] at this
    cases this
   ·have hilt : i < m + 1 := by
     obtain ⟨_, x, hx, _⟩ := mem_ready.1 hi
     have : i < L.length := by simpa using (Array.getElem?_eq_some_iff.1 hx).1
     omega
    have him : i < m := by
     rcases Nat.lt_or_ge i m with h' | h'
     ·exact h'
     ·exfalso
      have : i = m := by omega
      subst this
      obtain ⟨_, x, hx, hy⟩ := mem_ready.1 hi
      have hx : L[i]? = some x := by simpa using hx
      rw [ho] at hx; cases hx
      obtain ⟨e, he, hb, hon⟩ := k2 i0 hi0
      have := hy e he hb
      rw [hon, gp listed hs i0 hi0] at this
      exact hn0 this
    have hir := (rdy listed hs i him).1 hi
    have h2 := h.2 i hir
    have hif : listed.getD i false = false := by
     have := (mem_ready.1 hir).1
     rw [gt listed hs i him] at this; exact this
    have hset : (listed.push false).setIfInBounds i true = (listed.setIfInBounds i true).push false := by
     apply Array.ext_getElem?
     intro x
     simp only [Array.getElem?_setIfInBounds, Array.getElem?_push, Array.size_push, Array.size_setIfInBounds]
     by_cases hxi : i = x
     ·subst hxi; simp [show ¬ i = listed.size by omega, show i < listed.size by omega, show i < listed.size + 1 by omega]
     ·simp [hxi]
    have hu' : unl (listed.setIfInBounds i true) m ≤ fuel := by
     have := unl_set listed i hif (by omega) m
     rw [if_pos him] at this
     omega
    rw [hset]
    have K : ∀ a w, wpAny P .any L.dropLast.toArray (Exit.then (fun a w => wpList P L.toArray Q [o] a w) Q) fuel (listed.setIfInBounds i true) a w → wpAny P .any L.toArray Q (fuel + 1) ((listed.setIfInBounds i true).push false) a w := fun a w h => ih _ a w (by rw [Array.size_setIfInBounds]; exact hs) hu' h
    unfold wpOp at h2 ⊢
    simp only [List.getElem?_toArray, hd i him] at h2 ⊢
    obtain ⟨x, hx⟩ : ∃ x, L[i]? = some x := ⟨_, List.getElem?_eq_getElem (by omega)⟩
    simp only [hx] at h2 ⊢
    have hw : Region.wanted x (yielded L.dropLast.toArray a.tmps) = Region.wanted x (yielded L.toArray a.tmps) := by
     unfold Region.wanted
     cases hg : x.guard with
     | none => rfl
     | some p =>
      obtain ⟨j', b⟩ := p
      have := (k1 i x (by omega) hx).2 j' b hg
      simp only [yielded_last (L := L) (t := a.tmps) (j := j') (by omega)]
    rw [hw] at h2
    split
    ·rename_i hy
     rw [if_pos hy] at h2
     exact h2.imp (fun h => Oper.wp_mono K (wp_then h)) id
    ·rename_i hy
     rw [if_neg hy] at h2
     exact K _ _ h2
section
variable {P : Program} {c : Ctx} {N : Nat} {s : Slots} {fs : List Fact} {os : List Own} {Q : Exit → Act → World → Prop}
theorem Tr.drawL {id : Nat} {L : List Oper} {o : Oper} (n : Nat) (p ef : List Nat) (fa : List FreeA) (hm : P.follows .mixedOrders = true) (hlast : L.getLast? = some o) (hk : chkL L.toArray L.dropLast.length = true) (hc : chkW L.dropLast.toArray n p ef (fa.map (·.i)) = true) (hn : p.Nodup) (hfa : (fa.map (·.i)).Nodup)
  (hok : ∀ z ∈ fa, z.Ok P N L.dropLast.toArray)
  (h : Nw P c N L.dropLast.toArray n ef fa p (dropS (dsts L.dropLast.toArray) s) fs os [] (fun s' fs' os' => Rg P c N L.toArray Q [o] s' fs' os')) : Tr P c N Q (.region id L.toArray true) s fs os := by
 intro a w hs hw
 refine wp_region_any hm ?_
 have hg := GoodW.of_chk hc hn
 have hL : L ≠ [] := by rintro rfl; cases hlast
 have hlen : L.length = L.dropLast.length + 1 := by
  have := List.length_pos_iff.2 hL
  simp; omega
 have hrep : ∀ k i, (Array.replicate k false).getD i false = false := fun k i => by
  simp only [Array.getD_eq_getD_getElem?, Array.getElem?_replicate]
  split <;> rfl
 have e1 : L.toArray.size = L.dropLast.length + 1 := by simpa using hlen
 have e2 : Array.replicate (L.dropLast.length + 1) false = (Array.replicate L.dropLast.length false).push false := Array.replicate_succ
 rw [e1, e2]
 refine wpAny_last hlast hk L.dropLast.length _ a _ (by simp) ?_ ?_
 ·have : ∀ k n, unl (Array.replicate k false) n = n := fun k n => by
   induction n with
   | zero => rfl
   | succ n ih => unfold unl; rw [ih, hrep]; rfl
  rw [this]
  exact Nat.le_refl _
 ·have e3 : L.dropLast.toArray.size = L.dropLast.length := by simp
  refine Nw.any (c := c) (R := fun s' fs' os' => Rg P c N L.toArray Q [o] s' fs' os') (Q := Exit.then (fun a w => wpList P L.toArray Q [o] a w) Q) hg hfa hok (fun _ _ _ h => h) L.dropLast.length _ a _ [] p (dropS (dsts L.dropLast.toArray) s) fs os [] a [] ?_ (by simp) ?_
  ·refine ⟨rfl, by simpa [frames] using hw.drew, hs.weak fun t v hv => dropS_lk hv, hs.size, hs.defers, fun _ _ => rfl, fun _ _ _ _ _ _ _ => rfl, (fun e he => by cases he), List.nodup_nil, fun i hi => ?_, (fun i hi => by cases hi), (fun i hi => by cases hi), fun i hi o d ho hd => ?_, h, fun i o hi => ?_, (fun i hi => by cases hi)⟩
   ·rw [hrep] at hi; cases hi
   ·rw [lk_dropS]
    have : d ∈ dsts L.dropLast.toArray := List.mem_filterMap.2 ⟨o, by
     obtain ⟨hlt, he⟩ := Array.getElem?_eq_some_iff.1 ho
     rw [← he]
     exact Array.mem_toList_iff.2 (Array.getElem_mem hlt), hd⟩
    simp [this]
   ·rw [hrep] at hi; cases hi
  ·have : ∀ k n, unl (Array.replicate k false) n = n := fun k n => by
    induction n with
    | zero => rfl
    | succ n ih => unfold unl; rw [ih, hrep]; rfl
   rw [this, e3]
   exact Nat.le_refl _
theorem tLinT {id : Nat} {l : List Oper} (s' : Slots) (hs : SubS s s') (h : Lin P c fs os N l.toArray l s' (fun s' => At c N s' fs os (Q .normal))) : Tr P c N Q (.region id l.toArray false) s fs os :=
 Tr.trim s' hs (Tr.region fun a w h1 h2 => Lin.text l s' h (fun _ hR a w h3 h4 => hR a w h3 h4) a w h1 h2)
theorem tNwL {id : Nat} {L : List Oper} {o : Oper} (s' : Slots) (n : Nat) (p ef : List Nat) (fa : List FreeA) (hm : P.follows .mixedOrders = true) (hlast : L.getLast? = some o) (hk : chkL L.toArray L.dropLast.length = true) (hc : chkW L.dropLast.toArray n p ef (fa.map (·.i)) = true) (hn : p.Nodup) (hfa : (fa.map (·.i)).Nodup)
  (hs : SubS s s') (hd : dropS (dsts L.dropLast.toArray) s' = s') (hok : ∀ z ∈ fa, z.Ok P N L.dropLast.toArray)
  (h : Nw P c N L.dropLast.toArray n ef fa p s' fs os [] (fun s' fs' os' => Rg P c N L.toArray Q [o] s' fs' os')) : Tr P c N Q (.region id L.toArray true) s fs os :=
 Tr.trim s' hs (Tr.drawL n p ef fa hm hlast hk hc hn hfa hok (by rw [hd]; exact h))
end
end Go.Sx

namespace Go.Sx
open Go Go.RowKit
variable {P : Program} {c : Ctx} {N : Nat} {s : Slots} {fs : List Fact} {os os1 os' : List Own} {Q : Exit → Act → World → Prop} {code : Code}
variable {d : Option Tmp} {ty : TypeId} {pos : String} {af : Array Edge} {gd : Option (Nat × Bool)}
theorem p_mkfunc {fn : Go.Fn} {first : Array Operand} {xs : List Operand} {vs : List Value} (hf : first = #[]) (hx : evs s xs = some vs) : Pu P N s ⟨d, .makeFunc fn first xs.toArray, ty, pos, af, gd⟩ (.func fn #[] vs.toArray) := fun a w hs => by
 subst hf
 have h1 := evs_ok hs hx
 have h2 : (xs.toArray.map a.eval) = vs.toArray := by rw [List.map_toArray, h1]
 simp [execOp, Instr.makeFunc, h2]
theorem evs_append : ∀ {xs : List Operand} {vs us : List Value}, evs s xs = some vs → evs s (xs ++ us.map Operand.const) = some (vs ++ us)
 | [], vs, us, h => by
  simp [evs] at h; subst h
  induction us with
  | nil => rfl
  | cons u us ih => simp only [List.nil_append] at ih; simp only [List.nil_append, List.map_cons, evs, ev, ih]
 | x :: r, vs, us, h => by
  unfold evs at h
  cases hx : ev s x with
  | none => simp [hx] at h
  | some v =>
   cases hr : evs s r with
   | none => simp [hx, hr] at h
   | some ws =>
    simp [hx, hr] at h
    subst h
    simp only [List.cons_append, evs, hx, evs_append hr]
theorem Ex.dyn {R : Value → World → Prop} {f : FuncId} {x : Operand} {xs : List Operand} {vs caps : List Value} {ats : Array TypeId} (hx : ev s x = some (.func (.func f) #[] caps.toArray)) (hv : evs s xs = some vs)
  (h : Ex P c fs os N s ⟨d, .call { callee := .value (.func f), args := (xs ++ caps.map Operand.const).toArray, argTypes := ats }, ty, pos, af, gd⟩ R) :
  Ex P c fs os N s ⟨d, .call { callee := .value x, args := xs.toArray, argTypes := ats }, ty, pos, af, gd⟩ R := Ex.mk fun a w hs hw => by
 have h0 := h.go a w hs hw
 have e1 := evs_ok hs hv
 have e2 := evs_ok hs (evs_append (us := caps) hv)
 have e3 : xs.toArray.map a.eval = vs.toArray := by rw [List.map_toArray, e1]
 have e4 : (xs ++ caps.map Operand.const).toArray.map a.eval = (vs ++ caps).toArray := by rw [List.map_toArray, e2]
 have e : (execOp a.eval ⟨d, .call { callee := .value x, args := xs.toArray, argTypes := ats }, ty, pos, af, gd⟩) = (execOp a.eval ⟨d, .call { callee := .value (.func f), args := (xs ++ caps.map Operand.const).toArray, argTypes := ats }, ty, pos, af, gd⟩) := by
  have e5 : a.eval x = .func (.func f) #[] caps.toArray := hs.ev hx
  have e6 : a.eval (.func f) = .func (.func f) #[] #[] := rfl
  simp only [execOp, resolve, e3, e4, e5, e6, Deferred.ofValue]
  simp [invoke]
 rw [e]; exact h0
theorem Del.perm {os os' : List Own} {o : Own} (h : Del os o os') : os.Perm (o :: os') := by
 induction h with
 | here => exact List.Perm.refl _
 | there _ ih => exact (List.Perm.cons _ ih).trans (List.Perm.swap _ _ _)
theorem Take.perm {os r os' : List Own} (h : Take os r os') : os.Perm (r ++ os') := by
 induction h with
 | nil => exact List.Perm.refl _
 | cons hd _ ih => exact (Del.perm hd).trans (List.Perm.cons _ ih)
theorem q_callC {L : Prop} {f : FuncId} {xs : List Operand} {vs : List Value} {ats : Array TypeId} {fsC : List Fact} {osC : List Own} {v : Value}
  (hc : FnL' L P f vs.toArray fsC osC (ι := Unit) (fun _ => v) (fun _ => []) (fun _ => osC)) (hsoC : Solo osC) (hx : evs s xs = some vs) (ht : Take os osC os') (he : EntsB fs os' fsC) (hL : L → c.L := by exact False.elim) :
  Qo P c fs os N s ⟨d, .call { callee := .value (.func f), args := xs.toArray, argTypes := ats }, ty, pos, af, gd⟩ v :=
 Ex.weak (e_callM hc hsoC (fun _ => hsoC) hx ht he hL) fun _ _ ⟨_, _, ⟨_, hv, hf, ho⟩, hw⟩ => by
  subst hv; subst hf; subst ho
  exact ⟨rfl, hw.perm (Take.perm ht).symm⟩
theorem n_litT {t e : TypeId} {ag : Bool} {z : Value} {by_ : Nat} {α : Type} [Flat α] {parts : List (Nat × Operand)} {vs : List (Nat × Value)} {m : Nat} (l : List α) (hm : m = l.length) (hl : ∀ x : α, (Flat.enc x).length = Enc.sz α) (hw : ∀ x ∈ l, Flat.wf x) (hu : P.underlying t = some (.slice e)) (ht : TyI P e ag (Enc.sz α) z by_)
  (hp : parts.map (fun p => (p.1, ev s p.2)) = vs.map (fun p => (p.1, some p.2))) (h0 : m * Enc.sz α ≠ 0) (hb : m * Enc.sz α ≤ 16777216)
  (hf : Instr.fill (fun i => some (i * Enc.sz α, Enc.sz α)) ((Array.range (m * Enc.sz α)).map (fun j => z.cells[j % z.cells.size]!)) vs = some (l.flatMap Flat.enc).toArray) :
  EF P c fs os N s ⟨d, .buildSlice t m parts.toArray, ty, pos, af, gd⟩ (fun v fs' os' => ∃ oa cp, v = .slice oa l.length cp ∧ fs' = fs ∧ os' = tree (.slice oa l.length cp) l :: os) := fun F =>
 (e_litT (fs := fs) (os := os ++ F) l hm hl hw hu ht hp h0 hb hf).weak fun _ _ ⟨_, _, ⟨g, cp, e1, e2, e3⟩, h⟩ => ⟨_, _, ⟨g, cp, e1, e2, rfl⟩, by rw [List.cons_append, ← e3]; exact h⟩
theorem tMidC0 {x y : Code} {ι : Type} (s' : ι → Slots) (os' : ι → List Own)
  (h : Tr P c N (Exit.then (fun a w => ∃ i, Sl N (s' i) a ∧ Sta c fs (os' i) w) Q) x s fs os)
  (k : ∀ i, Tr P c N Q y (s' i) fs (os' i)) : Tr P c N (Exit.then (fun a w => y.wp P Q a w) Q) x s fs os := fun a w hs hw =>
 wp_mono (h a w hs hw) fun e a w hq => by
  cases e <;> first
   | exact hq
   | (obtain ⟨i, hs, hw⟩ := hq; exact k i a w hs hw)
theorem p_field1 {t : TypeId} {x : Operand} {f : Nat} {fields : Array Field} {fd : Field} {cs : Array Value} {v : Value} {n : Nat} {z : Value} {by_ : Nat} (hu : P.underlying t = some (.struct fields)) (hf : fields[f]? = some fd) (ht : TyI P fd.type false n z by_)
  (hx : ev s x = some (.agg cs)) (hv : cs[fd.offset]? = some v) : Pu P N s ⟨d, .field t x f, ty, pos, af, gd⟩ v := fun a w hs => by
 simp [execOp, hs.ev hx, Instr.field, run_underlying hu, hf, asAgg, part, ht.isAgg w, hv]
theorem p_fieldA {t : TypeId} {x : Operand} {f : Nat} {fields : Array Field} {fd : Field} {cs vs : Array Value} {n : Nat} {z : Value} {by_ : Nat} (hu : P.underlying t = some (.struct fields)) (hf : fields[f]? = some fd) (ht : TyI P fd.type true n z by_)
  (hx : ev s x = some (.agg cs)) (hv : cs.extract fd.offset (fd.offset + n) = vs) : Pu P N s ⟨d, .field t x f, ty, pos, af, gd⟩ (.agg vs) := fun a w hs => by
 simp [execOp, hs.ev hx, Instr.field, run_underlying hu, hf, asAgg, part, ht.isAgg w, ht.sizeOf w, hv]
def I32 (n : Int) : Prop := -2147483648 ≤ n ∧ n ≤ 2147483647
instance (n : Int) : Decidable (I32 n) := by unfold I32; infer_instance
theorem i32_in {n : Int} (h : I32 n) : IntKind.i32.wrap n = n := by
 unfold I32 at h
 show (let m := n % (2 ^ 32 : Int); if (true && decide (m ≥ (2 ^ 31 : Int))) = true then m - (2 ^ 32 : Int) else m) = n
 simp only [Bool.true_and, decide_eq_true_eq]
 split <;> omega
theorem p_add32 {t t' : TypeId} {x y : Operand} {m n : Int} (hx : ev s x = some (.int .i32 m)) (hy : ev s y = some (.int .i32 n)) (h : I32 (m + n)) : Pu P N s ⟨d, .binOp .add t x y t', ty, pos, af, gd⟩ (.int .i32 (m + n)) :=
 p_bin hx hy fun w => by
  simp only [eqGuard, binOp]
  show (pure (.int .i32 (IntKind.i32.wrap (m + n))) : Sem Value).run P w = _
  rw [i32_in h]; rfl
def s1 (n : Int) : ByteArray := ⟨#[UInt8.ofNat n.toNat]⟩
def asc (n : Int) : Prop := 0 ≤ n ∧ n < 128
instance (n : Int) : Decidable (asc n) := by unfold asc; infer_instance
theorem enc_asc : ∀ n : Fin 128, Utf8.encode (n.val : Int) = s1 (n.val : Int) := by decide +kernel
theorem p_r2s {t u : TypeId} {x : Operand} {n : Int} (ht : P.underlying t = some (.int .i32)) (hu : P.underlying u = some .string) (hx : ev s x = some (.int .i32 n)) (h : asc n) : Pu P N s ⟨d, .convert t u x, ty, pos, af, gd⟩ (.string (s1 n)) := fun a w hs => by
 have e : Utf8.encode n = s1 n := by
  have := enc_asc ⟨n.toNat, by have := h.2; have := h.1; omega⟩
  simp only [Int.toNat_of_nonneg h.1] at this
  exact this
 simp [execOp, hs.ev hx, convert, run_underlying ht, run_underlying hu, Conv.intToString, e]
def HV := { v : Value // v.oneCell' = true }
instance : Inhabited HV := ⟨⟨.bool false, rfl⟩⟩
instance : Enc HV where
  sz := 1
  pos := by omega
  Rd := fun _ _ cs n => cs = [n.1]
  len := by rintro w S cs d rfl; rfl
  one := by rintro w S cs d rfl u hu; simp at hu; subst hu; exact d.2
  keep := fun h _ _ => h
  Tr := fun _ _ cs n => cs = [n.1]
  tr_rd := fun h => h
  tr_keep := fun h _ _ => h
instance : Flat HV where
  enc := fun n => [n.1]
  wf := fun _ => True
  rd := fun h => ⟨h, trivial⟩
  tr := fun _ => rfl
instance : Shp HV where
  γ := Unit
  x0 := ()
  enc := fun n _ => [n.1]
  len' := fun _ _ => rfl
  rd := fun h => ⟨(), h⟩
instance : ShpT HV where
  wf := fun _ => True
  wfa := fun _ => trivial
  own := fun _ _ => []
  facts := fun _ _ => []
  wfr := fun _ => trivial
  un := fun h => ⟨(), h, fun _ => trivial⟩
  mkT := fun _ _ => rfl
  mkR := fun _ _ => rfl
instance : Dp HV where
  δ := Unit
  dd := ()
  denc := fun n _ => [n.1]
  drd := fun _ _ _ _ => True
  keepd := fun h _ _ => h
  op := fun h => ⟨(), h, trivial⟩
  cl := fun _ => rfl
  ok := fun _ => True
  okd := fun _ => trivial
end Go.Sx

namespace Go.Sx
open Go Go.RowKit
variable {α : Type} [Inhabited α]
theorem addI {n : Nat} : (n : Int) + 1 = ((n + 1 : Nat) : Int) := by omega
theorem sless_lt (m n : ByteArray) : sless m n = decide (m.toList < n.toList) := by
 unfold sless
 have : ∀ (x y : List UInt8), Op.bytesLess x y = decide (x < y) := by
  intro x
  induction x with
  | nil => intro y; cases y <;> simp [Op.bytesLess]
  | cons a x ih =>
   intro y
   cases y with
   | nil => simp [Op.bytesLess]
   | cons b y =>
    have hb : (a == b) = decide (a = b) := by by_cases h : a = b <;> simp [h]
    simp only [Op.bytesLess, List.cons_lt_cons_iff, ih, hb]; simp
 exact this _ _
theorem ba_inj {m n : ByteArray} (h : m.toList = n.toList) : m = n := by
 have := seq_dec m n
 rw [h] at this
 simpa using this
def ltTag (a b : ByteArray × ByteArray) : Bool := sless a.1 b.1 || (decide (a.1 = b.1) && sless a.2 b.2)
theorem sless_irr (m : ByteArray) : sless m m = false := by rw [sless_lt]; simp [List.lt_irrefl]
theorem sless_trans {m n k : ByteArray} (h : sless m n = true) (h' : sless n k = true) : sless m k = true := by
 rw [sless_lt] at *; simp only [decide_eq_true_eq] at *; exact List.lt_trans h h'
theorem sless_anti {m n : ByteArray} (h : sless m n = false) (h' : sless n m = false) : m = n := by
 rw [sless_lt] at *; simp only [decide_eq_false_iff_not, List.not_lt] at *; exact ba_inj (List.le_antisymm h' h)
theorem ltTag_irr (a : ByteArray × ByteArray) : ltTag a a = false := by simp [ltTag, sless_irr]
theorem ltTag_trans {a b c : ByteArray × ByteArray} (h : ltTag a b = true) (h' : ltTag b c = true) : ltTag a c = true := by
 simp only [ltTag, Bool.or_eq_true, Bool.and_eq_true, decide_eq_true_eq] at *
 rcases h with h | ⟨e, h⟩ <;> rcases h' with h' | ⟨e', h'⟩
 ·exact .inl (sless_trans h h')
 ·rw [← e']; exact .inl h
 ·rw [e]; exact .inl h'
 ·exact .inr ⟨e.trans e', sless_trans h h'⟩
theorem ltTag_anti {a b : ByteArray × ByteArray} (h : ltTag a b = false) (h' : ltTag b a = false) : a = b := by
 simp only [ltTag, Bool.or_eq_false_iff, Bool.and_eq_false_iff, decide_eq_false_iff_not] at *
 have e := sless_anti h.1 h'.1
 have e2 := sless_anti (h.2.resolve_left (fun k => k e)) (h'.2.resolve_left (fun k => k e.symm))
 exact Prod.ext e e2
theorem ltTag_asym {a b : ByteArray × ByteArray} (h : ltTag a b = true) : ltTag b a = false := by
 cases hc : ltTag b a with
 | false => rfl
 | true => have := ltTag_trans h hc; rw [ltTag_irr] at this; cases this
theorem ltTag_nt {a b c : ByteArray × ByteArray} (h : ltTag a b = false) (h' : ltTag b c = false) : ltTag a c = false := by
 cases hc : ltTag a c with
 | false => rfl
 | true =>
  cases hb : ltTag b a with
  | true => have := ltTag_trans hb hc; rw [h'] at this; cases this
  | false => have e := ltTag_anti h hb; subst e; rw [h'] at hc; cases hc
def ltP {β : Type} (x y : (ByteArray × ByteArray) × β) : Bool := ltTag x.1 y.1
theorem ltP_swo {β : Type} : Sort.SWO (ltP (β := β)) := ⟨fun _ => ltTag_irr _, fun _ _ _ => ltTag_trans, fun _ _ _ => ltTag_nt⟩
end Go.Sx

namespace Go.Sx
open Go Go.RowKit
theorem FnL.call {L : Prop} {P : Program} {c : Ctx} {fs : List Fact} {os os' : List Own} {ι : Type} {f : FuncId} {args : Array Value} {fsC : List Fact} {osC : List Own} {rv : ι → Value} {osR : ι → List Own}
  (hc : FnL L P f args fsC osC rv (fun _ => []) osR) (hsoC : Solo osC) (hsolo : ∀ i, Solo (osR i)) (ht : Take os osC os') (he : EntsB fs os' fsC) {w : World} (hw : Sta c fs os w) (hL : L → c.L := by exact False.elim) :
  Calls P f args w fun e w' => ∃ i, e = .returned (rv i) ∧ Sta c fs (osR i ++ os') w' := by
 obtain ⟨I, S, hst⟩ := hw
 obtain ⟨S1, S2, m1, m2, dj, h1, h2⟩ := ht.sep hst.own
 refine (hc w (fun b => I b ∨ S2 b) S1 ⟨fun f hf => he f hf w I S2 hst.facts h2, hsoC.sep h1, fun b hi hs => hi.elim (fun hi => hst.dj b hi (m1 b hs)) (fun h => dj b hs h), fun b hb => hb.elim (hst.ilt b) (fun h => hst.slt b (m2 b h)), fun b hb => hst.slt b (m1 b hb), fun _ => .inl, fun _ => .inl, fun _ h => h, Frm.refl _ _⟩).mono ?_
 rintro e w' ⟨i, rfl, I', S', h'⟩
 refine ⟨i, rfl, I, fun b => S' b ∨ S2 b, ?_⟩
 have hsame : ∀ b, b < w.heap.size → ¬ S1 b → w'.heap[b]? = w.heap[b]? := fun b hb hn => h'.frm.block b hb hn
 have hsz := h'.frm.size
 have hI : Same I w w' := fun b hb => hsame b (hst.ilt b hb) fun h => hst.dj b hb (m1 b h)
 have hS2 : Same S2 w w' := fun b hb => hsame b (hst.slt b (m2 b hb)) fun h => dj b h hb
 have hS'2 : ∀ b, S' b → S2 b → False := fun b h1 h2 => (h'.snew b h1).elim (fun h => dj b h h2) (fun h => by simp only at h; have := hst.slt b (m2 b h2); omega)
 refine ⟨fun f hf => f.keep (hst.facts f hf) hI (fun _ h => h), Sep.append hS'2 ((hsolo i).sep h'.own) (h2.keep hI hS2 (fun _ h => h) (fun _ h => h)), fun b hi hb => ?_, fun b hb => Nat.lt_of_lt_of_le (hst.ilt b hb) hsz, fun b hb => ?_, hst.inew, fun b hb => ?_, hst.i0,
  ⟨h'.frm.os.trans hst.frm.os, (h'.frm.tape.wk hL).trans hst.frm.tape, h'.frm.output.trans hst.frm.output, Nat.le_trans hst.frm.size hsz, fun b hb hx => (hsame b (Nat.lt_of_lt_of_le hb hst.frm.size) fun h => ?_).trans (hst.frm.block b hb hx)⟩⟩
 ·rcases hb with hb | hb
  ·rcases h'.snew b hb with h | h
   ·exact hst.dj b hi (m1 b h)
   ·simp only at h; have := hst.ilt b hi; omega
  ·exact hst.dj b hi (m2 b hb)
 ·rcases hb with hb | hb
  ·exact h'.slt b hb
  ·exact Nat.lt_of_lt_of_le (hst.slt b (m2 b hb)) hsz
 ·rcases hb with hb | hb
  ·rcases h'.snew b hb with h | h
   ·exact hst.snew b (m1 b h)
   ·exact .inr (Nat.le_trans hst.frm.size h)
  ·exact hst.snew b (m2 b hb)
 ·rcases hst.snew b (m1 b h) with h | h
  ·exact hx h
  ·omega
theorem Sep.ofList {τ : Type} {w : World} {I : Blks} : ∀ (q : List τ) (f : τ → Own) (Ss : Nat → Blks), (∀ i j, i < j → j < q.length → ∀ b, Ss i b → Ss j b → False) → (∀ i (h : i < q.length), (f q[i]).ok w I (Ss i)) → Sep (q.map f) w I (fun b => ∃ i, i < q.length ∧ Ss i b)
 | [], _, _, _, _ => trivial
 | _ :: q, f, Ss, hd, h => ⟨Ss 0, fun b => ∃ i, i < q.length ∧ Ss (i + 1) b, fun _ hb => ⟨0, Nat.succ_pos _, hb⟩, fun _ ⟨i, hi, hb⟩ => ⟨i + 1, Nat.succ_lt_succ hi, hb⟩,
   fun b h0 ⟨i, hi, hb⟩ => hd 0 (i + 1) (Nat.succ_pos _) (Nat.succ_lt_succ hi) b h0 hb, h 0 (Nat.succ_pos _),
   Sep.ofList q f (fun i => Ss (i + 1)) (fun i j hij hj => hd (i + 1) (j + 1) (Nat.succ_lt_succ hij) (Nat.succ_lt_succ hj)) (fun i hi => h (i + 1) (Nat.succ_lt_succ hi))⟩
theorem Sep.toList {τ : Type} {w : World} {I : Blks} : ∀ (q : List τ) (f : τ → Own) {S : Blks}, Sep (q.map f) w I S → ∃ Ss : Nat → Blks, (∀ i, i < q.length → ∀ b, Ss i b → S b) ∧ (∀ i j, i < j → j < q.length → ∀ b, Ss i b → Ss j b → False) ∧ ∀ i (h : i < q.length), (f q[i]).ok w I (Ss i)
 | [], _, _, _ => ⟨fun _ _ => False, fun _ h => absurd h (Nat.not_lt_zero _), fun _ _ _ h => absurd h (Nat.not_lt_zero _), fun _ h => absurd h (Nat.not_lt_zero _)⟩
 | x :: q, f, S, ⟨A, B, mA, mB, dj, hx, hr⟩ => by
  obtain ⟨Ss, k1, k2, k3⟩ := Sep.toList q f hr
  refine ⟨fun i => match i with | 0 => A | i + 1 => Ss i, fun i hi b hb => ?_, fun i j hij hj b h1 h2 => ?_, fun i hi => ?_⟩
  ·cases i with
   | zero => exact mA b hb
   | succ i => exact mB b (k1 i (Nat.lt_of_succ_lt_succ hi) b hb)
  ·cases j with
   | zero => omega
   | succ j =>
    cases i with
    | zero => exact dj b h1 (k1 j (Nat.lt_of_succ_lt_succ hj) b h2)
    | succ i => exact k2 i j (by omega) (Nat.lt_of_succ_lt_succ hj) b h1 h2
  ·cases i with
   | zero => exact hx
   | succ i => exact k3 i (Nat.lt_of_succ_lt_succ hi)
variable {α γ : Type} [Flat α] [Enc γ] {c : Ctx} {fs : List Fact} {os os1 : List Own} {w : World}
abbrev stR (q : List ((α × List γ) × HV)) : List (α × HV) := q.map fun p => (p.1.1, p.2)
abbrev stO (q : List ((α × List γ) × HV)) : List Own := q.map fun p => tree p.2.1 p.1.2
abbrev stL (q : List ((α × List γ) × HV)) : List (α × List γ) := q.map fun p => p.1
theorem Sta.unnest {v : Value} {l : List (α × List γ)} (h : Sta c fs os w) (ht : Take os [tree v l] os1) : ∃ q : List ((α × List γ) × HV), stL q = l ∧ Sta c fs (tree v (stR q) :: (stO q ++ os1)) w := by
 obtain ⟨I, S, hst⟩ := h
 obtain ⟨S1, S2, m1, m2, dj, ho, hr⟩ := ht.sep hst.own
 obtain ⟨A, B, mA, mB, _, hv, _⟩ := ho
 rcases hv with ⟨e1, e2⟩ | ⟨g, cap, cur, ty, e, hg, hh, h1, h2, h3, Ss, k1, k2, k3⟩
 ·subst e2
  refine ⟨[], rfl, I, S, hst.facts, ?_, hst.dj, hst.ilt, hst.slt, hst.inew, hst.snew, hst.i0, hst.frm⟩
  exact ⟨fun _ => False, S2, fun _ h => h.elim, m2, fun _ h _ => h, .inl ⟨e1, rfl⟩, hr⟩
 ·have pc : ∀ i (hi : i < l.length), ∃ (h : HV) (S0 : Blks), (cur.toList.drop (i * Enc.sz (α × List γ))).take (Enc.sz (α × List γ)) = Flat.enc (l[i].1, h) ∧ Flat.wf l[i].1 ∧ (∀ b, S0 b → Ss i b) ∧ TrL w S0 h.1 l[i].2 := fun i hi => by
   obtain ⟨c1, c2, T1, T2, ec, n1, n2, _, t1, ⟨u, rfl, t2⟩⟩ := k3 i hi
   obtain ⟨rfl, wf⟩ := Flat.rd (Enc.tr_rd t1)
   have h1 : u.oneCell' = true := by
    rcases t2 with ⟨rfl, _⟩ | ⟨_, _, _, _, rfl, _⟩ <;> rfl
   exact ⟨⟨u, h1⟩, T2, ec, wf, n2, t2⟩
  have pc' : ∀ i, ∃ (h : HV) (S0 : Blks), ∀ (hi : i < l.length), (cur.toList.drop (i * Enc.sz (α × List γ))).take (Enc.sz (α × List γ)) = Flat.enc (l[i].1, h) ∧ Flat.wf l[i].1 ∧ (∀ b, S0 b → Ss i b) ∧ TrL w S0 h.1 l[i].2 := fun i => by
   by_cases hi : i < l.length
   ·obtain ⟨h, S0, k⟩ := pc i hi
    exact ⟨h, S0, fun _ => k⟩
   ·exact ⟨default, fun _ => False, fun h => absurd h hi⟩
  obtain ⟨X, hX⟩ := Classical.axiomOfChoice pc'
  obtain ⟨T, hT⟩ := Classical.axiomOfChoice hX
  have eL : stL ((List.range l.length).attach.map fun i => ((l[i.1]'(List.mem_range.1 i.2), X i.1) : (α × List γ) × HV)) = l := by
   apply List.ext_getElem
   ·simp
   ·intro i h1 h2; simp
  refine ⟨(List.range l.length).attach.map fun i => (l[i.1]'(List.mem_range.1 i.2), X i.1), eL, I, S, hst.facts, ?_, hst.dj, hst.ilt, hst.slt, hst.inew, hst.snew, hst.i0, hst.frm⟩
  have len : ((List.range l.length).attach.map fun i => ((l[i.1]'(List.mem_range.1 i.2), X i.1) : (α × List γ) × HV)).length = l.length := by simp
  have get : ∀ i (hi : i < l.length), ((List.range l.length).attach.map fun i => ((l[i.1]'(List.mem_range.1 i.2), X i.1) : (α × List γ) × HV))[i]'(by rw [len]; exact hi) = (l[i], X i) := fun i hi => by simp
  generalize ((List.range l.length).attach.map fun i => ((l[i.1]'(List.mem_range.1 i.2), X i.1) : (α × List γ) × HV)) = q at *
  refine ⟨fun b => b = g, fun b => (∃ i, i < q.length ∧ T i b) ∨ S2 b, fun b e => e ▸ m1 g (mA g hg), fun b hb => hb.elim (fun ⟨i, hi, hb⟩ => m1 b (mA b (k1 i (by omega) b ((hT i (by omega)).2.2.1 b hb)).1)) (m2 b), fun b e hb => ?_, ?_, ?_⟩
  ·subst e
   rcases hb with ⟨i, hi, hb⟩ | hb
   ·exact (k1 i (by omega) b ((hT i (by omega)).2.2.1 b hb)).2 rfl
   ·exact dj b (mA b hg) hb
  ·refine .inr ⟨g, cap, cur, ty, by rw [e, List.length_map, len], rfl, hh, by rw [List.length_map, len]; exact h1, h2, h3, fun _ _ => False, fun _ _ _ h => h.elim, fun _ _ _ _ _ h => h.elim, fun i hi => ?_⟩
   have hi' : i < l.length := by rw [List.length_map, len] at hi; exact hi
   obtain ⟨p1, p2, _, _⟩ := hT i hi'
   have : (stR q)[i] = (l[i].1, X i) := by rw [List.getElem_map, get i hi']
   rw [this]
   show Enc.Tr w _ ((cur.toList.drop (i * Enc.sz (α × List γ))).take (Enc.sz (α × List γ))) _
   rw [p1]
   exact Flat.tr ⟨p2, trivial⟩
  ·refine Sep.append (fun b h1 h2 => ?_) (Sep.ofList q _ T (fun i j hij hj b h1 h2 => k2 i j hij (by omega) b ((hT i (by omega)).2.2.1 b h1) ((hT j (by omega)).2.2.1 b h2)) (fun i hi => ?_)) hr
   ·obtain ⟨i, hi, hb⟩ := h1
    exact dj b (mA b (k1 i (by omega) b ((hT i (by omega)).2.2.1 b hb)).1) h2
   ·have hi' : i < l.length := by omega
    rw [get i hi']
    exact (hT i hi').2.2.2
theorem Sta.nest {v : Value} {q : List ((α × List γ) × HV)} (h : Sta c fs (tree v (stR q) :: (stO q ++ os1)) w) : Sta c fs (tree v (stL q) :: os1) w := by
 obtain ⟨I, S, hst⟩ := h
 obtain ⟨A, B, mA, mB, dj, hv, hr⟩ := hst.own
 obtain ⟨C, D, mC, mD, dj2, h1, h2⟩ := Sep.split hr
 obtain ⟨Ss, k1, k2, k3⟩ := Sep.toList q _ h1
 refine ⟨I, S, hst.facts, ⟨fun b => A b ∨ C b, D, fun b h => h.elim (mA b) (fun h => mB b (mC b h)), fun b h => mB b (mD b h), fun b h1 h2 => h1.elim (fun h => dj b h (mD b h2)) (fun h => dj2 b h h2), ?_, h2⟩, hst.dj, hst.ilt, hst.slt, hst.inew, hst.snew, hst.i0, hst.frm⟩
 rcases hv with ⟨e1, e2⟩ | ⟨g, cap, cur, ty, e, hg, hh, n1, n2, n3, Ts, t1, t2, t3⟩
 ·refine .inl ⟨e1, ?_⟩
  have : q = [] := List.map_eq_nil_iff.1 e2
  subst this; rfl
 ·have len : (stR q).length = q.length := List.length_map ..
  have lenL : (stL q).length = q.length := List.length_map ..
  refine .inr ⟨g, cap, cur, ty, by rw [e, len, lenL], .inl hg, hh, by rw [lenL, ← len]; exact n1, n2, n3, Ss, fun i hi b hb => ⟨.inr (k1 i (by omega) b hb), fun eb => dj g hg (mC g (eb ▸ k1 i (by omega) b hb))⟩, fun i j hij hj => k2 i j hij (by omega), fun i hi => ?_⟩
  have hi' : i < q.length := by omega
  have ht := t3 i (by omega)
  obtain ⟨c1, c2, T1, T2, ec, _, _, _, f1, f2⟩ := ht
  obtain ⟨rfl, wf⟩ := Flat.rd (Enc.tr_rd f1)
  have f2 : c2 = [((stR q)[i]).2.1] := f2
  subst f2
  have e1 : (stR q)[i] = (q[i].1.1, q[i].2) := by rw [List.getElem_map]
  have e2 : (stL q)[i] = q[i].1 := by rw [List.getElem_map]
  rw [e1] at ec wf
  rw [e2]
  refine ⟨_, _, fun _ => False, Ss i, ec, fun _ h => h.elim, fun _ h => h, fun _ h _ => h, Flat.tr wf, ⟨_, rfl, k3 i hi'⟩⟩
theorem perm_map_inv {τ υ : Type} {f : τ → υ} {a b : List υ} (h : a.Perm b) : ∀ {q : List τ}, b = q.map f → ∃ q' : List τ, q'.Perm q ∧ q'.map f = a := by
 induction h with
 | nil => intro q hq; exact ⟨[], (by cases q with
  | nil => exact List.Perm.refl _
  | cons => cases hq), rfl⟩
 | cons x h ih =>
  intro q hq
  cases q with
  | nil => cases hq
  | cons y q =>
   simp only [List.map_cons, List.cons.injEq] at hq
   obtain ⟨q', h1, h2⟩ := ih hq.2
   exact ⟨y :: q', h1.cons y, by rw [List.map_cons, h2, ← hq.1]⟩
 | swap x y l =>
  intro q hq
  cases q with
  | nil => cases hq
  | cons u q =>
   cases q with
   | nil => simp at hq
   | cons z q =>
    simp only [List.map_cons, List.cons.injEq] at hq
    exact ⟨z :: u :: q, List.Perm.swap _ _ _, by simp only [List.map_cons, ← hq.1, ← hq.2.1, ← hq.2.2]⟩
 | trans h1 h2 ih1 ih2 =>
  intro q hq
  obtain ⟨q1, p1, e1⟩ := ih2 hq
  obtain ⟨q2, p2, e2⟩ := ih1 e1.symm
  exact ⟨q2, p2.trans p1, e2⟩
def leP {β : Type} (x y : (ByteArray × ByteArray) × β) : Bool := !ltTag y.1 x.1
def sortP {β : Type} (l : List ((ByteArray × ByteArray) × β)) : Option (List ((ByteArray × ByteArray) × β)) := gd (room l.length) <| gd ((l.map (·.1)).Nodup) <| some (l.mergeSort leP)
theorem sortP_one {β : Type} {l r : List ((ByteArray × ByteArray) × β)} (hn : (l.map (·.1)).Nodup) (hp : r.Perm l) (hs : r.Pairwise fun x y => ltTag y.1 x.1 = false) : r = l.mergeSort leP := by
 have hp2 : r.Perm (l.mergeSort leP) := hp.trans (List.mergeSort_perm _ _).symm
 have hs2 : (l.mergeSort leP).Pairwise fun x y => leP x y = true := List.pairwise_mergeSort (fun a b c h1 h2 => by
  simp only [leP, Bool.not_eq_true'] at *; exact ltTag_nt h2 h1) (fun a b => by
  simp only [leP, Bool.or_eq_true, Bool.not_eq_true']
  cases h : ltTag b.1 a.1 with
  | false => exact .inl rfl
  | true => exact .inr (ltTag_asym h)) l
 refine List.Perm.eq_of_pairwise (le := fun x y => leP x y = true) ?_ (hs.imp fun h => by simp only [leP, h, Bool.not_false]) hs2 hp2
 intro a b ha hb h1 h2
 simp only [leP, Bool.not_eq_true'] at h1 h2
 have e : a.1 = b.1 := ltTag_anti h2 h1
 have ha' : a ∈ l := hp.mem_iff.1 ha
 have hb' : b ∈ l := (List.mergeSort_perm l leP).mem_iff.1 hb
 have key : ∀ (l : List ((ByteArray × ByteArray) × β)), (l.map (·.1)).Nodup → ∀ a ∈ l, ∀ b ∈ l, a.1 = b.1 → a = b := by
  intro l
  induction l with
  | nil => intro _ a ha; cases ha
  | cons x l ih =>
   intro hn a ha b hb e
   simp only [List.map_cons, List.nodup_cons, List.mem_map, not_exists, not_and] at hn
   rcases List.mem_cons.1 ha with h1 | h1 <;> rcases List.mem_cons.1 hb with h2 | h2
   ·rw [h1, h2]
   ·exact absurd (h1 ▸ e.symm) (hn.1 b h2)
   ·exact absurd (h2 ▸ e) (hn.1 a h1)
   ·exact ih hn.2 a h1 b h2 e
 exact key l hn a ha' b hb' e
theorem Fn'.sortN {P : Program} {f : FuncId} {args : Array Value} {v : Value} {rv : Unit → Value} {l r : List ((ByteArray × ByteArray) × List γ)} (H : sortP l = some r) (hcf : CF P f)
  (hF : ∀ l' : List ((ByteArray × ByteArray) × HV), l'.length = l.length → ∃ r' : List ((ByteArray × ByteArray) × HV), r'.Perm l' ∧ (r'.Pairwise fun x y => ltP y x = false) ∧ Fn' P f args [] [tree v l'] rv (fun _ => []) (fun _ => [tree v r'])) :
  Fn' P f args [] [tree v l] rv (fun _ => []) (fun _ => [tree v r]) := by
 refine ⟨hcf, fun w I S hst => ?_⟩
 obtain ⟨hr, H⟩ := gd.of H
 obtain ⟨hn, H⟩ := gd.of H
 have H := Option.some.inj H
 obtain ⟨q, hq, hw⟩ := Sta.unnest ⟨I, S, hst⟩ (.cons .here .nil)
 obtain ⟨r', hp, hs, hf⟩ := hF (stR q) (by rw [← hq]; simp)
 refine (FnL.call hf.go (.tree .nil) (fun _ => .tree .nil) (.cons .here .nil) EntsB.nil hw).mono ?_
 rintro e w' ⟨i, rfl, hw'⟩
 refine ⟨(), rfl, ?_⟩
 obtain ⟨q', hp', e'⟩ := perm_map_inv hp rfl
 have hw2 : Sta ⟨w, I, S, False⟩ [] (tree v (stR q') :: (stO q' ++ [])) w' := by
  rw [show stR q' = r' from e']
  exact Sta.perm (List.Perm.cons _ (List.Perm.append_right _ (hp'.symm.map _))) hw'
 have hw3 := Sta.nest hw2
 have : stL q' = r := by
  rw [← H]
  refine sortP_one hn (by rw [← hq]; exact hp'.map _) ?_
  rw [List.pairwise_map]
  rw [← e', List.pairwise_map] at hs
  exact hs
 rw [this] at hw3
 exact hw3
end Go.Sx

namespace Go.Sx
open Go Go.RowKit
variable {P : Program} {c : Ctx} {N : Nat} {s : Slots} {fs : List Fact} {os os1 os' : List Own} {Q : Exit → Act → World → Prop} {code : Code}
variable {d : Option Tmp} {ty : TypeId} {pos : String} {af : Array Edge} {gd : Option (Nat × Bool)}
theorem q_ldeP {x : Operand} {t : TypeId} {n i j : Nat} {z : Value} {by_ : Nat} {oa : Option Addr} {E : Nat → List Value} {α : Type} [Enc α] [Inhabited α] {l : List α} (cs' : List Value) (ht : TyI P t true n z by_) (hx : ev s x = some (elp oa (i * Enc.sz α + j))) (ha : EntB fs os (arr oa E l)) (hi : i < l.length) (hn : ((E i).drop j).take n = cs') (hl : cs'.length = n) :
  Qo P c fs os N s ⟨d, .load t x, ty, pos, af, gd⟩ (.agg cs'.toArray) := qo_of fun a w I S hs hst => by
 obtain ⟨ad, rfl, _, hc, hr⟩ := ha w I S hst.facts hst.own i hi
 have hc2 : CellsAt w (ad.add (i * Enc.sz α + j)) cs' := fun q u hq => by
  rw [← hn, List.getElem?_take] at hq
  split at hq
  ·rw [List.getElem?_drop] at hq
   have := hc _ _ hq
   rw [add_add] at this
   rw [add_add, Nat.add_assoc]
   exact this
  ·cases hq
 simp [execOp, hs.ev hx, elp, run_load_agg ht hc2 hl]
theorem Sta.treeRow {α : Type} [Enc α] {v : Value} {l : List α} {w : World} (ht : Take os [tree v l] os1) (hw : Sta c fs os w) : Sta c fs (row v l :: os1) w := by
 obtain ⟨I, S, hst⟩ := hw
 obtain ⟨S1, S2, m1, m2, dj, ⟨A, _, mA, _, _, ho, _⟩, hr⟩ := ht.sep hst.own
 have ho' : TrL w A v l := ho
 rcases ho' with ⟨e1, e2⟩ | ⟨g, cap, cur, ty, e, hg, hh, h1, h2, h3, Ss, k1, k2, k3⟩
 ·exact ⟨I, S, hst.facts, ⟨fun _ => False, S2, fun _ h => h.elim, m2, fun _ h => h.elim, .inl ⟨e1, e2⟩, hr⟩, hst.dj, hst.ilt, hst.slt, hst.inew, hst.snew, hst.i0, hst.frm⟩
 ·have hN : ∀ b, (∃ i, i < l.length ∧ Ss i b) → A b ∧ b ≠ g := fun b ⟨i, hi, hb⟩ => k1 i hi b hb
  refine ⟨fun b => I b ∨ ∃ i, i < l.length ∧ Ss i b, fun b => b = g ∨ S2 b, fun f hf => f.keep (hst.facts f hf) (Same.refl _ _) (fun _ => .inl), ⟨fun b => b = g, S2, fun _ => .inl, fun _ => .inr, fun b e h => dj b (mA b (e ▸ hg)) h, ?_, hr.keep (Same.refl _ _) (Same.refl _ _) (fun _ => .inl) (fun _ h => h)⟩, fun b hi hs => ?_, fun b hi => ?_, fun b hs => ?_, fun b hi => ?_, fun b hs => ?_, fun b hb => .inl (hst.i0 b hb), hst.frm⟩
  ·exact .inr ⟨g, cap, cur, ty, e, rfl, hh, h1, h2, h3, fun i hi => Enc.keep (Enc.tr_rd (k3 i hi)) (Same.refl _ _) (fun b hb => .inr ⟨i, hi, hb⟩)⟩
  ·rcases hi with hi | hi
   ·rcases hs with rfl | hs
    ·exact hst.dj b hi (m1 b (mA b hg))
    ·exact hst.dj b hi (m2 b hs)
   ·rcases hs with rfl | hs
    ·exact (hN _ hi).2 rfl
    ·exact dj b (mA b (hN b hi).1) hs
  ·rcases hi with hi | hi
   ·exact hst.ilt b hi
   ·exact hst.slt b (m1 b (mA b (hN b hi).1))
  ·rcases hs with rfl | hs
   ·exact hst.slt _ (m1 _ (mA _ hg))
   ·exact hst.slt b (m2 b hs)
  ·rcases hi with hi | hi
   ·exact hst.inew b hi
   ·exact .inr (hst.snew b (m1 b (mA b (hN b hi).1)))
  ·rcases hs with rfl | hs
   ·exact hst.snew _ (m1 _ (mA _ hg))
   ·exact hst.snew b (m2 b hs)
theorem Tr.treeRow {α : Type} [Enc α] {v : Value} {l : List α} (ht : Take os [tree v l] os1) (k : Tr P c N Q code s fs (row v l :: os1)) : Tr P c N Q code s fs os := fun a w hs hw => k a w hs (hw.treeRow ht)
theorem n_stH {t : TypeId} {ag : Bool} {n m i j cp : Nat} {z : Value} {by_ : Nat} {x y : Operand} {oa : Option Addr} {α : Type} [Enc α] {l : List α} {cs cs' : List Value} {v : Value} (ht : TyI P t ag n z by_)
  (hx : ev s x = some (elp oa (i * Enc.sz α + j))) (hy : ev s y = some v) (hu : Take os [hole (.slice oa m cp) l i cs] os1) (hn : v.cells.size = n) (h1 : ∀ u ∈ v.cells.toList, u.oneCell' = true)
  (hl : j + n ≤ Enc.sz α) (hcl : cs.length = Enc.sz α) (he : cs.take j ++ v.cells.toList ++ cs.drop (j + n) = cs') :
  EF P c fs os N s ⟨d, .store t x y, ty, pos, af, gd⟩ (fun u fs' os'' => u = undef ∧ fs' = fs ∧ os'' = hole (.slice oa m cp) l i cs' :: os1) := fun F =>
 (e_stH (fs := fs) (os := os ++ F) (m := m) (cp := cp) (i := i) (j := j) (α := α) (l := l) ht hx hy (hu.app F) hn h1 hl hcl he).weak fun _ _ ⟨_, _, ⟨e1, e2, e3⟩, h⟩ => ⟨_, _, ⟨e1, e2, rfl⟩, by rw [List.cons_append, ← e3]; exact h⟩
end Go.Sx

namespace Go.Sx
open Go
theorem Del.mid {o : Own} {os : List Own} : ∀ ps : List Own, Del (ps ++ o :: os) o (ps ++ os)
 | [] => .here
 | _ :: ps => .there (Del.mid ps)
section
variable {P : Program} {c : Ctx} {N : Nat} {s : Slots} {fs : List Fact} {os os0 os1 : List Own}
variable {d : Option Tmp} {ty : TypeId} {pos : String} {af : Array Edge} {gd : Option (Nat × Bool)}
end
end Go.Sx

namespace Go.Sx
open Go
theorem Ents.app {fs f1 f2 : List Fact} (h1 : Ents fs f1) (h2 : Ents fs f2) : Ents fs (f1 ++ f2) := fun f hf => by
 rcases List.mem_append.1 hf with h | h
 ·exact h1 f h
 ·exact h2 f h
section
variable {P : Program} {c : Ctx} {N : Nat} {s : Slots} {fs fs0 : List Fact} {os : List Own} {Q : Exit → Act → World → Prop}
theorem tLoopF {body : Code} {ι : Type} (s' : ι → Slots) (fx : ι → List Fact) (os' : ι → List Own) (μ : ι → Nat) (i0 : ι) {osR : List Own}
  (hs : SubS s (s' i0)) (hf : Ents fs (fx i0)) (ho : Take os (os' i0) osR)
  (round : ∀ i, Tr P c N (Exit.then (fun a w => ∃ j, μ j < μ i ∧ Sl N (s' j) a ∧ Sta c (fx j ++ fs) (os' j) w) Q) body (s' i) (fx i ++ fs) (os' i)) :
  Tr P c N Q (.loop body) s fs os := tLoop s' (fun i => fx i ++ fs) os' μ i0 hs (Ents.app hf Ents.refl) ho round
theorem nLF {ι : Type} {s' : ι → Slots} {fx : ι → List Fact} {os' : ι → List Own} {μ : ι → Nat} {i : ι} (j : ι) {osR : List Own}
  (hμ : μ j < μ i) (hs : SubS s (s' j)) (hx : Ents fs (fx j)) (hf : Ents fs fs0) (ho : Take os (os' j) osR) :
  At c N s fs os (Exit.then (fun a w => ∃ j, μ j < μ i ∧ Sl N (s' j) a ∧ Sta c (fx j ++ fs0) (os' j) w) Q .normal) :=
 fun _ _ h1 h2 => ⟨j, hμ, h1.weak hs.lk, h2.weak (Ents.app hx hf) ho⟩
theorem tMidNF {x : Code} {ι : Type} (s' : ι → Slots) (fx : ι → List Fact) (os' : ι → List Own)
  (h : Tr P c N (Exit.then (fun a w => ∃ i, Sl N (s' i) a ∧ Sta c (fx i ++ fs) (os' i) w) Q) x s fs os)
  (k : ∀ i, At c N (s' i) (fx i ++ fs) (os' i) (Q .normal)) : Tr P c N Q x s fs os := tMidN s' (fun i => fx i ++ fs) os' h k
theorem nMF {ι : Type} {s' : ι → Slots} {fx : ι → List Fact} {os' : ι → List Own} (j : ι) {osR : List Own} (hs : SubS s (s' j)) (hx : Ents fs (fx j)) (hf : Ents fs fs0) (ho : Take os (os' j) osR) :
  At c N s fs os (Exit.then (fun a w => ∃ i, Sl N (s' i) a ∧ Sta c (fx i ++ fs0) (os' i) w) Q .normal) :=
 fun _ _ h1 h2 => ⟨j, h1.weak hs.lk, h2.weak (Ents.app hx hf) ho⟩
end
end Go.Sx

namespace Go.Sx
open Go Go.RowKit
def orow {α : Type} [Enc α] (v : Value) (l : List α) : Own :=
  ⟨fun w I S => (v = .slice none 0 0 ∧ l = []) ∨
      ∃ g o cap cur ty, v = .slice (some ⟨g, o, none⟩) l.length cap ∧ S g ∧ w.heap[g]? = some (.cells cur ty (0, 0)) ∧ l.length ≤ cap ∧ cap ≤ maxLen ∧ o + cap * Enc.sz α ≤ cur.size ∧
        ∀ i (h : i < l.length), Enc.Rd w I ((cur.toList.drop (o + i * Enc.sz α)).take (Enc.sz α)) l[i],
   fun {w w' I I' S S'} h hi hs hm hm' => by
     rcases h with h | ⟨g, o, cap, cur, ty, e, hg, hh, h1, h2, h3, h4⟩
     · exact .inl h
     · exact .inr ⟨g, o, cap, cur, ty, e, hm' _ hg, (hs g hg).trans hh, h1, h2, h3, fun i hi' => Enc.keep (h4 i hi') hi hm⟩⟩
theorem addr_add (g o n : Nat) : (⟨g, o, none⟩ : Addr).add n = ⟨g, o + n, none⟩ := by
 have e : (⟨g, o, none⟩ : Addr) = (⟨g, 0, none⟩ : Addr).add o := by rw [Addr.add_lit]; simp
 rw [e, add_add, Addr.add_lit]; simp
theorem ORowL.rd {α : Type} [Enc α] {w : World} {I S : Blks} {v : Value} {l : List α} (h : (orow v l).ok w I S) : RdL w (fun b => I b ∨ S b) v l := by
 rcases h with ⟨rfl, rfl⟩ | ⟨g, o, cap, cur, ty, e, hg, hh, h1, h2, h3, h4⟩
 ·exact ⟨none, 0, rfl, Nat.le_refl _, by simp [maxLen], fun i hi => absurd hi (Nat.not_lt_zero _)⟩
 ·refine ⟨_, cap, e, h1, h2, fun i hi => ⟨_, _, rfl, .inr hg, ?_, Enc.keep (h4 i hi) (Same.refl _ _) (fun b => .inl)⟩⟩
  have := cellsAt_row hh (o + i * Enc.sz α) (Enc.sz α)
  rw [Addr.add_lit] at this
  rw [addr_add]
  simpa using this
section
variable {P : Program} {c : Ctx} {N : Nat} {s : Slots} {fs : List Fact} {os os1 os' : List Own} {Q : Exit → Act → World → Prop} {code : Code}
variable {d : Option Tmp} {ty : TypeId} {pos : String} {af : Array Edge} {gd : Option (Nat × Bool)}
theorem EntB.orow {fs : List Fact} {os : List Own} {α : Type} [Enc α] {v : Value} {l : List α} (h : Has os (orow v l)) : EntB fs os (imm v l) := fun w I S _ hs => by
 obtain ⟨S1, m, ho⟩ := Sep.has h hs
 exact RdL.keep (S' := fun b => I b ∨ S b) (ORowL.rd ho) (Same.refl _ _) fun b hb => hb.imp id (m b)
theorem Sta.rowO {α : Type} [Enc α] {v : Value} {l : List α} {w : World} (ht : Take os [row v l] os1) (hw : Sta c fs os w) : Sta c fs (orow v l :: os1) w := by
 refine hw.chg (r' := [Sx.orow v l]) ht fun I S S1 hst m1 ⟨A, B, mA, mB, dAB, ho, hr⟩ => ⟨S1, fun b => .inl, ⟨A, fun _ => False, mA, fun _ h => h.elim, fun _ _ h => h, ?_, trivial⟩, fun _ _ _ => rfl, Nat.le_refl _, rfl, ⟨rfl, by first | exact Nat.le_refl _ | exact Nat.le_succ _⟩, rfl⟩
 rcases ho with h | ⟨g, cap, cur, ty, e, hg, hh, h1, h2, h3, h4⟩
 ·exact .inl h
 ·exact .inr ⟨g, 0, cap, cur, ty, e, hg, hh, h1, h2, by omega, fun i hi => by rw [Nat.zero_add]; exact h4 i hi⟩
theorem Sta.treeO {α : Type} [Enc α] {v : Value} {l : List α} {w : World} (ht : Take os [tree v l] os1) (hw : Sta c fs os w) : Sta c fs (orow v l :: os1) w :=
 (hw.treeRow ht).rowO (.cons .here .nil)
theorem Tr.rowO {α : Type} [Enc α] {v : Value} {l : List α} (ht : Take os [row v l] os1) (k : Tr P c N Q code s fs (orow v l :: os1)) : Tr P c N Q code s fs os := fun a w hs hw => k a w hs (hw.rowO ht)
theorem Tr.treeO {α : Type} [Enc α] {v : Value} {l : List α} (ht : Take os [tree v l] os1) (k : Tr P c N Q code s fs (orow v l :: os1)) : Tr P c N Q code s fs os := fun a w hs hw => k a w hs (hw.treeO ht)
theorem At.rowO {F : Act → World → Prop} {α : Type} [Enc α] {v : Value} {l : List α} (ht : Take os [row v l] os1) (k : At c N s fs (orow v l :: os1) F) : At c N s fs os F := fun a w hs hw => k a w hs (hw.rowO ht)
theorem At.treeO {F : Act → World → Prop} {α : Type} [Enc α] {v : Value} {l : List α} (ht : Take os [tree v l] os1) (k : At c N s fs (orow v l :: os1) F) : At c N s fs os F := fun a w hs hw => k a w hs (hw.treeO ht)
theorem Tr.freezeO {α : Type} [Enc α] {v : Value} {l : List α} (ht : Take os [orow v l] os1) (k : Tr P c N Q code s (imm v l :: fs) os1) : Tr P c N Q code s fs os := by
 intro a w hs hw
 obtain ⟨I, S, hst⟩ := hw
 obtain ⟨S1, S2, m1, m2, dj, ⟨A, _, mA, _, _, ho, _⟩, hr⟩ := ht.sep hst.own
 refine k a w hs ⟨fun b => I b ∨ S1 b, S2, fun g hg => ?_, hr.keep (Same.refl _ _) (Same.refl _ _) (fun _ => .inl) (fun _ h => h), fun b hi hs => ?_, fun b hi => ?_, fun b hb => hst.slt b (m2 b hb), fun b hi => ?_, fun b hb => hst.snew b (m2 b hb), fun b hb => .inl (hst.i0 b hb), hst.frm⟩
 ·rcases List.mem_cons.1 hg with rfl | hg
  ·exact RdL.keep (S' := fun b => I b ∨ S1 b) (ORowL.rd ho) (Same.refl _ _) (fun b hb => hb.imp id (mA b))
  ·exact g.keep (hst.facts g hg) (Same.refl _ _) (fun _ => .inl)
 ·rcases hi with hi | hi
  ·exact hst.dj b hi (m2 b hs)
  ·exact dj b hi hs
 ·exact hi.elim (hst.ilt b) (fun h => hst.slt b (m1 b h))
 ·rcases hi with hi | hi
  ·exact hst.inew b hi
  ·exact .inr (hst.snew b (m1 b hi))
theorem Sta.olenO {α : Type} [Enc α] {w : World} {oa : Option Addr} {n cp : Nat} {l : List α} (h : Has os (orow (.slice oa n cp) l)) (hw : Sta c fs os w) : n = l.length := by
 obtain ⟨I, S, hst⟩ := hw
 obtain ⟨S1, _, ho⟩ := Sep.has h hst.own
 obtain ⟨_, _, e, _⟩ := ORowL.rd ho
 injection e
theorem Tr.olenO {α : Type} [Enc α] {oa : Option Addr} {n cp : Nat} {l : List α} (h : Has os (orow (.slice oa n cp) l)) (k : n = l.length → Tr P c N Q code s fs os) : Tr P c N Q code s fs os :=
 fun a w hs hw => k (hw.olenO h) a w hs hw
theorem At.olenO {F : Act → World → Prop} {α : Type} [Enc α] {oa : Option Addr} {n cp : Nat} {l : List α} (h : Has os (orow (.slice oa n cp) l)) (k : n = l.length → At c N s fs os F) : At c N s fs os F :=
 fun a w hs hw => k (hw.olenO h) a w hs hw
theorem e_slO {x : Operand} {t e : TypeId} {ag : Bool} {z : Value} {by_ : Nat} {α : Type} [Enc α] {oa : Option Addr} {n cap : Nat} {l : List α} {lo hi : Option Operand} (a b : Int) (hu : P.underlying t = some (.slice e)) (ht : TyI P e ag (Enc.sz α) z by_)
  (hx : ev s x = some (.slice oa n cap)) (hlo : lo.map (ev s) = (if lo.isSome then some (some (.int .i64 a)) else none)) (ha : lo = none → a = 0) (hhi : hi.map (ev s) = (if hi.isSome then some (some (.int .i64 b)) else none)) (hb : hi = none → b = (l.length : Int)) (h : sl2 a b l.length) (htk : Take os [orow (.slice oa n cap) l] os1) (hh : Has os (orow (.slice oa n cap) l)) :
  Eo P c fs os N s ⟨d, .slice t x lo hi none, ty, pos, af, gd⟩ (fun v fs' os' => ∃ oa' cp', v = .slice oa' ((l.take b.toNat).drop a.toNat).length cp' ∧ fs' = fs ∧ os' = orow (.slice oa' ((l.take b.toNat).drop a.toNat).length cp') ((l.take b.toNat).drop a.toNat) :: os1) := Ex.mk fun a0 w hs hw => by
 refine ((q_slF (c := c) (fs := fs) (os := os) (d := d) (ty := ty) (pos := pos) (af := af) (gd := gd) a b hu ht hx hlo ha hhi hb h (EntB.orow hh)).go a0 w hs hw).mono ?_
 rintro v w' ⟨rfl, hw'⟩
 refine ⟨fs, _, ⟨_, _, rfl, rfl, rfl⟩, ?_⟩
 have hab : a.toNat ≤ b.toNat := h.le
 have hbl : b.toNat ≤ l.length := h.lt
 have hn := hw'.olenO hh
 subst hn
 generalize a.toNat = a at *
 generalize b.toNat = b at *
 have hlen : ((l.take b).drop a).length = b - a := by simp; omega
 refine hw'.chg (r' := [Sx.orow (.slice (subA oa cap a (Enc.sz α)) ((l.take b).drop a).length (cap - a)) ((l.take b).drop a)]) htk fun I S S1 hst m1 ⟨A, B, mA, mB, dAB, ho, hr⟩ => ⟨S1, fun b => .inl, ⟨A, fun _ => False, mA, fun _ h => h.elim, fun _ _ h => h, ?_, trivial⟩, fun _ _ _ => rfl, Nat.le_refl _, rfl, ⟨rfl, by first | exact Nat.le_refl _ | exact Nat.le_succ _⟩, rfl⟩
 rcases ho with ⟨e, rfl⟩ | ⟨g, o, cap', cur, bt, e, hg, hp, h1, h2, h3, h4⟩
 ·injection e with e1 e2 e3
  subst e1 e3
  have ha0 : a = 0 := by simp at hbl; omega
  subst ha0
  left
  simp [subA]
 ·injection e with e1 e2 e3
  subst e1 e3
  right
  by_cases hc : cap = a
  ·refine ⟨g, o, cap - a, cur, bt, by unfold subA; rw [if_pos hc], hg, hp, by rw [hlen]; omega, by omega, by have := Nat.mul_le_mul_right (Enc.sz α) (show cap - a ≤ cap by omega); omega, fun i hi => ?_⟩
   rw [hlen] at hi; omega
  ·refine ⟨g, o + a * Enc.sz α, cap - a, cur, bt, by unfold subA; rw [if_neg hc]; simp [addr_add], hg, hp, by rw [hlen]; omega, by omega, ?_, fun i hi => ?_⟩
   ·have : a * Enc.sz α + (cap - a) * Enc.sz α = cap * Enc.sz α := by rw [← Nat.add_mul]; congr 1; omega
    omega
   ·rw [hlen] at hi
    have h5 := h4 (a + i) (by omega)
    rw [Nat.add_mul, ← Nat.add_assoc] at h5
    have : ((l.take b).drop a)[i]'(by rw [hlen]; exact hi) = l[a + i]'(by omega) := by simp
    rw [this]; exact h5
theorem run_append_off {P : Program} (w : World) (t ty e : TypeId) (i : TypeInfo) (z : Value) (ht : P.underlying t = some (.slice e)) (hi : P.info? e = some i) (hz : i.zero = some z) (hzs : z.cells.size = i.size)
  (g o n cap : Nat) (cur : Array Value) (bt : TypeId) (hh : w.heap[g]? = some (.cells cur bt (0, 0))) (hle : n ≤ cap) (hmax : cap ≤ maxLen) (hsz : o + cap * i.size ≤ cur.size)
  (ad : Addr) (m c : Nat) (news : List Value) (hm : 0 < m) (hl : news.length = m * i.size) (hn : CellsAt w ad news) (h1 : ∀ u ∈ news, u.oneCell' = true)
  (hb : (n + m) * i.bytes ≤ 140737488355328) (h63 : n + m ≤ 9223372036854775807) :
  ∃ g' o' cap' cur' bt' w', (Builtin.append_ #[t, t] ty #[.slice (some ⟨g, o, none⟩) n cap, .slice (some ad) m c]).run P w = .ok (.slice (some ⟨g', o', none⟩) (n + m) cap') w' ∧ w'.os = w.os ∧ TD w w' ∧ w'.output = w.output ∧ w.heap.size ≤ w'.heap.size ∧
   w'.heap[g']? = some (.cells cur' bt' (0, 0)) ∧ n + m ≤ cap' ∧ cap' ≤ maxLen ∧ o' + cap' * i.size ≤ cur'.size ∧
   (cur'.toList.drop o').take ((n + m) * i.size) = (cur.toList.drop o).take (n * i.size) ++ news ∧ g' < w'.heap.size ∧
   (∀ b, b < w.heap.size → b ≠ g' → w'.heap[b]? = w.heap[b]?) ∧ (g' = g ∨ g' = w.heap.size) := by
 have hcell : ∀ j u, news[j]? = some u → w.cell? (ad.add j) = some u := hn
 have hzc : ∀ k, (Builtin.zeroCells z.cells k).size = k * i.size := fun k => by rw [size_zeroCells, hzs]
 have hnc : n * i.size ≤ cap * i.size := Nat.mul_le_mul_right _ hle
 have hcl : cur.toList.length = cur.size := Array.length_toList
 by_cases hroom : n + m ≤ cap
 ·have hmc : (n + m) * i.size ≤ cap * i.size := Nat.mul_le_mul_right _ hroom
  rw [Nat.add_mul] at hmc
  have hfit : o + n * i.size + news.length ≤ cur.size := by rw [hl]; omega
  have hf := run_firstCells_some (P := P) w i.size m ad m c news hl hcell
  have hst := run_storeCells_at P g (o + n * i.size) bt news 0 cur w hh (by simpa using hfit) h1
  simp only [Nat.add_zero] at hst
  have hrun : (Builtin.append_ #[t, t] ty #[.slice (some ⟨g, o, none⟩) n cap, .slice (some ad) m c]).run P w =
    .ok (.slice (some ⟨g, o, none⟩) (n + m) cap) (w.setRow g (cur.toList.take (o + n * i.size) ++ news ++ cur.toList.drop (o + n * i.size + news.length)).toArray) := by
   simp [Builtin.append_, run_underlying ht, sizeOf, typeInfo, hi, Builtin.lenOf, hroom, hf, addr_add, hst]
  have hlt : g < w.heap.size := (Array.getElem?_eq_some_iff.1 hh).1
  refine ⟨g, o, cap, _, bt, _, hrun, rfl, ⟨rfl, by first | exact Nat.le_refl _ | exact Nat.le_succ _⟩, rfl, by simp [World.setRow], setRow_heap w g cur _ bt _ hh, hroom, hmax, ?_, ?_, by simpa [World.setRow] using hlt, fun b _ hb' => setRow_other w g b _ hb', .inl rfl⟩
  ·simp only [List.size_toArray, List.length_append, List.length_take, List.length_drop, hcl]
   omega
  ·have ho : o ≤ (cur.toList.take (o + n * i.size)).length := by rw [List.length_take]; omega
   have h2 : ((cur.toList.take (o + n * i.size)).drop o).length = n * i.size := by rw [List.length_drop, List.length_take]; omega
   show ((cur.toList.take (o + n * i.size) ++ news ++ cur.toList.drop (o + n * i.size + news.length)).drop o).take ((n + m) * i.size) = _
   rw [List.append_assoc, List.drop_append_of_le_length ho, ← List.append_assoc, List.take_append_of_le_length (by rw [List.length_append, h2, hl, Nat.add_mul]; exact Nat.le_refl _), List.take_of_length_le (by rw [List.length_append, h2, hl, Nat.add_mul]; exact Nat.le_refl _), List.drop_take]
   congr 2
   omega
 ·have hlo : ((cur.toList.drop o).take (n * i.size)).length = n * i.size := by rw [List.length_take, List.length_drop]; omega
  have holds : ∀ j u, ((cur.toList.drop o).take (n * i.size))[j]? = some u → w.cell? ((⟨g, o, none⟩ : Addr).add j) = some u := fun j u hu => by
   rw [addr_add, cell_of_row w g _ cur bt (0, 0) hh]
   rw [List.getElem?_take] at hu
   split at hu
   ·rw [List.getElem?_drop] at hu; simpa using hu
   ·cases hu
  have hrun := run_append_grow (P := P) w t ty e i z ht hi hz ⟨g, o, none⟩ n cap _ hlo holds ad m c news hl hcell (by omega) (by omega) (growslice_fits (by omega) hb)
  have hge := grownCap_ge w (n + m) cap e
  have hle2 := grownCap_le_maxLen w (n + m) cap e (by simp [maxLen]; omega)
  refine ⟨w.heap.size, 0, _, _, e, _, hrun, rfl, ⟨rfl, by first | exact Nat.le_refl _ | exact Nat.le_succ _⟩, rfl, by simp, Go.heap_alloc_new w.drew _, hge, hle2, ?_, ?_, by simp, fun b hb' _ => Below.heap_alloc w.drew _ b hb', .inr rfl⟩
  ·rw [Array.size_append, Array.size_append, hzc]
   simp only [List.size_toArray, hlo, hl]
   rw [← Nat.add_mul, ← Nat.add_mul]
   have := Nat.mul_le_mul_right i.size (show grownCap w (n + m) cap e ≤ n + m + (grownCap w (n + m) cap e - (n + m)) by omega)
   omega
  ·have hlen : ((cur.toList.drop o).take (n * i.size) ++ news).length = (n + m) * i.size := by rw [List.length_append, hlo, hl, Nat.add_mul]
   simp only [Array.toList_append, List.drop_zero]
   rw [← hlen]
   exact List.take_left
theorem ORowL.append {α : Type} [Enc α] {w w' : World} {I S : Blks} {l : List α} {u : α} {g o : Nat} {cur : Array Value} {news : List Value} (hg : S g)
  (hel : ∀ i (h : i < l.length), Enc.Rd w I ((cur.toList.drop (o + i * Enc.sz α)).take (Enc.sz α)) l[i]) (hle : o + l.length * Enc.sz α ≤ cur.size)
  (hIlt : ∀ b, I b → b < w.heap.size) (hIS : ∀ b, I b → S b → False) (hu : Enc.Rd w I news u)
  {g' o' cap' : Nat} {cur' : Array Value} {bt' : TypeId} (hh' : w'.heap[g']? = some (.cells cur' bt' (0, 0))) (h1 : l.length + 1 ≤ cap') (h2 : cap' ≤ maxLen) (h3 : o' + cap' * Enc.sz α ≤ cur'.size)
  (hcur : (cur'.toList.drop o').take ((l.length + 1) * Enc.sz α) = (cur.toList.drop o).take (l.length * Enc.sz α) ++ news)
  (hsame : ∀ b, b < w.heap.size → b ≠ g' → w'.heap[b]? = w.heap[b]?) (hgg : g' = g ∨ g' = w.heap.size) :
  (orow (.slice (some ⟨g', o', none⟩) (l.length + 1) cap') (l ++ [u])).ok w' I (fun b => S b ∨ b = g') := by
 have hIg : ∀ b, I b → b ≠ g' := fun b hb e => by
  subst e
  rcases hgg with rfl | h
  ·exact hIS _ hb hg
  ·have := hIlt _ hb; omega
 have hsI : Same I w w' := fun b hb => hsame b (hIlt b hb) (hIg b hb)
 refine .inr ⟨g', o', cap', cur', bt', by rw [List.length_append, List.length_singleton], .inr rfl, hh', by rw [List.length_append, List.length_singleton]; exact h1, h2, h3, fun i hi => ?_⟩
 rw [List.length_append, List.length_singleton] at hi
 have hla : ((cur.toList.drop o).take (l.length * Enc.sz α)).length = l.length * Enc.sz α := by
  have hcl : cur.toList.length = cur.size := Array.length_toList
  rw [List.length_take, List.length_drop]; omega
 have key := take_drop_append (n := l.length) (m := 1) (sz := Enc.sz α) (i := i) hcur hla hi
 rw [List.drop_drop] at key
 rw [key]
 split
 ·rename_i hlt
  rw [List.getElem_append_left hlt, List.drop_take, List.drop_drop, List.take_take]
  have hm : i * Enc.sz α + Enc.sz α ≤ l.length * Enc.sz α := by
   have := Nat.mul_le_mul_right (Enc.sz α) (show i + 1 ≤ l.length by omega)
   rw [Nat.add_mul] at this
   omega
  rw [Nat.min_eq_left (by omega)]
  exact Enc.keep (hel i hlt) hsI (fun _ h => h)
 ·rename_i hge
  have hil : i = l.length := by omega
  subst hil
  rw [List.getElem_append_right (by omega)]
  simp only [Nat.sub_self, Nat.zero_mul, List.drop_zero, List.getElem_singleton]
  rw [List.take_of_length_le (by rw [Enc.len hu]; exact Nat.le_refl _)]
  exact Enc.keep hu hsI (fun _ h => h)
theorem e_app1Oi {t e : TypeId} {ag : Bool} {z : Value} {by_ : Nat} {α : Type} [ShpT α] {x y : Operand} {oa : Option Addr} {n cp g : Nat} {bt : TypeId} {cs : List Value} {l : List α} (u : α) (X : Shp.γ α) (hu : P.underlying t = some (.slice e)) (ht : TyI P e ag (Enc.sz α) z by_)
  (hx : ev s x = some (.slice oa n cp)) (hy : ev s y = some (.slice (some ⟨g, 0, none⟩) 1 1)) (hb : (l.length + 1) * by_ ≤ 140737488355328) (h63 : l.length + 1 ≤ 9223372036854775807) (hcs : cs = Shp.enc u X)
  (htk : Take os [orow (.slice oa n cp) l, box g bt cs] os1) (hf : Ent fs (imms (Shp.enc u X) u)) :
  Eo P c fs os N s ⟨d, .call { callee := .builtin .append, args := #[x, y], argTypes := #[t, t] }, ty, pos, af, gd⟩ (fun v fs' os' => ∃ oa' cp', v = .slice oa' (l ++ [u]).length cp' ∧ fs' = fs ∧ os' = orow (.slice oa' (l ++ [u]).length cp') (l ++ [u]) :: os1) := Ex.mk fun a w hs hw => by
 obtain ⟨I, S, hst⟩ := id hw
 obtain ⟨S1, S2, m1, m2, dj, ⟨A, B, mA, mB, dAB, ho, hr⟩, hr2⟩ := htk.sep hst.own
 obtain ⟨B1, _, n1, _, _, ⟨hgB, hbx⟩, _⟩ := hr
 have htr : Enc.Rd w I (Shp.enc u X) u := hf w I hst.facts
 obtain ⟨i, hi, hiz, hin, hib⟩ := ht.info'
 have hcl : cs.length = Enc.sz α := by rw [hcs, Shp.len']
 have hca : CellsAt w ⟨g, 0, none⟩ cs := fun j q hq => by
  rw [Addr.add_lit, cell_of_row w g _ _ bt (0, 0) hbx]
  simpa using hq
 have h1c : ∀ u ∈ cs, u.oneCell' = true := by rw [hcs]; exact Enc.one htr
 have hlen : (l ++ [u]).length = l.length + 1 := by rw [List.length_append, List.length_singleton]
 have hzs : z.cells.size = i.size := by rw [hin]; exact ht.zn
 rcases id ho with ⟨e1, e2⟩ | ⟨g0, o, cap, cur, bt0, e1, hg, hh, h1, h2, h3, h4⟩
 ·subst e2
  injection e1 with e1 e2 e3
  subst e1 e2 e3
  obtain ⟨v', w', hrun, e1, e2, e3, hsz, hcase⟩ := run_append_raw (P := P) w t ty e i z hu hi hiz hzs (by rw [hin]; exact Enc.pos) (.slice none 0 0) 0 [] (.inl ⟨rfl, rfl, rfl⟩) (some ⟨g, 0, none⟩) 1 1 cs (by rw [hin, Nat.one_mul]; exact hcl) (fun _ => ⟨_, rfl, hca⟩) h1c (by rw [hib]; simpa using hb) (by omega)
  rw [run_app hs hx hy hrun]
  rcases hcase with ⟨h0, _⟩ | ⟨_, g', cap', cur', bt', hra, hcur, hglt, hsame, hgg⟩
  ·omega
  ·rw [hin] at hra hcur
   have hgn : g' = w.heap.size := by
    rcases hgg with ⟨_, _, _, hr⟩ | h
    ·have := hr.v; injection this with h; cases h
    ·exact h
   have hv := hra.v
   subst hv
   have hI : Same I w w' := fun b hb => hsame b (hst.ilt b hb) (by have := hst.ilt b hb; omega)
   refine ⟨fs, _, ⟨some ⟨g', 0, none⟩, cap', rfl, rfl, rfl⟩, hst.put_ (r' := [Sx.orow (.slice (some ⟨g', 0, none⟩) 1 cap') ([] ++ [u])]) (S1' := fun b => b = g') m1 m2 dj hr2 (fun b hb => .inr (by subst hb; exact ⟨by omega, hglt⟩)) ⟨fun b => b = g', fun _ => False, fun _ h => h, fun _ h => h.elim, fun _ _ h => h, ?_, trivial⟩ (fun b hb _ => hsame b hb (by omega)) hsz e1 e2 e3⟩
   refine .inr ⟨g', 0, cap', cur', bt', rfl, rfl, hra.heap, hra.le, hra.max, by have := hra.size; omega, fun i hi => ?_⟩
   have hi0 : i = 0 := by simp at hi; omega
   subst hi0
   simp only [Nat.zero_mul, Nat.add_zero, List.drop_zero, List.nil_append, List.getElem_singleton]
   have : cur'.toList.take (Enc.sz α) = cs := by simpa using hcur
   rw [this, hcs]
   exact Enc.keep htr hI (fun _ h => h)
 ·injection e1 with e1 e2 e3
  subst e1 e2 e3
  obtain ⟨g', o', cap', cur', bt', w', hrun, e1, e2, e3, hsz, hh', k1, k2, k3, hcur, hglt, hsame, hgg⟩ := run_append_off (P := P) w t ty e i z hu hi hiz hzs g0 o l.length cp cur bt0 hh h1 h2 (by rw [hin]; exact h3) ⟨g, 0, none⟩ 1 1 cs (by omega) (by rw [hin, Nat.one_mul]; exact hcl) hca h1c (by rw [hib]; exact hb) h63
  rw [run_app hs hx hy hrun]
  rw [hin] at k3 hcur
  have hmul : l.length * Enc.sz α ≤ cp * Enc.sz α := Nat.mul_le_mul_right _ h1
  have hap := ORowL.append (w := w) (w' := w') (I := I) (S := A) (u := u) (news := cs) hg h4 (by omega) hst.ilt (fun b hi ha => hst.dj b hi (m1 b (mA b ha))) (by rw [hcs]; exact htr) hh' k1 k2 k3 hcur hsame hgg
  refine ⟨fs, _, ⟨some ⟨g', o', none⟩, cap', by rw [hlen], rfl, rfl⟩, hst.put_ (r' := [Sx.orow (.slice (some ⟨g', o', none⟩) (l ++ [u]).length cap') (l ++ [u])]) (S1' := fun b => A b ∨ b = g') m1 m2 dj hr2 (fun b hb => ?_) ⟨fun b => A b ∨ b = g', fun _ => False, fun _ h => h, fun _ h => h.elim, fun _ _ h => h, by rw [hlen]; exact hap, trivial⟩ (fun b hb hn => hsame b hb fun e => ?_) hsz e1 e2 e3⟩
  ·rcases hb with hb | rfl
   ·exact .inl (mA b hb)
   ·rcases hgg with rfl | hg'
    ·exact .inl (mA _ hg)
    ·exact .inr ⟨by omega, hglt⟩
  ·subst e
   rcases hgg with rfl | hg'
   ·exact hn (mA _ hg)
   ·omega
theorem e_app1O {t e : TypeId} {ag : Bool} {z : Value} {by_ : Nat} {α : Type} [ShpT α] {x y : Operand} {oa : Option Addr} {n cp g : Nat} {bt : TypeId} {cs : List Value} {l : List α} (u : α) (X : Shp.γ α) (hu : P.underlying t = some (.slice e)) (ht : TyI P e ag (Enc.sz α) z by_)
  (hx : ev s x = some (.slice oa n cp)) (hy : ev s y = some (.slice (some ⟨g, 0, none⟩) 1 1)) (hb : (l.length + 1) * by_ ≤ 140737488355328) (h63 : l.length + 1 ≤ 9223372036854775807) (hcs : cs = Shp.enc u X)
  (htk : Take os [orow (.slice oa n cp) l, box g bt cs] os1) (hf : Ents fs (ShpT.facts u X)) :
  Eo P c fs os N s ⟨d, .call { callee := .builtin .append, args := #[x, y], argTypes := #[t, t] }, ty, pos, af, gd⟩ (fun v fs' os' => ∃ oa' cp', v = .slice oa' (l ++ [u]).length cp' ∧ fs' = fs ∧ os' = orow (.slice oa' (l ++ [u]).length cp') (l ++ [u]) :: os1) :=
 e_app1Oi u X hu ht hx hy hb h63 hcs htk fun w I hI => ShpT.mkR (ShpT.wfa u) fun f h => hf f h w I hI
theorem Sta.freezeI {α : Type} [ShpT α] (u : α) (X : Shp.γ α) {w : World} (hw : Sta c fs (ShpT.own u X ++ os1) w) : Sta c (imms (Shp.enc u X) u :: fs) os1 w := by
 obtain ⟨I, S, hst⟩ := hw
 obtain ⟨S1, S2, m1, m2, dj, ho, hr⟩ := Sep.split hst.own
 have htr : Enc.Tr w S1 (Shp.enc u X) u := ShpT.mkT (ShpT.wfa u) ho
 refine ⟨fun b => I b ∨ S1 b, S2, fun g hg => ?_, hr.keep (Same.refl _ _) (Same.refl _ _) (fun _ => .inl) (fun _ h => h), fun b hi hs => ?_, fun b hi => ?_, fun b hb => hst.slt b (m2 b hb), fun b hi => ?_, fun b hb => hst.snew b (m2 b hb), fun b hb => .inl (hst.i0 b hb), hst.frm⟩
 ·rcases List.mem_cons.1 hg with rfl | hg
  ·exact Enc.keep (Enc.tr_rd htr) (Same.refl _ _) (fun b hb => .inr hb)
  ·exact g.keep (hst.facts g hg) (Same.refl _ _) (fun _ => .inl)
 ·rcases hi with hi | hi
  ·exact hst.dj b hi (m2 b hs)
  ·exact dj b hi hs
 ·exact hi.elim (hst.ilt b) (fun h => hst.slt b (m1 b h))
 ·rcases hi with hi | hi
  ·exact hst.inew b hi
  ·exact .inr (hst.snew b (m1 b hi))
theorem Sta.weakF {f : Fact} {w : World} (hw : Sta c (f :: fs) os w) : Sta c fs os w := by
 obtain ⟨I, S, h⟩ := hw
 exact ⟨I, S, { h with facts := fun g hg => h.facts g (List.mem_cons_of_mem _ hg) }⟩
theorem e_app1OT {t e : TypeId} {ag : Bool} {z : Value} {by_ : Nat} {α : Type} [ShpT α] {x y : Operand} {oa : Option Addr} {n cp g : Nat} {bt : TypeId} {cs : List Value} {l : List α} (u : α) (X : Shp.γ α) (hu : P.underlying t = some (.slice e)) (ht : TyI P e ag (Enc.sz α) z by_)
  (hx : ev s x = some (.slice oa n cp)) (hy : ev s y = some (.slice (some ⟨g, 0, none⟩) 1 1)) (hb : (l.length + 1) * by_ ≤ 140737488355328) (h63 : l.length + 1 ≤ 9223372036854775807) (hcs : cs = Shp.enc u X)
  (htk : Take os (orow (.slice oa n cp) l :: box g bt cs :: ShpT.own u X) os1) :
  Eo P c fs os N s ⟨d, .call { callee := .builtin .append, args := #[x, y], argTypes := #[t, t] }, ty, pos, af, gd⟩ (fun v fs' os' => ∃ oa' cp', v = .slice oa' (l ++ [u]).length cp' ∧ fs' = fs ∧ os' = orow (.slice oa' (l ++ [u]).length cp') (l ++ [u]) :: os1) := Ex.mk fun a w hs hw => by
 have hp := htk.perm
 have hp2 : os.Perm (ShpT.own u X ++ (Sx.orow (.slice oa n cp) l :: box g bt cs :: os1)) := by
  refine hp.trans ?_
  have : (Sx.orow (.slice oa n cp) l :: box g bt cs :: ShpT.own u X) ++ os1 = [Sx.orow (.slice oa n cp) l, box g bt cs] ++ (ShpT.own u X ++ os1) := by simp
  rw [this]
  have e2 : ShpT.own u X ++ (Sx.orow (.slice oa n cp) l :: box g bt cs :: os1) = ShpT.own u X ++ ([Sx.orow (.slice oa n cp) l, box g bt cs] ++ os1) := by simp
  rw [e2, ← List.append_assoc, ← List.append_assoc]
  exact List.Perm.append_right _ List.perm_append_comm
 have h1 := Sta.freezeI u X (hw.perm hp2)
 refine ((e_app1Oi (c := c) (fs := imms (Shp.enc u X) u :: fs) (d := d) (ty := ty) (pos := pos) (af := af) (gd := gd) u X hu ht hx hy hb h63 hcs (.cons .here (.cons .here .nil)) (fun w I hI => hI _ (List.mem_cons_self ..))).go a w hs h1).mono ?_
 rintro v w' ⟨_, _, ⟨oa', cp', rfl, rfl, rfl⟩, h⟩
 exact ⟨fs, _, ⟨oa', cp', rfl, rfl, rfl⟩, h.weakF⟩
theorem n_app1O {t e : TypeId} {ag : Bool} {z : Value} {by_ : Nat} {α : Type} [ShpT α] {x y : Operand} {oa : Option Addr} {n cp g : Nat} {bt : TypeId} {cs : List Value} {l : List α} (u : α) (X : Shp.γ α) (hu : P.underlying t = some (.slice e)) (ht : TyI P e ag (Enc.sz α) z by_)
  (hx : ev s x = some (.slice oa n cp)) (hy : ev s y = some (.slice (some ⟨g, 0, none⟩) 1 1)) (hb : (l.length + 1) * by_ ≤ 140737488355328) (h63 : l.length + 1 ≤ 9223372036854775807) (hcs : cs = Shp.enc u X)
  (htk : Take os [orow (.slice oa n cp) l, box g bt cs] os1) (hf : Ents fs (ShpT.facts u X)) :
  EF P c fs os N s ⟨d, .call { callee := .builtin .append, args := #[x, y], argTypes := #[t, t] }, ty, pos, af, gd⟩ (fun v fs' os' => ∃ oa' cp', v = .slice oa' (l ++ [u]).length cp' ∧ fs' = fs ∧ os' = orow (.slice oa' (l ++ [u]).length cp') (l ++ [u]) :: os1) := fun F =>
 (e_app1O (fs := fs) u X hu ht hx hy hb h63 hcs (htk.app F) hf).weak fun _ _ ⟨_, _, ⟨oa', cp', e1, e2, e3⟩, h⟩ => ⟨_, _, ⟨oa', cp', e1, e2, rfl⟩, by rw [List.cons_append, ← e3]; exact h⟩
theorem n_app1OT {t e : TypeId} {ag : Bool} {z : Value} {by_ : Nat} {α : Type} [ShpT α] {x y : Operand} {oa : Option Addr} {n cp g : Nat} {bt : TypeId} {cs : List Value} {l : List α} (u : α) (X : Shp.γ α) (hu : P.underlying t = some (.slice e)) (ht : TyI P e ag (Enc.sz α) z by_)
  (hx : ev s x = some (.slice oa n cp)) (hy : ev s y = some (.slice (some ⟨g, 0, none⟩) 1 1)) (hb : (l.length + 1) * by_ ≤ 140737488355328) (h63 : l.length + 1 ≤ 9223372036854775807) (hcs : cs = Shp.enc u X)
  (htk : Take os (orow (.slice oa n cp) l :: box g bt cs :: ShpT.own u X) os1) :
  EF P c fs os N s ⟨d, .call { callee := .builtin .append, args := #[x, y], argTypes := #[t, t] }, ty, pos, af, gd⟩ (fun v fs' os' => ∃ oa' cp', v = .slice oa' (l ++ [u]).length cp' ∧ fs' = fs ∧ os' = orow (.slice oa' (l ++ [u]).length cp') (l ++ [u]) :: os1) := fun F =>
 (e_app1OT (fs := fs) u X hu ht hx hy hb h63 hcs (htk.app F)).weak fun _ _ ⟨_, _, ⟨oa', cp', e1, e2, e3⟩, h⟩ => ⟨_, _, ⟨oa', cp', e1, e2, rfl⟩, by rw [List.cons_append, ← e3]; exact h⟩
end
end Go.Sx

namespace Go.Sx
open Go Go.RowKit
section
variable {P : Program} {c : Ctx} {N : Nat} {s : Slots} {fs : List Fact} {os os1 os' : List Own} {Q : Exit → Act → World → Prop} {code : Code}
variable {d : Option Tmp} {ty : TypeId} {pos : String} {af : Array Edge} {gd : Option (Nat × Bool)}
theorem p_max {k : IntKind} {x y : Operand} {t t' : TypeId} {m n : Int} (hx : ev s x = some (.int k m)) (hy : ev s y = some (.int k n)) :
  Pu P N s ⟨d, .call { callee := .builtin .max, args := #[x, y], argTypes := #[t, t'] }, ty, pos, af, gd⟩ (.int k (max m n)) := fun a w hs => by
 have e : (if m < n then n else m) = max m n := by rw [Int.max_def]; split <;> split <;> omega
 simp [execOp, resolve, invoke, builtin, hs.ev hx, hs.ev hy, Builtin.max_, Builtin.max2, e]
theorem e_app1Ri {t e : TypeId} {ag : Bool} {z : Value} {by_ : Nat} {α : Type} [ShpT α] {x y : Operand} {oa : Option Addr} {n cp g : Nat} {bt : TypeId} {cs : List Value} {l : List α} (u : α) (X : Shp.γ α) (hu : P.underlying t = some (.slice e)) (ht : TyI P e ag (Enc.sz α) z by_)
  (hx : ev s x = some (.slice oa n cp)) (hy : ev s y = some (.slice (some ⟨g, 0, none⟩) 1 1)) (hb : (l.length + 1) * by_ ≤ 140737488355328) (h63 : l.length + 1 ≤ 9223372036854775807) (hcs : cs = Shp.enc u X)
  (htk : Take os [row (.slice oa n cp) l, box g bt cs] os1) (hf : Ent fs (imms (Shp.enc u X) u)) :
  Eo P c fs os N s ⟨d, .call { callee := .builtin .append, args := #[x, y], argTypes := #[t, t] }, ty, pos, af, gd⟩ (fun v fs' os' => ∃ oa' cp', v = .slice oa' (l ++ [u]).length cp' ∧ fs' = fs ∧ os' = row (.slice oa' (l ++ [u]).length cp') (l ++ [u]) :: os1) :=
 e_appRw [u] hu ht hx hy hb h63 htk (by
  rintro w I S T hst ⟨S1, S2, m1, m2, dj, ⟨hg, hh⟩, hr⟩
  have htr : Enc.Rd w I (Shp.enc u X) u := hf w I hst.facts
  refine ⟨rfl, cs, by rw [hcs, Shp.len', Nat.one_mul], fun _ => ⟨_, rfl, fun j q hq => ?_⟩, by rw [hcs]; exact Enc.one htr, fun i hi => ?_⟩
  ·rw [Addr.add_lit, cell_of_row w g _ _ bt (0, 0) hh]
   simpa using hq
  ·simp at hi
   subst hi
   have : ((cs.drop (0 * Enc.sz α)).take (Enc.sz α)) = Shp.enc u X := by rw [Nat.zero_mul, List.drop_zero, hcs, ← Shp.len' u X, List.take_length]
   rw [this]
   exact htr)
theorem e_app1RO {t e : TypeId} {ag : Bool} {z : Value} {by_ : Nat} {α : Type} [ShpT α] {x y : Operand} {oa : Option Addr} {n cp g : Nat} {bt : TypeId} {cs : List Value} {l : List α} (u : α) (X : Shp.γ α) (hu : P.underlying t = some (.slice e)) (ht : TyI P e ag (Enc.sz α) z by_)
  (hx : ev s x = some (.slice oa n cp)) (hy : ev s y = some (.slice (some ⟨g, 0, none⟩) 1 1)) (hb : (l.length + 1) * by_ ≤ 140737488355328) (h63 : l.length + 1 ≤ 9223372036854775807) (hcs : cs = Shp.enc u X)
  (htk : Take os (row (.slice oa n cp) l :: box g bt cs :: ShpT.own u X) os1) :
  Eo P c fs os N s ⟨d, .call { callee := .builtin .append, args := #[x, y], argTypes := #[t, t] }, ty, pos, af, gd⟩ (fun v fs' os' => ∃ oa' cp', v = .slice oa' (l ++ [u]).length cp' ∧ fs' = fs ∧ os' = row (.slice oa' (l ++ [u]).length cp') (l ++ [u]) :: os1) := Ex.mk fun a w hs hw => by
 have hp := htk.perm
 have hp2 : os.Perm (ShpT.own u X ++ (row (.slice oa n cp) l :: box g bt cs :: os1)) := by
  refine hp.trans ?_
  have : (row (.slice oa n cp) l :: box g bt cs :: ShpT.own u X) ++ os1 = [row (.slice oa n cp) l, box g bt cs] ++ (ShpT.own u X ++ os1) := by simp
  rw [this]
  have e2 : ShpT.own u X ++ (row (.slice oa n cp) l :: box g bt cs :: os1) = ShpT.own u X ++ ([row (.slice oa n cp) l, box g bt cs] ++ os1) := by simp
  rw [e2, ← List.append_assoc, ← List.append_assoc]
  exact List.Perm.append_right _ List.perm_append_comm
 have h1 := Sta.freezeI u X (hw.perm hp2)
 refine ((e_app1Ri (c := c) (fs := imms (Shp.enc u X) u :: fs) (d := d) (ty := ty) (pos := pos) (af := af) (gd := gd) u X hu ht hx hy hb h63 hcs (.cons .here (.cons .here .nil)) (fun w I hI => hI _ (List.mem_cons_self ..))).go a w hs h1).mono ?_
 rintro v w' ⟨_, _, ⟨oa', cp', rfl, rfl, rfl⟩, h⟩
 exact ⟨fs, _, ⟨oa', cp', rfl, rfl, rfl⟩, h.weakF⟩
theorem n_app1RO {t e : TypeId} {ag : Bool} {z : Value} {by_ : Nat} {α : Type} [ShpT α] {x y : Operand} {oa : Option Addr} {n cp g : Nat} {bt : TypeId} {cs : List Value} {l : List α} (u : α) (X : Shp.γ α) (hu : P.underlying t = some (.slice e)) (ht : TyI P e ag (Enc.sz α) z by_)
  (hx : ev s x = some (.slice oa n cp)) (hy : ev s y = some (.slice (some ⟨g, 0, none⟩) 1 1)) (hb : (l.length + 1) * by_ ≤ 140737488355328) (h63 : l.length + 1 ≤ 9223372036854775807) (hcs : cs = Shp.enc u X)
  (htk : Take os (row (.slice oa n cp) l :: box g bt cs :: ShpT.own u X) os1) :
  EF P c fs os N s ⟨d, .call { callee := .builtin .append, args := #[x, y], argTypes := #[t, t] }, ty, pos, af, gd⟩ (fun v fs' os' => ∃ oa' cp', v = .slice oa' (l ++ [u]).length cp' ∧ fs' = fs ∧ os' = row (.slice oa' (l ++ [u]).length cp') (l ++ [u]) :: os1) := fun F =>
 (e_app1RO (fs := fs) u X hu ht hx hy hb h63 hcs (htk.app F)).weak fun _ _ ⟨_, _, ⟨oa', cp', e1, e2, e3⟩, h⟩ => ⟨_, _, ⟨oa', cp', e1, e2, rfl⟩, by rw [List.cons_append, ← e3]; exact h⟩
end
end Go.Sx

namespace Go.Sx
open Go Go.RowKit
section
variable {P : Program} {c : Ctx} {N : Nat} {s : Slots} {fs : List Fact} {os os1 os' : List Own} {Q : Exit → Act → World → Prop} {code : Code}
variable {d : Option Tmp} {ty : TypeId} {pos : String} {af : Array Edge} {gd : Option (Nat × Bool)}
theorem Sta.freezeH {α : Type} [Enc α] {v : Value} {l : List α} {w : World} (hw : Sta c fs (tree v l :: os1) w) : Sta c (imm v l :: fs) os1 w := by
 obtain ⟨I, S, hst⟩ := hw
 obtain ⟨S1, S2, m1, m2, dj, ho, hr⟩ := hst.own
 have ho' : TrL w S1 v l := ho
 refine ⟨fun b => I b ∨ S1 b, S2, fun g hg => ?_, hr.keep (Same.refl _ _) (Same.refl _ _) (fun _ => .inl) (fun _ h => h), fun b hi hs => ?_, fun b hi => ?_, fun b hb => hst.slt b (m2 b hb), fun b hi => ?_, fun b hb => hst.snew b (m2 b hb), fun b hb => .inl (hst.i0 b hb), hst.frm⟩
 ·rcases List.mem_cons.1 hg with rfl | hg
  ·exact RdL.keep (S' := fun b => I b ∨ S1 b) ho'.rd (Same.refl _ _) (fun b hb => .inr hb)
  ·exact g.keep (hst.facts g hg) (Same.refl _ _) (fun _ => .inl)
 ·rcases hi with hi | hi
  ·exact hst.dj b hi (m2 b hs)
  ·exact dj b hi hs
 ·exact hi.elim (hst.ilt b) (fun h => hst.slt b (m1 b h))
 ·rcases hi with hi | hi
  ·exact hst.inew b hi
  ·exact .inr (hst.snew b (m1 b hi))
theorem FnL'.frz {L : Prop} {f : FuncId} {vs : Array Value} {fsC : List Fact} {osC : List Own} {ι : Type} {rv : ι → Value} {fsR : ι → List Fact} {α : Type} [Enc α] {v : ι → Value} {l : ι → List α} {osK : ι → List Own}
  (h : FnL' L P f vs fsC osC rv fsR (fun x => tree (v x) (l x) :: osK x)) : FnL' L P f vs fsC osC rv (fun x => imm (v x) (l x) :: fsR x) osK :=
 ⟨h.cf, fun w I S hst => (h.go w I S hst).mono fun _ _ ⟨x, e, hs⟩ => ⟨x, e, hs.freezeH⟩⟩
end
end Go.Sx

namespace Go.Sx
open Go Go.RowKit
section
variable {P : Program} {c : Ctx} {N : Nat} {s : Slots} {fs : List Fact} {os : List Own} {ops : Array Oper} {rest : List Oper} {Q : Exit → Act → World → Prop} {v : Value} {R : Slots → Prop}
variable {d : Nat} {op : Op} {ty : TypeId} {pos : String} {af : Array Edge}
theorem Rg.p (h : Pu P N s ⟨some d, op, ty, pos, af, none⟩ v) (k : Rg P c N ops Q rest ((d, v) :: s) fs os) (hd : d < N := by decide) : Rg P c N ops Q (⟨some d, op, ty, pos, af, none⟩ :: rest) s fs os := Rg.q (Pu.qo h) hd k
theorem Rg.o (h : Qo P c fs os N s ⟨some d, op, ty, pos, af, none⟩ v) (k : Rg P c N ops Q rest ((d, v) :: s) fs os) (hd : d < N := by decide) : Rg P c N ops Q (⟨some d, op, ty, pos, af, none⟩ :: rest) s fs os := Rg.q h hd k
theorem Rg.m {x : Operand} (h : ev s x = some v) (k : Rg P c N ops Q rest ((d, v) :: s) fs os) (hd : d < N := by decide) : Rg P c N ops Q (⟨some d, .move x, ty, pos, af, none⟩ :: rest) s fs os := Rg.q (Pu.qo (p_move h)) hd k
theorem Rg.a {x : Operand} (h : ev s x = some v) (k : Rg P c N ops Q rest ((d, v) :: s) fs os) (hd : d < N := by decide) : Rg P c N ops Q (⟨some d, .assign x, ty, pos, af, none⟩ :: rest) s fs os := Rg.q (Pu.qo (p_assign h)) hd k
theorem Lin.p (h : Pu P N s ⟨some d, op, ty, pos, af, none⟩ v) (k : Lin P c fs os N ops rest ((d, v) :: s) R) (hd : d < N := by decide) : Lin P c fs os N ops (⟨some d, op, ty, pos, af, none⟩ :: rest) s R := Lin.q hd (Pu.qo h) k
theorem Lin.o (h : Qo P c fs os N s ⟨some d, op, ty, pos, af, none⟩ v) (k : Lin P c fs os N ops rest ((d, v) :: s) R) (hd : d < N := by decide) : Lin P c fs os N ops (⟨some d, op, ty, pos, af, none⟩ :: rest) s R := Lin.q hd h k
theorem Lin.m {x : Operand} (h : ev s x = some v) (k : Lin P c fs os N ops rest ((d, v) :: s) R) (hd : d < N := by decide) : Lin P c fs os N ops (⟨some d, .move x, ty, pos, af, none⟩ :: rest) s R := Lin.q hd (Pu.qo (p_move h)) k
theorem Lin.h {g : Nat × Bool} (hw : wtd ops s ⟨some d, op, ty, pos, af, some g⟩ = some true) (h : Pu P N s ⟨some d, op, ty, pos, af, some g⟩ v) (k : Lin P c fs os N ops rest ((d, v) :: s) R) (hd : d < N := by decide) : Lin P c fs os N ops (⟨some d, op, ty, pos, af, some g⟩ :: rest) s R := Lin.g hd hw (Pu.qo h) k
theorem Lin.i {g : Nat × Bool} (hw : wtd ops s ⟨some d, op, ty, pos, af, some g⟩ = some true) (h : Qo P c fs os N s ⟨some d, op, ty, pos, af, some g⟩ v) (k : Lin P c fs os N ops rest ((d, v) :: s) R) (hd : d < N := by decide) : Lin P c fs os N ops (⟨some d, op, ty, pos, af, some g⟩ :: rest) s R := Lin.g hd hw h k
theorem Lin.sk {g : Nat × Bool} (hw : wtd ops s ⟨some d, op, ty, pos, af, some g⟩ = some false) (k : Lin P c fs os N ops rest ((d, undef) :: s) R) (hd : d < N := by decide) : Lin P c fs os N ops (⟨some d, op, ty, pos, af, some g⟩ :: rest) s R := Lin.skip hd hw k
end
section
variable {P : Program} {c : Ctx} {N : Nat} {ops : Array Oper} {n : Nat} {ef p : List Nat} {fa : List FreeA} {R : Slots → List Fact → List Own → Prop} {s : Slots} {fs : List Fact} {os : List Own} {pd : List Nat} {v : Value}
variable {i d : Nat} {op : Op} {ty : TypeId} {pos : String} {af : Array Edge} {gd : Option (Nat × Bool)}
theorem w_p (ho : ops[i]? = some ⟨some d, op, ty, pos, af, gd⟩) (hp : Pu P N s ⟨some d, op, ty, pos, af, gd⟩ v) (k : Nw P c N ops n ef fa p ((d, v) :: s) fs os pd R)
  (hN : d < N := by decide) (he : ef.contains i = false := by rfl) (hf : (fa.map (·.i)).contains i = false := by rfl) (hw : wtd ops s ⟨some d, op, ty, pos, af, gd⟩ = some true := by rfl) : Nw P c N ops n ef fa (i :: p) s fs os pd R := w_pu ho hN he hf hw hp k
theorem w_o (ho : ops[i]? = some ⟨some d, op, ty, pos, af, gd⟩) (hp : QF P c fs os N s ⟨some d, op, ty, pos, af, gd⟩ v) (k : Nw P c N ops n ef fa p ((d, v) :: s) fs os (i :: pd) R)
  (hN : d < N := by decide) (he : ef.contains i = false := by rfl) (hf : (fa.map (·.i)).contains i = false := by rfl) (hw : wtd ops s ⟨some d, op, ty, pos, af, gd⟩ = some true := by rfl) : Nw P c N ops n ef fa (i :: p) s fs os pd R := w_q ho hN he hf hw hp k
end
section
variable {P : Program} {c : Ctx} {N : Nat} {s : Slots} {fs : List Fact} {os : List Own} {ops : Array Oper} {rest : List Oper} {Q : Exit → Act → World → Prop}
variable {pos : String} {af : Array Edge} {gd : Option (Nat × Bool)} {ty : TypeId}
theorem Rg.ef {t : Nat} {op : Op} {next : Value → List Fact → List Own → Prop} (he : Eo P c fs os N s ⟨some t, op, ty, pos, af, gd⟩ next) (hw : wtd ops s ⟨some t, op, ty, pos, af, gd⟩ = some true)
  (k : ∀ v fs' os', next v fs' os' → Rg P c N ops Q rest ((t, v) :: s) fs' os') (hd : t < N := by decide) : Rg P c N ops Q (⟨some t, op, ty, pos, af, gd⟩ :: rest) s fs os := Rg.ed he hw hd k
theorem one_of {v : Value} (h : (v.cells.toList.all fun u => u.oneCell') = true) : ∀ u ∈ v.cells.toList, u.oneCell' = true := List.all_eq_true.1 h
end
section
variable {P : Program} {c : Ctx} {N : Nat} {s : Slots} {fs : List Fact} {os : List Own} {ops : Array Oper} {rest : List Oper} {Q : Exit → Act → World → Prop} {R : Slots → Prop}
variable {d : Nat} {op : Op} {ty : TypeId} {pos : String} {af : Array Edge} {b b' : Bool}
theorem Rg.e_ (h : Pu P N s ⟨some d, op, ty, pos, af, none⟩ (.bool b)) (e : b = b') (k : Rg P c N ops Q rest ((d, .bool b') :: s) fs os) (hd : d < N := by decide) : Rg P c N ops Q (⟨some d, op, ty, pos, af, none⟩ :: rest) s fs os := Rg.q (Qo.eqv (Pu.qo h) (congrArg Value.bool e)) hd k
theorem Lin.e_ (h : Pu P N s ⟨some d, op, ty, pos, af, none⟩ (.bool b)) (e : b = b') (k : Lin P c fs os N ops rest ((d, .bool b') :: s) R) (hd : d < N := by decide) : Lin P c fs os N ops (⟨some d, op, ty, pos, af, none⟩ :: rest) s R := Lin.q hd (Qo.eqv (Pu.qo h) (congrArg Value.bool e)) k
theorem Lin.f_ {g : Nat × Bool} (hw : wtd ops s ⟨some d, op, ty, pos, af, some g⟩ = some true) (h : Pu P N s ⟨some d, op, ty, pos, af, some g⟩ (.bool b)) (e : b = b') (k : Lin P c fs os N ops rest ((d, .bool b') :: s) R) (hd : d < N := by decide) : Lin P c fs os N ops (⟨some d, op, ty, pos, af, some g⟩ :: rest) s R := Lin.g hd hw (Qo.eqv (Pu.qo h) (congrArg Value.bool e)) k
end
section
variable {P : Program} {c : Ctx} {N : Nat} {s : Slots} {fs : List Fact} {os : List Own} {fn : Func} {rv : Unit → Value} {fsR : Unit → List Fact} {osR : Unit → List Own}
theorem bk1 {t : Tmp} {osX : List Own} {v : Value} (hr : fn.results = #[.tmp t]) (h1 : lk s t = some v) (hv : v = rv ()) (hf : fsR () = []) (ho : Take os (osR ()) osX) :
  At c N s fs os (bodyPost P fn (fun e w' => ∃ x, e = .returned (rv x) ∧ Sta c (fsR x) (osR x) w') .ret) := back1 () hr (ResV.tmp h1) hv (by rw [hf]; exact Ents.nil) ho
end
section
variable {a b e f g h o : Own} {os os' : List Own}
theorem hs1 : Has (a :: o :: os) o := .there .here
theorem hs2 : Has (a :: b :: o :: os) o := .there hs1
theorem hs3 : Has (a :: b :: e :: o :: os) o := .there hs2
theorem hs4 : Has (a :: b :: e :: f :: o :: os) o := .there hs3
theorem hs5 : Has (a :: b :: e :: f :: g :: o :: os) o := .there hs4
theorem dl1 : Del (a :: o :: os) o (a :: os) := .there .here
theorem dl2 : Del (a :: b :: o :: os) o (a :: b :: os) := .there dl1
theorem dl3 : Del (a :: b :: e :: o :: os) o (a :: b :: e :: os) := .there dl2
theorem dl4 : Del (a :: b :: e :: f :: o :: os) o (a :: b :: e :: f :: os) := .there dl3
theorem dl5 : Del (a :: b :: e :: f :: g :: o :: os) o (a :: b :: e :: f :: g :: os) := .there dl4
theorem up1 {o' : Own} : Upd (a :: o :: os) o o' (a :: o' :: os) := .there .here
theorem up2 {o' : Own} : Upd (a :: b :: o :: os) o o' (a :: b :: o' :: os) := .there up1
theorem up3 {o' : Own} : Upd (a :: b :: e :: o :: os) o o' (a :: b :: e :: o' :: os) := .there up2
theorem up4 {o' : Own} : Upd (a :: b :: e :: f :: o :: os) o o' (a :: b :: e :: f :: o' :: os) := .there up3
theorem up5 {o' : Own} : Upd (a :: b :: e :: f :: g :: o :: os) o o' (a :: b :: e :: f :: g :: o' :: os) := .there up4
theorem hs5t (h : Has os o) : Has (a :: b :: e :: f :: g :: os) o := .there (.there (.there (.there (.there h))))
theorem dl5t (h : Del os o os') : Del (a :: b :: e :: f :: g :: os) o (a :: b :: e :: f :: g :: os') := .there (.there (.there (.there (.there h))))
theorem up5t {o' : Own} (h : Upd os o o' os') : Upd (a :: b :: e :: f :: g :: os) o o' (a :: b :: e :: f :: g :: os') := .there (.there (.there (.there (.there h))))
end
theorem si {α : Type} {a b : α} (h : some a = some b) : a = b := Option.some.inj h
end Go.Sx

namespace Go.Sx
open Go Go.RowKit
section
variable {P : Program} {c : Ctx} {N : Nat} {s : Slots} {fs fs0 : List Fact} {os : List Own} {Q : Exit → Act → World → Prop} {x y : Code} {β : Type} {r : β}
theorem sr {id : Nat} {l : List Oper} (h : Rg P c N l.toArray (Exit.then (fun a w => y.wp P Q a w) Q) l s fs os) : Tr P c N Q (.seq (.region id l.toArray false) y) s fs os := Tr.seq (Tr.region h)
theorem nl {ops : Array Oper} (h : Tr P c N Q y s fs os) : Rg P c N ops (Exit.then (fun a w => y.wp P Q a w) Q) [] s fs os := Rg.nl (nT h)
theorem cH {o : Operand} {b : Bool} {A B : Option β} (H : cond b A B = some r) (ho : ev s o = some (.bool b)) (ht : b = true → A = some r → Tr P c N Q x s fs os) (hf : b = false → B = some r → Tr P c N Q y s fs os) : Tr P c N Q (.cond o x y) s fs os :=
 Tr.cond ho (fun h => ht h (cdT h H)) (fun h => hf h (cdF h H))
theorem sm {α : Type} {a b : α} (h : some a = some b) : b = a := (Option.some.inj h).symm
variable {σ ε Λ τ : Type}
def LP (c : Ctx) (N : Nat) (f : σ → Option (σ ⊕ ε)) (e : ε) (m : Nat) (fs : List Fact) (s' : σ → Λ → Slots) (os' : σ → Λ → List Own) (a : Act) (w : World) : Prop :=
 ∃ j : { q : Nat × σ × Λ // itr f q.1 q.2.1 = some e }, j.1.1 < m + 1 ∧ Sl N (s' j.1.2.1 j.1.2.2) a ∧ Sta c fs (os' j.1.2.1 j.1.2.2) w
def MP (c : Ctx) (N : Nat) (u : ε ⊕ τ) (fs : List Fact) (s' : ε → Λ → Slots) (os' : ε → Λ → List Own) (a : Act) (w : World) : Prop :=
 ∃ i : { q : ε × Λ // u = .inl q.1 }, Sl N (s' i.1.1 i.1.2) a ∧ Sta c fs (os' i.1.1 i.1.2) w
theorem tLoopI {f : σ → Option (σ ⊕ ε)} {q0 : σ} {e : ε} (hx : lp f q0 = some e) (z0 : Λ) (s' : σ → Λ → Slots) (os' : σ → Λ → List Own) {osR : List Own}
  (ho : Take os (os' q0 z0) osR)
  (round : ∀ m q z t, f q = some t → (∀ q', t = .inl q' → itr f m q' = some e) → (∀ e', t = .inr e' → e' = e) →
   Tr P c N (Exit.then (LP c N f e m fs s' os') Q) x (s' q z) fs (os' q z)) (hs : SubS s (s' q0 z0) := by repeat first | exact trivial | refine ⟨rfl, ?_⟩) :
  Tr P c N Q (.loop x) s fs os := by
 obtain ⟨n, hx⟩ := lp.of hx
 refine tLoopC (ι := { q : Nat × σ × Λ // itr f q.1 q.2.1 = some e }) (fun ζ => s' ζ.1.2.1 ζ.1.2.2) (fun ζ => os' ζ.1.2.1 ζ.1.2.2) (fun ζ => ζ.1.1) ⟨(n, q0, z0), hx⟩ hs ho ?_
 rintro ⟨⟨m, q, z⟩, hk⟩
 obtain ⟨m, t, e1, H, hi, hb⟩ := itr.of (n := m) (s := q) hk
 subst e1
 exact round m q z t H hi hb
theorem nLI {f : σ → Option (σ ⊕ ε)} {e : ε} {m : Nat} {s' : σ → Λ → Slots} {os' : σ → Λ → List Own} {osR : List Own} {q : σ} (z : Λ) (hi : itr f m q = some e) (ho : Take os (os' q z) osR) (hs : SubS s (s' q z) := by repeat first | exact trivial | refine ⟨rfl, ?_⟩) (hf : Ents fs fs0 := by exact Ents.refl) :
  At c N s fs os (Exit.then (LP c N f e m fs0 s' os') Q .normal) :=
 fun _ _ h1 h2 => ⟨⟨(m, q, z), hi⟩, Nat.lt_succ_self _, h1.weak hs.lk, h2.weak hf ho⟩
theorem tMidI {k1 : ε → Option β} {k2 : τ → Option β} {u : ε ⊕ τ} (H : sw k1 k2 u = some r) (s' : ε → Λ → Slots) (os' : ε → Λ → List Own)
  (h : Tr P c N (Exit.then (MP c N u fs s' os') Q) x s fs os)
  (k : ∀ e z, k1 e = some r → At c N (s' e z) fs (os' e z) (Q .normal)) : Tr P c N Q x s fs os :=
 tMidNC (ι := { q : ε × Λ // u = .inl q.1 }) (fun ψ => s' ψ.1.1 ψ.1.2) (fun ψ => os' ψ.1.1 ψ.1.2) h (by
  rintro ⟨⟨e, z⟩, hx⟩
  subst hx
  exact k e z (sw.l H))
theorem nMI {u : ε ⊕ τ} {s' : ε → Λ → Slots} {os' : ε → Λ → List Own} {osR : List Own} {e : ε} (z : Λ) (hi : .inl e = u) (ho : Take os (os' e z) osR) (hs : SubS s (s' e z) := by repeat first | exact trivial | refine ⟨rfl, ?_⟩) (hf : Ents fs fs0 := by exact Ents.refl) :
  At c N s fs os (Exit.then (MP c N u fs0 s' os') Q .normal) :=
 fun _ _ h1 h2 => ⟨⟨(e, z), hi.symm⟩, h1.weak hs.lk, h2.weak hf ho⟩
theorem gdo {c : Prop} [Decidable c] {k : Option β} {X : Prop} (H : gd c k = some r) (f : c → k = some r → X) : X := (gd.of H).elim f
theorem bdo {α : Type} {o : Option α} {k : α → Option β} {X : Prop} (H : bd o k = some r) (f : ∀ a, o = some a → k a = some r → X) : X := (bd.of H).elim fun a h => f a h.1 h.2
end
section
variable {P : Program} {c : Ctx} {N : Nat} {s : Slots} {fs : List Fact} {os : List Own} {Q : Exit → Act → World → Prop} {ops : Array Oper} {rest : List Oper}
variable {op : Op} {ty : TypeId} {pos : String} {af : Array Edge} {gd : Option (Nat × Bool)}
theorem f0 {t : Nat} {v0 : Value} {f0 : List Fact} {o0 : List Own} (he : Eo P c fs os N s ⟨some t, op, ty, pos, af, gd⟩ (fun v fs' os' => v = v0 ∧ fs' = f0 ∧ os' = o0)) (k : Rg P c N ops Q rest ((t, v0) :: s) f0 o0) (hw : wtd ops s ⟨some t, op, ty, pos, af, gd⟩ = some true := by rfl) (hd : t < N := by decide) :
  Rg P c N ops Q (⟨some t, op, ty, pos, af, gd⟩ :: rest) s fs os := Rg.ed he hw hd (by rintro _ _ _ ⟨rfl, rfl, rfl⟩; exact k)
theorem f1 {t : Nat} {A : Type} {v0 : A → Value} {f0 : A → List Fact} {o0 : A → List Own} (he : Eo P c fs os N s ⟨some t, op, ty, pos, af, gd⟩ (fun v fs' os' => ∃ x, v = v0 x ∧ fs' = f0 x ∧ os' = o0 x)) (k : ∀ x, Rg P c N ops Q rest ((t, v0 x) :: s) (f0 x) (o0 x)) (hw : wtd ops s ⟨some t, op, ty, pos, af, gd⟩ = some true := by rfl) (hd : t < N := by decide) :
  Rg P c N ops Q (⟨some t, op, ty, pos, af, gd⟩ :: rest) s fs os := Rg.ed he hw hd (by rintro _ _ _ ⟨x, rfl, rfl, rfl⟩; exact k x)
theorem f2 {t : Nat} {A B : Type} {v0 : A → B → Value} {f0 : A → B → List Fact} {o0 : A → B → List Own} (he : Eo P c fs os N s ⟨some t, op, ty, pos, af, gd⟩ (fun v fs' os' => ∃ x y, v = v0 x y ∧ fs' = f0 x y ∧ os' = o0 x y)) (k : ∀ x y, Rg P c N ops Q rest ((t, v0 x y) :: s) (f0 x y) (o0 x y)) (hw : wtd ops s ⟨some t, op, ty, pos, af, gd⟩ = some true := by rfl) (hd : t < N := by decide) :
  Rg P c N ops Q (⟨some t, op, ty, pos, af, gd⟩ :: rest) s fs os := Rg.ed he hw hd (by rintro _ _ _ ⟨x, y, rfl, rfl, rfl⟩; exact k x y)
theorem g0 {v0 : Value} {f0 : List Fact} {o0 : List Own} (he : Eo P c fs os N s ⟨none, op, ty, pos, af, gd⟩ (fun v fs' os' => v = v0 ∧ fs' = f0 ∧ os' = o0)) (k : Rg P c N ops Q rest s f0 o0) (hw : wtd ops s ⟨none, op, ty, pos, af, gd⟩ = some true := by rfl) :
  Rg P c N ops Q (⟨none, op, ty, pos, af, gd⟩ :: rest) s fs os := Rg.en he hw (by rintro _ _ _ ⟨rfl, rfl, rfl⟩; exact k)
theorem g1 {A : Type} {v0 : A → Value} {f0 : A → List Fact} {o0 : A → List Own} (he : Eo P c fs os N s ⟨none, op, ty, pos, af, gd⟩ (fun v fs' os' => ∃ x, v = v0 x ∧ fs' = f0 x ∧ os' = o0 x)) (k : ∀ x, Rg P c N ops Q rest s (f0 x) (o0 x)) (hw : wtd ops s ⟨none, op, ty, pos, af, gd⟩ = some true := by rfl) :
  Rg P c N ops Q (⟨none, op, ty, pos, af, gd⟩ :: rest) s fs os := Rg.en he hw (by rintro _ _ _ ⟨x, rfl, rfl, rfl⟩; exact k x)
theorem stb {t : TypeId} {ag : Bool} {n : Nat} {z : Value} {by_ : Nat} {x y : Operand} {g j : Nat} {bt : TypeId} {cs cs' : List Value} {v : Value} {os' : List Own} (ht : TyI P t ag n z by_) (hu : Upd os (box g bt cs) (box g bt cs') os')
  (k : Rg P c N ops Q rest s fs os') (hx : ev s x = some (.pointer (some ⟨g, j, none⟩)) := by rfl) (hy : ev s y = some v := by rfl) (hn : v.cells.size = n := by rfl) (h1 : (v.cells.toList.all fun u => u.oneCell') = true := by rfl)
  (hl : Nat.ble (j + n) cs.length = true := by rfl) (he : cs.take j ++ v.cells.toList ++ cs.drop (j + n) = cs' := by rfl) (hw : wtd ops s ⟨none, .store t x y, ty, pos, af, gd⟩ = some true := by rfl) :
  Rg P c N ops Q (⟨none, .store t x y, ty, pos, af, gd⟩ :: rest) s fs os := g0 (e_store ht hx hy hu hn (one_of h1) (Nat.le_of_ble_eq_true hl) he) k hw
end
section
variable {P : Program} {N : Nat}
theorem cof {f : FuncId} {args : List Value} {fn : Func} {body : Code} {fsC : List Fact} {osC : List Own} {ι : Type} {rv : ι → Value} {fsR : ι → List Fact} {osR : ι → List Own}
  (hf : P.funcs[f]? = some fn) (hNt : fn.ntmps = N) (h : ∀ c, Tr P c N (bodyPost P fn fun e w' => ∃ x, e = .returned (rv x) ∧ Sta c (fsR x) (osR x) w') body (args.mapIdx fun i v => (i, v)) fsC osC)
  (hb : fn.body = some body := by rfl) (hn : (fn.name == "runtime.NumGoroutine") = false := by kernel_rfl) (hN : args.length ≤ N := by simp) : Fn' P f args.toArray fsC osC rv fsR osR := calls_of hf hb hn hNt hN h
end
section
variable {P : Program} {c : Ctx} {N : Nat} {s : Slots} {fs : List Fact} {os : List Own} {fn : Func} {rv : Unit → Value} {fsR : Unit → List Fact} {osR : Unit → List Own}
theorem bk {t : Tmp} {osX : List Own} {v : Value} (ho : Take os (osR ()) osX := by exact Take.nil) (hr : fn.results = #[.tmp t] := by rfl) (h1 : lk s t = some v := by rfl) (hv : v = rv () := by rfl) (hf : fsR () = [] := by rfl) :
  At c N s fs os (bodyPost P fn (fun e w' => ∃ x, e = .returned (rv x) ∧ Sta c (fsR x) (osR x) w') .ret) := bk1 hr h1 hv hf ho
end
end Go.Sx

namespace Go.Sx
open Go Go.RowKit
section
variable {α : Type} [ShpT α]
theorem Sep.bundle {w : World} {I : Blks} : ∀ (us : List (α × Shp.γ α)) {S : Blks}, Sep (us.flatMap fun p => ShpT.own p.1 p.2) w I S →
  ∃ Ss : Nat → Blks, (∀ i, i < us.length → ∀ b, Ss i b → S b) ∧ (∀ i j, i < j → j < us.length → ∀ b, Ss i b → Ss j b → False) ∧ ∀ i (h : i < us.length), Sep (ShpT.own us[i].1 us[i].2) w I (Ss i)
 | [], _, _ => ⟨fun _ _ => False, fun _ h => absurd h (Nat.not_lt_zero _), fun _ _ _ h => absurd h (Nat.not_lt_zero _), fun _ h => absurd h (Nat.not_lt_zero _)⟩
 | x :: us, S, h => by
  rw [List.flatMap_cons] at h
  obtain ⟨A, B, mA, mB, dj, hx, hr⟩ := Sep.split h
  obtain ⟨Ss, k1, k2, k3⟩ := Sep.bundle us hr
  refine ⟨fun i => match i with | 0 => A | i + 1 => Ss i, fun i hi b hb => ?_, fun i j hij hj b h1 h2 => ?_, fun i hi => ?_⟩
  ·cases i with
   | zero => exact mA b hb
   | succ i => exact mB b (k1 i (Nat.lt_of_succ_lt_succ hi) b hb)
  ·cases j with
   | zero => omega
   | succ j =>
    cases i with
    | zero => exact dj b h1 (k1 j (Nat.lt_of_succ_lt_succ hj) b h2)
    | succ i => exact k2 i j (by omega) (Nat.lt_of_succ_lt_succ hj) b h1 h2
  ·cases i with
   | zero => exact hx
   | succ i => exact k3 i (Nat.lt_of_succ_lt_succ hi)
variable {c : Ctx} {fs : List Fact} {os os1 : List Own} {w : World}
theorem Sta.litO {g : Nat} {ty : TypeId} (us : List (α × Shp.γ α)) {l : List α} (hl : l = us.map (·.1)) (hm : l.length ≤ maxLen) (h : Sta c fs (box g ty (us.flatMap fun p => Shp.enc p.1 p.2) :: os) w)
  (htk : Take os (us.flatMap fun p => ShpT.own p.1 p.2) os1) : Sta c fs (tree (.slice (some ⟨g, 0, none⟩) l.length l.length) l :: os1) w := by
 obtain ⟨I, S, hst⟩ := h
 obtain ⟨A, B, mA, mB, dj, ⟨hg, hh⟩, hr⟩ := hst.own
 obtain ⟨C, D, mC, mD, dj2, h1, h2⟩ := htk.sep hr
 obtain ⟨Ss, k1, k2, k3⟩ := Sep.bundle us h1
 have len : us.length = l.length := by rw [hl, List.length_map]
 have hen : ∀ p : α × Shp.γ α, (Shp.enc p.1 p.2).length = Enc.sz α := fun p => Shp.len' _ _
 refine ⟨I, S, hst.facts, ⟨fun b => A b ∨ C b, D, fun b h => h.elim (mA b) (fun h => mB b (mC b h)), fun b h => mB b (mD b h), fun b h1 h2 => h1.elim (fun h => dj b h (mD b h2)) (fun h => dj2 b h h2), ?_, h2⟩, hst.dj, hst.ilt, hst.slt, hst.inew, hst.snew, hst.i0, hst.frm⟩
 refine .inr ⟨g, l.length, _, ty, rfl, .inl hg, hh, Nat.le_refl _, hm, by simp [flatMap_len _ _ hen, len], Ss, fun i hi b hb => ⟨.inr (k1 i (by omega) b hb), fun eb => dj g hg (mC g (eb ▸ k1 i (by omega) b hb))⟩, fun i j hij hj => k2 i j hij (by omega), fun i hi => ?_⟩
 have hi2 : i < us.length := by omega
 have := flatMap_part (fun p : α × Shp.γ α => Shp.enc p.1 p.2) (Enc.sz α) hen us i hi2
 show Enc.Tr _ _ (((us.flatMap fun p => Shp.enc p.1 p.2).toArray.toList.drop (i * Enc.sz α)).take (Enc.sz α)) _
 rw [show (us.flatMap fun p => Shp.enc p.1 p.2).toArray.toList = us.flatMap fun p => Shp.enc p.1 p.2 from rfl, this]
 have hli : l[i] = us[i].1 := by subst hl; simp
 rw [hli]
 exact ShpT.mkT (ShpT.wfa _) (k3 i hi2)
end
section
variable {P : Program} {c : Ctx} {N : Nat} {s : Slots} {fs : List Fact} {os os1 : List Own}
variable {d : Option Tmp} {ty : TypeId} {pos : String} {af : Array Edge} {gd : Option (Nat × Bool)}
theorem e_litO {t e : TypeId} {ag : Bool} {z : Value} {by_ : Nat} {α : Type} [ShpT α] {parts : List (Nat × Operand)} {vs : List (Nat × Value)} {m : Nat} (l : List α) (us : List (α × Shp.γ α)) (hl : l = us.map (·.1)) (hm : m = l.length) (hu : P.underlying t = some (.slice e)) (ht : TyI P e ag (Enc.sz α) z by_)
  (hp : parts.map (fun p => (p.1, ev s p.2)) = vs.map (fun p => (p.1, some p.2))) (h0 : m * Enc.sz α ≠ 0) (hb : m * Enc.sz α ≤ 16777216)
  (hf : Instr.fill (fun i => some (i * Enc.sz α, Enc.sz α)) ((Array.range (m * Enc.sz α)).map (fun j => z.cells[j % z.cells.size]!)) vs = some (us.flatMap fun p => Shp.enc p.1 p.2).toArray) (htk : Take os (us.flatMap fun p => ShpT.own p.1 p.2) os1) :
  Eo P c fs os N s ⟨d, .buildSlice t m parts.toArray, ty, pos, af, gd⟩ (fun v fs' os' => ∃ oa cp, v = .slice oa l.length cp ∧ fs' = fs ∧ os' = tree (.slice oa l.length cp) l :: os1) := Ex.mk fun a w hs hw' => by
 refine ((e_lit (fs := fs) (os := os) (us.flatMap fun p => Shp.enc p.1 p.2) hu ht hp h0 hb hf).go a w hs hw').mono ?_
 rintro v w' ⟨_, _, ⟨g, rfl, rfl, rfl⟩, h⟩
 subst hm
 have hlm : l.length ≤ maxLen := by
  have := Enc.pos (α := α)
  have h1 : l.length * 1 ≤ l.length * Enc.sz α := Nat.mul_le_mul_left _ this
  have : l.length ≤ 16777216 := by omega
  exact Nat.le_trans this (by decide)
 exact ⟨_, _, ⟨some ⟨g, 0, none⟩, l.length, rfl, rfl, rfl⟩, Sta.litO us hl hlm h htk⟩
theorem n_litO {t e : TypeId} {ag : Bool} {z : Value} {by_ : Nat} {α : Type} [ShpT α] {parts : List (Nat × Operand)} {vs : List (Nat × Value)} {m : Nat} (l : List α) (us : List (α × Shp.γ α)) (hl : l = us.map (·.1)) (hm : m = l.length) (hu : P.underlying t = some (.slice e)) (ht : TyI P e ag (Enc.sz α) z by_)
  (hp : parts.map (fun p => (p.1, ev s p.2)) = vs.map (fun p => (p.1, some p.2))) (h0 : m * Enc.sz α ≠ 0) (hb : m * Enc.sz α ≤ 16777216)
  (hf : Instr.fill (fun i => some (i * Enc.sz α, Enc.sz α)) ((Array.range (m * Enc.sz α)).map (fun j => z.cells[j % z.cells.size]!)) vs = some (us.flatMap fun p => Shp.enc p.1 p.2).toArray) (htk : Take os (us.flatMap fun p => ShpT.own p.1 p.2) os1) :
  EF P c fs os N s ⟨d, .buildSlice t m parts.toArray, ty, pos, af, gd⟩ (fun v fs' os' => ∃ oa cp, v = .slice oa l.length cp ∧ fs' = fs ∧ os' = tree (.slice oa l.length cp) l :: os1) := fun F =>
 (e_litO (fs := fs) l us hl hm hu ht hp h0 hb hf (htk.app F)).weak fun _ _ ⟨_, _, ⟨oa', cp', e1, e2, e3⟩, h⟩ => ⟨_, _, ⟨oa', cp', e1, e2, rfl⟩, by rw [List.cons_append, ← e3]; exact h⟩
end
end Go.Sx

namespace Go.Sx
open Go Go.RowKit Go.Sort Go.Proofs
theorem Frm.grow {w w' : World} (h : Frm False (fun _ => False) w w') : ∃ q os', w' = Sort.grow (w.drewN q) os' := by
 obtain ⟨h1, ⟨h2, h3⟩, h4, h5, h6⟩ := h
 have h3 := h3.resolve_left id
 have hh : w'.heap = w.heap ++ w'.heap.extract w.heap.size w'.heap.size := by
  refine Array.ext_getElem? fun b => ?_
  by_cases hb : b < w.heap.size
  ·rw [h6 b hb (fun h => h), Array.getElem?_append_left hb]
  ·rw [Array.getElem?_append_right (by omega), Array.getElem?_extract]
   by_cases hb2 : b < w'.heap.size
   ·rw [if_pos (by omega)]; congr 1; omega
   ·rw [if_neg (by omega), Array.getElem?_eq_none (by omega)]
 refine ⟨w'.drawn - w.drawn, w'.heap.extract w.heap.size w'.heap.size, ?_⟩
 have hd : w'.drawn = w.drawn + (w'.drawn - w.drawn) := by omega
 generalize w'.heap.extract w.heap.size w'.heap.size = ex at *
 generalize w'.drawn - w.drawn = q at *
 cases w'
 simp only [Sort.grow, World.drewN] at *
 subst h1 h2 h4 hh hd
 rfl
section
variable {P : Program} {ρ : Go.Shelf.Ren} {α : Type} [Inhabited α]
theorem cmpLays_of {g : Nat} {enc : α → List Value} {k : Nat} {cf : α → α → Int} (hc : ∀ x y : α, Fn' P g #[.agg (enc x).toArray, .agg (enc y).toArray] [] [] (ι := Unit) (fun _ => .int .i64 (cf x y)) (fun _ => []) (fun _ => []))
  (blk off size : Nat) (w : World) : CmpLays P g #[] enc k cf blk off size w := fun m os dk _ x y => by
 rw [Array.append_empty]
 refine ((hc x y).go (sortWorldK enc k w blk off m dk os) (fun _ => False) (fun _ => False) ⟨(fun _ h => nomatch h), trivial, fun _ h => h.elim, fun _ h => h.elim, fun _ h => h.elim, fun _ => .inl, fun _ h => h.elim, fun _ h => h, Frm.refl _ _⟩).mono ?_
 rintro e w' ⟨_, rfl, I, S, hst⟩
 exact ⟨rfl, hst.frm.grow⟩
theorem holdsK_of {enc : α → List Value} {k : Nat} (hk : ∀ x, (enc x).length = k) {w : World} {g : Nat} {cur : Array Value} {ty : TypeId} (hh : w.heap[g]? = some (.cells cur ty (0, 0))) {l : List α} (hl : l.length * k ≤ cur.size)
  (he : ∀ i (h : i < l.length), (cur.toList.drop (i * k)).take k = enc l[i]) : HoldsK enc k w g 0 l.toArray := fun j hj => by
 rw [size_flatK] at hj
 have hj' : j < l.length * k := hj
 have k0 : 0 < k := Nat.pos_of_ne_zero fun h => by subst h; omega
 have hi : j / k < l.length := Nat.div_lt_of_lt_mul (by rwa [Nat.mul_comm] at hj')
 have hm : j % k < k := Nat.mod_lt _ k0
 have ej : j / k * k + j % k = j := by rw [Nat.mul_comm]; exact Nat.div_add_mod j k
 have h1 := congrArg (fun t : List Value => t[j % k]?) (he (j / k) hi)
 simp only [List.getElem?_take, if_pos hm, List.getElem?_drop, ej] at h1
 have h2 : j < cur.size := by omega
 refine ⟨?_, ?_⟩
 ·have h0 : w.cell? ⟨g, 0 + j, none⟩ = cur[0 + j]? := by simp [World.cell?, hh]
  rw [h0, Nat.zero_add, get_flatK _ _ _ _ hj]
  have h3 : cur[j]? = (enc l[j / k])[j % k]? := by rw [← Array.getElem?_toList]; exact h1
  rw [h3]
  have h4 : (l.toArray)[j / k]! = l[j / k] := by rw [getElem!_pos _ _ (by simpa using hi)]; rfl
  have h5 : j % k < (enc l[j / k]).length := by rw [hk]; exact hm
  rw [h4, List.getElem?_eq_getElem h5, getElem!_pos (enc l[j / k]) (j % k) h5]; rfl
 ·simp [World.frozen?, hh]
theorem sortWorld_at {enc : α → List Value} {k : Nat} {w : World} {g : Nat} {cur : Array Value} {ty : TypeId} (hh : w.heap[g]? = some (.cells cur ty (0, 0))) (n : Nat) (d : Array α) (os : Array Obj) :
  (sortWorldK enc k w g 0 n d os).heap[g]? = some (.cells (putCells id 0 (flatK enc k d) cur) ty (0, 0)) := by
 have hg : g < w.heap.size := by
  rcases Nat.lt_or_ge g w.heap.size with h | h
  ·exact h
  ·rw [Array.getElem?_eq_none h] at hh; cases hh
 unfold sortWorldK Sort.grow putRowK putRow mapBlock Sort.ahead
 simp only
 rw [Array.getElem?_append_left (by simpa using hg), Array.getElem?_modify, if_pos rfl, hh]
 rfl
theorem sortWorld_off {enc : α → List Value} {k : Nat} {w : World} {g b : Nat} (hb : b < w.heap.size) (hn : b ≠ g) (n : Nat) (d : Array α) (os : Array Obj) : (sortWorldK enc k w g 0 n d os).heap[b]? = w.heap[b]? := by
 unfold sortWorldK Sort.grow putRowK putRow mapBlock Sort.ahead
 simp only
 rw [Array.getElem?_append_left (by simpa using hb), Array.getElem?_modify, if_neg (fun e => hn e.symm)]
theorem putCells_part {enc : α → List Value} {k : Nat} (hk : ∀ x, (enc x).length = k) {cur : Array Value} {d : Array α} (hs : d.size * k ≤ cur.size) {i : Nat} (hi : i < d.size) :
  ((putCells id 0 (flatK enc k d) cur).toList.drop (i * k)).take k = enc d[i] := by
 refine List.ext_getElem? fun t => ?_
 by_cases ht : t < k
 ·have k0 : 0 < k := by omega
  have h1 : i * k + t < d.size * k := by
   have := Nat.mul_le_mul_right k (show i + 1 ≤ d.size from hi)
   rw [Nat.add_mul, Nat.one_mul] at this; omega
  have e1 : (i * k + t) / k = i := by rw [Nat.add_comm, Nat.add_mul_div_right _ _ k0, Nat.div_eq_of_lt ht, Nat.zero_add]
  have e2 : (i * k + t) % k = t := by rw [Nat.add_comm, Nat.add_mul_mod_self_right, Nat.mod_eq_of_lt ht]
  have h2 : i * k + t < cur.size := by omega
  have h5 : t < (enc d[i]).length := by rw [hk]; exact ht
  rw [List.getElem?_take, if_pos ht, List.getElem?_drop, Array.getElem?_toList]
  unfold putCells
  rw [Array.getElem?_mapIdx, Array.getElem?_eq_getElem h2, Option.map_some, if_pos ⟨Nat.zero_le _, by rw [size_flatK]; omega⟩, Nat.sub_zero, get_flatK _ _ _ _ h1, e1, e2, getElem!_pos d i hi, List.getElem?_eq_getElem h5, getElem!_pos (enc d[i]) t h5]
  rfl
 ·rw [List.getElem?_eq_none (by rw [List.length_take]; omega), List.getElem?_eq_none (by rw [hk]; omega)]
theorem Fn'.sortK [Flat α] (L : SlLaysF0.n6 P ρ) (hs0 : ∀ x : α, (Flat.enc x).length = Enc.sz α) (aE : ∀ w, (isAgg (ρ.t 24)).run P w = .ok true w) (zE : ∀ w, (Go.sizeOf (ρ.t 24)).run P w = .ok (Enc.sz α) w) (h1 : ∀ x : α, ∀ v ∈ Flat.enc x, v.oneCell' = true)
  (cf : α → α → Int) (hO : SWO (ltOf cf)) {g : Nat} (hc : ∀ x y : α, Fn' P g #[.agg (Flat.enc x).toArray, .agg (Flat.enc y).toArray] [] [] (ι := Unit) (fun _ => .int .i64 (cf x y)) (fun _ => []) (fun _ => []))
  (l : List α) (hl : l.length < 4611686018427387904) (x : Option Addr × Nat) (hcf : CF P (ρ.f 6)) :
  ∃ r : List α, r.Perm l ∧ (r.Pairwise fun a b => ltOf cf b a = false) ∧ Fn' P (ρ.f 6) #[.slice x.1 l.length x.2, .func (.func g) #[] #[]] [] [tree (.slice x.1 l.length x.2) l] (ι := Unit) (fun _ => .tuple #[]) (fun _ => []) (fun _ => [tree (.slice x.1 l.length x.2) r]) := by
 obtain ⟨hp, hso⟩ := pdq_sorts (ltOf cf) hO l.toArray 0 l.toArray.size (Lib.bitLen l.toArray.size) true true (Nat.zero_le _) (Nat.le_refl _) (Or.inl rfl)
 have hcall := fun (g0 cap : Nat) (w : World) (hH : HoldsK Flat.enc (Enc.sz α) w g0 0 l.toArray) (hb : g0 < w.heap.size) => AnyQ.slices_SortFunc_eq L (Enc.sz α) aE zE Flat.enc hs0 h1 cf hO g #[] g0 0 cap l.toArray w (fun args w => (hc default default).cf.run args w) (cmpLays_of hc g0 0 _ w) hH hb hl
 generalize pdq (ltOf cf) l.toArray 0 l.toArray.size (Lib.bitLen l.toArray.size) true true = D at *
 have hsz : D.size = l.length := hp.1
 have hperm : D.toList.Perm l := by
  have := hp.2.2
  have e1 : D.extract 0 l.toArray.size = D := by rw [show l.toArray.size = D.size from hsz.symm]; exact Array.extract_size
  have e2 : l.toArray.extract 0 l.toArray.size = l.toArray := Array.extract_size
  rw [e1, e2] at this
  exact this
 refine ⟨D.toList, hperm, ?_, hcf, fun w I S hst => ?_⟩
 ·rw [List.pairwise_iff_getElem]
  intro i j hi hj hij
  have hi' : i < D.size := by simpa using hi
  have hj' : j < D.size := by simpa using hj
  have := hso i j (Nat.zero_le _) hij (by rw [show l.toArray.size = l.length from rfl]; omega)
  rw [getElem!_pos D i hi', getElem!_pos D j hj'] at this
  simpa using this
 ·obtain ⟨A, B, mA, mB, dj, hv, hr⟩ := id hst.own
  rcases hv with ⟨e1, e2⟩ | ⟨g0, cap, cur, ty, e, hg, hh, n1, n2, n3, Ss, t1, t2, t3⟩
  ·have hD : D.toList = [] := by
    rw [e2] at hperm; exact List.perm_nil.1 hperm
   rw [hD, e1]
   rw [e1, e2] at hst
   refine (AnyF.slices_SortFunc_none L none 0 _ w).mono ?_
   rintro e w' ⟨rfl, rfl⟩
   exact ⟨(), rfl, I, S, hst⟩
  ·have hgl : g0 < w.heap.size := hst.slt _ (mA _ hg)
   rw [e] at hst ⊢
   refine (show Calls P (ρ.f 6) #[.slice (some ⟨g0, 0, none⟩) l.length cap, .func (.func g) #[] #[]] w _ from hcall g0 cap w (holdsK_of hs0 hh (by rw [n3]; exact Nat.mul_le_mul_right _ n1) fun i hi => (Flat.rd (Enc.tr_rd (t3 i hi))).1) hgl).mono ?_
   rintro e' w' ⟨rfl, n, os, rfl⟩
   refine ⟨(), rfl, ?_⟩
   refine Sta.upd (o := tree (.slice (some ⟨g0, 0, none⟩) l.length cap) l) (o' := tree (.slice (some ⟨g0, 0, none⟩) l.length cap) D.toList) ⟨I, S, hst⟩ .here fun I' S' S1 hst1 m1 ho1 => ?_
   have hg1 : S1 g0 := by
    rcases ho1 with ⟨q, _⟩ | ⟨g1, _, _, _, q, hq, _⟩
    ·cases q
    ·injection q with q1 _ _
     injection q1 with q1
     injection q1 with q1 _ _
     rw [q1]; exact hq
   refine ⟨S1, fun b => .inl, .inr ⟨g0, cap, _, ty, by rw [Array.length_toList]; exact congrArg (fun n => Value.slice (some ⟨g0, 0, none⟩) n cap) hsz.symm, hg1, sortWorld_at hh n D os, by rw [Array.length_toList, hsz]; exact n1, n2, ?_, fun _ _ => False, fun _ _ _ h => h.elim, fun _ _ _ _ _ h => h.elim, fun i hi => ?_⟩, fun b hb hn => sortWorld_off hb (fun e => hn (e ▸ hg1)) n D os, ?_, rfl, ⟨rfl, Nat.le_add_right _ _⟩, rfl⟩
   ·rw [← n3]; unfold putCells; exact Array.size_mapIdx
   ·have hi' : i < D.size := by simpa using hi
    have hm : D.toList[i] ∈ l := hperm.mem_iff.1 (List.getElem_mem hi)
    obtain ⟨j, hj, ej⟩ := List.mem_iff_getElem.1 hm
    show Enc.Tr _ _ (((putCells id 0 (flatK Flat.enc (Enc.sz α) D) cur).toList.drop (i * Enc.sz α)).take (Enc.sz α)) _
    rw [putCells_part hs0 (by rw [n3, hsz]; exact Nat.mul_le_mul_right _ n1) hi', show D.toList[i] = D[i] from Array.getElem_toList ..]
    refine Flat.tr ?_
    rw [← show D.toList[i] = D[i] from Array.getElem_toList .., ← ej]
    exact (Flat.rd (Enc.tr_rd (t3 j hj))).2
   ·unfold sortWorldK Sort.grow putRowK putRow mapBlock Sort.ahead
    simp
end
end Go.Sx

namespace Go.Sx
open Go Go.RowKit
section
variable {α : Type}
variable [Enc α] {c : Ctx} {fs : List Fact} {os os1 : List Own} {w : World}
end
section
variable {P : Program} {c : Ctx} {N : Nat} {s : Slots} {fs : List Fact} {os os1 os' : List Own} {Q : Exit → Act → World → Prop} {code : Code}
variable {d : Option Tmp} {ty : TypeId} {pos : String} {af : Array Edge} {gd : Option (Nat × Bool)}
end
theorem Del.skip {o : Own} {os1 os2 : List Own} (h : Del os1 o os2) : ∀ a : List Own, Del (a ++ os1) o (a ++ os2)
 | [] => h
 | _ :: a => .there (Del.skip h a)
theorem Take.skip {r os1 os2 : List Own} (h : Take os1 r os2) (a : List Own) : Take (a ++ os1) r (a ++ os2) := by
 induction h with
 | nil => exact .nil
 | cons hd _ ih => exact .cons (Del.skip hd a) ih
end Go.Sx

namespace Go.Sx
open Go Go.RowKit
section
variable {P : Program} {c : Ctx} {N : Nat} {s : Slots} {fs : List Fact} {os os1 os' : List Own} {Q : Exit → Act → World → Prop} {code : Code}
variable {d : Option Tmp} {ty : TypeId} {pos : String} {af : Array Edge} {gd : Option (Nat × Bool)}
end
end Go.Sx

namespace Go.Sx
open Go Go.RowKit
section
variable {A B : Type} [Enc A] [Enc B]
variable {c : Ctx} {fs : List Fact} {os os1 : List Own} {w : World}
end
end Go.Sx

namespace Go.Sx
open Go
section
variable {α : Type} [Inhabited α] {keep : α → Bool} {n : Nat} {body : List α × Int × Int → Option ((List α × Int × Int) ⊕ (List α × Int))}
end
end Go.Sx

namespace Go.Sx
open Go Go.RowKit
def wr64 (n : Int) : Int := IntKind.wrap .i64 n
theorem wr64_id {n : Int} (h : I64 n) : wr64 n = n := IntWalk.i64_in n h
section
variable {P : Program} {N : Nat} {s : Slots} {d : Option Tmp} {ty : TypeId} {pos : String} {af : Array Edge} {gd : Option (Nat × Bool)}
theorem p_addW {t t' : TypeId} {x y : Operand} {m n : Int} (hx : ev s x = some (.int .i64 m)) (hy : ev s y = some (.int .i64 n)) : Pu P N s ⟨d, .binOp .add t x y t', ty, pos, af, gd⟩ (.int .i64 (wr64 (m + n))) :=
 p_bin hx hy fun w => by
  simp [eqGuard, binOp, Op.intArith, wr64]
end
end Go.Sx

namespace Go.Sx
open Go Go.RowKit Go.Proofs
theorem FnL'.below {P : Program} {f : FuncId} {args : Array Value} {fsC : List Fact} {v : Value} (hcf : CF P f)
  (h : ∀ w I S, St ⟨w, I, S, True⟩ fsC [] w I S → Calls P f args w fun e w' => e = .returned v ∧ Below w.heap.size w w') : FnL' True P f args fsC [] (ι := Unit) (fun _ => v) (fun _ => []) (fun _ => []) := by
 refine ⟨hcf, fun w I S hst => (h w I S hst).mono ?_⟩
 rintro e w' ⟨rfl, hb⟩
 refine ⟨(), rfl, I, S, (fun _ h => nomatch h), trivial, hst.dj, fun b hb' => Nat.lt_of_lt_of_le (hst.ilt b hb') hb.size, fun b hb' => Nat.lt_of_lt_of_le (hst.slt b hb') hb.size, fun _ => .inl, fun _ => .inl, fun _ h => h,
  ⟨hb.os, ⟨hb.tape, .inl trivial⟩, hb.output, hb.size, fun b hb' _ => hb.block b hb'⟩⟩
end Go.Sx

namespace Go.Sx
open Go Go.RowKit
section
variable {P : Program} {c : Ctx} {N : Nat} {s : Slots} {fs : List Fact} {os os1 os' : List Own} {Q : Exit → Act → World → Prop} {code : Code}
variable {d : Option Tmp} {ty : TypeId} {pos : String} {af : Array Edge} {gd : Option (Nat × Bool)}
theorem p_ssl {x : Operand} {t : TypeId} {b : ByteArray} {lo hi : Option Operand} (i j : Int) (hu : P.underlying t = some .string) (hx : ev s x = some (.string b))
  (hlo : lo.map (ev s) = (if lo.isSome then some (some (.int .i64 i)) else none)) (ha : lo = none → i = 0) (hhi : hi.map (ev s) = (if hi.isSome then some (some (.int .i64 j)) else none)) (hb : hi = none → j = (b.size : Int)) (h : sl2 i j b.size) :
  Pu P N s ⟨d, .slice t x lo hi none, ty, pos, af, gd⟩ (.string (b.extract i.toNat j.toNat)) := fun w0 w hs => by
 obtain ⟨i, rfl⟩ := Int.eq_ofNat_of_zero_le (show 0 ≤ i by unfold sl2 at h; omega)
 obtain ⟨j, rfl⟩ := Int.eq_ofNat_of_zero_le (show 0 ≤ j by unfold sl2 at h; omega)
 have hij : i ≤ j ∧ j ≤ b.size := by unfold sl2 at h; omega
 have elo : (lo.map w0.eval) = lo.map fun _ => Value.int .i64 (i : Int) := by
  cases lo with
  | none => rfl
  | some o => simp at hlo; simp [hs.ev hlo]
 have ehi : (hi.map w0.eval) = hi.map fun _ => Value.int .i64 (j : Int) := by
  cases hi with
  | none => rfl
  | some o => simp at hhi; simp [hs.ev hhi]
 simp only [Int.toNat_natCast]
 cases lo with
 | none =>
  have hi0 : i = 0 := by have := ha rfl; omega
  subst hi0
  cases hi with
  | none =>
   have hjs : j = b.size := by have := hb rfl; omega
   subst hjs
   simp [execOp, hs.ev hx, Instr.sliceAt, Instr.slice, run_underlying hu, Instr.sliceBounds]
  | some o =>
   simp only [Option.map_some, Option.some.injEq] at ehi
   simp [execOp, hs.ev hx, ehi, Instr.sliceAt, Instr.slice, run_underlying hu, Instr.sliceBounds, Instr.sliceBound, asIntOf, hij.2]
 | some p =>
  simp only [Option.map_some, Option.some.injEq] at elo
  cases hi with
  | none =>
   have hjs : j = b.size := by have := hb rfl; omega
   subst hjs
   simp [execOp, hs.ev hx, elo, Instr.sliceAt, Instr.slice, run_underlying hu, Instr.sliceBounds, Instr.sliceBound, asIntOf, hij.1]
  | some o =>
   simp only [Option.map_some, Option.some.injEq] at ehi
   simp [execOp, hs.ev hx, elo, ehi, Instr.sliceAt, Instr.slice, run_underlying hu, Instr.sliceBounds, Instr.sliceBound, asIntOf, hij.1, hij.2]
end
end Go.Sx

namespace Go.Sx
open Go Go.RowKit
section
variable {P : Program} {N : Nat} {s : Slots} {d : Option Tmp} {ty : TypeId} {pos : String} {af : Array Edge} {gd : Option (Nat × Bool)}
end
end Go.Sx

namespace Go.Sx
open Go Go.RowKit
structure GoodX (xx : Nat) (ops : Array Oper) (n : Nat) (p ef fr : List Nat) : Prop where
  all : ∀ i, i < ops.size → i ∈ p
  nodup : p.Nodup
  lt : ∀ i ∈ p, i < ops.size
  edge : ∀ q i r, p = q ++ i :: r → ∀ (o : Oper), ops[i]? = some o → ∀ e ∈ o.after, Region.binds .any e = true → e.on ∈ q
  sel : ∀ (i : Nat) (o : Oper), ops[i]? = some o → ∀ cs x, o.op ≠ .select cs x
  uniq : ∀ (i j : Nat) (o oj : Oper) (d : Nat), ops[i]? = some o → ops[j]? = some oj → oj.dst = some d → o.dst = some d → i = j
  look : ∀ (i j : Nat) (o oj : Oper) (d : Nat), ops[i]? = some o → ops[j]? = some oj → oj.dst = some d → d ∈ o.looksAt ops → i ≠ j ∧ anc ops n i j = true
  chain : ∀ q e r, p = q ++ e :: r → e ≠ xx → (ef.contains e = true ∨ fr.contains e = true) → ∀ j ∈ r, (ef.contains j = true ∧ anc ops n j e = true) ∨ (ef.contains j = false ∧ (fr.contains j = true ∨ (fr.contains e = true ∧ anc ops n j e = true) ∨ ∃ e' ∈ e :: r, ef.contains e' = true ∧ anc ops n j e' = true))
  disj : ∀ i, ef.contains i = true → fr.contains i = false
section
variable {xx : Nat} {P : Program} {c : Ctx} {N : Nat} {ops : Array Oper} {n : Nat} {ef p0 : List Nat} {fa : List FreeA} {R : Slots → List Fact → List Own → Prop} {Q : Exit → Act → World → Prop}
end
end Go.Sx

namespace Go.Sx
open Go Go.RowKit
section
variable (P : Program) (N : Nat) (ops : Array Oper) (ef : List Nat) (fa : List FreeA)
end
section
variable {P : Program} {c : Ctx} {N : Nat} {ops : Array Oper} {n : Nat} {ef : List Nat} {fa : List FreeA} {R : Slots → List Fact → List Own → Prop} {Q : Exit → Act → World → Prop} {fs : List Fact} {os : List Own}
variable {i d : Nat} {op : Op} {ty : TypeId} {pos : String} {af : Array Edge} {gd : Option (Nat × Bool)} {v : Value}
end
end Go.Sx

