/- Definitions: an abstract machine for the model's code: heaps, frames, the relation between abstract and real values. No conditions. -/
import Derived.Orders
import Derived.WalkKit
set_option linter.unusedVariables false
set_option linter.unusedSimpArgs false
namespace Go.Proofs.YtbpabpnpoidpcaaGreatDoor
namespace Am
open Go

abbrev Fr := Nat → Value
def upd {α : Type} (f : Nat → α) (i : Nat) (v : α) : Nat → α := fun j => if j = i then v else f j
@[simp] theorem upd_same {α : Type} (f : Nat → α) (i : Nat) (v : α) : upd f i v i = v := by simp [upd]
theorem upd_ne {α : Type} (f : Nat → α) {i j : Nat} (v : α) (h : j ≠ i) : upd f i v j = f j := by simp [upd, h]

/-- A range over a function that is under way: its frame as it was at the statement, its slots' number, and how far it is. -/
structure ALoop where
  f : FuncId
  n : Nat
  t : Fr
  ps : Array Tmp
  asg : Code
  body : Code
  st : LoopState
  pend : Option Code

/-- An abstract block: a row of cells (ro: it came in, and is not written; sz: cells of an element), a map, or one that is no longer used. -/
inductive Blk where
  | cells (ro : Bool) (sz : Nat) (cs : List Value)
  | map (es : List (Value × Value))
  | loop (L : ALoop)
  | dead

structure Hp where
  n : Nat
  f : Nat → Blk

def Hp.alloc (H : Hp) (b : Blk) : Hp := ⟨H.n + 1, upd H.f H.n b⟩
def Hp.put (H : Hp) (i : Nat) (b : Blk) : Hp := ⟨H.n, upd H.f i b⟩

def Blk.ro : Blk → Bool
  | .cells r _ _ => r
  | _ => false
def Blk.live : Blk → Bool
  | .dead => false
  | _ => true

/-- A value that is not known (a package's variable's address). -/
abbrev junk : Value := .tuple #[.nilFunc]

def ev (t : Fr) : Operand → Value
  | .tmp i => t i
  | .const v => v
  | .global _ => junk
  | .func f => .func (.func f) #[] #[]

/-- Values without addresses. -/
def flat0 : Value → Bool
  | .bool _ | .int _ _ | .float _ _ | .complex _ _ _ | .string _ | .nilFunc | .nilIface | .pointer none | .slice none _ _ | .map none | .chan none => true
  | _ => false
def flat : Value → Bool
  | .iface _ v => flat0 v
  | v => flat0 v
def plain : Value → Bool
  | .agg cs => cs.all flat
  | .tuple vs => vs.all flat
  | .iface _ (.agg cs) => cs.all flat
  | v => flat v

/-- Where an abstract block lies: the real block, by how much its cells stand further on, the cells of an element, the cells of the real block. -/
structure Tgt where
  c : Nat
  s : Nat
  sz : Nat
  N : Nat

abbrev Mp := Nat → Option Tgt
def Mp.le (r r' : Mp) : Prop := ∀ b x, r b = some x → r' b = some x
theorem Mp.le.refl (r : Mp) : Mp.le r r := fun _ _ h => h
theorem Mp.le.trans {a b c : Mp} (h : Mp.le a b) (k : Mp.le b c) : Mp.le a c := fun _ _ e => k _ _ (h _ _ e)

/-- The relation of an abstract value and a real one. -/
inductive VRel (r : Mp) : Value → Value → Prop
  | junk (v : Value) : VRel r junk v
  | plain (v : Value) (h : plain v = true) : VRel r v v
  | ptr {b o : Nat} {x : Tgt} (h : r b = some x) : VRel r (.pointer (some ⟨b, o, none⟩)) (.pointer (some ⟨x.c, o + x.s, none⟩))
  | slice {b o o' len cap cap' : Nat} {x : Tgt} (h : r b = some x) (ho : 0 < cap → o' = o + x.s) (hc : cap ≤ cap') (hl : len ≤ cap) (hN : o' + cap' * x.sz ≤ x.N) :
      VRel r (.slice (some ⟨b, o, none⟩) len cap) (.slice (some ⟨x.c, o', none⟩) len cap')
  | map {b : Nat} {x : Tgt} (h : r b = some x) : VRel r (.map (some b)) (.map (some x.c))
  | iface (t : TypeId) {v v' : Value} (h : VRel r v v') : VRel r (.iface t v) (.iface t v')
  | func (fn : FuncId) {f c f' c' : Array Value} (hf : f.size = f'.size) (hc : c.size = c'.size)
      (h1 : ∀ i (h : i < f.size) (h' : i < f'.size), VRel r f[i] f'[i]) (h2 : ∀ i (h : i < c.size) (h' : i < c'.size), VRel r c[i] c'[i]) : VRel r (.func (.func fn) f c) (.func (.func fn) f' c')
  | yield {b : Nat} {x : Tgt} (h : r b = some x) : VRel r (.func (.yield b) #[] #[]) (.func (.yield x.c) #[] #[])
  | agg {c c' : Array Value} (hc : c.size = c'.size) (h : ∀ i (h : i < c.size) (h' : i < c'.size), VRel r c[i] c'[i]) : VRel r (.agg c) (.agg c')
  | tuple {c c' : Array Value} (hc : c.size = c'.size) (h : ∀ i (h : i < c.size) (h' : i < c'.size), VRel r c[i] c'[i]) : VRel r (.tuple c) (.tuple c')

theorem VRel.mono {r r' : Mp} (hr : Mp.le r r') {v v' : Value} (h : VRel r v v') : VRel r' v v' := by
  induction h with
  | junk v => exact .junk v
  | plain v h => exact .plain v h
  | ptr h => exact .ptr (hr _ _ h)
  | slice h ho hc hl hN => exact .slice (hr _ _ h) ho hc hl hN
  | map h => exact .map (hr _ _ h)
  | iface t h ih => exact .iface t ih
  | func fn hf hc h1 h2 i1 i2 => exact .func fn hf hc i1 i2
  | yield h => exact .yield (hr _ _ h)
  | agg hc h ih => exact .agg hc ih
  | tuple hc h ih => exact .tuple hc ih

/-- Lists, element by element. -/
def LRel (r : Mp) (l l' : List Value) : Prop := l.length = l'.length ∧ ∀ i (h : i < l.length) (h' : i < l'.length), VRel r l[i] l'[i]
theorem LRel.mono {r r' : Mp} (hr : Mp.le r r') {l l' : List Value} (h : LRel r l l') : LRel r' l l' := ⟨h.1, fun i a b => (h.2 i a b).mono hr⟩
theorem LRel.nil {r : Mp} : LRel r [] [] := ⟨rfl, fun i h => absurd h (by simp)⟩
theorem LRel.cons {r : Mp} {v v' : Value} {l l' : List Value} (h : VRel r v v') (k : LRel r l l') : LRel r (v :: l) (v' :: l') := by
  refine ⟨by simp [k.1], fun i a b => ?_⟩
  cases i with
  | zero => exact h
  | succ i => exact k.2 i (by simpa using a) (by simpa using b)
theorem LRel.uncons {r : Mp} {v : Value} {l m : List Value} (h : LRel r (v :: l) m) : ∃ v' l', m = v' :: l' ∧ VRel r v v' ∧ LRel r l l' := by
  cases m with
  | nil => simp [LRel] at h
  | cons v' l' =>
    refine ⟨v', l', rfl, h.2 0 (by simp) (by simp), by simpa using h.1, fun i a b => ?_⟩
    exact h.2 (i + 1) (by simpa using a) (by simpa using b)
theorem LRel.append {r : Mp} {a a' b b' : List Value} (h : LRel r a a') (k : LRel r b b') : LRel r (a ++ b) (a' ++ b') := by
  refine ⟨by simp [h.1, k.1], fun i p q => ?_⟩
  by_cases hi : i < a.length
  · have hi' : i < a'.length := h.1 ▸ hi
    rw [List.getElem_append_left hi, List.getElem_append_left hi']
    exact h.2 _ _ _
  · have hi' : ¬ i < a'.length := h.1 ▸ hi
    rw [List.getElem_append_right (by omega), List.getElem_append_right (by omega)]
    have : i - a.length = i - a'.length := by rw [h.1]
    simp only [this]
    exact k.2 _ (by simp at p; omega) (by simp at q; omega)
theorem LRel.of_plain {r : Mp} {l : List Value} (h : ∀ v ∈ l, plain v = true) : LRel r l l := ⟨rfl, fun i a b => .plain _ (h _ (List.getElem_mem _))⟩
theorem LRel.get? {r : Mp} {l l' : List Value} (h : LRel r l l') {i : Nat} {v : Value} (hv : l[i]? = some v) : ∃ v', l'[i]? = some v' ∧ VRel r v v' := by
  obtain ⟨hi, rfl⟩ := List.getElem?_eq_some_iff.1 hv
  have hi' : i < l'.length := h.1 ▸ hi
  exact ⟨l'[i], by simp [hi'], h.2 i hi hi'⟩
theorem LRel.drop {r : Mp} {l l' : List Value} (h : LRel r l l') (n : Nat) : LRel r (l.drop n) (l'.drop n) :=
  ⟨by simp [h.1], fun i a b => by simp only [List.getElem_drop]; exact h.2 _ _ _⟩
theorem LRel.take {r : Mp} {l l' : List Value} (h : LRel r l l') (n : Nat) : LRel r (l.take n) (l'.take n) :=
  ⟨by simp [h.1], fun i a b => by simp only [List.getElem_take]; exact h.2 _ _ _⟩
theorem VRel.agg_of {r : Mp} {l l' : List Value} (h : LRel r l l') : VRel r (.agg l.toArray) (.agg l'.toArray) :=
  .agg (by simp [h.1]) fun i a b => by simpa using h.2 i (by simpa using a) (by simpa using b)
theorem VRel.tuple_of {r : Mp} {l l' : List Value} (h : LRel r l l') : VRel r (.tuple l.toArray) (.tuple l'.toArray) :=
  .tuple (by simp [h.1]) fun i a b => by simpa using h.2 i (by simpa using a) (by simpa using b)

/-- A block and where it lies. -/
def BRel (r : Mp) (b : Blk) (x : Tgt) (w : World) : Prop :=
  match b with
  | .cells ro sz cs => x.sz = sz ∧ ∃ cs' el fr, w.heap[x.c]? = some (.cells cs' el fr) ∧ cs'.size = x.N ∧ x.s + cs.length ≤ x.N ∧
      LRel r cs ((cs'.toList.drop x.s).take cs.length) ∧ (ro = false → ∀ i, i < x.N → ¬ (fr.1 ≤ i ∧ i < fr.2)) ∧ ∀ v ∈ cs, v.oneCell' = true
  | .map es => ∃ es' clock, w.heap[x.c]? = some (.map es' clock) ∧ es.length = es'.toList.length ∧
      ∀ i (h : i < es.length) (h' : i < es'.toList.length), es'.toList[i].key = es[i].1 ∧ plain es[i].1 = true ∧ VRel r es[i].2 es'.toList[i].val
  | .loop L => ∃ fn tmps dfs, w.heap[x.c]? = some (.loop { state := L.st, pending := L.pend, fn := fn, tmps := tmps, params := L.ps, assign := L.asg, body := L.body, defers := dfs }) ∧
      tmps.size = L.n ∧ ∀ i, VRel r (L.t i) (tmps.getD i undef)
  | .dead => True

theorem BRel.mono {r r' : Mp} (hr : Mp.le r r') {b : Blk} {x : Tgt} {w : World} (h : BRel r b x w) : BRel r' b x w := by
  cases b with
  | cells ro sz cs =>
    obtain ⟨h0, cs', el, fr, h1, h2, h3, h4, h5⟩ := h
    exact ⟨h0, cs', el, fr, h1, h2, h3, h4.mono hr, h5⟩
  | map es =>
    obtain ⟨es', clock, h1, h2, h3⟩ := h
    exact ⟨es', clock, h1, h2, fun i a b => ⟨(h3 i a b).1, (h3 i a b).2.1, (h3 i a b).2.2.mono hr⟩⟩
  | loop L =>
    obtain ⟨fn, tmps, dfs, h1, h2, h3⟩ := h
    exact ⟨fn, tmps, dfs, h1, h2, fun i => (h3 i).mono hr⟩
  | dead => trivial
theorem BRel.same {r : Mp} {b : Blk} {x : Tgt} {w w' : World} (hw : w'.heap[x.c]? = w.heap[x.c]?) (h : BRel r b x w) : BRel r b x w' := by
  cases b <;> simp only [BRel, hw] at * <;> exact h

structure Sim (r : Mp) (H : Hp) (w : World) : Prop where
  lt : ∀ b x, r b = some x → b < H.n
  ltw : ∀ b x, r b = some x → x.c < w.heap.size
  blk : ∀ b x, r b = some x → BRel r (H.f b) x w
  inj : ∀ b b' x x', r b = some x → r b' = some x' → x.c = x'.c → (H.f b).live = true → (H.f b').live = true → b = b'

/-- A real block that the abstract machine may write. -/
def Wr (r : Mp) (H : Hp) (c : Nat) : Prop := ∃ b x, r b = some x ∧ x.c = c ∧ (H.f b).ro = false

structure Step (r : Mp) (H : Hp) (w : World) (r' : Mp) (H' : Hp) (w' : World) : Prop where
  le : Mp.le r r'
  hn : H.n ≤ H'.n
  old : ∀ b, b < H.n → r b = none → r' b = none ∧ H'.f b = H.f b
  ro : ∀ b, b < H.n → (H.f b).ro = true → H'.f b = H.f b
  new : ∀ b x, r b = none → r' b = some x → w.heap.size ≤ x.c ∨ Wr r H x.c
  os : w'.os = w.os
  tape : w'.tape = w.tape
  output : w'.output = w.output
  size : w.heap.size ≤ w'.heap.size
  same : ∀ c, c < w.heap.size → ¬ Wr r H c → w'.heap[c]? = w.heap[c]?

theorem Step.refl (r : Mp) (H : Hp) (w : World) : Step r H w r H w :=
  ⟨Mp.le.refl r, Nat.le_refl _, fun _ _ h => ⟨h, rfl⟩, fun _ _ _ => rfl, fun b x h h' => (by rw [h] at h'; exact absurd h' (by simp)), rfl, rfl, rfl, Nat.le_refl _, fun _ _ _ => rfl⟩

theorem Step.wr {r r' : Mp} {H H' : Hp} {w w' : World} (hs : Sim r H w) (h : Step r H w r' H' w') {c : Nat} (hc : Wr r' H' c) : Wr r H c ∨ w.heap.size ≤ c := by
  obtain ⟨b, x, hb, rfl, hro⟩ := hc
  cases hr : r b with
  | none =>
    rcases h.new b x hr hb with h1 | h1
    · exact .inr h1
    · exact .inl h1
  | some y =>
    have : y = x := by have := h.le _ _ hr; rw [hb] at this; exact (Option.some.inj this).symm
    subst this
    refine .inl ⟨b, y, hr, rfl, ?_⟩
    cases hq : (H.f b).ro with
    | false => rfl
    | true => rw [h.ro b (hs.lt _ _ hr) hq, hq] at hro; exact hro

theorem Step.trans {r r1 r2 : Mp} {H H1 H2 : Hp} {w w1 w2 : World} (hs : Sim r H w) (h : Step r H w r1 H1 w1) (k : Step r1 H1 w1 r2 H2 w2) : Step r H w r2 H2 w2 where
  le := h.le.trans k.le
  hn := Nat.le_trans h.hn k.hn
  old := fun b hb hr => by
    obtain ⟨a1, a2⟩ := h.old b hb hr
    obtain ⟨b1, b2⟩ := k.old b (Nat.lt_of_lt_of_le hb h.hn) a1
    exact ⟨b1, b2.trans a2⟩
  ro := fun b hb hr => by
    have e := h.ro b hb hr
    rw [← e] at hr
    rw [k.ro b (Nat.lt_of_lt_of_le hb h.hn) hr, e]
  new := fun b x hb hx => by
    cases hr : r1 b with
    | some y =>
      have : y = x := by have := k.le _ _ hr; rw [hx] at this; exact (Option.some.inj this).symm
      subst this
      exact h.new b y hb hr
    | none =>
      rcases k.new b x hr hx with e | e
      · exact .inl (Nat.le_trans h.size e)
      · exact (h.wr hs e).symm
  os := k.os.trans h.os
  tape := k.tape.trans h.tape
  output := k.output.trans h.output
  size := Nat.le_trans h.size k.size
  same := fun c hc hw => by
    rw [k.same c (Nat.lt_of_lt_of_le hc h.size) (fun e => (h.wr hs e).elim hw (fun e => by omega)), h.same c hc hw]

end Am
end Go.Proofs.YtbpabpnpoidpcaaGreatDoor
