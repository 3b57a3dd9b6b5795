/- The abstract machine's regions whose order is drawn: done in one order, and the model answers so in every order. No conditions. -/
import Derived.Test.YtbpabpnpoidpcaaGreatDoorAbsd
set_option linter.unusedVariables false
set_option linter.unusedSimpArgs false
namespace Go.Proofs.YtbpabpnpoidpcaaGreatDoor
namespace Am
open Go Go.RowKit

/-- A place in the order: the operation, those that come before it whatever the order (bits), those whose reading must be looked at again after it. -/
structure PE where
  i : Nat
  m : Nat
  js : List Nat

def opCl (P : Program) (ops : Array Oper) (i : Nat) : Cl := match ops[i]? with
  | some o => cl P o.op
  | none => .writer
def looks (ops : Array Oper) (i : Nat) : List Tmp := match ops[i]? with
  | some o => o.looksAt ops
  | none => []
def hits (ops : Array Oper) (i j : Nat) : Bool := match gslot ops i with
  | some d => (looks ops j).contains d
  | none => false

/-- A reading comes to the same still; or what is made is of plain values. -/
def late (P : Program) (call : CallF) (ops : Array Oper) (t : Fr) (H : Hp) (j : Nat) : Prop := match ops[j]? with
  | none => False
  | some o => match awanted ops t o with
    | none => False
    | some false => True
    | some true => if cl P o.op = .alloc then ∀ x ∈ o.op.operands, flat (ev t x) = true else ∃ d, o.dst = some d ∧ astep P call t H o = some (t d, H)

open Classical in
noncomputable def adraw (P : Program) (call : CallF) (ops : Array Oper) : List PE → Fr → Hp → Option (Fr × Hp)
  | [], t, H => some (t, H)
  | e :: c, t, H => match aone P call ops t H e.i with
    | none => none
    | some (t', H') => if ∀ j ∈ e.js, late P call ops t' H' j then adraw P call ops c t' H' else none

theorem adraw_trace {P : Program} {call : CallF} {ops : Array Oper} {t' : Fr} {H' : Hp} : ∀ (c : List PE) (t : Fr) (H : Hp), adraw P call ops c t H = some (t', H') →
    ∃ (T : Nat → Fr) (G : Nat → Hp), T 0 = t ∧ G 0 = H ∧ T c.length = t' ∧ G c.length = H' ∧
      ∀ p e, c[p]? = some e → aone P call ops (T p) (G p) e.i = some (T (p + 1), G (p + 1)) ∧ ∀ j ∈ e.js, late P call ops (T (p + 1)) (G (p + 1)) j := by
  intro c
  induction c with
  | nil =>
    intro t H h
    simp only [adraw, Option.some.injEq, Prod.mk.injEq] at h
    obtain ⟨rfl, rfl⟩ := h
    exact ⟨fun _ => t, fun _ => H, rfl, rfl, rfl, rfl, fun p e he => by simp at he⟩
  | cons e c ih =>
    intro t H h
    simp only [adraw] at h
    cases h1 : aone P call ops t H e.i with
    | none => simp [h1] at h
    | some q =>
      obtain ⟨t1, H1⟩ := q
      simp only [h1] at h
      split at h
      · rename_i hl
        obtain ⟨T, G, a1, a2, a3, a4, a5⟩ := ih t1 H1 h
        refine ⟨fun n => match n with | 0 => t | n + 1 => T n, fun n => match n with | 0 => H | n + 1 => G n, rfl, rfl, a3, a4, fun p e' he => ?_⟩
        cases p with
        | zero =>
          simp only [List.getElem?_cons_zero, Option.some.injEq] at he
          subst he
          simp only [a1, a2]
          exact ⟨h1, hl⟩
        | succ p => exact a5 p e' (by simpa using he)
      · cases h

def edgeOk (ops : Array Oper) (c : List PE) (e : PE) : Bool := match ops[e.i]? with
  | none => false
  | some o => (o.after.all fun x => !Region.binds .any x || (e.m.testBit x.on && (decide (x.on < ops.size) && x.on != e.i))) &&
      (List.range ops.size).all fun k => !e.m.testBit k || o.after.any fun x => Region.binds .any x && (x.on == k || c.any fun e' => e'.i == x.on && e'.m.testBit k)

def isRA (P : Program) (ops : Array Oper) (i : Nat) : Bool := opCl P ops i == .read || opCl P ops i == .alloc

def pairOk (P : Program) (ops : Array Oper) (e e' : PE) : Bool :=
  e.i != e'.i && !e.m.testBit e'.i &&
  (e'.m.testBit e.i || (opCl P ops e.i != .writer && !hits ops e.i e'.i && !hits ops e'.i e.i)) &&
  (match gslot ops e.i, gslot ops e'.i with | some d, some d' => d != d' | _, _ => true) &&
  (!isRA P ops e.i || !hits ops e'.i e.i)

/-- Readings are looked at again often enough. -/
def covR (P : Program) (ops : Array Oper) (e : PE) : Bool → List PE → Bool
  | _, [] => true
  | fr, e' :: l =>
    (e'.m.testBit e.i || (e'.js.contains e.i || (fr && (opCl P ops e'.i == .pure || opCl P ops e'.i == .read)))) &&
    covR P ops e (e'.js.contains e.i || (fr && (opCl P ops e'.i == .pure || opCl P ops e'.i == .read))) l
def covA (e : PE) (l : List PE) : Bool := (l.all fun e' => e'.m.testBit e.i) || l.any fun e' => e'.js.contains e.i
def covAll (P : Program) (ops : Array Oper) : List PE → Bool
  | [] => true
  | e :: l => (match opCl P ops e.i with
    | .read => covR P ops e true l && !hits ops e.i e.i
    | .alloc => covA e l && !hits ops e.i e.i
    | _ => true) && covAll P ops l

def planOk (P : Program) (n : Nat) (ops : Array Oper) (c : List PE) : Bool :=
  regOk n ops && c.length == ops.size && ((List.range ops.size).all fun i => c.any (·.i == i)) && (c.all (edgeOk ops c)) &&
  decide (c.Pairwise fun e e' => pairOk P ops e e' = true) && covAll P ops c

/-- What the plan's check says, and the order's course. -/
structure Tr (P : Program) (call : CallF) (n : Nat) (ops : Array Oper) (c : List PE) (T : Nat → Fr) (G : Nat → Hp) : Prop where
  reg : regOk n ops = true
  len : c.length = ops.size
  all : ∀ i, i < ops.size → ∃ (p : Nat) (e : PE), c[p]? = some e ∧ e.i = i
  edge : ∀ (p : Nat) (e : PE), c[p]? = some e → edgeOk ops c e = true
  pair : ∀ (p q : Nat) (e e' : PE), c[p]? = some e → c[q]? = some e' → p < q → pairOk P ops e e' = true
  cov : ∀ (p : Nat) (e : PE), c[p]? = some e → (opCl P ops e.i = .read → covR P ops e true (c.drop (p + 1)) = true ∧ hits ops e.i e.i = false) ∧ (opCl P ops e.i = .alloc → covA e (c.drop (p + 1)) = true ∧ hits ops e.i e.i = false)
  step : ∀ (p : Nat) (e : PE), c[p]? = some e → aone P call ops (T p) (G p) e.i = some (T (p + 1), G (p + 1))
  lt : ∀ (p : Nat) (e : PE), c[p]? = some e → ∀ j ∈ e.js, late P call ops (T (p + 1)) (G (p + 1)) j

theorem covAll_spec {P : Program} {ops : Array Oper} : ∀ {c : List PE}, covAll P ops c = true → ∀ p e, c[p]? = some e →
    (opCl P ops e.i = .read → covR P ops e true (c.drop (p + 1)) = true ∧ hits ops e.i e.i = false) ∧ (opCl P ops e.i = .alloc → covA e (c.drop (p + 1)) = true ∧ hits ops e.i e.i = false)
  | [], h, p, e, he => by simp at he
  | e0 :: l, h, p, e, he => by
    simp only [covAll, Bool.and_eq_true] at h
    cases p with
    | zero =>
      simp only [List.getElem?_cons_zero, Option.some.injEq] at he
      subst he
      refine ⟨fun hr => ?_, fun hr => ?_⟩
      · have := h.1; rw [hr] at this; simpa using this
      · have := h.1; rw [hr] at this; simpa using this
    | succ p => simpa using covAll_spec h.2 p e (by simpa using he)

theorem planOk_spec {P : Program} {call : CallF} {n : Nat} {ops : Array Oper} {c : List PE} (h : planOk P n ops c = true) {T : Nat → Fr} {G : Nat → Hp}
    (hs : ∀ p e, c[p]? = some e → aone P call ops (T p) (G p) e.i = some (T (p + 1), G (p + 1)) ∧ ∀ j ∈ e.js, late P call ops (T (p + 1)) (G (p + 1)) j) : Tr P call n ops c T G := by
  simp only [planOk, Bool.and_eq_true] at h
  obtain ⟨⟨⟨⟨⟨h1, h2⟩, h3⟩, h4⟩, h5⟩, h6⟩ := h
  refine ⟨h1, by simpa using h2, fun i hi => ?_, fun p e he => ?_, fun p q e e' hp hq hlt => ?_, covAll_spec h6, fun p e he => (hs p e he).1, fun p e he => (hs p e he).2⟩
  · have := List.all_eq_true.1 h3 i (List.mem_range.2 hi)
    obtain ⟨e, he, hei⟩ := List.any_eq_true.1 this
    obtain ⟨p, hp⟩ := List.mem_iff_getElem?.1 he
    exact ⟨p, e, hp, by simpa using hei⟩
  · exact List.all_eq_true.1 h4 e (List.mem_of_getElem? he)
  · have h5 := List.pairwise_iff_getElem.1 (of_decide_eq_true h5)
    obtain ⟨a1, rfl⟩ := List.getElem?_eq_some_iff.1 hp
    obtain ⟨a2, rfl⟩ := List.getElem?_eq_some_iff.1 hq
    exact h5 p q a1 a2 hlt

section
variable {P : Program} {call : CallF} {n : Nat} {ops : Array Oper} {c : List PE} {T : Nat → Fr} {G : Nat → Hp}

theorem Tr.op (h : Tr P call n ops c T G) {p : Nat} {e : PE} (he : c[p]? = some e) : ∃ o, ops[e.i]? = some o ∧ opCl P ops e.i = cl P o.op ∧ gslot ops e.i = o.dst ∧ looks ops e.i = o.looksAt ops := by
  have := h.edge p e he
  unfold edgeOk at this
  cases ho : ops[e.i]? with
  | none => simp [ho] at this
  | some o => exact ⟨o, rfl, by simp [opCl, ho], by simp [gslot, ho], by simp [looks, ho]⟩

theorem Tr.lt_size (h : Tr P call n ops c T G) {p : Nat} {e : PE} (he : c[p]? = some e) : e.i < ops.size := by
  obtain ⟨o, ho, _⟩ := h.op he
  exact (Array.getElem?_eq_some_iff.1 ho).1

/-- What an operation did. -/
theorem Tr.did (h : Tr P call n ops c T G) {p : Nat} {e : PE} (he : c[p]? = some e) : ∃ o v, ops[e.i]? = some o ∧ T (p + 1) = aput (T p) o.dst v ∧
    ((awanted ops (T p) o = some false ∧ v = undef ∧ G (p + 1) = G p) ∨ (awanted ops (T p) o = some true ∧ astep P call (T p) (G p) o = some (v, G (p + 1)))) := by
  have hst := h.step p e he
  unfold aone at hst
  cases ho : ops[e.i]? with
  | none => simp [ho] at hst
  | some o =>
    simp only [ho] at hst
    cases hw : awanted ops (T p) o with
    | none => simp [hw] at hst
    | some b =>
      cases b with
      | false =>
        simp only [hw, Option.some.injEq, Prod.mk.injEq] at hst
        exact ⟨o, undef, rfl, hst.1.symm, .inl ⟨hw, rfl, hst.2.symm⟩⟩
      | true =>
        simp only [hw] at hst
        cases hq : astep P call (T p) (G p) o with
        | none => simp [hq] at hst
        | some q =>
          obtain ⟨v, K⟩ := q
          simp only [hq, Option.some.injEq, Prod.mk.injEq] at hst
          exact ⟨o, v, rfl, hst.1.symm, .inr ⟨hw, by rw [hq, hst.2]⟩⟩

theorem Tr.pair' (h : Tr P call n ops c T G) {p q : Nat} {e e' : PE} (hp : c[p]? = some e) (hq : c[q]? = some e') (hlt : p < q) :
    e.i ≠ e'.i ∧ e.m.testBit e'.i = false ∧ (e'.m.testBit e.i = true ∨ (opCl P ops e.i ≠ .writer ∧ hits ops e.i e'.i = false ∧ hits ops e'.i e.i = false)) ∧
    (∀ d, gslot ops e.i = some d → gslot ops e'.i ≠ some d) ∧ (isRA P ops e.i = true → hits ops e'.i e.i = false) := by
  have := h.pair p q e e' hp hq hlt
  simp only [pairOk, Bool.and_eq_true, bne_iff_ne, ne_eq, Bool.or_eq_true, Bool.not_eq_true'] at this
  obtain ⟨⟨⟨⟨h1, h2⟩, h3⟩, h4⟩, h5⟩ := this
  refine ⟨h1, h2, ?_, fun d hd hd' => ?_, fun hra => ?_⟩
  · rcases h3 with h3 | ⟨⟨a, b⟩, d⟩
    · exact .inl h3
    · exact .inr ⟨a, b, d⟩
  · simp [hd, hd'] at h4
  · rcases h5 with h5 | h5
    · rw [h5] at hra; cases hra
    · exact h5

theorem Tr.inj (h : Tr P call n ops c T G) {p q : Nat} {e e' : PE} (hp : c[p]? = some e) (hq : c[q]? = some e') (hi : e.i = e'.i) : p = q := by
  rcases Nat.lt_trichotomy p q with hlt | rfl | hlt
  · exact absurd hi (h.pair' hp hq hlt).1
  · rfl
  · exact absurd hi.symm (h.pair' hq hp hlt).1

theorem Tr.uniq (h : Tr P call n ops c T G) {p q : Nat} {e e' : PE} (hp : c[p]? = some e) (hq : c[q]? = some e') {d : Tmp} (hd : gslot ops e.i = some d) (hd' : gslot ops e'.i = some d) : p = q := by
  rcases Nat.lt_trichotomy p q with hlt | rfl | hlt
  · exact absurd hd' ((h.pair' hp hq hlt).2.2.2.1 d hd)
  · rfl
  · exact absurd hd ((h.pair' hq hp hlt).2.2.2.1 d hd')

theorem Tr.get (h : Tr P call n ops c T G) {p : Nat} (hp : p < c.length) : ∃ e, c[p]? = some e := ⟨c[p], by simp [hp]⟩

/-- A slot that is not written. -/
theorem Tr.keep (h : Tr P call n ops c T G) {x : Tmp} : ∀ {p q : Nat}, p ≤ q → q ≤ c.length → (∀ k e, p ≤ k → k < q → c[k]? = some e → gslot ops e.i ≠ some x) → T q x = T p x := by
  intro p q hpq
  induction hpq with
  | refl => exact fun _ _ => rfl
  | @step q hpq ih =>
    intro hl hn
    obtain ⟨e, he⟩ := h.get (p := q) (by omega)
    obtain ⟨o, v, ho, hT, _⟩ := h.did he
    have : gslot ops e.i ≠ some x := hn q e (by omega) (by omega) he
    have hd : o.dst ≠ some x := by simpa [gslot, ho] using this
    rw [hT, ← ih (by omega) (fun k e h1 h2 h3 => hn k e h1 (by omega) h3)]
    cases hdst : o.dst with
    | none => rfl
    | some d =>
      simp only [aput]
      exact upd_ne _ _ (fun e => hd (by rw [hdst, e]))

/-- Memory that only grew. -/
def Ext (H K : Hp) : Prop := H.n ≤ K.n ∧ ∀ b, b < H.n → K.f b = H.f b
theorem Ext.refl (H : Hp) : Ext H H := ⟨Nat.le_refl _, fun _ _ => rfl⟩
theorem Ext.trans {H K L : Hp} (h : Ext H K) (k : Ext K L) : Ext H L := ⟨Nat.le_trans h.1 k.1, fun b hb => by rw [k.2 b (Nat.lt_of_lt_of_le hb h.1), h.2 b hb]⟩
theorem Ext.alloc (H : Hp) (B : Blk) : Ext H (H.alloc B) := ⟨by simp [Hp.alloc], fun b hb => by simp only [Hp.alloc]; exact upd_ne _ _ (by omega)⟩
theorem Sim.ext {r : Mp} {H K : Hp} {w : World} (hs : Sim r H w) (h : Ext H K) : Sim r K w where
  lt := fun b x hb => Nat.lt_of_lt_of_le (hs.lt b x hb) h.1
  ltw := hs.ltw
  blk := fun b x hb => by rw [h.2 b (hs.lt b x hb)]; exact hs.blk b x hb
  inj := fun b b' x x' hb hb' hc hl hl' => by
    rw [h.2 b (hs.lt b x hb)] at hl
    rw [h.2 b' (hs.lt b' x' hb')] at hl'
    exact hs.inj b b' x x' hb hb' hc hl hl'
theorem Step.ext {r r' : Mp} {H H' K : Hp} {w w' : World} (st : Step r H w r' H' w') (h : Ext H' K) : Step r H w r' K w' where
  le := st.le
  hn := Nat.le_trans st.hn h.1
  old := fun b hb hr => ⟨(st.old b hb hr).1, by rw [h.2 b (Nat.lt_of_lt_of_le hb st.hn)]; exact (st.old b hb hr).2⟩
  ro := fun b hb hr => by rw [h.2 b (Nat.lt_of_lt_of_le hb st.hn)]; exact st.ro b hb hr
  new := st.new
  os := st.os
  tape := st.tape
  output := st.output
  size := st.size
  same := st.same

theorem Tr.grow (h : Tr P call n ops c T G) {p : Nat} {e : PE} (he : c[p]? = some e) (hw : opCl P ops e.i ≠ .writer) : Ext (G p) (G (p + 1)) := by
  obtain ⟨o, v, ho, hT, hd⟩ := h.did he
  have hcl : cl P o.op ≠ .writer := by simpa [opCl, ho] using hw
  rcases hd with ⟨_, _, h3⟩ | ⟨_, h2⟩
  · rw [h3]; exact .refl _
  · cases hk : cl P o.op with
    | pure => rw [astep_keep (.inl hk) h2]; exact .refl _
    | read => rw [astep_keep (.inr hk) h2]; exact .refl _
    | writer => exact absurd hk hcl
    | alloc =>
      obtain ⟨B, hB, _⟩ := astep_alloc hk h2
      rw [hB]
      exact .alloc _ _

theorem Tr.same (h : Tr P call n ops c T G) {p : Nat} {e : PE} (he : c[p]? = some e) (hw : opCl P ops e.i = .pure ∨ opCl P ops e.i = .read) : G (p + 1) = G p := by
  obtain ⟨o, v, ho, hT, hd⟩ := h.did he
  have hcl : cl P o.op = .pure ∨ cl P o.op = .read := by simpa [opCl, ho] using hw
  rcases hd with ⟨_, _, h3⟩ | ⟨_, h2⟩
  · exact h3
  · exact astep_keep hcl h2

theorem Tr.grows (h : Tr P call n ops c T G) : ∀ {p q : Nat}, p ≤ q → q ≤ c.length → (∀ k e, p ≤ k → k < q → c[k]? = some e → opCl P ops e.i ≠ .writer) → Ext (G p) (G q) := by
  intro p q hpq
  induction hpq with
  | refl => exact fun _ _ => .refl _
  | @step q hpq ih =>
    intro hl hn
    obtain ⟨e, he⟩ := h.get (p := q) (by omega)
    exact (ih (by omega) (fun k e h1 h2 h3 => hn k e h1 (by omega) h3)).trans (h.grow he (hn q e (by omega) (by omega) he))

theorem agree {t t2 : Fr} {o : Oper} (h : ∀ x ∈ o.looksAt ops, t x = t2 x) : awanted ops t o = awanted ops t2 o ∧ (∀ x ∈ o.op.operands, ev t x = ev t2 x) ∧ ∀ H, astep P call t H o = astep P call t2 H o := by
  have hx : ∀ x ∈ o.op.operands, ev t x = ev t2 x := by
    intro x hx
    cases x with
    | tmp d => exact h d (List.mem_append_left _ (List.mem_filterMap.2 ⟨.tmp d, by simpa using hx, rfl⟩))
    | _ => rfl
  refine ⟨?_, hx, fun H => astep_congr hx⟩
  unfold awanted
  cases hg : o.guard with
  | none => rfl
  | some q =>
    obtain ⟨g, want⟩ := q
    simp only []
    cases hd : gslot ops g with
    | none => rfl
    | some d =>
      have : t d = t2 d := h d (List.mem_append_right _ (by unfold gslot at hd; simp [hg, hd]))
      simp only [this]

end

end Am
end Go.Proofs.YtbpabpnpoidpcaaGreatDoor
