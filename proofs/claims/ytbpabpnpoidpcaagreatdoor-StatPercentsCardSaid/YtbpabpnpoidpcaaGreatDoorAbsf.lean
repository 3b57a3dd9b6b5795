/- The abstract machine's regions whose order is drawn: that the model answers so in every order. No conditions. -/
import Derived.Test.YtbpabpnpoidpcaaGreatDoorAbse
set_option linter.unusedVariables false
set_option linter.unusedSimpArgs false
namespace Go.Proofs.YtbpabpnpoidpcaaGreatDoor
namespace Am
open Go Go.RowKit

def done (listed : Array Bool) (k : Nat) : Prop := listed.getD k false = true
theorem done_set {listed : Array Bool} {i : Nat} (hi : i < listed.size) (k : Nat) : done (listed.setIfInBounds i true) k ↔ done listed k ∨ k = i := by
  unfold done
  by_cases h : i = k
  · subst h; simp [hi]
  · rw [getD_set_ne false h]; exact ⟨.inl, fun q => q.resolve_right (Ne.symm h)⟩

open Classical in
/-- The slots when some of a region's operations are done. -/
noncomputable def mixF (ops : Array Oper) (c : List PE) (t0 t' : Fr) (D : Nat → Prop) : Fr :=
  fun x => if ∃ (p : Nat) (e : PE), c[p]? = some e ∧ D e.i ∧ gslot ops e.i = some x then t' x else t0 x

structure Inv (P : Program) (n : Nat) (ops : Array Oper) (c : List PE) (T : Nat → Fr) (G : Nat → Hp) (r0 : Mp) (w0 : World) (dfs : List Deferred) (listed : Array Bool) (m : Nat) (ρ : Mp) (a : Act) (w : World) : Prop where
  size : listed.size = ops.size
  sim : Sim ρ (G m) w
  st : Step r0 (G 0) w0 ρ (G m) w
  fr : FRel ρ n (mixF ops c (T 0) (T c.length) (done listed)) a
  lt : ∀ (p : Nat) (e : PE), c[p]? = some e → done listed e.i → p < m
  last : m = 0 ∨ ∃ e, c[m - 1]? = some e ∧ done listed e.i
  len : m ≤ c.length
  skip : ∀ (p : Nat) (e : PE), p < m → c[p]? = some e → ¬ done listed e.i → ∀ b, (G p).n ≤ b → b < (G (p + 1)).n → ρ b = none ∧ (G m).f b = (G (p + 1)).f b ∧ b < (G m).n
  cl : ∀ (p : Nat) (e : PE), c[p]? = some e → done listed e.i → ∀ k, k < ops.size → e.m.testBit k = true → done listed k
  mono : ∀ q, q < m → (G q).n ≤ (G (q + 1)).n
  dfr : a.defers = dfs

theorem Inv.le {P : Program} {n : Nat} {ops : Array Oper} {c : List PE} {T : Nat → Fr} {G : Nat → Hp} {r0 : Mp} {w0 : World} {dfs : List Deferred} {listed : Array Bool} {m : Nat} {ρ : Mp} {a : Act} {w : World} (I : Inv P n ops c T G r0 w0 dfs listed m ρ a w)
    {p q : Nat} (h : p ≤ q) (hq : q ≤ m) : (G p).n ≤ (G q).n := by
  induction h with
  | refl => exact Nat.le_refl _
  | @step q h ih => exact Nat.le_trans (ih (by omega)) (I.mono q (by omega))

section
variable {P : Program} {call : CallF} {n : Nat} {ops : Array Oper} {c : List PE} {T : Nat → Fr} {G : Nat → Hp} {r0 : Mp} {w0 : World} {dfs : List Deferred} {listed : Array Bool} {m : Nat} {ρ : Mp} {a : Act} {w : World}

theorem hits_of {i j : Nat} {x : Tmp} (h : gslot ops i = some x) (hx : x ∈ looks ops j) : hits ops i j = true := by
  simp [hits, h, hx]

theorem Tr.mix (h : Tr P call n ops c T G) {D : Nat → Prop} (hcl : ∀ (p : Nat) (e : PE), c[p]? = some e → D e.i → ∀ k, k < ops.size → e.m.testBit k = true → D k) {p : Nat} {e : PE} (hp : c[p]? = some e) (hnd : ¬ D e.i)
    (hpre : ∀ k, k < ops.size → e.m.testBit k = true → D k) : ∀ x ∈ looks ops e.i, mixF ops c (T 0) (T c.length) D x = T p x := by
  intro x hx
  have hpl : p < c.length := (List.getElem?_eq_some_iff.1 hp).1
  unfold mixF
  by_cases hex : ∃ (q : Nat) (e' : PE), c[q]? = some e' ∧ gslot ops e'.i = some x
  · obtain ⟨q, e', hq, hg⟩ := hex
    have hql : q < c.length := (List.getElem?_eq_some_iff.1 hq).1
    have only : ∀ (k : Nat) (e2 : PE), c[k]? = some e2 → gslot ops e2.i = some x → k = q := fun k e2 h1 h2 => h.uniq h1 hq h2 hg
    have hh := hits_of hg hx
    have hif : (∃ (p : Nat) (e : PE), c[p]? = some e ∧ D e.i ∧ gslot ops e.i = some x) ↔ D e'.i := by
      constructor
      · rintro ⟨k, e2, h1, h2, h3⟩
        have := only k e2 h1 h3
        subst this
        rw [h1] at hq
        cases hq
        exact h2
      · exact fun h => ⟨q, e', hq, h, hg⟩
    rcases Nat.lt_trichotomy q p with hlt | rfl | hlt
    · have hpr := h.pair' hq hp hlt
      have : D e'.i := by
        rcases hpr.2.2.1 with h1 | ⟨_, h1, _⟩
        · exact hpre _ (h.lt_size hq) h1
        · rw [hh] at h1; cases h1
      rw [if_pos (hif.2 this)]
      rw [h.keep (x := x) (p := q + 1) (q := c.length) (by omega) (Nat.le_refl _) (fun k e2 h1 h2 h3 h4 => by have := only k e2 h3 h4; omega)]
      rw [h.keep (x := x) (p := q + 1) (q := p) (by omega) (by omega) (fun k e2 h1 h2 h3 h4 => by have := only k e2 h3 h4; omega)]
    · rw [hp] at hq
      cases hq
      rw [if_neg (fun q => hnd (hif.1 q))]
      exact (h.keep (x := x) (p := 0) (Nat.zero_le _) (by omega) (fun k e2 h1 h2 h3 h4 => by have := only k e2 h3 h4; omega)).symm
    · have hpr := h.pair' hp hq hlt
      have : ¬ D e'.i := by
        rcases hpr.2.2.1 with h1 | ⟨_, _, h1⟩
        · exact fun hd => hnd (hcl q e' hq hd _ (h.lt_size hp) h1)
        · rw [hh] at h1; cases h1
      rw [if_neg (fun q => this (hif.1 q))]
      exact (h.keep (x := x) (p := 0) (Nat.zero_le _) (by omega) (fun k e2 h1 h2 h3 h4 => by have := only k e2 h3 h4; omega)).symm
  · rw [if_neg (fun ⟨k, e2, h1, h2, h3⟩ => hex ⟨k, e2, h1, h3⟩)]
    exact (h.keep (x := x) (p := 0) (Nat.zero_le _) (by omega) (fun k e2 h1 h2 h3 h4 => hex ⟨k, e2, h3, h4⟩)).symm

theorem Tr.mix_put (h : Tr P call n ops c T G) (hsz : listed.size = ops.size) {p : Nat} {e : PE} (hp : c[p]? = some e) {d : Option Tmp} (hd : gslot ops e.i = d) {v : Value} (hT : T (p + 1) = aput (T p) d v) :
    mixF ops c (T 0) (T c.length) (done (listed.setIfInBounds e.i true)) = aput (mixF ops c (T 0) (T c.length) (done listed)) d v := by
  have hsi : e.i < listed.size := by rw [hsz]; exact h.lt_size hp
  have hpl : p < c.length := (List.getElem?_eq_some_iff.1 hp).1
  funext x
  have key : gslot ops e.i ≠ some x → mixF ops c (T 0) (T c.length) (done (listed.setIfInBounds e.i true)) x = mixF ops c (T 0) (T c.length) (done listed) x := by
    intro hne
    have : (∃ (p : Nat) (e2 : PE), c[p]? = some e2 ∧ done (listed.setIfInBounds e.i true) e2.i ∧ gslot ops e2.i = some x) ↔ (∃ (p : Nat) (e2 : PE), c[p]? = some e2 ∧ done listed e2.i ∧ gslot ops e2.i = some x) := by
      constructor
      · rintro ⟨k, e2, h1, h2, h3⟩
        refine ⟨k, e2, h1, ((done_set hsi _).1 h2).resolve_right (fun q => hne (by rw [← q]; exact h3)), h3⟩
      · rintro ⟨k, e2, h1, h2, h3⟩
        exact ⟨k, e2, h1, (done_set hsi _).2 (.inl h2), h3⟩
    unfold mixF
    by_cases q : ∃ (p : Nat) (e2 : PE), c[p]? = some e2 ∧ done listed e2.i ∧ gslot ops e2.i = some x
    · rw [if_pos q, if_pos (this.2 q)]
    · rw [if_neg q, if_neg (fun z => q (this.1 z))]
  cases d with
  | none => exact key (by rw [hd]; simp)
  | some d =>
    by_cases hx : x = d
    · subst hx
      simp only [aput, upd_same]
      unfold mixF
      rw [if_pos ⟨p, e, hp, (done_set hsi _).2 (.inr rfl), hd⟩]
      rw [h.keep (x := x) (p := p + 1) (q := c.length) (by omega) (Nat.le_refl _) (fun k e2 h1 h2 h3 h4 => by have := h.uniq h3 hp h4 hd; omega)]
      rw [hT]
      simp [aput]
    · simp only [aput]
      rw [upd_ne _ _ hx]
      exact key (by rw [hd]; simp; exact fun e => hx e.symm)

theorem Tr.ready (h : Tr P call n ops c T G) (I : Inv P n ops c T G r0 w0 dfs listed m ρ a w) {p : Nat} {e : PE} (hp : c[p]? = some e) (hr : e.i ∈ Region.ready .any ops listed) :
    ¬ done listed e.i ∧ ∀ k, k < ops.size → e.m.testBit k = true → done listed k := by
  obtain ⟨h0, o, ho, hall⟩ := mem_ready.1 hr
  have hsi : e.i < listed.size := by rw [I.size]; exact h.lt_size hp
  refine ⟨?_, fun k hk hb => ?_⟩
  · unfold done
    have : listed[e.i]? = some false := by
      cases hq : listed[e.i]? with
      | none => rw [Array.getElem?_eq_none_iff] at hq; omega
      | some b => rw [Array.getD_eq_getD_getElem?, hq] at h0; simp at h0; rw [h0]
    rw [Array.getD_eq_getD_getElem?, this]
    simp
  · have hed := h.edge p e hp
    unfold edgeOk at hed
    simp only [ho, Bool.and_eq_true] at hed
    have := List.all_eq_true.1 hed.2 k (List.mem_range.2 hk)
    simp only [hb, Bool.not_true, Bool.false_or] at this
    obtain ⟨x, hx, hx2⟩ := Array.any_eq_true'.1 this
    simp only [Bool.and_eq_true, Bool.or_eq_true, beq_iff_eq] at hx2
    have hd := hall x hx hx2.1
    rcases hx2.2 with h1 | h1
    · rw [← h1]; exact hd
    · obtain ⟨e', he', h2⟩ := List.any_eq_true.1 h1
      simp only [Bool.and_eq_true, beq_iff_eq] at h2
      obtain ⟨q, hq⟩ := List.mem_iff_getElem?.1 he'
      exact I.cl q e' hq (by rw [h2.1]; exact hd) k hk h2.2

/-- After an operation that comes later in the order than all that are done. -/
theorem Tr.after_ge (h : Tr P call n ops c T G) (hs0 : Sim r0 (G 0) w0) (I : Inv P n ops c T G r0 w0 dfs listed m ρ a w) {p : Nat} {e : PE} (hp : c[p]? = some e) (hnd : ¬ done listed e.i)
    (hpre : ∀ k, k < ops.size → e.m.testBit k = true → done listed k) {d : Option Tmp} (hd : gslot ops e.i = d) (hdn : ∀ x, d = some x → x < n) {v v' : Value} (hT : T (p + 1) = aput (T p) d v)
    (hpm : m ≤ p) (hnw : ∀ k e, m ≤ k → k < p → c[k]? = some e → opCl P ops e.i ≠ .writer) {ρ' : Mp} {w' : World} (hs' : Sim ρ' (G (p + 1)) w') (h3 : Step ρ (G p) w ρ' (G (p + 1)) w') (hv : VRel ρ' v v') :
    Inv P n ops c T G r0 w0 dfs (listed.setIfInBounds e.i true) (p + 1) ρ' (a.put d v') w' := by
  have hsi : e.i < listed.size := by rw [I.size]; exact h.lt_size hp
  have hpl : p < c.length := (List.getElem?_eq_some_iff.1 hp).1
  have E : Ext (G m) (G p) := h.grows hpm (by omega) hnw
  refine ⟨by simpa using I.size, hs', (I.st.ext E).trans hs0 h3, ?_, fun q e2 hq hdq => ?_, .inr ⟨e, by simpa using hp, (done_set hsi _).2 (.inr rfl)⟩, by omega, fun q e2 hlt hq hndq b hb1 hb2 => ?_, fun q e2 hq hdq k hk hb => ?_, fun q hq => ?_, (put_defers _ _ _).trans I.dfr⟩
  · rw [h.mix_put I.size hp hd hT]
    exact (I.fr.mono h3.le).put hdn hv
  · rcases (done_set hsi _).1 hdq with h1 | h1
    · have := I.lt q e2 hq h1; omega
    · have := h.inj hq hp h1; omega
  · have hqp : q < p := by
      rcases Nat.lt_or_ge q p with h1 | h1
      · exact h1
      · have : q = p := by omega
        subst this
        rw [hq] at hp
        cases hp
        exact absurd ((done_set hsi _).2 (.inr rfl)) hndq
    have hnd2 : ¬ done listed e2.i := fun q => hndq ((done_set hsi _).2 (.inl q))
    have fin : ρ b = none → b < (G p).n → (G p).f b = (G (q + 1)).f b → ρ' b = none ∧ (G (p + 1)).f b = (G (q + 1)).f b ∧ b < (G (p + 1)).n := by
      intro h1 h2 h4
      obtain ⟨k1, k2⟩ := h3.old b h2 h1
      exact ⟨k1, k2.trans h4, Nat.lt_of_lt_of_le h2 h3.hn⟩
    rcases Nat.lt_or_ge q m with hqm | hqm
    · obtain ⟨k1, k2, k3⟩ := I.skip q e2 hqm hq hnd2 b hb1 hb2
      exact fin k1 (Nat.lt_of_lt_of_le k3 E.1) (by rw [E.2 b k3, k2])
    · have E1 : Ext (G m) (G q) := h.grows hqm (by omega) fun k e h1 h2 h3 => hnw k e h1 (by omega) h3
      have E2 : Ext (G (q + 1)) (G p) := h.grows (by omega) (by omega) fun k e h1 h2 h3 => hnw k e (by omega) h2 h3
      refine fin ?_ (Nat.lt_of_lt_of_le hb2 E2.1) (E2.2 b hb2)
      cases hr : ρ b with
      | none => rfl
      | some x => have := I.sim.lt b x hr; have := E1.1; omega
  · rcases (done_set hsi _).1 hdq with h1 | h1
    · exact (done_set hsi _).2 (.inl (I.cl q e2 hq h1 k hk hb))
    · have := h.inj hq hp h1
      subst this
      rw [hq] at hp
      cases hp
      exact (done_set hsi _).2 (.inl (hpre k hk hb))
  · rcases Nat.lt_or_ge q m with h1 | h1
    · exact I.mono q h1
    · rcases Nat.lt_or_ge q p with h2 | h2
      · obtain ⟨e2, he2⟩ := h.get (p := q) (by omega)
        exact (h.grow he2 (hnw q e2 h1 h2 he2)).1
      · have : q = p := by omega
        subst this
        exact h3.hn

/-- After an operation that comes earlier in the order than one that is done. -/
theorem Tr.after_lt (h : Tr P call n ops c T G) (I : Inv P n ops c T G r0 w0 dfs listed m ρ a w) {p : Nat} {e : PE} (hp : c[p]? = some e) (hnd : ¬ done listed e.i)
    (hpre : ∀ k, k < ops.size → e.m.testBit k = true → done listed k) {d : Option Tmp} (hd : gslot ops e.i = d) (hdn : ∀ x, d = some x → x < n) {v v' : Value} (hT : T (p + 1) = aput (T p) d v)
    (hpm : p < m) {ρ' : Mp} {w' : World} (hs' : Sim ρ' (G m) w') (h3 : Step r0 (G 0) w0 ρ' (G m) w') (hle : Mp.le ρ ρ')
    (hsk : ∀ b, ρ b = none → b < (G m).n → (∃ q e', q < m ∧ q ≠ p ∧ c[q]? = some e' ∧ ¬ done listed e'.i ∧ (G q).n ≤ b ∧ b < (G (q + 1)).n) → ρ' b = none) (hv : VRel ρ' v v') :
    Inv P n ops c T G r0 w0 dfs (listed.setIfInBounds e.i true) m ρ' (a.put d v') w' := by
  have hsi : e.i < listed.size := by rw [I.size]; exact h.lt_size hp
  refine ⟨by simpa using I.size, hs', h3, ?_, fun q e2 hq hdq => ?_, ?_, I.len, fun q e2 hlt hq hndq b hb1 hb2 => ?_, fun q e2 hq hdq k hk hb => ?_, I.mono, (put_defers _ _ _).trans I.dfr⟩
  · rw [h.mix_put I.size hp hd hT]
    exact (I.fr.mono hle).put hdn hv
  · rcases (done_set hsi _).1 hdq with h1 | h1
    · exact I.lt q e2 hq h1
    · have := h.inj hq hp h1; omega
  · rcases I.last with h1 | ⟨e2, h1, h2⟩
    · omega
    · exact .inr ⟨e2, h1, (done_set hsi _).2 (.inl h2)⟩
  · have hqp : q ≠ p := by
      rintro rfl
      rw [hq] at hp
      cases hp
      exact hndq ((done_set hsi _).2 (.inr rfl))
    have hnd2 : ¬ done listed e2.i := fun q => hndq ((done_set hsi _).2 (.inl q))
    obtain ⟨k1, k2, k3⟩ := I.skip q e2 hlt hq hnd2 b hb1 hb2
    exact ⟨hsk b k1 k3 ⟨q, e2, hlt, hqp, hq, hnd2, hb1, hb2⟩, k2, k3⟩
  · rcases (done_set hsi _).1 hdq with h1 | h1
    · exact (done_set hsi _).2 (.inl (I.cl q e2 hq h1 k hk hb))
    · have := h.inj hq hp h1
      subst this
      rw [hq] at hp
      cases hp
      exact (done_set hsi _).2 (.inl (hpre k hk hb))

end

end Am
end Go.Proofs.YtbpabpnpoidpcaaGreatDoor
