/- Answers in place of functions' bodies: what the model does is related to them. No conditions. -/
import Derived.Test.YtbpabpnpoidpcaaGreatDoorOv1
import Derived.Below
set_option maxRecDepth 100000
set_option linter.unusedVariables false
set_option linter.unusedSimpArgs false
namespace Go.Proofs.YtbpabpnpoidpcaaGreatDoor
namespace Am
open Go Go.RowKit

theorem did_below {r : Mp} {H : Hp} {w w' : World} (hs : Sim r H w) (hb : Below w.heap.size w w') : Sim r H w' ∧ Step r H w r H w' :=
  ⟨⟨hs.lt, fun b x hx => Nat.lt_of_lt_of_le (hs.ltw b x hx) hb.size, fun b x hx => (hs.blk b x hx).same (hb.block _ (hs.ltw b x hx)), hs.inj⟩,
    ⟨Mp.le.refl r, Nat.le_refl _, fun _ _ h => ⟨h, rfl⟩, fun _ _ _ => rfl, fun b x h h' => (by rw [h] at h'; cases h'), hb.os, hb.tape, hb.output, hb.size, fun c hc _ => hb.block c hc⟩⟩

theorem plain_if {t : TypeId} {v : Value} (h : plain (.iface t v) = true) : plain v = true := by
  cases v with
  | agg cs => simpa [plain] using h
  | tuple cs => simp [plain, flat, flat0] at h
  | iface u x => simp [plain, flat, flat0] at h
  | _ => simpa [plain, flat] using h
theorem plain_el {c : Array Value} (h : c.all flat = true) {i : Nat} (hi : i < c.size) : plain c[i] = true := plain_of_flat (Array.all_eq_true.1 h i hi)

/-- What was related in the smaller map is so still. -/
theorem VRel.back {r r' : Mp} {n : Nat} (hle : ∀ b x, r b = some x → b < n) (hag : ∀ b, b < n → r' b = r b) {v v' : Value} (h : VRel r' v v') : ∀ {u : Value}, VRel r v u → VRel r v v' := by
  induction h with
  | junk v => intro u _; exact .junk v
  | plain v h => intro u _; exact .plain v h
  | ptr h =>
    intro u k
    cases k with
    | plain _ hp => simp [Am.plain, flat, flat0] at hp
    | ptr h2 => exact .ptr (by rw [← hag _ (hle _ _ h2)]; exact h)
  | slice h ho hc hl hN =>
    intro u k
    cases k with
    | plain _ hp => simp [Am.plain, flat, flat0] at hp
    | slice h2 _ _ _ _ => exact .slice (by rw [← hag _ (hle _ _ h2)]; exact h) ho hc hl hN
  | map h =>
    intro u k
    cases k with
    | plain _ hp => simp [Am.plain, flat, flat0] at hp
    | map h2 => exact .map (by rw [← hag _ (hle _ _ h2)]; exact h)
  | iface t h ih =>
    intro u k
    cases k with
    | plain _ hp => exact .iface t (ih (.plain _ (plain_if hp)))
    | iface _ h2 => exact .iface t (ih h2)
  | func fn hf hc h1 h2 i1 i2 =>
    intro u k
    cases k with
    | plain _ hp => simp [Am.plain, flat, flat0] at hp
    | func _ kf kc k1 k2 => exact .func fn hf hc (fun i a b => i1 i a b (k1 i a (by omega))) (fun i a b => i2 i a b (k2 i a (by omega)))
  | yield h =>
    intro u k
    cases k with
    | plain _ hp => simp [Am.plain, flat, flat0] at hp
    | yield h2 => exact .yield (by rw [← hag _ (hle _ _ h2)]; exact h)
  | agg hc h ih =>
    intro u k
    cases k with
    | plain _ hp => exact .agg hc fun i a b => ih i a b (.plain _ (plain_el (by simpa [Am.plain] using hp) a))
    | agg kc k1 => exact .agg hc fun i a b => ih i a b (k1 i a (by omega))
  | tuple hc h ih =>
    intro u k
    cases k with
    | junk => exact .junk _
    | plain _ hp => exact .tuple hc fun i a b => ih i a b (.plain _ (plain_el (by simpa [Am.plain] using hp) a))
    | tuple kc k1 => exact .tuple hc fun i a b => ih i a b (k1 i a (by omega))

theorem LRel.back {r r' : Mp} {n : Nat} (hle : ∀ b x, r b = some x → b < n) (hag : ∀ b, b < n → r' b = r b) {l l' m : List Value} (h : LRel r' l l') (k : LRel r l m) : LRel r l l' :=
  ⟨h.1, fun i a b => (h.2 i a b).back hle hag (k.2 i a (by have := k.1; omega))⟩

theorem BRel.back {r r' : Mp} {n : Nat} (hle : ∀ b x, r b = some x → b < n) (hag : ∀ b, b < n → r' b = r b) {B : Blk} {x : Tgt} {w w' : World} (h : BRel r' B x w') (k : BRel r B x w) : BRel r B x w' := by
  cases B with
  | cells ro sz cs =>
    obtain ⟨h0, cs', el, fr, h1, h2, h3, h4, h5⟩ := h
    obtain ⟨_, cs2, _, _, _, _, _, k4, _⟩ := k
    exact ⟨h0, cs', el, fr, h1, h2, h3, h4.back hle hag k4, h5⟩
  | map es =>
    obtain ⟨es', clock, h1, h2, h3⟩ := h
    obtain ⟨es2, _, _, k2, k3⟩ := k
    exact ⟨es', clock, h1, h2, fun i a b => ⟨(h3 i a b).1, (h3 i a b).2.1, (h3 i a b).2.2.back hle hag (k3 i a (by omega)).2.2⟩⟩
  | loop L =>
    obtain ⟨fn, tmps, dfs, h1, h2, h3⟩ := h
    obtain ⟨fn2, tmps2, dfs2, k1, k2, k3⟩ := k
    exact ⟨fn, tmps, dfs, h1, h2, fun i => (h3 i).back hle hag (k3 i)⟩
  | dead => trivial

/-- A heap that only grew, forgotten. -/
theorem did_weaken {r r' : Mp} {H H1 : Hp} {w w' : World} (hs : Sim r H w) (hs1 : Sim r' H1 w') (st : Step r H w r' H1 w') (he : Ext H H1) : Sim r H w' ∧ Step r H w r H w' ∧ ∀ b, b < H.n → r' b = r b := by
  have hag : ∀ b, b < H.n → r' b = r b := by
    intro b hb
    cases hr : r b with
    | none => exact (st.old b hb hr).1
    | some x => exact st.le b x hr
  refine ⟨⟨hs.lt, fun b x hx => hs1.ltw b x (st.le b x hx), fun b x hx => ?_, fun b b' x x' hx hx' hc hl hl' => hs.inj b b' x x' hx hx' hc hl hl'⟩,
    ⟨Mp.le.refl r, Nat.le_refl _, fun _ _ h => ⟨h, rfl⟩, fun _ _ _ => rfl, fun b x h h' => (by rw [h] at h'; cases h'), st.os, st.tape, st.output, st.size, st.same⟩, hag⟩
  have h1 := hs1.blk b x (st.le b x hx)
  rw [he.2 b (hs.lt b x hx)] at h1
  exact h1.back hs.lt hag (hs.blk b x hx)

/-- A contract's answer of plain values. -/
theorem did_plain {P : Program} {call : CallF} (hc : CallOk P call) {f : FuncId} {args : List Value} {H H1 : Hp} {v : Value} (h : call (.func f) args H = some (v, H1)) (he : Ext H H1) (hp : plain v = true) :
    (∀ a w, (callFunc f a).run P w = .ok (.enter f a) w) ∧ ∀ r w args', Sim r H w → LRel r args args' → Calls P f args'.toArray w (Did r H w v H) := by
  obtain ⟨h1, h2⟩ := hc.fn f args H v H1 h
  refine ⟨h1, fun r w args' hs hl => (h2 r w args' hs hl).mono ?_⟩
  rintro e w' ⟨v', r', rfl, hv, hs1, st⟩
  obtain ⟨k1, k2, k3⟩ := did_weaken hs hs1 st he
  exact ⟨v', r, rfl, hv.back hs.lt k3 (.plain v hp), k1, k2⟩

theorem ints_plain (q : List Nat) : ∀ v ∈ ints q, flat v = true := by
  intro v hv
  simp only [ints, List.mem_map] at hv
  obtain ⟨n, _, rfl⟩ := hv
  rfl

/-- A contract's answer with a new slice of flat values. -/
theorem did_fresh {P : Program} {call : CallF} (hc : CallOk P call) {f : FuncId} {args : List Value} {H H1 : Hp} {b1 n : Nat} {cs : List Value} {x : Value} (hx : flat x = true) (h : call (.func f) args H = some (.tuple #[.slice (some ⟨b1, 0, none⟩) n n, x], H1)) (he : Ext H H1)
    (hn : 0 < n) (hb : H.n ≤ b1) (hf : H1.f b1 = .cells false 1 cs) (hcs : ∀ v ∈ cs, flat v = true) :
    (∀ a w, (callFunc f a).run P w = .ok (.enter f a) w) ∧ ∀ r w args', Sim r H w → LRel r args args' → Calls P f args'.toArray w (Did r H w (.tuple #[.slice (some ⟨H.n, 0, none⟩) n n, x]) (H.alloc (.cells false 1 cs))) := by
  obtain ⟨h1, h2⟩ := hc.fn f args H _ H1 h
  refine ⟨h1, fun r w args' hs hl => (h2 r w args' hs hl).mono ?_⟩
  rintro e w' ⟨v', r', rfl, hv, hs1, st⟩
  obtain ⟨k1, k2, k3⟩ := did_weaken hs hs1 st he
  have hrb : r b1 = none := by
    cases hq : r b1 with
    | none => rfl
    | some y => have := hs.lt b1 y hq; omega
  have hnone := hs.fresh
  -- the answer's parts
  obtain ⟨c', rfl, hc2, hel⟩ : ∃ c' : Array Value, v' = .tuple c' ∧ c'.size = 2 ∧ ∀ i (a : i < 2) (b : i < c'.size), VRel r' (#[Value.slice (some ⟨b1, 0, none⟩) n n, x][i]'a) c'[i] := by
    cases hv with
    | plain _ hp => simp [plain, flat, flat0] at hp
    | tuple hc hh => exact ⟨_, rfl, hc.symm, fun i a b => hh i a b⟩
  have v0 := hel 0 (by omega) (by omega)
  have v1 := hel 1 (by omega) (by omega)
  simp only [List.getElem_toArray, List.getElem_cons_zero, List.getElem_cons_succ] at v0 v1
  obtain ⟨y, hy⟩ : ∃ y, r' b1 = some y := by
    generalize c'[0] = u at v0
    cases v0 with
    | plain _ hp => simp [plain, flat, flat0] at hp
    | slice h _ _ _ _ => exact ⟨_, h⟩
  let r2 : Mp := upd r H.n (some y)
  have hle2 : Mp.le r r2 := le_upd hnone
  have hr2 : r2 H.n = some y := upd_same _ _ _
  have hold : ∀ b z, r2 b = some z → b ≠ H.n → r b = some z := fun b z hz hne => by rw [← hz]; exact (upd_ne _ _ hne).symm
  have hB := hs1.blk b1 y hy
  rw [hf] at hB
  have hB2 : BRel r2 (.cells false 1 cs) y w' := by
    obtain ⟨q0, cs', el, fr, q1, q2, q3, q4, q5⟩ := hB
    refine ⟨q0, cs', el, fr, q1, q2, q3, ⟨q4.1, fun i a b => ?_⟩, q5⟩
    have := flat_eq (q4.2 i a b) (hcs _ (List.getElem_mem a))
    rw [this]
    exact .plain _ (plain_of_flat (hcs _ (List.getElem_mem a)))
  have hlive : ∀ b z, r b = some z → (H.f b).live = true → z.c = y.c → False := by
    intro b z hz hl hcc
    have hbn := hs.lt b z hz
    have e := hs1.inj b b1 z y (st.le b z hz) hy hcc (by rw [he.2 b hbn]; exact hl) (by rw [hf]; rfl)
    omega
  refine ⟨.tuple c', r2, rfl, ?_, ⟨fun b z hz => ?_, fun b z hz => ?_, fun b z hz => ?_, fun b b' z z' hz hz' hcc hl hl' => ?_⟩, ⟨hle2, by simp [Hp.alloc], fun b hb hr => ⟨?_, ?_⟩, fun b hb hro => ?_, fun b z hr hz => ?_, st.os, st.tape, st.output, st.size, st.same⟩⟩
  · refine .tuple (by rw [hc2]; rfl) fun i a b => ?_
    have hi : i = 0 ∨ i = 1 := by have : (#[Value.slice (some ⟨H.n, 0, none⟩) n n, x]).size = 2 := rfl; omega
    rcases hi with rfl | rfl
    · simp only [List.getElem_toArray, List.getElem_cons_zero]
      generalize c'[0] = u at v0
      cases v0 with
      | plain _ hp => simp [plain, flat, flat0] at hp
      | slice h ho hcap hlen hN =>
        rw [hy] at h
        cases h
        exact .slice hr2 ho hcap hlen hN
    · simp only [List.getElem_toArray, List.getElem_cons_succ, List.getElem_cons_zero]
      have := flat_eq v1 hx
      rw [this]
      exact .plain _ (plain_of_flat hx)
  · by_cases e : b = H.n
    · subst e; simp [Hp.alloc]
    · have := hs.lt b z (hold b z hz e); simp [Hp.alloc]; omega
  · by_cases e : b = H.n
    · subst e; rw [hr2] at hz; cases hz; exact hs1.ltw _ _ hy
    · exact k1.ltw b z (hold b z hz e)
  · by_cases e : b = H.n
    · subst e; rw [hr2] at hz; cases hz; rw [alloc_new]; exact hB2
    · have hz' := hold b z hz e
      rw [alloc_old (hs.lt b z hz')]
      exact (k1.blk b z hz').mono hle2
  · by_cases e : b = H.n
    · subst e
      rw [hr2] at hz; cases hz
      by_cases e' : b' = H.n
      · exact e'.symm
      · have hz2 := hold b' z' hz' e'
        rw [alloc_old (hs.lt b' z' hz2)] at hl'
        exact (hlive b' z' hz2 hl' hcc.symm).elim
    · have hz2 := hold b z hz e
      rw [alloc_old (hs.lt b z hz2)] at hl
      by_cases e' : b' = H.n
      · subst e'
        rw [hr2] at hz'; cases hz'
        exact (hlive b z hz2 hl hcc).elim
      · have hz3 := hold b' z' hz' e'
        rw [alloc_old (hs.lt b' z' hz3)] at hl'
        exact hs.inj b b' z z' hz2 hz3 hcc hl hl'
  · show r2 b = none
    rw [show r2 b = r b from upd_ne _ _ (by omega)]; exact hr
  · exact alloc_old hb
  · exact alloc_old hb
  · by_cases e : b = H.n
    · subst e
      rw [hr2] at hz; cases hz
      exact st.new b1 _ hrb hy
    · rw [hold b z hz e] at hr; cases hr

end Am
end Go.Proofs.YtbpabpnpoidpcaaGreatDoor
