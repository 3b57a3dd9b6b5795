/- The abstract machine's code; that the model does the same. No conditions. -/
import Derived.Test.YtbpabpnpoidpcaaGreatDoorAbsg
import Derived.LoopNIn
import Derived.RangeFuncNested
set_option linter.unusedVariables false
set_option linter.unusedSimpArgs false
namespace Go.Proofs.YtbpabpnpoidpcaaGreatDoor
namespace Am
open Go Go.RowKit

inductive AExit where
  | normal
  | exit (id : Nat)
  | ret

def AExit.to : AExit → Exit
  | .normal => .normal
  | .exit i => .exit i
  | .ret => .ret
def AExit.code : AExit → Option Code
  | .normal => none
  | .exit i => some (.exit i)
  | .ret => some .ret
def pendExit : Option Code → Option AExit
  | none => some .normal
  | some (.exit i) => some (.exit i)
  | some .ret => some .ret
  | _ => none
theorem pendExit_spec {c : Option Code} {e : AExit} (h : pendExit c = some e) : c = e.code := by
  unfold pendExit at h
  split at h <;> cases h <;> rfl

abbrev Plan := Nat → List PE

/-- What is done with the loop's record: none, where there is none. -/
def aloopAt (H : Hp) (b : Nat) : Option ALoop := match H.f b with
  | .loop L => some L
  | _ => none
theorem aloopAt_spec {H : Hp} {b : Nat} {L : ALoop} (h : aloopAt H b = some L) : H.f b = .loop L := by
  unfold aloopAt at h
  split at h
  · rename_i e; cases h; exact e
  · cases h

def roOk (ro : Option Nat) (H : Hp) : Bool := match ro with
  | none => true
  | some l => (aloopAt H l).isSome

def aloop (f : List ADef → Fr → Hp → Option (AExit × List ADef × Fr × Hp)) : Nat → List ADef → Fr → Hp → Option (AExit × List ADef × Fr × Hp)
  | 0, _, _, _ => none
  | n + 1, ds, t, H => match f ds t H with
    | some (.normal, ds', t', H') => aloop f n ds' t' H'
    | x => x

/-- Behind the call that a range over a function makes. -/
def aranged (ro : Option Nat) (l : Nat) (ds : List ADef) (t : Fr) : Option (Value × Hp) → Option (AExit × List ADef × Fr × Hp)
  | some (_, H2) => match aloopAt H2 l with
    | some L => match L.st, pendExit L.pend with
      | .busy, _ => none
      | _, some e => some (e, (if ro.isNone then .mark :: ds else ds), t, H2.put l (.loop { L with st := .exhausted }))
      | _, none => none
    | none => none
  | none => none

theorem aranged_spec {ro : Option Nat} {l : Nat} {ds ds' : List ADef} {t t' : Fr} {v : Value} {H2 H' : Hp} {e : AExit} (h : aranged ro l ds t (some (v, H2)) = some (e, ds', t', H')) :
    ∃ L, aloopAt H2 l = some L ∧ L.st ≠ .busy ∧ pendExit L.pend = some e ∧ ds' = (if ro.isNone then .mark :: ds else ds) ∧ t' = t ∧ H' = H2.put l (.loop { L with st := .exhausted }) := by
  simp only [aranged] at h
  cases hL : aloopAt H2 l with
  | none => simp [hL] at h
  | some L =>
    simp only [hL] at h
    split at h
    · cases h
    · rename_i st pe x hst hne
      simp only [Option.some.injEq, Prod.mk.injEq] at h
      obtain ⟨rfl, rfl, rfl, rfl⟩ := h
      exact ⟨L, rfl, hne, hst, rfl, rfl, rfl⟩
    · cases h

/-- Code, done: of a function f with nt slots, in a round or in none. -/
noncomputable def aexec (P : Program) (call : CallF) (pl : Plan) (f : FuncId) (nt : Nat) (ro : Option Nat) (n : Nat) : Code → List ADef → Fr → Hp → Option (AExit × List ADef × Fr × Hp)
  | .skip, ds, t, H => some (.normal, ds, t, H)
  | .label _, ds, t, H => some (.normal, ds, t, H)
  | .region id ops d, ds, t, H => if d = true then (adraw P call ops (pl id) t H).map fun q => (.normal, ds, q.1, q.2) else (arun P call ro.isNone ops (List.range ops.size) ds t H).map fun q => (.normal, q)
  | .seq x y, ds, t, H => match aexec P call pl f nt ro n x ds t H with
    | some (.normal, ds', t', H') => aexec P call pl f nt ro n y ds' t' H'
    | q => q
  | .cond c x y, ds, t, H => match ev t c with
    | .bool true => aexec P call pl f nt ro n x ds t H
    | .bool false => aexec P call pl f nt ro n y ds t H
    | _ => none
  | .block id x, ds, t, H => match aexec P call pl f nt ro n x ds t H with
    | some (.exit i, q) => some (if i = id then .normal else .exit i, q)
    | q => q
  | .loop x, ds, t, H => aloop (aexec P call pl f nt ro n x) n ds t H
  | .exit id, ds, t, H => some (.exit id, ds, t, H)
  | .ret, ds, t, H => some (.ret, ds, t, H)
  | .rangeFunc g ps asg body, ds, t, H => match ev t g with
    | .func (.func h) first cap => if roOk ro H then aranged ro H.n ds t (call (.func h) (first.toList ++ [.func (.yield H.n) #[] #[]] ++ cap.toList) (H.alloc (.loop ⟨f, nt, t, ps, asg, body, .ready, none⟩))) else none
    | _ => none
  | _, _, _, _ => none

def codeOk (P : Program) (n : Nat) (pl : Plan) : Code → Bool
  | .skip | .label _ | .exit _ | .ret => true
  | .region id ops d => if d then planOk P n ops (pl id) else regOk n ops
  | .seq x y => codeOk P n pl x && codeOk P n pl y
  | .cond c x y => opndOk c && (codeOk P n pl x && codeOk P n pl y)
  | .block _ x => codeOk P n pl x
  | .loop x => codeOk P n pl x
  | .rangeFunc g ps asg body => opndOk g && (codeOk P n pl asg && codeOk P n pl body)
  | _ => false

/-- The round that the abstract machine is in, and the real one. -/
def RoRel (r : Mp) : Option Nat → Option Nat → Prop
  | none, none => True
  | some l, some l' => ∃ x, r l = some x ∧ l' = x.c
  | _, _ => False
theorem RoRel.mono {r r' : Mp} (hr : Mp.le r r') {a b : Option Nat} (h : RoRel r a b) : RoRel r' a b := by
  cases a <;> cases b <;> simp only [RoRel] at * 
  · obtain ⟨x, h1, h2⟩ := h
    exact ⟨x, hr _ _ h1, h2⟩
theorem RoRel.isNone {r : Mp} {a b : Option Nat} (h : RoRel r a b) : a.isNone = b.isNone := by
  cases a <;> cases b <;> simp_all [RoRel]

def CodeSnd (P : Program) (nt : Nat) (ro : Option Nat) (f : List ADef → Fr → Hp → Option (AExit × List ADef × Fr × Hp)) (c : Code) : Prop :=
  ∀ (lo : Nat) (r : Mp) (ro' : Option Nat) (H : Hp) (w : World) (ds : List ADef) (t : Fr) (a : Act) (e : AExit) (ds' : List ADef) (t' : Fr) (H' : Hp) (Q : Exit → Act → World → Prop), RoRel r ro ro' → lo ≤ w.heap.size → Sim r H w → FRel r nt t a → DRel lo r H w ds a.defers → f ds t H = some (e, ds', t', H') →
    (∀ r' a' w', FRel r' nt t' a' → DRel lo r' H' w' ds' a'.defers → (ro ≠ none → a'.defers = a.defers) → Sim r' H' w' → Step r H w r' H' w' → Q e.to a' w') → c.wpIn (Fw ro') 0 P Q a w

/-- A real frame's private block. -/
theorem Sim.private {r : Mp} {H : Hp} {w : World} (hs : Sim r H w) (o : Obj) : Sim r H (w.alloc o) ∧ Step r H w r H (w.alloc o) := by
  have hold : ∀ c, c < w.heap.size → (w.alloc o).heap[c]? = w.heap[c]? := fun c hc => by
    show (w.heap.push o)[c]? = _
    rw [Array.getElem?_push_lt hc]; simp [hc]
  have hsz : (w.alloc o).heap.size = w.heap.size + 1 := by show (w.heap.push o).size = _; simp
  exact ⟨⟨hs.lt, fun b x hb => by rw [hsz]; have := hs.ltw b x hb; omega, fun b x hb => (hs.blk b x hb).same (hold _ (hs.ltw b x hb)), hs.inj⟩,
    ⟨Mp.le.refl r, Nat.le_refl _, fun _ _ h => ⟨h, rfl⟩, fun _ _ _ => rfl, fun b x h h' => (by rw [h] at h'; cases h'), rfl, rfl, rfl, by rw [hsz]; omega, fun c hc _ => hold c hc⟩⟩

/-- A loop's record, in the model. -/
theorem loop_at {r : Mp} {H : Hp} {w : World} (hs : Sim r H w) {b : Nat} {L : ALoop} (h : aloopAt H b = some L) {x : Tgt} (hb : r b = some x) :
    ∃ fn tmps dfs, w.heap[x.c]? = some (.loop { state := L.st, pending := L.pend, fn := fn, tmps := tmps, params := L.ps, assign := L.asg, body := L.body, defers := dfs }) ∧ tmps.size = L.n ∧ ∀ i, VRel r (L.t i) (tmps.getD i undef) := by
  have := hs.blk b x hb
  rw [aloopAt_spec h] at this
  exact this

theorem loop_write {r : Mp} {H : Hp} {w : World} (hs : Sim r H w) {b : Nat} {L : ALoop} (h : aloopAt H b = some L) {x : Tgt} (hb : r b = some x) (st : LoopState) (pend : Option Code) {fn : FuncId} {tmps : Array Value} {dfs : Nat}
    (h1 : tmps.size = L.n) (h2 : ∀ i, VRel r (L.t i) (tmps.getD i undef)) :
    let w' := w.putObj x.c (.loop { state := st, pending := pend, fn := fn, tmps := tmps, params := L.ps, assign := L.asg, body := L.body, defers := dfs })
    Sim r (H.put b (.loop { L with st := st, pend := pend })) w' ∧ Step r H w r (H.put b (.loop { L with st := st, pend := pend })) w' := by
  intro w'
  have hf := aloopAt_spec h
  exact Sim.write hs (blk := .loop { L with st := st, pend := pend }) hb (by rw [hf]; rfl) (by rw [hf]; rfl) rfl World.putObj_size (fun c hc => World.putObj_heap_other hc)
    ⟨fn, tmps, dfs, World.putObj_heap_same (hs.ltw b x hb), h1, h2⟩ rfl rfl rfl

theorem aexec_sound {P : Program} {call : CallF} (hc : CallOk P call) (hm : P.follows .mixedOrders = true) {nt : Nat} {pl : Plan} {f : FuncId} {ro : Option Nat} {n : Nat} : ∀ (c : Code), codeOk P nt pl c = true → CodeSnd P nt ro (aexec P call pl f nt ro n c) c := by
  intro c
  induction c with
  | skip =>
    intro _ lo r ro' H w ds t a e ds' t' H' Q hro hlo hs hf hd h hq
    simp only [aexec, Option.some.injEq, Prod.mk.injEq] at h
    obtain ⟨rfl, rfl, rfl, rfl⟩ := h
    exact wpIn_skip (hq r a w hf hd (fun _ => rfl) hs (Step.refl _ _ _))
  | label l =>
    intro _ lo r ro' H w ds t a e ds' t' H' Q hro hlo hs hf hd h hq
    simp only [aexec, Option.some.injEq, Prod.mk.injEq] at h
    obtain ⟨rfl, rfl, rfl, rfl⟩ := h
    exact wpIn_label (hq r a w hf hd (fun _ => rfl) hs (Step.refl _ _ _))
  | exit id =>
    intro _ lo r ro' H w ds t a e ds' t' H' Q hro hlo hs hf hd h hq
    simp only [aexec, Option.some.injEq, Prod.mk.injEq] at h
    obtain ⟨rfl, rfl, rfl, rfl⟩ := h
    exact wpIn_exit (hq r a w hf hd (fun _ => rfl) hs (Step.refl _ _ _))
  | ret =>
    intro _ lo r ro' H w ds t a e ds' t' H' Q hro hlo hs hf hd h hq
    simp only [aexec, Option.some.injEq, Prod.mk.injEq] at h
    obtain ⟨rfl, rfl, rfl, rfl⟩ := h
    exact wpIn_ret (hq r a w hf hd (fun _ => rfl) hs (Step.refl _ _ _))
  | region id ops d =>
    intro hok lo r ro' H w ds t a e ds' t' H' Q hro hlo hs hf hd h hq
    simp only [codeOk] at hok
    simp only [aexec] at h
    cases d with
    | true =>
      simp only [if_true, Option.map_eq_some_iff, Prod.mk.injEq] at h hok
      obtain ⟨⟨t1, H1⟩, h1, rfl, rfl, rfl, rfl⟩ := h
      exact adraw_sound hc hm hok hs hf h1 fun r' a' w' k1 k2 k3 k4 => hq r' a' w' k1 (by rw [k2]; exact hd.step hs k4) (fun _ => k2) k3 k4
    | false =>
      simp only [Bool.false_eq_true, if_false, Option.map_eq_some_iff, Prod.mk.injEq] at h hok
      obtain ⟨⟨ds1, t1, H1⟩, h1, rfl, h2⟩ := h
      simp only [Prod.mk.injEq] at h2
      obtain ⟨rfl, rfl, rfl⟩ := h2
      rw [hro.isNone] at h1
      refine wpIn_region (arun_sound hc hok _ hs hf hd h1 fun r' a' w' k1 k2 k3 k4 k5 => hq r' a' w' k1 k2 (fun hr => k3 ?_) k4 k5)
      intro hn
      have := hro.isNone
      rw [hn] at this
      exact hr (by simpa using this)
  | seq x y ihx ihy =>
    intro hok lo r ro' H w ds t a e ds' t' H' Q hro hlo hs hf hd h hq
    simp only [codeOk, Bool.and_eq_true] at hok
    simp only [aexec] at h
    refine wpIn_seq ?_
    cases hx : aexec P call pl f nt ro n x ds t H with
    | none => simp [hx] at h
    | some q =>
      obtain ⟨e1, ds1, t1, H1⟩ := q
      refine ihx hok.1 lo r ro' H w ds t a e1 ds1 t1 H1 _ hro hlo hs hf hd hx fun r1 a1 w1 hf1 hd1 hn1 hs1 st1 => ?_
      cases e1 with
      | normal =>
        simp only [hx] at h
        exact ihy hok.2 lo r1 ro' H1 w1 ds1 t1 a1 e ds' t' H' Q (hro.mono st1.le) (Nat.le_trans hlo st1.size) hs1 hf1 hd1 h fun r2 a2 w2 hf2 hd2 hn2 hs2 st2 => hq r2 a2 w2 hf2 hd2 (fun q => (hn2 q).trans (hn1 q)) hs2 (st1.trans hs st2)
      | exit i =>
        simp only [hx, Option.some.injEq, Prod.mk.injEq] at h
        obtain ⟨rfl, rfl, rfl, rfl⟩ := h
        exact hq r1 a1 w1 hf1 hd1 hn1 hs1 st1
      | ret =>
        simp only [hx, Option.some.injEq, Prod.mk.injEq] at h
        obtain ⟨rfl, rfl, rfl, rfl⟩ := h
        exact hq r1 a1 w1 hf1 hd1 hn1 hs1 st1
  | cond c x y ihx ihy =>
    intro hok lo r ro' H w ds t a e ds' t' H' Q hro hlo hs hf hd h hq
    simp only [codeOk, Bool.and_eq_true] at hok
    simp only [aexec] at h
    have hv := ev_rel hf hok.1
    split at h
    · rename_i hc1
      rw [hc1] at hv
      have : a.eval c = .bool true := by generalize a.eval c = q at hv; cases hv; rfl
      exact wpIn_cond_true this (ihx hok.2.1 lo r ro' H w ds t a e ds' t' H' Q hro hlo hs hf hd h hq)
    · rename_i hc1
      rw [hc1] at hv
      have : a.eval c = .bool false := by generalize a.eval c = q at hv; cases hv; rfl
      exact wpIn_cond_false this (ihy hok.2.2 lo r ro' H w ds t a e ds' t' H' Q hro hlo hs hf hd h hq)
    · cases h
  | block id x ih =>
    intro hok lo r ro' H w ds t a e ds' t' H' Q hro hlo hs hf hd h hq
    simp only [codeOk] at hok
    simp only [aexec] at h
    refine wpIn_block ?_
    cases hx : aexec P call pl f nt ro n x ds t H with
    | none => simp [hx] at h
    | some q =>
      obtain ⟨e1, ds1, t1, H1⟩ := q
      refine ih hok lo r ro' H w ds t a e1 ds1 t1 H1 _ hro hlo hs hf hd hx fun r1 a1 w1 hf1 hd1 hn1 hs1 st1 => ?_
      cases e1 with
      | normal =>
        simp only [hx, Option.some.injEq, Prod.mk.injEq] at h
        obtain ⟨rfl, rfl, rfl, rfl⟩ := h
        exact hq r1 a1 w1 hf1 hd1 hn1 hs1 st1
      | exit i =>
        simp only [hx, Option.some.injEq, Prod.mk.injEq] at h
        obtain ⟨rfl, rfl, rfl, rfl⟩ := h
        have := hq r1 a1 w1 hf1 hd1 hn1 hs1 st1
        simp only [AExit.to, Exit.inBlock]
        by_cases hi : i = id
        · simp only [hi, if_true] at this ⊢
          exact this
        · simp only [hi, if_false] at this ⊢
          exact this
      | ret =>
        simp only [hx, Option.some.injEq, Prod.mk.injEq] at h
        obtain ⟨rfl, rfl, rfl, rfl⟩ := h
        exact hq r1 a1 w1 hf1 hd1 hn1 hs1 st1
  | loop x ih =>
    intro hok lo r0 ro' H0 w0 ds0 t0 a0 e ds' t' H' Q hro hlo hs0 hf0 hd0 h hq
    simp only [codeOk] at hok
    simp only [aexec] at h
    refine wpIn_loop_rounds n ?_
    have key : ∀ k r H w ds t a, Sim r H w → FRel r nt t a → DRel lo r H w ds a.defers → (ro ≠ none → a.defers = a0.defers) → Step r0 H0 w0 r H w → aloop (aexec P call pl f nt ro n x) k ds t H = some (e, ds', t', H') → Code.roundsIn (Fw ro') 0 P x Q k a w := by
      intro k
      induction k with
      | zero => intro r H w ds t a _ _ _ _ _ h; simp [aloop] at h
      | succ k ihk =>
        intro r H w ds t a hs hf hd hn st h
        rw [roundsIn_succ]
        simp only [aloop] at h
        cases hx : aexec P call pl f nt ro n x ds t H with
        | none => simp [hx] at h
        | some q =>
          obtain ⟨e1, ds1, t1, H1⟩ := q
          refine ih hok lo r ro' H w ds t a e1 ds1 t1 H1 _ (hro.mono st.le) (Nat.le_trans hlo st.size) hs hf hd hx fun r1 a1 w1 hf1 hd1 hn1 hs1 st1 => ?_
          cases e1 with
          | normal =>
            simp only [hx] at h
            exact ihk r1 H1 w1 ds1 t1 a1 hs1 hf1 hd1 (fun q => (hn1 q).trans (hn q)) (st.trans hs0 st1) h
          | exit i =>
            simp only [hx, Option.some.injEq, Prod.mk.injEq] at h
            obtain ⟨rfl, rfl, rfl, rfl⟩ := h
            exact hq r1 a1 w1 hf1 hd1 (fun q => (hn1 q).trans (hn q)) hs1 (st.trans hs0 st1)
          | ret =>
            simp only [hx, Option.some.injEq, Prod.mk.injEq] at h
            obtain ⟨rfl, rfl, rfl, rfl⟩ := h
            exact hq r1 a1 w1 hf1 hd1 (fun q => (hn1 q).trans (hn q)) hs1 (st.trans hs0 st1)
    exact key n r0 H0 w0 ds0 t0 a0 hs0 hf0 hd0 (fun _ => rfl) (Step.refl _ _ _) h
  | rangeFunc g ps asg body =>
    intro hok lo r ro' H w ds t a e ds' t' H' Q hro hlo hs hf hd h hq
    simp only [codeOk, Bool.and_eq_true] at hok
    simp only [aexec] at h
    have hgv := ev_rel hf hok.1
    split at h
    · rename_i g0 first cap hg
      rw [hg] at hgv
      split at h
      · rename_i hrok
        have hform : ∃ f' c', a.eval g = .func (.func g0) f' c' ∧ LRel r first.toList f'.toList ∧ LRel r cap.toList c'.toList := by
          generalize a.eval g = q at hgv
          cases hgv with
          | plain _ hp => simp [plain, flat, flat0] at hp
          | func _ h1 h2 h3 h4 => exact ⟨_, _, rfl, ⟨by simpa using h1, fun i a b => by simpa using h3 i (by simpa using a) (by simpa using b)⟩, ⟨by simpa using h2, fun i a b => by simpa using h4 i (by simpa using a) (by simpa using b)⟩⟩
        obtain ⟨f', c', ge, gf, gc⟩ := hform
        -- the record
        let B : Blk := .loop ⟨f, nt, t, ps, asg, body, .ready, none⟩
        have lay : ∀ fn, ∃ (lr : Nat) (mark : List Deferred) (w1 : World) (r1 : Mp) (x : Tgt), (Instr.enterLoop fn a.tmps ps asg body ro').run P w = .ok (lr, mark) w1 ∧ r1 H.n = some x ∧ x.c = lr ∧ Sim r1 (H.alloc B) w1 ∧
            Step r H w r1 (H.alloc B) w1 ∧ DRel lo r1 (H.alloc B) w1 (if ro.isNone then .mark :: ds else ds) (mark ++ a.defers) ∧ (ro ≠ none → mark = []) := by
          intro fn
          cases ro' with
          | none =>
            have hrn : ro.isNone = true := hro.isNone
            have p1 := hs.private (.deferred (some []))
            have hsz : (w.alloc (.deferred (some []))).heap.size = w.heap.size + 1 := by show (w.heap.push _).size = _; simp
            have k := Sim.alloc (w' := (w.alloc (.deferred (some []))).alloc (.loop { state := .ready, pending := none, fn, tmps := a.tmps, params := ps, assign := asg, body, defers := w.heap.size })) p1.1 (b := B) (x := ⟨w.heap.size + 1, 0, 0, 0⟩) (by rw [hsz])
              (by show ((w.alloc (.deferred (some []))).heap.push _).size = _; simp) (fun c hc => by show ((w.alloc (.deferred (some []))).heap.push _)[c]? = _; rw [Array.getElem?_push_lt hc]; simp [hc])
              ⟨fn, a.tmps, w.heap.size, by have := World.alloc_heap_new (w.alloc (.deferred (some []))) (.loop { state := .ready, pending := none, fn, tmps := a.tmps, params := ps, assign := asg, body, defers := w.heap.size }); rw [hsz] at this; exact this, hf.size, fun i => (hf.rel i).mono (le_upd hs.fresh)⟩ rfl rfl rfl
            refine ⟨w.heap.size + 1, _, _, _, ⟨w.heap.size + 1, 0, 0, 0⟩, run_enterLoop_outer fn a.tmps ps asg body, upd_same _ _ _, rfl, k.1, p1.2.trans hs k.2, ?_, fun h => absurd (by simpa using hrn) h⟩
            rw [if_pos hrn]
            have hd1 : DRel1 lo r H (w.alloc (.deferred (some []))) .mark { target := .collected w.heap.size, args := #[] } := by
              refine .mark hlo (by rw [hsz]; omega) (World.alloc_heap_new w _) ?_
              rintro ⟨b, x, hb, hx, _⟩
              have := hs.ltw b x hb
              omega
            refine .cons (hd1.step p1.1 k.2) ((hd.step hs p1.2).step p1.1 k.2) ?_
            intro b hb x hx hxb
            cases hb
            have : ∀ {ds ds'}, DRel lo r H w ds ds' → ∀ y ∈ ds', y.target ≠ .collected w.heap.size := by
              intro ds ds' hd
              induction hd with
              | nil => intro y hy; cases hy
              | cons h _ _ ih =>
                intro y hy
                rcases List.mem_cons.1 hy with rfl | hy
                · cases h with
                  | mark _ h1 _ _ => intro e; cases e; omega
                  | fn _ => intro e; cases e
                · exact ih y hy
            exact this hd x (by simpa using hx) hxb
          | some l' =>
            have hrn : ro.isNone = false := hro.isNone
            obtain ⟨l, rfl⟩ : ∃ l, ro = some l := by cases ro with | none => simp at hrn | some l => exact ⟨l, rfl⟩
            obtain ⟨x, hx, rfl⟩ := hro
            simp only [roOk, Option.isSome_iff_exists] at hrok
            obtain ⟨L, hL⟩ := hrok
            obtain ⟨fn2, tmps2, dfs2, hh, _, _⟩ := loop_at hs hL hx
            have k := Sim.alloc (w' := w.alloc (.loop { state := .ready, pending := none, fn, tmps := a.tmps, params := ps, assign := asg, body, defers := dfs2 })) hs (b := B) (x := ⟨w.heap.size, 0, 0, 0⟩) rfl
              (by show (w.heap.push _).size = _; simp) (fun c hc => by show (w.heap.push _)[c]? = _; rw [Array.getElem?_push_lt hc]; simp [hc])
              ⟨fn, a.tmps, dfs2, World.alloc_heap_new w _, hf.size, fun i => (hf.rel i).mono (le_upd hs.fresh)⟩ rfl rfl rfl
            refine ⟨w.heap.size, [], _, _, ⟨w.heap.size, 0, 0, 0⟩, run_enterLoop_inner hh fn a.tmps ps asg body, upd_same _ _ _, rfl, k.1, k.2, ?_, fun _ => rfl⟩
            simpa using hd.step hs k.2
        refine wpIn_rangeFunc fun fn _ => ?_
        obtain ⟨lr, mark, w1, r1, x, e1, hx, rfl, hs1, st1, hd1, hmk⟩ := lay fn
        -- the call
        cases hcall : call (.func g0) (first.toList ++ [.func (.yield H.n) #[] #[]] ++ cap.toList) (H.alloc B) with
        | none => rw [show call (.func g0) (first.toList ++ [.func (.yield H.n) #[] #[]] ++ cap.toList) (H.alloc (.loop ⟨f, nt, t, ps, asg, body, .ready, none⟩)) = none from hcall] at h; cases h
        | some q =>
          obtain ⟨v2, H2⟩ := q
          rw [show call (.func g0) (first.toList ++ [.func (.yield H.n) #[] #[]] ++ cap.toList) (H.alloc (.loop ⟨f, nt, t, ps, asg, body, .ready, none⟩)) = some (v2, H2) from hcall] at h
          have hok1 := hc.fn _ _ _ _ _ hcall
          refine ⟨x.c, mark, w1, { target := .fn (.func g0) c', args := f' ++ #[Value.func (.yield x.c) #[] #[]] }, w1, g0, f' ++ #[Value.func (.yield x.c) #[] #[]] ++ c', w1, e1, ?_, fun _ _ => trivial, ?_, fun h => (by cases h), ?_⟩
          · have : a.eval (.const (.func (.yield x.c) #[] #[])) = .func (.yield x.c) #[] #[] := rfl
            simp [resolve, rangeCall, ge, Deferred.ofValue, this]
          · simp only [invoke]
            exact hok1.1 _ _
          · have hargs : LRel r1 (first.toList ++ [.func (.yield H.n) #[] #[]] ++ cap.toList) (f' ++ #[Value.func (.yield x.c) #[] #[]] ++ c').toList := by
              simp only [Array.toList_append]
              exact ((gf.mono st1.le).append (LRel.cons (.yield hx) LRel.nil)).append (gc.mono st1.le)
            have hcl := callsFw (n := 0 - 1) ro' (hok1.2 r1 w1 _ hs1 hargs)
            rw [Array.toArray_toList] at hcl
            refine hcl.mono ?_
            intro e3 w3 hdid
            obtain ⟨v3, r3, rfl, hv3, hs3, st3⟩ := hdid
            obtain ⟨L, hL, hnb, hpe, rfl, rfl, rfl⟩ := aranged_spec h
            have hx3 := st3.le _ _ hx
            obtain ⟨fn3, tmps3, dfs3, hh3, hsz3, hrel3⟩ := loop_at hs3 hL hx3
            have kw := loop_write hs3 hL hx3 .exhausted L.pend (fn := fn3) (dfs := dfs3) hsz3 hrel3
            have hst := (st1.trans hs st3).trans hs kw.2
            refine ⟨L.pend, _, run_endLoop hh3 hnb, ?_⟩
            have hq' := hq r3 { a with defers := mark ++ a.defers } _ ⟨hf.size, fun i => (hf.rel i).mono (st1.le.trans st3.le)⟩ ((hd1.step hs1 st3).step hs3 kw.2) (fun hr => by show mark ++ a.defers = a.defers; rw [hmk hr]; rfl) kw.1 hst
            have := pendExit_spec hpe
            cases e with
            | normal => rw [this] at hq' ⊢; exact hq'
            | exit i => rw [this] at hq' ⊢; exact wpIn_exit hq'
            | ret => rw [this] at hq' ⊢; exact wpIn_ret hq'
      · cases h
    · cases h
  | _ => intro hok; simp [codeOk] at hok

/-! ### Functions -/
/-- What a function hands back. -/
def aresult (P : Program) (t : Fr) (H : Hp) : ResultVar → Option Value
  | .tmp d => some (t d)
  | .cell d T => aload P H T (t d)
def aresults (P : Program) (t : Fr) (H : Hp) : List ResultVar → Option (List Value)
  | [] => some []
  | x :: l => match aresult P t H x, aresults P t H l with
    | some v, some vs => some (v :: vs)
    | _, _ => none
def packed : List Value → Value
  | [v] => v
  | l => .tuple l.toArray

/-- What the model reads a result from. -/
def rv (tmps : Array Value) : ResultVar → Sem Value
  | .tmp t => pure (tmps.getD t undef)
  | .cell d t => do loadVar t (← asAddr (tmps.getD d undef))
theorem results_eq (fn : Func) (tmps : Array Value) : results fn tmps = (do
    let vs ← fn.results.mapM (rv tmps)
    pure (if h : vs.size = 1 then vs[0] else .tuple vs)) := by
  unfold results
  congr 2

theorem aresult_sound {P : Program} {r : Mp} {H : Hp} {w : World} (hs : Sim r H w) {n : Nat} {t : Fr} {a : Act} (hf : FRel r n t a) {x : ResultVar} {v : Value} (h : aresult P t H x = some v) :
    ∃ v', (rv a.tmps x).run P w = .ok v' w ∧ VRel r v v' := by
  cases x with
  | tmp d =>
    simp only [aresult, Option.some.injEq] at h
    subst h
    exact ⟨_, rfl, hf.rel d⟩
  | cell d T =>
    simp only [aresult] at h
    obtain ⟨v', h1, h2⟩ := aload_sound (P := P) hs (hf.rel d) h
    refine ⟨v', ?_, h2⟩
    have hv := hf.rel d
    have : ∃ ad, a.tmps.getD d undef = .pointer (some ad) := by
      unfold aload at h
      split at h
      · rename_i b o e
        rw [e] at hv
        generalize a.tmps.getD d undef = q at hv
        cases hv with
        | plain _ hp => simp [plain, flat, flat0] at hp
        | ptr _ => exact ⟨_, rfl⟩
      · cases h
    obtain ⟨ad, had⟩ := this
    unfold rv
    simp only []
    rw [had] at h1 ⊢
    simpa [Instr.loadAt, Instr.sureAddr, asAddr, loadVar] using h1

theorem aresults_sound {P : Program} {r : Mp} {H : Hp} {w : World} (hs : Sim r H w) {n : Nat} {t : Fr} {a : Act} (hf : FRel r n t a) : ∀ {l : List ResultVar} {vs : List Value}, aresults P t H l = some vs →
    ∃ vs', (l.mapM (rv a.tmps)).run P w = .ok vs' w ∧ LRel r vs vs'
  | [], vs, h => by
    simp only [aresults, Option.some.injEq] at h
    subst h
    exact ⟨[], by simp, LRel.nil⟩
  | x :: l, vs, h => by
    simp only [aresults] at h
    cases h1 : aresult P t H x with
    | none => simp [h1] at h
    | some v =>
      cases h2 : aresults P t H l with
      | none => simp [h1, h2] at h
      | some us =>
        simp only [h1, h2, Option.some.injEq] at h
        subst h
        obtain ⟨v', k1, k2⟩ := aresult_sound (P := P) hs hf h1
        obtain ⟨us', k3, k4⟩ := aresults_sound (P := P) hs hf h2
        refine ⟨v' :: us', ?_, LRel.cons k2 k4⟩
        rw [List.mapM_cons]
        rw [Sem.run_bind, k1]
        simp only [Result.andThen_ok]
        rw [Sem.run_bind, k3]
        rfl

theorem packed_rel {r : Mp} {vs vs' : List Value} (h : LRel r vs vs') : VRel r (packed vs) (packed vs') := by
  match vs, vs', h with
  | [], vs', h =>
    have := List.eq_nil_of_length_eq_zero (by simpa using h.1.symm)
    subst this
    exact VRel.tuple_of h
  | [v], vs', h =>
    obtain ⟨v', l', rfl, h1, h2⟩ := h.uncons
    have := List.eq_nil_of_length_eq_zero (by simpa using h2.1.symm)
    subst this
    exact h1
  | v :: u :: l, vs', h =>
    obtain ⟨v', l', rfl, h1, h2⟩ := h.uncons
    obtain ⟨u', l2, rfl, h3, h4⟩ := h2.uncons
    exact VRel.tuple_of h

end Am
end Go.Proofs.YtbpabpnpoidpcaaGreatDoor
