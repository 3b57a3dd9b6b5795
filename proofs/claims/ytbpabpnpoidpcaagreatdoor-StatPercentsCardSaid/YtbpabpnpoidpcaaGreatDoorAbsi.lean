/- The abstract machine's functions, rounds and deferred calls; that the model does the same. No conditions. -/
import Derived.Test.YtbpabpnpoidpcaaGreatDoorAbsh
set_option linter.unusedVariables false
set_option linter.unusedSimpArgs false
namespace Go.Proofs.YtbpabpnpoidpcaaGreatDoor
namespace Am
open Go Go.RowKit

/-- Deferred calls, when a function returns. -/
abbrev DCallF := FuncId → List Value → Hp → Option Hp
def aleave (dcall : DCallF) : List ADef → Hp → Option Hp
  | [], H => some H
  | .mark :: ds, H => aleave dcall ds H
  | .fn g args :: ds, H => match dcall g args H with
    | some H' => aleave dcall ds H'
    | none => none

def DOk (P : Program) (dcall : DCallF) : Prop :=
  ∀ g args H H', dcall g args H = some H' → (∀ a w, (callFunc g a).run P w = .ok (.enter g a) w) ∧
    ∀ r w args', Sim r H w → LRel r args args' → CallsDIn (Fw none) 0 P g args'.toArray .returning w fun e u w' => ∃ v r', e = .returned v ∧ u = .returning ∧ Sim r' H' w' ∧ Step r H w r' H' w'

def setps : Fr → List (Tmp × Value) → Fr
  | t, [] => t
  | t, (p, v) :: l => setps (upd t p v) l

def isReady : LoopState → Bool
  | .ready => true
  | _ => false

/-- A round of a range over a function. -/
noncomputable def ayield (P : Program) (call : CallF) (pl : FuncId → Plan) (n : Nat) (b : Nat) (args : List Value) (H : Hp) : Option (Value × Hp) :=
  match aloopAt H b with
  | some L => if (args.length == L.ps.size && isReady L.st && (L.ps.all (· < L.n) && (codeOk P L.n (pl L.f) L.asg && codeOk P L.n (pl L.f) L.body))) = true then
      match aexec P call (pl L.f) L.f L.n (some b) n L.asg [] (setps L.t (L.ps.toList.zip args)) H with
      | some (.normal, _, t1, H1) => match aloopAt H1 b with
        | some L1 => if isReady L1.st = true then
            match aexec P call (pl L.f) L.f L.n (some b) n L.body [] t1 (H1.put b (.loop { L1 with st := .busy })) with
            | some (e, _, _, H3) => match aloopAt H3 b with
              | some L3 => some (.bool e.code.isNone, H3.put b (.loop { L3 with st := if e.code.isNone then .ready else .done, pend := e.code }))
              | none => none
            | none => none
          else none
        | none => none
      | _ => none
    else none
  | none => none

/-- The functions that the abstract machine may do: with a plan for each drawn region. -/
def fnOk (P : Program) (pl : FuncId → Plan) (f : FuncId) : Bool := match P.funcs[f]? with
  | some fn => match fn.body with
    | some c => codeOk P fn.ntmps (pl f) c && !(fn.name == "runtime.NumGoroutine")
    | none => false
  | none => false

/-- A function, done. -/
noncomputable def afunc (P : Program) (call : CallF) (dcall : DCallF) (pl : FuncId → Plan) (n : Nat) (f : FuncId) (args : List Value) (H : Hp) : Option (Value × Hp) := match P.funcs[f]? with
  | some fn => match fn.body with
    | some c => if args.length ≤ fn.ntmps then (match aexec P call (pl f) f fn.ntmps none n c [] (fun i => args.getD i undef) H with
      | some (.exit _, _) => none
      | some (_, ds, t', H') => match aleave dcall ds H' with
        | some H'' => (aresults P t' H'' fn.results.toList).map fun vs => (packed vs, H'')
        | none => none
      | none => none) else none
    | none => none
  | none => none

/-- Calls, so deep; `base` answers what `ok` does not tell. -/
noncomputable def acallN (P : Program) (base : CallF) (dcall : DCallF) (pl : FuncId → Plan) (ok : FuncId → Bool) : Nat → CallF
  | 0 => base
  | n + 1 => fun g args H => match g with
    | .func f => if ok f = true then afunc P (acallN P base dcall pl ok n) dcall pl n f args H else base (.func f) args H
    | .yield b => ayield P (acallN P base dcall pl ok n) pl n b args H
    | _ => none

theorem not_image {r : Mp} {H : Hp} {w : World} (hs : Sim r H w) {b : Nat} {o : Option (List Deferred)} (h2 : w.heap[b]? = some (.deferred o)) (h3 : ¬ Wr r H b) : ∀ c x, r c = some x → x.c ≠ b := by
  rintro c x hc rfl
  have hb := hs.blk c x hc
  cases hf : H.f c with
  | cells ro sz cs =>
    rw [hf] at hb
    obtain ⟨_, cs', el, fr, h, _⟩ := hb
    rw [h2] at h
    cases h
  | map es => exact h3 ⟨c, x, hc, rfl, by rw [hf]; rfl⟩
  | loop L => exact h3 ⟨c, x, hc, rfl, by rw [hf]; rfl⟩
  | dead => exact h3 ⟨c, x, hc, rfl, by rw [hf]; rfl⟩

theorem leaves_sound {P : Program} {dcall : DCallF} (hdc : DOk P dcall) {fn : Func} {r0 : Mp} {H0 : Hp} {w0 : World} (hs0 : Sim r0 H0 w0) {n : Nat} {t : Fr} {tmps : Array Value} {H' : Hp} {vs : List Value} :
    ∀ (ds : List ADef) (dfs : List Deferred) (r : Mp) (H : Hp) (w : World), DRel w0.heap.size r H w ds dfs → Sim r H w → Step r0 H0 w0 r H w → FRel r n t { tmps := tmps, defers := [] } → aleave dcall ds H = some H' → aresults P t H' fn.results.toList = some vs →
      LeavesInM (Fw none) 0 P fn tmps (Did r0 H0 w0 (packed vs) H') dfs .returning w := by
  intro ds
  induction ds with
  | nil =>
    intro dfs r H w hd hs st hf h hr
    cases hd
    simp only [aleave, Option.some.injEq] at h
    subst h
    obtain ⟨vs', k1, k2⟩ := aresults_sound (P := P) hs hf hr
    refine ⟨packed vs', ?_, _, r, rfl, packed_rel k2, hs, st⟩
    rw [results_eq, Array.mapM_eq_mapM_toList, map_eq_pure_bind]
    simp only [Sem.run_bind, k1, Result.andThen_ok, Sem.run_pure]
    congr 1
    match vs', k2 with
    | [], _ => rfl
    | [_], _ => rfl
    | _ :: _ :: _, _ => rfl
  | cons d ds ih =>
    intro dfs r H w hd hs st hf h hr
    cases hd with
    | cons h1 hk hdd =>
      cases h1 with
      | mark k0 k1 k2 k3 =>
        rename_i ds' b
        simp only [aleave] at h
        have hni := not_image hs k2 k3
        have hso : ∀ k, k ≠ b → (w.putObj b (.deferred none)).heap[k]? = w.heap[k]? := fun k hk => World.putObj_heap_other hk
        have hs' : Sim r H (w.putObj b (.deferred none)) := ⟨hs.lt, fun c x hc => by rw [World.putObj_size]; exact hs.ltw c x hc, fun c x hc => (hs.blk c x hc).same (hso _ (hni c x hc)), hs.inj⟩
        have st' : Step r0 H0 w0 r H (w.putObj b (.deferred none)) := ⟨st.le, st.hn, st.old, st.ro, st.new, st.os, st.tape, st.output, by rw [World.putObj_size]; exact st.size, fun c hc hw => by rw [hso c (by omega)]; exact st.same c hc hw⟩
        refine ⟨by simp, .inl ⟨b, _, rfl, run_takeDeferred k2, ih _ r H _ ?_ hs' st' hf h hr⟩⟩
        have : ∀ {ds ds'}, DRel w0.heap.size r H w ds ds' → (∀ x ∈ ds', x.target ≠ .collected b) → DRel w0.heap.size r H (w.putObj b (.deferred none)) ds ds' := by
          intro ds ds' hd hne
          induction hd with
          | nil => exact .nil
          | cons h1 _ h3 ih =>
            refine .cons ?_ (ih fun x hx => hne x (List.mem_cons_of_mem _ hx)) h3
            cases h1 with
            | mark q0 q1 q2 q3 =>
              rename_i b'
              have : b' ≠ b := fun e => hne _ List.mem_cons_self (by rw [e])
              exact .mark q0 (by rw [World.putObj_size]; exact q1) (by rw [hso _ this]; exact q2) q3
            | fn q => exact .fn q
        exact this hk (hdd b rfl)
      | fn hl =>
        rename_i g args cap' args'
        simp only [aleave] at h
        cases hq : dcall g args H with
        | none => simp [hq] at h
        | some H1 =>
          simp only [hq] at h
          obtain ⟨q1, q2⟩ := hdc g args H H1 hq
          refine ⟨by simp, .inr ⟨fun h => (by cases h), .func g, cap', g, args' ++ cap', rfl, ?_, fun _ _ => trivial, ?_⟩⟩
          · simp only [invoke]; exact q1 _ _
          · have := q2 r w (args' ++ cap').toList hs (by simpa using hl)
            rw [Array.toArray_toList] at this
            refine ⟨this.1, fun c cs hu hroom => ?_⟩
            obtain ⟨e, u', w', fr, ⟨v, r', rfl, rfl, k1, k2⟩, k3, k4, k5, k6⟩ := this.2 c cs hu hroom
            exact ⟨_, _, w', fr, ih _ r' H1 w' (hk.step hs k2) k1 (st.trans hs0 k2) (hf.mono k2.le) h hr, k3, k4, k5, k6⟩

theorem setps_sound {r : Mp} {n : Nat} : ∀ (l : List (Tmp × Value)) (l' : List (Tmp × Value)) (t : Fr) (tmps : Array Value), FRel r n t { tmps := tmps, defers := [] } → l.length = l'.length →
    (∀ i (h : i < l.length) (h' : i < l'.length), l[i].1 = l'[i].1 ∧ l[i].1 < n ∧ VRel r l[i].2 l'[i].2) → FRel r n (setps t l) { tmps := l'.foldl (fun tmps q => tmps.setIfInBounds q.1 q.2) tmps, defers := [] }
  | [], [], t, tmps, hf, _, _ => hf
  | (p, v) :: l, (p', v') :: l', t, tmps, hf, hlen, h => by
    obtain ⟨h1, h2, h3⟩ := h 0 (by simp) (by simp)
    simp only [List.getElem_cons_zero] at h1 h2 h3
    subst h1
    exact setps_sound l l' _ _ (hf.put (d := some p) (fun x hx => by cases hx; exact h2) h3) (by simpa using hlen) fun i a b => h (i + 1) (by simpa using a) (by simpa using b)
  | [], _ :: _, t, tmps, hf, hlen, _ => by simp at hlen
  | _ :: _, [], t, tmps, hf, hlen, _ => by simp at hlen

theorem ayield_sound {P : Program} {call : CallF} (hc : CallOk P call) (hm : P.follows .mixedOrders = true) {pl : FuncId → Plan} {n : Nat} {b : Nat} {args : List Value} {H : Hp} {v : Value} {H' : Hp} (h : ayield P call pl n b args H = some (v, H')) {r : Mp} {w : World} {args' : List Value} {x : Tgt} (hx : r b = some x) (hs : Sim r H w) (hl : LRel r args args') :
    ∃ f tmps asg body, (Instr.yield x.c args'.toArray).run P w = .ok (.round x.c f tmps asg body) w ∧ ∀ ro, RoundIn (Fw ro) 0 P x.c f tmps asg body w (Did r H w v H') := by
  unfold ayield at h
  cases hL : aloopAt H b with
  | none => simp [hL] at h
  | some L =>
    simp only [hL] at h
    split at h
    · rename_i hg
      simp only [Bool.and_eq_true, beq_iff_eq] at hg
      obtain ⟨⟨hlen, hrd⟩, hps, hok1, hok2⟩ := hg
      obtain ⟨fn, tmps, dfs, hh, hsz, hrel⟩ := loop_at hs hL hx
      have hlen' : args'.toArray.size = L.ps.size := by rw [← hlen, hl.1]; simp
      refine ⟨_, _, _, _, run_yield hh hlen', fun ro => ?_⟩
      have hf0 : FRel r L.n (setps L.t (L.ps.toList.zip args)) { tmps := (L.ps.zip args'.toArray).foldl (fun tmps (q : Tmp × Value) => tmps.setIfInBounds q.1 q.2) tmps, defers := [] } := by
        rw [← Array.foldl_toList]
        refine setps_sound _ _ _ _ ⟨hsz, hrel⟩ (by simp [hl.1]) fun i p q => ?_
        simp only [List.getElem_zip, Array.toList_zip]
        refine ⟨trivial, ?_, ?_⟩
        · have := Array.all_eq_true_iff_forall_mem.1 hps (L.ps.toList[i]'(by simp at p; simp; omega)) (by simp)
          simpa using this
        · exact hl.2 i (by simp at p; omega) (by simp at q; omega)
      cases h1 : aexec P call (pl L.f) L.f L.n (some b) n L.asg [] (setps L.t (L.ps.toList.zip args)) H with
      | none => simp [h1] at h
      | some q =>
        obtain ⟨e1, ds1, t1, H1⟩ := q
        simp only [h1] at h
        cases e1 with
        | exit i => simp at h
        | ret => simp at h
        | normal =>
          simp only [] at h
          cases hL1 : aloopAt H1 b with
          | none => simp [hL1] at h
          | some L1 =>
            simp only [hL1] at h
            split at h
            · rename_i hrd1
              refine roundIn_of_wpIn (n := 0) trivial ?_
              refine aexec_sound hc hm L.asg hok1 0 r (some x.c) H w [] _ _ .normal ds1 t1 H1 _ (show RoRel r (some b) (some x.c) from ⟨x, hx, rfl⟩) (Nat.zero_le _) hs hf0 .nil h1 fun r1 a1 w1 hf1 hd1 hn1 hs1 st1 => ?_
              have ha1 : a1.defers = [] := hn1 (by simp)
              have hx1 := st1.le _ _ hx
              obtain ⟨fn1, tmps1, dfs1, hh1, hsz1, hrel1⟩ := loop_at hs1 hL1 hx1
              have kw := loop_write hs1 hL1 hx1 .busy L1.pend (fn := fn1) (dfs := dfs1) hsz1 hrel1
              have hst1 : L1.st = .ready := by cases hq : L1.st <;> rw [hq] at hrd1 <;> first | rfl | cases hrd1
              refine ⟨_, run_beginRound hh1 hst1, ?_⟩
              cases h3 : aexec P call (pl L.f) L.f L.n (some b) n L.body [] t1 (H1.put b (.loop { L1 with st := .busy })) with
              | none => simp [h3] at h
              | some q =>
                obtain ⟨e3, ds3, t3, H3⟩ := q
                simp only [h3] at h
                cases hL3 : aloopAt H3 b with
                | none => simp [hL3] at h
                | some L3 =>
                  simp only [hL3, Option.some.injEq, Prod.mk.injEq] at h
                  obtain ⟨rfl, rfl⟩ := h
                  refine aexec_sound hc hm L.body hok2 0 r1 (some x.c) _ _ [] t1 a1 e3 ds3 t3 H3 _ (show RoRel r1 (some b) (some x.c) from ⟨x, hx1, rfl⟩) (Nat.zero_le _) kw.1 hf1 (by rw [ha1]; exact .nil) h3 fun r3 a3 w3 hf3 hd3 hn3 hs3 st3 => ?_
                  have hx3 := st3.le _ _ hx1
                  obtain ⟨fn3, tmps3, dfs3, hh3, hsz3, hrel3⟩ := loop_at hs3 hL3 hx3
                  have kw3 := loop_write hs3 hL3 hx3 (if e3.code.isNone then .ready else .done) e3.code (fn := fn3) (dfs := dfs3) hsz3 hrel3
                  have hend := run_endRound (P := P) e3.code hh3
                  have fin : Did r H w (.bool e3.code.isNone) (H3.put b (.loop { L3 with st := if e3.code.isNone then .ready else .done, pend := e3.code })) (.returned (.bool e3.code.isNone)) _ :=
                    ⟨_, r3, rfl, .plain _ rfl, kw3.1, ((st1.trans hs kw.2).trans hs st3).trans hs kw3.2⟩
                  cases e3 with
                  | normal => exact ⟨_, _, hend, fin⟩
                  | exit i => exact ⟨_, _, hend, fin⟩
                  | ret => exact ⟨_, _, hend, fin⟩
            · cases h
    · cases h

theorem afunc_sound {P : Program} {call : CallF} (hc : CallOk P call) (hm : P.follows .mixedOrders = true) {dcall : DCallF} (hdc : DOk P dcall) {pl : FuncId → Plan} {n : Nat} {f : FuncId} (hfo : fnOk P pl f = true) {args : List Value} {H : Hp} {v : Value} {H' : Hp} (h : afunc P call dcall pl n f args H = some (v, H')) :
    (∀ a w, (callFunc f a).run P w = .ok (.enter f a) w) ∧ ∀ r w args', Sim r H w → LRel r args args' → Calls P f args'.toArray w (Did r H w v H') := by
  unfold fnOk at hfo
  unfold afunc at h
  cases hfn : P.funcs[f]? with
  | none => simp [hfn] at h
  | some fn =>
    cases hbd : fn.body with
    | none => simp [hfn, hbd] at h
    | some c =>
      simp only [hfn, hbd, Bool.and_eq_true, Bool.not_eq_true'] at h hfo
      refine ⟨fun a w => ?_, fun r w args' hs hl => ?_⟩
      · unfold callFunc
        simp only [Sem.run_bind, run_program, Result.andThen_ok, hfn, hfo.2, Bool.false_eq_true, if_false, hbd]
        rfl
      · split at h
        · rename_i hle
          have hsz : args'.length ≤ fn.ntmps := by rw [← hl.1]; exact hle
          refine (callsIn_wide (n := 0)).1 (callsIn_of_wp_marks (F := Fw none) hfn hbd trivial ?_)
          have hf0 : FRel r fn.ntmps (fun i => args.getD i undef) { tmps := args'.toArray ++ Array.replicate (fn.ntmps - args'.toArray.size) undef, defers := [] } := by
            refine ⟨by simp; omega, fun i => ?_⟩
            by_cases hi : i < args.length
            · have hi' : i < args'.length := hl.1 ▸ hi
              have := hl.2 i hi hi'
              have e1 : args.getD i undef = args[i] := by simp [List.getD, hi]
              have e2 : (args'.toArray ++ Array.replicate (fn.ntmps - args'.toArray.size) undef).getD i undef = args'[i] := by
                rw [Array.getD_eq_getD_getElem?, Array.getElem?_append_left (by simpa using hi')]
                simp [hi']
              rw [e1, e2]
              exact this
            · have hi' : ¬ i < args'.length := hl.1 ▸ hi
              have e1 : args.getD i undef = undef := by simp [List.getD, hi]
              have e2 : (args'.toArray ++ Array.replicate (fn.ntmps - args'.toArray.size) undef).getD i undef = undef := by
                rw [Array.getD_eq_getD_getElem?, Array.getElem?_append_right (by simp; omega), Array.getElem?_replicate]
                split <;> rfl
              rw [e1, e2]
              exact .plain _ plain_undef
          cases hx : aexec P call (pl f) f fn.ntmps none n c [] (fun i => args.getD i undef) H with
          | none => rw [hx] at h; cases h
          | some q =>
            obtain ⟨e, ds, t1, H1⟩ := q
            rw [hx] at h
            have fin : ∀ r' a' w', FRel r' fn.ntmps t1 a' → DRel w.heap.size r' H1 w' ds a'.defers → Sim r' H1 w' → Step r H w r' H1 w' → (match aleave dcall ds H1 with
                | some H'' => (aresults P t1 H'' fn.results.toList).map fun vs => (packed vs, H'')
                | none => none) = some (v, H') → LeavesInM (Fw none) 0 P fn a'.tmps (Did r H w v H') a'.defers .returning w' := by
              intro r' a' w' hf1 hd1 hs1 st1 h
              cases hlv : aleave dcall ds H1 with
              | none => simp [hlv] at h
              | some H2 =>
                simp only [hlv, Option.map_eq_some_iff, Prod.mk.injEq] at h
                obtain ⟨vs, h1, rfl, rfl⟩ := h
                exact leaves_sound hdc hs ds a'.defers r' H1 w' hd1 hs1 st1 ⟨hf1.size, hf1.rel⟩ hlv h1
            refine aexec_sound hc hm c hfo.1 w.heap.size r none H w [] _ _ e ds t1 H1 _ (show RoRel r none none from trivial) (Nat.le_refl _) hs hf0 .nil hx fun r' a' w' hf1 hd1 hn1 hs1 st1 => ?_
            cases e with
            | exit i => cases h
            | normal => exact fin r' a' w' hf1 hd1 hs1 st1 h
            | ret => exact fin r' a' w' hf1 hd1 hs1 st1 h
        · cases h

theorem acallN_ok {P : Program} (hm : P.follows .mixedOrders = true) {base : CallF} (hb : CallOk P base) {dcall : DCallF} (hdc : DOk P dcall) {pl : FuncId → Plan} {ok : FuncId → Bool} (hok : ∀ f, ok f = true → fnOk P pl f = true) : ∀ n, CallOk P (acallN P base dcall pl ok n) := by
  intro n
  induction n with
  | zero => exact hb
  | succ n ih =>
    refine ⟨fun f args H v H' h => ?_, fun b args H v H' h r w args' x hx hs hl => ?_, fun g args H q h => ?_⟩
    · simp only [acallN] at h
      by_cases hof : ok f = true
      · rw [if_pos hof] at h
        exact afunc_sound ih hm hdc (hok f hof) h
      · rw [if_neg hof] at h
        exact hb.fn f args H v H' h
    · simp only [acallN] at h
      exact ayield_sound ih hm h hx hs hl
    · cases g with
      | func f => exact .inl ⟨f, rfl⟩
      | yield b => exact .inr ⟨b, rfl⟩
      | _ => simp [acallN] at h

end Am
end Go.Proofs.YtbpabpnpoidpcaaGreatDoor
