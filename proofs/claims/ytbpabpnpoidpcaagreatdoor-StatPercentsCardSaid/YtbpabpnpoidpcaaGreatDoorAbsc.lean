/- The abstract machine's regions in the text's order; that the model does the same. No conditions. -/
import Derived.Test.YtbpabpnpoidpcaaGreatDoorAbsb
set_option linter.unusedVariables false
set_option linter.unusedSimpArgs false
namespace Go.Proofs.YtbpabpnpoidpcaaGreatDoor
namespace Am
open Go Go.RowKit

def isUndef : Value → Bool
  | .tuple vs => vs.isEmpty
  | _ => false
theorem isUndef_spec {v : Value} (h : isUndef v = true) : v = undef := by
  cases v <;> simp [isUndef] at h
  subst h
  rfl

def gslot (ops : Array Oper) (g : Nat) : Option Tmp := (ops[g]?).bind (·.dst)
/-- Whether an operation is to be done at all. -/
def awanted (ops : Array Oper) (t : Fr) (o : Oper) : Option Bool := match o.guard with
  | none => some true
  | some (g, want) => match gslot ops g with
    | none => some false
    | some d => match t d with
      | .bool b => some (b == want)
      | v => if isUndef v then some false else none

theorem awanted_sound {ops : Array Oper} {r : Mp} {n : Nat} {t : Fr} {a : Act} (hf : FRel r n t a) {o : Oper} {b : Bool} (h : awanted ops t o = some b) :
    Region.wanted o (yielded ops a.tmps) = b := by
  unfold awanted at h
  unfold Region.wanted
  cases hg : o.guard with
  | none => simp only [hg] at h; cases h; rfl
  | some q =>
    obtain ⟨g, want⟩ := q
    simp only [hg] at h
    cases hd : gslot ops g with
    | none =>
      simp only [hd] at h
      cases h
      have : yielded ops a.tmps g = none := by
        unfold gslot at hd
        simp [yielded, hd]
      simp [this]
    | some d =>
      simp only [hd] at h
      have hv := hf.rel d
      unfold gslot at hd
      split at h
      · rename_i c e
        rw [e] at hv
        cases h
        have hb : a.tmps.getD d undef = .bool c := by
          generalize a.tmps.getD d undef = q at hv
          cases hv
          rfl
        have hs : a.tmps[d]? = some (.bool c) := by
          cases hq : a.tmps[d]? with
          | none => simp [hq, undef] at hb
          | some u => simp [hq] at hb; rw [hb]
        have : yielded ops a.tmps g = some c := by simp [yielded, hd, hs]
        simp only [this]
        cases c <;> cases want <;> rfl
      · split at h
        · rename_i hu
          cases h
          have hu := isUndef_spec hu
          rw [hu] at hv
          have hb : a.tmps.getD d undef = undef := by
            generalize a.tmps.getD d undef = q at hv
            cases hv with
            | plain _ _ => rfl
            | tuple hc _ => unfold undef; congr 1; rename_i c' _; exact (Array.eq_empty_of_size_eq_zero (by simpa using hc.symm))
          have : yielded ops a.tmps g = none := by
            unfold yielded
            cases hq : a.tmps[d]? with
            | none => simp [hd, hq]
            | some u => simp [hq] at hb; subst hb; simp [hd, hq, undef]
          simp only [this]
          rfl
        · cases h

/-- One operation of a region. -/
def aone (P : Program) (call : CallF) (ops : Array Oper) (t : Fr) (H : Hp) (i : Nat) : Option (Fr × Hp) :=
  match ops[i]? with
  | none => none
  | some o => match awanted ops t o with
    | none => none
    | some false => some (aput t o.dst undef, H)
    | some true => match astep P call t H o with
      | none => none
      | some (v, H') => some (aput t o.dst v, H')

/-- A call that is deferred, or the mark of a range over a function. -/
inductive ADef where
  | mark
  | fn (g : FuncId) (args : List Value)

/-- The call that an operation defers. -/
def adefer (ops : Array Oper) (t : Fr) (i : Nat) : Option ADef := match ops[i]? with
  | some { op := .defer { callee := .value f, args := xs, .. }, guard := none, .. } => match ev t f with
    | .func (.func g) first captured => if xs.isEmpty then some (.fn g (first.toList ++ captured.toList)) else none
    | _ => none
  | _ => none

def isDefer (ops : Array Oper) (i : Nat) : Bool := match ops[i]? with
  | some { op := .defer _, .. } => true
  | _ => false

/-- Operations in the text's order; `top`: no round of a range over a function is under way. -/
def arun (P : Program) (call : CallF) (top : Bool) (ops : Array Oper) : List Nat → List ADef → Fr → Hp → Option (List ADef × Fr × Hp)
  | [], ds, t, H => some (ds, t, H)
  | i :: l, ds, t, H => if isDefer ops i then (if top then match adefer ops t i with
      | some d => arun P call top ops l (d :: ds) (aput t (gslot ops i) undef) H
      | none => none else none)
    else match aone P call ops t H i with
      | none => none
      | some (t', H') => arun P call top ops l ds t' H'

/-- A deferred call and a real one. -/
inductive DRel1 (lo : Nat) (r : Mp) (H : Hp) (w : World) : ADef → Deferred → Prop
  | mark {b : Nat} (h0 : lo ≤ b) (h1 : b < w.heap.size) (h2 : w.heap[b]? = some (.deferred (some []))) (h3 : ¬ Wr r H b) : DRel1 lo r H w .mark { target := .collected b, args := #[] }
  | fn {g : FuncId} {args : List Value} {cap' args' : Array Value} (h : LRel r args (args'.toList ++ cap'.toList)) : DRel1 lo r H w (.fn g args) { target := .fn (.func g) cap', args := args' }
inductive DRel (lo : Nat) (r : Mp) (H : Hp) (w : World) : List ADef → List Deferred → Prop
  | nil : DRel lo r H w [] []
  | cons {d : ADef} {d' : Deferred} {ds : List ADef} {ds' : List Deferred} (h : DRel1 lo r H w d d') (k : DRel lo r H w ds ds') (hd : ∀ b, d'.target = .collected b → ∀ x ∈ ds', x.target ≠ .collected b) : DRel lo r H w (d :: ds) (d' :: ds')

theorem DRel1.step {lo : Nat} {r r' : Mp} {H H' : Hp} {w w' : World} (hs : Sim r H w) (st : Step r H w r' H' w') {d : ADef} {d' : Deferred} (h : DRel1 lo r H w d d') : DRel1 lo r' H' w' d d' := by
  cases h with
  | mark h0 h1 h2 h3 => exact .mark h0 (Nat.lt_of_lt_of_le h1 st.size) (by rw [st.same _ h1 h3, h2]) (fun q => (st.wr hs q).elim h3 (fun e => by omega))
  | fn h => exact .fn (h.mono st.le)
theorem DRel.step {lo : Nat} {r r' : Mp} {H H' : Hp} {w w' : World} (hs : Sim r H w) (st : Step r H w r' H' w') {ds : List ADef} {ds' : List Deferred} (h : DRel lo r H w ds ds') : DRel lo r' H' w' ds ds' := by
  induction h with
  | nil => exact .nil
  | cons h k hd ih => exact .cons (h.step hs st) ih hd

def regOk (n : Nat) (ops : Array Oper) : Bool := ops.all (operOk n)
theorem regOk_spec {n : Nat} {ops : Array Oper} (h : regOk n ops = true) {i : Nat} {o : Oper} (hi : ops[i]? = some o) : operOk n o = true :=
  Array.all_eq_true_iff_forall_mem.1 h o (Array.mem_of_getElem? hi)
theorem operOk_dst {n : Nat} {o : Oper} (h : operOk n o = true) (x : Nat) (hx : o.dst = some x) : x < n := by
  simp only [operOk, Bool.and_eq_true] at h
  have := h.2
  rw [hx] at this
  simpa using this

theorem put_defers (a : Act) (d : Option Tmp) (v : Value) : (a.put d v).defers = a.defers := by cases d <;> rfl

/-- One operation, in the model. -/
theorem aone_sound {P : Program} {call : CallF} (hc : CallOk P call) {r : Mp} {n : Nat} {H H' : Hp} {w : World} (hs : Sim r H w) {t t' : Fr} {a : Act} (hf : FRel r n t a) {ops : Array Oper} (ho : regOk n ops = true)
    {i : Nat} (h : aone P call ops t H i = some (t', H'))
    {ro : Option Nat} {K : Act → World → Prop} {Q : Exit → Act → World → Prop} (hk : ∀ r' a' w', FRel r' n t' a' → a'.defers = a.defers → Sim r' H' w' → Step r H w r' H' w' → K a' w') : wpOpIn (Fw ro) 0 P ops Q i K a w := by
  unfold aone at h
  unfold wpOpIn
  cases hi : ops[i]? with
  | none => simp [hi] at h
  | some o =>
    simp only [hi] at h
    have hok := regOk_spec ho hi
    cases hw : awanted ops t o with
    | none => simp [hw] at h
    | some b =>
      have hb := awanted_sound hf hw
      cases b with
      | false =>
        simp only [hw, Option.some.injEq, Prod.mk.injEq] at h
        obtain ⟨rfl, rfl⟩ := h
        simp only [hb, Bool.false_eq_true, if_false]
        exact ⟨fun _ _ => trivial, hk r _ w (hf.put (operOk_dst hok) (.plain _ plain_undef)) (put_defers _ _ _) hs (Step.refl _ _ _)⟩
      | true =>
        simp only [hw] at h
        cases hst : astep P call t H o with
        | none => simp [hst] at h
        | some q =>
          obtain ⟨v, K'⟩ := q
          simp only [hst, Option.some.injEq, Prod.mk.injEq] at h
          obtain ⟨rfl, rfl⟩ := h
          simp only [hb, if_true]
          refine astep_sound hc hs hf hok hst fun r' v' w' h1 h2 h3 => ?_
          exact hk r' _ w' ((hf.mono h3.le).put (operOk_dst hok) h1) (put_defers _ _ _) h2 h3

theorem adefer_sound {P : Program} {lo : Nat} {r : Mp} {n : Nat} {H : Hp} {w : World} {t : Fr} {a : Act} (hf : FRel r n t a) {ops : Array Oper} (ho : regOk n ops = true) {i : Nat} {d : ADef} (h : adefer ops t i = some d) :
    ∃ o d', ops[i]? = some o ∧ o.guard = none ∧ (∀ cs, o.op ≠ .call cs) ∧ (execOp a.eval o).run P w = .ok (.defer d') w ∧ DRel1 lo r H w d d' ∧ ∀ b, d'.target ≠ .collected b := by
  unfold adefer at h
  split at h
  · rename_i dst f xs ats ty pos aft hi
    have hok := regOk_spec ho hi
    simp only [operOk, Bool.and_eq_true, Array.all_eq_true'] at hok
    have hfv := ev_rel hf (hok.1 f (by simp [Op.operands, Call.operands]))
    split at h
    · rename_i g first captured hfe
      rw [hfe] at hfv
      split at h
      · rename_i hx
        cases h
        have hform : ∃ f' c', a.eval f = .func (.func g) f' c' ∧ LRel r first.toList f'.toList ∧ LRel r captured.toList c'.toList := by
          generalize a.eval f = q at hfv
          cases hfv with
          | plain _ hp => simp [plain, flat, flat0] at hp
          | func _ h1 h2 h3 h4 => exact ⟨_, _, rfl, ⟨by simpa using h1, fun i a b => by simpa using h3 i (by simpa using a) (by simpa using b)⟩, ⟨by simpa using h2, fun i a b => by simpa using h4 i (by simpa using a) (by simpa using b)⟩⟩
        obtain ⟨f', c', e1, e2, e3⟩ := hform
        refine ⟨_, { target := .fn (.func g) c', args := f' ++ xs.map a.eval }, hi, rfl, fun cs h => (by cases h), ?_, .fn ?_, fun b h => (by cases h)⟩
        · simp [execOp, resolve, e1, Deferred.ofValue]
        · have : xs = #[] := by simpa using hx
          subst this
          simpa using e2.append e3
      · cases h
    · cases h
  · cases h

theorem arun_sound {P : Program} {lo : Nat} {call : CallF} (hc : CallOk P call) {n : Nat} {ops : Array Oper} (ho : regOk n ops = true) {ro : Option Nat} {Q : Exit → Act → World → Prop} {ds' : List ADef} {t' : Fr} {H' : Hp} : ∀ (l : List Nat) {r : Mp} {H : Hp} {w : World} (hs : Sim r H w) {t : Fr} {a : Act} (hf : FRel r n t a)
    {ds : List ADef} (hd : DRel lo r H w ds a.defers),
    arun P call ro.isNone ops l ds t H = some (ds', t', H') → (∀ r' a' w', FRel r' n t' a' → DRel lo r' H' w' ds' a'.defers → (ro ≠ none → a'.defers = a.defers) → Sim r' H' w' → Step r H w r' H' w' → Q .normal a' w') → wpOpsIn (Fw ro) 0 P ops Q l a w := by
  intro l
  induction l with
  | nil =>
    intro r H w hs t a hf ds hd h hq
    simp only [arun, Option.some.injEq, Prod.mk.injEq] at h
    obtain ⟨rfl, rfl, rfl⟩ := h
    exact hq r a w hf hd (fun _ => rfl) hs (Step.refl _ _ _)
  | cons i l ih =>
    intro r H w hs t a hf ds hd h hq
    simp only [arun] at h
    split at h
    · split at h
      · rename_i htop
        have hro : ro = none := by simpa using htop
        subst hro
        cases h1 : adefer ops t i with
        | none => simp [h1] at h
        | some d =>
          simp only [h1] at h
          obtain ⟨o, d', ho', hg, hcall, hrun, hd1, hnc⟩ := adefer_sound (P := P) (lo := lo) (H := H) (w := w) hf ho h1
          have hok := regOk_spec ho ho'
          rw [wpOpsIn_cons]
          unfold wpOpIn
          simp only [ho']
          have hw : Region.wanted o (yielded ops a.tmps) = true := by simp [Region.wanted, hg]
          simp only [hw, if_true]
          refine ⟨fun _ _ => trivial, ?_⟩
          show o.uponIn (Fw none) 0 P a _ _ ((execOp a.eval o).run P w)
          rw [hrun]
          show wpOpsIn (Fw none) 0 P ops Q l _ w
          have hgs : gslot ops i = o.dst := by simp [gslot, ho']
          rw [hgs] at h
          refine ih (ds := d :: ds) hs (t := aput t o.dst undef) (FRel.put (a := { a with defers := d' :: a.defers }) ⟨hf.size, hf.rel⟩ (operOk_dst hok) (.plain _ plain_undef)) ?_ h (fun r' a' w' k1 k2 _ k3 k4 => hq r' a' w' k1 k2 (fun h => absurd rfl h) k3 k4)
          rw [put_defers]
          exact .cons hd1 hd (fun b hb => absurd hb (hnc b))
      · cases h
    · cases h1 : aone P call ops t H i with
      | none => simp [h1] at h
      | some q =>
        obtain ⟨t1, H1⟩ := q
        simp only [h1] at h
        rw [wpOpsIn_cons]
        refine aone_sound hc hs hf ho h1 fun r1 a1 w1 hf1 hd1 hs1 hst => ?_
        exact ih hs1 hf1 (by rw [hd1]; exact hd.step hs hst) h fun r2 a2 w2 hf2 hd2 he hs2 hst2 => hq r2 a2 w2 hf2 hd2 (fun h => (he h).trans hd1) hs2 (hst.trans hs hst2)

end Am
end Go.Proofs.YtbpabpnpoidpcaaGreatDoor
