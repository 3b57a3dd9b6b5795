/- Code with its types' facts laid in: what it comes to (a predicate transformer), and that the abstract machine does the same. No conditions. -/
import Derived.Test.YtbpabpnpoidpcaaGreatDoorPc2
set_option linter.unusedVariables false
set_option linter.unusedSimpArgs false
namespace Go.Proofs.YtbpabpnpoidpcaaGreatDoor
namespace Am
open Go Go.RowKit

structure POper where
  dst : Option Tmp
  op : POp
  g : Option (Option Tmp × Bool)

inductive PCode where
  | skip
  | reg (l : List POper)
  | draw (l : List (POper × List POper))
  | seq (a b : PCode)
  | cond (c : Operand) (a b : PCode)
  | block (id : Nat) (x : PCode)
  | loop (x : PCode)
  | exit (id : Nat)
  | ret
  | rangeF (g : Operand) (ps : Array Tmp) (asg body : Code) (pasg pbody : PCode)

/-! ### How code is laid -/
def prepO (P : Program) (ops : Array Oper) (o : Oper) : Option POper := match rop P o.op with
  | some p => some ⟨o.dst, p, o.guard.map fun q => (gslot ops q.1, q.2)⟩
  | none => none
def isDeferP : POp → Bool
  | .defer _ => true
  | _ => false
def prepL (P : Program) (ops : Array Oper) : List Oper → Option (List POper)
  | [] => some []
  | o :: l => match prepO P ops o, prepL P ops l with
    | some p, some q => some (p :: q)
    | _, _ => none
def pick (l : List POper) : List Nat → Option (List POper)
  | [] => some []
  | j :: js => match l[j]?, pick l js with
    | some p, some q => some (p :: q)
    | _, _ => none
def prepD (l : List POper) : List PE → Option (List (POper × List POper))
  | [] => some []
  | e :: c => match l[e.i]?, pick l e.js, prepD l c with
    | some p, some js, some q => if isDeferP p.op then none else some ((p, js) :: q)
    | _, _, _ => none
def prepC (P : Program) (pl : Plan) : Code → Option PCode
  | .skip | .label _ => some .skip
  | .region id ops d => match prepL P ops ops.toList with
    | none => none
    | some l => if d = true then (match prepD l (pl id) with
        | some q => some (.draw q)
        | none => none)
      else some (.reg l)
  | .seq a b => match prepC P pl a, prepC P pl b with
    | some x, some y => some (.seq x y)
    | _, _ => none
  | .cond c a b => match prepC P pl a, prepC P pl b with
    | some x, some y => some (.cond c x y)
    | _, _ => none
  | .block id a => match prepC P pl a with
    | some x => some (.block id x)
    | none => none
  | .loop a => match prepC P pl a with
    | some x => some (.loop x)
    | none => none
  | .exit id => some (.exit id)
  | .ret => some .ret
  | .rangeFunc g ps asg body => match prepC P pl asg, prepC P pl body with
    | some x, some y => some (.rangeF g ps asg body x y)
    | _, _ => none
  | _ => none

/-! ### What it comes to -/
def bindP (o : Option (Value × Hp)) (f : Value → Hp → Prop) : Prop := match o with
  | some (v, H) => f v H
  | none => False
@[congr] theorem bindP_congr {o o' : Option (Value × Hp)} {f : Value → Hp → Prop} (h : o = o') : bindP o f = bindP o' f := by rw [h]
theorem bindP_some {v : Value} {H : Hp} {f : Value → Hp → Prop} : bindP (some (v, H)) f = f v H := id rfl
theorem bindP_map {o : Option Value} {H : Hp} {v : Value} {f : Value → Hp → Prop} : bindP ((some v).map fun v => (v, H)) f = f v H := id rfl
def callP (M : Mc) (g : Fn) (args : List Value) (H : Hp) (f : Value → Hp → Prop) : Prop := ∃ v H', To M g args H v H' ∧ f v H'
@[congr] theorem callP_congr {M : Mc} {g : Fn} {args args' : List Value} {H : Hp} {f : Value → Hp → Prop} (h : args = args') : callP M g args H f = callP M g args' H f := by rw [h]
theorem callP.mono {M : Mc} {g : Fn} {args : List Value} {H : Hp} {f f' : Value → Hp → Prop} (h : callP M g args H f) (k : ∀ v H', f v H' → f' v H') : callP M g args H f' := by
  obtain ⟨v, H', h1, h2⟩ := h
  exact ⟨v, H', h1, k _ _ h2⟩
def bcond (v : Value) (p q : Prop) : Prop := match v with
  | .bool true => p
  | .bool false => q
  | _ => False
@[congr] theorem bcond_congr {v v' : Value} {p q : Prop} (h : v = v') : bcond v p q = bcond v' p q := by rw [h]
theorem bcond_true {p q : Prop} : bcond (.bool true) p q = p := id rfl
theorem bcond_false {p q : Prop} : bcond (.bool false) p q = q := id rfl
theorem bcond_of {b : Bool} {p q : Prop} (h1 : b = true → p) (h2 : b = false → q) : bcond (.bool b) p q := by cases b; exact h2 rfl; exact h1 rfl
theorem bcond_dec {c : Prop} [Decidable c] {p q : Prop} (h1 : c → p) (h2 : ¬ c → q) : bcond (.bool (decide c)) p q := bcond_of (fun h => h1 (of_decide_eq_true h)) (fun h => h2 (of_decide_eq_false h))
/-- The function that a value is. -/
def fnv (v : Value) (f : Fn → List Value → List Value → Prop) : Prop := match v with
  | .func g a b => f g a.toList b.toList
  | _ => False
@[congr] theorem fnv_congr {v v' : Value} {f : Fn → List Value → List Value → Prop} (h : v = v') : fnv v f = fnv v' f := by rw [h]
theorem fnv_func {g : Fn} {a b : Array Value} {f : Fn → List Value → List Value → Prop} : fnv (.func g a b) f = f g a.toList b.toList := id rfl
def ifv (v : Value) (f : TypeId → Value → Prop) : Prop := match v with
  | .iface T u => f T u
  | _ => False
@[congr] theorem ifv_congr {v v' : Value} {f : TypeId → Value → Prop} (h : v = v') : ifv v f = ifv v' f := by rw [h]
theorem ifv_iface {T : TypeId} {u : Value} {f : TypeId → Value → Prop} : ifv (.iface T u) f = f T u := id rfl
def mthP (o : Option FuncId) (f : FuncId → Prop) : Prop := match o with
  | some g => f g
  | none => False
@[congr] theorem mthP_congr {o o' : Option FuncId} {f : FuncId → Prop} (h : o = o') : mthP o f = mthP o' f := by rw [h]
theorem mthP_some {g : FuncId} {f : FuncId → Prop} : mthP (some g) f = f g := id rfl
/-- Whether an operation is done: not, where what it hangs on was not. -/
def guardP (v : Value) (want : Bool) (p q : Prop) : Prop := match v with
  | .bool b => if b = want then p else q
  | .tuple vs => vs.isEmpty = true ∧ q
  | _ => False
@[congr] theorem guardP_congr {v v' : Value} {want : Bool} {p q : Prop} (h : v = v') : guardP v want p q = guardP v' want p q := by rw [h]
theorem guardP_tt {p q : Prop} : guardP (.bool true) true p q = p := id rfl
theorem guardP_ff {p q : Prop} : guardP (.bool false) false p q = p := id rfl
theorem guardP_tf {p q : Prop} : guardP (.bool true) false p q = q := id rfl
theorem guardP_ft {p q : Prop} : guardP (.bool false) true p q = q := id rfl
theorem guardP_undef {want : Bool} {p q : Prop} : guardP undef want p q = q := by simp [guardP, undef]
theorem guardP_of {b want : Bool} {p q : Prop} (h1 : b = want → p) (h2 : b ≠ want → q) : guardP (.bool b) want p q := by
  show if b = want then p else q
  split
  · exact h1 (by assumption)
  · exact h2 (by assumption)

/-- An operation, whatever it hangs on. -/
def opQ (M : Mc) (top : Bool) (op : POp) (ds : List ADef) (t : Fr) (H : Hp) (f : List ADef → Value → Hp → Prop) : Prop := match op with
  | .call g args => callP M (.func g) (args.map (ev t)) H (f ds)
  | .callv x args => fnv (ev t x) fun g a b => callP M g (a ++ args.map (ev t) ++ b) H (f ds)
  | .invoke r name args => ifv (ev t r) fun T u => mthP (mth M.P T name) fun g => callP M (.func g) (u :: args.map (ev t)) H (f ds)
  | .defer x => top = true ∧ ∃ g a b, ev t x = .func (.func g) a b ∧ f (.fn g (a.toList ++ b.toList) :: ds) undef H
  | op => bindP (pop M.P t H op) (f ds)
def gslotP (t : Fr) (s : Option Tmp) (want : Bool) (p q : Prop) : Prop := match s with
  | none => q
  | some d => guardP (t d) want p q
def opP (M : Mc) (top : Bool) (o : POper) (ds : List ADef) (t : Fr) (H : Hp) (L : List ADef → Fr → Hp → Prop) : Prop := match o.g with
  | none => opQ M top o.op ds t H fun ds v H => L ds (aput t o.dst v) H
  | some (s, want) => isDeferP o.op = false ∧ gslotP t s want (opQ M top o.op ds t H fun ds v H => L ds (aput t o.dst v) H) (L ds (aput t o.dst undef) H)

def regP (M : Mc) (top : Bool) : List POper → List ADef → Fr → Hp → (List ADef → Fr → Hp → Prop) → Prop
  | [], ds, t, H, L => L ds t H
  | o :: l, ds, t, H, L => opP M top o ds t H fun ds t H => regP M top l ds t H L

def alP (P : Program) : POp → Option (List Operand)
  | .alloc _ _ => some []
  | .box _ x => some [x]
  | .buildSlice _ _ ps => some (ps.map (·.2))
  | .makeSlice _ _ _ l c => some [l, c]
  | .cbytes x => some [x]
  | .raw o => if cl P o = .alloc then some o.operands.toList else none
  | _ => none
/-- A reading comes to the same still. -/
def lateP (P : Program) (t : Fr) (H : Hp) (o : POper) : Prop :=
  let p := match alP P o.op with
    | some xs => ∀ x ∈ xs, flat (ev t x) = true
    | none => match o.dst with
      | some d => pop P t H o.op = some (t d, H)
      | none => False
  match o.g with
  | none => p
  | some (s, want) => gslotP t s want p True
def drawP (M : Mc) : List (POper × List POper) → List ADef → Fr → Hp → (Fr → Hp → Prop) → Prop
  | [], ds, t, H, L => L t H
  | o :: l, ds, t, H, L => opP M false o.1 ds t H fun _ t H => (∀ j ∈ o.2, lateP M.P t H j) ∧ drawP M l ds t H L

def wp (M : Mc) (f : FuncId) (nt : Nat) (ro : Option Nat) : PCode → List ADef → Fr → Hp → (AExit → List ADef → Fr → Hp → Prop) → Prop
  | .skip, ds, t, H, K => K .normal ds t H
  | .reg l, ds, t, H, K => regP M ro.isNone l ds t H (K .normal)
  | .draw l, ds, t, H, K => drawP M l ds t H (K .normal ds)
  | .seq a b, ds, t, H, K => wp M f nt ro a ds t H (thn (fun ds t H => wp M f nt ro b ds t H K) K)
  | .cond c a b, ds, t, H, K => bcond (ev t c) (wp M f nt ro a ds t H K) (wp M f nt ro b ds t H K)
  | .block id x, ds, t, H, K => wp M f nt ro x ds t H (inBlk id K)
  | .loop x, ds, t, H, K => ∃ (I : Nat → List ADef → Fr → Hp → Prop), (∃ j, I j ds t H) ∧ ∀ j ds t H, I j ds t H → wp M f nt ro x ds t H (thn (fun ds' t' H' => ∃ j', j' < j ∧ I j' ds' t' H') K)
  | .exit i, ds, t, H, K => K (.exit i) ds t H
  | .ret, ds, t, H, K => K .ret ds t H
  | .rangeF g ps asg body _ _, ds, t, H, K => ∃ h a b v H2 e ds' t' H', ev t g = .func (.func h) a b ∧ roOk ro H = true ∧
      To M (.func h) (a.toList ++ [.func (.yield H.n) #[] #[]] ++ b.toList) (H.alloc (.loop ⟨f, nt, t, ps, asg, body, .ready, none⟩)) v H2 ∧ aranged ro H.n ds t (some (v, H2)) = some (e, ds', t', H') ∧ K e ds' t' H'

/-! ### That the abstract machine does the same -/
theorem opQ_sound {M : Mc} {top : Bool} {o : Oper} {p : POp} (hp : rop M.P o.op = some p) (hd : isDeferP p = false) {ds : List ADef} {t : Fr} {H : Hp} {f : List ADef → Value → Hp → Prop} (h : opQ M top p ds t H f) :
    ∃ v H', f ds v H' ∧ ∃ n, ∀ m, n ≤ m → astep M.P (M.call m) t H o = some (v, H') := by
  have call : ∀ {g : Fn} {args : List Value}, callP M g args H (f ds) → (∀ m, pstep M.P (M.call m) t H p = M.call m g args H) → ∃ v H', f ds v H' ∧ ∃ n, ∀ m, n ≤ m → astep M.P (M.call m) t H o = some (v, H') := by
    rintro g args ⟨v, H', ⟨n, hn⟩, h2⟩ he
    exact ⟨v, H', h2, n, fun m hm => rop_sound hp (by rw [he, hn m hm])⟩
  have prim : ∀ {q : POp}, q = p → bindP (pop M.P t H p) (f ds) → (∀ m, pstep M.P (M.call m) t H p = pop M.P t H p) → ∃ v H', f ds v H' ∧ ∃ n, ∀ m, n ≤ m → astep M.P (M.call m) t H o = some (v, H') := by
    intro q _ h he
    cases hq : pop M.P t H p with
    | none => rw [hq] at h; exact h.elim
    | some r =>
      obtain ⟨v, H'⟩ := r
      rw [hq] at h
      exact ⟨v, H', h, 0, fun m _ => rop_sound hp (by rw [he, hq])⟩
  cases p with
  | call g args => exact call h fun m => rfl
  | callv x args =>
    simp only [opQ] at h
    cases hx : ev t x <;> rw [hx] at h <;> first
      | exact h.elim
      | exact call h fun m => by simp only [pstep, hx]
  | invoke r name args =>
    simp only [opQ] at h
    cases hx : ev t r <;> rw [hx] at h <;> first
      | exact h.elim
      | skip
    rename_i T u
    simp only [ifv_iface] at h
    cases hm : mth M.P T name with
    | none => rw [hm] at h; exact h.elim
    | some g => rw [hm] at h; exact call h fun m => by simp only [pstep, hx, hm]
  | defer x => cases hd
  | _ => exact prim rfl h fun m => rfl

theorem gslotP_sound {ops : Array Oper} {o : Oper} {t : Fr} {g : Nat} {want : Bool} (hg : o.guard = some (g, want)) {p q : Prop} (h : gslotP t (gslot ops g) want p q) : (awanted ops t o = some true ∧ p) ∨ (awanted ops t o = some false ∧ q) := by
  unfold awanted
  simp only [hg]
  unfold gslotP at h
  cases hs : gslot ops g with
  | none => rw [hs] at h; exact .inr ⟨rfl, h⟩
  | some d =>
    rw [hs] at h
    simp only [] at h ⊢
    cases hv : t d <;> rw [hv] at h <;> first
      | exact h.elim
      | skip
    · rename_i b
      simp only [guardP] at h
      split at h
      · rename_i he; subst he; exact .inl ⟨by simp, h⟩
      · rename_i he; exact .inr ⟨by simp [he], h⟩
    · rename_i vs
      exact .inr ⟨by simp [isUndef, h.1], h.2⟩

theorem opP_sound {M : Mc} {top : Bool} {ops : Array Oper} {i : Nat} {o : Oper} {p : POper} (ho : ops[i]? = some o) (hp : prepO M.P ops o = some p) (hd : isDeferP p.op = false) {ds : List ADef} {t : Fr} {H : Hp} {L : List ADef → Fr → Hp → Prop} (h : opP M top p ds t H L) :
    ∃ t' H', L ds t' H' ∧ ∃ n, ∀ m, n ≤ m → aone M.P (M.call m) ops t H i = some (t', H') := by
  unfold prepO at hp
  cases hr : rop M.P o.op with
  | none => simp [hr] at hp
  | some q =>
    simp only [hr, Option.some.injEq] at hp
    subst hp
    unfold opP at h
    cases hg : o.guard with
    | none =>
      simp only [hg, Option.map_none] at h
      obtain ⟨v, H', h1, n, h2⟩ := opQ_sound hr hd h
      refine ⟨_, H', h1, n, fun m hm => ?_⟩
      have hw : awanted ops t o = some true := by simp [awanted, hg]
      simp only [aone, ho, hw, h2 m hm]
    | some gw =>
      obtain ⟨g, want⟩ := gw
      simp only [hg, Option.map_some] at h
      rcases gslotP_sound hg h.2 with ⟨hw, h⟩ | ⟨hw, h⟩
      · obtain ⟨v, H', h1, n, h2⟩ := opQ_sound hr hd h
        exact ⟨_, H', h1, n, fun m hm => by simp only [aone, ho, hw, h2 m hm]⟩
      · exact ⟨_, H, h, 0, fun m hm => by simp only [aone, ho, hw]⟩

theorem isDefer_eq {P : Program} {ops : Array Oper} {i : Nat} {o : Oper} {p : POper} (ho : ops[i]? = some o) (hp : prepO P ops o = some p) : isDefer ops i = isDeferP p.op := by
  unfold prepO at hp
  cases hr : rop P o.op with
  | none => simp [hr] at hp
  | some q =>
    simp only [hr, Option.some.injEq] at hp
    subst hp
    unfold isDefer
    rw [ho]
    obtain ⟨dst, op, ty, pos, aft, g⟩ := o
    cases op <;> simp only [rop] at hr <;> first
      | (simp only [Option.some.injEq] at hr; subst hr; rfl)
      | skip
    all_goals (repeat' split at hr)
    all_goals first
      | (rename_i he _ _ _ _; cases he; done)
      | (cases hr; rfl)
      | (cases hr; done)

theorem prepL_get {P : Program} {ops : Array Oper} : ∀ {l : List Oper} {q : List POper}, prepL P ops l = some q → q.length = l.length ∧ ∀ (i : Nat) (p : POper), q[i]? = some p → ∃ o, l[i]? = some o ∧ prepO P ops o = some p
  | [], q, h => by simp only [prepL, Option.some.injEq] at h; subst h; simp
  | o :: l, q, h => by
    simp only [prepL] at h
    cases h1 : prepO P ops o with
    | none => simp [h1] at h
    | some p =>
      cases h2 : prepL P ops l with
      | none => simp [h1, h2] at h
      | some q' =>
        simp only [h1, h2, Option.some.injEq] at h
        subst h
        obtain ⟨hl, hg⟩ := prepL_get h2
        refine ⟨by simp [hl], fun i p' hi => ?_⟩
        cases i with
        | zero => simp only [List.getElem?_cons_zero, Option.some.injEq] at hi; subst hi; exact ⟨o, rfl, h1⟩
        | succ i => exact hg i p' (by simpa using hi)

theorem rop_defer {P : Program} {op : Op} {x : Operand} (h : rop P op = some (.defer x)) : ∃ c, op = .defer c ∧ c.callee = .value x ∧ c.args.isEmpty = true := by
  cases op with
  | defer c =>
    simp only [rop] at h
    split at h
    · rename_i f hf
      split at h
      · rename_i he
        cases h
        exact ⟨c, rfl, hf, he⟩
      · cases h
    · cases h
  | makeFunc fn f c => cases fn <;> simp [rop] at h
  | _ =>
    simp only [rop] at h
    (repeat' split at h) <;> cases h

theorem regP_sound {M : Mc} {top : Bool} {ops : Array Oper} {q : List POper} (hq : prepL M.P ops ops.toList = some q) {L : List ADef → Fr → Hp → Prop} : ∀ (l : List POper) (k : Nat), q.drop k = l → ∀ (ds : List ADef) (t : Fr) (H : Hp), regP M top l ds t H L → Wr' M top ops ((List.range ops.size).drop k) ds t H L
  | [], k, hk, ds, t, H, h => by
    have := congrArg List.length hk
    simp [(prepL_get hq).1] at this
    rw [List.drop_eq_nil_of_le (by simp; omega)]
    exact Wr'.nil h
  | p :: l, k, hk, ds, t, H, h => by
    have hlt : k < q.length := by
      have := congrArg List.length hk
      simp at this
      omega
    have hp : q[k]? = some p := by
      have := congrArg (·[0]?) hk
      simpa using this
    obtain ⟨o, ho, hpo⟩ := (prepL_get hq).2 k p hp
    have ho' : ops[k]? = some o := by simpa using ho
    have hsz : k < ops.size := by have := (prepL_get hq).1; simp at this; omega
    have hr : (List.range ops.size).drop k = k :: (List.range ops.size).drop (k + 1) := by
      rw [List.drop_eq_getElem_cons (by simpa using hsz)]; simp
    rw [hr]
    have hk' : q.drop (k + 1) = l := by rw [← List.drop_drop, hk]; rfl
    have hdef := isDefer_eq ho' hpo
    cases hd : isDeferP p.op with
    | false =>
      simp only [regP] at h
      obtain ⟨t', H', h1, n, h2⟩ := opP_sound ho' hpo hd h
      exact Wr'.step (hdef.trans hd) ⟨n, h2⟩ (regP_sound hq l (k + 1) hk' ds t' H' h1)
    | true =>
      unfold prepO at hpo
      cases hr : rop M.P o.op with
      | none => simp [hr] at hpo
      | some pp =>
        simp only [hr, Option.some.injEq] at hpo
        subst hpo
        simp only [regP, opP] at h
        cases hg : o.guard with
        | some gw => simp only [hg, Option.map_some] at h; rw [hd] at h; cases h.1
        | none =>
          simp only [hg, Option.map_none] at h
          cases pp <;> simp only [isDeferP] at hd <;> try (cases hd; done)
          rename_i x
          simp only [opQ] at h
          obtain ⟨htop, g, a, b, hx, h⟩ := h
          subst htop
          obtain ⟨ds2, t2, H2, hk2, n, hn⟩ := regP_sound hq l (k + 1) hk' _ _ _ h
          refine ⟨ds2, t2, H2, hk2, n, fun m hm => ?_⟩
          have hdd : isDefer ops k = true := hdef.trans rfl
          have hgs : gslot ops k = o.dst := by simp [gslot, ho']
          have had : adefer ops t k = some (.fn g (a.toList ++ b.toList)) := by
            unfold adefer
            rw [ho']
            obtain ⟨dst, op, ty, pos, aft, gg⟩ := o
            simp only [] at hg
            subst hg
            obtain ⟨c, rfl, hcal, hemp⟩ := rop_defer hr
            obtain ⟨cal, args, ats⟩ := c
            have hcal' : cal = .value x := hcal
            have hemp' : args.isEmpty = true := hemp
            subst hcal'
            simp only [hx, hemp', if_true]
          simp only [arun, hdd, if_true, had, hgs]
          exact hn m hm

theorem int_noBytes {P : Program} {d : TypeId} {k : IntKind} (h : intTo P d = some k) : isBytes P d = false := by
  unfold isBytes; rw [intTo_spec h]

theorem alP_cl {P : Program} {op : Op} {p : POp} (h : rop P op = some p) : (∀ xs, alP P p = some xs → cl P op = .alloc ∧ ∀ x ∈ op.operands, x ∈ xs) ∧ (alP P p = none → isDeferP p = false → cl P op = .alloc → False) := by
  cases op <;> simp only [rop] at h <;> (repeat' split at h) <;> (try (cases h; done)) <;> (try simp only [Option.some.injEq] at h) <;> (try subst h) <;> (try cases h) <;> simp_all [alP, cl, Op.operands, isDeferP]
  · exact int_noBytes (by assumption)
  · exact str_noBytes (by assumption)

end Am
end Go.Proofs.YtbpabpnpoidpcaaGreatDoor
