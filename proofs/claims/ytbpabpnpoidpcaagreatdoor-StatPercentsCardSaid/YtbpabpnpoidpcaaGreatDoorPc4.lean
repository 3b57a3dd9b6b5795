/- Code with its types' facts laid in: that the abstract machine does the same (drawn regions, all code). No conditions. -/
import Derived.Test.YtbpabpnpoidpcaaGreatDoorPc3
set_option linter.unusedVariables false
set_option linter.unusedSimpArgs false
namespace Go.Proofs.YtbpabpnpoidpcaaGreatDoor
namespace Am
open Go Go.RowKit

theorem pop_step {P : Program} {call : CallF} {t : Fr} {H : Hp} {p : POp} {r : Value × Hp} (h : pop P t H p = some r) : pstep P call t H p = some r := by
  cases p <;> first | exact h | cases h

theorem lateP_sound {P : Program} {ops : Array Oper} {j : Nat} {o : Oper} {p : POper} (ho : ops[j]? = some o) (hp : prepO P ops o = some p) {t : Fr} {H : Hp} (h : lateP P t H p) (call : CallF) : late P call ops t H j := by
  unfold prepO at hp
  cases hr : rop P o.op with
  | none => simp [hr] at hp
  | some q =>
    simp only [hr, Option.some.injEq] at hp
    subst hp
    have core : ∀ (hw : awanted ops t o = some true), (match alP P q with
        | some xs => ∀ x ∈ xs, flat (ev t x) = true
        | none => match o.dst with
          | some d => pop P t H q = some (t d, H)
          | none => False) → late P call ops t H j := by
      intro hw h
      unfold late
      simp only [ho, hw]
      have hal := alP_cl hr
      cases ha : alP P q with
      | some xs =>
        rw [ha] at h
        obtain ⟨h1, h2⟩ := hal.1 xs ha
        rw [if_pos h1]
        exact fun x hx => h x (h2 x hx)
      | none =>
        rw [ha] at h
        cases hd : o.dst with
        | none => rw [hd] at h; exact h.elim
        | some d =>
          rw [hd] at h
          have hnd : isDeferP q = false := by cases q <;> first | rfl | cases h
          rw [if_neg (fun e => hal.2 ha hnd e)]
          exact ⟨d, rfl, rop_sound hr (pop_step h)⟩
    unfold lateP at h
    cases hg : o.guard with
    | none =>
      simp only [hg, Option.map_none] at h
      exact core (by simp [awanted, hg]) h
    | some gw =>
      obtain ⟨g, want⟩ := gw
      simp only [hg, Option.map_some] at h
      rcases gslotP_sound hg h with ⟨hw, h⟩ | ⟨hw, h⟩
      · exact core hw h
      · unfold late; simp only [ho, hw]

theorem pick_get {l : List POper} : ∀ {js : List Nat} {q : List POper}, pick l js = some q → ∀ j ∈ js, ∃ p ∈ q, l[j]? = some p
  | [], q, h, j, hj => by cases hj
  | k :: js, q, h, j, hj => by
    simp only [pick] at h
    cases h1 : l[k]? with
    | none => simp [h1] at h
    | some p =>
      cases h2 : pick l js with
      | none => simp [h1, h2] at h
      | some q' =>
        simp only [h1, h2, Option.some.injEq] at h
        subst h
        rcases List.mem_cons.1 hj with rfl | hj
        · exact ⟨p, by simp, h1⟩
        · obtain ⟨p', hp', e⟩ := pick_get h2 j hj
          exact ⟨p', by simp [hp'], e⟩

theorem drawP_sound {M : Mc} {ops : Array Oper} {q : List POper} (hq : prepL M.P ops ops.toList = some q) {L : Fr → Hp → Prop} {ds : List ADef} : ∀ (c : List PE) (l : List (POper × List POper)), prepD q c = some l → ∀ (t : Fr) (H : Hp), drawP M l ds t H L → Wd M ops c t H L
  | [], l, hl, t, H, h => by
    simp only [prepD, Option.some.injEq] at hl
    subst hl
    exact Wd.nil h
  | e :: c, l, hl, t, H, h => by
    simp only [prepD] at hl
    cases h1 : q[e.i]? with
    | none => simp [h1] at hl
    | some p =>
      cases h2 : pick q e.js with
      | none => simp [h1, h2] at hl
      | some js =>
        cases h3 : prepD q c with
        | none => simp [h1, h2, h3] at hl
        | some l' =>
          simp only [h1, h2, h3] at hl
          split at hl
          · cases hl
          · rename_i hnd
            cases hl
            simp only [drawP] at h
            obtain ⟨o, ho, hpo⟩ := (prepL_get hq).2 _ p h1
            have ho' : ops[e.i]? = some o := by simpa using ho
            obtain ⟨t', H', ⟨hlate, h4⟩, n, h5⟩ := opP_sound ho' hpo (by simpa using hnd) h
            refine Wd.step ⟨n, h5⟩ (fun j hj call => ?_) (drawP_sound hq c l' h3 t' H' h4)
            obtain ⟨pj, hpj, e1⟩ := pick_get h2 j hj
            obtain ⟨oj, hoj, hpoj⟩ := (prepL_get hq).2 _ pj e1
            exact lateP_sound (by simpa using hoj) hpoj (hlate pj hpj) call

theorem wp_mono {M : Mc} {f : FuncId} {nt : Nat} {ro : Option Nat} {c : Code} {ds : List ADef} {t : Fr} {H : Hp} {K K' : AExit → List ADef → Fr → Hp → Prop} (h : Wc M f nt ro c ds t H K) (hk : ∀ e ds t H, K e ds t H → K' e ds t H) : Wc M f nt ro c ds t H K' := h.mono hk

theorem Wc.loopJ {M : Mc} {f : FuncId} {nt : Nat} {ro : Option Nat} {x : Code} {K : AExit → List ADef → Fr → Hp → Prop} (I : Nat → List ADef → Fr → Hp → Prop) (j : Nat) {ds : List ADef} {t : Fr} {H : Hp} (h0 : I j ds t H)
    (hr : ∀ j ds t H, I j ds t H → Wc M f nt ro x ds t H (thn (fun ds' t' H' => ∃ j', j' < j ∧ I j' ds' t' H') K)) : Wc M f nt ro (.loop x) ds t H K := by
  have key : ∀ q ds t H, I q ds t H → ∃ e ds' t' H', K e ds' t' H' ∧ ∃ n, ∀ m k j, n ≤ m → n ≤ k → n ≤ j → aloop (aexec M.P (M.call m) (M.pl f) f nt ro k x) j ds t H = some (e, ds', t', H') := by
    intro q
    induction q using Nat.strongRecOn with
    | _ q ih =>
      intro ds t H hI
      obtain ⟨e, ds1, t1, H1, hk, n1, h1⟩ := hr q ds t H hI
      cases e with
      | normal =>
        obtain ⟨q', hlt, hI1⟩ := hk
        obtain ⟨e2, ds2, t2, H2, hk2, n2, h2⟩ := ih _ hlt ds1 t1 H1 hI1
        refine ⟨e2, ds2, t2, H2, hk2, max n1 (n2 + 1), fun m k j hm hk hj => ?_⟩
        obtain ⟨j, rfl⟩ : ∃ j', j = j' + 1 := ⟨j - 1, by omega⟩
        simp only [aloop, h1 m k (by omega) (by omega)]
        exact h2 m k j (by omega) (by omega) (by omega)
      | exit i =>
        refine ⟨_, _, _, _, hk, n1 + 1, fun m k j hm hk hj => ?_⟩
        obtain ⟨j, rfl⟩ : ∃ j', j = j' + 1 := ⟨j - 1, by omega⟩
        simp only [aloop, h1 m k (by omega) (by omega)]
      | ret =>
        refine ⟨_, _, _, _, hk, n1 + 1, fun m k j hm hk hj => ?_⟩
        obtain ⟨j, rfl⟩ : ∃ j', j = j' + 1 := ⟨j - 1, by omega⟩
        simp only [aloop, h1 m k (by omega) (by omega)]
  obtain ⟨e, ds', t', H', hk, n, hn⟩ := key _ ds t H h0
  exact ⟨e, ds', t', H', hk, n, fun m k hm hk => hn m k k hm hk hk⟩

theorem wp_sound {M : Mc} {f : FuncId} {nt : Nat} {ro : Option Nat} : ∀ (c : Code) {pc : PCode}, prepC M.P (M.pl f) c = some pc → ∀ {ds : List ADef} {t : Fr} {H : Hp} {K : AExit → List ADef → Fr → Hp → Prop}, wp M f nt ro pc ds t H K → Wc M f nt ro c ds t H K := by
  intro c
  induction c with
  | skip => intro pc hp ds t H K h; simp only [prepC, Option.some.injEq] at hp; subst hp; exact Wc.skip h
  | label l => intro pc hp ds t H K h; simp only [prepC, Option.some.injEq] at hp; subst hp; exact ⟨_, _, _, _, h, 0, fun m k _ _ => rfl⟩
  | exit id => intro pc hp ds t H K h; simp only [prepC, Option.some.injEq] at hp; subst hp; exact Wc.exit h
  | ret => intro pc hp ds t H K h; simp only [prepC, Option.some.injEq] at hp; subst hp; exact Wc.ret h
  | region id ops d =>
    intro pc hp ds t H K h
    simp only [prepC] at hp
    cases hq : prepL M.P ops ops.toList with
    | none => simp [hq] at hp
    | some q =>
      simp only [hq] at hp
      cases d with
      | true =>
        simp only [if_true] at hp
        cases hl : prepD q (M.pl f id) with
        | none => simp [hl] at hp
        | some l =>
          simp only [hl, Option.some.injEq] at hp
          subst hp
          exact Wc.draw (drawP_sound hq _ l hl t H h)
      | false =>
        simp only [Bool.false_eq_true, if_false, Option.some.injEq] at hp
        subst hp
        exact Wc.region (regP_sound hq q 0 rfl ds t H h)
  | seq a b iha ihb =>
    intro pc hp ds t H K h
    simp only [prepC] at hp
    cases h1 : prepC M.P (M.pl f) a with
    | none => simp [h1] at hp
    | some x =>
      cases h2 : prepC M.P (M.pl f) b with
      | none => simp [h1, h2] at hp
      | some y =>
        simp only [h1, h2, Option.some.injEq] at hp
        subst hp
        refine Wc.seq ((iha h1 h).mono fun e ds t H hk => ?_)
        cases e with
        | normal => exact ihb h2 hk
        | exit i => exact hk
        | ret => exact hk
  | cond c a b iha ihb =>
    intro pc hp ds t H K h
    simp only [prepC] at hp
    cases h1 : prepC M.P (M.pl f) a with
    | none => simp [h1] at hp
    | some x =>
      cases h2 : prepC M.P (M.pl f) b with
      | none => simp [h1, h2] at hp
      | some y =>
        simp only [h1, h2, Option.some.injEq] at hp
        subst hp
        simp only [wp] at h
        cases hc : ev t c <;> rw [hc] at h <;> first
          | exact h.elim
          | skip
        rename_i b
        cases b with
        | true => exact Wc.cond_true hc (iha h1 h)
        | false => exact Wc.cond_false hc (ihb h2 h)
  | block id x ih =>
    intro pc hp ds t H K h
    simp only [prepC] at hp
    cases h1 : prepC M.P (M.pl f) x with
    | none => simp [h1] at hp
    | some y => simp only [h1, Option.some.injEq] at hp; subst hp; exact Wc.block (ih h1 h)
  | loop x ih =>
    intro pc hp ds t H K h
    simp only [prepC] at hp
    cases h1 : prepC M.P (M.pl f) x with
    | none => simp [h1] at hp
    | some y =>
      simp only [h1, Option.some.injEq] at hp
      subst hp
      obtain ⟨I, ⟨j, h0⟩, hr⟩ := h
      exact Wc.loopJ I j h0 fun j ds t H hi => ih h1 (hr j ds t H hi)
  | rangeFunc g ps asg body _ _ =>
    intro pc hp ds t H K h
    simp only [prepC] at hp
    cases h1 : prepC M.P (M.pl f) asg with
    | none => simp [h1] at hp
    | some x =>
      cases h2 : prepC M.P (M.pl f) body with
      | none => simp [h1, h2] at hp
      | some y =>
        simp only [h1, h2, Option.some.injEq] at hp
        subst hp
        obtain ⟨k, a, b, v, H2, e, ds', t', H', hg, hro, ⟨n, hn⟩, har, hk⟩ := h
        refine ⟨e, ds', t', H', hk, n, fun m j hm hj => ?_⟩
        simp only [aexec, hg, hro, if_true, hn m hm]
        exact har
  | _ => intro pc hp; simp [prepC] at hp

/-! ### Code, item by item -/
inductive It where
  | op (o : POper)
  | dop (o : POper) (l : List POper)
  | code (c : PCode)
  | done (id : Nat)

def run (M : Mc) (f : FuncId) (nt : Nat) (ro : Option Nat) : Option Nat → List It → List ADef → Fr → Hp → (AExit → List ADef → Fr → Hp → Prop) → Prop
  | none, [], ds, t, H, K => K .normal ds t H
  | some i, [], ds, t, H, K => K (.exit i) ds t H
  | none, .op o :: k, ds, t, H, K => opP M ro.isNone o ds t H fun ds t H => run M f nt ro none k ds t H K
  | none, .dop o l :: k, ds, t, H, K => ds = ds ∧ opP M false o ds t H fun _ t H => (∀ j ∈ l, lateP M.P t H j) ∧ run M f nt ro none k ds t H K
  | none, .code c :: k, ds, t, H, K => wp M f nt ro c ds t H fun e ds t H => match e with
    | .normal => run M f nt ro none k ds t H K
    | .exit i => run M f nt ro (some i) k ds t H K
    | .ret => K .ret ds t H
  | none, .done _ :: k, ds, t, H, K => run M f nt ro none k ds t H K
  | some i, .done j :: k, ds, t, H, K => if i = j then run M f nt ro none k ds t H K else run M f nt ro (some i) k ds t H K
  | some i, .op _ :: k, ds, t, H, K => run M f nt ro (some i) k ds t H K
  | some i, .dop _ _ :: k, ds, t, H, K => run M f nt ro (some i) k ds t H K
  | some i, .code _ :: k, ds, t, H, K => run M f nt ro (some i) k ds t H K

section
variable {M : Mc} {f : FuncId} {nt : Nat} {ro : Option Nat} {k : List It} {ds : List ADef} {t : Fr} {H : Hp} {K : AExit → List ADef → Fr → Hp → Prop}

theorem rn_start {c : PCode} (h : run M f nt ro none [.code c] ds t H K) : wp M f nt ro c ds t H K := by
  have : (fun e ds t H => match e with
    | .normal => run M f nt ro none [] ds t H K
    | .exit i => run M f nt ro (some i) [] ds t H K
    | .ret => K .ret ds t H) = K := by
    funext e ds t H
    cases e <;> rfl
  simp only [run] at h
  have h2 := h
  rw [show (fun e ds t H => match e with
    | .normal => K .normal ds t H
    | .exit i => K (.exit i) ds t H
    | .ret => K .ret ds t H) = K from by funext e ds t H; cases e <;> rfl] at h2
  exact h2

/-- Code that is not run yet: rules wait for 'rel'. -/
def lrun (M : Mc) (f : FuncId) (nt : Nat) (ro : Option Nat) (k : List It) (ds : List ADef) (t : Fr) (H : Hp) (K : AExit → List ADef → Fr → Hp → Prop) : Prop := run M f nt ro none k ds t H K
def rel (p : Prop) : Prop := p
def land (p q : Prop) : Prop := p ∧ q
theorem rel_run : rel (lrun M f nt ro k ds t H K) = run M f nt ro none k ds t H K := id rfl
theorem rel_land {p : Prop} : rel (land p (lrun M f nt ro k ds t H K)) = (p ∧ run M f nt ro none k ds t H K) := id rfl

theorem rn_nil : run M f nt ro none [] ds t H K = K .normal ds t H := id rfl
theorem rn_xnil {i : Nat} : run M f nt ro (some i) [] ds t H K = K (.exit i) ds t H := id rfl
theorem rn_skip : run M f nt ro none (.code .skip :: k) ds t H K = run M f nt ro none k ds t H K := id rfl
theorem rn_exit {i : Nat} : run M f nt ro none (.code (.exit i) :: k) ds t H K = run M f nt ro (some i) k ds t H K := id rfl
theorem rn_ret : run M f nt ro none (.code .ret :: k) ds t H K = K .ret ds t H := id rfl
theorem rn_done {i : Nat} : run M f nt ro none (.done i :: k) ds t H K = run M f nt ro none k ds t H K := id rfl
theorem rn_xsame {i : Nat} : run M f nt ro (some i) (.done i :: k) ds t H K = run M f nt ro none k ds t H K := by simp [run]
theorem rn_xdone {i j : Nat} (h : i ≠ j) : run M f nt ro (some i) (.done j :: k) ds t H K = run M f nt ro (some i) k ds t H K := by simp [run, h]
theorem rn_xop {i : Nat} {o : POper} : run M f nt ro (some i) (.op o :: k) ds t H K = run M f nt ro (some i) k ds t H K := id rfl
theorem rn_xdop {i : Nat} {o : POper} {l : List POper} : run M f nt ro (some i) (.dop o l :: k) ds t H K = run M f nt ro (some i) k ds t H K := id rfl
theorem rn_xcode {i : Nat} {c : PCode} : run M f nt ro (some i) (.code c :: k) ds t H K = run M f nt ro (some i) k ds t H K := id rfl
theorem rn_cond {c : Operand} {a b : PCode} : run M f nt ro none (.code (.cond c a b) :: k) ds t H K = bcond (ev t c) (lrun M f nt ro (.code a :: k) ds t H K) (lrun M f nt ro (.code b :: k) ds t H K) := id rfl
theorem rn_seq {a b : PCode} : run M f nt ro none (.code (.seq a b) :: k) ds t H K = run M f nt ro none (.code a :: .code b :: k) ds t H K := by
  simp only [run, wp]
  congr 1
  funext e ds t H
  cases e <;> rfl
theorem rn_block {i : Nat} {x : PCode} : run M f nt ro none (.code (.block i x) :: k) ds t H K = run M f nt ro none (.code x :: .done i :: k) ds t H K := by
  simp only [run, wp]
  congr 1
  funext e ds t H
  cases e with
  | normal => rfl
  | ret => rfl
  | exit j => simp only [inBlk]; split <;> rfl
theorem rn_reg0 : run M f nt ro none (.code (.reg []) :: k) ds t H K = run M f nt ro none k ds t H K := id rfl
theorem rn_reg {o : POper} {l : List POper} : run M f nt ro none (.code (.reg (o :: l)) :: k) ds t H K = run M f nt ro none (.op o :: .code (.reg l) :: k) ds t H K := id rfl
theorem rn_draw0 : run M f nt ro none (.code (.draw []) :: k) ds t H K = run M f nt ro none k ds t H K := id rfl
theorem rn_draw {o : POper × List POper} {l : List (POper × List POper)} : run M f nt ro none (.code (.draw (o :: l)) :: k) ds t H K = run M f nt ro none (.dop o.1 o.2 :: .code (.draw l) :: k) ds t H K := by
  simp only [run, wp, true_and, drawP]

theorem rn_op {d : Option Tmp} {p : POp} : run M f nt ro none (.op ⟨d, p, none⟩ :: k) ds t H K = opQ M ro.isNone p ds t H fun ds v H => lrun M f nt ro k ds (aput t d v) H K := id rfl
theorem rn_opg {d : Option Tmp} {p : POp} {s : Tmp} {want : Bool} : run M f nt ro none (.op ⟨d, p, some (some s, want)⟩ :: k) ds t H K =
    (isDeferP p = false ∧ guardP (t s) want (lrun M f nt ro (.op ⟨d, p, none⟩ :: k) ds t H K) (lrun M f nt ro k ds (aput t d undef) H K)) := rfl
theorem rn_dop {d : Option Tmp} {p : POp} {l : List POper} : run M f nt ro none (.dop ⟨d, p, none⟩ l :: k) ds t H K = opQ M false p ds t H fun _ v H => land (∀ j ∈ l, lateP M.P (aput t d v) H j) (lrun M f nt ro k ds (aput t d v) H K) := by
  simp only [run, true_and]; rfl
theorem rn_dopg {d : Option Tmp} {p : POp} {s : Tmp} {want : Bool} {l : List POper} : run M f nt ro none (.dop ⟨d, p, some (some s, want)⟩ l :: k) ds t H K =
    (isDeferP p = false ∧ guardP (t s) want (lrun M f nt ro (.dop ⟨d, p, none⟩ l :: k) ds t H K) (land (∀ j ∈ l, lateP M.P (aput t d undef) H j) (lrun M f nt ro k ds (aput t d undef) H K))) := by
  simp only [lrun, run, true_and]; rfl

/-- A loop: what holds at each round's start, a measure that falls; K' is what a round is to end in. -/
theorem rn_loop {x : PCode} (I : Fr → Hp → Prop) (m : Fr → Hp → Nat) (h0 : I t H)
    (h : ∀ t H, I t H → ∀ K' : AExit → List ADef → Fr → Hp → Prop, (∀ t' H', I t' H' → m t' H' < m t H → K' .normal ds t' H') → (∀ i ds t' H', run M f nt ro (some i) k ds t' H' K → K' (.exit i) ds t' H') → (∀ ds t' H', K .ret ds t' H' → K' .ret ds t' H') →
      run M f nt ro none [.code x] ds t H K') : run M f nt ro none (.code (.loop x) :: k) ds t H K := by
  refine ⟨fun j ds' t H => ds' = ds ∧ I t H ∧ m t H = j, ⟨_, rfl, h0, rfl⟩, ?_⟩
  rintro j ds' t H ⟨rfl, hi, rfl⟩
  exact rn_start (h t H hi _ (fun t' H' h1 h2 => ⟨_, h2, rfl, h1, rfl⟩) (fun i ds t' H' h => h) (fun ds t' H' h => h))

/-! ### Functions -/
inductive PR where
  | tmp (d : Tmp)
  | cell (d : Tmp) (l : Option Nat)
structure PF where
  nt : Nat
  res : List PR
  pc : PCode
def presOf (P : Program) : List ResultVar → Option (List PR)
  | [] => some []
  | .tmp d :: l => (presOf P l).map (.tmp d :: ·)
  | .cell d T :: l => match lay P T, presOf P l with
    | some q, some r => some (.cell d q :: r)
    | _, _ => none
def pfOf (P : Program) (pl : FuncId → Plan) (g : FuncId) : Option PF := match P.funcs[g]? with
  | some fn => match fn.body with
    | some c => match prepC P (pl g) c, presOf P fn.results.toList with
      | some pc, some r => some ⟨fn.ntmps, r, pc⟩
      | _, _ => none
    | none => none
  | none => none
def pres (t : Fr) (H : Hp) : List PR → Option (List Value)
  | [] => some []
  | .tmp d :: l => (pres t H l).map (t d :: ·)
  | .cell d q :: l => match pload H q (t d), pres t H l with
    | some v, some r => some (v :: r)
    | _, _ => none
theorem pres_eq {P : Program} {t : Fr} {H : Hp} : ∀ {l : List ResultVar} {q : List PR}, presOf P l = some q → aresults P t H l = pres t H q
  | [], q, h => by simp only [presOf, Option.some.injEq] at h; subst h; rfl
  | .tmp d :: l, q, h => by
    simp only [presOf, Option.map_eq_some_iff] at h
    obtain ⟨r, h1, rfl⟩ := h
    simp only [aresults, aresult, pres, pres_eq h1]
    cases pres t H r <;> rfl
  | .cell d T :: l, q, h => by
    simp only [presOf] at h
    cases h1 : lay P T with
    | none => simp [h1] at h
    | some z =>
      cases h2 : presOf P l with
      | none => simp [h1, h2] at h
      | some r =>
        simp only [h1, h2, Option.some.injEq] at h
        subst h
        simp only [aresults, aresult, pres, pres_eq h2, pload_eq h1]
        cases pload H z (t d) <;> cases pres t H r <;> rfl
def vsP (o : Option (List Value)) (f : List Value → Prop) : Prop := match o with
  | some l => f l
  | none => False
@[congr] theorem vsP_congr {o o' : Option (List Value)} {f : List Value → Prop} (h : o = o') : vsP o f = vsP o' f := by rw [h]
@[go_sem] theorem vsP_some {l : List Value} {f : List Value → Prop} : vsP (some l) f = f l := id rfl
/-- A function's end. -/
def fin (M : Mc) (rs : List PR) (Q : Value → Hp → Prop) : AExit → List ADef → Fr → Hp → Prop
  | .exit _ => fun _ _ _ => False
  | _ => fun ds t H => ∃ H2, aleave M.dcall ds H = some H2 ∧ vsP (pres t H2 rs) fun vs => Q (packed vs) H2

/-- A function, by its body. -/
theorem callP_func {g : FuncId} {fn : Func} {c : Code} {pc : PCode} {args : List Value} {Q : Value → Hp → Prop} (hok : M.ok g = true) (hf : M.P.funcs[g]? = some fn) (hb : fn.body = some c) (hp : prepC M.P (M.pl g) c = some pc) (hn : args.length ≤ fn.ntmps)
    (h : run M g fn.ntmps none none [.code pc] [] (fun i => args.getD i undef) H fun e ds t H1 => (∀ i, e ≠ .exit i) ∧ ∃ H2, aleave M.dcall ds H1 = some H2 ∧ ∃ vs, aresults M.P t H2 fn.results.toList = some vs ∧ Q (packed vs) H2) : callP M (.func g) args H Q := by
  obtain ⟨e, ds, t, H1, ⟨he, H2, h1, vs, h2, hq⟩, n, hn'⟩ := wp_sound c hp (rn_start h)
  exact ⟨packed vs, H2, To.func hok hf hb hn ⟨e, ds, t, H1, ⟨he, H2, h1, vs, h2, rfl, rfl⟩, n, hn'⟩, hq⟩
theorem fin_ret {rs : List PR} {Q : Value → Hp → Prop} : fin M rs Q .ret [] t H = vsP (pres t H rs) fun vs => Q (packed vs) H := by simp [fin, aleave]
theorem fin_normal {rs : List PR} {Q : Value → Hp → Prop} : fin M rs Q .normal [] t H = vsP (pres t H rs) fun vs => Q (packed vs) H := by simp [fin, aleave]
theorem callP_pf {g : FuncId} {p : PF} {args : List Value} {Q : Value → Hp → Prop} (hp : pfOf M.P M.pl g = some p) (hok : M.ok g = true) (hn : args.length ≤ p.nt)
    (h : run M g p.nt none none [.code p.pc] [] (fun i => args.getD i undef) H (fin M p.res Q)) : callP M (.func g) args H Q := by
  unfold pfOf at hp
  cases hf : M.P.funcs[g]? with
  | none => simp [hf] at hp
  | some fn =>
    cases hb : fn.body with
    | none => simp [hf, hb] at hp
    | some c =>
      cases hc : prepC M.P (M.pl g) c with
      | none => simp [hf, hb, hc] at hp
      | some pc =>
        cases hr : presOf M.P fn.results.toList with
        | none => simp [hf, hb, hc, hr] at hp
        | some r =>
          simp only [hf, hb, hc, hr, Option.some.injEq] at hp
          subst hp
          have e : (fin M r Q) = fun e ds t H1 => (∀ i, e ≠ .exit i) ∧ ∃ H2, aleave M.dcall ds H1 = some H2 ∧ ∃ vs, aresults M.P t H2 fn.results.toList = some vs ∧ Q (packed vs) H2 := by
            funext e ds t H1
            have hv : ∀ H2, vsP (pres t H2 r) (fun vs => Q (packed vs) H2) = ∃ vs, aresults M.P t H2 fn.results.toList = some vs ∧ Q (packed vs) H2 := by
              intro H2
              rw [pres_eq hr]
              cases pres t H2 r <;> simp [vsP]
            cases e <;> simp [fin, hv]
          rw [e] at h
          exact callP_func hok hf hb hc hn h
/-- A function without deferred calls, by its body: K is what the body is to end in. -/
theorem callP_fn {g : FuncId} {p : PF} {args : List Value} {Q : Value → Hp → Prop} (hp : pfOf M.P M.pl g = some p) (hok : M.ok g = true) (hn : args.length ≤ p.nt)
    (h : ∀ K : AExit → List ADef → Fr → Hp → Prop, (∀ t' H', vsP (pres t' H' p.res) (fun vs => Q (packed vs) H') → K .ret [] t' H') → (∀ t' H', vsP (pres t' H' p.res) (fun vs => Q (packed vs) H') → K .normal [] t' H') →
      run M g p.nt none none [.code p.pc] [] (fun i => args.getD i undef) H K) : callP M (.func g) args H Q :=
  callP_pf hp hok hn (h _ (fun t' H' h => by rw [fin_ret]; exact h) (fun t' H' h => by rw [fin_normal]; exact h))
end

end Am
end Go.Proofs.YtbpabpnpoidpcaaGreatDoor
