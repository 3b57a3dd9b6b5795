/- Rules for proofs about the abstract machine: calls and code that end, whatever fuel is left over. No conditions. -/
import Derived.Test.YtbpabpnpoidpcaaGreatDoorAbsi
set_option linter.unusedVariables false
set_option linter.unusedSimpArgs false
namespace Go.Proofs.YtbpabpnpoidpcaaGreatDoor
namespace Am
open Go Go.RowKit

/-- What the abstract machine is of: the program, overrides, plans, the functions that it does itself. -/
structure Mc where
  P : Program
  base : CallF
  dcall : DCallF
  pl : FuncId → Plan
  ok : FuncId → Bool

noncomputable def Mc.call (M : Mc) (n : Nat) : CallF := acallN M.P M.base M.dcall M.pl M.ok n

/-- A call that ends so, with whatever fuel from some on. -/
def To (M : Mc) (g : Fn) (args : List Value) (H : Hp) (v : Value) (H' : Hp) : Prop := ∃ n, ∀ m, n ≤ m → M.call m g args H = some (v, H')

/-- Code that ends in one of the ways that K tells. -/
def Wc (M : Mc) (f : FuncId) (nt : Nat) (ro : Option Nat) (c : Code) (ds : List ADef) (t : Fr) (H : Hp) (K : AExit → List ADef → Fr → Hp → Prop) : Prop :=
  ∃ e ds' t' H', K e ds' t' H' ∧ ∃ n, ∀ m k, n ≤ m → n ≤ k → aexec M.P (M.call m) (M.pl f) f nt ro k c ds t H = some (e, ds', t', H')

/-- A region's operations that end so. -/
def Wr' (M : Mc) (top : Bool) (ops : Array Oper) (l : List Nat) (ds : List ADef) (t : Fr) (H : Hp) (K : List ADef → Fr → Hp → Prop) : Prop :=
  ∃ ds' t' H', K ds' t' H' ∧ ∃ n, ∀ m, n ≤ m → arun M.P (M.call m) top ops l ds t H = some (ds', t', H')

variable {M : Mc} {f : FuncId} {nt : Nat} {ro : Option Nat} {ds : List ADef} {t : Fr} {H : Hp} {K : AExit → List ADef → Fr → Hp → Prop}

theorem Wc.mono {c : Code} {K' : AExit → List ADef → Fr → Hp → Prop} (h : Wc M f nt ro c ds t H K) (hk : ∀ e ds t H, K e ds t H → K' e ds t H) : Wc M f nt ro c ds t H K' := by
  obtain ⟨e, ds', t', H', h1, h2⟩ := h
  exact ⟨e, ds', t', H', hk _ _ _ _ h1, h2⟩

theorem Wc.skip (h : K .normal ds t H) : Wc M f nt ro .skip ds t H K := ⟨_, _, _, _, h, 0, fun m k _ _ => rfl⟩
theorem Wc.exit {id : Nat} (h : K (.exit id) ds t H) : Wc M f nt ro (.exit id) ds t H K := ⟨_, _, _, _, h, 0, fun m k _ _ => rfl⟩
theorem Wc.ret (h : K .ret ds t H) : Wc M f nt ro .ret ds t H K := ⟨_, _, _, _, h, 0, fun m k _ _ => rfl⟩

def thn (L : List ADef → Fr → Hp → Prop) (K : AExit → List ADef → Fr → Hp → Prop) : AExit → List ADef → Fr → Hp → Prop
  | .normal => L
  | e => K e

theorem Wc.seq {x y : Code} (h : Wc M f nt ro x ds t H (thn (fun ds t H => Wc M f nt ro y ds t H K) K)) : Wc M f nt ro (.seq x y) ds t H K := by
  obtain ⟨e, ds1, t1, H1, hk, n1, h1⟩ := h
  cases e with
  | normal =>
    obtain ⟨e2, ds2, t2, H2, hk2, n2, h2⟩ := hk
    refine ⟨e2, ds2, t2, H2, hk2, max n1 n2, fun m k hm hk => ?_⟩
    simp only [aexec, h1 m k (by omega) (by omega)]
    exact h2 m k (by omega) (by omega)
  | exit i => exact ⟨_, _, _, _, hk, n1, fun m k hm hk => by simp only [aexec, h1 m k hm hk]⟩
  | ret => exact ⟨_, _, _, _, hk, n1, fun m k hm hk => by simp only [aexec, h1 m k hm hk]⟩

theorem Wc.cond_true {c : Operand} {x y : Code} (hc : ev t c = .bool true) (h : Wc M f nt ro x ds t H K) : Wc M f nt ro (.cond c x y) ds t H K := by
  obtain ⟨e, ds1, t1, H1, hk, n1, h1⟩ := h
  exact ⟨e, ds1, t1, H1, hk, n1, fun m k hm hk => by simp only [aexec, hc]; exact h1 m k hm hk⟩
theorem Wc.cond_false {c : Operand} {x y : Code} (hc : ev t c = .bool false) (h : Wc M f nt ro y ds t H K) : Wc M f nt ro (.cond c x y) ds t H K := by
  obtain ⟨e, ds1, t1, H1, hk, n1, h1⟩ := h
  exact ⟨e, ds1, t1, H1, hk, n1, fun m k hm hk => by simp only [aexec, hc]; exact h1 m k hm hk⟩
theorem Wc.cond {c : Operand} {x y : Code} {b : Bool} (hc : ev t c = .bool b) (h : if b = true then Wc M f nt ro x ds t H K else Wc M f nt ro y ds t H K) : Wc M f nt ro (.cond c x y) ds t H K := by
  cases b with
  | true => exact .cond_true hc h
  | false => exact .cond_false hc h

def inBlk (id : Nat) (K : AExit → List ADef → Fr → Hp → Prop) : AExit → List ADef → Fr → Hp → Prop
  | .exit i => if i = id then K .normal else K (.exit i)
  | e => K e
theorem Wc.block {id : Nat} {x : Code} (h : Wc M f nt ro x ds t H (inBlk id K)) : Wc M f nt ro (.block id x) ds t H K := by
  obtain ⟨e, ds1, t1, H1, hk, n1, h1⟩ := h
  cases e with
  | normal => exact ⟨_, _, _, _, hk, n1, fun m k hm hk => by simp only [aexec, h1 m k hm hk]⟩
  | ret => exact ⟨_, _, _, _, hk, n1, fun m k hm hk => by simp only [aexec, h1 m k hm hk]⟩
  | exit i =>
    simp only [inBlk] at hk
    by_cases hi : i = id
    · rw [if_pos hi] at hk
      exact ⟨_, _, _, _, hk, n1, fun m k hm hk => by simp only [aexec, h1 m k hm hk, if_pos hi]⟩
    · rw [if_neg hi] at hk
      exact ⟨_, _, _, _, hk, n1, fun m k hm hk => by simp only [aexec, h1 m k hm hk, if_neg hi]⟩

/-- A loop, by what holds at each round's start and a measure that falls. -/
theorem Wc.loop {x : Code} (I : List ADef → Fr → Hp → Prop) (μ : List ADef → Fr → Hp → Nat) (h0 : I ds t H)
    (hr : ∀ ds t H, I ds t H → Wc M f nt ro x ds t H (thn (fun ds' t' H' => I ds' t' H' ∧ μ ds' t' H' < μ ds t H) K)) : Wc M f nt ro (.loop x) ds t H K := by
  have key : ∀ q ds t H, μ ds t H = q → I ds t H → ∃ e ds' t' H', K e ds' t' H' ∧ ∃ n, ∀ m k j, n ≤ m → n ≤ k → n ≤ j → aloop (aexec M.P (M.call m) (M.pl f) f nt ro k x) j ds t H = some (e, ds', t', H') := by
    intro q
    induction q using Nat.strongRecOn with
    | _ q ih =>
      intro ds t H hq hI
      obtain ⟨e, ds1, t1, H1, hk, n1, h1⟩ := hr ds t H hI
      cases e with
      | normal =>
        obtain ⟨hI1, hlt⟩ := hk
        obtain ⟨e2, ds2, t2, H2, hk2, n2, h2⟩ := ih _ (hq ▸ hlt) ds1 t1 H1 rfl hI1
        refine ⟨e2, ds2, t2, H2, hk2, max n1 (n2 + 1), fun m k j hm hk hj => ?_⟩
        obtain ⟨j, rfl⟩ : ∃ j', j = j' + 1 := ⟨j - 1, by omega⟩
        simp only [aloop, h1 m k (by omega) (by omega)]
        exact h2 m k j (by omega) (by omega) (by omega)
      | exit i =>
        refine ⟨_, _, _, _, hk, n1 + 1, fun m k j hm hk hj => ?_⟩
        obtain ⟨j, rfl⟩ : ∃ j', j = j' + 1 := ⟨j - 1, by omega⟩
        simp only [aloop, h1 m k (by omega) (by omega)]
      | ret =>
        refine ⟨_, _, _, _, hk, n1 + 1, fun m k j hm hk hj => ?_⟩
        obtain ⟨j, rfl⟩ : ∃ j', j = j' + 1 := ⟨j - 1, by omega⟩
        simp only [aloop, h1 m k (by omega) (by omega)]
  obtain ⟨e, ds', t', H', hk, n, hn⟩ := key _ ds t H rfl h0
  exact ⟨e, ds', t', H', hk, n, fun m k hm hk => hn m k k hm hk hk⟩

/-- A region in the text's order. -/
theorem Wc.region {id : Nat} {ops : Array Oper} (h : Wr' M ro.isNone ops (List.range ops.size) ds t H (K .normal)) : Wc M f nt ro (.region id ops false) ds t H K := by
  obtain ⟨ds1, t1, H1, hk, n1, h1⟩ := h
  exact ⟨_, _, _, _, hk, n1, fun m k hm hk => by simp [aexec, h1 m hm]⟩

theorem Wr'.nil {top : Bool} {ops : Array Oper} {L : List ADef → Fr → Hp → Prop} (h : L ds t H) : Wr' M top ops [] ds t H L := ⟨_, _, _, h, 0, fun _ _ => rfl⟩

/-- An operation that is no call of a function. -/
theorem Wr'.op {top : Bool} {ops : Array Oper} {i : Nat} {l : List Nat} {L : List ADef → Fr → Hp → Prop} {t1 : Fr} {H1 : Hp} (hd : isDefer ops i = false) (h1 : ∀ call, aone M.P call ops t H i = some (t1, H1))
    (h : Wr' M top ops l ds t1 H1 L) : Wr' M top ops (i :: l) ds t H L := by
  obtain ⟨ds2, t2, H2, hk, n, hn⟩ := h
  exact ⟨ds2, t2, H2, hk, n, fun m hm => by simp only [arun, hd, Bool.false_eq_true, if_false, h1]; exact hn m hm⟩

/-- An operation, a call of a function or another. -/
theorem Wr'.step {top : Bool} {ops : Array Oper} {i : Nat} {l : List Nat} {L : List ADef → Fr → Hp → Prop} {t1 : Fr} {H1 : Hp} (hd : isDefer ops i = false) (h1 : ∃ n, ∀ m, n ≤ m → aone M.P (M.call m) ops t H i = some (t1, H1))
    (h : Wr' M top ops l ds t1 H1 L) : Wr' M top ops (i :: l) ds t H L := by
  obtain ⟨ds2, t2, H2, hk, n, hn⟩ := h
  obtain ⟨n1, h1⟩ := h1
  exact ⟨ds2, t2, H2, hk, max n n1, fun m hm => by simp only [arun, hd, Bool.false_eq_true, if_false, h1 m (by omega)]; exact hn m (by omega)⟩

/-- A region whose order is drawn, done in its plan's order. -/
def Wd (M : Mc) (ops : Array Oper) (l : List PE) (t : Fr) (H : Hp) (K : Fr → Hp → Prop) : Prop :=
  ∃ t' H', K t' H' ∧ ∃ n, ∀ m, n ≤ m → adraw M.P (M.call m) ops l t H = some (t', H')

theorem Wc.draw {id : Nat} {ops : Array Oper} (h : Wd M ops (M.pl f id) t H (K .normal ds)) : Wc M f nt ro (.region id ops true) ds t H K := by
  obtain ⟨t1, H1, hk, n1, h1⟩ := h
  exact ⟨_, _, _, _, hk, n1, fun m k hm hk => by simp [aexec, h1 m hm]⟩

theorem Wd.nil {ops : Array Oper} {L : Fr → Hp → Prop} (h : L t H) : Wd M ops [] t H L := ⟨_, _, h, 0, fun _ _ => rfl⟩

theorem Wd.step {ops : Array Oper} {e : PE} {l : List PE} {L : Fr → Hp → Prop} {t1 : Fr} {H1 : Hp} (h1 : ∃ n, ∀ m, n ≤ m → aone M.P (M.call m) ops t H e.i = some (t1, H1)) (hl : ∀ j ∈ e.js, ∀ call, late M.P call ops t1 H1 j)
    (h : Wd M ops l t1 H1 L) : Wd M ops (e :: l) t H L := by
  obtain ⟨t2, H2, hk, n, hn⟩ := h
  obtain ⟨n1, h1⟩ := h1
  exact ⟨t2, H2, hk, max n n1, fun m hm => by simp only [adraw, h1 m (by omega)]; rw [if_pos (fun j hj => hl j hj _)]; exact hn m (by omega)⟩

/-- A function, by its body. -/
theorem To.func {g : FuncId} {fn : Func} {c : Code} {args : List Value} {v : Value} {H' : Hp} (hok : M.ok g = true) (hf : M.P.funcs[g]? = some fn) (hb : fn.body = some c) (hn : args.length ≤ fn.ntmps)
    (h : Wc M g fn.ntmps none c [] (fun i => args.getD i undef) H fun e ds t H1 => (∀ i, e ≠ .exit i) ∧ ∃ H2, aleave M.dcall ds H1 = some H2 ∧ ∃ vs, aresults M.P t H2 fn.results.toList = some vs ∧ v = packed vs ∧ H' = H2) : To M (.func g) args H v H' := by
  obtain ⟨e, ds, t, H1, ⟨he, H2, h1, vs, h2, rfl, rfl⟩, n, hn'⟩ := h
  refine ⟨n + 1, fun m hm => ?_⟩
  obtain ⟨m, rfl⟩ : ∃ m', m = m' + 1 := ⟨m - 1, by omega⟩
  have := hn' m m (by omega) (by omega)
  simp only [Mc.call, acallN, hok, if_true, afunc, hf, hb, if_pos hn]
  simp only [Mc.call] at this
  rw [this]
  cases e with
  | exit i => exact absurd rfl (he i)
  | normal => simp [h1, h2]
  | ret => simp [h1, h2]

/-- A call of a function that a value tells. -/
theorem aone_call {ops : Array Oper} {i : Nat} {o : Oper} {c : Call} {x : Operand} {g : Fn} {first cap : Array Value} {v : Value} {H' : Hp} (ho : ops[i]? = some o) (hw : awanted ops t o = some true) (hop : o.op = .call c) (hc : c.callee = .value x)
    (hx : ev t x = .func g first cap) (h : To M g (first.toList ++ c.args.toList.map (ev t) ++ cap.toList) H v H') : ∃ n, ∀ m, n ≤ m → aone M.P (M.call m) ops t H i = some (aput t o.dst v, H') := by
  obtain ⟨n, hn⟩ := h
  exact ⟨n, fun m hm => by simp only [aone, ho, hw, astep, hop, acall, hc, hx, hn m hm]⟩

end Am
end Go.Proofs.YtbpabpnpoidpcaaGreatDoor
