/- An evaluator of prepared code that the kernel runs: definitions. No conditions. -/
import Derived.Test.YtbpabpnpoidpcaaGreatDoorPc4
set_option linter.unusedVariables false
namespace Go.Proofs.YtbpabpnpoidpcaaGreatDoor
namespace Am
open Go Go.RowKit

inductive Trie (α : Type) where
  | leaf
  | node (v : α) (l r : Trie α)

/-- The bits of a number from 1 on, the lowest first, without the highest. -/
noncomputable def pthF (n : Nat) : Nat → List Bool := Nat.rec (motive := fun _ => Nat → List Bool) (fun _ => []) (fun _ ih k => Bool.rec ((Nat.beq (Nat.mod k 2) 1) :: ih (Nat.div k 2)) [] (Nat.ble k 1)) n
noncomputable def pth (i : Nat) : List Bool := pthF i (Nat.succ i)

noncomputable def Trie.get {α : Type} (d : α) (p : List Bool) : Trie α → α :=
  List.rec (motive := fun _ => Trie α → α) (fun t => Trie.rec (motive := fun _ => α) d (fun v _ _ _ _ => v) t) (fun b _ ih t => Trie.rec (motive := fun _ => α) d (fun _ l r _ _ => ih (Bool.rec l r b)) t) p
/-- A trie with another value, handed on whole. -/
noncomputable def Trie.setK {α R : Type} (d : α) (v : α) (p : List Bool) : Trie α → (Trie α → R) → R :=
  List.rec (motive := fun _ => Trie α → (Trie α → R) → R) (fun t k => Trie.rec (motive := fun _ => R) (k (.node v .leaf .leaf)) (fun _ l r _ _ => k (.node v l r)) t)
    (fun b _ ih t k => Trie.rec (motive := fun _ => R) (Bool.rec (ih .leaf fun l => k (.node d l .leaf)) (ih .leaf fun r => k (.node d .leaf r)) b) (fun x l r _ _ => Bool.rec (ih l fun l => k (.node x l r)) (ih r fun r => k (.node x l r)) b) t) p

/-! ### Values handed on whole -/
noncomputable def natK {R : Type} (n : Nat) (k : Nat → R) : R := Nat.rec (motive := fun _ => R) (k 0) (fun m _ => k (Nat.succ m)) n
noncomputable def intK {R : Type} (n : Int) (k : Int → R) : R := Int.rec (motive := fun _ => R) (fun m => natK m fun m => k (.ofNat m)) (fun m => natK m fun m => k (.negSucc m)) n
noncomputable def boolK {R : Type} (b : Bool) (k : Bool → R) : R := Bool.rec (motive := fun _ => R) (k false) (k true) b
noncomputable def addrK {R : Type} (a : Addr) (k : Addr → R) : R := match a with
  | ⟨b, o, none⟩ => natK b fun b => natK o fun o => k ⟨b, o, none⟩
  | a => k a
noncomputable def flatK {R : Type} (v : Value) (k : Value → R) : R := match v with
  | .int i n => intK n fun n => k (.int i n)
  | .bool b => boolK b fun b => k (.bool b)
  | .pointer (some a) => addrK a fun a => k (.pointer (some a))
  | .slice (some a) l c => addrK a fun a => natK l fun l => natK c fun c => k (.slice (some a) l c)
  | .slice none l c => natK l fun l => natK c fun c => k (.slice none l c)
  | .map (some b) => natK b fun b => k (.map (some b))
  | .iface t (.int i n) => natK t fun t => intK n fun n => k (.iface t (.int i n))
  | .iface t (.pointer (some a)) => natK t fun t => addrK a fun a => k (.iface t (.pointer (some a)))
  | v => k v
noncomputable def listK {R : Type} : List Value → (List Value → R) → R
  | [], k => k []
  | v :: l, k => flatK v fun v => listK l fun l => k (v :: l)
noncomputable def valK {R : Type} (v : Value) (k : Value → R) : R := match v with
  | .agg cs => listK cs.toList fun l => k (.agg ⟨l⟩)
  | .tuple cs => listK2 cs.toList fun l => k (.tuple ⟨l⟩)
  | .func f a b => listK a.toList fun a => listK b.toList fun b => k (.func f ⟨a⟩ ⟨b⟩)
  | v => flatK v k
where
  listK2 {R : Type} : List Value → (List Value → R) → R
  | [], k => k []
  | v :: l, k => (match v with
    | .agg cs => listK cs.toList fun c => listK2 l fun l => k (.agg ⟨c⟩ :: l)
    | v => flatK v fun v => listK2 l fun l => k (v :: l))

/-! ### Frames and heaps -/
inductive Env where
  | nil
  | cons (i : Nat) (v : Value) (r : Env)
noncomputable def Env.get (e : Env) (i : Nat) : Value := Env.rec (motive := fun _ => Value) undef (fun j v _ ih => Bool.rec ih v (Nat.beq j i)) e
noncomputable def Env.fr (e : Env) : Fr := fun i => e.get i
noncomputable def Env.put (e : Env) (d : Option Tmp) (v : Value) : Env := Option.rec (motive := fun _ => Env) e (fun i => .cons i v e) d

structure XLoop where
  f : FuncId
  n : Nat
  t : Env
  ps : Array Tmp
  asg : Code
  body : Code
  pasg : PCode
  pbody : PCode
  st : LoopState
  pend : Option Code

inductive XB where
  | b (x : Blk)
  | l (L : XLoop)
noncomputable def XB.to : XB → Blk
  | .b x => x
  | .l L => .loop ⟨L.f, L.n, L.t.fr, L.ps, L.asg, L.body, L.st, L.pend⟩

structure XH where
  n : Nat
  t : Trie XB
noncomputable def XH.get (h : XH) (i : Nat) : XB := h.t.get (.b .dead) (pth i)
noncomputable def XH.hp (h : XH) : Hp := ⟨h.n, fun i => (h.get i).to⟩
noncomputable def XH.putK {R : Type} (h : XH) (i : Nat) (b : XB) (k : XH → R) : R := h.t.setK (.b .dead) b (pth i) fun t => k ⟨h.n, t⟩
noncomputable def XH.pushK {R : Type} (h : XH) (b : XB) (k : XH → R) : R := natK (Nat.succ h.n) fun n => h.t.setK (.b .dead) b (pth h.n) fun t => k ⟨n, t⟩

noncomputable def blkK {R : Type} (b : Blk) (k : Blk → R) : R := match b with
  | .cells ro sz cs => boolK ro fun ro => natK sz fun sz => listK cs fun cs => k (.cells ro sz cs)
  | b => k b

def touched : Value → Option Nat
  | .pointer (some a) => some a.block
  | .slice (some a) _ _ => some a.block
  | .map (some b) => some b
  | _ => none
/-- The heap behind an operation: the block that was touched, and a new one. -/
noncomputable def XH.newsK {R : Type} (h : XH) (H' : Hp) (k : XH → R) : R := Bool.rec (motive := fun _ => R) (blkK (H'.f h.n) fun b => h.pushK (.b b) k) (k h) (Nat.beq h.n H'.n)
noncomputable def XH.syncK {R : Type} (h : XH) (H' : Hp) (w : Option Nat) (k : XH → R) : R := Option.rec (motive := fun _ => R) (h.newsK H' k) (fun i => blkK (H'.f i) fun b => h.putK i (.b b) fun h => h.newsK H' k) w

/-! ### Cells written, all at once -/
def spl (cs : List Value) (o : Nat) (l : List Value) : List Value := cs.take o ++ (l ++ cs.drop (o + l.length))
def pstoreF (H : Hp) (n : Nat) (a v : Value) : Option Hp := match a with
  | .pointer (some ⟨b, o, none⟩) => match H.f b, vcells v with
    | .cells false sz cs, some l => if l.length = n ∧ o + l.length ≤ cs.length then some (H.put b (.cells false sz (spl cs o l))) else none
    | _, _ => none
  | _ => none
def pcopyF (H : Hp) (sz : Nat) (str : Bool) (d s : Value) : Option (Value × Hp) := match psrc H sz str s, d with
  | some (m, news), .slice a dl _ => if min m dl = 0 then some (.int .i64 0, H) else match a with
    | some ⟨b, o, none⟩ => match H.f b with
      | .cells false z cs => if o + min m dl * sz ≤ cs.length ∧ news.length = m * sz then some (.int .i64 (min m dl : Nat), H.put b (.cells false z (spl cs o (news.take (min m dl * sz))))) else none
      | _ => none
    | _ => none
  | _, _ => none
noncomputable def zop {R : Type} (P : Program) (e : Env) (h : XH) (o : Option (Value × Hp)) (w : Option Nat) (bad : R) (k : Value → XH → R) : R :=
  match o with
  | some (v, H') => valK v fun v => h.syncK H' w fun h => k v h
  | none => bad
noncomputable def zval {R : Type} (o : Option Value) (h : XH) (bad : R) (k : Value → XH → R) : R := Option.rec (motive := fun _ => R) bad (fun v => valK v fun v => k v h) o
noncomputable def zflat {R : Type} (o : Option Value) (h : XH) (bad : R) (k : Value → XH → R) : R := Option.rec (motive := fun _ => R) bad (fun v => flatK v fun v => k v h) o

abbrev ZCall := Fn → List Value → XH → Option (Value × XH)

def afterC {R : Type} (o : Option (Value × XH)) (bad : R) (k : Value → XH → R) : R := match o with
  | some (v, h) => k v h
  | none => bad
noncomputable def zstep0 {R : Type} (P : Program) (call : ZCall) (e : Env) (h : XH) (op : POp) (bad : R) (k : Value → XH → R) : R := match op with
  | .call g args => listK (args.map (ev e.fr)) fun args => afterC (call (.func g) args h) bad k
  | .callv f args => match ev e.fr f with
    | .func g first cap => listK (args.map (ev e.fr)) fun args => afterC (call g (first.toList ++ args ++ cap.toList) h) bad k
    | _ => bad
  | .invoke r name args => match ev e.fr r with
    | .iface T v => match mth P T name with
      | some g => listK (args.map (ev e.fr)) fun args => afterC (call (.func g) (v :: args) h) bad k
      | none => bad
    | _ => bad
  | .defer _ => bad
  | .mv x => k (ev e.fr x) h
  | .load l a => zval (pload h.hp l (ev e.fr a)) h bad k
  | .nil x => zflat (anil (ev e.fr x)) h bad k
  | .bin o kd x y => zflat (pbin P o kd (isLit x || isLit y) (ev e.fr x) (ev e.fr y)) h bad k
  | .un o x => zflat (aun o (ev e.fr x)) h bad k
  | .cint i x => zflat (pcint i (ev e.fr x)) h bad k
  | .fieldAddr o x => zflat (pfieldAddr o (ev e.fr x)) h bad k
  | .field o l x => zval (pfield o l (ev e.fr x)) h bad k
  | .indexAddr s x i => zflat (pindexAddr s (ev e.fr x) (ev e.fr i)) h bad k
  | .extract x i => zval (aextract (ev e.fr x) i) h bad k
  | .len kd x => zflat (plen h.hp kd (ev e.fr x)) h bad k
  | .store n a x => zop P e h ((pstoreF h.hp n (ev e.fr a) (ev e.fr x)).map fun H' => (undef, H')) (touched (ev e.fr a)) bad k
  | .append a b c s x => zop P e h (pappend h.hp a b c (ev e.fr s) (ev e.fr x)) (touched (ev e.fr s)) bad k
  | .copy a b d s => zop P e h (pcopyF h.hp a b (ev e.fr d) (ev e.fr s)) (touched (ev e.fr d)) bad k
  | .raw (.mapUpdate a m b c) => zop P e h (pop P e.fr h.hp (.raw (.mapUpdate a m b c))) (touched (ev e.fr m)) bad k
  | .raw (.call c) => match c.args.toList with
    | x :: _ => zop P e h (pop P e.fr h.hp (.raw (.call c))) (touched (ev e.fr x)) bad k
    | [] => bad
  | .raw (.store _ _ _) => bad
  | op => zop P e h (pop P e.fr h.hp op) none bad k

/-- Kept apart, so that what hangs on the code alone is reckoned once. -/
inductive Kp (α : Type) where
  | mk (f : α)
noncomputable def zraw {R : Type} (o : Option Value) (h : XH) (bad : R) (k : Value → XH → R) : R := Option.rec (motive := fun _ => R) bad (fun v => k v h) o
def intsK {R : Type} (x y : Value) (fb : R) (f : IntKind → Int → Int → R) : R := match x with
  | .int i a => match y with
    | .int j b => if i = j then f i a b else fb
    | _ => fb
  | _ => fb
noncomputable def zbinW (R : Type) (o : BinOp) : Kp (Value → Value → R → (Value → R) → R) := match o with
  | .add => .mk fun x y fb k => intsK x y fb fun i a b => intK (i.wrap (a + b)) fun n => k (.int i n)
  | .sub => .mk fun x y fb k => intsK x y fb fun i a b => intK (i.wrap (a - b)) fun n => k (.int i n)
  | .mul => .mk fun x y fb k => intsK x y fb fun i a b => intK (i.wrap (a * b)) fun n => k (.int i n)
  | .eql => .mk fun x y fb k => intsK x y fb fun i a b => boolK (decide (a = b)) fun c => k (.bool c)
  | .neq => .mk fun x y fb k => intsK x y fb fun i a b => boolK (decide (a ≠ b)) fun c => k (.bool c)
  | .lss => .mk fun x y fb k => intsK x y fb fun i a b => boolK (decide (a < b)) fun c => k (.bool c)
  | .leq => .mk fun x y fb k => intsK x y fb fun i a b => boolK (decide (a ≤ b)) fun c => k (.bool c)
  | .gtr => .mk fun x y fb k => intsK x y fb fun i a b => boolK (decide (b < a)) fun c => k (.bool c)
  | .geq => .mk fun x y fb k => intsK x y fb fun i a b => boolK (decide (b ≤ a)) fun c => k (.bool c)
  | _ => .mk fun _ _ fb _ => fb
noncomputable def zbin {R : Type} (P : Program) (o : BinOp) (kd : Kd) (lit : Bool) (x y : Value) (h : XH) (bad : R) (k : Value → XH → R) : R :=
  Kp.rec (motive := fun _ => R) (fun f => f x y (zflat (pbin P o kd lit x y) h bad k) fun v => k v h) (zbinW R o)
def ptrK {R : Type} (v : Value) (fb : R) (f : Nat → Nat → R) : R := match v with
  | .pointer (some ⟨b, o, none⟩) => f b o
  | _ => fb
noncomputable def zfa {R : Type} (off : Nat) (v : Value) (h : XH) (bad : R) (k : Value → XH → R) : R := ptrK v (zflat (pfieldAddr off v) h bad k) fun b o => natK (o + off) fun o => k (.pointer (some ⟨b, o, none⟩)) h
noncomputable def zstepW (R : Type) (P : Program) (call : ZCall) (op : POp) : Kp (Env → XH → R → (Value → XH → R) → R) := match op with
  | .call g args => .mk fun e h bad k => listK (args.map (ev e.fr)) fun args => afterC (call (.func g) args h) bad k
  | .callv f args => .mk fun e h bad k => match ev e.fr f with
    | .func g first cap => listK (args.map (ev e.fr)) fun args => afterC (call g (first.toList ++ args ++ cap.toList) h) bad k
    | _ => bad
  | .invoke r name args => .mk fun e h bad k => match ev e.fr r with
    | .iface T v => match mth P T name with
      | some g => listK (args.map (ev e.fr)) fun args => afterC (call (.func g) (v :: args) h) bad k
      | none => bad
    | _ => bad
  | .defer _ => .mk fun e h bad k => bad
  | .mv x => .mk fun e h bad k => k (ev e.fr x) h
  | .load none a => .mk fun e h bad k => zraw (pload h.hp none (ev e.fr a)) h bad k
  | .load (some n) a => .mk fun e h bad k => zval (pload h.hp (some n) (ev e.fr a)) h bad k
  | .nil x => .mk fun e h bad k => zraw (anil (ev e.fr x)) h bad k
  | .bin o kd x y => .mk fun e h bad k => zbin P o kd (isLit x || isLit y) (ev e.fr x) (ev e.fr y) h bad k
  | .un o x => .mk fun e h bad k => zflat (aun o (ev e.fr x)) h bad k
  | .cint i x => .mk fun e h bad k => zflat (pcint i (ev e.fr x)) h bad k
  | .fieldAddr o x => .mk fun e h bad k => zfa o (ev e.fr x) h bad k
  | .field o l x => .mk fun e h bad k => zval (pfield o l (ev e.fr x)) h bad k
  | .indexAddr s x i => .mk fun e h bad k => zflat (pindexAddr s (ev e.fr x) (ev e.fr i)) h bad k
  | .extract x i => .mk fun e h bad k => zraw (aextract (ev e.fr x) i) h bad k
  | .len kd x => .mk fun e h bad k => zflat (plen h.hp kd (ev e.fr x)) h bad k
  | .store n a x => .mk fun e h bad k => zop P e h ((pstoreF h.hp n (ev e.fr a) (ev e.fr x)).map fun H' => (undef, H')) (touched (ev e.fr a)) bad k
  | .append a b c s x => .mk fun e h bad k => zop P e h (pappend h.hp a b c (ev e.fr s) (ev e.fr x)) (touched (ev e.fr s)) bad k
  | .copy a b d s => .mk fun e h bad k => zop P e h (pcopyF h.hp a b (ev e.fr d) (ev e.fr s)) (touched (ev e.fr d)) bad k
  | .raw (.mapUpdate a m b c) => .mk fun e h bad k => zop P e h (pop P e.fr h.hp (.raw (.mapUpdate a m b c))) (touched (ev e.fr m)) bad k
  | .raw (.call c) => .mk fun e h bad k => match c.args.toList with
    | x :: _ => zop P e h (pop P e.fr h.hp (.raw (.call c))) (touched (ev e.fr x)) bad k
    | [] => bad
  | .raw (.store _ _ _) => .mk fun e h bad k => bad
  | op => .mk fun e h bad k => zop P e h (pop P e.fr h.hp op) none bad k

noncomputable def zstep {R : Type} (P : Program) (call : ZCall) (e : Env) (h : XH) (op : POp) (bad : R) (k : Value → XH → R) : R := Kp.rec (motive := fun _ => R) (fun f => f e h bad k) (zstepW R P call op)

/-- One operation. -/
noncomputable def zone {R : Type} (P : Program) (call : ZCall) (o : POper) (e : Env) (h : XH) (bad : R) (k : Env → XH → R) : R := match o.g with
  | none => zstep P call e h o.op bad fun v h => k (e.put o.dst v) h
  | some (none, _) => k (e.put o.dst undef) h
  | some (some s, want) => match e.get s with
    | .bool b => Bool.rec (motive := fun _ => R) (k (e.put o.dst undef) h) (zstep P call e h o.op bad fun v h => k (e.put o.dst v) h) (b == want)
    | v => Bool.rec (motive := fun _ => R) bad (k (e.put o.dst undef) h) (isUndef v)

def veq : Value → Value → Bool
  | .bool a, .bool b => a == b
  | .int k a, .int k' b => decide (k = k') && decide (a = b)
  | .pointer (some ⟨a, o, none⟩), .pointer (some ⟨b, o', none⟩) => a == b && o == o'
  | .pointer none, .pointer none => true
  | .nilIface, .nilIface => true
  | .nilFunc, .nilFunc => true
  | .slice none a b, .slice none c d => a == c && b == d
  | .slice (some ⟨p, o, none⟩) a b, .slice (some ⟨q, o', none⟩) c d => p == q && o == o' && a == c && b == d
  | .map (some a), .map (some b) => a == b
  | .string a, .string b => decide (a = b)
  | _, _ => false
def veqs : Value → Value → Bool
  | .agg a, .agg b => go a.toList b.toList
  | a, b => veq a b
where go : List Value → List Value → Bool
  | [], [] => true
  | x :: l, y :: m => veq x y && go l m
  | _, _ => false

noncomputable def zlate0 (P : Program) (e : Env) (h : XH) (d : Option Tmp) (op : POp) : Bool := match alP P op with
  | some xs => xs.all fun x => flat (ev e.fr x)
  | none => match d, pop P e.fr h.hp op with
    | some d, some (v, _) => veqs v (e.get d) && (match op with
      | .load .. | .slice .. | .len .. | .cstr .. | .raw (.lookup ..) => true
      | _ => false)
    | _, _ => false
noncomputable def zlate (P : Program) (e : Env) (h : XH) (o : POper) : Bool := match o.g with
  | none => zlate0 P e h o.dst o.op
  | some (none, _) => true
  | some (some s, want) => match e.get s with
    | .bool b => if b = want then zlate0 P e h o.dst o.op else true
    | v => isUndef v

/-- Operations in the text's order. -/
noncomputable def zreg {R : Type} (P : Program) (call : ZCall) (top : Bool) (l : List POper) : List ADef → Env → XH → R → (List ADef → Env → XH → R) → R :=
  List.rec (motive := fun _ => List ADef → Env → XH → R → (List ADef → Env → XH → R) → R) (fun ds e h _ k => k ds e h)
    (fun o _ ih ds e h bad k => Bool.rec (motive := fun _ => R) (zone P call o e h bad fun e h => ih ds e h bad k)
      (match o.op with
      | .defer x => Bool.rec (motive := fun _ => R) bad (match o.g, ev e.fr x with
        | none, .func (.func g) a b => ih (.fn g (a.toList ++ b.toList) :: ds) (e.put o.dst undef) h bad k
        | _, _ => bad) top
      | _ => bad) (isDeferP o.op)) l
noncomputable def zdraw {R : Type} (P : Program) (call : ZCall) (l : List (POper × List POper)) : Env → XH → R → (Env → XH → R) → R :=
  List.rec (motive := fun _ => Env → XH → R → (Env → XH → R) → R) (fun e h _ k => k e h)
    (fun o _ ih e h bad k => zone P call o.1 e h bad fun e h => Bool.rec (motive := fun _ => R) bad (ih e h bad k) (o.2.all (zlate P e h))) l

inductive ZR where
  | bad
  | ok (x : AExit) (ds : List ADef) (e : Env) (h : XH)

noncomputable def zloop (f : List ADef → Env → XH → ZR) (n : Nat) : List ADef → Env → XH → ZR :=
  Nat.rec (motive := fun _ => List ADef → Env → XH → ZR) (fun _ _ _ => .bad) (fun _ ih ds e h => match f ds e h with
    | .ok .normal ds' e' h' => ih ds' e' h'
    | x => x) n
noncomputable def zranged (ro : Option Nat) (l : Nat) (ds : List ADef) (e : Env) : Option (Value × XH) → ZR
  | some (_, h2) => match h2.get l with
    | .l L => match L.st, pendExit L.pend with
      | .busy, _ => .bad
      | _, some x => h2.putK l (.l { L with st := .exhausted }) fun h => .ok x (if ro.isNone then .mark :: ds else ds) e h
      | _, none => .bad
    | _ => .bad
  | none => .bad
noncomputable def zroOk (ro : Option Nat) (h : XH) : Bool := match ro with
  | none => true
  | some l => match h.get l with
    | .l _ => true
    | _ => false

noncomputable def zexec (P : Program) (call : ZCall) (f : FuncId) (nt : Nat) (ro : Option Nat) (n : Nat) : PCode → List ADef → Env → XH → ZR
  | .skip, ds, e, h => .ok .normal ds e h
  | .reg l, ds, e, h => zreg P call ro.isNone l ds e h .bad fun ds e h => .ok .normal ds e h
  | .draw l, ds, e, h => zdraw P call l e h .bad fun e h => .ok .normal ds e h
  | .seq x y, ds, e, h => match zexec P call f nt ro n x ds e h with
    | .ok .normal ds' e' h' => zexec P call f nt ro n y ds' e' h'
    | q => q
  | .cond c x y, ds, e, h => match ev e.fr c with
    | .bool true => zexec P call f nt ro n x ds e h
    | .bool false => zexec P call f nt ro n y ds e h
    | _ => .bad
  | .block id x, ds, e, h => match zexec P call f nt ro n x ds e h with
    | .ok (.exit i) ds' e' h' => .ok (if i = id then .normal else .exit i) ds' e' h'
    | q => q
  | .loop x, ds, e, h => zloop (zexec P call f nt ro n x) n ds e h
  | .exit id, ds, e, h => .ok (.exit id) ds e h
  | .ret, ds, e, h => .ok .ret ds e h
  | .rangeF g ps asg body pa pb, ds, e, h => match ev e.fr g with
    | .func (.func k) first cap => if zroOk ro h then h.pushK (.l ⟨f, nt, e, ps, asg, body, pa, pb, .ready, none⟩) fun h' => zranged ro h.n ds e (call (.func k) (first.toList ++ [.func (.yield h.n) #[] #[]] ++ cap.toList) h') else .bad
    | _ => .bad

noncomputable def zsetps : Env → List (Tmp × Value) → Env
  | t, [] => t
  | t, (p, v) :: l => zsetps (.cons p v t) l

noncomputable def zyield (P : Program) (call : ZCall) (pl : FuncId → Plan) (n : Nat) (b : Nat) (args : List Value) (h : XH) : Option (Value × XH) :=
  match h.get b with
  | .l L => if (args.length == L.ps.size && isReady L.st && (L.ps.all (· < L.n) && (codeOk P L.n (pl L.f) L.asg && codeOk P L.n (pl L.f) L.body))) = true then
      match zexec P call L.f L.n (some b) n L.pasg [] (zsetps L.t (L.ps.toList.zip args)) h with
      | .ok .normal _ t1 h1 => match h1.get b with
        | .l L1 => if isReady L1.st = true then
            h1.putK b (.l { L1 with st := .busy }) fun h1 => match zexec P call L.f L.n (some b) n L.pbody [] t1 h1 with
            | .ok x _ _ h3 => match h3.get b with
              | .l L3 => h3.putK b (.l { L3 with st := if x.code.isNone then .ready else .done, pend := x.code }) fun h4 => some (.bool x.code.isNone, h4)
              | _ => none
            | .bad => none
          else none
        | _ => none
      | _ => none
    else none
  | _ => none

abbrev ZDCall := FuncId → List Value → XH → Option XH
noncomputable def zleave (dcall : ZDCall) : List ADef → XH → Option XH
  | [], h => some h
  | .mark :: ds, h => zleave dcall ds h
  | .fn g args :: ds, h => match dcall g args h with
    | some h' => zleave dcall ds h'
    | none => none

noncomputable def zofArgs : List Value → Nat → Env
  | [], _ => .nil
  | v :: l, i => .cons i v (zofArgs l (Nat.succ i))

noncomputable def zfunc (P : Program) (call : ZCall) (dcall : ZDCall) (n : Nat) (f : FuncId) (p : PF) (args : List Value) (h : XH) : Option (Value × XH) :=
  if args.length ≤ p.nt then (match zexec P call f p.nt none n p.pc [] (zofArgs args 0) h with
    | .ok (.exit _) _ _ _ => none
    | .ok _ ds e' h' => match zleave dcall ds h' with
      | some h'' => match pres e'.fr h''.hp p.res with
        | some vs => valK (packed vs) fun v => some (v, h'')
        | none => none
      | none => none
    | .bad => none) else none

noncomputable def zcallN (P : Program) (base : ZCall) (dcall : ZDCall) (pl : FuncId → Plan) (pf : FuncId → Option PF) (n : Nat) : ZCall :=
  Nat.rec (motive := fun _ => ZCall) (fun _ _ _ => none) (fun n ih => fun g args h => match g with
    | .func f => match pf f with
      | some p => zfunc P ih dcall n f p args h
      | none => base (.func f) args h
    | .yield b => zyield P ih pl n b args h
    | _ => none) n

end Am
end Go.Proofs.YtbpabpnpoidpcaaGreatDoor
