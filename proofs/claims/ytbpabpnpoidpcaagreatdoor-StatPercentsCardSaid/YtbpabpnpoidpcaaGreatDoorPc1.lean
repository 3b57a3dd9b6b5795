/- Code with its types' facts laid in: operations, and that the abstract machine does the same. No conditions. -/
import Derived.Test.YtbpabpnpoidpcaaGreatDoorAbsj
set_option linter.unusedVariables false
set_option linter.unusedSimpArgs false
namespace Go.Proofs.YtbpabpnpoidpcaaGreatDoor
namespace Am
open Go Go.RowKit

/-- What is sliced or indexed: a string, a slice of elements of so many cells, an array of so many elements of so many cells. -/
inductive SK where
  | str
  | sl (sz : Nat)
  | arr (n sz : Nat)

inductive POp where
  | mv (x : Operand)
  | load (l : Option Nat) (a : Operand)
  | nil (x : Operand)
  | bin (op : BinOp) (k : Kd) (x y : Operand)
  | un (op : UnOp) (x : Operand)
  | cint (k : IntKind) (x : Operand)
  | cstr (b : Bool) (x : Operand)
  | cbytes (x : Operand)
  | iface (T : TypeId) (x : Operand)
  | fn (g : FuncId) (first cap : List Operand)
  | slice (k : SK) (x : Operand) (lo hi mx : Option Operand)
  | fieldAddr (off : Nat) (x : Operand)
  | field (off : Nat) (l : Option Nat) (x : Operand)
  | indexAddr (k : SK) (x i : Operand)
  | index (x i : Operand)
  | extract (x : Operand) (i : Nat)
  | alloc (e : Nat) (zs : List Value)
  | box (e : Nat) (x : Operand)
  | buildSlice (sz n : Nat) (ps : List (Nat × Operand))
  | build (zs : List Value) (pl : List (Nat × Nat)) (ps : List (Nat × Operand))
  | store (n : Nat) (a x : Operand)
  | makeSlice (sz bys : Nat) (zs : List Value) (l c : Operand)
  | len (k : Kd) (x : Operand)
  | append (sz bys : Nat) (str : Bool) (s x : Operand)
  | copy (sz : Nat) (str : Bool) (d s : Operand)
  | raw (o : Op)
  | call (g : FuncId) (args : List Operand)
  | callv (f : Operand) (args : List Operand)
  | invoke (r : Operand) (name : String) (args : List Operand)
  | defer (f : Operand)

/-! ### What the operations come to -/
def pload (H : Hp) (l : Option Nat) : Value → Option Value
  | .pointer (some ⟨b, o, none⟩) => match H.f b with
    | .cells _ _ cs => match l with
      | none => cs[o]?
      | some n => if o + n ≤ cs.length then some (.agg ((cs.drop o).take n).toArray) else none
    | _ => none
  | _ => none
theorem pload_eq {P : Program} {H : Hp} {T : TypeId} {l : Option Nat} (h : lay P T = some l) (v : Value) : aload P H T v = pload H l v := by
  unfold aload pload
  split
  · rename_i b o
    rw [h]
    cases hf : H.f b <;> cases l <;> simp [hf]
  · rename_i hn
    split
    · rename_i b o
      exact absurd rfl (hn b o)
    · rfl

def peq (P : Program) (k : Kd) (lit : Bool) : Value → Value → Option Bool
  | .pointer (some _), .pointer none | .pointer none, .pointer (some _) => match k with
    | .ptr => some false
    | _ => none
  | .pointer none, .pointer none => match k with
    | .ptr => some true
    | _ => none
  | .slice none _ _, .slice none _ _ => match k with
    | .sl => some true
    | _ => none
  | .slice (some _) _ _, .slice none _ _ => match k with
    | .sl => some false
    | _ => none
  | .map none, .map none => match k with
    | .mp => some true
    | _ => none
  | .map (some _), .map none => match k with
    | .mp => some false
    | _ => none
  | .nilFunc, .nilFunc => match k with
    | .fn => some true
    | _ => none
  | .func _ _ _, .nilFunc => match k with
    | .fn => some false
    | _ => none
  | .nilIface, .nilIface => match k with
    | .ifc => if lit then some true else none
    | _ => none
  | .nilIface, .iface _ _ | .iface _ _, .nilIface => match k with
    | .ifc => some false
    | _ => none
  | .iface t v, .iface u x => match k with
    | .ifc => if t = u then
        (match v, x with
          | .int i a, .int i' b => if i = i' ∧ cmpInt P t = true then some (decide (a = b)) else none
          | _, _ => none)
      else some false
    | _ => none
  | .bool a, .bool b => match k with
    | .bl => some (a == b)
    | _ => none
  | _, _ => none
theorem peq_eq {P : Program} {T : TypeId} {k : Kd} (h : kd P T = k) (lit : Bool) (x y : Value) : aeq P T lit x y = peq P k lit x y := by
  subst h
  rfl

def pbin (P : Program) (op : BinOp) (k : Kd) (lit : Bool) (x y : Value) : Option Value :=
  match sbin op x y with
  | some v => some v
  | none => match op with
    | .eql => (peq P k lit x y).map .bool
    | .neq => (peq P k lit x y).map fun b => .bool !b
    | _ => none
theorem pbin_eq {P : Program} {op : BinOp} {T : TypeId} {k : Kd} (h : kd P T = k) (lit : Bool) (x y : Value) : abin P op T lit x y = pbin P op k lit x y := by
  unfold abin pbin
  cases sbin op x y with
  | some v => rfl
  | none => cases op <;> simp only [peq_eq h]

def pcint (k : IntKind) : Value → Option Value
  | .int _ n => some (.int k (k.wrap n))
  | _ => none
def pcstr (H : Hp) (b : Bool) : Value → Option Value
  | .string s => some (.string s)
  | .slice (some ⟨c, o, none⟩) len _ => if b then match H.f c with
      | .cells _ _ cs => if o + len ≤ cs.length then (cellBytes ((cs.drop o).take len)).map fun ns => .string (strOfNums ns) else none
      | _ => none
    else none
  | .slice none _ _ => if b then some (.string .empty) else none
  | _ => none
def pcbytes (H : Hp) : Value → Option (Value × Hp)
  | .string s => some (.slice (some ⟨H.n, 0, none⟩) s.size s.size, H.alloc (.cells false 1 (byteCells s)))
  | _ => none

def pslice (H : Hp) (k : SK) (x : Value) (lo hi mx : Option Value) : Option Value :=
  match k, x with
  | .str, .string s => if mx.isNone then
      match bound s.size s.size hi with
      | some h => match bound 0 h lo with
        | some l => some (.string (s.extract l h))
        | none => none
      | none => none
    else none
  | .sl sz, .slice a len cap => if mx.isSome && hi.isNone then none else
      match bound cap cap mx with
      | some m => match bound len m hi with
        | some h => match bound 0 h lo with
          | some l => match a with
            | some ⟨b, o, none⟩ => match H.f b with
              | .cells _ z _ => if z = sz then some (.slice (some ⟨b, o + l * sz, none⟩) (h - l) (m - l)) else none
              | _ => none
            | none => if cap = 0 ∧ len = 0 then some (.slice none 0 0) else none
            | _ => none
          | none => none
        | none => none
      | none => none
  | .arr n sz, .pointer (some ⟨b, o, none⟩) => if mx.isSome && hi.isNone then none else
      match bound n n mx with
      | some m => match bound n m hi with
        | some h => match bound 0 h lo with
          | some l => match H.f b with
            | .cells _ z cs => if z = sz ∧ o + n * sz ≤ cs.length then some (.slice (some ⟨b, o + l * sz, none⟩) (h - l) (m - l)) else none
            | _ => none
          | none => none
        | none => none
      | none => none
  | _, _ => none

/-- What an index or a slice is of. -/
def skOf (P : Program) (T : TypeId) : Option SK := if isStr P T then some .str else match slSz P T with
  | some sz => some (.sl sz)
  | none => match arrSz P T with
    | some (n, sz) => some (.arr n sz)
    | none => none

theorem pslice_eq {P : Program} {H : Hp} {T : TypeId} {k : SK} (h : skOf P T = some k) {x : Value} {lo hi mx : Option Value} {v : Value} (hv : pslice H k x lo hi mx = some v) : aslice P H T x lo hi mx = some v := by
  unfold skOf at h
  unfold pslice at hv
  split at hv
  · rename_i s
    split at h
    · rename_i hs
      unfold aslice
      simp only [hs, Bool.and_true]
      exact hv
    · split at h <;> (try split at h) <;> cases h
  · rename_i sz a len cap
    split at h
    · cases h
    · split at h
      · rename_i z hz
        cases h
        unfold aslice
        simp only [hz]
        exact hv
      · split at h <;> cases h
  · rename_i n sz b o
    split at h
    · cases h
    · split at h
      · cases h
      · rename_i hz
        split at h
        · rename_i n' s' ha
          cases h
          unfold aslice
          simp only [ha]
          exact hv
        · cases h
  · cases hv

def pfieldAddr (off : Nat) : Value → Option Value
  | .pointer (some ⟨b, o, none⟩) => some (.pointer (some ⟨b, o + off, none⟩))
  | _ => none
def pfield (off : Nat) (l : Option Nat) : Value → Option Value
  | .agg cs => apart cs.toList off l
  | _ => none
def pindexAddr (k : SK) (x i : Value) : Option Value :=
  match i with
  | .int _ n => match k, x with
    | .sl sz, .slice (some ⟨b, o, none⟩) len _ => if 0 ≤ n ∧ n < len then some (.pointer (some ⟨b, o + n.toNat * sz, none⟩)) else none
    | .arr len sz, .pointer (some ⟨b, o, none⟩) => if 0 ≤ n ∧ n < len then some (.pointer (some ⟨b, o + n.toNat * sz, none⟩)) else none
    | _, _ => none
  | _ => none
theorem pindexAddr_eq {P : Program} {T : TypeId} {k : SK} (h : skOf P T = some k) {x i v : Value} (hv : pindexAddr k x i = some v) : aindexAddr P T x i = some v := by
  unfold skOf at h
  unfold pindexAddr at hv
  unfold aindexAddr
  split at hv
  · rename_i n
    split at hv
    · rename_i sz b o len cap
      split at h
      · cases h
      · split at h
        · rename_i z hz; cases h; simp only [hz]; exact hv
        · split at h <;> cases h
    · rename_i len sz b o
      split at h
      · cases h
      · split at h
        · cases h
        · split at h
          · rename_i n' s' ha; cases h; simp only [ha]; exact hv
          · cases h
    · cases hv
  · cases hv
def pindex (x i : Value) : Option Value :=
  match i with
  | .int _ n => match x with
    | .string s => if 0 ≤ n then (s[n.toNat]?).map fun b => .int .u8 b.toNat else none
    | _ => none
  | _ => none

def palloc (H : Hp) (e : Nat) (zs : List Value) : Value × Hp := (.pointer (some ⟨H.n, 0, none⟩), H.alloc (.cells false e zs))
def pbox (H : Hp) (e : Nat) (x : Value) : Option (Value × Hp) := (vcells x).map fun l => (.pointer (some ⟨H.n, 0, none⟩), H.alloc (.cells false e l))
def pbuildSlice (H : Hp) (sz len : Nat) (ps : List (Nat × Value)) : Option (Value × Hp) :=
  if ps.length = len ∧ len * sz ≤ 16777216 then
    (plain_parts sz 0 ps).map fun cs => (.slice (some ⟨H.n, 0, none⟩) len len, H.alloc (.cells false sz cs))
  else none
def pbuild (zs : List Value) (pl : List (Nat × Nat)) (ps : List (Nat × Value)) : Option Value :=
  if (ps.all fun p => (vcells p.2).isSome) = true then (Instr.fill (pl.toArray[·]?) zs.toArray ps).map .agg else none
def pstore (H : Hp) (n : Nat) (a v : Value) : Option Hp :=
  match a with
  | .pointer (some ⟨b, o, none⟩) => match H.f b, vcells v with
    | .cells false sz cs, some l => if l.length = n ∧ o + l.length ≤ cs.length then some (H.put b (.cells false sz (writeL cs o l))) else none
    | _, _ => none
  | _ => none
def pmake (H : Hp) (sz bys : Nat) (zs : List Value) : Value → Value → Option (Value × Hp)
  | .int _ l, .int _ c => if 0 ≤ l ∧ l ≤ c ∧ (bys : Int) * c ≤ 281474976710656 ∧ c ≤ 9223372036854775807 then
      some (.slice (some ⟨H.n, 0, none⟩) l.toNat c.toNat, H.alloc (.cells false sz (zrep zs c.toNat)))
    else none
  | _, _ => none
def plen (H : Hp) (k : Kd) : Value → Option Value
  | .string s => if (k == .str) = true then some (.int .i64 s.size) else none
  | .slice _ n _ => if (k == .sl) = true then some (.int .i64 n) else none
  | .map none => if (k == .mp) = true then some (.int .i64 0) else none
  | .map (some b) => if (k == .mp) = true then (match H.f b with | .map es => some (.int .i64 es.length) | _ => none) else none
  | _ => none
theorem plen_eq {P : Program} {H : Hp} {T : TypeId} {k : Kd} (h : kd P T = k) (x : Value) : alen P H T x = plen H k x := by
  subst h
  rfl

/-- The cells of what is appended or copied. -/
def psrc (H : Hp) (sz : Nat) (str : Bool) : Value → Option (Nat × List Value)
  | .slice none n _ => if n = 0 then some (0, []) else none
  | .slice (some ⟨b, o, none⟩) n _ => if n = 0 then some (0, []) else match H.f b with
    | .cells _ _ cs => if o + n * sz ≤ cs.length then some (n, (cs.drop o).take (n * sz)) else none
    | _ => none
  | .string s => if str then some (s.size, byteCells s) else none
  | _ => none
theorem psrc_eq {P : Program} {H : Hp} {tX : TypeId} {sz : Nat} {str : Bool} (h : (isStr P tX && sz == 1) = str) (x : Value) : srcCells P H tX sz x = psrc H sz str x := by
  subst h
  rfl
def pappend (H : Hp) (sz bys : Nat) (str : Bool) (s x : Value) : Option (Value × Hp) :=
  match psrc H sz str x with
  | some (m, news) => match s with
      | .slice none 0 0 => if m = 0 then some (.slice none 0 0, H) else
          if room bys m then some (.slice (some ⟨H.n, 0, none⟩) m m, H.alloc (.cells false sz news)) else none
      | .slice (some ⟨b, o, none⟩) len cap => if m = 0 then some (.slice (some ⟨b, o, none⟩) len cap, H) else
          match H.f b with
          | .cells false z cs => if z = sz then
              (if len + m ≤ cap then (if o + (len + m) * sz ≤ cs.length then some (.slice (some ⟨b, o, none⟩) (len + m) cap, H.put b (.cells false sz (writeL cs (o + len * sz) news))) else none)
              else if o + len * sz ≤ cs.length ∧ room bys (len + m) then
                some (.slice (some ⟨H.n, 0, none⟩) (len + m) (len + m), (H.put b .dead).alloc (.cells false sz ((cs.drop o).take (len * sz) ++ news)))
              else none)
            else none
          | _ => none
      | _ => none
  | none => none
def pcopy (H : Hp) (sz : Nat) (str : Bool) (d s : Value) : Option (Value × Hp) :=
  match psrc H sz str s, d with
  | some (m, news), .slice a dl _ => if min m dl = 0 then some (.int .i64 0, H) else
    match a with
    | some ⟨b, o, none⟩ => match H.f b with
      | .cells false z cs => if o + min m dl * sz ≤ cs.length then some (.int .i64 (min m dl : Nat), H.put b (.cells false z (writeL cs o (news.take (min m dl * sz))))) else none
      | _ => none
    | _ => none
  | _, _ => none

def pop (P : Program) (t : Fr) (H : Hp) : POp → Option (Value × Hp)
  | .mv x => some (ev t x, H)
  | .load l a => (pload H l (ev t a)).map fun v => (v, H)
  | .nil x => (anil (ev t x)).map fun v => (v, H)
  | .bin op k x y => (pbin P op k (isLit x || isLit y) (ev t x) (ev t y)).map fun v => (v, H)
  | .un op x => (aun op (ev t x)).map fun v => (v, H)
  | .cint k x => (pcint k (ev t x)).map fun v => (v, H)
  | .cstr b x => (pcstr H b (ev t x)).map fun v => (v, H)
  | .cbytes x => pcbytes H (ev t x)
  | .iface T x => some (.iface T (ev t x), H)
  | .fn g f c => some (.func (.func g) (f.map (ev t)).toArray (c.map (ev t)).toArray, H)
  | .slice k x lo hi mx => (pslice H k (ev t x) (lo.map (ev t)) (hi.map (ev t)) (mx.map (ev t))).map fun v => (v, H)
  | .fieldAddr off x => (pfieldAddr off (ev t x)).map fun v => (v, H)
  | .field off l x => (pfield off l (ev t x)).map fun v => (v, H)
  | .indexAddr k x i => (pindexAddr k (ev t x) (ev t i)).map fun v => (v, H)
  | .index x i => (pindex (ev t x) (ev t i)).map fun v => (v, H)
  | .extract x i => (aextract (ev t x) i).map fun v => (v, H)
  | .alloc e zs => some (palloc H e zs)
  | .box e x => pbox H e (ev t x)
  | .buildSlice sz n ps => pbuildSlice H sz n (ps.map fun p => (p.1, ev t p.2))
  | .build zs pl ps => (pbuild zs pl (ps.map fun p => (p.1, ev t p.2))).map fun v => (v, H)
  | .store n a x => (pstore H n (ev t a) (ev t x)).map fun H' => (undef, H')
  | .makeSlice sz bys zs l c => pmake H sz bys zs (ev t l) (ev t c)
  | .len k x => (plen H k (ev t x)).map fun v => (v, H)
  | .append sz bys str s x => pappend H sz bys str (ev t s) (ev t x)
  | .copy sz str d s => pcopy H sz str (ev t d) (ev t s)
  | .raw (.call c) => match c.callee with
    | .builtin b => abuiltin P H b c.argTypes.toList (c.args.toList.map (ev t))
    | _ => none
  | .raw o => aop P t H o
  | _ => none

/-! ### How operations are laid -/
def placesOf (P : Program) (T : TypeId) : Option (List (Nat × Nat)) := match P.underlying T with
  | some (.struct fields) => fields.toList.mapM (fun f => (P.info? f.type).map fun i => (f.offset, i.size))
  | _ => none
def zeroCs (P : Program) (T : TypeId) : Option (List Value) := match (P.info? T).bind (·.zero) with
  | some z => if z.cells.toList.all flat then some z.cells.toList else none
  | none => none

def rop (P : Program) (o : Op) : Option POp :=
  match o with
  | .move x | .assign x => some (.mv x)
  | .load T a => match lay P T with
    | some l => some (.load l a)
    | none => none
  | .nilCheck x => some (.nil x)
  | .binOp op T x y _ => some (.bin op (kd P T) x y)
  | .unOp op _ x => some (.un op x)
  | .convert s d x => if kd P s = .none then none else match intTo P d with
    | some k => if kd P s = .int then some (.cint k x) else none
    | none => if isStr P d then some (.cstr (isBytes P s) x) else if isStr P s && isBytes P d then some (.cbytes x) else none
  | .makeInterface T x => if kd P T = .ifc ∨ kd P T = .none then none else some (.iface T x)
  | .makeFunc (.func g) f c => some (.fn g f.toList c.toList)
  | .slice T x lo hi mx => match skOf P T with
    | some k => some (.slice k x lo hi mx)
    | none => none
  | .fieldAddr S x f => match fieldOf P S f with
    | some q => some (.fieldAddr q.1 x)
    | none => none
  | .field S x f => match fieldOf P S f with
    | some q => some (.field q.1 q.2 x)
    | none => none
  | .indexAddr T x i => match skOf P T with
    | some k => some (.indexAddr k x i)
    | none => none
  | .index T x i => if kd P T = .str then some (.index x i) else none
  | .extract x i => some (.extract x i)
  | .alloc T => match zeros P T with
    | some zs => some (.alloc (esz P T) zs)
    | none => none
  | .box T x => some (.box (esz P T) x)
  | .buildSlice T n ps => match bsT P T with
    | some sz => some (.buildSlice sz n ps.toList)
    | none => none
  | .build T ps => match zeroCs P T, placesOf P T with
    | some zs, some pl => some (.build zs pl ps.toList)
    | _, _ => some (.raw (.build T ps))
  | .store T a x => match szO P T with
    | some n => some (.store n a x)
    | none => none
  | .makeSlice T l c => match mkT P T with
    | some (sz, b, zs) => some (.makeSlice sz b zs l c)
    | none => none
  | .call c => match c.callee with
    | .builtin .len => match c.argTypes.toList, c.args.toList with
      | [T], [x] => some (.len (kd P T) x)
      | _, _ => none
    | .builtin .append => match c.argTypes.toList, c.args.toList with
      | [tS, tX], [s, x] => match apT P tS tX with
        | some (sz, b) => some (.append sz b (isStr P tX && sz == 1) s x)
        | none => some (.raw (.call c))
      | _, _ => none
    | .builtin .copy => match c.argTypes.toList, c.args.toList with
      | [tD, tS], [d, s] => match slSz P tD with
        | some sz => some (.copy sz (isStr P tS && sz == 1) d s)
        | none => none
      | _, _ => none
    | .builtin _ => some (.raw (.call c))
    | .value (.func g) => some (.call g c.args.toList)
    | .value f => some (.callv f c.args.toList)
    | .invoke r name => some (.invoke r name c.args.toList)
  | .defer c => match c.callee with
    | .value f => if c.args.isEmpty then some (.defer f) else none
    | _ => none
  | o => some (.raw o)

end Am
end Go.Proofs.YtbpabpnpoidpcaaGreatDoor
