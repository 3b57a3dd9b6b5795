/- Rules by which a proof runs prepared code: simp lemmas. No conditions. -/
import Derived.Test.YtbpabpnpoidpcaaGreatDoorPc4
import Derived.IntWalk
set_option linter.unusedVariables false
set_option linter.unusedSimpArgs false
namespace Go.Proofs.YtbpabpnpoidpcaaGreatDoor
namespace Am
open Go Go.RowKit

def bindV (o : Option Value) (f : Value → Prop) : Prop := match o with
  | some v => f v
  | none => False
@[congr] theorem bindV_congr {o o' : Option Value} {f : Value → Prop} (h : o = o') : bindV o f = bindV o' f := by rw [h]
@[go_sem] theorem bindV_some {v : Value} {f : Value → Prop} : bindV (some v) f = rel (f v) := id rfl
def bindB (o : Option Blk) (f : Blk → Prop) : Prop := match o with
  | some v => f v
  | none => False
@[congr] theorem bindB_congr {o o' : Option Blk} {f : Blk → Prop} (h : o = o') : bindB o f = bindB o' f := by rw [h]
@[go_sem] theorem bindB_some {v : Blk} {f : Blk → Prop} : bindB (some v) f = rel (f v) := id rfl
theorem bindP_mapV {o : Option Value} {H : Hp} {f : Value → Hp → Prop} : bindP (o.map fun v => (v, H)) f = bindV o fun v => f v H := by cases o <;> rfl
@[go_sem] theorem bindP_some' {v : Value} {H : Hp} {f : Value → Hp → Prop} : bindP (some (v, H)) f = rel (f v H) := id rfl
@[go_sem] theorem bcond_true' {p q : Prop} : bcond (.bool true) p q = rel p := id rfl
@[go_sem] theorem bcond_false' {p q : Prop} : bcond (.bool false) p q = rel q := id rfl
@[go_sem] theorem guardP_tt' {p q : Prop} : guardP (.bool true) true p q = rel p := id rfl
@[go_sem] theorem guardP_ff' {p q : Prop} : guardP (.bool false) false p q = rel p := id rfl
@[go_sem] theorem guardP_tf' {p q : Prop} : guardP (.bool true) false p q = rel q := id rfl
@[go_sem] theorem guardP_ft' {p q : Prop} : guardP (.bool false) true p q = rel q := id rfl
@[go_sem] theorem guardP_undef' {want : Bool} {p q : Prop} : guardP undef want p q = rel q := by simp [guardP_undef, rel]
@[go_sem] theorem fnv_func' {g : Fn} {a b : Array Value} {f : Fn → List Value → List Value → Prop} : fnv (.func g a b) f = f g a.toList b.toList := id rfl
@[go_sem] theorem ifv_iface' {T : TypeId} {u : Value} {f : TypeId → Value → Prop} : ifv (.iface T u) f = f T u := id rfl
@[go_sem] theorem mthP_some' {g : FuncId} {f : FuncId → Prop} : mthP (some g) f = f g := id rfl
theorem bc {b : Bool} {p q : Prop} (h1 : b = true → rel p) (h2 : b = false → rel q) : bcond (.bool b) p q := bcond_of h1 h2
theorem bcd {c : Prop} [Decidable c] {p q : Prop} (h1 : c → rel p) (h2 : ¬ c → rel q) : bcond (.bool (decide c)) p q := bcond_dec h1 h2
theorem cal {M : Mc} {g : Fn} {args : List Value} {H : Hp} {f f' : Value → Hp → Prop} (h : callP M g args H f) (k : ∀ v H', f v H' → rel (f' v H')) : callP M g args H f' := h.mono k
@[go_sem] theorem rel_run' {M : Mc} {f : FuncId} {nt : Nat} {ro : Option Nat} {k : List It} {ds : List ADef} {t : Fr} {H : Hp} {K : AExit → List ADef → Fr → Hp → Prop} : rel (lrun M f nt ro k ds t H K) = run M f nt ro none k ds t H K := id rfl
@[go_sem] theorem rel_land' {M : Mc} {f : FuncId} {nt : Nat} {ro : Option Nat} {k : List It} {ds : List ADef} {t : Fr} {H : Hp} {K : AExit → List ADef → Fr → Hp → Prop} {p : Prop} : rel (land p (lrun M f nt ro k ds t H K)) = (p ∧ run M f nt ro none k ds t H K) := id rfl
theorem bindV_ex {o : Option Value} {f : Value → Prop} {v : Value} (h : o = some v) (k : f v) : bindV o f := by rw [h]; exact k

/-! ### Frames -/
@[go_sem] theorem ev_tmp {t : Fr} {i : Nat} : ev t (.tmp i) = t i := id rfl
@[go_sem] theorem ev_const {t : Fr} {v : Value} : ev t (.const v) = v := id rfl
@[go_sem] theorem ev_func {t : Fr} {f : FuncId} : ev t (.func f) = .func (.func f) #[] #[] := id rfl
@[go_sem] theorem aput_some {t : Fr} {d : Nat} {v : Value} : aput t (some d) v = upd t d v := id rfl
@[go_sem] theorem aput_none {t : Fr} {v : Value} : aput t none v = t := id rfl
theorem upd_at {α : Type} {f : Nat → α} {i j : Nat} {v : α} : upd f i v j = if j = i then v else f j := id rfl
@[go_sem] theorem isLit_tmp {i : Nat} : isLit (.tmp i) = false := id rfl
@[go_sem] theorem isLit_const {v : Value} : isLit (.const v) = true := id rfl

/-- The number that a value is. -/
def cnt : Value → Nat
  | .int _ n => n.toNat
  | _ => 0
@[go_sem] theorem cnt_int {k : IntKind} {n : Int} : cnt (.int k n) = n.toNat := id rfl

/-! ### Heaps -/
@[go_sem] theorem alloc_n {H : Hp} {B : Blk} : (H.alloc B).n = H.n + 1 := id rfl
@[go_sem] theorem put_n {H : Hp} {b : Nat} {B : Blk} : (H.put b B).n = H.n := id rfl
@[go_sem] theorem alloc_new {H : Hp} {B : Blk} : (H.alloc B).f H.n = B := by simp [Hp.alloc]
theorem alloc_f {H : Hp} {B : Blk} {b : Nat} : (H.alloc B).f b = if b = H.n then B else H.f b := id rfl
theorem alloc_old {H : Hp} {B : Blk} {b : Nat} (h : b < H.n) : (H.alloc B).f b = H.f b := by rw [alloc_f, if_neg (by omega)]
@[go_sem] theorem put_same {H : Hp} {B : Blk} {b : Nat} : (H.put b B).f b = B := by simp [Hp.put]
theorem put_f {H : Hp} {B : Blk} {b c : Nat} : (H.put b B).f c = if c = b then B else H.f c := id rfl
theorem put_ne {H : Hp} {B : Blk} {b c : Nat} (h : c ≠ b) : (H.put b B).f c = H.f c := by rw [put_f, if_neg h]
theorem Ext.put {H K : Hp} {B : Blk} {b : Nat} (h : Ext H K) (hb : H.n ≤ b) : Ext H (K.put b B) := ⟨h.1, fun c hc => by rw [put_ne (by omega)]; exact h.2 c hc⟩
theorem Ext.alloc' {H K : Hp} {B : Blk} (h : Ext H K) : Ext H (K.alloc B) := ⟨Nat.le_succ_of_le h.1, fun c hc => by rw [alloc_old (Nat.lt_of_lt_of_le hc h.1)]; exact h.2 c hc⟩

/-! ### Operations -/
section
variable {M : Mc} {top : Bool} {ds : List ADef} {t : Fr} {H : Hp} {f : List ADef → Value → Hp → Prop}
@[go_sem] theorem opQ_mv {x : Operand} : opQ M top (.mv x) ds t H f = rel (f ds (ev t x) H) := id rfl
@[go_sem] theorem opQ_load {l : Option Nat} {a : Operand} : opQ M top (.load l a) ds t H f = bindV (pload H l (ev t a)) fun v => f ds v H := bindP_mapV
@[go_sem] theorem opQ_nil {x : Operand} : opQ M top (.nil x) ds t H f = bindV (anil (ev t x)) fun v => f ds v H := bindP_mapV
@[go_sem] theorem opQ_bin {o : BinOp} {k : Kd} {x y : Operand} : opQ M top (.bin o k x y) ds t H f = bindV (pbin M.P o k (isLit x || isLit y) (ev t x) (ev t y)) fun v => f ds v H := bindP_mapV
@[go_sem] theorem opQ_un {o : UnOp} {x : Operand} : opQ M top (.un o x) ds t H f = bindV (aun o (ev t x)) fun v => f ds v H := bindP_mapV
@[go_sem] theorem opQ_cint {k : IntKind} {x : Operand} : opQ M top (.cint k x) ds t H f = bindV (pcint k (ev t x)) fun v => f ds v H := bindP_mapV
@[go_sem] theorem opQ_cstr {b : Bool} {x : Operand} : opQ M top (.cstr b x) ds t H f = bindV (pcstr H b (ev t x)) fun v => f ds v H := bindP_mapV
@[go_sem] theorem opQ_cbytes {x : Operand} : opQ M top (.cbytes x) ds t H f = bindP (pcbytes H (ev t x)) (f ds) := id rfl
@[go_sem] theorem opQ_iface {T : TypeId} {x : Operand} : opQ M top (.iface T x) ds t H f = rel (f ds (.iface T (ev t x)) H) := id rfl
@[go_sem] theorem opQ_fn {g : FuncId} {a b : List Operand} : opQ M top (.fn g a b) ds t H f = rel (f ds (.func (.func g) (a.map (ev t)).toArray (b.map (ev t)).toArray) H) := id rfl
@[go_sem] theorem opQ_slice {k : SK} {x : Operand} {lo hi mx : Option Operand} : opQ M top (.slice k x lo hi mx) ds t H f = bindV (pslice H k (ev t x) (lo.map (ev t)) (hi.map (ev t)) (mx.map (ev t))) fun v => f ds v H := bindP_mapV
@[go_sem] theorem opQ_fieldAddr {o : Nat} {x : Operand} : opQ M top (.fieldAddr o x) ds t H f = bindV (pfieldAddr o (ev t x)) fun v => f ds v H := bindP_mapV
@[go_sem] theorem opQ_field {o : Nat} {l : Option Nat} {x : Operand} : opQ M top (.field o l x) ds t H f = bindV (pfield o l (ev t x)) fun v => f ds v H := bindP_mapV
@[go_sem] theorem opQ_indexAddr {k : SK} {x i : Operand} : opQ M top (.indexAddr k x i) ds t H f = bindV (pindexAddr k (ev t x) (ev t i)) fun v => f ds v H := bindP_mapV
@[go_sem] theorem opQ_index {x i : Operand} : opQ M top (.index x i) ds t H f = bindV (pindex (ev t x) (ev t i)) fun v => f ds v H := bindP_mapV
@[go_sem] theorem opQ_extract {x : Operand} {i : Nat} : opQ M top (.extract x i) ds t H f = bindV (aextract (ev t x) i) fun v => f ds v H := bindP_mapV
@[go_sem] theorem opQ_alloc {e : Nat} {zs : List Value} : opQ M top (.alloc e zs) ds t H f = rel (f ds (.pointer (some ⟨H.n, 0, none⟩)) (H.alloc (.cells false e zs))) := id rfl
@[go_sem] theorem opQ_box {e : Nat} {x : Operand} : opQ M top (.box e x) ds t H f = bindP (pbox H e (ev t x)) (f ds) := id rfl
@[go_sem] theorem opQ_buildSlice {sz n : Nat} {ps : List (Nat × Operand)} : opQ M top (.buildSlice sz n ps) ds t H f = bindP (pbuildSlice H sz n (ps.map fun p => (p.1, ev t p.2))) (f ds) := id rfl
@[go_sem] theorem opQ_build {zs : List Value} {pl : List (Nat × Nat)} {ps : List (Nat × Operand)} : opQ M top (.build zs pl ps) ds t H f = bindV (pbuild zs pl (ps.map fun p => (p.1, ev t p.2))) fun v => f ds v H := bindP_mapV
/-- A block behind a store. -/
def pstoreB (B : Blk) (n o : Nat) (v : Value) : Option Blk := match B, vcells v with
  | .cells false sz cs, some l => if l.length = n ∧ o + l.length ≤ cs.length then some (.cells false sz (writeL cs o l)) else none
  | _, _ => none
def pstoreA (H : Hp) (n : Nat) (a v : Value) (f : Hp → Prop) : Prop := match a with
  | .pointer (some ⟨b, o, none⟩) => bindB (pstoreB (H.f b) n o v) fun B => f (H.put b B)
  | _ => False
@[congr] theorem pstoreA_congr {n : Nat} {a v a' v' : Value} {f : Hp → Prop} (h : a = a') (k : v = v') : pstoreA H n a v f = pstoreA H n a' v' f := by rw [h, k]
@[go_sem] theorem pstoreA_ptr {n b o : Nat} {v : Value} {f : Hp → Prop} : pstoreA H n (.pointer (some ⟨b, o, none⟩)) v f = bindB (pstoreB (H.f b) n o v) fun B => f (H.put b B) := id rfl
@[go_sem] theorem opQ_store {n : Nat} {a x : Operand} : opQ M top (.store n a x) ds t H f = pstoreA H n (ev t a) (ev t x) fun H => f ds undef H := by
  show bindP ((pstore H n (ev t a) (ev t x)).map fun H' => (undef, H')) (f ds) = _
  generalize ev t a = A
  generalize ev t x = X
  cases A with
  | pointer q =>
    cases q with
    | none => rfl
    | some q =>
      obtain ⟨b, o, s⟩ := q
      cases s with
      | some s => rfl
      | none =>
        simp only [pstore, pstoreA, pstoreB]
        cases hB : H.f b with
        | cells ro sz cs =>
          cases ro with
          | true => rfl
          | false =>
            cases vcells X with
            | none => rfl
            | some l =>
              simp only []
              by_cases hc : l.length = n ∧ o + l.length ≤ cs.length
              · simp only [if_pos hc]; rfl
              · simp only [if_neg hc]; rfl
        | _ => rfl
  | _ => rfl
@[go_sem] theorem opQ_makeSlice {sz bys : Nat} {zs : List Value} {l c : Operand} : opQ M top (.makeSlice sz bys zs l c) ds t H f = bindP (pmake H sz bys zs (ev t l) (ev t c)) (f ds) := id rfl
@[go_sem] theorem opQ_len {k : Kd} {x : Operand} : opQ M top (.len k x) ds t H f = bindV (plen H k (ev t x)) fun v => f ds v H := bindP_mapV
@[go_sem] theorem opQ_append {sz bys : Nat} {s : Bool} {x y : Operand} : opQ M top (.append sz bys s x y) ds t H f = bindP (pappend H sz bys s (ev t x) (ev t y)) (f ds) := id rfl
@[go_sem] theorem opQ_copy {sz : Nat} {s : Bool} {x y : Operand} : opQ M top (.copy sz s x y) ds t H f = bindP (pcopy H sz s (ev t x) (ev t y)) (f ds) := id rfl
/-- One value or another. -/
def pickV (c a b : Value) : Option Value := match c with
  | .bool true => some a
  | .bool false => some b
  | _ => none
@[go_sem] theorem pickV_true {a b : Value} : pickV (.bool true) a b = some a := id rfl
@[go_sem] theorem pickV_false {a b : Value} : pickV (.bool false) a b = some b := id rfl
@[go_sem] theorem opQ_pick {c a b : Operand} : opQ M top (.raw (.pick c a b)) ds t H f = bindV (pickV (ev t c) (ev t a) (ev t b)) fun v => f ds v H := by
  show bindP ((aval M.P t H (.pick c a b)).map fun v => (v, H)) (f ds) = _
  rw [bindP_mapV]
  rfl
@[go_sem] theorem opQ_call {g : FuncId} {args : List Operand} : opQ M top (.call g args) ds t H f = callP M (.func g) (args.map (ev t)) H (f ds) := id rfl
@[go_sem] theorem opQ_callv {x : Operand} {args : List Operand} : opQ M top (.callv x args) ds t H f = fnv (ev t x) fun g a b => callP M g (a ++ args.map (ev t) ++ b) H (f ds) := id rfl
@[go_sem] theorem opQ_invoke {x : Operand} {nm : String} {args : List Operand} : opQ M top (.invoke x nm args) ds t H f = ifv (ev t x) fun T u => mthP (mth M.P T nm) fun g => callP M (.func g) (u :: args.map (ev t)) H (f ds) := id rfl
end

/-! ### Values -/
section
variable {P : Program} {k : Kd} {lit : Bool} {K K' : IntKind} {a b : Int}
@[go_sem] theorem pbin_add : pbin P .add k lit (.int K a) (.int K b) = some (.int K (K.wrap (a + b))) := by simp [pbin, sbin]
@[go_sem] theorem pbin_sub : pbin P .sub k lit (.int K a) (.int K b) = some (.int K (K.wrap (a - b))) := by simp [pbin, sbin]
@[go_sem] theorem pbin_mul : pbin P .mul k lit (.int K a) (.int K b) = some (.int K (K.wrap (a * b))) := by simp [pbin, sbin]
theorem pbin_quo (h : b ≠ 0) : pbin P .quo k lit (.int K a) (.int K b) = some (.int K (K.wrap (a.tdiv b))) := by simp [pbin, sbin, h]
theorem pbin_rem (h : b ≠ 0) : pbin P .rem k lit (.int K a) (.int K b) = some (.int K (a.tmod b)) := by simp [pbin, sbin, h]
@[go_sem] theorem pbin_eql : pbin P .eql k lit (.int K a) (.int K b) = some (.bool (decide (a = b))) := by simp [pbin, sbin]
@[go_sem] theorem pbin_neq : pbin P .neq k lit (.int K a) (.int K b) = some (.bool (decide (a ≠ b))) := by simp [pbin, sbin]
@[go_sem] theorem pbin_lss : pbin P .lss k lit (.int K a) (.int K b) = some (.bool (decide (a < b))) := by simp [pbin, sbin]
@[go_sem] theorem pbin_leq : pbin P .leq k lit (.int K a) (.int K b) = some (.bool (decide (a ≤ b))) := by simp [pbin, sbin]
@[go_sem] theorem pbin_gtr : pbin P .gtr k lit (.int K a) (.int K b) = some (.bool (decide (b < a))) := by simp [pbin, sbin]
@[go_sem] theorem pbin_geq : pbin P .geq k lit (.int K a) (.int K b) = some (.bool (decide (b ≤ a))) := by simp [pbin, sbin]
/-- And, or, exclusive or of a kind's numbers. -/
def bAnd (K : IntKind) (a b : Int) : Int := K.wrap (BitVec.ofInt K.bits a &&& BitVec.ofInt K.bits b).toNat
def bOr (K : IntKind) (a b : Int) : Int := K.wrap (BitVec.ofInt K.bits a ||| BitVec.ofInt K.bits b).toNat
def bXor (K : IntKind) (a b : Int) : Int := K.wrap (BitVec.ofInt K.bits a ^^^ BitVec.ofInt K.bits b).toNat
def bShl (K : IntKind) (a b : Int) : Int := K.wrap (a * 2 ^ (min b.toNat K.bits))
def bShr (K : IntKind) (a b : Int) : Int := a.fdiv (2 ^ (min b.toNat K.bits))
@[go_sem] theorem pbin_and : pbin P .and k lit (.int K a) (.int K b) = some (.int K (bAnd K a b)) := by simp [pbin, sbin, bAnd]
@[go_sem] theorem pbin_or : pbin P .or k lit (.int K a) (.int K b) = some (.int K (bOr K a b)) := by simp [pbin, sbin, bOr]
@[go_sem] theorem pbin_xor : pbin P .xor k lit (.int K a) (.int K b) = some (.int K (bXor K a b)) := by simp [pbin, sbin, bXor]
@[go_sem] theorem pbin_shl (h : 0 ≤ b) : pbin P .shl k lit (.int K a) (.int K' b) = some (.int K (bShl K a b)) := by simp [pbin, sbin, bShl, show ¬ b < 0 by omega]
@[go_sem] theorem pbin_shr (h : 0 ≤ b) : pbin P .shr k lit (.int K a) (.int K' b) = some (.int K (bShr K a b)) := by simp [pbin, sbin, bShr, show ¬ b < 0 by omega]
variable {x y : ByteArray}
theorem pbin_cat (h : x.size + y.size ≤ 9223372036854775807) : pbin P .add k lit (.string x) (.string y) = some (.string (x ++ y)) := by simp [pbin, sbin, h]
@[go_sem] theorem pbin_seq : pbin P .eql k lit (.string x) (.string y) = some (.bool (decide (x = y))) := by simp [pbin, sbin]
@[go_sem] theorem pbin_sne : pbin P .neq k lit (.string x) (.string y) = some (.bool (decide (x ≠ y))) := by simp [pbin, sbin]
theorem pbin_eqo {u v : Value} (h : sbin .eql u v = none) : pbin P .eql k lit u v = (peq P k lit u v).map .bool := by simp [pbin, h]
theorem pbin_neo {u v : Value} (h : sbin .neq u v = none) : pbin P .neq k lit u v = (peq P k lit u v).map fun b => .bool !b := by simp [pbin, h]
variable {p q : Option Addr} {T U : TypeId} {v u : Value} {l c : Nat} {d : Addr}
@[go_sem] theorem pbin_pe0 : pbin P .eql .ptr lit (.pointer (some d)) (.pointer none) = some (.bool false) := id rfl
@[go_sem] theorem pbin_pe1 : pbin P .eql .ptr lit (.pointer none) (.pointer none) = some (.bool true) := id rfl
@[go_sem] theorem pbin_pn0 : pbin P .neq .ptr lit (.pointer (some d)) (.pointer none) = some (.bool true) := id rfl
@[go_sem] theorem pbin_pn1 : pbin P .neq .ptr lit (.pointer none) (.pointer none) = some (.bool false) := id rfl
@[go_sem] theorem pbin_ie0 : pbin P .eql .ifc lit (.iface T v) .nilIface = some (.bool false) := id rfl
@[go_sem] theorem pbin_ie1 : pbin P .eql .ifc true .nilIface .nilIface = some (.bool true) := id rfl
@[go_sem] theorem pbin_in0 : pbin P .neq .ifc lit (.iface T v) .nilIface = some (.bool true) := id rfl
@[go_sem] theorem pbin_in1 : pbin P .neq .ifc true .nilIface .nilIface = some (.bool false) := id rfl
@[go_sem] theorem pbin_se0 : pbin P .eql .sl lit (.slice (some d) l c) (.slice none 0 0) = some (.bool false) := id rfl
@[go_sem] theorem pbin_se1 : pbin P .eql .sl lit (.slice none l c) (.slice none 0 0) = some (.bool true) := id rfl
@[go_sem] theorem pbin_sn0 : pbin P .neq .sl lit (.slice (some d) l c) (.slice none 0 0) = some (.bool true) := id rfl
@[go_sem] theorem pbin_sn1 : pbin P .neq .sl lit (.slice none l c) (.slice none 0 0) = some (.bool false) := id rfl
theorem pbin_be {a b : Bool} : pbin P .eql .bl lit (.bool a) (.bool b) = some (.bool (a == b)) := id rfl
theorem pbin_bn {a b : Bool} : pbin P .neq .bl lit (.bool a) (.bool b) = some (.bool (a != b)) := id rfl
@[go_sem] theorem aun_not {b : Bool} : aun .not (.bool b) = some (.bool !b) := id rfl
@[go_sem] theorem aun_neg : aun .neg (.int K a) = some (.int K (K.wrap (0 - a))) := id rfl
@[go_sem] theorem pcint_int : pcint K (.int K' a) = some (.int K (K.wrap a)) := id rfl
@[go_sem] theorem anil_ptr : anil (.pointer (some d)) = some (.pointer (some d)) := id rfl
@[go_sem] theorem anil_iface : anil (.iface T v) = some (.iface T v) := id rfl
@[go_sem] theorem anil_func {g : FuncId} {a b : Array Value} : anil (.func (.func g) a b) = some (.func (.func g) a b) := id rfl
@[go_sem] theorem pfieldAddr_ptr {b o off : Nat} : pfieldAddr off (.pointer (some ⟨b, o, none⟩)) = some (.pointer (some ⟨b, o + off, none⟩)) := id rfl
@[go_sem] theorem pfield_agg {off : Nat} {l : Option Nat} {cs : Array Value} : pfield off l (.agg cs) = apart cs.toList off l := id rfl
@[go_sem] theorem apart_none {cs : List Value} {off : Nat} : apart cs off none = cs[off]? := id rfl
@[go_sem] theorem aextract_tuple {i : Nat} {vs : List Value} (h : vs.length ≠ 1) : aextract (.tuple vs.toArray) i = vs[i]? := by simp [aextract, h]
@[go_sem] theorem aext20 {a b : Value} : aextract (.tuple #[a, b]) 0 = some a := id rfl
@[go_sem] theorem aext21 {a b : Value} : aextract (.tuple #[a, b]) 1 = some b := id rfl
@[go_sem] theorem aext30 {a b c : Value} : aextract (.tuple #[a, b, c]) 0 = some a := id rfl
@[go_sem] theorem aext31 {a b c : Value} : aextract (.tuple #[a, b, c]) 1 = some b := id rfl
@[go_sem] theorem aext32 {a b c : Value} : aextract (.tuple #[a, b, c]) 2 = some c := id rfl
@[go_sem] theorem plen_str {H : Hp} : plen H .str (.string x) = some (.int .i64 x.size) := id rfl
@[go_sem] theorem plen_sl {H : Hp} {d : Option Addr} : plen H .sl (.slice d l c) = some (.int .i64 l) := id rfl
@[go_sem] theorem pcstr_str {H : Hp} {b : Bool} : pcstr H b (.string x) = some (.string x) := id rfl
@[go_sem] theorem pcbytes_str {H : Hp} : pcbytes H (.string x) = some (.slice (some ⟨H.n, 0, none⟩) x.size x.size, H.alloc (.cells false 1 (byteCells x))) := id rfl
/-- What stands in a block. -/
def bget (B : Blk) (o : Nat) : Option Value := match B with
  | .cells _ _ cs => cs[o]?
  | _ => none
def bgets (B : Blk) (o n : Nat) : Option Value := match B with
  | .cells _ _ cs => if o + n ≤ cs.length then some (.agg ((cs.drop o).take n).toArray) else none
  | _ => none
@[go_sem] theorem bget_cells {ro : Bool} {sz : Nat} {cs : List Value} {o : Nat} : bget (.cells ro sz cs) o = cs[o]? := id rfl
@[go_sem] theorem pload_one {H : Hp} {b o : Nat} : pload H none (.pointer (some ⟨b, o, none⟩)) = bget (H.f b) o := by unfold pload bget; rfl
@[go_sem] theorem pload_n {H : Hp} {b o n : Nat} : pload H (some n) (.pointer (some ⟨b, o, none⟩)) = bgets (H.f b) o n := by unfold pload bgets; rfl
theorem bgets_cells {ro : Bool} {sz : Nat} {cs : List Value} {o n : Nat} (h : o + n ≤ cs.length) : bgets (.cells ro sz cs) o n = some (.agg ((cs.drop o).take n).toArray) := by simp [bgets, h]
theorem bgets_all {ro : Bool} {sz n : Nat} {cs : List Value} (h : cs.length = n) : bgets (.cells ro sz cs) 0 n = some (.agg cs.toArray) := by rw [bgets_cells (by omega)]; simp [← h]
theorem pstoreB_one {sz : Nat} {cs : List Value} {o : Nat} {v : Value} (hv : vcells v = some [v]) (h : o < cs.length) : pstoreB (.cells false sz cs) 1 o v = some (.cells false sz (cs.set o v)) := by
  simp [pstoreB, hv, writeL]; omega
theorem pstoreB_n {sz n : Nat} {cs : List Value} {o : Nat} {v : Value} {l : List Value} (hv : vcells v = some l) (hl : l.length = n) (h : o + n ≤ cs.length) : pstoreB (.cells false sz cs) n o v = some (.cells false sz (writeL cs o l)) := by
  simp [pstoreB, hv, hl, h]
@[go_sem] theorem vcells_int : vcells (.int K a) = some [.int K a] := id rfl
@[go_sem] theorem vcells_bool {b : Bool} : vcells (.bool b) = some [.bool b] := id rfl
@[go_sem] theorem vcells_str : vcells (.string x) = some [.string x] := id rfl
@[go_sem] theorem vcells_ptr : vcells (.pointer p) = some [.pointer p] := id rfl
@[go_sem] theorem vcells_sl : vcells (.slice p l c) = some [.slice p l c] := id rfl
@[go_sem] theorem vcells_map {m : Option Nat} : vcells (.map m) = some [.map m] := id rfl
@[go_sem] theorem vcells_nif : vcells .nilIface = some [.nilIface] := id rfl
@[go_sem] theorem vcells_if : vcells (.iface T v) = some [.iface T v] := id rfl
@[go_sem] theorem vcells_nfn : vcells .nilFunc = some [.nilFunc] := id rfl
@[go_sem] theorem vcells_fn {g : Fn} {a b : Array Value} : vcells (.func g a b) = some [.func g a b] := id rfl
theorem vcells_agg {cs : List Value} (h : ∀ v ∈ cs, v.oneCell' = true) : vcells (.agg cs.toArray) = some cs := by
  simp only [vcells]
  rw [if_pos (List.all_eq_true.2 h)]
theorem pindexAddr_sl {b o len cap sz : Nat} {i : Nat} (h : i < len) : pindexAddr (.sl sz) (.slice (some ⟨b, o, none⟩) len cap) (.int K i) = some (.pointer (some ⟨b, o + i * sz, none⟩)) := by
  simp [pindexAddr, h]
theorem pindexAddr_slI {b o len cap sz : Nat} (h0 : 0 ≤ a) (h : a < len) : pindexAddr (.sl sz) (.slice (some ⟨b, o, none⟩) len cap) (.int K a) = some (.pointer (some ⟨b, o + a.toNat * sz, none⟩)) := by
  simp [pindexAddr, h, h0]
theorem pindexAddr_arr {b o len sz : Nat} {i : Nat} (h : i < len) : pindexAddr (.arr len sz) (.pointer (some ⟨b, o, none⟩)) (.int K i) = some (.pointer (some ⟨b, o + i * sz, none⟩)) := by
  simp [pindexAddr, h]
theorem pindexAddr_arrI {b o len sz : Nat} (h0 : 0 ≤ a) (h : a < len) : pindexAddr (.arr len sz) (.pointer (some ⟨b, o, none⟩)) (.int K a) = some (.pointer (some ⟨b, o + a.toNat * sz, none⟩)) := by
  simp [pindexAddr, h, h0]
theorem pindex_str {i : Nat} (h : i < x.size) : pindex (.string x) (.int K i) = some (.int .u8 (x.data[i]'h).toNat) := by
  simp only [pindex, Int.toNat_natCast, Int.natCast_nonneg, if_true]
  rw [getElem?_pos x i h]; rfl
end

@[go_sem] theorem pres_nil {t : Fr} {H : Hp} : pres t H [] = some [] := id rfl
@[go_sem] theorem pres_tmp {t : Fr} {H : Hp} {d : Tmp} {l : List PR} : pres t H (.tmp d :: l) = (pres t H l).map (t d :: ·) := id rfl
@[go_sem] theorem packed_one {v : Value} : packed [v] = v := id rfl
@[go_sem] theorem packed_two {u v : Value} {l : List Value} : packed (u :: v :: l) = .tuple (u :: v :: l).toArray := id rfl

attribute [go_sem] List.toList_toArray List.map_cons List.map_nil List.getD_cons_zero List.getD_cons_succ List.getD_nil List.nil_append List.append_nil List.cons_append Option.map_some Option.map_none List.getElem?_cons_zero List.getElem?_cons_succ
  Bool.or_true Bool.true_or Bool.or_false Bool.false_or Bool.or_self Bool.not_true Bool.not_false true_and and_true List.forall_mem_cons List.not_mem_nil Nat.zero_add Nat.add_zero Nat.mul_one Option.isNone_none Option.isNone_some
attribute [go_sem] rn_nil rn_xnil rn_skip rn_exit rn_ret rn_done rn_xsame rn_xdone rn_xop rn_xdop rn_xcode rn_cond rn_seq rn_block rn_reg0 rn_reg rn_draw0 rn_draw rn_op rn_opg rn_dop rn_dopg isDeferP upd_at

end Am
end Go.Proofs.YtbpabpnpoidpcaaGreatDoor
