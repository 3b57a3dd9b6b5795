/- The abstract machine's operations without memory of their own: composite values, addresses, slices, interfaces. No conditions. -/
import Derived.Test.YtbpabpnpoidpcaaGreatDoorAbs2
set_option linter.unusedVariables false
set_option linter.unusedSimpArgs false
namespace Go.Proofs.YtbpabpnpoidpcaaGreatDoor
namespace Am
open Go

/-! ### Composite values -/
theorem LRel.set {r : Mp} {l l' : List Value} (h : LRel r l l') {v v' : Value} (hv : VRel r v v') (i : Nat) : LRel r (l.set i v) (l'.set i v') := by
  refine ⟨by simp [h.1], fun j a b => ?_⟩
  simp only [List.getElem_set]
  split
  · exact hv
  · exact h.2 _ _ _

theorem fold_rel {r : Mp} (off : Nat) : ∀ (cs cs' : List Value) (k : Nat) (acc acc' : Array Value), LRel r cs cs' → LRel r acc.toList acc'.toList →
    LRel r ((cs.zipIdx k).foldl (fun a (c, j) => a.setIfInBounds (off + j) c) acc).toList ((cs'.zipIdx k).foldl (fun a (c, j) => a.setIfInBounds (off + j) c) acc').toList
  | [], cs', k, acc, acc', h, ha => by
    have : cs' = [] := List.eq_nil_of_length_eq_zero (by simpa using h.1.symm)
    subst this
    simpa using ha
  | c :: cs, m, k, acc, acc', h, ha => by
    obtain ⟨c', cs', rfl, hc, hcs⟩ := h.uncons
    simp only [List.zipIdx_cons, List.foldl_cons]
    exact fold_rel off cs cs' (k + 1) _ _ hcs (by simpa using ha.set hc (off + k))

/-- Parts, by their numbers. -/
def PRel (r : Mp) (l l' : List (Nat × Value)) : Prop := l.length = l'.length ∧ ∀ i (h : i < l.length) (h' : i < l'.length), l[i].1 = l'[i].1 ∧ VRel r l[i].2 l'[i].2
theorem PRel.uncons {r : Mp} {p : Nat × Value} {l m : List (Nat × Value)} (h : PRel r (p :: l) m) : ∃ v' l', m = (p.1, v') :: l' ∧ VRel r p.2 v' ∧ PRel r l l' := by
  cases m with
  | nil => simp [PRel] at h
  | cons q l' =>
    obtain ⟨h1, h2⟩ := h
    have h0 := h2 0 (by simp) (by simp)
    simp only [List.getElem_cons_zero] at h0
    refine ⟨q.2, l', by rw [h0.1], h0.2, by simpa using h1, fun i a b => ?_⟩
    exact h2 (i + 1) (by simpa using a) (by simpa using b)

theorem fill_rel {r : Mp} (place : Nat → Option (Nat × Nat)) : ∀ (ps ps' : List (Nat × Value)) (z z' : Array Value) (cs : Array Value), PRel r ps ps' → (∀ p ∈ ps, (vcells p.2).isSome = true) → LRel r z.toList z'.toList →
    Instr.fill place z ps = some cs → ∃ cs', Instr.fill place z' ps' = some cs' ∧ LRel r cs.toList cs'.toList
  | [], ps', z, z', cs, h, _, hz, hf => by
    have : ps' = [] := List.eq_nil_of_length_eq_zero (by simpa using h.1.symm)
    subst this
    simp only [Instr.fill, Option.some.injEq] at hf
    subst hf
    exact ⟨z', by simp [Instr.fill], hz⟩
  | (i, v) :: ps, m, z, z', cs, h, hv, hz, hf => by
    obtain ⟨v', ps', rfl, hvr, hps⟩ := h.uncons
    obtain ⟨l, hl⟩ := Option.isSome_iff_exists.1 (hv (i, v) (by simp))
    obtain ⟨h1, _, h3, _⟩ := vcells_rel hvr hl
    have h1' : LRel r v.cells.toList v'.cells.toList := by rw [h3]; exact h1
    have hsz : v'.cells.size = v.cells.size := by have := h1'.1; simp at this; exact this.symm
    have hzs : z'.size = z.size := by have := hz.1; simp at this; exact this.symm
    simp only [Instr.fill] at hf ⊢
    cases hp : place i with
    | none => simp [hp] at hf
    | some q =>
      obtain ⟨off, size⟩ := q
      simp only [hp] at hf ⊢
      rw [hsz, hzs]
      split at hf
      · cases hf
      · rename_i hcond
        rw [if_neg hcond]
        refine fill_rel place ps ps' _ _ cs hps (fun p hp => hv p (by simp [hp])) ?_ hf
        have this := fold_rel off v.cells.toList v'.cells.toList 0 z z' h1' hz
        have conv : ∀ (a z : Array Value), (a.zipIdx.foldl (fun cs (c, j) => cs.setIfInBounds (off + j) c) z) = (a.toList.zipIdx 0).foldl (fun cs (c, j) => cs.setIfInBounds (off + j) c) z := by
          intro a z
          rw [← Array.foldl_toList]
          simp
        rw [conv, conv]
        exact this

def abuild (P : Program) (T : TypeId) (ps : List (Nat × Value)) : Option Value :=
  if (ps.all fun p => (vcells p.2).isSome) && ((P.info? T).bind (·.zero)).any (fun z => z.cells.toList.all flat) then (P.built T ps).map .agg else none

theorem abuild_sound {P : Program} {r : Mp} {w : World} {T : TypeId} {ps : List (Nat × Value)} {ps' : Array (Nat × Value)} (h : PRel r ps ps'.toList) {v : Value} (hv : abuild P T ps = some v) :
    ∃ v', (Instr.build T ps').run P w = .ok v' w ∧ VRel r v v' := by
  unfold abuild at hv
  split at hv
  · rename_i hall
    simp only [Bool.and_eq_true, List.all_eq_true] at hall
    obtain ⟨hall, hz⟩ := hall
    cases hb : P.built T ps with
    | none => simp [hb] at hv
    | some cs =>
      simp only [hb, Option.map_some, Option.some.injEq] at hv
      subst hv
      have key : ∃ cs', P.built T ps'.toList = some cs' ∧ LRel r cs.toList cs'.toList := by
        unfold Program.built at hb ⊢
        cases hi : P.info? T with
        | none => simp [hi] at hb
        | some it =>
          cases hzz : it.zero with
          | none => simp [hi, hzz] at hz
          | some z =>
            have zr : LRel r z.cells.toList z.cells.toList := by
              rw [hi] at hz
              simp only [Option.bind_some, hzz, Option.any_some, List.all_eq_true] at hz
              exact LRel.of_plain fun x hx => plain_of_flat (hz x hx)
            cases hu : P.underlying T with
            | none => simp [hi, hu] at hb
            | some d =>
              cases d <;> simp only [hi, hu, hzz] at hb ⊢ <;> try (cases hb; done)
              case array n e =>
                cases hie : P.info? e with
                | none => simp [hie] at hb
                | some ie => simp only [hie] at hb ⊢; exact fill_rel _ ps ps'.toList z.cells z.cells cs h hall zr hb
              case struct fields =>
                cases hp : fields.toList.mapM (fun f => (P.info? f.type).map fun i => (f.offset, i.size)) with
                | none => simp [hp] at hb
                | some places => simp only [hp] at hb ⊢; exact fill_rel _ ps ps'.toList z.cells z.cells cs h hall zr hb
      obtain ⟨cs', h1, h2⟩ := key
      exact ⟨_, run_build w T ps' cs' h1, by simpa using VRel.agg_of h2⟩
  · cases hv

/-! ### Addresses -/
def anil (v : Value) : Option Value :=
  match v with
  | .pointer (some a) => some (.pointer (some a))
  | .iface t v => some (.iface t v)
  | .func (.func g) f c => some (.func (.func g) f c)
  | _ => none

theorem anil_sound {P : Program} {r : Mp} {w : World} {a : Act} {o : Oper} {x : Operand} (ho : o.op = .nilCheck x) {v u : Value} (hx : VRel r v (a.eval x)) (h : anil v = some u) :
    ∃ u', (execOp a.eval o).run P w = .ok (.value u') w ∧ VRel r u u' := by
  refine ⟨a.eval x, ?_, ?_⟩
  · unfold execOp
    rw [ho]
    dsimp only
    generalize a.eval x = y at hx ⊢
    cases v <;> simp only [anil] at h <;> try (cases h; done)
    case pointer p => cases p <;> simp at h; cases hx <;> simp
    case iface t v => cases hx <;> simp
    case func fn f c => cases fn <;> simp at h; cases hx <;> simp
  · cases v <;> simp only [anil] at h <;> try (cases h; done)
    case pointer p => cases p <;> simp at h; subst h; exact hx
    case iface t v => simp at h; subst h; exact hx
    case func fn f c => cases fn <;> simp at h; subst h; exact hx

def afieldAddr (P : Program) (S : TypeId) (f : Nat) : Value → Option Value
  | .pointer (some ⟨b, o, none⟩) => (fieldOf P S f).map fun q => .pointer (some ⟨b, o + q.1, none⟩)
  | _ => none

theorem fieldOf_spec {P : Program} {S : TypeId} {f off : Nat} {l : Option Nat} (h : fieldOf P S f = some (off, l)) :
    ∃ fs x i, P.underlying S = some (.struct fs) ∧ fs[f]? = some x ∧ P.info? x.type = some i ∧ i.size ≠ 0 ∧ x.offset = off ∧ lay P x.type = some l ∧ ∃ d, P.underlying x.type = some d := by
  unfold fieldOf at h
  split at h
  · rename_i fs hu
    split at h
    · rename_i x hx
      split at h
      · rename_i ly hl
        split at h
        · cases h
        · rename_i hs
          simp only [Option.some.injEq, Prod.mk.injEq] at h
          obtain ⟨h1, h2⟩ := h
          subst h1 h2
          cases hi : P.info? x.type with
          | none => simp [szOf, hi] at hs
          | some i =>
            have : ∃ d, P.underlying x.type = some d := by
              unfold lay at hl
              cases hd : P.underlying x.type with
              | none => simp [hd] at hl
              | some d => exact ⟨d, rfl⟩
            exact ⟨fs, x, i, hu, hx, hi, by simpa [szOf, hi] using hs, rfl, hl, this⟩
      · cases h
    · cases h
  · cases h

theorem afieldAddr_sound {P : Program} {r : Mp} {w : World} {S : TypeId} {f : Nat} {v v' u : Value} (hv : VRel r v v') (h : afieldAddr P S f v = some u) :
    ∃ u', (Instr.fieldAt S v' f).run P w = .ok u' w ∧ VRel r u u' := by
  cases v with
  | pointer p =>
    cases p with
    | none => simp [afieldAddr] at h
    | some ad =>
      obtain ⟨b, o, sp⟩ := ad
      cases sp with
      | some s => simp [afieldAddr] at h
      | none =>
        simp only [afieldAddr] at h
        cases hq : fieldOf P S f with
        | none => simp [hq] at h
        | some q =>
          obtain ⟨off, l⟩ := q
          simp only [hq, Option.map_some, Option.some.injEq] at h
          subst h
          obtain ⟨fs, x, i, hu, hx, hi, hs, rfl, _⟩ := fieldOf_spec hq
          cases hv with
          | plain _ hp => simp [plain, flat, flat0] at hp
          | @ptr _ _ y hb =>
            refine ⟨.pointer (some ⟨y.c, o + x.offset + y.s, none⟩), ?_, .ptr hb⟩
            simp [Instr.fieldAt, run_underlying hu, hx, Instr.sureAddr, fieldPlace, sizeOf, typeInfo, hi, hs, add_at, Nat.add_right_comm]
  | _ => simp [afieldAddr] at h

/-- A part of a struct or an array that is a value. -/
def apart (cs : List Value) (off : Nat) : Option Nat → Option Value
  | none => cs[off]?
  | some n => if off + n ≤ cs.length then some (.agg ((cs.drop off).take n).toArray) else none

theorem agg_list {r : Mp} {c c' : Array Value} (hc : VRel r (.agg c) (.agg c')) : LRel r c.toList c'.toList := by
  cases hc with
  | plain _ h =>
    refine LRel.of_plain fun x hx => plain_of_flat ?_
    simp only [plain, Array.all_eq_true'] at h
    exact h x (by simpa using hx)
  | agg h1 h2 => exact ⟨by simpa using h1, fun i a b => by simpa using h2 i (by simpa using a) (by simpa using b)⟩
theorem agg_form {r : Mp} {c : Array Value} {v : Value} (h : VRel r (.agg c) v) : ∃ c', v = .agg c' ∧ LRel r c.toList c'.toList := by
  cases h with
  | plain _ h => exact ⟨c, rfl, agg_list (.plain _ h)⟩
  | agg h1 h2 => exact ⟨_, rfl, agg_list (.agg h1 h2)⟩

theorem apart_sound {P : Program} {r : Mp} {w : World} {T : TypeId} {l : Option Nat} (hl : lay P T = some l) {cs cs' : List Value} (hc : LRel r cs cs') {off : Nat} {u : Value} (h : apart cs off l = some u) :
    ∃ u', (part T cs'.toArray off).run P w = .ok u' w ∧ VRel r u u' := by
  obtain ⟨d, i, hu, hi, hd⟩ := lay_spec hl
  rcases hd with ⟨hd, rfl⟩ | ⟨hd, rfl⟩
  · simp only [apart] at h
    split at h
    · rename_i hle
      cases h
      refine ⟨_, ?_, VRel.agg_of ((hc.drop off).take i.size)⟩
      unfold part
      rw [Sem.run_bind, run_isAgg hu w, hd]
      simp [sizeOf, typeInfo, hi, List.extract_eq_take_drop]
    · cases h
  · simp only [apart] at h
    obtain ⟨u', h1, h2⟩ := hc.get? h
    refine ⟨u', ?_, h2⟩
    unfold part
    rw [Sem.run_bind, run_isAgg hu w, hd]
    simp [h1]

def afield (P : Program) (S : TypeId) (f : Nat) : Value → Option Value
  | .agg cs => match fieldOf P S f with
    | some (off, l) => apart cs.toList off l
    | none => none
  | _ => none

theorem afield_sound {P : Program} {r : Mp} {w : World} {S : TypeId} {f : Nat} {v v' u : Value} (hv : VRel r v v') (h : afield P S f v = some u) :
    ∃ u', (Instr.field S v' f).run P w = .ok u' w ∧ VRel r u u' := by
  cases v with
  | agg cs =>
    obtain ⟨cs', rfl, hc⟩ := agg_form hv
    simp only [afield] at h
    split at h
    · rename_i off l hq
      obtain ⟨fs, x, i, hu, hx, hi, hs, rfl, hl, _⟩ := fieldOf_spec hq
      obtain ⟨u', h1, h2⟩ := apart_sound (P := P) (w := w) hl hc h
      refine ⟨u', ?_, h2⟩
      simpa [Instr.field, run_underlying hu, hx, asAgg] using h1
    · cases h
  | _ => simp [afield] at h

def aindexAddr (P : Program) (T : TypeId) (x i : Value) : Option Value :=
  match i with
  | .int _ n => match x with
    | .slice (some ⟨b, o, none⟩) len cap => match slSz P T with
      | some sz => if 0 ≤ n ∧ n < len then some (.pointer (some ⟨b, o + n.toNat * sz, none⟩)) else none
      | none => none
    | .pointer (some ⟨b, o, none⟩) => match arrSz P T with
      | some (len, sz) => if 0 ≤ n ∧ n < len then some (.pointer (some ⟨b, o + n.toNat * sz, none⟩)) else none
      | none => none
    | _ => none
  | _ => none

theorem aindexAddr_sound {P : Program} {r : Mp} {w : World} {T : TypeId} {x x' i i' u : Value} (hx : VRel r x x') (hi : VRel r i i') (h : aindexAddr P T x i = some u) :
    ∃ u', (Instr.indexAt T x' i').run P w = .ok u' w ∧ VRel r u u' := by
  cases i with
  | int k n =>
    have : i' = .int k n := by cases hi <;> rfl
    subst this
    cases x with
    | slice a len cap =>
      cases a with
      | none => simp [aindexAddr] at h
      | some ad =>
        obtain ⟨b, o, sp⟩ := ad
        cases sp with
        | some s => simp [aindexAddr] at h
        | none =>
          simp only [aindexAddr] at h
          split at h
          · rename_i sz hsz
            split at h
            · rename_i hn
              cases h
              unfold slSz at hsz
              split at hsz
              · rename_i e hu
                cases hie : P.info? e with
                | none => simp [hie] at hsz
                | some ie =>
                  simp only [hie, Option.map_some, Option.some.injEq] at hsz
                  subst hsz
                  cases hx with
                  | plain _ hp => simp [plain, flat, flat0] at hp
                  | @slice _ _ o' _ _ cap' y hb ho hc hk hN =>
                    have e := ho (by omega)
                    subst e
                    refine ⟨.pointer (some ⟨y.c, o + n.toNat * ie.size + y.s, none⟩), ?_, .ptr hb⟩
                    simp [Instr.indexAt, asIntOf, run_underlying hu, hn, sizeOf, typeInfo, hie, add_at, Nat.add_right_comm]
              · cases hsz
            · cases h
          · cases h
    | pointer p =>
      cases p with
      | none => simp [aindexAddr] at h
      | some ad =>
        obtain ⟨b, o, sp⟩ := ad
        cases sp with
        | some s => simp [aindexAddr] at h
        | none =>
          simp only [aindexAddr] at h
          split at h
          · rename_i len sz hsz
            split at h
            · rename_i hn
              cases h
              unfold arrSz at hsz
              split at hsz
              · rename_i m e hu
                cases hie : P.info? e with
                | none => simp [hie] at hsz
                | some ie =>
                  simp only [hie, Option.map_some, Option.some.injEq, Prod.mk.injEq] at hsz
                  obtain ⟨rfl, rfl⟩ := hsz
                  cases hx with
                  | plain _ hp => simp [plain, flat, flat0] at hp
                  | @ptr _ _ y hb =>
                    refine ⟨.pointer (some ⟨y.c, o + n.toNat * ie.size + y.s, none⟩), ?_, .ptr hb⟩
                    simp [Instr.indexAt, asIntOf, run_underlying hu, Instr.sureAddr, hn, sizeOf, typeInfo, hie, add_at, Nat.add_right_comm]
              · cases hsz
            · cases h
          · cases h
    | _ => simp [aindexAddr] at h
  | _ => simp [aindexAddr] at h

/-- s[i] of a string; a[i] of an array that is a value. -/
def aindex (P : Program) (T : TypeId) (x i : Value) : Option Value :=
  match i with
  | .int _ n => match x with
    | .string s => if kd P T = .str then (if 0 ≤ n then (s[n.toNat]?).map fun b => .int .u8 b.toNat else none) else none
    | _ => none
  | _ => none

theorem aindex_sound {P : Program} {r : Mp} {w : World} {T : TypeId} {x x' i i' u : Value} (hx : VRel r x x') (hi : VRel r i i') (h : aindex P T x i = some u) :
    ∃ u', (Instr.index T x' i').run P w = .ok u' w ∧ VRel r u u' := by
  cases i with
  | int k n =>
    have : i' = .int k n := by cases hi <;> rfl
    subst this
    cases x with
    | string s =>
      have : x' = .string s := by cases hx <;> rfl
      subst this
      simp only [aindex] at h
      split at h
      · rename_i hk
        have hu := kd_str hk
        simp at h
        obtain ⟨h0, b, hb, rfl⟩ := h
        refine ⟨_, ?_, .plain _ rfl⟩
        simp [Instr.index, asIntOf, run_underlying hu, h0, hb]
      · cases h
    | _ => simp [aindex] at h
  | _ => simp [aindex] at h

/-! ### Slice expressions -/
def isStr (P : Program) (T : TypeId) : Bool := kd P T == .str
theorem isStr_spec {P : Program} {T : TypeId} (h : isStr P T = true) : P.underlying T = some .string := by
  unfold isStr at h; exact kd_str (by simpa using h)
def bound (d : Nat) (y : Nat) : Option Value → Option Nat
  | none => some d
  | some (.int _ i) => if 0 ≤ i ∧ i ≤ y then some i.toNat else none
  | _ => none

/-- x[lo:hi] and x[lo:hi:max] (max only where hi is given). -/
def aslice (P : Program) (H : Hp) (T : TypeId) (x : Value) (lo hi mx : Option Value) : Option Value :=
  match x with
  | .string s => if mx.isNone && isStr P T then
      match bound s.size s.size hi with
      | some h => match bound 0 h lo with
        | some l => some (.string (s.extract l h))
        | none => none
      | none => none
    else none
  | .slice a len cap => match slSz P T with
    | some sz => if mx.isSome && hi.isNone then none else
      match bound cap cap mx with
      | some m => match bound len m hi with
        | some h => match bound 0 h lo with
          | some l => match a with
            | some ⟨b, o, none⟩ => match H.f b with
              | .cells _ z _ => if z = sz then some (.slice (some ⟨b, o + l * sz, none⟩) (h - l) (m - l)) else none
              | _ => none
            | none => if cap = 0 ∧ len = 0 then some (.slice none 0 0) else none
            | _ => none
          | none => none
        | none => none
      | none => none
    | none => none
  | .pointer (some ⟨b, o, none⟩) => match arrSz P T with
    | some (n, sz) => if mx.isSome && hi.isNone then none else
      match bound n n mx with
      | some m => match bound n m hi with
        | some h => match bound 0 h lo with
          | some l => match H.f b with
            | .cells _ z cs => if z = sz ∧ o + n * sz ≤ cs.length then some (.slice (some ⟨b, o + l * sz, none⟩) (h - l) (m - l)) else none
            | _ => none
          | none => none
        | none => none
      | none => none
    | none => none
  | _ => none

def ORel (r : Mp) : Option Value → Option Value → Prop
  | none, none => True
  | some v, some v' => VRel r v v'
  | _, _ => False

theorem bound_spec {P : Program} {r : Mp} {w : World} {d y k : Nat} {o o' : Option Value} (ho : ORel r o o') (h : bound d y o = some k) (code : BoundsCode) :
    (o = none ∧ o' = none ∧ k = d) ∨ (∃ q i, o = some (.int q i) ∧ o' = some (.int q i) ∧ 0 ≤ i ∧ i ≤ y ∧ k = i.toNat ∧ ∀ y', y ≤ y' → (Instr.sliceBound (.int q i) y' code).run P w = .ok k w) := by
  cases o with
  | none =>
    cases o' with
    | none => simp [bound] at h; exact .inl ⟨rfl, rfl, h.symm⟩
    | some v => exact ho.elim
  | some v =>
    cases o' with
    | none => exact ho.elim
    | some v' =>
      cases v <;> simp [bound] at h
      case int q i =>
        obtain ⟨⟨h0, h1⟩, rfl⟩ := h
        have : v' = .int q i := by cases ho <;> rfl
        subst this
        exact .inr ⟨q, i, rfl, rfl, h0, h1, rfl, fun y' hy => by
          have : 0 ≤ i ∧ i ≤ (y' : Int) := ⟨h0, by omega⟩
          simp [Instr.sliceBound, asIntOf, this]⟩

/-- The bounds, at a capacity that may be greater. -/
theorem bounds_run {P : Program} {r : Mp} {w : World} {b : Bool} {len cap cap' m h l : Nat} {lo hi mx lo' hi' mx' : Option Value} (hlo : ORel r lo lo') (hhi : ORel r hi hi') (hmx : ORel r mx mx')
    (hc : cap ≤ cap') (hno : (mx.isSome && hi.isNone) = false) (hm : bound cap cap mx = some m) (hh : bound len m hi = some h) (hl : bound 0 h lo = some l) :
    ∃ m', (Instr.sliceBounds b len cap' lo' hi' mx').run P w = .ok (l, h, m') w ∧ m ≤ m' ∧ (mx = none → m' = cap' ∧ m = cap) ∧ (mx ≠ none → m' = m ∧ m ≤ cap) ∧ l ≤ h ∧ (hi ≠ none → h ≤ m) ∧ (hi = none → h = len) := by
  have lq : (lo' = none ∧ l = 0) ∨ ∃ v, lo' = some v ∧ ∀ code : BoundsCode, (Instr.sliceBound v h code).run P w = .ok l w := by
    rcases bound_spec (P := P) (w := w) hlo hl .index with ⟨rfl, rfl, rfl⟩ | ⟨q, i, rfl, rfl, i0, i1, rfl, hr⟩
    · exact .inl ⟨rfl, rfl⟩
    · refine .inr ⟨_, rfl, fun code => ?_⟩
      have : 0 ≤ i ∧ i ≤ (h : Int) := ⟨i0, i1⟩
      simp [Instr.sliceBound, asIntOf, this]
  have lle : l ≤ h := by
    rcases bound_spec (P := P) (w := w) hlo hl .index with ⟨rfl, rfl, rfl⟩ | ⟨q, i, rfl, rfl, _, _, rfl, hr⟩ <;> omega
  rcases bound_spec (P := P) (w := w) hmx hm (if b then .slice3Acap else .slice3Alen) with ⟨rfl, rfl, rfl⟩ | ⟨q, i, rfl, rfl, i0, i1, rfl, hr⟩
  · rcases bound_spec (P := P) (w := w) hhi hh (if b then .sliceAcap else .sliceAlen) with ⟨rfl, rfl, rfl⟩ | ⟨q, j, rfl, rfl, j0, j1, rfl, hr⟩
    · exact ⟨cap', by rcases lq with ⟨rfl, rfl⟩ | ⟨v, rfl, hv⟩ <;> simp [Instr.sliceBounds, *], hc, fun _ => ⟨rfl, rfl⟩, by simp, lle, by simp, fun _ => rfl⟩
    · exact ⟨cap', by have hr' := hr cap' hc; rcases lq with ⟨rfl, rfl⟩ | ⟨v, rfl, hv⟩ <;> simp [Instr.sliceBounds, *], hc, fun _ => ⟨rfl, rfl⟩, by simp, lle, fun _ => by omega, by simp⟩
  · rcases bound_spec (P := P) (w := w) hhi hh .slice3B with ⟨rfl, rfl, rfl⟩ | ⟨q, j, rfl, rfl, j0, j1, rfl, hr2⟩
    · simp at hno
    · exact ⟨i.toNat, by have hr' := hr cap' hc; have hr3 := hr2 _ (Nat.le_refl _); rcases lq with ⟨rfl, rfl⟩ | ⟨v, rfl, hv⟩ <;> simp [Instr.sliceBounds, *], Nat.le_refl _, by simp, fun _ => ⟨rfl, by omega⟩, lle, fun _ => by omega, by simp⟩

theorem aslice_sound {P : Program} {r : Mp} {H : Hp} {w : World} (hs : Sim r H w) {T : TypeId} {x x' u : Value} {lo hi mx lo' hi' mx' : Option Value} (hx : VRel r x x') (hlo : ORel r lo lo') (hhi : ORel r hi hi') (hmx : ORel r mx mx')
    (h : aslice P H T x lo hi mx = some u) : ∃ u', (Instr.sliceAt T x' lo' hi' mx').run P w = .ok u' w ∧ VRel r u u' := by
  cases x with
  | string s =>
    have : x' = .string s := by cases hx <;> rfl
    subst this
    simp only [aslice] at h
    split at h
    · rename_i hc
      simp only [Bool.and_eq_true] at hc
      obtain ⟨hn, hu⟩ := hc
      cases mx with
      | some v => simp at hn
      | none =>
        have hu' := isStr_spec hu
        split at h
        · rename_i hq hh
          split at h
          · rename_i l hl
            cases h
            obtain ⟨m', h1, _⟩ := bounds_run (P := P) (w := w) (b := false) (cap := s.size) (cap' := s.size) hlo hhi hmx (Nat.le_refl _) (by simp) rfl hh hl
            cases mx' with
            | some v => exact hmx.elim
            | none => exact ⟨_, by simp [Instr.sliceAt, Instr.slice, run_underlying hu', h1], .plain _ rfl⟩
          · cases h
        · cases h
    · cases h
  | slice a len cap =>
    simp only [aslice] at h
    cases hz : slSz P T with
    | none => simp [hz] at h
    | some sz =>
      simp only [hz] at h
      split at h
      · cases h
      · rename_i hno
        have hno : (mx.isSome && hi.isNone) = false := Bool.eq_false_iff.2 hno
        cases hm : bound cap cap mx with
        | none => simp [hm] at h
        | some m =>
          simp only [hm] at h
          cases hh : bound len m hi with
          | none => simp [hh] at h
          | some hq =>
            simp only [hh] at h
            cases hl : bound 0 hq lo with
            | none => simp [hl] at h
            | some l =>
              simp only [hl] at h
              unfold slSz at hz
              cases hu : P.underlying T with
              | none => simp [hu] at hz
              | some d =>
                cases d <;> simp only [hu] at hz <;> try (cases hz; done)
                case slice e =>
                  cases hie : P.info? e with
                  | none => simp [hie] at hz
                  | some ie =>
                    simp only [hie, Option.map_some, Option.some.injEq] at hz
                    subst hz
                    cases a with
                    | none =>
                      simp only at h
                      split at h
                      · rename_i hc0
                        obtain ⟨rfl, rfl⟩ := hc0
                        cases h
                        have : x' = .slice none 0 0 := by cases hx; rfl
                        subst this
                        obtain ⟨m', h1, h2, h3, h4, h5, h6, h7⟩ := bounds_run (P := P) (w := w) (b := true) hlo hhi hmx (Nat.le_refl 0) hno hm hh hl
                        have hm0 : m = 0 := by by_cases e : mx = none <;> first | (exact (h3 e).2) | (exact Nat.le_zero.1 (h4 e).2)
                        have hm' : m' = 0 := by by_cases e : mx = none <;> first | (exact (h3 e).1) | ((rw [(h4 e).1]; exact hm0))
                        have hq0 : hq = 0 := by by_cases e : hi = none <;> first | (exact h7 e) | (exact Nat.le_zero.1 (hm0 ▸ h6 e))
                        have hl0 : l = 0 := by omega
                        subst hm' hq0 hl0
                        exact ⟨_, by simp [Instr.sliceAt, Instr.slice, run_underlying hu, h1, sizeOf, typeInfo, hie], .plain _ rfl⟩
                      · cases h
                    | some ad =>
                      obtain ⟨b, o, sp⟩ := ad
                      cases sp with
                      | some q => simp at h
                      | none =>
                        simp only at h
                        cases hf : H.f b with
                        | map es => simp [hf] at h
                        | dead => simp [hf] at h
                        | loop L => simp [hf] at h
                        | cells ro z cs =>
                          simp only [hf] at h
                          split at h
                          · rename_i hzz
                            subst hzz
                            cases h
                            cases hx with
                            | plain _ hp => simp [plain, flat, flat0] at hp
                            | @slice _ _ o' _ _ cap' y hb ho hc hk hN =>
                              have hsz : y.sz = ie.size := by have := hs.blk b y hb; rw [hf] at this; exact this.1
                              obtain ⟨m', h1, h2, h3, h4, h5, h6, h7⟩ := bounds_run (P := P) (w := w) (b := true) hlo hhi hmx hc hno hm hh hl
                              have hmc : m ≤ cap := by by_cases e : mx = none <;> first | (exact Nat.le_of_eq (h3 e).2) | (exact (h4 e).2)
                              have hmc' : m' ≤ cap' := by by_cases e : mx = none <;> first | (exact Nat.le_of_eq (h3 e).1) | ((rw [(h4 e).1]; omega))
                              have hqm : hq ≤ m := by
                                by_cases e : hi = none
                                · rw [h7 e]
                                  by_cases e2 : mx = none
                                  · rw [(h3 e2).2]; exact hk
                                  · subst e; cases mx with
                                    | none => exact absurd rfl e2
                                    | some v => simp at hno
                                · exact h6 e
                              have hmul : l * ie.size + (m' - l) * ie.size ≤ cap' * ie.size := by
                                rw [← Nat.add_mul]; exact Nat.mul_le_mul_right _ (by omega)
                              rw [hsz] at hN
                              refine ⟨.slice (some ⟨y.c, (if m' = l then o' else o' + l * ie.size), none⟩) (hq - l) (m' - l), ?_, .slice hb ?_ (by omega) (by omega) ?_⟩
                              · simp only [Instr.sliceAt, Instr.slice, Sem.run_bind, run_underlying hu, Result.andThen_ok, h1, sizeOf, typeInfo, run_program, hie, Sem.run_pure]
                                split <;> simp [add_at]
                              · intro hp
                                rw [if_neg (by omega), ho (by omega)]
                                omega
                              · rw [hsz]
                                split
                                · rename_i e; rw [e]; simp; omega
                                · omega
                          · cases h
  | pointer p =>
    cases p with
    | none => simp [aslice] at h
    | some ad =>
      obtain ⟨b, o, sp⟩ := ad
      cases sp with
      | some q => simp [aslice] at h
      | none =>
        simp only [aslice] at h
        cases hz : arrSz P T with
        | none => simp [hz] at h
        | some q =>
          obtain ⟨n, sz⟩ := q
          simp only [hz] at h
          split at h
          · cases h
          · rename_i hno
            have hno : (mx.isSome && hi.isNone) = false := Bool.eq_false_iff.2 hno
            cases hm : bound n n mx with
            | none => simp [hm] at h
            | some m =>
              simp only [hm] at h
              cases hh : bound n m hi with
              | none => simp [hh] at h
              | some hq =>
                simp only [hh] at h
                cases hl : bound 0 hq lo with
                | none => simp [hl] at h
                | some l =>
                  simp only [hl] at h
                  unfold arrSz at hz
                  cases hu : P.underlying T with
                  | none => simp [hu] at hz
                  | some d =>
                    cases d <;> simp only [hu] at hz <;> try (cases hz; done)
                    case array n' e =>
                      cases hie : P.info? e with
                      | none => simp [hie] at hz
                      | some ie =>
                        simp only [hie, Option.map_some, Option.some.injEq, Prod.mk.injEq] at hz
                        obtain ⟨rfl, rfl⟩ := hz
                        cases hf : H.f b with
                        | map es => simp [hf] at h
                        | dead => simp [hf] at h
                        | loop L => simp [hf] at h
                        | cells ro z cs =>
                          simp only [hf] at h
                          split at h
                          · rename_i hzz
                            obtain ⟨rfl, hle⟩ := hzz
                            cases h
                            cases hx with
                            | plain _ hp => simp [plain, flat, flat0] at hp
                            | @ptr _ _ y hb =>
                              have hbk := hs.blk b y hb
                              rw [hf] at hbk
                              obtain ⟨hsz, cs', el, fr, k1, k2, k3, k4, k5⟩ := hbk
                              obtain ⟨m', h1, h2, h3, h4, h5, h6, h7⟩ := bounds_run (P := P) (w := w) (b := false) hlo hhi hmx (Nat.le_refl n') hno hm hh hl
                              have hmc : m ≤ n' := by by_cases e : mx = none <;> first | (exact Nat.le_of_eq (h3 e).2) | (exact (h4 e).2)
                              have hmm : m' = m := by by_cases e : mx = none <;> first | ((rw [(h3 e).1, (h3 e).2])) | (exact (h4 e).1)
                              have hqm : hq ≤ m := by
                                by_cases e : hi = none
                                · rw [h7 e]
                                  by_cases e2 : mx = none
                                  · rw [(h3 e2).2]; exact Nat.le_refl _
                                  · subst e; cases mx with
                                    | none => exact absurd rfl e2
                                    | some v => simp at hno
                                · exact h6 e
                              subst hmm
                              have hmul : l * ie.size + (m' - l) * ie.size ≤ n' * ie.size := by
                                rw [← Nat.add_mul]; exact Nat.mul_le_mul_right _ (by omega)
                              refine ⟨.slice (some ⟨y.c, (if m' = l then o + y.s else o + y.s + l * ie.size), none⟩) (hq - l) (m' - l), ?_, .slice hb ?_ (by omega) (by omega) ?_⟩
                              · simp only [Instr.sliceAt, Sem.run_bind, run_underlying hu, Result.andThen_ok, Instr.sureAddr, h1, sizeOf, typeInfo, run_program, hie, Sem.run_pure]
                                split <;> simp [add_at]
                              · intro hp
                                rw [if_neg (by omega)]
                                omega
                              · rw [hsz]
                                split
                                · rename_i e; rw [e]; simp; omega
                                · omega
                          · cases h
  | _ => simp [aslice] at h

end Am
end Go.Proofs.YtbpabpnpoidpcaaGreatDoor
