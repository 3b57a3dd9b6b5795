/- The abstract machine's operations: conversions, interfaces, lengths; all operations that make no memory, together. No conditions. -/
import Derived.Test.YtbpabpnpoidpcaaGreatDoorAbs4
set_option linter.unusedVariables false
set_option linter.unusedSimpArgs false
namespace Go.Proofs.YtbpabpnpoidpcaaGreatDoor
namespace Am
open Go

def aun : UnOp → Value → Option Value
  | .not, .bool b => some (.bool !b)
  | .neg, .int k n => some (.int k (k.wrap (0 - n)))
  | _, _ => none
theorem aun_sound {P : Program} {r : Mp} {w : World} {op : UnOp} {x x' v : Value} (hx : VRel r x x') (h : aun op x = some v) : (Op.unary op x').run P w = .ok v w ∧ VRel r v v := by
  unfold aun at h
  split at h
  · cases h; cases hx; exact ⟨by simp [Op.unary], .plain _ rfl⟩
  · cases h; cases hx; exact ⟨by simp [Op.unary, Op.intArith], .plain _ rfl⟩
  · cases h

theorem plain_of_sbin {op : BinOp} {x y v : Value} (h : sbin op x y = some v) : plain v = true := by
  unfold sbin at h
  split at h <;> (try split at h) <;> (try split at h) <;> first | (cases h; rfl) | (cases h; done)

/-- A whole binary operation. -/
def abin (P : Program) (op : BinOp) (T : TypeId) (lit : Bool) (x y : Value) : Option Value :=
  match sbin op x y with
  | some v => some v
  | none => match op with
    | .eql => (aeq P T lit x y).map .bool
    | .neq => (aeq P T lit x y).map fun b => .bool !b
    | _ => none

theorem sbin_rel {r : Mp} {op : BinOp} {x y x' y' v : Value} (hx : VRel r x x') (hy : VRel r y y') (h : sbin op x y = some v) : x' = x ∧ y' = y := by
  unfold sbin at h
  split at h <;> first | (cases h; done) | (cases hx; cases hy; exact ⟨rfl, rfl⟩)

theorem ite_both {α : Type} {c : Prop} [Decidable c] {x y z : α} (h : x = z) (k : y = z) : (if c then x else y) = z := by split <;> assumption

theorem guard_ok {P : Program} {w : World} {op : BinOp} {T : TypeId} {x y : Operand} {a b : Value} (h1 : a = .nilIface → b = .nilIface → (isLit x || isLit y) = true) (h2 : ∀ c d, a = .agg c → b = .agg d → False) :
    (eqGuard op T x y a b).run P w = .ok () w := by
  unfold eqGuard
  rw [Sem.run_ite]
  refine ite_both rfl ?_
  · cases a <;> first
      | (cases b <;> rfl)
      | skip
    case nilIface =>
      cases b <;> first
        | rfl
        | skip
      have h := h1 rfl rfl
      cases x <;> first
        | (simp; done)
        | (cases y <;> first
            | (simp; done)
            | (simp [isLit] at h; done))
    case agg c =>
      cases b <;> first
        | rfl
        | exact (h2 _ _ rfl rfl).elim

theorem abin_sound {P : Program} {r : Mp} {w : World} {op : BinOp} {T : TypeId} {x y : Operand} {a b a' b' v : Value} (ha : VRel r a a') (hb : VRel r b b') (h : abin P op T (isLit x || isLit y) a b = some v) :
    (Sem.run P (do eqGuard op T x y a' b'; binOp op T a' b') w) = .ok v w ∧ VRel r v v := by
  unfold abin at h
  split at h
  · rename_i u hu
    cases h
    obtain ⟨rfl, rfl⟩ := sbin_rel ha hb hu
    refine ⟨?_, .plain _ (plain_of_sbin hu)⟩
    rw [Sem.run_bind, guard_ok, Result.andThen_ok]
    · exact sbin_sound hu
    · rintro rfl rfl; simp [sbin] at hu
    · rintro c d rfl rfl; cases op <;> simp [sbin] at hu
  · split at h
    · cases hq : aeq P T (isLit x || isLit y) a b with
      | none => simp [hq] at h
      | some q =>
        simp only [hq, Option.map_some, Option.some.injEq] at h
        subst h
        obtain ⟨h1, h2, h3, h4, h5⟩ := aeq_sound (w := w) ha hb hq
        refine ⟨?_, .plain _ rfl⟩
        rw [Sem.run_bind, guard_ok h2 h3, Result.andThen_ok, h4]
        simp [h1]
    · cases hq : aeq P T (isLit x || isLit y) a b with
      | none => simp [hq] at h
      | some q =>
        simp only [hq, Option.map_some, Option.some.injEq] at h
        subst h
        obtain ⟨h1, h2, h3, h4, h5⟩ := aeq_sound (w := w) ha hb hq
        refine ⟨?_, .plain _ rfl⟩
        rw [Sem.run_bind, guard_ok h2 h3, Result.andThen_ok, h5]
        simp [h1]
    · cases h

/-! ### Conversions -/
def intTo (P : Program) (T : TypeId) : Option IntKind := match P.underlying T with | some (.int k) => some k | _ => none
theorem intTo_spec {P : Program} {T : TypeId} {k : IntKind} (h : intTo P T = some k) : P.underlying T = some (.int k) := by
  unfold intTo at h; split at h <;> simp_all
def isBytes (P : Program) (T : TypeId) : Bool := match P.underlying T with
  | some (.slice e) => (match P.underlying e with | some (.int .u8) => true | _ => false)
  | _ => false
theorem isBytes_spec {P : Program} {T : TypeId} (h : isBytes P T = true) : ∃ e, P.underlying T = some (.slice e) ∧ P.underlying e = some (.int .u8) := by
  unfold isBytes at h; split at h <;> (try cases h); split at h <;> simp_all
/-- The bytes that cells hold. -/
def cellBytes : List Value → Option (List Int)
  | [] => some []
  | .int .u8 n :: l => (cellBytes l).map (n :: ·)
  | _ => none

theorem cellBytes_rel {r : Mp} : ∀ {l l' : List Value} {ns : List Int}, LRel r l l' → cellBytes l = some ns → l' = l ∧ l = ns.map (Value.int .u8)
  | [], l', ns, h, hb => by
    simp only [cellBytes, Option.some.injEq] at hb
    subst hb
    exact ⟨List.eq_nil_of_length_eq_zero h.1.symm, rfl⟩
  | v :: l, m, ns, h, hb => by
    obtain ⟨v', l', rfl, hv, hl⟩ := h.uncons
    cases v with
    | int k n =>
      cases k <;> simp only [cellBytes] at hb <;> try (cases hb; done)
      cases hq : cellBytes l with
      | none => simp [hq] at hb
      | some q =>
        simp only [hq, Option.map_some, Option.some.injEq] at hb
        subst hb
        obtain ⟨h1, h2⟩ := cellBytes_rel hl hq
        subst h1
        cases hv
        exact ⟨rfl, by rw [h2]; simp⟩
    | _ => simp [cellBytes] at hb

theorem LRel.refl_len {r : Mp} : ∀ (l : List Value) {ns : List Int}, cellBytes l = some ns → LRel r l l
  | [], ns, h => LRel.nil
  | v :: l, ns, h => by
    cases v with
    | int k n =>
      cases k <;> simp only [cellBytes] at h <;> try (cases h; done)
      cases hq : cellBytes l with
      | none => simp [hq] at h
      | some q => exact LRel.cons (.plain _ rfl) (LRel.refl_len l hq)
    | _ => simp [cellBytes] at h

/-- int to int, string to string, bytes to string. -/
def aconv (P : Program) (H : Hp) (src dst : TypeId) (x : Value) : Option Value :=
  match x with
  | .int _ n => if kd P src ≠ .none then (intTo P dst).map fun k => .int k (k.wrap n) else none
  | .string s => if kd P src ≠ .none ∧ isStr P dst = true then some (.string s) else none
  | .slice (some ⟨b, o, none⟩) len _ => if isBytes P src && isStr P dst then
      match H.f b with
      | .cells _ _ cs => if o + len ≤ cs.length then (cellBytes ((cs.drop o).take len)).map fun ns => .string (strOfNums ns) else none
      | _ => none
    else none
  | .slice none _ _ => if isBytes P src && isStr P dst then some (.string .empty) else none
  | _ => none

theorem aconv_sound {P : Program} {r : Mp} {H : Hp} {w : World} (hs : Sim r H w) {src dst : TypeId} {x x' v : Value} (hx : VRel r x x') (h : aconv P H src dst x = some v) :
    (convert src dst x').run P w = .ok v w ∧ VRel r v v := by
  unfold aconv at h
  split at h
  · split at h
    · rename_i k n hsrc
      cases hk : intTo P dst with
      | none => simp [hk] at h
      | some k' =>
        simp only [hk, Option.map_some, Option.some.injEq] at h
        subst h
        cases hx
        obtain ⟨d, hd⟩ := kd_some hsrc
        have hu := intTo_spec hk
        refine ⟨?_, .plain _ rfl⟩
        simp [convert, run_underlying hd, run_underlying hu, Conv.intToInt]
    · cases h
  · split at h
    · rename_i s hc
      cases h
      cases hx
      obtain ⟨d, hd⟩ := kd_some hc.1
      refine ⟨?_, .plain _ rfl⟩
      simp [convert, run_underlying hd, run_underlying (isStr_spec hc.2)]
    · cases h
  · split at h
    · rename_i b o len cap hc
      simp only [Bool.and_eq_true] at hc
      obtain ⟨e, he, he8⟩ := isBytes_spec hc.1
      have hd := isStr_spec hc.2
      cases hf : H.f b with
      | map es => simp [hf] at h
      | dead => simp [hf] at h
      | loop L => simp [hf] at h
      | cells ro sz cs =>
        simp only [hf] at h
        split at h
        · rename_i hle
          cases hb : cellBytes ((cs.drop o).take len) with
          | none => simp [hb] at h
          | some ns =>
            simp only [hb, Option.map_some, Option.some.injEq] at h
            subst h
            refine ⟨?_, .plain _ rfl⟩
            have hlen : ns.length = len := by
              have := (cellBytes_rel (LRel.refl_len (r := r) ((cs.drop o).take len) hb) hb).2
              have := congrArg List.length this
              simp at this
              omega
            cases hx with
            | plain _ hp => simp [plain, flat, flat0] at hp
            | @slice _ _ o' _ _ cap' y hy ho hcc hk hN =>
              have hlc : (cs.drop o |>.take len) = ns.map (Value.int .u8) := (cellBytes_rel (LRel.refl_len (r := r) ((cs.drop o).take len) hb) hb).2
              refine run_convert_bytes_arg w src e he he8 y.c o' len cap' ns hlen ?_ dst hd
              intro i hi
              have e := ho (by omega)
              subst e
              have hcell : cs[o + i]? = some (.int .u8 (ns.getD i 0)) := by
                have := congrArg (fun l => l[i]?) hlc
                simp only [List.getElem?_take, if_pos hi, List.getElem?_drop, List.getElem?_map] at this
                rw [this, List.getElem?_eq_getElem (by omega)]
                simp [List.getD, List.getElem?_eq_getElem (show i < ns.length by omega)]
              obtain ⟨v', h1, h2⟩ := cell_of hs hy hf hcell
              cases h2
              rw [← h1]
              congr 2
              omega
        · cases h
    · cases h
  · split at h
    · rename_i l c hc
      cases h
      simp only [Bool.and_eq_true] at hc
      obtain ⟨e, he, he8⟩ := isBytes_spec hc.1
      refine ⟨?_, .plain _ rfl⟩
      cases hx
      exact run_convert_bytes_nil w src e he he8 _ _ dst (isStr_spec hc.2)
    · cases h
  · cases h

/-! ### Interface values, functions, tuples -/
def aiface (P : Program) (T : TypeId) (v : Value) : Option Value :=
  if kd P T = .ifc ∨ kd P T = .none then none else some (.iface T v)
theorem aiface_sound {P : Program} {r : Mp} {w : World} {T : TypeId} {x x' v : Value} (hx : VRel r x x') (h : aiface P T x = some v) :
    ∃ v', (Instr.makeInterface T x').run P w = .ok v' w ∧ VRel r v v' := by
  unfold aiface at h
  split at h
  · cases h
  · rename_i hn
    have hn1 : kd P T ≠ .ifc := fun e => hn (.inl e)
    obtain ⟨d, hu⟩ := kd_some (P := P) (T := T) fun e => hn (.inr e)
    cases h
    refine ⟨.iface T x', ?_, .iface T hx⟩
    unfold Instr.makeInterface
    rw [Sem.run_bind, run_underlying hu, Result.andThen_ok]
    cases d <;> first | rfl | exact (kd_noifc hn1 _ hu).elim

def zeroV (P : Program) (T : TypeId) : Option Value :=
  match P.info? T with
  | some i => match i.zero with
    | some z => if plain z then some z else none
    | none => none
  | none => none
theorem zeroV_run {P : Program} {T : TypeId} {z : Value} (h : zeroV P T = some z) (w : World) : (zeroValue T).run P w = .ok z w ∧ plain z = true := by
  unfold zeroV at h
  split at h
  · rename_i i hi
    split at h
    · rename_i z' hz
      split at h
      · rename_i hp
        cases h
        exact ⟨by simp [zeroValue, typeInfo, hi, hz], hp⟩
      · cases h
    · cases h
  · cases h

/-- Has a type an interface's methods? -/
def impl (P : Program) (t T : TypeId) : Option Bool :=
  match P.underlying T, P.info? t with
  | some (.interface want), some i => some (Instr.missingMethod want i.methods).isNone
  | _, _ => none

def aassert (P : Program) (x : Value) (T : TypeId) (ok : Bool) : Option Value :=
  match x with
  | .nilIface => if kd P T = .none then none else if ok then (zeroV P T).map fun z => .tuple #[z, .bool false] else none
  | .iface t v => if kd P T = .none then none else if kd P T = .ifc then
      (match impl P t T with
      | some true => some (if ok then .tuple #[.iface t v, .bool true] else .iface t v)
      | some false => if ok then (zeroV P T).map fun z => .tuple #[z, .bool false] else none
      | none => none)
    else if t = T then some (if ok then .tuple #[v, .bool true] else v) else if ok then (zeroV P T).map fun z => .tuple #[z, .bool false] else none
  | _ => none

theorem tuple2_rel {r : Mp} {a b a' b' : Value} (h : VRel r a a') (k : VRel r b b') : VRel r (.tuple #[a, b]) (.tuple #[a', b']) :=
  VRel.tuple_of (LRel.cons h (LRel.cons k LRel.nil))

theorem aassert_sound {P : Program} {r : Mp} {w : World} {X T : TypeId} {ok : Bool} {x x' v : Value} (hx : VRel r x x') (h : aassert P x T ok = some v) :
    ∃ v', (Instr.typeAssert x' X T ok).run P w = .ok v' w ∧ VRel r v v' := by
  have fail : ∀ {u : Value}, (if ok then (zeroV P T).map fun z => Value.tuple #[z, .bool false] else none) = some u → ok = true ∧ ∃ z, (∀ w, (zeroValue T).run P w = .ok z w) ∧ u = .tuple #[z, .bool false] ∧ VRel r u u := by
    intro u hu
    cases ok with
    | false => simp at hu
    | true =>
      cases hz : zeroV P T with
      | none => simp [hz] at hu
      | some z =>
        simp only [hz, if_true, Option.map_some, Option.some.injEq] at hu
        subst hu
        exact ⟨rfl, z, fun w => (zeroV_run hz w).1, rfl, tuple2_rel (.plain _ (zeroV_run hz w).2) (.plain _ rfl)⟩
  unfold aassert at h
  split at h
  · split at h
    · cases h
    · rename_i hk
      obtain ⟨d, hu⟩ := kd_some hk
      obtain ⟨hok, z, hz, rfl, hr⟩ := fail h
      subst hok
      cases hx
      refine ⟨_, ?_, hr⟩
      cases d <;> simp [Instr.typeAssert, run_underlying hu, hz]
  · rename_i t v
    obtain ⟨v', rfl, hv⟩ := iface_form hx
    split at h
    · cases h
    · rename_i hk
      split at h
      · rename_i hki
        obtain ⟨want, hu⟩ := kd_ifc hki
        cases hi : P.info? t with
        | none => simp [impl, hu, hi] at h
        | some i =>
          cases hm : Instr.missingMethod want i.methods with
          | none =>
            simp only [impl, hu, hi, hm, Option.isNone_none] at h
            cases h
            cases ok
            · exact ⟨_, by simp [Instr.typeAssert, run_underlying hu, typeInfo, hi, hm], .iface t hv⟩
            · exact ⟨_, by simp [Instr.typeAssert, run_underlying hu, typeInfo, hi, hm], tuple2_rel (.iface t hv) (.plain _ rfl)⟩
          | some m =>
            simp only [impl, hu, hi, hm, Option.isNone_some] at h
            obtain ⟨hok, z, hz, rfl, hr⟩ := fail h
            subst hok
            exact ⟨_, by simp [Instr.typeAssert, run_underlying hu, typeInfo, hi, hm, hz], hr⟩
      · rename_i hki
        obtain ⟨d, hu⟩ := kd_some hk
        split at h
        · rename_i ht
          subst ht
          cases h
          cases ok
          · exact ⟨v', by cases d <;> first | exact (kd_noifc hki _ hu).elim | simp [Instr.typeAssert, run_underlying hu], hv⟩
          · exact ⟨_, by cases d <;> first | exact (kd_noifc hki _ hu).elim | simp [Instr.typeAssert, run_underlying hu], tuple2_rel hv (.plain _ rfl)⟩
        · rename_i ht
          obtain ⟨hok, z, hz, rfl, hr⟩ := fail h
          subst hok
          exact ⟨_, by cases d <;> first | exact (kd_noifc hki _ hu).elim | simp [Instr.typeAssert, run_underlying hu, ht, hz], hr⟩
  · cases h

def aextract (x : Value) (i : Nat) : Option Value :=
  match x with
  | .tuple vs => if vs.size = 1 then none else vs[i]?
  | _ => none
theorem aextract_sound {P : Program} {r : Mp} {w : World} {i : Nat} {x x' v : Value} (hx : VRel r x x') (h : aextract x i = some v) :
    ∃ v', (Instr.extract x' i).run P w = .ok v' w ∧ VRel r v v' := by
  cases x with
  | tuple vs =>
    simp only [aextract] at h
    split at h
    · cases h
    · rename_i hsz
      obtain ⟨hi, rfl⟩ := Array.getElem?_eq_some_iff.1 h
      cases hx with
      | junk => simp at hsz
      | plain _ hp => exact ⟨_, by simp [Instr.extract, hi], .plain _ (plain_of_flat (by simp only [plain, Array.all_eq_true] at hp; exact hp i hi))⟩
      | @tuple c c' hc hh => exact ⟨_, by simp [Instr.extract, show i < c'.size by omega], hh i hi (by omega)⟩
  | _ => simp [aextract] at h

/-! ### len, min, max -/
def isSl (P : Program) (T : TypeId) : Bool := kd P T == .sl
theorem isSl_spec {P : Program} {T : TypeId} (h : isSl P T = true) : ∃ e, P.underlying T = some (.slice e) := by
  unfold isSl at h; exact kd_sl (by simpa using h)
def isMap (P : Program) (T : TypeId) : Bool := kd P T == .mp
theorem isMap_spec {P : Program} {T : TypeId} (h : isMap P T = true) : ∃ k e, P.underlying T = some (.map k e) := by
  unfold isMap at h; exact kd_mp (by simpa using h)

def alen (P : Program) (H : Hp) (T : TypeId) (x : Value) : Option Value :=
  match x with
  | .string s => if isStr P T then some (.int .i64 s.size) else none
  | .slice _ n _ => if isSl P T then some (.int .i64 n) else none
  | .map none => if isMap P T then some (.int .i64 0) else none
  | .map (some b) => if isMap P T then (match H.f b with | .map es => some (.int .i64 es.length) | _ => none) else none
  | _ => none
theorem alen_sound {P : Program} {r : Mp} {H : Hp} {w : World} (hs : Sim r H w) {ty T : TypeId} {ts : Array TypeId} {x x' v : Value} (ht : ts[0]? = some T) (hx : VRel r x x') (h : alen P H T x = some v) :
    (Builtin.len_ ts ty #[x']).run P w = .ok v w ∧ plain v = true := by
  unfold alen at h
  split at h <;> (try (cases h; done)) <;> split at h <;> (try (cases h; done)) <;> rename_i hc
  · cases h; cases hx; exact ⟨by simp [Builtin.len_, ht, run_underlying (isStr_spec hc), goInt], rfl⟩
  · obtain ⟨e, he⟩ := isSl_spec hc
    cases h; cases hx <;> exact ⟨by simp [Builtin.len_, ht, run_underlying he, goInt], rfl⟩
  · obtain ⟨k, e, he⟩ := isMap_spec hc
    cases h; cases hx; exact ⟨by simp [Builtin.len_, ht, run_underlying he, goInt], rfl⟩
  · obtain ⟨k, e, he⟩ := isMap_spec hc
    rename_i b
    cases hf : H.f b with
    | cells => simp [hf] at h
    | dead => simp [hf] at h
    | loop L => simp [hf] at h
    | map es =>
      simp only [hf, Option.some.injEq] at h
      subst h
      cases hx with
      | plain _ hp => simp [plain, flat, flat0] at hp
      | @map _ y hy =>
        have hb := hs.blk b y hy
        rw [hf] at hb
        obtain ⟨es', clock, h1, h2, h3⟩ := hb
        refine ⟨?_, rfl⟩
        have : (getObj y.c).run P w = .ok (.map es' clock) w := by simp [getObj, Sem.run, h1]
        simp [Builtin.len_, ht, run_underlying he, this, goInt, h2]

/-! ### Maps: looking up -/
def keyOk (P : Program) (kt : TypeId) (k : Value) : Bool :=
  match P.underlying kt, k with
  | some (.int _), .int _ _ => true
  | some .string, .string _ => true
  | _, _ => false
def sameKey : Value → Value → Option Bool
  | .int k a, .int k' b => if k = k' then some (decide (a = b)) else none
  | .string a, .string b => some (decide (a = b))
  | _, _ => none
/-- The place of a key, and what stands there. -/
def afind (k : Value) : List (Value × Value) → Nat → Option (Option (Nat × Value))
  | [], _ => some none
  | e :: es, i => match sameKey k e.1 with
    | some true => some (some (i, e.2))
    | some false => afind k es (i + 1)
    | none => none

theorem checkKey_ok {P : Program} {kt : TypeId} {k : Value} (h : keyOk P kt k = true) (b : Bool) (w : World) : (Instr.checkKey b 10000 kt k).run P w = .ok () w := by
  have : ∀ n, (Instr.checkKey b (n + 1) kt k).run P w = .ok () w := by
    intro n
    unfold keyOk at h
    split at h
    · rename_i hu; simp [Instr.checkKey, run_underlying hu]
    · rename_i hu; simp [Instr.checkKey, run_underlying hu]
    · cases h
  exact this 9999

def ERel (r : Mp) (es : List (Value × Value)) (es' : List MapEntry) : Prop :=
  es.length = es'.length ∧ ∀ i (h : i < es.length) (h' : i < es'.length), es'[i].key = es[i].1 ∧ plain es[i].1 = true ∧ VRel r es[i].2 es'[i].val
theorem ERel.uncons {r : Mp} {e : Value × Value} {es : List (Value × Value)} {m : List MapEntry} (h : ERel r (e :: es) m) :
    ∃ e' es', m = e' :: es' ∧ e'.key = e.1 ∧ plain e.1 = true ∧ VRel r e.2 e'.val ∧ ERel r es es' := by
  cases m with
  | nil => simp [ERel] at h
  | cons e' es' =>
    have h0 := h.2 0 (by simp) (by simp)
    exact ⟨e', es', rfl, h0.1, h0.2.1, h0.2.2, by simpa using h.1, fun i a b => h.2 (i + 1) (by simpa using a) (by simpa using b)⟩

theorem findNow_rel {P : Program} {r : Mp} {kt : TypeId} {k : Value} {d : TypeDesc} (hd : P.underlying kt = some d) (hk : keyOk P kt k = true) : ∀ {es : List (Value × Value)} {es' : List MapEntry} (i : Nat) {q : Option (Nat × Value)},
    ERel r es es' → afind k es i = some q → ∃ q', Instr.findNow d k es' i = some q' ∧ (q = none ∧ q' = none ∨ ∃ j v v', q = some (j, v) ∧ q' = some (j, v') ∧ VRel r v v' ∧ i ≤ j ∧ ∃ hj : j - i < es'.length, es'[j - i].key = k)
  | [], es', i, q, he, hf => by
    have : es' = [] := List.eq_nil_of_length_eq_zero he.1.symm
    subst this
    simp only [afind, Option.some.injEq] at hf
    exact ⟨none, rfl, .inl ⟨hf.symm, rfl⟩⟩
  | e :: es, m, i, q, he, hf => by
    obtain ⟨e', es', rfl, h1, h2, h3, h4⟩ := he.uncons
    have same : ∀ b, sameKey k e.1 = some b → Instr.sameNow d k e'.key = some b := by
      intro b hb
      rw [h1]
      unfold keyOk at hk
      rw [hd] at hk
      cases d <;> cases k <;> simp at hk <;> (cases hq : e.1 <;> simp [sameKey, hq] at hb) <;> simp [Instr.sameNow]
      · obtain ⟨rfl, rfl⟩ := hb; simp [int_beq]
      · rw [← hb, beq_toListBytes, ba_eq]
    simp only [afind] at hf
    cases hs : sameKey k e.1 with
    | none => simp [hs] at hf
    | some b =>
      cases b with
      | true =>
        simp only [hs, Option.some.injEq] at hf
        refine ⟨some (i, e'.val), by simp [Instr.findNow, same _ hs], .inr ⟨i, e.2, e'.val, hf.symm, rfl, h3, Nat.le_refl _, by simp, ?_⟩⟩
        simp only [Nat.sub_self, List.getElem_cons_zero]
        rw [h1]
        unfold sameKey at hs
        split at hs
        · split at hs
          · rename_i h9 hh; subst hh; simp at hs; subst hs; exact h9
          · cases hs
        · rename_i h9; simp at hs; subst hs; exact h9
        · cases hs
      | false =>
        simp only [hs] at hf
        obtain ⟨q', g1, g2⟩ := findNow_rel hd hk (i + 1) h4 hf
        refine ⟨q', by simp [Instr.findNow, same _ hs, g1], ?_⟩
        rcases g2 with g2 | ⟨j, v, v', rfl, rfl, g3, g4, g5, g6⟩
        · exact .inl g2
        · refine .inr ⟨j, v, v', rfl, rfl, g3, by omega, ?_⟩
          have hj : j - i = (j - (i + 1)) + 1 := by omega
          rw [hj]
          exact ⟨by simpa using g5, by simpa using g6⟩

theorem findKey_run {P : Program} {r : Mp} {kt : TypeId} {k : Value} (hk : keyOk P kt k = true) {es : List (Value × Value)} {es' : List MapEntry} {q : Option (Nat × Value)} (he : ERel r es es') (hf : afind k es 0 = some q) (w : World) :
    ∃ q', (Instr.findKey kt k es').run P w = .ok q' w ∧ (q = none ∧ q' = none ∨ ∃ j v v', q = some (j, v) ∧ q' = some (j, v') ∧ VRel r v v' ∧ ∃ hj : j < es'.length, es'[j].key = k) := by
  cases hd : P.underlying kt with
  | none => simp [keyOk, hd] at hk
  | some d =>
    obtain ⟨q', h1, h2⟩ := findNow_rel hd hk 0 he hf
    refine ⟨q', by simp [Instr.findKey, run_underlying hd, h1], ?_⟩
    rcases h2 with h2 | ⟨j, v, v', a, b, c, _, e⟩
    · exact .inl h2
    · exact .inr ⟨j, v, v', a, b, c, by simpa using e⟩

def mapTy (P : Program) (T : TypeId) : Option (TypeId × TypeId) := match P.underlying T with | some (.map k e) => some (k, e) | _ => none
theorem mapTy_spec {P : Program} {T k e : TypeId} (h : mapTy P T = some (k, e)) : P.underlying T = some (.map k e) := by
  unfold mapTy at h; split at h <;> simp_all

def alookup (P : Program) (H : Hp) (T : TypeId) (m k : Value) (ok : Bool) : Option Value :=
  match mapTy P T with
  | some (kt, et) => if keyOk P kt k then
      match m with
      | .map none => (zeroV P et).map fun z => if ok then .tuple #[z, .bool false] else z
      | .map (some b) => match H.f b with
        | .map es => match afind k es 0 with
          | some (some (_, v)) => some (if ok then .tuple #[v, .bool true] else v)
          | some none => (zeroV P et).map fun z => if ok then .tuple #[z, .bool false] else z
          | none => none
        | _ => none
      | _ => none
    else none
  | none => none

theorem key_plain {P : Program} {kt : TypeId} {k k' : Value} {r : Mp} (h : keyOk P kt k = true) (hr : VRel r k k') : k' = k ∧ plain k = true := by
  unfold keyOk at h
  split at h
  · cases hr; exact ⟨rfl, rfl⟩
  · cases hr; exact ⟨rfl, rfl⟩
  · cases h

theorem alookup_sound {P : Program} {r : Mp} {H : Hp} {w : World} (hs : Sim r H w) {T : TypeId} {m m' k k' v : Value} {ok : Bool} (hm : VRel r m m') (hk : VRel r k k') (h : alookup P H T m k ok = some v) :
    ∃ v', (Instr.lookup T m' k' ok).run P w = .ok v' w ∧ VRel r v v' := by
  unfold alookup at h
  split at h
  · rename_i kt et ht
    have hu := mapTy_spec ht
    split at h
    · rename_i hko
      obtain ⟨rfl, hkp⟩ := key_plain hko hk
      split at h
      · cases hz : zeroV P et with
        | none => simp [hz] at h
        | some z =>
          simp only [hz, Option.map_some, Option.some.injEq] at h
          subst h
          cases hm
          obtain ⟨q', g1, g2⟩ := findKey_run (P := P) (r := r) hko (es := []) (es' := []) ⟨rfl, fun i h => absurd h (by simp)⟩ rfl w
          have g1' : (Instr.findKey kt k' []).run P w = .ok none w := by
            rcases g2 with ⟨_, rfl⟩ | ⟨j, v, v', hc, _⟩
            · exact g1
            · cases hc
          refine ⟨if ok then .tuple #[z, .bool false] else z, ?_, ?_⟩
          · simp [Instr.lookup, run_underlying hu, checkKey_ok hko, g1', (zeroV_run hz w).1]
          · split
            · exact tuple2_rel (.plain _ (zeroV_run hz w).2) (.plain _ rfl)
            · exact .plain _ (zeroV_run hz w).2
      · rename_i b
        cases hf : H.f b with
        | cells => simp [hf] at h
        | dead => simp [hf] at h
        | loop L => simp [hf] at h
        | map es =>
          simp only [hf] at h
          cases hm with
          | plain _ hp => simp [plain, flat, flat0] at hp
          | @map _ y hy =>
            have hb := hs.blk b y hy
            rw [hf] at hb
            obtain ⟨es', clock, h1, h2, h3⟩ := hb
            have hg : (getObj y.c).run P w = .ok (.map es' clock) w := by simp [getObj, Sem.run, h1]
            cases hq : afind k' es 0 with
            | none => simp [hq] at h
            | some q =>
              obtain ⟨q', g1, g2⟩ := findKey_run (P := P) hko (r := r) (es' := es'.toList) ⟨h2, h3⟩ hq w
              rcases g2 with ⟨rfl, rfl⟩ | ⟨j, u, u', rfl, rfl, hr, _⟩
              · simp only [hq] at h
                cases hz : zeroV P et with
                | none => simp [hz] at h
                | some z =>
                  simp only [hz, Option.map_some, Option.some.injEq] at h
                  subst h
                  refine ⟨if ok then .tuple #[z, .bool false] else z, ?_, ?_⟩
                  · simp [Instr.lookup, run_underlying hu, hg, checkKey_ok hko, g1, (zeroV_run hz w).1]
                  · split
                    · exact tuple2_rel (.plain _ (zeroV_run hz w).2) (.plain _ rfl)
                    · exact .plain _ (zeroV_run hz w).2
              · simp only [hq, Option.some.injEq] at h
                subst h
                refine ⟨if ok then .tuple #[u', .bool true] else u', ?_, ?_⟩
                · simp [Instr.lookup, run_underlying hu, hg, checkKey_ok hko, g1]
                · split
                  · exact tuple2_rel hr (.plain _ rfl)
                  · exact hr
      · cases h
    · cases h
  · cases h

def aminmax (mx : Bool) : List Value → Option Value
  | [.int k x, .int _ y] => some (.int k (if mx then (if x < y then y else x) else (if y < x then y else x)))
  | [.int k x, .int _ y, .int _ z] => some (.int k (if mx then (if (if x < y then y else x) < z then z else (if x < y then y else x)) else (if z < (if y < x then y else x) then z else (if y < x then y else x))))
  | _ => none

end Am
end Go.Proofs.YtbpabpnpoidpcaaGreatDoor
