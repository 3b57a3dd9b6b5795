/- All operations of the abstract machine but calls of functions, together; built-in functions. No conditions. -/
import Derived.Test.YtbpabpnpoidpcaaGreatDoorAbs9
set_option linter.unusedVariables false
set_option linter.unusedSimpArgs false
namespace Go.Proofs.YtbpabpnpoidpcaaGreatDoor
namespace Am
open Go Go.RowKit

/-- An operation that makes no memory. -/
def aval (P : Program) (t : Fr) (H : Hp) : Op → Option Value
  | .move x | .assign x => some (ev t x)
  | .pick c a b => match ev t c with
    | .bool true => some (ev t a)
    | .bool false => some (ev t b)
    | _ => none
  | .build T ps => abuild P T (ps.toList.map fun p => (p.1, ev t p.2))
  | .load T a => aload P H T (ev t a)
  | .nilCheck x => anil (ev t x)
  | .binOp op T x y _ => abin P op T (isLit x || isLit y) (ev t x) (ev t y)
  | .unOp op _ x => aun op (ev t x)
  | .convert s d x => aconv P H s d (ev t x)
  | .makeInterface T x => aiface P T (ev t x)
  | .makeFunc (.func g) f c => some (.func (.func g) (f.map (ev t)) (c.map (ev t)))
  | .slice T x lo hi mx => aslice P H T (ev t x) (lo.map (ev t)) (hi.map (ev t)) (mx.map (ev t))
  | .fieldAddr S x f => afieldAddr P S f (ev t x)
  | .field S x f => afield P S f (ev t x)
  | .indexAddr T x i => aindexAddr P T (ev t x) (ev t i)
  | .index T x i => aindex P T (ev t x) (ev t i)
  | .lookup T m k ok => alookup P H T (ev t m) (ev t k) ok
  | .typeAssert x _ T ok => aassert P (ev t x) T ok
  | .extract x i => aextract (ev t x) i
  | _ => none

/-- What an operation comes to. -/
def aop (P : Program) (t : Fr) (H : Hp) : Op → Option (Value × Hp)
  | .alloc T => aalloc P H T
  | .box T x => abox P H T (ev t x)
  | .buildSlice T n ps => abuildSlice P H T n (ps.toList.map fun p => (p.1, ev t p.2))
  | .store T a x => (astore P H T (ev t a) (ev t x)).map fun H' => (undef, H')
  | .makeSlice T l c => amake P H T (ev t l) (ev t c)
  | .makeMap _ none => amakeMap H none
  | .mapUpdate T m k x => (amapUpdate P H T (ev t m) (ev t k) (ev t x)).map fun H' => (undef, H')
  | .convert s d x => match aconv P H s d (ev t x) with
    | some v => some (v, H)
    | none => abytes P H s d (ev t x)
  | op => (aval P t H op).map fun v => (v, H)

theorem plain_undef : plain undef = true := by simp [plain, undef]

/-- The end of an operation that is no call. -/
def Ends (P : Program) (a : Act) (o : Oper) (r : Mp) (H : Hp) (w : World) (v : Value) (H' : Hp) : Prop :=
  ∃ n v' r' w', (execOp a.eval o).run P w = .ok n w' ∧ (n = .value v' ∨ (n = .skip ∧ v' = undef)) ∧ VRel r' v v' ∧ Sim r' H' w' ∧ Step r H w r' H' w'

theorem ends_val {P : Program} {a : Act} {o : Oper} {r : Mp} {H : Hp} {w : World} {v v' : Value} (hs : Sim r H w) (hr : (execOp a.eval o).run P w = .ok (.value v') w) (hv : VRel r v v') : Ends P a o r H w v H :=
  ⟨_, v', r, w, hr, .inl rfl, hv, hs, Step.refl _ _ _⟩

theorem orel_map {r : Mp} {t : Fr} {a : Act} (x : Option Operand) (h : ∀ y, x = some y → VRel r (ev t y) (a.eval y)) : ORel r (x.map (ev t)) (x.map a.eval) := by
  cases x with
  | none => trivial
  | some y => exact h y rfl

theorem prel_map {r : Mp} {t : Fr} {a : Act} (ps : Array (Nat × Operand)) (h : ∀ p ∈ ps.toList, VRel r (ev t p.2) (a.eval p.2)) :
    PRel r (ps.toList.map fun p => (p.1, ev t p.2)) (ps.map fun (i, x) => (i, a.eval x)).toList := by
  refine ⟨by simp, fun i a b => ?_⟩
  simp only [List.getElem_map, Array.toList_map]
  exact ⟨trivial, h _ (List.getElem_mem _)⟩

theorem aval_sound {P : Program} {r : Mp} {H : Hp} {w : World} (hs : Sim r H w) {t : Fr} {a : Act} {o : Oper} (hx : ∀ x ∈ o.op.operands, VRel r (ev t x) (a.eval x)) {v : Value} (h : aval P t H o.op = some v) :
    Ends P a o r H w v H := by
  cases ho : o.op <;> rw [ho] at h hx <;> simp only [aval] at h <;> try (cases h; done)
  case move x =>
    cases h
    exact ends_val hs (v' := a.eval x) (by unfold execOp; rw [ho]; rfl) (hx x (by simp [Op.operands]))
  case assign x =>
    cases h
    exact ends_val hs (v' := a.eval x) (by unfold execOp; rw [ho]; rfl) (hx x (by simp [Op.operands]))
  case pick c x y =>
    have hc := hx c (by simp [Op.operands])
    split at h
    · rename_i e
      rw [e] at hc
      cases h
      have : a.eval c = .bool true := by generalize a.eval c = q at hc; cases hc; rfl
      exact ends_val hs (v' := a.eval x) (by unfold execOp; rw [ho]; simp [this, asBool]) (hx x (by simp [Op.operands]))
    · rename_i e
      rw [e] at hc
      cases h
      have : a.eval c = .bool false := by generalize a.eval c = q at hc; cases hc; rfl
      exact ends_val hs (v' := a.eval y) (by unfold execOp; rw [ho]; simp [this, asBool]) (hx y (by simp [Op.operands]))
    · cases h
  case build T ps =>
    obtain ⟨v', h1, h2⟩ := abuild_sound (P := P) (w := w) (prel_map (a := a) ps (fun p hp => hx p.2 (by simp only [Op.operands]; simp; exact ⟨p.1, by simpa using hp⟩))) h
    exact ends_val hs (by unfold execOp; rw [ho]; simp [h1]) h2
  case load T x =>
    obtain ⟨v', h1, h2⟩ := aload_sound (P := P) hs (hx x (by simp [Op.operands])) h
    exact ends_val hs (by unfold execOp; rw [ho]; simp [h1]) h2
  case nilCheck x =>
    obtain ⟨v', h1, h2⟩ := anil_sound (P := P) (w := w) ho (hx x (by simp [Op.operands])) h
    exact ends_val hs h1 h2
  case binOp op T x y yT =>
    obtain ⟨h1, h2⟩ := abin_sound (P := P) (w := w) (hx x (by simp [Op.operands])) (hx y (by simp [Op.operands])) h
    exact ends_val hs (by unfold execOp; rw [ho]; simp only [Sem.run_bind, h1, Result.andThen_ok, Sem.run_pure]) h2
  case unOp op T x =>
    obtain ⟨h1, h2⟩ := aun_sound (P := P) (w := w) (hx x (by simp [Op.operands])) h
    exact ends_val hs (by unfold execOp; rw [ho]; simp [h1]) h2
  case convert s d x =>
    obtain ⟨h1, h2⟩ := aconv_sound (P := P) hs (hx x (by simp [Op.operands])) h
    exact ends_val hs (by unfold execOp; rw [ho]; simp [h1]) h2
  case makeInterface T x =>
    obtain ⟨v', h1, h2⟩ := aiface_sound (P := P) (w := w) (hx x (by simp [Op.operands])) h
    exact ends_val hs (by unfold execOp; rw [ho]; simp [h1]) h2
  case makeFunc fn f c =>
    cases fn <;> simp only [aval] at h <;> try (cases h; done)
    case func g =>
      cases h
      refine ends_val hs (v' := .func (.func g) (f.map a.eval) (c.map a.eval)) (by unfold execOp; rw [ho]; simp [Instr.makeFunc]) ?_
      refine .func _ (by simp) (by simp) (fun i p q => ?_) (fun i p q => ?_)
      · simp only [Array.getElem_map]
        exact hx _ (by simp only [Op.operands]; exact Array.mem_append.2 (.inl (Array.getElem_mem _)))
      · simp only [Array.getElem_map]
        exact hx _ (by simp only [Op.operands]; exact Array.mem_append.2 (.inr (Array.getElem_mem _)))
  case slice T x lo hi mx =>
    have e : ∀ y, x = y ∨ lo = some y ∨ hi = some y ∨ mx = some y → VRel r (ev t y) (a.eval y) := by
      intro y hy
      refine hx y ?_
      simp only [Op.operands, Array.mem_append]
      rcases hy with rfl | rfl | rfl | rfl <;> simp
    obtain ⟨v', h1, h2⟩ := aslice_sound (P := P) hs (e x (.inl rfl)) (orel_map lo fun y hy => e y (.inr (.inl hy))) (orel_map hi fun y hy => e y (.inr (.inr (.inl hy)))) (orel_map mx fun y hy => e y (.inr (.inr (.inr hy)))) h
    exact ends_val hs (by unfold execOp; rw [ho]; simp [h1]) h2
  case fieldAddr S x f =>
    obtain ⟨v', h1, h2⟩ := afieldAddr_sound (P := P) (w := w) (hx x (by simp [Op.operands])) h
    exact ends_val hs (by unfold execOp; rw [ho]; simp [h1]) h2
  case field S x f =>
    obtain ⟨v', h1, h2⟩ := afield_sound (P := P) (w := w) (hx x (by simp [Op.operands])) h
    exact ends_val hs (by unfold execOp; rw [ho]; simp [h1]) h2
  case indexAddr T x i =>
    obtain ⟨v', h1, h2⟩ := aindexAddr_sound (P := P) (w := w) (hx x (by simp [Op.operands])) (hx i (by simp [Op.operands])) h
    exact ends_val hs (by unfold execOp; rw [ho]; simp [h1]) h2
  case index T x i =>
    obtain ⟨v', h1, h2⟩ := aindex_sound (P := P) (w := w) (hx x (by simp [Op.operands])) (hx i (by simp [Op.operands])) h
    exact ends_val hs (by unfold execOp; rw [ho]; simp [h1]) h2
  case lookup T m k ok =>
    obtain ⟨v', h1, h2⟩ := alookup_sound (P := P) hs (hx m (by simp [Op.operands])) (hx k (by simp [Op.operands])) h
    exact ends_val hs (by unfold execOp; rw [ho]; simp [h1]) h2
  case typeAssert x X T ok =>
    obtain ⟨v', h1, h2⟩ := aassert_sound (P := P) (w := w) (X := X) (hx x (by simp [Op.operands])) h
    exact ends_val hs (by unfold execOp; rw [ho]; simp [h1]) h2
  case extract x i =>
    obtain ⟨v', h1, h2⟩ := aextract_sound (P := P) (w := w) (hx x (by simp [Op.operands])) h
    exact ends_val hs (by unfold execOp; rw [ho]; simp [h1]) h2

theorem aop_sound {P : Program} {r : Mp} {H H' : Hp} {w : World} (hs : Sim r H w) {t : Fr} {a : Act} {o : Oper} (hx : ∀ x ∈ o.op.operands, VRel r (ev t x) (a.eval x)) {v : Value} (h : aop P t H o.op = some (v, H')) :
    Ends P a o r H w v H' := by
  have viaVal : (aval P t H o.op).map (fun v => (v, H)) = some (v, H') → Ends P a o r H w v H' := by
    intro h
    cases hv : aval P t H o.op with
    | none => simp [hv] at h
    | some u =>
      simp only [hv, Option.map_some, Option.some.injEq, Prod.mk.injEq] at h
      obtain ⟨rfl, rfl⟩ := h
      exact aval_sound hs hx hv
  cases ho : o.op <;> rw [ho] at h <;> first
    | exact viaVal (by rw [ho]; exact h)
    | skip
  all_goals rw [ho] at hx
  all_goals simp only [aop] at h
  case alloc T =>
    obtain ⟨v', r', w', h1, h2, h3, h4⟩ := aalloc_sound (P := P) hs h
    exact ⟨.value v', v', r', w', by unfold execOp; rw [ho]; simp [h1], .inl rfl, h2, h3, h4⟩
  case box T x =>
    obtain ⟨v', r', w', h1, h2, h3, h4⟩ := abox_sound (P := P) hs (hx x (by simp [Op.operands])) h
    exact ⟨.value v', v', r', w', by unfold execOp; rw [ho]; simp [h1], .inl rfl, h2, h3, h4⟩
  case buildSlice T n ps =>
    obtain ⟨v', r', w', h1, h2, h3, h4⟩ := abuildSlice_sound (P := P) hs (prel_map (a := a) ps (fun p hp => hx p.2 (by simp only [Op.operands]; simp; exact ⟨p.1, by simpa using hp⟩))) h
    exact ⟨.value v', v', r', w', by unfold execOp; rw [ho]; simp [h1], .inl rfl, h2, h3, h4⟩
  case store T p x =>
    cases hst : astore P H T (ev t p) (ev t x) with
    | none => simp [hst] at h
    | some H2 =>
      simp only [hst, Option.map_some, Option.some.injEq, Prod.mk.injEq] at h
      obtain ⟨rfl, rfl⟩ := h
      obtain ⟨w', h1, h2, h3⟩ := astore_sound (P := P) hs (hx p (by simp [Op.operands])) (hx x (by simp [Op.operands])) hst
      exact ⟨.skip, undef, r, w', by unfold execOp; rw [ho]; simp [h1], .inr ⟨rfl, rfl⟩, .plain _ plain_undef, h2, h3⟩
  case makeSlice T l c =>
    obtain ⟨v', r', w', h1, h2, h3, h4⟩ := amake_sound (P := P) hs (hx l (by simp [Op.operands])) (hx c (by simp [Op.operands])) h
    exact ⟨.value v', v', r', w', by unfold execOp; rw [ho]; simp [h1], .inl rfl, h2, h3, h4⟩
  case makeMap T n =>
    cases n with
    | some q => simp [aop, aval] at h
    | none =>
      obtain ⟨v', r', w', h1, h2, h3, h4⟩ := amakeMap_sound (P := P) (T := T) hs h
      exact ⟨.value v', v', r', w', by unfold execOp; rw [ho]; simp [h1], .inl rfl, h2, h3, h4⟩
  case mapUpdate T m k x =>
    cases hst : amapUpdate P H T (ev t m) (ev t k) (ev t x) with
    | none => simp [hst] at h
    | some H2 =>
      simp only [hst, Option.map_some, Option.some.injEq, Prod.mk.injEq] at h
      obtain ⟨rfl, rfl⟩ := h
      obtain ⟨w', h1, h2, h3⟩ := amapUpdate_sound (P := P) hs (hx m (by simp [Op.operands])) (hx k (by simp [Op.operands])) (hx x (by simp [Op.operands])) hst
      exact ⟨.skip, undef, r, w', by unfold execOp; rw [ho]; simp [h1], .inr ⟨rfl, rfl⟩, .plain _ plain_undef, h2, h3⟩
  case convert s d x =>
    split at h
    · rename_i u hu
      simp only [Option.some.injEq, Prod.mk.injEq] at h
      obtain ⟨rfl, rfl⟩ := h
      obtain ⟨h1, h2⟩ := aconv_sound (P := P) hs (hx x (by simp [Op.operands])) hu
      exact ends_val hs (by unfold execOp; rw [ho]; simp [h1]) h2
    · obtain ⟨v', r', w', h1, h2, h3, h4⟩ := abytes_sound (P := P) hs (hx x (by simp [Op.operands])) h
      exact ⟨.value v', v', r', w', by unfold execOp; rw [ho]; simp [h1], .inl rfl, h2, h3, h4⟩

/-! ### Built-in functions -/
def abuiltin (P : Program) (H : Hp) (b : Builtin) (ts : List TypeId) (args : List Value) : Option (Value × Hp) :=
  match b, ts, args with
  | .len, [T], [x] => (alen P H T x).map fun v => (v, H)
  | .append, [tS, tX], [s, x] => aappend P H tS tX s x
  | .copy, [tD, tS], [d, s] => acopy P H tD tS d s
  | .delete, [T, _], [m, k] => (adelete P H T m k).map fun H' => (undef, H')
  | .min, _, l => (aminmax false l).map fun v => (v, H)
  | .max, _, l => (aminmax true l).map fun v => (v, H)
  | _, _, _ => none

theorem list2 {α : Type} {x : Array α} {a b : α} (h : x.toList = [a, b]) : x = #[a, b] := Array.ext' h
theorem list1 {α : Type} {x : Array α} {a : α} (h : x.toList = [a]) : x = #[a] := Array.ext' h

theorem abuiltin_sound {P : Program} {r : Mp} {H H' : Hp} {w : World} (hs : Sim r H w) {b : Builtin} {ts : Array TypeId} {ty : TypeId} {consts : Array Bool} {args args' : List Value} (ha : LRel r args args') {v : Value} (h : abuiltin P H b ts.toList args = some (v, H')) :
    ∃ v' r' w', (builtin b ts ty consts args'.toArray).run P w = .ok (.value v') w' ∧ VRel r' v v' ∧ Sim r' H' w' ∧ Step r H w r' H' w' := by
  have nil_of : ∀ {l : List Value}, LRel r [] l → l = [] := fun h => List.eq_nil_of_length_eq_zero (by simpa using h.1.symm)
  cases b <;> try (simp [abuiltin] at h; done)
  case len =>
    unfold abuiltin at h
    split at h <;> first | (simp_all; done) | skip
    rename_i T x _ hts
    obtain ⟨x', l1, rfl, e1, hl⟩ := ha.uncons
    have := nil_of hl
    subst this
    cases hq : alen P H T x with
    | none => simp [hq] at h
    | some u =>
      simp only [hq, Option.map_some, Option.some.injEq, Prod.mk.injEq] at h
      obtain ⟨rfl, rfl⟩ := h
      have := list1 hts
      subst this
      obtain ⟨h1, h2⟩ := alen_sound (P := P) (ty := ty) (ts := #[T]) hs rfl e1 hq
      exact ⟨u, r, w, by simp [builtin, h1], .plain _ h2, hs, Step.refl _ _ _⟩
  case append =>
    unfold abuiltin at h
    split at h <;> first | (simp_all; done) | skip
    rename_i tS tX s x _ hts
    obtain ⟨s', l1, rfl, e1, hl⟩ := ha.uncons
    obtain ⟨x', l2, rfl, e2, hl⟩ := hl.uncons
    have := nil_of hl
    subst this
    have := list2 hts
    subst this
    obtain ⟨v', r', w', h1, h2, h3, h4⟩ := aappend_sound (P := P) (ty := ty) hs e1 e2 h
    exact ⟨v', r', w', by simp [builtin, h1], h2, h3, h4⟩
  case copy =>
    unfold abuiltin at h
    split at h <;> first | (simp_all; done) | skip
    rename_i tS tX s x _ hts
    obtain ⟨s', l1, rfl, e1, hl⟩ := ha.uncons
    obtain ⟨x', l2, rfl, e2, hl⟩ := hl.uncons
    have := nil_of hl
    subst this
    have := list2 hts
    subst this
    obtain ⟨w', h1, h2, h3, h4⟩ := acopy_sound (P := P) (ty := ty) hs e1 e2 h
    exact ⟨v, r, w', by simp [builtin, h1], .plain _ h2, h3, h4⟩
  case delete =>
    unfold abuiltin at h
    split at h <;> first | (simp_all; done) | skip
    rename_i T tK m k _ hts
    obtain ⟨s', l1, rfl, e1, hl⟩ := ha.uncons
    obtain ⟨x', l2, rfl, e2, hl⟩ := hl.uncons
    have := nil_of hl
    subst this
    have := list2 hts
    subst this
    cases hq : adelete P H T m k with
    | none => simp [hq] at h
    | some H2 =>
      simp only [hq, Option.map_some, Option.some.injEq, Prod.mk.injEq] at h
      obtain ⟨rfl, rfl⟩ := h
      obtain ⟨w', h1, h2, h3⟩ := adelete_sound (P := P) (tK := tK) (ty := ty) hs e1 e2 hq
      exact ⟨.tuple #[], r, w', by simp [builtin, h1], .plain _ plain_undef, h2, h3⟩
  case min =>
    simp only [abuiltin] at h
    cases hq : aminmax false args with
    | none => simp [hq] at h
    | some u =>
      simp only [hq, Option.map_some, Option.some.injEq, Prod.mk.injEq] at h
      obtain ⟨rfl, rfl⟩ := h
      obtain ⟨h1, h2⟩ := aminmax_sound (P := P) (w := w) (ts := ts) (ty := ty) ha hq
      simp at h1
      exact ⟨u, r, w, by simp [builtin, h1], .plain _ h2, hs, Step.refl _ _ _⟩
  case max =>
    simp only [abuiltin] at h
    cases hq : aminmax true args with
    | none => simp [hq] at h
    | some u =>
      simp only [hq, Option.map_some, Option.some.injEq, Prod.mk.injEq] at h
      obtain ⟨rfl, rfl⟩ := h
      obtain ⟨h1, h2⟩ := aminmax_sound (P := P) (w := w) (ts := ts) (ty := ty) ha hq
      simp at h1
      exact ⟨u, r, w, by simp [builtin, h1], .plain _ h2, hs, Step.refl _ _ _⟩

end Am
end Go.Proofs.YtbpabpnpoidpcaaGreatDoor
