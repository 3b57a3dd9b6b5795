/- The abstract machine's operations by kinds: those that leave the memory, those that only add to it. No conditions. -/
import Derived.Test.YtbpabpnpoidpcaaGreatDoorAbsc
set_option linter.unusedVariables false
set_option linter.unusedSimpArgs false
namespace Go.Proofs.YtbpabpnpoidpcaaGreatDoor
namespace Am
open Go Go.RowKit

inductive Cl where
  | pure | read | alloc | writer
  deriving DecidableEq

def cl (P : Program) : Op → Cl
  | .move _ | .assign _ | .pick .. | .build .. | .nilCheck _ | .binOp .. | .unOp .. | .makeInterface .. | .makeFunc .. | .fieldAddr .. | .field .. | .indexAddr .. | .index .. | .typeAssert .. | .extract .. => .pure
  | .load .. | .slice .. | .lookup .. => .read
  | .convert _ d _ => if isBytes P d then .alloc else .read
  | .alloc _ | .box .. | .buildSlice .. | .makeSlice .. | .makeMap _ none => .alloc
  | .call c => match c.callee with
    | .builtin .len | .builtin .min | .builtin .max => .read
    | _ => .writer
  | _ => .writer

theorem aconv_bytes {P : Program} {H : Hp} {s d : TypeId} {x : Value} (h : isBytes P d = true) : aconv P H s d x = none := by
  obtain ⟨e, he, _⟩ := isBytes_spec h
  have h1 : intTo P d = none := by simp [intTo, he]
  have h2 : isStr P d = false := by simp [isStr, kd, he]
  unfold aconv
  split <;> simp [h1, h2]

theorem abytes_isBytes {P : Program} {H : Hp} {s d : TypeId} {x : Value} {q : Value × Hp} (h : abytes P H s d x = some q) : isBytes P d = true := by
  unfold abytes at h
  split at h
  · split at h
    · rename_i hc
      simp only [Bool.and_eq_true] at hc
      exact hc.2
    · cases h
  · cases h

/-- An operation that reads at most. -/
theorem astep_keep {P : Program} {call : CallF} {t : Fr} {H H' : Hp} {o : Oper} {v : Value} (hc : cl P o.op = .pure ∨ cl P o.op = .read) (h : astep P call t H o = some (v, H')) : H' = H := by
  unfold astep at h
  cases ho : o.op <;> simp only [ho, cl, reduceCtorEq, or_self, or_false, false_or] at h hc
  case call c =>
    unfold acall at h
    split at hc
    · rename_i hb
      simp only [hb] at h
      unfold abuiltin at h
      split at h <;> simp_all
      obtain ⟨_, _, _, h⟩ := h
      exact h.symm
    · rename_i hb
      simp only [hb] at h
      unfold abuiltin at h
      split at h <;> simp_all
      obtain ⟨_, _, _, h⟩ := h
      exact h.symm
    · rename_i hb
      simp only [hb] at h
      unfold abuiltin at h
      split at h <;> simp_all
      obtain ⟨_, _, _, h⟩ := h
      exact h.symm
    · simp at hc
  case convert s d x =>
    simp only [aop] at h
    split at h
    · simp at h; exact h.2.symm
    · have := abytes_isBytes h
      simp [this] at hc
  all_goals first
    | (simp only [aop, Option.map_eq_some_iff, Prod.mk.injEq] at h; obtain ⟨_, _, _, h⟩ := h; exact h.symm)
    | (rename_i a b; cases b <;> simp at hc)

theorem astep_free {P : Program} {call : CallF} {t : Fr} {H H' : Hp} {o : Oper} {v : Value} (hc : cl P o.op = .pure) (h : astep P call t H o = some (v, H')) (K : Hp) : astep P call t K o = some (v, K) := by
  unfold astep at *
  cases ho : o.op <;> simp only [ho, cl, reduceCtorEq] at h hc ⊢
  case call c => split at hc <;> simp at hc
  case convert s d x => split at hc <;> simp at hc
  case makeFunc fn f c =>
    cases fn <;> simp only [aop, Option.map_eq_some_iff, Prod.mk.injEq] at h ⊢ <;> obtain ⟨u, h1, rfl, _⟩ := h <;> exact ⟨_, h1, rfl, trivial⟩
  all_goals first
    | (simp only [aop, Option.map_eq_some_iff, Prod.mk.injEq] at h; obtain ⟨u, h1, rfl, _⟩ := h; simp only [aop]; exact Option.map_eq_some_iff.2 ⟨_, h1, rfl⟩)
    | (rename_i a b; cases b <;> cases hc)

theorem astep_alloc {P : Program} {call : CallF} {t : Fr} {H H' : Hp} {o : Oper} {v : Value} (hc : cl P o.op = .alloc) (h : astep P call t H o = some (v, H')) :
    ∃ B, H' = H.alloc B ∧ ∀ K : Hp, K.n = H.n → astep P call t K o = some (v, K.alloc B) := by
  unfold astep at *
  cases ho : o.op <;> simp only [ho, cl, reduceCtorEq] at h hc ⊢
  case call c => split at hc <;> simp at hc
  case alloc T =>
    simp only [aop, aalloc, Option.map_eq_some_iff, Prod.mk.injEq] at h ⊢
    obtain ⟨z, h1, rfl, rfl⟩ := h
    exact ⟨_, rfl, fun K hK => ⟨z, h1, by rw [hK], rfl⟩⟩
  case box T x =>
    simp only [aop, abox, Option.map_eq_some_iff, Prod.mk.injEq] at h ⊢
    obtain ⟨z, h1, rfl, rfl⟩ := h
    exact ⟨_, rfl, fun K hK => ⟨z, h1, by rw [hK], rfl⟩⟩
  case buildSlice T n ps =>
    simp only [aop, abuildSlice] at h ⊢
    split at h
    · split at h
      · rename_i hb
        simp only [Option.map_eq_some_iff, Prod.mk.injEq] at h ⊢
        obtain ⟨z, h1, rfl, rfl⟩ := h
        refine ⟨_, rfl, fun K hK => ?_⟩
        rw [if_pos hb]
        exact by simp [h1, hK]
      · cases h
    · cases h
  case makeSlice T l c =>
    simp only [aop, amake] at h ⊢
    split at h
    · split at h
      · split at h
        · rename_i hb
          simp only [Option.some.injEq, Prod.mk.injEq] at h ⊢
          obtain ⟨rfl, rfl⟩ := h
          refine ⟨_, rfl, fun K hK => ?_⟩
          rw [if_pos hb]
          simp [hK]
        · cases h
      · cases h
    · cases h
  case makeMap T n =>
    cases n with
    | some q => simp at hc
    | none =>
      simp only [aop, amakeMap, Option.some.injEq, Prod.mk.injEq] at h ⊢
      obtain ⟨rfl, rfl⟩ := h
      exact ⟨_, rfl, fun K hK => ⟨by rw [hK], rfl⟩⟩
  case convert s d x =>
    split at hc
    · rename_i hb
      simp only [aop, aconv_bytes hb] at h ⊢
      unfold abytes at h ⊢
      split at h
      · split at h
        · rename_i hb
          simp only [Option.some.injEq, Prod.mk.injEq] at h
          obtain ⟨rfl, rfl⟩ := h
          refine ⟨_, rfl, fun K hK => ?_⟩
          rw [if_pos hb, hK]
        · cases h
      · cases h
    · cases hc

/-- A step looks at its operands. -/
theorem astep_congr {P : Program} {call : CallF} {t t' : Fr} {H : Hp} {o : Oper} (h : ∀ x ∈ o.op.operands, ev t x = ev t' x) : astep P call t H o = astep P call t' H o := by
  have pairs : ∀ ps : Array (Nat × Operand), (∀ x ∈ (ps.toList.map (·.2)).toArray, ev t x = ev t' x) → (ps.toList.map fun p => (p.1, ev t p.2)) = (ps.toList.map fun p => (p.1, ev t' p.2)) := fun ps hp =>
    List.map_congr_left fun p hm => by rw [hp p.2 (by simp; exact ⟨p.1, by simpa using hm⟩)]
  have opt : ∀ x : Option Operand, (∀ y ∈ x.toArray, ev t y = ev t' y) → x.map (ev t) = x.map (ev t') := fun x hx => by
    cases x with
    | none => rfl
    | some y => simp only [Option.map_some]; rw [hx y (by simp)]
  unfold astep
  cases ho : o.op <;> simp only [ho, Op.operands] at h <;> simp only [aop, aval]
  case call c =>
    have hargs : c.args.toList.map (ev t) = c.args.toList.map (ev t') := List.map_congr_left fun x hx => h x (by simp only [Call.operands]; exact Array.mem_append.2 (.inr (by simpa using hx)))
    unfold acall
    rw [hargs]
    cases hc : c.callee with
    | value f => have hf : ev t f = ev t' f := h f (by simp [Call.operands, hc]); simp only [hf]
    | invoke r m => have hr : ev t r = ev t' r := h r (by simp [Call.operands, hc]); simp only [hr]
    | builtin b => rfl
  case build T ps => rw [pairs ps h]
  case buildSlice T n ps => rw [pairs ps h]
  case makeFunc fn f c =>
    cases fn <;> simp only [aval]
    rw [Array.map_congr_left (xs := f) fun x hx => h x (by simp [hx]), Array.map_congr_left (xs := c) fun x hx => h x (by simp [hx])]
  case makeMap T r => cases r <;> rfl
  case slice T x lo hi mx =>
    simp only [Array.mem_append] at h
    rw [h x (by simp), opt lo (fun y hy => h y (by simp [hy])), opt hi (fun y hy => h y (by simp [hy])), opt mx (fun y hy => h y (by simp [hy]))]
  all_goals (first | rfl | (simp_all; done))

/-- Values that are what they are. -/
theorem flat0_eq {r : Mp} {v v' : Value} (h : VRel r v v') (hf : flat0 v = true) : v' = v := by
  cases h <;> first | rfl | (simp [flat0] at hf)
theorem flat_eq {r : Mp} {v v' : Value} (h : VRel r v v') (hf : flat v = true) : v' = v := by
  cases h with
  | iface t h => simp only [flat] at hf; rw [flat0_eq h hf]
  | plain v _ => rfl
  | _ => simp [flat, flat0] at hf

end Am
end Go.Proofs.YtbpabpnpoidpcaaGreatDoor
