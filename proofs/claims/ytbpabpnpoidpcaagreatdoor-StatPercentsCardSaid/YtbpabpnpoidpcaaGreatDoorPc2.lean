/- Code with its types' facts laid in: an operation, and that the abstract machine does the same. No conditions. -/
import Derived.Test.YtbpabpnpoidpcaaGreatDoorPc1
set_option linter.unusedVariables false
set_option linter.unusedSimpArgs false
namespace Go.Proofs.YtbpabpnpoidpcaaGreatDoor
namespace Am
open Go Go.RowKit

def pstep (P : Program) (call : CallF) (t : Fr) (H : Hp) : POp → Option (Value × Hp)
  | .call g args => call (.func g) (args.map (ev t)) H
  | .callv f args => match ev t f with
    | .func g first cap => call g (first.toList ++ args.map (ev t) ++ cap.toList) H
    | _ => none
  | .invoke r name args => match ev t r with
    | .iface T v => match mth P T name with
      | some g => call (.func g) (v :: args.map (ev t)) H
      | none => none
    | _ => none
  | .defer _ => none
  | p => pop P t H p

theorem aconv_int {P : Program} {H : Hp} {s d : TypeId} {k : IntKind} (hs : kd P s ≠ .none) (hd : intTo P d = some k) {x v : Value} (h : pcint k x = some v) : aconv P H s d x = some v := by
  unfold pcint at h
  split at h
  · unfold aconv; simp only [if_pos hs, hd]; exact h
  · cases h
theorem str_noBytes {P : Program} {d : TypeId} (h : isStr P d = true) : isBytes P d = false := by
  unfold isBytes; rw [isStr_spec h]

theorem rop_sound {P : Program} {call : CallF} {o : Oper} {p : POp} (h : rop P o.op = some p) {t : Fr} {H : Hp} {r : Value × Hp} (hr : pstep P call t H p = some r) : astep P call t H o = some r := by
  unfold astep
  cases ho : o.op with
  | move x => simp only [ho, rop, Option.some.injEq] at h; subst h; simpa [pstep, pop, aop, aval] using hr
  | assign x => simp only [ho, rop, Option.some.injEq] at h; subst h; simpa [pstep, pop, aop, aval] using hr
  | load T a =>
    simp only [ho, rop] at h
    cases hl : lay P T with
    | none => simp [hl] at h
    | some l => simp only [hl, Option.some.injEq] at h; subst h; simp only [pstep, pop, aop, aval, pload_eq hl] at hr ⊢; exact hr
  | nilCheck x => simp only [ho, rop, Option.some.injEq] at h; subst h; simpa [pstep, pop, aop, aval] using hr
  | binOp op T x y T2 => simp only [ho, rop, Option.some.injEq] at h; subst h; simp only [pstep, pop, aop, aval, pbin_eq rfl] at hr ⊢; exact hr
  | unOp op T x => simp only [ho, rop, Option.some.injEq] at h; subst h; simpa [pstep, pop, aop, aval] using hr
  | convert s d x =>
    simp only [ho, rop] at h
    split at h
    · cases h
    · rename_i hs
      split at h
      · rename_i k hk
        split at h
        · cases h
          simp only [pstep, pop, Option.map_eq_some_iff] at hr
          obtain ⟨v, h1, rfl⟩ := hr
          simp only [aop, aconv_int hs hk h1]
        · cases h
      · rename_i hk
        split at h
        · rename_i hstr
          cases h
          simp only [pstep, pop, Option.map_eq_some_iff] at hr
          obtain ⟨v, h1, rfl⟩ := hr
          have : aconv P H s d (ev t x) = some v := by
            unfold pcstr at h1
            unfold aconv
            split at h1
            · rename_i hv; simp only [hv, if_pos (And.intro hs hstr)]; exact h1
            · rename_i hv; simp only [hv, hstr, Bool.and_true]; exact h1
            · rename_i hv; simp only [hv, hstr, Bool.and_true]; exact h1
            · cases h1
          simp only [aop, this]
        · split at h
          · rename_i hstr hb
            cases h
            simp only [Bool.and_eq_true] at hb
            simp only [pstep, pop] at hr
            unfold pcbytes at hr
            split at hr
            · rename_i sv hsv
              simp only [aop, aconv_bytes hb.2, abytes, hsv, hb.1, hb.2, Bool.and_self, if_true]
              exact hr
            · cases hr
          · cases h
  | makeInterface T x =>
    simp only [ho, rop] at h
    split at h
    · cases h
    · rename_i hk
      cases h
      simp only [pstep, pop] at hr
      simp only [aop, aval, aiface, if_neg hk]
      exact hr
  | makeFunc fn f c =>
    cases fn with
    | func g =>
      simp only [ho, rop, Option.some.injEq] at h
      subst h
      simp only [pstep, pop, List.map_toArray] at hr
      simp only [aop, aval]
      rw [← hr]
      have hm : ∀ a : Array Operand, a.map (ev t) = (a.toList.map (ev t)).toArray := fun a => Array.ext' (by simp)
      simp only [Option.map_some, hm]
    | _ =>
      simp only [ho, rop, Option.some.injEq] at h
      subst h
      simpa [pstep, pop] using hr
  | slice T x lo hi mx =>
    simp only [ho, rop] at h
    split at h
    · rename_i k hk
      cases h
      simp only [pstep, pop, Option.map_eq_some_iff] at hr
      obtain ⟨v, h1, rfl⟩ := hr
      simp only [aop, aval, pslice_eq hk h1, Option.map_some]
    · cases h
  | fieldAddr S x f =>
    simp only [ho, rop] at h
    split at h
    · rename_i q hq
      cases h
      simp only [pstep, pop, Option.map_eq_some_iff] at hr
      obtain ⟨v, h1, rfl⟩ := hr
      unfold pfieldAddr at h1
      split at h1
      · rename_i b o hx
        simp only [aop, aval, afieldAddr, hx, hq, Option.map_some]
        cases h1
        rfl
      · cases h1
    · cases h
  | field S x f =>
    simp only [ho, rop] at h
    split at h
    · rename_i q hq
      cases h
      simp only [pstep, pop, Option.map_eq_some_iff] at hr
      obtain ⟨v, h1, rfl⟩ := hr
      unfold pfield at h1
      split at h1
      · rename_i cs hx
        simp only [aop, aval, afield, hx, hq, h1, Option.map_some]
      · cases h1
    · cases h
  | indexAddr T x i =>
    simp only [ho, rop] at h
    split at h
    · rename_i k hk
      cases h
      simp only [pstep, pop, Option.map_eq_some_iff] at hr
      obtain ⟨v, h1, rfl⟩ := hr
      simp only [aop, aval, pindexAddr_eq hk h1, Option.map_some]
    · cases h
  | index T x i =>
    simp only [ho, rop] at h
    split at h
    · rename_i hk
      cases h
      simp only [pstep, pop, Option.map_eq_some_iff] at hr
      obtain ⟨v, h1, rfl⟩ := hr
      simp only [aop, aval, aindex, hk, if_true]
      have h2 : pindex (ev t x) (ev t i) = some v := h1
      unfold pindex at h2
      split at h2
      · rename_i hi
        split at h2
        · rename_i hx
          simp only [hi, hx]
          rw [h2]
          rfl
        · cases h2
      · cases h2
    · cases h
  | extract x i => simp only [ho, rop, Option.some.injEq] at h; subst h; simpa [pstep, pop, aop, aval] using hr
  | alloc T =>
    simp only [ho, rop] at h
    split at h
    · rename_i zs hz
      cases h
      simp only [pstep, pop, palloc] at hr
      simp only [aop, aalloc, hz, Option.map_some]
      exact hr
    · cases h
  | box T x => simp only [ho, rop, Option.some.injEq] at h; subst h; simpa [pstep, pop, aop, abox, pbox] using hr
  | buildSlice T n ps =>
    simp only [ho, rop] at h
    split at h
    · rename_i sz hz
      cases h
      simp only [pstep, pop, pbuildSlice] at hr
      simp only [aop, abuildSlice, hz]
      exact hr
    · cases h
  | build T ps =>
    simp only [ho, rop] at h
    split at h
    · rename_i zs pl hz hpl
      cases h
      simp only [pstep, pop, Option.map_eq_some_iff] at hr
      obtain ⟨v, h1, rfl⟩ := hr
      have : abuild P T (ps.toList.map fun p => (p.1, ev t p.2)) = some v := by
        unfold pbuild at h1
        unfold abuild
        split at h1
        · rename_i hall
          unfold zeroCs at hz
          split at hz
          · rename_i z hzz
            split at hz
            · rename_i hfl
              cases hz
              rw [hall, hzz]
              simp only [Option.any_some, hfl, Bool.and_self, if_true]
              obtain ⟨i, hi, hiz⟩ := Option.bind_eq_some_iff.1 hzz
              unfold placesOf at hpl
              split at hpl
              · rename_i fields hu
                simp only [Program.built, hi, hu, hiz, hpl]
                exact h1
              · cases hpl
            · cases hz
          · cases hz
        · cases h1
      simp only [aop, aval, this, Option.map_some]
    · cases h
      simpa [pstep, pop] using hr
  | store T a x =>
    simp only [ho, rop] at h
    split at h
    · rename_i n hn
      cases h
      simp only [pstep, pop, Option.map_eq_some_iff] at hr
      obtain ⟨H', h1, rfl⟩ := hr
      have : astore P H T (ev t a) (ev t x) = some H' := by
        unfold pstore at h1
        unfold astore
        split at h1
        · rename_i b o hx
          simp only [hx]
          split at h1
          · rename_i sz cs l hf hv
            split at h1
            · rename_i hc
              obtain ⟨rfl, hle⟩ := hc
              rw [hf, hv]
              simp only [hn, true_and, if_pos hle] at h1 ⊢
              exact h1
            · cases h1
          · cases h1
        · cases h1
      simp only [aop, this, Option.map_some]
    · cases h
  | makeSlice T l c =>
    simp only [ho, rop] at h
    split at h
    · rename_i sz b zs hz
      cases h
      simp only [pstep, pop] at hr
      unfold pmake at hr
      simp only [aop, amake, hz]
      exact hr
    · cases h
  | call c =>
    simp only [ho, rop] at h
    unfold acall
    cases hc : c.callee with
    | invoke rv name => simp only [hc, Option.some.injEq] at h; subst h; simp only [pstep] at hr; simp only [hc]; exact hr
    | value f =>
      cases f with
      | func g => simp only [hc, Option.some.injEq] at h; subst h; simp only [pstep] at hr; simp only [hc, ev, List.nil_append, List.append_nil]; exact hr
      | tmp i => simp only [hc, Option.some.injEq] at h; subst h; simp only [pstep] at hr; simp only [hc]; exact hr
      | const i => simp only [hc, Option.some.injEq] at h; subst h; simp only [pstep] at hr; simp only [hc]; exact hr
      | global i => simp only [hc, Option.some.injEq] at h; subst h; simp only [pstep] at hr; simp only [hc]; exact hr
    | builtin b =>
      cases b <;> simp only [hc] at h <;> first
        | (cases h; simpa [pstep, pop, hc] using hr)
        | skip
      case len =>
        split at h
        · rename_i T x hT hx
          cases h
          simp only [pstep, pop] at hr
          simp only [hc, abuiltin, hT, hx, List.map_cons, List.map_nil, plen_eq rfl]
          exact hr
        · cases h
      case append =>
        split at h
        · rename_i tS tX s x hT hx
          split at h
          · rename_i sz b hap
            cases h
            simp only [pstep, pop] at hr
            simp only [hc, abuiltin, hT, hx, List.map_cons, List.map_nil]
            unfold pappend at hr
            unfold aappend
            have : apSrc P H tS tX (ev t x) = (psrc H sz (isStr P tX && sz == 1) (ev t x)).map fun q => (sz, b, q.1, q.2) := by
              simp only [apSrc, hap, psrc_eq rfl]
            rw [this]
            cases hs : psrc H sz (isStr P tX && sz == 1) (ev t x) with
            | none => rw [hs] at hr; cases hr
            | some q => rw [hs] at hr; exact hr
          · cases h
            simpa [pstep, pop, hc] using hr
        · cases h
      case copy =>
        split at h
        · rename_i tD tS d s hT hx
          split at h
          · rename_i sz hsz
            cases h
            simp only [pstep, pop] at hr
            simp only [hc, abuiltin, hT, hx, List.map_cons, List.map_nil, acopy, hsz, psrc_eq rfl]
            exact hr
          · cases h
        · cases h
  | defer c =>
    simp only [ho, rop] at h
    split at h
    · split at h
      · cases h; simp [pstep] at hr
      · cases h
    · cases h
  | _ => simp only [ho, rop, Option.some.injEq] at h; subst h; simpa [pstep, pop] using hr

end Am
end Go.Proofs.YtbpabpnpoidpcaaGreatDoor
