/- The abstract machine's calls, regions in the text's order, code; and that the model does the same. No conditions. -/
import Derived.Test.YtbpabpnpoidpcaaGreatDoorAbsa
import Derived.OrdersIn
import Derived.RangeFuncCalls
set_option linter.unusedVariables false
set_option linter.unusedSimpArgs false
namespace Go.Proofs.YtbpabpnpoidpcaaGreatDoor
namespace Am
open Go Go.RowKit

/-! ### Calls -/
/-- The function that a type's method of a name is; its receiver as it stands. -/
def mth (P : Program) (T : TypeId) (name : String) : Option FuncId :=
  match P.info? T with
  | some i => match i.methods.find? (·.name == name) with
    | some m => if m.path.isEmpty then (match m.func with
        | some (f, true) => if kd P T = .ptr then some f else none
        | some (f, false) => if kd P T = .ptr ∨ kd P T = .none then none else some f
        | none => none) else none
    | none => none
  | none => none

theorem mth_run {P : Program} {T : TypeId} {name : String} {f : FuncId} (h : mth P T name = some f) (v : Value) (w : World) :
    (method (P.types.size + Made.depth) T v name).run P w = .ok (f, v) w := by
  have : ∀ n, (method (n + 1) T v name).run P w = .ok (f, v) w := by
    intro n
    unfold mth at h
    cases hi : P.info? T with
    | none => simp [hi] at h
    | some i =>
      simp only [hi] at h
      cases hm : i.methods.find? (·.name == name) with
      | none => simp [hm] at h
      | some m =>
        simp only [hm] at h
        split at h
        · rename_i hp
          have hp' : m.path.toList = [] := by simpa using hp
          cases hf : m.func with
          | none => simp [hf] at h
          | some q =>
            obtain ⟨g, b⟩ := q
            cases b with
            | true =>
              simp only [hf] at h
              split at h
              · rename_i hk
                cases h
                obtain ⟨e, he⟩ := kd_ptr hk
                simp [method, typeInfo, hi, hm, hp', follow, hf, receiverAt, run_underlying he, Place.get]
              · cases h
            | false =>
              simp only [hf] at h
              split at h
              · cases h
              · rename_i hk
                cases h
                obtain ⟨d, hd⟩ := kd_some (P := P) (T := T) fun e => hk (.inr e)
                have hnp : ∀ e, d ≠ .pointer e := by
                  rintro e rfl
                  exact hk (.inl (by unfold kd; rw [hd]))
                cases d <;> first
                  | exact (hnp _ rfl).elim
                  | simp [method, typeInfo, hi, hm, hp', follow, hf, receiverAt, run_underlying hd, Place.get]
        · cases h
  exact this (P.types.size + (Made.depth - 1))

abbrev CallF := Fn → List Value → Hp → Option (Value × Hp)

/-- No fence, in a round of a range over a function or in none. -/
def Fw (ro : Option Nat) : Fence := { fn := fun _ => True, depth := none, alive := false, round := ro }
theorem callsFw {P : Program} {f : FuncId} {args : Array Value} {w : World} {R : Ending → World → Prop} {n : Nat} (ro : Option Nat) (h : Calls P f args w R) : CallsIn (Fw ro) n P f args w R := by
  have h := (callsIn_wide (n := n)).2 h
  cases ro with
  | none => exact h
  | some l => exact h.inRound l

def acall (P : Program) (call : CallF) (t : Fr) (H : Hp) (c : Call) : Option (Value × Hp) :=
  match c.callee with
  | .builtin b => abuiltin P H b c.argTypes.toList (c.args.toList.map (ev t))
  | .value f => match ev t f with
    | .func g first captured => call g (first.toList ++ c.args.toList.map (ev t) ++ captured.toList) H
    | _ => none
  | .invoke recv name => match ev t recv with
    | .iface T v => match mth P T name with
      | some g => call (.func g) (v :: c.args.toList.map (ev t)) H
      | none => none
    | _ => none

def astep (P : Program) (call : CallF) (t : Fr) (H : Hp) (o : Oper) : Option (Value × Hp) :=
  match o.op with
  | .call c => acall P call t H c
  | op => aop P t H op

/-- How a call ended that the abstract machine carried out. -/
def Did (r : Mp) (H : Hp) (w : World) (v : Value) (H' : Hp) (e : Ending) (w' : World) : Prop := ∃ v' r', e = .returned v' ∧ VRel r' v v' ∧ Sim r' H' w' ∧ Step r H w r' H' w'

/-- What a call that the abstract machine carries out is in the model. -/
structure CallOk (P : Program) (call : CallF) : Prop where
  fn : ∀ f args H v H', call (.func f) args H = some (v, H') → (∀ a w, (callFunc f a).run P w = .ok (.enter f a) w) ∧
    ∀ r w args', Sim r H w → LRel r args args' → Calls P f args'.toArray w (Did r H w v H')
  yield : ∀ b args H v H', call (.yield b) args H = some (v, H') → ∀ r w args' x, r b = some x → Sim r H w → LRel r args args' →
    ∃ f tmps asg body, (Instr.yield x.c args'.toArray).run P w = .ok (.round x.c f tmps asg body) w ∧ ∀ ro, RoundIn (Fw ro) 0 P x.c f tmps asg body w (Did r H w v H')
  other : ∀ g args H q, call g args H = some q → (∃ f, g = .func f) ∨ ∃ b, g = .yield b

/-- A frame and a real one. -/
structure FRel (r : Mp) (n : Nat) (t : Fr) (a : Act) : Prop where
  size : a.tmps.size = n
  rel : ∀ i, VRel r (t i) (a.tmps.getD i undef)

theorem FRel.mono {r r' : Mp} {n : Nat} {t : Fr} {a : Act} (hr : Mp.le r r') (h : FRel r n t a) : FRel r' n t a := ⟨h.size, fun i => (h.rel i).mono hr⟩

def aput (t : Fr) (d : Option Tmp) (v : Value) : Fr := match d with
  | some d => upd t d v
  | none => t

theorem FRel.put {r : Mp} {n : Nat} {t : Fr} {a : Act} (h : FRel r n t a) {d : Option Tmp} (hd : ∀ x, d = some x → x < n) {v v' : Value} (hv : VRel r v v') : FRel r n (aput t d v) (a.put d v') := by
  cases d with
  | none => exact h
  | some d =>
    have hdn := hd d rfl
    refine ⟨by simp [Act.put, h.size], fun i => ?_⟩
    by_cases e : i = d
    · subst e
      simp only [aput, upd_same, Act.put]
      have hlt : i < a.tmps.size := by rw [h.size]; exact hdn
      simpa [hlt] using hv
    · simp only [aput, Act.put]
      rw [upd_ne _ _ e]
      have := h.rel i
      have he : (a.tmps.setIfInBounds d v').getD i undef = a.tmps.getD i undef := by simp [Array.getElem?_setIfInBounds_ne (Ne.symm e)]
      rw [he]
      exact this

/-! ### What is asked of code once -/
def opndOk : Operand → Bool
  | .const v => plain v
  | _ => true
def operOk (n : Nat) (o : Oper) : Bool := o.op.operands.all opndOk && o.dst.all (· < n)
theorem ev_rel {r : Mp} {n : Nat} {t : Fr} {a : Act} (h : FRel r n t a) {x : Operand} (hx : opndOk x = true) : VRel r (ev t x) (a.eval x) := by
  cases x with
  | tmp i => exact h.rel i
  | const v => exact .plain _ hx
  | global g => exact .junk _
  | func f => exact .func _ rfl rfl (fun i h => absurd h (by simp)) (fun i h => absurd h (by simp))

theorem semAt_call {ro : Option Nat} {ρ : Operand → Value} {o : Oper} (h : ∀ c, o.op ≠ .defer c) : o.semAt ro ρ = execOp ρ o := by
  unfold Oper.semAt
  cases ro with
  | none => rfl
  | some l => cases ho : o.op <;> first | rfl | exact absurd ho (h _)

/-- A step. -/
theorem astep_sound' {P : Program} {call : CallF} (hc : CallOk P call) {r : Mp} {H H' : Hp} {w : World} (hs : Sim r H w) {t : Fr} {a : Act} {o : Oper} (hx : ∀ x ∈ o.op.operands, VRel r (ev t x) (a.eval x)) {v : Value} (h : astep P call t H o = some (v, H'))
    {ro : Option Nat} {K : Act → World → Prop} {Q : Exit → Act → World → Prop} (hk : ∀ r' v' w', VRel r' v v' → Sim r' H' w' → Step r H w r' H' w' → K (a.put o.dst v') w') : o.wpIn (Fw ro) 0 P a w K Q := by
  have hnd : ∀ c, o.op ≠ .defer c := by
    intro c hop
    simp [astep, hop, aop, aval] at h
  refine ⟨fun _ _ => trivial, ?_⟩
  rw [semAt_call hnd]
  have viaOp : aop P t H o.op = some (v, H') → o.uponIn (Fw ro) 0 P a K Q ((execOp a.eval o).run P w) := by
    intro h
    obtain ⟨m, v', r', w', h1, h2, h3, h4, h5⟩ := aop_sound hs hx h
    rw [h1]
    rcases h2 with rfl | ⟨rfl, rfl⟩
    · exact hk r' v' w' h3 h4 h5
    · exact hk r' undef w' h3 h4 h5
  unfold astep at h
  split at h
  · rename_i c hop
    have hargs : ∀ x ∈ c.args, VRel r (ev t x) (a.eval x) := fun x hxm => hx x (by rw [hop]; simp only [Op.operands, Call.operands]; exact Array.mem_append.2 (.inr hxm))
    have hl : LRel r (c.args.toList.map (ev t)) (c.args.map a.eval).toList := by
      refine ⟨by simp, fun i p q => ?_⟩
      simp only [List.getElem_map, Array.toList_map]
      exact hargs _ (by simp)
    have go : ∀ (g : FuncId) (args args' : List Value), call (.func g) args H = some (v, H') → LRel r args args' → (execOp a.eval o).run P w = .ok (.enter g args'.toArray) w → o.uponIn (Fw ro) 0 P a K Q ((execOp a.eval o).run P w) := by
      intro g args args' hcall hrel hrun
      rw [hrun]
      refine ⟨fun h => (by cases h), callsFw ro (((hc.fn g args H v H' hcall).2 r w args' hs hrel).mono ?_)⟩
      rintro e w' ⟨v', r', rfl, h1, h2, h3⟩
      exact hk r' v' w' h1 h2 h3
    unfold acall at h
    split at h
    · rename_i b hcal
      obtain ⟨v', r', w', h1, h2, h3, h4⟩ := abuiltin_sound (P := P) (ty := o.type) (consts := c.args.map fun | .const _ => true | _ => false) hs hl h
      have : (execOp a.eval o).run P w = .ok (.value v') w' := by
        unfold execOp
        rw [hop]
        simp only [resolve, hcal, Sem.run_bind, Sem.run_pure, Result.andThen_ok, invoke]
        rw [Array.toArray_toList] at h1
        exact h1
      rw [this]
      exact hk r' v' w' h2 h3 h4
    · rename_i f hcal
      have hfv := hx f (by rw [hop]; simp [Op.operands, Call.operands, hcal])
      split at h
      · rename_i g first captured hfe
        rw [hfe] at hfv
        rcases hc.other _ _ _ _ h with ⟨g, rfl⟩ | ⟨b, rfl⟩
        · have hform : ∃ f' c', a.eval f = .func (.func g) f' c' ∧ LRel r first.toList f'.toList ∧ LRel r captured.toList c'.toList := by
            generalize a.eval f = q at hfv
            cases hfv with
            | plain _ hp => simp [plain, flat, flat0] at hp
            | func _ h1 h2 h3 h4 => exact ⟨_, _, rfl, ⟨by simpa using h1, fun i a b => by simpa using h3 i (by simpa using a) (by simpa using b)⟩, ⟨by simpa using h2, fun i a b => by simpa using h4 i (by simpa using a) (by simpa using b)⟩⟩
          obtain ⟨f', c', e1, e2, e3⟩ := hform
          refine go g _ (f'.toList ++ (c.args.map a.eval).toList ++ c'.toList) h ((e2.append hl).append e3) ?_
          unfold execOp
          rw [hop]
          simp only [resolve, hcal, e1, Deferred.ofValue, Sem.run_bind, Sem.run_pure, Result.andThen_ok, invoke]
          rw [(hc.fn _ _ _ _ _ h).1]
          congr 2
          apply Array.ext'
          simp
        · have hform : ∃ x, r b = some x ∧ first = #[] ∧ captured = #[] ∧ a.eval f = .func (.yield x.c) #[] #[] := by
            generalize a.eval f = q at hfv
            cases hfv with
            | plain _ hp => simp [plain, flat, flat0] at hp
            | yield hb => exact ⟨_, hb, rfl, rfl, rfl⟩
          obtain ⟨x, hb, rfl, rfl, e1⟩ := hform
          simp only [List.nil_append, List.append_nil] at h
          obtain ⟨g, tmps, asg, body, k1, k2⟩ := hc.yield b _ H v H' h r w (c.args.map a.eval).toList x hb hs hl
          have : (execOp a.eval o).run P w = .ok (.round x.c g tmps asg body) w := by
            unfold execOp
            rw [hop]
            simp only [resolve, hcal, e1, Deferred.ofValue, Sem.run_bind, Sem.run_pure, Result.andThen_ok, invoke]
            rw [← k1, show (#[] ++ c.args.map a.eval) = (c.args.map a.eval).toList.toArray from Array.ext' (by simp)]
          rw [this]
          refine ⟨fun h => (by cases h), (k2 ro).mono ?_⟩
          rintro e w' ⟨v', r', rfl, h1, h2, h3⟩
          exact hk r' v' w' h1 h2 h3
      · cases h
    · rename_i recv name hcal
      have hrv := hx recv (by rw [hop]; simp [Op.operands, Call.operands, hcal])
      split at h
      · rename_i T u hre
        rw [hre] at hrv
        obtain ⟨u', e1, e2⟩ := iface_form hrv
        split at h
        · rename_i g hm
          refine go g _ (u' :: (c.args.map a.eval).toList) h (LRel.cons e2 hl) ?_
          unfold execOp
          rw [hop]
          simp only [resolve, hcal, e1, Sem.run_bind, Sem.run_pure, Result.andThen_ok, invoke]
          have h0 : (#[Value.iface T u'] ++ c.args.map a.eval)[0]? = some (.iface T u') := by rw [Array.getElem?_append_left (by simp)]; rfl
          simp only [h0, callMethod, Sem.run_bind, run_program, Result.andThen_ok, mth_run hm]
          rw [(hc.fn _ _ _ _ _ h).1]
          congr 2
          apply Array.ext'
          simp [List.take_of_length_le]
        · cases h
      · cases h
  · exact viaOp h

theorem astep_sound {P : Program} {call : CallF} (hc : CallOk P call) {r : Mp} {n : Nat} {H H' : Hp} {w : World} (hs : Sim r H w) {t : Fr} {a : Act} (hf : FRel r n t a) {o : Oper} (ho : operOk n o = true) {v : Value} (h : astep P call t H o = some (v, H'))
    {ro : Option Nat} {K : Act → World → Prop} {Q : Exit → Act → World → Prop} (hk : ∀ r' v' w', VRel r' v v' → Sim r' H' w' → Step r H w r' H' w' → K (a.put o.dst v') w') : o.wpIn (Fw ro) 0 P a w K Q := by
  simp only [operOk, Bool.and_eq_true, Array.all_eq_true'] at ho
  exact astep_sound' hc hs (fun x hx => ev_rel hf (ho.1 x hx)) h hk

end Am
end Go.Proofs.YtbpabpnpoidpcaaGreatDoor
