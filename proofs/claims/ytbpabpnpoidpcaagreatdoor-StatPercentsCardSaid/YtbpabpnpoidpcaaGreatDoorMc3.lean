/- The evaluator's answers are the machine's; what a run of it says of the model. No conditions. -/
import Derived.Test.YtbpabpnpoidpcaaGreatDoorMc2
set_option maxRecDepth 100000
set_option linter.unusedVariables false
set_option linter.unusedSimpArgs false
namespace Go.Proofs.YtbpabpnpoidpcaaGreatDoor
namespace Am
open Go Go.RowKit

theorem ov1_cases {f : FuncId} {args : List Value} {H : Hp} {r : Value × Hp} (h : ov1 f args H = some r) : (f = 291 ∧ ovRun args H = some r) ∨ (f = 208 ∧ ovZero args H = some r) ∨ (f = 117 ∧ ovGet args H = some r) ∨
    (f = 259 ∧ ovBits args H = some r) ∨ (f = 177 ∧ ovIs args H = some r) ∨ (f = 298 ∧ ovIds args H = some r) := by
  unfold ov1 at h
  (repeat' split at h) <;> first
    | (cases h; done)
    | (rename_i e; exact .inl ⟨e, h⟩)
    | (rename_i e; exact .inr (.inl ⟨e, h⟩))
    | (rename_i e; exact .inr (.inr (.inl ⟨e, h⟩)))
    | (rename_i e; exact .inr (.inr (.inr (.inl ⟨e, h⟩))))
    | (rename_i e; exact .inr (.inr (.inr (.inr (.inl ⟨e, h⟩)))))
    | (rename_i e; exact .inr (.inr (.inr (.inr (.inr ⟨e, h⟩)))))

theorem base1_ok : CallOk Tryz.prog base1 := by
  refine ⟨fun f args H v H' h => ?_, fun b args H v H' h => (by cases h), fun g args H q h => ?_⟩
  · have h' : ov1 f args H = some (v, H') := h
    rcases ov1_cases h' with ⟨rfl, h⟩ | ⟨rfl, h⟩ | ⟨rfl, h⟩ | ⟨rfl, h⟩ | ⟨rfl, h⟩ | ⟨rfl, h⟩
    · exact run_ok h
    · exact zero_ok h
    · exact get_ok h
    · exact bits_ok h
    · exact is_ok h
    · exact ids_ok h
  · cases g with
    | func f => exact .inl ⟨f, rfl⟩
    | _ => cases h

theorem M1_ok (n : Nat) : CallOk Tryz.prog (M1.call n) := acallN_ok follows base1_ok dcall0_ok (fun f hf => by
  have : (ok0 f && !ovs.contains f) = true := hf
  unfold ok0 at this
  simp only [Bool.and_eq_true] at this
  exact this.1.1) n

theorem ov1_off {f : FuncId} {args : List Value} {H : Hp} {r : Value × Hp} (h : ov1 f args H = some r) : M1.ok f = false := by
  show (ok0 f && !ovs.contains f) = false
  unfold ok0
  rcases ov1_cases h with ⟨rfl, _⟩ | ⟨rfl, _⟩ | ⟨rfl, _⟩ | ⟨rfl, _⟩ | ⟨rfl, _⟩ | ⟨rfl, _⟩ <;> simp [ovs, exts]

theorem ov1_heap {f : FuncId} {args : List Value} {H : Hp} {v : Value} {H' : Hp} (h : ov1 f args H = some (v, H')) : H' = H ∨ ∃ B, H' = H.alloc B := by
  rcases ov1_cases h with ⟨rfl, k⟩ | ⟨rfl, k⟩ | ⟨rfl, k⟩ | ⟨rfl, k⟩ | ⟨rfl, k⟩ | ⟨rfl, k⟩
  · unfold ovRun at k; (repeat' split at k) <;> first | (cases k; exact .inl rfl) | cases k
  · unfold ovZero at k; (repeat' split at k) <;> first | (cases k; exact .inl rfl) | cases k
  · unfold ovGet at k; (repeat' split at k) <;> first | (cases k; exact .inl rfl) | cases k
  · unfold ovBits at k; (repeat' split at k) <;> first | (cases k; exact .inl rfl) | (cases k; exact .inr ⟨_, rfl⟩) | cases k
  · unfold ovIs at k; (repeat' split at k) <;> first | (cases k; exact .inl rfl) | cases k
  · unfold ovIds at k; (repeat' split at k) <;> first | (cases k; exact .inl rfl) | cases k

theorem alloc_old_ne {H : Hp} {B : Blk} {b : Nat} (h : b ≠ H.n) : (H.alloc B).f b = H.f b := by rw [alloc_f, if_neg h]
theorem zbase_ok : CS M1 zbase := by
  intro g args h v h' hok hz
  cases g with
  | func f =>
    have hz2 : (match ov1 f args h.hp with
      | some (v, H') => valK v fun v => h.newsK H' fun h' => some (v, h')
      | none => none) = some (v, h') := hz
    cases ho : ov1 f args h.hp with
    | none => simp [ho] at hz2
    | some r =>
      obtain ⟨u, H'⟩ := r
      simp only [ho, valK_eq] at hz2
      have hh := ov1_heap ho
      obtain ⟨h1, e1, e2, e3⟩ := newsK_eq (M := M1) h H' (fun h' => some (u, h')) hok (by rcases hh with rfl | ⟨B, rfl⟩; exact .inl rfl; exact .inr rfl) (by
        rcases hh with rfl | ⟨B, rfl⟩
        · exact fun b _ => rfl
        · intro b hb
          refine alloc_old_ne (fun e => ?_)
          rcases hb with hb | hb
          · exact hb e
          · simp [Hp.alloc, XH.hp] at hb)
      rw [e1] at hz2
      cases hz2
      refine ⟨⟨0, fun m _ => ?_⟩, e3⟩
      have hoff := ov1_off ho
      cases m with
      | zero => show base1 (.func f) args h.hp = _; rw [e2]; exact ho
      | succ m =>
        show (if M1.ok f = true then _ else base1 (.func f) args h.hp) = _
        rw [hoff, e2]
        exact ho
  | _ => cases hz

theorem zdcall_ok : DS M1 zdcall := by
  intro g args h h' hok hz
  unfold zdcall at hz
  split at hz
  · rename_i e
    split at hz
    · cases hz
      refine ⟨?_, hok⟩
      have e2 : M1.dcall = dcall0 := rfl
      rw [e2]
      unfold dcall0
      rw [if_pos e]
    · cases hz
  · cases hz

def isT : Option (Value × XH) → Bool
  | some (.bool b, _) => b
  | _ => false
theorem isT_spec {o : Option (Value × XH)} (h : isT o = true) : ∃ h', o = some (.bool true, h') := by
  unfold isT at h
  split at h
  · subst h; exact ⟨_, rfl⟩
  · cases h
noncomputable def lkp (l : List (Nat × PF)) (f : FuncId) : Option PF := List.rec (motive := fun _ => Option PF) none (fun e _ ih => Bool.rec (motive := fun _ => Option PF) ih (some e.2) (Nat.beq e.1 f)) l
def LOk (l : List (Nat × PF)) : Prop := ∀ e ∈ l, pfOf Tryz.prog plan e.1 = some e.2 ∧ M1.ok e.1 = true
theorem LOk.nil : LOk [] := fun e he => by cases he
theorem LOk.cons {f : FuncId} {p : PF} {l : List (Nat × PF)} (h1 : pfOf Tryz.prog plan f = some p) (h2 : fnOk Tryz.prog plan f = true) (h3 : (exts.contains f || ovs.contains f) = false) (h : LOk l) : LOk ((f, p) :: l) := by
  intro e he
  rcases List.mem_cons.1 he with rfl | he
  · refine ⟨h1, ?_⟩
    show ((fnOk Tryz.prog plan f && !exts.contains f) && !ovs.contains f) = true
    rw [Bool.or_eq_false_iff] at h3
    rw [h2, h3.1, h3.2]; rfl
  · exact h e he
theorem lkp_spec : ∀ {l : List (Nat × PF)}, LOk l → ∀ f p, lkp l f = some p → pfOf Tryz.prog plan f = some p ∧ M1.ok f = true
  | [], _, f, p, h => by cases h
  | e :: l, hl, f, p, h => by
    have h' : (Bool.rec (motive := fun _ => Option PF) (lkp l f) (some e.2) (Nat.beq e.1 f)) = some p := h
    cases hb : Nat.beq e.1 f with
    | true =>
      rw [hb] at h'
      cases h'
      have := Nat.eq_of_beq_eq_true hb
      subst this
      exact hl e List.mem_cons_self
    | false =>
      rw [hb] at h'
      exact lkp_spec (fun e he => hl e (List.mem_cons_of_mem _ he)) f p h'

/-- A run of the evaluator from nothing, of a function without arguments, that answers true. -/
theorem calls_true {l : List (Nat × PF)} (hl : LOk l) {f : FuncId} {n : Nat} (h : isT (zcallN Tryz.prog zbase zdcall plan (lkp l) n (.func f) [] ⟨0, .leaf⟩) = true) (w : World) :
    Calls Tryz.prog f #[] w fun e w' => e = .returned (.bool true) ∧ Below w.heap.size w w' := by
  obtain ⟨h', e⟩ := isT_spec h
  have hcs : CS M1 (zcallN M1.P zbase zdcall M1.pl (lkp l) n) := zcallN_sound zbase_ok zdcall_ok (lkp_spec hl) n
  obtain ⟨⟨k, hk⟩, _⟩ := hcs _ _ _ _ _ (fun i L hi => by
    have : XH.get ⟨0, .leaf⟩ i = .b .dead := get_leaf _ _
    rw [this] at hi; cases hi) e
  obtain ⟨_, h2⟩ := (M1_ok k).fn f [] _ _ _ (hk k (Nat.le_refl _))
  have hs : Sim (fun _ => none) (XH.hp ⟨0, .leaf⟩) w := ⟨fun b x h => (by cases h), fun b x h => (by cases h), fun b x h => (by cases h), fun b b' x x' h => (by cases h)⟩
  refine (h2 (fun _ => none) w [] hs LRel.nil).mono ?_
  rintro e w' ⟨v', r', rfl, hv, hs1, st⟩
  have := flat_eq hv rfl
  subst this
  exact ⟨rfl, st.os, st.tape, st.output, st.size, fun k hk => st.same k hk (by rintro ⟨b, x, h, _⟩; cases h)⟩

end Am
end Go.Proofs.YtbpabpnpoidpcaaGreatDoor
