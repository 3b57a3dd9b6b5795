/- The machines: without answers but those for what the abstract machine does not do, and with the contracts' answers. No conditions. -/
import Derived.Test.YtbpabpnpoidpcaaGreatDoorMc1
import Derived.Test.YtbpabpnpoidpcaaGreatDoorEx1
import Derived.Test.YtbpabpnpoidpcaaGreatDoorEx2
import Derived.Test.YtbpabpnpoidpcaaGreatDoorEx3
set_option maxRecDepth 100000
set_option linter.unusedVariables false
set_option linter.unusedSimpArgs false
namespace Go.Proofs.YtbpabpnpoidpcaaGreatDoor
namespace Am
open Go Go.RowKit

theorem okIs : fnOk Tryz.prog plan 177 = true := by kernel_rfl
theorem okLayd : fnOk Tryz.prog plan 49 = true := by kernel_rfl
theorem okIds : fnOk Tryz.prog plan 298 = true := by kernel_rfl

noncomputable def base0 : CallF := fun g args H => match g with
  | .func f => if f = 177 then ovIs args H else if f = 298 then ovIds args H else none
  | _ => none
noncomputable def dcall0 : DCallF := fun g args H => if g = 49 then (match args with
  | [_, _] => some H
  | _ => none) else none
def exts : List FuncId := [177, 88, 298]
noncomputable def ok0 (g : FuncId) : Bool := fnOk Tryz.prog plan g && !exts.contains g
noncomputable def M0 : Mc := ⟨Tryz.prog, base0, dcall0, plan, ok0⟩
def ovs : List FuncId := [291, 208, 117, 259]
noncomputable def base1 : CallF := fun g args H => match g with
  | .func f => ov1 f args H
  | _ => none
noncomputable def M1 : Mc := ⟨Tryz.prog, base1, dcall0, plan, fun g => ok0 g && !ovs.contains g⟩

theorem M0_good : Good M0 := ⟨rfl, rfl, fun g hk hg => by
  show (fnOk Tryz.prog plan g && !exts.contains g) = true
  rw [hk]
  simp only [List.mem_cons, List.not_mem_nil, or_false, not_or] at hg
  simp [exts, hg]⟩

theorem enter_ok {P : Program} {pl : FuncId → Plan} {f : FuncId} (h : fnOk P pl f = true) (a : Array Value) (w : World) : (callFunc f a).run P w = .ok (.enter f a) w := by
  unfold fnOk at h
  cases hfn : P.funcs[f]? with
  | none => simp [hfn] at h
  | some fn =>
    cases hbd : fn.body with
    | none => simp [hfn, hbd] at h
    | some c =>
      simp only [hfn, hbd, Bool.and_eq_true, Bool.not_eq_true'] at h
      unfold callFunc
      simp only [Sem.run_bind, run_program, Result.andThen_ok, hfn, h.2, Bool.false_eq_true, if_false, hbd]
      rfl

theorem follows : Tryz.prog.follows .mixedOrders = true := by kernel_rfl

theorem lrel2 {r : Mp} {a b : Value} {l : List Value} (h : LRel r [a, b] l) : ∃ a' b', l = [a', b'] ∧ VRel r a a' ∧ VRel r b b' := by
  obtain ⟨a', l1, rfl, h1, h2⟩ := h.uncons
  obtain ⟨b', l2, rfl, h3, h4⟩ := h2.uncons
  have := List.eq_nil_of_length_eq_zero (by simpa using h4.1.symm)
  subst this
  exact ⟨a', b', rfl, h1, h3⟩
theorem lrel1 {r : Mp} {a : Value} {l : List Value} (h : LRel r [a] l) : ∃ a', l = [a'] ∧ VRel r a a' := by
  obtain ⟨a', l1, rfl, h1, h2⟩ := h.uncons
  have := List.eq_nil_of_length_eq_zero (by simpa using h2.1.symm)
  subst this
  exact ⟨a', rfl, h1⟩

theorem is_ok {args : List Value} {H : Hp} {v : Value} {H' : Hp} (h : ovIs args H = some (v, H')) : (∀ a w, (callFunc 177 a).run Tryz.prog w = .ok (.enter 177 a) w) ∧
    ∀ r w args', Sim r H w → LRel r args args' → Calls Tryz.prog 177 args'.toArray w (Did r H w v H') := by
  refine ⟨fun a w => enter_ok okIs a w, fun r w args' hs hl => ?_⟩
  unfold ovIs at h
  split at h
  · rename_i T a U b
    split at h
    · rename_i hc
      obtain ⟨rfl, rfl⟩ := hc
      cases h
      obtain ⟨a', b', rfl, ha, hb⟩ := lrel2 hl
      have := flat_eq ha rfl
      have := flat_eq hb rfl
      subst a' b'
      refine (is_call a b w).mono ?_
      rintro e w' ⟨rfl, rfl⟩
      exact ⟨_, r, rfl, .plain _ rfl, hs, Step.refl _ _ _⟩
    · cases h
  · cases h

theorem map_at {r : Mp} {H : Hp} {w : World} (hs : Sim r H w) {m : Nat} {v' : Value} (hv : VRel r (.map (some m)) v') (hf : H.f m = .map []) : ∃ c k, v' = .map (some c) ∧ w.heap[c]? = some (.map #[] k) := by
  cases hv with
  | plain _ hp => simp [plain, flat, flat0] at hp
  | @map _ x h =>
    have hB := hs.blk m x h
    rw [hf] at hB
    obtain ⟨es', clock, h1, h2, _⟩ := hB
    have : es' = #[] := by
      have : es'.toList = [] := List.eq_nil_of_length_eq_zero (by simpa using h2.symm)
      exact Array.ext' this
    subst this
    exact ⟨x.c, clock, rfl, h1⟩

theorem ids_ok {args : List Value} {H : Hp} {v : Value} {H' : Hp} (h : ovIds args H = some (v, H')) : (∀ a w, (callFunc 298 a).run Tryz.prog w = .ok (.enter 298 a) w) ∧
    ∀ r w args', Sim r H w → LRel r args args' → Calls Tryz.prog 298 args'.toArray w (Did r H w v H') := by
  refine ⟨fun a w => enter_ok okIds a w, fun r w args' hs hl => ?_⟩
  unfold ovIds at h
  split at h
  · rename_i b o
    split at h
    · rename_i ro sz cs hf
      split at h
      · rename_i m1 m2 e1 e2
        split at h
        · rename_i f1 f2
          cases h
          obtain ⟨a', rfl, ha⟩ := lrel1 hl
          cases ha with
          | plain _ hp => simp [plain, flat, flat0] at hp
          | @ptr _ _ x hb =>
            obtain ⟨v1, c1, r1⟩ := cell_of hs hb hf e1
            obtain ⟨v2, c2, r2⟩ := cell_of hs hb hf e2
            obtain ⟨d1, k1, rfl, g1⟩ := map_at hs r1 f1
            obtain ⟨d2, k2, rfl, g2⟩ := map_at hs r2 f2
            rw [show o + 14 + x.s = o + x.s + 14 by omega] at c1
            rw [show o + 15 + x.s = o + x.s + 15 by omega] at c2
            refine (ids_none w x.c (o + x.s) d1 d2 k1 k2 c1 c2 g1 g2).mono ?_
            rintro e w' ⟨rfl, hbl⟩
            obtain ⟨s1, s2⟩ := did_below hs hbl
            exact ⟨_, r, rfl, .plain _ rfl, s1, s2⟩
        · cases h
      · cases h
    · cases h
  · cases h

theorem base0_ok : CallOk Tryz.prog base0 := by
  refine ⟨fun f args H v H' h => ?_, fun b args H v H' h => (by cases h), fun g args H q h => ?_⟩
  · simp only [base0] at h
    split at h
    · rename_i e; subst e; exact is_ok h
    · split at h
      · rename_i e; subst e; exact ids_ok h
      · cases h
  · cases g with
    | func f => exact .inl ⟨f, rfl⟩
    | _ => cases h

theorem dcall0_ok : DOk Tryz.prog dcall0 := by
  intro g args H H' h
  unfold dcall0 at h
  split at h
  · rename_i e
    subst e
    split at h
    · rename_i p q
      cases h
      refine ⟨fun a w => enter_ok okLayd a w, fun r w args' hs hl => ?_⟩
      obtain ⟨p', q', rfl, _, _⟩ := lrel2 hl
      refine (layd p' q' w).mono ?_
      rintro e u w' ⟨rfl, rfl, hb⟩
      obtain ⟨s1, s2⟩ := did_below hs hb
      exact ⟨_, r, rfl, rfl, s1, s2⟩
    · cases h
  · cases h

theorem M0_ok (n : Nat) : CallOk Tryz.prog (M0.call n) := acallN_ok follows base0_ok dcall0_ok (fun f hf => by
  have : (fnOk Tryz.prog plan f && !exts.contains f) = true := hf
  rw [Bool.and_eq_true] at this
  exact this.1) n

/-! ### The contracts' answers -/
theorem numsB_spec : ∀ {cs : List Value} {l : List Nat}, numsB cs = some l → l.length = cs.length ∧ (∀ i (h : i < l.length), cs[i]? = some (.int .u8 (l[i] : Nat))) ∧ ∀ x ∈ l, x < 256
  | [], l, h => by simp only [numsB, Option.some.injEq] at h; subst h; simp
  | v :: cs, l, h => by
    unfold numsB at h
    split at h
    · rename_i he; cases he
    · rename_i n cs2 he
      cases he
      split at h
      · rename_i hn
        split at h
        · rename_i q hq
          cases h
          obtain ⟨h1, h2, h3⟩ := numsB_spec hq
          have hn' := Nat.le_of_ble_eq_true hn
          refine ⟨by simp [h1], fun i hi => ?_, fun x hx => ?_⟩
          · cases i with
            | zero => rfl
            | succ i => simpa using h2 i (by simpa using hi)
          · rcases List.mem_cons.1 hx with rfl | hx
            · omega
            · exact h3 x hx
        · cases h
      · cases h
    · cases h

theorem rdB_Sb {H : Hp} {s : Value} {l : List Nat} (h : rdB H s = some l) : Sb H s l ∧ l.length < 4611686018427387904 := by
  unfold rdB at h
  split at h
  · cases h
    exact ⟨⟨none, _, rfl, fun i hi => by simp at hi, by simp⟩, by simp⟩
  · rename_i b o n c
    split at h
    · rename_i hb
      simp only [Bool.and_eq_true] at hb
      have hb1 := Nat.le_of_ble_eq_true hb.1
      have hb2 := Nat.le_of_ble_eq_true hb.2
      split at h
      · rename_i ro sz cs hf
        split at h
        · rename_i hle
          have hle' := Nat.le_of_ble_eq_true hle
          obtain ⟨h1, h2, h3⟩ := numsB_spec h
          have hlen : l.length = n := by rw [h1]; simp; omega
          refine ⟨⟨some ⟨b, o, none⟩, c, by rw [hlen], fun i hi => ⟨b, o, rfl, hb1, ?_⟩, h3⟩, by omega⟩
          have := h2 i hi
          rw [List.getElem?_take_of_lt (by omega), List.getElem?_drop] at this
          rw [hf, bget_cells]
          exact this
        · cases h
      · cases h
    · cases h
  · cases h

theorem to_of {f : FuncId} {args : List Value} {H : Hp} {Q : Value → Hp → Prop} (h : callP M0 (.func f) args H Q) : ∃ n v H1, M0.call n (.func f) args H = some (v, H1) ∧ Q v H1 := by
  obtain ⟨v, H1, ⟨n, hn⟩, hq⟩ := h
  exact ⟨n, v, H1, hn n (Nat.le_refl _), hq⟩

theorem run_ok {args : List Value} {H : Hp} {v : Value} {H' : Hp} (h : ovRun args H = some (v, H')) : (∀ a w, (callFunc 291 a).run Tryz.prog w = .ok (.enter 291 a) w) ∧
    ∀ r w args', Sim r H w → LRel r args args' → Calls Tryz.prog 291 args'.toArray w (Did r H w v H') := by
  unfold ovRun at h
  split at h
  · rename_i q s
    split at h
    · rename_i hq
      split at h
      · rename_i l hl
        cases h
        obtain ⟨h1, h2⟩ := rdB_Sb hl
        have hq' := Nat.le_of_ble_eq_true hq
        obtain ⟨n, v, H1, hc, he, rfl⟩ := to_of (crcrun_spec M0_good (r := q) (by omega) h1 h2)
        rw [crcF_eq]
        exact did_plain (M0_ok n) hc he rfl
      · cases h
    · cases h
  · cases h
theorem zero_ok {args : List Value} {H : Hp} {v : Value} {H' : Hp} (h : ovZero args H = some (v, H')) : (∀ a w, (callFunc 208 a).run Tryz.prog w = .ok (.enter 208 a) w) ∧
    ∀ r w args', Sim r H w → LRel r args args' → Calls Tryz.prog 208 args'.toArray w (Did r H w v H') := by
  unfold ovZero at h
  split at h
  · split at h
    · rename_i l hl
      cases h
      obtain ⟨h1, h2⟩ := rdB_Sb hl
      obtain ⟨n, v, H1, hc, rfl, rfl⟩ := to_of (zero_spec M0_good h1 h2)
      exact did_plain (M0_ok n) hc (Ext.refl _) rfl
    · cases h
  · cases h
theorem get_ok {args : List Value} {H : Hp} {v : Value} {H' : Hp} (h : ovGet args H = some (v, H')) : (∀ a w, (callFunc 117 a).run Tryz.prog w = .ok (.enter 117 a) w) ∧
    ∀ r w args', Sim r H w → LRel r args args' → Calls Tryz.prog 117 args'.toArray w (Did r H w v H') := by
  unfold ovGet at h
  split at h
  · rename_i a n c at_ w_
    split at h
    · rename_i hn
      have hn' := Nat.le_of_ble_eq_true hn
      split at h
      · rename_i hth
        split at h
        · rename_i b o
          split at h
          · rename_i hb
            split at h
            · rename_i ro sz cs hf
              split at h
              · rename_i q hq
                split at h
                · rename_i hql
                  cases h
                  obtain ⟨h1, h2, h3⟩ := numsB_spec hq
                  obtain ⟨n', v, H1, hc, rfl, rfl⟩ := to_of (get_spec2 (a := some ⟨b, o, none⟩) (n := n) (c := c) (q := q) (at_ := at_) (w := w_) (H := H) M0_good (by omega) fun _ => ⟨hql, fun i hi => ⟨b, o, rfl, by
                    have := h2 i hi
                    rw [List.getElem?_take_of_lt (by omega), List.getElem?_drop] at this
                    rw [hf, bget_cells, ← Nat.add_assoc]
                    exact this⟩, h3⟩)
                  exact did_plain (M0_ok n') hc (Ext.refl _) (by simp [plain, flat, flat0])
                · cases h
              · cases h
            · cases h
          · cases h
        · cases h
      · rename_i hth
        cases h
        obtain ⟨n', v, H1, hc, rfl, rfl⟩ := to_of (get_spec2 (a := a) (n := n) (c := c) (q := []) (at_ := at_) (w := w_) (H := H) M0_good (by omega) fun e => absurd e hth)
        have := did_plain (M0_ok n') hc (Ext.refl _) (by simp [plain, flat, flat0])
        simpa [getQ, hth] using this
    · cases h
  · cases h
theorem bits_ok {args : List Value} {H : Hp} {v : Value} {H' : Hp} (h : ovBits args H = some (v, H')) : (∀ a w, (callFunc 259 a).run Tryz.prog w = .ok (.enter 259 a) w) ∧
    ∀ r w args', Sim r H w → LRel r args args' → Calls Tryz.prog 259 args'.toArray w (Did r H w v H') := by
  unfold ovBits at h
  split at h
  · split at h
    · rename_i l hl
      obtain ⟨h1, h2⟩ := rdB_Sb hl
      obtain ⟨n, u, H1, hc, he, hm⟩ := to_of (bitsRead_spec M0_good h1 h2)
      rw [bitsF_eq] at h
      split at h
      · rename_i hb
        cases h
        rw [hb] at hm
        subst hm
        exact did_plain (M0_ok n) hc he (by simp [plain, flat, flat0])
      · rename_i hb
        cases h
        rw [hb] at hm
        obtain ⟨s, rfl, hown⟩ := hm
        rcases hown with ⟨rfl, _⟩ | ⟨b, hne, _⟩
        · exact did_plain (M0_ok n) hc he (by simp [plain, flat, flat0])
        · exact absurd rfl hne
      · rename_i q hb hne
        cases h
        rw [hne] at hm
        obtain ⟨s, rfl, hown⟩ := hm
        have hq : 0 < q.length := by
          cases q with
          | nil => exact absurd rfl (hb)
          | cons a q => simp
        rcases hown with ⟨rfl, hnil⟩ | ⟨b, _, rfl, hb0, hb1, hf⟩
        · have : q = [] := by simpa [ints] using hnil
          subst this
          simp at hq
        · have hli : (ints q).length = q.length := by simp [ints]
          rw [hli] at hc
          exact did_fresh (M0_ok n) rfl hc he hq hb0 hf (ints_plain q)
    · cases h
  · cases h

end Am
end Go.Proofs.YtbpabpnpoidpcaaGreatDoor
