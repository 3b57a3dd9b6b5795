/- StatPercents answers true. No conditions. -/
import Derived.Test.YtbpabpnpoidpcaaGreatDoorMc3
import Derived.Test.YtbpabpnpoidpcaaGreatDoorPf2
import Derived.Test.YtbpabpnpoidpcaaGreatDoorLv1
set_option maxRecDepth 100000
set_option linter.unusedVariables false
set_option linter.unusedSimpArgs false
namespace Go.Proofs.YtbpabpnpoidpcaaGreatDoor
namespace Am
open Go Go.RowKit
variable {M : Mc}

theorem mul64_spec (hM : Good M) (H : Hp) {x : Nat} (hx : x ≤ 1125899906842624) : callP M (.func 42) [.int .u64 x, .int .u64 100] H fun v H' => H' = H ∧ v = .tuple #[.int .u64 0, .int .u64 (x * 100 : Nat)] := by
  refine callG hM pf42_ok ok42 (by decide) (Nat.le_of_ble_eq_true rfl) fun K hret _ => ?_
  have e1 : bAnd .u64 (x : Int) 4294967295 = ((x % 4294967296 : Nat) : Int) := by
    rw [bAnd_lit (hu64 (by omega)) (by decide) (by decide)]
    have := Nat.and_two_pow_sub_one_eq_mod x 32
    exact congrArg _ this
  have e2 : bShr .u64 (x : Int) 32 = ((x / 4294967296 : Nat) : Int) := by
    rw [bShr_lit (by decide) (by decide)]
    exact congrArg _ (Nat.shiftRight_eq_div_pow x 32)
  have ha : x % 4294967296 < 4294967296 := Nat.mod_lt _ (by decide)
  have hb : x / 4294967296 ≤ 262144 := by omega
  generalize x % 4294967296 = a at e1 ha
  generalize x / 4294967296 = b at e2 hb
  have e3 : bAnd .u64 100 4294967295 = 100 := by decide
  have e4 : bShr .u64 100 32 = 0 := by decide
  have e5 : IntKind.u64.wrap ((a : Int) * 100) = ((a * 100 : Nat) : Int) := wrapu64 (n := (a : Int) * 100) (by omega)
  have e6 : bShr .u64 ((a * 100 : Nat) : Int) 32 = ((a * 100 / 4294967296 : Nat) : Int) := by
    rw [bShr_lit (by decide) (by decide)]
    exact congrArg _ (Nat.shiftRight_eq_div_pow (a * 100) 32)
  have e7 : IntKind.u64.wrap ((b : Int) * 100) = ((b * 100 : Nat) : Int) := wrapu64 (n := (b : Int) * 100) (by omega)
  have hc : a * 100 / 4294967296 ≤ 100 := by omega
  generalize a * 100 / 4294967296 = c at e6 hc
  have e8 : IntKind.u64.wrap (((b * 100 : Nat) : Int) + (c : Int)) = ((b * 100 + c : Nat) : Int) := wrapu64 (n := ((b * 100 : Nat) : Int) + (c : Int)) (by omega)
  have hd : b * 100 + c < 4294967296 := by omega
  generalize b * 100 + c = d at e8 hd
  have e9 : bAnd .u64 (d : Int) 4294967295 = (d : Int) := by
    rw [bAnd_lit (hu64 (by omega)) (by decide) (by decide)]
    have := Nat.and_two_pow_sub_one_eq_mod d 32
    refine congrArg _ (this.trans (Nat.mod_eq_of_lt hd))
  have e10 : bShr .u64 (d : Int) 32 = 0 := by
    rw [bShr_lit (by decide) (by decide)]
    have := Nat.shiftRight_eq_div_pow d 32
    have h0 : d >>> 32 = 0 := by rw [this]; exact Nat.div_eq_of_lt hd
    show (((d >>> 32 : Nat)) : Int) = 0
    rw [h0]; rfl
  have e11 : IntKind.u64.wrap ((a : Int) * 0) = 0 := by rw [Int.mul_zero]; decide
  have e12 : IntKind.u64.wrap ((d : Int) + 0) = d := by rw [Int.add_zero]; exact wrapu64 (by omega)
  have e13 : IntKind.u64.wrap ((b : Int) * 0) = 0 := by rw [Int.mul_zero]; decide
  have e14 : IntKind.u64.wrap (0 + 0) = 0 := by decide
  have e15 : IntKind.u64.wrap ((x : Int) * 100) = ((x * 100 : Nat) : Int) := wrapu64 (n := (x : Int) * 100) (by omega)
  simp only [go_sem, reduceIte, Nat.reduceEqDiff, Int.reduceLE, pf42, e1, e2, e3, e4, e5, e6, e7, e8, e9, e10, e11, e12, e13, e14, e15]
  refine hret _ _ ?_
  simp only [go_sem, reduceIte, Nat.reduceEqDiff, pf42]

theorem div64_spec (hM : Good M) (H : Hp) {x y : Nat} (hy : 0 < y) : callP M (.func 43) [.int .u64 0, .int .u64 x, .int .u64 y] H fun v H' => H' = H ∧ ∃ z, v = .tuple #[.int .u64 (IntKind.u64.wrap ((x : Int).tdiv y)), z] := by
  refine callG hM pf43_ok ok43 (by decide) (Nat.le_of_ble_eq_true rfl) fun K hret _ => ?_
  have hy0 : (y : Int) ≠ 0 := by omega
  have d1 : decide ((y : Int) = 0) = false := decide_eq_false hy0
  have d2 : decide ((y : Int) ≤ 0) = false := decide_eq_false (by omega)
  simp only [go_sem, reduceIte, Nat.reduceEqDiff, Int.reduceLE, pf43, d1, d2, decide_true, pbin_quo hy0, pbin_rem hy0, false_implies, implies_true, forall_const, true_and]
  refine hret _ _ ?_
  simp only [go_sem, reduceIte, Nat.reduceEqDiff, pf43]
  exact ⟨_, rfl⟩

def percentN (n of_ : Int) : Int := if n < 0 ∨ of_ < 1 ∨ of_ < n then 0 else n * 100 / of_

theorem percent_spec (hM : Good M) (H : Hp) {n of_ : Int} (h1 : n ≤ 1125899906842624) (h2 : of_ ≤ 1125899906842624) : callP M (.func 13) [.int .i64 n, .int .i64 of_] H fun v H' => H' = H ∧ v = .int .i64 (percentN n of_) := by
  refine callG hM pf13_ok ok13 (by decide) (Nat.le_of_ble_eq_true rfl) fun K hret _ => ?_
  unfold percentN at hret
  cases d1 : decide (n < 0) with
  | true =>
    have := of_decide_eq_true d1
    simp only [if_pos (Or.inl this)] at hret
    simp only [go_sem, reduceIte, Nat.reduceEqDiff, pf13, d1]
    refine hret _ _ ?_
    simp only [go_sem, reduceIte, Nat.reduceEqDiff, pf13]
  | false =>
    cases d2 : decide (of_ < 1) with
    | true =>
      have := of_decide_eq_true d2
      simp only [if_pos (Or.inr (Or.inl this))] at hret
      simp only [go_sem, reduceIte, Nat.reduceEqDiff, pf13, d1, d2]
      refine hret _ _ ?_
      simp only [go_sem, reduceIte, Nat.reduceEqDiff, pf13]
    | false =>
      cases d3 : decide (of_ < n) with
      | true =>
        have := of_decide_eq_true d3
        simp only [if_pos (Or.inr (Or.inr this))] at hret
        simp only [go_sem, reduceIte, Nat.reduceEqDiff, pf13, d1, d2, d3]
        refine hret _ _ ?_
        simp only [go_sem, reduceIte, Nat.reduceEqDiff, pf13]
      | false =>
        have k1 := of_decide_eq_false d1
        have k2 := of_decide_eq_false d2
        have k3 := of_decide_eq_false d3
        obtain ⟨x, rfl⟩ : ∃ x : Nat, n = x := ⟨n.toNat, by omega⟩
        obtain ⟨y, rfl⟩ : ∃ y : Nat, of_ = y := ⟨of_.toNat, by omega⟩
        simp only [if_neg (show ¬ ((x : Int) < 0 ∨ (y : Int) < 1 ∨ (y : Int) < x) by omega)] at hret
        have e1 : IntKind.u64.wrap (x : Int) = x := wrapu64 (by omega)
        have e2 : IntKind.u64.wrap (y : Int) = y := wrapu64 (by omega)
        simp only [go_sem, reduceIte, Nat.reduceEqDiff, pf13, d1, d2, d3, e1]
        refine cal (mul64_spec hM _ (by omega)) ?_
        rintro v H1 ⟨rfl, rfl⟩
        simp only [go_sem, reduceIte, Nat.reduceEqDiff, e2]
        refine cal (div64_spec hM _ (by omega)) ?_
        rintro v H2 ⟨rfl, z, rfl⟩
        have hq : ((x * 100 : Nat) : Int).tdiv (y : Int) = ((x * 100 / y : Nat) : Int) := by rw [Int.tdiv_eq_ediv_of_nonneg (Int.natCast_nonneg _)]; rfl
        have hle : x * 100 / y ≤ x * 100 := Nat.div_le_self _ _
        have e3 : IntKind.u64.wrap ((x * 100 / y : Nat) : Int) = ((x * 100 / y : Nat) : Int) := wrap_nat (K := .u64) (hu64 (by omega))
        have e4 : IntKind.i64.wrap ((x * 100 / y : Nat) : Int) = ((x * 100 / y : Nat) : Int) := wrap_nat (K := .i64) (h64 (by omega))
        simp only [go_sem, reduceIte, Nat.reduceEqDiff, hq, e3, e4]
        refine hret _ _ ?_
        simp only [go_sem, reduceIte, Nat.reduceEqDiff, pf13]
        rfl

theorem refPercent_spec (hM : Good M) (H : Hp) {n of_ : Int} (h1 : n ≤ 1125899906842624) (h2 : of_ ≤ 1125899906842624) : callP M (.func 14) [.int .i64 n, .int .i64 of_] H fun v H' => H' = H ∧ v = .int .i64 (percentN n of_) := by
  refine callG hM pf14_ok ok14 (by decide) (Nat.le_of_ble_eq_true rfl) fun K hret _ => ?_
  unfold percentN at hret
  cases d1 : decide (n < 0) with
  | true =>
    have := of_decide_eq_true d1
    simp only [if_pos (Or.inl this)] at hret
    simp only [go_sem, reduceIte, Nat.reduceEqDiff, pf14, d1]
    refine hret _ _ ?_
    simp only [go_sem, reduceIte, Nat.reduceEqDiff, pf14]
  | false =>
    cases d2 : decide (of_ < 1) with
    | true =>
      have := of_decide_eq_true d2
      simp only [if_pos (Or.inr (Or.inl this))] at hret
      simp only [go_sem, reduceIte, Nat.reduceEqDiff, pf14, d1, d2]
      refine hret _ _ ?_
      simp only [go_sem, reduceIte, Nat.reduceEqDiff, pf14]
    | false =>
      cases d3 : decide (of_ < n) with
      | true =>
        have := of_decide_eq_true d3
        simp only [if_pos (Or.inr (Or.inr this))] at hret
        simp only [go_sem, reduceIte, Nat.reduceEqDiff, pf14, d1, d2, d3]
        refine hret _ _ ?_
        simp only [go_sem, reduceIte, Nat.reduceEqDiff, pf14]
      | false =>
        have k1 := of_decide_eq_false d1
        have k2 := of_decide_eq_false d2
        have k3 := of_decide_eq_false d3
        obtain ⟨x, rfl⟩ : ∃ x : Nat, n = x := ⟨n.toNat, by omega⟩
        obtain ⟨y, rfl⟩ : ∃ y : Nat, of_ = y := ⟨of_.toNat, by omega⟩
        simp only [if_neg (show ¬ ((x : Int) < 0 ∨ (y : Int) < 1 ∨ (y : Int) < x) by omega)] at hret
        have hy0 : (y : Int) ≠ 0 := by omega
        have e1 : IntKind.i64.wrap ((x : Int) * 100) = ((x * 100 : Nat) : Int) := wrap64 (n := (x : Int) * 100) (by omega)
        have hq : ((x * 100 : Nat) : Int).tdiv (y : Int) = ((x * 100 / y : Nat) : Int) := by rw [Int.tdiv_eq_ediv_of_nonneg (Int.natCast_nonneg _)]; rfl
        have hle : x * 100 / y ≤ x * 100 := Nat.div_le_self _ _
        have e4 : IntKind.i64.wrap ((x * 100 / y : Nat) : Int) = ((x * 100 / y : Nat) : Int) := wrap_nat (K := .i64) (h64 (by omega))
        simp only [go_sem, reduceIte, Nat.reduceEqDiff, pf14, d1, d2, d3, e1, pbin_quo hy0, hq, e4]
        refine hret _ _ ?_
        simp only [go_sem, reduceIte, Nat.reduceEqDiff, pf14]
        rfl

end Am
end Go.Proofs.YtbpabpnpoidpcaaGreatDoor

namespace Go.Proofs.YtbpabpnpoidpcaaGreatDoor
namespace Am
open Go Go.RowKit

/-! ### The machine that answers for the document's example -/
noncomputable def base2 : CallF := fun g args H => match g with
  | .func f => if f = 6 then (match args with
    | [] => some (.bool true, H)
    | _ => none) else base0 (.func f) args H
  | _ => none
noncomputable def M2 : Mc := ⟨Tryz.prog, base2, dcall0, plan, fun g => ok0 g && !([6] : List FuncId).contains g⟩

theorem M2_good : Good M2 := ⟨rfl, rfl, fun g hk hg => by
  show ((fnOk Tryz.prog plan g && !exts.contains g) && !([6] : List FuncId).contains g) = true
  rw [hk]
  simp only [List.mem_cons, List.not_mem_nil, or_false, not_or] at hg
  simp [exts, hg]⟩

theorem lives_ok {args : List Value} {H : Hp} {v : Value} {H' : Hp} (h : base2 (.func 6) args H = some (v, H')) : (∀ a w, (callFunc 6 a).run Tryz.prog w = .ok (.enter 6 a) w) ∧
    ∀ r w args', Sim r H w → LRel r args args' → Calls Tryz.prog 6 args'.toArray w (Did r H w v H') := by
  refine ⟨fun a w => enter_ok ok6 a w, fun r w args' hs hl => ?_⟩
  unfold base2 at h
  simp only [if_true] at h
  split at h
  · cases h
    have := List.eq_nil_of_length_eq_zero (by simpa using hl.1.symm)
    subst this
    refine (calls_true pfL_ok lives_run w).mono ?_
    rintro e w' ⟨rfl, hb⟩
    obtain ⟨s1, s2⟩ := did_below hs hb
    exact ⟨_, r, rfl, .plain _ rfl, s1, s2⟩
  · cases h

theorem base2_ok : CallOk Tryz.prog base2 := by
  refine ⟨fun f args H v H' h => ?_, fun b args H v H' h => (by cases h), fun g args H q h => ?_⟩
  · by_cases e : f = 6
    · subst e; exact lives_ok h
    · have h' : base0 (.func f) args H = some (v, H') := by
        have : base2 (.func f) args H = base0 (.func f) args H := by unfold base2; simp only [if_neg e]
        rw [← this]; exact h
      exact base0_ok.fn f args H v H' h'
  · cases g with
    | func f => exact .inl ⟨f, rfl⟩
    | _ => cases h

theorem M2_ok (n : Nat) : CallOk Tryz.prog (M2.call n) := acallN_ok follows base2_ok dcall0_ok (fun f hf => by
  have : (ok0 f && !([6] : List FuncId).contains f) = true := hf
  unfold ok0 at this
  simp only [Bool.and_eq_true] at this
  exact this.1.1) n

theorem lives_spec (H : Hp) : callP M2 (.func 6) [] H fun v H' => H' = H ∧ v = .bool true := by
  refine ⟨_, _, ⟨0, fun m _ => ?_⟩, rfl, rfl⟩
  cases m with
  | zero => rfl
  | succ m =>
    show (if M2.ok 6 = true then _ else base2 (.func 6) [] H) = _
    have : M2.ok 6 = false := by
      show (ok0 _ && !([6] : List FuncId).contains _) = false
      simp
    rw [this]; rfl

theorem statPercents_spec (n of_ : Int) (H : Hp) : callP M2 (.func 4) [.int .i64 n, .int .i64 of_] H fun v H' => v = .bool true := by
  refine callG M2_good pf4_ok ok4 (by decide) (Nat.le_of_ble_eq_true rfl) fun K hret _ => ?_
  cases d1 : decide (n > 1125899906842624) with
  | true =>
    simp only [go_sem, reduceIte, Nat.reduceEqDiff, pf4, d1]
    refine cal (lives_spec _) ?_
    rintro v H1 ⟨rfl, rfl⟩
    simp only [go_sem, reduceIte, Nat.reduceEqDiff]
    refine hret _ _ ?_
    simp only [go_sem, reduceIte, Nat.reduceEqDiff, pf4]
  | false =>
    cases d2 : decide (of_ > 1125899906842624) with
    | true =>
      simp only [go_sem, reduceIte, Nat.reduceEqDiff, pf4, d1, d2]
      refine cal (lives_spec _) ?_
      rintro v H1 ⟨rfl, rfl⟩
      simp only [go_sem, reduceIte, Nat.reduceEqDiff]
      refine hret _ _ ?_
      simp only [go_sem, reduceIte, Nat.reduceEqDiff, pf4]
    | false =>
      have k1 := of_decide_eq_false d1
      have k2 := of_decide_eq_false d2
      simp only [go_sem, reduceIte, Nat.reduceEqDiff, pf4, d1, d2]
      refine cal (percent_spec M2_good _ (by omega) (by omega)) ?_
      rintro v H1 ⟨rfl, rfl⟩
      simp only [go_sem, reduceIte, Nat.reduceEqDiff]
      refine cal (refPercent_spec M2_good _ (by omega) (by omega)) ?_
      rintro v H2 ⟨rfl, rfl⟩
      simp only [go_sem, reduceIte, Nat.reduceEqDiff, decide_true]
      refine cal (lives_spec _) ?_
      rintro v H1 ⟨rfl, rfl⟩
      simp only [go_sem, reduceIte, Nat.reduceEqDiff]
      refine hret _ _ ?_
      simp only [go_sem, reduceIte, Nat.reduceEqDiff, pf4]

/-- What a contract from the empty heap says of the model. -/
theorem calls_of {M : Mc} (hc : ∀ n, CallOk Tryz.prog (M.call n)) {f : FuncId} {args : List Value} {v : Value} (hp : ∀ a ∈ args, plain a = true) (hv : flat v = true) {H0 : Hp} (hd : H0 = ⟨0, fun _ => .dead⟩) (h : callP M (.func f) args H0 fun u _ => u = v) (w : World) :
    Calls Tryz.prog f args.toArray w fun e w' => e = .returned v ∧ Below w.heap.size w w' := by
  obtain ⟨u, H1, ⟨k, hk⟩, rfl⟩ := h
  obtain ⟨_, h2⟩ := (hc k).fn f args _ _ _ (hk k (Nat.le_refl _))
  have hs : Sim (fun _ => none) H0 w := ⟨fun b x h => (by cases h), fun b x h => (by cases h), fun b x h => (by cases h), fun b b' x x' h => (by cases h)⟩
  refine (h2 (fun _ => none) w args hs ⟨rfl, fun i a b => .plain _ (hp _ (List.getElem_mem a))⟩).mono ?_
  rintro e w' ⟨v', r', rfl, hv', hs1, st⟩
  have := flat_eq hv' hv
  subst this
  exact ⟨rfl, st.os, st.tape, st.output, st.size, fun k hk => st.same k hk (by rintro ⟨b, x, h, _⟩; cases h)⟩

theorem statPercents_calls (n of_ : Int) (w : World) : Calls Tryz.prog 4 #[.int .i64 n, .int .i64 of_] w fun e w' => e = .returned (.bool true) ∧ Below w.heap.size w w' :=
  calls_of M2_ok (args := [.int .i64 n, .int .i64 of_]) (by intro a ha; simp at ha; rcases ha with rfl | rfl <;> rfl) rfl rfl (statPercents_spec n of_ _) w

end Am
end Go.Proofs.YtbpabpnpoidpcaaGreatDoor
