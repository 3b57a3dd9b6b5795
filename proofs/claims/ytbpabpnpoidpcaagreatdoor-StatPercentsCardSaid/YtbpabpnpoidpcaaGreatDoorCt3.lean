/- Contracts of functions of the program: numbers in bytes, code.Get. No conditions. -/
import Derived.Test.YtbpabpnpoidpcaaGreatDoorCt2
set_option maxRecDepth 100000
set_option linter.unusedVariables false
set_option linter.unusedSimpArgs false
namespace Go.Proofs.YtbpabpnpoidpcaaGreatDoor
namespace Am
open Go Go.RowKit
variable {M : Mc}

/-- Why so many bytes do not stand at a place. -/
def thereN (len : Nat) (at_ w : Int) : Int := if isW w = false then 1 else if at_ < 0 ∨ (len : Int) < at_ ∨ (len : Int) - at_ < w then 3 else 0
theorem there_spec (hM : Good M) (H : Hp) {a : Option Addr} {n c : Nat} {at_ w : Int} (hn : n < 4611686018427387904) :
    callP M (.func 201) [.slice a n c, .int .i64 at_, .int .i64 w] H fun v H' => H' = H ∧ v = .int .i64 (thereN n at_ w) := by
  refine callG hM pf201_ok ok201 (by decide) (Nat.le_of_ble_eq_true rfl) fun K hret _ => ?_
  simp only [go_sem, reduceIte, Nat.reduceEqDiff, pf201]
  refine cal (known_spec hM _ _) ?_
  rintro v H1 ⟨rfl, rfl⟩
  simp only [go_sem, reduceIte, Nat.reduceEqDiff]
  unfold thereN at hret
  with_reducible refine bc (fun h => ?_) (fun h => ?_)
  · simp only [go_sem, reduceIte, Nat.reduceEqDiff]
    refine hret _ _ ?_
    have h' : isW w = false := by simpa using h
    simp only [go_sem, reduceIte, Nat.reduceEqDiff, pf201, h']
  · have h' : isW w = true := by simpa using h
    simp only [h', Bool.true_eq_false, if_false] at hret
    cases h1 : decide (at_ < 0) with
    | true =>
      simp only [go_sem, reduceIte, Nat.reduceEqDiff, h1]
      refine hret _ _ ?_
      simp only [go_sem, reduceIte, Nat.reduceEqDiff, pf201, if_pos (Or.inl (of_decide_eq_true h1))]
    | false =>
      cases h2 : decide ((n : Int) < at_) with
      | true =>
        simp only [go_sem, reduceIte, Nat.reduceEqDiff, h1, h2]
        refine hret _ _ ?_
        simp only [go_sem, reduceIte, Nat.reduceEqDiff, pf201, if_pos (Or.inr (Or.inl (of_decide_eq_true h2)))]
      | false =>
        have k1 := of_decide_eq_false h1
        have k2 := of_decide_eq_false h2
        have hw : IntKind.i64.wrap ((n : Int) - at_) = n - at_ := wrap64 (by omega)
        simp only [go_sem, reduceIte, Nat.reduceEqDiff, h1, h2, hw]
        with_reducible refine bcd (fun h3 => ?_) (fun h3 => ?_)
        · simp only [go_sem, reduceIte, Nat.reduceEqDiff]
          refine hret _ _ ?_
          simp only [go_sem, reduceIte, Nat.reduceEqDiff, pf201, if_pos (Or.inr (Or.inr h3))]
        · simp only [go_sem, reduceIte, Nat.reduceEqDiff]
          refine hret _ _ ?_
          simp only [go_sem, reduceIte, Nat.reduceEqDiff, pf201, if_neg (show ¬ (at_ < 0 ∨ (n : Int) < at_ ∨ (n : Int) - at_ < w) by omega)]

/-- The number of bytes, the lowest first. -/
def leN : List Nat → Nat
  | [] => 0
  | b :: l => b + 256 * leN l
theorem leN_lt : ∀ (l : List Nat), (∀ x ∈ l, x < 256) → leN l < 256 ^ l.length
  | [], _ => by simp [leN]
  | b :: l, h => by
    have h1 := h b (by simp)
    have h2 := leN_lt l fun x hx => h x (by simp [hx])
    simp only [leN, List.length_cons, Nat.pow_succ]
    omega

theorem isW_cases {w : Int} (h : isW w = true) : w = 1 ∨ w = 2 ∨ w = 4 ∨ w = 8 := by
  simp only [isW, Bool.or_eq_true, decide_eq_true_eq] at h
  exact h

/-- code.Get. -/
def getN (l : List Nat) (at_ w : Int) : Int × Int := if thereN l.length at_ w ≠ 0 then (0, thereN l.length at_ w) else
  if leN ((l.drop at_.toNat).take w.toNat) < 9223372036854775808 then (leN ((l.drop at_.toNat).take w.toNat), 0) else (0, 2)
/-- code.Get, where the bytes that are read are known. -/
def getQ (n : Nat) (at_ w : Int) (q : List Nat) : Int × Int := if thereN n at_ w ≠ 0 then (0, thereN n at_ w) else if leN q < 9223372036854775808 then (leN q, 0) else (0, 2)
theorem get_spec2 (hM : Good M) {H : Hp} {a : Option Addr} {n c : Nat} {q : List Nat} {at_ w : Int} (hn : n < 4611686018427387904)
    (hq : thereN n at_ w = 0 → q.length = w.toNat ∧ (∀ i (h : i < q.length), ∃ b o, a = some ⟨b, o, none⟩ ∧ bget (H.f b) (o + (at_.toNat + i)) = some (.int .u8 (q[i] : Nat))) ∧ ∀ x ∈ q, x < 256) :
    callP M (.func 117) [.slice a n c, .int .i64 at_, .int .i64 w] H fun v H' => H' = H ∧ v = .tuple #[.int .i64 (getQ n at_ w q).1, .int .i64 (getQ n at_ w q).2] := by
  refine callG hM pf117_ok ok117 (by decide) (Nat.le_of_ble_eq_true rfl) fun K hret _ => ?_
  simp only [go_sem, reduceIte, Nat.reduceEqDiff, pf117]
  refine cal (there_spec hM _ hn) ?_
  rintro v H1 ⟨rfl, rfl⟩
  simp only [go_sem, reduceIte, Nat.reduceEqDiff]
  unfold getQ at hret
  with_reducible refine bcd (fun h => ?_) (fun h => ?_)
  · simp only [go_sem, reduceIte, Nat.reduceEqDiff]
    refine hret _ _ ?_
    simp only [go_sem, reduceIte, Nat.reduceEqDiff, pf117, if_pos h]
  · simp only [if_neg h] at hret
    have hth : thereN n at_ w = 0 := by simpa using h
    obtain ⟨hql, hget, h256⟩ := hq hth
    have hW : isW w = true := by
      cases hw : isW w with
      | true => rfl
      | false => simp [thereN, hw] at hth
    have hrange : 0 ≤ at_ ∧ at_ + w ≤ n := by
      simp only [thereN, hW, Bool.true_eq_false, if_false] at hth
      split at hth
      · cases hth
      · omega
    have hw8 := isW_cases hW
    obtain ⟨A, rfl⟩ : ∃ A : Nat, at_ = A := ⟨at_.toNat, by omega⟩
    obtain ⟨W, rfl⟩ : ∃ W : Nat, w = W := ⟨w.toNat, by omega⟩
    simp only [Int.toNat_natCast] at hret hql hget
    have hW8 : W ≤ 8 := by omega
    have hw0 : IntKind.i64.wrap ((W : Int) - 1) = W - 1 := wrap64 (by omega)
    simp only [go_sem, reduceIte, Nat.reduceEqDiff, hw0]
    refine rn_loop (fun t H' => H' = H1 ∧ t 0 = .slice a n c ∧ t 1 = .int .i64 A ∧ ∃ i : Nat, i ≤ W ∧ t 10 = .int .i64 ((i : Int) - 1) ∧ t 9 = .int .u64 (leN (q.drop i) : Nat)) (fun t _ => match t 10 with | .int _ n => (n + 1).toNat | _ => 0)
      ⟨rfl, rfl, rfl, W, by omega, rfl, by rw [List.drop_eq_nil_of_le (by omega)]; rfl⟩ ?_
    rintro t _ ⟨rfl, e0, e1, i, hi, e10, e9⟩ K' hn' hx hr
    simp only [go_sem, reduceIte, Nat.reduceEqDiff, Int.reduceLE, pc117_0, e10]
    with_reducible refine bcd (fun h => ?_) (fun h => ?_)
    · obtain ⟨j, rfl⟩ : ∃ j, i = j + 1 := ⟨i - 1, by omega⟩
      have hj : ((j + 1 : Nat) : Int) - 1 = (j : Nat) := by omega
      rw [hj] at e10
      have hjl : j < q.length := by omega
      have hjn : A + j < n := by omega
      obtain ⟨b, o, rfl, hbg⟩ := hget j hjl
      have hb256 : q[j] < 256 := h256 _ (List.getElem_mem hjl)
      generalize hr7 : leN (q.drop (j + 1)) = r at e9
      have hqlt : r < 256 ^ 7 := by
        have := leN_lt (q.drop (j + 1)) fun x hx => h256 x (List.mem_of_mem_drop hx)
        rw [hr7] at this
        refine Nat.lt_of_lt_of_le this (Nat.pow_le_pow_right (by decide) ?_)
        rw [List.length_drop]
        omega
      have hnew : leN (q.drop j) = r * 256 + q[j] := by
        rw [List.drop_eq_getElem_cons hjl]
        simp only [leN]
        rw [hr7]
        omega
      have s1 : bShl .u64 (r : Int) 8 = ((r * 256 : Nat) : Int) := by
        have := bShl_nat (K := .u64) (a := r) (n := 8) (by decide) (hu64 (by rw [Nat.shiftLeft_eq]; omega))
        rw [Nat.shiftLeft_eq] at this
        exact this
      have s2 : bOr .u64 ((r * 256 : Nat) : Int) ((q[j] : Nat) : Int) = ((r * 256 + q[j] : Nat) : Int) := by
        rw [bOr_nat (hu64 (by omega)) (hu64 (by omega))]
        congr 1
        have := Nat.shiftLeft_add_eq_or_of_lt (i := 8) (show q[j] < 2 ^ 8 from hb256) r
        rw [Nat.shiftLeft_eq] at this
        exact this.symm
      have hu : IntKind.u64.wrap ((q[j] : Nat) : Int) = ((q[j] : Nat) : Int) := wrapu64 (by omega)
      have hadd : IntKind.i64.wrap ((A : Int) + (j : Int)) = ((A + j : Nat) : Int) := by rw [wrap64 (by omega)]; rfl
      have hsub : IntKind.i64.wrap ((j : Int) - 1) = j - 1 := wrap64 (by omega)
      simp only [go_sem, reduceIte, Nat.reduceEqDiff, Int.reduceLE, e0, e1, e9, e10, hadd, pindexAddr_sl hjn, hbg, s1, hu, s2, hsub]
      refine hn' _ _ ?_ ?_
      · exact ⟨rfl, by simp only [upd_at, reduceIte, Nat.reduceEqDiff, e0], by simp only [upd_at, reduceIte, Nat.reduceEqDiff, e1], j, by omega, rfl, by simp only [upd_at, reduceIte, Nat.reduceEqDiff, hnew]⟩
      · simp only [upd_at, reduceIte, Nat.reduceEqDiff, e10]; omega
    · simp only [go_sem, reduceIte, Nat.reduceEqDiff, e10]
      refine hx _ _ _ _ ?_
      have : i = 0 := by omega
      subst this
      simp only [List.drop_zero] at e9
      simp only [go_sem, reduceIte, Nat.reduceEqDiff, e9]
      generalize leN q = r at hret e9
      with_reducible refine bcd (fun h => ?_) (fun h => ?_)
      · have hq : ¬ r < 9223372036854775808 := by omega
        simp only [if_neg hq] at hret
        simp only [go_sem, reduceIte, Nat.reduceEqDiff]
        refine hret _ _ ?_
        simp only [go_sem, reduceIte, Nat.reduceEqDiff, pf117]
      · have hq : r < 9223372036854775808 := by omega
        simp only [if_pos hq] at hret
        have hu : IntKind.i64.wrap (r : Int) = r := wrap64 (by omega)
        simp only [go_sem, reduceIte, Nat.reduceEqDiff, e9, hu]
        refine hret _ _ ?_
        simp only [go_sem, reduceIte, Nat.reduceEqDiff, pf117]
theorem get_spec (hM : Good M) {H : Hp} {s : Value} {l : List Nat} {at_ w : Int} (hs : Sb H s l) (hl : l.length < 4611686018427387904) :
    callP M (.func 117) [s, .int .i64 at_, .int .i64 w] H fun v H' => H' = H ∧ v = .tuple #[.int .i64 (getN l at_ w).1, .int .i64 (getN l at_ w).2] := by
  obtain ⟨a, c, rfl, hget, h256⟩ := hs
  refine get_spec2 (q := (l.drop at_.toNat).take w.toNat) hM hl fun hth => ?_
  have hW : isW w = true := by
    cases hw : isW w with
    | true => rfl
    | false => simp [thereN, hw] at hth
  have hrange : 0 ≤ at_ ∧ at_ + w ≤ l.length := by
    simp only [thereN, hW, Bool.true_eq_false, if_false] at hth
    split at hth
    · cases hth
    · omega
  have hw8 := isW_cases hW
  have hlen : ((l.drop at_.toNat).take w.toNat).length = w.toNat := by simp; omega
  refine ⟨hlen, fun i hi => ?_, fun x hx => h256 x (List.mem_of_mem_drop (List.mem_of_mem_take hx))⟩
  obtain ⟨b, o, e1, e2, e3⟩ := hget (at_.toNat + i) (by omega)
  refine ⟨b, o, e1, ?_⟩
  rw [e3]
  simp

end Am
end Go.Proofs.YtbpabpnpoidpcaaGreatDoor
