/- Contracts of functions of the program: numbers in bytes. No conditions. -/
import Derived.Test.YtbpabpnpoidpcaaGreatDoorCt1
set_option maxRecDepth 100000
set_option linter.unusedVariables false
set_option linter.unusedSimpArgs false
namespace Go.Proofs.YtbpabpnpoidpcaaGreatDoor
namespace Am
open Go Go.RowKit
variable {M : Mc}

/-- code.Zero$1. -/
theorem zero1_spec (hM : Good M) (H : Hp) (n : Int) : callP M (.func 264) [.int .u8 n] H fun v H' => H' = H ∧ v = .bool (decide (n ≠ 0)) := by
  refine callG hM pf264_ok ok264 (by decide) (Nat.le_of_ble_eq_true rfl) fun K hret _ => ?_
  simp only [go_sem, reduceIte, Nat.reduceEqDiff, pf264]
  refine hret _ _ ?_
  simp only [go_sem, reduceIte, Nat.reduceEqDiff, pf264]

/-- slices.IndexFunc with it. -/
theorem idxZero_spec (hM : Good M) {H : Hp} {s : Value} {l : List Nat} (hs : Sb H s l) (hl : l.length < 4611686018427387904) :
    callP M (.func 304) [s, .func (.func 264) #[] #[]] H fun v H' => H' = H ∧ ∃ k : Int, v = .int .i64 k ∧ (0 ≤ k ↔ l.all (· == 0) = false) := by
  obtain ⟨a, c, rfl, hget, h256⟩ := hs
  refine callG hM pf304_ok ok304 (by decide) (Nat.le_of_ble_eq_true rfl) fun K hret _ => ?_
  simp only [go_sem, reduceIte, Nat.reduceEqDiff, pf304]
  refine rn_loop (fun t H' => H' = H ∧ t 0 = .slice a l.length c ∧ t 1 = .func (.func 264) #[] #[] ∧ t 7 = .int .i64 l.length ∧ ∃ i : Nat, i ≤ l.length ∧ t 8 = .int .i64 i ∧ ∀ x ∈ l.take i, x = 0) (fun t _ => l.length - cnt (t 8))
    ⟨rfl, rfl, rfl, rfl, 0, by omega, rfl, by simp⟩ ?_
  rintro t _ ⟨rfl, e0, e1, e7, i, hi, e8, hz⟩ K' hn' hx hr
  simp only [go_sem, reduceIte, Nat.reduceEqDiff, Int.reduceLE, pc304_0, e7, e8]
  with_reducible refine bcd (fun h => ?_) (fun h => ?_)
  · have hil : i < l.length := by omega
    obtain ⟨b, o, rfl, hbn, hbg⟩ := hget i hil
    simp only [go_sem, reduceIte, Nat.reduceEqDiff, Int.reduceLE, e0, e1, e7, e8, pindexAddr_sl hil, hbg]
    refine cal (zero1_spec hM _ _) ?_
    rintro v H1 ⟨rfl, rfl⟩
    simp only [go_sem, reduceIte, Nat.reduceEqDiff]
    with_reducible refine bcd (fun h1 => ?_) (fun h1 => ?_)
    · simp only [go_sem, reduceIte, Nat.reduceEqDiff, e8]
      refine hr _ _ _ (hret _ _ ?_)
      simp only [go_sem, reduceIte, Nat.reduceEqDiff, pf304]
      refine ⟨_, rfl, fun _ => ?_, fun _ => by omega⟩
      rw [List.all_eq_false]
      exact ⟨l[i], List.getElem_mem hil, by simp; omega⟩
    · have hw : IntKind.i64.wrap (↑i + 1) = ↑i + 1 := wrap64 (by omega)
      simp only [go_sem, reduceIte, Nat.reduceEqDiff, e8, hw]
      refine hn' _ _ ?_ ?_
      · refine ⟨rfl, by simp only [upd_at, reduceIte, Nat.reduceEqDiff, e0], by simp only [upd_at, reduceIte, Nat.reduceEqDiff, e1], by simp only [upd_at, reduceIte, Nat.reduceEqDiff, e7], i + 1, by omega, rfl, ?_⟩
        rw [List.take_succ_eq_append_getElem hil]
        intro x hx
        rcases List.mem_append.1 hx with hx | hx
        · exact hz x hx
        · simp at hx; subst hx; omega
      · simp only [go_sem, reduceIte, Nat.reduceEqDiff, e8]; omega
  · simp only [go_sem, reduceIte, Nat.reduceEqDiff, e8]
    refine hx _ _ _ _ ?_
    simp only [go_sem, reduceIte, Nat.reduceEqDiff]
    refine hret _ _ ?_
    simp only [go_sem, reduceIte, Nat.reduceEqDiff, pf304]
    refine ⟨_, rfl, fun h => by omega, fun hq => ?_⟩
    have : i = l.length := by omega
    subst this
    rw [List.take_length] at hz
    rw [List.all_eq_false] at hq
    obtain ⟨x, hx, hx2⟩ := hq
    simp [hz x hx] at hx2

/-- slices.ContainsFunc with it; code.Zero. -/
theorem zero_spec (hM : Good M) {H : Hp} {s : Value} {l : List Nat} (hs : Sb H s l) (hl : l.length < 4611686018427387904) :
    callP M (.func 208) [s] H fun v H' => H' = H ∧ v = .bool (l.all (· == 0)) := by
  have hcon : callP M (.func 263) [s, .func (.func 264) #[] #[]] H fun v H' => H' = H ∧ v = .bool (!l.all (· == 0)) := by
    refine callG hM pf263_ok ok263 (by decide) (Nat.le_of_ble_eq_true rfl) fun K hret _ => ?_
    simp only [go_sem, reduceIte, Nat.reduceEqDiff, pf263]
    refine cal (idxZero_spec hM hs hl) ?_
    rintro v H1 ⟨rfl, k, rfl, hk⟩
    simp only [go_sem, reduceIte, Nat.reduceEqDiff]
    refine hret _ _ ?_
    simp only [go_sem, reduceIte, Nat.reduceEqDiff, pf263]
    congr 1
    cases hall : l.all (· == 0) with
    | true => rw [hall] at hk; simp at hk; simp; omega
    | false => rw [hall] at hk; simp at hk; simp [hk]
  refine callG hM pf208_ok ok208 (by decide) (Nat.le_of_ble_eq_true rfl) fun K hret _ => ?_
  simp only [go_sem, reduceIte, Nat.reduceEqDiff, pf208]
  refine cal hcon ?_
  rintro v H1 ⟨rfl, rfl⟩
  simp only [go_sem, reduceIte, Nat.reduceEqDiff]
  refine hret _ _ ?_
  simp only [go_sem, reduceIte, Nat.reduceEqDiff, pf208, Bool.not_not]

/-- Is there such a width? -/
def isW (w : Int) : Bool := decide (w = 1) || (decide (w = 2) || (decide (w = 4) || decide (w = 8)))
theorem known_spec (hM : Good M) (H : Hp) (w : Int) : callP M (.func 170) [.int .i64 w] H fun v H' => H' = H ∧ v = .bool (isW w) := by
  refine callG hM pf170_ok ok170 (by decide) (Nat.le_of_ble_eq_true rfl) fun K hret _ => ?_
  have key : ∀ (b1 b2 b4 b8 : Bool), decide (w = 1) = b1 → decide (w = 2) = b2 → decide (w = 4) = b4 → decide (w = 8) = b8 → run M 170 pf170.nt none none [.code pf170.pc] [] (fun i => [Value.int .i64 w].getD i undef) H K := by
    intro b1 b2 b4 b8 h1 h2 h4 h8
    have hi : isW w = (b1 || (b2 || (b4 || b8))) := by unfold isW; rw [h1, h2, h4, h8]
    rw [hi] at hret
    cases b1 <;> cases b2 <;> cases b4 <;> cases b8 <;> simp only [go_sem, reduceIte, Nat.reduceEqDiff, pf170, h1, h2, h4, h8] <;> refine hret _ _ ?_ <;> simp only [go_sem, reduceIte, Nat.reduceEqDiff, pf170]
  exact key _ _ _ _ rfl rfl rfl rfl

end Am
end Go.Proofs.YtbpabpnpoidpcaaGreatDoor
