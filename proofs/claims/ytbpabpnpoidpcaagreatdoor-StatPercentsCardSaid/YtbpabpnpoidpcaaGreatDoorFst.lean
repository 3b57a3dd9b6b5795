/- The contracts' answers, reckoned fast. No conditions. -/
import Derived.Test.YtbpabpnpoidpcaaGreatDoorCt4
import Derived.Test.YtbpabpnpoidpcaaGreatDoorEv2
import Derived.KernelRfl
set_option maxRecDepth 100000
set_option linter.unusedVariables false
set_option linter.unusedSimpArgs false
namespace Go.Proofs.YtbpabpnpoidpcaaGreatDoor
namespace Am
open Go Go.RowKit

noncomputable def tabF (n : Nat) : Nat := Nat.land (Nat.shiftRight 12749536319551302420830055290731983042906869231766370170184255228463894984119587222357463453493748006886229547019502462691509165827871124329361635492757504 (Nat.mul 32 n)) 4294967295
theorem tabF_all : (List.range 16).all (fun n => Nat.beq (tabF n) (tab n)) = true := by kernel_rfl
theorem tabF_eq {n : Nat} (h : n < 16) : tabF n = tab n := Nat.eq_of_beq_eq_true (List.all_eq_true.1 tabF_all n (List.mem_range.2 h))
noncomputable def crcF (l : List Nat) : Nat → Nat := List.rec (motive := fun _ => Nat → Nat) (fun r => r) (fun c _ ih r => natK (Nat.xor r c) fun r => natK (Nat.xor (Nat.shiftRight r 4) (tabF (Nat.land r 15))) fun r => natK (Nat.xor (Nat.shiftRight r 4) (tabF (Nat.land r 15))) fun r => ih r) l
theorem crcF_eq : ∀ (l : List Nat) (r : Nat), crcF l r = crcRun r l
  | [], r => rfl
  | c :: l, r => by
    have h : crcF (c :: l) r = natK (Nat.xor r c) fun r => natK (Nat.xor (Nat.shiftRight r 4) (tabF (Nat.land r 15))) fun r => natK (Nat.xor (Nat.shiftRight r 4) (tabF (Nat.land r 15))) fun r => crcF l r := rfl
    rw [h]
    simp only [natK_eq]
    have e := fun x : Nat => tabF_eq (n := Nat.land x 15) (and15 x)
    rw [crcF_eq l, e, e]
    rfl

def b4 (b : Nat) : List Nat := [b &&& 3, (b >>> 2) &&& 3, (b >>> 4) &&& 3, (b >>> 6) &&& 3]
theorem flat_b4 : ∀ (m : List Nat) (i : Nat), (m.flatMap b4)[i]? = if i < 4 * m.length then some ((m.getD (i / 4) 0 >>> (i % 4 * 2)) &&& 3) else none
  | [], i => by simp
  | b :: m, i => by
    rw [List.flatMap_cons]
    by_cases h : i < 4
    · rw [List.getElem?_append_left (by simp [b4]; omega), if_pos (by simp; omega)]
      have : i = 0 ∨ i = 1 ∨ i = 2 ∨ i = 3 := by omega
      rcases this with rfl | rfl | rfl | rfl <;> simp [b4]
    · rw [List.getElem?_append_right (by simp [b4]; omega)]
      have : (b4 b).length = 4 := rfl
      rw [this, flat_b4 m]
      obtain ⟨j, rfl⟩ : ∃ j, i = j + 4 := ⟨i - 4, by omega⟩
      have h1 : (j + 4) / 4 = j / 4 + 1 := by omega
      have h2 : (j + 4) % 4 = j % 4 := by omega
      rw [h1, h2]
      simp only [Nat.add_sub_cancel, List.length_cons, List.getD_cons_succ]
      by_cases h3 : j < 4 * m.length
      · rw [if_pos h3, if_pos (by omega)]
      · rw [if_neg h3, if_neg (by omega)]
theorem flat_bits {l : List Nat} (h : l.length = 244) : (l.drop 4).flatMap b4 = (List.range 960).map (bitAt l) := by
  refine List.ext_getElem? fun i => ?_
  rw [flat_b4]
  simp only [List.length_drop, h, List.getElem?_map]
  by_cases hi : i < 960
  · rw [if_pos (by omega), List.getElem?_range hi]
    simp only [Option.map_some, bitAt]
    congr 3
    simp only [List.getD_eq_getElem?_getD, List.getElem?_drop]
  · rw [if_neg (by omega)]
    have : (List.range 960)[i]? = none := by simp; omega
    rw [this]; rfl
noncomputable def bitsF (l : List Nat) : Option (List Nat) := Bool.rec (motive := fun _ => Option (List Nat)) none (natK (leN (l.take 4)) fun N => Bool.rec (motive := fun _ => Option (List Nat)) none
  (Bool.rec (motive := fun _ => Option (List Nat)) none (some (((l.drop 4).flatMap b4).take N)) ((((l.drop 4).flatMap b4).drop N).all fun x => Nat.beq x 0)) (Nat.ble N 960)) (Nat.beq l.length 244)
theorem bitsF_eq (l : List Nat) : bitsF l = bitsN l := by
  unfold bitsF bitsN
  cases h : Nat.beq l.length 244 with
  | false =>
    have : l.length ≠ 244 := fun e => by rw [e] at h; cases h
    rw [if_pos this]
  | true =>
    have hl := Nat.eq_of_beq_eq_true h
    rw [if_neg (by omega)]
    simp only [natK_eq]
    cases h2 : Nat.ble (leN (l.take 4)) 960 with
    | false =>
      have : 960 < leN (l.take 4) := by
        refine Nat.lt_of_not_le fun e => ?_
        rw [Nat.ble_eq_true_of_le e] at h2; cases h2
      rw [if_pos this]
    | true =>
      have hN := Nat.le_of_ble_eq_true h2
      rw [if_neg (by omega)]
      rw [flat_bits hl]
      have hiff : ((((List.range 960).map (bitAt l)).drop (leN (l.take 4))).all fun x => Nat.beq x 0) = (List.range 960).all fun i => decide (i < leN (l.take 4)) || bitAt l i == 0 := by
        rw [Bool.eq_iff_iff, List.all_eq_true, List.all_eq_true]
        constructor
        · intro hh i hi
          have hi' := List.mem_range.1 hi
          by_cases hiN : i < leN (l.take 4)
          · simp [hiN]
          · have := hh (bitAt l i) (List.mem_iff_getElem?.2 ⟨i - leN (l.take 4), by rw [List.getElem?_drop, show leN (l.take 4) + (i - leN (l.take 4)) = i by omega]; simp [hi']⟩)
            have := Nat.eq_of_beq_eq_true this
            simp [this]
        · intro hh x hx
          obtain ⟨j, hj⟩ := List.mem_iff_getElem?.1 hx
          rw [List.getElem?_drop, List.getElem?_map] at hj
          obtain ⟨y, hy, rfl⟩ := Option.map_eq_some_iff.1 hj
          obtain ⟨hlt, rfl⟩ := List.getElem?_eq_some_iff.1 hy
          have hlt' : leN (l.take 4) + j < 960 := by simpa using hlt
          have := hh (leN (l.take 4) + j) (List.mem_range.2 hlt')
          simp only [Bool.or_eq_true, decide_eq_true_eq, beq_iff_eq] at this
          have h4 : bitAt l (leN (l.take 4) + j) = 0 := by omega
          simp only [List.getElem_range, h4]
          rfl
      rw [hiff]
      cases h3 : (List.range 960).all fun i => decide (i < leN (l.take 4)) || bitAt l i == 0 with
      | false => simp
      | true =>
        simp only [if_true]
        rw [← List.map_take, List.take_range, Nat.min_eq_left hN]

end Am
end Go.Proofs.YtbpabpnpoidpcaaGreatDoor
