/- auditor.ids of an auditor without any. No conditions. -/
import Derived.Test.YtbpabpnpoidpcaaGreatDoorChecked
import Derived.Test.YtbpabpnpoidpcaaGreatDoorAbsa
import Derived.WalkKit
import Derived.Laws.IdiomRangeMap
namespace Go.Proofs.YtbpabpnpoidpcaaGreatDoor
open Go.RowKit
set_option maxRecDepth 100000
set_option linter.unusedVariables false

theorem ids_none (w : World) (c o m1 m2 : Nat) (k1 k2 : Nat) (h1 : w.cell? ⟨c, o + 14, none⟩ = some (.map (some m1))) (h2 : w.cell? ⟨c, o + 15, none⟩ = some (.map (some m2)))
    (h3 : w.heap[m1]? = some (.map #[] k1)) (h4 : w.heap[m2]? = some (.map #[] k2)) :
    Calls Tryz.prog 298 #[.pointer (some ⟨c, o, none⟩)] w fun e w' => e = .returned (.slice none 0 0) ∧ Below w.heap.size w w' := by
  have hm1 : m1 < w.heap.size := by rcases Nat.lt_or_ge m1 w.heap.size with h | h; exact h; simp [Array.getElem?_eq_none h] at h3
  have hm2 : m2 < w.heap.size := by rcases Nat.lt_or_ge m2 w.heap.size with h | h; exact h; simp [Array.getElem?_eq_none h] at h4
  have nx : ∀ (w : World) (m k : Nat) (h : w.heap[m]? = some (.map #[] k)) (ty : TypeId), (Instr.next (.pointer (some ⟨w.heap.size, 0, none⟩)) false ty).run Tryz.prog (w.alloc (.mapIter (some m) k #[] k)) = .ok (.tuple #[.bool false]) (w.alloc (.mapIter (some m) k #[] k)) := by
    intro w m k h ty
    rcases run_next_map (P := Tryz.prog) w ty m k k #[] #[] k h (by simp) (Nat.le_refl _) with ⟨_, h⟩ | ⟨e, he, _⟩
    · exact h
    · simp [leftOf] at he
  have hrg1 := run_range_map (P := Tryz.prog) w 367 _ _ m1 #[] k1 Tryz.underlying367 h3
  have hnx1 := nx w m1 k1 h3
  have h4' : (w.alloc (.mapIter (some m1) k1 #[] k1)).heap[m2]? = some (.map #[] k2) := by rw [heap_alloc_old w _ hm2, h4]
  have h2' : (w.alloc (.mapIter (some m1) k1 #[] k1)).cell? ⟨c, o + 15, none⟩ = some (.map (some m2)) := by
    have hc : c < w.heap.size := by
      rcases Nat.lt_or_ge c w.heap.size with h | h
      · exact h
      · simp [World.cell?, Array.getElem?_eq_none h] at h2
    have e : (w.alloc (.mapIter (some m1) k1 #[] k1)).heap[c]? = w.heap[c]? := heap_alloc_old w _ hc
    simp only [World.cell?] at h2 ⊢
    rw [e]; exact h2
  have hrg2 := run_range_map (P := Tryz.prog) (w.alloc (.mapIter (some m1) k1 #[] k1)) 368 _ _ m2 #[] k2 Tryz.underlying368 h4'
  have hnx2 := nx (w.alloc (.mapIter (some m1) k1 #[] k1)) m2 k2 h4'
  have hs : (w.alloc (.mapIter (some m1) k1 #[] k1)).heap.size = w.heap.size + 1 := by show (w.heap.push _).size = _; simp
  rw [hs] at hrg2 hnx2
  go_enter Tryz.func298, Tryz.ntmps298
  go_wp2
  refine wp_loop_rounds 1 ?_
  rw [rounds_succ]
  go_wp2
  refine wp_loop_rounds 1 ?_
  rw [rounds_succ]
  go_wp2_with go_in
  refine wp_loop_rounds 1 ?_
  rw [rounds_succ]
  go_wp2_with go_in
  refine wp_loop_rounds 1 ?_
  rw [rounds_succ]
  go_wp2_with go_in
  go_end0
  go_wp2_with go_in
  refine bodyPost_ret (v := .tuple #[]) (by simp [results, Tryz.results342, go_sem]) rfl ?_
  go_wp2_with go_in
  go_end0
  go_wp2_with go_in
  go_ret
  exact ⟨rfl, ((Below.refl _ _).alloc (Nat.le_refl _) _).alloc (by simp) _⟩

end Go.Proofs.YtbpabpnpoidpcaaGreatDoor
