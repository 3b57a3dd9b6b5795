/- Contracts of functions of the program: slices that grow; bits.Read. No conditions. -/
import Derived.Test.YtbpabpnpoidpcaaGreatDoorCt3
set_option maxRecDepth 100000
set_option linter.unusedVariables false
set_option linter.unusedSimpArgs false
namespace Go.Proofs.YtbpabpnpoidpcaaGreatDoor
namespace Am
open Go Go.RowKit
variable {M : Mc}

/-- A slice of one's own, of elements of one cell. -/
def Own (H0 H : Hp) (v : Value) (cs : List Value) : Prop := (v = .slice none 0 0 ∧ cs = []) ∨ ∃ b, cs ≠ [] ∧ v = .slice (some ⟨b, 0, none⟩) cs.length cs.length ∧ H0.n ≤ b ∧ b < H.n ∧ H.f b = .cells false 1 cs
theorem pbuildSlice_one {H : Hp} {y : Value} (hy : vcells y = some [y]) : pbuildSlice H 1 1 [(0, y)] = some (.slice (some ⟨H.n, 0, none⟩) 1 1, H.alloc (.cells false 1 [y])) := by
  simp [pbuildSlice, plain_parts, hy]
theorem own_append {H0 H : Hp} {v : Value} {cs : List Value} {y : Value} {bys : Nat} (h : Own H0 H v cs) (he : Ext H0 H) (hr : room bys (cs.length + 1)) :
    ∃ v' H', pappend (H.alloc (.cells false 1 [y])) 1 bys false v (.slice (some ⟨H.n, 0, none⟩) 1 1) = some (v', H') ∧ Own H0 H' v' (cs ++ [y]) ∧ Ext H0 H' := by
  have hsrc : psrc (H.alloc (.cells false 1 [y])) 1 false (.slice (some ⟨H.n, 0, none⟩) 1 1) = some (1, [y]) := by
    simp [psrc, alloc_new]
  have h1 := he.1
  rcases h with ⟨rfl, rfl⟩ | ⟨b, _, rfl, hb0, hb, hf⟩
  · refine ⟨.slice (some ⟨H.n + 1, 0, none⟩) 1 1, (H.alloc (.cells false 1 [y])).alloc (.cells false 1 [y]), ?_, .inr ⟨H.n + 1, by simp, rfl, by omega, by simp [Hp.alloc], alloc_new (H := H.alloc _)⟩, he.alloc'.alloc'⟩
    simp only [pappend, hsrc]
    rw [if_neg (by decide), if_pos (show room bys 1 from hr)]
    rfl
  · have hf' : (H.alloc (.cells false 1 [y])).f b = .cells false 1 cs := by rw [alloc_old hb]; exact hf
    refine ⟨.slice (some ⟨H.n + 1, 0, none⟩) (cs.length + 1) (cs.length + 1), ((H.alloc (.cells false 1 [y])).put b .dead).alloc (.cells false 1 (cs ++ [y])), ?_, .inr ⟨H.n + 1, by simp, by simp, by omega, by simp [Hp.alloc, Hp.put], alloc_new (H := (H.alloc _).put _ _)⟩, (he.alloc'.put hb0).alloc'⟩
    simp only [pappend, hsrc, hf']
    rw [if_neg (by decide), if_true, if_neg (by omega), if_pos ⟨by omega, hr⟩]
    simp [Hp.put]
    rfl

def bitAt (l : List Nat) (i : Nat) : Nat := (l.getD (4 + i / 4) 0 >>> (i % 4 * 2)) &&& 3
/-- The counts that bytes say; none: they are none. -/
def bitsN (l : List Nat) : Option (List Nat) := if l.length ≠ 244 then none else if 960 < leN (l.take 4) then none else
  if ((List.range 960).all fun i => decide (i < leN (l.take 4)) || bitAt l i == 0) = true then some ((List.range (leN (l.take 4))).map (bitAt l)) else none
def ints (l : List Nat) : List Value := l.map fun n : Nat => .int .i64 (n : Int)

/-- bits.Read. -/
theorem bitsRead_spec (hM : Good M) {H : Hp} {s : Value} {l : List Nat} (hs : Sb H s l) (hl : l.length < 4611686018427387904) :
    callP M (.func 259) [s] H fun v H' => Ext H H' ∧ match bitsN l with
      | none => v = .tuple #[.slice none 0 0, .int .i64 7]
      | some q => ∃ u, v = .tuple #[u, .int .i64 0] ∧ Own H H' u (ints q) := by
  have hs' := hs
  obtain ⟨a, c, rfl, hget, h256⟩ := hs
  refine callG hM pf259_ok ok259 (by decide) (Nat.le_of_ble_eq_true rfl) fun K hret _ => ?_
  simp only [go_sem, reduceIte, Nat.reduceEqDiff, pf259]
  unfold bitsN at hret
  with_reducible refine bcd (fun h => ?_) (fun h => ?_)
  · have h' : l.length ≠ 244 := by omega
    simp only [go_sem, reduceIte, Nat.reduceEqDiff]
    refine hret _ _ ?_
    simp only [go_sem, reduceIte, Nat.reduceEqDiff, pf259, if_pos h']
    exact Ext.refl H
  · have h' : l.length = 244 := by omega
    simp only [if_neg (show ¬ l.length ≠ 244 by omega)] at hret
    simp only [go_sem, reduceIte, Nat.reduceEqDiff]
    have hg : getN l 0 4 = (((leN (l.take 4) : Nat) : Int), (0 : Int)) := by
      have h1 : thereN l.length 0 4 = 0 := by simp [thereN, isW, h']
      have h2 : leN (l.take 4) < 9223372036854775808 := by
        have := leN_lt (l.take 4) fun x hx => h256 x (List.mem_of_mem_take hx)
        refine Nat.lt_of_lt_of_le this (Nat.le_trans (Nat.pow_le_pow_right (by decide) (List.length_take_le 4 l)) (by decide))
      simp [getN, h1, h2]
    refine cal (get_spec hM hs' hl) ?_
    rintro v H1 ⟨rfl, rfl⟩
    simp only [hg]
    generalize leN (l.take 4) = N at hret hg
    simp only [go_sem, reduceIte, Nat.reduceEqDiff]
    with_reducible refine bcd (fun h2 => ?_) (fun h2 => ?_)
    · have h2' : 960 < N := by omega
      simp only [go_sem, reduceIte, Nat.reduceEqDiff]
      refine hret _ _ ?_
      simp only [go_sem, reduceIte, Nat.reduceEqDiff, pf259, if_pos h2']
      exact Ext.refl _
    · have h2' : ¬ 960 < N := by omega
      simp only [if_neg h2'] at hret
      simp only [go_sem, reduceIte, Nat.reduceEqDiff]
      refine rn_loop (fun t H' => Ext H1 H' ∧ t 0 = .slice a l.length c ∧ t 4 = .int .i64 N ∧ ∃ i : Nat, i ≤ 960 ∧ t 19 = .int .i64 i ∧ (∃ u, t 6 = u ∧ Own H1 H' u (ints ((List.range (min i N)).map (bitAt l)))) ∧ ∀ j, N ≤ j → j < i → bitAt l j = 0) (fun t _ => 960 - cnt (t 19))
        ⟨Ext.refl _, rfl, rfl, 0, by omega, rfl, ⟨_, rfl, .inl ⟨rfl, by simp [ints]⟩⟩, fun j _ h => by omega⟩ ?_
      rintro t H2 ⟨hext, e0, e4, i, hi, e19, ⟨u, e6, hown⟩, hzero⟩ K' hn' hx hr
      simp only [go_sem, reduceIte, Nat.reduceEqDiff, Int.reduceLE, pc259_0, e19]
      with_reducible refine bcd (fun h3 => ?_) (fun h3 => ?_)
      · have hi9 : i < 960 := by omega
        have hil : 4 + i / 4 < l.length := by omega
        obtain ⟨b, o, rfl, hbn, hbg⟩ := hget (4 + i / 4) hil
        have hbg2 : bget (H2.f b) (o + (4 + i / 4)) = some (.int .u8 (l[4 + i / 4] : Nat)) := by rw [hext.2 b hbn]; exact hbg
        have hc : l[4 + i / 4] < 256 := h256 _ (List.getElem_mem hil)
        have q1 : IntKind.i64.wrap ((i : Int).tdiv 4) = ((i / 4 : Nat) : Int) := by
          rw [Int.tdiv_eq_ediv_of_nonneg (Int.natCast_nonneg i), show (i : Int) / 4 = ((i / 4 : Nat) : Int) by omega]; exact wrap64 (by omega)
        have q2 : IntKind.i64.wrap (4 + ((i / 4 : Nat) : Int)) = ((4 + i / 4 : Nat) : Int) := wrap64 (n := 4 + ((i / 4 : Nat) : Int)) (by omega)
        have q3 : (i : Int).tmod 4 = ((i % 4 : Nat) : Int) := by rw [Int.tmod_eq_emod_of_nonneg (Int.natCast_nonneg i)]; omega
        have q4 : IntKind.i64.wrap (((i % 4 : Nat) : Int) * 2) = ((i % 4 * 2 : Nat) : Int) := by rw [show ((i % 4 : Nat) : Int) * 2 = ((i % 4 * 2 : Nat) : Int) by omega]; exact wrap64 (by omega)
        have q5 : bShr .u8 ((l[4 + i / 4] : Nat) : Int) ((i % 4 * 2 : Nat) : Int) = ((l[4 + i / 4] >>> (i % 4 * 2) : Nat) : Int) := bShr_nat (by show i % 4 * 2 ≤ 8; omega)
        have hle : l[4 + i / 4] >>> (i % 4 * 2) ≤ l[4 + i / 4] := Nat.shiftRight_le _ _
        have q6 : IntKind.i64.wrap ((l[4 + i / 4] >>> (i % 4 * 2) : Nat) : Int) = ((l[4 + i / 4] >>> (i % 4 * 2) : Nat) : Int) := wrap_nat (K := .i64) (h64 (Nat.lt_of_le_of_lt hle (by omega)))
        have q7 : bAnd .i64 ((l[4 + i / 4] >>> (i % 4 * 2) : Nat) : Int) 3 = ((bitAt l i : Nat) : Int) := by
          rw [bAnd_lit (h64 (Nat.lt_of_le_of_lt hle (by omega))) (by decide) (by decide)]
          have : l.getD (4 + i / 4) 0 = l[4 + i / 4] := by simp [List.getD, hil]
          rw [bitAt, this]; rfl
        have hw : IntKind.i64.wrap (↑i + 1) = ↑i + 1 := wrap64 (by omega)
        simp only [go_sem, reduceIte, Nat.reduceEqDiff, Int.reduceLE, e0, e4, e6, e19, pbin_quo (show (4 : Int) ≠ 0 by decide), pbin_rem (show (4 : Int) ≠ 0 by decide), q1, q2, pindexAddr_sl hil, hbg2, q3, q4, Int.natCast_nonneg, q5, q6, q7]
        with_reducible refine bcd (fun h4 => ?_) (fun h4 => ?_)
        · have hiN : i < N := by omega
          obtain ⟨v', H3, a1, a2, a3⟩ := own_append (bys := 8) (y := .int .i64 (bitAt l i)) hown hext (by
            have : (ints ((List.range (min i N)).map (bitAt l))).length = i := by simp [ints]; omega
            rw [this]
            exact ⟨by omega, by omega⟩)
          simp only [go_sem, reduceIte, Nat.reduceEqDiff, e6, e19, pbuildSlice_one vcells_int, a1, hw]
          refine hn' _ _ ?_ ?_
          · refine ⟨a3, by simp only [upd_at, reduceIte, Nat.reduceEqDiff, e0], by simp only [upd_at, reduceIte, Nat.reduceEqDiff, e4], i + 1, by omega, rfl, ⟨v', rfl, ?_⟩, fun j h1 h2 => by omega⟩
            have e : min (i + 1) N = min i N + 1 := by omega
            have e2 : min i N = i := by omega
            rw [e, List.range_succ, e2, List.map_append]
            rw [e2] at a2
            simpa [ints] using a2
          · simp only [go_sem, reduceIte, Nat.reduceEqDiff, e19]; omega
        · have hiN : ¬ i < N := by omega
          simp only [go_sem, reduceIte, Nat.reduceEqDiff]
          with_reducible refine bcd (fun h5 => ?_) (fun h5 => ?_)
          · have hne : bitAt l i ≠ 0 := by omega
            simp only [go_sem, reduceIte, Nat.reduceEqDiff]
            have hall : ¬ ((List.range 960).all fun i => decide (i < N) || bitAt l i == 0) = true := by
              rw [List.all_eq_true]
              intro hall
              have := hall i (List.mem_range.2 hi9)
              simp [hiN, hne] at this
            simp only [if_neg hall] at hret
            refine hr _ _ _ (hret _ _ ?_)
            simp only [go_sem, reduceIte, Nat.reduceEqDiff, pf259]
            exact hext
          · have hne : bitAt l i = 0 := by omega
            simp only [go_sem, reduceIte, Nat.reduceEqDiff, e19, hw]
            refine hn' _ _ ?_ ?_
            · refine ⟨hext, by simp only [upd_at, reduceIte, Nat.reduceEqDiff, e0], by simp only [upd_at, reduceIte, Nat.reduceEqDiff, e4], i + 1, by omega, rfl, ⟨u, by simp only [upd_at, reduceIte, Nat.reduceEqDiff, e6], ?_⟩, fun j h1 h2 => ?_⟩
              · have : min (i + 1) N = min i N := by omega
                rw [this]; exact hown
              · by_cases hj : j = i
                · subst hj; exact hne
                · exact hzero j h1 (by omega)
            · simp only [go_sem, reduceIte, Nat.reduceEqDiff, e19]; omega
      · simp only [go_sem, reduceIte, Nat.reduceEqDiff, e19]
        refine hx _ _ _ _ ?_
        have : i = 960 := by omega
        subst this
        have hall : ((List.range 960).all fun i => decide (i < N) || bitAt l i == 0) = true := by
          rw [List.all_eq_true]
          intro j hj
          have := List.mem_range.1 hj
          by_cases hjN : j < N
          · simp [hjN]
          · simp [hzero j (by omega) this]
        simp only [if_pos hall] at hret
        simp only [go_sem, reduceIte, Nat.reduceEqDiff, e6]
        refine hret _ _ ?_
        simp only [go_sem, reduceIte, Nat.reduceEqDiff, pf259]
        refine ⟨hext, u, rfl, ?_⟩
        have : min 960 N = N := by omega
        rw [this] at hown
        exact hown

end Am
end Go.Proofs.YtbpabpnpoidpcaaGreatDoor
