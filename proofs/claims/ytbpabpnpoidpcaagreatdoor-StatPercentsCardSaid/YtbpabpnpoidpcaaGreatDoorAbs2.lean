/- The abstract machine's operations that make no memory, and that the model's operations come to the same. No conditions. -/
import Derived.Test.YtbpabpnpoidpcaaGreatDoorAbs1
set_option linter.unusedVariables false
set_option linter.unusedSimpArgs false
namespace Go.Proofs.YtbpabpnpoidpcaaGreatDoor
namespace Am
open Go

/-! ### Types -/
/-- none: there is no such type; some none: one cell; some (some n): a struct or an array of n cells. -/
def aggD : TypeDesc → Bool
  | .struct _ | .array _ _ => true
  | _ => false
def lay (P : Program) (T : TypeId) : Option (Option Nat) :=
  match P.underlying T, P.info? T with
  | some d, some i => some (if aggD d then some i.size else none)
  | _, _ => none
theorem lay_spec {P : Program} {T : TypeId} {l : Option Nat} (h : lay P T = some l) : ∃ d i, P.underlying T = some d ∧ P.info? T = some i ∧
    (aggD d = true ∧ l = some i.size ∨ aggD d = false ∧ l = none) := by
  unfold lay at h
  cases hu : P.underlying T with
  | none => simp [hu] at h
  | some d =>
    cases hi : P.info? T with
    | none => simp [hu, hi] at h
    | some i =>
      refine ⟨d, i, rfl, rfl, ?_⟩
      simp only [hu, hi, Option.some.injEq] at h
      cases hd : aggD d <;> simp [hd] at h <;> simp [h]
def szOf (P : Program) (T : TypeId) : Nat := ((P.info? T).map (·.size)).getD 0
/-- An array type's elements' cells. -/
def arrSz (P : Program) (T : TypeId) : Option (Nat × Nat) :=
  match P.underlying T with
  | some (.array n e) => (P.info? e).map fun i => (n, i.size)
  | _ => none
/-- A slice type's elements' cells. -/
def slSz (P : Program) (T : TypeId) : Option Nat :=
  match P.underlying T with
  | some (.slice e) => (P.info? e).map fun i => i.size
  | _ => none
/-- Where a field begins, and its layout. -/
def fieldOf (P : Program) (S : TypeId) (f : Nat) : Option (Nat × Option Nat) :=
  match P.underlying S with
  | some (.struct fs) => match fs[f]? with
    | some x => match lay P x.type with
      | some l => if szOf P x.type = 0 then none else some (x.offset, l)
      | none => none
    | none => none
  | _ => none

/-- The kind of a type. -/
inductive Kd where
  | none | ptr | sl | mp | fn | ifc | int | str | bl | other
  deriving DecidableEq
def kd (P : Program) (T : TypeId) : Kd :=
  match P.underlying T with
  | .some (.pointer _) => .ptr
  | .some (.slice _) => .sl
  | .some (.map _ _) => .mp
  | .some (.func _ _ _) => .fn
  | .some (.interface _) => .ifc
  | .some (.int _) => .int
  | .some .string => .str
  | .some .bool => .bl
  | .some _ => .other
  | .none => .none
theorem kd_ptr {P : Program} {T : TypeId} (h : kd P T = .ptr) : ∃ e, P.underlying T = some (.pointer e) := by unfold kd at h; split at h <;> simp_all
theorem kd_sl {P : Program} {T : TypeId} (h : kd P T = .sl) : ∃ e, P.underlying T = some (.slice e) := by unfold kd at h; split at h <;> simp_all
theorem kd_mp {P : Program} {T : TypeId} (h : kd P T = .mp) : ∃ k e, P.underlying T = some (.map k e) := by unfold kd at h; split at h <;> simp_all
theorem kd_fn {P : Program} {T : TypeId} (h : kd P T = .fn) : ∃ a b c, P.underlying T = some (.func a b c) := by unfold kd at h; split at h <;> simp_all
theorem kd_ifc {P : Program} {T : TypeId} (h : kd P T = .ifc) : ∃ m, P.underlying T = some (.interface m) := by unfold kd at h; split at h <;> simp_all
theorem kd_int {P : Program} {T : TypeId} (h : kd P T = .int) : ∃ k, P.underlying T = some (.int k) := by unfold kd at h; split at h <;> simp_all
theorem kd_str {P : Program} {T : TypeId} (h : kd P T = .str) : P.underlying T = some .string := by unfold kd at h; split at h <;> simp_all
theorem kd_bl {P : Program} {T : TypeId} (h : kd P T = .bl) : P.underlying T = some .bool := by unfold kd at h; split at h <;> simp_all
theorem kd_some {P : Program} {T : TypeId} (h : kd P T ≠ .none) : ∃ d, P.underlying T = some d := by
  unfold kd at h; cases hu : P.underlying T <;> simp_all
theorem kd_noifc {P : Program} {T : TypeId} (h : kd P T ≠ .ifc) (m : Array (String × TypeId)) : P.underlying T ≠ some (.interface m) := by
  intro e; apply h; unfold kd; rw [e]
/-- The cells of a type's values. -/
def szO (P : Program) (T : TypeId) : Option Nat := (P.info? T).map (·.size)

/-! ### Cells of a value -/
def vcells : Value → Option (List Value)
  | .tuple _ => none
  | .agg cs => if cs.toList.all Value.oneCell' then some cs.toList else none
  | v => some [v]

theorem oneCell_rel {r : Mp} {v v' : Value} (h : VRel r v v') (hv : v.oneCell' = true) : v'.oneCell' = true := by
  cases h <;> simp_all [Value.oneCell', junk]
theorem one_of_flat0 {v : Value} (h : flat0 v = true) : v.oneCell' = true := by cases v <;> simp_all [flat0, Value.oneCell']
theorem one_of_flat {v : Value} (h : flat v = true) : v.oneCell' = true := by cases v <;> simp_all [flat, flat0, Value.oneCell']
theorem plain_of_flat {v : Value} (h : flat v = true) : plain v = true := by
  cases v <;> first | (simp_all [flat, flat0, plain]; done) | skip
  case iface t v => cases v <;> simp_all [flat, flat0, plain]
theorem flat_of_plain {v : Value} (h : plain v = true) (h1 : v.oneCell' = true) : flat v = true ∨ ∃ t cs, v = .iface t (.agg cs) := by
  cases v <;> first | (simp_all [flat, flat0, plain, Value.oneCell']; done) | skip
  case iface t v => cases v <;> simp_all [flat, flat0, plain]

theorem vcells_rel {r : Mp} {v v' : Value} (h : VRel r v v') {l : List Value} (hl : vcells v = some l) :
    LRel r l v'.cells.toList ∧ (∀ x ∈ v'.cells.toList, x.oneCell' = true) ∧ v.cells.toList = l ∧ (∀ x ∈ l, x.oneCell' = true) := by
  have key : ∀ (c c' : Array Value) (hc : c.size = c'.size) (hh : ∀ i (h : i < c.size) (h' : i < c'.size), VRel r c[i] c'[i]), vcells (.agg c) = some l →
      LRel r l c'.toList ∧ (∀ x ∈ c'.toList, x.oneCell' = true) ∧ c.toList = l ∧ (∀ x ∈ l, x.oneCell' = true) := by
    intro c c' hc hh hl
    simp only [vcells] at hl
    split at hl
    · rename_i hall
      cases hl
      refine ⟨⟨by simpa using hc, fun i a b => by simpa using hh i (by simpa using a) (by simpa using b)⟩, ?_, rfl, fun x hx => List.all_eq_true.1 hall x hx⟩
      intro x hx
      obtain ⟨i, hi, rfl⟩ := List.getElem_of_mem hx
      have hi' : i < c'.size := by simpa using hi
      have := hh i (by omega) hi'
      refine oneCell_rel (by simpa using this) ?_
      have hmem : c[i] ∈ c.toList := by simp
      simpa using List.all_eq_true.1 hall _ hmem
    · cases hl
  cases h with
  | junk => simp [vcells, junk] at hl
  | plain v h =>
    cases v with
    | agg c => exact key c c rfl (fun i a b => .plain _ (plain_of_flat (by have := h; simp only [plain] at this; simpa using (Array.all_eq_true.1 this) i a))) hl
    | tuple c => simp [vcells] at hl
    | _ => simp only [vcells, Option.some.injEq] at hl; subst hl; exact ⟨.cons (.plain _ h) .nil, by simp [Value.cells, Value.oneCell'], rfl, by simp [Value.oneCell']⟩
  | ptr h => simp only [vcells, Option.some.injEq] at hl; subst hl; exact ⟨.cons (.ptr h) .nil, by simp [Value.cells, Value.oneCell'], rfl, by simp [Value.oneCell']⟩
  | slice h ho hc hk hN => simp only [vcells, Option.some.injEq] at hl; subst hl; exact ⟨.cons (.slice h ho hc hk hN) .nil, by simp [Value.cells, Value.oneCell'], rfl, by simp [Value.oneCell']⟩
  | map h => simp only [vcells, Option.some.injEq] at hl; subst hl; exact ⟨.cons (.map h) .nil, by simp [Value.cells, Value.oneCell'], rfl, by simp [Value.oneCell']⟩
  | iface t h => simp only [vcells, Option.some.injEq] at hl; subst hl; exact ⟨.cons (.iface t h) .nil, by simp [Value.cells, Value.oneCell'], rfl, by simp [Value.oneCell']⟩
  | func fn a b c d => simp only [vcells, Option.some.injEq] at hl; subst hl; exact ⟨.cons (.func fn a b c d) .nil, by simp [Value.cells, Value.oneCell'], rfl, by simp [Value.oneCell']⟩
  | yield h => simp only [vcells, Option.some.injEq] at hl; subst hl; exact ⟨.cons (.yield h) .nil, by simp [Value.cells, Value.oneCell'], rfl, by simp [Value.oneCell']⟩
  | agg hc h => exact key _ _ hc h hl
  | tuple => simp [vcells] at hl

/-! ### Loads -/
def aload (P : Program) (H : Hp) (T : TypeId) : Value → Option Value
  | .pointer (some ⟨b, o, none⟩) =>
    match H.f b, lay P T with
    | .cells _ _ cs, some none => cs[o]?
    | .cells _ _ cs, some (some n) => if o + n ≤ cs.length then some (.agg ((cs.drop o).take n).toArray) else none
    | _, _ => none
  | _ => none

theorem add_at (c o n : Nat) : (⟨c, o, none⟩ : Addr).add n = ⟨c, o + n, none⟩ := by unfold Addr.add; split <;> simp_all

theorem cell_of {r : Mp} {H : Hp} {w : World} (hs : Sim r H w) {b : Nat} {x : Tgt} (hb : r b = some x) {ro : Bool} {sz : Nat} {cs : List Value} (hf : H.f b = .cells ro sz cs)
    {o : Nat} {v : Value} (hv : cs[o]? = some v) : ∃ v', w.cell? ⟨x.c, o + x.s, none⟩ = some v' ∧ VRel r v v' := by
  have h := hs.blk b x hb
  rw [hf] at h
  obtain ⟨_, cs', el, fr, h1, h2, h3, h4, _⟩ := h
  obtain ⟨v', e, hr⟩ := h4.get? hv
  refine ⟨v', ?_, hr⟩
  have ho : o < cs.length := (List.getElem?_eq_some_iff.1 hv).1
  rw [List.getElem?_take, if_pos ho, List.getElem?_drop] at e
  simp only [World.cell?, h1]
  simpa [Nat.add_comm] using e

theorem run_isAgg {P : Program} {T : TypeId} {d : TypeDesc} (h : P.underlying T = some d) (w : World) :
    (isAgg T).run P w = .ok (aggD d) w := by
  unfold isAgg
  rw [Sem.run_bind, run_underlying h w]
  cases d <;> rfl

theorem aload_sound {P : Program} {r : Mp} {H : Hp} {w : World} (hs : Sim r H w) {T : TypeId} {a a' v : Value} (ha : VRel r a a') (h : aload P H T a = some v) :
    ∃ v', (Instr.loadAt T a').run P w = .ok v' w ∧ VRel r v v' := by
  cases a with
  | pointer p =>
    cases p with
    | none => simp [aload] at h
    | some ad =>
      obtain ⟨b, o, sp⟩ := ad
      cases sp with
      | some s => simp [aload] at h
      | none =>
        cases ha with
        | plain _ hp => simp [plain, flat, flat0] at hp
        | @ptr _ _ x hb =>
          simp only [aload] at h
          cases hf : H.f b with
          | map es => simp [hf] at h
          | dead => simp [hf] at h
          | loop L => simp [hf] at h
          | cells ro sz cs =>
            simp only [hf] at h
            simp only [Instr.loadAt, Instr.sureAddr, Sem.run_bind, Sem.run_pure, Result.andThen_ok, loadVar]
            cases hl : lay P T with
            | none => simp [hl] at h
            | some l =>
                obtain ⟨d, i, hu, hi, hd⟩ := lay_spec hl
                simp only [hl] at h
                rw [run_isAgg hu w]
                have agg : (if o + i.size ≤ cs.length then some (Value.agg ((cs.drop o).take i.size).toArray) else none) = some v →
                    ∃ v', (Sem.run P (do let __do_lift ← sizeOf T; let __do_lift ← loadCells ⟨x.c, o + x.s, none⟩ __do_lift; pure (Value.agg __do_lift)) w) = .ok v' w ∧ VRel r v v' := by
                  intro h
                  split at h
                  · rename_i hle
                    cases h
                    have hbk := hs.blk b x hb
                    rw [hf] at hbk
                    obtain ⟨_, cs', el, fr, h1, h2, h3, h4, _⟩ := hbk
                    have hl : ((cs.drop o).take i.size).length = i.size := by simp; omega
                    have hk := ((h4.drop o).take i.size)
                    have hlen : (((List.drop x.s cs'.toList).take cs.length).drop o |>.take i.size).length = i.size := by rw [← hk.1, hl]
                    have hrun := run_loadCells_list (P := P) w ⟨x.c, o + x.s, none⟩ (((List.drop x.s cs'.toList).take cs.length).drop o |>.take i.size) (fun j u hu => by
                      rw [add_at]
                      have hj : j < i.size := by have := (List.getElem?_eq_some_iff.1 hu).1; omega
                      rw [List.getElem?_take, if_pos hj, List.getElem?_drop, List.getElem?_take, if_pos (by omega), List.getElem?_drop] at hu
                      simp only [World.cell?, h1]
                      simpa [Nat.add_comm, Nat.add_left_comm] using hu)
                    rw [hlen] at hrun
                    refine ⟨_, ?_, VRel.agg_of hk⟩
                    simp [sizeOf, typeInfo, hi, hrun]
                  · cases h
                have one : cs[o]? = some v → ∃ v', (Sem.run P (load ⟨x.c, o + x.s, none⟩) w) = .ok v' w ∧ VRel r v v' := by
                  intro h
                  obtain ⟨v', hc, hr⟩ := cell_of hs hb hf h
                  exact ⟨v', by simp [hc], hr⟩
                rcases hd with ⟨hd, rfl⟩ | ⟨hd, rfl⟩
                · simpa [hd] using agg h
                · simpa [hd] using one h
  | _ => simp [aload] at h

end Am
end Go.Proofs.YtbpabpnpoidpcaaGreatDoor
