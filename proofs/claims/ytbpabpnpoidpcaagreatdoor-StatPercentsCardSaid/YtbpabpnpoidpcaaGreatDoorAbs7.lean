/- The abstract machine's operations that make memory: variables, literals, make, []byte(s). No conditions. -/
import Derived.Test.YtbpabpnpoidpcaaGreatDoorAbs6
set_option linter.unusedVariables false
set_option linter.unusedSimpArgs false
namespace Go.Proofs.YtbpabpnpoidpcaaGreatDoor
namespace Am
open Go Go.RowKit

/-- What a new row of cells is to the two machines. -/
theorem Sim.row {r : Mp} {H : Hp} {w w0 : World} (hs : Sim r H w) {sz : Nat} {cs : List Value} {cs' : Array Value} {el : TypeId} {fr : Nat × Nat} (hle : cs.length ≤ cs'.size) (hrel : LRel (upd r H.n (some ⟨w.heap.size, 0, sz, cs'.size⟩)) cs (cs'.toList.take cs.length))
    (hfr : ∀ i, i < cs'.size → ¬ (fr.1 ≤ i ∧ i < fr.2)) (hone : ∀ v ∈ cs, v.oneCell' = true) (hw : w0.heap = w.heap.push (.cells cs' el fr)) (h1 : w0.os = w.os) (h2 : w0.tape = w.tape) (h3 : w0.output = w.output) :
    Sim (upd r H.n (some ⟨w.heap.size, 0, sz, cs'.size⟩)) (H.alloc (.cells false sz cs)) w0 ∧ Step r H w (upd r H.n (some ⟨w.heap.size, 0, sz, cs'.size⟩)) (H.alloc (.cells false sz cs)) w0 := by
  refine Sim.alloc hs rfl (by rw [hw]; simp) (fun c hc => by rw [hw, Array.getElem?_push, if_neg (by omega)]) ?_ h1 h2 h3
  refine ⟨rfl, cs', el, fr, by rw [hw]; simp, rfl, by simpa using hle, by simpa using hrel, fun _ => hfr, hone⟩

theorem Sim.row_plain {r : Mp} {H : Hp} {w : World} (hs : Sim r H w) {sz : Nat} {cs : List Value} {cs' : Array Value} {el : TypeId} (hrel : LRel r cs cs'.toList) (hone : ∀ v ∈ cs, v.oneCell' = true) :
    Sim (upd r H.n (some ⟨w.heap.size, 0, sz, cs'.size⟩)) (H.alloc (.cells false sz cs)) (w.alloc (.cells cs' el)) ∧ Step r H w (upd r H.n (some ⟨w.heap.size, 0, sz, cs'.size⟩)) (H.alloc (.cells false sz cs)) (w.alloc (.cells cs' el)) := by
  have hl : cs.length = cs'.size := by simpa using hrel.1
  refine Sim.row hs (by omega) ?_ (by intro i hi h; simp at h) hone rfl rfl rfl rfl
  rw [hl, List.take_of_length_le (by simp)]
  exact hrel.mono (le_upd hs.fresh)

/-! ### Variables -/
def zeros (P : Program) (T : TypeId) : Option (List Value) :=
  match P.info? T with
  | some i => match i.zero with
    | some z => if z.cells.toList.all flat then some z.cells.toList else none
    | none => none
  | none => none
theorem zeros_spec {P : Program} {T : TypeId} {zs : List Value} (h : zeros P T = some zs) : ∃ z, (∀ w, (zeroValue T).run P w = .ok z w) ∧ z.cells.toList = zs ∧ (∀ v ∈ zs, plain v = true) ∧ (∀ v ∈ zs, flat v = true) ∧ ∃ i, P.info? T = some i ∧ i.zero = some z := by
  unfold zeros at h
  split at h
  · rename_i i hi
    split at h
    · rename_i z hz
      split at h
      · rename_i ha
        cases h
        exact ⟨z, fun w => by simp [zeroValue, typeInfo, hi, hz], rfl, fun v hv => plain_of_flat (List.all_eq_true.1 ha v hv), fun v hv => List.all_eq_true.1 ha v hv, i, hi, hz⟩
      · cases h
    · cases h
  · cases h

/-- The cells of an element, of a block that is made for a type: an array's. -/
def esz (P : Program) (T : TypeId) : Nat := match arrSz P T with | some (_, s) => s | none => 0

def aalloc (P : Program) (H : Hp) (T : TypeId) : Option (Value × Hp) :=
  (zeros P T).map fun zs => (.pointer (some ⟨H.n, 0, none⟩), H.alloc (.cells false (esz P T) zs))

theorem aalloc_sound {P : Program} {r : Mp} {H H' : Hp} {w : World} (hs : Sim r H w) {T : TypeId} {v : Value} (h : aalloc P H T = some (v, H')) :
    ∃ v' r' w', (Instr.alloc T true (.tuple #[])).run P w = .ok v' w' ∧ VRel r' v v' ∧ Sim r' H' w' ∧ Step r H w r' H' w' := by
  unfold aalloc at h
  cases hz : zeros P T with
  | none => simp [hz] at h
  | some zs =>
    simp only [hz, Option.map_some, Option.some.injEq, Prod.mk.injEq] at h
    obtain ⟨rfl, rfl⟩ := h
    obtain ⟨z, h1, rfl, h3, h4, _⟩ := zeros_spec hz
    have k := Sim.row_plain (sz := esz P T) (el := T) hs (LRel.of_plain (r := r) h3) (fun v hv => one_of_flat (h4 v hv))
    refine ⟨_, _, _, ?_, .ptr (b := H.n) (o := 0) (upd_same _ _ _), k.1, k.2⟩
    simp [Instr.alloc, h1, newVar, newRow]

def abox (P : Program) (H : Hp) (T : TypeId) (x : Value) : Option (Value × Hp) :=
  (vcells x).map fun l => (.pointer (some ⟨H.n, 0, none⟩), H.alloc (.cells false (esz P T) l))

theorem abox_sound {P : Program} {r : Mp} {H H' : Hp} {w : World} (hs : Sim r H w) {T : TypeId} {x x' v : Value} (hx : VRel r x x') (h : abox P H T x = some (v, H')) :
    ∃ v' r' w', (Instr.box T x').run P w = .ok v' w' ∧ VRel r' v v' ∧ Sim r' H' w' ∧ Step r H w r' H' w' := by
  unfold abox at h
  cases hl : vcells x with
  | none => simp [hl] at h
  | some l =>
    simp only [hl, Option.map_some, Option.some.injEq, Prod.mk.injEq] at h
    obtain ⟨rfl, rfl⟩ := h
    have k := Sim.row_plain (sz := esz P T) (el := T) hs (vcells_rel hx hl).1 (vcells_rel hx hl).2.2.2
    refine ⟨_, _, _, ?_, .ptr (b := H.n) (o := 0) (upd_same _ _ _), k.1, k.2⟩
    simp [Instr.box, newVar, newRow]

/-! ### Literals of slices -/
/-- The cells of parts that are numbered from k on, sz cells each. -/
def plain_parts (sz : Nat) : Nat → List (Nat × Value) → Option (List Value)
  | _, [] => some []
  | k, (i, v) :: l => if i = k then (match vcells v with
      | some c => if c.length = sz then (plain_parts sz (k + 1) l).map (c ++ ·) else none
      | none => none) else none

theorem fold_set (off : Nat) : ∀ (l : List Value) (k : Nat) (a : Array Value), off + k + l.length ≤ a.size →
    ((l.zipIdx k).foldl (fun (a : Array Value) (c, j) => a.setIfInBounds (off + j) c) a).toList = a.toList.take (off + k) ++ l ++ a.toList.drop (off + k + l.length)
  | [], k, a, h => by simp
  | v :: l, k, a, h => by
    simp only [List.length_cons] at h
    simp only [List.zipIdx_cons, List.foldl_cons]
    rw [fold_set off l (k + 1) _ (by simp; omega)]
    simp only [Array.toList_setIfInBounds, List.length_cons]
    apply List.ext_getElem?
    intro i
    simp only [List.getElem?_append, List.length_append, List.length_take, List.length_set, Array.length_toList, List.length_cons, List.getElem?_take, List.getElem?_set, List.getElem?_drop, List.getElem?_cons]
    grind

theorem vcells_self {v : Value} {l : List Value} (h : vcells v = some l) : v.cells.toList = l := by
  cases v <;> simp only [vcells] at h <;> first
    | (cases h; rfl)
    | (split at h <;> cases h; rfl)
    | (cases h; done)

theorem vcells_one {v : Value} {l : List Value} (h : vcells v = some l) : ∀ x ∈ l, x.oneCell' = true := by
  cases v with
  | agg cs =>
    simp only [vcells] at h
    split at h
    · rename_i hall
      cases h
      exact fun x hx => List.all_eq_true.1 hall x hx
    · cases h
  | tuple vs => cases h
  | _ => cases h; simp [Value.oneCell']

theorem fill_parts {sz : Nat} : ∀ (l : List (Nat × Value)) (k : Nat) (a : Array Value) (cs : List Value), plain_parts sz k l = some cs → a.size = (k + l.length) * sz →
    ∃ a', Instr.fill (fun i => some (i * sz, sz)) a l = some a' ∧ a'.toList = a.toList.take (k * sz) ++ cs ∧ a'.size = a.size
  | [], k, a, cs, h, ha => by
    simp only [plain_parts, Option.some.injEq] at h
    subst h
    refine ⟨a, rfl, ?_, rfl⟩
    simp only [List.length_nil, Nat.add_zero] at ha
    rw [List.append_nil, List.take_of_length_le (by simp; omega)]
  | (i, v) :: l, k, a, cs, h, ha => by
    simp only [plain_parts] at h
    split at h
    · rename_i hik
      subst hik
      split at h
      · rename_i c hc
        split at h
        · rename_i hcl
          cases hq : plain_parts sz (i + 1) l with
          | none => simp [hq] at h
          | some q =>
            simp only [hq, Option.map_some, Option.some.injEq] at h
            subst h
            have hvc : v.cells.toList = c := vcells_self hc
            have hvs : v.cells.size = sz := by rw [← hcl, ← hvc]; simp
            simp only [List.length_cons] at ha
            have hm : (i + (l.length + 1)) * sz = (i + 1) * sz + l.length * sz := by rw [← Nat.add_mul]; congr 1; omega
            have hm1 : (i + 1) * sz = i * sz + sz := by rw [Nat.add_mul, Nat.one_mul]
            have conv : ∀ (b z : Array Value), (b.zipIdx.foldl (fun cs (c, j) => cs.setIfInBounds (i * sz + j) c) z) = (b.toList.zipIdx 0).foldl (fun cs (c, j) => cs.setIfInBounds (i * sz + j) c) z := by
              intro b z
              rw [← Array.foldl_toList]
              simp
            have hset := fold_set (i * sz) c 0 a (by omega)
            have hsize : ((c.zipIdx 0).foldl (fun (a : Array Value) (c, j) => a.setIfInBounds (i * sz + j) c) a).size = a.size := by
              have h9 := congrArg List.length hset
              rw [Array.length_toList] at h9
              rw [h9]
              simp only [List.length_append, List.length_take, List.length_drop, Array.length_toList]
              omega
            obtain ⟨a', g1, g2, g3⟩ := fill_parts l (i + 1) ((c.zipIdx 0).foldl (fun (a : Array Value) (c, j) => a.setIfInBounds (i * sz + j) c) a) q hq (by rw [hsize, ha, hm]; rw [← Nat.add_mul])
            refine ⟨a', ?_, ?_, by rw [g3, hsize]⟩
            · simp only [Instr.fill]
              rw [if_neg (by rw [hvs]; simp; omega), conv, hvc]
              exact g1
            · rw [g2, hset, ← List.append_assoc]
              congr 1
              simp only [Nat.add_zero]
              rw [List.take_append_of_le_length (by simp; omega), List.take_of_length_le (by simp; omega)]
        · cases h
      · cases h
    · cases h

/-- The cells of a slice type's element. -/
def bsT (P : Program) (T : TypeId) : Option Nat :=
  match P.underlying T with
  | some (.slice e) => match P.info? e with
    | some i => if i.zero.isSome then some i.size else none
    | none => none
  | _ => none
theorem bsT_spec {P : Program} {T : TypeId} {sz : Nat} (h : bsT P T = some sz) : ∃ e i z, P.underlying T = some (.slice e) ∧ P.info? e = some i ∧ i.zero = some z ∧ i.size = sz := by
  unfold bsT at h
  split at h
  · rename_i e hu
    split at h
    · rename_i i hi
      split at h
      · rename_i hz
        obtain ⟨z, hz⟩ := Option.isSome_iff_exists.1 hz
        cases h
        exact ⟨e, i, z, hu, hi, hz, rfl⟩
      · cases h
    · cases h
  · cases h

def abuildSlice (P : Program) (H : Hp) (T : TypeId) (len : Nat) (ps : List (Nat × Value)) : Option (Value × Hp) :=
  match bsT P T with
  | some sz => if ps.length = len ∧ len * sz ≤ 16777216 then
      (plain_parts sz 0 ps).map fun cs => (.slice (some ⟨H.n, 0, none⟩) len len, H.alloc (.cells false sz cs))
    else none
  | none => none

theorem plain_parts_rel {r : Mp} {sz : Nat} : ∀ {l l' : List (Nat × Value)} {k : Nat} {cs : List Value}, PRel r l l' → plain_parts sz k l = some cs → ∃ cs', plain_parts sz k l' = some cs' ∧ LRel r cs cs'
  | [], l', k, cs, h, hp => by
    have : l' = [] := List.eq_nil_of_length_eq_zero (by simpa using h.1.symm)
    subst this
    simp only [plain_parts, Option.some.injEq] at hp
    subst hp
    exact ⟨[], rfl, LRel.nil⟩
  | (i, v) :: l, m, k, cs, h, hp => by
    obtain ⟨v', l', rfl, hv, hl⟩ := h.uncons
    simp only [plain_parts] at hp
    split at hp
    · rename_i hik
      split at hp
      · rename_i c hc
        split at hp
        · rename_i hcl
          cases hq : plain_parts sz (k + 1) l with
          | none => simp [hq] at hp
          | some q =>
            simp only [hq, Option.map_some, Option.some.injEq] at hp
            subst hp
            obtain ⟨g1, g2, _, _⟩ := vcells_rel hv hc
            obtain ⟨q', k1, k2⟩ := plain_parts_rel hl hq
            have hc' : vcells v' = some v'.cells.toList := by
              cases v' <;> simp only [Value.cells] at g1 g2 ⊢ <;> first
                | rfl
                | skip
              case agg cs => simp only [vcells]; rw [if_pos (List.all_eq_true.2 g2)]
              case tuple vs =>
                have := g2 (.tuple vs) (by simp)
                simp [Value.oneCell'] at this
            have hcl' : v'.cells.toList.length = sz := by rw [← g1.1, hcl]
            exact ⟨v'.cells.toList ++ q', by simp only [plain_parts]; rw [if_pos hik, hc']; simp only; rw [if_pos hcl', k1]; rfl, g1.append k2⟩
        · cases hp
      · cases hp
    · cases hp

theorem plain_parts_one {sz : Nat} : ∀ {l : List (Nat × Value)} {k : Nat} {cs : List Value}, plain_parts sz k l = some cs → ∀ v ∈ cs, v.oneCell' = true
  | [], k, cs, h => by simp only [plain_parts, Option.some.injEq] at h; subst h; simp
  | (i, v) :: l, k, cs, h => by
    simp only [plain_parts] at h
    split at h
    · split at h
      · rename_i c hc
        split at h
        · cases hq : plain_parts sz (k + 1) l with
          | none => simp [hq] at h
          | some q =>
            simp only [hq, Option.map_some, Option.some.injEq] at h
            subst h
            intro u hu
            rcases List.mem_append.1 hu with hu | hu
            · exact vcells_one hc u hu
            · exact plain_parts_one hq u hu
        · cases h
      · cases h
    · cases h

theorem abuildSlice_sound {P : Program} {r : Mp} {H H' : Hp} {w : World} (hs : Sim r H w) {T : TypeId} {len : Nat} {ps : List (Nat × Value)} {ps' : Array (Nat × Value)} (hp : PRel r ps ps'.toList) {v : Value} (h : abuildSlice P H T len ps = some (v, H')) :
    ∃ v' r' w', (Instr.buildSlice T len ps').run P w = .ok v' w' ∧ VRel r' v v' ∧ Sim r' H' w' ∧ Step r H w r' H' w' := by
  unfold abuildSlice at h
  cases hbs : bsT P T with
  | none => simp [hbs] at h
  | some sz =>
      obtain ⟨e, i, z0, hu, hi, hz0, rfl⟩ := bsT_spec hbs
      simp only [hbs] at h
      split at h
      · rename_i hc
        obtain ⟨hlen, hmax⟩ := hc
        have hz : len * i.size = 0 ∨ i.zero.isSome = true := .inr (by rw [hz0]; rfl)
        cases hq : plain_parts i.size 0 ps with
        | none => simp [hq] at h
        | some cs =>
          simp only [hq, Option.map_some, Option.some.injEq, Prod.mk.injEq] at h
          obtain ⟨rfl, rfl⟩ := h
          obtain ⟨cs', g1, g2⟩ := plain_parts_rel hp hq
          have hlen' : ps'.toList.length = len := by rw [← hp.1, hlen]
          have key : ∀ (a : Array Value), a.size = len * i.size → ∃ a', Instr.fill (fun j => some (j * i.size, i.size)) a ps'.toList = some a' ∧ a'.toList = cs' := by
            intro a ha
            obtain ⟨a', k1, k2, _⟩ := fill_parts ps'.toList 0 a cs' g1 (by rw [ha, hlen']; simp)
            exact ⟨a', k1, by simpa using k2⟩
          have hrun : ∃ a' : Array Value, (Instr.buildSlice T len ps').run P w = .ok (.slice (some ⟨w.heap.size, 0, none⟩) len len) (w.alloc (.cells a' e)) ∧ a'.toList = cs' := by
            have hmax' : ¬ (16777216 < len * i.size) := by omega
            by_cases h0 : len * i.size = 0
            · obtain ⟨a', k1, k2⟩ := key ((Array.range (len * i.size)).map ((#[] : Array Value)[· % 0]!)) (by simp)
              refine ⟨a', ?_, k2⟩
              have k1' := k1
              simp only [h0, Array.range_zero', Array.map_empty, List.map_nil] at k1'
              simp [Instr.buildSlice, run_underlying hu, sizeOf, typeInfo, hi, h0, newRow, k1', Array.range_zero']
            · rcases hz with hz | hz
              · exact absurd hz h0
              · obtain ⟨z, hz⟩ := Option.isSome_iff_exists.1 hz
                obtain ⟨a', k1, k2⟩ := key ((Array.range (len * i.size)).map (z.cells[· % z.cells.size]!)) (by simp)
                refine ⟨a', ?_, k2⟩
                simp [Instr.buildSlice, run_underlying hu, sizeOf, typeInfo, hi, zeroValue, hz, hmax', h0, k1, newRow]
          obtain ⟨a', k1, k2⟩ := hrun
          have hlc : cs.length = len * i.size := by
            have : ∀ (l : List (Nat × Value)) (k : Nat) (cs : List Value), plain_parts i.size k l = some cs → cs.length = l.length * i.size := by
              intro l
              induction l with
              | nil => intro k cs h; simp only [plain_parts, Option.some.injEq] at h; subst h; simp
              | cons p l ih =>
                intro k cs h
                obtain ⟨j, v⟩ := p
                simp only [plain_parts] at h
                split at h
                · split at h
                  · split at h
                    · rename_i hcl
                      cases hq : plain_parts i.size (k + 1) l with
                      | none => simp [hq] at h
                      | some q =>
                        simp only [hq, Option.map_some, Option.some.injEq] at h
                        subst h
                        simp [hcl, ih _ _ hq, Nat.add_mul, Nat.add_comm]
                    · cases h
                  · cases h
                · cases h
            rw [this _ _ _ hq, hlen]
          have hsz : a'.size = len * i.size := by
            have := g2.1
            rw [← k2, hlc] at this
            simpa using this.symm
          have kk := Sim.row_plain (sz := i.size) (el := e) (cs' := a') hs (by rw [k2]; exact g2) (plain_parts_one hq)
          refine ⟨_, _, _, k1, .slice (b := H.n) (o := 0) (upd_same _ _ _) (fun _ => rfl) (Nat.le_refl _) (Nat.le_refl _) ?_, kk.1, kk.2⟩
          simp [hsz]
      · cases h

/-! ### make -/
/-- n times the cells of a zero. -/
def zrep (zs : List Value) (n : Nat) : List Value := match zs with
  | [z] => List.replicate n z
  | zs => (List.replicate n zs).flatten
theorem zrep_eq (zs : List Value) (n : Nat) : zrep zs n = (List.replicate n zs).flatten := by
  unfold zrep
  split
  · rename_i z
    induction n with
    | zero => rfl
    | succ n ih => simp [List.replicate_succ, ← ih]
  · rfl

theorem made_eq (z : Array Value) (n : Nat) : (madeCells z (n * z.size)).toList = (List.replicate n z.toList).flatten := by
  unfold madeCells
  simp only [Array.toList_map, Array.toList_range]
  induction n with
  | zero => simp
  | succ n ih =>
    rw [Nat.add_mul, Nat.one_mul, List.range_add, List.map_append, ih, List.replicate_succ', List.flatten_append]
    congr 1
    simp only [List.map_map, List.flatten_cons, List.flatten_nil, List.append_nil]
    apply List.ext_getElem?
    intro i
    by_cases hi : i < z.size
    · simp [hi, Nat.mod_eq_of_lt hi]
    · simp [hi]

def mkT (P : Program) (T : TypeId) : Option (Nat × Nat × List Value) :=
  match P.underlying T with
  | some (.slice e) => match P.info? e, zeros P e with
    | some i, some zs => if zs.length = i.size then some (i.size, i.bytes, zs) else none
    | _, _ => none
  | _ => none
theorem mkT_spec {P : Program} {T : TypeId} {sz by_ : Nat} {zs : List Value} (h : mkT P T = some (sz, by_, zs)) : ∃ e i, P.underlying T = some (.slice e) ∧ P.info? e = some i ∧ zeros P e = some zs ∧ zs.length = i.size ∧ i.size = sz ∧ i.bytes = by_ := by
  unfold mkT at h
  split at h
  · rename_i e hu
    split at h
    · rename_i i zs' hi hz
      split at h
      · rename_i hl
        simp only [Option.some.injEq, Prod.mk.injEq] at h
        obtain ⟨rfl, rfl, rfl⟩ := h
        exact ⟨e, i, hu, hi, hz, hl, rfl, rfl⟩
      · cases h
    · cases h
  · cases h

def amake (P : Program) (H : Hp) (T : TypeId) (l c : Value) : Option (Value × Hp) :=
  match mkT P T with
  | some (sz, by_, zs) => match l, c with
    | .int _ l, .int _ c => if 0 ≤ l ∧ l ≤ c ∧ (by_ : Int) * c ≤ 281474976710656 ∧ c ≤ 9223372036854775807 then
        some (.slice (some ⟨H.n, 0, none⟩) l.toNat c.toNat, H.alloc (.cells false sz (zrep zs c.toNat)))
      else none
    | _, _ => none
  | none => none

theorem amake_sound {P : Program} {r : Mp} {H H' : Hp} {w : World} (hs : Sim r H w) {T : TypeId} {l c l' c' v : Value} (hl : VRel r l l') (hc : VRel r c c') (h : amake P H T l c = some (v, H')) :
    ∃ v' r' w', (Instr.makeSlice T l' c').run P w = .ok v' w' ∧ VRel r' v v' ∧ Sim r' H' w' ∧ Step r H w r' H' w' := by
  unfold amake at h
  split at h
  · rename_i sz by_ zs hmk
    obtain ⟨e, i, hu, hi, hz, hzl, rfl, rfl⟩ := mkT_spec hmk
    split at h
    · rename_i kl l kc c
      split at h
      · rename_i hcond
        obtain ⟨h0, hlc, hb, h63⟩ := hcond
        simp only [Option.some.injEq, Prod.mk.injEq] at h
        obtain ⟨rfl, rfl⟩ := h
        obtain ⟨z, z1, z2, z3, z4, i', z5, z6⟩ := zeros_spec hz
        rw [hi] at z5
        cases z5
        cases hl; cases hc
        have hzs : z.cells.size = i.size := by rw [← hzl, ← z2]; simp
        have hrun := run_make (P := P) w T e i z hu hi z6 kl kc l c h0 hlc hb h63
        have hm : (madeCells z.cells (c.toNat * i.size)).toList = zrep zs c.toNat := by rw [zrep_eq, ← z2, ← hzs]; exact made_eq _ _
        have mem : ∀ v ∈ zrep zs c.toNat, v ∈ zs := by
          intro v hv
          rw [zrep_eq] at hv
          obtain ⟨m, hm, hv⟩ := List.mem_flatten.1 hv
          rw [List.eq_of_mem_replicate hm] at hv
          exact hv
        have kk := Sim.row_plain (sz := i.size) (el := e) (cs := zrep zs c.toNat) (cs' := madeCells z.cells (c.toNat * i.size)) hs (by rw [hm]; exact LRel.of_plain fun v hv => z3 v (mem v hv)) (fun v hv => one_of_flat (z4 v (mem v hv)))
        refine ⟨_, _, _, hrun, .slice (b := H.n) (o := 0) (upd_same _ _ _) (fun _ => rfl) (Nat.le_refl _) (by omega) ?_, kk.1, kk.2⟩
        simp [size_madeCells]
      · cases h
    · cases h
  · cases h

/-! ### []byte(s), make(map) -/
def byteCells (s : ByteArray) : List Value := s.data.toList.map fun b => .int .u8 b.toNat

def abytes (P : Program) (H : Hp) (src dst : TypeId) (x : Value) : Option (Value × Hp) :=
  match x with
  | .string s => if isStr P src && isBytes P dst then
      some (.slice (some ⟨H.n, 0, none⟩) s.size s.size, H.alloc (.cells false 1 (byteCells s)))
    else none
  | _ => none

theorem abytes_sound {P : Program} {r : Mp} {H H' : Hp} {w : World} (hs : Sim r H w) {src dst : TypeId} {x x' v : Value} (hx : VRel r x x') (h : abytes P H src dst x = some (v, H')) :
    ∃ v' r' w', (convert src dst x').run P w = .ok v' w' ∧ VRel r' v v' ∧ Sim r' H' w' ∧ Step r H w r' H' w' := by
  unfold abytes at h
  split at h
  · rename_i s
    split at h
    · rename_i hc
      simp only [Bool.and_eq_true] at hc
      obtain ⟨e, he, he8⟩ := isBytes_spec hc.2
      simp only [Option.some.injEq, Prod.mk.injEq] at h
      obtain ⟨rfl, rfl⟩ := h
      cases hx
      have hrun := run_bytes_of_string (P := P) w src dst e s (isStr_spec hc.1) he he8
      have hcap : s.size ≤ grownCap w s.size 0 e := by simp only [grownCap, Question.cut]; omega
      have hsz : (bytesRow s (grownCap w s.size 0 e)).size = grownCap w s.size 0 e := by
        simp only [bytesRow, Array.size_append, Array.size_map, Array.size_replicate]
        show s.data.size + _ = _
        have : s.data.size = s.size := rfl
        omega
      have hlen : (byteCells s).length = s.size := by simp [byteCells]
      have kk := Sim.row (w0 := w.drew.alloc (.cells (bytesRow s (grownCap w s.size 0 e)) e ((bytesRow s (grownCap w s.size 0 e)).size, (bytesRow s (grownCap w s.size 0 e)).size + 1))) (sz := 1) (el := e) (cs := byteCells s) (cs' := bytesRow s (grownCap w s.size 0 e))
        (fr := ((bytesRow s (grownCap w s.size 0 e)).size, (bytesRow s (grownCap w s.size 0 e)).size + 1)) hs (by rw [hlen, hsz]; exact hcap) (by
          have : (bytesRow s (grownCap w s.size 0 e)).toList.take (byteCells s).length = byteCells s := by
            simp only [bytesRow, Array.toList_append, Array.toList_map]
            rw [List.take_append_of_le_length (by rw [hlen]; simp), List.take_of_length_le (by rw [hlen]; simp)]
            rfl
          rw [this]
          refine LRel.of_plain fun v hv => ?_
          simp only [byteCells, List.mem_map] at hv
          obtain ⟨b, _, rfl⟩ := hv
          rfl) (by intro i hi hh; simp only at hh; omega) (by
          intro v hv
          simp only [byteCells, List.mem_map] at hv
          obtain ⟨b, _, rfl⟩ := hv
          rfl) rfl rfl rfl rfl
      refine ⟨_, _, _, hrun, .slice (b := H.n) (o := 0) (upd_same _ _ _) (fun _ => rfl) hcap (Nat.le_refl _) ?_, kk.1, kk.2⟩
      simp [hsz]
    · cases h
  · cases h

def amakeMap (H : Hp) (n : Option Value) : Option (Value × Hp) :=
  match n with
  | none => some (.map (some H.n), H.alloc (.map []))
  | _ => none
theorem amakeMap_sound {P : Program} {r : Mp} {H H' : Hp} {w : World} (hs : Sim r H w) {T : TypeId} {v : Value} (h : amakeMap H none = some (v, H')) :
    ∃ v' r' w', (Instr.makeMap T none).run P w = .ok v' w' ∧ VRel r' v v' ∧ Sim r' H' w' ∧ Step r H w r' H' w' := by
  simp only [amakeMap, Option.some.injEq, Prod.mk.injEq] at h
  obtain ⟨rfl, rfl⟩ := h
  have kk := Sim.alloc (x := ⟨w.heap.size, 0, 0, 0⟩) (b := .map []) (w' := w.alloc (.map #[] 0)) hs rfl (by simp) (fun c hc => Below.heap_alloc w _ c hc) ⟨#[], 0, heap_alloc_new w _, rfl, fun i h => absurd h (by simp)⟩ rfl rfl rfl
  exact ⟨_, _, _, by simp [Instr.makeMap], .map (b := H.n) (upd_same _ _ _), kk.1, kk.2⟩

end Am
end Go.Proofs.YtbpabpnpoidpcaaGreatDoor
