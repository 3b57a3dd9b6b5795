/- The abstract machine's append, copy, and stores into maps. No conditions. -/
import Derived.Test.YtbpabpnpoidpcaaGreatDoorAbs7
import Derived.IntWalk
set_option linter.unusedVariables false
set_option linter.unusedSimpArgs false
namespace Go.Proofs.YtbpabpnpoidpcaaGreatDoor
namespace Am
open Go Go.RowKit

/-- How many elements a slice (or a string) has, and their cells. -/
def srcCells (P : Program) (H : Hp) (tX : TypeId) (sz : Nat) (x : Value) : Option (Nat × List Value) :=
  match x with
  | .slice none n _ => if n = 0 then some (0, []) else none
  | .slice (some ⟨b, o, none⟩) n _ => if n = 0 then some (0, []) else match H.f b with
    | .cells _ _ cs => if o + n * sz ≤ cs.length then some (n, (cs.drop o).take (n * sz)) else none
    | _ => none
  | .string s => if isStr P tX && sz == 1 then some (s.size, byteCells s) else none
  | _ => none

theorem src_sound {P : Program} {r : Mp} {H : Hp} {w : World} (hs : Sim r H w) {tX : TypeId} {sz n : Nat} {x x' : Value} {news : List Value} (hx : VRel r x x') (h : srcCells P H tX sz x = some (n, news)) :
    (∀ w2, (Builtin.lenOf x').run P w2 = .ok n w2) ∧ ∃ news', LRel r news news' ∧ (∀ v ∈ news, v.oneCell' = true) ∧ (∀ v ∈ news', v.oneCell' = true) ∧ news'.length = n * sz ∧ ∀ w2, w2.heap = w.heap → (Builtin.firstCells sz n x').run P w2 = .ok news'.toArray w2 := by
  have load0 : ∀ (a : Addr) w2, (loadCells a 0).run P w2 = .ok #[] w2 := fun a w2 => by simpa using run_loadCells_list (P := P) w2 a [] (by simp)
  unfold srcCells at h
  split at h
  · split at h
    · rename_i hn
      subst hn
      simp only [Option.some.injEq, Prod.mk.injEq] at h
      obtain ⟨rfl, rfl⟩ := h
      cases hx
      exact ⟨fun w2 => by simp [Builtin.lenOf], [], LRel.nil, by simp, by simp, by simp, fun w2 _ => by simp [Builtin.firstCells]⟩
    · cases h
  · rename_i b o n' c
    split at h
    · rename_i hn
      subst hn
      simp only [Option.some.injEq, Prod.mk.injEq] at h
      obtain ⟨rfl, rfl⟩ := h
      refine ⟨fun w2 => ?_, [], LRel.nil, by simp, by simp, by simp, fun w2 _ => ?_⟩
      · cases hx <;> simp [Builtin.lenOf]
      · cases hx <;> simp [Builtin.firstCells, load0]
    · rename_i hn
      cases hf : H.f b with
      | map es => simp [hf] at h
      | dead => simp [hf] at h
      | loop L => simp [hf] at h
      | cells ro z cs =>
        simp only [hf] at h
        split at h
        · rename_i hle
          simp only [Option.some.injEq, Prod.mk.injEq] at h
          obtain ⟨rfl, rfl⟩ := h
          cases hx with
          | plain _ hp => simp [plain, flat, flat0] at hp
          | @slice _ _ o' _ _ cap' y hy ho hcc hk hN =>
            have e := ho (by omega)
            subst e
            have hbk := hs.blk b y hy
            rw [hf] at hbk
            obtain ⟨_, cs', el, fr, h1, h2, h3, h4, h5, h6⟩ := hbk
            have hk := ((h4.drop o).take (n' * sz))
            have hl : ((cs.drop o).take (n' * sz)).length = n' * sz := by simp; omega
            have hlen : (((List.drop y.s cs'.toList).take cs.length).drop o |>.take (n' * sz)).length = n' * sz := by rw [← hk.1, hl]
            have hone : ∀ v ∈ (cs.drop o).take (n' * sz), v.oneCell' = true := fun v hv => h6 v (List.mem_of_mem_drop (List.mem_of_mem_take hv))
            refine ⟨fun w2 => by simp [Builtin.lenOf], _, hk, hone, ?_, hlen, fun w2 hw2 => ?_⟩
            · intro v hv
              obtain ⟨i, hi, rfl⟩ := List.getElem_of_mem hv
              have hi' : i < ((cs.drop o).take (n' * sz)).length := by rw [hk.1]; exact hi
              exact oneCell_rel (hk.2 i hi' hi) (hone _ (List.getElem_mem hi'))
            · have hrun := run_loadCells_list (P := P) w2 ⟨y.c, o + y.s, none⟩ (((List.drop y.s cs'.toList).take cs.length).drop o |>.take (n' * sz)) (fun j u hu => by
                rw [add_at]
                have hj : j < n' * sz := by have := (List.getElem?_eq_some_iff.1 hu).1; omega
                rw [List.getElem?_take, if_pos hj, List.getElem?_drop, List.getElem?_take, if_pos (by omega), List.getElem?_drop] at hu
                simp only [World.cell?, hw2, h1]
                simpa [Nat.add_comm, Nat.add_left_comm] using hu)
              rw [hlen] at hrun
              simp [Builtin.firstCells, hrun]
        · cases h
  · rename_i s
    split at h
    · rename_i hc
      simp only [Bool.and_eq_true, beq_iff_eq] at hc
      obtain ⟨_, rfl⟩ := hc
      simp only [Option.some.injEq, Prod.mk.injEq] at h
      obtain ⟨rfl, rfl⟩ := h
      cases hx
      have hone : ∀ v ∈ byteCells s, v.oneCell' = true := by
        intro v hv
        simp only [byteCells, List.mem_map] at hv
        obtain ⟨b, _, rfl⟩ := hv
        rfl
      refine ⟨fun w2 => by simp [Builtin.lenOf], byteCells s, LRel.of_plain fun v hv => ?_, hone, hone, by simp [byteCells], fun w2 _ => ?_⟩
      · simp only [byteCells, List.mem_map] at hv
        obtain ⟨b, _, rfl⟩ := hv
        rfl
      · have hx : s.extract 0 s.size = s := by
          cases s with
          | mk d =>
            have : (ByteArray.mk d).extract 0 (ByteArray.mk d).size = ⟨d.extract 0 d.size⟩ := by
              simp [ByteArray.ext_iff]
            rw [this]
            simp
        simp only [Builtin.firstCells, hx, Sem.run_pure]
        congr 1
        apply Array.ext'
        simp [byteCells]
    · cases h
  · cases h

theorem growBy_le (n : Nat) : ∀ (k c : Nat), Builtin.growBy n k c ≤ max c (n + (n + 768) / 4)
  | 0, c => by simp only [Builtin.growBy]; omega
  | k + 1, c => by
    simp only [Builtin.growBy]
    split
    · omega
    · have := growBy_le n k (c + (c + 768) / 4)
      omega
theorem nextcap_le {need cap : Nat} (h : cap < need) : Builtin.nextslicecap need cap ≤ 2 * need := by
  unfold Builtin.nextslicecap
  split
  · omega
  · split
    · omega
    · have := growBy_le need 4 cap
      omega

/-- There is room for so many elements of so many bytes. -/
def room (by_ n : Nat) : Prop := n * by_ ≤ 70368744177664 ∧ n ≤ 70368744177664
instance (i n : Nat) : Decidable (room i n) := inferInstanceAs (Decidable (_ ∧ _))

/-- What append must know of its types: an element's cells and bytes. -/
def apT (P : Program) (tS tX : TypeId) : Option (Nat × Nat) :=
  match P.underlying tS with
  | some (.slice e) => match P.info? e with
    | some i => if (isSl P tX || isStr P tX) && i.zero.any (fun z => z.cells.size == i.size) then some (i.size, i.bytes) else none
    | none => none
  | _ => none

/-- An element's cells and bytes, how many elements are appended, and their cells: those of a slice or a string, or so many zeros (append of make). -/
def apSrc (P : Program) (H : Hp) (tS tX : TypeId) (x : Value) : Option (Nat × Nat × Nat × List Value) :=
  match apT P tS tX with
  | some (sz, by_) => (srcCells P H tX sz x).map fun q => (sz, by_, q.1, q.2)
  | none => match mkT P tS, P.underlying tX, x with
    | some (sz, by_, zs), some (.int _), .int _ l => if 0 ≤ l ∧ (by_ : Int) * l ≤ 281474976710656 ∧ l ≤ 9223372036854775807 then some (sz, by_, l.toNat, zrep zs l.toNat) else none
    | _, _, _ => none

def aappend (P : Program) (H : Hp) (tS tX : TypeId) (s x : Value) : Option (Value × Hp) :=
  match apSrc P H tS tX x with
  | some (sz, by_, m, news) => match s with
      | .slice none 0 0 => if m = 0 then some (.slice none 0 0, H) else
          if room by_ m then some (.slice (some ⟨H.n, 0, none⟩) m m, H.alloc (.cells false sz news)) else none
      | .slice (some ⟨b, o, none⟩) len cap => if m = 0 then some (.slice (some ⟨b, o, none⟩) len cap, H) else
          match H.f b with
          | .cells false z cs => if z = sz then
              (if len + m ≤ cap then (if o + (len + m) * sz ≤ cs.length then some (.slice (some ⟨b, o, none⟩) (len + m) cap, H.put b (.cells false sz (writeL cs (o + len * sz) news))) else none)
              else if o + len * sz ≤ cs.length ∧ room by_ (len + m) then
                some (.slice (some ⟨H.n, 0, none⟩) (len + m) (len + m), (H.put b .dead).alloc (.cells false sz ((cs.drop o).take (len * sz) ++ news)))
              else none)
            else none
          | _ => none
      | _ => none
  | none => none

/-- What append's second part comes to in the model. -/
inductive Apd (P : Program) (heap : Array Obj) (tX : TypeId) (i : TypeInfo) (z : Value) (x : Value) (m : Nat) (news : List Value) : Prop
  | src (hd : (∃ e, P.underlying tX = some (.slice e)) ∨ P.underlying tX = some .string) (hl : ∀ w2, (Builtin.lenOf x).run P w2 = .ok m w2) (hf : ∀ w2, w2.heap = heap → (Builtin.firstCells i.size m x).run P w2 = .ok news.toArray w2)
  | zeros {kk k : IntKind} {l : Int} (hd : P.underlying tX = some (.int kk)) (hx : x = .int k l) (h0 : 0 ≤ l) (hb : (i.bytes : Int) * l ≤ 281474976710656) (h63 : l ≤ 9223372036854775807) (hm : m = l.toNat) (hn : news = (Builtin.zeroCells z.cells m).toList)

theorem zeroCells_nil {z : Value} {n k : Nat} (hz : z.cells.size = k) (h : n * k = 0) : (Builtin.zeroCells z.cells n).toList = [] := by
  unfold Builtin.zeroCells
  simp [hz, h]

theorem zeroCells_eq (z : Array Value) (n : Nat) : (Builtin.zeroCells z n).toList = (List.replicate n z.toList).flatten := by
  unfold Builtin.zeroCells
  simp only [Array.toList_map, Array.toList_range]
  induction n with
  | zero => simp
  | succ n ih =>
    rw [Nat.add_mul, Nat.one_mul, List.range_add, List.map_append, ih, List.replicate_succ', List.flatten_append]
    congr 1
    simp only [List.map_map, List.flatten_cons, List.flatten_nil, List.append_nil]
    apply List.ext_getElem?
    intro i
    by_cases hi : i < z.size
    · simp [hi, Nat.mod_eq_of_lt hi]
    · simp [hi]

theorem apT_spec {P : Program} {tS tX : TypeId} {sz by_ : Nat} (h : apT P tS tX = some (sz, by_)) : ∃ e i z, P.underlying tS = some (.slice e) ∧ P.info? e = some i ∧ i.zero = some z ∧ z.cells.size = i.size ∧ i.size = sz ∧ i.bytes = by_ ∧ (isSl P tX || isStr P tX) = true := by
  unfold apT at h
  split at h
  · rename_i e hu
    split at h
    · rename_i i hi
      split at h
      · rename_i hc
        simp only [Bool.and_eq_true] at hc
        obtain ⟨h1, h2⟩ := hc
        simp only [Option.some.injEq, Prod.mk.injEq] at h
        cases hz : i.zero with
        | none => simp [hz] at h2
        | some z => exact ⟨e, i, z, hu, hi, hz, by simpa [hz] using h2, h.1, h.2, h1⟩
      · cases h
    · cases h
  · cases h

theorem not_int {P : Program} {T : TypeId} (h : (isSl P T || isStr P T) = true) : (∃ e, P.underlying T = some (.slice e)) ∨ P.underlying T = some .string := by
  rcases (Bool.or_eq_true _ _ ▸ h : isSl P T = true ∨ isStr P T = true) with h | h
  · exact .inl (isSl_spec h)
  · exact .inr (isStr_spec h)

/-- append where the room is there. -/
theorem run_room {P : Program} {w : World} {tS tX ty e : TypeId} {i : TypeInfo} {z : Value} (hu : P.underlying tS = some (.slice e)) (hi : P.info? e = some i) (hz : i.zero = some z) (hzs : z.cells.size = i.size)
    {a : Addr} {len cap m : Nat} {x : Value} {news : List Value} (hA : Apd P w.heap tX i z x m news)
    (hroom : len + m ≤ cap) {w' : World} (hst : (storeCells (a.add (len * i.size)) news).run P w = .ok () w') :
    (Builtin.append_ #[tS, tX] ty #[.slice (some a) len cap, x]).run P w = .ok (.slice (some a) (len + m) cap) w' := by
  cases hA with
  | src hd hl hf =>
    have hf' := hf w rfl
    have hl' := hl w
    unfold Builtin.append_
    rcases hd with ⟨e', hd⟩ | hd <;> simp [run_underlying hu, run_underlying hd, sizeOf, typeInfo, hi, hl', hroom, hf', hst]
  | zeros hd hx h0 hb h63 hm hn =>
    rename_i kk k l
    subst hx hm
    have hw : IntKind.i64.wrap l = l := IntWalk.i64_in _ (by omega)
    have n1 : ¬ (l < 0) := by omega
    have n2 : ¬ (281474976710656 < l * (i.bytes : Int)) := by rw [Int.mul_comm]; omega
    unfold Builtin.append_
    have hnn : news.toArray = (if l.toNat * i.size = 0 then #[] else Builtin.zeroCells z.cells l.toNat) := by
      split
      · rename_i hms; rw [hn, zeroCells_nil hzs hms]
      · rw [hn]
    have happ : ∀ w2, Sem.run P (if l.toNat * i.size = 0 then (pure #[] : Sem (Array Value)) else do pure (Builtin.zeroCells (← zeroValue e).cells l.toNat)) w2 = .ok news.toArray w2 := by
      intro w2
      rw [hnn]
      split <;> simp [zeroValue, typeInfo, hi, hz]
    by_cases hms : l.toNat * i.size = 0
    · rw [if_pos hms] at hnn
      have hnl : news = [] := by simpa using congrArg Array.toList hnn
      subst hnl
      simp [run_underlying hu, run_underlying hd, sizeOf, typeInfo, hi, asInt, asIntOf, hw, n1, n2, hroom, hms, hst]
    · rw [if_neg hms] at hnn
      have hnl : (Builtin.zeroCells z.cells l.toNat).toList = news := by rw [← hnn]
      simp [run_underlying hu, run_underlying hd, sizeOf, typeInfo, hi, asInt, asIntOf, hw, n1, n2, hroom, hms, zeroValue, hz, hnl, hst]

/-- append where it is not. -/
theorem run_grow {P : Program} {w : World} {tS tX ty e : TypeId} {i : TypeInfo} {z : Value} (hu : P.underlying tS = some (.slice e)) (hi : P.info? e = some i) (hz : i.zero = some z) (hzs : z.cells.size = i.size)
    {s : Value} {base : Option Addr} {len cap m : Nat} {x : Value} {olds news : List Value} (hs : s = .slice base len cap) (hA : Apd P w.heap tX i z x m news)
    (ho : ∀ w2, w2.heap = w.heap → (Builtin.firstCells i.size len s).run P w2 = .ok olds.toArray w2)
    (hroom : cap < len + m) (hb : room i.bytes (len + m)) :
    ∃ (cs' : Array Value) (n : Nat), len + m ≤ n ∧ (olds ++ news) = cs'.toList.take (olds ++ news).length ∧ (olds ++ news).length ≤ cs'.size ∧ (cs'.size = (olds ++ news).length + (n - (len + m)) * z.cells.size) ∧
    (Builtin.append_ #[tS, tX] ty #[s, x]).run P w = .ok (.slice (some ⟨w.heap.size, 0, none⟩) (len + m) n) (w.drew.alloc (.cells cs' e)) := by
  subst hs
  have h0 : ¬ (len + m ≤ cap) := by omega
  obtain ⟨hb1, hb2⟩ := hb
  have h1 : ¬ (9223372036854775807 < ((len : Int) + (m : Int))) := by omega
  have h2 : ¬ (281474976710656 < Builtin.nextslicecap (len + m) cap * i.bytes) := by
    have := Nat.mul_le_mul_right i.bytes (nextcap_le hroom)
    rw [Nat.mul_assoc] at this
    omega
  have ho' := ho w.drew rfl
  refine ⟨(olds.toArray ++ news.toArray) ++ Builtin.zeroCells z.cells (grownCap w (len + m) cap e - (len + m)), grownCap w (len + m) cap e, ?_, ?_, ?_, ?_, ?_⟩
  · simp only [grownCap, Question.cut]; omega
  · simp only [Array.toList_append]
    rw [List.take_append_of_le_length (by simp), List.take_of_length_le (by simp)]
  · simp
  · simp [size_zeroCells]
  · cases hA with
    | src hd hl hf =>
      have hf' := hf w.drew rfl
      have hl' := hl w
      unfold Builtin.append_
      rcases hd with ⟨e', hd⟩ | hd <;> simp [run_underlying hu, run_underlying hd, sizeOf, typeInfo, zeroValue, hi, hz, hl', h0, h1, h2, Question.forced, hf', ho', newRow, grownCap] <;> (congr 2; apply Array.ext'; simp)
    | zeros hd hx g0 hb h63 hm hn =>
      rename_i kk k l
      subst hx hm
      have hw : IntKind.i64.wrap l = l := IntWalk.i64_in _ (by omega)
      have n1 : ¬ (l < 0) := by omega
      have n2 : ¬ (281474976710656 < l * (i.bytes : Int)) := by rw [Int.mul_comm]; omega
      unfold Builtin.append_
      by_cases hms : l.toNat * i.size = 0
      · have hnl : news = [] := by rw [hn, zeroCells_nil hzs hms]
        subst hnl
        simp [run_underlying hu, run_underlying hd, sizeOf, typeInfo, zeroValue, hi, hz, asInt, asIntOf, hw, n1, n2, h0, h1, h2, hms, Question.forced, ho', newRow, grownCap]
        intro h
        omega
      · have hnl : Builtin.zeroCells z.cells l.toNat = news.toArray := by rw [hn]
        simp [run_underlying hu, run_underlying hd, sizeOf, typeInfo, zeroValue, hi, hz, asInt, asIntOf, hw, n1, n2, h0, h1, h2, hms, Question.forced, ho', newRow, grownCap, hnl]
        rw [if_neg (by omega)]
        congr 3
        apply Array.ext'
        simp

theorem setCells_row : ∀ (vs : List Value) (b o : Nat) (w : World) (cs : Array Value) (el : TypeId) (fr : Nat × Nat), w.heap[b]? = some (.cells cs el fr) → o + vs.length ≤ cs.size →
    ∃ cs2, (w.setCells b o vs).heap[b]? = some (.cells cs2 el fr) ∧ cs2.toList = cs.toList.take o ++ vs ++ cs.toList.drop (o + vs.length)
  | [], b, o, w, cs, el, fr, h, hl => ⟨cs, h, by simp⟩
  | v :: vs, b, o, w, cs, el, fr, h, hl => by
    simp only [List.length_cons] at hl
    have h1 : (w.setCell ⟨b, o, none⟩ v).heap[b]? = some (.cells (cs.setIfInBounds o v) el fr) := by
      rw [setCell_eq_setRow w b o cs el fr v h, setRow_heap w b cs _ el fr h]
    obtain ⟨cs2, h2, h3⟩ := setCells_row vs b (o + 1) _ _ el fr h1 (by simp; omega)
    refine ⟨cs2, h2, ?_⟩
    rw [h3]
    simp only [Array.toList_setIfInBounds, List.length_cons]
    have : o < cs.toList.length := by simp; omega
    apply List.ext_getElem?
    intro i
    grind

theorem firstCells_det {P : Program} {w : World} {c o n cap sz : Nat} {cs : Array Value} {el : TypeId} {fr : Nat × Nat} (h : w.heap[c]? = some (.cells cs el fr)) (hl : o + n * sz ≤ cs.size) :
    (Builtin.firstCells sz n (.slice (some ⟨c, o, none⟩) n cap)).run P w = .ok ((cs.toList.drop o).take (n * sz)).toArray w := by
  have hlen : ((cs.toList.drop o).take (n * sz)).length = n * sz := by simp; omega
  have hrun := run_loadCells_list (P := P) w ⟨c, o, none⟩ ((cs.toList.drop o).take (n * sz)) (fun j u hu => by
    rw [add_at]
    have hj : j < n * sz := by have := (List.getElem?_eq_some_iff.1 hu).1; omega
    rw [List.getElem?_take, if_pos hj, List.getElem?_drop] at hu
    simp only [World.cell?, h]
    simpa using hu)
  rw [hlen] at hrun
  simpa [Builtin.firstCells] using hrun

/-- A new name for what is written behind a slice's end, in place; the old name is no longer used. -/
theorem Sim.rebase {r : Mp} {H : Hp} {w w' : World} (hs : Sim r H w) {b : Nat} {x y : Tgt} {blk : Blk} (hy : r b = some y) (hlive : (H.f b).live = true) (hro : (H.f b).ro = false) (hxc : x.c = y.c) (hsz : w'.heap.size = w.heap.size)
    (hold : ∀ c, c ≠ y.c → w'.heap[c]? = w.heap[c]?) (hb : BRel (upd r H.n (some x)) blk x w') (h1 : w'.os = w.os) (h2 : w'.tape = w.tape) (h3 : w'.output = w.output) :
    Sim (upd r H.n (some x)) ((H.put b .dead).alloc blk) w' ∧ Step r H w (upd r H.n (some x)) ((H.put b .dead).alloc blk) w' := by
  have hle := le_upd (x := x) hs.fresh
  have hbn : b ≠ H.n := by have := hs.lt _ _ hy; omega
  have hfb : ((H.put b .dead).alloc blk).f b = .dead := by simp only [Hp.alloc, Hp.put]; rw [upd_ne _ _ hbn]; simp
  have hfn : ((H.put b .dead).alloc blk).f H.n = blk := by simp [Hp.alloc, Hp.put]
  have hfo : ∀ c, c ≠ H.n → c ≠ b → ((H.put b .dead).alloc blk).f c = H.f c := by
    intro c h1 h2
    simp only [Hp.alloc, Hp.put]
    rw [upd_ne _ _ h1, upd_ne _ _ h2]
  constructor
  · refine ⟨fun c z hc => ?_, fun c z hc => ?_, fun c z hc => ?_, fun c c' z z' hc hc' he hl hl' => ?_⟩
    · by_cases e : c = H.n
      · subst e; simp [Hp.alloc, Hp.put]
      · rw [upd_ne _ _ e] at hc; have := hs.lt _ _ hc; simp [Hp.alloc, Hp.put]; omega
    · by_cases e : c = H.n
      · subst e; simp at hc; subst hc; rw [hxc, hsz]; exact hs.ltw _ _ hy
      · rw [upd_ne _ _ e] at hc; rw [hsz]; exact hs.ltw _ _ hc
    · by_cases e : c = H.n
      · subst e; simp at hc; subst hc; rw [hfn]; exact hb
      · rw [upd_ne _ _ e] at hc
        by_cases e2 : c = b
        · subst e2; rw [hfb]; trivial
        · rw [hfo c e e2]
          by_cases e3 : z.c = y.c
          · cases hd : H.f c with
            | dead => trivial
            | cells ro sz cs => exact (e2 (hs.inj c b z y hc hy e3 (by rw [hd]; rfl) hlive)).elim
            | map es => exact (e2 (hs.inj c b z y hc hy e3 (by rw [hd]; rfl) hlive)).elim
            | loop L => exact (e2 (hs.inj c b z y hc hy e3 (by rw [hd]; rfl) hlive)).elim
          · exact ((hs.blk _ _ hc).mono hle).same (hold _ e3)
    · have nb : ∀ {k}, (((H.put b .dead).alloc blk).f k).live = true → k ≠ b := by
        rintro k hk rfl; rw [hfb] at hk; exact absurd hk (by simp [Blk.live])
      by_cases e : c = H.n
      · by_cases e' : c' = H.n
        · rw [e, e']
        · subst e
          simp at hc
          subst hc
          rw [upd_ne _ _ e'] at hc'
          have hne := nb hl'
          rw [hfo c' e' hne] at hl'
          exact (hne (hs.inj c' b z' y hc' hy (by rw [← he, hxc]) hl' hlive)).elim
      · by_cases e' : c' = H.n
        · subst e'
          simp at hc'
          subst hc'
          rw [upd_ne _ _ e] at hc
          have hne := nb hl
          rw [hfo c e hne] at hl
          exact (hne (hs.inj c b z y hc hy (by rw [he, hxc]) hl hlive)).elim
        · rw [upd_ne _ _ e] at hc; rw [upd_ne _ _ e'] at hc'
          rw [hfo c e (nb hl)] at hl; rw [hfo c' e' (nb hl')] at hl'
          exact hs.inj _ _ _ _ hc hc' he hl hl'
  · refine ⟨hle, by simp [Hp.alloc, Hp.put], fun c hc hr => ?_, fun c hc hr => ?_, fun c z hr hc => ?_, h1, h2, h3, by omega, fun c hc hw => ?_⟩
    · have e : c ≠ H.n := by omega
      have e2 : c ≠ b := by rintro rfl; rw [hy] at hr; exact absurd hr (by simp)
      exact ⟨by rw [upd_ne _ _ e]; exact hr, hfo c e e2⟩
    · have e : c ≠ H.n := by omega
      have e2 : c ≠ b := by rintro rfl; rw [hro] at hr; exact absurd hr (by simp)
      exact hfo c e e2
    · by_cases e : c = H.n
      · subst e; simp at hc; subst hc; exact .inr ⟨b, y, hy, hxc.symm, hro⟩
      · rw [upd_ne _ _ e, hr] at hc; cases hc
    · exact hold c (fun e => hw ⟨b, y, hy, e.symm, hro⟩)

theorem apSrc_sound {P : Program} {r : Mp} {H : Hp} {w : World} (hs : Sim r H w) {tS tX : TypeId} {x x' : Value} (hx : VRel r x x') {sz by_ m : Nat} {news : List Value} (h : apSrc P H tS tX x = some (sz, by_, m, news)) :
    ∃ e i z, P.underlying tS = some (.slice e) ∧ P.info? e = some i ∧ i.zero = some z ∧ z.cells.size = i.size ∧ i.size = sz ∧ i.bytes = by_ ∧ ∃ news', LRel r news news' ∧ (∀ v ∈ news, v.oneCell' = true) ∧ (∀ v ∈ news', v.oneCell' = true) ∧ news'.length = m * sz ∧ Apd P w.heap tX i z x' m news' := by
  unfold apSrc at h
  split at h
  · rename_i sz' by' hap
    obtain ⟨e, i, z, hu, hi, hz, hzs, rfl, rfl, hty⟩ := apT_spec hap
    simp only [Option.map_eq_some_iff, Prod.mk.injEq] at h
    obtain ⟨⟨m', news0⟩, hsrc, rfl, rfl, rfl, rfl⟩ := h
    obtain ⟨hl, news', n1, n2, n3, n4, n5⟩ := src_sound hs hx hsrc
    exact ⟨e, i, z, hu, hi, hz, hzs, rfl, rfl, news', n1, n2, n3, n4, .src (not_int hty) hl n5⟩
  · split at h
    · rename_i sz' by' zs kk k l hmk hk
      split at h
      · rename_i hc
        simp only [Option.some.injEq, Prod.mk.injEq] at h
        obtain ⟨rfl, rfl, rfl, rfl⟩ := h
        obtain ⟨e, i, hu, hi, hz, hzl, rfl, rfl⟩ := mkT_spec hmk
        obtain ⟨z, z1, z2, z3, z4, i', z5, z6⟩ := zeros_spec hz
        rw [hi] at z5
        cases z5
        have hzs : z.cells.size = i.size := by rw [← hzl, ← z2]; simp
        cases hx
        have mem : ∀ v ∈ zrep zs l.toNat, v ∈ zs := by
          intro v hv
          rw [zrep_eq] at hv
          obtain ⟨m, hm, hv⟩ := List.mem_flatten.1 hv
          rw [List.eq_of_mem_replicate hm] at hv
          exact hv
        have heq : (Builtin.zeroCells z.cells l.toNat).toList = zrep zs l.toNat := by rw [zeroCells_eq, zrep_eq, z2]
        refine ⟨e, i, z, hu, hi, z6, hzs, rfl, rfl, zrep zs l.toNat, LRel.of_plain fun v hv => z3 v (mem v hv), fun v hv => one_of_flat (z4 v (mem v hv)), fun v hv => one_of_flat (z4 v (mem v hv)), ?_, .zeros hk rfl hc.1 hc.2.1 hc.2.2 rfl heq.symm⟩
        rw [← heq]
        simp [Builtin.zeroCells, hzs]
      · cases h
    · cases h

theorem run_nil {P : Program} {w : World} {tS tX ty e : TypeId} {i : TypeInfo} {z : Value} (hu : P.underlying tS = some (.slice e)) (hi : P.info? e = some i) (hz : i.zero = some z) (hzs : z.cells.size = i.size)
    {x : Value} {news : List Value} (hA : Apd P w.heap tX i z x 0 news) : (Builtin.append_ #[tS, tX] ty #[.slice none 0 0, x]).run P w = .ok (.slice none 0 0) w := by
  cases hA with
  | src hd hl hf =>
    have hl' := hl w
    have hf' := hf w rfl
    unfold Builtin.append_
    rcases hd with ⟨e', hd⟩ | hd <;> simp [run_underlying hu, run_underlying hd, sizeOf, typeInfo, hi, hl', hf']
  | zeros hd hx g0 hb h63 hm hn =>
    rename_i kk k l
    have hl0 : l = 0 := by omega
    subst hx hl0
    have hw : IntKind.i64.wrap 0 = 0 := IntWalk.i64_in _ (by omega)
    unfold Builtin.append_
    simp [run_underlying hu, run_underlying hd, sizeOf, typeInfo, hi, asInt, asIntOf, hw]

theorem aappend_sound {P : Program} {r : Mp} {H H' : Hp} {w : World} (hs : Sim r H w) {tS tX ty : TypeId} {s s' x x' v : Value} (hsr : VRel r s s') (hx : VRel r x x') (h : aappend P H tS tX s x = some (v, H')) :
    ∃ v' r' w', (Builtin.append_ #[tS, tX] ty #[s', x']).run P w = .ok v' w' ∧ VRel r' v v' ∧ Sim r' H' w' ∧ Step r H w r' H' w' := by
  unfold aappend at h
  split at h
  · rename_i sz by_ m news hap
    obtain ⟨e, i, z, hu, hi, hz, hzs, rfl, rfl, news', n1, n2, n3, n4, hA⟩ := apSrc_sound hs hx hap
    · have hnl : news.length = m * i.size := by rw [n1.1, n4]
      split at h
      · -- nil
        cases hsr
        split at h
        · rename_i hm
          subst hm
          simp only [Option.some.injEq, Prod.mk.injEq] at h
          obtain ⟨rfl, rfl⟩ := h
          refine ⟨_, r, w, ?_, .plain _ rfl, hs, Step.refl _ _ _⟩
          exact run_nil (ty := ty) hu hi hz hzs hA
        · rename_i hm
          split at h
          · rename_i hroom
            simp only [Option.some.injEq, Prod.mk.injEq] at h
            obtain ⟨rfl, rfl⟩ := h
            obtain ⟨cs', n, k1, k2, k3, k4, k5⟩ := run_grow (P := P) (w := w) (ty := ty) hu hi hz hzs (s := .slice none 0 0) (base := none) (len := 0) (cap := 0) (olds := []) rfl hA (fun w2 _ => by simp [Builtin.firstCells]) (by omega) (by simpa using hroom)
            simp only [List.nil_append, Nat.zero_add] at k1 k2 k3 k4 k5
            have kk := Sim.row (sz := i.size) (cs := news) (cs' := cs') (el := e) (fr := (0, 0)) (w0 := w.drew.alloc (.cells cs' e)) hs (by rw [n1.1]; exact k3) (by rw [n1.1, ← k2]; exact n1.mono (le_upd hs.fresh)) (by intro i _ h; simp at h) n2 rfl rfl rfl rfl
            refine ⟨_, _, _, k5, .slice (b := H.n) (o := 0) (upd_same _ _ _) (fun _ => rfl) k1 (Nat.le_refl _) ?_, kk.1, kk.2⟩
            simp only [k4, n4, hzs, Nat.zero_add]
            rw [← Nat.add_mul]
            exact Nat.mul_le_mul_right _ (by omega)
          · cases h
      · rename_i b o len cap
        split at h
        · rename_i hm
          subst hm
          simp only [Option.some.injEq, Prod.mk.injEq] at h
          obtain ⟨rfl, rfl⟩ := h
          refine ⟨s', r, w, ?_, hsr, hs, Step.refl _ _ _⟩
          have hnil : news' = [] := List.eq_nil_of_length_eq_zero (by rw [n4]; simp)
          cases hsr with
          | plain _ hp => simp [plain, flat, flat0] at hp
          | @slice _ _ o' _ _ cap' y hy ho hcc hk hN =>
            subst hnil
            have := run_room (P := P) (w := w) (ty := ty) hu hi hz hzs (a := ⟨y.c, o', none⟩) (len := len) (cap := cap') (news := []) hA (by omega) (w' := w) (by rfl)
            simpa using this
        · rename_i hm
          cases hf : H.f b with
          | map es => simp [hf] at h
          | dead => simp [hf] at h
          | loop L => simp [hf] at h
          | cells ro zz cs =>
            cases ro with
            | true => simp [hf] at h
            | false =>
              simp only [hf] at h
              split at h
              · rename_i hzz
                subst hzz
                cases hsr with
                | plain _ hp => simp [plain, flat, flat0] at hp
                | @slice _ _ o' _ _ cap' y hy ho hcc hk hN =>
                  have hbk := hs.blk b y hy
                  rw [hf] at hbk
                  have hysz : y.sz = i.size := hbk.1
                  rw [hysz] at hN
                  have hfit : o' + (len + m) * i.size ≤ o' + (len + m) * i.size := Nat.le_refl _
                  have mulle : ∀ {a b : Nat}, a ≤ b → a * i.size ≤ b * i.size := fun h => Nat.mul_le_mul_right _ h
                  have mulen : (len + m) * i.size = len * i.size + m * i.size := Nat.add_mul _ _ _
                  split at h
                  · rename_i hcap
                    have hoo := ho (by omega)
                    subst hoo
                    split at h
                    · rename_i hle
                      simp only [Option.some.injEq, Prod.mk.injEq] at h
                      obtain ⟨rfl, rfl⟩ := h
                      have hst := cells_run (P := P) hbk (k := o + y.s + len * i.size) (l' := news') (by rw [n4]; have := mulle (show len + m ≤ cap' by omega); omega) n3
                      have hrun := run_room (P := P) (w := w) (ty := ty) hu hi hz hzs (a := ⟨y.c, o + y.s, none⟩) (len := len) (cap := cap') hA (by omega) (by rw [add_at]; exact hst)
                      obtain ⟨k1, k2, k3, k4, k5⟩ := setCells_keep news' y.c (o + y.s + len * i.size) w
                      have hbw := brel_write news news' cs (o + len * i.size) w hbk (by rw [hnl]; omega) n1 n2
                      rw [show o + len * i.size + y.s = o + y.s + len * i.size by omega] at hbw
                      have kk := Sim.write hs hy (by rw [hf]; rfl) (by rw [hf]; rfl) rfl k4 k5 hbw k1 k2 k3
                      exact ⟨_, r, _, hrun, .slice hy (fun _ => rfl) hcc hcap (by rw [hysz]; exact hN), kk.1, kk.2⟩
                    · cases h
                  · rename_i hcap
                    split at h
                    · rename_i hle
                      obtain ⟨hle, hroom⟩ := hle
                      simp only [Option.some.injEq, Prod.mk.injEq] at h
                      obtain ⟨rfl, rfl⟩ := h
                      have hos : srcCells P H tS i.size (.slice (some ⟨b, o, none⟩) len cap) = some (len, (cs.drop o).take (len * i.size)) := by
                        simp only [srcCells, hf]
                        by_cases h0 : len = 0
                        · subst h0; simp
                        · rw [if_neg h0, if_pos hle]
                      have hsl : VRel r (.slice (some ⟨b, o, none⟩) len cap) (.slice (some ⟨y.c, o', none⟩) len cap') := .slice hy ho hcc hk (by rw [hysz]; exact hN)
                      obtain ⟨_, olds', m1, m2, m3, m4, m5⟩ := src_sound hs hsl hos
                      have hol : ((cs.drop o).take (len * i.size)).length = len * i.size := by rw [m1.1, m4]
                      have hone : ∀ v ∈ (cs.drop o).take (len * i.size) ++ news, v.oneCell' = true := fun v hv => (List.mem_append.1 hv).elim (m2 v) (n2 v)
                      by_cases hroomc : len + m ≤ cap'
                      · have hst := cells_run (P := P) hbk (k := o' + len * i.size) (l' := news') (by rw [n4]; have := mulle hroomc; omega) n3
                        have hrun := run_room (P := P) (w := w) (ty := ty) hu hi hz hzs (a := ⟨y.c, o', none⟩) (len := len) (cap := cap') hA hroomc (by rw [add_at]; exact hst)
                        obtain ⟨k1, k2, k3, k4, k5⟩ := setCells_keep news' y.c (o' + len * i.size) w
                        have hN2 : o' + (len + m) * i.size ≤ y.N := by have := mulle hroomc; omega
                        have hbr : BRel (upd r H.n (some ⟨y.c, o', i.size, y.N⟩)) (.cells false i.size ((cs.drop o).take (len * i.size) ++ news)) ⟨y.c, o', i.size, y.N⟩ (w.setCells y.c (o' + len * i.size) news') := by
                          have hz := hs.fresh
                          obtain ⟨g0, cs', el, fr, g1, g2, g3, g4, g5, g6⟩ := hbk
                          obtain ⟨cs2, q1, q2⟩ := setCells_row news' y.c (o' + len * i.size) w cs' el fr g1 (by rw [n4, g2]; omega)
                          refine ⟨rfl, cs2, el, fr, q1, ?_, by simp only [List.length_append, hol, hnl]; omega, ?_, g5, hone⟩
                          · have := congrArg List.length q2
                            simp at this
                            have hn : news'.length = m * i.size := n4
                            show cs2.size = y.N
                            omega
                          · have hcells : (cs2.toList.drop o').take ((cs.drop o).take (len * i.size) ++ news).length = olds' ++ news' := by
                              have hlen0 := m5 w rfl
                              have holds : olds' = (cs'.toList.drop o').take (len * i.size) := by
                                by_cases h0 : len = 0
                                · subst h0; simp at m4; subst m4; simp
                                · have hoo := ho (by omega)
                                  have e1 := firstCells_det (P := P) (w := w) (c := y.c) (o := o') (n := len) (cap := cap') (sz := i.size) (cs := cs') (el := el) (fr := fr) g1 (by rw [g2]; have := mulle (show len ≤ cap' by omega); omega)
                                  rw [e1] at hlen0
                                  have := (Result.ok.inj hlen0).1
                                  simpa using (congrArg Array.toList this).symm
                              rw [q2, holds]
                              simp only [List.length_append, hol, hnl]
                              have hcs : cs'.toList.length = y.N := by simpa using g2
                              grind
                            rw [hcells]
                            exact (m1.append n1).mono (le_upd hs.fresh)
                        have kk := Sim.rebase hs (x := ⟨y.c, o', i.size, y.N⟩) hy (by rw [hf]; rfl) (by rw [hf]; rfl) rfl k4 k5 hbr k1 k2 k3
                        exact ⟨_, _, _, hrun, .slice (x := ⟨y.c, o', i.size, y.N⟩) (b := H.n) (o := 0) (upd_same _ _ _) (fun _ => by simp) hroomc (Nat.le_refl _) hN, kk.1, kk.2⟩
                      · obtain ⟨cs', n, k1, k2, k3, k4, k5⟩ := run_grow (P := P) (w := w) (ty := ty) hu hi hz hzs (s := .slice (some ⟨y.c, o', none⟩) len cap') rfl hA m5 (by omega) hroom
                        have kw := Sim.write hs (blk := .dead) hy (by rw [hf]; rfl) (by rw [hf]; rfl) rfl rfl (fun _ _ => rfl) trivial rfl rfl rfl
                        have kk := Sim.row (H := H.put b .dead) (sz := i.size) (cs := (cs.drop o).take (len * i.size) ++ news) (cs' := cs') (el := e) (fr := (0, 0)) (w0 := w.drew.alloc (.cells cs' e)) kw.1
                          (by rw [(m1.append n1).1]; exact k3) (by rw [(m1.append n1).1, ← k2]; exact (m1.append n1).mono (le_upd hs.fresh)) (by intro i _ h; simp at h) hone rfl rfl rfl rfl
                        refine ⟨_, _, _, k5, .slice (b := H.n) (o := 0) (upd_same _ _ _) (fun _ => rfl) k1 (Nat.le_refl _) ?_, kk.1, Step.trans hs kw.2 kk.2⟩
                        simp only [k4, List.length_append, m4, n4, hzs, Nat.zero_add]
                        rw [← Nat.add_mul, ← Nat.add_mul]
                        exact Nat.mul_le_mul_right _ (by omega)
                    · cases h
              · cases h
      · cases h
  · cases h

end Am
end Go.Proofs.YtbpabpnpoidpcaaGreatDoor
