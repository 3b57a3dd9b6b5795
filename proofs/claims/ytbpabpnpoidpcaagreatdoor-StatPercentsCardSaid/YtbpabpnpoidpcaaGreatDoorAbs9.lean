/- The abstract machine's copy, min and max, stores into and deletions from maps. No conditions. -/
import Derived.Test.YtbpabpnpoidpcaaGreatDoorAbs8
set_option linter.unusedVariables false
set_option linter.unusedSimpArgs false
namespace Go.Proofs.YtbpabpnpoidpcaaGreatDoor
namespace Am
open Go Go.RowKit

/-! ### copy -/
theorem src_take {P : Program} {r : Mp} {H : Hp} {w : World} (hs : Sim r H w) {tX : TypeId} {sz n k : Nat} {x x' : Value} {news : List Value} (hx : VRel r x x') (h : srcCells P H tX sz x = some (n, news)) (hk : k ≤ n) :
    ∃ news', LRel r (news.take (k * sz)) news' ∧ (∀ v ∈ news.take (k * sz), v.oneCell' = true) ∧ (∀ v ∈ news', v.oneCell' = true) ∧ news'.length = k * sz ∧ (Builtin.firstCells sz k x').run P w = .ok news'.toArray w := by
  obtain ⟨_, m', m1, m2, m3, m4, m5⟩ := src_sound hs hx h
  have hm5 := m5 w rfl
  have hkn : k * sz ≤ n * sz := Nat.mul_le_mul_right _ hk
  refine ⟨m'.take (k * sz), m1.take _, fun v hv => m2 v (List.mem_of_mem_take hv), fun v hv => m3 v (List.mem_of_mem_take hv), by simp; omega, ?_⟩
  cases x' with
  | slice a l c =>
    cases a with
    | none =>
      have e : (Builtin.firstCells sz n (.slice none l c)).run P w = .ok #[] w := by simp [Builtin.firstCells]
      rw [e] at hm5
      have : m' = [] := by simpa using ((Result.ok.inj hm5).1).symm
      subst this
      simp [Builtin.firstCells]
    | some ad =>
      by_cases hk0 : k * sz = 0
      · have : (loadCells ad 0).run P w = .ok #[] w := by simpa using run_loadCells_list (P := P) w ad [] (by simp)
        simp [Builtin.firstCells, hk0, this]
      · -- the cells are there: the whole load went through
        have hall : (loadCells ad (n * sz)).run P w = .ok m'.toArray w := by simpa [Builtin.firstCells] using hm5
        have hcell : ∀ j u, m'[j]? = some u → w.cell? (ad.add j) = some u := by
          cases x with
          | slice xa xl xc =>
            cases xa with
            | none => cases hx
            | some xd =>
              obtain ⟨b, o, sp⟩ := xd
              cases sp with
              | some q => simp [srcCells] at h
              | none =>
                simp only [srcCells] at h
                split at h
                · rename_i h0
                  simp only [Option.some.injEq, Prod.mk.injEq] at h
                  obtain ⟨rfl, _⟩ := h
                  omega
                · rename_i h0
                  cases hf : H.f b with
                  | map es => simp [hf] at h
                  | dead => simp [hf] at h
                  | loop L => simp [hf] at h
                  | cells ro z cs =>
                    simp only [hf] at h
                    split at h
                    · rename_i hle
                      simp only [Option.some.injEq, Prod.mk.injEq] at h
                      obtain ⟨rfl, rfl⟩ := h
                      cases hx with
                      | plain _ hp => simp [plain, flat, flat0] at hp
                      | @slice _ _ o' _ _ cap' y hy ho hcc hkk hN =>
                        have hoo := ho (by omega)
                        subst hoo
                        have hbk := hs.blk b y hy
                        rw [hf] at hbk
                        obtain ⟨_, cs', el, fr, g1, g2, g3, g4, g5, g6⟩ := hbk
                        have e := firstCells_det (P := P) (w := w) (c := y.c) (o := o + y.s) (n := l) (cap := c) (sz := sz) (cs := cs') (el := el) (fr := fr) g1 (by omega)
                        rw [e] at hm5
                        have hm := (Result.ok.inj hm5).1
                        have hm : m' = (cs'.toList.drop (o + y.s)).take (l * sz) := by simpa using (congrArg Array.toList hm).symm
                        intro j u hu
                        rw [hm, List.getElem?_take] at hu
                        split at hu
                        · rw [List.getElem?_drop] at hu
                          rw [add_at]
                          simp only [World.cell?, g1]
                          simpa using hu
                        · cases hu
                    · cases h
          | tuple vs => simp [srcCells] at h
          | _ => first | (simp [srcCells] at h; done) | (cases hx; done)
        have := run_loadCells_list (P := P) w ad (m'.take (k * sz)) (fun j u hu => by
          rw [List.getElem?_take] at hu
          split at hu
          · exact hcell j u hu
          · cases hu)
        rw [show (m'.take (k * sz)).length = k * sz by simp; omega] at this
        simpa [Builtin.firstCells] using this
  | string s =>
    have e : (Builtin.firstCells sz n (.string s)).run P w = .ok ((s.extract 0 n).data.map fun b => Value.int .u8 b.toNat) w := by simp [Builtin.firstCells]
    rw [e] at hm5
    have hm := (Result.ok.inj hm5).1
    have hsz1 : sz = 1 := by
      cases x <;> first
        | (simp [srcCells] at h; done)
        | (cases hx; done)
        | skip
      case string t =>
        simp only [srcCells] at h
        split at h
        · rename_i hc; simp only [Bool.and_eq_true, beq_iff_eq] at hc; exact hc.2
        · cases h
    subst hsz1
    have e2 : (Builtin.firstCells 1 k (.string s)).run P w = .ok ((s.extract 0 k).data.map fun b => Value.int .u8 b.toNat) w := by simp [Builtin.firstCells]
    rw [e2]
    congr 1
    apply Array.ext'
    have hm : m' = ((s.extract 0 n).data.map fun b => Value.int .u8 (b.toNat : Int)).toList := by simpa using (congrArg Array.toList hm).symm
    simp only [hm, Nat.mul_one]
    have hd : ∀ q, (s.extract 0 q).data.toList = s.data.toList.take q := by
      intro q
      simp [ByteArray.extract, ByteArray.copySlice, List.extract_eq_take_drop]
    simp only [Array.toList_map, hd, ← List.map_take, List.take_take]
    rw [Nat.min_eq_left hk]
  | _ => simp [Builtin.firstCells] at hm5

def acopy (P : Program) (H : Hp) (tD tS : TypeId) (d s : Value) : Option (Value × Hp) :=
  match slSz P tD with
  | some sz => match srcCells P H tS sz s, d with
    | some (m, news), .slice a dl _ => if min m dl = 0 then some (.int .i64 0, H) else
        match a with
        | some ⟨b, o, none⟩ => match H.f b with
          | .cells false z cs => if o + min m dl * sz ≤ cs.length then some (.int .i64 (min m dl : Nat), H.put b (.cells false z (writeL cs o (news.take (min m dl * sz))))) else none
          | _ => none
        | _ => none
    | _, _ => none
  | none => none

theorem slSz_spec {P : Program} {T : TypeId} {sz : Nat} (h : slSz P T = some sz) : ∃ e i, P.underlying T = some (.slice e) ∧ P.info? e = some i ∧ i.size = sz := by
  unfold slSz at h
  split at h
  · rename_i e hu
    cases hi : P.info? e with
    | none => simp [hi] at h
    | some i => exact ⟨e, i, hu, hi, by simpa [hi] using h⟩
  · cases h

theorem acopy_sound {P : Program} {r : Mp} {H H' : Hp} {w : World} (hs : Sim r H w) {tD tS ty : TypeId} {d d' s s' v : Value} (hd : VRel r d d') (hsr : VRel r s s') (h : acopy P H tD tS d s = some (v, H')) :
    ∃ w', (Builtin.copy_ #[tD, tS] ty #[d', s']).run P w = .ok v w' ∧ plain v = true ∧ Sim r H' w' ∧ Step r H w r H' w' := by
  unfold acopy at h
  split at h
  · rename_i sz hsl
    obtain ⟨e, i, hu, hi, rfl⟩ := slSz_spec hsl
    split at h
    · rename_i m news a dl dc hsrc
      obtain ⟨hl, _⟩ := src_sound hs hsr hsrc
      have hl' := hl w
      have hdf : ∃ a' dc', d' = .slice a' dl dc' := by cases hd <;> exact ⟨_, _, rfl⟩
      obtain ⟨a', dc', rfl⟩ := hdf
      obtain ⟨news', n1, n2, n3, n4, n5⟩ := src_take (k := min m dl) hs hsr hsrc (by omega)
      have hmin : Nat.min m dl = min m dl := rfl
      split at h
      · rename_i h0
        simp only [Option.some.injEq, Prod.mk.injEq] at h
        obtain ⟨rfl, rfl⟩ := h
        refine ⟨w, ?_, rfl, hs, Step.refl _ _ _⟩
        rw [h0] at n4 n5
        have : news' = [] := List.eq_nil_of_length_eq_zero (by simpa using n4)
        subst this
        cases a' <;> simp [Builtin.copy_, run_underlying hu, hl', sizeOf, typeInfo, hi, hmin, h0, n5, goInt, storeCells]
      · rename_i h0
        split at h
        · rename_i b o
          split at h
          · rename_i z cs hf
            split at h
            · rename_i hle
              simp only [Option.some.injEq, Prod.mk.injEq] at h
              obtain ⟨rfl, rfl⟩ := h
              cases hd with
              | plain _ hp => simp [plain, flat, flat0] at hp
              | @slice _ _ o' _ _ cap' y hy ho hcc hkk hN =>
                have hoo := ho (by omega)
                subst hoo
                have hbk := hs.blk b y hy
                rw [hf] at hbk
                have hNN : y.s + cs.length ≤ y.N := by obtain ⟨_, cs', el, fr, _, _, h3, _⟩ := hbk; exact h3
                have hst := cells_run (P := P) hbk (k := o + y.s) (l' := news') (by rw [n4]; omega) n3
                obtain ⟨k1, k2, k3, k4, k5⟩ := setCells_keep news' y.c (o + y.s) w
                have hnl : (news.take (min m dl * i.size)).length = min m dl * i.size := by rw [n1.1, n4]
                have kk := Sim.write hs hy (by rw [hf]; rfl) (by rw [hf]; rfl) rfl k4 k5 (brel_write _ news' cs o w hbk (by rw [hnl]; exact hle) n1 n2) k1 k2 k3
                refine ⟨_, ?_, rfl, kk.1, kk.2⟩
                simp [Builtin.copy_, run_underlying hu, hl', sizeOf, typeInfo, hi, hmin, n5, goInt, hst]
            · cases h
          · cases h
        · cases h
    · cases h
  · cases h

/-! ### min, max -/
theorem aminmax_sound {P : Program} {r : Mp} {w : World} {mx : Bool} {ts : Array TypeId} {ty : TypeId} {l l' : List Value} (hl : LRel r l l') {v : Value} (h : aminmax mx l = some v) :
    ((if mx then Builtin.max_ ts ty l'.toArray else Builtin.min_ ts ty l'.toArray)).run P w = .ok v w ∧ plain v = true := by
  unfold aminmax at h
  split at h
  · rename_i k x k' y
    cases h
    obtain ⟨x', l1, rfl, e1, hl⟩ := hl.uncons
    obtain ⟨y', l2, rfl, e2, hl⟩ := hl.uncons
    have : l2 = [] := List.eq_nil_of_length_eq_zero (by simpa using hl.1.symm)
    subst this
    cases e1; cases e2
    cases mx <;> exact ⟨by simp [Builtin.max_, Builtin.min_, Builtin.max2, Builtin.min2, List.foldlM], rfl⟩
  · rename_i k x k' y k'' z
    cases h
    obtain ⟨x', l1, rfl, e1, hl⟩ := hl.uncons
    obtain ⟨y', l2, rfl, e2, hl⟩ := hl.uncons
    obtain ⟨z', l3, rfl, e3, hl⟩ := hl.uncons
    have : l3 = [] := List.eq_nil_of_length_eq_zero (by simpa using hl.1.symm)
    subst this
    cases e1; cases e2; cases e3
    cases mx <;> exact ⟨by simp [Builtin.max_, Builtin.min_, Builtin.max2, Builtin.min2, List.foldlM], rfl⟩
  · cases h

/-! ### Maps: storing, deleting -/
def amapUpdate (P : Program) (H : Hp) (T : TypeId) (m k v : Value) : Option Hp :=
  match mapTy P T with
  | some (kt, _) => if keyOk P kt k then
      match m with
      | .map (some b) => match H.f b with
        | .map es => match afind k es 0 with
          | some (some (i, _)) => some (H.put b (.map (es.set i (k, v))))
          | some none => some (H.put b (.map (es ++ [(k, v)])))
          | none => none
        | _ => none
      | _ => none
    else none
  | none => none

theorem sameBits_key {P : Program} {kt : TypeId} {k : Value} (h : keyOk P kt k = true) : Instr.sameBits 10000 k k = true := by
  unfold keyOk at h
  split at h
  · simp [Instr.sameBits]
  · simp [Instr.sameBits, beq_toListBytes]
  · cases h

theorem amapUpdate_sound {P : Program} {r : Mp} {H H' : Hp} {w : World} (hs : Sim r H w) {T : TypeId} {m m' k k' v v' : Value} (hm : VRel r m m') (hk : VRel r k k') (hv : VRel r v v') (h : amapUpdate P H T m k v = some H') :
    ∃ w', (Instr.mapUpdate T m' k' v').run P w = .ok () w' ∧ Sim r H' w' ∧ Step r H w r H' w' := by
  unfold amapUpdate at h
  split at h
  · rename_i kt et ht
    have hu := mapTy_spec ht
    split at h
    · rename_i hko
      obtain ⟨rfl, hkp⟩ := key_plain hko hk
      split at h
      · rename_i b
        cases hf : H.f b with
        | cells => simp [hf] at h
        | dead => simp [hf] at h
        | loop L => simp [hf] at h
        | map es =>
          simp only [hf] at h
          cases hm with
          | plain _ hp => simp [plain, flat, flat0] at hp
          | @map _ y hy =>
            have hb := hs.blk b y hy
            rw [hf] at hb
            obtain ⟨es', clock, h1, h2, h3⟩ := hb
            have hg : (getObj y.c).run P w = .ok (.map es' clock) w := by simp [getObj, Sem.run, h1]
            have hset : ∀ o, (setObj y.c o).run P w = .ok () { w with heap := w.heap.setIfInBounds y.c o } := by intro o; simp [setObj, Sem.run, h1]
            have hlt : y.c < w.heap.size := (Array.getElem?_eq_some_iff.1 h1).1
            have fin : ∀ (blk : List (Value × Value)) (o : Obj), BRel r (.map blk) y { w with heap := w.heap.setIfInBounds y.c o } →
                Sim r (H.put b (.map blk)) { w with heap := w.heap.setIfInBounds y.c o } ∧ Step r H w r (H.put b (.map blk)) { w with heap := w.heap.setIfInBounds y.c o } := fun blk o hbr =>
              Sim.write hs hy (by rw [hf]; rfl) (by rw [hf]; rfl) rfl (by simp) (fun c hc => by
                show (w.heap.setIfInBounds y.c o)[c]? = _
                rw [Array.getElem?_setIfInBounds_ne (Ne.symm hc)]) hbr rfl rfl rfl
            cases hq : afind k' es 0 with
            | none => simp [hq] at h
            | some q =>
              obtain ⟨q', g1, g2⟩ := findKey_run (P := P) hko (r := r) (es' := es'.toList) ⟨h2, h3⟩ hq w
              rcases g2 with ⟨rfl, rfl⟩ | ⟨j, u, u', rfl, rfl, hr, hj, hkey⟩
              · simp only [hq, Option.some.injEq] at h
                subst h
                refine ⟨{ w with heap := w.heap.setIfInBounds y.c (.map (es'.push { key := k', val := v', born := clock }) (clock + 1)) }, ?_, fin _ _ ⟨es'.push { key := k', val := v', born := clock }, clock + 1, by simp [hlt], by simp at h2; simp [h2], ?_⟩⟩
                · simp [Instr.mapUpdate, run_underlying hu, hg, checkKey_ok hko, g1, hset]
                · intro i a c
                  simp only [Array.toList_push]
                  by_cases hi : i < es.length
                  · have hi' : i < es'.toList.length := h2 ▸ hi
                    rw [List.getElem_append_left hi, List.getElem_append_left hi']
                    exact h3 i hi hi'
                  · have he : i = es.length := by simp at a; omega
                    subst he
                    rw [List.getElem_append_right (by omega), List.getElem_append_right (by omega)]
                    simp only [h2, Nat.sub_self, List.getElem_cons_zero]
                    exact ⟨trivial, hkp, hv⟩
              · simp only [hq, Option.some.injEq] at h
                subst h
                have hj' : j < es'.size := by simpa using hj
                have hje : es'[j]? = some (es'[j]'hj') := by simp [hj']
                have hkey' : (es'[j]'hj').key = k' := by simpa using hkey
                refine ⟨{ w with heap := w.heap.setIfInBounds y.c (.map (es'.modify j fun e => { e with key := k', val := v' }) clock) }, ?_, fin _ _ ⟨es'.modify j fun e => { e with key := k', val := v' }, clock, by simp [hlt], by simp at h2; simp [h2], ?_⟩⟩
                · simp [Instr.mapUpdate, run_underlying hu, hg, checkKey_ok hko, g1, hje, hkey', Instr.keyThatStays, sameBits_key hko, hset]
                · intro i a c
                  have hi : i < es.length := by simpa using a
                  have hi' : i < es'.toList.length := h2 ▸ hi
                  have hjl : j < es.length := by rw [h2]; exact hj
                  simp only [List.getElem_set, Array.getElem_toList, Array.getElem_modify]
                  split
                  · exact ⟨rfl, hkp, hv⟩
                  · simpa using h3 i hi hi'
      · cases h
    · cases h
  · cases h

def adelete (P : Program) (H : Hp) (T : TypeId) (m k : Value) : Option Hp :=
  match mapTy P T with
  | some (kt, _) => if keyOk P kt k then
      match m with
      | .map (some b) => match H.f b with
        | .map es => match afind k es 0 with
          | some (some (i, _)) => some (H.put b (.map (es.eraseIdx i)))
          | some none => some (H.put b (.map es))
          | none => none
        | _ => none
      | _ => none
    else none
  | none => none

theorem adelete_sound {P : Program} {r : Mp} {H H' : Hp} {w : World} (hs : Sim r H w) {T tK ty : TypeId} {m m' k k' : Value} (hm : VRel r m m') (hk : VRel r k k') (h : adelete P H T m k = some H') :
    ∃ w', (Builtin.delete_ #[T, tK] ty #[m', k']).run P w = .ok (.tuple #[]) w' ∧ Sim r H' w' ∧ Step r H w r H' w' := by
  unfold adelete at h
  split at h
  · rename_i kt et ht
    have hu := mapTy_spec ht
    split at h
    · rename_i hko
      obtain ⟨rfl, hkp⟩ := key_plain hko hk
      split at h
      · rename_i b
        cases hf : H.f b with
        | cells => simp [hf] at h
        | dead => simp [hf] at h
        | loop L => simp [hf] at h
        | map es =>
          simp only [hf] at h
          cases hm with
          | plain _ hp => simp [plain, flat, flat0] at hp
          | @map _ y hy =>
            have hb := hs.blk b y hy
            rw [hf] at hb
            obtain ⟨es', clock, h1, h2, h3⟩ := hb
            have hg : (getObj y.c).run P w = .ok (.map es' clock) w := by simp [getObj, Sem.run, h1]
            have hset : ∀ o, (setObj y.c o).run P w = .ok () { w with heap := w.heap.setIfInBounds y.c o } := by intro o; simp [setObj, Sem.run, h1]
            have hlt : y.c < w.heap.size := (Array.getElem?_eq_some_iff.1 h1).1
            have fin : ∀ (blk : List (Value × Value)) (o : Obj), BRel r (.map blk) y { w with heap := w.heap.setIfInBounds y.c o } →
                Sim r (H.put b (.map blk)) { w with heap := w.heap.setIfInBounds y.c o } ∧ Step r H w r (H.put b (.map blk)) { w with heap := w.heap.setIfInBounds y.c o } := fun blk o hbr =>
              Sim.write hs hy (by rw [hf]; rfl) (by rw [hf]; rfl) rfl (by simp) (fun c hc => by
                show (w.heap.setIfInBounds y.c o)[c]? = _
                rw [Array.getElem?_setIfInBounds_ne (Ne.symm hc)]) hbr rfl rfl rfl
            cases hq : afind k' es 0 with
            | none => simp [hq] at h
            | some q =>
              obtain ⟨q', g1, g2⟩ := findKey_run (P := P) hko (r := r) (es' := es'.toList) ⟨h2, h3⟩ hq w
              rcases g2 with ⟨rfl, rfl⟩ | ⟨j, u, u', rfl, rfl, hr, hj, hkey⟩
              · simp only [hq, Option.some.injEq] at h
                subst h
                refine ⟨{ w with heap := w.heap.setIfInBounds y.c (.map es' clock) }, ?_, fin _ _ ⟨es', clock, by simp [hlt], h2, h3⟩⟩
                simp [Builtin.delete_, run_underlying hu, hg, checkKey_ok hko, g1, hset]
              · simp only [hq, Option.some.injEq] at h
                subst h
                have hj' : j < es'.size := by simpa using hj
                refine ⟨{ w with heap := w.heap.setIfInBounds y.c (.map (es'.eraseIdxIfInBounds j) clock) }, ?_, fin _ _ ⟨es'.eraseIdxIfInBounds j, clock, by simp [hlt], ?_, ?_⟩⟩
                · simp [Builtin.delete_, run_underlying hu, hg, checkKey_ok hko, g1, hset]
                · simp only [Array.eraseIdxIfInBounds, hj', dif_pos, Array.toList_eraseIdx, List.length_eraseIdx, h2]
                · intro i a c
                  have e : (es'.eraseIdxIfInBounds j).toList = es'.toList.eraseIdx j := by simp [Array.eraseIdxIfInBounds, hj']
                  simp only [e, List.getElem_eraseIdx]
                  split
                  · exact h3 _ _ _
                  · exact h3 _ _ _
      · cases h
    · cases h
  · cases h

end Am
end Go.Proofs.YtbpabpnpoidpcaaGreatDoor
