/- The abstract machine's operations that make or write memory. No conditions. -/
import Derived.Test.YtbpabpnpoidpcaaGreatDoorAbs5
set_option linter.unusedVariables false
set_option linter.unusedSimpArgs false
namespace Go.Proofs.YtbpabpnpoidpcaaGreatDoor
namespace Am
open Go

theorem Sim.fresh {r : Mp} {H : Hp} {w : World} (hs : Sim r H w) : r H.n = none := by
  cases h : r H.n with
  | none => rfl
  | some x => have := hs.lt _ _ h; omega

theorem le_upd {r : Mp} {n : Nat} {x : Tgt} (h : r n = none) : Mp.le r (upd r n (some x)) := by
  intro b y hb
  by_cases e : b = n
  · subst e; rw [h] at hb; cases hb
  · rw [upd_ne _ _ e]; exact hb

/-- A new block. -/
theorem Sim.alloc {r : Mp} {H : Hp} {w w' : World} (hs : Sim r H w) {b : Blk} {x : Tgt} (hx : x.c = w.heap.size) (hsz : w'.heap.size = w.heap.size + 1) (hold : ∀ c, c < w.heap.size → w'.heap[c]? = w.heap[c]?)
    (hb : BRel (upd r H.n (some x)) b x w') (h1 : w'.os = w.os) (h2 : w'.tape = w.tape) (h3 : w'.output = w.output) :
    Sim (upd r H.n (some x)) (H.alloc b) w' ∧ Step r H w (upd r H.n (some x)) (H.alloc b) w' := by
  have hle := le_upd (x := x) hs.fresh
  constructor
  · refine ⟨fun c y hc => ?_, fun c y hc => ?_, fun c y hc => ?_, fun c c' y y' hc hc' he hl hl' => ?_⟩
    · by_cases e : c = H.n
      · subst e; simp [Hp.alloc]
      · rw [upd_ne _ _ e] at hc; have := hs.lt _ _ hc; simp [Hp.alloc]; omega
    · by_cases e : c = H.n
      · subst e; simp at hc; subst hc; omega
      · rw [upd_ne _ _ e] at hc; have := hs.ltw _ _ hc; omega
    · by_cases e : c = H.n
      · subst e; simp at hc; subst hc; simpa [Hp.alloc] using hb
      · rw [upd_ne _ _ e] at hc
        simp only [Hp.alloc]
        rw [upd_ne _ _ e]
        exact ((hs.blk _ _ hc).mono hle).same (hold _ (hs.ltw _ _ hc))
    · by_cases e : c = H.n
      · by_cases e' : c' = H.n
        · rw [e, e']
        · subst e; simp at hc; subst hc; rw [upd_ne _ _ e'] at hc'; have := hs.ltw _ _ hc'; omega
      · by_cases e' : c' = H.n
        · subst e'; simp at hc'; subst hc'; rw [upd_ne _ _ e] at hc; have := hs.ltw _ _ hc; omega
        · rw [upd_ne _ _ e] at hc; rw [upd_ne _ _ e'] at hc'
          simp only [Hp.alloc] at hl hl'
          rw [upd_ne _ _ e] at hl; rw [upd_ne _ _ e'] at hl'
          exact hs.inj _ _ _ _ hc hc' he hl hl'
  · refine ⟨hle, by simp [Hp.alloc], fun c hc hr => ?_, fun c hc hr => ?_, fun c y hr hc => ?_, h1, h2, h3, by omega, fun c hc _ => hold c hc⟩
    · have e : c ≠ H.n := by omega
      exact ⟨by rw [upd_ne _ _ e]; exact hr, by simp only [Hp.alloc]; rw [upd_ne _ _ e]⟩
    · have e : c ≠ H.n := by omega
      simp only [Hp.alloc]; rw [upd_ne _ _ e]
    · by_cases e : c = H.n
      · subst e; simp at hc; subst hc; exact .inl (by omega)
      · rw [upd_ne _ _ e, hr] at hc; cases hc

/-- A block is written. -/
theorem Sim.write {r : Mp} {H : Hp} {w w' : World} (hs : Sim r H w) {b : Nat} {x : Tgt} {blk : Blk} (hx : r b = some x) (hlive : (H.f b).live = true) (hro : (H.f b).ro = false) (hro' : blk.ro = false) (hsz : w'.heap.size = w.heap.size)
    (hold : ∀ c, c ≠ x.c → w'.heap[c]? = w.heap[c]?) (hb : BRel r blk x w') (h1 : w'.os = w.os) (h2 : w'.tape = w.tape) (h3 : w'.output = w.output) :
    Sim r (H.put b blk) w' ∧ Step r H w r (H.put b blk) w' := by
  constructor
  · refine ⟨fun c y hc => hs.lt _ _ hc, fun c y hc => by rw [hsz]; exact hs.ltw _ _ hc, fun c y hc => ?_, fun c c' y y' hc hc' he hl hl' => ?_⟩
    · by_cases e : c = b
      · subst e
        rw [hx] at hc
        cases hc
        simpa [Hp.put] using hb
      · simp only [Hp.put]
        rw [upd_ne _ _ e]
        by_cases e2 : y.c = x.c
        · cases hd : H.f c with
          | dead => trivial
          | cells ro sz cs => exact (e (hs.inj c b y x hc hx e2 (by rw [hd]; rfl) hlive)).elim
          | map es => exact (e (hs.inj c b y x hc hx e2 (by rw [hd]; rfl) hlive)).elim
          | loop L => exact (e (hs.inj c b y x hc hx e2 (by rw [hd]; rfl) hlive)).elim
        · exact (hs.blk _ _ hc).same (hold _ e2)
    · have live : ∀ z, ((H.put b blk).f z).live = true → (H.f z).live = true := by
        intro z hz
        by_cases e : z = b
        · subst e; exact hlive
        · simpa [Hp.put, upd_ne _ _ e] using hz
      exact hs.inj _ _ _ _ hc hc' he (live _ hl) (live _ hl')
  · refine ⟨Mp.le.refl r, Nat.le_refl _, fun c hc hr => ?_, fun c hc hr => ?_, fun c y hr hc => by rw [hr] at hc; exact absurd hc (by simp), h1, h2, h3, by omega, fun c hc hw => ?_⟩
    · have e : c ≠ b := by rintro rfl; rw [hx] at hr; exact absurd hr (by simp)
      exact ⟨hr, by simp only [Hp.put]; rw [upd_ne _ _ e]⟩
    · have e : c ≠ b := by rintro rfl; rw [hro] at hr; exact absurd hr (by simp)
      simp only [Hp.put]; rw [upd_ne _ _ e]
    · exact hold c (fun e => hw ⟨b, x, hx, e.symm, hro⟩)

/-! ### Cells written one by one -/
def writeL : List Value → Nat → List Value → List Value
  | cs, _, [] => cs
  | cs, o, v :: l => writeL (cs.set o v) (o + 1) l
@[simp] theorem writeL_length : ∀ (cs : List Value) (o : Nat) (l : List Value), (writeL cs o l).length = cs.length
  | _, _, [] => rfl
  | cs, o, v :: l => by rw [writeL, writeL_length]; simp

theorem brel_set {r : Mp} {ro : Bool} {sz : Nat} {cs : List Value} {x : Tgt} {w : World} (h : BRel r (.cells ro sz cs) x w) {o : Nat} (ho : o < cs.length) {v v' : Value} (hv : VRel r v v') (h1v : v.oneCell' = true) :
    BRel r (.cells ro sz (cs.set o v)) x (w.setCell ⟨x.c, o + x.s, none⟩ v') := by
  obtain ⟨h0, cs', el, fr, h1, h2, h3, h4, h5⟩ := h
  refine ⟨h0, cs'.setIfInBounds (o + x.s) v', el, fr, ?_, by simp [h2], by simpa using h3, ?_, h5.1, fun u hu => (List.mem_or_eq_of_mem_set hu).elim (h5.2 u) (fun e => e ▸ h1v)⟩
  · rw [setCell_eq_setRow w x.c _ cs' el fr v' h1, setRow_heap w x.c cs' _ el fr h1]
  · have e : ((cs'.setIfInBounds (o + x.s) v').toList.drop x.s).take (cs.set o v).length = ((cs'.toList.drop x.s).take cs.length).set o v' := by
      apply List.ext_getElem?
      intro i
      simp only [Array.toList_setIfInBounds, List.length_set, List.getElem?_take, List.getElem?_drop, List.getElem?_set]
      have hlen : ((cs'.toList.drop x.s).take cs.length).length = cs.length := h4.1.symm
      by_cases hi : i < cs.length
      · rw [if_pos hi]
        by_cases e : o = i
        · subst e
          rw [if_pos (by omega), if_pos (by simp; omega), if_pos rfl, if_pos (by omega)]
        · rw [if_neg (by omega), if_neg e, if_pos hi]
      · rw [if_neg hi]
        by_cases e : o = i
        · omega
        · rw [if_neg e, if_neg hi]
    rw [e]
    exact h4.set hv o

theorem setCells_keep : ∀ (vs : List Value) (b o : Nat) (w : World), (w.setCells b o vs).os = w.os ∧ (w.setCells b o vs).tape = w.tape ∧ (w.setCells b o vs).output = w.output ∧ (w.setCells b o vs).heap.size = w.heap.size ∧ ∀ c, c ≠ b → (w.setCells b o vs).heap[c]? = w.heap[c]?
  | [], _, _, _ => ⟨rfl, rfl, rfl, rfl, fun _ _ => rfl⟩
  | v :: vs, b, o, w => by
    obtain ⟨h1, h2, h3, h4, h5⟩ := setCells_keep vs b (o + 1) (w.setCell ⟨b, o, none⟩ v)
    refine ⟨h1, h2, h3, by rw [World.setCells, h4]; simp, fun c hc => ?_⟩
    rw [World.setCells, h5 c hc]
    exact heap_setCell_other w _ c v hc

theorem brel_write {r : Mp} {ro : Bool} {sz : Nat} {x : Tgt} : ∀ (l l' : List Value) (cs : List Value) (o : Nat) (w : World), BRel r (.cells ro sz cs) x w → o + l.length ≤ cs.length → LRel r l l' → (∀ v ∈ l, v.oneCell' = true) →
    BRel r (.cells ro sz (writeL cs o l)) x (w.setCells x.c (o + x.s) l')
  | [], l', cs, o, w, h, ho, hl, _ => by
    have : l' = [] := List.eq_nil_of_length_eq_zero hl.1.symm
    subst this
    exact h
  | v :: l, m, cs, o, w, h, ho, hl, hone => by
    obtain ⟨v', l', rfl, hv, hl'⟩ := hl.uncons
    simp only [List.length_cons] at ho
    have := brel_write l l' (cs.set o v) (o + 1) _ (brel_set h (o := o) (by omega) hv (hone v (by simp))) (by simp; omega) hl' (fun u hu => hone u (by simp [hu]))
    rw [show o + 1 + x.s = o + x.s + 1 by omega] at this
    simpa [writeL, World.setCells] using this

theorem cells_run {P : Program} {r : Mp} {sz : Nat} {cs : List Value} {x : Tgt} {w : World} (h : BRel r (.cells false sz cs) x w) {k : Nat} {l' : List Value} (hk : k + l'.length ≤ x.N) (h1 : ∀ v ∈ l', v.oneCell' = true) :
    (storeCells ⟨x.c, k, none⟩ l').run P w = .ok () (w.setCells x.c k l') := by
  obtain ⟨h0, cs', el, fr, h1', h2, h3, h4, h5⟩ := h
  have := run_storeCells_cells (P := P) x.c k l' 0 w (fun j hj => by simp [World.cell?, h1', Array.getElem?_eq_getElem (show k + j < cs'.size by omega)]) (fun j hj => by
    have := h5.1 rfl (k + j) (by omega)
    simp only [World.frozen?, h1', Nat.add_zero, Bool.and_eq_false_iff, decide_eq_false_iff_not]
    omega) h1
  simpa using this

/-! ### store -/
def astore (P : Program) (H : Hp) (T : TypeId) (a v : Value) : Option Hp :=
  match a with
  | .pointer (some ⟨b, o, none⟩) => match H.f b, vcells v with
    | .cells false sz cs, some l => if szO P T = some l.length ∧ o + l.length ≤ cs.length then some (H.put b (.cells false sz (writeL cs o l))) else none
    | _, _ => none
  | _ => none

theorem astore_sound {P : Program} {r : Mp} {H H' : Hp} {w : World} (hs : Sim r H w) {T : TypeId} {a a' v v' : Value} (ha : VRel r a a') (hv : VRel r v v') (h : astore P H T a v = some H') :
    ∃ w', (Instr.storeAt T a' v').run P w = .ok () w' ∧ Sim r H' w' ∧ Step r H w r H' w' := by
  unfold astore at h
  split at h
  · rename_i b o
    split at h
    · rename_i sz cs l hf hl
      split at h
      · rename_i hc
        obtain ⟨hi, hle⟩ := hc
        cases h
        cases ha with
        | plain _ hp => simp [plain, flat, flat0] at hp
        | @ptr _ _ x hx =>
          obtain ⟨g1, g2, _, g4⟩ := vcells_rel hv hl
          have hb := hs.blk b x hx
          rw [hf] at hb
          have hN : x.s + cs.length ≤ x.N := by obtain ⟨_, cs', el, fr, _, _, h3, _⟩ := hb; exact h3
          have hlen : v'.cells.toList.length = l.length := g1.1.symm
          have hrun := cells_run (P := P) hb (k := o + x.s) (l' := v'.cells.toList) (by omega) g2
          obtain ⟨k1, k2, k3, k4, k5⟩ := setCells_keep v'.cells.toList x.c (o + x.s) w
          refine ⟨w.setCells x.c (o + x.s) v'.cells.toList, ?_, ?_⟩
          · cases hq : P.info? T with
            | none => simp [szO, hq] at hi
            | some i =>
              have : i.size = v'.cells.size := by simpa [szO, hq, ← hlen] using hi
              simp [Instr.storeAt, Instr.sureAddr, storeVar, sizeOf, typeInfo, hq, this, hrun]
          · exact Sim.write hs hx (by rw [hf]; rfl) (by rw [hf]; rfl) rfl k4 k5 (brel_write l _ cs o w hb hle g1 g4) k1 k2 k3
      · cases h
    · cases h
  · cases h

end Am
end Go.Proofs.YtbpabpnpoidpcaaGreatDoor
