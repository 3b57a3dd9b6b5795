/- The evaluator of prepared code: what it comes to the abstract machine comes to: operations, regions. No conditions. -/
import Derived.Test.YtbpabpnpoidpcaaGreatDoorEv2
set_option linter.unusedVariables false
set_option linter.unusedSimpArgs false
namespace Go.Proofs.YtbpabpnpoidpcaaGreatDoor
namespace Am
open Go Go.RowKit

/-- What is asked of calls. -/
def CS (M : Mc) (call : ZCall) : Prop := ∀ g args h v h', OkX M h → call g args h = some (v, h') → To M g args h.hp v h'.hp ∧ OkX M h'

section
variable {M : Mc} {call : ZCall} {e : Env} {h : XH} {R : Type} {bad : R} {k : Value → XH → R}

theorem zop_cases (hok : OkX M h) {op : POp} {o : Option (Value × Hp)} {w : Option Nat} (ho : ∀ r, o = some r → pop M.P e.fr h.hp op = some r) (ht : ∀ v H', pop M.P e.fr h.hp op = some (v, H') → Tch h.hp H' w) :
    zop M.P e h o w bad k = bad ∨ ∃ v h', zop M.P e h o w bad k = k v h' ∧ OkX M h' ∧ pop M.P e.fr h.hp op = some (v, h'.hp) := by
  unfold zop
  cases o with
  | none => exact .inl rfl
  | some r =>
    obtain ⟨v, H'⟩ := r
    have hp := ho _ rfl
    obtain ⟨h1, h2⟩ := ht v H' hp
    simp only [valK_eq]
    obtain ⟨h', e1, e2, e3⟩ := syncK_eq (M := M) h H' w (fun h => k v h) hok h1 h2
    exact .inr ⟨v, h', e1, e3, by rw [hp, e2]⟩

theorem spl_eq : ∀ (l cs : List Value) (o : Nat), o + l.length ≤ cs.length → writeL cs o l = spl cs o l
  | [], cs, o, h => by simp [writeL, spl]
  | v :: l, cs, o, h => by
    simp only [List.length_cons] at h
    rw [writeL, spl_eq l _ _ (by simp; omega)]
    unfold spl
    refine List.ext_getElem? fun i => ?_
    have h1 : ((cs.set o v).take (o + 1)).length = o + 1 := by simp; omega
    have h2 : (cs.take o).length = o := by simp; omega
    by_cases hi : i < o
    · rw [List.getElem?_append_left (by omega), List.getElem?_append_left (by omega), List.getElem?_take_of_lt (by omega), List.getElem?_take_of_lt hi, List.getElem?_set_ne (by omega)]
    · rw [List.getElem?_append_right (l₁ := cs.take o) (by omega), h2]
      by_cases hi2 : i = o
      · subst hi2
        rw [List.getElem?_append_left (by omega), List.getElem?_take_of_lt (by omega), List.getElem?_set_self (by omega)]
        simp
      · rw [List.getElem?_append_right (by omega), h1]
        obtain ⟨j, rfl⟩ : ∃ j, i = o + 1 + j := ⟨i - (o + 1), by omega⟩
        rw [show o + 1 + j - (o + 1) = j by omega, show o + 1 + j - o = j + 1 by omega, List.cons_append, List.getElem?_cons_succ]
        congr 2
        rw [show o + (v :: l).length = o + 1 + l.length by simp; omega, List.drop_set_of_lt (by omega)]
theorem pstoreF_eq {H : Hp} {n : Nat} {a v : Value} {H' : Hp} (h : pstoreF H n a v = some H') : pstore H n a v = some H' := by
  unfold pstoreF at h
  unfold pstore
  split at h
  · rename_i b o
    simp only []
    split at h
    · rename_i sz cs l h1 h2
      split at h
      · rename_i hc
        rw [h1, h2]
        simp only [if_pos hc, spl_eq l cs o hc.2]
        exact h
      · cases h
    · cases h
  · cases h
theorem pcopyF_eq {H : Hp} {sz : Nat} {str : Bool} {d s : Value} {r : Value × Hp} (h : pcopyF H sz str d s = some r) : pcopy H sz str d s = some r := by
  unfold pcopyF at h
  unfold pcopy
  split at h
  · rename_i m news a dl c hs
    rw [hs]
    simp only []
    split at h
    · rename_i hz; rw [if_pos hz]; exact h
    · rename_i hz
      rw [if_neg hz]
      split at h
      · rename_i b o
        split at h
        · rename_i z cs hf
          split at h
          · rename_i hc
            simp only [hf, if_pos hc.1]
            rw [spl_eq _ cs o (by rw [List.length_take, hc.2]; have : min m dl * sz ≤ m * sz := Nat.mul_le_mul_right _ (Nat.min_le_left _ _); omega)]
            exact h
          · cases h
        · cases h
      · cases h
  · cases h

theorem zval_cases (hok : OkX M h) (o : Option Value) : zval o h bad k = bad ∨ ∃ v, zval o h bad k = k v h ∧ o = some v := by
  cases o with
  | none => exact .inl rfl
  | some v => exact .inr ⟨v, valK_eq v fun v => k v h, rfl⟩
theorem zflat_cases (hok : OkX M h) (o : Option Value) : zflat o h bad k = bad ∨ ∃ v, zflat o h bad k = k v h ∧ o = some v := by
  cases o with
  | none => exact .inl rfl
  | some v => exact .inr ⟨v, flatK_eq v fun v => k v h, rfl⟩

theorem raw_tch {P : Program} {t : Fr} {H : Hp} {o : Op} (hc : ∀ c, o ≠ .call c) (hm : ∀ a m b c, o ≠ .mapUpdate a m b c) (hs : ∀ a b c, o ≠ .store a b c) {v : Value} {H' : Hp} (h : pop P t H (.raw o) = some (v, H')) : Tch H H' none := by
  cases o <;> simp only [pop, aop] at h <;> first
    | exact absurd rfl (hc _)
    | exact absurd rfl (hm _ _ _ _)
    | exact absurd rfl (hs _ _ _)
    | (have := map_same h; simp only [] at this; subst this; exact Tch.refl _ _)
    | skip
  case alloc T =>
    unfold aalloc at h
    obtain ⟨zs, _, h⟩ := Option.map_eq_some_iff.1 h
    cases h; exact Tch.alloc _ _ _
  case box T x =>
    unfold abox at h
    obtain ⟨zs, _, h⟩ := Option.map_eq_some_iff.1 h
    cases h; exact Tch.alloc _ _ _
  case buildSlice T n ps =>
    unfold abuildSlice at h
    split at h
    · split at h
      · obtain ⟨zs, _, h⟩ := Option.map_eq_some_iff.1 h
        cases h; exact Tch.alloc _ _ _
      · cases h
    · cases h
  case makeSlice T l c =>
    unfold amake at h
    (repeat' split at h) <;> cases h <;> exact Tch.alloc _ _ _
  case makeMap T n =>
    cases n with
    | none => simp only [amakeMap, Option.some.injEq, Prod.mk.injEq] at h; obtain ⟨_, rfl⟩ := h; exact Tch.alloc _ _ _
    | some q => have := map_same h; simp only [] at this; subst this; exact Tch.refl _ _
  case convert s d x =>
    split at h
    · cases h; exact Tch.refl _ _
    · unfold abytes at h
      split at h
      · split at h
        · cases h; exact Tch.alloc _ _ _
        · cases h
      · cases h

theorem rest_tch {P : Program} {t : Fr} {H : Hp} {op : POp} (h1 : ∀ n a x, op ≠ .store n a x) (h2 : ∀ a b c s x, op ≠ .append a b c s x) (h3 : ∀ a b d s, op ≠ .copy a b d s) (hc : ∀ c, op ≠ .raw (.call c)) (hm : ∀ a m b c, op ≠ .raw (.mapUpdate a m b c))
    (hs : ∀ a b c, op ≠ .raw (.store a b c)) {v : Value} {H' : Hp} (h : pop P t H op = some (v, H')) : Tch H H' none := by
  cases op with
  | store n a x => exact absurd rfl (h1 _ _ _)
  | append a b c s x => exact absurd rfl (h2 _ _ _ _ _)
  | copy a b d s => exact absurd rfl (h3 _ _ _ _)
  | raw o => exact raw_tch (fun c e => hc c (by rw [e])) (fun a m b c e => hm a m b c (by rw [e])) (fun a b c e => hs a b c (by rw [e])) h
  | cbytes x =>
    simp only [pop] at h
    unfold pcbytes at h
    split at h
    · cases h; exact Tch.alloc _ _ _
    · cases h
  | alloc e zs => simp only [pop, palloc, Option.some.injEq, Prod.mk.injEq] at h; obtain ⟨_, rfl⟩ := h; exact Tch.alloc _ _ _
  | box e x =>
    simp only [pop, pbox] at h
    obtain ⟨zs, _, h⟩ := Option.map_eq_some_iff.1 h
    cases h; exact Tch.alloc _ _ _
  | buildSlice sz n ps =>
    simp only [pop, pbuildSlice] at h
    split at h
    · obtain ⟨zs, _, h⟩ := Option.map_eq_some_iff.1 h
      cases h; exact Tch.alloc _ _ _
    · cases h
  | makeSlice sz b zs l c =>
    simp only [pop] at h
    unfold pmake at h
    (repeat' split at h) <;> cases h <;> exact Tch.alloc _ _ _
  | mv x => simp only [pop, Option.some.injEq, Prod.mk.injEq] at h; obtain ⟨_, rfl⟩ := h; exact Tch.refl _ _
  | iface T x => simp only [pop, Option.some.injEq, Prod.mk.injEq] at h; obtain ⟨_, rfl⟩ := h; exact Tch.refl _ _
  | fn g a b => simp only [pop, Option.some.injEq, Prod.mk.injEq] at h; obtain ⟨_, rfl⟩ := h; exact Tch.refl _ _
  | call g a => simp [pop] at h
  | callv g a => simp [pop] at h
  | invoke r n a => simp [pop] at h
  | defer x => simp [pop] at h
  | _ => simp only [pop] at h; have := map_same h; simp only [] at this; subst this; exact Tch.refl _ _

theorem call_tch {P : Program} {t : Fr} {H : Hp} {c : Call} {x : Operand} {l : List Operand} (ha : c.args.toList = x :: l) {v : Value} {H' : Hp} (h : pop P t H (.raw (.call c)) = some (v, H')) : Tch H H' (touched (ev t x)) := by
  simp only [pop] at h
  split at h
  · rename_i b hb
    rw [ha, List.map_cons] at h
    unfold abuiltin at h
    split at h
    · have := map_same h; simp only [] at this; subst this; exact Tch.refl _ _
    · rename_i he; rw [(List.cons.inj he).1]; exact aappend_tch (r := (v, H')) h
    · rename_i he; rw [(List.cons.inj he).1]; exact acopy_tch (r := (v, H')) h
    · obtain ⟨K, h1, h2⟩ := Option.map_eq_some_iff.1 h
      rename_i he; cases h2; rw [(List.cons.inj he).1]; exact adelete_tch h1
    · have := map_same h; simp only [] at this; subst this; exact Tch.refl _ _
    · have := map_same h; simp only [] at this; subst this; exact Tch.refl _ _
    · cases h
  · cases h

/-- An operation that the evaluator did. -/
def Did1 (M : Mc) (op : POp) (e : Env) (h : XH) (v : Value) (h' : XH) : Prop := OkX M h' ∧ ∀ (top : Bool) (ds : List ADef) (f : List ADef → Value → Hp → Prop), f ds v h'.hp → opQ M top op ds e.fr h.hp f

theorem did_pop {op : POp} {v : Value} {h' : XH} (hok : OkX M h') (hp : pop M.P e.fr h.hp op = some (v, h'.hp)) (hq : ∀ top ds f, opQ M top op ds e.fr h.hp f = bindP (pop M.P e.fr h.hp op) (f ds)) : Did1 M op e h v h' :=
  ⟨hok, fun top ds f hf => by rw [hq, hp]; exact hf⟩

theorem zstep0_cases (hcs : CS M call) (hok : OkX M h) (op : POp) : zstep0 M.P call e h op bad k = bad ∨ ∃ v h', zstep0 M.P call e h op bad k = k v h' ∧ Did1 M op e h v h' := by
  have pr : ∀ {op : POp} {o : Option (Value × Hp)} {w : Option Nat}, zstep0 M.P call e h op bad k = zop M.P e h o w bad k → (∀ r, o = some r → pop M.P e.fr h.hp op = some r) → (∀ v H', pop M.P e.fr h.hp op = some (v, H') → Tch h.hp H' w) → (∀ top ds f, opQ M top op ds e.fr h.hp f = bindP (pop M.P e.fr h.hp op) (f ds)) →
      zstep0 M.P call e h op bad k = bad ∨ ∃ v h', zstep0 M.P call e h op bad k = k v h' ∧ Did1 M op e h v h' := by
    intro op o w hz ho ht hq
    rw [hz]
    rcases zop_cases (bad := bad) (k := k) hok ho ht with h1 | ⟨v, h', h1, h2, h3⟩
    · exact .inl h1
    · exact .inr ⟨v, h', h1, did_pop h2 h3 hq⟩
  have pv : ∀ {op : POp} {o : Option Value}, zstep0 M.P call e h op bad k = zval o h bad k → pop M.P e.fr h.hp op = o.map (fun v => (v, h.hp)) → (∀ top ds f, opQ M top op ds e.fr h.hp f = bindP (pop M.P e.fr h.hp op) (f ds)) →
      zstep0 M.P call e h op bad k = bad ∨ ∃ v h', zstep0 M.P call e h op bad k = k v h' ∧ Did1 M op e h v h' := by
    intro op o hz hp hq
    rw [hz]
    rcases zval_cases (bad := bad) (k := k) hok o with h1 | ⟨v, h1, rfl⟩
    · exact .inl h1
    · exact .inr ⟨v, h, h1, did_pop hok hp hq⟩
  have pf : ∀ {op : POp} {o : Option Value}, zstep0 M.P call e h op bad k = zflat o h bad k → pop M.P e.fr h.hp op = o.map (fun v => (v, h.hp)) → (∀ top ds f, opQ M top op ds e.fr h.hp f = bindP (pop M.P e.fr h.hp op) (f ds)) →
      zstep0 M.P call e h op bad k = bad ∨ ∃ v h', zstep0 M.P call e h op bad k = k v h' ∧ Did1 M op e h v h' := by
    intro op o hz hp hq
    rw [hz]
    rcases zflat_cases (bad := bad) (k := k) hok o with h1 | ⟨v, h1, rfl⟩
    · exact .inl h1
    · exact .inr ⟨v, h, h1, did_pop hok hp hq⟩
  have pc : ∀ {op : POp} {g : Fn} {args : List Value}, zstep0 M.P call e h op bad k = afterC (call g args h) bad k → (∀ top ds f, opQ M top op ds e.fr h.hp f = callP M g args h.hp (f ds)) →
      zstep0 M.P call e h op bad k = bad ∨ ∃ v h', zstep0 M.P call e h op bad k = k v h' ∧ Did1 M op e h v h' := by
    intro op g args hz hq
    rw [hz]
    cases hc : call g args h with
    | none => exact .inl rfl
    | some r =>
      obtain ⟨v, h'⟩ := r
      obtain ⟨h1, h2⟩ := hcs g args h v h' hok hc
      exact .inr ⟨v, h', rfl, h2, fun top ds f hf => by rw [hq]; exact ⟨v, _, h1, hf⟩⟩
  cases op with
  | call g args => exact pc (by simp only [zstep0, listK_eq]) fun _ _ _ => rfl
  | callv x args =>
    cases hx : ev e.fr x with
    | func g a b => exact pc (g := g) (args := a.toList ++ args.map (ev e.fr) ++ b.toList) (by simp only [zstep0, hx, listK_eq]) fun _ _ _ => by simp only [opQ, hx]; rfl
    | _ => exact .inl (by simp only [zstep0, hx])
  | invoke r nm args =>
    cases hx : ev e.fr r with
    | iface T u =>
      cases hm : mth M.P T nm with
      | none => exact .inl (by simp only [zstep0, hx, hm])
      | some g => exact pc (g := .func g) (args := u :: args.map (ev e.fr)) (by simp only [zstep0, hx, hm, listK_eq]) fun _ _ _ => by simp only [opQ, hx, ifv_iface, hm, mthP_some]
    | _ => exact .inl (by simp only [zstep0, hx])
  | defer x => exact .inl rfl
  | mv x => exact .inr ⟨_, h, rfl, did_pop hok rfl fun _ _ _ => rfl⟩
  | load l a => exact pv rfl rfl fun _ _ _ => rfl
  | nil x => exact pf rfl rfl fun _ _ _ => rfl
  | bin o kd x y => exact pf rfl rfl fun _ _ _ => rfl
  | un o x => exact pf rfl rfl fun _ _ _ => rfl
  | cint i x => exact pf rfl rfl fun _ _ _ => rfl
  | fieldAddr o x => exact pf rfl rfl fun _ _ _ => rfl
  | field o l x => exact pv rfl rfl fun _ _ _ => rfl
  | indexAddr s x i => exact pf rfl rfl fun _ _ _ => rfl
  | extract x i => exact pv rfl rfl fun _ _ _ => rfl
  | len kd x => exact pf rfl rfl fun _ _ _ => rfl
  | store n a x => exact pr rfl (fun r hr => by
      obtain ⟨K, h1, h2⟩ := Option.map_eq_some_iff.1 hr
      simp only [pop, pstoreF_eq h1, Option.map_some]; rw [h2]) (fun v H' hp => by
      simp only [pop] at hp
      obtain ⟨K, h1, h2⟩ := Option.map_eq_some_iff.1 hp
      cases h2; exact store_tch h1) fun _ _ _ => rfl
  | append a b c s x => exact pr rfl (fun r hr => hr) (fun v H' hp => append_tch (r := (v, H')) hp) fun _ _ _ => rfl
  | copy a b d s => exact pr rfl (fun r hr => pcopyF_eq hr) (fun v H' hp => copy_tch (r := (v, H')) hp) fun _ _ _ => rfl
  | raw o =>
    cases o with
    | mapUpdate a m b c => exact pr rfl (fun r hr => hr) (fun v H' hp => by
        simp only [pop, aop] at hp
        obtain ⟨K, h1, h2⟩ := Option.map_eq_some_iff.1 hp
        cases h2; exact amapUpdate_tch h1) fun _ _ _ => rfl
    | store a b c => exact .inl rfl
    | call c =>
      cases ha : c.args.toList with
      | nil => exact .inl (by simp only [zstep0, ha])
      | cons x l => exact pr (w := touched (ev e.fr x)) (by simp only [zstep0, ha]) (fun r hr => hr) (fun v H' hp => call_tch ha hp) fun _ _ _ => rfl
    | _ => exact pr rfl (fun r hr => hr) (fun v H' hp => rest_tch (by simp) (by simp) (by simp) (by simp) (by simp) (by simp) hp) fun _ _ _ => rfl
  | _ => exact pr rfl (fun r hr => hr) (fun v H' hp => rest_tch (by simp) (by simp) (by simp) (by simp) (by simp) (by simp) hp) fun _ _ _ => rfl
theorem zraw_eq (o : Option Value) : zraw o h bad k = zval o h bad k := by cases o <;> simp [zraw, zval, valK_eq]
theorem zraw_eqF (o : Option Value) : zraw o h bad k = zflat o h bad k := by cases o <;> simp [zraw, zflat, flatK_eq]
theorem intsK_bin {P : Program} {o : BinOp} {kd : Kd} {lit : Bool} {x y : Value} {f : IntKind → Int → Int → R} (hf : ∀ i a b, f i a b = zflat (pbin P o kd lit (.int i a) (.int i b)) h bad k) : intsK x y (zflat (pbin P o kd lit x y) h bad k) f = zflat (pbin P o kd lit x y) h bad k := by
  unfold intsK
  split
  · split
    · split
      · rename_i he; subst he; exact hf _ _ _
      · rfl
    · rfl
  · rfl
theorem zbin_eq {P : Program} (o : BinOp) (kd : Kd) (lit : Bool) (x y : Value) : zbin P o kd lit x y h bad k = zflat (pbin P o kd lit x y) h bad k := by
  cases o <;> first
    | rfl
    | exact intsK_bin fun i a b => by simp [pbin, sbin, zflat, flatK_eq, intK_eq, boolK_eq]
theorem zfa_eq (off : Nat) (v : Value) : zfa off v h bad k = zflat (pfieldAddr off v) h bad k := by
  unfold zfa ptrK
  split
  · simp [pfieldAddr, zflat, flatK_eq, natK_eq]
  · rfl
theorem zstep_eq (op : POp) : zstep M.P call e h op bad k = zstep0 M.P call e h op bad k := by
  cases op with
  | bin o kd x y => exact zbin_eq o kd _ _ _
  | fieldAddr o x => exact zfa_eq o _
  | load l a => cases l with
    | none => exact zraw_eq _
    | some n => rfl
  | nil x => exact zraw_eqF _
  | extract x i => exact zraw_eq _
  | raw o => cases o <;> rfl
  | _ => rfl
theorem zstep_cases (hcs : CS M call) (hok : OkX M h) (op : POp) : zstep M.P call e h op bad k = bad ∨ ∃ v h', zstep M.P call e h op bad k = k v h' ∧ Did1 M op e h v h' := by
  rw [zstep_eq]
  exact zstep0_cases hcs hok op
end

end Am
end Go.Proofs.YtbpabpnpoidpcaaGreatDoor
