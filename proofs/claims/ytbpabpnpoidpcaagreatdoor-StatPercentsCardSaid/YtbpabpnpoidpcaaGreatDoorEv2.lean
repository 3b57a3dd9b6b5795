/- The evaluator of prepared code: what is handed on whole is what it was; heaps; that operations touch what they name. No conditions. -/
import Derived.Test.YtbpabpnpoidpcaaGreatDoorEv1
set_option linter.unusedVariables false
set_option linter.unusedSimpArgs false
namespace Go.Proofs.YtbpabpnpoidpcaaGreatDoor
namespace Am
open Go Go.RowKit

theorem natK_eq {R : Type} (n : Nat) (k : Nat → R) : natK n k = k n := by cases n <;> rfl
theorem intK_eq {R : Type} (n : Int) (k : Int → R) : intK n k = k n := by
  cases n with
  | ofNat m => exact natK_eq m fun m => k (.ofNat m)
  | negSucc m => exact natK_eq m fun m => k (.negSucc m)
theorem boolK_eq {R : Type} (b : Bool) (k : Bool → R) : boolK b k = k b := by cases b <;> rfl
theorem addrK_eq {R : Type} (a : Addr) (k : Addr → R) : addrK a k = k a := by
  obtain ⟨b, o, s⟩ := a
  cases s with
  | none => simp only [addrK, natK_eq]
  | some s => rfl
theorem flatK_eq {R : Type} (v : Value) (k : Value → R) : flatK v k = k v := by
  unfold flatK
  split <;> simp only [intK_eq, boolK_eq, addrK_eq, natK_eq]
theorem listK_eq {R : Type} : ∀ (l : List Value) (k : List Value → R), listK l k = k l
  | [], k => rfl
  | v :: l, k => by simp only [listK, flatK_eq, listK_eq l]
theorem listK2_eq {R : Type} : ∀ (l : List Value) (k : List Value → R), valK.listK2 l k = k l
  | [], k => rfl
  | v :: l, k => by
    simp only [valK.listK2]
    split
    · simp only [listK_eq, listK2_eq l]
    · simp only [flatK_eq, listK2_eq l]
theorem valK_eq {R : Type} (v : Value) (k : Value → R) : valK v k = k v := by
  unfold valK
  split <;> simp only [listK_eq, listK2_eq, flatK_eq]
theorem blkK_eq {R : Type} (b : Blk) (k : Blk → R) : blkK b k = k b := by
  unfold blkK
  split <;> simp only [boolK_eq, natK_eq, listK_eq]

/-! ### Tries -/
theorem get_leaf {α : Type} (d : α) (p : List Bool) : Trie.get d p .leaf = d := by cases p <;> rfl
theorem get_nil {α : Type} (d v : α) (l r : Trie α) : Trie.get d [] (.node v l r) = v := rfl
theorem get_cons {α : Type} (d v : α) (l r : Trie α) (b : Bool) (p : List Bool) : Trie.get d (b :: p) (.node v l r) = Trie.get d p (if b then r else l) := by cases b <;> rfl
theorem setK_eq {α R : Type} (d v : α) : ∀ (p : List Bool) (t : Trie α) (k : Trie α → R), ∃ t', Trie.setK d v p t k = k t' ∧ ∀ q, Trie.get d q t' = if q = p then v else Trie.get d q t
  | [], t, k => by
    cases t with
    | leaf =>
      refine ⟨.node v .leaf .leaf, rfl, fun q => ?_⟩
      cases q with
      | nil => rfl
      | cons b q => simp only [get_cons, get_leaf]; cases b <;> simp [get_leaf]
    | node x l r =>
      refine ⟨.node v l r, rfl, fun q => ?_⟩
      cases q with
      | nil => rfl
      | cons b q => simp [get_cons]
  | b :: p, t, k => by
    have key : ∀ (x : α) (l r : Trie α), ∃ t', (Bool.rec (motive := fun _ => R) (Trie.setK d v p l fun l => k (.node x l r)) (Trie.setK d v p r fun r => k (.node x l r)) b) = k t' ∧ ∀ q, Trie.get d q t' = if q = b :: p then v else Trie.get d q (.node x l r) := by
      intro x l r
      cases b with
      | false =>
        obtain ⟨l', h1, h2⟩ := setK_eq d v p l (fun l => k (.node x l r))
        refine ⟨.node x l' r, h1, fun q => ?_⟩
        cases q with
        | nil => rfl
        | cons c q =>
          cases c with
          | false => simp [get_cons, h2]
          | true => simp [get_cons]
      | true =>
        obtain ⟨r', h1, h2⟩ := setK_eq d v p r (fun r => k (.node x l r))
        refine ⟨.node x l r', h1, fun q => ?_⟩
        cases q with
        | nil => rfl
        | cons c q =>
          cases c with
          | true => simp [get_cons, h2]
          | false => simp [get_cons]
    cases t with
    | leaf =>
      obtain ⟨t', h1, h2⟩ := key d .leaf .leaf
      refine ⟨t', h1, fun q => ?_⟩
      rw [h2 q]
      split
      · rfl
      · cases q with
        | nil => rfl
        | cons c q => simp only [get_cons, get_leaf]; cases c <;> simp [get_leaf]
    | node x l r => exact key x l r

def unp : List Bool → Nat
  | [] => 1
  | b :: p => 2 * unp p + (if b then 1 else 0)
theorem pthF_spec : ∀ (n k : Nat), 1 ≤ k → k ≤ n + 1 → unp (pthF n k) = k
  | 0, k, h1, h2 => by show unp [] = k; simp only [unp]; omega
  | n + 1, k, h1, h2 => by
    show unp (Bool.rec ((Nat.beq (Nat.mod k 2) 1) :: pthF n (Nat.div k 2)) [] (Nat.ble k 1)) = k
    cases hb : Nat.ble k 1 with
    | true => have := Nat.le_of_ble_eq_true hb; simp only [unp]; omega
    | false =>
      have hk : ¬ k ≤ 1 := fun h => by rw [Nat.ble_eq_true_of_le h] at hb; cases hb
      have hd : Nat.div k 2 = k / 2 := rfl
      have hm : Nat.mod k 2 = k % 2 := rfl
      simp only [unp, hd, hm]
      rw [pthF_spec n (k / 2) (by omega) (by omega)]
      by_cases h : k % 2 = 1
      · rw [h]; simp; omega
      · have : k % 2 = 0 := by omega
        rw [this]; simp; omega
theorem pth_inj {i j : Nat} (h : pth i = pth j) : i = j := by
  have h1 := pthF_spec i (i + 1) (by omega) (by omega)
  have h2 := pthF_spec j (j + 1) (by omega) (by omega)
  have : pthF i (i + 1) = pthF j (j + 1) := h
  rw [this, h2] at h1
  omega

/-! ### Frames and heaps -/
theorem env_cons (i : Nat) (v : Value) (e : Env) : (Env.cons i v e).fr = upd e.fr i v := by
  funext j
  show (Bool.rec (motive := fun _ => Value) (e.get j) v (Nat.beq i j)) = if j = i then v else e.get j
  cases hb : Nat.beq i j with
  | true => have := Nat.eq_of_beq_eq_true hb; subst this; simp
  | false =>
    have : j ≠ i := fun h => by subst h; simp at hb
    simp [this]
theorem env_put (e : Env) (d : Option Tmp) (v : Value) : (e.put d v).fr = aput e.fr d v := by
  cases d with
  | none => rfl
  | some i => exact env_cons i v e
theorem env_nil : Env.nil.fr = fun _ => undef := rfl
theorem zofArgs_fr : ∀ (l : List Value) (i : Nat), (zofArgs l i).fr = fun j => if j < i then undef else l.getD (j - i) undef
  | [], i => by funext j; show undef = _; simp
  | v :: l, i => by
    rw [zofArgs, env_cons, zofArgs_fr l (Nat.succ i)]
    funext j
    simp only [upd]
    by_cases h1 : j = i
    · subst h1; simp
    · by_cases h2 : j < i
      · have : j < Nat.succ i := by omega
        simp [h1, h2, this]
      · have h3 : ¬ j < Nat.succ i := by omega
        simp only [h1, h2, h3, if_false]
        have : j - i = (j - Nat.succ i) + 1 := by omega
        rw [this]; simp
theorem zofArgs_eq (l : List Value) : (zofArgs l 0).fr = fun i => l.getD i undef := by rw [zofArgs_fr]; funext j; simp

theorem putK_eq {R : Type} (h : XH) (i : Nat) (b : XB) (k : XH → R) : ∃ h', h.putK i b k = k h' ∧ h'.n = h.n ∧ ∀ j, h'.get j = if j = i then b else h.get j := by
  obtain ⟨t', h1, h2⟩ := setK_eq (XB.b .dead) b (pth i) h.t (fun t => k ⟨h.n, t⟩)
  refine ⟨⟨h.n, t'⟩, h1, rfl, fun j => ?_⟩
  show Trie.get _ (pth j) t' = _
  rw [h2]
  by_cases hj : j = i
  · subst hj; simp
  · rw [if_neg (fun e => hj (pth_inj e)), if_neg hj]; rfl
theorem pushK_eq {R : Type} (h : XH) (b : XB) (k : XH → R) : ∃ h', h.pushK b k = k h' ∧ h'.n = h.n + 1 ∧ ∀ j, h'.get j = if j = h.n then b else h.get j := by
  obtain ⟨t', h1, h2⟩ := setK_eq (XB.b .dead) b (pth h.n) h.t (fun t => k ⟨Nat.succ h.n, t⟩)
  refine ⟨⟨Nat.succ h.n, t'⟩, by unfold XH.pushK; rw [natK_eq]; exact h1, rfl, fun j => ?_⟩
  show Trie.get _ (pth j) t' = _
  rw [h2]
  by_cases hj : j = h.n
  · subst hj; simp
  · rw [if_neg (fun e => hj (pth_inj e)), if_neg hj]; rfl

/-- Each loop's record has its code prepared. -/
def OkL (M : Mc) (L : XLoop) : Prop := prepC M.P (M.pl L.f) L.asg = some L.pasg ∧ prepC M.P (M.pl L.f) L.body = some L.pbody
def OkX (M : Mc) (h : XH) : Prop := ∀ i L, h.get i = .l L → OkL M L

theorem newsK_eq {R : Type} {M : Mc} (h : XH) (H' : Hp) (k : XH → R) (hok : OkX M h) (hn : H'.n = h.n ∨ H'.n = h.n + 1) (hf : ∀ b, (b ≠ h.n ∨ H'.n = h.n) → H'.f b = h.hp.f b) :
    ∃ h', h.newsK H' k = k h' ∧ h'.hp = H' ∧ OkX M h' := by
  unfold XH.newsK
  cases hb : Nat.beq h.n H'.n with
  | true =>
    have := Nat.eq_of_beq_eq_true hb
    refine ⟨h, rfl, ?_, hok⟩
    obtain ⟨n, f⟩ := H'
    simp only [] at this hf
    subst this
    show (⟨h.n, h.hp.f⟩ : Hp) = _
    congr 1
    funext b
    exact (hf b (.inr rfl)).symm
  | false =>
    have hne : h.n ≠ H'.n := fun e => by rw [e] at hb; simp at hb
    have hn1 : H'.n = h.n + 1 := by omega
    simp only [blkK_eq]
    obtain ⟨h', h1, h2, h3⟩ := pushK_eq h (.b (H'.f h.n)) k
    refine ⟨h', h1, ?_, fun i L hi => ?_⟩
    · obtain ⟨n, f⟩ := H'
      simp only [] at hn1 hf h3
      subst hn1
      show (⟨h'.n, fun i => (h'.get i).to⟩ : Hp) = _
      rw [h2]
      congr 1
      funext b
      rw [h3 b]
      by_cases hbn : b = h.n
      · subst hbn; simp [XB.to]
      · rw [if_neg hbn]; exact (hf b (.inl hbn)).symm
    · rw [h3 i] at hi
      by_cases hin : i = h.n
      · rw [if_pos hin] at hi; cases hi
      · rw [if_neg hin] at hi; exact hok i L hi
theorem syncK_eq {R : Type} {M : Mc} (h : XH) (H' : Hp) (w : Option Nat) (k : XH → R) (hok : OkX M h) (hn : H'.n = h.n ∨ H'.n = h.n + 1) (hf : ∀ b, w ≠ some b → (b ≠ h.n ∨ H'.n = h.n) → H'.f b = h.hp.f b) :
    ∃ h', h.syncK H' w k = k h' ∧ h'.hp = H' ∧ OkX M h' := by
  cases w with
  | none => exact newsK_eq h H' k hok hn fun b hb => hf b (by simp) hb
  | some i =>
    show ∃ h', (blkK (H'.f i) fun b => h.putK i (.b b) fun h => h.newsK H' k) = k h' ∧ _
    rw [blkK_eq]
    obtain ⟨h1, e1, e2, e3⟩ := putK_eq h i (.b (H'.f i)) (fun h => h.newsK H' k)
    rw [e1]
    refine newsK_eq h1 H' k (fun j L hj => ?_) (by rw [e2]; exact hn) fun b hb => ?_
    · rw [e3 j] at hj
      by_cases hji : j = i
      · rw [if_pos hji] at hj; cases hj
      · rw [if_neg hji] at hj; exact hok j L hj
    · rw [e2] at hb
      show _ = (h1.get b).to
      rw [e3 b]
      by_cases hbi : b = i
      · subst hbi; simp [XB.to]
      · rw [if_neg hbi]; exact hf b (fun e => hbi (Option.some.inj e).symm) hb

/-! ### What operations touch -/
def Tch (H H' : Hp) (w : Option Nat) : Prop := (H'.n = H.n ∨ H'.n = H.n + 1) ∧ ∀ b, w ≠ some b → (b ≠ H.n ∨ H'.n = H.n) → H'.f b = H.f b
theorem Tch.refl (H : Hp) (w : Option Nat) : Tch H H w := ⟨.inl rfl, fun _ _ _ => rfl⟩
theorem Tch.alloc (H : Hp) (B : Blk) (w : Option Nat) : Tch H (H.alloc B) w := ⟨.inr rfl, fun b _ hb => by
  simp only [Hp.alloc] at hb ⊢; exact upd_ne _ _ (by omega)⟩
theorem Tch.put (H : Hp) (B : Blk) (i : Nat) : Tch H (H.put i B) (some i) := ⟨.inl rfl, fun b hw _ => by
  simp only [Hp.put]; exact upd_ne _ _ (fun e => hw (by rw [e]))⟩
theorem Tch.putAlloc (H : Hp) (A B : Blk) (i : Nat) : Tch H ((H.put i A).alloc B) (some i) := ⟨.inr rfl, fun b hw hb => by
  simp only [Hp.put, Hp.alloc] at hb ⊢
  rw [upd_ne _ _ (by omega), upd_ne _ _ (fun e => hw (by rw [e]))]⟩

theorem map_same {o : Option Value} {H : Hp} {r : Value × Hp} (h : o.map (fun v => (v, H)) = some r) : r.2 = H := by
  obtain ⟨v, _, rfl⟩ := Option.map_eq_some_iff.1 h; rfl

theorem store_tch {H H' : Hp} {n : Nat} {a v : Value} (h : pstore H n a v = some H') : Tch H H' (touched a) := by
  unfold pstore at h
  (repeat' split at h) <;> cases h
  exact Tch.put _ _ _
theorem append_tch {H : Hp} {sz bys : Nat} {str : Bool} {s x : Value} {r : Value × Hp} (h : pappend H sz bys str s x = some r) : Tch H r.2 (touched s) := by
  unfold pappend at h
  (repeat' split at h) <;> cases h <;> first
    | exact Tch.refl _ _
    | exact Tch.alloc _ _ _
    | exact Tch.put _ _ _
    | exact Tch.putAlloc _ _ _ _
theorem copy_tch {H : Hp} {sz : Nat} {str : Bool} {d s : Value} {r : Value × Hp} (h : pcopy H sz str d s = some r) : Tch H r.2 (touched d) := by
  unfold pcopy at h
  (repeat' split at h) <;> cases h <;> first
    | exact Tch.refl _ _
    | exact Tch.put _ _ _
theorem aappend_tch {P : Program} {H : Hp} {a b : TypeId} {s x : Value} {r : Value × Hp} (h : aappend P H a b s x = some r) : Tch H r.2 (touched s) := by
  unfold aappend at h
  (repeat' split at h) <;> cases h <;> first
    | exact Tch.refl _ _
    | exact Tch.alloc _ _ _
    | exact Tch.put _ _ _
    | exact Tch.putAlloc _ _ _ _
theorem acopy_tch {P : Program} {H : Hp} {a b : TypeId} {d s : Value} {r : Value × Hp} (h : acopy P H a b d s = some r) : Tch H r.2 (touched d) := by
  unfold acopy at h
  (repeat' split at h) <;> cases h <;> first
    | exact Tch.refl _ _
    | exact Tch.put _ _ _
theorem adelete_tch {P : Program} {H H' : Hp} {T : TypeId} {m k : Value} (h : adelete P H T m k = some H') : Tch H H' (touched m) := by
  unfold adelete at h
  (repeat' split at h) <;> cases h <;> exact Tch.put _ _ _
theorem amapUpdate_tch {P : Program} {H H' : Hp} {T : TypeId} {m k v : Value} (h : amapUpdate P H T m k v = some H') : Tch H H' (touched m) := by
  unfold amapUpdate at h
  (repeat' split at h) <;> cases h <;> exact Tch.put _ _ _

end Am
end Go.Proofs.YtbpabpnpoidpcaaGreatDoor
