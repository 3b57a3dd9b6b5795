/- The abstract machine's operations: arithmetic, comparisons, conversions, interfaces. No conditions. -/
import Derived.Test.YtbpabpnpoidpcaaGreatDoorAbs3
import Derived.Lib.ConvBytes
set_option linter.unusedVariables false
set_option linter.unusedSimpArgs false
namespace Go.Proofs.YtbpabpnpoidpcaaGreatDoor
namespace Am
open Go

/-! ### Arithmetic and comparisons of values without addresses -/
def sbin : BinOp → Value → Value → Option Value
  | .shl, .int k a, .int _ b => if b < 0 then none else some (.int k (k.wrap (a * 2 ^ (min b.toNat k.bits))))
  | .shr, .int k a, .int _ b => if b < 0 then none else some (.int k (a.fdiv (2 ^ (min b.toNat k.bits))))
  | .add, .int k a, .int k' b => if k = k' then some (.int k (k.wrap (a + b))) else none
  | .sub, .int k a, .int k' b => if k = k' then some (.int k (k.wrap (a - b))) else none
  | .mul, .int k a, .int k' b => if k = k' then some (.int k (k.wrap (a * b))) else none
  | .quo, .int k a, .int k' b => if k = k' then (if b = 0 then none else some (.int k (k.wrap (a.tdiv b)))) else none
  | .rem, .int k a, .int k' b => if k = k' then (if b = 0 then none else some (.int k (a.tmod b))) else none
  | .and, .int k a, .int k' b => if k = k' then some (.int k (k.wrap (BitVec.ofInt k.bits a &&& BitVec.ofInt k.bits b).toNat)) else none
  | .or, .int k a, .int k' b => if k = k' then some (.int k (k.wrap (BitVec.ofInt k.bits a ||| BitVec.ofInt k.bits b).toNat)) else none
  | .xor, .int k a, .int k' b => if k = k' then some (.int k (k.wrap (BitVec.ofInt k.bits a ^^^ BitVec.ofInt k.bits b).toNat)) else none
  | .eql, .int k a, .int k' b => if k = k' then some (.bool (decide (a = b))) else none
  | .neq, .int k a, .int k' b => if k = k' then some (.bool (decide (a ≠ b))) else none
  | .lss, .int k a, .int k' b => if k = k' then some (.bool (decide (a < b))) else none
  | .leq, .int k a, .int k' b => if k = k' then some (.bool (decide (a ≤ b))) else none
  | .gtr, .int k a, .int k' b => if k = k' then some (.bool (decide (b < a))) else none
  | .geq, .int k a, .int k' b => if k = k' then some (.bool (decide (b ≤ a))) else none
  | .add, .string a, .string b => if a.size + b.size ≤ 9223372036854775807 then some (.string (a ++ b)) else none
  | .eql, .string a, .string b => some (.bool (decide (a = b)))
  | .neq, .string a, .string b => some (.bool (decide (a ≠ b)))
  | _, _, _ => none

theorem ba_toList_loop (b : ByteArray) : ∀ (n i : Nat) (acc : List UInt8), b.size - i = n → ByteArray.toList.loop b i acc = acc.reverse ++ b.data.toList.drop i := by
  intro n
  induction n with
  | zero =>
    intro i acc h
    rw [ByteArray.toList.loop]
    have : ¬ i < b.size := by omega
    rw [if_neg this]
    have : b.data.toList.length ≤ i := by simp only [Array.length_toList]; show b.size ≤ i; omega
    simp [List.drop_eq_nil_of_le this]
  | succ n ih =>
    intro i acc h
    rw [ByteArray.toList.loop]
    have hi : i < b.size := by omega
    rw [if_pos hi, ih (i + 1) _ (by omega)]
    have hi' : i < b.data.toList.length := by simpa using hi
    rw [List.drop_eq_getElem_cons hi']
    simp [ByteArray.get!, hi]
theorem ba_toList (b : ByteArray) : b.toList = b.data.toList := by
  unfold ByteArray.toList
  rw [ba_toList_loop b b.size 0 [] (by omega)]
  simp
theorem ba_eq (a b : ByteArray) : (a.toList == b.toList) = decide (a = b) := by
  rw [ba_toList, ba_toList, Bool.eq_iff_iff, beq_iff_eq, decide_eq_true_eq]
  constructor
  · intro h
    cases a; cases b
    simp only [ByteArray.mk.injEq]
    exact Array.ext' h
  · rintro rfl; rfl

theorem int_beq (a b : Int) : (a == b) = decide (a = b) := by rw [Bool.eq_iff_iff]; simp
theorem int_bne (a b : Int) : (a != b) = decide (a ≠ b) := by rw [Bool.eq_iff_iff]; simp

theorem sbin_sound {P : Program} {w : World} {op : BinOp} {T : TypeId} {x y v : Value} (h : sbin op x y = some v) : (binOp op T x y).run P w = .ok v w := by
  unfold sbin at h
  split at h <;> first
    | (cases h; done)
    | skip
  all_goals first
    | (split at h <;> first | (cases h; done) | skip
       first
        | (rename_i hk; subst hk; cases h; simp [binOp, Op.intArith, Op.intBits, Op.intCmp]; done)
        | (rename_i hk; subst hk; cases h; simp only [binOp, Op.intCmp, int_beq, int_bne, ne_eq, not_true, if_false, Sem.run_pure]; done)
        | (rename_i hk; subst hk; split at h <;> first | (cases h; done) | (rename_i hb; cases h; simp [binOp, Op.intDiv, hb]; done))
        | (rename_i hb; cases h; simp [binOp, Op.shift, hb]; done)
        | (rename_i hb; cases h; simp only [binOp]; exact run_string_add_sum w _ _ hb)
        | skip)
    | (cases h; simp [binOp, Op.stringOp, ba_eq]; done)
    | skip

/-! ### Comparisons with nil, of interface values -/
/-- A type of integers that can be compared. -/
def cmpInt (P : Program) (T : TypeId) : Bool := kd P T == .int && (P.info? T).any (·.comparable)
theorem cmpInt_spec {P : Program} {T : TypeId} (h : cmpInt P T = true) : ∃ k i, P.underlying T = some (.int k) ∧ P.info? T = some i ∧ i.comparable = true := by
  unfold cmpInt at h
  simp only [Bool.and_eq_true, beq_iff_eq] at h
  obtain ⟨k, hk⟩ := kd_int h.1
  cases hi : P.info? T with
  | none => simp [hi] at h
  | some i => exact ⟨k, i, hk, rfl, by simpa [hi] using h.2⟩

/-- Are they the same? (Of values that may have addresses.) lit: one of the two is a written nil. -/
def aeq (P : Program) (T : TypeId) (lit : Bool) : Value → Value → Option Bool
  | .pointer (some _), .pointer none | .pointer none, .pointer (some _) => match kd P T with
    | .ptr => some false
    | _ => none
  | .pointer none, .pointer none => match kd P T with
    | .ptr => some true
    | _ => none
  | .slice none _ _, .slice none _ _ => match kd P T with
    | .sl => some true
    | _ => none
  | .slice (some _) _ _, .slice none _ _ => match kd P T with
    | .sl => some false
    | _ => none
  | .map none, .map none => match kd P T with
    | .mp => some true
    | _ => none
  | .map (some _), .map none => match kd P T with
    | .mp => some false
    | _ => none
  | .nilFunc, .nilFunc => match kd P T with
    | .fn => some true
    | _ => none
  | .func _ _ _, .nilFunc => match kd P T with
    | .fn => some false
    | _ => none
  | .nilIface, .nilIface => match kd P T with
    | .ifc => if lit then some true else none
    | _ => none
  | .nilIface, .iface _ _ | .iface _ _, .nilIface => match kd P T with
    | .ifc => some false
    | _ => none
  | .iface t v, .iface u x => match kd P T with
    | .ifc => if t = u then
        (match v, x with
          | .int k a, .int k' b => if k = k' ∧ cmpInt P t = true then some (decide (a = b)) else none
          | _, _ => none)
      else some false
    | _ => none
  | .bool a, .bool b => match kd P T with
    | .bl => some (a == b)
    | _ => none
  | _, _ => none

def isLit : Operand → Bool
  | .const _ => true
  | _ => false

theorem iface_form {r : Mp} {t : TypeId} {v u : Value} (h : VRel r (.iface t v) u) : ∃ v', u = .iface t v' ∧ VRel r v v' := by
  cases h with
  | plain _ hp =>
    refine ⟨v, rfl, .plain _ ?_⟩
    cases v <;> first | (simp [plain, flat, flat0] at hp; done) | rfl | (simpa [plain, flat, flat0] using hp)
  | iface t h => exact ⟨_, rfl, h⟩

theorem equal_of {P : Program} {w : World} {T : TypeId} {x y : Value} {q : Bool} (h : ∀ d, (Op.equalIn (d + 2) T x y).run P w = .ok q w) : (Op.equal T x y).run P w = .ok q w := h 9998

set_option maxHeartbeats 4000000 in
theorem aeq_sound {P : Program} {r : Mp} {w : World} {T : TypeId} {lit : Bool} {x y x' y' : Value} {q : Bool} (hx : VRel r x x') (hy : VRel r y y') (h : aeq P T lit x y = some q) :
    (Op.equal T x' y').run P w = .ok q w ∧ (x' = .nilIface → y' = .nilIface → lit = true) ∧ (∀ c d, x' = .agg c → y' = .agg d → False) ∧
    (binOp .eql T x' y' = do pure (.bool (← Op.equal T x' y'))) ∧ (binOp .neq T x' y' = do pure (.bool (!(← Op.equal T x' y')))) := by
  have fin : ∀ {x' y' : Value}, (Op.equal T x' y').run P w = .ok q w → (x' = .nilIface → y' = .nilIface → lit = true) → (∀ c d, x' = .agg c → y' = .agg d → False) →
      (binOp .eql T x' y' = do pure (.bool (← Op.equal T x' y'))) → (binOp .neq T x' y' = do pure (.bool (!(← Op.equal T x' y')))) →
      (Op.equal T x' y').run P w = .ok q w ∧ (x' = .nilIface → y' = .nilIface → lit = true) ∧ (∀ c d, x' = .agg c → y' = .agg d → False) ∧
      (binOp .eql T x' y' = do pure (.bool (← Op.equal T x' y'))) ∧ (binOp .neq T x' y' = do pure (.bool (!(← Op.equal T x' y')))) := fun a b c d e => ⟨a, b, c, d, e⟩
  unfold aeq at h
  split at h <;> (try (cases h; done)) <;> (split at h <;> (try (cases h; done))) <;> rename_i hu
  · obtain ⟨_, hu⟩ := kd_ptr hu
    cases h; cases hy; cases hx <;> refine fin ?_ (by simp) (by simp) rfl rfl <;> exact equal_of fun d => by simp [Op.equalIn, run_underlying hu]
  · obtain ⟨_, hu⟩ := kd_ptr hu
    cases h; cases hx; cases hy <;> refine fin ?_ (by simp) (by simp) rfl rfl <;> exact equal_of fun d => by simp [Op.equalIn, run_underlying hu]
  · obtain ⟨_, hu⟩ := kd_ptr hu
    cases h; cases hx; cases hy; refine fin ?_ (by simp) (by simp) rfl rfl; exact equal_of fun d => by simp [Op.equalIn, run_underlying hu]
  · obtain ⟨_, hu⟩ := kd_sl hu
    cases h; cases hx; cases hy; refine fin ?_ (by simp) (by simp) rfl rfl; exact equal_of fun d => by simp [Op.equalIn, run_underlying hu]
  · obtain ⟨_, hu⟩ := kd_sl hu
    cases h; cases hy; cases hx <;> refine fin ?_ (by simp) (by simp) rfl rfl <;> exact equal_of fun d => by simp [Op.equalIn, run_underlying hu]
  · obtain ⟨_, _, hu⟩ := kd_mp hu
    cases h; cases hx; cases hy; refine fin ?_ (by simp) (by simp) rfl rfl; exact equal_of fun d => by simp [Op.equalIn, run_underlying hu]
  · obtain ⟨_, _, hu⟩ := kd_mp hu
    cases h; cases hy; cases hx <;> refine fin ?_ (by simp) (by simp) rfl rfl <;> exact equal_of fun d => by simp [Op.equalIn, run_underlying hu]
  · obtain ⟨_, _, _, hu⟩ := kd_fn hu
    cases h; cases hx; cases hy; refine fin ?_ (by simp) (by simp) rfl rfl; exact equal_of fun d => by simp [Op.equalIn, run_underlying hu]
  · obtain ⟨_, _, _, hu⟩ := kd_fn hu
    cases h; cases hy; cases hx <;> refine fin ?_ (by simp) (by simp) rfl rfl <;> exact equal_of fun d => by simp [Op.equalIn, run_underlying hu]
  · obtain ⟨_, hu⟩ := kd_ifc hu
    split at h
    · rename_i hl
      cases h; cases hx; cases hy; refine fin ?_ (fun _ _ => hl) (by simp) rfl rfl; exact equal_of fun d => by simp [Op.equalIn, run_underlying hu]
    · cases h
  · obtain ⟨_, hu⟩ := kd_ifc hu
    cases h; cases hx; cases hy <;> refine fin ?_ (by simp) (by simp) rfl rfl <;> exact equal_of fun d => by simp [Op.equalIn, run_underlying hu]
  · obtain ⟨_, hu⟩ := kd_ifc hu
    cases h; cases hy; cases hx <;> refine fin ?_ (by simp) (by simp) rfl rfl <;> exact equal_of fun d => by simp [Op.equalIn, run_underlying hu]
  · obtain ⟨_, hu⟩ := kd_ifc hu
    split at h
    · rename_i htu
      subst htu
      split at h
      · split at h
        · rename_i hk
          obtain ⟨rfl, hcmp⟩ := hk
          obtain ⟨_, i, h1, h2, hcmp⟩ := cmpInt_spec hcmp
          cases h
          have hvx := iface_form hx
          have hvy := iface_form hy
          obtain ⟨v1, rfl, e1⟩ := hvx
          obtain ⟨v2, rfl, e2⟩ := hvy
          cases e1; cases e2
          refine fin ?_ (by simp) (by simp) rfl rfl
          exact equal_of fun d => by simp [Op.equalIn, run_underlying hu, run_underlying h1, typeInfo, h2, hcmp, int_beq]
        · cases h
      · cases h
    · rename_i htu
      cases h
      obtain ⟨v1, rfl, e1⟩ := iface_form hx
      obtain ⟨v2, rfl, e2⟩ := iface_form hy
      refine fin ?_ (by simp) (by simp) rfl rfl
      exact equal_of fun d => by simp [Op.equalIn, run_underlying hu, htu]
  · have hu := kd_bl hu
    cases h; cases hx; cases hy; refine fin ?_ (by simp) (by simp) rfl rfl; exact equal_of fun d => by simp [Op.equalIn, run_underlying hu]

end Am
end Go.Proofs.YtbpabpnpoidpcaaGreatDoor
