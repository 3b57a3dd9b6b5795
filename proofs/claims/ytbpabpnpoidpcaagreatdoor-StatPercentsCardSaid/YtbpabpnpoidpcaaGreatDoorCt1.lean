/- Contracts of functions of the program: sums of bytes. No conditions. -/
import Derived.Test.YtbpabpnpoidpcaaGreatDoorPl1
import Derived.Test.YtbpabpnpoidpcaaGreatDoorPf0
import Derived.Test.YtbpabpnpoidpcaaGreatDoorPf1
set_option maxRecDepth 100000
set_option linter.unusedVariables false
set_option linter.unusedSimpArgs false
namespace Go.Proofs.YtbpabpnpoidpcaaGreatDoor
namespace Am
open Go Go.RowKit

/-- A machine of the program: it does all functions but those that are told. -/
structure Good (M : Mc) : Prop where
  P : M.P = Tryz.prog
  pl : M.pl = plan
  ok : ∀ g, fnOk Tryz.prog plan g = true → g ∉ [177, 88, 298, 6] → M.ok g = true
variable {M : Mc}
theorem callG (hM : Good M) {g : FuncId} {p : PF} {args : List Value} {H : Hp} {Q : Value → Hp → Prop} (hp : pfOf Tryz.prog plan g = some p) (hk : fnOk Tryz.prog plan g = true) (hg : g ∉ [177, 88, 298, 6]) (hn : args.length ≤ p.nt)
    (h : ∀ K : AExit → List ADef → Fr → Hp → Prop, (∀ t' H', vsP (pres t' H' p.res) (fun vs => Q (packed vs) H') → K .ret [] t' H') → (∀ t' H', vsP (pres t' H' p.res) (fun vs => Q (packed vs) H') → K .normal [] t' H') →
      run M g p.nt none none [.code p.pc] [] (fun i => args.getD i undef) H K) : callP M (.func g) args H Q :=
  callP_fn (by rw [hM.P, hM.pl]; exact hp) (hM.ok g hk hg) hn h

/-- A slice that reads as bytes. -/
def Sb (H : Hp) (s : Value) (l : List Nat) : Prop := ∃ a c, s = .slice a l.length c ∧ (∀ i (h : i < l.length), ∃ b o, a = some ⟨b, o, none⟩ ∧ b < H.n ∧ bget (H.f b) (o + i) = some (.int .u8 (l[i] : Nat))) ∧ ∀ x ∈ l, x < 256
theorem Sb.ext {H K : Hp} {s : Value} {l : List Nat} (h : Sb H s l) (k : Ext H K) : Sb K s l := by
  obtain ⟨a, c, h1, h2, h3⟩ := h
  refine ⟨a, c, h1, fun i hi => ?_, h3⟩
  obtain ⟨b, o, e1, e2, e3⟩ := h2 i hi
  exact ⟨b, o, e1, Nat.lt_of_lt_of_le e2 k.1, by rw [k.2 b e2]; exact e3⟩

/-- One step of a register. -/
def crcStep (r : Nat) : Nat := if r &&& 1 = 1 then (r >>> 1) ^^^ 2197175160 else r >>> 1
def crcN : Nat → Nat → Nat
  | 0, r => r
  | n + 1, r => crcStep (crcN n r)
def crc4 (r : Nat) : Nat := crcN 4 r
theorem crcStep_lt {r : Nat} (h : r < 4294967296) : crcStep r < 4294967296 := by
  have : r >>> 1 < 2 ^ 32 := by rw [Nat.shiftRight_eq_div_pow]; omega
  unfold crcStep
  split
  · exact Nat.xor_lt_two_pow this (by decide)
  · exact this
theorem crcN_lt {r : Nat} (h : r < 4294967296) : ∀ n, crcN n r < 4294967296
  | 0 => h
  | n + 1 => crcStep_lt (crcN_lt h n)
def halvesT : List Value := (List.range 16).map fun n => .int .u32 (crc4 n)

theorem halves_inner {k : List It} {H : Hp} {t : Fr} {n : Nat} {K : AExit → List ADef → Fr → Hp → Prop} (h3 : t 3 = .int .u32 n) (h10 : t 10 = .int .i64 0) (hn : n < 4294967296)
   (hk : ∀ t', (∀ j, j ∉ [3, 4, 10, 11, 12, 13, 14, 15, 16, 17, 18, 19, 20] → t' j = t j) → t' 3 = .int .u32 (crc4 n) → run M 317 26 none none k [] t' H K) :
    run M 317 26 none none (.code (.loop pc317_0) :: .done 2 :: k) [] t H K := by
  refine rn_loop (fun t' H' => H' = H ∧ (∀ j, j ∉ [3, 4, 10, 11, 12, 13, 14, 15, 16, 17, 18, 19, 20] → t' j = t j) ∧ ∃ i : Nat, i ≤ 4 ∧ t' 10 = .int .i64 i ∧ t' 3 = .int .u32 (crcN i n)) (fun t _ => 4 - cnt (t 10)) ⟨rfl, fun _ _ => rfl, 0, by omega, h10, h3⟩ ?_
  rintro t' _ ⟨rfl, hf, i, hi, e10, e3⟩ K' hn' hx hr
  have hlt := crcN_lt hn i
  have hs := Nat.shiftRight_le (crcN i n) 1
  have e1 : bAnd .u32 (crcN i n) 1 = ((crcN i n &&& 1 : Nat) : Int) := bAnd_lit (h32 hlt) (by decide) (by decide)
  have e2 : bShr .u32 (crcN i n) 1 = ((crcN i n >>> 1 : Nat) : Int) := bShr_lit (by decide) (by decide)
  have e4 : bXor .u32 (crcN i n >>> 1 : Nat) 2197175160 = (((crcN i n >>> 1) ^^^ 2197175160 : Nat) : Int) := bXor_lit (h32 (by omega)) (by decide) (by decide)
  simp only [go_sem, reduceIte, Nat.reduceEqDiff, Int.reduceLE, pc317_0, e10, e3]
  with_reducible refine bcd (fun h => ?_) (fun h => ?_)
  · simp only [go_sem, reduceIte, Nat.reduceEqDiff, Int.reduceLE, e10, e3, e1, e2]
    have hw : IntKind.i64.wrap (↑i + 1) = ↑i + 1 := wrap64 (by omega)
    with_reducible refine bcd (fun h1 => ?_) (fun h1 => ?_)
    · simp only [go_sem, reduceIte, Nat.reduceEqDiff, Int.reduceLE, e10, e3, e1, e2, e4, hw]
      refine hn' _ _ ?_ ?_
      rotate_left
      · simp only [go_sem, reduceIte, Nat.reduceEqDiff, e10]; omega
      refine ⟨rfl, fun j hj => ?_, i + 1, by omega, rfl, ?_⟩
      · simp at hj; simp [upd_at, hj, hf]
      · have : crcN i n &&& 1 = 1 := by omega
        simp only [upd_at, reduceIte, Nat.reduceEqDiff, crcN, crcStep, if_pos this]
    · simp only [go_sem, reduceIte, Nat.reduceEqDiff, Int.reduceLE, e10, e3, e1, e2, e4, hw]
      refine hn' _ _ ?_ ?_
      rotate_left
      · simp only [go_sem, reduceIte, Nat.reduceEqDiff, e10]; omega
      refine ⟨rfl, fun j hj => ?_, i + 1, by omega, rfl, ?_⟩
      · simp at hj; simp [upd_at, hj, hf]
      · have : ¬ crcN i n &&& 1 = 1 := by omega
        simp only [upd_at, reduceIte, Nat.reduceEqDiff, crcN, crcStep, if_neg this]
  · simp only [go_sem, reduceIte, Nat.reduceEqDiff, Int.reduceLE, e10, e3]
    refine hx _ _ _ _ ?_
    simp only [go_sem]
    have : i = 4 := by omega
    subst this
    refine hk _ (fun j hj => ?_) (by simp only [go_sem, reduceIte, Nat.reduceEqDiff, e3]; rfl)
    simp at hj; simp [upd_at, hj, hf]

/-- crc.halves. -/
theorem halves_spec (hM : Good M) (H : Hp) : callP M (.func 317) [] H fun v H' => Ext H H' ∧ v = .agg halvesT.toArray := by
  refine callG hM pf317_ok ok317 (by decide) (Nat.le_of_ble_eq_true rfl) fun K hret _ => ?_
  simp only [go_sem, reduceIte, Nat.reduceEqDiff, pf317]
  refine rn_loop (fun t H' => t 0 = .pointer (some ⟨H.n, 0, none⟩) ∧ t 1 = .pointer (some ⟨H.n + 1, 0, none⟩) ∧ Ext H H' ∧ H'.n = H.n + 2 ∧ H'.f H.n = .cells false 1 (List.replicate 16 (.int .u32 0)) ∧ ∃ i : Nat, i ≤ 16 ∧ t 5 = .int .i64 i ∧
      H'.f (H.n + 1) = .cells false 1 (halvesT.take i ++ List.replicate (16 - i) (.int .u32 0))) (fun t _ => 16 - cnt (t 5)) ⟨rfl, rfl, ?_, rfl, ?_, 0, by omega, rfl, ?_⟩ ?_
  · exact ((Ext.refl H).alloc').alloc'
  · rw [alloc_old (by simp only [go_sem]; omega)]; exact alloc_new
  · exact alloc_new (H := H.alloc _)
  rintro t' H1 ⟨e0, e1, hext, hn, hb0, i, hi, e5, hb⟩ K' hn' hx hr
  simp only [go_sem, reduceIte, Nat.reduceEqDiff, Int.reduceLE, pc317_1, e5]
  with_reducible refine bcd (fun h => ?_) (fun h => ?_)
  · have hu : IntKind.u32.wrap (i : Int) = i := wrapu32 (by omega)
    simp only [go_sem, reduceIte, Nat.reduceEqDiff, Int.reduceLE, e5, hu]
    refine halves_inner (n := i) rfl rfl (by omega) fun t2 hf2 e3 => ?_
    have g (j : Nat) (hj : j ∉ [3, 4, 10, 11, 12, 13, 14, 15, 16, 17, 18, 19, 20]) := hf2 j hj
    have g1 := g 1 (by decide); have g2 := g 2 (by decide); have g5 := g 5 (by decide); have g0 := g 0 (by decide)
    simp only [go_sem, reduceIte, Nat.reduceEqDiff, e0, e1, e5] at g0 g1 g2 g5
    have hw : IntKind.i64.wrap (↑i + 1) = ↑i + 1 := wrap64 (by omega)
    have hlen : (halvesT.take i ++ List.replicate (16 - i) (Value.int .u32 0)).length = 16 := by
      have : halvesT.length = 16 := rfl
      simp [this]; omega
    simp only [go_sem, reduceIte, Nat.reduceEqDiff, Int.reduceLE, g0, g1, g2, g5, e3, pindexAddr_arr (show i < 16 by omega), hb, pstoreB_one (sz := 1) vcells_int (show i < _ by rw [hlen]; omega), hw]
    refine hn' _ _ ?_ ?_
    · refine ⟨g0, by simp only [go_sem, reduceIte, Nat.reduceEqDiff, g1], hext.put (by omega), hn, ?_, i + 1, by omega, rfl, ?_⟩
      · rw [put_ne (by omega)]; exact hb0
      · simp only [put_same]
        congr 1
        have hl : halvesT.length = 16 := rfl
        refine List.ext_getElem? fun j => ?_
        have hg : ∀ j, j < 16 → halvesT[j]? = some (.int .u32 (crc4 j)) := fun j hj => by simp [halvesT, hj]
        have hti : (halvesT.take i).length = i := by simp [hl]; omega
        have hti1 : (halvesT.take (i + 1)).length = i + 1 := by simp [hl]; omega
        by_cases hj : j = i
        · subst hj
          rw [List.getElem?_set_self (by rw [hlen]; omega), List.getElem?_append_left (by omega), List.getElem?_take_of_lt (by omega), hg j (by omega)]
        · rw [List.getElem?_set_ne (Ne.symm hj)]
          by_cases hj2 : j < i
          · rw [List.getElem?_append_left (by omega), List.getElem?_append_left (by omega), List.getElem?_take_of_lt (by omega), List.getElem?_take_of_lt (by omega)]
          · rw [List.getElem?_append_right (by omega), List.getElem?_append_right (by omega), hti, hti1, List.getElem?_replicate, List.getElem?_replicate]
            by_cases hj3 : j < 16
            · rw [if_pos (by omega), if_pos (by omega)]
            · rw [if_neg (by omega), if_neg (by omega)]
    · simp only [go_sem, reduceIte, Nat.reduceEqDiff, e5]; omega
  · simp only [go_sem, reduceIte, Nat.reduceEqDiff, Int.reduceLE, e5]
    refine hx _ _ _ _ ?_
    have hi16 : i = 16 := by omega
    subst hi16
    have hT : halvesT.take 16 ++ List.replicate (16 - 16) (Value.int .u32 0) = halvesT := rfl
    rw [hT] at hb
    have hone : ∀ v ∈ halvesT, v.oneCell' = true := by
      intro v hv
      simp only [halvesT, List.mem_map] at hv
      obtain ⟨n, _, rfl⟩ := hv
      rfl
    simp only [go_sem, reduceIte, Nat.reduceEqDiff, e0, e1, hb, hb0, bgets_all (show halvesT.length = 16 from rfl), pstoreB_n (vcells_agg hone) (show halvesT.length = 16 from rfl) (show 0 + 16 ≤ (List.replicate 16 (Value.int .u32 0)).length by decide)]
    refine hret _ _ ?_
    have hwl : writeL (List.replicate 16 (Value.int .u32 0)) 0 halvesT = halvesT := rfl
    simp only [pf317, pres, go_sem, reduceIte, Nat.reduceEqDiff, e0, put_same, hwl, bgets_all (show halvesT.length = 16 from rfl)]
    exact hext.put (Nat.le_refl _)

/-- What becomes of a register by bytes. -/
def tab (n : Nat) : Nat := crc4 n
def crcByte (r c : Nat) : Nat := let r := r ^^^ c
  let r := (r >>> 4) ^^^ tab (r &&& 15)
  (r >>> 4) ^^^ tab (r &&& 15)
def crcRun (r : Nat) (l : List Nat) : Nat := l.foldl crcByte r
theorem tab_lt {n : Nat} (h : n < 16) : tab n < 4294967296 := crcN_lt (by omega) 4
theorem xor_lt32 {a b : Nat} (ha : a < 4294967296) (hb : b < 4294967296) : a ^^^ b < 4294967296 := Nat.xor_lt_two_pow (n := 32) ha hb
theorem and15 (r : Nat) : r &&& 15 < 16 := Nat.lt_of_le_of_lt Nat.and_le_right (by decide)
theorem crcByte_lt {r c : Nat} (h : r < 4294967296) (hc : c < 256) : crcByte r c < 4294967296 := by
  have h1 := xor_lt32 h (show c < 4294967296 by omega)
  have h2 := xor_lt32 (Nat.lt_of_le_of_lt (Nat.shiftRight_le _ 4) h1) (tab_lt (and15 (r ^^^ c)))
  exact xor_lt32 (Nat.lt_of_le_of_lt (Nat.shiftRight_le _ 4) h2) (tab_lt (and15 _))
theorem crcRun_lt {r : Nat} (h : r < 4294967296) : ∀ (l : List Nat), (∀ x ∈ l, x < 256) → crcRun r l < 4294967296 := by
  intro l
  induction l generalizing r with
  | nil => exact fun _ => h
  | cons c l ih => exact fun hl => ih (crcByte_lt h (hl c (by simp))) fun x hx => hl x (by simp [hx])

theorem halvesT_get {i : Nat} (h : i < 16) : halvesT[i]? = some (.int .u32 (tab i)) := by simp [halvesT, h, tab]

theorem half_step {r : Nat} (h : r < 4294967296) : bShr .u32 r 4 = ((r >>> 4 : Nat) : Int) ∧ bAnd .u32 r 15 = ((r &&& 15 : Nat) : Int) ∧ bXor .u32 ((r >>> 4 : Nat) : Int) ((tab (r &&& 15) : Nat) : Int) = (((r >>> 4) ^^^ tab (r &&& 15) : Nat) : Int) :=
  ⟨bShr_lit (by decide) (by decide), bAnd_lit (h32 h) (by decide) (by decide), bXor_nat (h32 (Nat.lt_of_le_of_lt (Nat.shiftRight_le _ 4) h)) (h32 (tab_lt (and15 r)))⟩

/-- crc.run. -/
theorem crcrun_spec (hM : Good M) {H : Hp} {r : Nat} {s : Value} {l : List Nat} (hr : r < 4294967296) (hs : Sb H s l) (hl : l.length < 4611686018427387904) :
    callP M (.func 291) [.int .u32 r, s] H fun v H' => Ext H H' ∧ v = .int .u32 (crcRun r l) := by
  obtain ⟨a, c, rfl, hget, h256⟩ := hs
  refine callG hM pf291_ok ok291 (by decide) (Nat.le_of_ble_eq_true rfl) fun K hret _ => ?_
  simp only [go_sem, reduceIte, Nat.reduceEqDiff, pf291]
  refine cal (halves_spec hM H) ?_
  rintro v H1 ⟨hext, rfl⟩
  have hone : ∀ v ∈ halvesT, v.oneCell' = true := by
    intro v hv
    simp only [halvesT, List.mem_map] at hv
    obtain ⟨n, _, rfl⟩ := hv
    rfl
  have hwl : writeL (List.replicate 16 (Value.int .u32 0)) 0 halvesT = halvesT := rfl
  simp only [go_sem, reduceIte, Nat.reduceEqDiff, pstoreB_n (vcells_agg hone) (show halvesT.length = 16 from rfl) (show 0 + 16 ≤ (List.replicate 16 (Value.int .u32 0)).length by decide), hwl]
  refine rn_loop (fun t H' => Ext H H' ∧ t 5 = .pointer (some ⟨H1.n, 0, none⟩) ∧ H'.f H1.n = .cells false 1 halvesT ∧ t 9 = .slice a l.length c ∧ t 10 = .int .i64 l.length ∧ ∃ i : Nat, i ≤ l.length ∧ t 11 = .int .i64 i ∧ t 0 = .int .u32 (crcRun r (l.take i))) (fun t _ => l.length - cnt (t 11))
    ⟨hext.alloc'.put (by have := hext.1; omega), rfl, put_same, rfl, rfl, 0, by omega, rfl, rfl⟩ ?_
  rintro t H2 ⟨hext2, e5, hb, e9, e10, i, hi, e11, e0⟩ K' hn' hx hr'
  have hlt : crcRun r (l.take i) < 4294967296 := crcRun_lt hr _ fun x hx => h256 x (List.mem_of_mem_take hx)
  simp only [go_sem, reduceIte, Nat.reduceEqDiff, Int.reduceLE, pc291_0, e10, e11]
  with_reducible refine bcd (fun h => ?_) (fun h => ?_)
  · have hil : i < l.length := by omega
    obtain ⟨b, o, rfl, hbn, hbg⟩ := hget i hil
    have hc : l[i] < 256 := h256 _ (List.getElem_mem hil)
    have hbg2 : bget (H2.f b) (o + i) = some (.int .u8 (l[i] : Nat)) := by rw [hext2.2 b hbn]; exact hbg
    have hq : crcRun r (l.take (i + 1)) = crcByte (crcRun r (l.take i)) l[i] := by
      unfold crcRun
      rw [List.take_succ_eq_append_getElem hil, List.foldl_append]
      rfl
    generalize crcRun r (l.take i) = q at hlt e0 hq
    have x1 : q ^^^ l[i] < 4294967296 := xor_lt32 hlt (by omega)
    have y1 : bXor .u32 (q : Int) ((l[i] : Nat) : Int) = ((q ^^^ l[i] : Nat) : Int) := bXor_nat (h32 hlt) (h32 (by omega))
    have hu : IntKind.u32.wrap ((l[i] : Nat) : Int) = ((l[i] : Nat) : Int) := wrapu32 (by omega)
    obtain ⟨s1, s2, s3⟩ := half_step x1
    have x2 : (q ^^^ l[i]) >>> 4 ^^^ tab ((q ^^^ l[i]) &&& 15) < 4294967296 := xor_lt32 (Nat.lt_of_le_of_lt (Nat.shiftRight_le _ 4) x1) (tab_lt (and15 _))
    obtain ⟨s4, s5, s6⟩ := half_step x2
    have hw : IntKind.i64.wrap (↑i + 1) = ↑i + 1 := wrap64 (by omega)
    have i1 := halvesT_get (and15 (q ^^^ l[i]))
    have i2 := halvesT_get (and15 ((q ^^^ l[i]) >>> 4 ^^^ tab ((q ^^^ l[i]) &&& 15)))
    simp only [go_sem, reduceIte, Nat.reduceEqDiff, Int.reduceLE, e9, e11, e0, e5, pindexAddr_sl hil, hbg2, hu, y1, s1, s2, s3, s4, s5, s6, pindexAddr_arr (and15 _), hb, i1, i2, hw]
    refine hn' _ _ ?_ ?_
    · refine ⟨hext2, by simp only [upd_at, reduceIte, Nat.reduceEqDiff, e5], hb, by simp only [upd_at, reduceIte, Nat.reduceEqDiff, e9], by simp only [upd_at, reduceIte, Nat.reduceEqDiff, e10], i + 1, by omega, rfl, ?_⟩
      simp only [upd_at, reduceIte, Nat.reduceEqDiff, hq, crcByte]
    · simp only [go_sem, reduceIte, Nat.reduceEqDiff, e11]; omega
  · simp only [go_sem, reduceIte, Nat.reduceEqDiff, Int.reduceLE, e11]
    refine hx _ _ _ _ ?_
    have : i = l.length := by omega
    subst this
    simp only [go_sem, reduceIte, Nat.reduceEqDiff, e0]
    refine hret _ _ ?_
    simp only [go_sem, reduceIte, Nat.reduceEqDiff, pf291, List.take_length]
    exact hext2

end Am
end Go.Proofs.YtbpabpnpoidpcaaGreatDoor
