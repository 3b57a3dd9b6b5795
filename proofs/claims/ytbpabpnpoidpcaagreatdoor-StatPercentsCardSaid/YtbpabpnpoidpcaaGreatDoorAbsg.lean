/- The abstract machine's regions whose order is drawn: every order answers as the plan's. No conditions. -/
import Derived.Test.YtbpabpnpoidpcaaGreatDoorAbsf
set_option linter.unusedVariables false
set_option linter.unusedSimpArgs false
namespace Go.Proofs.YtbpabpnpoidpcaaGreatDoor
namespace Am
open Go Go.RowKit

theorem flat_plain {v : Value} (h : flat v = true) : plain v = true := by
  cases v with
  | iface t u => cases u <;> simp_all [flat, flat0, plain]
  | _ => simp_all [flat, flat0, plain]

section
variable {P : Program} {call : CallF} {n : Nat} {ops : Array Oper} {c : List PE} {T : Nat → Fr} {G : Nat → Hp} {r0 : Mp} {w0 : World} {dfs : List Deferred} {listed : Array Bool} {m : Nat} {ρ : Mp} {a : Act} {w : World}

/-- The slots that a reading looks at stay as they are. -/
theorem Tr.look (h : Tr P call n ops c T G) {p q : Nat} {e : PE} (hp : c[p]? = some e) (hra : isRA P ops e.i = true) (hown : hits ops e.i e.i = false) (hpq : p ≤ q) (hq : q ≤ c.length) : ∀ x ∈ looks ops e.i, T q x = T p x := by
  intro x hx
  refine h.keep hpq hq fun k e2 h1 h2 h3 h4 => ?_
  have hh := hits_of h4 hx
  rcases Nat.eq_or_lt_of_le h1 with rfl | h1
  · rw [hp] at h3
    cases h3
    rw [hh] at hown; cases hown
  · rw [(h.pair' hp h3 h1).2.2.2.2 hra] at hh
    cases hh

theorem Tr.late (h : Tr P call n ops c T G) {p q : Nat} {e e' : PE} (hp : c[p]? = some e) (hra : isRA P ops e.i = true) (hown : hits ops e.i e.i = false) (hpq : p < q) (hq : c[q]? = some e') (hj : e.i ∈ e'.js)
    {o : Oper} (ho : ops[e.i]? = some o) (hw : awanted ops (T p) o = some true) {v : Value} (hT : T (p + 1) = aput (T p) o.dst v) :
    (cl P o.op = .alloc → ∀ x ∈ o.op.operands, flat (ev (T p) x) = true) ∧ (cl P o.op ≠ .alloc → astep P call (T p) (G (q + 1)) o = some (v, G (q + 1))) := by
  have hql : q < c.length := (List.getElem?_eq_some_iff.1 hq).1
  have hl := h.lt q e' hq e.i hj
  have hlk : ∀ x ∈ o.looksAt ops, T (q + 1) x = T p x := fun x hx => h.look hp hra hown (by omega) (by omega) x (by simpa [looks, ho] using hx)
  obtain ⟨g1, g2, g3⟩ := agree (P := P) (call := call) (ops := ops) hlk
  unfold Am.late at hl
  simp only [ho, g1, hw] at hl
  refine ⟨fun hc x hx => ?_, fun hc => ?_⟩
  · rw [if_pos hc] at hl
    rw [← g2 x hx]
    exact hl x hx
  · rw [if_neg hc] at hl
    obtain ⟨d, hd, hs⟩ := hl
    rw [g3] at hs
    rw [hs]
    have : T (q + 1) d = v := by
      rw [h.keep (x := d) (p := p + 1) (q := q + 1) (by omega) (by omega) (fun k e2 h1 h2 h3 h4 => by
        have := h.uniq h3 hp h4 (show gslot ops e.i = some d by simp [gslot, ho, hd]); omega)]
      rw [hT, hd]
      simp [aput]
    rw [this]

theorem Tr.reads (h : Tr P call n ops c T G) {p : Nat} {e : PE} (hp : c[p]? = some e) (hr : opCl P ops e.i = .read) (hown : hits ops e.i e.i = false) {o : Oper} (ho : ops[e.i]? = some o)
    (hw : awanted ops (T p) o = some true) {v : Value} (hT : T (p + 1) = aput (T p) o.dst v) : ∀ (l : List PE) (q : Nat) (fr : Bool), p < q → c.drop q = l → covR P ops e fr l = true →
    (fr = true → astep P call (T p) (G q) o = some (v, G q)) → ∀ (q' : Nat) (e' : PE), q ≤ q' → c[q']? = some e' → e'.m.testBit e.i = false → astep P call (T p) (G (q' + 1)) o = some (v, G (q' + 1)) := by
  intro l
  induction l with
  | nil =>
    intro q fr _ hd _ _ q' e' hq hq' _
    have : c.length ≤ q := by simpa using hd
    have := (List.getElem?_eq_some_iff.1 hq').1
    omega
  | cons e1 l ih =>
    intro q fr hpq hd hcov hfr q' e' hqq hq' hb
    have hq1 : c[q]? = some e1 := by
      have : (c.drop q)[0]? = some e1 := by rw [hd]; rfl
      simpa using this
    have hd' : c.drop (q + 1) = l := by
      have : (c.drop q).drop 1 = l := by rw [hd]; rfl
      simpa [Nat.add_comm] using this
    simp only [covR, Bool.and_eq_true] at hcov
    have hne : cl P o.op ≠ .alloc := by
      have : cl P o.op = .read := by simpa [opCl, ho] using hr
      rw [this]; simp
    have hfr' : (e1.js.contains e.i || (fr && (opCl P ops e1.i == .pure || opCl P ops e1.i == .read))) = true → astep P call (T p) (G (q + 1)) o = some (v, G (q + 1)) := by
      intro hf
      simp only [Bool.or_eq_true, Bool.and_eq_true, beq_iff_eq] at hf
      rcases hf with hf | ⟨h1, h2⟩
      · exact (h.late hp (by simp [isRA, hr]) hown hpq hq1 (by simpa using hf) ho hw hT).2 hne
      · rw [h.same hq1 h2]
        exact hfr h1
    rcases Nat.eq_or_lt_of_le hqq with rfl | hlt
    · rw [hq1] at hq'
      cases hq'
      exact hfr' (by simpa [hb] using hcov.1)
    · exact ih (q + 1) _ (by omega) hd' hcov.2 hfr' q' e' (by omega) hq' hb

/-- An operation whenever it may be done. -/
theorem Tr.next (h : Tr P call n ops c T G) (hc : CallOk P call) (hs0 : Sim r0 (G 0) w0) (I : Inv P n ops c T G r0 w0 dfs listed m ρ a w) {i : Nat} (hi : i ∈ Region.ready .any ops listed) {ro : Option Nat} {Q : Exit → Act → World → Prop}
    {K : Act → World → Prop} (hk : ∀ m' ρ' a' w', Inv P n ops c T G r0 w0 dfs (listed.setIfInBounds i true) m' ρ' a' w' → K a' w') : wpOpIn (Fw ro) 0 P ops Q i K a w := by
  have hil : i < ops.size := by
    obtain ⟨_, o, ho, _⟩ := mem_ready.1 hi
    exact (Array.getElem?_eq_some_iff.1 ho).1
  obtain ⟨p, e, hp, rfl⟩ := h.all i hil
  have hpl : p < c.length := (List.getElem?_eq_some_iff.1 hp).1
  obtain ⟨hnd, hpre⟩ := h.ready I hp hi
  have hmix := h.mix I.cl hp hnd hpre
  obtain ⟨o, v, ho, hT, hd⟩ := h.did hp
  have hlk : ∀ x ∈ o.looksAt ops, mixF ops c (T 0) (T c.length) (done listed) x = T p x := fun x hx => hmix x (by simpa [looks, ho] using hx)
  obtain ⟨g1, g2, g3⟩ := agree (P := P) (call := call) (ops := ops) hlk
  have hok := regOk_spec h.reg ho
  have hgs : gslot ops e.i = o.dst := by simp [gslot, ho]
  have hcl : opCl P ops e.i = cl P o.op := by simp [opCl, ho]
  have hxr : ∀ x ∈ o.op.operands, VRel ρ (ev (T p) x) (a.eval x) := fun x hx => by
    rw [← g2 x hx]
    simp only [operOk, Bool.and_eq_true, Array.all_eq_true'] at hok
    exact ev_rel I.fr (hok.1 x hx)
  have hnw : m ≤ p → ∀ k e, m ≤ k → k < p → c[k]? = some e → opCl P ops e.i ≠ .writer := by
    intro hm k e2 h1 h2 h3 h4
    rcases (h.pair' h3 hp h2).2.2.1 with h5 | ⟨h5, _⟩
    · have := I.lt k e2 h3 (hpre _ (h.lt_size h3) h5); omega
    · exact h5 h4
  have hdn := operOk_dst hok
  unfold wpOpIn
  simp only [ho]
  rcases hd with ⟨hw, rfl, hG⟩ | ⟨hw, hst⟩
  · have hb := awanted_sound I.fr (g1.trans hw)
    simp only [hb, Bool.false_eq_true, if_false]
    refine ⟨fun _ _ => trivial, ?_⟩
    by_cases hpm : m ≤ p
    · refine hk (p + 1) ρ _ w (h.after_ge hs0 I hp hnd hpre hgs hdn hT hpm (hnw hpm) ?_ ?_ (.plain _ plain_undef))
      · rw [hG]; exact I.sim.ext (h.grows hpm (by omega) (hnw hpm))
      · rw [hG]; exact Step.refl _ _ _
    · exact hk m ρ _ w (h.after_lt I hp hnd hpre hgs hdn hT (by omega) I.sim I.st (Mp.le.refl _) (fun b hb _ _ => hb) (.plain _ plain_undef))
  · have hb := awanted_sound I.fr (g1.trans hw)
    simp only [hb, if_true]
    by_cases hpm : m ≤ p
    · have E := h.grows hpm (by omega) (hnw hpm)
      exact astep_sound' hc (I.sim.ext E) hxr hst fun r' v' w' h1 h2 h3 =>
        hk (p + 1) r' _ w' (h.after_ge hs0 I hp hnd hpre hgs hdn hT hpm (hnw hpm) h2 h3 h1)
    · have hpm : p < m := by omega
      obtain ⟨e', hq, hqd⟩ : ∃ e, c[m - 1]? = some e ∧ done listed e.i := by
        rcases I.last with h1 | h1
        · omega
        · exact h1
      have hlt : p < m - 1 := by
        rcases Nat.lt_or_ge p (m - 1) with h1 | h1
        · exact h1
        · have : p = m - 1 := by omega
          subst this
          rw [hp] at hq
          cases hq
          exact absurd hqd hnd
      have hnb : e'.m.testBit e.i = false := by
        cases hx : e'.m.testBit e.i with
        | false => rfl
        | true => exact absurd (I.cl _ _ hq hqd _ (h.lt_size hp) hx) hnd
      have hnwr : cl P o.op ≠ .writer := by
        rcases (h.pair' hp hq hlt).2.2.1 with h5 | ⟨h5, _⟩
        · rw [hnb] at h5; cases h5
        · rw [← hcl]; exact h5
      have hm1 : m - 1 + 1 = m := by omega
      have value : astep P call (T p) (G m) o = some (v, G m) → o.wpIn (Fw ro) 0 P a w K Q := by
        intro hst
        refine astep_sound' hc I.sim hxr hst fun r' v' w' h1 h2 h3 => ?_
        exact hk m r' _ w' (h.after_lt I hp hnd hpre hgs hdn hT hpm h2 (I.st.trans hs0 h3) h3.le (fun b hb hbm _ => (h3.old b hbm hb).1) h1)
      cases hkd : cl P o.op with
      | writer => exact absurd hkd hnwr
      | pure => exact value (astep_free hkd hst _)
      | read =>
        have hr : opCl P ops e.i = .read := hcl.trans hkd
        obtain ⟨hcov, hown⟩ := (h.cov p e hp).1 hr
        have := h.reads hp hr hown ho hw hT _ (p + 1) true (by omega) rfl hcov (fun _ => by
          have hG := astep_keep (.inr hkd) hst
          rw [hG] at hst ⊢
          exact hst) (m - 1) e' (by omega) hq hnb
        rw [hm1] at this
        exact value this
      | alloc =>
        have hr : opCl P ops e.i = .alloc := hcl.trans hkd
        obtain ⟨hcov, hown⟩ := (h.cov p e hp).2 hr
        have hflat : ∀ x ∈ o.op.operands, flat (ev (T p) x) = true := by
          simp only [covA, Bool.or_eq_true] at hcov
          rcases hcov with hcov | hcov
          · have : e' ∈ c.drop (p + 1) := by
              refine List.mem_iff_getElem?.2 ⟨m - 1 - (p + 1), ?_⟩
              rw [List.getElem?_drop, show p + 1 + (m - 1 - (p + 1)) = m - 1 by omega]
              exact hq
            have := List.all_eq_true.1 hcov e' this
            rw [hnb] at this
            cases this
          · obtain ⟨e2, he2, hj⟩ := List.any_eq_true.1 hcov
            obtain ⟨k, hk⟩ := List.mem_iff_getElem?.1 he2
            rw [List.getElem?_drop] at hk
            exact (h.late hp (by simp [isRA, hr]) hown (by omega) hk (by simpa using hj) ho hw hT).1 hkd
        obtain ⟨B, hB, hBK⟩ := astep_alloc hkd hst
        have hst0 := hBK ⟨(G p).n, fun _ => .dead⟩ rfl
        have hsE : Sim (fun _ => none) ⟨(G p).n, fun _ => .dead⟩ w := ⟨fun b x hb => (by cases hb), fun b x hb => (by cases hb), fun b x hb => (by cases hb), fun b b' x x' hb => (by cases hb)⟩
        have hxE : ∀ x ∈ o.op.operands, VRel (fun _ => none) (ev (T p) x) (a.eval x) := fun x hx => by
          rw [flat_eq (hxr x hx) (hflat x hx)]
          exact .plain _ (flat_plain (hflat x hx))
        refine astep_sound' hc hsE hxE hst0 fun r' v' w' h1 h2 h3 => ?_
        have hbn : (G (p + 1)).n = (G p).n + 1 := by rw [hB]; rfl
        obtain ⟨k1, k2, k3⟩ := I.skip p e hpm hp hnd (G p).n (Nat.le_refl _) (by omega)
        have hBm : (G m).f (G p).n = B := by rw [k2, hB]; simp [Hp.alloc]
        have hr' : ∀ y x, r' y = some x → y = (G p).n ∧ w.heap.size ≤ x.c := by
          intro y x hy
          have h4 := h2.lt y x hy
          simp only [Hp.alloc] at h4
          rcases Nat.lt_or_ge y (G p).n with h5 | h5
          · have := (h3.old y h5 rfl).1
            rw [hy] at this; cases this
          · refine ⟨by omega, ?_⟩
            rcases h3.new y x rfl hy with h6 | ⟨b, x, h6, _⟩
            · exact h6
            · cases h6
        have hsame : ∀ k, k < w.heap.size → w'.heap[k]? = w.heap[k]? := fun k hk => h3.same k hk (fun ⟨b, x, h6, _⟩ => by cases h6)
        let ρ' : Mp := fun y => if y = (G p).n then r' y else ρ y
        have hρb : ρ' (G p).n = r' (G p).n := if_pos rfl
        have hρo : ∀ y, y ≠ (G p).n → ρ' y = ρ y := fun y hy => if_neg hy
        have le1 : Mp.le ρ ρ' := fun y x hy => by
          have : y ≠ (G p).n := fun e => by rw [e, k1] at hy; cases hy
          rw [hρo y this]; exact hy
        have le2 : Mp.le r' ρ' := fun y x hy => by
          obtain ⟨rfl, _⟩ := hr' y x hy
          rw [hρb]; exact hy
        have hsim : Sim ρ' (G m) w' := by
          have cases' : ∀ y x, ρ' y = some x → (y = (G p).n ∧ r' y = some x) ∨ (y ≠ (G p).n ∧ ρ y = some x) := by
            intro y x hy
            by_cases e : y = (G p).n
            · exact .inl ⟨e, by rw [← hy, e, hρb]⟩
            · exact .inr ⟨e, by rw [← hy, hρo y e]⟩
          refine ⟨fun y x hy => ?_, fun y x hy => ?_, fun y x hy => ?_, fun y y' x x' hy hy' hxx hl hl' => ?_⟩
          · rcases cases' y x hy with ⟨rfl, _⟩ | ⟨_, h7⟩
            · exact k3
            · exact I.sim.lt y x h7
          · rcases cases' y x hy with ⟨_, h7⟩ | ⟨_, h7⟩
            · exact h2.ltw y x h7
            · exact Nat.lt_of_lt_of_le (I.sim.ltw y x h7) h3.size
          · rcases cases' y x hy with ⟨rfl, h7⟩ | ⟨_, h7⟩
            · have := h2.blk _ x h7
              rw [show (Hp.alloc ⟨(G p).n, fun _ => .dead⟩ B).f (G p).n = B by simp [Hp.alloc]] at this
              rw [hBm]
              exact this.mono le2
            · exact ((I.sim.blk y x h7).mono le1).same (hsame _ (I.sim.ltw y x h7))
          · rcases cases' y x hy with ⟨e1, h7⟩ | ⟨e1, h7⟩ <;> rcases cases' y' x' hy' with ⟨e2, h8⟩ | ⟨e2, h8⟩
            · rw [e1, e2]
            · have := (hr' y x h7).2; have := I.sim.ltw y' x' h8; omega
            · have := (hr' y' x' h8).2; have := I.sim.ltw y x h7; omega
            · exact I.sim.inj y y' x x' h7 h8 hxx hl hl'
        have h0n : (G 0).n ≤ (G p).n := I.le (Nat.zero_le _) (by omega)
        have hstep : Step r0 (G 0) w0 ρ' (G m) w' := by
          refine ⟨I.st.le.trans le1, I.st.hn, fun y hy hr => ?_, I.st.ro, fun y x hr hy => ?_, h3.os.trans I.st.os, h3.tape.trans I.st.tape, h3.output.trans I.st.output, Nat.le_trans I.st.size h3.size, fun k hk hw => ?_⟩
          · obtain ⟨a1, a2⟩ := I.st.old y hy hr
            exact ⟨by rw [hρo y (by omega)]; exact a1, a2⟩
          · by_cases e : y = (G p).n
            · subst e
              rw [hρb] at hy
              exact .inl (Nat.le_trans I.st.size (hr' _ x hy).2)
            · rw [hρo y e] at hy
              exact I.st.new y x hr hy
          · rw [hsame k (Nat.lt_of_lt_of_le hk I.st.size)]
            exact I.st.same k hk hw
        exact hk m ρ' _ w' (h.after_lt I hp hnd hpre hgs hdn hT hpm hsim hstep le1 (fun b hb hbm ⟨q, e2, h4, h5, h6, h7, h8, h9⟩ => by
          rcases Nat.lt_or_ge q p with h10 | h10
          · have := I.le (p := q + 1) (q := p) (by omega) (by omega)
            rw [hρo b (by omega)]
            exact hb
          · have := I.le (p := p + 1) (q := q) (by omega) (by omega)
            rw [hρo b (by omega)]
            exact hb) (h1.mono le2))

/-- Every order. -/
theorem Tr.any (h : Tr P call n ops c T G) (hc : CallOk P call) (hs0 : Sim r0 (G 0) w0) {ro : Option Nat} {Q : Exit → Act → World → Prop}
    (hq : ∀ r' a' w', FRel r' n (T c.length) a' → a'.defers = dfs → Sim r' (G c.length) w' → Step r0 (G 0) w0 r' (G c.length) w' → Q .normal a' w') :
    ∀ (fuel : Nat) (listed : Array Bool) (m : Nat) (ρ : Mp) (a : Act) (w : World), Inv P n ops c T G r0 w0 dfs listed m ρ a w → ((List.range ops.size).filter fun k => !listed.getD k false).length ≤ fuel → wpAnyIn (Fw ro) 0 P .any ops Q fuel listed a w := by
  have fin : ∀ (listed : Array Bool) (m : Nat) (ρ : Mp) (a : Act) (w : World), Inv P n ops c T G r0 w0 dfs listed m ρ a w → Region.ready .any ops listed = [] → Q .normal a w := by
    intro listed m ρ a w I hr
    have hall : ∀ p, p < c.length → ∀ e, c[p]? = some e → done listed e.i := by
      intro p
      induction p using Nat.strongRecOn with
      | _ p ih =>
        intro hp e he
        by_cases hd : done listed e.i
        · exact hd
        · exfalso
          have hsz := h.lt_size he
          obtain ⟨o, ho, _⟩ := h.op he
          have : e.i ∈ Region.ready .any ops listed := by
            refine mem_ready.2 ⟨?_, o, ho, fun x hx hb => ?_⟩
            · have hsi : e.i < listed.size := by rw [I.size]; exact hsz
              have : listed[e.i] ≠ true := fun q => hd (by unfold done; simp [hsi, q])
              simp [hsi, this]
            · have hed := h.edge p e he
              unfold edgeOk at hed
              simp only [ho, Bool.and_eq_true] at hed
              have h1 := Array.all_eq_true'.1 hed.1 x hx
              simp only [hb, Bool.not_true, Bool.false_or, Bool.and_eq_true, decide_eq_true_eq, bne_iff_ne, ne_eq] at h1
              obtain ⟨q, e', hq', hqi⟩ := h.all x.on h1.2.1
              have hqp : q < p := by
                rcases Nat.lt_trichotomy q p with h2 | rfl | h2
                · exact h2
                · rw [he] at hq'
                  cases hq'
                  exact absurd hqi.symm h1.2.2
                · have := (h.pair' he hq' h2).2.1
                  rw [hqi, h1.1] at this
                  cases this
              have := ih q hqp (by omega) e' hq'
              rw [hqi] at this
              exact this
          rw [hr] at this
          cases this
    have hm : m = c.length := by
      rcases Nat.eq_zero_or_pos c.length with h0 | h0
      · have := I.len; omega
      · obtain ⟨e, he⟩ := h.get (p := c.length - 1) (by omega)
        have := I.lt _ e he (hall _ (by omega) e he)
        have := I.len
        omega
    have hmix : mixF ops c (T 0) (T c.length) (done listed) = T c.length := by
      funext x
      unfold mixF
      split
      · rfl
      · rename_i hne
        exact (h.keep (x := x) (p := 0) (q := c.length) (Nat.zero_le _) (Nat.le_refl _) (fun k e2 h1 h2 h3 h4 => hne ⟨k, e2, h3, hall k h2 e2 h3, h4⟩)).symm
    subst hm
    have hfr := I.fr
    rw [hmix] at hfr
    exact hq ρ a w hfr I.dfr I.sim I.st
  have less : ∀ (l : List Nat) (p q : Nat → Bool) (i : Nat), i ∈ l → p i = true → q i = false → (∀ k, q k = true → p k = true) → (l.filter q).length < (l.filter p).length := by
    intro l p q i
    induction l with
    | nil => intro h; cases h
    | cons x l ih =>
      intro hm hp hq hle
      have hle' : (l.filter q).length ≤ (l.filter p).length := by
        clear ih hm
        induction l with
        | nil => simp
        | cons y l ih =>
          simp only [List.filter_cons]
          cases h1 : q y with
          | true => simp [hle y h1, ih]
          | false => cases h2 : p y <;> simp <;> omega
      simp only [List.filter_cons]
      rcases List.mem_cons.1 hm with rfl | hm
      · simp only [hp, hq, if_true, Bool.false_eq_true, if_false, List.length_cons]
        omega
      · have := ih hm hp hq hle
        cases h1 : q x with
        | true => simp [hle x h1]; exact this
        | false => cases h2 : p x <;> simp <;> omega
  intro fuel
  induction fuel with
  | zero =>
    intro listed m ρ a w I hf
    have hr : Region.ready .any ops listed = [] := by
      cases hr : Region.ready .any ops listed with
      | nil => rfl
      | cons i rs =>
        exfalso
        have hi : i ∈ Region.ready .any ops listed := by rw [hr]; simp
        obtain ⟨h0, o, ho, _⟩ := mem_ready.1 hi
        have hil := (Array.getElem?_eq_some_iff.1 ho).1
        obtain ⟨p, e, hp, rfl⟩ := h.all i hil
        have hnd := (h.ready I hp hi).1
        have : e.i ∈ (List.range ops.size).filter fun k => !listed.getD k false := List.mem_filter.2 ⟨List.mem_range.2 hil, by unfold done at hnd; simpa using hnd⟩
        have := List.length_pos_of_mem this
        omega
    exact ⟨hr, fin listed m ρ a w I hr⟩
  | succ fuel ih =>
    intro listed m ρ a w I hf
    refine ⟨fin listed m ρ a w I, fun i hi => ?_⟩
    refine h.next hc hs0 I hi fun m' ρ' a' w' I' => ih _ m' ρ' a' w' I' ?_
    obtain ⟨h0, o, ho, _⟩ := mem_ready.1 hi
    have hil := (Array.getElem?_eq_some_iff.1 ho).1
    obtain ⟨p, e, hp, rfl⟩ := h.all i hil
    have hnd := (h.ready I hp hi).1
    have hsi : e.i < listed.size := by rw [I.size]; exact hil
    have := less (List.range ops.size) (fun k => !listed.getD k false) (fun k => !(listed.setIfInBounds e.i true).getD k false) e.i (List.mem_range.2 hil)
      (by unfold done at hnd; simpa using hnd) (by have := (done_set hsi e.i).2 (.inr rfl); unfold done at this; simp only [this]; rfl)
      (fun k hk => by
        cases hq : listed.getD k false with
        | false => rfl
        | true =>
          have := (done_set hsi k).2 (.inl hq)
          unfold done at this
          simp only [this] at hk
          cases hk)
    omega

end

theorem Sim.drawn {r : Mp} {H : Hp} {w : World} (hs : Sim r H w) (k : Nat) : Sim r H { w with drawn := k } :=
  ⟨hs.lt, hs.ltw, fun b x hb => (hs.blk b x hb).same rfl, hs.inj⟩

/-- A region whose order is drawn, in the model. -/
theorem adraw_sound {P : Program} {call : CallF} {n : Nat} {ops : Array Oper} {c : List PE} (hc : CallOk P call) (hm : P.follows .mixedOrders = true) (hp : planOk P n ops c = true) {r : Mp} {H H' : Hp} {w : World} (hs : Sim r H w) {t t' : Fr} {a : Act} (hf : FRel r n t a)
    (h : adraw P call ops c t H = some (t', H')) {id : Nat} {ro : Option Nat} {Q : Exit → Act → World → Prop} (hq : ∀ r' a' w', FRel r' n t' a' → a'.defers = a.defers → Sim r' H' w' → Step r H w r' H' w' → Q .normal a' w') : (Code.region id ops true).wpIn (Fw ro) 0 P Q a w := by
  obtain ⟨T, G, rfl, rfl, rfl, rfl, h5⟩ := adraw_trace c t H h
  have htr := planOk_spec hp h5
  have hs' := hs.drawn (w.drawn + 1)
  refine wpIn_region_any hm (htr.any (dfs := a.defers) hc hs' (fun r' a' w' h1 hd h2 h3 => hq r' a' w' h1 hd h2 ⟨h3.le, h3.hn, h3.old, h3.ro, h3.new, h3.os, h3.tape, h3.output, h3.size, h3.same⟩) ops.size _ 0 r a _ ?_ ?_)
  · have hnd : ∀ k, ¬ done (Array.replicate ops.size false) k := by
      intro k hk
      unfold done at hk
      by_cases h : k < ops.size <;> simp [h] at hk
    refine ⟨by simp, hs', Step.refl _ _ _, ?_, fun p e _ h => absurd h (hnd _), .inl rfl, Nat.zero_le _, fun p e h => absurd h (Nat.not_lt_zero _), fun p e _ h => absurd h (hnd _), fun q h => absurd h (Nat.not_lt_zero _), rfl⟩
    have : mixF ops c (T 0) (T c.length) (done (Array.replicate ops.size false)) = T 0 := by
      funext x
      unfold mixF
      rw [if_neg (fun ⟨p, e, _, h, _⟩ => hnd _ h)]
    rw [this]
    exact hf
  · exact Nat.le_trans (List.length_filter_le _ _) (by simp)

end Am
end Go.Proofs.YtbpabpnpoidpcaaGreatDoor
