/- The evaluator of prepared code: what it comes to the abstract machine comes to: rounds, functions, calls. No conditions. -/
import Derived.Test.YtbpabpnpoidpcaaGreatDoorEv4
set_option linter.unusedVariables false
set_option linter.unusedSimpArgs false
namespace Go.Proofs.YtbpabpnpoidpcaaGreatDoor
namespace Am
open Go Go.RowKit

section
variable {M : Mc} {call : ZCall}

theorem zsetps_fr : ∀ (l : List (Tmp × Value)) (t : Env), (zsetps t l).fr = setps t.fr l
  | [], t => rfl
  | (p, v) :: l, t => by
    show (zsetps (.cons p v t) l).fr = setps (upd t.fr p v) l
    rw [zsetps_fr l, env_cons]

theorem wc_of (hcs : CS M call) {f : FuncId} {nt : Nat} {ro : Option Nat} {n : Nat} {c : Code} {pc : PCode} (hp : prepC M.P (M.pl f) c = some pc) {ds : List ADef} {e : Env} {h : XH} {x : AExit} {ds' : List ADef} {e' : Env} {h' : XH} (hok : OkX M h)
    (hz : zexec M.P call f nt ro n pc ds e h = .ok x ds' e' h') : OkX M h' ∧ ∃ n0, ∀ m k, n0 ≤ m → n0 ≤ k → aexec M.P (M.call m) (M.pl f) f nt ro k c ds e.fr h.hp = some (x, ds', e'.fr, h'.hp) := by
  obtain ⟨k1, k2⟩ := zexec_sound hcs c hp ds e h x ds' e' h' hok hz
  obtain ⟨x2, ds2, t2, H2, ⟨rfl, rfl, rfl, rfl⟩, n0, hn⟩ := wp_sound c hp (k2 (fun x2 ds2 t2 H2 => x2 = x ∧ ds2 = ds' ∧ t2 = e'.fr ∧ H2 = h'.hp) ⟨rfl, rfl, rfl, rfl⟩)
  exact ⟨k1, n0, hn⟩

theorem zyield_sound (hcs : CS M call) {n b : Nat} {args : List Value} {h : XH} {v : Value} {h' : XH} (hok : OkX M h) (hz : zyield M.P call M.pl n b args h = some (v, h')) : To M (.yield b) args h.hp v h'.hp ∧ OkX M h' := by
  unfold zyield at hz
  cases hL : h.get b with
  | b x => simp [hL] at hz
  | l L =>
    simp only [hL] at hz
    split at hz
    · rename_i hg
      obtain ⟨p1, p2⟩ := hok b L hL
      cases hx : zexec M.P call L.f L.n (some b) n L.pasg [] (zsetps L.t (L.ps.toList.zip args)) h with
      | bad => rw [hx] at hz; cases hz
      | ok x1 ds1 t1 h1 =>
        rw [hx] at hz
        obtain ⟨o1, n1, a1⟩ := wc_of hcs p1 hok hx
        cases x1 with
        | exit i => cases hz
        | ret => cases hz
        | normal =>
          simp only [] at hz
          cases hL1 : h1.get b with
          | b x => simp [hL1] at hz
          | l L1 =>
            simp only [hL1] at hz
            split at hz
            · rename_i hrd
              obtain ⟨h2, e1, e2, e3⟩ := putK_eq h1 b (.l { L1 with st := .busy }) (fun h1 => match zexec M.P call L.f L.n (some b) n L.pbody [] t1 h1 with
                | .ok x _ _ h3 => match h3.get b with
                  | .l L3 => h3.putK b (.l { L3 with st := if x.code.isNone then .ready else .done, pend := x.code }) fun h4 => some (Value.bool x.code.isNone, h4)
                  | _ => none
                | .bad => none)
              have hz2 := e1.symm.trans hz
              have o2 : OkX M h2 := o1.set (fun L' hL' => by cases hL'; exact o1 b L1 hL1) e3
              have hh2 := put_hp e2 e3
              cases hy : zexec M.P call L.f L.n (some b) n L.pbody [] t1 h2 with
              | bad => rw [hy] at hz2; cases hz2
              | ok x3 ds3 t3 h3 =>
                rw [hy] at hz2
                obtain ⟨o3, n3, a3⟩ := wc_of hcs p2 o2 hy
                simp only [] at hz2
                cases hL3 : h3.get b with
                | b x => simp [hL3] at hz2
                | l L3 =>
                  simp only [hL3] at hz2
                  obtain ⟨h4, f1, f2, f3⟩ := putK_eq h3 b (.l { L3 with st := if x3.code.isNone then .ready else .done, pend := x3.code }) (fun h4 => some (Value.bool x3.code.isNone, h4))
                  rw [f1] at hz2
                  cases hz2
                  refine ⟨⟨max n1 n3 + 1, fun m hm => ?_⟩, o3.set (fun L' hL' => by cases hL'; exact o3 b L3 hL3) f3⟩
                  obtain ⟨m, rfl⟩ : ∃ m', m = m' + 1 := ⟨m - 1, by omega⟩
                  have b1 := a1 m m (by omega) (by omega)
                  have b3 := a3 m m (by omega) (by omega)
                  rw [zsetps_fr] at b1
                  rw [hh2] at b3
                  show ayield M.P (M.call m) M.pl m b args h.hp = _
                  unfold ayield
                  simp only [loopAt_of hL, hg, if_true, b1, loopAt_of hL1, hrd]
                  simp only [XB.to] at b3
                  rw [b3]
                  simp only [loopAt_of hL3]
                  rw [put_hp f2 f3]
                  rfl
            · cases hz
    · cases hz

/-- What is asked of deferred calls. -/
def DS (M : Mc) (dcall : ZDCall) : Prop := ∀ g args h h', OkX M h → dcall g args h = some h' → M.dcall g args h.hp = some h'.hp ∧ OkX M h'
theorem zleave_sound {dcall : ZDCall} (hds : DS M dcall) : ∀ (ds : List ADef) (h : XH) (h' : XH), OkX M h → zleave dcall ds h = some h' → aleave M.dcall ds h.hp = some h'.hp ∧ OkX M h'
  | [], h, h', hok, hz => by simp only [zleave, Option.some.injEq] at hz; subst hz; exact ⟨rfl, hok⟩
  | .mark :: ds, h, h', hok, hz => by simp only [zleave] at hz; simp only [aleave]; exact zleave_sound hds ds h h' hok hz
  | .fn g args :: ds, h, h', hok, hz => by
    simp only [zleave] at hz
    cases hd : dcall g args h with
    | none => simp [hd] at hz
    | some h1 =>
      simp only [hd] at hz
      obtain ⟨k1, k2⟩ := hds g args h h1 hok hd
      simp only [aleave, k1]
      exact zleave_sound hds ds h1 h' k2 hz

theorem rn_one {f : FuncId} {nt : Nat} {ro : Option Nat} {ds : List ADef} {t : Fr} {H : Hp} {K : AExit → List ADef → Fr → Hp → Prop} {c : PCode} (h : wp M f nt ro c ds t H K) : run M f nt ro none [.code c] ds t H K := by
  refine Eq.mp ?_ h
  simp only [run]
  congr 1
  funext e ds t H
  cases e <;> rfl

theorem zfunc_sound (hcs : CS M call) {dcall : ZDCall} (hds : DS M dcall) {n : Nat} {f : FuncId} {p : PF} (hpf : pfOf M.P M.pl f = some p) (hmo : M.ok f = true) {args : List Value} {h : XH} {v : Value} {h' : XH} (hok : OkX M h) (hz : zfunc M.P call dcall n f p args h = some (v, h')) :
    To M (.func f) args h.hp v h'.hp ∧ OkX M h' := by
  have hprep : ∃ c, prepC M.P (M.pl f) c = some p.pc := by
    unfold pfOf at hpf
    cases hf : M.P.funcs[f]? with
    | none => simp [hf] at hpf
    | some fn =>
      cases hb : fn.body with
      | none => simp [hf, hb] at hpf
      | some c =>
        cases hc : prepC M.P (M.pl f) c with
        | none => simp [hf, hb, hc] at hpf
        | some pc =>
          cases hr : presOf M.P fn.results.toList with
          | none => simp [hf, hb, hc, hr] at hpf
          | some r => simp only [hf, hb, hc, hr, Option.some.injEq] at hpf; subst hpf; exact ⟨c, hc⟩
  obtain ⟨c, hc⟩ := hprep
  unfold zfunc at hz
  split at hz
  · rename_i hle
    cases hx : zexec M.P call f p.nt none n p.pc [] (zofArgs args 0) h with
    | bad => rw [hx] at hz; cases hz
    | ok x ds e1 h1 =>
      rw [hx] at hz
      obtain ⟨k1, k2⟩ := zexec_sound hcs c hc [] _ h x ds e1 h1 hok hx
      have fin' : ∀ (hx' : x = .normal ∨ x = .ret), (match zleave dcall ds h1 with
          | some h'' => match pres e1.fr h''.hp p.res with
            | some vs => valK (packed vs) fun v => some (v, h'')
            | none => none
          | none => none) = some (v, h') → To M (.func f) args h.hp v h'.hp ∧ OkX M h' := by
        intro hx' hz
        cases hl : zleave dcall ds h1 with
        | none => simp [hl] at hz
        | some h2 =>
          simp only [hl] at hz
          obtain ⟨q1, q2⟩ := zleave_sound hds ds h1 h2 k1 hl
          cases hr : pres e1.fr h2.hp p.res with
          | none => simp [hr] at hz
          | some vs =>
            simp only [hr, valK_eq, Option.some.injEq, Prod.mk.injEq] at hz
            obtain ⟨rfl, rfl⟩ := hz
            refine ⟨?_, q2⟩
            have := callP_pf (H := h.hp) (args := args) (Q := fun v H' => v = packed vs ∧ H' = h2.hp) hpf hmo hle (rn_one (by
              rw [← zofArgs_eq]
              refine k2 _ ?_
              have core : ∃ H2, aleave M.dcall ds h1.hp = some H2 ∧ vsP (pres e1.fr H2 p.res) fun vs' => packed vs' = packed vs ∧ H2 = h2.hp := ⟨h2.hp, q1, by rw [hr]; exact ⟨rfl, rfl⟩⟩
              rcases hx' with rfl | rfl
              · exact core
              · exact core))
            obtain ⟨v', H', hto, rfl, rfl⟩ := this
            exact hto
      cases x with
      | exit i => cases hz
      | normal => exact fin' (.inl rfl) hz
      | ret => exact fin' (.inr rfl) hz
  · cases hz

theorem zcallN_func {P : Program} {base : ZCall} {dcall : ZDCall} {pl : FuncId → Plan} {pf : FuncId → Option PF} {n : Nat} {f : FuncId} {args : List Value} {h : XH} : zcallN P base dcall pl pf (n + 1) (.func f) args h = (match pf f with
    | some p => zfunc P (zcallN P base dcall pl pf n) dcall n f p args h
    | none => base (.func f) args h) := rfl
theorem zcallN_sound {base : ZCall} (hb : CS M base) {dcall : ZDCall} (hds : DS M dcall) {pf : FuncId → Option PF} (hpf : ∀ f p, pf f = some p → pfOf M.P M.pl f = some p ∧ M.ok f = true) : ∀ n, CS M (zcallN M.P base dcall M.pl pf n) := by
  intro n
  induction n with
  | zero => intro g args h v h' hok hz; cases hz
  | succ n ih =>
    intro g args h v h' hok hz
    cases g with
    | func f =>
      rw [zcallN_func] at hz
      cases hp : pf f with
      | none => rw [hp] at hz; exact hb _ _ _ _ _ hok hz
      | some p =>
        rw [hp] at hz
        obtain ⟨k1, k2⟩ := hpf f p hp
        exact zfunc_sound ih hds k1 k2 hok hz
    | yield b => exact zyield_sound ih hok hz
    | _ => cases hz
end

end Am
end Go.Proofs.YtbpabpnpoidpcaaGreatDoor
