/- The evaluator of prepared code: what it comes to the abstract machine comes to: code, functions, calls. No conditions. -/
import Derived.Test.YtbpabpnpoidpcaaGreatDoorEv3
set_option linter.unusedVariables false
set_option linter.unusedSimpArgs false
namespace Go.Proofs.YtbpabpnpoidpcaaGreatDoor
namespace Am
open Go Go.RowKit

section
variable {M : Mc} {call : ZCall}

theorem isUndef_toT {v : Value} (h : isUndef v = true) : ∃ vs, v = .tuple vs ∧ vs.isEmpty = true := by
  cases v <;> simp [isUndef] at h
  exact ⟨_, rfl, by simpa using h⟩

theorem zone_cases (hcs : CS M call) {e : Env} {h : XH} {R : Type} {bad : R} {k : Env → XH → R} (hok : OkX M h) (o : POper) (hd : isDeferP o.op = false) : zone M.P call o e h bad k = bad ∨ ∃ e' h', zone M.P call o e h bad k = k e' h' ∧ OkX M h' ∧
    ∀ (top : Bool) (ds : List ADef) (L : List ADef → Fr → Hp → Prop), L ds e'.fr h'.hp → opP M top o ds e.fr h.hp L := by
  obtain ⟨d, op, g⟩ := o
  have st : ∀ g', (∀ (top : Bool) (ds : List ADef) (L : List ADef → Fr → Hp → Prop), opQ M top op ds e.fr h.hp (fun ds v H => L ds (aput e.fr d v) H) → opP M top ⟨d, op, g'⟩ ds e.fr h.hp L) →
      zstep M.P call e h op bad (fun v h => k (e.put d v) h) = bad ∨ ∃ e' h', zstep M.P call e h op bad (fun v h => k (e.put d v) h) = k e' h' ∧ OkX M h' ∧
    ∀ (top : Bool) (ds : List ADef) (L : List ADef → Fr → Hp → Prop), L ds e'.fr h'.hp → opP M top ⟨d, op, g'⟩ ds e.fr h.hp L := by
    intro g' hL
    rcases zstep_cases (bad := bad) (k := fun v h => k (e.put d v) h) hcs hok op with h1 | ⟨v, h', h1, h2, h3⟩
    · exact .inl h1
    · exact .inr ⟨_, h', h1, h2, fun top ds L hl => hL top ds L (h3 top ds _ (by rw [← env_put]; exact hl))⟩
  cases g with
  | none => exact st none fun top ds L h => h
  | some sw =>
    obtain ⟨s, want⟩ := sw
    cases s with
    | none => exact .inr ⟨_, h, rfl, hok, fun top ds L hl => ⟨hd, by rw [← env_put]; exact hl⟩⟩
    | some s =>
      have skip : ∀ (top : Bool) (ds : List ADef) (L : List ADef → Fr → Hp → Prop), L ds (e.put d undef).fr h.hp → L ds (aput e.fr d undef) h.hp := fun top ds L hl => by rw [← env_put]; exact hl
      cases hs : e.get s with
      | bool b =>
        have hz : zone M.P call ⟨d, op, some (some s, want)⟩ e h bad k = Bool.rec (motive := fun _ => R) (k (e.put d undef) h) (zstep M.P call e h op bad fun v h => k (e.put d v) h) (b == want) := by simp only [zone, hs]
        rw [hz]
        have hg : e.fr s = .bool b := hs
        cases hbw : (b == want) with
        | true =>
          have hbw' : b = want := by simpa using hbw
          exact st (some (some s, want)) fun top ds L hl => ⟨hd, by simp only [gslotP, hg, guardP, hbw', if_true]; exact hl⟩
        | false =>
          have hbw' : b ≠ want := by simpa using hbw
          exact .inr ⟨_, h, rfl, hok, fun top ds L hl => ⟨hd, by simp only [gslotP, hg, guardP, hbw', if_false]; exact skip top ds L hl⟩⟩
      | tuple vs =>
        have hz : zone M.P call ⟨d, op, some (some s, want)⟩ e h bad k = Bool.rec (motive := fun _ => R) bad (k (e.put d undef) h) (isUndef (.tuple vs)) := by simp only [zone, hs]
        rw [hz]
        have hg : e.fr s = .tuple vs := hs
        cases hu : isUndef (.tuple vs) with
        | false => exact .inl rfl
        | true =>
          obtain ⟨vs', e1, e2⟩ := isUndef_toT hu
          cases e1
          exact .inr ⟨_, h, rfl, hok, fun top ds L hl => ⟨hd, by simp only [gslotP, hg, guardP]; exact ⟨e2, skip top ds L hl⟩⟩⟩
      | _ => exact .inl (by simp only [zone, hs, isUndef])

theorem zreg_cases (hcs : CS M call) (top : Bool) {R : Type} {bad : R} {k : List ADef → Env → XH → R} : ∀ (l : List POper) (ds : List ADef) (e : Env) (h : XH), OkX M h → zreg M.P call top l ds e h bad k = bad ∨ ∃ ds' e' h', zreg M.P call top l ds e h bad k = k ds' e' h' ∧ OkX M h' ∧
    ∀ (L : List ADef → Fr → Hp → Prop), L ds' e'.fr h'.hp → regP M top l ds e.fr h.hp L
  | [], ds, e, h, hok => .inr ⟨ds, e, h, rfl, hok, fun L hl => hl⟩
  | o :: l, ds, e, h, hok => by
    have hz : zreg M.P call top (o :: l) ds e h bad k = Bool.rec (motive := fun _ => R) (zone M.P call o e h bad fun e h => zreg M.P call top l ds e h bad k)
      (match o.op with
      | .defer x => Bool.rec (motive := fun _ => R) bad (match o.g, ev e.fr x with
        | none, .func (.func g) a b => zreg M.P call top l (.fn g (a.toList ++ b.toList) :: ds) (e.put o.dst undef) h bad k
        | _, _ => bad) top
      | _ => bad) (isDeferP o.op) := rfl
    rw [hz]
    cases hd : isDeferP o.op with
    | false =>
      rcases zone_cases (bad := bad) (k := fun e h => zreg M.P call top l ds e h bad k) hcs hok o hd with h1 | ⟨e', h', h1, h2, h3⟩
      · exact .inl h1
      · rcases zreg_cases hcs top l ds e' h' h2 with h4 | ⟨ds2, e2, h2', h4, h5, h6⟩
        · exact .inl (h1.trans h4)
        · exact .inr ⟨ds2, e2, h2', h1.trans h4, h5, fun L hl => h3 top ds _ (h6 L hl)⟩
    | true =>
      obtain ⟨d, op, g⟩ := o
      cases op <;> simp only [isDeferP] at hd <;> try (cases hd; done)
      rename_i x
      cases top with
      | false => exact .inl rfl
      | true =>
        cases g with
        | some gw => exact .inl rfl
        | none =>
          cases hx : ev e.fr x with
          | func fn a b =>
            cases fn with
            | func g =>
              simp only [hx]
              rcases zreg_cases hcs true l (.fn g (a.toList ++ b.toList) :: ds) (e.put d undef) h hok with h4 | ⟨ds2, e2, h2', h4, h5, h6⟩
              · exact .inl h4
              · refine .inr ⟨ds2, e2, h2', h4, h5, fun L hl => ?_⟩
                have := h6 L hl
                rw [env_put] at this
                exact ⟨rfl, g, a, b, hx, this⟩
            | _ => exact .inl (by simp only [hx])
          | _ => exact .inl (by simp only [hx])

theorem veq_eq {u v : Value} (h : veq u v = true) : u = v := by
  unfold veq at h
  split at h <;> simp_all
theorem veqs_go : ∀ {l m : List Value}, veqs.go l m = true → l = m
  | [], [], _ => rfl
  | x :: l, y :: m, h => by
    simp only [veqs.go, Bool.and_eq_true] at h
    rw [veq_eq h.1, veqs_go h.2]
  | [], _ :: _, h => by simp [veqs.go] at h
  | _ :: _, [], h => by simp [veqs.go] at h
theorem veqs_eq {u v : Value} (h : veqs u v = true) : u = v := by
  unfold veqs at h
  split at h
  · have := veqs_go h
    congr 1
    exact Array.ext' this
  · exact veq_eq h

theorem zlate0_sound {e : Env} {h : XH} {d : Option Tmp} {op : POp} : zlate0 M.P e h d op = true → (match alP M.P op with
    | some xs => ∀ x ∈ xs, flat (ev e.fr x) = true
    | none => match d with
      | some d => pop M.P e.fr h.hp op = some (e.fr d, h.hp)
      | none => False) := by
  unfold zlate0
  intro hc
  cases ha : alP M.P op with
  | some xs => simp only [ha] at hc ⊢; exact List.all_eq_true.1 hc
  | none =>
    simp only [ha] at hc ⊢
    cases d with
    | none => simp at hc
    | some d =>
      cases hp : pop M.P e.fr h.hp op with
      | none => simp [hp] at hc
      | some r =>
        obtain ⟨v, H'⟩ := r
        simp only [hp, Bool.and_eq_true] at hc
        have hv : v = e.fr d := veqs_eq hc.1
        have hk : H' = h.hp := by
          have h2 := hc.2
          split at h2
          · exact map_same (r := (v, H')) hp
          · exact map_same (r := (v, H')) hp
          · exact map_same (r := (v, H')) hp
          · exact map_same (r := (v, H')) hp
          · exact map_same (r := (v, H')) hp
          · cases h2
        simp only []
        rw [hv, hk]

theorem zlate_sound {e : Env} {h : XH} {o : POper} (hz : zlate M.P e h o = true) : lateP M.P e.fr h.hp o := by
  obtain ⟨d, op, g⟩ := o
  unfold lateP
  unfold zlate at hz
  cases g with
  | none => exact zlate0_sound hz
  | some sw =>
    obtain ⟨s, want⟩ := sw
    cases s with
    | none => trivial
    | some s =>
      simp only [gslotP] at hz ⊢
      cases hs : e.get s with
      | bool b =>
        have hg : e.fr s = .bool b := hs
        simp only [hs] at hz
        simp only [hg, guardP]
        split
        · rename_i hw; rw [if_pos hw] at hz; exact zlate0_sound hz
        · trivial
      | tuple vs =>
        have hg : e.fr s = .tuple vs := hs
        simp only [hs] at hz
        obtain ⟨vs', e1, e2⟩ := isUndef_toT hz
        cases e1
        simp only [hg, guardP]
        exact ⟨e2, trivial⟩
      | _ => simp [hs, isUndef] at hz

theorem zdraw_cases (hcs : CS M call) {R : Type} {bad : R} {k : Env → XH → R} : ∀ (l : List (POper × List POper)) (hl : ∀ q ∈ l, isDeferP q.1.op = false) (e : Env) (h : XH), OkX M h → zdraw M.P call l e h bad k = bad ∨ ∃ e' h', zdraw M.P call l e h bad k = k e' h' ∧ OkX M h' ∧
    ∀ (ds : List ADef) (L : Fr → Hp → Prop), L e'.fr h'.hp → drawP M l ds e.fr h.hp L
  | [], _, e, h, hok => .inr ⟨e, h, rfl, hok, fun ds L hl => hl⟩
  | o :: l, hd, e, h, hok => by
    have hz : zdraw M.P call (o :: l) e h bad k = zone M.P call o.1 e h bad fun e h => Bool.rec (motive := fun _ => R) bad (zdraw M.P call l e h bad k) (o.2.all (zlate M.P e h)) := rfl
    rw [hz]
    rcases zone_cases (bad := bad) (k := fun e h => Bool.rec (motive := fun _ => R) bad (zdraw M.P call l e h bad k) (o.2.all (zlate M.P e h))) hcs hok o.1 (hd o (by simp)) with h1 | ⟨e', h', h1, h2, h3⟩
    · exact .inl h1
    · rw [h1]
      cases hall : o.2.all (zlate M.P e' h') with
      | false => exact .inl rfl
      | true =>
        rcases zdraw_cases hcs l (fun q hq => hd q (by simp [hq])) e' h' h2 with h4 | ⟨e2, h2', h4, h5, h6⟩
        · exact .inl h4
        · exact .inr ⟨e2, h2', h4, h5, fun ds L hl => h3 false ds _ ⟨fun j hj => zlate_sound (List.all_eq_true.1 hall j hj), h6 ds L hl⟩⟩

theorem prepD_nd : ∀ {q : List POper} {c : List PE} {l : List (POper × List POper)}, prepD q c = some l → ∀ x ∈ l, isDeferP x.1.op = false
  | q, [], l, h, x, hx => by simp only [prepD, Option.some.injEq] at h; subst h; cases hx
  | q, e :: c, l, h, x, hx => by
    simp only [prepD] at h
    cases h1 : q[e.i]? with
    | none => simp [h1] at h
    | some p =>
      cases h2 : pick q e.js with
      | none => simp [h1, h2] at h
      | some js =>
        cases h3 : prepD q c with
        | none => simp [h1, h2, h3] at h
        | some l' =>
          simp only [h1, h2, h3] at h
          split at h
          · cases h
          · rename_i hnd
            cases h
            rcases List.mem_cons.1 hx with rfl | hx
            · simpa using hnd
            · exact prepD_nd h3 x hx

/-- What the evaluator's end of code says. -/
def ZS (M : Mc) (f : FuncId) (nt : Nat) (ro : Option Nat) (pc : PCode) (ds : List ADef) (e : Env) (h : XH) (x : AExit) (ds' : List ADef) (e' : Env) (h' : XH) : Prop :=
  OkX M h' ∧ ∀ K : AExit → List ADef → Fr → Hp → Prop, K x ds' e'.fr h'.hp → wp M f nt ro pc ds e.fr h.hp K

theorem XH.get_hp (h : XH) (i : Nat) : h.hp.f i = (h.get i).to := rfl
theorem loopAt_of {h : XH} {i : Nat} {L : XLoop} (hi : h.get i = .l L) : aloopAt h.hp i = some ⟨L.f, L.n, L.t.fr, L.ps, L.asg, L.body, L.st, L.pend⟩ := by
  unfold aloopAt
  rw [XH.get_hp, hi]
  rfl
theorem put_hp {h h' : XH} {i : Nat} {b : XB} (hn : h'.n = h.n) (hg : ∀ j, h'.get j = if j = i then b else h.get j) : h'.hp = h.hp.put i b.to := by
  show (⟨h'.n, fun j => (h'.get j).to⟩ : Hp) = ⟨h.n, _⟩
  rw [hn]
  congr 1
  funext j
  rw [hg j]
  show _ = if j = i then b.to else (h.get j).to
  split <;> rfl
theorem push_hp {h h' : XH} {b : XB} (hn : h'.n = h.n + 1) (hg : ∀ j, h'.get j = if j = h.n then b else h.get j) : h'.hp = h.hp.alloc b.to := by
  show (⟨h'.n, fun j => (h'.get j).to⟩ : Hp) = ⟨h.n + 1, _⟩
  rw [hn]
  congr 1
  funext j
  rw [hg j]
  show _ = if j = h.n then b.to else (h.get j).to
  split <;> rfl
theorem OkX.set {h h' : XH} {i : Nat} {b : XB} (hok : OkX M h) (hb : ∀ L, b = .l L → OkL M L) (hg : ∀ j, h'.get j = if j = i then b else h.get j) : OkX M h' := by
  intro j L hj
  rw [hg j] at hj
  by_cases hji : j = i
  · rw [if_pos hji] at hj; exact hb L hj
  · rw [if_neg hji] at hj; exact hok j L hj

theorem zranged_spec {ro : Option Nat} {l : Nat} {ds : List ADef} {e : Env} {v : Value} {h2 : XH} {x : AExit} {ds' : List ADef} {e' : Env} {h' : XH} (hok : OkX M h2) (h : zranged ro l ds e (some (v, h2)) = .ok x ds' e' h') :
    OkX M h' ∧ aranged ro l ds e.fr (some (v, h2.hp)) = some (x, ds', e'.fr, h'.hp) := by
  simp only [zranged] at h
  split at h
  · rename_i L hL
    split at h
    · cases h
    · rename_i st pe y hpe hnb
      obtain ⟨h3, e1, e2, e3⟩ := putK_eq h2 l (.l { L with st := .exhausted }) (fun h => ZR.ok y (if ro.isNone then .mark :: ds else ds) e h)
      rw [e1] at h
      cases h
      refine ⟨hok.set (fun L' hL' => by cases hL'; exact hok l L hL) e3, ?_⟩
      rw [put_hp e2 e3]
      cases hst : L.st with
      | busy => exact absurd hst hnb
      | _ => simp only [aranged, loopAt_of hL, hpe, hst]; rfl
    · cases h
  · cases h

theorem zexec_sound (hcs : CS M call) {f : FuncId} {nt : Nat} {ro : Option Nat} {n : Nat} : ∀ (c : Code) {pc : PCode}, prepC M.P (M.pl f) c = some pc → ∀ (ds : List ADef) (e : Env) (h : XH) (x : AExit) (ds' : List ADef) (e' : Env) (h' : XH), OkX M h → zexec M.P call f nt ro n pc ds e h = .ok x ds' e' h' → ZS M f nt ro pc ds e h x ds' e' h' := by
  intro c
  induction c with
  | skip => intro pc hp ds e h x ds' e' h' hok hz; simp only [prepC, Option.some.injEq] at hp; subst hp; cases hz; exact ⟨hok, fun K hk => hk⟩
  | label l => intro pc hp ds e h x ds' e' h' hok hz; simp only [prepC, Option.some.injEq] at hp; subst hp; cases hz; exact ⟨hok, fun K hk => hk⟩
  | exit id => intro pc hp ds e h x ds' e' h' hok hz; simp only [prepC, Option.some.injEq] at hp; subst hp; cases hz; exact ⟨hok, fun K hk => hk⟩
  | ret => intro pc hp ds e h x ds' e' h' hok hz; simp only [prepC, Option.some.injEq] at hp; subst hp; cases hz; exact ⟨hok, fun K hk => hk⟩
  | region id ops d =>
    intro pc hp ds e h x ds' e' h' hok hz
    simp only [prepC] at hp
    cases hq : prepL M.P ops ops.toList with
    | none => simp [hq] at hp
    | some q =>
      simp only [hq] at hp
      cases d with
      | true =>
        simp only [if_true] at hp
        cases hl : prepD q (M.pl f id) with
        | none => simp [hl] at hp
        | some l =>
          simp only [hl, Option.some.injEq] at hp
          subst hp
          simp only [zexec] at hz
          rcases zdraw_cases (bad := ZR.bad) (k := fun e h => ZR.ok .normal ds e h) hcs l (prepD_nd hl) e h hok with h1 | ⟨e2, h2, h1, h3, h4⟩
          · rw [h1] at hz; cases hz
          · rw [h1] at hz; cases hz; exact ⟨h3, fun K hk => h4 ds _ hk⟩
      | false =>
        simp only [Bool.false_eq_true, if_false, Option.some.injEq] at hp
        subst hp
        simp only [zexec] at hz
        rcases zreg_cases (bad := ZR.bad) (k := fun ds e h => ZR.ok .normal ds e h) hcs ro.isNone q ds e h hok with h1 | ⟨ds2, e2, h2, h1, h3, h4⟩
        · rw [h1] at hz; cases hz
        · rw [h1] at hz; cases hz; exact ⟨h3, fun K hk => h4 _ hk⟩
  | seq a b iha ihb =>
    intro pc hp ds e h x ds' e' h' hok hz
    simp only [prepC] at hp
    cases h1 : prepC M.P (M.pl f) a with
    | none => simp [h1] at hp
    | some p =>
      cases h2 : prepC M.P (M.pl f) b with
      | none => simp [h1, h2] at hp
      | some q =>
        simp only [h1, h2, Option.some.injEq] at hp
        subst hp
        simp only [zexec] at hz
        cases hx : zexec M.P call f nt ro n p ds e h with
        | bad => rw [hx] at hz; cases hz
        | ok y ds1 e1 h1' =>
          rw [hx] at hz
          obtain ⟨k1, k2⟩ := iha h1 ds e h y ds1 e1 h1' hok hx
          cases y with
          | normal =>
            obtain ⟨k3, k4⟩ := ihb h2 ds1 e1 h1' x ds' e' h' k1 hz
            exact ⟨k3, fun K hk => k2 _ (k4 K hk)⟩
          | exit i => cases hz; exact ⟨k1, fun K hk => k2 _ hk⟩
          | ret => cases hz; exact ⟨k1, fun K hk => k2 _ hk⟩
  | cond cc a b iha ihb =>
    intro pc hp ds e h x ds' e' h' hok hz
    simp only [prepC] at hp
    cases h1 : prepC M.P (M.pl f) a with
    | none => simp [h1] at hp
    | some p =>
      cases h2 : prepC M.P (M.pl f) b with
      | none => simp [h1, h2] at hp
      | some q =>
        simp only [h1, h2, Option.some.injEq] at hp
        subst hp
        simp only [zexec] at hz
        split at hz
        · rename_i hc
          obtain ⟨k1, k2⟩ := iha h1 ds e h x ds' e' h' hok hz
          exact ⟨k1, fun K hk => by simp only [wp, hc]; exact k2 K hk⟩
        · rename_i hc
          obtain ⟨k1, k2⟩ := ihb h2 ds e h x ds' e' h' hok hz
          exact ⟨k1, fun K hk => by simp only [wp, hc]; exact k2 K hk⟩
        · cases hz
  | block id a ih =>
    intro pc hp ds e h x ds' e' h' hok hz
    simp only [prepC] at hp
    cases h1 : prepC M.P (M.pl f) a with
    | none => simp [h1] at hp
    | some p =>
      simp only [h1, Option.some.injEq] at hp
      subst hp
      simp only [zexec] at hz
      cases hx : zexec M.P call f nt ro n p ds e h with
      | bad => rw [hx] at hz; cases hz
      | ok y ds1 e1 h1' =>
        rw [hx] at hz
        obtain ⟨k1, k2⟩ := ih h1 ds e h y ds1 e1 h1' hok hx
        cases y with
        | normal => cases hz; exact ⟨k1, fun K hk => k2 _ hk⟩
        | ret => cases hz; exact ⟨k1, fun K hk => k2 _ hk⟩
        | exit i =>
          simp only [] at hz
          cases hz
          refine ⟨k1, fun K hk => k2 _ ?_⟩
          simp only [inBlk]
          by_cases hi : i = id
          · simp only [hi, if_true] at hk ⊢; exact hk
          · simp only [hi, if_false] at hk ⊢; exact hk
  | loop a ih =>
    intro pc hp ds e h x ds' e' h' hok hz
    simp only [prepC] at hp
    cases h1 : prepC M.P (M.pl f) a with
    | none => simp [h1] at hp
    | some p =>
      simp only [h1, Option.some.injEq] at hp
      subst hp
      simp only [zexec] at hz
      have fin : ∀ j ds e h, OkX M h → zloop (zexec M.P call f nt ro n p) j ds e h = .ok x ds' e' h' → OkX M h' := by
        intro j
        induction j with
        | zero => intro ds e h hok hz; cases hz
        | succ j ihj =>
          intro ds e h hok hz
          have hz2 : (match zexec M.P call f nt ro n p ds e h with
            | .ok .normal ds' e' h' => zloop (zexec M.P call f nt ro n p) j ds' e' h'
            | x => x) = .ok x ds' e' h' := hz
          cases hx : zexec M.P call f nt ro n p ds e h with
          | bad => rw [hx] at hz2; cases hz2
          | ok y ds1 e1 h1' =>
            rw [hx] at hz2
            obtain ⟨k1, k2⟩ := ih h1 ds e h y ds1 e1 h1' hok hx
            cases y with
            | normal => exact ihj ds1 e1 h1' k1 hz2
            | exit i => cases hz2; exact k1
            | ret => cases hz2; exact k1
      refine ⟨fin n ds e h hok hz, fun K hk => ?_⟩
      refine ⟨fun j ds t H => ∃ e h, t = e.fr ∧ H = h.hp ∧ OkX M h ∧ zloop (zexec M.P call f nt ro n p) j ds e h = .ok x ds' e' h', ⟨n, e, h, rfl, rfl, hok, hz⟩, ?_⟩
      rintro j ds _ _ ⟨e, h, rfl, rfl, hok, hz⟩
      cases j with
      | zero => cases hz
      | succ j =>
        have hz2 : (match zexec M.P call f nt ro n p ds e h with
          | .ok .normal ds' e' h' => zloop (zexec M.P call f nt ro n p) j ds' e' h'
          | x => x) = .ok x ds' e' h' := hz
        cases hx : zexec M.P call f nt ro n p ds e h with
        | bad => rw [hx] at hz2; cases hz2
        | ok y ds1 e1 h1' =>
          rw [hx] at hz2
          obtain ⟨k1, k2⟩ := ih h1 ds e h y ds1 e1 h1' hok hx
          refine k2 _ ?_
          cases y with
          | normal => exact ⟨j, by omega, e1, h1', rfl, rfl, k1, hz2⟩
          | exit i => cases hz2; exact hk
          | ret => cases hz2; exact hk
  | rangeFunc g ps asg body _ _ =>
    intro pc hp ds e h x ds' e' h' hok hz
    simp only [prepC] at hp
    cases h1 : prepC M.P (M.pl f) asg with
    | none => simp [h1] at hp
    | some p =>
      cases h2 : prepC M.P (M.pl f) body with
      | none => simp [h1, h2] at hp
      | some q =>
        simp only [h1, h2, Option.some.injEq] at hp
        subst hp
        simp only [zexec] at hz
        split at hz
        · rename_i k first cap hg
          split at hz
          · rename_i hro
            obtain ⟨h3, e1, e2, e3⟩ := pushK_eq h (.l ⟨f, nt, e, ps, asg, body, p, q, .ready, none⟩) (fun h' => zranged ro h.n ds e (call (.func k) (first.toList ++ [.func (.yield h.n) #[] #[]] ++ cap.toList) h'))
            rw [e1] at hz
            have hok3 : OkX M h3 := hok.set (fun L hL => by cases hL; exact ⟨h1, h2⟩) e3
            have hh3 := push_hp e2 e3
            cases hc : call (.func k) (first.toList ++ [.func (.yield h.n) #[] #[]] ++ cap.toList) h3 with
            | none => rw [hc] at hz; cases hz
            | some r =>
              obtain ⟨v, h4⟩ := r
              rw [hc] at hz
              obtain ⟨c1, c2⟩ := hcs _ _ h3 v h4 hok3 hc
              obtain ⟨c3, c4⟩ := zranged_spec c2 hz
              refine ⟨c3, fun K hk => ⟨k, first, cap, v, h4.hp, x, ds', e'.fr, h'.hp, hg, ?_, ?_, c4, hk⟩⟩
              · cases ro with
                | none => rfl
                | some l =>
                  simp only [zroOk] at hro
                  split at hro
                  · rename_i L hL; simp only [roOk, loopAt_of hL]; rfl
                  · cases hro
              · rw [hh3] at c1; exact c1
          · cases hz
        · cases hz
  | _ => intro pc hp; simp [prepC] at hp
end

end Am
end Go.Proofs.YtbpabpnpoidpcaaGreatDoor
