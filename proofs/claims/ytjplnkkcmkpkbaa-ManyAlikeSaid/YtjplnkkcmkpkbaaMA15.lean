/- Several of my texts in one: Mn9. -/
import Derived.Test.YtjplnkkcmkpkbaaMA14
set_option linter.unusedSimpArgs false
set_option linter.unusedVariables false
/- The machine, 9: the starter takes a step; the whole phase. -/
namespace Go.Proofs.Ytjplnkkcmkpkbaa
open Go.Conc Go.ConcN
open Go.ConcR (KK wgBlock WgAt stA smA rd wr mk DC0 Bk g_of_ofEvents bk_of_mute deafBehind_cons deafBehind_one ofEvent_loc_mark ofEvent_mk ofEvent_cell)

section
variable {P : Program} {q : Ph} {Shun : Loc → Prop} {Anch Fin : Goroutine → World → Prop} {j : Nat} {gs : Array Goroutine} {w w' : World} {sl : Option (Nat × Nat)} {t : Trace} {s s' : Gst} {qo qo' : Nat → Nat} {tag tag' : CTag} {f0 f' d0 : Nat} {a a' : Goroutine} {st sm st' sm' : Int} {es : Array Event}

theorem callerM (hR : ResOk q) (hG : Geom q) (ha : gs[0]? = some a) (hcom : Com P q Shun j gs w t s qo d0) (hgo : stepG P true a w = .go a' w' es) (hA : Aside q.Wg w w')
    (hok : ∀ e ∈ es, ∀ x, (MemAct.ofEvent e).touch? = some x → (ShN q.Wg x.loc ∧ x.kind ≠ .plain) ∨ (q.lowL x.loc ∧ x.write = false)) (hlow : ∀ e ∈ es, (MemAct.ofEvent e).low q.Low) (hnr : ∀ e ∈ es, e.loc ≠ .mark (.release (stA q.Wg)))
    (hms' : MSit P q Anch Fin tag' j f' (deafBehind d0 es) a' w') (hwg' : WgAt q.ty q.Wg w' st' sm') (hmode : Go.ConcN.Mode j s.D tag' st' sm') (hacq : tag' = .ret → AcqA q j (t ++ MemOp.ofEvents 0 a.frame.fn a.frame.place es))
    (hlt : phi q.n (Vc j s.D) tag' < phi q.n (Vc j s.D) tag ∨ (phi q.n (Vc j s.D) tag' = phi q.n (Vc j s.D) tag ∧ f' < f0)) : Next1 P q Shun Anch Fin gs w sl 0 t (Mu q j s qo tag f0) := by
  have h0 : 0 < gs.size := (Array.getElem?_eq_some_iff.1 ha).1
  have hrun := runT_crowd_go (P := P) (sl := sl) (i := 0) ha (by simpa using hgo)
  refine ⟨_, _, Mu q j s qo tag' f', hrun, ?_, _, w', sl, j, s, tag', f', deafBehind d0 es, a', st', sm', qo, rfl, get_map_set_same _ _ _ h0, hms', hcom.stepM hR hG (by simp) (fun x hx => hcom.still a a' w' a' hx hx) hA ⟨_, _, hwg'⟩ hok hlow hnr, hwg', hmode, hacq, rfl⟩
  rcases hlt with h | ⟨h1, h2⟩
  · exact Lt3.fst _ _ _ _ (by omega)
  · exact Lt3.thd _ (by omega) (by omega)

theorem ok_of_dm (h : DM q w w' es) : (∀ e ∈ es, ∀ x, (MemAct.ofEvent e).touch? = some x → (ShN q.Wg x.loc ∧ x.kind ≠ .plain) ∨ (q.lowL x.loc ∧ x.write = false)) ∧ (∀ e ∈ es, (MemAct.ofEvent e).low q.Low) ∧ ∀ e ∈ es, e.loc ≠ .mark (.release (stA q.Wg)) := by
  refine ⟨fun e he x hx => ?_, fun e he => (h.2 e he).2, fun e he => (h.2 e he).1.2.2.2⟩
  rcases ((h.2 e he).1.1 0 "").2 x hx with h1 | ⟨_, h2, h3⟩
  · exact .inl h1
  · refine .inr ⟨Classical.byContradiction fun hn => h2 1 (by omega) (by omega) hn, ?_⟩
    cases e : x.write with
    | false => rfl
    | true => exact absurd trivial (h3 e 1 (by omega) (by omega))

theorem idleM (hR : ResOk q) (hG : Geom q) (ha : gs[0]? = some a) (hcom : Com P q Shun j gs w t s qo d0) (hwg : WgAt q.ty q.Wg w st sm) (hmode : Go.ConcN.Mode j s.D tag st sm) (hacq : tag = .ret → AcqA q j t)
    (hgo : stepG P true a w = .go a' w' es) (hD : DM q w w' es) (hms' : MSit P q Anch Fin tag j f' d0 a' w') (hf : f' < f0) : Next1 P q Shun Anch Fin gs w sl 0 t (Mu q j s qo tag f0) := by
  obtain ⟨h1, h2, h3⟩ := ok_of_dm hD
  have hdf : deafBehind d0 es = d0 := deafBehind_idle (fun e he => ⟨(hD.2 e he).1.2.1, (hD.2 e he).1.2.2.1⟩) d0
  obtain rfl := hD.1
  exact callerM hR hG ha hcom hgo (.refl _ _) h1 h2 h3 (by rw [hdf]; exact hms') hwg hmode (fun e => (hacq e).app fun i r _ hr => hr.appOther g_of_ofEvents (by omega)) (.inr ⟨rfl, hf⟩)

theorem bookM (hR : ResOk q) (hG : Geom q) (ha : gs[0]? = some a) (hcom : Com P q Shun j gs w t s qo d0) (hgo : stepG P true a w = .go a' w' es) (hA : Aside q.Wg w w') (hwg' : WgAt q.ty q.Wg w' st' sm') (hbk : ∀ e ∈ es, Bk q.Wg e)
    (hms' : MSit P q Anch Fin tag' j f' (deafBehind d0 es) a' w') (hmode : Go.ConcN.Mode j s.D tag' st' sm') (hne : tag' ≠ .ret)
    (hlt : phi q.n (Vc j s.D) tag' < phi q.n (Vc j s.D) tag ∨ (phi q.n (Vc j s.D) tag' = phi q.n (Vc j s.D) tag ∧ f' < f0)) : Next1 P q Shun Anch Fin gs w sl 0 t (Mu q j s qo tag f0) :=
  callerM hR hG ha hcom hgo hA (fun e he x hx => .inl ⟨(bk_touch (hbk e he) x hx).1, by rw [(bk_touch (hbk e he) x hx).2]; simp⟩) (fun e he => bk_low hG.wg (hbk e he)) (norel_of_Bk hbk) hms' hwg' hmode (fun e => absurd e hne) hlt

theorem w1M (hR : ResOk q) (hG : Geom q) (hn : q.n < 2147483648) (ha : gs[0]? = some a) (hcom : Com P q Shun q.n gs w t s qo 1) (hwg : WgAt q.ty q.Wg w st sm) (hmode : Go.ConcN.Mode q.n s.D .w1 st sm)
    (h : Goes P true (RS q) (DM q) (MW1 P q Anch Fin) f0 a w) : Next1 P q Shun Anch Fin gs w sl 0 t (Mu q q.n s qo .w1 f0) := by
  rcases Goes.cases h with hstop | ⟨m', rfl, hstep⟩
  · obtain ⟨_, hall⟩ := hstop w (.refl w)
    obtain ⟨ho, rfl, rfl, _⟩ := hmode.open_inv trivial
    have hV := Vc_le q.n s.D
    obtain ⟨a', hgo, h0, hne⟩ := hall (Vc q.n s.D) (by omega) (by simpa [pend] using hwg)
    by_cases hv : Vc q.n s.D = 0
    · obtain ⟨m₂, hk⟩ := h0 hv
      refine bookM hR hG ha hcom hgo (.refl q.Wg w) hwg bk_rd (tag' := .ke) (.ke hk) ?_ (by simp) (.inl (by simp only [phi]; omega))
      have e : ((Vc q.n s.D + pend .w1 : Nat) : Int) * KK = 0 := by rw [hv]; simp [pend]
      rw [e]
      exact .fin trivial (allQuit_of ho hv)
    · obtain ⟨m₂, hk⟩ := hne hv
      exact bookM hR hG ha hcom hgo (.refl q.Wg w) hwg bk_rd (tag' := .w2 (Vc q.n s.D)) (.w2 hk) (hmode.reopen trivial trivial rfl (fun vs e => by cases e; omega)) (by simp) (.inl (by simp only [phi]; omega))
  · obtain ⟨a', w', es, hgo, hD, hg'⟩ := hstep w (.refl w)
    exact idleM hR hG ha hcom hwg hmode (by simp) hgo hD (.w1 hg') (by omega)

theorem lt3_trans {n : Nat} {a b c : Nat × (Nat → Rk) × Nat} (h : Lt3 n a b) (e : b.1 < c.1) : Lt3 n a c := by
  obtain ⟨a1, a2⟩ := a
  obtain ⟨b1, b2⟩ := b
  obtain ⟨c1, c2⟩ := c
  simp only at e
  refine Prod.Lex.left _ _ ?_
  cases h with
  | left _ _ h => omega
  | right _ _ => exact e

set_option maxHeartbeats 1600000 in
theorem stepMain (hR : ResOk q) (hG : Geom q) (hn : q.n < 2147483648) (hAn : ∀ g w, Anch g w → ∃ m, Goes P true (RS q) (DM q) (MW1 P q Anch Fin) m g w)
    (ha : gs[0]? = some a) (hms : MSit P q Anch Fin tag j f0 d0 a w) (hcom : Com P q Shun j gs w t s qo d0) (hwg : WgAt q.ty q.Wg w st sm) (hmode : Go.ConcN.Mode j s.D tag st sm) (hacq : tag = .ret → AcqA q j t) (hrun : a.status = .running)
    (hnf : tag = .ret → ¬ ∀ w₁, RS q w w₁ → Fin a w₁) : Next1 P q Shun Anch Fin gs w sl 0 t (Mu q j s qo tag f0) := by
  have hVj := Vc_le j s.D
  cases hms with
  | skd hr h =>
    rcases Goes.cases h with hstop | ⟨m', rfl, hstep⟩
    · obtain ⟨_, a', hgo, m₂, hk⟩ := hstop w (.refl w)
      exact bookM hR hG ha hcom hgo (.refl q.Wg w) hwg bk_dis (.sa1 hr hk) (hmode.reopen trivial trivial rfl (by simp)) (by simp) (.inl (by simp only [phi]; omega))
    · obtain ⟨a', w', es, hgo, hD, hg'⟩ := hstep w (.refl w)
      exact idleM hR hG ha hcom hwg hmode (by simp) hgo hD (.skd hr hg') (by omega)
  | sa1 hr h =>
    rename_i r
    rcases Goes.cases h with hstop | ⟨m', rfl, hstep⟩
    · obtain ⟨_, hall⟩ := hstop w (.refl w)
      obtain ⟨ho, rfl, rfl, _⟩ := hmode.open_inv trivial
      obtain ⟨a', hgo, m₂, hk⟩ := hall (Vc (q.n - (r + 1)) s.D) (by omega) (by simpa [pend] using hwg)
      refine bookM hR hG ha hcom hgo (aside_setCell w (stA q.Wg) _) (hwg.setSt _) bk_rw (.ske hr hk) ?_ (by simp) (.inl (by simp only [phi]; omega))
      have e : (((Vc (q.n - (r + 1)) s.D : Nat) : Int) + 1) * KK = ((Vc (q.n - (r + 1)) s.D + pend (.sp r 3) : Nat) : Int) * KK := by simp [pend]
      rw [e]
      exact .opn trivial ho (by simp)
    · obtain ⟨a', w', es, hgo, hD, hg'⟩ := hstep w (.refl w)
      exact idleM hR hG ha hcom hwg hmode (by simp) hgo hD (.sa1 hr hg') (by omega)
  | ske hr h =>
    rcases Goes.cases h with hstop | ⟨m', rfl, hstep⟩
    · obtain ⟨_, a', hgo, m₂, hk⟩ := hstop w (.refl w)
      exact bookM hR hG ha hcom hgo (.refl q.Wg w) hwg bk_en (.sgo hr hk) (hmode.reopen trivial trivial rfl (by simp)) (by simp) (.inl (by simp only [phi]; omega))
    · obtain ⟨a', w', es, hgo, hD, hg'⟩ := hstep w (.refl w)
      exact idleM hR hG ha hcom hwg hmode (by simp) hgo hD (.ske hr hg') (by omega)
  | sgo hr h =>
    rename_i r
    rcases Goes.cases h with hstop | ⟨m', rfl, hstep⟩
    · obtain ⟨_, a', child, hsp, hwk0, hnext⟩ := hstop w (.refl w)
      obtain ⟨ρ, hwk⟩ := hwk0 ⟨_, hcom.chan⟩ hcom.pay
      obtain ⟨ho, rfl, rfl, _⟩ := hmode.open_inv trivial
      have hrun' := runT_crowd_spawn (P := P) (sl := sl) (i := 0) ha (by simpa using hsp)
      rw [hcom.size] at hrun'
      have hcom' := hcom.spawn hR (a' := a') (x := { g := 0, fn := a.frame.fn, pos := a.frame.place, act := .go (q.j0 + (q.n - (r + 1)) + 1) }) (y := { g := q.j0 + (q.n - (r + 1)) + 1, fn := child.frame.fn, pos := a.frame.place, act := .start }) ⟨rfl, rfl⟩ ⟨rfl, rfl⟩ hwk
        (fun b hb => by have := (hcom.ob _ b hb).2.2; omega) (fun k hk => by have := (hcom.kt _ k hk).2; omega)
      have eV : Vc (q.n - (r + 1) + 1) (upd s.D (q.n - (r + 1)) ⟨7, 0, 0⟩) = Vc (q.n - (r + 1)) s.D + 1 := by
        simp only [Vc, sumTo, upd_same]
        rw [sumTo_upd_out s.D _ cnt (Nat.le_refl _)]; rfl
      have eS : Ssum (q.n - (r + 1) + 1) (upd s.D (q.n - (r + 1)) ⟨7, 0, 0⟩) = Ssum (q.n - (r + 1)) s.D + 7 := by
        simp only [Ssum, sumTo, upd_same]
        rw [sumTo_upd_out s.D _ WD.stage (Nat.le_refl _)]
      have ho' : OpenSt (q.n - (r + 1) + 1) (upd s.D (q.n - (r + 1)) ⟨7, 0, 0⟩) := fun i hi => by
        by_cases e : i = q.n - (r + 1)
        · subst e; rw [upd_same]; simp
        · rw [upd_ne _ _ e]; exact ho i (by omega)
      have ha' : ((gs.setIfInBounds 0 a').push child)[0]? = some a' := by
        rw [Array.getElem?_push_lt (by simp [hcom.size]), ← Array.getElem?_eq_getElem]
        simp [hcom.size]
      have ej : q.n - (r + 1) + 1 = q.n - r := by omega
      rw [ej] at hcom' eV eS ho'
      have est : ∀ tag', pend tag' = 0 → ((Vc (q.n - (r + 1)) s.D + pend (.sp r 2) : Nat) : Int) * KK = ((Vc (q.n - r) (upd s.D (q.n - (r + 1)) ⟨7, 0, 0⟩) + pend tag' : Nat) : Int) * KK := fun tag' hp => by rw [eV, hp]; simp [pend]
      have eD : (s.born (q.n - (r + 1)) ρ).D = upd s.D (q.n - (r + 1)) ⟨7, 0, 0⟩ := rfl
      cases r with
      | zero =>
        obtain ⟨m₃, hk⟩ := hnext
        simp only [Nat.sub_zero] at hcom' eV eS ho' est
        refine ⟨_, _, Mu q q.n (s.born (q.n - (0 + 1)) ρ) qo .kd m₃, hrun', Lt3.fst _ _ _ _ (by simp only [phi, eD]; omega),
          _, w, sl, q.n, s.born (q.n - (0 + 1)) ρ, .kd, m₃, 0, a', _, _, qo, rfl, ha', .kd hk, hcom', hwg, ?_, by simp, rfl⟩
        rw [est .kd rfl, eD]
        exact .opn trivial ho' (by simp)
      | succ r' =>
        obtain ⟨m₃, hk⟩ := hnext
        refine ⟨_, _, Mu q (q.n - (r' + 1)) (s.born (q.n - (r' + 1 + 1)) ρ) qo (.sp r' 5) m₃, hrun', Lt3.fst _ _ _ _ (by simp only [phi, eD]; omega),
          _, w, sl, q.n - (r' + 1), s.born (q.n - (r' + 1 + 1)) ρ, .sp r' 5, m₃, 0, a', _, _, qo, rfl, ha', .skd (by omega) hk, hcom', hwg, ?_, by simp, rfl⟩
        rw [est (.sp r' 5) rfl, eD]
        exact .opn trivial ho' (by simp)
    · obtain ⟨a', w', es, hgo, hD, hg'⟩ := hstep w (.refl w)
      exact idleM hR hG ha hcom hwg hmode (by simp) hgo hD (.sgo hr hg') (by omega)
  | kd h =>
    rcases Goes.cases h with hstop | ⟨m', rfl, hstep⟩
    · obtain ⟨_, a', hgo, m₂, hk⟩ := hstop w (.refl w)
      exact bookM hR hG ha hcom hgo (.refl q.Wg w) hwg bk_dis (.anch hk) (hmode.reopen trivial trivial rfl (by simp)) (by simp) (.inl (by simp only [phi]; omega))
    · obtain ⟨a', w', es, hgo, hD, hg'⟩ := hstep w (.refl w)
      exact idleM hR hG ha hcom hwg hmode (by simp) hgo hD (.kd hg') (by omega)
  | anch h =>
    rcases Goes.cases h with hstop | ⟨m', rfl, hstep⟩
    · obtain ⟨m₂, hk⟩ := hAn a w (hstop w (.refl w))
      obtain ⟨m₁, ops, μ', h1, h2, h3⟩ := w1M (sl := sl) hR hG hn ha hcom hwg (hmode.reopen trivial trivial rfl (by simp)) hk
      exact ⟨m₁, ops, μ', h1, lt3_trans h2 (by simp only [Mu, phi]; omega), h3⟩
    · obtain ⟨a', w', es, hgo, hD, hg'⟩ := hstep w (.refl w)
      exact idleM hR hG ha hcom hwg hmode (by simp) hgo hD (.anch hg') (by omega)
  | w1 h => exact w1M hR hG hn ha hcom hwg hmode h
  | w2 h =>
    rename_i vs
    rcases Goes.cases h with hstop | ⟨m', rfl, hstep⟩
    · obtain ⟨_, hall⟩ := hstop w (.refl w)
      obtain ⟨ho, rfl, rfl, hw2⟩ := hmode.open_inv trivial
      obtain ⟨hle, h1⟩ := hw2 vs rfl
      obtain ⟨hhit, hmiss⟩ := hall (Vc q.n s.D) (by omega) (by simpa [pend] using hwg)
      by_cases e : Vc q.n s.D = vs
      · obtain ⟨a', hgo, m₂, hk⟩ := hhit e
        exact bookM hR hG ha hcom hgo (aside_setCell w (stA q.Wg) _) (hwg.setSt _) bk_rw (.w3 hk) (.reg trivial ho (by omega)) (by simp) (.inl (by simp only [phi]; omega))
      · obtain ⟨a', hgo, m₂, hk⟩ := hmiss e
        exact bookM hR hG ha hcom hgo (.refl q.Wg w) hwg bk_rd (.anch hk) (hmode.reopen trivial trivial rfl (by simp)) (by simp) (.inl (by simp only [phi]; omega))
    · obtain ⟨a', w', es, hgo, hD, hg'⟩ := hstep w (.refl w)
      exact idleM hR hG ha hcom hwg hmode (by simp) hgo hD (.w2 hg') (by omega)
  | w3 h =>
    rcases Goes.cases h with hstop | ⟨m', rfl, hstep⟩
    · obtain ⟨_, hoff, hblk, htake⟩ := hstop w (.refl w)
      cases hmode with
      | opn h1 _ _ => exact h1.elim
      | reg h1 h2 h3 => exact bookM hR hG ha hcom (hblk ⟨_, hwg⟩) (.refl q.Wg w) hwg (by simp) (.blk hstop) (.reg trivial h2 h3) (by simp) (.inr ⟨rfl, by omega⟩)
      | last L h1 h2 h3 h4 => exact bookM hR hG ha hcom (hblk ⟨_, hwg⟩) (.refl q.Wg w) hwg (by simp) (.blk hstop) (.last L trivial h2 h3 h4) (by simp) (.inr ⟨rfl, by omega⟩)
      | sema h2 =>
        obtain ⟨a', hgo, m₂, hk⟩ := htake hwg
        exact bookM hR hG ha hcom hgo (aside_setCell w (smA q.Wg) _) (hwg.setSm 0) bk_sem (.w4 hk) (.fin trivial h2) (by simp) (.inl (by simp only [phi]; omega))
      | fin h1 _ => exact h1.elim
    · obtain ⟨a', w', es, hgo, hD, hg'⟩ := hstep w (.refl w)
      exact idleM hR hG ha hcom hwg hmode (by simp) hgo hD (.w3 hg') (by omega)
  | blk h => simp at hrun
  | w4 h =>
    rcases Goes.cases h with hstop | ⟨m', rfl, hstep⟩
    · obtain ⟨_, hx⟩ := hstop w (.refl w)
      obtain ⟨hq, rfl, rfl⟩ := hmode.fin_inv trivial
      obtain ⟨a', hgo, m₂, hk⟩ := hx hwg
      exact bookM hR hG ha hcom hgo (.refl q.Wg w) hwg bk_rd (.ke hk) (.fin trivial hq) (by simp) (.inl (by simp only [phi]; omega))
    · obtain ⟨a', w', es, hgo, hD, hg'⟩ := hstep w (.refl w)
      exact idleM hR hG ha hcom hwg hmode (by simp) hgo hD (.w4 hg') (by omega)
  | ke h =>
    rcases Goes.cases h with hstop | ⟨m', rfl, hstep⟩
    · obtain ⟨_, a', hgo, m₂, hk⟩ := hstop w (.refl w)
      obtain ⟨hq, rfl, rfl⟩ := hmode.fin_inv trivial
      exact bookM hR hG ha hcom hgo (.refl q.Wg w) hwg bk_en (.acq hk) (.fin trivial hq) (by simp) (.inl (by simp only [phi]; omega))
    · obtain ⟨a', w', es, hgo, hD, hg'⟩ := hstep w (.refl w)
      exact idleM hR hG ha hcom hwg hmode (by simp) hgo hD (.ke hg') (by omega)
  | acq h =>
    rcases Goes.cases h with hstop | ⟨m', rfl, hstep⟩
    · obtain ⟨_, a', hgo, m₂, hk⟩ := hstop w (.refl w)
      obtain ⟨hq, rfl, rfl⟩ := hmode.fin_inv trivial
      have hWg := hG.wg
      refine callerM hR hG ha hcom hgo (.refl _ w) (by intro e he x hx; simp at he; subst he; cases hx) (by intro e he; simp at he; subst he; exact hWg) (by intro e he; simp at he; subst he; simp [mk]) (.ret hk) hwg (.fin trivial hq) (fun _ => ?_) (.inl (by simp only [phi]; omega))
      have e1 : MemOp.ofEvents 0 a.frame.fn a.frame.place #[mk (.acquire (stA q.Wg))] = #[{ g := 0, fn := a.frame.fn, pos := a.frame.place, act := .mark (.acquire (stA q.Wg)) }] := by rw [ofEvents_eq]; simp [ofEvent_mk]
      have hy : (t ++ #[({ g := 0, fn := a.frame.fn, pos := a.frame.place, act := .mark (.acquire (stA q.Wg)) } : MemOp)])[t.size]? = some { g := 0, fn := a.frame.fn, pos := a.frame.place, act := .mark (.acquire (stA q.Wg)) } := by simp
      refine ⟨t.size, by rw [e1, act?_of hy], by rw [e1]; simp [Trace.g?], by rw [e1]; exact ⟨0, by simp [Trace.g?], by rw [deaf_old (Nat.le_refl _)]; exact hcom.deaf0⟩, fun i hi => ?_⟩
      obtain ⟨r, hr⟩ := hcom.rel i hi (by rw [hq i hi]; omega)
      exact ⟨r, hr.appOther g_of_ofEvents (by omega), lt_of_act? hr.act⟩
    · obtain ⟨a', w', es, hgo, hD, hg'⟩ := hstep w (.refl w)
      exact idleM hR hG ha hcom hwg hmode (by simp) hgo hD (.acq hg') (by omega)
  | ret h =>
    rcases Goes.cases h with hstop | ⟨m', rfl, hstep⟩
    · exact absurd hstop (hnf rfl)
    · obtain ⟨a', w', es, hgo, hD, hg'⟩ := hstep w (.refl w)
      exact idleM hR hG ha hcom hwg hmode hacq hgo hD (.ret hg') (by omega)

/-- the starter stands behind the join -/
def AtFin (P : Program) (q : Ph) (Shun : Loc → Prop) (Fin : Goroutine → World → Prop) (m : Machine) (t : Trace) : Prop :=
  ∃ (gs : Array Goroutine) (w : World) (sl : Option (Nat × Nat)) (s : Gst) (a : Goroutine) (qo : Nat → Nat), m = crowd gs w sl ∧ gs[0]? = some a ∧ Fin a w ∧ Com P q Shun q.n gs w t s qo 0 ∧ AllQuit q.n s.D ∧ AcqA q q.n t

theorem RS.back (w : World) (d : Nat) : RS q (w.at d) w := ⟨fun _ _ => rfl, id, fun r h => ⟨r, Nat.le_refl _, h⟩, id, rfl, rfl, rfl, Nat.le_refl _⟩

theorem phase_step (hR : ResOk q) (hG : Geom q) (hn : q.n < 2147483648) (hAr : ∀ g w, Anch g w → g.status = .running) (hFr : ∀ g w, Fin g w → g.status = .running)
    (hAn : ∀ g w, Anch g w → ∃ m, Goes P true (RS q) (DM q) (MW1 P q Anch Fin) m g w) : ∀ μ m t, Inv P q Shun Anch Fin μ m t →
    AtFin P q Shun Fin m t ∨ ∃ m' ops μ', stepT P m = (.next m', ops) ∧ Lt3 q.n μ' μ ∧ Inv P q Shun Anch Fin μ' m' (t ++ ops) := by
  rintro μ m t ⟨gs, w, sl, j, s, tag, f0, d0, a, st, sm, qo, rfl, ha, hms, hcom, hwg, hmode, hacq, rfl⟩
  by_cases hf : tag = .ret ∧ ∀ w₁, RS q w w₁ → Fin a w₁
  · obtain ⟨rfl, hf⟩ := hf
    cases hms with
    | ret h => exact .inl ⟨gs, w, sl, s, a, qo, rfl, ha, hf w (.refl w), hcom, (hmode.fin_inv trivial).1, hacq rfl⟩
  · right
    have hsome : ∃ (i : Nat) (g : Goroutine), gs[i]? = some g ∧ g.status = .running := by
      have wrun : ∀ i, i < j → (s.D i).stage ≠ 1 → ∃ (i : Nat) (g : Goroutine), gs[i]? = some g ∧ g.status = .running := fun i hi h1 => by
        obtain ⟨g, hg, hs⟩ := hcom.wk i hi
        refine ⟨_, g, hg, ?_⟩
        rcases hs with ⟨_, _, hs⟩ | hs
        · exact hs.running
        · exact hs.status.resolve_right fun x => h1 x.1
      rcases hms.status hAr hFr with ⟨hs, _⟩ | ⟨_, rfl⟩
      · exact ⟨0, a, ha, hs⟩
      · cases hmode with
        | opn h1 _ _ => exact h1.elim
        | reg _ _ h3 =>
          obtain ⟨i, hi, h5⟩ := exists_counted h3
          exact wrun i hi (by omega)
        | last L _ h2 h3 _ => exact wrun L h2 (by omega)
        | fin h1 _ => exact h1.elim
    have hawake : ∀ g ∈ gs, awake g := by
      intro g hg tm
      obtain ⟨i, hi⟩ := Array.mem_iff_getElem?.1 hg
      by_cases i0 : i = 0
      · subst i0
        rw [ha] at hi; cases hi
        rcases hms.status hAr hFr with ⟨hs, _⟩ | ⟨hs, _⟩ <;> rw [hs] <;> simp
      · rcases hcom.stay i0 hi with h | h <;> rw [h] <;> simp
    obtain ⟨i, g, d, sl', hg, hrun, hstep⟩ := crowd_pick (P := P) (w := w) (sl := sl) hawake hsome
    rw [hstep]
    have hms' := hms.rely (RS.at w d)
    have hcom' := hcom.at hR d
    have hwg' : WgAt q.ty q.Wg (w.at d) st sm := hwg
    by_cases i0 : i = 0
    · subst i0
      rw [ha] at hg; cases hg
      exact stepMain (sl := sl') hR hG hn hAn ha hms' hcom' hwg' hmode hacq hrun fun e hall => hf ⟨e, fun w₁ h1 => hall w₁ ((RS.back w d).trans h1)⟩
    · rcases Nat.lt_or_ge q.j0 i with hlt | hle
      · have hsz : i < gs.size := (Array.getElem?_eq_some_iff.1 hg).1
        rw [hcom.size] at hsz
        obtain ⟨i', rfl⟩ : ∃ i', i = q.j0 + i' + 1 := ⟨i - q.j0 - 1, by omega⟩
        obtain ⟨g1, hg1, hs⟩ := hcom'.wk i' (by omega)
        obtain rfl : g = g1 := by rw [hg] at hg1; exact Option.some.inj hg1
        rcases hs with ⟨h7, h0, hs⟩ | hs
        · exact stepWork (sl := sl') hR hG hAr hFr ha hms' hcom' hwg' hmode (by omega) hg ⟨h7, h0⟩ hs
        · exact stepOut (sl := sl') hR hG hAr hFr hn ha hms' hcom' hwg' hmode hacq (by omega) hg hrun hs
      · exact stepOld (sl := sl') hAr hFr ha hms' hcom' hwg' hmode hacq (by omega) hle hg hrun
end
end Go.Proofs.Ytjplnkkcmkpkbaa
