/- Several of my texts in one: Mn8. -/
import Derived.Test.YtjplnkkcmkpkbaaMA13
import Derived.Conc.CrowdRun
set_option linter.unusedSimpArgs false
set_option linter.unusedVariables false
/- The machine, 8: a worker on its way out, an earlier leaver, the starter: each step lowers the measure. -/
namespace Go.Proofs.Ytjplnkkcmkpkbaa
open Go.Conc Go.ConcN
open Go.ConcR (KK wgBlock WgAt stA smA rd wr mk DC0 Bk g_of_ofEvents bk_of_mute deafBehind_cons deafBehind_one ofEvent_loc_mark ofEvent_mk ofEvent_cell)

theorem bk_touch {Wg : Nat} {e : Event} (h : Bk Wg e) : ∀ x, (MemAct.ofEvent e).touch? = some x → ShN Wg x.loc ∧ x.kind = .atomic := by
  intro x hx
  rcases h with h1 | h1 | ⟨a, wr, rfl, ha⟩
  · rw [ofEvent_loc_mark h1] at hx; cases hx
  · rw [ofEvent_loc_mark h1] at hx; cases hx
  · simp only [ofEvent_cell, MemAct.touch?, Option.some.injEq] at hx
    subst hx
    exact ⟨⟨a, rfl, ha⟩, by simp⟩
theorem bk_low {Wg B : Nat} (hB : Wg < B) {e : Event} (h : Bk Wg e) : (MemAct.ofEvent e).low B := by
  rcases h with h1 | h1 | ⟨a, wr, rfl, ha⟩
  · rw [ofEvent_loc_mark h1]; trivial
  · rw [ofEvent_loc_mark h1]; trivial
  · rw [ofEvent_cell]; show a.block < B; omega

section
variable {P : Program} {q : Ph} {Shun : Loc → Prop} {Anch Fin : Goroutine → World → Prop} {j : Nat} {gs : Array Goroutine} {w w' : World} {sl : Option (Nat × Nat)} {t : Trace} {s s' : Gst} {qo qo' : Nat → Nat} {tag tag' : CTag} {f0 f' d0 : Nat} {a a' : Goroutine} {st sm st' sm' : Int} {es : Array Event}

set_option maxHeartbeats 1600000 in
theorem stepOut (hR : ResOk q) (hG : Geom q) (hAr : ∀ g w, Anch g w → g.status = .running) (hFr : ∀ g w, Fin g w → g.status = .running) (hn : q.n < 2147483648)
    (ha : gs[0]? = some a) (hms : MSit P q Anch Fin tag j f0 d0 a w) (hcom : Com P q Shun j gs w t s qo d0) (hwg : WgAt q.ty q.Wg w st sm) (hmode : Go.ConcN.Mode j s.D tag st sm) (hacq : tag = .ret → AcqA q j t)
    {i : Nat} (hi : i < j) {g : Goroutine} (hg : gs[q.j0 + i + 1]? = some g) (hrun : g.status = .running) (hs : KSit P q (s.D i).stage (s.D i).fuel (s.D i).deaf g w) :
    Next1 P q Shun Anch Fin gs w sl (q.j0 + i + 1) t (Mu q j s qo tag f0) := by
  have h16 := hs.stage
  obtain ⟨l6a, l6b, l6c⟩ := hcom.low6 i hi h16.2
  generalize hst : (s.D i).stage = sg at hs h16
  generalize hfu : (s.D i).fuel = m at hs
  generalize hde : (s.D i).deaf = dd at hs
  have hb := hms.bound
  have hVj := Vc_le j s.D
  have hWg := hG.wg
  have hdk : Deaf t (q.j0 + i + 1) = dd := by rw [hcom.deafW i hi, hde]
  have bookG : ∀ {g' : Goroutine} {w' : World} {es : Array Event} {s' m' dd' : Nat} {st' sm' : Int}, stepG P false g w = .go g' w' es → Aside q.Wg w w' → WgAt q.ty q.Wg w' st' sm' → (∀ e ∈ es, Bk q.Wg e) →
      (∀ jx e, es[jx]? = some e → (MemAct.ofEvent e).touch? = none ∨ 0 < deafBehind dd (es.extract 0 jx)) → KSit P q s' m' dd' g' w' → deafBehind dd es = dd' →
      (∀ tag', (tag' = tag ∨ (tag = .blk ∧ tag' = .w3)) → (mayWake P g = true → g'.status = .running → tag' ≠ .blk) → Go.ConcN.Mode j (upd s.D i ⟨s', m', dd'⟩) tag' st' sm') → (tag = .ret → AcqA q j (t ++ MemOp.ofEvents (q.j0 + i + 1) g.frame.fn g.frame.place es)) → ((s' < sg ∧ cnt ⟨s', m', dd'⟩ ≤ cnt (s.D i)) ∨ (s' = sg ∧ m' + 1 = m)) →
      Next1 P q Shun Anch Fin gs w sl (q.j0 + i + 1) t (Mu q j s qo tag f0) := by
    intro g' w' es s' m' dd' st' sm' hgo hAs hwg' hbk hd hs' hdd hmode' hacq' hlt
    exact stepGo (s' := s.out i ⟨s', m', dd'⟩) (qo' := qo) hAr hFr (by omega) hg hgo ha hms hcom (RS.of_wg hG hAs ⟨_, _, hwg'⟩) (fun gs' h1 h2 h3 => hcom.stepB hR hG hi h1 h2 h3 hAs ⟨_, _, hwg'⟩ l6a l6c hs'
        (fun e he => bk_touch (hbk e he)) (fun e he => bk_low hWg (hbk e he)) (norel_of_Bk hbk) (by rw [hde]; exact hdd) (let ⟨r, hr⟩ := hcom.rel i hi (by omega); ⟨r, hr.book hdk _ _ hbk hd⟩))
      hwg' hmode' hacq' (fun tag' f' ht hf => lt3_out hi (by rw [hst, hfu]; exact hlt) ht hf)
  have book : ∀ {g' : Goroutine} {w' : World} {es : Array Event} {s' m' dd' : Nat} {st' sm' : Int}, stepG P false g w = .go g' w' es → Aside q.Wg w w' → WgAt q.ty q.Wg w' st' sm' → (∀ e ∈ es, Bk q.Wg e) →
      (∀ jx e, es[jx]? = some e → (MemAct.ofEvent e).touch? = none ∨ 0 < deafBehind dd (es.extract 0 jx)) → KSit P q s' m' dd' g' w' → deafBehind dd es = dd' →
      Go.ConcN.Mode j (upd s.D i ⟨s', m', dd'⟩) tag st' sm' → (tag = .ret → AcqA q j (t ++ MemOp.ofEvents (q.j0 + i + 1) g.frame.fn g.frame.place es)) → ((s' < sg ∧ cnt ⟨s', m', dd'⟩ ≤ cnt (s.D i)) ∨ (s' = sg ∧ m' + 1 = m)) →
      Next1 P q Shun Anch Fin gs w sl (q.j0 + i + 1) t (Mu q j s qo tag f0) :=
    fun hgo hAs hwg' hbk hd hs' hdd hmode' hacq' hlt => bookG hgo hAs hwg' hbk hd hs' hdd (fun _ ht _ => hmode'.retag ht) hacq' hlt
  have idle : ∀ {g' : Goroutine} {m' : Nat}, stepG P false g w = .go g' w #[] → KSit P q sg m' dd g' w → m' + 1 = m → sg ≠ 1 →
      Next1 P q Shun Anch Fin gs w sl (q.j0 + i + 1) t (Mu q j s qo tag f0) := by
    intro g' m' hgo hs' hm h1
    exact book hgo (.refl q.Wg w) hwg (by simp) (by simp) hs' rfl (by have := hmode.same (i := i) m' dd; rwa [hst] at this) (fun e => absurd e (hmode.not_ret hi (by omega))) (.inr ⟨rfl, hm⟩)
  have nr : sg ≠ 1 → tag ≠ .ret := fun h => hmode.not_ret hi (by omega)
  cases hs with
  | k1 h =>
    rcases Goes.cases h with hstop | ⟨m', rfl, hstep⟩
    · obtain ⟨_, g', hgo, m₂, hk⟩ := hstop w (RS.refl w)
      exact book hgo (.refl q.Wg w) hwg (by intro e he; simp at he; subst he; exact .inl rfl) (by intro jx e he; exact .inl (by have := Array.mem_of_getElem? he; simp at this; subst this; rfl)) (.d1 hk) rfl
        (hmode.counted hi (by omega) (.inr rfl) _ _) (fun e => absurd e (nr (by omega))) (.inl ⟨by omega, by simp [cnt, hst]⟩)
    · obtain ⟨g', w', es, hgo, ⟨rfl, rfl⟩, hg'⟩ := hstep w (RS.refl w)
      exact idle hgo (.k1 hg') rfl (by omega)
  | d1 h =>
    rcases Goes.cases h with hstop | ⟨m', rfl, hstep⟩
    · obtain ⟨_, hall⟩ := hstop w (RS.refl w)
      have hc1 : cnt (s.D i) = 1 := by simp [cnt, hst]
      have hV1 : 1 ≤ Vc j s.D := by have := le_sumTo (f := fun x => cnt (s.D x)) hi; simp only [Vc]; omega
      have bk2 : ∀ e ∈ #[rd (stA q.Wg), wr (stA q.Wg)], Bk q.Wg e := by intro e he; simp at he; rcases he with rfl | rfl <;> exact bk_cell _ _ rfl
      have df2 : ∀ jx e, (#[rd (stA q.Wg), wr (stA q.Wg)] : Array Event)[jx]? = some e → (MemAct.ofEvent e).touch? = none ∨ 0 < deafBehind 1 ((#[rd (stA q.Wg), wr (stA q.Wg)] : Array Event).extract 0 jx) := by
        intro jx e he
        match jx, he with
        | 0, _ => exact .inr (by simp [deafBehind])
        | 1, _ => exact .inr (by simp [deafBehind, rd])
        | jx + 2, he => simp at he
      have hq0 : ∀ q, cnt (⟨1, q, 1⟩ : WD) = 0 := fun _ => rfl
      have opq : ∀ q, OpenSt j s.D → OpenSt j (upd s.D i ⟨1, q, 1⟩) := fun q h a ha => by
        by_cases e : a = i
        · subst e; rw [upd_same]; simp
        · rw [upd_ne _ _ e]; exact h a ha
      cases hmode with
      | opn h1 h2 h3 =>
        obtain ⟨v, hv⟩ : ∃ v, Vc j s.D + pend tag = v + 1 := ⟨Vc j s.D + pend tag - 1, by omega⟩
        rw [hv] at hwg
        have hw1 : WgAt q.ty q.Wg w (((v : Nat) + 1) * KK + ((0 : Nat) : Int)) 0 := by simpa using hwg
        obtain ⟨g', hgo, _, hq⟩ := hall v 0 (by omega) (by omega) hw1
        obtain ⟨x, hq⟩ := hq (by omega)
        have hv' : Vc j (upd s.D i ⟨1, x, 1⟩) + pend tag = v := by have := Vc_upd s.D (⟨1, x, 1⟩ : WD) hi; have := hq0 x; omega
        refine book hgo (aside_setCell w (stA q.Wg) _) (hwg.setSt _) bk2 df2 (.quit hq) rfl ?_ (fun e => absurd e (nr (by omega))) (.inl ⟨by omega, by simp [cnt]⟩)
        have e : ((v : Nat) : Int) * KK + ((0 : Nat) : Int) = ((Vc j (upd s.D i ⟨1, x, 1⟩) + pend tag : Nat) : Int) * KK := by rw [hv']; simp
        rw [e]
        exact .opn h1 (opq x h2) (fun vs ev => by have := h3 vs ev; omega)
      | reg h1 h2 h3 =>
        obtain ⟨v, hv⟩ : ∃ v, Vc j s.D = v + 1 := ⟨Vc j s.D - 1, by omega⟩
        rw [hv] at hwg
        have hp : pend tag = 0 := by cases tag <;> first | rfl | exact h1.elim
        have hw1 : WgAt q.ty q.Wg w (((v : Nat) + 1) * KK + ((1 : Nat) : Int)) 0 := by simpa using hwg
        obtain ⟨g', hgo, hl, hq⟩ := hall v 1 (by omega) (by omega) hw1
        by_cases hv0 : v = 0
        · subst hv0
          obtain ⟨m₂, hk⟩ := hl ⟨rfl, rfl⟩
          refine book hgo (aside_setCell w (stA q.Wg) _) (hwg.setSt _) bk2 df2 (.d2 hk) rfl ?_ (fun e => absurd e (nr (by omega))) (.inl ⟨by omega, by simp [cnt]⟩)
          have hoth : ∀ a, a < j → a ≠ i → (s.D a).stage = 1 := fun a ha e => by
            have c0 := others_uncounted hi hv hc1 a ha e
            have := h2 a ha
            simp only [cnt] at c0
            split at c0 <;> omega
          have := Go.ConcN.Mode.last (j := j) (D := upd s.D i ⟨4, m₂, 1⟩) (tag := tag) i h1 hi (by rw [upd_same]; simp) (fun a ha e => by rw [upd_ne _ _ e]; exact hoth a ha e)
          rw [upd_same] at this
          simpa using this
        · obtain ⟨x, hq⟩ := hq (by omega)
          have hv' : Vc j (upd s.D i ⟨1, x, 1⟩) = v := by have := Vc_upd s.D (⟨1, x, 1⟩ : WD) hi; have := hq0 x; omega
          refine book hgo (aside_setCell w (stA q.Wg) _) (hwg.setSt _) bk2 df2 (.quit hq) rfl ?_ (fun e => absurd e (nr (by omega))) (.inl ⟨by omega, by simp [cnt]⟩)
          have e : ((v : Nat) : Int) * KK + ((1 : Nat) : Int) = ((Vc j (upd s.D i ⟨1, x, 1⟩) : Nat) : Int) * KK + 1 := by rw [hv']; simp
          rw [e]
          exact .reg h1 (opq x h2) (by omega)
      | last L _ h2 h3 h4 =>
        by_cases e : i = L
        · subst e; omega
        · have := h4 i hi e; omega
      | sema h2 => have := h2 i hi; omega
      | fin _ h2 => have := h2 i hi; omega
    · obtain ⟨g', w', es, hgo, ⟨rfl, rfl⟩, hg'⟩ := hstep w (RS.refl w)
      exact idle hgo (.d1 hg') rfl (by omega)
  | d2 h =>
    rcases Goes.cases h with hstop | ⟨m', rfl, hstep⟩
    · obtain ⟨_, hx⟩ := hstop w (RS.refl w)
      obtain ⟨hW3, hoth, rfl, rfl⟩ := hmode.isLast hi (by omega)
      simp only [hst] at hwg
      obtain ⟨g', hgo, m₂, hk⟩ := hx (by simpa using hwg)
      refine book hgo (.refl q.Wg w) hwg (by intro e he; simp at he; subst he; exact bk_cell _ _ rfl) (by intro jx e he; match jx, he with | 0, _ => exact .inr (by simp [deafBehind]) | jx + 1, he => simp at he) (.d3 hk) rfl ?_ (fun e => absurd e (nr (by omega))) (.inl ⟨by omega, by simp [cnt]⟩)
      have := Go.ConcN.Mode.last (j := j) (D := upd s.D i ⟨3, m₂, 1⟩) (tag := tag) i hW3 hi (by rw [upd_same]; simp) (fun a ha e => by rw [upd_ne _ _ e]; exact hoth a ha e)
      rw [upd_same] at this
      simpa using this
    · obtain ⟨g', w', es, hgo, ⟨rfl, rfl⟩, hg'⟩ := hstep w (RS.refl w)
      exact idle hgo (.d2 hg') rfl (by omega)
  | d3 h =>
    rcases Goes.cases h with hstop | ⟨m', rfl, hstep⟩
    · obtain ⟨_, hx⟩ := hstop w (RS.refl w)
      obtain ⟨hW3, hoth, rfl, rfl⟩ := hmode.isLast hi (by omega)
      simp only [hst] at hwg
      obtain ⟨g', hgo, m₂, hk⟩ := hx (by simpa using hwg)
      refine book hgo (aside_setCell w (stA q.Wg) _) (hwg.setSt 0) (by intro e he; simp at he; subst he; exact bk_cell _ _ rfl) (by intro jx e he; match jx, he with | 0, _ => exact .inr (by simp [deafBehind]) | jx + 1, he => simp at he) (.d4 hk) rfl ?_ (fun e => absurd e (nr (by omega))) (.inl ⟨by omega, by simp [cnt]⟩)
      have := Go.ConcN.Mode.last (j := j) (D := upd s.D i ⟨2, m₂, 1⟩) (tag := tag) i hW3 hi (by rw [upd_same]; simp) (fun a ha e => by rw [upd_ne _ _ e]; exact hoth a ha e)
      rw [upd_same] at this
      simpa using this
    · obtain ⟨g', w', es, hgo, ⟨rfl, rfl⟩, hg'⟩ := hstep w (RS.refl w)
      exact idle hgo (.d3 hg') rfl (by omega)
  | d4 h =>
    rcases Goes.cases h with hstop | ⟨m', rfl, hstep⟩
    · obtain ⟨_, hmw, hx⟩ := hstop w (RS.refl w)
      obtain ⟨hW3, hoth, rfl, rfl⟩ := hmode.isLast hi (by omega)
      simp only [hst] at hwg
      obtain ⟨g', hgo, x, hq⟩ := hx (by simpa using hwg)
      have hrun' : g'.status = .running := by
        cases x with
        | zero => exact absurd hq.2 (by decide)
        | succ q => exact hq.elim (fun x => absurd x.2 (by decide)) (fun x => x.1)
      refine bookG hgo (aside_setCell w (smA q.Wg) _) (hwg.setSm 1) (es := semEvents (smA q.Wg)) bk_sem ?_ (.quit hq) (by simp [deafBehind, semEvents]) ?_ (fun e => absurd e (nr (by omega))) (.inl ⟨by omega, by simp [cnt]⟩)
      · intro jx e he
        match jx, he with
        | 0, he => simp [semEvents] at he; subst he; exact .inl rfl
        | 1, _ => exact .inr (by simp [deafBehind, semEvents])
        | 2, _ => exact .inr (by simp [deafBehind, semEvents])
        | 3, he => simp [semEvents] at he; subst he; exact .inl rfl
        | jx + 4, he => simp [semEvents] at he
      · intro tag' ht hw
        have hnb := hw hmw hrun'
        have e3 : tag' = .w3 := by
          rcases ht with rfl | ⟨_, rfl⟩
          · cases tag' <;> first | rfl | exact hW3.elim | exact absurd rfl hnb
          · rfl
        subst e3
        simp only [if_true]
        exact .sema fun a ha => by
          by_cases e : a = i
          · subst e; rw [upd_same]
          · rw [upd_ne _ _ e]; exact hoth a ha e
    · obtain ⟨g', w', es, hgo, ⟨rfl, rfl⟩, hg'⟩ := hstep w (RS.refl w)
      exact idle hgo (.d4 hg') rfl (by omega)
  | quit h =>
    cases m with
    | zero => rw [h.1] at hrun; cases hrun
    | succ x =>
      rcases h with ⟨hf, _⟩ | ⟨_, g', es, hmute, hstep, hq⟩
      · rw [hf] at hrun; cases hrun
      · have hbk : ∀ e ∈ es, Bk q.Wg e := fun e he => bk_of_mute (hmute e he)
        have hno : ∀ jx e, es[jx]? = some e → (MemAct.ofEvent e).touch? = none ∨ 0 < deafBehind dd (es.extract 0 jx) := fun jx e he => .inl (touch_mute (hmute e (Array.mem_of_getElem? he)))
        refine book (hstep w) (.refl q.Wg w) hwg hbk hno (.quit hq) rfl (by have := hmode.same (i := i) x (deafBehind dd es); rwa [hst] at this) (fun e => (hacq e).app fun i' r hi' hr => ?_) (.inr ⟨rfl, rfl⟩)
        by_cases e' : i' = i
        · subst e'; exact hr.book hdk _ _ hbk hno
        · exact hr.appOther g_of_ofEvents (by omega)

/-- an earlier leaver -/
theorem stepOld (hAr : ∀ g w, Anch g w → g.status = .running) (hFr : ∀ g w, Fin g w → g.status = .running)
    (ha : gs[0]? = some a) (hms : MSit P q Anch Fin tag j f0 d0 a w) (hcom : Com P q Shun j gs w t s qo d0) (hwg : WgAt q.ty q.Wg w st sm) (hmode : Go.ConcN.Mode j s.D tag st sm) (hacq : tag = .ret → AcqA q j t)
    {x : Nat} (h1 : 1 ≤ x) (h2 : x ≤ q.j0) {g : Goroutine} (hg : gs[x]? = some g) (hrun : g.status = .running) : Next1 P q Shun Anch Fin gs w sl x t (Mu q j s qo tag f0) := by
  obtain ⟨g1, hg1, hq⟩ := hcom.old x h1 h2
  obtain rfl : g = g1 := by rw [hg] at hg1; exact Option.some.inj hg1
  cases hqx : qo x with
  | zero => rw [hqx] at hq; rw [hq.1] at hrun; cases hrun
  | succ k =>
    rw [hqx] at hq
    rcases hq with ⟨hf, _⟩ | ⟨_, g', es, hm, hstp, hq'⟩
    · rw [hf] at hrun; cases hrun
    have hsum := sumTo_upd qo k id (show x < q.j0 + 1 by omega)
    refine stepGo (s' := s) (qo' := upd qo x k) hAr hFr (by omega) hg (hstp w) ha hms hcom (RS.refl w) (fun gs' e1 e2 e3 => hcom.stepO h1 h2 e1 e2 e3 hm hq') hwg (fun tag' ht _ => hmode.retag ht)
      (fun e => (hacq e).app fun i r _ hr => hr.appOther g_of_ofEvents (by omega)) (fun tag' f' ht hf => Lt3.thd _ (by rw [phi_retag q.n _ ht]; exact Nat.le_refl _) ?_)
    change sumTo (q.j0 + 1) (upd qo x k) + qo x = sumTo (q.j0 + 1) qo + k at hsum
    rw [hqx] at hsum
    omega
end
end Go.Proofs.Ytjplnkkcmkpkbaa
