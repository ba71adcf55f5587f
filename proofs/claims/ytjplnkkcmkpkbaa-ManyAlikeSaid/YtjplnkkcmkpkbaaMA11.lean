/- Several of my texts in one: Mn5, Mn6. -/
import Derived.Test.YtjplnkkcmkpkbaaMA10
set_option linter.unusedSimpArgs false
set_option linter.unusedVariables false
/- The machine, 5: the other steps keep what holds: a worker on its way out; the starter; an earlier leaver; the go statement. -/
namespace Go.Proofs.Ytjplnkkcmkpkbaa
open Go.Conc Go.ConcN
open Go.ConcR (KK wgBlock WgAt stA smA rd wr mk DC0 Bk g_of_ofEvents deafBehind_cons deafBehind_one ofEvent_loc_mark)

theorem RS.of_wg {q : Ph} {w w' : World} (hG : Geom q) (h : Aside q.Wg w w') (hl : WgLive q.ty q.Wg w') : RS q w w' :=
  ⟨fun b hb => h.block b hb.2.1, fun _ => hl, fun r hr => ⟨r, Nat.le_refl _, hr.1, by rw [h.block _ (Ne.symm hG.wgch)]; exact hr.2⟩,
    fun ⟨cs, h1, h2⟩ => ⟨cs, by rw [h.block _ (Ne.symm hG.wgc)]; exact h1, h2⟩, h.tape, h.os, h.output, by rw [h.size]; exact Nat.le_refl _⟩
theorem cell_of_eq {w w' : World} {c o : Nat} (h : w'.heap[c]? = w.heap[c]?) : w'.cell? ⟨c, o, none⟩ = w.cell? ⟨c, o, none⟩ := by simp only [World.cell?, h]

def Gst.out (s : Gst) (i : Nat) (d : WD) : Gst := { s with D := upd s.D i d, F := upd s.F i (fun _ => False) }

section
variable {P : Program} {q : Ph} {Shun : Loc → Prop} {j : Nat} {gs : Array Goroutine} {w w' : World} {t : Trace} {s : Gst} {qo : Nat → Nat} {d0 : Nat}

theorem Com.foreign (hG : Geom q) (h : Com P q Shun j gs w t s qo d0) (hA : Aside q.Wg w w') {i b : Nat} (hb : s.F i b) : w'.heap[b]? = w.heap[b]? :=
  hA.block b (by have := (h.ob i b (h.fb i b hb)).1; have := hG.wg; omega)
theorem Com.chanA (hG : Geom q) (h : Com P q Shun j gs w t s qo d0) (hA : Aside q.Wg w w') : ChanAt q s.r w' := ⟨h.chan.1, by rw [hA.block _ (Ne.symm hG.wgch)]; exact h.chan.2⟩
theorem Com.payA (hG : Geom q) (h : Com P q Shun j gs w t s qo d0) (hA : Aside q.Wg w w') : PayO q w' := let ⟨cs, h1, h2⟩ := h.pay; ⟨cs, by rw [hA.block _ (Ne.symm hG.wgc)]; exact h1, h2⟩
theorem Com.finA (hR : ResOk q) (hG : Geom q) (hA : Aside q.Wg w w') {s' : Gst} (hF : ∀ i b, s'.F i b → s.F i b) {k : Nat} (hf : Fin1 q s j k w) : Fin1 q s' j k w' :=
  hf.of hR (fun b b1 _ b3 => ⟨hA.block b (by have := hG.wg; omega), fun i hi hb => b3 i hi (hF i b hb)⟩) (by rw [hA.size]; exact Nat.le_refl _) (cell_of_eq (hA.block _ (Ne.symm hG.wgc))) (cell_of_eq (hA.block _ (Ne.symm hG.wgc)))

/-- a worker on its way out -/
theorem Com.stepB (hR : ResOk q) (hG : Geom q) (h : Com P q Shun j gs w t s qo d0) {i : Nat} (hi : i < j) {gs' : Array Goroutine} {g' : Goroutine} {fn : FuncId} {pos : String} {es : Array Event} {s' m' dd' : Nat}
    (hsz : gs'.size = gs.size) (hoth : ∀ x, x ≠ 0 → x ≠ q.j0 + i + 1 → gs'[x]? = gs[x]?) (hme : gs'[q.j0 + i + 1]? = some g')
    (hA : Aside q.Wg w w') (hl : WgLive q.ty q.Wg w') (hold : s.hold i = none) (hrN : s.r = q.N) (hs' : KSit P q s' m' dd' g' w')
    (hok : ∀ e ∈ es, ∀ x, (MemAct.ofEvent e).touch? = some x → ShN q.Wg x.loc ∧ x.kind = .atomic) (hlow : ∀ e ∈ es, (MemAct.ofEvent e).low q.Low) (hnr : ∀ e ∈ es, e.loc ≠ .mark (.release (stA q.Wg)))
    (hdeaf : deafBehind (s.D i).deaf es = dd') (hrel : ∃ r, RelBy (stA q.Wg) (t ++ MemOp.ofEvents (q.j0 + i + 1) fn pos es) (q.j0 + i + 1) r) :
    Com P q Shun j gs' w' (t ++ MemOp.ofEvents (q.j0 + i + 1) fn pos es) (s.out i ⟨s', m', dd'⟩) qo d0 := by
  have hrs := RS.of_wg hG hA hl
  have hsize : w'.heap.size = w.heap.size := hA.size
  have hlw := h.low
  have hWg := hG.wg
  have hok' : ∀ op ∈ MemOp.ofEvents (q.j0 + i + 1) fn pos es, OkK (ShN q.Wg) q.lowL q.j0 (s.own q) i op := fun op hop => by
    obtain ⟨e, he, rfl⟩ := Go.Conc.mem_ofEvents hop
    exact ⟨rfl, fun x hx => .inl (hok e he x hx)⟩
  have eD : (s.out i ⟨s', m', dd'⟩).D = upd s.D i ⟨s', m', dd'⟩ := rfl
  have eF : (s.out i ⟨s', m', dd'⟩).F = upd s.F i (fun _ => False) := rfl
  have hF : ∀ i' b, (s.out i ⟨s', m', dd'⟩).F i' b → s.F i' b := fun i' b hb => by
    rw [eF] at hb
    by_cases e : i' = i
    · subst e; rw [upd_same] at hb; exact hb.elim
    · rwa [upd_ne _ _ e] at hb
  have oth : ∀ x, x ≠ q.j0 + i + 1 → Deaf (t ++ MemOp.ofEvents (q.j0 + i + 1) fn pos es) x = Deaf t x := fun x hx => Deaf_other t (Ne.symm hx) _ g_of_ofEvents
  refine ⟨hsz.trans h.size, fun x h1 h2 => ?_, fun i' hi' => ?_, fun i' hi' h6 => ?_, fun i' b hb => h.fb i' b (hF i' b hb), fun i' b hb => by rw [hsize]; exact h.ob i' b hb, h.obd, h.kt, h.ktd, h.hk, (h.chanA hG hA : ChanAt q s.r w'), h.payA hG hA, fun k hk => (h.fin k hk).imp id (Com.finA hR hG hA hF), show TR Shun (ShN q.Wg) q.lowL q.j0 j (s.own q) _ from h.tr.appK (h.apt hG) hi hok', fun x a ha => ?_,
    seen_app (fun op hop => by rw [hsize]; exact h.seen op hop) (fun op hop => by obtain ⟨e, he, rfl⟩ := Go.Conc.mem_ofEvents hop; exact MemAct.low_mono (by omega) (hlow e he)), h.norel.app (norel_of hnr), (oth 0 (by omega)).trans h.deaf0, fun i' hi' => ?_, fun x hx => (oth x (by omega)).trans (h.above x hx), fun i' hi' h6 => ?_, by omega⟩
  · obtain ⟨g, hg, hq⟩ := h.old x h1 h2
    exact ⟨g, by rw [hoth x (by omega) (by omega)]; exact hg, by rw [oth x (by omega)]; exact hq⟩
  · by_cases e : i' = i
    · subst e
      refine ⟨g', hme, .inr ?_⟩
      rw [eD, upd_same]; exact hs'
    · obtain ⟨g, hg, hq⟩ := h.wkAt hrs hi' fun b hb => h.foreign hG hA hb
      refine ⟨g, by rw [hoth _ (by omega) (by omega)]; exact hg, ?_⟩
      rw [eD, eF, upd_ne _ _ e, upd_ne _ _ e]
      exact hq
  · by_cases e : i' = i
    · subst e
      exact ⟨hold, fun b => by rw [eF, upd_same]; exact id, hrN⟩
    · rw [eD, upd_ne _ _ e] at h6
      rw [eF, upd_ne _ _ e]
      exact h.low6 i' hi' h6
  · obtain ⟨op, ho, hoa⟩ := touch_of ha
    rcases getElem?_append_cases ho with ⟨_, ho'⟩ | ⟨_, hou⟩
    · rw [hsize]; exact h.fresh x a (by rw [touchAt_of ho']; exact hoa)
    · obtain ⟨e, he, rfl⟩ := Go.Conc.mem_ofEvents hou
      obtain ⟨⟨ad, e1, e2⟩, _⟩ := hok e he a hoa
      refine ⟨fun ad' e3 => ?_, fun c e3 => by rw [e1] at e3; cases e3⟩
      rw [e1] at e3; cases e3
      exact ⟨by omega, fun e4 => absurd (e2.symm.trans e4) hG.wgc⟩
  · rw [eD]
    by_cases e : i' = i
    · subst e; rw [upd_same, Deaf_own, h.deafW i' hi']; exact hdeaf
    · rw [upd_ne _ _ e, oth _ (by omega)]; exact h.deafW i' hi'
  · by_cases e : i' = i
    · subst e; exact hrel
    · rw [eD, upd_ne _ _ e] at h6
      obtain ⟨r, hr⟩ := h.rel i' hi' h6
      exact ⟨r, hr.appOther g_of_ofEvents (by omega)⟩

/-- the starter -/
theorem Com.stepM (hR : ResOk q) (hG : Geom q) (h : Com P q Shun j gs w t s qo d0) {gs' : Array Goroutine} {fn : FuncId} {pos : String} {es : Array Event}
    (hsz : gs'.size = gs.size) (hoth : ∀ x, x ≠ 0 → gs'[x]? = gs[x]?) (hA : Aside q.Wg w w') (hl : WgLive q.ty q.Wg w')
    (hok : ∀ e ∈ es, ∀ x, (MemAct.ofEvent e).touch? = some x → (ShN q.Wg x.loc ∧ x.kind ≠ .plain) ∨ (q.lowL x.loc ∧ x.write = false)) (hlow : ∀ e ∈ es, (MemAct.ofEvent e).low q.Low) (hnr : ∀ e ∈ es, e.loc ≠ .mark (.release (stA q.Wg))) :
    Com P q Shun j gs' w' (t ++ MemOp.ofEvents 0 fn pos es) s qo (deafBehind d0 es) := by
  have hrs := RS.of_wg hG hA hl
  have hsize : w'.heap.size = w.heap.size := hA.size
  have hlw := h.low
  have hWg := hG.wg
  have hok' : ∀ op ∈ MemOp.ofEvents 0 fn pos es, OkM (ShN q.Wg) q.lowL op := fun op hop => by
    obtain ⟨e, he, rfl⟩ := Go.Conc.mem_ofEvents hop
    exact ⟨rfl, fun x hx => hok e he x hx⟩
  have oth : ∀ x, x ≠ 0 → Deaf (t ++ MemOp.ofEvents 0 fn pos es) x = Deaf t x := fun x hx => Deaf_other t (Ne.symm hx) _ g_of_ofEvents
  refine ⟨hsz.trans h.size, fun x h1 h2 => ?_, fun i' hi' => ?_, h.low6, h.fb, fun i' b hb => by rw [hsize]; exact h.ob i' b hb, h.obd, h.kt, h.ktd, h.hk, h.chanA hG hA, h.payA hG hA, fun k hk => (h.fin k hk).imp id (Com.finA hR hG hA fun _ _ => id), h.tr.appM (h.apt hG) hok', fun x a ha => ?_,
    seen_app (fun op hop => by rw [hsize]; exact h.seen op hop) (fun op hop => by obtain ⟨e, he, rfl⟩ := Go.Conc.mem_ofEvents hop; exact MemAct.low_mono (by omega) (hlow e he)), h.norel.app (norel_of hnr), by rw [Deaf_own, h.deaf0], fun i' hi' => (oth _ (by omega)).trans (h.deafW i' hi'), fun x hx => (oth x (by omega)).trans (h.above x hx), fun i' hi' h6 => ?_, by omega⟩
  · obtain ⟨g, hg, hq⟩ := h.old x h1 h2
    exact ⟨g, by rw [hoth x (by omega)]; exact hg, by rw [oth x (by omega)]; exact hq⟩
  · obtain ⟨g, hg, hq⟩ := h.wkAt hrs hi' fun b hb => h.foreign hG hA hb
    exact ⟨g, by rw [hoth _ (by omega)]; exact hg, hq⟩
  · obtain ⟨op, ho, hoa⟩ := touch_of ha
    rcases getElem?_append_cases ho with ⟨_, ho'⟩ | ⟨_, hou⟩
    · rw [hsize]; exact h.fresh x a (by rw [touchAt_of ho']; exact hoa)
    · obtain ⟨e, he, rfl⟩ := Go.Conc.mem_ofEvents hou
      rcases hok e he a hoa with ⟨⟨ad, e1, e2⟩, _⟩ | ⟨hlo, _⟩
      · refine ⟨fun ad' e3 => ?_, fun c e3 => by rw [e1] at e3; cases e3⟩
        rw [e1] at e3; cases e3
        exact ⟨by omega, fun e4 => absurd (e2.symm.trans e4) hG.wgc⟩
      · refine ⟨fun ad' e3 => ?_, fun c e3 => ?_⟩
        · rw [e3] at hlo
          have h1 : ad'.block < q.Low := hlo.1
          exact ⟨by omega, fun e4 => absurd e4 hlo.2.2.2.1⟩
        · rw [e3] at hlo; have h1 : c < q.Low := hlo.1; omega
  · obtain ⟨r, hr⟩ := h.rel i' hi' h6
    exact ⟨r, hr.appOther g_of_ofEvents (by omega)⟩

/-- an earlier leaver -/
theorem Com.stepO (h : Com P q Shun j gs w t s qo d0) {x0 : Nat} (h1 : 1 ≤ x0) (h2 : x0 ≤ q.j0) {gs' : Array Goroutine} {g' : Goroutine} {fn : FuncId} {pos : String} {es : Array Event} {k : Nat}
    (hsz : gs'.size = gs.size) (hoth : ∀ x, x ≠ 0 → x ≠ x0 → gs'[x]? = gs[x]?) (hme : gs'[x0]? = some g') (hm : ∀ e ∈ es, e.mute = true) (hq : QuitsD P k (deafBehind (Deaf t x0) es) g') :
    Com P q Shun j gs' w (t ++ MemOp.ofEvents x0 fn pos es) s (upd qo x0 k) d0 := by
  have hnt : ∀ op ∈ MemOp.ofEvents x0 fn pos es, op.act.touch? = none := fun op hop => by obtain ⟨e, he, rfl⟩ := Go.Conc.mem_ofEvents hop; exact touch_mute (hm e he)
  have oth : ∀ x, x ≠ x0 → Deaf (t ++ MemOp.ofEvents x0 fn pos es) x = Deaf t x := fun x hx => Deaf_other t (Ne.symm hx) _ g_of_ofEvents
  refine ⟨hsz.trans h.size, fun x a1 a2 => ?_, fun i' hi' => ?_, h.low6, h.fb, h.ob, h.obd, h.kt, h.ktd, h.hk, h.chan, h.pay, h.fin, h.tr.appMute (g := x0) (by omega) g_of_ofEvents hnt, fun x a ha => ?_,
    seen_app h.seen (fun op hop => by obtain ⟨e, he, rfl⟩ := Go.Conc.mem_ofEvents hop; exact low_mute (hm e he) _), h.norel.app (norel_of fun e he e1 => by have := hm e he; obtain ⟨loc, wr, sy⟩ := e; simp only at e1; subst e1; cases this), (oth 0 (by omega)).trans h.deaf0, fun i' hi' => (oth _ (by omega)).trans (h.deafW i' hi'), fun x hx => (oth x (by omega)).trans (h.above x hx), fun i' hi' h6 => ?_, h.low⟩
  · by_cases e : x = x0
    · subst e; exact ⟨g', hme, by rw [upd_same, Deaf_own]; exact hq⟩
    · obtain ⟨g, hg, hq⟩ := h.old x a1 a2
      exact ⟨g, by rw [hoth x (by omega) e]; exact hg, by rw [upd_ne _ _ e, oth x e]; exact hq⟩
  · obtain ⟨g, hg, hq⟩ := h.wk i' hi'
    exact ⟨g, by rw [hoth _ (by omega) (by omega)]; exact hg, hq⟩
  · obtain ⟨op, ho, hoa⟩ := touch_of ha
    rcases getElem?_append_cases ho with ⟨_, ho'⟩ | ⟨_, hou⟩
    · exact h.fresh x a (by rw [touchAt_of ho']; exact hoa)
    · rw [hnt op hou] at hoa; cases hoa
  · obtain ⟨r, hr⟩ := h.rel i' hi' h6
    exact ⟨r, hr.appOther g_of_ofEvents (by omega)⟩

def Gst.born (s : Gst) (j : Nat) (ρ : Rk) : Gst := { s with D := upd s.D j ⟨7, 0, 0⟩, rk := upd s.rk j ρ, hold := upd s.hold j none, F := upd s.F j (fun _ => False) }
/-- the go statement -/
theorem Com.spawn (hR : ResOk q) (h : Com P q Shun j gs w t s qo 0) {a' child : Goroutine} {x y : MemOp} {ρ : Rk} (hx : x.g = 0 ∧ x.act = .go (q.j0 + j + 1)) (hy : y.g = q.j0 + j + 1 ∧ y.act = .start)
    (hc : Wk P q ρ none (fun _ => False) child w) (hF : ∀ b, ¬ s.OB j b) (hK : ∀ k, ¬ s.KT j k) :
    Com P q Shun (j + 1) ((gs.setIfInBounds 0 a').push child) w (t ++ #[x, y]) (s.born j ρ) qo 0 := by
  have hm : ∀ op ∈ #[x, y], op = x ∨ op = y := by intro op hop; simpa using hop
  have hst : ∀ op ∈ #[x, y], op.act ≠ .mark .disable ∧ op.act ≠ .mark .enable := by
    intro op hop
    rcases hm op hop with rfl | rfl
    · rw [hx.2]; exact ⟨by simp, by simp⟩
    · rw [hy.2]; exact ⟨by simp, by simp⟩
  have hds : ∀ g, Deaf (t ++ #[x, y]) g = Deaf t g := fun g => Deaf_still t g _ hst
  have hget : ∀ z, z ≠ 0 → z < q.j0 + j + 1 → ((gs.setIfInBounds 0 a').push child)[z]? = gs[z]? := fun z hz hlt => by
    rw [Array.getElem?_push_lt (by simp [h.size]; omega), ← Array.getElem?_eq_getElem, Array.getElem?_setIfInBounds_ne (by omega)]
  have hsnd : ((gs.setIfInBounds 0 a').push child)[q.j0 + j + 1]? = some child := by
    rw [show q.j0 + j + 1 = (gs.setIfInBounds 0 a').size by simp [h.size], Array.getElem?_push_size]
  have eD : (s.born j ρ).D = upd s.D j ⟨7, 0, 0⟩ := rfl
  have eF : (s.born j ρ).F = upd s.F j (fun _ => False) := rfl
  have eH : (s.born j ρ).hold = upd s.hold j none := rfl
  have eR : (s.born j ρ).rk = upd s.rk j ρ := rfl
  have hFs : ∀ i b, (s.born j ρ).F i b → s.F i b := fun i b hb => by
    rw [eF] at hb
    by_cases e : i = j
    · subst e; rw [upd_same] at hb; exact hb.elim
    · rwa [upd_ne _ _ e] at hb
  have hno : ∀ l, ¬ s.own q j l := fun l hl => by
    cases l with
    | cell ad => exact hl.elim (hF _) fun ⟨_, k, hk, _⟩ => hK k hk
    | obj c => exact hF c hl
    | _ => exact hl.elim
  refine ⟨by simp [h.size]; omega, fun z h1 h2 => ?_, fun i hi => ?_, fun i hi h6 => ?_, fun i b hb => h.fb i b (hFs i b hb), fun i b hb => ?_, h.obd, fun i k hk => ?_, h.ktd, fun i k hk => ?_, h.chan, h.pay, fun k hk => ?_, h.tr.fork hno hx hy h.deaf0, fun z a ha => ?_, seen_app h.seen (fun op hop => ?_), h.norel.app fun op hop => ?_, (hds 0).trans h.deaf0, fun i hi => ?_, fun z hz => (hds z).trans (h.above z (by omega)), fun i hi h6 => ?_, h.low⟩
  · obtain ⟨g, hg, hq⟩ := h.old z h1 h2
    exact ⟨g, by rw [hget z (by omega) (by omega)]; exact hg, by rw [hds]; exact hq⟩
  · rw [eD, eR, eH, eF]
    by_cases e : i = j
    · subst e
      rw [upd_same, upd_same, upd_same, upd_same]
      exact ⟨child, hsnd, .inl ⟨rfl, rfl, hc⟩⟩
    · rw [upd_ne _ _ e, upd_ne _ _ e, upd_ne _ _ e, upd_ne _ _ e]
      obtain ⟨g, hg, hq⟩ := h.wk i (by omega)
      exact ⟨g, by rw [hget _ (by omega) (by omega)]; exact hg, hq⟩
  · rw [eD] at h6
    rw [eH, eF]
    by_cases e : i = j
    · subst e; rw [upd_same] at h6; simp at h6
    · rw [upd_ne _ _ e] at h6
      rw [upd_ne _ _ e, upd_ne _ _ e]
      exact h.low6 i (by omega) h6
  · obtain ⟨a1, a2, a3⟩ := h.ob i b hb; exact ⟨a1, a2, by omega⟩
  · obtain ⟨a1, a2⟩ := h.kt i k hk; exact ⟨a1, by omega⟩
  · rw [eH] at hk
    by_cases e : i = j
    · subst e; rw [upd_same] at hk; cases hk
    · rw [upd_ne _ _ e] at hk; exact h.hk i k hk
  · rcases h.fin k hk with ⟨i, hi, hk'⟩ | hf
    · exact .inl ⟨i, by omega, by rw [eH, upd_ne _ _ (by omega)]; exact hk'⟩
    · refine .inr (hf.of hR (fun b _ _ b3 => ⟨rfl, fun i hi hb => ?_⟩) (Nat.le_refl _) rfl rfl)
      rw [eF] at hb
      by_cases e : i = j
      · subst e; rw [upd_same] at hb; exact hb
      · rw [upd_ne _ _ e] at hb; exact b3 i (by omega) hb
  · obtain ⟨op, ho, hoa⟩ := touch_of ha
    rcases getElem?_append_cases ho with ⟨_, ho'⟩ | ⟨_, hou⟩
    · exact h.fresh z a (by rw [touchAt_of ho']; exact hoa)
    · rcases hm op hou with rfl | rfl
      · rw [hx.2] at hoa; cases hoa
      · rw [hy.2] at hoa; cases hoa
  · rcases hm op hop with rfl | rfl
    · rw [hx.2]; trivial
    · rw [hy.2]; trivial
  · rcases hm op hop with rfl | rfl
    · rw [hx.2]; simp
    · rw [hy.2]; simp
  · rw [hds, eD]
    by_cases e : i = j
    · subst e; rw [upd_same]
      exact h.above _ (by omega)
    · rw [upd_ne _ _ e]; exact h.deafW i (by omega)
  · rw [eD] at h6
    by_cases e : i = j
    · subst e; rw [upd_same] at h6; simp at h6
    · rw [upd_ne _ _ e] at h6
      obtain ⟨r, hr⟩ := h.rel i (by omega) h6
      refine ⟨r, hr.appNot fun op hop => ?_⟩
      rcases hm op hop with rfl | rfl
      · rw [hx.1]; omega
      · rw [hy.1]; omega
end
end Go.Proofs.Ytjplnkkcmkpkbaa
/- The machine, 6: the invariant; a worker's step at its work. -/
namespace Go.Proofs.Ytjplnkkcmkpkbaa
open Go.Conc Go.ConcN
open Go.ConcR (KK wgBlock WgAt stA smA rd wr mk DC0 Bk g_of_ofEvents deafBehind_cons deafBehind_one ofEvent_loc_mark)

def Mu (q : Ph) (j : Nat) (s : Gst) (qo : Nat → Nat) (tag : CTag) (f0 : Nat) : Nat × (Nat → Rk) × Nat := (phi q.n (Vc j s.D) tag + Ssum j s.D, s.rk, f0 + 2 * (Fsum j s.D + sumTo (q.j0 + 1) qo))
section
variable (P : Program) (q : Ph) (Shun : Loc → Prop) (Anch Fin : Goroutine → World → Prop)
def Inv (μ : Nat × (Nat → Rk) × Nat) (m : Machine) (t : Trace) : Prop :=
  ∃ (gs : Array Goroutine) (w : World) (sl : Option (Nat × Nat)) (j : Nat) (s : Gst) (tag : CTag) (f0 d0 : Nat) (a : Goroutine) (st sm : Int) (qo : Nat → Nat),
    m = crowd gs w sl ∧ gs[0]? = some a ∧ MSit P q Anch Fin tag j f0 d0 a w ∧ Com P q Shun j gs w t s qo d0 ∧ WgAt q.ty q.Wg w st sm ∧ Go.ConcN.Mode j s.D tag st sm ∧ (tag = .ret → AcqA q j t) ∧ μ = Mu q j s qo tag f0
/-- the run goes on -/
def Next1 (gs : Array Goroutine) (w : World) (sl : Option (Nat × Nat)) (x : Nat) (t : Trace) (μ : Nat × (Nat → Rk) × Nat) : Prop :=
  ∃ m₁ ops μ', runT P (crowd gs w sl) x = (.next m₁, ops) ∧ Lt3 q.n μ' μ ∧ Inv P q Shun Anch Fin μ' m₁ (t ++ ops)
end

theorem AcqA.app {q : Ph} {j : Nat} {t u : Trace} (h : AcqA q j t) (hu : ∀ i r, i < j → RelBy (stA q.Wg) t (q.j0 + i + 1) r → RelBy (stA q.Wg) (t ++ u) (q.j0 + i + 1) r) : AcqA q j (t ++ u) := by
  obtain ⟨x, h1, h2, h3, h4⟩ := h
  have hq := lt_of_act? h1
  exact ⟨x, by rw [act?_old hq]; exact h1, by rw [g?_old hq]; exact h2, (heard_old hq).2 h3, fun i hi => let ⟨r, hr, hrq⟩ := h4 i hi; ⟨r, hu i r hi hr, hrq⟩⟩

/-! ### the channel and the results' block -/
theorem chanAt_unique {q : Ph} {r r' : Nat} {w : World} (h : ChanAt q r w) (h' : ChanAt q r' w) : r = r' := by
  have := h.2.symm.trans h'.2
  simp only [Option.some.injEq, Obj.chan.injEq] at this
  exact this.2.2.2.2.1
theorem jobs_size (r N : Nat) : (jobs r N).size = N - r := by simp [jobs]
theorem jobs_first {r N : Nat} (h : r < N) : (jobs r N).getD 0 undef = .int .i64 (r : Nat) := by
  have : N - r = (N - r - 1) + 1 := by omega
  unfold jobs
  rw [this, List.range'_succ]
  simp
theorem jobs_rest {r N : Nat} (h : r < N) : (jobs r N).extract 1 (jobs r N).size = jobs (r + 1) N := by
  have e : N - r = (N - (r + 1)) + 1 := by omega
  apply Array.ext'
  unfold jobs
  rw [e, List.range'_succ]
  simp only [List.map_cons, List.size_toArray, List.length_cons, List.length_map, List.length_range', List.extract_toArray, List.drop_succ_cons, List.drop_zero, List.extract_eq_take_drop]
  exact List.take_of_length_le (by simp)
theorem jobs_none (N : Nat) : jobs N N = #[] := by simp [jobs]
theorem took_aside {q : Ph} (w : World) (r : Nat) : Aside q.Ch w (took q w r) := Aside.put q.Ch w _
theorem took_chan {q : Ph} {w : World} {r : Nat} (h : ChanAt q r w) (hr : r < q.N) : ChanAt q (r + 1) (took q w r) := by
  refine ⟨by omega, ?_⟩
  have : q.Ch < w.heap.size := (Array.getElem?_eq_some_iff.1 h.2).1
  simp [took, World.setChan, this]
theorem RS.took {q : Ph} (hG : Geom q) {w : World} {r : Nat} (h : ChanAt q r w) (hr : r < q.N) : RS q w (took q w r) := by
  have hA := took_aside (q := q) w r
  refine ⟨fun b hb => hA.block b hb.2.2.1, fun ⟨st, sm, x⟩ => ⟨st, sm, x.of_block (hA.block _ hG.wgch)⟩, fun r' hr' => ?_, fun ⟨cs, h1, h2⟩ => ⟨cs, by rw [hA.block _ (Ne.symm hG.chc)]; exact h1, h2⟩, hA.tape, hA.os, hA.output, by rw [hA.size]; exact Nat.le_refl _⟩
  obtain rfl := chanAt_unique h hr'
  exact ⟨r + 1, by omega, took_chan h hr⟩

theorem put2_aside {q : Ph} (w : World) (k : Nat) (v0 v1 : Value) : Aside q.C w (put2 q w k v0 v1) := (aside_setCell w ⟨q.C, 2 * k, none⟩ v0).trans (aside_setCell _ ⟨q.C, 2 * k + 1, none⟩ v1)
theorem setCell_block {w : World} {c o : Nat} {cs : Array Value} {ty : TypeId} {v : Value} (h : w.heap[c]? = some (.cells cs ty)) : (w.setCell ⟨c, o, none⟩ v).heap[c]? = some (.cells (cs.setIfInBounds o v) ty) := by
  simp [World.setCell, Array.getElem?_modify, h]
theorem put2_pay {q : Ph} {w : World} {k : Nat} {v0 v1 : Value} (h : PayO q w) : PayO q (put2 q w k v0 v1) := by
  obtain ⟨cs, h1, h2⟩ := h
  exact ⟨_, setCell_block (setCell_block h1), by simp [h2]⟩
theorem RS.put2 {q : Ph} (hG : Geom q) {w : World} {k : Nat} {v0 v1 : Value} : RS q w (put2 q w k v0 v1) := by
  have hA := put2_aside (q := q) w k v0 v1
  exact ⟨fun b hb => hA.block b hb.2.2.2.1, fun ⟨st, sm, x⟩ => ⟨st, sm, x.of_block (hA.block _ hG.wgc)⟩, fun r hr => ⟨r, Nat.le_refl _, hr.1, by rw [hA.block _ hG.chc]; exact hr.2⟩, put2_pay, hA.tape, hA.os, hA.output, by rw [hA.size]; exact Nat.le_refl _⟩
theorem put2_far {q : Ph} {w : World} {k k' : Nat} {v0 v1 : Value} (h : k' ≠ k) : (put2 q w k v0 v1).cell? ⟨q.C, 2 * k', none⟩ = w.cell? ⟨q.C, 2 * k', none⟩ ∧ (put2 q w k v0 v1).cell? ⟨q.C, 2 * k' + 1, none⟩ = w.cell? ⟨q.C, 2 * k' + 1, none⟩ := by
  unfold Go.Proofs.Ytjplnkkcmkpkbaa.put2
  constructor
  · exact (World.cell?_setCell_other _ _ _ _ (by simp; omega)).trans (World.cell?_setCell_other _ _ _ _ (by simp; omega))
  · exact (World.cell?_setCell_other _ _ _ _ (by simp; omega)).trans (World.cell?_setCell_other _ _ _ _ (by simp; omega))
theorem put2_here {q : Ph} {w : World} {k : Nat} {v0 v1 : Value} (h : PayO q w) (hk : k < q.N) : (put2 q w k v0 v1).cell? ⟨q.C, 2 * k, none⟩ = some v0 ∧ (put2 q w k v0 v1).cell? ⟨q.C, 2 * k + 1, none⟩ = some v1 := by
  obtain ⟨cs, h1, h2⟩ := h
  have e0 : ∃ u, w.cell? ⟨q.C, 2 * k, none⟩ = some u := by
    refine ⟨cs[2 * k]'(by omega), ?_⟩
    simp only [World.cell?, h1]
    simp
  have e1 : ∃ u, w.cell? ⟨q.C, 2 * k + 1, none⟩ = some u := by
    refine ⟨cs[2 * k + 1]'(by omega), ?_⟩
    simp only [World.cell?, h1]
    simp
  obtain ⟨u0, e0⟩ := e0
  obtain ⟨u1, e1⟩ := e1
  unfold Go.Proofs.Ytjplnkkcmkpkbaa.put2
  constructor
  · exact (World.cell?_setCell_other _ _ _ _ (by simp)).trans (World.cell?_setCell_same _ _ _ e0)
  · exact World.cell?_setCell_same _ _ _ ((World.cell?_setCell_other _ _ _ _ (by simp)).trans e1)

section
variable {P : Program} {q : Ph} {Shun : Loc → Prop} {Anch Fin : Goroutine → World → Prop} {j : Nat} {gs : Array Goroutine} {w w' : World} {sl : Option (Nat × Nat)} {t : Trace} {s s' : Gst} {qo qo' : Nat → Nat} {tag : CTag} {f0 d0 : Nat} {a : Goroutine} {st sm st' sm' : Int}

/-- a step of somebody's who is not the starter -/
theorem stepGo (hAr : ∀ g w, Anch g w → g.status = .running) (hFr : ∀ g w, Fin g w → g.status = .running) {x : Nat} {g g' : Goroutine} {es : Array Event} (hx : x ≠ 0) (hg : gs[x]? = some g) (hgo : stepG P false g w = .go g' w' es)
    (ha : gs[0]? = some a) (hms : MSit P q Anch Fin tag j f0 d0 a w) (hcom : Com P q Shun j gs w t s qo d0) (hrs : RS q w w')
    (K : ∀ gs', gs'.size = gs.size → (∀ y, y ≠ 0 → y ≠ x → gs'[y]? = gs[y]?) → gs'[x]? = some g' → Com P q Shun j gs' w' (t ++ MemOp.ofEvents x g.frame.fn g.frame.place es) s' qo' d0)
    (hwg' : WgAt q.ty q.Wg w' st' sm') (hmode' : ∀ tag', (tag' = tag ∨ (tag = .blk ∧ tag' = .w3)) → (mayWake P g = true → g'.status = .running → tag' ≠ .blk) → Go.ConcN.Mode j s'.D tag' st' sm')
    (hacq : tag = .ret → AcqA q j (t ++ MemOp.ofEvents x g.frame.fn g.frame.place es))
    (hlt : ∀ tag' f', (tag' = tag ∨ (tag = .blk ∧ tag' = .w3)) → f' ≤ f0 + 1 → Lt3 q.n (Mu q j s' qo' tag' f') (Mu q j s qo tag f0)) : Next1 P q Shun Anch Fin gs w sl x t (Mu q j s qo tag f0) := by
  obtain ⟨tag', f', hms', hf', htag, hwk⟩ := hms.wokenBy hAr hFr hrs g g'
  have hlx : x < gs.size := (Array.getElem?_eq_some_iff.1 hg).1
  have hrun := runT_crowd_go (P := P) (sl := sl) (i := x) hg (by rw [show (x == 0) = false by simp [hx]]; exact hgo)
  refine ⟨_, _, Mu q j s' qo' tag' f', hrun, hlt tag' f' htag hf', _, w', sl, j, s', tag', f', d0, woken P g g' w' a, st', sm', qo', rfl, by rw [get_map_set _ _ _ _ hx, ha]; rfl, hms',
    K _ (by simp) (fun y h1 h2 => hcom.still g g' w' g' h1 h2) (get_map_set_same _ _ _ hlx), hwg', hmode' tag' htag hwk, fun e => ?_, rfl⟩
  rcases htag with rfl | ⟨_, rfl⟩
  · exact hacq e
  · cases e

/-- nobody offers anything -/
theorem no_partners (h : Com P q Shun j gs w t s qo d0) (ha : gs[0]? = some a) (hms : MSit P q Anch Fin tag j f0 d0 a w) (hAr : ∀ g w, Anch g w → g.status = .running) (hFr : ∀ g w, Fin g w → g.status = .running) (x c : Nat) (b : Bool) : partners (gs.setIfInBounds x ph) c b = [] := by
  refine partners_nil fun y g hg => ?_
  have key : g.status = .running ∨ g.status = .finished ∨ g.offers = none := by
    by_cases e : x = y
    · subst e
      have hlt : x < gs.size := by
        have := (Array.getElem?_eq_some_iff.1 hg).1
        simpa using this
      rw [Array.getElem?_setIfInBounds_self_of_lt (by simpa using hlt)] at hg
      obtain rfl := Option.some.inj hg
      exact .inr (.inl rfl)
    · rw [Array.getElem?_setIfInBounds_ne e] at hg
      by_cases y0 : y = 0
      · subst y0
        rw [ha] at hg; cases hg
        rcases hms.status hAr hFr with ⟨h1, _⟩ | ⟨_, rfl⟩
        · exact .inl h1
        · cases hms with
          | blk hb => exact .inr (.inr (hb w (.refl w)).2.1)
      · exact (h.stay y0 hg).imp id .inl
  unfold offersAt
  rcases key with h1 | h1 | h1 <;> (rw [h1]; try (cases g.status <;> rfl))

theorem lt3_rk {i : Nat} {ρ' : Rk} {hold' : Option Nat} {F' : Foot} {r' x y : Nat} (hi : i < q.n) (hlt : Rk.lt ρ' (s.rk i)) {tag' : CTag} {f' : Nat} (ht : tag' = tag ∨ (tag = .blk ∧ tag' = .w3)) :
    Lt3 q.n (Mu q j (s.work i ρ' hold' F' r' x y) qo tag' f') (Mu q j s qo tag f0) := by
  refine Lt3.snd _ _ ?_ ⟨i, hi, ?_, fun k hk => ?_⟩
  · show phi q.n (Vc j s.D) tag' + Ssum j s.D ≤ phi q.n (Vc j s.D) tag + Ssum j s.D
    rw [phi_retag q.n _ ht]; exact Nat.le_refl _
  · show Rk.lt (upd s.rk i ρ' i) (s.rk i)
    rw [upd_same]; exact hlt
  · show upd s.rk i ρ' k = s.rk k
    rw [upd_ne _ _ hk]
end
end Go.Proofs.Ytjplnkkcmkpkbaa
