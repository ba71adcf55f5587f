/- Several of my texts in one: Mn11, Mn10, Mn20. -/
import Derived.Test.YtjplnkkcmkpkbaaMA09
import Derived.Conc.WgGenN3
import Derived.Test.YtjplnkkcmkpkbaaMA15
import Derived.Test.YtjplnkkcmkpkbaaMA12
set_option linter.unusedSimpArgs false
set_option linter.unusedVariables false
/- The machine, 11: the library's Add and Wait, walked beside workers: words. -/
namespace Go.Proofs.Ytjplnkkcmkpkbaa
open Go.Conc Go.ConcN Go.RowKit Go.Conc.Lib Go.ConcR.Gen Go.ConcN.Gen
open Go.ConcR (KK wgBlock WgAt stA smA rd wr mk DC0)

theorem dm_none {q : Ph} {w : World} {es : Array Event} (h : ∀ e ∈ es, False) : DM q w w es := ⟨rfl, fun e he => (h e he).elim⟩
theorem rs_rely {q : Ph} {w0 w w₁ : World} (h : RS q w0 w ∧ WgLive q.ty q.Wg w) (r : RS q w w₁) : RS q w0 w₁ ∧ WgLive q.ty q.Wg w₁ := ⟨h.1.trans r, r.live h.2⟩

theorem quits_more {P : Program} : ∀ {n m d : Nat} {g : Goroutine}, QuitsD P n d g → n ≤ m → QuitsD P m d g
  | 0, 0, _, _, h, _ => h
  | 0, _ + 1, _, _, h, _ => .inl h
  | _ + 1, 0, _, _, _, hle => absurd hle (by omega)
  | _ + 1, _ + 1, _, _, h, hle => h.imp id fun ⟨h1, g', es, h2, h3, h4⟩ => ⟨h1, g', es, h2, h3, quits_more h4 (by omega)⟩
theorem goes_more {P : Program} {main : Bool} {R : World → World → Prop} {D : World → World → Array Event → Prop} {Stop : Goroutine → World → Prop} : ∀ {n m : Nat} {g : Goroutine} {w : World}, Goes P main R D Stop n g w → n ≤ m → Goes P main R D Stop m g w
  | 0, 0, _, _, h, _ => h
  | 0, _ + 1, _, _, h, _ => .inl h
  | _ + 1, 0, _, _, _, hle => absurd hle (by omega)
  | _ + 1, _ + 1, _, _, h, hle => h.imp id fun ⟨h1, h2⟩ => ⟨h1, fun w₁ r => by
      obtain ⟨g', w', es, e, hd, hn⟩ := goes_elim (h2 w₁ r)
      rw [e]
      exact ⟨hd, goes_more hn (by omega)⟩⟩

end Go.Proofs.Ytjplnkkcmkpkbaa
/- The machine, 10: the whole phase: from the frame of leavers to the frame of leavers, all results stored. -/
namespace Go.Proofs.Ytjplnkkcmkpkbaa
open Go.Conc Go.ConcN
open Go.ConcR (KK wgBlock WgAt stA smA rd wr mk DC0 Bk g_of_ofEvents)

theorem touch_low {x : MemAct} {a : Touch} {B : Nat} (h : x.touch? = some a) (hl : x.low B) : a.loc.low B := by
  cases x with
  | access e =>
    simp only [MemAct.touch?, Option.some.injEq] at h
    subst h; exact hl
  | mark m =>
    cases m <;> simp only [MemAct.touch?, Option.some.injEq] at h <;> first | (subst h; exact hl) | (cases h; done)
  | _ => cases h

section
variable {P : Program} {q : Ph} {Shun : Loc → Prop} {Anch Fin : Goroutine → World → Prop} {gs : Array Goroutine} {w : World} {sl : Option (Nat × Nat)} {t : Trace} {a : Goroutine}

/-- what a phase hands on -/
structure Over (P : Program) (q : Ph) (Shun : Loc → Prop) (Fin : Goroutine → World → Prop) (gs : Array Goroutine) (w : World) (a : Goroutine) (t : Trace) (qo : Nat → Nat) : Prop where
  at0 : gs[0]? = some a
  size : gs.size = q.j0 + q.n + 1
  fin : Fin a w
  leave : Leavers P t gs qo
  past : Past (fun l => Shun l ∨ ShN q.Wg l) w.heap.size t
  gs : ∀ op ∈ t, op.g ≤ q.j0 + q.n
  res : ∀ k, k < q.N → ∃ v0 v1 Fk, q.Res k v0 v1 Fk w ∧ w.cell? ⟨q.C, 2 * k, none⟩ = some v0 ∧ w.cell? ⟨q.C, 2 * k + 1, none⟩ = some v1 ∧ ∀ b, Fk b → q.Low ≤ b ∧ b < w.heap.size
  pay : PayO q w
  low : q.Low ≤ w.heap.size

theorem AtFin.out (hn1 : 1 ≤ q.n) {m : Machine} (h : AtFin P q Shun Fin m t) : ∃ gs w sl a qo, m = crowd gs w sl ∧ Over P q Shun Fin gs w a t qo := by
  obtain ⟨gs, w, sl, s, a, qo, rfl, ha, hf, hcom, hq, hacq⟩ := h
  have hN : s.r = q.N := (hcom.low6 0 (by omega) (by rw [hq 0 (by omega)]; omega)).2.2
  obtain ⟨x, h1, h2, h3, h4⟩ := hacq
  refine ⟨gs, w, sl, a, fun i => if i ≤ q.j0 then qo i else (s.D (i - q.j0 - 1)).fuel, rfl, ha, hcom.size, hf, ⟨fun i g hi hg => ?_, fun i hi => hcom.above i (by rw [hcom.size] at hi; exact hi)⟩, hcom.tr.join hcom.norel h1 h2 h3 h4 hcom.deaf0 hcom.seen, fun op hop => ?_, fun k hk => ?_, hcom.pay, hcom.low⟩
  · have hlt : i < gs.size := (Array.getElem?_eq_some_iff.1 hg).1
    rw [hcom.size] at hlt
    rcases Nat.lt_or_ge q.j0 i with hj | hj
    · rw [if_neg (by omega)]
      obtain ⟨i', rfl⟩ : ∃ i', i = q.j0 + i' + 1 := ⟨i - q.j0 - 1, by omega⟩
      have e : q.j0 + i' + 1 - q.j0 - 1 = i' := by omega
      rw [e]
      obtain ⟨g1, hg1, hs⟩ := hcom.wk i' (by omega)
      obtain rfl : g = g1 := by rw [hg] at hg1; exact Option.some.inj hg1
      have hst := hq i' (by omega)
      rw [hcom.deafW i' (by omega)]
      rcases hs with ⟨h7, _⟩ | hs
      · omega
      · generalize (s.D i').stage = sg at hs hst
        generalize (s.D i').fuel = fu at hs ⊢
        generalize (s.D i').deaf = de at hs ⊢
        cases hs <;> first | (exact absurd hst (by decide)) | assumption
    · rw [if_pos hj]
      obtain ⟨g1, hg1, hs⟩ := hcom.old i hi hj
      rw [hg] at hg1; cases hg1
      exact hs
  · obtain ⟨i, hi⟩ := Array.mem_iff_getElem?.1 hop
    exact hcom.tr.gs i op hi
  · rcases hcom.fin k (by omega) with ⟨i, hi, hk'⟩ | ⟨v0, v1, Fk, r1, r2, r3, r4⟩
    · have := (hcom.low6 i hi (by rw [hq i hi]; omega)).1
      rw [this] at hk'; cases hk'
    · exact ⟨v0, v1, Fk, r1, r2, r3, fun b hb => ⟨(r4 b hb).1, (r4 b hb).2.1⟩⟩

/-- ONE CALL's PHASE, from the loop that starts the hands to the step behind the join, on whatever tape -/
theorem phase (hR : ResOk q) (hG : Geom q) (hn : q.n < 2147483648) (hn1 : 1 ≤ q.n) (hAr : ∀ g w, Anch g w → g.status = .running) (hFr : ∀ g w, Fin g w → g.status = .running)
    (hAn : ∀ g w, Anch g w → ∃ m, Goes P true (RS q) (DM q) (MW1 P q Anch Fin) m g w) {qo : Nat → Nat}
    (hsz : gs.size = q.j0 + 1) (ha : gs[0]? = some a) (hL : Leavers P t gs qo) (hP : Past Shun q.Wg t) (hgs : ∀ op ∈ t, op.g ≤ q.j0) (hC : ∀ x b, touchAt t x = some b → ∀ ad, b.loc = .cell ad → ad.block ≠ q.C)
    (hold : ∀ l, q.lowL l → ¬ Shun l) (hlow : q.Low ≤ w.heap.size) (hch : ChanAt q 0 w) (hpay : PayO q w) (hwg : WgAt q.ty q.Wg w 0 0) (hsp : Spw P q (Wt P q Anch) q.n a w) :
    ∃ N m' t', runNT P N (crowd gs w sl) t = (.next m', t') ∧ ∃ gs' w' sl' a' qo', m' = crowd gs' w' sl' ∧ Over P q Shun Fin gs' w' a' t' qo' := by
  let s0 : Gst := ⟨fun _ => ⟨0, 0, 0⟩, fun _ => .z, fun _ => none, fun _ _ => False, fun _ _ => False, fun _ _ => False, 0⟩
  have hWg := hG.wg
  have hlowt : ∀ x b, touchAt t x = some b → b.loc.low q.Wg := fun x b hb => by
    obtain ⟨op, ho, hob⟩ := touch_of hb
    exact touch_low hob (hP.seen op (Array.mem_of_getElem? ho))
  have hcom : Com P q Shun 0 gs w t s0 qo 0 := by
    refine ⟨hsz, fun i h1 h2 => ?_, fun i hi => absurd hi (Nat.not_lt_zero i), fun i hi => absurd hi (Nat.not_lt_zero i), fun i b hb => hb.elim, fun i b hb => hb.elim, fun i i' b hb => hb.elim, fun i k hk => hk.elim, fun i i' k hk => hk.elim, fun i k hk => (by cases hk), hch, hpay, fun k hk => absurd hk (Nat.not_lt_zero k), ?_, fun x b hb => ?_,
      fun op hop => MemAct.low_mono (by omega) (hP.seen op hop), fun i hi => ?_, hP.hears, fun i hi => absurd hi (Nat.not_lt_zero i), fun i hi => hL.above i (by omega), fun i hi => absurd hi (Nat.not_lt_zero i), hlow⟩
    · obtain ⟨g, hg⟩ : ∃ g, gs[i]? = some g := ⟨gs[i]'(by omega), Array.getElem?_eq_getElem (by omega)⟩
      exact ⟨g, hg, hL.old i g (by omega) hg⟩
    · refine TR.begin hP (fun x op ho => hgs op (Array.mem_of_getElem? ho)) (fun l hl => ⟨hold l hl, ?_⟩) fun x b hb => ?_
      · cases l <;> first | rfl | exact hl.elim
      · rintro ⟨ad, e1, e2⟩
        have := hlowt x b hb
        rw [e1] at this
        have h3 : ad.block < q.Wg := this
        omega
    · have := hlowt x b hb
      refine ⟨fun ad e => ?_, fun c e => ?_⟩
      · rw [e] at this
        have h3 : ad.block < q.Wg := this
        exact ⟨by omega, fun e4 => absurd e4 (hC x b hb ad e)⟩
      · rw [e] at this
        have h3 : c < q.Wg := this
        omega
    · obtain ⟨op, ho, hoe⟩ := Option.map_eq_some_iff.1 hi
      have := hP.seen op (Array.mem_of_getElem? ho)
      rw [hoe] at this
      have h3 : q.Wg < q.Wg := this
      omega
  have hmode : ∀ r, Go.ConcN.Mode 0 s0.D (.sp r 5) 0 0 := fun r => by
    have := Go.ConcN.Mode.opn (j := 0) (D := s0.D) (tag := .sp r 5) trivial (fun i hi => by omega) (fun vs e => by cases e)
    simpa [Vc, sumTo, pend] using this
  obtain ⟨r, hr⟩ : ∃ r, q.n = r + 1 := ⟨q.n - 1, by omega⟩
  rw [hr] at hsp
  obtain ⟨m, hk⟩ := hsp
  have hms := MSit.skd (P := P) (q := q) (Anch := Anch) (Fin := Fin) (r := r) (by omega) hk
  rw [show q.n - (r + 1) = 0 by omega] at hms
  obtain ⟨N, m', t', h1, h2⟩ := run_to (Lt3.wf q.n) (Inv P q Shun Anch Fin) (AtFin P q Shun Fin) (phase_step hR hG hn hAr hFr hAn) _ (crowd gs w sl) t ⟨gs, w, sl, 0, s0, .sp r 5, m, 0, a, 0, 0, qo, rfl, ha, hms, hcom, hwg, hmode r, by simp, rfl⟩
  exact ⟨N, m', t', h1, h2.out hn1⟩
end
end Go.Proofs.Ytjplnkkcmkpkbaa
/- The machine, 20: what is carried along between two phases. -/
namespace Go.Proofs.Ytjplnkkcmkpkbaa
open Go.Conc Go.ConcN
open Go.ConcR (g_of_ofEvents)

/-- the trace between two phases; block C is not touched yet -/
structure TI (Shun : Loc → Prop) (B N C : Nat) (t : Trace) : Prop where
  past : Past Shun B t
  gs : ∀ op ∈ t, op.g < N
  free : ∀ x b, touchAt t x = some b → ∀ ad, b.loc = .cell ad → ad.block ≠ C
/-- what goroutine 0 may list between two phases -/
def EvI (Shun : Loc → Prop) (B C : Nat) (e : Event) : Prop := Go.Conc.EvL Shun B e ∧ ∀ x, (MemAct.ofEvent e).touch? = some x → ∀ ad, x.loc = .cell ad → ad.block ≠ C
section
variable {Shun : Loc → Prop} {B N C : Nat} {t u : Trace}
theorem free_app (h : ∀ x b, touchAt t x = some b → ∀ ad, b.loc = .cell ad → ad.block ≠ C) (hu : ∀ op ∈ u, ∀ b, op.act.touch? = some b → ∀ ad, b.loc = .cell ad → ad.block ≠ C) : ∀ x b, touchAt (t ++ u) x = some b → ∀ ad, b.loc = .cell ad → ad.block ≠ C := by
  intro x b hb
  obtain ⟨op, ho, hob⟩ := touch_of hb
  rcases getElem?_append_cases ho with ⟨_, ho'⟩ | ⟨_, hou⟩
  · exact h x b (by rw [touchAt_of ho']; exact hob)
  · exact hu op hou b hob
theorem TI.keeps : KeepsMute N (TI Shun B N C) := fun t g fn pos es hg hN hm h =>
  ⟨h.past.mute (by omega) hm, fun op hop => (Array.mem_append.1 hop).elim (h.gs op) fun ho => by obtain ⟨e, _, rfl⟩ := Go.Conc.mem_ofEvents ho; exact hN,
    free_app h.free fun op hop b hb => by obtain ⟨e, he, rfl⟩ := Go.Conc.mem_ofEvents hop; rw [touch_mute (hm e he)] at hb; cases hb⟩
theorem TI.own (hN : 0 < N) (h : TI Shun B N C t) {fn : FuncId} {pos : String} {es : Array Event} (hes : ∀ e ∈ es, EvI Shun B C e) : TI Shun B N C (t ++ MemOp.ofEvents 0 fn pos es) :=
  ⟨h.past.own fun e he => (hes e he).1, fun op hop => (Array.mem_append.1 hop).elim (h.gs op) fun ho => by obtain ⟨e, _, rfl⟩ := Go.Conc.mem_ofEvents ho; exact hN,
    free_app h.free fun op hop b hb => by obtain ⟨e, he, rfl⟩ := Go.Conc.mem_ofEvents hop; exact (hes e he).2 b hb⟩
theorem TI.sent (hN : 0 < N) (h : TI Shun B N C t) {fn : FuncId} {pos : String} {c s : Nat} (hc : c < B) : TI Shun B N C (t ++ #[{ g := 0, fn, pos, act := .send c s }, { g := 0, fn, pos, act := .sendDone c s }]) := by
  have hm : ∀ op ∈ (#[{ g := 0, fn, pos, act := .send c s }, { g := 0, fn, pos, act := .sendDone c s }] : Trace), op.g = 0 ∧ op.act.touch? = none ∧ op.act.low B ∧ op.act ≠ .mark .disable ∧ op.act ≠ .mark .enable := by
    intro op hop
    simp at hop
    rcases hop with rfl | rfl
    · exact ⟨rfl, rfl, hc, by simp, by simp⟩
    · exact ⟨rfl, rfl, hc, by simp, by simp⟩
  refine ⟨h.past.app0 (fun op hop => (hm op hop).1) (fun op hop b hb => by rw [(hm op hop).2.1] at hb; cases hb) (Deaf_still t 0 _ fun op hop => (hm op hop).2.2.2) (fun op hop => (hm op hop).2.2.1), fun op hop => (Array.mem_append.1 hop).elim (h.gs op) fun ho => by rw [(hm op ho).1]; exact hN, free_app h.free fun op hop b hb => by rw [(hm op hop).2.1] at hb; cases hb⟩
/-- a later bound; another block that lies above all that is named -/
theorem TI.next {B' C' : Nat} (h : TI Shun B N C t) (hB : B ≤ B') (hC : B ≤ C') : TI Shun B' N C' t :=
  ⟨h.past.mono hB, h.gs, fun x b hb ad e => by
    obtain ⟨op, ho, hob⟩ := touch_of hb
    have := touch_low hob (h.past.seen op (Array.mem_of_getElem? ho))
    rw [e] at this
    have h3 : ad.block < B := this
    omega⟩
theorem TI.grow {B' : Nat} (h : TI Shun B N C t) (hB : B ≤ B') : TI Shun B' N C t := ⟨h.past.mono hB, h.gs, h.free⟩
/-- behind a phase -/
theorem Over.ti {P : Program} {q : Ph} {Fin : Goroutine → World → Prop} {gs : Array Goroutine} {w : World} {a : Goroutine} {qo : Nat → Nat} (h : Over P q Shun Fin gs w a t qo) : TI (fun l => Shun l ∨ ShN q.Wg l) w.heap.size gs.size w.heap.size t :=
  ⟨h.past, fun op hop => by have := h.gs op hop; have := h.size; omega, fun x b hb ad e => by
    obtain ⟨op, ho, hob⟩ := touch_of hb
    have := touch_low hob (h.past.seen op (Array.mem_of_getElem? ho))
    rw [e] at this
    have h3 : ad.block < w.heap.size := this
    omega⟩
end
end Go.Proofs.Ytjplnkkcmkpkbaa
