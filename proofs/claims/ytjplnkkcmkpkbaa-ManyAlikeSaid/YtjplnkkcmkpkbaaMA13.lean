/- Several of my texts in one: Mn7. -/
import Derived.Test.YtjplnkkcmkpkbaaMA11
set_option linter.unusedSimpArgs false
set_option linter.unusedVariables false
/- The machine, 7: a worker at its work takes a step. -/
namespace Go.Proofs.Ytjplnkkcmkpkbaa
open Go.Conc Go.ConcN
open Go.ConcR (KK wgBlock WgAt stA smA rd wr mk DC0 Bk g_of_ofEvents deafBehind_cons deafBehind_one ofEvent_loc_mark)

section
variable {P : Program} {q : Ph} {Shun : Loc → Prop} {Anch Fin : Goroutine → World → Prop} {j : Nat} {gs : Array Goroutine} {w w' : World} {sl : Option (Nat × Nat)} {t : Trace} {s s' : Gst} {qo qo' : Nat → Nat} {tag : CTag} {f0 d0 : Nat} {a : Goroutine} {st sm st' sm' : Int}

theorem lt3_out {i : Nat} {s' m' dd' : Nat} (hi : i < j) (hlt : (s' < (s.D i).stage ∧ cnt ⟨s', m', dd'⟩ ≤ cnt (s.D i)) ∨ (s' = (s.D i).stage ∧ m' + 1 = (s.D i).fuel)) {tag' : CTag} {f' : Nat} (ht : tag' = tag ∨ (tag = .blk ∧ tag' = .w3)) (hf : f' ≤ f0 + 1) :
    Lt3 q.n (Mu q j (s.out i ⟨s', m', dd'⟩) qo tag' f') (Mu q j s qo tag f0) := by
  have e1 := sumTo_upd s.D (⟨s', m', dd'⟩ : WD) cnt hi
  have e2 := sumTo_upd s.D (⟨s', m', dd'⟩ : WD) WD.stage hi
  have e3 := sumTo_upd s.D (⟨s', m', dd'⟩ : WD) WD.fuel hi
  simp only [Mu, Gst.out]
  rw [phi_retag q.n _ ht]
  simp only [Vc, Ssum, Fsum] at *
  rcases hlt with ⟨h1, h2⟩ | ⟨h1, h2⟩
  · refine Lt3.fst _ _ _ _ ?_
    have := phi_mono q.n (v' := sumTo j fun a => cnt (upd s.D i ⟨s', m', dd'⟩ a)) (v := sumTo j fun a => cnt (s.D a)) (by omega) tag
    omega
  · have ec : cnt (⟨s', m', dd'⟩ : WD) = cnt (s.D i) := by simp only [cnt, h1]
    have ev : (sumTo j fun a => cnt (upd s.D i ⟨s', m', dd'⟩ a)) = sumTo j fun a => cnt (s.D a) := by omega
    have es' : (sumTo j fun a => (upd s.D i ⟨s', m', dd'⟩ a).stage) = sumTo j fun a => (s.D a).stage := by omega
    rw [ev, es']
    refine Lt3.thd _ (Nat.le_refl _) ?_
    omega

theorem RS.of_dp (hG : Geom q) (h : Com P q Shun j gs w t s qo d0) {i : Nat} {F' : Foot} {es : Array Event} (hD : Dp q.low (s.F i) F' w w' es) : RS q w w' := by
  have hl := h.low
  have nf : ∀ b, b < q.Low → w'.heap[b]? = w.heap[b]? := fun b hb => hD.old b (by omega) fun hf => by have := (h.ob i b (h.fb i b hf)).1; omega
  exact ⟨fun b hb => nf b hb.1, fun ⟨st, sm, x⟩ => ⟨st, sm, x.of_block (nf _ hG.wg)⟩, fun r hr => ⟨r, Nat.le_refl _, hr.1, by rw [nf _ hG.ch]; exact hr.2⟩, fun ⟨cs, h1, h2⟩ => ⟨cs, by rw [nf _ hG.c]; exact h1, h2⟩, hD.tape, hD.os, hD.out, hD.grow⟩

set_option maxHeartbeats 1000000 in
theorem stepPriv (hR : ResOk q) (hG : Geom q) (hAr : ∀ g w, Anch g w → g.status = .running) (hFr : ∀ g w, Fin g w → g.status = .running)
    (ha : gs[0]? = some a) (hms : MSit P q Anch Fin tag j f0 d0 a w) (hcom : Com P q Shun j gs w t s qo d0) (hwg : WgAt q.ty q.Wg w st sm) (hmode : Go.ConcN.Mode j s.D tag st sm) (hne : tag ≠ .ret)
    {i : Nat} (hi : i < j) {g g' : Goroutine} {ρ' : Rk} {F' : Foot} {es : Array Event} (hg : gs[q.j0 + i + 1]? = some g) (h7 : (s.D i).stage = 7 ∧ (s.D i).deaf = 0) (hρ : Rk.lt ρ' (s.rk i))
    (hgo : stepG P false g w = .go g' w' es) (hD : Dp q.low (s.F i) F' w w' es) (hwk : Wk P q ρ' (s.hold i) F' g' w') : Next1 P q Shun Anch Fin gs w sl (q.j0 + i + 1) t (Mu q j s qo tag f0) := by
  have hin : i < q.n := by have := hms.bound; omega
  have hrs := RS.of_dp hG hcom hD
  have hl := hcom.low
  have nf : ∀ b, b < q.Low → w'.heap[b]? = w.heap[b]? := fun b hb => hD.old b (by omega) fun hf => by have := (hcom.ob i b (hcom.fb i b hf)).1; omega
  have hO : ∀ b, F' b → (s.work i ρ' (s.hold i) F' s.r w.heap.size w'.heap.size).OB i b := fun b hb => by
    show upd s.OB i _ i b
    rw [upd_same]
    exact (hD.new b hb).imp (hcom.fb i b) id
  have hsz : ∀ b, F' b → b < w'.heap.size := fun b hb => by
    have hgr := hD.grow
    rcases hD.new b hb with h | h
    · have := (hcom.ob i b (hcom.fb i b h)).2.1; omega
    · exact h.2
  have hWg := hG.wg
  refine stepGo (s' := s.work i ρ' (s.hold i) F' s.r w.heap.size w'.heap.size) (qo' := qo) hAr hFr (by omega) hg hgo ha hms hcom hrs (fun gs' h1 h2 h3 => hcom.stepA hR hG hi h1 h2 h3 h7 hrs (fun b hb hn _ _ => hD.old b hb hn) hwk hD.new (Nat.le_refl _)
    (fun k hk => .inl (hcom.hk i k hk)) ⟨hcom.chan.1, by rw [nf _ hG.ch]; exact hcom.chan.2⟩ (let ⟨cs, h1, h2⟩ := hcom.pay; ⟨cs, by rw [nf _ hG.c]; exact h1, h2⟩) (fun k _ => .inl ⟨cell_of_eq (nf _ hG.c), cell_of_eq (nf _ hG.c)⟩) (fun k hk => .inl hk) (fun k h1 h2 => by omega) ?_ ?_ ?_)
    (hwg.of_block (nf _ hG.wg)) (fun tag' ht _ => hmode.retag ht) (fun e => absurd e hne) (fun tag' f' ht _ => lt3_rk hin hρ ht)
  · intro op hop
    obtain ⟨e, he, rfl⟩ := Go.Conc.mem_ofEvents hop
    refine ⟨rfl, fun x hx => ?_⟩
    rcases hD.evs e he with rfl | ⟨ad, wr, rfl, h1, h2⟩ | ⟨c, rfl, h1⟩
    · cases hx
    · have ex : x = { loc := .cell ad, write := wr, kind := .plain } := by cases wr <;> (simp [MemAct.ofEvent, MemAct.touch?] at hx; exact hx.symm)
      subst ex
      rcases h1 with h1 | h1
      · cases wr with
        | false => exact .inr (.inr ⟨h1, rfl, rfl⟩)
        | true => exact .inr (.inl ⟨.inl (hO _ (h2 rfl)), rfl⟩)
      · exact .inr (.inl ⟨.inl (hO _ h1), rfl⟩)
    · have ex : x = { loc := .obj c, write := false, kind := .plain } := by simp [MemAct.ofEvent, MemAct.touch?] at hx; exact hx.symm
      subst ex
      rcases h1 with h1 | h1
      · exact .inr (.inr ⟨h1, rfl, rfl⟩)
      · exact .inr (.inl ⟨hO _ h1, rfl⟩)
  · intro op hop
    have hgr := hD.grow
    obtain ⟨e, he, rfl⟩ := Go.Conc.mem_ofEvents hop
    rcases hD.evs e he with rfl | ⟨ad, wr, rfl, h1, h2⟩ | ⟨c, rfl, h1⟩
    · trivial
    · show ad.block < w'.heap.size
      rcases h1 with h1 | h1
      · have : ad.block < q.Low := h1.1; omega
      · exact hsz _ h1
    · show c < w'.heap.size
      rcases h1 with h1 | h1
      · have : c < q.Low := h1.1; omega
      · exact hsz _ h1
  · intro op hop
    obtain ⟨e, he, rfl⟩ := Go.Conc.mem_ofEvents hop
    rcases hD.evs e he with rfl | ⟨ad, wr, rfl, h1, h2⟩ | ⟨c, rfl, h1⟩
    · simp [MemAct.ofEvent]
    · cases wr <;> simp [MemAct.ofEvent]
    · simp [MemAct.ofEvent]

set_option maxHeartbeats 1000000 in
theorem stepRecv (hR : ResOk q) (hG : Geom q) (hAr : ∀ g w, Anch g w → g.status = .running) (hFr : ∀ g w, Fin g w → g.status = .running)
    (ha : gs[0]? = some a) (hms : MSit P q Anch Fin tag j f0 d0 a w) (hcom : Com P q Shun j gs w t s qo d0) (hwg : WgAt q.ty q.Wg w st sm) (hmode : Go.ConcN.Mode j s.D tag st sm) (hne : tag ≠ .ret)
    {i : Nat} (hi : i < j) {g g₂ : Goroutine} {z : Value} {ρ' : Rk} (hg : gs[q.j0 + i + 1]? = some g) (h7 : (s.D i).stage = 7 ∧ (s.D i).deaf = 0) (hρ : Rk.lt ρ' (s.rk i)) (hhold : s.hold i = none)
    (hgo : stepG P false g w = .comm g₂ #[rcase q.Ch z] true (.recv true) w #[])
    (hk : (s.r < q.N → Wk P q ρ' (some s.r) (s.F i) (g₂.finishComm P #[rcase q.Ch z] (.recv true) 0 (.int .i64 (s.r : Nat)) true) (took q w s.r)) ∧ (s.r = q.N → Wk P q ρ' none (s.F i) (g₂.finishComm P #[rcase q.Ch z] (.recv true) 0 z false) w)) :
    Next1 P q Shun Anch Fin gs w sl (q.j0 + i + 1) t (Mu q j s qo tag f0) := by
  have hin : i < q.n := by have := hms.bound; omega
  have hlx : q.j0 + i + 1 < gs.size := (Array.getElem?_eq_some_iff.1 hg).1
  have hnp := no_partners hcom ha hms hAr hFr (q.j0 + i + 1) q.Ch true
  have hgo' : stepG P (q.j0 + i + 1 == 0) g w = .comm g₂ #[rcase q.Ch z] true (.recv true) w #[] := by rw [show (q.j0 + i + 1 == 0) = false by simp]; exact hgo
  have hl := hcom.low
  have hch := hG.ch
  have hset : ∀ (y : Goroutine), (gs.setIfInBounds (q.j0 + i + 1) y).size = gs.size ∧ (∀ x, x ≠ 0 → x ≠ q.j0 + i + 1 → (gs.setIfInBounds (q.j0 + i + 1) y)[x]? = gs[x]?) ∧ (gs.setIfInBounds (q.j0 + i + 1) y)[q.j0 + i + 1]? = some y ∧ (gs.setIfInBounds (q.j0 + i + 1) y)[0]? = some a := fun y =>
    ⟨by simp, fun x _ hx => Array.getElem?_setIfInBounds_ne (Ne.symm hx), Array.getElem?_setIfInBounds_self_of_lt hlx, by rw [Array.getElem?_setIfInBounds_ne (by omega)]; exact ha⟩
  rcases Nat.lt_or_ge s.r q.N with hlt | hge
  · have hrun := crowd_recv_buf (P := P) (sl := sl) hg hgo' hcom.chan.2 (by rw [jobs_size]; omega) hnp
    rw [jobs_first hlt, jobs_rest hlt] at hrun
    obtain ⟨e1, e2, e3, e4⟩ := hset (g₂.finishComm P #[rcase q.Ch z] (.recv true) 0 (.int .i64 (s.r : Nat)) true)
    have hrs := RS.took hG hcom.chan hlt
    have hA := took_aside (q := q) w s.r
    have hgs : (took q w s.r).heap.size = w.heap.size := hA.size
    refine ⟨_, _, Mu q j (s.work i ρ' (some s.r) (s.F i) (s.r + 1) w.heap.size (took q w s.r).heap.size) qo tag f0, hrun, lt3_rk hin hρ (.inl rfl), _, took q w s.r, sl, j, s.work i ρ' (some s.r) (s.F i) (s.r + 1) w.heap.size (took q w s.r).heap.size, tag, f0, d0, a, st, sm, qo, rfl, e4, hms.rely hrs, ?_, hwg.of_block (hA.block _ hG.wgch), hmode, fun e => absurd e hne, rfl⟩
    refine hcom.stepA hR hG hi e1 e2 e3 h7 hrs (fun b _ _ _ hb => hA.block b hb) (hk.1 hlt) (fun b hb => .inl hb) (Nat.le_succ _) (fun k e => .inr (by cases e; omega)) (took_chan hcom.chan hlt) (hrs.pay hcom.pay)
      (fun k _ => .inl ⟨cell_of_eq (hA.block _ (Ne.symm hG.chc)), cell_of_eq (hA.block _ (Ne.symm hG.chc))⟩) (fun k e => by rw [hhold] at e; cases e) (fun k h1 h2 => by congr 1; omega) ?_ ?_ ?_
    · intro op hop
      simp [MemOp.ofEvents] at hop
      rcases hop with rfl | rfl
      · exact ⟨rfl, fun x hx => by cases hx⟩
      · exact ⟨rfl, fun x hx => by cases hx⟩
    · intro op hop
      simp [MemOp.ofEvents] at hop
      rcases hop with rfl | rfl
      · show q.Ch < _; omega
      · show q.Ch < _; omega
    · intro op hop
      simp [MemOp.ofEvents] at hop
      rcases hop with rfl | rfl <;> simp
  · have hrN : s.r = q.N := by have := hcom.chan.1; omega
    have hc := hcom.chan.2
    rw [hrN, jobs_none] at hc
    have hrun := crowd_recv_closed (P := P) (sl := sl) hg hgo' hc hnp
    obtain ⟨e1, e2, e3, e4⟩ := hset (g₂.finishComm P #[rcase q.Ch z] (.recv true) 0 z false)
    refine ⟨_, _, Mu q j (s.work i ρ' none (s.F i) s.r w.heap.size w.heap.size) qo tag f0, hrun, lt3_rk hin hρ (.inl rfl), _, w, sl, j, s.work i ρ' none (s.F i) s.r w.heap.size w.heap.size, tag, f0, d0, a, st, sm, qo, rfl, e4, hms, ?_, hwg, hmode, fun e => absurd e hne, rfl⟩
    refine hcom.stepA hR hG hi e1 e2 e3 h7 (RS.refl w) (fun b _ _ _ _ => rfl) (hk.2 hrN) (fun b hb => .inl hb) (Nat.le_refl _) (fun k e => by cases e) hcom.chan hcom.pay
      (fun k _ => .inl ⟨rfl, rfl⟩) (fun k e => by rw [hhold] at e; cases e) (fun k h1 h2 => by omega) ?_ ?_ ?_
    · intro op hop
      simp [MemOp.ofEvents] at hop
      subst hop
      exact ⟨rfl, fun x hx => by cases hx⟩
    · intro op hop
      simp [MemOp.ofEvents] at hop
      subst hop
      show q.Ch < _; omega
    · intro op hop
      simp [MemOp.ofEvents] at hop
      subst hop
      simp

set_option maxHeartbeats 1000000 in
theorem stepStore (hR : ResOk q) (hG : Geom q) (hAr : ∀ g w, Anch g w → g.status = .running) (hFr : ∀ g w, Fin g w → g.status = .running)
    (ha : gs[0]? = some a) (hms : MSit P q Anch Fin tag j f0 d0 a w) (hcom : Com P q Shun j gs w t s qo d0) (hwg : WgAt q.ty q.Wg w st sm) (hmode : Go.ConcN.Mode j s.D tag st sm) (hne : tag ≠ .ret)
    {i : Nat} (hi : i < j) {g g' : Goroutine} {k : Nat} {v0 v1 : Value} {ρ' : Rk} (hg : gs[q.j0 + i + 1]? = some g) (h7 : (s.D i).stage = 7 ∧ (s.D i).deaf = 0) (hρ : Rk.lt ρ' (s.rk i)) (hhold : s.hold i = some k)
    (hgo : stepG P false g w = .go g' (put2 q w k v0 v1) #[⟨.cell ⟨q.C, 2 * k, none⟩, true, false⟩, ⟨.cell ⟨q.C, 2 * k + 1, none⟩, true, false⟩]) (hres : q.Res k v0 v1 (s.F i) w)
    (hk : Wk P q ρ' none (fun _ => False) g' (put2 q w k v0 v1)) : Next1 P q Shun Anch Fin gs w sl (q.j0 + i + 1) t (Mu q j s qo tag f0) := by
  have hin : i < q.n := by have := hms.bound; omega
  have hA := put2_aside (q := q) w k v0 v1
  have hgs : (put2 q w k v0 v1).heap.size = w.heap.size := hA.size
  have hrs : RS q w (put2 q w k v0 v1) := RS.put2 hG
  have hkt := hcom.hk i k hhold
  have hkr := (hcom.kt i k hkt).1
  have hkN : k < q.N := by have := hcom.chan.1; omega
  have hl := hcom.low
  have hC := hG.c
  obtain ⟨c0, c1⟩ := put2_here (v0 := v0) (v1 := v1) hcom.pay hkN
  have hfin : Fin1 q (s.work i ρ' none (fun _ => False) s.r w.heap.size (put2 q w k v0 v1).heap.size) j k (put2 q w k v0 v1) := by
    refine ⟨v0, v1, s.F i, hR k v0 v1 (s.F i) w _ (fun b hb => ?_) hres, c0, c1, fun b hb => ?_⟩
    · exact hA.block b (by have := (hcom.ob i b (hcom.fb i b hb)).1; omega)
    · obtain ⟨a1, a2, _⟩ := hcom.ob i b (hcom.fb i b hb)
      refine ⟨a1, by omega, fun i' _ hb' => ?_⟩
      have hb2 : upd s.F i (fun _ => False) i' b := hb'
      by_cases e : i' = i
      · subst e; rw [upd_same] at hb2; exact hb2
      · rw [upd_ne _ _ e] at hb2
        exact e (hcom.obd i' i b (hcom.fb i' b hb2) (hcom.fb i b hb))
  refine stepGo (s' := s.work i ρ' none (fun _ => False) s.r w.heap.size (put2 q w k v0 v1).heap.size) (qo' := qo) hAr hFr (by omega) hg hgo ha hms hcom hrs (fun gs' h1 h2 h3 => hcom.stepA hR hG hi h1 h2 h3 h7 hrs (fun b _ _ hb _ => hA.block b hb) hk (fun b hb => hb.elim) (Nat.le_refl _)
    (fun k hk => by cases hk) (let ⟨r', _, h2⟩ := hrs.chan _ hcom.chan; ⟨hcom.chan.1, by rw [hA.block _ hG.chc]; exact hcom.chan.2⟩) (hrs.pay hcom.pay) (fun k' _ => ?_) (fun k' e => ?_) (fun k h1 h2 => by omega) ?_ ?_ ?_)
    (hwg.of_block (hA.block _ hG.wgc)) (fun tag' ht _ => hmode.retag ht) (fun e => absurd e hne) (fun tag' f' ht _ => lt3_rk hin hρ ht)
  · by_cases e : k' = k
    · subst e; exact .inr hfin
    · exact .inl (put2_far e)
  · rw [hhold] at e; cases e; exact .inr hfin
  · intro op hop
    obtain ⟨e, he, rfl⟩ := Go.Conc.mem_ofEvents hop
    have hK : ∀ (d : Nat), d = 2 * k ∨ d = 2 * k + 1 → (s.work i ρ' none (fun _ => False) s.r w.heap.size (put2 q w k v0 v1).heap.size).own q i (.cell ⟨q.C, d, none⟩) := fun d hd => .inr ⟨rfl, k, by
      show upd s.KT i _ i k
      rw [upd_same]; exact .inl hkt, hd⟩
    simp at he
    rcases he with rfl | rfl
    · refine ⟨rfl, fun x hx => ?_⟩
      simp [MemAct.ofEvent, MemAct.touch?] at hx
      subst hx
      exact .inr (.inl ⟨hK _ (.inl rfl), rfl⟩)
    · refine ⟨rfl, fun x hx => ?_⟩
      simp [MemAct.ofEvent, MemAct.touch?] at hx
      subst hx
      exact .inr (.inl ⟨hK _ (.inr rfl), rfl⟩)
  · intro op hop
    obtain ⟨e, he, rfl⟩ := Go.Conc.mem_ofEvents hop
    simp at he
    rcases he with rfl | rfl
    · show q.C < _; omega
    · show q.C < _; omega
  · intro op hop
    obtain ⟨e, he, rfl⟩ := Go.Conc.mem_ofEvents hop
    simp at he
    rcases he with rfl | rfl <;> simp [MemAct.ofEvent]

theorem stepRel (hR : ResOk q) (hG : Geom q) (hAr : ∀ g w, Anch g w → g.status = .running) (hFr : ∀ g w, Fin g w → g.status = .running)
    (ha : gs[0]? = some a) (hms : MSit P q Anch Fin tag j f0 d0 a w) (hcom : Com P q Shun j gs w t s qo d0) (hwg : WgAt q.ty q.Wg w st sm) (hmode : Go.ConcN.Mode j s.D tag st sm) (hne : tag ≠ .ret)
    {i : Nat} (hi : i < j) {g : Goroutine} (hg : gs[q.j0 + i + 1]? = some g) (h7 : (s.D i).stage = 7 ∧ (s.D i).deaf = 0) (hhold : s.hold i = none) (hN : ChanAt q q.N w) (hk : KR0 P q g w) :
    Next1 P q Shun Anch Fin gs w sl (q.j0 + i + 1) t (Mu q j s qo tag f0) := by
  obtain ⟨_, g', hgo, m, hk⟩ := hk
  have hdk : Deaf t (q.j0 + i + 1) = 0 := by rw [hcom.deafW i hi, h7.2]
  have hWg := hG.wg
  refine stepGo (s' := s.out i ⟨6, m, 0⟩) (qo' := qo) hAr hFr (by omega) hg hgo ha hms hcom (RS.refl w) (fun gs' h1 h2 h3 => hcom.stepB hR hG hi h1 h2 h3 (.refl _ w) ⟨st, sm, hwg⟩ hhold (chanAt_unique hcom.chan hN) (.k1 hk)
      (fun e he x hx => by simp at he; subst he; cases hx) (fun e he => by simp at he; subst he; exact hWg) (fun e he => by simp at he; subst he; simp [mk]) (by rw [h7.2]; rfl) ⟨t.size, RelBy.new hdk _ _⟩)
    hwg (fun tag' ht _ => (hmode.counted hi (by omega) (.inl rfl) _ _).retag ht) (fun e => absurd e hne) (fun tag' f' ht hf => lt3_out hi (.inl ⟨by rw [h7.1]; omega, by simp [cnt, h7.1]⟩) ht hf)

theorem stepWork (hR : ResOk q) (hG : Geom q) (hAr : ∀ g w, Anch g w → g.status = .running) (hFr : ∀ g w, Fin g w → g.status = .running)
    (ha : gs[0]? = some a) (hms : MSit P q Anch Fin tag j f0 d0 a w) (hcom : Com P q Shun j gs w t s qo d0) (hwg : WgAt q.ty q.Wg w st sm) (hmode : Go.ConcN.Mode j s.D tag st sm)
    {i : Nat} (hi : i < j) {g : Goroutine} (hg : gs[q.j0 + i + 1]? = some g) (h7 : (s.D i).stage = 7 ∧ (s.D i).deaf = 0) (hk : Wk P q (s.rk i) (s.hold i) (s.F i) g w) :
    Next1 P q Shun Anch Fin gs w sl (q.j0 + i + 1) t (Mu q j s qo tag f0) := by
  have hne : tag ≠ .ret := hmode.not_ret hi (by omega)
  generalize hρ : s.rk i = ρ at hk
  cases ρ with
  | z => exact hk.elim
  | mk f =>
    have hlt : Rk.lt (f w) (s.rk i) := by rw [hρ]; exact ⟨w, rfl⟩
    rcases hk.2 w (RS.refl w) (fun _ _ => rfl) with ⟨g', w', es, F', h1, h2, h3⟩ | ⟨h0, g₂, z, h1, h2⟩ | ⟨k, v0, v1, g', h0, h1, h2, h3⟩ | ⟨h0, h1, h2⟩
    · exact stepPriv hR hG hAr hFr ha hms hcom hwg hmode hne hi hg h7 hlt h1 h2 h3
    · exact stepRecv hR hG hAr hFr ha hms hcom hwg hmode hne hi hg h7 hlt h0 h1 (h2 s.r hcom.chan)
    · exact stepStore hR hG hAr hFr ha hms hcom hwg hmode hne hi hg h7 hlt h0 h1 h2 h3
    · exact stepRel hR hG hAr hFr ha hms hcom hwg hmode hne hi hg h7 h0 h1 h2
end
end Go.Proofs.Ytjplnkkcmkpkbaa
