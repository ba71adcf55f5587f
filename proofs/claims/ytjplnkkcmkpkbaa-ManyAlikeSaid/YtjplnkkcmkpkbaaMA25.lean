/- Several of my texts in one: Mn22, Mn24, Mn25. -/
import Derived.Test.YtjplnkkcmkpkbaaMA24
import Derived.Test.YtjplnkkcmkpkbaaMA16
import Derived.Test.YtjplnkkcmkpkbaaMA12
import Derived.Laws.MakeOwn
import Derived.Conc.AppendWalk
import Derived.Conc.SmallLaws
import Derived.Conc.TokenWalk
set_option linter.unusedSimpArgs false
set_option linter.unusedVariables false
/- The machine, 22: many.Run waits for its hands; one call's phase, put together. -/
namespace Go.Proofs.Ytjplnkkcmkpkbaa
open Go.Conc Go.ConcN Go.RowKit Go.Conc.Lib Go.ConcR.Gen Go.ConcN.Gen
open Go.ConcR (KK wgBlock WgAt stA smA rd wr mk DC0)

section
variable {q : Ph} {w0 : World} {bc bj bo : Nat} {slJ : Value} {cs : List Frame}
/-- goroutine 0 stands behind the call of Wait -/
def FinR (q : Ph) (w0 : World) (bc bj bo : Nat) (cs : List Frame) (g : Goroutine) (w : World) : Prop :=
  ∃ T, RT4 q bc bj bo T ∧ g = G (b4.at ⟨T, []⟩ (.inRegion ops17 [] :: [.code rest18])) cs ∧ RS q w0 w ∧ WgLive q.ty q.Wg w
theorem o17 : (ops17[0]?).bind (·.dst) = some 37 := by kernel_rfl
theorem RT4.put {T : Array Value} (h : RT4 q bc bj bo T) (v : Value) : RT4 q bc bj bo (T.setIfInBounds 37 v) := by
  have hs := h.size
  have hg : ∀ j, j ≠ 37 → (T.setIfInBounds 37 v)[j]? = T[j]? := fun j hj => Array.getElem?_setIfInBounds_ne (Ne.symm hj)
  exact ⟨by simp [hs], (hg 3 (by omega)).trans h.t3, (hg 6 (by omega)).trans h.t6, (hg 7 (by omega)).trans h.t7, (hg 9 (by omega)).trans h.t9, (hg 31 (by omega)).trans h.t31⟩
theorem anchR_run (hG : Geom q) (g : Goroutine) (w : World) (h : AnchR q w0 bc bj bo cs g w) : ∃ m, Goes Try.prog true (RS q) (DM q) (MW1 Try.prog q (AnchR q w0 bc bj bo cs) (FinR q w0 bc bj bo cs)) m g w := by
  obtain ⟨T, hT, h⟩ := h
  obtain ⟨m, hm⟩ := waitRound (L := link) (mT := 0) (Fin := FinR q w0 bc bj bo cs) wgLib hG (fun w hF => Goes.stop fun w₁ h₁ => ⟨_, hT.put (.tuple #[]), by rw [o17]; rfl, rs_rely hF h₁⟩) g w h
  exact ⟨m, goes_mono (fun g w x => MW1.mono (fun g w y => ⟨T, hT, y⟩) x) hm⟩
theorem anchR_runs (g : Goroutine) (w : World) (h : AnchR q w0 bc bj bo cs g w) : g.status = .running := by
  obtain ⟨T, _, T', rfl, _⟩ := h; rfl
theorem finR_runs (g : Goroutine) (w : World) (h : FinR q w0 bc bj bo cs g w) : g.status = .running := by
  obtain ⟨T, _, rfl, _⟩ := h; rfl

/-- ONE CALL OF many.Run, from the loop that starts its hands to the step behind the wait -/
theorem runPhase (hR : ResOk q) (hG : Geom q) (hW : WF q w0 bc bj bo slJ) {svs : Nat → Value} (hJ : Jobs q w0 slJ svs) (hn : q.n < 9) (hn1 : 1 ≤ q.n) {Shun : Loc → Prop} {gs : Array Goroutine} {sl : Option (Nat × Nat)} {t : Trace} {T : Array Value} {qo : Nat → Nat}
    (hT : RT4 q bc bj bo T) (t32 : T[32]? = some (.int .i64 0)) (hsz : gs.size = q.j0 + 1) (ha : gs[0]? = some (G (b4.at ⟨T, []⟩ (.code loopS :: [.inLoop loopS, .inBlock 2, .code tail4])) cs)) (hL : Leavers Try.prog t gs qo) (hI : TI Shun q.Wg (q.j0 + 1) q.C t)
    (hold : ∀ l, q.lowL l → ¬ Shun l) (hch : ChanAt q 0 w0) (hwg : WgAt q.ty q.Wg w0 0 0) :
    ∃ K m' t', runNT Try.prog K (crowd gs w0 sl) t = (.next m', t') ∧ ∃ gs' w' sl' a' qo', m' = crowd gs' w' sl' ∧ Over Try.prog q Shun (FinR q w0 bc bj bo cs) gs' w' a' t' qo' := by
  obtain ⟨m, hm⟩ := startAll (cs := cs) hR hG hW hJ hn q.n
  exact phase hR hG (by omega) hn1 anchR_runs finR_runs (anchR_run hG) hsz ha hL hI.past (fun op hop => by have := hI.gs op hop; omega) hI.free hold hJ.low hch hJ.pay hwg (spw_iff.2 ⟨m, hm 0 w0 T (by omega) ⟨.refl w0, ⟨0, 0, hwg⟩⟩ hT t32⟩)
end
end Go.Proofs.Ytjplnkkcmkpkbaa
/- The machine, 24: goroutine 0 between two phases: walks by ranks; what the machine gets to. -/
namespace Go.Proofs.Ytjplnkkcmkpkbaa
open Go.Conc Go.ConcN
open Go.ConcR (g_of_ofEvents)

/-- within some steps the machine comes to a goal -/
def Gets (P : Program) (m : Machine) (t : Trace) (Goal : Machine → Trace → Prop) : Prop := ∃ K m' t', runNT P K m t = (.next m', t') ∧ Goal m' t'
section
variable {P : Program} {m : Machine} {t : Trace} {G1 G2 : Machine → Trace → Prop}
theorem Gets.stop (h : G1 m t) : Gets P m t G1 := ⟨0, m, t, rfl, h⟩
theorem Gets.bind (h : Gets P m t G1) (k : ∀ m t, G1 m t → Gets P m t G2) : Gets P m t G2 := by
  obtain ⟨K, m1, t1, h1, h2⟩ := h
  obtain ⟨K2, m2, t2, h3, h4⟩ := k m1 t1 h2
  exact ⟨K + K2, m2, t2, by rw [runNT_add, h1]; exact h3, h4⟩
theorem Gets.mono (h : Gets P m t G1) (k : ∀ m t, G1 m t → G2 m t) : Gets P m t G2 := h.bind fun m t x => .stop (k m t x)
end

/-- goroutine 0's walk, the number of its steps hanging on the tape -/
def GoesR (P : Program) (D : World → World → Array Event → Prop) (Stop : Goroutine → World → Prop) : Rk → Goroutine → World → Prop
  | .z, g, w => ∀ w1, AtRel w w1 → Stop g w1
  | .mk f, g, w => (∀ w1, AtRel w w1 → Stop g w1) ∨ (g.status = .running ∧ ∀ w1, AtRel w w1 → ∃ g' w' es, stepG P true g w1 = .go g' w' es ∧ D w1 w' es ∧ GoesR P D Stop (f w1) g' w')
def Gz (P : Program) (D : World → World → Array Event → Prop) (Stop : Goroutine → World → Prop) (g : Goroutine) (w : World) : Prop := ∃ r, GoesR P D Stop r g w
section
variable {P : Program} {D : World → World → Array Event → Prop} {Stop Stop' : Goroutine → World → Prop} {g : Goroutine} {w w₁ : World}
theorem GoesR.rely : ∀ {r : Rk} {g : Goroutine}, GoesR P D Stop r g w → AtRel w w₁ → GoesR P D Stop r g w₁
  | .z, _, h, k => fun w1 h1 => h w1 (atRel_trans _ _ _ k h1)
  | .mk _, _, h, k => h.imp (fun x w1 h1 => x w1 (atRel_trans _ _ _ k h1)) fun x => ⟨x.1, fun w1 h1 => x.2 w1 (atRel_trans _ _ _ k h1)⟩
theorem Gz.rely (h : Gz P D Stop g w) (k : AtRel w w₁) : Gz P D Stop g w₁ := let ⟨r, x⟩ := h; ⟨r, x.rely k⟩
theorem Gz.stop (h : ∀ w1, AtRel w w1 → Stop g w1) : Gz P D Stop g w := ⟨.z, h⟩
theorem Gz.step (hrun : g.status = .running) (h : ∀ w1, AtRel w w1 → ∃ g' w' es, stepG P true g w1 = .go g' w' es ∧ D w1 w' es ∧ Gz P D Stop g' w') : Gz P D Stop g w := by
  have key : ∀ w1, ∃ r, AtRel w w1 → ∃ g' w' es, stepG P true g w1 = .go g' w' es ∧ D w1 w' es ∧ GoesR P D Stop r g' w' := by
    intro w1
    by_cases h1 : AtRel w w1
    · obtain ⟨g', w', es, e1, e2, r, e3⟩ := h w1 h1
      exact ⟨r, fun _ => ⟨g', w', es, e1, e2, e3⟩⟩
    · exact ⟨.z, fun h2 => absurd h2 h1⟩
  exact ⟨.mk fun w1 => (key w1).choose, .inr ⟨hrun, fun w1 h1 => (key w1).choose_spec h1⟩⟩
theorem Gz.bind (h : Gz P D Stop g w) (k : ∀ g w, Stop g w → Gz P D Stop' g w) : Gz P D Stop' g w := by
  obtain ⟨r, h⟩ := h
  induction r generalizing g w with
  | z => exact k g w (h w (atRel_refl w))
  | mk f ih =>
    rcases h with h | ⟨h1, h2⟩
    · exact k g w (h w (atRel_refl w))
    · refine .step h1 fun w1 hw => ?_
      obtain ⟨g', w', es, e1, e2, e3⟩ := h2 w1 hw
      exact ⟨g', w', es, e1, e2, ih w1 e3⟩
theorem Gz.of_goes : ∀ {n : Nat} {g : Goroutine} {w : World}, Goes P true AtRel D Stop n g w → Gz P D Stop g w
  | 0, _, _, h => .stop h
  | _ + 1, _, _, h => h.elim (fun x => .stop x) fun x => .step x.1 fun w1 h1 => by
      obtain ⟨g', w', es, e1, e2, e3⟩ := goes_elim (x.2 w1 h1)
      exact ⟨g', w', es, e1, e2, Gz.of_goes e3⟩
/-- a walk of a known number of steps, then on -/
theorem Gz.goes {n : Nat} (h : Goes P true AtRel D (fun g w => Gz P D Stop g w) n g w) : Gz P D Stop g w := (Gz.of_goes h).bind fun _ _ x => x
end

section
variable {P : Program} {I : Trace → Prop} {N : Nat} {D : World → World → Array Event → Prop} {Stop : Goroutine → World → Prop} {m : Machine} {t : Trace}
theorem Stand.mono {S1 S2 : Goroutine → World → Prop} (h : Stand P N I S1 m t) (k : ∀ g w, S1 g w → S2 g w) : Stand P N I S2 m t := by
  obtain ⟨gs, a, w, sl, q, h1, h2, h3, h4, h5, h6⟩ := h
  exact ⟨gs, a, w, sl, q, h1, h2, h3, k _ _ h4, h5, h6⟩
theorem Stand.law {I' : Trace → Prop} (h : Stand P N I Stop m t) (k : ∀ t, I t → I' t) : Stand P N I' Stop m t := by
  obtain ⟨gs, a, w, sl, q, h1, h2, h3, h4, h5, h6⟩ := h
  exact ⟨gs, a, w, sl, q, h1, h2, h3, h4, h5, k _ h6⟩
/-- a walk beside leavers -/
theorem walkR (hm : KeepsMute N I) (hD : ∀ t fn pos w w' es, D w w' es → I t → I (t ++ MemOp.ofEvents 0 fn pos es)) (h : Stand P N I (Gz P D Stop) m t) : Gets P m t (Stand P N I Stop) := by
  obtain ⟨gs, a, w, sl, q, rfl, hsz, h0, ⟨r, hG⟩, hL, hI⟩ := h
  have wf : WellFounded (Prod.Lex Rk.lt (· < · : Nat → Nat → Prop)) := (Prod.lex ⟨Rk.lt, Rk.wf⟩ Nat.lt_wfRel).wf
  refine run_to wf (fun (μ : Rk × Nat) m t => ∃ gs a w sl q, m = crowd gs w sl ∧ gs.size = N ∧ gs[0]? = some a ∧ Leavers P t gs q ∧ I t ∧ GoesR P D Stop μ.1 a w ∧ μ.2 = sumTo N q) (Stand P N I Stop) ?_ (r, sumTo N q) _ t ⟨gs, a, w, sl, q, rfl, hsz, h0, hL, hI, hG, rfl⟩
  rintro ⟨r, μ⟩ m t ⟨gs, a, w, sl, q, rfl, hsz, h0, hL, hI, hG, rfl⟩
  by_cases hstop : Stop a w
  · exact .inl ⟨gs, a, w, sl, q, rfl, hsz, h0, hstop, hL, hI⟩
  cases r with
  | z => exact absurd (hG w (atRel_refl w)) hstop
  | mk f =>
  rcases hG with hG | ⟨hrun, hstep⟩
  · exact absurd (hG w (atRel_refl w)) hstop
  right
  obtain ⟨i, g, d, sl', hi, hg, hst⟩ := crowd_pick (P := P) (w := w) (sl := sl) (beside_awake h0 hrun hL) ⟨0, a, h0, hrun⟩
  rw [hst]
  rcases Nat.eq_zero_or_pos i with rfl | hpos
  · obtain rfl : g = a := by rw [h0] at hi; exact (Option.some.inj hi).symm
    obtain ⟨a', w', es, hgo, hd, hG'⟩ := hstep (w.at d) ⟨d, rfl⟩
    have hrunT := runT_crowd_go (P := P) (sl := sl') (i := 0) hi (show stepG P (0 == 0) g (w.at d) = _ from hgo)
    have hlt : 0 < gs.size := (Array.getElem?_eq_some_iff.1 h0).1
    refine ⟨_, _, (f (w.at d), sumTo N q), hrunT, Prod.Lex.left _ _ ⟨w.at d, rfl⟩, _, a', w', sl', q, rfl, by simpa using hsz, by simp [hlt], ⟨fun j x hj hx => ?_, fun j hj => ?_⟩, hD _ _ _ _ _ _ hd hI, hG', rfl⟩
    · rw [Array.getElem?_setIfInBounds_ne (by omega), Array.getElem?_map] at hx
      obtain ⟨y, hy, rfl⟩ := Option.map_eq_some_iff.1 hx
      have hq := hL.old j y hj hy
      rw [woken_quitsD hq, Deaf_other t (by omega) _ g_of_ofEvents]
      exact hq
    · rw [Deaf_other t (g' := 0) (by simp at hj; omega) _ g_of_ofEvents]
      exact hL.above j (by simpa using hj)
  · obtain ⟨gs', k, es, hrunT, hmu, hsz', h0', hqi, hL'⟩ := slip (w := w.at d) (sl := sl') h0 hrun hL hpos hi hg
    have hlt : i < N := by rw [← hsz]; exact (Array.getElem?_eq_some_iff.1 hi).1
    have hsum : sumTo N (upd q i k) + q i = sumTo N q + k := sumTo_upd q k id hlt
    have hr : GoesR P D Stop (.mk f) a (w.at d) := GoesR.rely (.inr ⟨hrun, hstep⟩) ⟨d, rfl⟩
    exact ⟨_, _, (.mk f, sumTo N (upd q i k)), hrunT, Prod.Lex.right _ (by omega), gs', a, w.at d, sl', upd q i k, rfl, hsz'.trans hsz, h0', hL', hm _ _ _ _ _ hpos hlt hmu hI, hr, rfl⟩
/-- a send beside leavers -/
theorem sendR (hm : KeepsMute N I) {c : Nat} {v : Value} {After : Goroutine → Prop} {X : World → Prop} (hS : ∀ t fn pos s, I t → I (t ++ #[{ g := 0, fn, pos, act := .send c s }, { g := 0, fn, pos, act := .sendDone c s }])) (h : Stand P N I (fun g w => AtSend P c v After g w ∧ X w) m t) :
    Gets P m t (Stand P N I (fun g w' => After g ∧ ∃ w d cap buf s r tm, X w ∧ w.heap[c]? = some (.chan cap buf false s r tm) ∧ w' = (w.at d).setChan c cap (buf.push v) false (s + 1) r tm)) := by
  obtain ⟨gs, a, w, sl, q, rfl, hsz, h0, ⟨hG, hX⟩, hL, hI⟩ := h
  obtain ⟨K, m', t', h1, h2⟩ := sendI (sl := sl) hm hS hsz h0 hL hI hG
  exact ⟨K, m', t', h1, h2.mono fun g w' ⟨h3, d, cap, buf, s, r, tm, h4, h5⟩ => ⟨h3, w, d, cap, buf, s, r, tm, hX, h4, h5⟩⟩
end
end Go.Proofs.Ytjplnkkcmkpkbaa
/- The machine, 25: the beginning of many.Run. -/
namespace Go.Proofs.Ytjplnkkcmkpkbaa
open Go.Conc Go.ConcN Go.RowKit Go.Conc.Lib Go.ConcR.Gen Go.ConcN.Gen
open Go.ConcR (KK wgBlock WgAt stA smA rd wr mk DC0)

theorem atRl {W w w₁ : World} (h : AtRel W w) (r : AtRel w w₁) : AtRel W w₁ := atRel_trans _ _ _ h r
section
variable (w : World) (d : Nat)
theorem at_cell (a : Addr) : (w.at d).cell? a = w.cell? a := rfl
theorem at_frozen (a : Addr) : (w.at d).frozen? a = w.frozen? a := rfl
theorem at_size : (w.at d).heap.size = w.heap.size := rfl
theorem at_alloc (o : Obj) : (w.at d).alloc o = (w.alloc o).at d := rfl
theorem at_set (a : Addr) (v : Value) : (w.at d).setCell a v = (w.setCell a v).at d := rfl
end
section
variable {P : Program} {E : Event → Prop} {Stop : Goroutine → World → Prop} {b : Frame} {a : Act} {ops : Array Oper} {i : Nat} {rest : List Nat} {k : List Item} {cs : List Frame} {o : Oper} {W W' w : World}
theorem gz_val {v : Value} (ho : ops[i]? = some o) (hw : Region.wanted o (yielded ops a.tmps) = true) (hk : b.kind ≠ .early) (hF : AtRel W w) (hr : ∀ d, (execOp a.eval o).run P (W.at d) = .ok (.value v) (W'.at d))
    (he : ∀ d, ∀ e ∈ (execOp a.eval o).events P (W.at d) #[], E e) (next : ∀ w', AtRel W' w' → Gz P (DE E) Stop (G (b.at (a.put o.dst v) (.inRegion ops rest :: k)) cs) w') : Gz P (DE E) Stop (G (b.at a (.inRegion ops (i :: rest) :: k)) cs) w :=
  .step rfl fun w1 h1 => by
    obtain ⟨d, rfl⟩ := atRl hF h1
    exact ⟨_, _, _, stepG_value ho hw hk (hr d), fun e hm => he d e (mem_listed hm), next _ ⟨d, rfl⟩⟩
theorem gz_none (ho : ops[i]? = some o) (hw : Region.wanted o (yielded ops a.tmps) = true) (hk : b.kind ≠ .early) (hF : AtRel W w) (hr : ∀ d, (execOp a.eval o).run P (W.at d) = .ok .skip (W'.at d))
    (he : ∀ d, ∀ e ∈ (execOp a.eval o).events P (W.at d) #[], E e) (next : ∀ w', AtRel W' w' → Gz P (DE E) Stop (G (b.at (a.put o.dst undef) (.inRegion ops rest :: k)) cs) w') : Gz P (DE E) Stop (G (b.at a (.inRegion ops (i :: rest) :: k)) cs) w :=
  .step rfl fun w1 h1 => by
    obtain ⟨d, rfl⟩ := atRl hF h1
    exact ⟨_, _, _, stepG_none ho hw hk (hr d), fun e hm => he d e (mem_listed hm), next _ ⟨d, rfl⟩⟩
theorem goes_gz {n : Nat} {g : Goroutine} (h : Gz P (DE E) Stop g w) : Goes P true AtRel (DE E) (fun g w => Gz P (DE E) Stop g w) n g w := Goes.stop fun _ h1 => h.rely h1
end

theorem doneInfo : (Try.prog.info? 33).map (fun i => (i.zero, i.size, i.bytes)) = some (some (.agg #[.slice none 0 0, .slice none 0 0]), 2, 48) := by kernel_rfl
theorem intInfo : (Try.prog.info? 3).map (fun i => (i.zero, i.size, i.bytes)) = some (some (.int .i64 0), 1, 8) := by kernel_rfl
theorem chanUnd : Try.prog.underlying 40 = some (.chan .both 3) := by kernel_rfl
/-- the cells of the results' block at its making -/
noncomputable def outC (N : Nat) : Array Value := madeCells #[.slice none 0 0, .slice none 0 0] (N * 2)
section
variable (W : World) (slJ : Value) (N : Nat)
noncomputable def wR1 : World := W.alloc (.cells #[slJ] 22)
noncomputable def wR2 : World := (wR1 W slJ).alloc (.cells (outC N) 33)
noncomputable def wR3 : World := (wR2 W slJ N).alloc (.cells #[.slice (some ⟨W.heap.size + 1, 0, none⟩) N N] 23)
noncomputable def wR4 : World := (wR3 W slJ N).alloc (.chan N #[] false 0 0 false)
noncomputable def wR5 : World := (wR4 W slJ N).alloc (.cells #[.chan (some (W.heap.size + 3))] 40)
end
/-- the loop that hands out the jobs' numbers; what is behind it -/
noncomputable def rest6 : Code := match body4 with
  | .seq _ (.seq _ (.seq _ (.seq _ c))) => c
  | _ => .skip
noncomputable def loopK : Code := match rest6 with
  | .seq (.seq _ (.block _ (.loop c))) _ => c
  | _ => .skip
noncomputable def after6 : Code := match rest6 with
  | .seq _ c => c
  | _ => .skip
/-- the temporaries at the loop's head -/
theorem events_makeAny {P : Program} (w : World) (t e : TypeId) (i : TypeInfo) (z : Value) (ht : P.underlying t = some (.slice e)) (hi : P.info? e = some i) (hz : i.zero = some z)
    (kl kc : IntKind) (l c : Int) (h0 : 0 ≤ l) (hlc : l ≤ c) (hbytes : (i.bytes : Int) * c ≤ 281474976710656) (h63 : c ≤ 9223372036854775807) (es : Array Event) :
    ∀ x, x ∈ (Instr.makeSlice t (.int kl l) (.int kc c)).events P w es → x ∈ es ∨ x = ⟨.mark .noRoom, false, true⟩ := by
  by_cases hroom : c.toNat * i.bytes ≤ 140737488355328
  · rw [events_make w t e i z ht hi hz kl kc l c h0 hlc hbytes h63 hroom]
    exact fun x h => .inl h
  · have wl : IntKind.i64.wrap l = l := by rw [IntKind.wrap_i64]; omega
    have wc : IntKind.i64.wrap c = c := by rw [IntKind.wrap_i64]; omega
    have n1 : ¬ c < 0 := by omega
    have n2 : ¬ (281474976710656 < (i.bytes : Int) * c) := by omega
    have n3 : ¬ l < 0 := by omega
    have n4 : ¬ c < l := by omega
    have n5 : 140737488355328 < c.toNat * i.bytes := by omega
    intro x hx
    by_cases hn : c.toNat * i.size = 0
    · simp [Instr.makeSlice, run_underlying ht, asInt, asIntOf, typeInfo, hi, sizeOf, wl, wc, n1, n2, n3, n4, n5, hn, newRow, askRoom, roomBytes, mark] at hx
      have hx' : x ∈ es.push ⟨.mark .noRoom, false, true⟩ := hx
      exact Array.mem_push.1 hx'
    · simp [Instr.makeSlice, run_underlying ht, asInt, asIntOf, typeInfo, hi, sizeOf, zeroValue, hz, wl, wc, n1, n2, n3, n4, n5, newRow, askRoom, roomBytes, mark] at hx
      have hx' : x ∈ es.push ⟨.mark .noRoom, false, true⟩ := hx
      exact Array.mem_push.1 hx'
def T6 (N0 : Nat) (a : Int) (slJ : Value) (N : Nat) (k : Int) (v8 v25 v26 v27 v28 v29 : Value) : Array Value :=
  #[.int .i64 a, slJ, undef, .pointer (some ⟨N0, 0, none⟩), .slice none 0 0, .int .i64 0, .pointer (some ⟨N0 + 2, 0, none⟩), .pointer (some ⟨N0 + 4, 0, none⟩), v8, undef, .int .i64 a, .bool false, .bool false, .int .i64 a, .bool false, .bool false,
    slJ, .int .i64 N, .slice (some ⟨N0 + 1, 0, none⟩) N N, slJ, .int .i64 N, .chan (some (N0 + 3)), slJ, .int .i64 N, .int .i64 k, v25, v26, v27, v28, v29, undef, undef, undef, undef, undef, undef, undef, undef, undef]

section
variable {E : Event → Prop} {W w : World} {aJ : Option Addr} {capJ N : Nat} {a : Int} {cs : List Frame}
set_option maxRecDepth 100000 in
set_option maxHeartbeats 4000000 in
theorem runBegin (ha : 1 ≤ a) (ha8 : a ≤ 8) (hN : N ≤ 5864062014634) (hM : E ⟨.mark .noRoom, false, true⟩) (hE : ∀ b o wr, W.heap.size ≤ b → b < W.heap.size + 5 → b ≠ W.heap.size + 1 → E ⟨.cell ⟨b, o, none⟩, wr, false⟩) (hF : AtRel W w) :
    Gz Try.prog (DE E) (fun g w' => g = G (b4.at ⟨T6 W.heap.size a (.slice aJ N capJ) N 0 undef undef undef undef undef undef, []⟩ (.code loopK :: [.inLoop loopK, .inBlock 0, .code after6])) cs ∧ AtRel (wR5 W (.slice aJ N capJ) N) w')
      (G (Frame.enter Try.prog 4 #[.int .i64 a, .slice aJ N capJ] .normal) cs) w := by
  have e : Frame.enter Try.prog 4 #[.int .i64 a, .slice aJ N capJ] .normal = b4.at ⟨#[.int .i64 a, .slice aJ N capJ] ++ Array.replicate 37 undef, []⟩ [.code body4] := by
    simp [Frame.enter, Frame.at, Try.func4, base, body4, Try.f4]
  rw [e]
  obtain ⟨i0, hi, hz0, hz1, hz2⟩ := info_parts doneInfo
  obtain ⟨i1, hi1, _, _, hb1⟩ := info_parts intInfo
  have hmk := fun w => run_make (P := Try.prog) w 23 33 i0 _ Try.underlying23 hi hz0 .i64 .i64 N N (by omega) (by omega) (by rw [hz2]; omega) (by omega)
  have hme := fun w es => events_makeAny (P := Try.prog) w 23 33 i0 _ Try.underlying23 hi hz0 .i64 .i64 N N (by omega) (by omega) (by rw [hz2]; omega) (by omega) es
  have hck := fun w => run_makeChan (P := Try.prog) (w := w) chanUnd hi1 .i64 N (by omega) (by rw [hb1]; omega)
  have hce := fun w es => events_makeChan (P := Try.prog) (w := w) chanUnd hi1 .i64 N (by omega) (by rw [hb1]; omega) es
  have d1 : decide (a < 1) = false := decide_eq_false (by omega)
  have d2 : decide (8 < a) = false := decide_eq_false (by omega)
  have s1 : (wR1 W (.slice aJ N capJ)).heap.size = W.heap.size + 1 := by simp [wR1]
  have s2 : (wR2 W (.slice aJ N capJ) N).heap.size = W.heap.size + 2 := by simp [wR2, s1]
  have s3 : (wR3 W (.slice aJ N capJ) N).heap.size = W.heap.size + 3 := by simp [wR3, s2]
  have s4 : (wR4 W (.slice aJ N capJ) N).heap.size = W.heap.size + 4 := by simp [wR4, s3]
  have c1 : (wR1 W (.slice aJ N capJ)).cell? ⟨W.heap.size, 0, none⟩ = some (.slice aJ N capJ) := by simp [wR1, go_sem]
  have c3 : (wR3 W (.slice aJ N capJ) N).cell? ⟨W.heap.size, 0, none⟩ = some (.slice aJ N capJ) := by
    simp only [wR3, wR2]
    rw [World.cell?_alloc_past _ _ _ (by simp [s1] <;> omega), World.cell?_alloc_past _ _ _ (by simp [s1] <;> omega)]; exact c1
  have c5 : (wR5 W (.slice aJ N capJ) N).cell? ⟨W.heap.size, 0, none⟩ = some (.slice aJ N capJ) := by
    simp only [wR5, wR4]
    rw [World.cell?_alloc_past _ _ _ (by simp [s3] <;> omega), World.cell?_alloc_past _ _ _ (by simp [s3] <;> omega)]; exact c3
  refine Gz.goes (n := 60) ?_
  simp only [body4, rest6, loopK, after6, Try.f4, Option.getD_some]
  walk_nrm
  u_c stepG_seq atRl hF
  u_reg atRl hF
  refine Goes.stop (fun w₁ h₁ => ?_)
  replace hF := atRl hF h₁
  clear h₁
  refine gz_val (v := .pointer (some ⟨W.heap.size, 0, none⟩)) (W' := wR1 W (.slice aJ N capJ)) rfl rfl (by k_ne) hF (fun d => ?_) (fun d e he => ?_) (fun w' hF' => ?_)
  · (unfold execOp; simp [go_sem, Act.eval, at_cell, at_frozen, at_size, at_alloc, at_set, wR1])
  · (unfold execOp at he; simp [go_sem, Act.eval, at_cell, at_frozen, at_size, at_alloc, at_set, wR1] at he)
  replace hF := hF'
  clear hF'
  refine Gz.goes (n := 60) ?_
  walk_nrm
  u_op atRl hF
  u_op atRl hF
  u_c stepG_region_end atRl hF
  u_c stepG_seq atRl hF
  u_c stepG_seq atRl hF
  u_reg atRl hF
  u_op atRl hF
  u_op atRl hF
  u_op atRl hF
  u_op atRl hF
  u_op atRl hF
  u_op atRl hF
  u_c stepG_region_end atRl hF
  u_cond false atRl hF
  u_c stepG_skip atRl hF
  u_c stepG_seq atRl hF
  u_reg atRl hF
  refine Goes.stop (fun w₁ h₁ => ?_)
  replace hF := atRl hF h₁
  clear h₁
  refine gz_val (v := .slice aJ N capJ) (W' := wR1 W (.slice aJ N capJ)) rfl rfl (by k_ne) hF (fun d => ?_) (fun d e he => ?_) (fun w' hF' => ?_)
  · (unfold execOp; simp [go_sem, Act.eval, at_cell, at_frozen, at_size, at_alloc, at_set, c1])
  · (unfold execOp at he; simp [go_sem, storedEv, Act.eval, at_cell, at_frozen, at_size, at_alloc, at_set, c1] at he; subst he; exact hE _ _ _ (by omega) (by omega) (by omega))
  replace hF := hF'
  clear hF'
  refine Gz.goes (n := 60) ?_
  walk_nrm
  u_op atRl hF
  refine Goes.stop (fun w₁ h₁ => ?_)
  replace hF := atRl hF h₁
  clear h₁
  refine gz_val (v := .slice (some ⟨W.heap.size + 1, 0, none⟩) N N) (W' := wR2 W (.slice aJ N capJ) N) rfl rfl (by k_ne) hF (fun d => ?_) (fun d e he => ?_) (fun w' hF' => ?_)
  · (unfold execOp; simp [go_sem, Act.eval, at_cell, at_frozen, at_size, at_alloc, at_set, hmk, hz1, s1, wR2, outC, Value.cells])
  · (unfold execOp at he; simp [go_sem, Act.eval, at_cell, at_frozen, at_size, at_alloc, at_set] at he; rcases hme _ _ _ he with h | rfl; (simp at h); exact hM)
  replace hF := hF'
  clear hF'
  refine Gz.goes (n := 60) ?_
  walk_nrm
  refine Goes.stop (fun w₁ h₁ => ?_)
  replace hF := atRl hF h₁
  clear h₁
  refine gz_val (v := .pointer (some ⟨W.heap.size + 2, 0, none⟩)) (W' := (wR2 W (.slice aJ N capJ) N).alloc (.cells #[.slice none 0 0] 23)) rfl rfl (by k_ne) hF (fun d => ?_) (fun d e he => ?_) (fun w' hF' => ?_)
  · (unfold execOp; simp [go_sem, Act.eval, at_cell, at_frozen, at_size, at_alloc, at_set, s2])
  · (unfold execOp at he; simp [go_sem, Act.eval, at_cell, at_frozen, at_size, at_alloc, at_set, s2] at he)
  replace hF := hF'
  clear hF'
  refine Gz.goes (n := 60) ?_
  walk_nrm
  refine Goes.stop (fun w₁ h₁ => ?_)
  replace hF := atRl hF h₁
  clear h₁
  refine gz_none (W' := wR3 W (.slice aJ N capJ) N) rfl rfl (by k_ne) hF (fun d => ?_) (fun d e he => ?_) (fun w' hF' => ?_)
  · (unfold execOp; simp [go_sem, Act.eval, at_cell, at_frozen, at_size, at_alloc, at_set, s2, wR3])
  · (unfold execOp at he; simp [go_sem, storedEv, Act.eval, at_cell, at_frozen, at_size, at_alloc, at_set, s2] at he; subst he; exact hE _ _ _ (by omega) (by omega) (by omega))
  replace hF := hF'
  clear hF'
  refine Gz.goes (n := 60) ?_
  walk_nrm
  u_c stepG_region_end atRl hF
  u_c stepG_seq atRl hF
  u_reg atRl hF
  refine Goes.stop (fun w₁ h₁ => ?_)
  replace hF := atRl hF h₁
  clear h₁
  refine gz_val (v := .slice aJ N capJ) (W' := wR3 W (.slice aJ N capJ) N) rfl rfl (by k_ne) hF (fun d => ?_) (fun d e he => ?_) (fun w' hF' => ?_)
  · (unfold execOp; simp [go_sem, Act.eval, at_cell, at_frozen, at_size, at_alloc, at_set, c3])
  · (unfold execOp at he; simp [go_sem, storedEv, Act.eval, at_cell, at_frozen, at_size, at_alloc, at_set, c3] at he; subst he; exact hE _ _ _ (by omega) (by omega) (by omega))
  replace hF := hF'
  clear hF'
  refine Gz.goes (n := 60) ?_
  walk_nrm
  u_op atRl hF
  refine Goes.stop (fun w₁ h₁ => ?_)
  replace hF := atRl hF h₁
  clear h₁
  refine gz_val (v := .chan (some (W.heap.size + 3))) (W' := wR4 W (.slice aJ N capJ) N) rfl rfl (by k_ne) hF (fun d => ?_) (fun d e he => ?_) (fun w' hF' => ?_)
  · (unfold execOp; simp [go_sem, Act.eval, at_cell, at_frozen, at_size, at_alloc, at_set, hck, s3, wR4])
  · (unfold execOp at he; simp [go_sem, Act.eval, at_cell, at_frozen, at_size, at_alloc, at_set, hce] at he)
  replace hF := hF'
  clear hF'
  refine Gz.goes (n := 60) ?_
  walk_nrm
  refine Goes.stop (fun w₁ h₁ => ?_)
  replace hF := atRl hF h₁
  clear h₁
  refine gz_val (v := .pointer (some ⟨W.heap.size + 4, 0, none⟩)) (W' := (wR4 W (.slice aJ N capJ) N).alloc (.cells #[.chan none] 40)) rfl rfl (by k_ne) hF (fun d => ?_) (fun d e he => ?_) (fun w' hF' => ?_)
  · (unfold execOp; simp [go_sem, Act.eval, at_cell, at_frozen, at_size, at_alloc, at_set, s4])
  · (unfold execOp at he; simp [go_sem, Act.eval, at_cell, at_frozen, at_size, at_alloc, at_set, s4] at he)
  replace hF := hF'
  clear hF'
  refine Gz.goes (n := 60) ?_
  walk_nrm
  refine Goes.stop (fun w₁ h₁ => ?_)
  replace hF := atRl hF h₁
  clear h₁
  refine gz_none (W' := wR5 W (.slice aJ N capJ) N) rfl rfl (by k_ne) hF (fun d => ?_) (fun d e he => ?_) (fun w' hF' => ?_)
  · (unfold execOp; simp [go_sem, Act.eval, at_cell, at_frozen, at_size, at_alloc, at_set, s4, wR5])
  · (unfold execOp at he; simp [go_sem, storedEv, Act.eval, at_cell, at_frozen, at_size, at_alloc, at_set, s4] at he; subst he; exact hE _ _ _ (by omega) (by omega) (by omega))
  replace hF := hF'
  clear hF'
  refine Gz.goes (n := 60) ?_
  walk_nrm
  u_c stepG_region_end atRl hF
  u_c stepG_seq atRl hF
  u_c stepG_seq atRl hF
  u_reg atRl hF
  refine Goes.stop (fun w₁ h₁ => ?_)
  replace hF := atRl hF h₁
  clear h₁
  refine gz_val (v := .slice aJ N capJ) (W' := wR5 W (.slice aJ N capJ) N) rfl rfl (by k_ne) hF (fun d => ?_) (fun d e he => ?_) (fun w' hF' => ?_)
  · (unfold execOp; simp [go_sem, Act.eval, at_cell, at_frozen, at_size, at_alloc, at_set, c5])
  · (unfold execOp at he; simp [go_sem, storedEv, Act.eval, at_cell, at_frozen, at_size, at_alloc, at_set, c5] at he; subst he; exact hE _ _ _ (by omega) (by omega) (by omega))
  replace hF := hF'
  clear hF'
  refine Gz.goes (n := 60) ?_
  walk_nrm
  u_op atRl hF
  u_op atRl hF
  u_c stepG_region_end atRl hF
  u_c stepG_block atRl hF
  u_c stepG_loop atRl hF
  exact Goes.stop fun w₁ h₁ => .stop fun w₂ h₂ => ⟨rfl, atRl (atRl hF h₁) h₂⟩
end
end Go.Proofs.Ytjplnkkcmkpkbaa
