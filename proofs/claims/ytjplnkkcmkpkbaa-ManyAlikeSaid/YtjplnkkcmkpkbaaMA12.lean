/- Several of my texts in one: Mn12, Mn19. -/
import Derived.Test.YtjplnkkcmkpkbaaMA11
import Derived.Orders
import Derived.Test.YtjplnkkcmkpkbaaMA10
import Derived.Conc.CrowdComm
set_option linter.unusedSimpArgs false
set_option linter.unusedVariables false
/- The machine, 12: how a worker's script is put together. -/
namespace Go.Proofs.Ytjplnkkcmkpkbaa
open Go.Conc Go.ConcN
open Go.ConcR (KK wgBlock WgAt stA smA rd wr mk DC0)

/-- a worker's idle step: the world stands; it reads low cells -/
def DKs (q : Ph) (w w' : World) (es : Array Event) : Prop := (∃ d, w' = w.at d) ∧ ∀ e ∈ es, ∃ a, e = ⟨.cell a, false, false⟩ ∧ q.low a.block
theorem DKs.dp {q : Ph} {w w' : World} {es : Array Event} (h : DKs q w w' es) (F : Foot) : Dp q.low F F w w' es := by
  obtain ⟨⟨d, rfl⟩, h⟩ := h
  exact ⟨fun _ => id, fun _ => .inl, fun _ _ _ => rfl, Nat.le_refl _, rfl, rfl, rfl, fun e he => let ⟨a, h1, h2⟩ := h e he; .inr (.inl ⟨a, false, h1, .inl h2, fun e => by cases e⟩)⟩
theorem dks_none {q : Ph} {w : World} {es : Array Event} (h : ∀ e ∈ es, False) : DKs q w w es := ⟨⟨w.drawn, rfl⟩, fun e he => (h e he).elim⟩

section
variable {P : Program} {q : Ph} {hold : Option Nat} {F : Foot}
instance : Nonempty Rk := ⟨.z⟩
/-- one moment of a worker's -/
def WkAlt (P : Program) (q : Ph) (hold : Option Nat) (F : Foot) (g : Goroutine) (w₁ : World) (r : Rk) : Prop :=
  (∃ g' w' es F', stepG P false g w₁ = .go g' w' es ∧ Dp q.low F F' w₁ w' es ∧ Wk P q r hold F' g' w') ∨
  (hold = none ∧ ∃ g₂ z, stepG P false g w₁ = .comm g₂ #[rcase q.Ch z] true (.recv true) w₁ #[] ∧
    ∀ r', ChanAt q r' w₁ → (r' < q.N → Wk P q r (some r') F (g₂.finishComm P #[rcase q.Ch z] (.recv true) 0 (.int .i64 (r' : Nat)) true) (took q w₁ r')) ∧ (r' = q.N → Wk P q r none F (g₂.finishComm P #[rcase q.Ch z] (.recv true) 0 z false) w₁)) ∨
  (∃ k v0 v1 g', hold = some k ∧ stepG P false g w₁ = .go g' (put2 q w₁ k v0 v1) #[⟨.cell ⟨q.C, 2 * k, none⟩, true, false⟩, ⟨.cell ⟨q.C, 2 * k + 1, none⟩, true, false⟩] ∧ q.Res k v0 v1 F w₁ ∧ Wk P q r none (fun _ => False) g' (put2 q w₁ k v0 v1)) ∨
  (hold = none ∧ ChanAt q q.N w₁ ∧ KR0 P q g w₁)
theorem Wk.make {g : Goroutine} {w : World} (hrun : g.status = .running) (h : ∀ w₁, RS q w w₁ → (∀ b, F b → w₁.heap[b]? = w.heap[b]?) → ∃ r, WkAlt P q hold F g w₁ r) : ∃ r, Wk P q r hold F g w := by
  refine ⟨.mk fun w₁ => Classical.epsilon fun r => WkAlt P q hold F g w₁ r, hrun, fun w₁ h1 h2 => ?_⟩
  exact Classical.epsilon_spec (h w₁ h1 h2)
theorem Wk.at {g : Goroutine} {w w₁ : World} (h : ∃ r, Wk P q r hold F g w) (hr : RS q w w₁) (hk : ∀ b, F b → w₁.heap[b]? = w.heap[b]?) : ∃ r, Wk P q r hold F g w₁ := let ⟨r, h⟩ := h; ⟨r, h.rely hr hk⟩
/-- private work, then on -/
theorem Wk.of_priv {Stop : Foot → Goroutine → World → Prop} (hS : ∀ F g w, Stop F g w → ∃ r, Wk P q r hold F g w) : ∀ (r : Rk) (F : Foot) (g : Goroutine) (w : World), Priv P false (RS q) q.low Stop r F g w → ∃ r, Wk P q r hold F g w := by
  intro r
  induction r with
  | z => exact fun F g w h => hS F g w (h w (.refl w) ⟨fun _ _ => rfl, rfl⟩)
  | mk f ih =>
    intro F g w h
    rcases h with h | ⟨hrun, h⟩
    · exact hS F g w (h w (.refl w) ⟨fun _ _ => rfl, rfl⟩)
    · refine Wk.make hrun fun w₁ h1 h2 => ?_
      obtain ⟨g', w', es, F', e1, e2, e3⟩ := h w₁ h1 ⟨fun b hb => hb.elim (h1.low b) (h2 b), h1.tape⟩
      obtain ⟨r', h'⟩ := ih w₁ F' g' w' e3
      exact ⟨r', .inl ⟨g', w', es, F', e1, e2, h'⟩⟩
/-- an idle walk, then on -/
theorem Wk.of_goes {Stop : Goroutine → World → Prop} (hS : ∀ g w, Stop g w → ∃ r, Wk P q r hold F g w) : ∀ (n : Nat) (g : Goroutine) (w : World), Goes P false (RS q) (DKs q) Stop n g w → ∃ r, Wk P q r hold F g w := by
  intro n
  induction n with
  | zero => exact fun g w h => hS g w (h w (.refl w))
  | succ n ih =>
    intro g w h
    rcases h with h | ⟨hrun, h⟩
    · exact hS g w (h w (.refl w))
    · refine Wk.make hrun fun w₁ h1 _ => ?_
      obtain ⟨g', w', es, e1, e2, e3⟩ := goes_elim (h w₁ h1)
      obtain ⟨r', h'⟩ := ih g' w' e3
      exact ⟨r', .inl ⟨g', w', es, F, e1, e2.dp F, h'⟩⟩
theorem chanN_rely {w w₁ : World} (h : ChanAt q q.N w) (r : RS q w w₁) : ChanAt q q.N w₁ := by
  obtain ⟨r', h1, h2⟩ := r.chan _ h
  have := h2.1
  obtain rfl : r' = q.N := by omega
  exact h2
/-- to the release -/
theorem Wk.of_rel : ∀ (n : Nat) (g : Goroutine) (w : World), Goes P false (RS q) DC0 (KR0 P q) n g w → ChanAt q q.N w → ∃ r, Wk P q r none F g w := by
  have stop : ∀ g w, (∀ w₁, RS q w w₁ → KR0 P q g w₁) → ChanAt q q.N w → ∃ r, Wk P q r none F g w := fun g w h hc =>
    Wk.make (h w (.refl w)).1 fun w₁ h1 _ => ⟨.z, .inr (.inr (.inr ⟨rfl, chanN_rely hc h1, h w₁ h1⟩))⟩
  intro n
  induction n with
  | zero => exact fun g w h hc => stop g w h hc
  | succ n ih =>
    intro g w h hc
    rcases h with h | ⟨hrun, h⟩
    · exact stop g w h hc
    · refine Wk.make hrun fun w₁ h1 _ => ?_
      obtain ⟨g', w', es, e1, ⟨rfl, rfl⟩, e3⟩ := goes_elim (h w₁ h1)
      obtain ⟨r', h'⟩ := ih g' w' e3 (chanN_rely hc h1)
      exact ⟨r', .inl ⟨g', w', #[], F, e1, (dks_none (by simp)).dp F, h'⟩⟩
end

/-! ### a region that asks the tape for its order -/
theorem lin_go {ops : Array Oper} {md : Region.Mode} (K : Array Bool → List Nat → Prop)
    (hend : ∀ listed, listed.size = ops.size → (∀ i, i < ops.size → listed[i]? = some true) → K listed [])
    (hdead : ∀ listed, listed.size = ops.size → Region.ready md ops listed = [] → ∀ i, i < ops.size → listed[i]? = some true)
    (hstep : ∀ listed i rest, listed.size = ops.size → i ∈ Region.ready md ops listed → K (listed.setIfInBounds i true) rest → K listed (i :: rest)) :
    ∀ (fuel t : Nat) (listed : Array Bool), listed.size = ops.size → (listed.toList.filter (· == false)).length ≤ fuel → K listed (Region.linearise.go md ops fuel t listed []) := by
  intro fuel
  induction fuel with
  | zero =>
    intro t listed hsz hc
    simp only [Region.linearise.go, List.reverse_nil]
    refine hend listed hsz fun i hi => ?_
    have h0 : listed.toList.filter (· == false) = [] := List.length_eq_zero_iff.1 (by omega)
    have := List.filter_eq_nil_iff.1 h0 (listed[i]'(by omega)) (by simp)
    rw [Array.getElem?_eq_getElem (by omega)]
    simpa using this
  | succ fuel ih =>
    intro t listed hsz hc
    simp only [Region.linearise.go]
    change K listed (match (Region.ready md ops listed)[t % (Region.ready md ops listed).length]? with
      | some i => Region.linearise.go md ops fuel (t / (Region.ready md ops listed).length) (listed.setIfInBounds i true) [i]
      | none => [].reverse)
    cases hi : (Region.ready md ops listed)[t % (Region.ready md ops listed).length]? with
    | none =>
      have hnil : Region.ready md ops listed = [] := by
        cases hr : Region.ready md ops listed with
        | nil => rfl
        | cons x xs =>
          rw [hr] at hi
          have hlt : t % (x :: xs).length < (x :: xs).length := Nat.mod_lt _ (by simp)
          rw [List.getElem?_eq_getElem hlt] at hi
          cases hi
      exact hend listed hsz (hdead listed hsz hnil)
    | some i =>
      simp only []
      have hm := List.mem_of_getElem? hi
      rw [linearise_go_acc, List.reverse_singleton, List.singleton_append]
      refine hstep listed i _ hsz hm (ih _ _ (by simp [hsz]) ?_)
      have hf : listed[i]? = some false := by
        simp only [Region.ready, List.mem_filter, List.mem_range, Bool.and_eq_true, Bool.not_eq_true'] at hm
        obtain ⟨h1, h2, _⟩ := hm
        rw [Array.getElem?_eq_getElem (by omega)]
        rw [Array.getD_eq_getD_getElem?, Array.getElem?_eq_getElem (by omega)] at h2
        simpa using h2
      have hlt : i < listed.size := (Array.getElem?_eq_some_iff.1 hf).1
      have hset : (listed.setIfInBounds i true).toList = listed.toList.set i true := by simp
      rw [hset]
      have key : ∀ (l : List Bool) (i : Nat), l[i]? = some false → ((l.set i true).filter (· == false)).length + 1 = (l.filter (· == false)).length := by
        intro l
        induction l with
        | nil => intro i h; simp at h
        | cons b l ihl =>
          intro i h
          cases i with
          | zero => simp at h; subst h; simp
          | succ i =>
            have := ihl i (by simpa using h)
            cases b <;> simp at this ⊢ <;> omega
      have := key listed.toList i (by simpa using hf)
      omega
end Go.Proofs.Ytjplnkkcmkpkbaa
/- The machine, 19: goroutine 0 walks, and sends, beside leavers; a law of the trace's is carried along. -/
namespace Go.Proofs.Ytjplnkkcmkpkbaa
open Go.Conc Go.ConcN
open Go.ConcR (g_of_ofEvents)

/-- a law of traces that mute steps of leavers keep -/
def KeepsMute (N : Nat) (I : Trace → Prop) : Prop := ∀ t g fn pos (es : Array Event), 0 < g → g < N → (∀ e ∈ es, e.mute = true) → I t → I (t ++ MemOp.ofEvents g fn pos es)

section
variable {P : Program} {I : Trace → Prop} {gs : Array Goroutine} {a a' : Goroutine} {w w' : World} {sl : Option (Nat × Nat)} {t : Trace} {q : Nat → Nat}

/-- a leaver slips -/
theorem slip (h0 : gs[0]? = some a) (hrun : a.status = .running) (hL : Leavers P t gs q) {i : Nat} {g : Goroutine} (hpos : 0 < i) (hi : gs[i]? = some g) (hg : g.status = .running) :
    ∃ gs' k es, runT P (crowd gs w sl) i = (.next (crowd gs' w sl), MemOp.ofEvents i g.frame.fn g.frame.place es) ∧ (∀ e ∈ es, e.mute = true) ∧ gs'.size = gs.size ∧ gs'[0]? = some a ∧ q i = k + 1 ∧ Leavers P (t ++ MemOp.ofEvents i g.frame.fn g.frame.place es) gs' (upd q i k) := by
  have hq := hL.old i g hpos hi
  have hlt : i < gs.size := (Array.getElem?_eq_some_iff.1 hi).1
  cases hqi : q i with
  | zero => rw [hqi] at hq; rw [hq.1] at hg; cases hg
  | succ k =>
    rw [hqi] at hq
    rcases hq with ⟨hf, _⟩ | ⟨_, g', es, hm, hstp, hq'⟩
    · rw [hf] at hg; cases hg
    have hi0 : (i == 0) = false := by simp; omega
    have hrunT := runT_crowd_go (P := P) (sl := sl) (i := i) hi (by rw [hi0]; exact hstp w)
    have hne : i ≠ 0 := by omega
    refine ⟨_, k, es, hrunT, hm, by simp, ?_, rfl, ⟨fun j x hj hx => ?_, fun j hj => ?_⟩⟩
    · rw [Array.getElem?_setIfInBounds_ne hne, Array.getElem?_map, h0]
      simp [woken_run hrun]
    · by_cases hji : i = j
      · subst hji
        rw [Array.getElem?_setIfInBounds_self_of_lt (by simpa using hlt)] at hx
        obtain rfl := Option.some.inj hx
        rw [upd_same, Deaf_own]
        exact hq'
      · rw [Array.getElem?_setIfInBounds_ne hji, Array.getElem?_map] at hx
        obtain ⟨y, hy, rfl⟩ := Option.map_eq_some_iff.1 hx
        have hqj := hL.old j y hj hy
        rw [woken_quitsD hqj, upd_ne q k (Ne.symm hji), Deaf_other t hji _ g_of_ofEvents]
        exact hqj
    · rw [Deaf_other t (g' := i) (by simp at hj; omega) _ g_of_ofEvents]
      exact hL.above j (by simpa using hj)

theorem beside_awake (h0 : gs[0]? = some a) (hrun : a.status = .running) (hL : Leavers P t gs q) : ∀ g ∈ gs, awake g := by
  intro g hg
  obtain ⟨i, hi⟩ := Array.mem_iff_getElem?.1 hg
  rcases Nat.eq_zero_or_pos i with rfl | hpos
  · rw [h0] at hi; cases hi; exact awake_of (.inl hrun)
  · exact awake_of ((hL.old i g hpos hi).status.elim .inl fun x => .inr (.inr x))

/-- where goroutine 0 stands -/
def Stand (P : Program) (N : Nat) (I : Trace → Prop) (Stop : Goroutine → World → Prop) (m : Machine) (t : Trace) : Prop :=
  ∃ gs a w sl q, m = crowd gs w sl ∧ gs.size = N ∧ gs[0]? = some a ∧ Stop a w ∧ Leavers P t gs q ∧ I t

variable {N : Nat} {D : World → World → Array Event → Prop} {Stop : Goroutine → World → Prop}
/-- a walk beside leavers -/
theorem walkI (hm : KeepsMute N I) (hD : ∀ t fn pos w w' es, D w w' es → I t → I (t ++ MemOp.ofEvents 0 fn pos es)) {n : Nat} (hsz : gs.size = N) (h0 : gs[0]? = some a) (hL : Leavers P t gs q) (hI : I t) (hS : ∀ g w, Stop g w → g.status = .running) (hG : Goes P true AtRel D Stop n a w) :
    ∃ K m' t', runNT P K (crowd gs w sl) t = (.next m', t') ∧ Stand P N I Stop m' t' := by
  refine run_to Nat.lt_wfRel.wf (fun (μ : Nat) m t => ∃ gs a w sl q n, m = crowd gs w sl ∧ gs.size = N ∧ gs[0]? = some a ∧ Leavers P t gs q ∧ I t ∧ Goes P true AtRel D Stop n a w ∧ μ = n + sumTo N q) (Stand P N I Stop) ?_ (n + sumTo N q) _ t ⟨gs, a, w, sl, q, n, rfl, hsz, h0, hL, hI, hG, rfl⟩
  rintro μ m t ⟨gs, a, w, sl, q, n, rfl, hsz, h0, hL, hI, hG, rfl⟩
  rcases Goes.cases hG with hstop | ⟨n', rfl, hstep⟩
  · exact .inl ⟨gs, a, w, sl, q, rfl, hsz, h0, hstop w (atRel_refl w), hL, hI⟩
  · right
    have hrun : a.status = .running := hG.running hS w (atRel_refl w)
    obtain ⟨i, g, d, sl', hi, hg, hst⟩ := crowd_pick (P := P) (w := w) (sl := sl) (beside_awake h0 hrun hL) ⟨0, a, h0, hrun⟩
    rw [hst]
    rcases Nat.eq_zero_or_pos i with rfl | hpos
    · obtain rfl : g = a := by rw [h0] at hi; exact (Option.some.inj hi).symm
      obtain ⟨a', w', es, hgo, hd, hG'⟩ := hstep (w.at d) ⟨d, rfl⟩
      have hrunT := runT_crowd_go (P := P) (sl := sl') (i := 0) hi (show stepG P (0 == 0) g (w.at d) = _ from hgo)
      have hlt : 0 < gs.size := (Array.getElem?_eq_some_iff.1 h0).1
      refine ⟨_, _, n' + sumTo N q, hrunT, by show _ < _; omega, _, a', w', sl', q, n', rfl, by simpa using hsz, by simp [hlt], ⟨fun j x hj hx => ?_, fun j hj => ?_⟩, hD _ _ _ _ _ _ hd hI, hG', rfl⟩
      · rw [Array.getElem?_setIfInBounds_ne (by omega), Array.getElem?_map] at hx
        obtain ⟨y, hy, rfl⟩ := Option.map_eq_some_iff.1 hx
        have hq := hL.old j y hj hy
        rw [woken_quitsD hq, Deaf_other t (by omega) _ g_of_ofEvents]
        exact hq
      · rw [Deaf_other t (g' := 0) (by simp at hj; omega) _ g_of_ofEvents]
        exact hL.above j (by simpa using hj)
    · obtain ⟨gs', k, es, hrunT, hmu, hsz', h0', hqi, hL'⟩ := slip (w := w.at d) (sl := sl') h0 hrun hL hpos hi hg
      have hlt : i < N := by rw [← hsz]; exact (Array.getElem?_eq_some_iff.1 hi).1
      have hsum : sumTo N (upd q i k) + q i = sumTo N q + k := sumTo_upd q k id hlt
      exact ⟨_, _, (n' + 1) + sumTo N (upd q i k), hrunT, by show _ < _; omega, gs', a, w.at d, sl', upd q i k, n' + 1, rfl, hsz'.trans hsz, h0', hL', hm _ _ _ _ _ hpos hlt hmu hI, Goes.rely atRel_trans hG ⟨d, rfl⟩, rfl⟩

/-- goroutine 0 stands at a send on a buffered channel with room -/
def AtSend (P : Program) (c : Nat) (v : Value) (After : Goroutine → Prop) (g : Goroutine) (w : World) : Prop :=
  g.status = .running ∧ (∃ cap buf s r tm, w.heap[c]? = some (.chan cap buf false s r tm) ∧ buf.size < cap) ∧
    ∃ g₂ z, (∀ d, stepG P true g (w.at d) = .comm g₂ #[scase c v z] true .send (w.at d) #[]) ∧ After (g₂.finishComm P #[scase c v z] .send 0 undef false)
/-- a send beside leavers -/
theorem sendI (hm : KeepsMute N I) {c : Nat} {v : Value} {After : Goroutine → Prop} (hS : ∀ t fn pos s, I t → I (t ++ #[{ g := 0, fn, pos, act := .send c s }, { g := 0, fn, pos, act := .sendDone c s }]))
    (hsz : gs.size = N) (h0 : gs[0]? = some a) (hL : Leavers P t gs q) (hI : I t) (hG : AtSend P c v After a w) :
    ∃ K m' t', runNT P K (crowd gs w sl) t = (.next m', t') ∧ Stand P N I (fun g w' => After g ∧ ∃ d cap buf s r tm, w.heap[c]? = some (.chan cap buf false s r tm) ∧ w' = (w.at d).setChan c cap (buf.push v) false (s + 1) r tm) m' t' := by
  obtain ⟨hrun, ⟨cap, buf, s, r, tm, hc, hroom⟩, g₂, z, hstep, haft⟩ := hG
  refine run_to Nat.lt_wfRel.wf (fun (μ : Nat) m t => (∃ gs d sl q, m = crowd gs (w.at d) sl ∧ gs.size = N ∧ gs[0]? = some a ∧ Leavers P t gs q ∧ I t ∧ μ = sumTo N q + 1) ∨ (μ = 0 ∧ Stand P N I (fun g w' => After g ∧ ∃ d cap buf s r tm, w.heap[c]? = some (.chan cap buf false s r tm) ∧ w' = (w.at d).setChan c cap (buf.push v) false (s + 1) r tm) m t)) _ ?_ (sumTo N q + 1) _ t (.inl ⟨gs, w.drawn, sl, q, rfl, hsz, h0, hL, hI, rfl⟩)
  rintro μ m t (⟨gs, d0, sl, q, rfl, hsz, h0, hL, hI, rfl⟩ | ⟨_, h⟩)
  · right
    obtain ⟨i, g, d, sl', hi, hg, hst⟩ := crowd_pick (P := P) (w := w.at d0) (sl := sl) (beside_awake h0 hrun hL) ⟨0, a, h0, hrun⟩
    rw [hst]
    rcases Nat.eq_zero_or_pos i with rfl | hpos
    · obtain rfl : g = a := by rw [h0] at hi; exact (Option.some.inj hi).symm
      have hlt : 0 < gs.size := (Array.getElem?_eq_some_iff.1 h0).1
      have hnp : partners (gs.setIfInBounds 0 ph) c false = [] := by
        refine partners_nil fun y g' hg' => ?_
        have key : g'.status = .running ∨ g'.status = .finished := by
          by_cases e : 0 = y
          · subst e
            rw [Array.getElem?_setIfInBounds_self_of_lt (by simpa using hlt)] at hg'
            obtain rfl := Option.some.inj hg'
            exact .inr rfl
          · rw [Array.getElem?_setIfInBounds_ne e] at hg'
            exact (hL.old y g' (by omega) hg').status
        unfold offersAt
        rcases key with h1 | h1 <;> rw [h1]
      have hrunT := crowd_send_room (P := P) (sl := sl') hi (show stepG P (0 == 0) g ((w.at d0).at d) = _ from hstep d) (show (w.at d).heap[c]? = _ from hc) hroom hnp
      refine ⟨_, _, 0, hrunT, by show _ < _; omega, .inr ⟨rfl, _, _, _, sl', q, rfl, by simpa using hsz, Array.getElem?_setIfInBounds_self_of_lt (by simpa using hlt), ⟨haft, d, cap, buf, s, r, tm, hc, rfl⟩, ⟨fun j x hj hx => ?_, fun j hj => ?_⟩, ?_⟩⟩
      · rw [Array.getElem?_setIfInBounds_ne (by omega)] at hx
        have hq := hL.old j x hj hx
        rw [Deaf_other t (g := j) (g' := 0) (by omega) _ (fun op hop => by simp [MemOp.ofEvents] at hop; rcases hop with rfl | rfl <;> rfl)]
        exact hq
      · rw [Deaf_other t (g := j) (g' := 0) (by simp at hj; omega) _ (fun op hop => by simp [MemOp.ofEvents] at hop; rcases hop with rfl | rfl <;> rfl)]
        exact hL.above j (by simpa using hj)
      · have := hS t g₂.frame.fn g₂.frame.place s hI
        simpa [MemOp.ofEvents] using this
    · obtain ⟨gs', k, es, hrunT, hmu, hsz', h0', hqi, hL'⟩ := slip (w := (w.at d0).at d) (sl := sl') h0 hrun hL hpos hi hg
      have hlt : i < N := by rw [← hsz]; exact (Array.getElem?_eq_some_iff.1 hi).1
      have hsum : sumTo N (upd q i k) + q i = sumTo N q + k := sumTo_upd q k id hlt
      exact ⟨_, _, sumTo N (upd q i k) + 1, hrunT, by show _ < _; omega, .inl ⟨gs', d, sl', upd q i k, rfl, hsz'.trans hsz, h0', hL', hm _ _ _ _ _ hpos hlt hmu hI, rfl⟩⟩
  · exact .inl h
end
end Go.Proofs.Ytjplnkkcmkpkbaa
