/- Several of my texts in one: Mn3, Mn4, Lf13. -/
import Derived.Test.YtjplnkkcmkpkbaaMA09
import Derived.Test.YtjplnkkcmkpkbaaMA08
import Derived.Calls
import Derived.KernelRfl
set_option linter.unusedSimpArgs false
set_option linter.unusedVariables false
/- The machine, 3: what holds at every moment of one call of many.Run; the measure. -/
namespace Go.Proofs.Ytjplnkkcmkpkbaa
open Go.Conc Go.ConcN
open Go.ConcR (KK wgBlock WgAt stA smA rd wr mk DC0 Bk g_of_ofEvents deafBehind_cons deafBehind_one ofEvent_loc_mark)

/-! ### ranks, one for each of n places -/
def RkL (n : Nat) (f' f : Nat → Rk) : Prop := ∃ i, i < n ∧ Rk.lt (f' i) (f i) ∧ ∀ k, k ≠ i → f' k = f k
theorem RkL.wf (n : Nat) : WellFounded (RkL n) := by
  induction n with
  | zero => exact ⟨fun f => ⟨f, fun g ⟨i, hi, _⟩ => absurd hi (Nat.not_lt_zero i)⟩⟩
  | succ n ih =>
    have hw := (Prod.lex ⟨Rk.lt, Rk.wf⟩ ⟨RkL n, ih⟩).wf
    refine Subrelation.wf (r := InvImage (Prod.lex ⟨Rk.lt, Rk.wf⟩ ⟨RkL n, ih⟩).rel fun f : Nat → Rk => (f n, f)) ?_ (InvImage.wf _ hw)
    rintro f' f ⟨i, hi, h1, h2⟩
    by_cases e : i = n
    · subst e; exact Prod.Lex.left _ _ h1
    · show Prod.Lex _ _ (f' n, f') (f n, f)
      rw [h2 n (Ne.symm e)]
      exact Prod.Lex.right _ ⟨i, by omega, h1, h2⟩
def Lt3 (n : Nat) : (Nat × (Nat → Rk) × Nat) → (Nat × (Nat → Rk) × Nat) → Prop := Prod.Lex (· < ·) (Prod.Lex (RkL n) (· < ·))
theorem Lt3.wf (n : Nat) : WellFounded (Lt3 n) := (Prod.lex Nat.lt_wfRel (Prod.lex ⟨RkL n, RkL.wf n⟩ Nat.lt_wfRel)).wf
theorem Lt3.fst {n a a' : Nat} (f f' : Nat → Rk) (b b' : Nat) (h : a' < a) : Lt3 n (a', f', b') (a, f, b) := Prod.Lex.left _ _ h
theorem Lt3.snd {n a a' : Nat} {f f' : Nat → Rk} (b b' : Nat) (e : a' ≤ a) (h : RkL n f' f) : Lt3 n (a', f', b') (a, f, b) := by
  rcases Nat.lt_or_ge a' a with hlt | hge
  · exact Prod.Lex.left _ _ hlt
  · obtain rfl : a' = a := by omega
    exact Prod.Lex.right _ (Prod.Lex.left _ _ h)
theorem Lt3.thd {n a a' b b' : Nat} (f : Nat → Rk) (e : a' ≤ a) (h : b' < b) : Lt3 n (a', f, b') (a, f, b) := by
  rcases Nat.lt_or_ge a' a with hlt | hge
  · exact Prod.Lex.left _ _ hlt
  · obtain rfl : a' = a := by omega
    exact Prod.Lex.right _ (Prod.Lex.right _ h)
/-- a run to a goal -/
theorem run_to {P : Program} {α : Type} {r : α → α → Prop} (wf : WellFounded r) (Inv : α → Machine → Trace → Prop) (Goal : Machine → Trace → Prop)
    (h : ∀ μ m t, Inv μ m t → Goal m t ∨ ∃ m' ops μ', stepT P m = (.next m', ops) ∧ r μ' μ ∧ Inv μ' m' (t ++ ops)) :
    ∀ μ m t, Inv μ m t → ∃ N m' t', runNT P N m t = (.next m', t') ∧ Goal m' t' := by
  intro μ
  induction μ using wf.induction with
  | _ μ ih =>
    intro m t hI
    rcases h μ m t hI with hg | ⟨m', ops, μ', hs, hr, hI'⟩
    · exact ⟨0, m, t, rfl, hg⟩
    · obtain ⟨N, m2, t2, h1, h2⟩ := ih μ' hr m' (t ++ ops) hI'
      exact ⟨N + 1, m2, t2, by rw [runNT_succ_next hs]; exact h1, h2⟩

/-- where the blocks lie -/
structure Geom (q : Ph) : Prop where
  wg : q.Wg < q.Low
  ch : q.Ch < q.Low
  c : q.C < q.Low
  wgch : q.Wg ≠ q.Ch
  wgc : q.Wg ≠ q.C
  chc : q.Ch ≠ q.C
/-- what is held of results hangs on their own blocks alone -/
def ResOk (q : Ph) : Prop := ∀ k v0 v1 F w w₁, (∀ b, F b → w₁.heap[b]? = w.heap[b]?) → q.Res k v0 v1 F w → q.Res k v0 v1 F w₁

/-- the ghosts of the workers -/
structure Gst where
  D : Nat → WD
  rk : Nat → Rk
  hold : Nat → Option Nat
  F : Nat → Foot
  OB : Nat → Foot
  KT : Nat → Nat → Prop
  r : Nat
def Gst.own (q : Ph) (s : Gst) (i : Nat) : Loc → Prop
  | .cell a => s.OB i a.block ∨ (a.block = q.C ∧ ∃ k, s.KT i k ∧ (a.off = 2 * k ∨ a.off = 2 * k + 1))
  | .obj c => s.OB i c
  | _ => False
def Fin1 (q : Ph) (s : Gst) (j k : Nat) (w : World) : Prop :=
  ∃ v0 v1 Fk, q.Res k v0 v1 Fk w ∧ w.cell? ⟨q.C, 2 * k, none⟩ = some v0 ∧ w.cell? ⟨q.C, 2 * k + 1, none⟩ = some v1 ∧ ∀ b, Fk b → q.Low ≤ b ∧ b < w.heap.size ∧ ∀ i, i < j → ¬ s.F i b

section
variable (P : Program) (q : Ph) (Shun : Loc → Prop)
structure Com (j : Nat) (gs : Array Goroutine) (w : World) (t : Trace) (s : Gst) (qo : Nat → Nat) (d0 : Nat) : Prop where
  size : gs.size = q.j0 + j + 1
  old : ∀ i, 1 ≤ i → i ≤ q.j0 → ∃ g, gs[i]? = some g ∧ QuitsD P (qo i) (Deaf t i) g
  wk : ∀ i, i < j → ∃ g, gs[q.j0 + i + 1]? = some g ∧ (((s.D i).stage = 7 ∧ (s.D i).deaf = 0 ∧ Wk P q (s.rk i) (s.hold i) (s.F i) g w) ∨ KSit P q (s.D i).stage (s.D i).fuel (s.D i).deaf g w)
  low6 : ∀ i, i < j → (s.D i).stage ≤ 6 → s.hold i = none ∧ (∀ b, ¬ s.F i b) ∧ s.r = q.N
  fb : ∀ i b, s.F i b → s.OB i b
  ob : ∀ i b, s.OB i b → q.Low ≤ b ∧ b < w.heap.size ∧ i < j
  obd : ∀ i i' b, s.OB i b → s.OB i' b → i = i'
  kt : ∀ i k, s.KT i k → k < s.r ∧ i < j
  ktd : ∀ i i' k, s.KT i k → s.KT i' k → i = i'
  hk : ∀ i k, s.hold i = some k → s.KT i k
  chan : ChanAt q s.r w
  pay : PayO q w
  fin : ∀ k, k < s.r → (∃ i, i < j ∧ s.hold i = some k) ∨ Fin1 q s j k w
  tr : TR Shun (ShN q.Wg) q.lowL q.j0 j (s.own q) t
  fresh : ∀ x a, touchAt t x = some a → (∀ ad, a.loc = .cell ad → ad.block < w.heap.size ∧ (ad.block = q.C → ad.off < 2 * s.r)) ∧ (∀ c, a.loc = .obj c → c < w.heap.size)
  seen : ∀ op ∈ t, op.act.low w.heap.size
  norel : NoRelease (stA q.Wg) t
  deaf0 : Deaf t 0 = d0
  deafW : ∀ i, i < j → Deaf t (q.j0 + i + 1) = (s.D i).deaf
  above : ∀ i, q.j0 + j + 1 ≤ i → Deaf t i = 0
  rel : ∀ i, i < j → (s.D i).stage ≤ 6 → ∃ r, RelBy (stA q.Wg) t (q.j0 + i + 1) r
  low : q.Low ≤ w.heap.size
def AcqA (j : Nat) (t : Trace) : Prop :=
  ∃ x, t.act? x = some (.mark (.acquire (stA q.Wg))) ∧ t.g? x = some 0 ∧ t.heard x ∧ ∀ i, i < j → ∃ r, RelBy (stA q.Wg) t (q.j0 + i + 1) r ∧ r < x
end

section
variable {P : Program} {q : Ph} {Shun : Loc → Prop} {j : Nat} {gs : Array Goroutine} {w w' : World} {t : Trace} {s s' : Gst} {qo : Nat → Nat} {d0 : Nat}

theorem Com.apt (hg : Geom q) (h : Com P q Shun j gs w t s qo d0) : Apt (ShN q.Wg) q.lowL (s.own q) := by
  refine ⟨fun i i' l h1 h2 => ?_, fun i l h1 h2 => ?_, fun i l h1 h2 => ?_, fun l h1 h2 => ?_⟩
  · cases l with
    | cell a =>
      rcases h1 with h1 | ⟨e1, k, k1, k2⟩ <;> rcases h2 with h2 | ⟨e2, k', k3, k4⟩
      · exact h.obd i i' _ h1 h2
      · have := (h.ob i _ h1).1; have := hg.c; omega
      · have := (h.ob i' _ h2).1; have := hg.c; omega
      · have : k = k' := by omega
        subst this
        exact h.ktd i i' k k1 k3
    | obj c => exact h.obd i i' _ h1 h2
    | _ => exact h1.elim
  · obtain ⟨a, rfl, ha⟩ := h2
    rcases h1 with h1 | ⟨e1, _⟩
    · have := (h.ob i _ h1).1; have := hg.wg; omega
    · exact hg.wgc (ha.symm.trans e1)
  · cases l with
    | cell a =>
      rcases h1 with h1 | ⟨e1, _⟩
      · have := (h.ob i _ h1).1; have h3 : a.block < q.Low := h2.1; omega
      · exact h2.2.2.2.1 e1
    | obj c => have := (h.ob i _ h1).1; have h3 : c < q.Low := h2.1; omega
    | _ => exact h1.elim
  · obtain ⟨a, rfl, ha⟩ := h2
    exact h1.2.1 ha
theorem Fin1.of (hR : ResOk q) {k : Nat} {j' : Nat} (h : Fin1 q s j k w) (hk : ∀ b, q.Low ≤ b → b < w.heap.size → (∀ i, i < j → ¬ s.F i b) → w'.heap[b]? = w.heap[b]? ∧ ∀ i, i < j' → ¬ s'.F i b)
    (hs : w.heap.size ≤ w'.heap.size) (h0 : w'.cell? ⟨q.C, 2 * k, none⟩ = w.cell? ⟨q.C, 2 * k, none⟩) (h1 : w'.cell? ⟨q.C, 2 * k + 1, none⟩ = w.cell? ⟨q.C, 2 * k + 1, none⟩) : Fin1 q s' j' k w' := by
  obtain ⟨v0, v1, Fk, hr, e0, e1, hf⟩ := h
  refine ⟨v0, v1, Fk, hR k v0 v1 Fk w w' (fun b hb => ?_) hr, h0.trans e0, h1.trans e1, fun b hb => ?_⟩
  · obtain ⟨a1, a2, a3⟩ := hf b hb; exact (hk b a1 a2 a3).1
  · obtain ⟨a1, a2, a3⟩ := hf b hb; exact ⟨a1, by omega, (hk b a1 a2 a3).2⟩
theorem Com.at (hR : ResOk q) (h : Com P q Shun j gs w t s qo d0) (d : Nat) : Com P q Shun j gs (w.at d) t s qo d0 :=
  ⟨h.size, h.old, fun i hi => let ⟨g, hg, hs⟩ := h.wk i hi; ⟨g, hg, hs.imp (fun x => ⟨x.1, x.2.1, x.2.2.rely (RS.at w d) fun _ _ => rfl⟩) (·.rely (RS.at w d))⟩, h.low6, h.fb, h.ob, h.obd, h.kt, h.ktd, h.hk, h.chan, h.pay, fun k hk => (h.fin k hk).imp id fun x => x.of hR (fun _ _ _ k => ⟨rfl, k⟩) (Nat.le_refl _) rfl rfl, h.tr, h.fresh, h.seen, h.norel, h.deaf0, h.deafW, h.above, h.rel, h.low⟩
end
end Go.Proofs.Ytjplnkkcmkpkbaa
/- The machine, 4: a worker's step at its work keeps what holds. -/
namespace Go.Proofs.Ytjplnkkcmkpkbaa
open Go.Conc Go.ConcN
open Go.ConcR (KK wgBlock WgAt stA smA rd wr mk DC0 Bk g_of_ofEvents deafBehind_cons deafBehind_one ofEvent_loc_mark)

def Gst.work (s : Gst) (i : Nat) (ρ : Rk) (hold : Option Nat) (F : Foot) (r a b : Nat) : Gst :=
  { s with rk := upd s.rk i ρ, hold := upd s.hold i hold, F := upd s.F i F, OB := upd s.OB i (fun x => s.OB i x ∨ (a ≤ x ∧ x < b)), KT := upd s.KT i (fun k => s.KT i k ∨ (s.r ≤ k ∧ k < r)), r := r }

section
variable {P : Program} {q : Ph} {Shun : Loc → Prop} {j : Nat} {gs : Array Goroutine} {w w' : World} {t : Trace} {s : Gst} {qo : Nat → Nat} {d0 : Nat}

/-- whoever is not the starter runs or is done -/
theorem Com.stay (h : Com P q Shun j gs w t s qo d0) {x : Nat} (hx : x ≠ 0) {g : Goroutine} (hg : gs[x]? = some g) : g.status = .running ∨ g.status = .finished := by
  rcases Nat.lt_or_ge q.j0 x with hlt | hle
  · have hxs : x < gs.size := (Array.getElem?_eq_some_iff.1 hg).1
    rw [h.size] at hxs
    obtain ⟨g1, h1, h2⟩ := h.wk (x - q.j0 - 1) (by omega)
    rw [show q.j0 + (x - q.j0 - 1) + 1 = x by omega, hg] at h1
    cases h1
    rcases h2 with ⟨_, _, h2⟩ | h2
    · exact .inl h2.running
    · exact h2.status.imp id (·.2)
  · obtain ⟨g1, h1, h2⟩ := h.old x (by omega) hle
    rw [hg] at h1; cases h1
    exact h2.status
theorem Com.still (h : Com P q Shun j gs w t s qo d0) (a a' : Goroutine) (w1 : World) {i x : Nat} (y : Goroutine) (hx : x ≠ 0) (hxi : x ≠ i) : ((gs.map (woken P a a' w1)).setIfInBounds i y)[x]? = gs[x]? := by
  rw [get_map_set _ _ _ _ (Ne.symm hxi)]
  cases e : gs[x]? with
  | none => rfl
  | some g =>
    rw [Option.map_some]
    unfold woken
    split
    · rw [again_running _ (h.stay hx e)]
    · rfl
/-- a worker's situation in a world that its rely reaches -/
theorem Com.wkAt (h : Com P q Shun j gs w t s qo d0) (hrs : RS q w w') {i : Nat} (hi : i < j) (hk : ∀ b, s.F i b → w'.heap[b]? = w.heap[b]?) :
    ∃ g, gs[q.j0 + i + 1]? = some g ∧ (((s.D i).stage = 7 ∧ (s.D i).deaf = 0 ∧ Wk P q (s.rk i) (s.hold i) (s.F i) g w') ∨ KSit P q (s.D i).stage (s.D i).fuel (s.D i).deaf g w') :=
  let ⟨g, hg, hs⟩ := h.wk i hi
  ⟨g, hg, hs.imp (fun x => ⟨x.1, x.2.1, x.2.2.rely hrs hk⟩) (·.rely hrs)⟩

theorem not_mark_of {op : MemOp} {m : Mark} {a : Touch} (h : op.act.touch? = some a) (hm : ∀ ad, m ≠ .read ad ∧ m ≠ .write ad) : op.act ≠ .mark m := by
  intro e
  rw [e] at h
  cases m <;> first | (cases h; done) | exact (hm _).1 rfl | exact (hm _).2 rfl

set_option maxHeartbeats 1000000 in
theorem Com.stepA (hR : ResOk q) (hG : Geom q) (h : Com P q Shun j gs w t s qo d0) {i : Nat} (hi : i < j) {gs' : Array Goroutine} {g' : Goroutine} {ops : Trace} {ρ' : Rk} {hold' : Option Nat} {F' : Foot} {r' : Nat}
    (hsz : gs'.size = gs.size) (hoth : ∀ x, x ≠ 0 → x ≠ q.j0 + i + 1 → gs'[x]? = gs[x]?) (hme : gs'[q.j0 + i + 1]? = some g')
    (h7 : (s.D i).stage = 7 ∧ (s.D i).deaf = 0) (hrs : RS q w w') (hkeep : ∀ b, b < w.heap.size → ¬ s.F i b → b ≠ q.C → b ≠ q.Ch → w'.heap[b]? = w.heap[b]?)
    (hsit : Wk P q ρ' hold' F' g' w') (hF' : ∀ b, F' b → s.F i b ∨ (w.heap.size ≤ b ∧ b < w'.heap.size)) (hr : s.r ≤ r')
    (hhold : ∀ k, hold' = some k → s.KT i k ∨ (s.r ≤ k ∧ k < r')) (hchan : ChanAt q r' w') (hpay : PayO q w')
    (hcell : ∀ k, k < s.r → (w'.cell? ⟨q.C, 2 * k, none⟩ = w.cell? ⟨q.C, 2 * k, none⟩ ∧ w'.cell? ⟨q.C, 2 * k + 1, none⟩ = w.cell? ⟨q.C, 2 * k + 1, none⟩) ∨ Fin1 q (s.work i ρ' hold' F' r' w.heap.size w'.heap.size) j k w')
    (hh : ∀ k, s.hold i = some k → hold' = some k ∨ Fin1 q (s.work i ρ' hold' F' r' w.heap.size w'.heap.size) j k w') (hnew : ∀ k, s.r ≤ k → k < r' → hold' = some k)
    (hok : ∀ op ∈ ops, OkK (ShN q.Wg) q.lowL q.j0 ((s.work i ρ' hold' F' r' w.heap.size w'.heap.size).own q) i op) (hlow : ∀ op ∈ ops, op.act.low w'.heap.size)
    (hmk : ∀ op ∈ ops, op.act ≠ .mark .disable ∧ op.act ≠ .mark .enable ∧ op.act ≠ .mark (.release (stA q.Wg))) :
    Com P q Shun j gs' w' (t ++ ops) (s.work i ρ' hold' F' r' w.heap.size w'.heap.size) qo d0 := by
  have hgrow := hrs.grow
  have hlw := h.low
  have hC := hG.c
  have hWg := hG.wg
  have hCh := hG.ch
  have hfo : ∀ i' b, i' ≠ i → s.F i' b → w'.heap[b]? = w.heap[b]? := fun i' b hne hb => by
    obtain ⟨a1, a2, _⟩ := h.ob i' b (h.fb i' b hb)
    exact hkeep b a2 (fun hb' => hne (h.obd i' i b (h.fb i' b hb) (h.fb i b hb'))) (by omega) (by omega)
  have hds : ∀ g, Deaf (t ++ ops) g = Deaf t g := fun g => Deaf_still t g ops fun op hop => ⟨(hmk op hop).1, (hmk op hop).2.1⟩
  have eF : (s.work i ρ' hold' F' r' w.heap.size w'.heap.size).F = upd s.F i F' := rfl
  have eH : (s.work i ρ' hold' F' r' w.heap.size w'.heap.size).hold = upd s.hold i hold' := rfl
  have eR : (s.work i ρ' hold' F' r' w.heap.size w'.heap.size).rk = upd s.rk i ρ' := rfl
  have eO : (s.work i ρ' hold' F' r' w.heap.size w'.heap.size).OB = upd s.OB i (fun x => s.OB i x ∨ (w.heap.size ≤ x ∧ x < w'.heap.size)) := rfl
  have eK : (s.work i ρ' hold' F' r' w.heap.size w'.heap.size).KT = upd s.KT i (fun k => s.KT i k ∨ (s.r ≤ k ∧ k < r')) := rfl
  have er : (s.work i ρ' hold' F' r' w.heap.size w'.heap.size).r = r' := rfl
  have eD : (s.work i ρ' hold' F' r' w.heap.size w'.heap.size).D = s.D := rfl
  generalize hs' : s.work i ρ' hold' F' r' w.heap.size w'.heap.size = s' at *
  have ob : ∀ i' b, s'.OB i' b → q.Low ≤ b ∧ b < w'.heap.size ∧ i' < j := fun i' b hb => by
    rw [eO] at hb
    by_cases e : i' = i
    · subst e; rw [upd_same] at hb
      rcases hb with hb | hb
      · obtain ⟨a1, a2, a3⟩ := h.ob i' b hb; exact ⟨a1, by omega, a3⟩
      · exact ⟨by omega, hb.2, hi⟩
    · rw [upd_ne _ _ e] at hb
      obtain ⟨a1, a2, a3⟩ := h.ob i' b hb; exact ⟨a1, by omega, a3⟩
  have obc : ∀ i' b, s'.OB i' b → s.OB i' b ∨ (i' = i ∧ w.heap.size ≤ b) := fun i' b hb => by
    rw [eO] at hb
    by_cases e : i' = i
    · subst e; rw [upd_same] at hb
      exact hb.imp id fun x => ⟨rfl, x.1⟩
    · rw [upd_ne _ _ e] at hb; exact .inl hb
  have ktc : ∀ i' k, s'.KT i' k → s.KT i' k ∨ (i' = i ∧ s.r ≤ k ∧ k < r') := fun i' k hb => by
    rw [eK] at hb
    by_cases e : i' = i
    · subst e; rw [upd_same] at hb
      exact hb.imp id fun x => ⟨rfl, x⟩
    · rw [upd_ne _ _ e] at hb; exact .inl hb
  have kt : ∀ i' k, s'.KT i' k → k < s'.r ∧ i' < j := fun i' k hb => by
    rw [er]
    rcases ktc i' k hb with hb | ⟨rfl, _, h2⟩
    · have := h.kt i' k hb; exact ⟨by omega, this.2⟩
    · exact ⟨h2, hi⟩
  have htouch : ∀ op ∈ ops, ∀ a, op.act.touch? = some a → (∀ ad, a.loc = .cell ad → ad.block < w'.heap.size ∧ (ad.block = q.C → ad.off < 2 * s'.r)) ∧ (∀ c, a.loc = .obj c → c < w'.heap.size) := by
    intro op hop a ha
    rcases (hok op hop).2 a ha with ⟨⟨ad, e1, e2⟩, _⟩ | ⟨ho, _⟩ | ⟨hl, _⟩
    · refine ⟨fun ad' e => ?_, fun c e => by rw [e1] at e; cases e⟩
      rw [e1] at e; cases e
      exact ⟨by omega, fun e3 => absurd (e2.symm.trans e3) hG.wgc⟩
    · refine ⟨fun ad' e => ?_, fun c e => ?_⟩
      · rw [e] at ho
        rcases ho with ho | ⟨e1, k, hk, h3⟩
        · have := ob i _ ho; exact ⟨this.2.1, fun e3 => by omega⟩
        · have := (kt i k hk).1; exact ⟨by omega, fun _ => by omega⟩
      · rw [e] at ho; exact (ob i _ ho).2.1
    · refine ⟨fun ad' e => ?_, fun c e => ?_⟩
      · rw [e] at hl
        have h1 : ad'.block < q.Low := hl.1
        exact ⟨by omega, fun e3 => absurd e3 hl.2.2.2.1⟩
      · rw [e] at hl; have h1 : c < q.Low := hl.1; omega
  refine ⟨hsz.trans h.size, fun x h1 h2 => ?_, fun i' hi' => ?_, fun i' hi' h6 => ?_, fun i' b hb => ?_, ob, fun i1 i2 b h1 h2 => ?_, kt, fun i1 i2 k h1 h2 => ?_, fun i' k hk => ?_, by rw [er]; exact hchan, hpay, fun k hk => ?_, ?_, fun x a ha => ?_, seen_app (fun op hop => MemAct.low_mono hgrow (h.seen op hop)) hlow,
    h.norel.app fun op hop => (hmk op hop).2.2, (hds 0).trans h.deaf0, fun i' hi' => by rw [hds, eD]; exact h.deafW i' hi', fun x hx => (hds x).trans (h.above x hx), fun i' hi' h6 => ?_, by omega⟩
  · obtain ⟨g, hg, hq⟩ := h.old x h1 h2
    exact ⟨g, by rw [hoth x (by omega) (by omega)]; exact hg, by rw [hds]; exact hq⟩
  · by_cases e : i' = i
    · subst e
      refine ⟨g', hme, .inl ?_⟩
      rw [eD, eR, eH, eF, upd_same, upd_same, upd_same]
      exact ⟨h7.1, h7.2, hsit⟩
    · obtain ⟨g, hg, hq⟩ := h.wkAt hrs hi' (hfo i' · e)
      refine ⟨g, by rw [hoth _ (by omega) (by omega)]; exact hg, ?_⟩
      rw [eD, eR, eH, eF, upd_ne _ _ e, upd_ne _ _ e, upd_ne _ _ e]
      exact hq
  · rw [eD] at h6
    have e : i' ≠ i := by rintro rfl; omega
    obtain ⟨a1, a2, a3⟩ := h.low6 i' hi' h6
    rw [eH, eF, upd_ne _ _ e, upd_ne _ _ e, er]
    exact ⟨a1, a2, by have := hchan.1; omega⟩
  · rw [eF] at hb
    rw [eO]
    by_cases e : i' = i
    · subst e; rw [upd_same] at hb ⊢
      exact (hF' b hb).imp (h.fb i' b) id
    · rw [upd_ne _ _ e] at hb ⊢; exact h.fb i' b hb
  · rcases obc i1 b h1 with k1 | ⟨e1, k1⟩ <;> rcases obc i2 b h2 with k2 | ⟨e2, k2⟩
    · exact h.obd i1 i2 b k1 k2
    · have := h.ob i1 b k1; omega
    · have := h.ob i2 b k2; omega
    · exact e1.trans e2.symm
  · rcases ktc i1 k h1 with k1 | ⟨e1, k1, _⟩ <;> rcases ktc i2 k h2 with k2 | ⟨e2, k2, _⟩
    · exact h.ktd i1 i2 k k1 k2
    · have := h.kt i1 k k1; omega
    · have := h.kt i2 k k2; omega
    · exact e1.trans e2.symm
  · rw [eH] at hk
    rw [eK]
    by_cases e : i' = i
    · subst e; rw [upd_same] at hk ⊢; exact hhold k hk
    · rw [upd_ne _ _ e] at hk ⊢; exact h.hk i' k hk
  · rw [er] at hk
    rw [eH]
    rcases Nat.lt_or_ge k s.r with hlt | hge
    · rcases h.fin k hlt with ⟨i', hi', hk'⟩ | hf
      · by_cases e : i' = i
        · subst e
          exact (hh k hk').imp (fun x => ⟨i', hi', by rw [upd_same]; exact x⟩) id
        · exact .inl ⟨i', hi', by rw [upd_ne _ _ e]; exact hk'⟩
      · rcases hcell k hlt with ⟨c0, c1⟩ | hf'
        · refine .inr (hf.of hR (fun b b1 b2 b3 => ⟨hkeep b b2 (b3 i hi) (by omega) (by omega), fun i' hi' => ?_⟩) hgrow c0 c1)
          rw [eF]
          by_cases e : i' = i
          · subst e; rw [upd_same]
            intro hb
            rcases hF' b hb with hb | hb
            · exact b3 i' hi' hb
            · omega
          · rw [upd_ne _ _ e]; exact b3 i' hi'
        · exact .inr hf'
    · exact .inl ⟨i, hi, by rw [upd_same]; exact hnew k hge hk⟩
  · have hgr : TR Shun (ShN q.Wg) q.lowL q.j0 j (s'.own q) t := h.tr.grant fun i' l hl => by
      cases l with
      | cell ad =>
        rcases hl with hl | ⟨e1, k, hk, h3⟩
        · rcases obc i' _ hl with k1 | ⟨_, k1⟩
          · exact .inl (.inl k1)
          · refine .inr fun x a ha e => ?_
            have := ((h.fresh x a ha).1 ad e).1
            omega
        · rcases ktc i' k hk with k1 | ⟨_, k1, _⟩
          · exact .inl (.inr ⟨e1, k, k1, h3⟩)
          · refine .inr fun x a ha e => ?_
            have := ((h.fresh x a ha).1 ad e).2 e1
            omega
      | obj c =>
        rcases obc i' c hl with k1 | ⟨_, k1⟩
        · exact .inl k1
        · refine .inr fun x a ha e => ?_
          have := (h.fresh x a ha).2 c e
          omega
      | _ => exact hl.elim
    refine hgr.appK ⟨fun i1 i2 l h1 h2 => ?_, fun i' l h1 h2 => ?_, fun i' l h1 h2 => ?_, fun l h1 h2 => ?_⟩ hi hok
    · cases l with
      | cell a =>
        rcases h1 with h1 | ⟨e1, k, k1, k2⟩ <;> rcases h2 with h2 | ⟨e2, k', k3, k4⟩
        · rcases obc i1 _ h1 with k1 | ⟨e1, k1⟩ <;> rcases obc i2 _ h2 with k2 | ⟨e2, k2⟩
          · exact h.obd i1 i2 _ k1 k2
          · have := h.ob i1 _ k1; omega
          · have := h.ob i2 _ k2; omega
          · exact e1.trans e2.symm
        · have := (ob i1 _ h1).1; omega
        · have := (ob i2 _ h2).1; omega
        · have : k = k' := by omega
          subst this
          rcases ktc i1 k k1 with k1 | ⟨e1, k1, _⟩ <;> rcases ktc i2 k k3 with k2 | ⟨e2, k2, _⟩
          · exact h.ktd i1 i2 k k1 k2
          · have := h.kt i1 k k1; omega
          · have := h.kt i2 k k2; omega
          · exact e1.trans e2.symm
      | obj c =>
        rcases obc i1 _ h1 with k1 | ⟨e1, k1⟩ <;> rcases obc i2 _ h2 with k2 | ⟨e2, k2⟩
        · exact h.obd i1 i2 _ k1 k2
        · have := h.ob i1 _ k1; omega
        · have := h.ob i2 _ k2; omega
        · exact e1.trans e2.symm
      | _ => exact h1.elim
    · obtain ⟨a, rfl, ha⟩ := h2
      rcases h1 with h1 | ⟨e1, _⟩
      · have := (ob i' _ h1).1; omega
      · exact hG.wgc (ha.symm.trans e1)
    · cases l with
      | cell a =>
        rcases h1 with h1 | ⟨e1, _⟩
        · have := (ob i' _ h1).1; have h3 : a.block < q.Low := h2.1; omega
        · exact h2.2.2.2.1 e1
      | obj c => have := (ob i' _ h1).1; have h3 : c < q.Low := h2.1; omega
      | _ => exact h1.elim
    · obtain ⟨a, rfl, ha⟩ := h2
      exact h1.2.1 ha
  · obtain ⟨op, ho, hoa⟩ := touch_of ha
    rcases getElem?_append_cases ho with ⟨_, ho'⟩ | ⟨_, hou⟩
    · have := h.fresh x a (by rw [touchAt_of ho']; exact hoa)
      exact ⟨fun ad e => by have := this.1 ad e; rw [er]; exact ⟨by omega, fun e3 => by have := this.2 e3; omega⟩, fun c e => by have := this.2 c e; omega⟩
    · exact htouch op hou a hoa
  · rw [eD] at h6
    have e : i' ≠ i := by rintro rfl; omega
    obtain ⟨r, hr⟩ := h.rel i' hi' h6
    exact ⟨r, hr.appOther (fun op hop => (hok op hop).1) (by omega)⟩
end
end Go.Proofs.Ytjplnkkcmkpkbaa
/- The lift, 13: from a lone contract ('Calls') to a goroutine's private work in company. -/
namespace Go.Proofs.Ytjplnkkcmkpkbaa
open Go.Conc (G)

/-- a name that no row bears, at which a panic goes no further -/
def baseRow : String := String.ofList ([102, 109, 116, 39, 115, 32, 100, 111, 111, 114, 44, 32, 110, 111, 110, 101].map Char.ofNat)
theorem baseRow_next : Extern.next baseRow = none := Option.isNone_iff_eq_none.1 (by kernel_rfl)
theorem baseRow_door : (baseRow.startsWith "fmt's door") = true := by kernel_rfl
/-- a caller to whom nobody can come back twice -/
def base0 (P : Program) : Frame := { fn := P.funcs.size, tmps := #[], todo := [.call { target := .nil, args := #[] } false baseRow #[]], defers := [], mode := .run, kind := .normal }
section
variable [Sft] {P : Program} {B : FuncId → Bool} {RO : Nat → Prop} {ρ : Ren}

omit [Sft] in
theorem runN_go {fr fr' : Frame} {cs cs' : List Frame} {w w' : World} {es : Array Event} (h : stepG P true (G fr cs) w = .go (G fr' cs') w' es) (n : Nat) : runN P (n + 1) (lone fr cs w) = runN P n (lone fr' cs' w') := by
  have : step P (lone fr cs w) = .next (lone fr' cs' w') := step_lone_go (by
    have : stepG P true { frame := fr, callers := cs, status := .running, dying := none } w = .go (G fr' cs') w' es := h
    rw [this]; rfl)
  simp [runN, this]
omit [Sft] in
theorem runN_end {fr : Frame} {cs : List Frame} {w w' : World} {o : Outcome} {es : Array Event} (h : stepG P true (G fr cs) w = .ended o w' es) (n : Nat) (m : Machine) : runN P (n + 1) (lone fr cs w) ≠ .next m := by
  have : step P (lone fr cs w) = .ended o w' := step_lone_ended (by
    have : stepG P true { frame := fr, callers := cs, status := .running, dying := none } w = .ended o w' es := h
    rw [this]; rfl)
  simp [runN, this]
theorem Self.shape {g : Goroutine} {w : World} (h : Self P B RO [base0 P] ρ g w) : g = G g.frame g.callers := by
  obtain ⟨fr, cs, st, dy, of⟩ := g
  have h1 := h.gr.st
  have h2 := h.gr.dy
  have h3 := h.gr.of
  simp only at h1 h2 h3
  subst h1; subst h2; subst h3; rfl
/-- behind its base nobody comes back to it -/
theorem leaf_last {g : Goroutine} {w : World} (h : Self P B RO [base0 P] ρ g w) (hF : OkFns P B) (hl : Leaf [base0 P] g) {n : Nat} {fr : Frame} {w' : World} (hr : runN P n (lone g.frame g.callers w) = .next (lone fr [base0 P] w')) : n = 0 := by
  obtain ⟨fn, code, e1, _, e3, _⟩ := hF _ h.gr.top.ok
  have hcs := hl.1
  rw [hcs] at hr
  cases n with
  | zero => rfl
  | succ n =>
    exfalso
    have hmode := hl.2
    have ne : ∀ (c : Frame) (wx : World), lone c [] wx ≠ lone fr [base0 P] w' := fun c wx e => by
      have := congrArg (fun m : Machine => (m.gs[0]?).map (·.callers)) e
      simp [lone] at this
    cases e : g.frame.mode with
    | run => exact hmode e
    | panicking l =>
      have s1 : stepG P true (G g.frame [base0 P]) w = .go (G ((base0 P).raise l) []) w #[] := by
        simp [stepG, G, e, unwind, h.gr.top.defers, Frame.catches, e1]
      rw [runN_go s1] at hr
      cases n with
      | zero => simp only [runN] at hr; cases hr
      | succ n =>
        have hc : ((base0 P).raise l).catches P = true := by
          simp only [Frame.raise, base0, Frame.catches]
          rw [Array.getElem?_eq_none (Nat.le_refl _)]
          exact baseRow_door
        obtain ⟨o, wx, es, s2⟩ : ∃ o wx es, stepG P true (G ((base0 P).raise l) []) w = .ended o wx es := by
          have hm : ((base0 P).raise l).mode = .panicking l := rfl
          have hd : ((base0 P).raise l).defers = [] := rfl
          simp only [stepG, G, hm, unwind, hd, hc, if_true]
          exact ⟨_, _, _, rfl⟩
        exact runN_end s2 n _ hr
    | returning =>
      have hcase : (∃ v w1 es, stepG P true (G g.frame [base0 P]) w = .go (G ((base0 P).finish v) []) w1 es) ∨ ∃ o w1 es, stepG P true (G g.frame [base0 P]) w = .ended o w1 es := by
        cases hres : (results fn g.frame.tmps).run P w with
        | ok v w1 =>
          refine .inl ⟨v, w1, ?_⟩
          simp only [stepG, G, e, unwind, h.gr.top.defers, e1, Sem.runT_eq, hres, doReturn, h.gr.top.kind, GStep.after]
          exact ⟨_, rfl⟩
        | halt x w1 =>
          refine .inr ?_
          simp only [stepG, G, e, unwind, h.gr.top.defers, e1, Sem.runT_eq, hres]
          cases x <;> exact ⟨_, _, _, rfl⟩
      rcases hcase with ⟨v, w1, es, s1⟩ | ⟨o, w1, es, s1⟩
      · rw [runN_go s1] at hr
        cases n with
        | zero => simp only [runN] at hr; exact ne _ _ (by simpa using hr)
        | succ n =>
          have s2 : ∃ o wx es, stepG P true (G ((base0 P).finish v) []) w1 = .ended o wx es := by
            have hm : ((base0 P).finish v).mode = .run := rfl
            have ht : ((base0 P).finish v).todo = [.extern baseRow #[v]] := rfl
            simp only [stepG, G, hm, stepG.exec, ht, baseRow_next, Option.elim_none]
            exact ⟨_, _, _, rfl⟩
          obtain ⟨o, wx, es2, s2⟩ := s2
          exact runN_end s2 n _ hr
      · exact runN_end s1 n _ hr
/-- the machine's lone run is a run of own steps -/
theorem lrun_of (hz : FZ P) (hF : OkFns P B) {fr' : Frame} {w' : World} : ∀ (n : Nat) (ρ : Ren) (g : Goroutine) (w : World), Self P B RO [base0 P] ρ g w → runN P n (lone g.frame g.callers w) = .next (lone fr' [base0 P] w') →
    LRun P [base0 P] n g w (G fr' [base0 P]) w' := by
  intro n
  induction n with
  | zero =>
    intro ρ g w h hr
    have e : lone g.frame g.callers w = lone fr' [base0 P] w' := by simpa [runN] using hr
    have e1 : w = w' := congrArg Machine.world e
    have e2 : g = G fr' [base0 P] := by
      rw [h.shape]
      have := congrArg (fun m : Machine => m.gs[0]?) e
      simp only [lone, List.getElem?_toArray, List.getElem?_cons_zero, Option.some.injEq] at this
      exact this
    rw [e1, e2]
    exact .z
  | succ n ih =>
    intro ρ g w h hr
    by_cases hl : Leaf [base0 P] g
    · exact absurd (leaf_last h hF hl hr) (by omega)
    · have hs := step_sim (wL := w) (wC := w) hz hF h.gr h.wr hl true true
      cases hst : stepG P true g w with
      | go g1 w1 es =>
        obtain ⟨⟨ρ', h1⟩, _⟩ := step_same hz hF h hl hst
        refine .s hl hst (ih ρ' g1 w1 h1 ?_)
        rw [h.shape, h1.shape] at hst
        rw [runN_go hst] at hr
        exact hr
      | ended o w1 es =>
        rw [h.shape] at hst
        exact absurd hr (runN_end hst n _)
      | _ => rw [hst] at hs; exact hs.elim
/-- on every tape the call comes back: so the tree over all tapes is well-founded -/
theorem lone_tree (hz : FZ P) (hF : OkFns P B) {Q : Value → World → Prop} (hQ : ∀ v w τ, Q v (tp w τ) → Q v w) {f : FuncId} (hf : B f = true) {as : Array Value} {w0 : World}
    (hcall : ∀ τ, Calls P f as (tp w0 τ) fun e w' => match e with | .returned v => Q v w' | _ => False) (h0 : ∀ b, Sft.sh b = 0)
    (hself : WR (fun f => B f = true) P RO (fun b c => b = c ∧ RO b) w0 w0) (hargs : LR (fun f => B f = true) (fun b c => b = c ∧ RO b) as as) :
    LT P [base0 P] (LPost P Q) (G (Frame.enter P f as .normal) [base0 P]) w0 := by
  have hs : Self P B RO [base0 P] (fun b c => b = c ∧ RO b) (G (Frame.enter P f as .normal) [base0 P]) w0 :=
    ⟨fun b c h => ⟨h.1, h0 b⟩, ⟨FR.enter hF hf hargs, ⟨[], [], rfl, rfl, .nil⟩, rfl, rfl, rfl, rfl, rfl, rfl⟩, hself⟩
  refine LT.of hz hF hs (fun g w ρ τ hself => LPost.tape hQ g w ρ τ hself) fun τ => ?_
  obtain ⟨e, w', fr, hR, hcomes, hfn, hleave⟩ := hcall τ [base0 P]
  cases e with
  | returned v =>
    obtain ⟨n, hn⟩ := hcomes
    obtain ⟨hm, hd, hk, fn, hfn2, hres⟩ := hleave
    have hne : fr.mode ≠ .run := fun h => by rw [hm] at h; cases h
    exact ⟨n, _, w', lrun_of hz hF n _ _ _ (hs.tp τ) hn, ⟨rfl, hne⟩, hm, fn, v, hfn2, hres, hR⟩
  | panicked l => exact hR.elim
  | outgrown => exact hR.elim
/-- ████ A LONE CONTRACT, CARRIED INTO COMPANY ████ -/
theorem lift_call (hz : FZ P) (hF : OkFns P B) {m : Bool} {R : World → World → Prop} {S F : Foot} {Q : Value → World → Prop} {f : FuncId} (hf : B f = true) {as as' : Array Value} {w0 w : World}
    (hT : LT P [base0 P] (LPost P Q) (G (Frame.enter P f as .normal) [base0 P]) w0)
    (hw : WR (fun f => B f = true) P RO ρ w0 w) (ha : LR (fun f => B f = true) ρ as as') (hr : Ran RO S F ρ) (c : Frame) (cs : List Frame) :
    ∃ r, Priv P m R S (fun F g w => ∃ v, g = G (c.finish v) cs ∧ Told P B RO S Q F v w) r F (G (Frame.enter P f as' .normal) (c :: cs)) w :=
  lift_tree hz hF hT ρ F _ w ⟨FR.enter hF hf ha, ⟨[], [], rfl, rfl, .nil⟩, rfl, rfl, rfl, rfl, rfl, rfl⟩ hw hr
end
end Go.Proofs.Ytjplnkkcmkpkbaa
