/- Several of my texts in one: Lf11, Lf12. -/
import Derived.Test.YtjplnkkcmkpkbaaMA07
import Derived.Conc.Own
set_option linter.unusedSimpArgs false
set_option linter.unusedVariables false
/- The lift, 11: from 'on every tape it comes to its base' to a well-founded tree over all tapes. -/
namespace Go.Proofs.Ytjplnkkcmkpkbaa
/-- the world with another tape -/
def tp (w : World) (τ : Nat → Question → Nat) : World := { w with tape := τ }
theorem tp_tp (w : World) (τ τ' : Nat → Question → Nat) : tp (tp w τ) τ' = tp w τ' := rfl
theorem tp_self (w : World) : tp w w.tape = w := rfl
section
variable [Sft] {P : Program} {B : FuncId → Bool} {RO : Nat → Prop} {ρ : Ren} {bL : List Frame}

theorem CH.eq (h : Idr ρ) {l l' : List PanicEntry} (x : CH B ρ l l') : l = l' := by
  induction x with
  | nil => rfl
  | @cons e e' l l' h1 h2 h3 _ ih =>
    obtain ⟨v, r, g⟩ := e
    obtain ⟨v', r', g'⟩ := e'
    simp only at h1 h2 h3
    rw [ih, h1.eq h, h2, h3]
theorem FR.eq (h : Idr ρ) {fr fr' : Frame} (x : FR P B ρ fr fr') : fr = fr' := by
  obtain ⟨h1, _, h3, h4, _, h6, h7, h8, h9, h10, h11, h12⟩ := x
  obtain ⟨fn, tmps, todo, defers, mode, kind, ro⟩ := fr
  obtain ⟨fn', tmps', todo', defers', mode', kind', ro'⟩ := fr'
  simp only at *
  subst h1; subst h4; subst h6; subst h7; subst h9; subst h10; subst h11; subst h12
  rw [h3.eq h]
  cases h8 with
  | run => rfl
  | ret => rfl
  | pan hc => rw [hc.eq h]
theorem FL.eq (h : Idr ρ) {l l' : List Frame} (x : FL P B ρ l l') : l = l' := by
  induction x with
  | nil => rfl
  | cons h1 _ ih => rw [h1.eq h, ih]
theorem GR.eq (h : Idr ρ) {g g' : Goroutine} (x : GR P B bL bL ρ g g') : g = g' := by
  obtain ⟨h1, ⟨u, u', h2, h3, h4⟩, h5, h6, h7, h8, h9, h10⟩ := x
  obtain ⟨fr, cs, st, dy, of⟩ := g
  obtain ⟨fr', cs', st', dy', of'⟩ := g'
  simp only at *
  subst h2; subst h3; subst h5; subst h6; subst h7; subst h8; subst h9; subst h10
  rw [h1.eq h, h4.eq h]
/-- it matches itself -/
structure Self (P : Program) (B : FuncId → Bool) (RO : Nat → Prop) (bL : List Frame) (ρ : Ren) (g : Goroutine) (w : World) : Prop where
  id : Idr ρ
  gr : GR P B bL bL ρ g g
  wr : WR (fun f => B f = true) P RO ρ w w
theorem Self.tp {g : Goroutine} {w : World} (h : Self P B RO bL ρ g w) (τ : Nat → Question → Nat) : Self P B RO bL ρ g (tp w τ) := ⟨h.id, h.gr, ⟨h.wr.blk, h.wr.big, h.wr.sz, h.wr.fn, h.wr.inj, h.wr.ro, h.wr.shr⟩⟩
omit [Sft] in
theorem world_ext {w w' : World} (h1 : w.heap = w'.heap) (h2 : w.tape = w'.tape) (h3 : w.drawn = w'.drawn) (h4 : w.os = w'.os) (h5 : w.output = w'.output) : w = w' := by
  cases w; cases w'; simp only at *; subst h1; subst h2; subst h3; subst h4; subst h5; rfl
theorem step_same (hz : FZ P) (hF : OkFns P B) {g g1 : Goroutine} {w w1 : World} {es : Array Event} (h : Self P B RO bL ρ g w) (hn : ¬ Leaf bL g) (hs : stepG P true g w = .go g1 w1 es) :
    (∃ ρ', Self P B RO bL ρ' g1 w1) ∧ w.drawn ≤ w1.drawn ∧ w1.tape = w.tape ∧
    ∀ τ, (∀ d q, w.drawn ≤ d → d < w1.drawn → τ d q = w.tape d q) → ∃ es', stepG P true g (tp w τ) = .go g1 (tp w1 τ) es' := by
  have h1 := step_sim (wL := w) (wC := w) hz hF h.gr h.wr hn true true
  rw [hs] at h1
  obtain ⟨adv, h1⟩ := h1
  obtain ⟨g', w', es', ρ', e, hg, hw, he⟩ := h1 fun i q _ => rfl
  cases e
  refine ⟨⟨ρ', (he.same h.id rfl).1, hg, hw⟩, adv.1, adv.2, fun τ hτ => ?_⟩
  have h2 := step_sim (wL := w) (wC := tp w τ) hz hF h.gr (h.tp τ |>.wr.tape w.tape |> fun _ => h.wr.tape τ) hn true true
  rw [hs] at h2
  obtain ⟨_, h2⟩ := h2
  obtain ⟨g2, w2, es2, ρ2, e2, hg2, hw2, he2⟩ := h2 fun i q hi => (hτ _ q (by omega) hi).symm
  have sm := he2.same h.id rfl
  have eg := hg2.eq sm.1
  subst eg
  have ew : w2 = tp w1 τ := world_ext sm.2 he2.tape (by have := he2.dr; show w2.drawn = w1.drawn; have e3 : (tp w τ).drawn = w.drawn := rfl; omega) (he2.os.trans he2.osL.symm) (he2.out.trans he2.outL.symm)
  rw [ew] at e2
  exact ⟨es2, e2⟩

inductive LRun (P : Program) (bL : List Frame) : Nat → Goroutine → World → Goroutine → World → Prop
  | z {g : Goroutine} {w : World} : LRun P bL 0 g w g w
  | s {n : Nat} {g g1 g2 : Goroutine} {w w1 w2 : World} {es : Array Event} : ¬ Leaf bL g → stepG P true g w = .go g1 w1 es → LRun P bL n g1 w1 g2 w2 → LRun P bL (n + 1) g w g2 w2
omit [Sft] in
theorem LRun.snoc {n : Nat} {g g1 g2 : Goroutine} {w w1 w2 : World} {es : Array Event} (h : LRun P bL n g w g1 w1) (hn : ¬ Leaf bL g1) (hs : stepG P true g1 w1 = .go g2 w2 es) : LRun P bL (n + 1) g w g2 w2 := by
  induction h with
  | z => exact .s hn hs .z
  | s h1 h2 _ ih => exact .s h1 h2 (ih hn hs)
omit [Sft] in
/-- two runs from one place: the shorter is the longer's beginning -/
theorem LRun.det {n m : Nat} {g g1 g2 : Goroutine} {w w1 w2 : World} (h : LRun P bL n g w g1 w1) (k : LRun P bL m g w g2 w2) (hle : n ≤ m) : LRun P bL (m - n) g1 w1 g2 w2 := by
  induction h generalizing m with
  | z => simpa using k
  | @s n g ga gb w wa wb es h1 h2 h3 ih =>
    cases k with
    | z => omega
    | @s m _ gc _ _ wc _ es' k1 k2 k3 =>
      rw [h2] at k2
      cases k2
      rw [show m + 1 - (n + 1) = m - n by omega]
      exact ih k3 (by omega)

inductive LT (P : Program) (bL : List Frame) (Post : Goroutine → World → Prop) : Goroutine → World → Prop
  | leaf {g : Goroutine} {w : World} : Leaf bL g → Post g w → LT P bL Post g w
  | node {g : Goroutine} {w : World} : ¬ Leaf bL g → (∀ τ, (∀ d q, d < w.drawn → τ d q = w.tape d q) → ∃ g1 w1 es, stepG P true g (tp w τ) = .go g1 w1 es) →
      (∀ τ g1 w1 es, (∀ d q, d < w.drawn → τ d q = w.tape d q) → stepG P true g (tp w τ) = .go g1 w1 es → LT P bL Post g1 w1) → LT P bL Post g w

/-- a place from which the tree is not well-founded -/
structure Sick (P : Program) (B : FuncId → Bool) (RO : Nat → Prop) (bL : List Frame) (Post : Goroutine → World → Prop) where
  g : Goroutine
  w : World
  ρ : Ren
  self : Self P B RO bL ρ g w
  sick : ¬ LT P bL Post g w
variable {Post : Goroutine → World → Prop}
/-- a step on to another -/
def Sick.Next (x y : Sick P B RO bL Post) : Prop := ¬ Leaf bL x.g ∧ ∃ τ es, (∀ d q, d < x.w.drawn → τ d q = x.w.tape d q) ∧ stepG P true x.g (tp x.w τ) = .go y.g y.w es
/-- it goes no further: a base without the post, or a step that is none -/
def Sick.End (x : Sick P B RO bL Post) : Prop := (Leaf bL x.g ∧ ¬ Post x.g x.w) ∨ (¬ Leaf bL x.g ∧ ∃ τ, (∀ d q, d < x.w.drawn → τ d q = x.w.tape d q) ∧ ¬ ∃ g1 w1 es, stepG P true x.g (tp x.w τ) = .go g1 w1 es)
theorem Sick.step (hz : FZ P) (hF : OkFns P B) (x : Sick P B RO bL Post) : x.End ∨ ∃ y : Sick P B RO bL Post, x.Next y := by
  by_cases hl : Leaf bL x.g
  · exact .inl (.inl ⟨hl, fun hp => x.sick (.leaf hl hp)⟩)
  · by_cases hs : ∀ τ, (∀ d q, d < x.w.drawn → τ d q = x.w.tape d q) → ∃ g1 w1 es, stepG P true x.g (tp x.w τ) = .go g1 w1 es
    · refine .inr ?_
      by_cases hc : ∀ τ g1 w1 es, (∀ d q, d < x.w.drawn → τ d q = x.w.tape d q) → stepG P true x.g (tp x.w τ) = .go g1 w1 es → LT P bL Post g1 w1
      · exact absurd (.node hl hs hc) x.sick
      · simp only [Classical.not_forall] at hc
        obtain ⟨τ, g1, w1, es, h1, h2, h3⟩ := hc
        obtain ⟨⟨ρ', hself⟩, _⟩ := step_same hz hF (x.self.tp τ) hl h2
        exact ⟨⟨g1, w1, ρ', hself, h3⟩, hl, τ, es, h1, h2⟩
    · simp only [Classical.not_forall] at hs
      obtain ⟨τ, h1, h2⟩ := hs
      exact .inl (.inr ⟨hl, τ, h1, h2⟩)
noncomputable def Sick.nxt (x : Sick P B RO bL Post) : Sick P B RO bL Post :=
  open Classical in if h : ∃ y : Sick P B RO bL Post, x.Next y then h.choose else x
noncomputable def Sick.seq (x : Sick P B RO bL Post) : Nat → Sick P B RO bL Post
  | 0 => x
  | n + 1 => (Sick.seq x n).nxt
theorem Sick.nxt_next (hz : FZ P) (hF : OkFns P B) {x : Sick P B RO bL Post} (h : ¬ x.End) : x.Next x.nxt := by
  have : ∃ y : Sick P B RO bL Post, x.Next y := (x.step hz hF).resolve_left h
  unfold Sick.nxt
  rw [dif_pos this]
  exact this.choose_spec
theorem Sick.Next.facts (hz : FZ P) (hF : OkFns P B) {x y : Sick P B RO bL Post} (h : x.Next y) : x.w.drawn ≤ y.w.drawn ∧ (∀ d q, d < x.w.drawn → y.w.tape d q = x.w.tape d q) ∧
    ∀ τ, (∀ d q, d < y.w.drawn → τ d q = y.w.tape d q) → ∃ es, stepG P true x.g (tp x.w τ) = .go y.g (tp y.w τ) es := by
  obtain ⟨hl, τ, es, h1, h2⟩ := h
  obtain ⟨_, h3, h4, h5⟩ := step_same hz hF (x.self.tp τ) hl h2
  have h3' : x.w.drawn ≤ y.w.drawn := h3
  have h4' : y.w.tape = τ := h4
  refine ⟨h3', fun d q hd => by rw [h4']; exact h1 d q hd, fun τ' h' => ?_⟩
  exact h5 τ' fun d q _ hd => by rw [h' d q hd, h4']; rfl
/-- ████ on every tape it comes to its base, with the post: so the tree over all tapes is well-founded ████ -/
theorem LT.of (hz : FZ P) (hF : OkFns P B) {g : Goroutine} {w : World} (h : Self P B RO bL ρ g w) (hp : ∀ g w ρ τ, Self P B RO bL ρ g w → Post g (Go.Proofs.Ytjplnkkcmkpkbaa.tp w τ) → Post g w)
    (hc : ∀ τ, ∃ n g' w', LRun P bL n g (Go.Proofs.Ytjplnkkcmkpkbaa.tp w τ) g' w' ∧ Leaf bL g' ∧ Post g' w') : LT P bL Post g w := by
  refine Classical.byContradiction fun hsick => ?_
  let x0 : Sick P B RO bL Post := ⟨g, w, ρ, h, hsick⟩
  let s : Nat → Sick P B RO bL Post := Sick.seq x0
  have e0 : s 0 = x0 := rfl
  have es : ∀ n, s (n + 1) = (s n).nxt := fun n => rfl
  -- a run along the sequence
  have run : ∀ n, (∀ i, i < n → ¬ (s i).End) → ∀ τ, (∀ d q, d < (s n).w.drawn → τ d q = (s n).w.tape d q) → LRun P bL n g (tp w τ) (s n).g (tp (s n).w τ) := by
    intro n
    induction n with
    | zero => exact fun _ τ _ => .z
    | succ n ih =>
      intro hne τ hτ
      have hn := Sick.nxt_next hz hF (hne n (by omega))
      rw [← es n] at hn
      obtain ⟨f1, f2, f3⟩ := hn.facts hz hF
      obtain ⟨es', hst⟩ := f3 τ hτ
      exact (ih (fun i hi => hne i (by omega)) τ fun d q hd => (hτ d q (by omega)).trans (f2 d q hd)).snoc hn.1 hst
  have nonleaf : ∀ i, ¬ (s i).End → ¬ Leaf bL (s i).g := fun i hi => (Sick.nxt_next hz hF hi).1
  by_cases hend : ∃ n, (s n).End
  · -- the first end
    obtain ⟨n, hn, hmin⟩ : ∃ n, (s n).End ∧ ∀ i, i < n → ¬ (s i).End := by
      obtain ⟨n, hn⟩ := hend
      induction n using Nat.strongRecOn with
      | ind n ih =>
        by_cases hx : ∃ i, i < n ∧ (s i).End
        · obtain ⟨i, hi, hie⟩ := hx
          exact ih i hi hie
        · exact ⟨n, hn, fun i hi he => hx ⟨i, hi, he⟩⟩
    -- the tape on which it is seen
    obtain ⟨τ, hτ, hbad⟩ : ∃ τ, (∀ d q, d < (s n).w.drawn → τ d q = (s n).w.tape d q) ∧ ((Leaf bL (s n).g ∧ ¬ Post (s n).g (s n).w) ∨ (¬ Leaf bL (s n).g ∧ ¬ ∃ g1 w1 es, stepG P true (s n).g (tp (s n).w τ) = .go g1 w1 es)) := by
      rcases hn with hl | ⟨hl, τ, h1, h2⟩
      · exact ⟨(s n).w.tape, fun _ _ _ => rfl, .inl hl⟩
      · exact ⟨τ, h1, .inr ⟨hl, h2⟩⟩
    obtain ⟨m, g', w', hrun, hleaf, hpost⟩ := hc τ
    have hr := run n hmin τ hτ
    rcases Nat.lt_or_ge m n with hlt | hge
    · have hr' := run m (fun i hi => hmin i (by omega))
      have hm := hmin m hlt
      -- the run of m steps along the sequence is the contract's
      have hτm : ∀ d q, d < (s m).w.drawn → τ d q = (s m).w.tape d q := by
        have mono : ∀ k, m + k ≤ n → ∀ d q, d < (s m).w.drawn → d < (s (m + k)).w.drawn ∧ (s (m + k)).w.tape d q = (s m).w.tape d q := by
          intro k
          induction k with
          | zero => exact fun _ d q hd => ⟨hd, rfl⟩
          | succ k ih =>
            intro hk d q hd
            have hnx := Sick.nxt_next hz hF (hmin (m + k) (by omega))
            rw [← es] at hnx
            obtain ⟨f1, f2, _⟩ := hnx.facts hz hF
            obtain ⟨i1, i2⟩ := ih (by omega) d q hd
            exact ⟨by show d < (s (m + k + 1)).w.drawn; omega, (f2 d q i1).trans i2⟩
        intro d q hd
        obtain ⟨i1, i2⟩ := mono (n - m) (by omega) d q hd
        rw [show m + (n - m) = n by omega] at i1 i2
        exact (hτ d q i1).trans i2
      have := (hr' τ hτm).det hrun (Nat.le_refl _)
      rw [Nat.sub_self] at this
      cases this
      exact nonleaf m hm hleaf
    · have hd := hr.det hrun hge
      rcases hbad with ⟨hl, hnp⟩ | ⟨hl, hns⟩
      · generalize m - n = k at hd
        cases hd with
        | z => exact hnp (hp _ _ _ τ (s n).self hpost)
        | s h1 _ _ => exact h1 hl
      · generalize m - n = k at hd
        cases hd with
        | z => exact hl hleaf
        | s _ h2 _ => exact hns ⟨_, _, _, h2⟩
  · -- it never ends: one tape for the whole
    have hne : ∀ n, ¬ (s n).End := fun n hn => hend ⟨n, hn⟩
    have hnx : ∀ n, (s n).Next (s (n + 1)) := fun n => Sick.nxt_next hz hF (hne n)
    have mono : ∀ k n d q, d < (s n).w.drawn → d < (s (n + k)).w.drawn ∧ (s (n + k)).w.tape d q = (s n).w.tape d q := by
      intro k
      induction k with
      | zero => exact fun n d q hd => ⟨hd, rfl⟩
      | succ k ih =>
        intro n d q hd
        obtain ⟨f1, f2, _⟩ := (hnx (n + k)).facts hz hF
        obtain ⟨i1, i2⟩ := ih n d q hd
        exact ⟨by show d < (s (n + k + 1)).w.drawn; omega, (f2 d q i1).trans i2⟩
    open Classical in
    let τ : Nat → Question → Nat := fun d q => if hd : ∃ n, d < (s n).w.drawn then (s hd.choose).w.tape d q else 0
    have hτ : ∀ n d q, d < (s n).w.drawn → τ d q = (s n).w.tape d q := by
      intro n d q hd
      have hx : ∃ n, d < (s n).w.drawn := ⟨n, hd⟩
      have e1 : τ d q = (s hx.choose).w.tape d q := dif_pos hx
      have hcs := hx.choose_spec
      rw [e1]
      rcases Nat.le_total hx.choose n with hle | hle
      · have := (mono (n - hx.choose) hx.choose d q hcs).2
        rw [show hx.choose + (n - hx.choose) = n by omega] at this
        exact this.symm
      · have := (mono (hx.choose - n) n d q hd).2
        rw [show n + (hx.choose - n) = hx.choose by omega] at this
        exact this
    obtain ⟨m, g', w', hrun, hleaf, hpost⟩ := hc τ
    have := (run m (fun i _ => hne i) τ (hτ m)).det hrun (Nat.le_refl _)
    rw [Nat.sub_self] at this
    cases this
    exact nonleaf m (hne m) hleaf
end
end Go.Proofs.Ytjplnkkcmkpkbaa
/- The lift, 12: a lone contract, carried into company: 'Priv': a goroutine works on blocks of its own and reads still ones, whatever the others do beside it. -/
namespace Go.Proofs.Ytjplnkkcmkpkbaa
open Go.Conc (G)

/-- a rank: below 'mk f' lie all 'f w' -/
inductive Rk where
  | z
  | mk (f : World → Rk)
def Rk.lt (a b : Rk) : Prop := match b with
  | .z => False
  | .mk f => ∃ w, a = f w
theorem Rk.wf : WellFounded Rk.lt := ⟨fun a => by
  induction a with
  | z => exact ⟨_, fun y h => h.elim⟩
  | mk f ih => exact ⟨_, fun y ⟨w, e⟩ => e ▸ ih w⟩⟩
abbrev Foot := Nat → Prop
/-- what the others leave alone -/
structure Kp (S F : Foot) (w w1 : World) : Prop where
  own : ∀ b, S b ∨ F b → w1.heap[b]? = w.heap[b]?
  tape : w1.tape = w.tape
/-- what a private step may do -/
structure Dp (S F F' : Foot) (w1 w' : World) (es : Array Event) : Prop where
  le : ∀ b, F b → F' b
  new : ∀ b, F' b → F b ∨ (w1.heap.size ≤ b ∧ b < w'.heap.size)
  old : ∀ b, b < w1.heap.size → ¬ F b → w'.heap[b]? = w1.heap[b]?
  grow : w1.heap.size ≤ w'.heap.size
  tape : w'.tape = w1.tape
  os : w'.os = w1.os
  out : w'.output = w1.output
  evs : ∀ e ∈ es, e = ⟨.mark .noRoom, false, true⟩ ∨ (∃ a wr, e = ⟨.cell a, wr, false⟩ ∧ (S a.block ∨ F' a.block) ∧ (wr = true → F' a.block)) ∨ ∃ c, e = ⟨.obj c, false, false⟩ ∧ (S c ∨ F' c)
def Priv (P : Program) (m : Bool) (R : World → World → Prop) (S : Foot) (Stop : Foot → Goroutine → World → Prop) : Rk → Foot → Goroutine → World → Prop
  | .z, F, g, w => ∀ w1, R w w1 → Kp S F w w1 → Stop F g w1
  | .mk f, F, g, w => (∀ w1, R w w1 → Kp S F w w1 → Stop F g w1) ∨ (g.status = .running ∧ ∀ w1, R w w1 → Kp S F w w1 → ∃ g' w' es F', stepG P m g w1 = .go g' w' es ∧ Dp S F F' w1 w' es ∧ Priv P m R S Stop (f w1) F' g' w')

section
variable [Sft] {P : Program} {B : FuncId → Bool} {RO : Nat → Prop} {ρ : Ren} {bL : List Frame} {c : Frame} {cs : List Frame}

/-- the pairs lie in the still blocks or in one's own -/
def Ran (RO : Nat → Prop) (S F : Foot) (ρ : Ren) : Prop := ∀ b c, ρ b c → (RO b → S c) ∧ (¬ RO b → F c)
omit [Sft] in
theorem Ran.in {S F : Foot} (h : Ran RO S F ρ) {b c : Nat} (k : ρ b c) : S c ∨ F c := by
  by_cases hr : RO b
  · exact .inl ((h b c k).1 hr)
  · exact .inr ((h b c k).2 hr)
theorem WR.kept {S F : Foot} {wL w w1 : World} (h : WR (fun f => B f = true) P RO ρ wL w) (hr : Ran RO S F ρ) (hk : Kp S F w w1) : WR (fun f => B f = true) P RO ρ wL w1 :=
  ⟨fun b c hb => by rw [hk.own c (hr.in hb)]; exact h.blk b c hb, h.big, h.sz, h.fn, h.inj, h.ro, h.shr⟩
/-- what is held of the machine's world behind a call that is carried over: a lone world that matches, of which the contract speaks -/
def Told (P : Program) (B : FuncId → Bool) (RO : Nat → Prop) (S : Foot) (Q : Value → World → Prop) (F : Foot) (v : Value) (w : World) : Prop :=
  ∃ (ρ : Ren) (wL : World) (vL : Value), Q vL wL ∧ WR (fun f => B f = true) P RO ρ wL w ∧ VR (fun f => B f = true) ρ vL v ∧ Ran RO S F ρ
theorem Told.kept {S F : Foot} {Q : Value → World → Prop} {v : Value} {w w1 : World} (h : Told P B RO S Q F v w) (hk : Kp S F w w1) : Told P B RO S Q F v w1 := by
  obtain ⟨ρ, wL, vL, h1, h2, h3, h4⟩ := h
  exact ⟨ρ, wL, vL, h1, h2.kept h4 hk, h3, h4⟩
/-- the lone contract's end -/
def LPost (P : Program) (Q : Value → World → Prop) (g : Goroutine) (w : World) : Prop := g.frame.mode = .returning ∧ ∃ fn v, P.funcs[g.frame.fn]? = some fn ∧ (results fn g.frame.tmps).run P w = .ok v w ∧ Q v w
theorem LPost.tape {Q : Value → World → Prop} (hQ : ∀ v w τ, Q v (tp w τ) → Q v w) (g : Goroutine) (w : World) (ρ : Ren) (τ : Nat → Question → Nat) (hs : Self P B RO bL ρ g w) (h : LPost P Q g (tp w τ)) : LPost P Q g w := by
  obtain ⟨h1, fn, v, h2, h3, h4⟩ := h
  refine ⟨h1, fn, v, h2, ?_, hQ _ _ _ h4⟩
  have hw : WR (fun f => B f = true) P RO ρ (tp w τ) w := (hs.tp τ).wr.tape w.tape
  have := SR.results (P := P) (RO := RO) fn hs.gr.top.tmps (tp w τ) w #[] hw
  rw [h3] at this
  obtain ⟨b, wC', ρ', es', e, hw', he, hv⟩ := this.2 fun i q hi => by
    have : (tp w τ).drawn = w.drawn := rfl
    omega
  have sm := he.same hs.id rfl
  have ew : wC' = w := world_ext sm.2 he.tape (by have := he.dr; have e3 : (tp w τ).drawn = w.drawn := rfl; omega) (he.os) (he.out)
  rw [Sem.runT_eq] at e
  simp only [Prod.mk.injEq] at e
  rw [e.1, ew, hv.eq sm.1]

theorem lift_tree (hz : FZ P) (hF : OkFns P B) {m : Bool} {R : World → World → Prop} {S : Foot} {Q : Value → World → Prop} {gL : Goroutine} {wL : World} (hT : LT P bL (LPost P Q) gL wL) :
    ∀ (ρ : Ren) (F : Foot) (g : Goroutine) (w : World), GR P B bL (c :: cs) ρ gL g → WR (fun f => B f = true) P RO ρ wL w → Ran RO S F ρ →
      ∃ r, Priv P m R S (fun F g w => ∃ v, g = G (c.finish v) cs ∧ Told P B RO S Q F v w) r F g w := by
  induction hT with
  | @leaf gL wL hl hp =>
    intro ρ F g w hg hw hr
    refine ⟨.mk fun _ => .z, .inr ⟨hg.st', fun w1 _ hk => ?_⟩⟩
    have hw1 := hw.kept hr hk
    obtain ⟨hmode, fn, v, hfn, hres, hq⟩ := hp
    -- the machine's goroutine stands at its base too
    obtain ⟨fr, cl, st, dy, of⟩ := gL
    obtain ⟨fr', cl', st', dy', of'⟩ := g
    obtain ⟨htop, ⟨u, u', hu1, hu2, hu⟩, h1, h2, h3, h4, _, _⟩ := hg
    simp only at htop hu1 hu2 h1 h2 h3 h4 hmode hfn hres
    have hu0 : u = [] := by
      have : cl = bL := hl.1
      rw [this] at hu1
      have := congrArg List.length hu1
      simp at this
      exact this
    subst hu0
    cases hu
    simp only [List.nil_append] at hu2
    subst hu2; subst h4
    have hm' : fr'.mode = .returning := by
      have := htop.mode
      rw [hmode] at this
      cases e : fr'.mode <;> rw [e] at this <;> cases this <;> rfl
    have h5 := SR.results (P := P) (RO := RO) fn htop.tmps wL w1 #[] hw1
    rw [hres] at h5
    obtain ⟨v', wC', ρ', es', e2, hw', he, hv⟩ := h5.2 fun i q hi => by omega
    rw [Sem.runT_eq] at e2
    simp only [Prod.mk.injEq] at e2
    have hF' : Ran RO S (fun b => F b ∨ (w1.heap.size ≤ b ∧ b < wC'.heap.size)) ρ' := by
      intro b d hbd
      rcases he.new b d hbd with h | ⟨h6, h7⟩
      · exact ⟨(hr b d h).1, fun hn => .inl ((hr b d h).2 hn)⟩
      · refine ⟨fun hro => ?_, fun _ => .inr ⟨h7, ?_⟩⟩
        · have := hw.ro b hro; omega
        · rcases hw'.blk b d hbd with ⟨_, _, _, _, _, _, _, k, _⟩ | ⟨_, _, _, _, k, _⟩ <;> exact (Array.getElem?_eq_some_iff.1 k).1
    refine ⟨G (c.finish v') cs, wC', seen P fr'.fn es', fun b => F b ∨ (w1.heap.size ≤ b ∧ b < wC'.heap.size), ?_, ?_, ?_⟩
    · have e3 : unwind P m fr' (c :: cs) none w1 = .go (G (c.finish v') cs) wC' (seen P fr'.fn es') := by
        simp only [unwind, htop.defers', hm', htop.fn, hfn, Sem.runT_eq, e2.1, doReturn, htop.kind', GStep.after, G]
        simp only [e2.2]
        simp
      rw [← e3]
      simp only [stepG, hm']
    · refine ⟨fun b hb => .inl hb, fun b hb => hb, fun b hb hn => he.old b hb fun d hd => Classical.byContradiction fun hro => hn ((hr d b hd).2 hro), he.grow, he.tape, he.os, he.out, fun e hee => ?_⟩
      have hin := seen_sub _ _ e hee
      rcases he.evs e hin with h | ⟨a, b, wr, h6, h7, h8⟩ | ⟨b, d, h6, h7⟩
      · exact .inl h
      · exact .inr (.inl ⟨a, wr, h6, hF'.in h7, fun hwr => (hF' b _ h7).2 (h8 hwr)⟩)
      · exact .inr (.inr ⟨d, h6, hF'.in h7⟩)
    · exact fun w2 _ hk2 => ⟨v', rfl, Told.kept ⟨ρ', wL, v, hq, hw', hv, hF'⟩ hk2⟩
  | @node gL wL hnl hgo _ ih =>
    intro ρ F g w hg hw hr
    have key : ∀ w1, R w w1 → Kp S F w w1 → ∃ g' w' es F' r, stepG P m g w1 = .go g' w' es ∧ Dp S F F' w1 w' es ∧ Priv P m R S (fun F g w => ∃ v, g = G (c.finish v) cs ∧ Told P B RO S Q F v w) r F' g' w' := by
      intro w1 _ hk
      have hw1 := hw.kept hr hk
      let τ : Nat → Question → Nat := fun d q => if d < wL.drawn then wL.tape d q else w1.tape (w1.drawn + (d - wL.drawn)) q
      have hτ : ∀ d q, d < wL.drawn → τ d q = wL.tape d q := fun d q hd => if_pos hd
      obtain ⟨g1, wL1, es0, hst⟩ := hgo τ hτ
      have hwt : WR (fun f => B f = true) P RO ρ (tp wL τ) w1 := ⟨hw1.blk, hw1.big, hw1.sz, hw1.fn, hw1.inj, hw1.ro, hw1.shr⟩
      have hs := step_sim (m := true) (m' := m) hz hF hg hwt hnl
      rw [hst] at hs
      obtain ⟨adv, hs⟩ := hs
      obtain ⟨g', w', es, ρ', e, hg', hw', he⟩ := hs fun i q _ => by
        show τ (wL.drawn + i) q = w1.tape (w1.drawn + i) q
        have : ¬ (wL.drawn + i < wL.drawn) := by omega
        simp only [τ, this, if_false]
        congr 1
        omega
      have hF' : Ran RO S (fun b => F b ∨ (w1.heap.size ≤ b ∧ b < w'.heap.size)) ρ' := by
        intro b d hbd
        rcases he.new b d hbd with h | ⟨h6, h7⟩
        · exact ⟨(hr b d h).1, fun hn => .inl ((hr b d h).2 hn)⟩
        · refine ⟨fun hro => ?_, fun _ => .inr ⟨h7, ?_⟩⟩
          · have := hw.ro b hro
            have h8 : wL.heap.size ≤ b := h6
            omega
          · rcases hw'.blk b d hbd with ⟨_, _, _, _, _, _, _, k, _⟩ | ⟨_, _, _, _, k, _⟩ <;> exact (Array.getElem?_eq_some_iff.1 k).1
      obtain ⟨r, hpr⟩ := ih τ g1 wL1 es0 hτ hst ρ' (fun b => F b ∨ (w1.heap.size ≤ b ∧ b < w'.heap.size)) g' w' hg' hw' hF'
      refine ⟨g', w', es, _, r, e, ⟨fun b hb => .inl hb, fun b hb => hb, fun b hb hn => he.old b hb fun d hd => Classical.byContradiction fun hro => hn ((hr d b hd).2 hro), he.grow, he.tape, he.os, he.out, fun e hee => ?_⟩, hpr⟩
      rcases he.evs e hee with h | ⟨a, b, wr, h6, h7, h8⟩ | ⟨b, d, h6, h7⟩
      · exact .inl h
      · exact .inr (.inl ⟨a, wr, h6, hF'.in h7, fun hwr => (hF' b _ h7).2 (h8 hwr)⟩)
      · exact .inr (.inr ⟨d, h6, hF'.in h7⟩)
    have : ∀ w1, ∃ r, R w w1 → Kp S F w w1 → ∃ g' w' es F', stepG P m g w1 = .go g' w' es ∧ Dp S F F' w1 w' es ∧ Priv P m R S (fun F g w => ∃ v, g = G (c.finish v) cs ∧ Told P B RO S Q F v w) r F' g' w' := by
      intro w1
      by_cases h1 : R w w1 ∧ Kp S F w w1
      · obtain ⟨g', w', es, F', r, h⟩ := key w1 h1.1 h1.2
        exact ⟨r, fun _ _ => ⟨g', w', es, F', h⟩⟩
      · exact ⟨.z, fun h2 h3 => absurd ⟨h2, h3⟩ h1⟩
    exact ⟨.mk fun w1 => (this w1).choose, .inr ⟨hg.st', fun w1 h1 h2 => (this w1).choose_spec h1 h2⟩⟩
end
end Go.Proofs.Ytjplnkkcmkpkbaa
