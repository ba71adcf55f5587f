/- Several of my texts in one: Mn1, Lf10. -/
import Derived.Conc.CrowdStepC2
import Derived.Conc.Beside
import Derived.Test.YtjplnkkcmkpkbaaMA06
set_option linter.unusedSimpArgs false
set_option linter.unusedVariables false
/- The machine, 1: the trace of one call of many.Run: workers with places of their own that are granted as the run goes; still places that all read; shared places that nobody touches plainly; earlier goroutines that are only leaving. -/
namespace Go.Proofs.Ytjplnkkcmkpkbaa
open Go.Conc Go.ConcN
open Go.ConcR (g_of_ofEvents)

section
variable (Shun Sh LowL : Loc → Prop) (j0 : Nat)
structure TR (j : Nat) (OT : Nat → Loc → Prop) (t : Trace) : Prop where
  quiet : Quiet Sh t
  own : ∀ i, i < j → ∀ l, OT i l → Perm t (j0 + i + 1) l
  rd : ∀ i, i < j → ∀ l, LowL l → PermW t (j0 + i + 1) l
  mine : ∀ l, LowL l → PermW t 0 l
  past : ∀ (x : Nat) (a : Touch) (op : MemOp), t[x]? = some op → op.act.touch? = some a → a.loc.isMemory = true → op.g ≤ j0 → Knows t 0 x ∨ (Shun a.loc ∧ a.kind = .atomic)
  wk : ∀ (x : Nat) (a : Touch) (op : MemOp), t[x]? = some op → op.act.touch? = some a → j0 < op.g → a.kind = .atomic → Sh a.loc
  nr : ∀ said, ¬ Race said t
  gs : ∀ (x : Nat) (op : MemOp), t[x]? = some op → op.g ≤ j0 + j
  over0 : ∀ x g, t.g? x = some g → g ≠ 0 → g ≤ j0 → t.counts x → ∃ q, t.g? q = some 0 ∧ HappensBefore t x q
/-- the families lie apart -/
structure Apt (OT : Nat → Loc → Prop) : Prop where
  own : ∀ i i' l, OT i l → OT i' l → i = i'
  sh : ∀ i l, OT i l → ¬ Sh l
  low : ∀ i l, OT i l → ¬ LowL l
  lowSh : ∀ l, LowL l → ¬ Sh l
def OkM (op : MemOp) : Prop := op.g = 0 ∧ ∀ x, op.act.touch? = some x → (Sh x.loc ∧ x.kind ≠ .plain) ∨ (LowL x.loc ∧ x.write = false)
def OkK (OT : Nat → Loc → Prop) (i : Nat) (op : MemOp) : Prop :=
  op.g = j0 + i + 1 ∧ ∀ x, op.act.touch? = some x → (Sh x.loc ∧ x.kind = .atomic) ∨ (OT i x.loc ∧ x.kind = .plain) ∨ (LowL x.loc ∧ x.write = false ∧ x.kind = .plain)
end

section
variable {Shun Sh LowL : Loc → Prop} {j0 j : Nat} {OT : Nat → Loc → Prop} {t u : Trace}

theorem over_app (h : ∀ x g, t.g? x = some g → g ≠ 0 → g ≤ j0 → t.counts x → ∃ q, t.g? q = some 0 ∧ HappensBefore t x q)
    (hu : ∀ op ∈ u, op.g = 0 ∨ j0 < op.g ∨ op.act.touch? = none) : ∀ x g, (t ++ u).g? x = some g → g ≠ 0 → g ≤ j0 → (t ++ u).counts x → ∃ q, (t ++ u).g? q = some 0 ∧ HappensBefore (t ++ u) x q := by
  intro x g hg hne hle hc
  obtain ⟨op, ho, hog⟩ := Option.map_eq_some_iff.1 hg
  rcases getElem?_append_cases ho with ⟨hlt, ho'⟩ | ⟨_, hou⟩
  · obtain ⟨q, hq, hb⟩ := h x g (by rw [← g?_old (u := u) hlt]; exact hg) hne hle ((counts_old hlt).1 hc)
    have hqt : q < t.size := by
      obtain ⟨z, hz, _⟩ := Option.map_eq_some_iff.1 hq
      exact lt_size_of_getElem? hz
    exact ⟨q, by rw [g?_old hqt]; exact hq, hb_app u hb⟩
  · rcases hu op hou with h0 | h0 | h0
    · exact absurd (hog.symm.trans h0) hne
    · omega
    · obtain ⟨a, ha, _⟩ := hc
      simp [Trace.act?, ho, h0] at ha
theorem past_app (h : ∀ (x : Nat) (a : Touch) (op : MemOp), t[x]? = some op → op.act.touch? = some a → a.loc.isMemory = true → op.g ≤ j0 → Knows t 0 x ∨ (Shun a.loc ∧ a.kind = .atomic))
    (hu : ∀ op ∈ u, op.g = 0 ∨ j0 < op.g ∨ op.act.touch? = none) : ∀ (x : Nat) (a : Touch) (op : MemOp), (t ++ u)[x]? = some op → op.act.touch? = some a → a.loc.isMemory = true → op.g ≤ j0 → Knows (t ++ u) 0 x ∨ (Shun a.loc ∧ a.kind = .atomic) := by
  intro x a op ho ha hm hle
  rcases getElem?_append_cases ho with ⟨_, ho'⟩ | ⟨_, hou⟩
  · exact (h x a op ho' ha hm hle).imp (·.app u) id
  · rcases hu op hou with h0 | h0 | h0
    · have := knows_own ho
      rw [h0] at this
      exact .inl this
    · omega
    · rw [h0] at ha; cases ha

theorem TR.appM (A : Apt Sh LowL OT) (h : TR Shun Sh LowL j0 j OT t) (hu : ∀ op ∈ u, OkM Sh LowL op) : TR Shun Sh LowL j0 j OT (t ++ u) := by
  refine ⟨h.quiet.app fun op hop x hx hs => ?_, fun i hi l hl => (h.own i hi l hl).app fun op hop b hb e => ?_, fun i hi l hl => (h.rd i hi l hl).app fun op hop b hb e hw => ?_,
    fun l hl => (h.mine l hl).app fun op hop _ _ _ _ => (hu op hop).1, past_app h.past fun op hop => .inl (hu op hop).1, fun x a op ho ha hg hk => ?_, fun said => ?_, fun x op ho => ?_, over_app h.over0 fun op hop => .inl (hu op hop).1⟩
  · rcases (hu op hop).2 x hx with ⟨_, hk⟩ | ⟨hl, _⟩
    · exact ⟨hk, fun _ => (hu op hop).1⟩
    · exact absurd hs (A.lowSh _ hl)
  · rcases (hu op hop).2 b hb with ⟨hs, _⟩ | ⟨hw, _⟩
    · exact absurd (e ▸ hs) (A.sh i l hl)
    · exact absurd (e ▸ hw) (A.low i l hl)
  · rcases (hu op hop).2 b hb with ⟨hs, _⟩ | ⟨_, hr⟩
    · exact absurd (e ▸ hs) (A.lowSh l hl)
    · rw [hr] at hw; cases hw
  · rcases getElem?_append_cases ho with ⟨_, ho'⟩ | ⟨_, hou⟩
    · exact h.wk x a op ho' ha hg hk
    · have := (hu op hou).1; omega
  · refine noRace_append (h.nr said) (fun op hop => (hu op hop).1) (fun i a ha op hop b hb hc => ?_)
    rcases (hu op hop).2 b hb with ⟨hs, hk⟩ | ⟨hl, hw⟩
    · exact h.quiet.known hs hk (fun _ => rfl) i a ha hc
    · exact h.mine b.loc hl i a ha hc.1 (hc.2.2.1.resolve_right (by simp [hw]))
  · rcases getElem?_append_cases ho with ⟨_, ho'⟩ | ⟨_, hou⟩
    · exact h.gs x op ho'
    · rw [(hu op hou).1]; exact Nat.zero_le _

theorem TR.appK (A : Apt Sh LowL OT) (h : TR Shun Sh LowL j0 j OT t) {i : Nat} (hi : i < j) (hu : ∀ op ∈ u, OkK Sh LowL j0 OT i op) : TR Shun Sh LowL j0 j OT (t ++ u) := by
  have far : ∀ op ∈ u, op.g = 0 ∨ j0 < op.g ∨ op.act.touch? = none := fun op hop => .inr (.inl (by rw [(hu op hop).1]; omega))
  refine ⟨h.quiet.app fun op hop x hx hs => ?_, fun i' hi' l hl => (h.own i' hi' l hl).app fun op hop b hb e => ?_, fun i' hi' l hl => (h.rd i' hi' l hl).app fun op hop b hb e hw => ?_,
    fun l hl => (h.mine l hl).app fun op hop b hb e hw => ?_, past_app h.past far, fun x a op ho ha hg hk => ?_, fun said => ?_, fun x op ho => ?_, over_app h.over0 far⟩
  · rcases (hu op hop).2 x hx with ⟨_, hk⟩ | ⟨ho, _⟩ | ⟨hl, _⟩
    · rw [hk]; exact ⟨by simp, fun e => by cases e⟩
    · exact absurd hs (A.sh i _ ho)
    · exact absurd hs (A.lowSh _ hl)
  · rcases (hu op hop).2 b hb with ⟨hs, _⟩ | ⟨ho, _⟩ | ⟨hw, _⟩
    · exact absurd (e ▸ hs) (A.sh i' l hl)
    · rw [(hu op hop).1, A.own i i' l (e ▸ ho) hl]
    · exact absurd (e ▸ hw) (A.low i' l hl)
  · rcases (hu op hop).2 b hb with ⟨hs, _⟩ | ⟨ho, _⟩ | ⟨_, hr, _⟩
    · exact absurd (e ▸ hs) (A.lowSh l hl)
    · exact absurd hl (A.low i l (e ▸ ho))
    · rw [hr] at hw; cases hw
  · rcases (hu op hop).2 b hb with ⟨hs, _⟩ | ⟨ho, _⟩ | ⟨_, hr, _⟩
    · exact absurd (e ▸ hs) (A.lowSh l hl)
    · exact absurd hl (A.low i l (e ▸ ho))
    · rw [hr] at hw; cases hw
  · rcases getElem?_append_cases ho with ⟨_, ho'⟩ | ⟨_, hou⟩
    · exact h.wk x a op ho' ha hg hk
    · rcases (hu op hou).2 a ha with ⟨hs, _⟩ | ⟨_, hp⟩ | ⟨_, _, hp⟩
      · exact hs
      · rw [hp] at hk; cases hk
      · rw [hp] at hk; cases hk
  · refine noRace_append (h.nr said) (fun op hop => (hu op hop).1) (fun i' a ha op hop b hb hc => ?_)
    rcases (hu op hop).2 b hb with ⟨hs, hk⟩ | ⟨ho, _⟩ | ⟨hr, hbw, _⟩
    · exact h.quiet.known hs (by rw [hk]; simp) (fun e => by rw [hk] at e; cases e) i' a ha hc
    · exact h.own i hi b.loc ho i' a ha hc.1
    · exact h.rd i hi b.loc hr i' a ha hc.1 (hc.2.2.1.resolve_right (by simp [hbw]))
  · rcases getElem?_append_cases ho with ⟨_, ho'⟩ | ⟨_, hou⟩
    · exact h.gs x op ho'
    · rw [(hu op hou).1]; omega

/-- operations that touch nothing (a leaver's; a communication's) -/
theorem TR.appMute (h : TR Shun Sh LowL j0 j OT t) {g : Nat} (hg : g ≤ j0 + j) (hu : ∀ op ∈ u, op.g = g) (hn : ∀ op ∈ u, op.act.touch? = none) : TR Shun Sh LowL j0 j OT (t ++ u) := by
  have no : ∀ op ∈ u, ∀ b, op.act.touch? = some b → False := fun op hop b hb => by rw [hn op hop] at hb; cases hb
  refine ⟨h.quiet.app fun op hop x hx _ => (no op hop x hx).elim, fun i hi l hl => (h.own i hi l hl).app fun op hop b hb _ => (no op hop b hb).elim, fun i hi l hl => (h.rd i hi l hl).app fun op hop b hb _ _ => (no op hop b hb).elim,
    fun l hl => (h.mine l hl).app fun op hop b hb _ _ => (no op hop b hb).elim, past_app h.past fun op hop => .inr (.inr (hn op hop)), fun x a op ho ha hg hk => ?_, fun said => ?_, fun x op ho => ?_, over_app h.over0 fun op hop => .inr (.inr (hn op hop))⟩
  · rcases getElem?_append_cases ho with ⟨_, ho'⟩ | ⟨_, hou⟩
    · exact h.wk x a op ho' ha hg hk
    · exact (no op hou a ha).elim
  · exact noRace_append (h.nr said) hu (fun i' a ha op hop b hb hc => (no op hop b hb).elim)
  · rcases getElem?_append_cases ho with ⟨_, ho'⟩ | ⟨_, hou⟩
    · exact h.gs x op ho'
    · rw [hu op hou]; exact hg

/-- places that nobody has touched may be granted -/
theorem TR.grant {OT' : Nat → Loc → Prop} (h : TR Shun Sh LowL j0 j OT t) (hn : ∀ i l, OT' i l → OT i l ∨ ∀ x a, touchAt t x = some a → a.loc ≠ l) : TR Shun Sh LowL j0 j OT' t :=
  ⟨h.quiet, fun i hi l hl => by
    rcases hn i l hl with ho | hno
    · exact h.own i hi l ho
    · exact fun x a ha e => absurd e (hno x a ha), h.rd, h.mine, h.past, h.wk, h.nr, h.gs, h.over0⟩

/-- the go statement -/
theorem TR.fork (h : TR Shun Sh LowL j0 j OT t) (hno : ∀ l, ¬ OT j l) {x y : MemOp} (hx : x.g = 0 ∧ x.act = .go (j0 + j + 1)) (hy : y.g = j0 + j + 1 ∧ y.act = .start) (h0 : Deaf t 0 = 0) : TR Shun Sh LowL j0 (j + 1) OT (t ++ #[x, y]) := by
  have hk : Deaf t (j0 + j + 1) = 0 := Deaf_absent fun i op hi e => by have := h.gs i op hi; omega
  have hm : ∀ op ∈ #[x, y], op = x ∨ op = y := by intro op hop; simpa using hop
  have hnt : ∀ op ∈ #[x, y], op.act.touch? = none := by
    intro op hop
    rcases hm op hop with rfl | rfl
    · rw [hx.2]; rfl
    · rw [hy.2]; rfl
  have no : ∀ op ∈ #[x, y], ∀ b, op.act.touch? = some b → False := fun op hop b hb => by rw [hnt op hop] at hb; cases hb
  have old : ∀ {i : Nat} {a : Touch}, touchAt (t ++ #[x, y]) i = some a → touchAt t i = some a := by
    intro i a ha
    obtain ⟨z, hz, hza⟩ := touch_of ha
    rcases getElem?_append_cases hz with ⟨_, hz'⟩ | ⟨_, hzu⟩
    · rw [touchAt_of hz']; exact hza
    · exact (no z hzu a hza).elim
  refine ⟨h.quiet.app fun op hop b hb _ => (no op hop b hb).elim, fun i hi l hl => ?_, fun i hi l hl => ?_, fun l hl => (h.mine l hl).app fun op hop b hb _ _ => (no op hop b hb).elim, past_app h.past fun op hop => .inr (.inr (hnt op hop)), fun z a op ho ha hg hk' => ?_, fun said => ?_, fun z op ho => ?_, over_app h.over0 fun op hop => .inr (.inr (hnt op hop))⟩
  · rcases Nat.lt_or_ge i j with hlt | hge
    · exact (h.own i hlt l hl).app fun op hop b hb _ => (no op hop b hb).elim
    · obtain rfl : i = j := by omega
      exact absurd hl (hno l)
  · rcases Nat.lt_or_ge i j with hlt | hge
    · exact (h.rd i hlt l hl).app fun op hop b hb _ _ => (no op hop b hb).elim
    · obtain rfl : i = j := by omega
      exact fun z a ha e hw => fork_knows hx hy h0 hk (h.mine l hl z a (old ha) e hw)
  · rcases getElem?_append_cases ho with ⟨_, ho'⟩ | ⟨_, hou⟩
    · exact h.wk z a op ho' ha hg hk'
    · exact (no op hou a ha).elim
  · have e : t ++ #[x, y] = (t ++ #[x]) ++ #[y] := by apply Array.ext'; simp
    rw [e]
    refine noRace_append (g := j0 + j + 1) (noRace_append (g := 0) (h.nr said) (fun op hop => by simp at hop; rw [hop]; exact hx.1) (fun i a _ op hop b hb _ => (no op (by simp at hop ⊢; exact .inl hop) b hb).elim))
      (fun op hop => by simp at hop; rw [hop]; exact hy.1) (fun i a _ op hop b hb _ => (no op (by simp at hop ⊢; exact .inr hop) b hb).elim)
  · rcases getElem?_append_cases ho with ⟨_, ho'⟩ | ⟨_, hou⟩
    · have := h.gs z op ho'; omega
    · rcases hm op hou with rfl | rfl
      · rw [hx.1]; exact Nat.zero_le _
      · rw [hy.1]; omega

/-- the beginning: nobody is started yet -/
theorem TR.begin {B : Nat} (h : Past Shun B t) (hgs : ∀ (x : Nat) (op : MemOp), t[x]? = some op → op.g ≤ j0) (hlow : ∀ l, LowL l → ¬ Shun l ∧ l.isMemory = true) (hq : ∀ x a, touchAt t x = some a → ¬ Sh a.loc) : TR Shun Sh LowL j0 0 OT t := by
  refine ⟨fun x op a ho ha hs => absurd hs (hq x a (by rw [touchAt_of ho]; exact ha)), fun i hi => by omega, fun i hi => by omega, fun l hl x a ha e _ => ?_, fun x a op ho ha hm _ => ?_, fun x a op ho ha hg => ?_, h.clean, fun x op ho => by have := hgs x op ho; omega, fun x g hg hne _ hc => h.over x g hg hne hc⟩
  · have hmem : a.loc.isMemory = true := by rw [e]; exact (hlow l hl).2
    exact (h.known x a ha hmem).resolve_right fun hs => (hlow l hl).1 (e ▸ hs.1)
  · exact h.known x a (by rw [touchAt_of ho]; exact ha) hm
  · have := hgs x op ho; omega

/-- the end: all are joined -/
theorem TR.join (h : TR Shun Sh LowL j0 j OT t) {a : Addr} {B q : Nat} (hn : NoRelease a t) (hq : t.act? q = some (.mark (.acquire a))) (hg : t.g? q = some 0) (hh : t.heard q) (hr : ∀ i, i < j → ∃ r, RelBy a t (j0 + i + 1) r ∧ r < q)
    (hd : Deaf t 0 = 0) (hs : ∀ op ∈ t, op.act.low B) : Past (fun l => Shun l ∨ Sh l) B t := by
  -- a worker's touch is known, or atomic and deaf
  have wkr : ∀ x op, t[x]? = some op → j0 < op.g → (∃ r, r < q ∧ x ≤ r ∧ t.g? r = some op.g ∧ HappensBefore t r q) ∨ ¬ t.counts x := by
    intro x op ho hgt
    have hle := h.gs x op ho
    obtain ⟨r, hrel, hrq⟩ := hr (op.g - j0 - 1) (by omega)
    have eg : j0 + (op.g - j0 - 1) + 1 = op.g := by omega
    rw [eg] at hrel
    rcases Nat.lt_or_ge r x with hlt | hge
    · exact .inr (hrel.after x hlt (by simp [Trace.g?, ho]))
    · exact .inl ⟨r, hrq, hge, hrel.g, .single (.inr ⟨.marked hrq (.inr hrel.act) hq (fun k _ _ => hn k), hrel.heard, hh⟩)⟩
  obtain ⟨zq, hzq, hzg⟩ := Option.map_eq_some_iff.1 hg
  have viaq : ∀ x r g, x ≤ r → t.g? x = some g → t.g? r = some g → HappensBefore t r q → HappensBefore t x q := by
    intro x r g hle hx hrg hb
    rcases Nat.lt_or_ge x r with hlt | hge
    · exact .trans (.single (.inl ⟨hlt, g, hx, hrg⟩)) hb
    · obtain rfl : x = r := by omega
      exact hb
  refine ⟨h.nr, fun x b hb hm => ?_, fun x g hgx hne hc => ?_, hd, hs⟩
  · obtain ⟨op, ho, hob⟩ := touch_of hb
    rcases Nat.lt_or_ge j0 op.g with hgt | hle
    · rcases wkr x op ho hgt with ⟨r, hrq, hxr, hrg, hbq⟩ | hnc
      · exact .inl ⟨q, zq, hzq, hzg, .inr (viaq x r op.g hxr (by simp [Trace.g?, ho]) hrg hbq)⟩
      · have hk : b.kind = .atomic := Classical.byContradiction fun hk => hnc ⟨b, hb, hm, .inl hk⟩
        exact .inr ⟨.inr (h.wk x b op ho hob hgt hk), hk⟩
    · exact (h.past x b op ho hob hm hle).imp id fun k => ⟨.inl k.1, k.2⟩
  · obtain ⟨op, ho, hog⟩ := Option.map_eq_some_iff.1 hgx
    rcases Nat.lt_or_ge j0 op.g with hgt | hle
    · rcases wkr x op ho hgt with ⟨r, hrq, hxr, hrg, hbq⟩ | hnc
      · exact ⟨q, hg, viaq x r op.g hxr (by simp [Trace.g?, ho]) hrg hbq⟩
      · exact absurd hc hnc
    · exact h.over0 x g hgx hne (by omega) hc
end
end Go.Proofs.Ytjplnkkcmkpkbaa
/- The lift, 10: whatever step of a goroutine that has not come to its base yet. -/
namespace Go.Proofs.Ytjplnkkcmkpkbaa
section
variable [Sft] {P : Program} {B : FuncId → Bool} {RO : Nat → Prop} {ρ : Ren} {bL bC : List Frame} {wL wC : World}

omit [Sft] in
theorem get_ok {ops : Array Oper} (h : (ops.toList.all fun o => okOp P B o.op) = true) {i : Nat} {o : Oper} (e : ops[i]? = some o) : okOp P B o.op = true :=
  List.all_eq_true.1 h o (Array.mem_toList_iff.2 (Array.mem_of_getElem? e))
set_option maxHeartbeats 1000000 in
theorem exec_sim (hz : FZ P) (hF : OkFns P B) {fr fr' : Frame} {u u' : List Frame} (h : FR P B ρ fr fr') (hu : FL P B ρ u u') (hw : WR (fun f => B f = true) P RO ρ wL wC) (hm : fr.mode = .run) (m m' : Bool) :
    StR P B RO bL bC ρ wL wC (stepG.exec P m true fr (u ++ bL) none wL) (stepG.exec P m' true fr' (u' ++ bC) none wC) := by
  have hi := h.items
  have hm' : fr'.mode = .run := by
    have := h.mode
    rw [hm] at this
    cases hm2 : fr'.mode <;> rw [hm2] at this <;> cases this <;> rfl
  have gto : ∀ l, (∀ x ∈ l, okItem P B x = true) → GR P B bL bC ρ { frame := { fr with todo := l }, callers := u ++ bL, status := .running, dying := none } { frame := { fr' with todo := l }, callers := u' ++ bC, status := .running, dying := none } := fun l hl => ⟨h.to hl, ⟨u, u', rfl, rfl, hu⟩, rfl, rfl, rfl, rfl, rfl, rfl⟩
  have gret : GR P B bL bC ρ { frame := { fr with mode := .returning }, callers := u ++ bL, status := .running, dying := none } { frame := { fr' with mode := .returning }, callers := u' ++ bC, status := .running, dying := none } :=
    ⟨⟨h.fn, h.ok, h.tmps, h.todo, h.items, h.defers, h.defers', .ret, h.kind, h.kind', h.round, h.round'⟩, ⟨u, u', rfl, rfl, hu⟩, rfl, rfl, rfl, rfl, rfl, rfl⟩
  have ht := h.todo
  cases e : fr.todo with
  | nil =>
    rw [e] at ht
    simp only [stepG.exec, e, ht, h.round, h.round']
    refine StR.still hw ?_
    simpa only [e, ht, h.round, h.round'] using gret
  | cons x k =>
    rw [e] at ht hi
    rw [items_cons] at hi
    obtain ⟨hx, hk⟩ := hi
    cases x with
    | inBlock id => simp only [stepG.exec, e, ht]; exact StR.still hw (gto k hk)
    | inLoop c => simp only [stepG.exec, e, ht]; exact StR.still hw (gto _ (items_cons.2 ⟨hx, items_cons.2 ⟨hx, hk⟩⟩))
    | inRegion ops l =>
      cases l with
      | nil => simp only [stepG.exec, e, ht]; exact StR.still hw (gto k hk)
      | cons i l =>
        simp only [stepG.exec, e, ht, yielded_eq h.tmps]
        cases ho : ops[i]? with
        | none =>
          simp only [Option.map_none, Option.getD_none, Bool.false_eq_true, if_false]
          exact StR.still hw ⟨h.finish VR.undef, ⟨u, u', rfl, rfl, hu⟩, rfl, rfl, rfl, rfl, rfl, rfl⟩
        | some o =>
          simp only [Option.map_some, Option.getD_some]
          by_cases hwt : Region.wanted o (yielded ops fr.tmps) = true
          · simp only [hwt, if_true, stepG.oper, Frame.oper?, e, ht, ho, h.round, h.round']
            exact apply_sim hF h hu hw (SR.exec hz hF.hasBody h.eval (get_ok hx ho)) ⟨ops, i :: l, k, e⟩
          · simp only [hwt, Bool.false_eq_true, if_false]
            exact StR.still hw ⟨h.finish VR.undef, ⟨u, u', rfl, rfl, hu⟩, rfl, rfl, rfl, rfl, rfl, rfl⟩
    | code c =>
      cases c with
      | skip => simp only [stepG.exec, e, ht]; exact StR.still hw (gto k hk)
      | ret =>
        simp only [stepG.exec, e, ht, h.round, h.round']
        refine StR.still hw ?_
        simpa only [e, ht, h.round, h.round'] using gret
      | refuse w => simp only [stepG.exec, e]; exact trivial
      | seq a b =>
        simp only [okItem, okCode, Bool.and_eq_true] at hx
        simp only [stepG.exec, e, ht]
        exact StR.still hw (gto _ (items_cons.2 ⟨hx.1, items_cons.2 ⟨hx.2, hk⟩⟩))
      | block id b =>
        simp only [stepG.exec, e, ht]
        exact StR.still hw (gto _ (items_cons.2 ⟨hx, items_cons.2 ⟨rfl, hk⟩⟩))
      | loop b =>
        simp only [stepG.exec, e, ht]
        exact StR.still hw (gto _ (items_cons.2 ⟨hx, items_cons.2 ⟨hx, hk⟩⟩))
      | cond c a b =>
        simp only [okItem, okCode, Bool.and_eq_true] at hx
        have hc := h.eval c hx.1.1
        simp only [stepG.exec, e, ht]
        generalize fr.eval c = v at hc
        generalize fr'.eval c = v' at hc
        cases hc with
        | bool t =>
          cases t with
          | true => exact StR.still hw (gto _ (items_cons.2 ⟨hx.1.2, hk⟩))
          | false => exact StR.still hw (gto _ (items_cons.2 ⟨hx.2, hk⟩))
        | _ => exact trivial
      | exit id =>
        simp only [stepG.exec, e, ht]
        cases hx2 : exitTo id k with
        | none =>
          simp only [Option.elim_none, h.round, h.round']
          exact trivial
        | some k' =>
          simp only [Option.elim_some]
          exact StR.still hw (gto _ (exitTo_ok id k k' hk hx2))
      | region id ops draw =>
        simp only [stepG.exec, e, ht]
        cases draw with
        | false => exact StR.still hw (gto _ (items_cons.2 ⟨hx, hk⟩))
        | true =>
          simp only [Bool.not_true, Bool.false_eq_true, if_false, choose, Sem.run, Question.forced, h.fn]
          refine ⟨⟨Nat.le_succ _, rfl⟩, fun al => ?_⟩
          have ea := al 0 (.order fr.fn id) (by simp)
          simp only [Nat.add_zero] at ea
          rw [← ea]
          refine ⟨_, { wC with drawn := wC.drawn + 1 }, #[], ρ, rfl, ?_, ⟨hw.blk, hw.big, hw.sz, hw.fn, hw.inj, hw.ro, hw.shr⟩, ⟨fun _ _ h => h, fun _ _ h => .inl h, fun _ _ _ => rfl, Nat.le_refl _, Nat.le_refl _, rfl, rfl, ?_, Nat.le_succ _, rfl, rfl, rfl, rfl, (fun hid hh => ⟨hid, hh⟩), fun e h => by simp at h⟩⟩
          · simpa only [h.fn] using gto (.inRegion ops (Region.schedule (P.follows Departure.mixedOrders) ops ((Question.order fr.fn id).cut (wL.tape wL.drawn (Question.order fr.fn id)))) :: k) (items_cons.2 ⟨hx, hk⟩)
          · show wC.drawn + 1 + wL.drawn = wC.drawn + (wL.drawn + 1)
            omega
      | _ => cases hx
    | _ => cases hx
theorem SR.asAddrL {v v' : Value} (h : VR (fun f => B f = true) ρ v v') : SR P (fun f => B f = true) RO ρ (fun ρ' => AR ρ') (Go.asAddr v) (Go.asAddr v') := by
  cases h <;> first | exact SR.stuck | exact SR.nilDeref | exact SR.pure ‹_›
theorem SR.results (fn : Func) {x x' : Array Value} (h : LR (fun f => B f = true) ρ x x') : SR P (fun f => B f = true) RO ρ (VR (fun f => B f = true)) (Go.results fn x) (Go.results fn x') := by
  unfold Go.results
  refine SR.bind (Q := fun ρ' => LR (fun f => B f = true) ρ') ?_ ?_
  · rw [Array.mapM_eq_mapM_toList, Array.mapM_eq_mapM_toList, ← bind_pure_comp, ← bind_pure_comp]
    refine SR.bind (Q := fun ρ' => LL (fun f => B f = true) ρ') ?_ fun ρ1 _ a b hab => SR.pure hab
    have : ∀ (l : List ResultVar) (ρ : Ren), LR (fun f => B f = true) ρ x x' → SR P (fun f => B f = true) RO ρ (fun ρ' => LL (fun f => B f = true) ρ') (l.mapM fun | .tmp t => Pure.pure (x.getD t undef) | .cell a t => do Go.loadVar t (← Go.asAddr (x.getD a undef)))
        (l.mapM fun | .tmp t => Pure.pure (x'.getD t undef) | .cell a t => do Go.loadVar t (← Go.asAddr (x'.getD a undef))) := by
      intro l
      induction l with
      | nil => exact fun ρ _ => SR.pure ⟨rfl, fun i v v' e => by simp at e⟩
      | cons r l ih =>
        intro ρ hx
        rw [List.mapM_cons, List.mapM_cons]
        refine SR.bind (Q := VR (fun f => B f = true)) ?_ ?_
        · cases r with
          | tmp t => exact SR.pure (hx.getD t VR.undef)
          | cell a t => exact SR.bind (SR.asAddrL (hx.getD a VR.undef)) fun _ _ _ _ ha => SR.loadVar ha t
        · intro ρ1 k1 v v' hv
          refine SR.bind (ih ρ1 (hx.mono k1)) ?_
          intro ρ2 k2 vs vs' hvs
          refine SR.pure ?_
          refine ⟨by have := hvs.1; simp at this ⊢; exact this, fun i a b e e' => ?_⟩
          cases i with
          | zero => simp at e e'; subst e; subst e'; exact hv.mono k2
          | succ i => exact hvs.2 i a b (by simpa using e) (by simpa using e')
    exact this fn.results.toList ρ h
  · intro ρ1 k1 vs vs' hvs
    refine SR.pure ?_
    by_cases h1 : vs.size = 1
    · have h2 : vs'.size = 1 := by rw [← hvs.1]; exact h1
      rw [dif_pos h1, dif_pos h2]
      exact hvs.2 0 _ _ (Array.getElem?_eq_getElem _) (Array.getElem?_eq_getElem _)
    · have h2 : ¬ vs'.size = 1 := by rw [← hvs.1]; exact h1
      rw [dif_neg h1, dif_neg h2]
      exact .tuple hvs.1 hvs.2
theorem unwind_sim (hF : OkFns P B) {fr fr' c c' : Frame} {u u' : List Frame} (h : FR P B ρ fr fr') (hc : FR P B ρ c c') (hu : FL P B ρ u u') (hw : WR (fun f => B f = true) P RO ρ wL wC) (hm : fr.mode ≠ .run) (m m' : Bool) :
    StR P B RO bL bC ρ wL wC (unwind P m fr (c :: (u ++ bL)) none wL) (unwind P m' fr' (c' :: (u' ++ bC)) none wC) := by
  obtain ⟨fn, code, e1, _, e3, _⟩ := hF fr.fn h.ok
  have hmode := h.mode
  cases e : fr.mode with
  | run => exact absurd e hm
  | panicking l =>
    rw [e] at hmode
    cases e' : fr'.mode with
    | panicking l' =>
      rw [e'] at hmode
      cases hmode with
      | pan hl =>
        have k1 : fr.catches P = false := by simp [Frame.catches, e1]
        have k2 : fr'.catches P = false := by simp [Frame.catches, h.fn, e1]
        simp only [unwind, h.defers, h.defers', e, e', k1, k2, Bool.false_eq_true, if_false]
        exact StR.still hw ⟨hc.raise hl, ⟨u, u', rfl, rfl, hu⟩, rfl, rfl, rfl, rfl, rfl, rfl⟩
    | _ => rw [e'] at hmode; cases hmode
  | returning =>
    rw [e] at hmode
    cases e' : fr'.mode with
    | returning =>
      simp only [unwind, h.defers, h.defers', e, e', h.fn, e1]
      have h1 := SR.results (P := P) (RO := RO) fn h.tmps wL wC #[] hw
      cases hr : (results fn fr.tmps).run P wL with
      | ok v w1 =>
        rw [hr] at h1
        obtain ⟨adv, h1⟩ := h1
        simp only [Sem.runT_eq, hr, doReturn, h.kind, GStep.after]
        refine ⟨adv, fun al => ?_⟩
        obtain ⟨v', wC', ρ', es', e2, hw', he, hv⟩ := h1 al
        rw [Sem.runT_eq] at e2
        simp only [Prod.mk.injEq] at e2
        rw [e2.1]
        simp only [h.kind']
        refine ⟨_, wC', _, ρ', rfl, ⟨(hc.mono he.le).finish hv, ⟨u, u', rfl, rfl, hu.mono he.le⟩, rfl, rfl, rfl, rfl, rfl, rfl⟩, hw', he.sub fun e hee => ?_⟩
        simp at hee
        have := seen_sub _ _ e hee
        rw [e2.2] at this
        simpa using this
      | halt x w1 =>
        simp only [Sem.runT_eq, hr]
        cases x <;> exact trivial
    | _ => rw [e'] at hmode; cases hmode
/-- ████ a step of the lone goroutine, ahead of its base, is matched ████ -/
theorem step_sim (hz : FZ P) (hF : OkFns P B) {g g' : Goroutine} (h : GR P B bL bC ρ g g') (hw : WR (fun f => B f = true) P RO ρ wL wC) (hn : ¬ Leaf bL g) (m m' : Bool) : StR P B RO bL bC ρ wL wC (stepG P m g wL) (stepG P m' g' wC) := by
  obtain ⟨fr, cs, st, dy, of⟩ := g
  obtain ⟨fr', cs', st', dy', of'⟩ := g'
  obtain ⟨htop, ⟨u, u', hu1, hu2, hu⟩, h1, h2, h3, h4, _, _⟩ := h
  simp only at htop hu1 hu2 h1 h2 h3 h4
  subst hu1; subst hu2; subst h3; subst h4
  have hmode := htop.mode
  by_cases hr : fr.mode = .run
  · have hr' : fr'.mode = .run := by
      rw [hr] at hmode
      cases e : fr'.mode <;> rw [e] at hmode <;> cases hmode <;> rfl
    simp only [stepG, hr, hr']
    exact exec_sim hz hF htop hu hw hr m m'
  · have hr' : fr'.mode ≠ .run := fun e => by
      rw [e] at hmode
      cases e2 : fr.mode <;> rw [e2] at hmode <;> cases hmode <;> exact hr e2
    cases hu with
    | nil => exact absurd ⟨rfl, hr⟩ hn
    | @cons c c' l l' hc hl =>
      have e1 : ∀ (w : World), stepG P m { frame := fr, callers := c :: l ++ bL, status := st, dying := none, offers := of } w = unwind P m fr (c :: (l ++ bL)) none w := fun w => by
        simp only [stepG]
        try (split; · rename_i e; exact absurd e hr)
        rfl
      have e2 : ∀ (w : World), stepG P m' { frame := fr', callers := c' :: l' ++ bC, status := st', dying := none, offers := of' } w = unwind P m' fr' (c' :: (l' ++ bC)) none w := fun w => by
        simp only [stepG]
        try (split; · rename_i e; exact absurd e hr')
        rfl
      rw [e1, e2]
      exact unwind_sim hF htop hc hl hw hr m m'
end
end Go.Proofs.Ytjplnkkcmkpkbaa
