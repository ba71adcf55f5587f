/- Several of my texts in one: Mn2. -/
import Derived.Test.YtjplnkkcmkpkbaaMA07
import Derived.Test.YtjplnkkcmkpkbaaMA08
import Derived.Conc.CrowdComm
set_option linter.unusedSimpArgs false
set_option linter.unusedVariables false
/- The machine, 2: what is asked of each goroutine in one call of many.Run. -/
namespace Go.Proofs.Ytjplnkkcmkpkbaa
open Go.Conc
open Go.ConcN (WgLive ShN DP CTag phi WD)
open Go.ConcR (KK wgBlock WgAt stA smA rd wr mk DC0)

/-- one call: the group, the channel, the results' block; how many jobs and hands; below Low lies what was there; what is held of job k's result -/
structure Ph where
  ty : TypeId
  ety : TypeId
  Wg : Nat
  Ch : Nat
  C : Nat
  N : Nat
  n : Nat
  Low : Nat
  j0 : Nat
  Old : Nat → Prop
  Res : Nat → Value → Value → Foot → World → Prop
def Ph.low (q : Ph) (b : Nat) : Prop := b < q.Low ∧ b ≠ q.Wg ∧ b ≠ q.Ch ∧ b ≠ q.C ∧ ¬ q.Old b
def Ph.lowL (q : Ph) : Loc → Prop
  | .cell a => q.low a.block
  | .obj c => q.low c
  | _ => False
def jobs (r N : Nat) : Array Value := ((List.range' r (N - r)).map fun k => Value.int .i64 (k : Nat)).toArray
def ChanAt (q : Ph) (r : Nat) (w : World) : Prop := r ≤ q.N ∧ w.heap[q.Ch]? = some (.chan q.N (jobs r q.N) true q.N r false)
def PayO (q : Ph) (w : World) : Prop := ∃ cs : Array Value, w.heap[q.C]? = some (.cells cs q.ety) ∧ cs.size = 2 * q.N
/-- what anybody suffers -/
structure RS (q : Ph) (w w₁ : World) : Prop where
  low : ∀ b, q.low b → w₁.heap[b]? = w.heap[b]?
  live : WgLive q.ty q.Wg w → WgLive q.ty q.Wg w₁
  chan : ∀ r, ChanAt q r w → ∃ r', r ≤ r' ∧ ChanAt q r' w₁
  pay : PayO q w → PayO q w₁
  tape : w₁.tape = w.tape
  os : w₁.os = w.os
  out : w₁.output = w.output
  grow : w.heap.size ≤ w₁.heap.size
theorem RS.refl {q : Ph} (w : World) : RS q w w := ⟨fun _ _ => rfl, id, fun r h => ⟨r, Nat.le_refl _, h⟩, id, rfl, rfl, rfl, Nat.le_refl _⟩
theorem RS.trans {q : Ph} {w w₁ w₂ : World} (h : RS q w w₁) (k : RS q w₁ w₂) : RS q w w₂ :=
  ⟨fun b hb => (k.low b hb).trans (h.low b hb), k.live ∘ h.live, fun r hr => let ⟨r1, h1, h2⟩ := h.chan r hr; let ⟨r2, h3, h4⟩ := k.chan r1 h2; ⟨r2, Nat.le_trans h1 h3, h4⟩, k.pay ∘ h.pay, k.tape.trans h.tape, k.os.trans h.os, k.out.trans h.out, Nat.le_trans h.grow k.grow⟩
theorem RS.at {q : Ph} (w : World) (d : Nat) : RS q w (w.at d) := ⟨fun _ _ => rfl, id, fun r h => ⟨r, Nat.le_refl _, h⟩, id, rfl, rfl, rfl, Nat.le_refl _⟩

/-- the starter's idle step in company: the world stands; it reads low blocks, or goes by the group's own cells -/
def own1 (q : Ph) : Nat → Loc → Prop := fun _ l => ¬ q.lowL l
def rd1 : Nat → Loc → Prop := fun _ _ => True
def DM (q : Ph) (w w' : World) (es : Array Event) : Prop := w' = w ∧ ∀ e ∈ es, Go.ConcN.Ev0 q.Wg (own1 q) rd1 1 e ∧ (MemAct.ofEvent e).low q.Low

/-- job k's two cells are written -/
def put2 (q : Ph) (w : World) (k : Nat) (v0 v1 : Value) : World := (w.setCell ⟨q.C, 2 * k, none⟩ v0).setCell ⟨q.C, 2 * k + 1, none⟩ v1
/-- the r-th job is handed out -/
def took (q : Ph) (w : World) (r : Nat) : World := w.setChan q.Ch q.N (jobs (r + 1) q.N) true q.N (r + 1) false

section
variable (P : Program) (q : Ph)
/-! ### the worker's way out, from its end backwards -/
section
def KD4 (g : Goroutine) (w : World) : Prop :=
  g.status = .running ∧ mayWake P g = true ∧ (WgAt q.ty q.Wg w 0 0 → ∃ g', stepG P false g w = .go g' (w.setCell (smA q.Wg) (.int .u32 1)) (semEvents (smA q.Wg)) ∧ ∃ f, QuitsD P f 1 g')
def KD3 (g : Goroutine) (w : World) : Prop :=
  g.status = .running ∧ (WgAt q.ty q.Wg w 1 0 → ∃ g', stepG P false g w = .go g' (w.setCell (stA q.Wg) (.int .u64 0)) #[wr (stA q.Wg)] ∧ ∃ m, (Goes P false (RS q) DC0) (KD4 P q) m g' (w.setCell (stA q.Wg) (.int .u64 0)))
def KD2 (g : Goroutine) (w : World) : Prop :=
  g.status = .running ∧ (WgAt q.ty q.Wg w 1 0 → ∃ g', stepG P false g w = .go g' w #[rd (stA q.Wg)] ∧ ∃ m, (Goes P false (RS q) DC0) (KD3 P q) m g' w)
def KD1 (g : Goroutine) (w : World) : Prop :=
  g.status = .running ∧ ∀ v wt : Nat, wt ≤ 1 → v < 2147483647 → WgAt q.ty q.Wg w ((v + 1) * KK + wt) 0 →
    ∃ g', stepG P false g w = .go g' (w.setCell (stA q.Wg) (.int .u64 (v * KK + wt))) #[rd (stA q.Wg), wr (stA q.Wg)] ∧
      ((v = 0 ∧ wt = 1) → ∃ m, (Goes P false (RS q) DC0) (KD2 P q) m g' (w.setCell (stA q.Wg) (.int .u64 (v * KK + wt)))) ∧ (¬ (v = 0 ∧ wt = 1) → ∃ f, QuitsD P f 1 g')
def KK1 (g : Goroutine) (w : World) : Prop :=
  g.status = .running ∧ ∃ g', stepG P false g w = .go g' w #[mk .disable] ∧ ∃ m, (Goes P false (RS q) DC0) (KD1 P q) m g' w
def KR0 (g : Goroutine) (w : World) : Prop :=
  g.status = .running ∧ ∃ g', stepG P false g w = .go g' w #[mk (.releaseMerge (stA q.Wg))] ∧ ∃ m, (Goes P false (RS q) DC0) (KK1 P q) m g' w
end
/-! ### a worker at work -/
def Wk : Rk → Option Nat → Foot → Goroutine → World → Prop
  | .z, _, _, _, _ => False
  | .mk f, hold, F, g, w => g.status = .running ∧ ∀ w₁, RS q w w₁ → (∀ b, F b → w₁.heap[b]? = w.heap[b]?) →
      (∃ g' w' es F', stepG P false g w₁ = .go g' w' es ∧ Dp q.low F F' w₁ w' es ∧ Wk (f w₁) hold F' g' w') ∨
      (hold = none ∧ ∃ g₂ z, stepG P false g w₁ = .comm g₂ #[rcase q.Ch z] true (.recv true) w₁ #[] ∧
        ∀ r, ChanAt q r w₁ → (r < q.N → Wk (f w₁) (some r) F (g₂.finishComm P #[rcase q.Ch z] (.recv true) 0 (.int .i64 (r : Nat)) true) (took q w₁ r)) ∧ (r = q.N → Wk (f w₁) none F (g₂.finishComm P #[rcase q.Ch z] (.recv true) 0 z false) w₁)) ∨
      (∃ k v0 v1 g', hold = some k ∧ stepG P false g w₁ = .go g' (put2 q w₁ k v0 v1) #[⟨.cell ⟨q.C, 2 * k, none⟩, true, false⟩, ⟨.cell ⟨q.C, 2 * k + 1, none⟩, true, false⟩] ∧ q.Res k v0 v1 F w₁ ∧ Wk (f w₁) none (fun _ => False) g' (put2 q w₁ k v0 v1)) ∨
      (hold = none ∧ ChanAt q q.N w₁ ∧ KR0 P q g w₁)
/-! ### the starter, from its end backwards -/
section
variable (Anch Fin : Goroutine → World → Prop)
def MAcq (g : Goroutine) (w : World) : Prop :=
  g.status = .running ∧ ∃ g', stepG P true g w = .go g' w #[mk (.acquire (stA q.Wg))] ∧ ∃ m, (Goes P true (RS q) (DM q)) Fin m g' w
def MKe (g : Goroutine) (w : World) : Prop :=
  g.status = .running ∧ ∃ g', stepG P true g w = .go g' w #[mk .enable] ∧ ∃ m, (Goes P true (RS q) (DM q)) (MAcq P q Fin) m g' w
def MW4 (g : Goroutine) (w : World) : Prop :=
  g.status = .running ∧ (WgAt q.ty q.Wg w 0 0 → ∃ g', stepG P true g w = .go g' w #[rd (stA q.Wg)] ∧ ∃ m, (Goes P true (RS q) (DM q)) (MKe P q Fin) m g' w)
def MW3 (g : Goroutine) (w : World) : Prop :=
  g.status = .running ∧ g.offers = none ∧
    ((∃ st, WgAt q.ty q.Wg w st 0) → stepG P true g w = .go { g with status := .blocked } w #[]) ∧
    (WgAt q.ty q.Wg w 0 1 → ∃ g', stepG P true g w = .go g' (w.setCell (smA q.Wg) (.int .u32 0)) (semEvents (smA q.Wg)) ∧ ∃ m, (Goes P true (RS q) (DM q)) (MW4 P q Fin) m g' (w.setCell (smA q.Wg) (.int .u32 0)))
def MW2 (vs : Nat) (g : Goroutine) (w : World) : Prop :=
  g.status = .running ∧ ∀ v : Nat, v < 2147483648 → WgAt q.ty q.Wg w (v * KK) 0 →
    (v = vs → ∃ g', stepG P true g w = .go g' (w.setCell (stA q.Wg) (.int .u64 (v * KK + 1))) #[rd (stA q.Wg), wr (stA q.Wg)] ∧ ∃ m, (Goes P true (RS q) (DM q)) (MW3 P q Fin) m g' (w.setCell (stA q.Wg) (.int .u64 (v * KK + 1)))) ∧
    (v ≠ vs → ∃ g', stepG P true g w = .go g' w #[rd (stA q.Wg)] ∧ ∃ m, (Goes P true (RS q) (DM q)) Anch m g' w)
def MW1 (g : Goroutine) (w : World) : Prop :=
  g.status = .running ∧ ∀ v : Nat, v < 2147483648 → WgAt q.ty q.Wg w (v * KK) 0 → ∃ g', stepG P true g w = .go g' w #[rd (stA q.Wg)] ∧
    (v = 0 → ∃ m, (Goes P true (RS q) (DM q)) (MKe P q Fin) m g' w) ∧ (v ≠ 0 → ∃ m, (Goes P true (RS q) (DM q)) (MW2 P q Anch Fin v) m g' w)
def MKd (g : Goroutine) (w : World) : Prop :=
  g.status = .running ∧ ∃ g', stepG P true g w = .go g' w #[mk .disable] ∧ ∃ m, (Goes P true (RS q) (DM q)) Anch m g' w
def MGo (Next : Goroutine → World → Prop) (g : Goroutine) (w : World) : Prop :=
  g.status = .running ∧ ∃ g' child, stepG P true g w = .spawn g' child w #[] ∧ ((∃ r, ChanAt q r w) → PayO q w → ∃ r, Wk P q r none (fun _ => False) child w) ∧ Next g' w
def MKeS (Next : Goroutine → World → Prop) (g : Goroutine) (w : World) : Prop :=
  g.status = .running ∧ ∃ g', stepG P true g w = .go g' w #[mk .enable] ∧ ∃ m, (Goes P true (RS q) (DM q)) (MGo P q Next) m g' w
def MA1 (Next : Goroutine → World → Prop) (g : Goroutine) (w : World) : Prop :=
  g.status = .running ∧ ∀ v : Nat, v < 2147483647 → WgAt q.ty q.Wg w (v * KK) 0 →
    ∃ g', stepG P true g w = .go g' (w.setCell (stA q.Wg) (.int .u64 ((v + 1) * KK))) #[rd (stA q.Wg), wr (stA q.Wg)] ∧
      ∃ m, (Goes P true (RS q) (DM q)) (MKeS P q Next) m g' (w.setCell (stA q.Wg) (.int .u64 ((v + 1) * KK)))
def MKdS (Next : Goroutine → World → Prop) (g : Goroutine) (w : World) : Prop :=
  g.status = .running ∧ ∃ g', stepG P true g w = .go g' w #[mk .disable] ∧ ∃ m, (Goes P true (RS q) (DM q)) (MA1 P q Next) m g' w
/-- r hands are still to be started -/
def Spw (W : Goroutine → World → Prop) : Nat → Goroutine → World → Prop
  | 0, g, w => W g w
  | r + 1, g, w => ∃ m, (Goes P true (RS q) (DM q)) (MKdS P q (Spw W r)) m g w
end

/-! ### where a worker stands, beyond its work -/
inductive KSit : Nat → Nat → Nat → Goroutine → World → Prop
  | k1 {m : Nat} {g : Goroutine} {w : World} : Goes P false (RS q) DC0 (KK1 P q) m g w → KSit 6 m 0 g w
  | d1 {m : Nat} {g : Goroutine} {w : World} : Goes P false (RS q) DC0 (KD1 P q) m g w → KSit 5 m 1 g w
  | d2 {m : Nat} {g : Goroutine} {w : World} : Goes P false (RS q) DC0 (KD2 P q) m g w → KSit 4 m 1 g w
  | d3 {m : Nat} {g : Goroutine} {w : World} : Goes P false (RS q) DC0 (KD3 P q) m g w → KSit 3 m 1 g w
  | d4 {m : Nat} {g : Goroutine} {w : World} : Goes P false (RS q) DC0 (KD4 P q) m g w → KSit 2 m 1 g w
  | quit {f d : Nat} {g : Goroutine} {w : World} : QuitsD P f d g → KSit 1 f d g w
section
variable (Anch Fin : Goroutine → World → Prop)
def Wt (g : Goroutine) (w : World) : Prop := ∃ m, (Goes P true (RS q) (DM q)) (MKd P q Anch) m g w
/-- tag, how many are started, fuel, deafness -/
inductive MSit : CTag → Nat → Nat → Nat → Goroutine → World → Prop
  | skd {r m : Nat} {g : Goroutine} {w : World} : r < q.n → (Goes P true (RS q) (DM q)) (MKdS P q (Spw P q (Wt P q Anch) r)) m g w → MSit (.sp r 5) (q.n - (r + 1)) m 0 g w
  | sa1 {r m : Nat} {g : Goroutine} {w : World} : r < q.n → (Goes P true (RS q) (DM q)) (MA1 P q (Spw P q (Wt P q Anch) r)) m g w → MSit (.sp r 4) (q.n - (r + 1)) m 1 g w
  | ske {r m : Nat} {g : Goroutine} {w : World} : r < q.n → (Goes P true (RS q) (DM q)) (MKeS P q (Spw P q (Wt P q Anch) r)) m g w → MSit (.sp r 3) (q.n - (r + 1)) m 1 g w
  | sgo {r m : Nat} {g : Goroutine} {w : World} : r < q.n → (Goes P true (RS q) (DM q)) (MGo P q (Spw P q (Wt P q Anch) r)) m g w → MSit (.sp r 2) (q.n - (r + 1)) m 0 g w
  | kd {m : Nat} {g : Goroutine} {w : World} : (Goes P true (RS q) (DM q)) (MKd P q Anch) m g w → MSit .kd q.n m 0 g w
  | anch {m : Nat} {g : Goroutine} {w : World} : (Goes P true (RS q) (DM q)) Anch m g w → MSit .anch q.n m 1 g w
  | w1 {m : Nat} {g : Goroutine} {w : World} : (Goes P true (RS q) (DM q)) (MW1 P q Anch Fin) m g w → MSit .w1 q.n m 1 g w
  | w2 {vs m : Nat} {g : Goroutine} {w : World} : (Goes P true (RS q) (DM q)) (MW2 P q Anch Fin vs) m g w → MSit (.w2 vs) q.n m 1 g w
  | w3 {m : Nat} {g : Goroutine} {w : World} : (Goes P true (RS q) (DM q)) (MW3 P q Fin) m g w → MSit .w3 q.n (m + 1) 1 g w
  | blk {g : Goroutine} {w : World} : (∀ w₁, RS q w w₁ → MW3 P q Fin g w₁) → MSit .blk q.n 0 1 { g with status := .blocked } w
  | w4 {m : Nat} {g : Goroutine} {w : World} : (Goes P true (RS q) (DM q)) (MW4 P q Fin) m g w → MSit .w4 q.n m 1 g w
  | ke {m : Nat} {g : Goroutine} {w : World} : (Goes P true (RS q) (DM q)) (MKe P q Fin) m g w → MSit .ke q.n m 1 g w
  | acq {m : Nat} {g : Goroutine} {w : World} : (Goes P true (RS q) (DM q)) (MAcq P q Fin) m g w → MSit .acq q.n m 0 g w
  | ret {m : Nat} {g : Goroutine} {w : World} : (Goes P true (RS q) (DM q)) Fin m g w → MSit .ret q.n m 0 g w
end
end

section
variable {P : Program} {q : Ph} {w w₁ : World}
theorem rs_tr : ∀ a b c, RS q a b → RS q b c → RS q a c := fun _ _ _ h k => h.trans k
theorem Wk.rely : ∀ {r : Rk} {hold : Option Nat} {F : Foot} {g : Goroutine}, Wk P q r hold F g w → RS q w w₁ → (∀ b, F b → w₁.heap[b]? = w.heap[b]?) → Wk P q r hold F g w₁
  | .z, _, _, _, h, _, _ => h.elim
  | .mk _, _, _, _, h, hr, hk => ⟨h.1, fun w₂ h2 k2 => h.2 w₂ (hr.trans h2) fun b hb => (k2 b hb).trans (hk b hb)⟩
theorem Wk.running {r : Rk} {hold : Option Nat} {F : Foot} {g : Goroutine} (h : Wk P q r hold F g w) : g.status = .running := by
  cases r with
  | z => exact h.elim
  | mk f => exact h.1
theorem KSit.rely {s m d : Nat} {g : Goroutine} (h : KSit P q s m d g w) (hr : RS q w w₁) : KSit P q s m d g w₁ := by
  cases h with
  | k1 h => exact .k1 (Goes.rely rs_tr h hr)
  | d1 h => exact .d1 (Goes.rely rs_tr h hr)
  | d2 h => exact .d2 (Goes.rely rs_tr h hr)
  | d3 h => exact .d3 (Goes.rely rs_tr h hr)
  | d4 h => exact .d4 (Goes.rely rs_tr h hr)
  | quit h => exact .quit h
theorem KSit.status {s m d : Nat} {g : Goroutine} (h : KSit P q s m d g w) : (g.status = .running) ∨ (s = 1 ∧ g.status = .finished) := by
  cases h with
  | k1 h => exact .inl (Goes.running (fun _ _ x => x.1) w (RS.refl w) h)
  | d1 h => exact .inl (Goes.running (fun _ _ x => x.1) w (RS.refl w) h)
  | d2 h => exact .inl (Goes.running (fun _ _ x => x.1) w (RS.refl w) h)
  | d3 h => exact .inl (Goes.running (fun _ _ x => x.1) w (RS.refl w) h)
  | d4 h => exact .inl (Goes.running (fun _ _ x => x.1) w (RS.refl w) h)
  | quit h => exact h.status.imp id fun x => ⟨rfl, x⟩
theorem KSit.stage {s m d : Nat} {g : Goroutine} (h : KSit P q s m d g w) : 1 ≤ s ∧ s ≤ 6 := by cases h <;> omega
variable {Anch Fin : Goroutine → World → Prop} {tag : CTag} {j f d : Nat} {a : Goroutine}
theorem MSit.rely (h : MSit P q Anch Fin tag j f d a w) (hr : RS q w w₁) : MSit P q Anch Fin tag j f d a w₁ := by
  cases h with
  | skd hn h => exact .skd hn (Goes.rely rs_tr h hr)
  | sa1 hn h => exact .sa1 hn (Goes.rely rs_tr h hr)
  | ske hn h => exact .ske hn (Goes.rely rs_tr h hr)
  | sgo hn h => exact .sgo hn (Goes.rely rs_tr h hr)
  | kd h => exact .kd (Goes.rely rs_tr h hr)
  | anch h => exact .anch (Goes.rely rs_tr h hr)
  | w1 h => exact .w1 (Goes.rely rs_tr h hr)
  | w2 h => exact .w2 (Goes.rely rs_tr h hr)
  | w3 h => exact .w3 (Goes.rely rs_tr h hr)
  | blk h => exact .blk (fun w₂ h₂ => h w₂ (hr.trans h₂))
  | w4 h => exact .w4 (Goes.rely rs_tr h hr)
  | ke h => exact .ke (Goes.rely rs_tr h hr)
  | acq h => exact .acq (Goes.rely rs_tr h hr)
  | ret h => exact .ret (Goes.rely rs_tr h hr)
theorem MSit.status (hAr : ∀ g w, Anch g w → g.status = .running) (hFr : ∀ g w, Fin g w → g.status = .running) (h : MSit P q Anch Fin tag j f d a w) : (a.status = .running ∧ tag ≠ .blk) ∨ (a.status = .blocked ∧ tag = .blk) := by
  cases h with
  | skd _ h => exact .inl ⟨Goes.running (fun _ _ x => x.1) w (.refl w) h, by simp⟩
  | sa1 _ h => exact .inl ⟨Goes.running (fun _ _ x => x.1) w (.refl w) h, by simp⟩
  | ske _ h => exact .inl ⟨Goes.running (fun _ _ x => x.1) w (.refl w) h, by simp⟩
  | sgo _ h => exact .inl ⟨Goes.running (fun _ _ x => x.1) w (.refl w) h, by simp⟩
  | kd h => exact .inl ⟨Goes.running (fun _ _ x => x.1) w (.refl w) h, by simp⟩
  | anch h => exact .inl ⟨Goes.running hAr w (.refl w) h, by simp⟩
  | w1 h => exact .inl ⟨Goes.running (fun _ _ x => x.1) w (.refl w) h, by simp⟩
  | w2 h => exact .inl ⟨Goes.running (fun _ _ x => x.1) w (.refl w) h, by simp⟩
  | w3 h => exact .inl ⟨Goes.running (fun _ _ x => x.1) w (.refl w) h, by simp⟩
  | blk h => exact .inr ⟨rfl, rfl⟩
  | w4 h => exact .inl ⟨Goes.running (fun _ _ x => x.1) w (.refl w) h, by simp⟩
  | ke h => exact .inl ⟨Goes.running (fun _ _ x => x.1) w (.refl w) h, by simp⟩
  | acq h => exact .inl ⟨Goes.running (fun _ _ x => x.1) w (.refl w) h, by simp⟩
  | ret h => exact .inl ⟨Goes.running hFr w (.refl w) h, by simp⟩
theorem MSit.bound (h : MSit P q Anch Fin tag j f d a w) : j + Go.ConcN.pend tag ≤ q.n := by
  cases h <;> simp only [Go.ConcN.pend] <;> (try simp) <;> omega
/-- under another's step: as it stood; or, blocked, it is let try again -/
theorem MSit.wokenBy (hAr : ∀ g w, Anch g w → g.status = .running) (hFr : ∀ g w, Fin g w → g.status = .running) (h : MSit P q Anch Fin tag j f d a w) (hr : RS q w w₁) (g g' : Goroutine) :
    ∃ tag' f', MSit P q Anch Fin tag' j f' d (woken P g g' w₁ a) w₁ ∧ f' ≤ f + 1 ∧ (tag' = tag ∨ (tag = .blk ∧ tag' = .w3)) ∧ (mayWake P g = true → g'.status = .running → tag' ≠ .blk) := by
  have h' := h.rely hr
  unfold Go.Conc.woken
  split
  · rcases h'.status hAr hFr with ⟨hs, hne⟩ | ⟨_, rfl⟩
    · exact ⟨tag, f, by rw [again_running _ (.inl hs)]; exact h', by omega, .inl rfl, fun _ _ => hne⟩
    · cases h' with
      | blk hb =>
        have h3 := hb w₁ (.refl w₁)
        exact ⟨.w3, 0 + 1, by rw [Go.ConcR.again_blocked h3.1 h3.2.1]; exact .w3 (Goes.stop hb), by omega, .inr ⟨rfl, rfl⟩, fun _ _ => by simp⟩
  · rename_i hc
    exact ⟨tag, f, h', by omega, .inl rfl, fun h1 h2 => absurd (by simp [h1, h2]) hc⟩
end
end Go.Proofs.Ytjplnkkcmkpkbaa
