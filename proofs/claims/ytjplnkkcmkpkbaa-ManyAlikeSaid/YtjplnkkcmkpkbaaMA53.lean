/- Several of my texts in one: Mn39. -/
import Derived.Test.YtjplnkkcmkpkbaaMA52
set_option linter.unusedSimpArgs false
set_option linter.unusedVariables false
/- The machine, 39: castkeep.ManyAlike, whole: on whatever tape it says true. -/
namespace Go.Proofs.Ytjplnkkcmkpkbaa
open Go.Conc Go.ConcN Go.RowKit Go.Conc.Lib Go.ConcR.Gen Go.ConcN.Gen
open Go.ConcR (KK wgBlock WgAt stA smA rd wr mk DC0)

/-- goroutine 0 walks to Q -/
def WalkTo (Old : Nat → Prop) (Q : Goroutine → World → Prop) (g : Goroutine) (w : World) : Prop := Gz Try.prog (DE (EvI (ShO Old) w.heap.size w.heap.size)) (fun g' w' => w.heap.size ≤ w'.heap.size ∧ Q g' w') g w
/-- the end -/
def EndAll (W : World) (g : Goroutine) (w : World) : Prop := (∃ (T : Array Value) (todo : List Item), T[8]? = some (.bool true) ∧ g = G { b3.at ⟨T, []⟩ todo with mode := .returning } []) ∧ Below W.heap.size W w
theorem Base.end_ {W w w1 : World} {Old : Nat → Prop} {g : Goroutine} (h : Base W Old w) (x : EndQ w g w1) : EndAll W g w1 := by
  obtain ⟨h1, d, rfl⟩ := x
  exact ⟨h1, ⟨h.os, h.tape, h.out, h.size, h.blk⟩⟩
section
variable {w w1 : World} {Old : Nat → Prop}
theorem evOf {b : Nat} (hb : b < w.heap.size) (hO : ¬ Old b) : ∀ o, EvI (ShO Old) w.heap.size w.heap.size ⟨.cell ⟨b, o, none⟩, false, false⟩ := fun o => evI_cell hO hb (by omega)
theorem JobsIn.base {W : World} {aJ : Option Addr} {N : Nat} {D : Nat → List Deed} (h : JobsIn W (fun _ => False) aJ N D) (hb : Base W Old w) : JobsIn w Old aJ N D := by
  have hc : ∀ a : Addr, a.block < W.heap.size → w.cell? a = W.cell? a := fun a ha => by
    obtain ⟨b, o, s⟩ := a
    simp only [World.cell?, hb.blk b ha]
  have hn : ∀ b, b < W.heap.size → ¬ Old b := fun b h1 h2 => by have := (hb.old b h2).1; omega
  refine ⟨fun b h => (hb.old b h).2, fun k hk => ?_⟩
  obtain ⟨J, oJ, a, n, cap, e, h1, _, h3, h4, h5, h6⟩ := h.job k hk
  refine ⟨J, oJ, a, n, cap, e, Nat.lt_of_lt_of_le h1 hb.size, hn J h1, (hc _ h1).trans h3, ⟨h4.len, fun h0 => ?_, h4.nm⟩, h5, fun ad ha => ?_⟩
  · obtain ⟨b, off, e1, hb1, hx⟩ := h4.sa h0
    exact ⟨b, off, e1, Nat.lt_of_lt_of_le hb1 hb.size, fun i hi => (hc _ hb1).trans (hx i hi)⟩
  · rcases h6 ad ha with k0 | ⟨k1, _, k3, cs, el, fz, k4⟩
    · exact .inl k0
    · exact .inr ⟨Nat.lt_of_lt_of_le k1 hb.size, hn _ k1, k3, cs, el, fz, (hb.blk _ k1).trans k4⟩
theorem JobsIn.one {J oJ N k : Nat} {D : Nat → List Deed} (h : JobsIn w Old (some ⟨J, oJ, none⟩) N D) (hk : k < N) : JobsIn w Old (some ⟨J, oJ + k, none⟩) 1 (fun _ => D k) := by
  refine ⟨h.old, fun i hi => ?_⟩
  obtain rfl : i = 0 := by omega
  obtain ⟨J', oJ', a, n, cap, e, h1, h2, h3, h4⟩ := h.job k hk
  cases e
  exact ⟨J, oJ + k, a, n, cap, rfl, h1, h2, h3, h4⟩
theorem JobsIn.rely {aJ : Option Addr} {N : Nat} {D : Nat → List Deed} (h : JobsIn w Old aJ N D) (r : AtRel w w1) : JobsIn w1 Old aJ N D := by
  obtain ⟨d, rfl⟩ := r
  exact ⟨h.old, fun k hk => let ⟨J, oJ, a, n, cap, e, h1, h2, h3, h4, h5, h6⟩ := h.job k hk; ⟨J, oJ, a, n, cap, e, h1, h2, h3, ⟨h4.len, h4.sa, h4.nm⟩, h5, h6⟩⟩
theorem Got.rely {C N : Nat} {D : Nat → List Deed} (h : Got w Old C N D) (r : AtRel w w1) : Got w1 Old C N D := by
  obtain ⟨d, rfl⟩ := r
  exact ⟨h.lt, h.new, fun k hk => let ⟨v0, v1, F, r1, r2, r3, r4⟩ := h.res k hk; ⟨v0, v1, F, r1.at fun _ _ => rfl, r2, r3, r4⟩⟩
theorem Base.at_ {W : World} (h : Base W Old w) (r : AtRel w w1) : Base W Old w1 := h.rely r
/-- equal results: slices.Equal says so -/
theorem told_eq {R : List DR} {v0 v1 y0 y1 : Value} {F F' : Foot} (h : ResF R v0 v1 F w) (h' : ResF R y0 y1 F' w) (hb : ∀ b, F b → b < w.heap.size ∧ ¬ Old b) (hb' : ∀ b, F' b → b < w.heap.size ∧ ¬ Old b) (hm : R.length ≤ 5864062014634) :
    (∀ (c : Frame) (cs : List Frame) (w1 : World), AtRel w w1 → Gz Try.prog (DE (EvI (ShO Old) w.heap.size w.heap.size)) (fun g w1 => g = G (c.finish (.bool true)) cs ∧ AtRel w w1) (G (Frame.enter Try.prog 5 #[v0, y0] .normal) (c :: cs)) w1) ∧
    ∀ (c : Frame) (cs : List Frame) (w1 : World), AtRel w w1 → Gz Try.prog (DE (EvI (ShO Old) w.heap.size w.heap.size)) (fun g w1 => g = G (c.finish (.bool true)) cs ∧ AtRel w w1) (G (Frame.enter Try.prog 6 #[v1, y1] .normal) (c :: cs)) w1 := by
  obtain ⟨a1, c1, a2, c2, rfl, rfl, s1, s2⟩ := h
  obtain ⟨b1, e1, b2, e2, rfl, rfl, u1, u2⟩ := h'
  have lenT : (rowsC toldC R).length = R.length * 2 := rowsC_len (c := 2) (fun _ => rfl) R
  have lenE : (rowsC errC R).length = R.length := by rw [rowsC_len (c := 1) (fun _ => rfl) R]; omega
  let dr : Nat → DR := fun j => R.getD j ⟨⟨[], []⟩, ⟨#[]⟩, 0, 0⟩
  have hdr : ∀ j, j < R.length → R[j]? = some (dr j) := fun j hj => by simp [dr, hj]
  have gT : ∀ j, j < R.length → (rowsC toldC R)[j * 2]? = some (.string (dr j).nm) ∧ (rowsC toldC R)[j * 2 + 1]? = some (.int .i64 (dr j).n) := fun j hj =>
    ⟨rowsC_get (f := toldC) (c := 2) (fun _ => rfl) R j 0 _ (hdr j hj) (by omega), rowsC_get (f := toldC) (c := 2) (fun _ => rfl) R j 1 _ (hdr j hj) (by omega)⟩
  have gE : ∀ j, j < R.length → (rowsC errC R)[j]? = some (.int .i64 (dr j).er) := fun j hj => by
    have := rowsC_get (f := errC) (c := 1) (fun _ => rfl) R j 0 _ (hdr j hj) (by omega)
    rw [Nat.mul_one, Nat.add_zero] at this
    exact this
  refine ⟨fun c cs w1 hA => ?_, fun c cs w1 hA => ?_⟩
  · refine eqTd atRl (fun j => (dr j).nm) (fun j => (dr j).n) hm (fun hpos => ?_) hA
    obtain ⟨x, rfl, hx, hxc⟩ := s1 (by rw [lenT]; omega)
    obtain ⟨y, rfl, hy, hyc⟩ := u1 (by rw [lenT]; omega)
    refine ⟨x, y, rfl, rfl, evOf (hb x hx).1 (hb x hx).2, evOf (hb' y hy).1 (hb' y hy).2, fun w2 hw2 j hj => ?_⟩
    obtain ⟨d, rfl⟩ := hw2
    obtain ⟨g1, g2⟩ := gT j hj
    exact ⟨⟨(hxc _ (by rw [lenT]; omega)).trans g1, (hxc _ (by rw [lenT]; omega)).trans g2⟩, (hyc _ (by rw [lenT]; omega)).trans g1, (hyc _ (by rw [lenT]; omega)).trans g2⟩
  · refine eqEr atRl (fun j => (dr j).er) hm (fun hpos => ?_) hA
    obtain ⟨x, rfl, hx, hxc⟩ := s2 (by rw [lenE]; omega)
    obtain ⟨y, rfl, hy, hyc⟩ := u2 (by rw [lenE]; omega)
    refine ⟨x, y, rfl, rfl, evOf (hb x hx).1 (hb x hx).2, evOf (hb' y hy).1 (hb' y hy).2, fun w2 hw2 j hj => ?_⟩
    obtain ⟨d, rfl⟩ := hw2
    exact ⟨(hxc _ (by rw [lenE]; omega)).trans (gE j hj), (hyc _ (by rw [lenE]; omega)).trans (gE j hj)⟩
end
theorem told0 : rowsC toldC (runR ⟨[], []⟩ d0cs) = [.string ⟨#[]⟩, .int .i64 0, .string ⟨#[97]⟩, .int .i64 1] := by kernel_rfl
section
variable {W w : World} {Old : Nat → Prop} {a b k : Int} {aJ : Option Addr} {N capJ : Nat} {D : Nat → List Deed} {T : Array Value}
/-- the loop -/
theorem loopGo {Cx Cy cx cy : Nat} (hN : N ≤ 5864062014634) (hx : Got w Old Cx N D) (hy : Got w Old Cy N D) (hD : ∀ k, k < N → (D k).length ≤ 5864062014634) : ∀ (r i : Nat) (g : Goroutine) (w1 : World), i + r = N → HdM w a k aJ N capJ Cx cx Cy cy i g w1 →
    Gz Try.prog (DE (EvI (ShO Old) w.heap.size w.heap.size)) (HdM w a k aJ N capJ Cx cx Cy cy N) g w1 := by
  intro r
  induction r with
  | zero =>
    intro i g w1 hi h
    obtain rfl : i = N := by omega
    refine .stop fun w2 h2 => ?_
    exact ⟨h.1, atRl h.2 h2⟩
  | succ r ih =>
    intro i g w1 hi h
    obtain ⟨v0, v1, F, r1, r2, r3, r4⟩ := hx.res i (by omega)
    obtain ⟨y0, y1, F', s1, s2, s3, s4⟩ := hy.res i (by omega)
    obtain ⟨q5, q6⟩ := told_eq r1 s1 r4 s4 (by rw [runR_len]; exact hD i (by omega))
    rw [Nat.mul_comm] at r2 r3 s2 s3
    exact (roundM (by omega) hN r2 r3 s2 s3 (evOf hx.lt hx.new) (evOf hy.lt hy.new) q5 q6 h).bind fun g w2 h2 => ih (i + 1) g w2 (by omega) h2
/-- behind the last call -/
def Q4 (W : World) (Old : Nat → Prop) (g : Goroutine) (w : World) : Prop := WalkTo Old (EndAll W) g w
/-- behind the third -/
def Q3 (W : World) (Old : Nat → Prop) (g : Goroutine) (w : World) : Prop := WalkTo Old (fun g w => EndAll W g w ∨ CallQ (Q4 W) Old g w) g w
def Q2 (W : World) (Old : Nat → Prop) (g : Goroutine) (w : World) : Prop := WalkTo Old (CallQ (Q3 W) Old) g w
def Q1 (W : World) (Old : Nat → Prop) (g : Goroutine) (w : World) : Prop := WalkTo Old (CallQ (Q2 W) Old) g w
theorem size_at {w1 : World} (r : AtRel w w1) : w1.heap.size = w.heap.size := by
  obtain ⟨d, rfl⟩ := r; rfl
theorem goEnd {g : Goroutine} (hB : Base W Old w) {E : Event → Prop} (h : Gz Try.prog (DE E) (EndQ w) g w) {Q : Goroutine → World → Prop} (hQ : ∀ g w, EndAll W g w → Q g w) : Gz Try.prog (DE E) (fun g' w' => w.heap.size ≤ w'.heap.size ∧ Q g' w') g w :=
  h.bind fun g w1 x => .stop fun w2 r2 => by
    have hx : EndQ w g w2 := ⟨x.1, atRl x.2 r2⟩
    exact ⟨by rw [size_at hx.2]; exact Nat.le_refl _, hQ _ _ (hB.end_ hx)⟩
/-- behind the third call -/
theorem go3 {vx vy : Value} {ex ey : Int} (hJ : JobsIn W (fun _ => False) aJ N D) (hD : ∀ k, k < N → (D k).length ≤ 5864062014634) (hN : N ≤ 5864062014634) (hc : N ≤ capJ) (hB : Base W Old w) (hsz : T.size = 157) (t0 : T[0]? = some (.int .i64 a)) (t2 : T[2]? = some (.slice aJ N capJ)) (t3 : T[3]? = some (.int .i64 k)) (t11 : T[11]? = some vx) (t12 : T[12]? = some (.int .i64 ex))
    (hx : (1 ≤ a ∧ a ≤ 8 ∧ ex = 0 ∧ ∃ C, vx = .slice (some ⟨C, 0, none⟩) N N ∧ Got w Old C N D) ∨ (¬ (1 ≤ a ∧ a ≤ 8) ∧ ex = 1 ∧ vx = .slice none 0 0)) (hy : (ey = 0 ∧ ∃ C, vy = .slice (some ⟨C, 0, none⟩) N N ∧ Got w Old C N D) ∨ ey = 1) :
    Q3 W Old (G ((b3.at ⟨T, []⟩ (.inRegion ops5m [2, 3, 4, 5, 6, 7] :: [.code rest5m])).finish (.tuple #[vy, .int .i64 ey])) []) w := by
  unfold Q3 WalkTo
  rcases hx with ⟨ha1, ha8, rfl, Cx, rfl, gx⟩ | ⟨_, rfl, _⟩
  · rcases hy with ⟨rfl, Cy, rfl, gy⟩ | rfl
    · refine seg4 hsz t0 t2 t3 t11 t12 (atRel_refl w) fun T' w' hs' t0' t2' t3' t11' t13' t90' t91' hA => ?_
      refine (loopGo hN gx gy hD N 0 _ w' (by omega) ⟨⟨T', hs', t0', t2', t3', t11', t13', t90', t91', rfl⟩, hA⟩).bind fun g w1 hH => ?_
      rcases Nat.eq_zero_or_pos N with rfl | hpos
      · refine (seg6z hH).bind fun g w2 x => .stop fun w3 r3 => ?_
        have hx : EndQ w g w3 := ⟨x.1, atRl x.2 r3⟩
        exact ⟨by rw [size_at hx.2]; exact Nat.le_refl _, .inl (hB.end_ hx)⟩
      · obtain ⟨kk, hkk, hwi⟩ := withinGz (E := EvI (ShO Old) w.heap.size w.heap.size) (W := w) hpos hN k
        have hJw := hJ.base hB
        obtain ⟨J, oJ, _, _, _, rfl, _⟩ := hJw.job kk hkk
        refine seg6 hpos hN hc hkk hwi hH fun T2 w2 hs2 u3 u11 hA2 => .stop fun w3 r3 => ?_
        have hA3 := atRl hA2 r3
        refine ⟨by rw [size_at hA3]; exact Nat.le_refl _, .inr ⟨a, _, 1, _, _, [], _, rfl, by omega, (hJw.one hkk).rely hA3, fun Old' v e w4 hR => ?_⟩⟩
        unfold Q4 WalkTo
        have hB4 : Base W Old' w4 := (hB.rely hA3).run hR
        have gx4 : Got w4 Old' Cx N D := (gx.rely hA3).later hR.blk hR.size fun b h => (hR.old b h).imp id fun x => x.1
        rcases hR.res with ⟨_, _, rfl, Cz, rfl, gz⟩ | ⟨hn, _⟩
        · obtain ⟨z0, z1, F, p1, p2, p3, p4⟩ := gz.res 0 (by omega)
          obtain ⟨u0, u1, F', r1, r2, r3', r4⟩ := gx4.res kk hkk
          obtain ⟨q5, _⟩ := told_eq p1 r1 p4 r4 (by rw [runR_len]; exact hD kk hkk)
          rw [Nat.mul_comm] at r2
          exact goEnd hB4 (seg7 hs2 u3 u11 hkk p2 r2 (evOf gx4.lt gx4.new) (evOf gz.lt gz.new) q5 (atRel_refl w4)) fun _ _ x => x
        · exact absurd ⟨ha1, ha8⟩ hn
    · exact goEnd hB (seg4y hsz t12 (atRel_refl w)) fun _ _ x => .inl x
  · exact goEnd hB (seg4x hsz t12 (atRel_refl w)) fun _ _ x => .inl x
theorem go2 {vx : Value} {ex : Int} (hJ : JobsIn W (fun _ => False) aJ N D) (hD : ∀ k, k < N → (D k).length ≤ 5864062014634) (hN : N ≤ 5864062014634) (hc : N ≤ capJ) (hB : Base W Old w) (hsz : T.size = 157) (t0 : T[0]? = some (.int .i64 a)) (t1 : T[1]? = some (.int .i64 b)) (t2 : T[2]? = some (.slice aJ N capJ)) (t3 : T[3]? = some (.int .i64 k))
    (hx : (1 ≤ a ∧ a ≤ 8 ∧ ex = 0 ∧ ∃ C, vx = .slice (some ⟨C, 0, none⟩) N N ∧ Got w Old C N D) ∨ (¬ (1 ≤ a ∧ a ≤ 8) ∧ ex = 1 ∧ vx = .slice none 0 0)) :
    Q2 W Old (G ((b3.at ⟨T, []⟩ (.inRegion ops4m [2, 3, 4, 5, 6, 7] :: [.code rest4m])).finish (.tuple #[vx, .int .i64 ex])) []) w := by
  unfold Q2 WalkTo
  refine seg3 hsz t0 t1 t2 t3 (atRel_refl w) fun T' w' hs' t0' t2' t3' t11' t12' hA => .stop fun w1 r1 => ?_
  have hA1 := atRl hA r1
  refine ⟨by rw [size_at hA1]; exact Nat.le_refl _, b, _, N, capJ, _, [], D, rfl, hN, (hJ.base hB).rely hA1, fun Old' v e w2 hR => ?_⟩
  refine go3 hJ hD hN hc ((hB.rely hA1).run hR) hs' t0' t2' t3' t11' t12' ?_ ?_
  · rcases hx with ⟨h1, h2, h3, C, h4, h5⟩ | h
    · exact .inl ⟨h1, h2, h3, C, h4, (h5.rely hA1).later hR.blk hR.size fun b h => (hR.old b h).imp id fun x => x.1⟩
    · exact .inr h
  · rcases hR.res with ⟨_, _, h3, C, h4, h5⟩ | ⟨_, h, _⟩
    · exact .inl ⟨h3, C, h4, h5⟩
    · exact .inr h
theorem go1 {v : Value} {e : Int} (hJ : JobsIn W (fun _ => False) aJ N D) (hD : ∀ k, k < N → (D k).length ≤ 5864062014634) (hN : N ≤ 5864062014634) (hc : N ≤ capJ) (hB : Base W Old w) (hsz : T.size = 157) (t0 : T[0]? = some (.int .i64 a)) (t1 : T[1]? = some (.int .i64 b)) (t2 : T[2]? = some (.slice aJ N capJ)) (t3 : T[3]? = some (.int .i64 k))
    (he : e = 0) {C : Nat} (hv : v = .slice (some ⟨C, 0, none⟩) 1 1) (hg : Got w Old C 1 fun _ => d0cs) :
    Q1 W Old (G ((b3.at ⟨T, []⟩ (.inRegion ops1m [4, 5, 6, 7, 8, 9] :: .code rest1m :: [.code rest2m])).finish (.tuple #[v, .int .i64 e])) []) w := by
  subst he hv
  obtain ⟨v0, v1, F, ⟨ad1, c1, ad2, c2, rfl, rfl, s1, s2⟩, r2, r3, r4⟩ := hg.res 0 (by omega)
  rw [told0] at s1
  obtain ⟨bt, rfl, hbt, hcells⟩ := s1 (by simp)
  have x2 := hcells 2 (by simp)
  have x3 := hcells 3 (by simp)
  unfold Q1 WalkTo
  refine seg2 hsz t0 t1 t2 t3 r2 x2 x3 (evOf hg.lt hg.new) (evOf (r4 bt hbt).1 (r4 bt hbt).2) (atRel_refl w) fun T' w' hs' t0' t1' t2' t3' hA => .stop fun w1 r1 => ?_
  have hA1 := atRl hA r1
  refine ⟨by rw [size_at hA1]; exact Nat.le_refl _, a, _, N, capJ, _, [], D, rfl, hN, (hJ.base hB).rely hA1, fun Old' v e w2 hR => ?_⟩
  exact go2 hJ hD hN hc ((hB.rely hA1).run hR) hs' t0' t1' t2' t3' hR.res
theorem baseA (w' : World) (h : AtRel (wA2 W) w') : Base W (fun _ => False) w' := by
  obtain ⟨d, rfl⟩ := h
  refine ⟨fun b hb => ?_, by rw [at_size]; simp [wA2, wA1]; omega, rfl, rfl, rfl, fun b h => h.elim⟩
  exact (Below.heap_alloc _ _ _ (by simp [wA1]; omega)).trans (Below.heap_alloc _ _ _ hb)
theorem jobs0 (w' : World) (h : AtRel (wA2 W) w') : JobsIn w' (fun _ => False) (some ⟨W.heap.size + 1, 0, none⟩) 1 (fun _ => d0cs) := by
  obtain ⟨d, rfl⟩ := h
  have s1 : (wA1 W).heap.size = W.heap.size + 1 := by simp [wA1]
  have s2 : (wA2 W).heap.size = W.heap.size + 2 := by simp [wA2, s1]
  have e1 : (wA2 W).heap[W.heap.size + 1]? = some (.cells #[.slice (some ⟨W.heap.size, 0, none⟩) 2 2] 29) := newAt _ _ s1
  have e0 : (wA2 W).heap[W.heap.size]? = some (.cells #[.int .i64 1, .int .i64 1, .string ⟨#[97]⟩, .string ⟨#[]⟩, .int .i64 7, .int .i64 0, .string ⟨#[]⟩, .string ⟨#[]⟩] 28) := (Below.heap_alloc _ _ _ (by omega)).trans (newAt _ _ rfl)
  refine ⟨fun b h => h.elim, fun k hk => ?_⟩
  obtain rfl : k = 0 := by omega
  refine ⟨W.heap.size + 1, 0, some ⟨W.heap.size, 0, none⟩, 2, 2, rfl, by rw [at_size, s2]; omega, fun h => h, ?_, ⟨rfl, fun _ => ⟨W.heap.size, 0, rfl, by rw [at_size, s2]; omega, fun i hi => ?_⟩, ?_⟩, by omega, fun ad ha => ?_⟩
  · rw [at_cell]; simp only [World.cell?, e1]; rfl
  · rw [at_cell, Nat.zero_add]
    simp only [World.cell?, e0]
    have hi : i < 8 := hi
    match i, hi with
    | 0, _ => rfl
    | 1, _ => rfl
    | 2, _ => rfl
    | 3, _ => rfl
    | 4, _ => rfl
    | 5, _ => rfl
    | 6, _ => rfl
    | 7, _ => rfl
  · intro x hx
    simp only [d0cs, List.mem_cons, List.not_mem_nil, or_false] at hx
    rcases hx with rfl | rfl <;> decide
  · cases ha
    exact .inr ⟨by rw [at_size, s2]; show W.heap.size < _; omega, fun h => h, rfl, _, _, _, e0⟩
theorem go0 (hJ : JobsIn W (fun _ => False) aJ N D) (hD : ∀ k, k < N → (D k).length ≤ 5864062014634) (hN : N ≤ 5864062014634) (hc : N ≤ capJ) :
    WalkTo (fun _ => False) (CallQ (Q1 W) fun _ => False) (G (Frame.enter Try.prog 3 #[.int .i64 a, .int .i64 b, .slice aJ N capJ, .int .i64 k] .normal) []) W := by
  unfold WalkTo
  refine seg1 (atRel_refl W) fun T w' hs t0 t1 t2 t3 hA => .stop fun w1 r1 => ?_
  have hA1 := atRl hA r1
  have hB := baseA w1 hA1
  refine ⟨hB.size, 2, _, 1, 1, _, [], _, rfl, by omega, jobs0 w1 hA1, fun Old' v e w2 hR => ?_⟩
  rcases hR.res with ⟨_, _, h3, C, h4, h5⟩ | ⟨h, _⟩
  · exact go1 hJ hD hN hc (hB.run hR) hs t0 t1 t2 t3 h3 h4 h5
  · exact absurd ⟨by omega, by omega⟩ h
theorem ti0 (B : Nat) : TI (ShO fun _ => False) B 1 B #[] := by
  have e : ShO (fun _ => False) = fun _ => False := by
    funext l
    exact propext ⟨fun ⟨_, _, h⟩ => h, False.elim⟩
  rw [e]
  exact ⟨past_nil.mono (Nat.zero_le _), fun op h => by simp at h, fun x b h => by simp [touchAt, Trace.act?] at h⟩
/-- castkeep.ManyAlike: the machine comes to its end -/
theorem manyGets (hJ : JobsIn W (fun _ => False) aJ N D) (hD : ∀ k, k < N → (D k).length ≤ 5864062014634) (hN : N ≤ 5864062014634) (hc : N ≤ capJ) :
    Gets Try.prog (crowd #[G (Frame.enter Try.prog 3 #[.int .i64 a, .int .i64 b, .slice aJ N capJ, .int .i64 k] .normal) []] W none) #[] fun m t => ∃ Old, MS Old (EndAll W) m t := by
  have h0 : MS (fun _ => False) (WalkTo (fun _ => False) (CallQ (Q1 W) fun _ => False)) (crowd #[G (Frame.enter Try.prog 3 #[.int .i64 a, .int .i64 b, .slice aJ N capJ, .int .i64 k] .normal) []] W none) #[] :=
    ⟨_, _, W, none, fun _ => 0, rfl, rfl, leavers_one _ _, ti0 _, fun b h => h.elim, go0 hJ hD hN hc⟩
  refine (ms_walk h0).bind fun m t h => (ms_run h).bind ?_
  rintro m t ⟨O1, h⟩
  refine (ms_walk h).bind fun m t h => (ms_run h).bind ?_
  rintro m t ⟨O2, h⟩
  refine (ms_walk h).bind fun m t h => (ms_run h).bind ?_
  rintro m t ⟨O3, h⟩
  refine (ms_walk h).bind fun m t h => ?_
  obtain ⟨gs, g, w, sl, q, e1, e2, e3, e4, e5, h6 | h6⟩ := h
  · exact .stop ⟨O3, gs, g, w, sl, q, e1, e2, e3, e4, e5, h6⟩
  · refine (ms_run ⟨gs, g, w, sl, q, e1, e2, e3, e4, e5, h6⟩).bind ?_
    rintro m t ⟨O4, h⟩
    exact (ms_walk h).mono fun m t h => ⟨O4, h⟩
/-- ████ THE RUN: castkeep.ManyAlike, ON WHATEVER TAPE ████ -/
theorem manyRun (hJ : JobsIn W (fun _ => False) aJ N D) (hD : ∀ k, k < N → (D k).length ≤ 5864062014634) (hN : N ≤ 5864062014634) (hc : N ≤ capJ) :
    ∃ M last o w' t', runNT Try.prog (M + 1) (solo (G (Frame.enter Try.prog 3 #[.int .i64 a, .int .i64 b, .slice aJ N capJ, .int .i64 k] .normal) []) W) #[] = (.ended o w', t') ∧
      runN Try.prog M (solo (G (Frame.enter Try.prog 3 #[.int .i64 a, .int .i64 b, .slice aJ N capJ, .int .i64 k] .normal) []) W) = .next last ∧ step Try.prog last = .ended o w' ∧
      Go.Conc.Good Try.prog (fun v w' => v = .bool true ∧ Below W.heap.size W w') last o w' t' := by
  rw [solo_eq_crowd]
  obtain ⟨K, m', t', hrun, Old, gs, g, w, sl, q, rfl, h0, hL, hI, hO, ⟨T, todo, t8, rfl⟩, hBel⟩ := manyGets (a := a) (b := b) (k := k) hJ hD hN hc
  have hstop : ∀ w1, AtRel w w1 → AtEnd Try.prog (ShO Old) w.heap.size (fun v w' => v = .bool true ∧ Below W.heap.size W w') (G { b3.at ⟨T, []⟩ todo with mode := .returning } []) w1 := by
    rintro w1 ⟨d, rfl⟩
    refine ⟨rfl, .bool true, #[], ?_, by simp, rfl, hBel.os, hBel.tape, hBel.output, hBel.size, hBel.block⟩
    simp [G, stepG, unwind, doReturn, results, Frame.at, base, Try.func3, Try.f3, seen, GStep.after, t8]
  obtain ⟨K2, last, o, w', t2, e1, e2, e3, e4⟩ := beside_ends (P := Try.prog) (D := DE (EvL (ShO Old) w.heap.size)) (n := 0) (sl := sl) (fun _ _ _ h => h) h0 hL hI.past hstop
  refine ⟨K + K2, last, o, w', t2, ?_, ?_, e3, e4⟩
  · rw [Nat.add_assoc, runNT_add, hrun]; exact e1
  · rw [runN_add, ← runNT_fst Try.prog _ _ #[], hrun]; exact e2
end
end Go.Proofs.Ytjplnkkcmkpkbaa
