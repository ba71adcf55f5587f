/- Several of my texts in one: Arr2, OddM, SlEq2. -/
import Derived.Test.YtooghdnlaonkaaaRw06
import Derived.Laws.CopyOwn
import Derived.Test.YtooghdnlaonkaaaRw03
/- copy into a call's own slice; capacities. -/
namespace Go.Proofs.Ytooghdnlaonkaaa
open Go.RowKit

theorem Fr.cap {w0 w : World} {L : List Ent} {T : TypeId} {ad : Option Addr} {n cap : Nat} {xs : List Value} (h : Fr w0 w (⟨T, .slice ad n cap, xs⟩ :: L)) : n ≤ cap := by
  rcases (h.os.own _ List.mem_cons_self).elim with ⟨rfl, ⟨rfl, rfl, rfl⟩ | ⟨g, cur, rfl, h2, h3, h4, h5, h6, h7⟩⟩
  · simp
  · exact h4
theorem Fr.setRow {w0 w : World} {L : List Ent} {T : TypeId} {g n cap : Nat} {xs : List Value} (h : Fr w0 w (⟨T, .slice (some ⟨g, 0, none⟩) n cap, xs⟩ :: L)) (cur : Array Value) (hg : w.heap[g]? = some (.cells cur T (0, 0)))
    (cs : Array Value) (hs : cs.size = cur.size) (ys : List Value) (hy : cs.toList.take n = ys) :
    Fr w0 (w.setRow g cs) (⟨T, .slice (some ⟨g, 0, none⟩) n cap, ys⟩ :: L) := by
  have hO := h.os.own _ List.mem_cons_self
  have hbg := (Ent.own.lt hO g rfl).1
  obtain ⟨hn, h1⟩ := hO.elim
  rcases h1 with ⟨h1, _⟩ | ⟨g', cur', h1, h2, h3, h4, h5, h6, h7⟩
  · cases h1
  · cases h1
    rw [hg] at h3
    cases h3
    have hgr : w.grownBy (w.setRow g cs) (some g) := ⟨rfl, rfl, rfl, by simp, fun k _ hk => setRow_other w g k cs (fun e => hk (by rw [e]))⟩
    have hyl : ys.length = n := by rw [← hy, List.length_take]; simp; omega
    refine ⟨below_setRow h.bel hbg _, ⟨fun e he => ?_, ?_⟩⟩
    · rcases List.mem_cons.1 he with rfl | he
      · refine ⟨by simp, .inr ⟨g, cap, cs, ?_, hbg, setRow_heap w g cur cs T _ hg, ?_, h5, by simp; omega, ?_⟩⟩
        · show Value.slice _ n cap = .slice _ ys.length cap; rw [hyl]
        · show ys.length ≤ cap; omega
        · show cs.toList.take (ys.length * 1) = ys; rw [Nat.mul_one, hyl]; exact hy
      · refine World.ownsRow.kept (h.os.own e (List.mem_cons_of_mem _ he)) hgr ?_
        exact ((List.pairwise_cons.1 h.os.far).1 e he).symm
    · have := List.pairwise_cons.1 h.os.far
      exact List.pairwise_cons.2 ⟨fun b hb => this.1 b hb, this.2⟩

theorem Sl.drewN {w : World} {v : Value} {l : List Int} (h : Sl w v l) (n : Nat) : Sl (w.drewN n) v l := h.keep ⟨rfl, rfl, rfl, Nat.le_refl _, fun _ _ => rfl⟩
theorem Sa.drewN {w : World} {a : Option Addr} {xs : List Value} (h : Sa w a xs) (n : Nat) : Sa (w.drewN n) a xs := h.keep ⟨rfl, rfl, rfl, Nat.le_refl _, fun _ _ => rfl⟩
/-- selects the operation that writes slot n -/
theorem at_slot (n : Nat) {P : Program} {ops : Array Oper} {Q : Exit → Act → World → Prop} {rest : List Oper} {a : Act} {w : World} {op : Op} {ty : TypeId} {pos : String} {af : Array Edge} {gd : Option (Nat × Bool)}
    (h : wpList P ops Q (⟨some n, op, ty, pos, af, gd⟩ :: rest) a w) : wpList P ops Q (⟨some n, op, ty, pos, af, gd⟩ :: rest) a w := h
/-- min of two, three, four: the walk takes it for a rule -/
theorem run_min2 (ts : Array TypeId) (t : TypeId) (x : Nat) (z : Int) (n : Nat) (h1 : n ≤ x) (h2 : (n : Int) ≤ z) (h : n = x ∨ (n : Int) = z) (w : World) :
    Sem.run Try.prog (Builtin.min_ ts t #[.int .i64 (x : Int), .int .i64 z]) w = .ok (.int .i64 (n : Int)) w := by
  simp only [Builtin.min_, List.foldlM_cons, List.foldlM_nil, Builtin.min2, pure_bind]
  rw [show (if z < (x : Int) then z else (x : Int)) = (n : Int) from by split <;> omega]
  rfl
theorem run_min3 (ts : Array TypeId) (t : TypeId) (x y : Nat) (z : Int) (n : Nat) (h1 : n ≤ x) (h2 : n ≤ y) (h3 : (n : Int) ≤ z) (h : n = x ∨ n = y ∨ (n : Int) = z) (w : World) :
    Sem.run Try.prog (Builtin.min_ ts t #[.int .i64 (x : Int), .int .i64 (y : Int), .int .i64 z]) w = .ok (.int .i64 (n : Int)) w := by
  simp only [Builtin.min_, List.foldlM_cons, List.foldlM_nil, Builtin.min2, pure_bind]
  rw [show (if z < (if (y : Int) < (x : Int) then (y : Int) else (x : Int)) then z else (if (y : Int) < (x : Int) then (y : Int) else (x : Int))) = (n : Int) from by split <;> split <;> omega]
  rfl
theorem run_min4 (ts : Array TypeId) (t : TypeId) (x y u : Nat) (z : Int) (n : Nat) (h1 : n ≤ x) (h2 : n ≤ y) (h2' : n ≤ u) (h3 : (n : Int) ≤ z) (h : n = x ∨ n = y ∨ n = u ∨ (n : Int) = z) (w : World) :
    Sem.run Try.prog (Builtin.min_ ts t #[.int .i64 (x : Int), .int .i64 (y : Int), .int .i64 (u : Int), .int .i64 z]) w = .ok (.int .i64 (n : Int)) w := by
  simp only [Builtin.min_, List.foldlM_cons, List.foldlM_nil, Builtin.min2, pure_bind]
  rw [show (if z < (if (u : Int) < (if (y : Int) < (x : Int) then (y : Int) else (x : Int)) then (u : Int) else (if (y : Int) < (x : Int) then (y : Int) else (x : Int))) then z else (if (u : Int) < (if (y : Int) < (x : Int) then (y : Int) else (x : Int)) then (u : Int) else (if (y : Int) < (x : Int) then (y : Int) else (x : Int)))) = (n : Int) from by repeat' split <;> omega]
  rfl
theorem ints_one (l : List Int) : ∀ v ∈ ints l, v.oneCell' = true := ints_oneCell .i64 l
theorem intSize : (Try.prog.info? 3).map (·.size) = some 1 := by kernel_rfl
/-- a slice literal -/
theorem Fr.lit {w0 w : World} {L : List Ent} (h : Fr w0 w L) (l : List Int) (cs : Array Value) (e : cs.toList = ints l) (n : Nat) (hn : n = l.length) (hl : n ≤ 1000000) (T : TypeId) :
    Fr w0 (w.alloc (.cells cs T)) (⟨T, .slice (some ⟨w.heap.size, 0, none⟩) n n, ints l⟩ :: L) := h.new T cs (ints l) e n (by rw [ints_len]; exact hn) hl
theorem Fr.lit' {w0 w : World} {L : List Ent} (h : Fr w0 w L) (l : List Int) (cs : Array Value) (e : cs.toList = ints l) (n : Nat) (hn : n = l.length) (hl : n ≤ 1000000) (T : TypeId) (N : Nat) (hN : w.heap.size = N) :
    Fr w0 (w.alloc (.cells cs T)) (⟨T, .slice (some ⟨N, 0, none⟩) n n, ints l⟩ :: L) := by subst hN; exact h.lit l cs e n hn hl T
theorem Fr.makeInts' {w0 w : World} {L : List Ent} (h : Fr w0 w L) (n : Nat) (hl : n ≤ 1000000) (N : Nat) (hN : w.heap.size = N) :
    Fr w0 (w.alloc (.cells (rowCells n (fun _ => 0)) 3)) (⟨3, .slice (some ⟨N, 0, none⟩) n n, ints (List.replicate n 0)⟩ :: L) := by subst hN; exact h.makeInts n hl
theorem Sa.sl' {w : World} {a : Option Addr} {l : List Int} (h : Sa w a (ints l)) (n cap : Nat) (hn : l.length = n) : Sl w (.slice a n cap) l := by subst hn; exact h.sl
/-- copy into the first of them, from its head on -/
theorem wpList_copyFr {ops : Array Oper} {rest : List Oper} {o : Oper} {a : Act} {Q : Exit → Act → World → Prop} {w0 w : World} (hgd : o.guard = none) (d s : Operand) (S S' T : TypeId)
    (hS : Try.prog.underlying S = some (.slice T)) (hsz : (Try.prog.info? T).map (·.size) = some 1)
    (ho : o.op = .call { callee := .builtin .copy, args := #[d, s], argTypes := #[S, S'] })
    (ad sp : Option Addr) (n cap m scap : Nat) (xs ys : List Value) (L : List Ent) (hd : a.eval d = .slice ad n cap) (hs : a.eval s = .slice sp m scap) (hF : Fr w0 w (⟨T, .slice ad n cap, xs⟩ :: L))
    (hY : Sa w sp ys) (hm : ys.length = m) (hmn : m ≤ n) (h1 : ∀ v ∈ ys, v.oneCell' = true)
    (h : ∀ w', Fr w0 w' (⟨T, .slice ad n cap, ys ++ xs.drop m⟩ :: L) → w.heap.size ≤ w'.heap.size → wpList Try.prog ops Q rest (a.put o.dst (goInt m)) w') :
    wpList Try.prog ops Q (o :: rest) a w := by
  by_cases h0 : m = 0
  · subst h0
    obtain rfl := List.eq_nil_of_length_eq_zero hm
    refine wpList_copy_nothing hgd d s S S' ho T hS hsz ad sp n cap 0 scap hd hs (by simp) ?_
    exact h w hF (Nat.le_refl _)
  · obtain ⟨b, off, rfl, hb, hc⟩ := hY (by omega)
    have hO := hF.os.own _ List.mem_cons_self
    obtain ⟨hn, h2⟩ := hO.elim
    rcases h2 with ⟨_, _, rfl⟩ | ⟨g, cur, rfl, h2, h3, h4, h5, h6, h7⟩
    · simp at hn; omega
    · refine wpList_copy_own hgd d s S S' ho T hS hsz g 0 n cap ⟨b, off, none⟩ m scap hd hs cur T h3 ys (by rw [hm]; exact (Nat.min_eq_left hmn).symm) ?_ (by omega) h1 ?_
      · intro j v hj
        have hjl : j < ys.length := (List.getElem?_eq_some_iff.1 hj).1
        have := hc j hjl
        rw [show ((⟨b, off, none⟩ : Addr).add j) = ⟨b, off + j, none⟩ from by unfold Addr.add; split <;> simp_all, this, hj]
      · rw [hm]
        refine h _ (hF.setRow cur h3 _ ?_ _ ?_) (by simp)
        · simp; omega
        · simp only [List.take_zero, List.nil_append, Nat.zero_add]
          rw [← h7, List.take_append, hm, List.take_of_length_le (by omega), List.take_drop, show m + (n - m) = n from by omega]
end Go.Proofs.Ytooghdnlaonkaaa
/- Plain mathematics of odds: weighted sums. -/
namespace Go.Proofs.Ytooghdnlaonkaaa

structure OddOk (vs ws : List Int) : Prop where
  n1 : 1 ≤ vs.length
  n12 : vs.length ≤ 12
  len : ws.length = vs.length
  val : ∀ k, k < vs.length → -20 ≤ nth vs k ∧ nth vs k ≤ 20 ∧ 1 ≤ nth ws k ∧ nth ws k ≤ 100
def oddBad (x y : Int) : Bool := decide (x < -20 ∨ 20 < x ∨ y < 1 ∨ 100 < y)
/-- what odds.Check says -/
def chkO (vs ws : List Int) : Int := if vs.length < 1 ∨ 12 < vs.length then 2 else if ws.length ≠ vs.length then 3 else if (List.range vs.length).any (fun k => oddBad (nth vs k) (nth ws k)) then 1 else 0
theorem chkO_ok {vs ws : List Int} (h : chkO vs ws = 0) : OddOk vs ws := by
  unfold chkO at h
  split at h
  · omega
  · split at h
    · omega
    · split at h
      · omega
      · next h1 h2 h3 =>
        refine ⟨by omega, by omega, by omega, fun k hk => ?_⟩
        have h4 : ¬ (oddBad (nth vs k) (nth ws k) = true) := fun e => h3 (List.any_eq_true.2 ⟨k, List.mem_range.2 hk, e⟩)
        simp only [oddBad, decide_eq_true_eq] at h4
        omega
theorem chkO_of {vs ws : List Int} (h : OddOk vs ws) : chkO vs ws = 0 := by
  obtain ⟨h1, h2, h3, h4⟩ := h
  unfold chkO
  rw [if_neg (by omega), if_neg (by omega), if_neg]
  intro h
  obtain ⟨k, hk, e⟩ := List.any_eq_true.1 h
  have := h4 k (List.mem_range.1 hk)
  simp only [oddBad, decide_eq_true_eq] at e
  omega

/-- the first k weights, each times a number of its value, together -/
def wsK (F : Int → Int) (vs ws : List Int) : Nat → Int
  | 0 => 0
  | k + 1 => wsK F vs ws k + nth ws k * F (nth vs k)
def oW (vs ws : List Int) : Int := wsK (fun _ => 1) vs ws vs.length
def oA (vs ws : List Int) : Int := wsK (fun x => x) vs ws vs.length
def oB (vs ws : List Int) : Int := wsK (fun x => x * x) vs ws vs.length
theorem wsK_bd {vs ws : List Int} (h : OddOk vs ws) (F : Int → Int) (A : Int) (hA : 0 ≤ A) (hF : ∀ x, -20 ≤ x → x ≤ 20 → -A ≤ F x ∧ F x ≤ A) : ∀ k : Nat, k ≤ vs.length → -(100 * A * k) ≤ wsK F vs ws k ∧ wsK F vs ws k ≤ 100 * A * k
  | 0, _ => by simp [wsK]
  | k + 1, hk => by
    have ih := wsK_bd h F A hA hF k (by omega)
    obtain ⟨v1, v2, v3, v4⟩ := h.val k (by omega)
    have hf := hF _ v1 v2
    have m := mul_bdI (nth ws k) (F (nth vs k)) 100 A (by omega) hf
    rw [wsK]
    have e : 100 * A * ((k + 1 : Nat) : Int) = 100 * A * k + 100 * A := by grind
    rw [e]; omega
theorem term_bd {vs ws : List Int} (h : OddOk vs ws) (F : Int → Int) (hF : ∀ x, -20 ≤ x → x ≤ 20 → -400 ≤ F x ∧ F x ≤ 400) (k : Nat) (hk : k < vs.length) : -40000 ≤ nth ws k * F (nth vs k) ∧ nth ws k * F (nth vs k) ≤ 40000 := by
  obtain ⟨v1, v2, v3, v4⟩ := h.val k hk
  exact mul_bdI (nth ws k) (F (nth vs k)) 100 400 (by omega) (hF _ v1 v2)
theorem oW_bd {vs ws : List Int} (h : OddOk vs ws) : 1 ≤ oW vs ws ∧ oW vs ws ≤ 1200 := by
  have hk : ∀ k : Nat, k ≤ vs.length → (k : Int) ≤ wsK (fun _ => 1) vs ws k ∧ wsK (fun _ => 1) vs ws k ≤ 100 * k := fun k => by
    induction k with
    | zero => intro _; simp [wsK]
    | succ k ih =>
      intro hk
      have := ih (by omega)
      have := h.val k (by omega)
      rw [wsK]; omega
  have := hk vs.length (Nat.le_refl _)
  have := h.n1; have := h.n12
  unfold oW; omega
theorem oA_bd {vs ws : List Int} (h : OddOk vs ws) : -24000 ≤ oA vs ws ∧ oA vs ws ≤ 24000 := by
  have := wsK_bd h (fun x => x) 20 (by omega) (fun x a b => by omega) vs.length (Nat.le_refl _)
  have := h.n12
  unfold oA; omega
theorem sq_bd (x : Int) (h1 : -20 ≤ x) (h2 : x ≤ 20) : 0 ≤ x * x ∧ x * x ≤ 400 := by
  have := mul_bdI x x 20 20 ⟨h1, h2⟩ ⟨h1, h2⟩
  exact ⟨by rcases Int.le_total 0 x with h | h; exact Int.mul_nonneg h h; exact Int.mul_nonneg_of_nonpos_of_nonpos h h, by omega⟩
theorem mul_self_nn (x : Int) : 0 ≤ x * x := by
  rcases Int.le_total 0 x with h | h
  · exact Int.mul_nonneg h h
  · exact Int.mul_nonneg_of_nonpos_of_nonpos h h
theorem wsK_nn {vs ws : List Int} (h : OddOk vs ws) (F : Int → Int) (hF : ∀ x, 0 ≤ F x) : ∀ k : Nat, k ≤ vs.length → 0 ≤ wsK F vs ws k
  | 0, _ => by simp [wsK]
  | k + 1, hk => by
    have ih := wsK_nn h F hF k (by omega)
    have := h.val k (by omega)
    have := Int.mul_nonneg (show 0 ≤ nth ws k by omega) (hF (nth vs k))
    rw [wsK]; omega
theorem oB_bd {vs ws : List Int} (h : OddOk vs ws) : 0 ≤ oB vs ws ∧ oB vs ws ≤ 480000 := by
  have := wsK_bd h (fun x => x * x) 400 (by omega) (fun x a b => by have := sq_bd x a b; omega) vs.length (Nat.le_refl _)
  have := h.n12
  have := wsK_nn h (fun x => x * x) mul_self_nn vs.length (Nat.le_refl _)
  unfold oB; omega
/-- linear in the function -/
theorem wsK_dev (vs ws : List Int) (c d : Int) : ∀ k, wsK (fun x => (c - d * x) * (c - d * x)) vs ws k = c * c * wsK (fun _ => 1) vs ws k - 2 * c * d * wsK (fun x => x) vs ws k + d * d * wsK (fun x => x * x) vs ws k
  | 0 => by simp [wsK]
  | k + 1 => by
    rw [wsK, wsK, wsK, wsK, wsK_dev vs ws c d k]; grind
/-- the inequality of Cauchy and Schwarz -/
theorem odd_cs {vs ws : List Int} (h : OddOk vs ws) : 0 ≤ oW vs ws * oB vs ws - oA vs ws * oA vs ws := by
  have hw := oW_bd h
  have h1 := wsK_nn h (fun x => (oA vs ws - oW vs ws * x) * (oA vs ws - oW vs ws * x)) (fun x => mul_self_nn _) vs.length (Nat.le_refl _)
  rw [wsK_dev] at h1
  have e : oA vs ws * oA vs ws * oW vs ws - 2 * oA vs ws * oW vs ws * oA vs ws + oW vs ws * oW vs ws * oB vs ws = oW vs ws * (oW vs ws * oB vs ws - oA vs ws * oA vs ws) := by grind
  have h2 : 0 ≤ oW vs ws * (oW vs ws * oB vs ws - oA vs ws * oA vs ws) := by rw [← e]; exact h1
  rcases Int.lt_or_le (oW vs ws * oB vs ws - oA vs ws * oA vs ws) 0 with h3 | h3
  · have := Int.mul_neg_of_pos_of_neg (show 0 < oW vs ws by omega) h3
    omega
  · exact h3
def sP (vs ws : List Int) : Int := oW vs ws * oB vs ws - oA vs ws * oA vs ws
def sQ (vs ws : List Int) : Int := oW vs ws * oW vs ws
theorem sPQ_bd {vs ws : List Int} (h : OddOk vs ws) : 0 ≤ sP vs ws ∧ sP vs ws ≤ 576000000 ∧ 1 ≤ sQ vs ws ∧ sQ vs ws ≤ 1440000 := by
  have h1 := oW_bd h; have h2 := oA_bd h; have h3 := oB_bd h
  have m1 := mul_bdI (oW vs ws) (oB vs ws) 1200 480000 (by omega) (by omega)
  have m2 := mul_self_nn (oA vs ws)
  have m3 := mul_bdI (oW vs ws) (oW vs ws) 1200 1200 (by omega) (by omega)
  have m4 := Int.mul_pos (show 0 < oW vs ws by omega) (show 0 < oW vs ws by omega)
  have := odd_cs h
  unfold sP sQ; omega
end Go.Proofs.Ytooghdnlaonkaaa
/- slices.Equal over ints, whatever they hold. -/
namespace Go.Proofs.Ytooghdnlaonkaaa
open Go.RowKit

def RetB (b : Bool) (w : World) (e : Ending) (w' : World) : Prop := e = .returned (.bool b) ∧ Fr w w' []
theorem eq_of_take {l m : List Int} {n : Nat} (hl : l.length = n) (hm : m.length = n) (h : ∀ i, i < n → nth l i = nth m i) : decide (l = m) = true :=
  decide_eq_true (ext_nth (by omega) (fun i hi => h i (by omega)))
theorem ne_of_nth {l m : List Int} (i : Nat) (h : nth l i ≠ nth m i) : decide (l = m) = false := decide_eq_false (fun e => h (by rw [e]))
theorem ne_of_len {l m : List Int} (h : l.length ≠ m.length) : decide (l = m) = false := decide_eq_false (fun e => h (by rw [e]))

set_option maxHeartbeats 1000000 in
theorem slEqual (l m : List Int) (n k : Nat) (a b : Option Addr) (ca cb : Nat) (w : World) (h : Sa w a (ints l)) (h' : Sa w b (ints m)) (hn : l.length = n) (hk : m.length = k) (hl : n ≤ 1000000) (hl' : k ≤ 1000000) :
    Calls Try.prog 32 #[.slice a n ca, .slice b k cb] w (RetB (decide (l = m)) w) := by
  have HN := Lib.hid hn; have HK := Lib.hid hk; have HA := Lib.hid h; have HB := Lib.hid h'
  clear hn hk h h'
  by_cases hnk : n = k
  · subst hnk
    have hne : (((n : Nat) : Int) == ((n : Nat) : Int)) = true := beq_self_eq_true _
    go_enter Try.func32, Try.ntmps32
    go_wp2_with fail
    go_loopw [13] (fun i wr => ∃ j : Nat, j ≤ n ∧ i = .int .i64 j ∧ Hid (∀ t, t < j → nth l t = nth m t) ∧ Fr w wr []) (fun i _ => n - (intOf i).toNat)
    case atStart => exact ⟨0, by omega, rfl, Lib.hid (fun t ht => by omega), Fr.start w⟩
    case round =>
      obtain ⟨j, hj, rfl, HE, hfr⟩ := hrel
      by_cases hlt : j < n
      · obtain ⟨b1, o1, rfl, hb1, hc1⟩ := (hfr.old HA.out).int j (by rw [HN.out]; exact hlt)
        obtain ⟨b2, o2, rfl, hb2, hc2⟩ := (hfr.old HB.out).int j (by rw [HK.out]; exact hlt)
        by_cases he : nth l j = nth m j
        · have HJ := Lib.hid he
          obtain ⟨x, hx⟩ : ∃ x, nth l j = x := ⟨_, rfl⟩
          rw [← he, hx] at hc2
          rw [hx] at hc1
          clear he hx
          have hfe : (x == x) = true := beq_self_eq_true _
          go_wp2_with fail
          go_quiet (fail)
          go_wp2_with fail
          go_roundw
          case rel =>
            refine ⟨j + 1, by omega, by go_num, Lib.hid fun t ht => ?_, hfr.drewN _⟩
            by_cases e : t = j
            · subst e; exact HJ.out
            · exact HE.out t (by omega)
          case measure => simp [intOf]; omega
        · have HJ := Lib.hid (ne_of_nth j he)
          obtain ⟨x, hx⟩ : ∃ x, nth l j = x := ⟨_, rfl⟩
          obtain ⟨y, hy⟩ : ∃ y, nth m j = y := ⟨_, rfl⟩
          rw [hx] at hc1 he
          rw [hy] at hc2 he
          have hfe : (x == y) = false := beq_eq_false_iff_ne.2 he
          clear he hx hy
          go_wp2_with fail
          go_quiet (fail)
          go_wp2_with fail
          go_ret
          exact ⟨by rw [HJ.out]; rfl, hfr.drewN _⟩
      · go_wp2_with fail
        go_ret
        exact ⟨by rw [eq_of_take HN.out HK.out (fun i hi => HE.out i (by omega))]; rfl, hfr⟩
  · have hne : (((n : Nat) : Int) == ((k : Nat) : Int)) = false := beq_eq_false_iff_ne.2 (by omega)
    have HJ := Lib.hid (ne_of_len (l := l) (m := m) (by rw [HN.out, HK.out]; exact hnk))
    clear hnk
    go_enter Try.func32, Try.ntmps32
    go_wp2_with fail
    go_ret
    exact ⟨by rw [HJ.out]; rfl, Fr.start w⟩
end Go.Proofs.Ytooghdnlaonkaaa
