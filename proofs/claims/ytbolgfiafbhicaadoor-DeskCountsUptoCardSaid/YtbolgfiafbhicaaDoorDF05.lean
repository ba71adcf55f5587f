/- Several of my texts in one: Arr2. -/
import Derived.Test.YtbolgfiafbhicaaDoorDF04
import Derived.Laws.CopyOwn
/- copy into a call's own slice; capacities. -/
namespace Go.Proofs.YtbolgfiafbhicaaDoor
open Go.RowKit

theorem Fr.cap {w0 w : World} {L : List Ent} {T : TypeId} {ad : Option Addr} {n cap : Nat} {xs : List Value} (h : Fr w0 w (⟨T, .slice ad n cap, xs⟩ :: L)) : n ≤ cap := by
  rcases (h.os.own _ List.mem_cons_self).elim with ⟨rfl, ⟨rfl, rfl, rfl⟩ | ⟨g, cur, rfl, h2, h3, h4, h5, h6, h7⟩⟩
  · simp
  · exact h4
theorem Fr.setRow {w0 w : World} {L : List Ent} {T : TypeId} {g n cap : Nat} {xs : List Value} (h : Fr w0 w (⟨T, .slice (some ⟨g, 0, none⟩) n cap, xs⟩ :: L)) (cur : Array Value) (hg : w.heap[g]? = some (.cells cur T (0, 0)))
    (cs : Array Value) (hs : cs.size = cur.size) (ys : List Value) (hy : cs.toList.take n = ys) :
    Fr w0 (w.setRow g cs) (⟨T, .slice (some ⟨g, 0, none⟩) n cap, ys⟩ :: L) := by
  have hO := h.os.own _ List.mem_cons_self
  have hbg := (Ent.own.lt hO g rfl).1
  obtain ⟨hn, h1⟩ := hO.elim
  rcases h1 with ⟨h1, _⟩ | ⟨g', cur', h1, h2, h3, h4, h5, h6, h7⟩
  · cases h1
  · cases h1
    rw [hg] at h3
    cases h3
    have hgr : w.grownBy (w.setRow g cs) (some g) := ⟨rfl, rfl, rfl, by simp, fun k _ hk => setRow_other w g k cs (fun e => hk (by rw [e]))⟩
    have hyl : ys.length = n := by rw [← hy, List.length_take]; simp; omega
    refine ⟨below_setRow h.bel hbg _, ⟨fun e he => ?_, ?_⟩⟩
    · rcases List.mem_cons.1 he with rfl | he
      · refine ⟨by simp, .inr ⟨g, cap, cs, ?_, hbg, setRow_heap w g cur cs T _ hg, ?_, h5, by simp; omega, ?_⟩⟩
        · show Value.slice _ n cap = .slice _ ys.length cap; rw [hyl]
        · show ys.length ≤ cap; omega
        · show cs.toList.take (ys.length * 1) = ys; rw [Nat.mul_one, hyl]; exact hy
      · refine World.ownsRow.kept (h.os.own e (List.mem_cons_of_mem _ he)) hgr ?_
        exact ((List.pairwise_cons.1 h.os.far).1 e he).symm
    · have := List.pairwise_cons.1 h.os.far
      exact List.pairwise_cons.2 ⟨fun b hb => this.1 b hb, this.2⟩

theorem Sl.drewN {w : World} {v : Value} {l : List Int} (h : Sl w v l) (n : Nat) : Sl (w.drewN n) v l := h.keep ⟨rfl, rfl, rfl, Nat.le_refl _, fun _ _ => rfl⟩
theorem Sa.drewN {w : World} {a : Option Addr} {xs : List Value} (h : Sa w a xs) (n : Nat) : Sa (w.drewN n) a xs := h.keep ⟨rfl, rfl, rfl, Nat.le_refl _, fun _ _ => rfl⟩
/-- selects the operation that writes slot n -/
theorem at_slot (n : Nat) {P : Program} {ops : Array Oper} {Q : Exit → Act → World → Prop} {rest : List Oper} {a : Act} {w : World} {op : Op} {ty : TypeId} {pos : String} {af : Array Edge} {gd : Option (Nat × Bool)}
    (h : wpList P ops Q (⟨some n, op, ty, pos, af, gd⟩ :: rest) a w) : wpList P ops Q (⟨some n, op, ty, pos, af, gd⟩ :: rest) a w := h
/-- min of two, three, four: the walk takes it for a rule -/
theorem run_min2 (ts : Array TypeId) (t : TypeId) (x : Nat) (z : Int) (n : Nat) (h1 : n ≤ x) (h2 : (n : Int) ≤ z) (h : n = x ∨ (n : Int) = z) (w : World) :
    Sem.run Tryd.prog (Builtin.min_ ts t #[.int .i64 (x : Int), .int .i64 z]) w = .ok (.int .i64 (n : Int)) w := by
  simp only [Builtin.min_, List.foldlM_cons, List.foldlM_nil, Builtin.min2, pure_bind]
  rw [show (if z < (x : Int) then z else (x : Int)) = (n : Int) from by split <;> omega]
  rfl
theorem run_min3 (ts : Array TypeId) (t : TypeId) (x y : Nat) (z : Int) (n : Nat) (h1 : n ≤ x) (h2 : n ≤ y) (h3 : (n : Int) ≤ z) (h : n = x ∨ n = y ∨ (n : Int) = z) (w : World) :
    Sem.run Tryd.prog (Builtin.min_ ts t #[.int .i64 (x : Int), .int .i64 (y : Int), .int .i64 z]) w = .ok (.int .i64 (n : Int)) w := by
  simp only [Builtin.min_, List.foldlM_cons, List.foldlM_nil, Builtin.min2, pure_bind]
  rw [show (if z < (if (y : Int) < (x : Int) then (y : Int) else (x : Int)) then z else (if (y : Int) < (x : Int) then (y : Int) else (x : Int))) = (n : Int) from by split <;> split <;> omega]
  rfl
theorem run_min4 (ts : Array TypeId) (t : TypeId) (x y u : Nat) (z : Int) (n : Nat) (h1 : n ≤ x) (h2 : n ≤ y) (h2' : n ≤ u) (h3 : (n : Int) ≤ z) (h : n = x ∨ n = y ∨ n = u ∨ (n : Int) = z) (w : World) :
    Sem.run Tryd.prog (Builtin.min_ ts t #[.int .i64 (x : Int), .int .i64 (y : Int), .int .i64 (u : Int), .int .i64 z]) w = .ok (.int .i64 (n : Int)) w := by
  simp only [Builtin.min_, List.foldlM_cons, List.foldlM_nil, Builtin.min2, pure_bind]
  rw [show (if z < (if (u : Int) < (if (y : Int) < (x : Int) then (y : Int) else (x : Int)) then (u : Int) else (if (y : Int) < (x : Int) then (y : Int) else (x : Int))) then z else (if (u : Int) < (if (y : Int) < (x : Int) then (y : Int) else (x : Int)) then (u : Int) else (if (y : Int) < (x : Int) then (y : Int) else (x : Int)))) = (n : Int) from by repeat' split <;> omega]
  rfl
theorem ints_one (l : List Int) : ∀ v ∈ ints l, v.oneCell' = true := ints_oneCell .i64 l
theorem intSize : (Tryd.prog.info? 3).map (·.size) = some 1 := by kernel_rfl
/-- a slice literal -/
theorem Fr.lit {w0 w : World} {L : List Ent} (h : Fr w0 w L) (l : List Int) (cs : Array Value) (e : cs.toList = ints l) (n : Nat) (hn : n = l.length) (hl : n ≤ 1000000) (T : TypeId) :
    Fr w0 (w.alloc (.cells cs T)) (⟨T, .slice (some ⟨w.heap.size, 0, none⟩) n n, ints l⟩ :: L) := h.new T cs (ints l) e n (by rw [ints_len]; exact hn) hl
theorem Fr.lit' {w0 w : World} {L : List Ent} (h : Fr w0 w L) (l : List Int) (cs : Array Value) (e : cs.toList = ints l) (n : Nat) (hn : n = l.length) (hl : n ≤ 1000000) (T : TypeId) (N : Nat) (hN : w.heap.size = N) :
    Fr w0 (w.alloc (.cells cs T)) (⟨T, .slice (some ⟨N, 0, none⟩) n n, ints l⟩ :: L) := by subst hN; exact h.lit l cs e n hn hl T
theorem Fr.makeInts' {w0 w : World} {L : List Ent} (h : Fr w0 w L) (n : Nat) (hl : n ≤ 1000000) (N : Nat) (hN : w.heap.size = N) :
    Fr w0 (w.alloc (.cells (rowCells n (fun _ => 0)) 3)) (⟨3, .slice (some ⟨N, 0, none⟩) n n, ints (List.replicate n 0)⟩ :: L) := by subst hN; exact h.makeInts n hl
theorem Sa.sl' {w : World} {a : Option Addr} {l : List Int} (h : Sa w a (ints l)) (n cap : Nat) (hn : l.length = n) : Sl w (.slice a n cap) l := by subst hn; exact h.sl
/-- copy into the first of them, from its head on -/
theorem wpList_copyFr {ops : Array Oper} {rest : List Oper} {o : Oper} {a : Act} {Q : Exit → Act → World → Prop} {w0 w : World} (hgd : o.guard = none) (d s : Operand) (S S' T : TypeId)
    (hS : Tryd.prog.underlying S = some (.slice T)) (hsz : (Tryd.prog.info? T).map (·.size) = some 1)
    (ho : o.op = .call { callee := .builtin .copy, args := #[d, s], argTypes := #[S, S'] })
    (ad sp : Option Addr) (n cap m scap : Nat) (xs ys : List Value) (L : List Ent) (hd : a.eval d = .slice ad n cap) (hs : a.eval s = .slice sp m scap) (hF : Fr w0 w (⟨T, .slice ad n cap, xs⟩ :: L))
    (hY : Sa w sp ys) (hm : ys.length = m) (hmn : m ≤ n) (h1 : ∀ v ∈ ys, v.oneCell' = true)
    (h : ∀ w', Fr w0 w' (⟨T, .slice ad n cap, ys ++ xs.drop m⟩ :: L) → w.heap.size ≤ w'.heap.size → wpList Tryd.prog ops Q rest (a.put o.dst (goInt m)) w') :
    wpList Tryd.prog ops Q (o :: rest) a w := by
  by_cases h0 : m = 0
  · subst h0
    obtain rfl := List.eq_nil_of_length_eq_zero hm
    refine wpList_copy_nothing hgd d s S S' ho T hS hsz ad sp n cap 0 scap hd hs (by simp) ?_
    exact h w hF (Nat.le_refl _)
  · obtain ⟨b, off, rfl, hb, hc⟩ := hY (by omega)
    have hO := hF.os.own _ List.mem_cons_self
    obtain ⟨hn, h2⟩ := hO.elim
    rcases h2 with ⟨_, _, rfl⟩ | ⟨g, cur, rfl, h2, h3, h4, h5, h6, h7⟩
    · simp at hn; omega
    · refine wpList_copy_own hgd d s S S' ho T hS hsz g 0 n cap ⟨b, off, none⟩ m scap hd hs cur T h3 ys (by rw [hm]; exact (Nat.min_eq_left hmn).symm) ?_ (by omega) h1 ?_
      · intro j v hj
        have hjl : j < ys.length := (List.getElem?_eq_some_iff.1 hj).1
        have := hc j hjl
        rw [show ((⟨b, off, none⟩ : Addr).add j) = ⟨b, off + j, none⟩ from by unfold Addr.add; split <;> simp_all, this, hj]
      · rw [hm]
        refine h _ (hF.setRow cur h3 _ ?_ _ ?_) (by simp)
        · simp; omega
        · simp only [List.take_zero, List.nil_append, Nat.zero_add]
          rw [← h7, List.take_append, hm, List.take_of_length_le (by omega), List.take_drop, show m + (n - m) = n from by omega]
end Go.Proofs.YtbolgfiafbhicaaDoor
