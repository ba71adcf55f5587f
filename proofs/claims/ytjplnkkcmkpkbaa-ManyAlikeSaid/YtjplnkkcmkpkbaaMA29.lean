/- Several of my texts in one: Arr2, Arr3, Arr4. -/
import Derived.Test.YtjplnkkcmkpkbaaMA28
import Derived.Laws.CopyOwn
import Derived.Laws.AppendOwnNone
set_option linter.unusedSimpArgs false
set_option linter.unusedVariables false
/- copy into a call's own slice; capacities. -/
namespace Go.Proofs.Ytjplnkkcmkpkbaa
open Go.RowKit

theorem Fr.cap {w0 w : World} {L : List Ent} {T : TypeId} {ad : Option Addr} {n cap : Nat} {xs : List Value} (h : Fr w0 w (⟨T, .slice ad n cap, xs⟩ :: L)) : n ≤ cap := by
  rcases (h.os.own _ List.mem_cons_self).elim with ⟨rfl, ⟨rfl, rfl, rfl⟩ | ⟨g, cur, rfl, h2, h3, h4, h5, h6, h7⟩⟩
  · simp
  · exact h4
theorem Fr.setRow {w0 w : World} {L : List Ent} {T : TypeId} {g n cap : Nat} {xs : List Value} (h : Fr w0 w (⟨T, .slice (some ⟨g, 0, none⟩) n cap, xs⟩ :: L)) (cur : Array Value) (hg : w.heap[g]? = some (.cells cur T (0, 0)))
    (cs : Array Value) (hs : cs.size = cur.size) (ys : List Value) (hy : cs.toList.take n = ys) :
    Fr w0 (w.setRow g cs) (⟨T, .slice (some ⟨g, 0, none⟩) n cap, ys⟩ :: L) := by
  have hO := h.os.own _ List.mem_cons_self
  have hbg := (Ent.own.lt hO g rfl).1
  obtain ⟨hn, h1⟩ := hO.elim
  rcases h1 with ⟨h1, _⟩ | ⟨g', cur', h1, h2, h3, h4, h5, h6, h7⟩
  · cases h1
  · cases h1
    rw [hg] at h3
    cases h3
    have hgr : w.grownBy (w.setRow g cs) (some g) := ⟨rfl, rfl, rfl, by simp, fun k _ hk => setRow_other w g k cs (fun e => hk (by rw [e]))⟩
    have hyl : ys.length = n := by rw [← hy, List.length_take]; simp; omega
    refine ⟨below_setRow h.bel hbg _, ⟨fun e he => ?_, ?_⟩⟩
    · rcases List.mem_cons.1 he with rfl | he
      · refine ⟨by simp, .inr ⟨g, cap, cs, ?_, hbg, setRow_heap w g cur cs T _ hg, ?_, h5, by simp; omega, ?_⟩⟩
        · show Value.slice _ n cap = .slice _ ys.length cap; rw [hyl]
        · show ys.length ≤ cap; omega
        · show cs.toList.take (ys.length * 1) = ys; rw [Nat.mul_one, hyl]; exact hy
      · refine World.ownsRow.kept (h.os.own e (List.mem_cons_of_mem _ he)) hgr ?_
        exact ((List.pairwise_cons.1 h.os.far).1 e he).symm
    · have := List.pairwise_cons.1 h.os.far
      exact List.pairwise_cons.2 ⟨fun b hb => this.1 b hb, this.2⟩

theorem Sl.drewN {w : World} {v : Value} {l : List Int} (h : Sl w v l) (n : Nat) : Sl (w.drewN n) v l := h.keep ⟨rfl, rfl, rfl, Nat.le_refl _, fun _ _ => rfl⟩
theorem Sa.drewN {w : World} {a : Option Addr} {xs : List Value} (h : Sa w a xs) (n : Nat) : Sa (w.drewN n) a xs := h.keep ⟨rfl, rfl, rfl, Nat.le_refl _, fun _ _ => rfl⟩
/-- selects the operation that writes slot n -/
theorem at_slot (n : Nat) {P : Program} {ops : Array Oper} {Q : Exit → Act → World → Prop} {rest : List Oper} {a : Act} {w : World} {op : Op} {ty : TypeId} {pos : String} {af : Array Edge} {gd : Option (Nat × Bool)}
    (h : wpList P ops Q (⟨some n, op, ty, pos, af, gd⟩ :: rest) a w) : wpList P ops Q (⟨some n, op, ty, pos, af, gd⟩ :: rest) a w := h
/-- min of two, three, four: the walk takes it for a rule -/
theorem run_min2 (ts : Array TypeId) (t : TypeId) (x : Nat) (z : Int) (n : Nat) (h1 : n ≤ x) (h2 : (n : Int) ≤ z) (h : n = x ∨ (n : Int) = z) (w : World) :
    Sem.run Try.prog (Builtin.min_ ts t #[.int .i64 (x : Int), .int .i64 z]) w = .ok (.int .i64 (n : Int)) w := by
  simp only [Builtin.min_, List.foldlM_cons, List.foldlM_nil, Builtin.min2, pure_bind]
  rw [show (if z < (x : Int) then z else (x : Int)) = (n : Int) from by split <;> omega]
  rfl
theorem run_min3 (ts : Array TypeId) (t : TypeId) (x y : Nat) (z : Int) (n : Nat) (h1 : n ≤ x) (h2 : n ≤ y) (h3 : (n : Int) ≤ z) (h : n = x ∨ n = y ∨ (n : Int) = z) (w : World) :
    Sem.run Try.prog (Builtin.min_ ts t #[.int .i64 (x : Int), .int .i64 (y : Int), .int .i64 z]) w = .ok (.int .i64 (n : Int)) w := by
  simp only [Builtin.min_, List.foldlM_cons, List.foldlM_nil, Builtin.min2, pure_bind]
  rw [show (if z < (if (y : Int) < (x : Int) then (y : Int) else (x : Int)) then z else (if (y : Int) < (x : Int) then (y : Int) else (x : Int))) = (n : Int) from by split <;> split <;> omega]
  rfl
theorem run_min4 (ts : Array TypeId) (t : TypeId) (x y u : Nat) (z : Int) (n : Nat) (h1 : n ≤ x) (h2 : n ≤ y) (h2' : n ≤ u) (h3 : (n : Int) ≤ z) (h : n = x ∨ n = y ∨ n = u ∨ (n : Int) = z) (w : World) :
    Sem.run Try.prog (Builtin.min_ ts t #[.int .i64 (x : Int), .int .i64 (y : Int), .int .i64 (u : Int), .int .i64 z]) w = .ok (.int .i64 (n : Int)) w := by
  simp only [Builtin.min_, List.foldlM_cons, List.foldlM_nil, Builtin.min2, pure_bind]
  rw [show (if z < (if (u : Int) < (if (y : Int) < (x : Int) then (y : Int) else (x : Int)) then (u : Int) else (if (y : Int) < (x : Int) then (y : Int) else (x : Int))) then z else (if (u : Int) < (if (y : Int) < (x : Int) then (y : Int) else (x : Int)) then (u : Int) else (if (y : Int) < (x : Int) then (y : Int) else (x : Int)))) = (n : Int) from by repeat' split <;> omega]
  rfl
theorem ints_one (l : List Int) : ∀ v ∈ ints l, v.oneCell' = true := ints_oneCell .i64 l
theorem intSize : (Try.prog.info? 3).map (·.size) = some 1 := by kernel_rfl
/-- a slice literal -/
theorem Fr.lit {w0 w : World} {L : List Ent} (h : Fr w0 w L) (l : List Int) (cs : Array Value) (e : cs.toList = ints l) (n : Nat) (hn : n = l.length) (hl : n ≤ 1000000) (T : TypeId) :
    Fr w0 (w.alloc (.cells cs T)) (⟨T, .slice (some ⟨w.heap.size, 0, none⟩) n n, ints l⟩ :: L) := h.new T cs (ints l) e n (by rw [ints_len]; exact hn) hl
theorem Fr.lit' {w0 w : World} {L : List Ent} (h : Fr w0 w L) (l : List Int) (cs : Array Value) (e : cs.toList = ints l) (n : Nat) (hn : n = l.length) (hl : n ≤ 1000000) (T : TypeId) (N : Nat) (hN : w.heap.size = N) :
    Fr w0 (w.alloc (.cells cs T)) (⟨T, .slice (some ⟨N, 0, none⟩) n n, ints l⟩ :: L) := by subst hN; exact h.lit l cs e n hn hl T
theorem Fr.makeInts' {w0 w : World} {L : List Ent} (h : Fr w0 w L) (n : Nat) (hl : n ≤ 1000000) (N : Nat) (hN : w.heap.size = N) :
    Fr w0 (w.alloc (.cells (rowCells n (fun _ => 0)) 3)) (⟨3, .slice (some ⟨N, 0, none⟩) n n, ints (List.replicate n 0)⟩ :: L) := by subst hN; exact h.makeInts n hl
theorem Sa.sl' {w : World} {a : Option Addr} {l : List Int} (h : Sa w a (ints l)) (n cap : Nat) (hn : l.length = n) : Sl w (.slice a n cap) l := by subst hn; exact h.sl
/-- copy into the first of them, from its head on -/
theorem wpList_copyFr {ops : Array Oper} {rest : List Oper} {o : Oper} {a : Act} {Q : Exit → Act → World → Prop} {w0 w : World} (hgd : o.guard = none) (d s : Operand) (S S' T : TypeId)
    (hS : Try.prog.underlying S = some (.slice T)) (hsz : (Try.prog.info? T).map (·.size) = some 1)
    (ho : o.op = .call { callee := .builtin .copy, args := #[d, s], argTypes := #[S, S'] })
    (ad sp : Option Addr) (n cap m scap : Nat) (xs ys : List Value) (L : List Ent) (hd : a.eval d = .slice ad n cap) (hs : a.eval s = .slice sp m scap) (hF : Fr w0 w (⟨T, .slice ad n cap, xs⟩ :: L))
    (hY : Sa w sp ys) (hm : ys.length = m) (hmn : m ≤ n) (h1 : ∀ v ∈ ys, v.oneCell' = true)
    (h : ∀ w', Fr w0 w' (⟨T, .slice ad n cap, ys ++ xs.drop m⟩ :: L) → w.heap.size ≤ w'.heap.size → wpList Try.prog ops Q rest (a.put o.dst (goInt m)) w') :
    wpList Try.prog ops Q (o :: rest) a w := by
  by_cases h0 : m = 0
  · subst h0
    obtain rfl := List.eq_nil_of_length_eq_zero hm
    refine wpList_copy_nothing hgd d s S S' ho T hS hsz ad sp n cap 0 scap hd hs (by simp) ?_
    exact h w hF (Nat.le_refl _)
  · obtain ⟨b, off, rfl, hb, hc⟩ := hY (by omega)
    have hO := hF.os.own _ List.mem_cons_self
    obtain ⟨hn, h2⟩ := hO.elim
    rcases h2 with ⟨_, _, rfl⟩ | ⟨g, cur, rfl, h2, h3, h4, h5, h6, h7⟩
    · simp at hn; omega
    · refine wpList_copy_own hgd d s S S' ho T hS hsz g 0 n cap ⟨b, off, none⟩ m scap hd hs cur T h3 ys (by rw [hm]; exact (Nat.min_eq_left hmn).symm) ?_ (by omega) h1 ?_
      · intro j v hj
        have hjl : j < ys.length := (List.getElem?_eq_some_iff.1 hj).1
        have := hc j hjl
        rw [show ((⟨b, off, none⟩ : Addr).add j) = ⟨b, off + j, none⟩ from by unfold Addr.add; split <;> simp_all, this, hj]
      · rw [hm]
        refine h _ (hF.setRow cur h3 _ ?_ _ ?_) (by simp)
        · simp; omega
        · simp only [List.take_zero, List.nil_append, Nat.zero_add]
          rw [← h7, List.take_append, hm, List.take_of_length_le (by omega), List.take_drop, show m + (n - m) = n from by omega]
end Go.Proofs.Ytjplnkkcmkpkbaa
/- append of a whole slice; rows of slices. -/
namespace Go.Proofs.Ytjplnkkcmkpkbaa
open Go.RowKit

theorem Fr.none {w0 w : World} {L : List Ent} {T : TypeId} {ad : Option Addr} {n cap : Nat} {xs : List Value} (h : Fr w0 w (⟨T, .slice ad n cap, xs⟩ :: L)) (e : ad = .none) : n = 0 ∧ cap = 0 := by
  rcases (h.os.own _ List.mem_cons_self).elim with ⟨rfl, ⟨rfl, rfl, rfl⟩ | ⟨g, cur, rfl, h2, h3, h4, h5, h6, h7⟩⟩
  · exact ⟨rfl, rfl⟩
  · cases e
/-- append of the cells of another slice to the first of them -/
theorem wpList_pushAll {ops : Array Oper} {rest : List Oper} {o : Oper} {a : Act} {Q : Exit → Act → World → Prop} {w0 w : World} (hgd : o.guard = .none) (s x : Operand) (S T : TypeId) (z : Value) (bytes : Nat)
    (hS : Try.prog.underlying S = some (.slice T)) (hT : (Try.prog.info? T).map (fun i => (i.zero, i.size, i.bytes)) = some (some z, 1, bytes)) (hz : z.cells.size = 1) (hby : bytes ≤ 1000)
    (ho : o.op = .call { callee := .builtin .append, args := #[s, x], argTypes := #[S, S] })
    (ad sp : Option Addr) (n cap m c : Nat) (xs ys : List Value) (L : List Ent) (hs : a.eval s = .slice ad n cap) (hF : Fr w0 w (⟨T, .slice ad n cap, xs⟩ :: L))
    (hx : a.eval x = .slice sp m c) (hY : Sa w sp ys) (hm : ys.length = m) (hnone : sp = .none → c = 0 ∧ m = 0) (h1 : ∀ u ∈ ys, u.oneCell' = true) (hlen : n + m ≤ 1000000)
    (h : ∀ ad' cap' w', Fr w0 w' (⟨T, .slice ad' (n + m) cap', xs ++ ys⟩ :: L) → w.heap.size ≤ w'.heap.size → wpList Try.prog ops Q rest (a.put o.dst (.slice ad' (n + m) cap')) w') :
    wpList Try.prog ops Q (o :: rest) a w := by
  obtain ⟨i0, hi, hz0, hz1, hz2⟩ := info_parts hT
  have hn := hF.len
  have hO := hF.os.own _ List.mem_cons_self
  cases sp with
  | none =>
    obtain ⟨rfl, rfl⟩ := hnone rfl
    obtain rfl := List.eq_nil_of_length_eq_zero hm
    subst hn
    refine wpList_append_own_none hgd s x S ho w0.heap.size T i0 1 hS hi (.slice ad xs.length cap) xs.length xs hs (by rw [← hz1]; exact hz1 ▸ hO) hx ?_
    exact h ad cap w (by simpa using hF) (Nat.le_refl _)
  | some sad =>
    subst hn
    refine wpList_append_own_at _ hgd s x S ho w0.heap.size T i0 z 1 bytes hS hi hz0 hz1 hz2 hz (by decide) (.slice ad xs.length cap) xs.length xs hs hO
      sad m c ys hx (by omega) ?_ h1 ?_ ?_ ?_ ?_
    · intro j u hj
      have hjl : j < ys.length := (List.getElem?_eq_some_iff.1 hj).1
      obtain ⟨b, off, e, _, hc⟩ := hY.at j hjl
      cases e
      rw [show ((⟨b, off, .none⟩ : Addr).add j) = ⟨b, off + j, .none⟩ from by unfold Addr.add; split <;> simp_all, hc, hj]
    · unfold maxLen; omega
    · calc (xs.length + m) * bytes ≤ 1000001 * 1000 := Nat.mul_le_mul (by omega) hby
        _ ≤ _ := by omega
    · exact hF.bel.size
    · intro v' w' k1 k2 hnil hat
      have hsz := k2.size
      have hb0 := hF.bel.size
      have e1 : (xs ++ ys).length = xs.length + m := by rw [List.length_append, hm]
      obtain ⟨ad', cap', rfl⟩ : ∃ ad' cap', v' = .slice ad' (xs.length + m) cap' := by
        rcases k1.2 with ⟨e1, e2⟩ | ⟨g, cap', cur, e1, _⟩
        · exact ⟨.none, 0, by rw [e2, e1]⟩
        · exact ⟨_, _, e1⟩
      refine h ad' cap' w' ⟨?_, ⟨fun e he => ?_, ?_⟩⟩ (by omega)
      · refine Below.grown (row := (Value.slice ad xs.length cap).ownBlock) hF.bel k2 (by omega) ?_
        intro k hk
        exact (Ent.own.lt hO k hk).1
      · rcases List.mem_cons.1 he with rfl | he
        · unfold Ent.own; simp only [e1]; exact k1
        · refine World.ownsRow.kept (hF.os.own e (List.mem_cons_of_mem _ he)) k2 ?_
          exact ((List.pairwise_cons.1 hF.os.far).1 e he).symm
      · have hf := List.pairwise_cons.1 hF.os.far
        refine List.pairwise_cons.2 ⟨fun b hb => ?_, hf.2⟩
        have hbf := hf.1 b hb
        have hlt := Ent.own.lt (hF.os.own b (List.mem_cons_of_mem _ hb))
        rcases hat with hat | hat
        · rcases hbf with hbf | hbf
          · exact .inl (show (Value.slice ad' (xs.length + m) cap').ownBlock = .none by rw [hat]; exact hbf)
          · exact .inr (show (Value.slice ad' (xs.length + m) cap').ownBlock ≠ _ by rw [hat]; exact hbf)
        · refine .inr (show (Value.slice ad' (xs.length + m) cap').ownBlock ≠ _ from ?_)
          rw [hat]
          intro e
          have := (hlt _ e.symm).2
          omega

/-- a copy of a slice of ints: append([]int{}, l...) -/
theorem wpList_copyOf {ops : Array Oper} {rest : List Oper} {o : Oper} {a : Act} {Q : Exit → Act → World → Prop} {w0 w : World} (hgd : o.guard = .none) (s x : Operand)
    (ho : o.op = .call { callee := .builtin .append, args := #[s, x], argTypes := #[87, 87] })
    (ad0 sp : Option Addr) (n c : Nat) (l : List Int) (L : List Ent) (hs : a.eval s = .slice ad0 0 0) (hF : Fr w0 w (⟨3, .slice ad0 0 0, ints []⟩ :: L))
    (hx : a.eval x = .slice sp n c) (hY : Sa w sp (ints l)) (hm : (ints l).length = n) (hnone : sp = .none → c = 0 ∧ n = 0) (hlen : n ≤ 1000000)
    (h : ∀ ad' cap' w', Fr w0 w' (⟨3, .slice ad' n cap', ints l⟩ :: L) → w.heap.size ≤ w'.heap.size → wpList Try.prog ops Q rest (a.put o.dst (.slice ad' n cap')) w') :
    wpList Try.prog ops Q (o :: rest) a w := by
  refine wpList_pushAll hgd s x 87 3 (.int .i64 0) 8 Try.underlying87 intInfo rfl (by omega) ho ad0 sp 0 0 n c (ints []) (ints l) L hs hF hx hY hm hnone (ints_oneCell .i64 l) (by omega) ?_
  intro ad' cap' w' h1 h2
  rw [Nat.zero_add] at h1 ⊢
  exact h ad' cap' w' h1 h2
/-- one number of the first of them -/
theorem Fr.openI {w0 w : World} {L : List Ent} {T : TypeId} {ad : Option Addr} {n cap : Nat} {l : List Int} (h : Fr w0 w (⟨T, .slice ad n cap, ints l⟩ :: L)) (i : Nat) (hi : i < l.length) :
    ∃ g, ad = some ⟨g, 0, .none⟩ ∧ w0.heap.size ≤ g ∧ w.cell? ⟨g, i, .none⟩ = some (.int .i64 (nth l i)) ∧ w.frozen? ⟨g, i, .none⟩ = false := by
  obtain ⟨g, e, h1, _, h2, h3⟩ := h.open (by rw [ints_len]; omega)
  exact ⟨g, e, h1, by rw [h2 i (by rw [ints_len]; exact hi), ints_get l i hi], h3 i⟩
/-! rows -/
/-- a row of ints: address, capacity, numbers -/
abbrev Rw := Option Addr × Nat × List Int
def rv (p : Rw) : Value := .slice p.1 p.2.2.length p.2.1
def re (p : Rw) : Ent := ⟨3, rv p, ints p.2.2⟩
theorem rv_one (R : List Rw) : ∀ u ∈ R.map rv, u.oneCell' = true := by
  intro u hu
  obtain ⟨p, _, rfl⟩ := List.mem_map.1 hu
  rfl
theorem Fr.mem {w0 w : World} {L : List Ent} (h : Fr w0 w L) {T : TypeId} {ad : Option Addr} {n cap : Nat} {xs : List Value} (he : (⟨T, .slice ad n cap, xs⟩ : Ent) ∈ L) : Sa w ad xs := by
  obtain ⟨i, hi⟩ := List.mem_iff_getElem?.1 he
  exact h.get i hi
theorem Fr.pick {w0 w : World} {L : List Ent} (h : Fr w0 w L) {e : Ent} (he : e ∈ L) : Fr w0 w [e] := h.sub (List.singleton_sublist.2 he)
theorem slsInfo : (Try.prog.info? 87).map (fun i => (i.zero, i.size, i.bytes)) = some (some (.slice .none 0 0), 1, 24) := by kernel_rfl
end Go.Proofs.Ytjplnkkcmkpkbaa
/- append where the block's number is spelled by the walk. -/
namespace Go.Proofs.Ytjplnkkcmkpkbaa
open Go.RowKit

theorem wpList_pushInt' {ops : Array Oper} {rest : List Oper} {o : Oper} {a : Act} {Q : Exit → Act → World → Prop} {w0 w : World} (hgd : o.guard = none) (s x : Operand)
    (ho : o.op = .call { callee := .builtin .append, args := #[s, x], argTypes := #[87, 87] })
    (ad : Option Addr) (n cap : Nat) (l : List Int) (y : Int) (L : List Ent) (N : Nat) (hN : w.heap.size = N) (hs : a.eval s = .slice ad n cap) (hF : Fr w0 w (⟨3, .slice ad n cap, ints l⟩ :: L))
    (hx : a.eval x = .slice (some ⟨N, 0, none⟩) 1 1) (hlen : n ≤ 1000000)
    (h : ∀ ad' cap' w', Fr w0 w' (⟨3, .slice ad' (n + 1) cap', ints (l ++ [y])⟩ :: L) → N < w'.heap.size → wpList Try.prog ops Q rest (a.put o.dst (.slice ad' (n + 1) cap')) w') :
    wpList Try.prog ops Q (o :: rest) a (w.alloc (.cells #[.int .i64 y] 3)) := by
  subst hN
  exact wpList_pushInt hgd s x ho ad n cap l y L hs hF hx hlen h
/-- append of one cell of any type -/
theorem wpList_push' {ops : Array Oper} {rest : List Oper} {o : Oper} {a : Act} {Q : Exit → Act → World → Prop} {w0 w : World} (hgd : o.guard = none) (s x : Operand) (S T : TypeId) (z : Value) (bytes : Nat)
    (hS : Try.prog.underlying S = some (.slice T)) (hT : (Try.prog.info? T).map (fun i => (i.zero, i.size, i.bytes)) = some (some z, 1, bytes)) (hz : z.cells.size = 1) (hby : bytes ≤ 1000)
    (ho : o.op = .call { callee := .builtin .append, args := #[s, x], argTypes := #[S, S] })
    (ad : Option Addr) (n cap : Nat) (xs : List Value) (y : Value) (L : List Ent) (N : Nat) (hN : w.heap.size = N) (hs : a.eval s = .slice ad n cap) (hF : Fr w0 w (⟨T, .slice ad n cap, xs⟩ :: L))
    (hx : a.eval x = .slice (some ⟨N, 0, none⟩) 1 1) (hy : y.oneCell' = true) (hlen : n ≤ 1000000)
    (h : ∀ ad' cap' w', Fr w0 w' (⟨T, .slice ad' (n + 1) cap', xs ++ [y]⟩ :: L) → N < w'.heap.size → wpList Try.prog ops Q rest (a.put o.dst (.slice ad' (n + 1) cap')) w') :
    wpList Try.prog ops Q (o :: rest) a (w.alloc (.cells #[y] T)) := by
  subst hN
  exact wpList_push hgd s x S T z bytes hS hT hz hby ho ad n cap xs y L hs hF hx hy hlen h
theorem intElem : Try.prog.elem 87 = 3 := by kernel_rfl
/-- x[k:], of any element of one cell -/
theorem slice_fromT (S T : TypeId) (hS : Try.prog.underlying S = some (.slice T)) (hE : Try.prog.elem S = T) (hT : (Try.prog.info? T).map (fun i => i.size) = some 1)
    (ad : Option Addr) (n cap k : Nat) (hk : k ≤ n) (hc : n ≤ cap) (xs : List Value) (hx : xs.length = n) :
    ∃ ad' cap', (∀ W, Sem.run Try.prog (Instr.slice S (.slice ad n cap) (some (.int .i64 (k : Int))) none none) W = .ok (.slice ad' (n - k) cap') W) ∧ (∀ W, Sa W ad xs → Sa W ad' (xs.drop k)) ∧ n - k ≤ cap' := by
  have ht : Try.prog.underlying S = some (.slice (Try.prog.elem S)) := by rw [hE]; exact hS
  have hsz : ∀ W, Sem.run Try.prog (sizeOf (Try.prog.elem S)) W = .ok 1 W := fun W => by
    rw [hE]
    cases hi : Try.prog.info? T with
    | none => rw [hi] at hT; cases hT
    | some i => rw [hi] at hT; simp at hT; simp [sizeOf, typeInfo, go_sem, hi, hT]
  refine ⟨if cap = k then ad else ad.map (·.add (k * 1)), cap - k, fun W => ?_, fun W hW h0 => ?_, by omega⟩
  · rw [run_slice_l W S ad n cap ht .i64 k (by omega) (by omega), hsz]
    simp [Result.andThen, sliced]
  · rw [List.length_drop] at h0
    rw [if_neg (by omega)]
    obtain ⟨b, off, rfl, _, _⟩ := hW (by omega)
    have := hW.drop k
    have e : (some ⟨b, off, none⟩ : Option Addr).map (·.add (k * 1)) = some ⟨b, off + k, none⟩ := by
      simp only [Option.map_some, Nat.mul_one]; unfold Addr.add; split
      · next h => simp_all
      · rfl
    rw [e]; exact this (by rw [List.length_drop]; exact h0)
/-- x[lo:hi] -/
theorem slice_midT (S T : TypeId) (hS : Try.prog.underlying S = some (.slice T)) (hE : Try.prog.elem S = T) (hT : (Try.prog.info? T).map (fun i => i.size) = some 1)
    (ad : Option Addr) (n cap lo k : Nat) (hk : lo + k ≤ n) (hc : n ≤ cap) (xs : List Value) (hx : xs.length = n) :
    ∃ ad' cap', (∀ W, Sem.run Try.prog (Instr.slice S (.slice ad n cap) (some (.int .i64 (lo : Int))) (some (.int .i64 ((lo : Int) + (k : Int)))) none) W = .ok (.slice ad' k cap') W) ∧ (∀ W, Sa W ad xs → Sa W ad' ((xs.drop lo).take k)) ∧ k ≤ cap' := by
  have ht : Try.prog.underlying S = some (.slice (Try.prog.elem S)) := by rw [hE]; exact hS
  have hsz : ∀ W, Sem.run Try.prog (sizeOf (Try.prog.elem S)) W = .ok 1 W := fun W => by
    rw [hE]
    cases hi : Try.prog.info? T with
    | none => rw [hi] at hT; cases hT
    | some i => rw [hi] at hT; simp at hT; simp [sizeOf, typeInfo, go_sem, hi, hT]
  refine ⟨if cap = lo then ad else ad.map (·.add (lo * 1)), cap - lo, fun W => ?_, fun W hW h0 => ?_, by omega⟩
  · rw [run_slice_lh W S ad n cap ht .i64 .i64 lo ((lo : Int) + (k : Int)) (by omega) (by omega) (by omega), hsz]
    have e1 : ((lo : Int) + (k : Int)).toNat = lo + k := by omega
    simp only [Result.andThen, sliced, e1, Int.toNat_natCast]
    rw [Nat.add_sub_cancel_left]
  · rw [List.length_take, List.length_drop] at h0
    rw [if_neg (by omega)]
    obtain ⟨b, off, rfl, _, _⟩ := hW (by omega)
    have := (hW.drop lo).take k
    have e : (some ⟨b, off, none⟩ : Option Addr).map (·.add (lo * 1)) = some ⟨b, off + lo, none⟩ := by
      simp only [Option.map_some, Nat.mul_one]; unfold Addr.add; split
      · next h => simp_all
      · rfl
    rw [e]; exact this (by rw [List.length_take, List.length_drop]; exact h0)
end Go.Proofs.Ytjplnkkcmkpkbaa
