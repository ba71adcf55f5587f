/- Several of my texts in one: FG. -/
import Derived.Test.YtjplnkkcmkpkbaaMA29
set_option linter.unusedSimpArgs false
set_option linter.unusedVariables false
/- A call's own slices, of elements of any number of cells. -/
namespace Go.Proofs.Ytjplnkkcmkpkbaa
open Go.RowKit

/-- a slice of the call's own: its elements' type, their cells, how many, its value, all cells -/
structure Big where
  T : TypeId
  c : Nat
  n : Nat
  v : Value
  xs : List Value
/-- a map, told as a list of values -/
def entV (e : MapEntry) : List Value := [e.key, e.val, .int .i64 (e.born : Int)]
def mapV (es : Array MapEntry) (clock : Nat) : List Value := .int .i64 (clock : Int) :: es.toList.flatMap entV
theorem entV_inj : ∀ a b : List MapEntry, a.flatMap entV = b.flatMap entV → a = b
  | [], [], _ => rfl
  | [], y :: b, h => by simp [entV] at h
  | x :: a, [], h => by simp [entV] at h
  | x :: a, y :: b, h => by
    simp only [List.flatMap_cons, entV, List.cons_append, List.nil_append, List.cons.injEq, Value.int.injEq, true_and] at h
    obtain ⟨h1, h2, h3, h4⟩ := h
    have := entV_inj a b h4
    obtain ⟨k, v, n⟩ := x
    obtain ⟨k', v', n'⟩ := y
    simp only at h1 h2 h3
    have h3 : n = n' := by omega
    rw [this, h1, h2, h3]
theorem mapV_inj {es es' : Array MapEntry} {c c' : Nat} (h : mapV es c = mapV es' c') : es = es' ∧ c = c' := by
  unfold mapV at h
  simp only [List.cons.injEq, Value.int.injEq, true_and] at h
  exact ⟨Array.toList_inj.1 (entV_inj _ _ h.2), by omega⟩
/-- a slice of the call's own; or a map, whatever it holds -/
def Big.own (w : World) (base : Nat) (e : Big) : Prop := match e.v with
  | .map (some b) => base ≤ b ∧ ∃ es clock, w.heap[b]? = some (.map es clock) ∧ e.xs = mapV es clock
  | _ => w.ownsRow base e.T e.c e.v e.n e.xs
theorem Big.ofRow {w : World} {base : Nat} {e : Big} (h : w.ownsRow base e.T e.c e.v e.n e.xs) : e.own w base := by
  unfold Big.own
  split
  · rename_i b hb
    rcases h.2 with ⟨h1, _⟩ | ⟨g, cap, cur, h1, _⟩
    · rw [hb] at h1; cases h1
    · rw [hb] at h1; cases h1
  · exact h
theorem ownsRow_notMap {w : World} {base : Nat} {T : TypeId} {c n : Nat} {v : Value} {xs : List Value} (h : w.ownsRow base T c v n xs) : ∀ b, v.ownBlock = some b → ∀ es clock, w.heap[b]? ≠ some (.map es clock) := fun b hb es clock he => by
  rcases h.2 with ⟨h1, _⟩ | ⟨g, cap, cur, h1, _, h2, _⟩
  · rw [h1] at hb; cases hb
  · rw [h1] at hb
    have : g = b := by simpa [Value.ownBlock] using hb
    subst this
    rw [h2] at he; cases he
theorem Big.kept {w w' : World} {base : Nat} {e : Big} {row : Option Nat} (h : e.own w base) (hg : w.grownBy w' row) (hne : e.v.ownBlock = none ∨ e.v.ownBlock ≠ row) (hm : ∀ b, row = some b → ∀ es clock, w.heap[b]? ≠ some (.map es clock)) : e.own w' base := by
  unfold Big.own at h ⊢
  split
  · rename_i b hb
    rw [hb] at h
    obtain ⟨h1, es, clock, h2, h3⟩ := h
    refine ⟨h1, es, clock, ?_, h3⟩
    rw [hg.block b (Array.getElem?_eq_some_iff.1 h2).1 (fun e => hm b e.symm es clock h2)]
    exact h2
  · rename_i hx
    split at h
    · rename_i b hb
      exact absurd hb (hx b)
    · exact World.ownsRow.kept h hg hne
def FarB (a b : Big) : Prop := a.v.ownBlock = none ∨ a.v.ownBlock ≠ b.v.ownBlock
theorem FarB.symm {a b : Big} (h : FarB a b) : FarB b a := by
  rcases h with h | h
  · by_cases hb : b.v.ownBlock = none
    · exact .inl hb
    · exact .inr (by rw [h]; exact hb)
  · exact .inr (Ne.symm h)
def Ent.big (e : Ent) : Big := ⟨e.T, 1, e.xs.length, e.v, e.xs⟩
/-- since the call began nothing old has turned, and these are slices of its own, apart from each other -/
structure Fg (w0 w : World) (B : List Big) : Prop where
  bel : Below w0.heap.size w0 w
  own : ∀ e ∈ B, e.own w w0.heap.size
  far : B.Pairwise FarB
theorem Big.lt {w : World} {base : Nat} {e : Big} (h : e.own w base) : ∀ k, e.v.ownBlock = some k → base ≤ k ∧ k < w.heap.size := by
  unfold Big.own at h
  split at h
  · rename_i b hb
    intro k hk
    rw [hb] at hk; cases hk
  · exact World.ownsRow.lt h
theorem Fg.start (w : World) : Fg w w [] := ⟨Below.refl _ _, by simp, .nil⟩
theorem Fg.of {w0 w : World} {L : List Ent} (h : Fr w0 w L) : Fg w0 w (L.map Ent.big) :=
  ⟨h.bel, fun e he => by
    obtain ⟨x, hx, rfl⟩ := List.mem_map.1 he
    exact Big.ofRow (h.os.own x hx), List.pairwise_map.2 (h.os.far.imp fun h => h)⟩
theorem Fg.perm {w0 w : World} {B C : List Big} (h : Fg w0 w B) (p : B.Perm C) : Fg w0 w C :=
  ⟨h.bel, fun e he => h.own e (p.mem_iff.2 he), (p.pairwise_iff (fun h => h.symm)).1 h.far⟩
theorem Fg.sub {w0 w : World} {B C : List Big} (h : Fg w0 w B) (p : C.Sublist B) : Fg w0 w C := ⟨h.bel, fun e he => h.own e (p.subset he), h.far.sublist p⟩
theorem Fg.tail {w0 w : World} {e : Big} {B : List Big} (h : Fg w0 w (e :: B)) : Fg w0 w B := h.sub (List.sublist_cons_self _ _)
theorem Fg.keep {w0 w w' : World} {B : List Big} (h : Fg w0 w B) (b : Below w.heap.size w w') : Fg w0 w' B :=
  ⟨kin_trans h.bel b, fun e he => Big.kept (h.own e he) (grown0 b) (by cases hv : e.v.ownBlock <;> simp) (fun b hb => by cases hb), h.far⟩
theorem Fg.alloc {w0 w : World} {B : List Big} (h : Fg w0 w B) (o : Obj) : Fg w0 (w.alloc o) B := h.keep (kin_alloc (Below.refl _ _) o)
theorem Fg.drew {w0 w : World} {B : List Big} (h : Fg w0 w B) : Fg w0 w.drew B := h.keep (Below.refl _ _).drew
theorem Fg.drewN {w0 w : World} {B : List Big} (h : Fg w0 w B) (n : Nat) : Fg w0 (w.drewN n) B := h.keep ⟨rfl, rfl, rfl, Nat.le_refl _, fun _ _ => rfl⟩
theorem Big.mono {w : World} {base base' : Nat} {e : Big} (h : e.own w base) (hb : base' ≤ base) : e.own w base' := by
  unfold Big.own at h ⊢
  split
  · rename_i b hv
    rw [hv] at h
    exact ⟨Nat.le_trans hb h.1, h.2⟩
  · rename_i hx
    split at h
    · rename_i b hv
      exact absurd hv (hx b)
    · obtain ⟨h1, h2⟩ := h
      refine ⟨h1, ?_⟩
      rcases h2 with h2 | ⟨g, cap, cur, e1, e2, e3⟩
      · exact .inl h2
      · exact .inr ⟨g, cap, cur, e1, Nat.le_trans hb e2, e3⟩
/-- a callee that hands back slices of its own -/
theorem Fg.callG {w0 w w' : World} {B C : List Big} (h : Fg w0 w B) (b : Fg w w' C) : Fg w0 w' (C ++ B) := by
  have hk := h.keep b.bel
  refine ⟨kin_trans h.bel b.bel, fun e he => ?_, List.pairwise_append.2 ⟨b.far, h.far, fun x hx y hy => ?_⟩⟩
  · rcases List.mem_append.1 he with he | he
    · exact Big.mono (b.own e he) h.bel.size
    · exact hk.own e he
  · by_cases hv : x.v.ownBlock = none
    · exact .inl hv
    · refine .inr fun e => ?_
      cases hq : x.v.ownBlock with
      | none => exact hv hq
      | some n =>
        have h1 := (Big.lt (b.own x hx) n hq).1
        have h2 := (Big.lt (h.own y hy) n (by rw [← e]; exact hq)).2
        omega
theorem Fg.call {w0 w w' : World} {B : List Big} {L : List Ent} (h : Fg w0 w B) (b : Fr w w' L) : Fg w0 w' (L.map Ent.big ++ B) := h.callG (Fg.of b)
theorem Fg.fr {w0 w : World} {B : List Big} (h : Fg w0 w B) : Fr w0 w [] := ⟨h.bel, Oss.nil _ _⟩
/-- a nil slice -/
theorem Fg.nilSlice {w0 w : World} {B : List Big} (h : Fg w0 w B) (T : TypeId) (c : Nat) : Fg w0 w (⟨T, c, 0, .slice none 0 0, []⟩ :: B) :=
  ⟨h.bel, fun e he => by
    rcases List.mem_cons.1 he with rfl | he
    · exact ⟨by simp, .inl ⟨rfl, rfl⟩⟩
    · exact h.own e he, List.pairwise_cons.2 ⟨fun b _ => .inl rfl, h.far⟩⟩
/-- a new block whose cells are known -/
theorem Fg.new {w0 w : World} {B : List Big} (h : Fg w0 w B) (T : TypeId) (cs : Array Value) (xs : List Value) (e : cs.toList = xs) (N : Nat) (hN : w.heap.size = N) (n : Nat) (hn : n = xs.length) (hl : n ≤ 1000000) :
    Fg w0 (w.alloc (.cells cs T)) (⟨T, 1, n, .slice (some ⟨N, 0, none⟩) n n, xs⟩ :: B) := by
  subst e hn hN
  have ha := h.alloc (.cells cs T)
  refine ⟨ha.bel, fun e he => ?_, List.pairwise_cons.2 ⟨fun b hb => .inr ?_, h.far⟩⟩
  · rcases List.mem_cons.1 he with rfl | he
    · exact Big.ofRow (World.ownsRow_lit (size := 1) (e := T) w cs cs.toList.length h.bel.size (by unfold maxLen; omega) (by simp))
    · exact ha.own e he
  · intro e
    have := (Big.lt (h.own b hb) w.heap.size e.symm).2
    omega
/-- the cells of one of them -/
theorem Fg.open {w0 w : World} {B : List Big} (h : Fg w0 w B) {T : TypeId} {c n cap : Nat} {ad : Option Addr} {xs : List Value} (he : (⟨T, c, n, .slice ad n cap, xs⟩ : Big) ∈ B) (h0 : 0 < xs.length) :
    ∃ g, ad = some ⟨g, 0, none⟩ ∧ w0.heap.size ≤ g ∧ g < w.heap.size ∧ (∀ i, i < xs.length → w.cell? ⟨g, i, none⟩ = xs[i]?) ∧ ∀ i, w.frozen? ⟨g, i, none⟩ = false := by
  have hO : w.ownsRow w0.heap.size T c (.slice ad n cap) n xs := h.own _ he
  have hO' := hO
  obtain ⟨h1, h2⟩ := hO
  rcases h2 with ⟨_, h2⟩ | ⟨g, cap', cur, e, h3, h4, h5⟩
  · have h1 : xs.length = n * c := h1
    have h2 : n = 0 := h2
    rw [h2] at h1; simp at h1; rw [h1] at h0; simp at h0
  · have e : Value.slice ad n cap = .slice (some ⟨g, 0, none⟩) n cap' := e
    simp only [Value.slice.injEq, true_and] at e
    obtain ⟨rfl, rfl⟩ := e
    refine ⟨g, rfl, h3, (Array.getElem?_eq_some_iff.1 h4).1, fun i hi => World.ownsRow.cellAt hO' i (by rw [← h1]; exact hi), fun i => World.ownsRow.frozenAt hO' i⟩
theorem Fg.cap {w0 w : World} {B : List Big} (h : Fg w0 w B) {T : TypeId} {c n cap : Nat} {ad : Option Addr} {xs : List Value} (he : (⟨T, c, n, .slice ad n cap, xs⟩ : Big) ∈ B) : n ≤ cap := by
  rcases (show w.ownsRow w0.heap.size T c (.slice ad n cap) n xs from h.own _ he).2 with ⟨e, _⟩ | ⟨g, cap', cur, e, _, _, h5, _⟩
  · have e : Value.slice ad n cap = .slice none 0 0 := e
    simp only [Value.slice.injEq] at e
    omega
  · have e : Value.slice ad n cap = .slice (some ⟨g, 0, none⟩) n cap' := e
    simp only [Value.slice.injEq, true_and] at e
    have h5 : n ≤ cap' := h5
    omega
theorem Fg.sa {w0 w : World} {B : List Big} (h : Fg w0 w B) {T : TypeId} {c n cap : Nat} {ad : Option Addr} {xs : List Value} (he : (⟨T, c, n, .slice ad n cap, xs⟩ : Big) ∈ B) : Sa w ad xs := fun h0 => by
  obtain ⟨g, e, _, h2, h3, _⟩ := h.open he h0
  exact ⟨g, 0, e, h2, fun i hi => by rw [Nat.zero_add]; exact h3 i hi⟩
/-- a store into the first -/
theorem Fg.set {w0 w : World} {B : List Big} {T : TypeId} {c g n cap : Nat} {xs : List Value} (h : Fg w0 w (⟨T, c, n, .slice (some ⟨g, 0, none⟩) n cap, xs⟩ :: B)) (i : Nat) (y : Value) :
    Fg w0 (w.setCell ⟨g, i, none⟩ y) (⟨T, c, n, .slice (some ⟨g, 0, none⟩) n cap, xs.set i y⟩ :: B) := by
  have hO : w.ownsRow w0.heap.size T c (.slice (some ⟨g, 0, none⟩) n cap) n xs := h.own _ List.mem_cons_self
  have hg := (World.ownsRow.lt hO g rfl).1
  have hs := World.ownsRow.stored hO i y
  have hf := List.pairwise_cons.1 h.far
  refine ⟨h.bel.setCell hg y, fun e he => ?_, List.pairwise_cons.2 ⟨fun b hb => hf.1 b hb, hf.2⟩⟩
  rcases List.mem_cons.1 he with rfl | he
  · exact hs.1
  · exact Big.kept (h.own e (List.mem_cons_of_mem _ he)) hs.2 (hf.1 e he).symm (ownsRow_notMap hO)
/-- append of one element to the first -/
theorem wpList_pushG {ops : Array Oper} {rest : List Oper} {o : Oper} {a : Act} {Q : Exit → Act → World → Prop} {w0 w : World} (hgd : o.guard = none) (s x : Operand) (S T : TypeId) (z : Value) (c bytes : Nat)
    (hS : Try.prog.underlying S = some (.slice T)) (hT : (Try.prog.info? T).map (fun i => (i.zero, i.size, i.bytes)) = some (some z, c, bytes)) (hz : z.cells.size = c) (hc : 0 < c) (hby : 0 < bytes)
    (ho : o.op = .call { callee := .builtin .append, args := #[s, x], argTypes := #[S, S] })
    (ad : Option Addr) (n cap : Nat) (xs ys : List Value) (ya : Array Value) (B : List Big) (hs : a.eval s = .slice ad n cap) (hF : Fg w0 w (⟨T, c, n, .slice ad n cap, xs⟩ :: B))
    (N : Nat) (hN : w.heap.size = N) (hx : a.eval x = .slice (some ⟨N, 0, none⟩) 1 1) (hya : ya.toList = ys) (hy : ys.length = c) (h1 : ∀ u ∈ ys, u.oneCell' = true) (hlen : (n + 1) * bytes ≤ 140737488355328)
    (h : ∀ ad' cap' w', Fg w0 w' (⟨T, c, n + 1, .slice ad' (n + 1) cap', xs ++ ys⟩ :: B) → N < w'.heap.size → wpList Try.prog ops Q rest (a.put o.dst (.slice ad' (n + 1) cap')) w') :
    wpList Try.prog ops Q (o :: rest) a (w.alloc (.cells ya T)) := by
  subst hN hya
  obtain ⟨i0, hi, hz0, hz1, hz2⟩ := info_parts hT
  have hb0 := hF.bel.size
  have hO : w.ownsRow w0.heap.size T c (.slice ad n cap) n xs := hF.own _ List.mem_cons_self
  refine wpList_append_own_at _ hgd s x S ho w0.heap.size T i0 z c bytes hS hi hz0 hz1 hz2 hz hc (.slice ad n cap) n xs hs (World.ownsRow.alloc hO _)
    ⟨w.heap.size, 0, none⟩ 1 1 ya.toList hx (by rw [hy, Nat.one_mul]) ?_ h1 ?_ ?_ ?_ ?_
  · intro j u hj
    have := cell_new w ya T j
    rw [Nat.zero_add] at this
    rw [show ((⟨w.heap.size, 0, none⟩ : Addr).add j) = ⟨w.heap.size, j, none⟩ from by unfold Addr.add; split <;> simp_all, this]
    simpa using hj
  · have : n + 1 ≤ (n + 1) * bytes := Nat.le_mul_of_pos_right _ hby
    unfold maxLen; omega
  · exact hlen
  · simp; omega
  · intro v' w' h2 h3 _ hat
    have hsz := h3.size
    have hsz0 : (w.alloc (.cells ya T)).heap.size = w.heap.size + 1 := by simp
    obtain ⟨ad', cap', rfl⟩ : ∃ ad' cap', v' = .slice ad' (n + 1) cap' := by
      rcases h2.2 with ⟨e1, e2⟩ | ⟨g, cap', cur, e1, _⟩
      · omega
      · exact ⟨_, _, e1⟩
    have hf := List.pairwise_cons.1 hF.far
    refine h ad' cap' w' ⟨?_, fun e he => ?_, List.pairwise_cons.2 ⟨fun b hb => ?_, hf.2⟩⟩ (by omega)
    · refine Below.grown (row := (Value.slice ad n cap).ownBlock) (hF.alloc _).bel h3 (by omega) ?_
      intro k hk
      exact (World.ownsRow.lt hO k hk).1
    · rcases List.mem_cons.1 he with rfl | he
      · exact h2
      · exact Big.kept ((hF.alloc _).own e (List.mem_cons_of_mem _ he)) h3 (hf.1 e he).symm (ownsRow_notMap (World.ownsRow.alloc hO _))
    · have hbf := hf.1 b hb
      have hlt := Big.lt (hF.own b (List.mem_cons_of_mem _ hb))
      rcases hat with hat | hat
      · rcases hbf with hbf | hbf
        · exact .inl (show (Value.slice ad' (n + 1) cap').ownBlock = none by rw [hat]; exact hbf)
        · exact .inr (show (Value.slice ad' (n + 1) cap').ownBlock ≠ _ by rw [hat]; exact hbf)
      · refine .inr (show (Value.slice ad' (n + 1) cap').ownBlock ≠ _ from ?_)
        rw [hat]
        intro e
        have := (hlt _ e.symm).2
        omega
end Go.Proofs.Ytjplnkkcmkpkbaa
